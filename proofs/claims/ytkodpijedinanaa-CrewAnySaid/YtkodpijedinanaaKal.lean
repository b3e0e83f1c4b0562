/- Texts that the claim imports, laid together: MwA MgA MgB. No statement of their own. -/
import Derived.Conc.WgGenN3
import Derived.Test.YtkodpijedinanaaKag
import Derived.Test.YtkodpijedinanaaKak
namespace Go.Proofs.Ytkodpijedinanaa.Sim
open Go Go.Conc
set_option linter.unusedVariables false
set_option linter.unusedSimpArgs false

def hd : Code → Code
  | .seq a _ | .block _ a | .loop a | .cond _ a _ => a
  | c => c
def tl : Code → Code
  | .seq _ b | .cond _ _ b => b
  | c => c
def regOps : Code → Array Oper
  | .region _ ops _ => ops
  | _ => #[]
noncomputable def cMany : Code := (Try.f21.body).getD .skip
/-- What a worker finds: its variables' blocks; the lists; the rows that it writes in; its number. -/
structure WEnv where
  bi : Nat
  bl : Nat
  bn : Nat
  bc : Nat
  rl : Nat
  C : Nat
  C2 : Nat
  Wg : Nat
  i : Nat
  n : Nat
  m : Nat
  cap : Nat
  V : Nat → Value
  ls : Nat → List Ent
structure WEOk (E : WEnv) (Sc : Shd) : Prop where
  bi : Sc E.bi
  bl : Sc E.bl
  bn : Sc E.bn
  bc : Sc E.bc
  rl : Sc E.rl
  c1 : Sc.cel E.C E.i
  c2 : Sc.cel E.C2 E.i
  ne : E.C ≠ E.C2
  grp : Sc.grp E.Wg
  neW : E.C ≠ E.Wg ∧ E.C2 ≠ E.Wg
  im : E.i < E.m
  i2 : 2 * E.i < E.n
  n2 : E.n ≤ 200
  m2 : E.m ≤ 200
  may : ∀ j, j < E.n → MayL (E.ls j) ∧ (E.ls j).length ≤ 8
  mrg : 2 * E.i + 1 < E.n → (mergeL (E.ls (2 * E.i)) (E.ls (2 * E.i + 1))).length ≤ 8
structure WSt0 (E : WEnv) (Sc : Shd) (W : World) : Prop where
  ci : W.cell? ⟨E.bi, 0, none⟩ = some (.int .i64 E.i)
  cl : W.cell? ⟨E.bl, 0, none⟩ = some (.slice (some ⟨E.rl, 0, none⟩) E.n E.cap)
  cn : W.cell? ⟨E.bn, 0, none⟩ = some (.slice (some ⟨E.C, 0, none⟩) E.m E.m)
  cc : W.cell? ⟨E.bc, 0, none⟩ = some (.slice (some ⟨E.C2, 0, none⟩) E.m E.m)
  lv : ∀ j, j < E.n → W.cell? ⟨E.rl, j, none⟩ = some (E.V j)
  ent : ∀ j, j < E.n → REnt Sc.rd W (E.V j) (E.ls j)
  pay : ConcN.PayAt E.C E.m W
  pay2 : ∃ cs : Array Value, W.heap[E.C2]? = some (.cells cs 26) ∧ cs.size = E.m
  ok : W.cell? ⟨E.C2, E.i, none⟩ = some (.int .i64 0)
  gl : Try.prog.globals.size ≤ W.heap.size
  wg : GrpAt E.Wg W
theorem WSt0.rely {E : WEnv} {Sc : Shd} (hE : WEOk E Sc) {Own : Blk} {W W1 : World} (h : WSt0 E Sc W) (hr : Rely Own Sc W W1) : WSt0 E Sc W1 where
  ci := hr.cell?' (.inr (.inl hE.bi)) h.ci
  cl := hr.cell?' (.inr (.inl hE.bl)) h.cl
  cn := hr.cell?' (.inr (.inl hE.bn)) h.cn
  cc := hr.cell?' (.inr (.inl hE.bc)) h.cc
  lv := fun j hj => hr.cell?' (.inr (.inl hE.rl)) (h.lv j hj)
  ent := fun j hj => (h.ent j hj).rely hr fun b hb => .inr hb
  pay := by
    obtain ⟨cs, h1, h2⟩ := h.pay
    obtain ⟨c', h3, h4⟩ := hr.shp _ _ _ _ h1
    exact ⟨c', h3, h4.trans h2⟩
  pay2 := by
    obtain ⟨cs, h1, h2⟩ := h.pay2
    obtain ⟨c', h3, h4⟩ := hr.shp _ _ _ _ h1
    exact ⟨c', h3, h4.trans h2⟩
  ok := hr.cell?' (.inr (.inr ⟨hE.c2, rfl⟩)) h.ok
  gl := Nat.le_trans h.gl hr.size
  wg := hr.grp _ hE.grp h.wg
/-- A write of one of the worker's own cells. -/
theorem WSt0.put {E : WEnv} {Sc : Shd} (hE : WEOk E Sc) {W : World} (h : WSt0 E Sc W) {b : Nat} {v : Value} (hb : b = E.C ∨ (b = E.C2 ∧ v = .int .i64 0)) (hn : ∀ c, Sc c → c ≠ b) : WSt0 E Sc (W.setCell ⟨b, E.i, none⟩ v) := by
  have ho : ∀ (a : Addr) (u : Value), Sc a.block → W.cell? a = some u → (W.setCell ⟨b, E.i, none⟩ v).cell? a = some u := fun a u ha hu => by
    rw [World.cell?_setCell_other (w := W) (a := ⟨b, E.i, none⟩) (b := a) (v := v) (fun e => hn _ ha (by rw [← e]))]
    exact hu
  refine ⟨ho _ _ hE.bi h.ci, ho _ _ hE.bl h.cl, ho _ _ hE.bn h.cn, ho _ _ hE.bc h.cc, fun j hj => ho _ _ hE.rl (h.lv j hj), fun j hj => (h.ent j hj).kept fun c o hc hco => ?_, ?_, ?_, ?_, by simp, ?_⟩
  · rw [heap_setCell_other _ _ _ _ (hn c hc)]; exact hco
  · obtain ⟨cs, h1, h2⟩ := h.pay
    obtain ⟨c', h3, h4⟩ := shaped_setCell W ⟨b, E.i, none⟩ v _ _ _ _ h1
    exact ⟨c', h3, h4.trans h2⟩
  · obtain ⟨cs, h1, h2⟩ := h.pay2
    obtain ⟨c', h3, h4⟩ := shaped_setCell W ⟨b, E.i, none⟩ v _ _ _ _ h1
    exact ⟨c', h3, h4.trans h2⟩
  · rcases hb with rfl | ⟨rfl, rfl⟩
    · rw [World.cell?_setCell_other (w := W) (a := ⟨E.C, E.i, none⟩) (b := ⟨E.C2, E.i, none⟩) (v := v) (fun e => hE.ne (congrArg Addr.block e))]
      exact h.ok
    · exact World.cell?_setCell_same (w := W) (a := ⟨E.C2, E.i, none⟩) (v := .int .i64 0) h.ok
  · obtain ⟨p, q, hw⟩ := h.wg
    refine ⟨p, q, ?_⟩
    show (W.setCell _ _).heap[E.Wg]? = _
    rw [heap_setCell_other _ _ _ _ (by rcases hb with rfl | ⟨rfl, _⟩; exact hE.neW.1.symm; exact hE.neW.2.symm)]
    exact hw
/-- The worker's frame. -/
structure WB (E : WEnv) (Sc : Shd) (D0 : List Deferred) (A : Act) (W : World) : Prop where
  st : WSt0 E Sc W
  sz : A.tmps.size = 40
  df : A.defers = D0
  t1 : Sl A 1 (.pointer (some ⟨E.bi, 0, none⟩))
  t2 : Sl A 2 (.pointer (some ⟨E.bl, 0, none⟩))
  t3 : Sl A 3 (.pointer (some ⟨E.bn, 0, none⟩))
  t4 : Sl A 4 (.pointer (some ⟨E.bc, 0, none⟩))
theorem WB.put {E : WEnv} {Sc : Shd} {D0 : List Deferred} {A : Act} {W : World} (h : WB E Sc D0 A W) {s : Nat} (hs : 5 ≤ s) (v : Value) : WB E Sc D0 (A.put (some s) v) W :=
  ⟨h.st, by rw [put_size]; exact h.sz, by rw [put_defers]; exact h.df, h.t1.ne (by omega), h.t2.ne (by omega), h.t3.ne (by omega), h.t4.ne (by omega)⟩
theorem WB.putN {E : WEnv} {Sc : Shd} {D0 : List Deferred} {A : Act} {W : World} (h : WB E Sc D0 A W) (v : Value) : WB E Sc D0 (A.put none v) W := h
theorem WB.rely {E : WEnv} {Sc : Shd} (hE : WEOk E Sc) {D0 : List Deferred} {A : Act} {Own : Blk} {W W1 : World} (h : WB E Sc D0 A W) (hr : Rely Own Sc W W1) : WB E Sc D0 A W1 := { h with st := h.st.rely hE hr }
theorem getD_none {L : Array Bool} {i : Nat} (h : L.getD i true = false) : L.getD i false = false := by
  rw [Array.getD_eq_getD_getElem?] at h ⊢
  cases hi : L[i]? with
  | none => rfl
  | some b => rw [hi] at h; exact h
theorem pay_lt {C n : Nat} {W : World} (h : ConcN.PayAt C n W) : C < W.heap.size := by
  obtain ⟨cs, h1, _⟩ := h
  exact (Array.getElem?_eq_some_iff.1 h1).1
theorem pay_lt2 {C n : Nat} {e : TypeId} {W : World} (h : ∃ cs : Array Value, W.heap[C]? = some (.cells cs e) ∧ cs.size = n) : C < W.heap.size := by
  obtain ⟨cs, h1, _⟩ := h
  exact (Array.getElem?_eq_some_iff.1 h1).1
theorem thaw_of {W : World} {b i : Nat} {cs : Array Value} {e : TypeId} (h : W.heap[b]? = some (.cells cs e)) : W.frozen? ⟨b, i, none⟩ = false := by simp [World.frozen?, h]
theorem rowcell {W : World} {b i : Nat} {cs : Array Value} {e : TypeId} (h : W.heap[b]? = some (.cells cs e)) (hi : i < cs.size) : ∃ u, W.cell? ⟨b, i, none⟩ = some u := ⟨cs[i], by simp [World.cell?, h, hi]⟩
noncomputable def ops3 : Array Oper := regOps (tl (tl cMany))
def slot3 (j : Nat) : Nat := [20, 21, 22, 23, 24, 25, 26, 27, 28, 29, 30, 31, 32, 33, 34, 35, 19, 36, 37, 38, 0, 39, 0].getD j 0
def val3 (E : WEnv) (V : Value) : Nat → Value
  | 0 => (.slice (some ⟨E.C, 0, none⟩) E.m E.m)
  | 1 => (.int .i64 E.i)
  | 2 => (.slice (some ⟨E.C2, 0, none⟩) E.m E.m)
  | 3 => (.int .i64 E.i)
  | 4 => (.slice (some ⟨E.rl, 0, none⟩) E.n E.cap)
  | 5 => (.int .i64 E.i)
  | 6 => (.int .i64 ((2 * E.i : Nat) : Int))
  | 7 => (.pointer (some ⟨E.rl, 2 * E.i, none⟩))
  | 8 => (E.V (2 * E.i))
  | 9 => (.slice (some ⟨E.rl, 0, none⟩) E.n E.cap)
  | 10 => (.int .i64 E.i)
  | 11 => (.int .i64 ((2 * E.i : Nat) : Int))
  | 12 => (.int .i64 ((2 * E.i + 1 : Nat) : Int))
  | 13 => (.pointer (some ⟨E.rl, 2 * E.i + 1, none⟩))
  | 14 => (E.V (2 * E.i + 1))
  | 15 => (.tuple #[V, .int .i64 0])
  | 16 => (.tuple #[V, .int .i64 0])
  | 17 => V
  | 18 => (.int .i64 0)
  | 19 => (.pointer (some ⟨E.C, E.i, none⟩))
  | 21 => (.pointer (some ⟨E.C2, E.i, none⟩))
  | _ => undef
structure R3 (E : WEnv) (Sc : Shd) (D0 : List Deferred) (L : Array Bool) (V : Value) (O : Blk) (A : Act) (W : World) : Prop where
  wb : WB E Sc D0 A W
  lsz : L.size = 23
  oc : ∀ c, O c → c ≠ E.C ∧ c ≠ E.C2
  sl : ∀ j, j < 23 → j ≠ 20 → j ≠ 22 → L.getD j false = true → Sl A (slot3 j) (val3 E V j)
  dep16 : L.getD 16 false = true → L.getD 15 false = true
  dep17 : L.getD 17 false = true → L.getD 16 false = true
  dep18 : L.getD 18 false = true → L.getD 16 false = true
  dep20 : L.getD 20 false = true → L.getD 17 false = true
  mrg : L.getD 15 false = true → REnt (fun b => O b ∨ Sc b) W V (mergeL (E.ls (2 * E.i)) (E.ls (2 * E.i + 1)))
  done : L.getD 20 false = true → W.cell? ⟨E.C, E.i, none⟩ = some V
theorem slot3_inj : ∀ i, i < 23 → ∀ j, j < 23 → i ≠ 20 → i ≠ 22 → j ≠ 20 → j ≠ 22 → slot3 i = slot3 j → i = j := by
  intro i hi j hj
  have D : ((List.range 23).all fun i => (List.range 23).all fun j => (i == 20 || j == 20 || i == 22 || j == 22 || slot3 i != slot3 j || i == j)) = true := by decide
  have h := List.all_eq_true.1 (List.all_eq_true.1 D i (List.mem_range.2 hi)) j (List.mem_range.2 hj)
  simp only [Bool.or_eq_true, beq_iff_eq, bne_iff_ne, ne_eq] at h
  intros
  simp_all
theorem slot3_lt : ∀ j, j < 23 → j ≠ 20 → j ≠ 22 → 5 ≤ slot3 j ∧ slot3 j < 40 := by decide
section
variable {E : WEnv} {Sc : Shd} {D0 : List Deferred} {L : Array Bool} {V : Value} {O : Blk} {A : Act} {W : World}
theorem R3.rely (hE : WEOk E Sc) (h : R3 E Sc D0 L V O A W) {W1 : World} (hr : Rely O Sc W W1) : R3 E Sc D0 L V O A W1 :=
  { h with wb := h.wb.rely hE hr, mrg := fun hl => (h.mrg hl).rely hr fun b hb => hb, done := fun hl => hr.cell?' (.inr (.inr ⟨hE.c1, rfl⟩)) (h.done hl) }
theorem R3.put (h : R3 E Sc D0 L V O A W) {j : Nat} (hj : j < 23) (hn20 : j ≠ 20) (hn22 : j ≠ 22) (hc : j ≠ 15) (hd : (j = 16 → L.getD 15 false = true) ∧ (j = 17 → L.getD 16 false = true) ∧ (j = 18 → L.getD 16 false = true)) : R3 E Sc D0 (L.setIfInBounds j true) V O (A.put (some (slot3 j)) (val3 E V j)) W := by
  have hlt : j < L.size := by rw [h.lsz]; exact hj
  obtain ⟨hs1, hs2⟩ := slot3_lt j hj hn20 hn22
  refine { h with wb := h.wb.put hs1 _, lsz := by simp [h.lsz], sl := fun i hi hi20 hi22 hl => ?_, dep16 := fun hl => ?_, dep17 := fun hl => ?_, dep18 := fun hl => ?_, dep20 := fun hl => ?_, mrg := fun hl => h.mrg ?_, done := fun hl => h.done ?_ }
  · rcases (getD_set hlt).1 hl with rfl | hl
    · exact Sl.same (by rw [h.wb.sz]; exact hs2)
    · by_cases e : i = j
      · subst e; exact Sl.same (by rw [h.wb.sz]; exact hs2)
      · exact (h.sl i hi hi20 hi22 hl).ne fun e' => e (slot3_inj i hi j hj hi20 hi22 hn20 hn22 e')
  · rcases (getD_set hlt).1 hl with e | hl
    · exact (getD_set hlt).2 (.inr (hd.1 e.symm))
    · exact (getD_set hlt).2 (.inr (h.dep16 hl))
  · rcases (getD_set hlt).1 hl with e | hl
    · exact (getD_set hlt).2 (.inr (hd.2.1 e.symm))
    · exact (getD_set hlt).2 (.inr (h.dep17 hl))
  · rcases (getD_set hlt).1 hl with e | hl
    · exact (getD_set hlt).2 (.inr (hd.2.2 e.symm))
    · exact (getD_set hlt).2 (.inr (h.dep18 hl))
  · rcases (getD_set hlt).1 hl with e | hl
    · exact absurd e.symm hn20
    · exact (getD_set hlt).2 (.inr (h.dep20 hl))
  · rcases (getD_set hlt).1 hl with e | hl
    · exact absurd e.symm hc
    · exact hl
  · rcases (getD_set hlt).1 hl with e | hl
    · exact absurd e.symm hn20
    · exact hl
end
section
variable {E : WEnv} {Sc : Shd} {D0 : List Deferred} {Ju : Blk → Goroutine → World → Prop} {RB : List Frame} {B : Frame} {k : List Item}
theorem R3.val (hE : WEOk E Sc) (hJ : Jud Try.prog false Sc Ju) (hB : B.kind ≠ .early) {L : Array Bool} {j : Nat} {l : List Nat} {o : Oper} (ho : ops3[j]? = some o) (hg : o.guard = none) (hdst : o.dst = some (slot3 j)) (hj : j < 23) (hn20 : j ≠ 20) (hn22 : j ≠ 22)
    (hc : j ≠ 15) (hd : (j = 16 → L.getD 15 false = true) ∧ (j = 17 → L.getD 16 false = true) ∧ (j = 18 → L.getD 16 false = true)) {es : Array Event} (hev : ∀ e ∈ es, ∀ O, EvIn O Sc e)
    (hrun : ∀ V O A W, R3 E Sc D0 L V O A W → (execOp A.eval o).run Try.prog W = .ok (.value (val3 E V j)) W ∧ (execOp A.eval o).events Try.prog W #[] = es)
    (next : ∀ O A W, (∃ V, R3 E Sc D0 (L.setIfInBounds j true) V O A W) → Ju O (G (B.at A (.inRegion ops3 l :: k)) RB) W) : ∀ O A W, (∃ V, R3 E Sc D0 L V O A W) → Ju O (G (B.at A (.inRegion ops3 (j :: l) :: k)) RB) W := fun O A W ⟨V, h⟩ => by
  refine rt_val (Own := O) (Z := fun W => R3 E Sc D0 L V O A W) hJ (fun W W1 hr z => z.rely hE hr) hB ho hg (v := val3 E V j) (hrun := fun W z => hrun V O A W z) (fun e he => hev e he O) (fun W z => next _ _ _ ⟨V, ?_⟩) W h
  rw [hdst]
  exact z.put hj hn20 hn22 hc hd
set_option maxRecDepth 100000 in
set_option maxHeartbeats 4000000 in
theorem R3.step (hE : WEOk E Sc) (hJ : Jud Try.prog false Sc Ju) (hB : B.kind ≠ .early) (hsep : ∀ c, Sc c → c ≠ E.C ∧ c ≠ E.C2) (L : Array Bool) (i : Nat) (l : List Nat) (hi : i < ops3.size) (hnl : L.getD i true = false) (hdeps : ∀ d ∈ depsOf ops3 i, L.getD d false = true) (hodd : 2 * E.i + 1 < E.n)
    (next : ∀ O A W, (∃ V, R3 E Sc D0 (L.setIfInBounds i true) V O A W) → Ju O (G (B.at A (.inRegion ops3 l :: k)) RB) W) : ∀ O A W, (∃ V, R3 E Sc D0 L V O A W) → Ju O (G (B.at A (.inRegion ops3 (i :: l) :: k)) RB) W := by
  have hsize : ops3.size = 23 := by kernel_rfl
  rw [hsize] at hi
  have hi2 := hE.i2
  have hn2 := hE.n2
  have him := hE.im
  have hm2 := hE.m2
  rcases (show i = 0 ∨ i = 1 ∨ i = 2 ∨ i = 3 ∨ i = 4 ∨ i = 5 ∨ i = 6 ∨ i = 7 ∨ i = 8 ∨ i = 9 ∨ i = 10 ∨ i = 11 ∨ i = 12 ∨ i = 13 ∨ i = 14 ∨ i = 15 ∨ i = 16 ∨ i = 17 ∨ i = 18 ∨ i = 19 ∨ i = 20 ∨ i = 21 ∨ i = 22 from by omega) with rfl | rfl | rfl | rfl | rfl | rfl | rfl | rfl | rfl | rfl | rfl | rfl | rfl | rfl | rfl | rfl | rfl | rfl | rfl | rfl | rfl | rfl | rfl
  · obtain ⟨o, ho, hop, hg, hdst⟩ : ∃ o, ops3[0]? = some o ∧ o.op = .load 34 (.tmp 3) ∧ o.guard = none ∧ o.dst = some 20 := ⟨(ops3[0]?).getD default, by kernel_rfl, by kernel_rfl, by kernel_rfl, by kernel_rfl⟩
    have hD : depsOf ops3 0 = [] := by kernel_rfl
    rw [hD] at hdeps
    exact R3.val hE hJ hB ho hg hdst (by decide) (by decide) (by decide) (by decide) ⟨fun e => absurd e (by decide), fun e => absurd e (by decide), fun e => absurd e (by decide)⟩ (es := #[⟨.cell ⟨E.bn, 0, none⟩, false, false⟩]) (fun e he O => by simp at he; subst he; exact .cell _ _ (.inr (.inl ⟨hE.bn, rfl⟩))) (fun V O A W h => loadLL hop h.wb.t3.eval h.wb.st.cn) next
  · obtain ⟨o, ho, hop, hg, hdst⟩ : ∃ o, ops3[1]? = some o ∧ o.op = .load 3 (.tmp 1) ∧ o.guard = none ∧ o.dst = some 21 := ⟨(ops3[1]?).getD default, by kernel_rfl, by kernel_rfl, by kernel_rfl, by kernel_rfl⟩
    have hD : depsOf ops3 1 = [] := by kernel_rfl
    rw [hD] at hdeps
    exact R3.val hE hJ hB ho hg hdst (by decide) (by decide) (by decide) (by decide) ⟨fun e => absurd e (by decide), fun e => absurd e (by decide), fun e => absurd e (by decide)⟩ (es := #[⟨.cell ⟨E.bi, 0, none⟩, false, false⟩]) (fun e he O => by simp at he; subst he; exact .cell _ _ (.inr (.inl ⟨hE.bi, rfl⟩))) (fun V O A W h => load3 hop h.wb.t1.eval h.wb.st.ci) next
  · obtain ⟨o, ho, hop, hg, hdst⟩ : ∃ o, ops3[2]? = some o ∧ o.op = .load 50 (.tmp 4) ∧ o.guard = none ∧ o.dst = some 22 := ⟨(ops3[2]?).getD default, by kernel_rfl, by kernel_rfl, by kernel_rfl, by kernel_rfl⟩
    have hD : depsOf ops3 2 = [] := by kernel_rfl
    rw [hD] at hdeps
    exact R3.val hE hJ hB ho hg hdst (by decide) (by decide) (by decide) (by decide) ⟨fun e => absurd e (by decide), fun e => absurd e (by decide), fun e => absurd e (by decide)⟩ (es := #[⟨.cell ⟨E.bc, 0, none⟩, false, false⟩]) (fun e he O => by simp at he; subst he; exact .cell _ _ (.inr (.inl ⟨hE.bc, rfl⟩))) (fun V O A W h => loadEs hop h.wb.t4.eval h.wb.st.cc) next
  · obtain ⟨o, ho, hop, hg, hdst⟩ : ∃ o, ops3[3]? = some o ∧ o.op = .load 3 (.tmp 1) ∧ o.guard = none ∧ o.dst = some 23 := ⟨(ops3[3]?).getD default, by kernel_rfl, by kernel_rfl, by kernel_rfl, by kernel_rfl⟩
    have hD : depsOf ops3 3 = [] := by kernel_rfl
    rw [hD] at hdeps
    exact R3.val hE hJ hB ho hg hdst (by decide) (by decide) (by decide) (by decide) ⟨fun e => absurd e (by decide), fun e => absurd e (by decide), fun e => absurd e (by decide)⟩ (es := #[⟨.cell ⟨E.bi, 0, none⟩, false, false⟩]) (fun e he O => by simp at he; subst he; exact .cell _ _ (.inr (.inl ⟨hE.bi, rfl⟩))) (fun V O A W h => load3 hop h.wb.t1.eval h.wb.st.ci) next
  · obtain ⟨o, ho, hop, hg, hdst⟩ : ∃ o, ops3[4]? = some o ∧ o.op = .load 34 (.tmp 2) ∧ o.guard = none ∧ o.dst = some 24 := ⟨(ops3[4]?).getD default, by kernel_rfl, by kernel_rfl, by kernel_rfl, by kernel_rfl⟩
    have hD : depsOf ops3 4 = [] := by kernel_rfl
    rw [hD] at hdeps
    exact R3.val hE hJ hB ho hg hdst (by decide) (by decide) (by decide) (by decide) ⟨fun e => absurd e (by decide), fun e => absurd e (by decide), fun e => absurd e (by decide)⟩ (es := #[⟨.cell ⟨E.bl, 0, none⟩, false, false⟩]) (fun e he O => by simp at he; subst he; exact .cell _ _ (.inr (.inl ⟨hE.bl, rfl⟩))) (fun V O A W h => loadLL hop h.wb.t2.eval h.wb.st.cl) next
  · obtain ⟨o, ho, hop, hg, hdst⟩ : ∃ o, ops3[5]? = some o ∧ o.op = .load 3 (.tmp 1) ∧ o.guard = none ∧ o.dst = some 25 := ⟨(ops3[5]?).getD default, by kernel_rfl, by kernel_rfl, by kernel_rfl, by kernel_rfl⟩
    have hD : depsOf ops3 5 = [] := by kernel_rfl
    rw [hD] at hdeps
    exact R3.val hE hJ hB ho hg hdst (by decide) (by decide) (by decide) (by decide) ⟨fun e => absurd e (by decide), fun e => absurd e (by decide), fun e => absurd e (by decide)⟩ (es := #[⟨.cell ⟨E.bi, 0, none⟩, false, false⟩]) (fun e he O => by simp at he; subst he; exact .cell _ _ (.inr (.inl ⟨hE.bi, rfl⟩))) (fun V O A W h => load3 hop h.wb.t1.eval h.wb.st.ci) next
  · obtain ⟨o, ho, hop, hg, hdst⟩ : ∃ o, ops3[6]? = some o ∧ o.op = .binOp .mul 3 (.const (.int .i64 2)) (.tmp 25) 3 ∧ o.guard = none ∧ o.dst = some 26 := ⟨(ops3[6]?).getD default, by kernel_rfl, by kernel_rfl, by kernel_rfl, by kernel_rfl⟩
    have hD : depsOf ops3 6 = [5] := by kernel_rfl
    rw [hD] at hdeps
    exact R3.val hE hJ hB ho hg hdst (by decide) (by decide) (by decide) (by decide) ⟨fun e => absurd e (by decide), fun e => absurd e (by decide), fun e => absurd e (by decide)⟩ (es := #[]) (fun e he => by simp at he) (fun V O A W h => (by have q := mulI (w := W) hop rfl (h.sl 5 (by omega) (by decide) (by decide) (hdeps 5 (by simp))).eval (by omega); exact q)) next
  · obtain ⟨o, ho, hop, hg, hdst⟩ : ∃ o, ops3[7]? = some o ∧ o.op = .indexAddr 34 (.tmp 24) (.tmp 26) ∧ o.guard = none ∧ o.dst = some 27 := ⟨(ops3[7]?).getD default, by kernel_rfl, by kernel_rfl, by kernel_rfl, by kernel_rfl⟩
    have hD : depsOf ops3 7 = [4, 6] := by kernel_rfl
    rw [hD] at hdeps
    exact R3.val hE hJ hB ho hg hdst (by decide) (by decide) (by decide) (by decide) ⟨fun e => absurd e (by decide), fun e => absurd e (by decide), fun e => absurd e (by decide)⟩ (es := #[]) (fun e he => by simp at he) (fun V O A W h => ixLL hop (h.sl 4 (by omega) (by decide) (by decide) (hdeps 4 (by simp))).eval (h.sl 6 (by omega) (by decide) (by decide) (hdeps 6 (by simp))).eval hi2 (by omega)) next
  · obtain ⟨o, ho, hop, hg, hdst⟩ : ∃ o, ops3[8]? = some o ∧ o.op = .load 35 (.tmp 27) ∧ o.guard = none ∧ o.dst = some 28 := ⟨(ops3[8]?).getD default, by kernel_rfl, by kernel_rfl, by kernel_rfl, by kernel_rfl⟩
    have hD : depsOf ops3 8 = [7] := by kernel_rfl
    rw [hD] at hdeps
    exact R3.val hE hJ hB ho hg hdst (by decide) (by decide) (by decide) (by decide) ⟨fun e => absurd e (by decide), fun e => absurd e (by decide), fun e => absurd e (by decide)⟩ (es := #[⟨.cell ⟨E.rl, 2 * E.i, none⟩, false, false⟩]) (fun e he O => by simp at he; subst he; exact .cell _ _ (.inr (.inl ⟨hE.rl, rfl⟩))) (fun V O A W h => loadL hop (h.sl 7 (by omega) (by decide) (by decide) (hdeps 7 (by simp))).eval (h.wb.st.lv _ hi2)) next
  · obtain ⟨o, ho, hop, hg, hdst⟩ : ∃ o, ops3[9]? = some o ∧ o.op = .load 34 (.tmp 2) ∧ o.guard = none ∧ o.dst = some 29 := ⟨(ops3[9]?).getD default, by kernel_rfl, by kernel_rfl, by kernel_rfl, by kernel_rfl⟩
    have hD : depsOf ops3 9 = [] := by kernel_rfl
    rw [hD] at hdeps
    exact R3.val hE hJ hB ho hg hdst (by decide) (by decide) (by decide) (by decide) ⟨fun e => absurd e (by decide), fun e => absurd e (by decide), fun e => absurd e (by decide)⟩ (es := #[⟨.cell ⟨E.bl, 0, none⟩, false, false⟩]) (fun e he O => by simp at he; subst he; exact .cell _ _ (.inr (.inl ⟨hE.bl, rfl⟩))) (fun V O A W h => loadLL hop h.wb.t2.eval h.wb.st.cl) next
  · obtain ⟨o, ho, hop, hg, hdst⟩ : ∃ o, ops3[10]? = some o ∧ o.op = .load 3 (.tmp 1) ∧ o.guard = none ∧ o.dst = some 30 := ⟨(ops3[10]?).getD default, by kernel_rfl, by kernel_rfl, by kernel_rfl, by kernel_rfl⟩
    have hD : depsOf ops3 10 = [] := by kernel_rfl
    rw [hD] at hdeps
    exact R3.val hE hJ hB ho hg hdst (by decide) (by decide) (by decide) (by decide) ⟨fun e => absurd e (by decide), fun e => absurd e (by decide), fun e => absurd e (by decide)⟩ (es := #[⟨.cell ⟨E.bi, 0, none⟩, false, false⟩]) (fun e he O => by simp at he; subst he; exact .cell _ _ (.inr (.inl ⟨hE.bi, rfl⟩))) (fun V O A W h => load3 hop h.wb.t1.eval h.wb.st.ci) next
  · obtain ⟨o, ho, hop, hg, hdst⟩ : ∃ o, ops3[11]? = some o ∧ o.op = .binOp .mul 3 (.const (.int .i64 2)) (.tmp 30) 3 ∧ o.guard = none ∧ o.dst = some 31 := ⟨(ops3[11]?).getD default, by kernel_rfl, by kernel_rfl, by kernel_rfl, by kernel_rfl⟩
    have hD : depsOf ops3 11 = [10] := by kernel_rfl
    rw [hD] at hdeps
    exact R3.val hE hJ hB ho hg hdst (by decide) (by decide) (by decide) (by decide) ⟨fun e => absurd e (by decide), fun e => absurd e (by decide), fun e => absurd e (by decide)⟩ (es := #[]) (fun e he => by simp at he) (fun V O A W h => (by have q := mulI (w := W) hop rfl (h.sl 10 (by omega) (by decide) (by decide) (hdeps 10 (by simp))).eval (by omega); exact q)) next
  · obtain ⟨o, ho, hop, hg, hdst⟩ : ∃ o, ops3[12]? = some o ∧ o.op = .binOp .add 3 (.tmp 31) (.const (.int .i64 1)) 3 ∧ o.guard = none ∧ o.dst = some 32 := ⟨(ops3[12]?).getD default, by kernel_rfl, by kernel_rfl, by kernel_rfl, by kernel_rfl⟩
    have hD : depsOf ops3 12 = [11] := by kernel_rfl
    rw [hD] at hdeps
    exact R3.val hE hJ hB ho hg hdst (by decide) (by decide) (by decide) (by decide) ⟨fun e => absurd e (by decide), fun e => absurd e (by decide), fun e => absurd e (by decide)⟩ (es := #[]) (fun e he => by simp at he) (fun V O A W h => (by have q := addI (w := W) hop (h.sl 11 (by omega) (by decide) (by decide) (hdeps 11 (by simp))).eval rfl (by omega); exact q)) next
  · obtain ⟨o, ho, hop, hg, hdst⟩ : ∃ o, ops3[13]? = some o ∧ o.op = .indexAddr 34 (.tmp 29) (.tmp 32) ∧ o.guard = none ∧ o.dst = some 33 := ⟨(ops3[13]?).getD default, by kernel_rfl, by kernel_rfl, by kernel_rfl, by kernel_rfl⟩
    have hD : depsOf ops3 13 = [9, 12] := by kernel_rfl
    rw [hD] at hdeps
    exact R3.val hE hJ hB ho hg hdst (by decide) (by decide) (by decide) (by decide) ⟨fun e => absurd e (by decide), fun e => absurd e (by decide), fun e => absurd e (by decide)⟩ (es := #[]) (fun e he => by simp at he) (fun V O A W h => ixLL hop (h.sl 9 (by omega) (by decide) (by decide) (hdeps 9 (by simp))).eval (h.sl 12 (by omega) (by decide) (by decide) (hdeps 12 (by simp))).eval hodd (by omega)) next
  · obtain ⟨o, ho, hop, hg, hdst⟩ : ∃ o, ops3[14]? = some o ∧ o.op = .load 35 (.tmp 33) ∧ o.guard = none ∧ o.dst = some 34 := ⟨(ops3[14]?).getD default, by kernel_rfl, by kernel_rfl, by kernel_rfl, by kernel_rfl⟩
    have hD : depsOf ops3 14 = [13] := by kernel_rfl
    rw [hD] at hdeps
    exact R3.val hE hJ hB ho hg hdst (by decide) (by decide) (by decide) (by decide) ⟨fun e => absurd e (by decide), fun e => absurd e (by decide), fun e => absurd e (by decide)⟩ (es := #[⟨.cell ⟨E.rl, 2 * E.i + 1, none⟩, false, false⟩]) (fun e he O => by simp at he; subst he; exact .cell _ _ (.inr (.inl ⟨hE.rl, rfl⟩))) (fun V O A W h => loadL hop (h.sl 13 (by omega) (by decide) (by decide) (hdeps 13 (by simp))).eval (h.wb.st.lv _ hodd)) next
  · obtain ⟨o, ho, hop, hg, hdst⟩ : ∃ o, ops3[15]? = some o ∧ o.op = .call { callee := .value (.func 15), args := #[.tmp 28, .tmp 34], argTypes := #[35, 35] } ∧ o.guard = none ∧ o.dst = some 35 := ⟨(ops3[15]?).getD default, by kernel_rfl, by kernel_rfl, by kernel_rfl, by kernel_rfl⟩
    have hD : depsOf ops3 15 = [8, 14] := by kernel_rfl
    rw [hD] at hdeps
    intro O A W ⟨V, h⟩
    refine rt_merge (Own := O) (Z := fun W => R3 E Sc D0 L V O A W ∧ 2 * E.i + 1 < E.n) hJ (fun W W1 hr z => ⟨z.1.rely hE hr, z.2⟩) hB ho hg hop (h.sl 8 (by omega) (by decide) (by decide) (hdeps 8 (by simp))).eval (h.sl 14 (by omega) (by decide) (by decide) (hdeps 14 (by simp))).eval (a := E.ls (2 * E.i)) (b := E.ls (2 * E.i + 1)) (fun W z => (z.1.wb.st.ent _ hi2).mono fun b hb => .inr hb) (fun W z => (z.1.wb.st.ent _ z.2).mono fun b hb => .inr hb)
      (hE.may _ hi2).1 (hE.may _ hodd).1 (hE.may _ hi2).2 (hE.may _ hodd).2 (hE.mrg hodd) (fun W z => z.1.wb.st.gl) (fun O' V' hO hO2 W' ⟨⟨z, _⟩, hm⟩ => next _ _ _ ⟨V', ?_⟩) W ⟨h, hodd⟩
    rw [hdst]
    have hlt : 15 < L.size := by rw [z.lsz]; omega
    have hno : ∀ q, q ≠ 15 → (L.setIfInBounds 15 true).getD q false = true → L.getD q false = true := fun q hq hl => ((getD_set hlt).1 hl).resolve_left hq
    have h15 : L.getD 15 false = true → False := fun h => by rw [getD_none hnl] at h; cases h
    refine ⟨z.wb.put (by omega) _, by simp [z.lsz], fun c hc => (hO2 c hc).elim (z.oc c) fun ⟨W2, ⟨z2, _⟩, hle⟩ => ⟨fun e => absurd (pay_lt z2.wb.st.pay) (by omega), fun e => absurd (pay_lt2 z2.wb.st.pay2) (by omega)⟩, fun q hq hq1 hq2 hl => ?_, fun hl => (getD_set hlt).2 (.inl rfl), fun hl => absurd (z.dep16 (z.dep17 (hno _ (by decide) hl))) h15, fun hl => absurd (z.dep16 (z.dep18 (hno _ (by decide) hl))) h15, fun hl => absurd (z.dep16 (z.dep17 (z.dep20 (hno _ (by decide) hl)))) h15, fun _ => hm, fun hl => absurd (z.dep16 (z.dep17 (z.dep20 (hno _ (by decide) hl)))) h15⟩
    rcases (getD_set hlt).1 hl with rfl | hl
    · exact Sl.same (by rw [z.wb.sz]; decide)
    · by_cases e15 : q = 15
      · exact absurd (e15 ▸ hl) h15
      · have hs := z.sl q hq hq1 hq2 hl
        have hv : val3 E V' q = val3 E V q ∨ q = 16 ∨ q = 17 := by
          rcases (show q = 0 ∨ q = 1 ∨ q = 2 ∨ q = 3 ∨ q = 4 ∨ q = 5 ∨ q = 6 ∨ q = 7 ∨ q = 8 ∨ q = 9 ∨ q = 10 ∨ q = 11 ∨ q = 12 ∨ q = 13 ∨ q = 14 ∨ q = 15 ∨ q = 16 ∨ q = 17 ∨ q = 18 ∨ q = 19 ∨ q = 20 ∨ q = 21 ∨ q = 22 from by omega) with rfl | rfl | rfl | rfl | rfl | rfl | rfl | rfl | rfl | rfl | rfl | rfl | rfl | rfl | rfl | rfl | rfl | rfl | rfl | rfl | rfl | rfl | rfl <;> first | exact .inl rfl | exact .inr (.inl rfl) | exact .inr (.inr rfl) | exact absurd rfl e15
        rcases hv with hv | rfl | rfl
        · rw [hv]
          exact hs.ne fun e => e15 (slot3_inj q hq 15 (by omega) hq1 hq2 (by decide) (by decide) e)
        · exact absurd (z.dep16 hl) h15
        · exact absurd (z.dep16 (z.dep17 hl)) h15
  · obtain ⟨o, ho, hop, hg, hdst⟩ : ∃ o, ops3[16]? = some o ∧ o.op = .move (.tmp 35) ∧ o.guard = none ∧ o.dst = some 19 := ⟨(ops3[16]?).getD default, by kernel_rfl, by kernel_rfl, by kernel_rfl, by kernel_rfl⟩
    have hD : depsOf ops3 16 = [15] := by kernel_rfl
    rw [hD] at hdeps
    exact R3.val hE hJ hB ho hg hdst (by decide) (by decide) (by decide) (by decide) ⟨fun e => hdeps 15 (by simp), fun e => absurd e (by decide), fun e => absurd e (by decide)⟩ (es := #[]) (fun e he => by simp at he) (fun V O A W h => move1 hop (h.sl 15 (by omega) (by decide) (by decide) (hdeps 15 (by simp))).eval) next
  · obtain ⟨o, ho, hop, hg, hdst⟩ : ∃ o, ops3[17]? = some o ∧ o.op = .extract (.tmp 19) 0 ∧ o.guard = none ∧ o.dst = some 36 := ⟨(ops3[17]?).getD default, by kernel_rfl, by kernel_rfl, by kernel_rfl, by kernel_rfl⟩
    have hD : depsOf ops3 17 = [16] := by kernel_rfl
    rw [hD] at hdeps
    exact R3.val hE hJ hB ho hg hdst (by decide) (by decide) (by decide) (by decide) ⟨fun e => absurd e (by decide), fun e => hdeps 16 (by simp), fun e => absurd e (by decide)⟩ (es := #[]) (fun e he => by simp at he) (fun V O A W h => ext1 hop (h.sl 16 (by omega) (by decide) (by decide) (hdeps 16 (by simp))).eval rfl) next
  · obtain ⟨o, ho, hop, hg, hdst⟩ : ∃ o, ops3[18]? = some o ∧ o.op = .extract (.tmp 19) 1 ∧ o.guard = none ∧ o.dst = some 37 := ⟨(ops3[18]?).getD default, by kernel_rfl, by kernel_rfl, by kernel_rfl, by kernel_rfl⟩
    have hD : depsOf ops3 18 = [16] := by kernel_rfl
    rw [hD] at hdeps
    exact R3.val hE hJ hB ho hg hdst (by decide) (by decide) (by decide) (by decide) ⟨fun e => absurd e (by decide), fun e => absurd e (by decide), fun e => hdeps 16 (by simp)⟩ (es := #[]) (fun e he => by simp at he) (fun V O A W h => ext1 hop (h.sl 16 (by omega) (by decide) (by decide) (hdeps 16 (by simp))).eval rfl) next
  · obtain ⟨o, ho, hop, hg, hdst⟩ : ∃ o, ops3[19]? = some o ∧ o.op = .indexAddr 34 (.tmp 20) (.tmp 21) ∧ o.guard = none ∧ o.dst = some 38 := ⟨(ops3[19]?).getD default, by kernel_rfl, by kernel_rfl, by kernel_rfl, by kernel_rfl⟩
    have hD : depsOf ops3 19 = [0, 1, 0, 1, 2, 3, 4, 5, 6, 7, 8, 9, 10, 11, 12, 13, 14, 15, 16, 17] := by kernel_rfl
    rw [hD] at hdeps
    exact R3.val hE hJ hB ho hg hdst (by decide) (by decide) (by decide) (by decide) ⟨fun e => absurd e (by decide), fun e => absurd e (by decide), fun e => absurd e (by decide)⟩ (es := #[]) (fun e he => by simp at he) (fun V O A W h => ixLL hop (h.sl 0 (by omega) (by decide) (by decide) (hdeps 0 (by simp))).eval (h.sl 1 (by omega) (by decide) (by decide) (hdeps 1 (by simp))).eval him (by omega)) next
  · obtain ⟨o, ho, hop, hg, hdst⟩ : ∃ o, ops3[20]? = some o ∧ o.op = .store 35 (.tmp 38) (.tmp 36) ∧ o.guard = none ∧ o.dst = none := ⟨(ops3[20]?).getD default, by kernel_rfl, by kernel_rfl, by kernel_rfl, by kernel_rfl⟩
    have hD : depsOf ops3 20 = [19, 17, 15, 0, 1, 2, 3, 4, 5, 6, 7, 8, 9, 10, 11, 12, 13, 14, 15, 16, 17] := by kernel_rfl
    rw [hD] at hdeps
    intro O A W ⟨V, h⟩
    obtain ⟨⟨_, ⟨sa, sc, hvs, _⟩⟩, _⟩ := (h.mrg (h.dep16 (h.dep17 (hdeps 17 (by simp)))))
    refine rt_put (Own := O) (Z := fun W => R3 E Sc D0 L V O A W) (Z' := fun W => R3 E Sc D0 (L.setIfInBounds 20 true) V O (A.put none undef) W) (C := E.C) (j := E.i) (v := V) hJ (fun W W1 hr z => z.rely hE hr) hB ho hg (fun W z => ?_) hE.c1 (fun W z => ?_) (fun W z => next _ _ _ ⟨V, by rw [hdst]; exact z⟩) W h
    · obtain ⟨cs, hc1, hc2⟩ := z.wb.st.pay
      obtain ⟨u, hu⟩ := rowcell hc1 (i := E.i) (by omega)
      have e1 := (z.sl 19 (by omega) (by decide) (by decide) (hdeps 19 (by simp))).eval
      have e2 : A.eval (.tmp 36) = V := (z.sl 17 (by omega) (by decide) (by decide) (hdeps 17 (by simp))).eval
      rw [hvs] at e2 ⊢
      exact storeL hop e1 e2 hu (thaw_of hc1)
    · have hlt : 20 < L.size := by rw [z.lsz]; omega
      obtain ⟨cs, hc1, hc2⟩ := z.wb.st.pay
      obtain ⟨u, hu⟩ := rowcell hc1 (i := E.i) (by omega)
      exact { z with wb := { z.wb with st := z.wb.st.put hE (.inl rfl) fun c hc => (hsep c hc).1 }, lsz := by simp [z.lsz], sl := fun q hq hq20 hq22 hl => z.sl q hq hq20 hq22 (((getD_set hlt).1 hl).resolve_left hq20), dep16 := fun hl => (getD_set hlt).2 (.inr (z.dep16 (((getD_set hlt).1 hl).resolve_left (by decide)))), dep17 := fun hl => (getD_set hlt).2 (.inr (z.dep17 (((getD_set hlt).1 hl).resolve_left (by decide)))), dep18 := fun hl => (getD_set hlt).2 (.inr (z.dep18 (((getD_set hlt).1 hl).resolve_left (by decide)))), dep20 := fun _ => (getD_set hlt).2 (.inr (hdeps 17 (by simp))), mrg := fun hl => (z.mrg (((getD_set hlt).1 hl).resolve_left (by decide))).kept fun c o hc hco => (by rw [heap_setCell_other _ _ _ _ (hc.elim (fun h => (z.oc c h).1) fun h => (hsep c h).1)]; exact hco), done := fun _ => World.cell?_setCell_same (w := W) (a := ⟨E.C, E.i, none⟩) (v := V) hu }
  · obtain ⟨o, ho, hop, hg, hdst⟩ : ∃ o, ops3[21]? = some o ∧ o.op = .indexAddr 50 (.tmp 22) (.tmp 23) ∧ o.guard = none ∧ o.dst = some 39 := ⟨(ops3[21]?).getD default, by kernel_rfl, by kernel_rfl, by kernel_rfl, by kernel_rfl⟩
    have hD : depsOf ops3 21 = [2, 3, 0, 1, 2, 3, 4, 5, 6, 7, 8, 9, 10, 11, 12, 13, 14, 15, 16, 17, 18, 19, 20] := by kernel_rfl
    rw [hD] at hdeps
    exact R3.val hE hJ hB ho hg hdst (by decide) (by decide) (by decide) (by decide) ⟨fun e => absurd e (by decide), fun e => absurd e (by decide), fun e => absurd e (by decide)⟩ (es := #[]) (fun e he => by simp at he) (fun V O A W h => ixEs hop (h.sl 2 (by omega) (by decide) (by decide) (hdeps 2 (by simp))).eval (h.sl 3 (by omega) (by decide) (by decide) (hdeps 3 (by simp))).eval him (by omega)) next
  · obtain ⟨o, ho, hop, hg, hdst⟩ : ∃ o, ops3[22]? = some o ∧ o.op = .store 26 (.tmp 39) (.tmp 37) ∧ o.guard = none ∧ o.dst = none := ⟨(ops3[22]?).getD default, by kernel_rfl, by kernel_rfl, by kernel_rfl, by kernel_rfl⟩
    have hD : depsOf ops3 22 = [21, 18, 20, 0, 1, 2, 3, 4, 5, 6, 7, 8, 9, 10, 11, 12, 13, 14, 15, 16, 17, 18, 19, 20] := by kernel_rfl
    rw [hD] at hdeps
    intro O A W ⟨V, h⟩
    refine rt_put (Own := O) (Z := fun W => R3 E Sc D0 L V O A W) (Z' := fun W => R3 E Sc D0 (L.setIfInBounds 22 true) V O (A.put none undef) W) (C := E.C2) (j := E.i) (v := .int .i64 0) hJ (fun W W1 hr z => z.rely hE hr) hB ho hg (fun W z => ?_) hE.c2 (fun W z => ?_) (fun W z => next _ _ _ ⟨V, by rw [hdst]; exact z⟩) W h
    · obtain ⟨cs, hc1, hc2⟩ := z.wb.st.pay2
      exact store26 hop (z.sl 21 (by omega) (by decide) (by decide) (hdeps 21 (by simp))).eval (z.sl 18 (by omega) (by decide) (by decide) (hdeps 18 (by simp))).eval z.wb.st.ok (thaw_of hc1)
    · have hlt : 22 < L.size := by rw [z.lsz]; omega
      have hno : ∀ q, q ≠ 22 → (L.setIfInBounds 22 true).getD q false = true → L.getD q false = true := fun q hq hl => ((getD_set hlt).1 hl).resolve_left hq
      exact { z with wb := { z.wb with st := z.wb.st.put hE (.inr ⟨rfl, rfl⟩) fun c hc => (hsep c hc).2 }, lsz := by simp [z.lsz], sl := fun q hq hq20 hq22 hl => z.sl q hq hq20 hq22 (hno q hq22 hl), dep16 := fun hl => (getD_set hlt).2 (.inr (z.dep16 (hno _ (by decide) hl))), dep17 := fun hl => (getD_set hlt).2 (.inr (z.dep17 (hno _ (by decide) hl))), dep18 := fun hl => (getD_set hlt).2 (.inr (z.dep18 (hno _ (by decide) hl))), dep20 := fun hl => (getD_set hlt).2 (.inr (z.dep20 (hno _ (by decide) hl))), mrg := fun hl => (z.mrg (hno _ (by decide) hl)).kept fun c o hc hco => (by rw [heap_setCell_other _ _ _ _ (hc.elim (fun h => (z.oc c h).2) fun h => (hsep c h).2)]; exact hco), done := fun hl => (by rw [World.cell?_setCell_other (w := W) (a := ⟨E.C2, E.i, none⟩) (b := ⟨E.C, E.i, none⟩) (v := .int .i64 0) (fun e => hE.ne (congrArg Addr.block e).symm)]; exact z.done (hno _ (by decide) hl)) }
end
noncomputable def ops2 : Array Oper := regOps (hd (hd (tl (hd (tl cMany)))))
def slot2 (j : Nat) : Nat := [11, 12, 13, 14, 15, 16, 17, 18, 0].getD j 0
def val2 (E : WEnv) (V : Value) : Nat → Value
  | 0 => (.slice (some ⟨E.C, 0, none⟩) E.m E.m)
  | 1 => (.int .i64 E.i)
  | 2 => (.slice (some ⟨E.rl, 0, none⟩) E.n E.cap)
  | 3 => (.int .i64 E.i)
  | 4 => (.int .i64 ((2 * E.i : Nat) : Int))
  | 5 => (.pointer (some ⟨E.rl, 2 * E.i, none⟩))
  | 6 => (E.V (2 * E.i))
  | 7 => (.pointer (some ⟨E.C, E.i, none⟩))
  | _ => undef
structure R2 (E : WEnv) (Sc : Shd) (D0 : List Deferred) (L : Array Bool) (V : Value) (O : Blk) (A : Act) (W : World) : Prop where
  wb : WB E Sc D0 A W
  lsz : L.size = 9
  oc : ∀ c, O c → c ≠ E.C ∧ c ≠ E.C2
  sl : ∀ j, j < 9 → j ≠ 8 → L.getD j false = true → Sl A (slot2 j) (val2 E V j)
  done : L.getD 8 false = true → W.cell? ⟨E.C, E.i, none⟩ = some (E.V (2 * E.i))
theorem slot2_inj : ∀ i, i < 9 → ∀ j, j < 9 → i ≠ 8 → j ≠ 8 → slot2 i = slot2 j → i = j := by
  intro i hi j hj
  have D : ((List.range 9).all fun i => (List.range 9).all fun j => (i == 8 || j == 8 || slot2 i != slot2 j || i == j)) = true := by decide
  have h := List.all_eq_true.1 (List.all_eq_true.1 D i (List.mem_range.2 hi)) j (List.mem_range.2 hj)
  simp only [Bool.or_eq_true, beq_iff_eq, bne_iff_ne, ne_eq] at h
  intros
  simp_all
theorem slot2_lt : ∀ j, j < 9 → j ≠ 8 → 5 ≤ slot2 j ∧ slot2 j < 40 := by decide
section
variable {E : WEnv} {Sc : Shd} {D0 : List Deferred} {L : Array Bool} {V : Value} {O : Blk} {A : Act} {W : World}
theorem R2.rely (hE : WEOk E Sc) (h : R2 E Sc D0 L V O A W) {W1 : World} (hr : Rely O Sc W W1) : R2 E Sc D0 L V O A W1 :=
  { h with wb := h.wb.rely hE hr, done := fun hl => hr.cell?' (.inr (.inr ⟨hE.c1, rfl⟩)) (h.done hl) }
theorem R2.put (h : R2 E Sc D0 L V O A W) {j : Nat} (hj : j < 9) (hn8 : j ≠ 8) : R2 E Sc D0 (L.setIfInBounds j true) V O (A.put (some (slot2 j)) (val2 E V j)) W := by
  have hlt : j < L.size := by rw [h.lsz]; exact hj
  obtain ⟨hs1, hs2⟩ := slot2_lt j hj hn8
  refine { h with wb := h.wb.put hs1 _, lsz := by simp [h.lsz], sl := fun i hi hi8 hl => ?_, done := fun hl => h.done ?_ }
  · rcases (getD_set hlt).1 hl with rfl | hl
    · exact Sl.same (by rw [h.wb.sz]; exact hs2)
    · by_cases e : i = j
      · subst e; exact Sl.same (by rw [h.wb.sz]; exact hs2)
      · exact (h.sl i hi hi8 hl).ne fun e' => e (slot2_inj i hi j hj hi8 hn8 e')
  · rcases (getD_set hlt).1 hl with e | hl
    · exact absurd e.symm hn8
    · exact hl
end
section
variable {E : WEnv} {Sc : Shd} {D0 : List Deferred} {Ju : Blk → Goroutine → World → Prop} {RB : List Frame} {B : Frame} {k : List Item}
theorem R2.val (hE : WEOk E Sc) (hJ : Jud Try.prog false Sc Ju) (hB : B.kind ≠ .early) {L : Array Bool} {j : Nat} {l : List Nat} {o : Oper} (ho : ops2[j]? = some o) (hg : o.guard = none) (hdst : o.dst = some (slot2 j)) (hj : j < 9) (hn8 : j ≠ 8)
    {es : Array Event} (hev : ∀ e ∈ es, ∀ O, EvIn O Sc e)
    (hrun : ∀ V O A W, R2 E Sc D0 L V O A W → (execOp A.eval o).run Try.prog W = .ok (.value (val2 E V j)) W ∧ (execOp A.eval o).events Try.prog W #[] = es)
    (next : ∀ O A W, (∃ V, R2 E Sc D0 (L.setIfInBounds j true) V O A W) → Ju O (G (B.at A (.inRegion ops2 l :: k)) RB) W) : ∀ O A W, (∃ V, R2 E Sc D0 L V O A W) → Ju O (G (B.at A (.inRegion ops2 (j :: l) :: k)) RB) W := fun O A W ⟨V, h⟩ => by
  refine rt_val (Own := O) (Z := fun W => R2 E Sc D0 L V O A W) hJ (fun W W1 hr z => z.rely hE hr) hB ho hg (v := val2 E V j) (hrun := fun W z => hrun V O A W z) (fun e he => hev e he O) (fun W z => next _ _ _ ⟨V, ?_⟩) W h
  rw [hdst]
  exact z.put hj hn8 
set_option maxRecDepth 100000 in
set_option maxHeartbeats 4000000 in
theorem R2.step (hE : WEOk E Sc) (hJ : Jud Try.prog false Sc Ju) (hB : B.kind ≠ .early) (hsep : ∀ c, Sc c → c ≠ E.C ∧ c ≠ E.C2) (L : Array Bool) (i : Nat) (l : List Nat) (hi : i < ops2.size) (hnl : L.getD i true = false) (hdeps : ∀ d ∈ depsOf ops2 i, L.getD d false = true) 
    (next : ∀ O A W, (∃ V, R2 E Sc D0 (L.setIfInBounds i true) V O A W) → Ju O (G (B.at A (.inRegion ops2 l :: k)) RB) W) : ∀ O A W, (∃ V, R2 E Sc D0 L V O A W) → Ju O (G (B.at A (.inRegion ops2 (i :: l) :: k)) RB) W := by
  have hsize : ops2.size = 9 := by kernel_rfl
  rw [hsize] at hi
  have hi2 := hE.i2
  have hn2 := hE.n2
  have him := hE.im
  have hm2 := hE.m2
  rcases (show i = 0 ∨ i = 1 ∨ i = 2 ∨ i = 3 ∨ i = 4 ∨ i = 5 ∨ i = 6 ∨ i = 7 ∨ i = 8 from by omega) with rfl | rfl | rfl | rfl | rfl | rfl | rfl | rfl | rfl
  · obtain ⟨o, ho, hop, hg, hdst⟩ : ∃ o, ops2[0]? = some o ∧ o.op = .load 34 (.tmp 3) ∧ o.guard = none ∧ o.dst = some 11 := ⟨(ops2[0]?).getD default, by kernel_rfl, by kernel_rfl, by kernel_rfl, by kernel_rfl⟩
    have hD : depsOf ops2 0 = [] := by kernel_rfl
    rw [hD] at hdeps
    exact R2.val hE hJ hB ho hg hdst (by decide) (by decide) (es := #[⟨.cell ⟨E.bn, 0, none⟩, false, false⟩]) (fun e he O => by simp at he; subst he; exact .cell _ _ (.inr (.inl ⟨hE.bn, rfl⟩))) (fun V O A W h => loadLL hop h.wb.t3.eval h.wb.st.cn) next
  · obtain ⟨o, ho, hop, hg, hdst⟩ : ∃ o, ops2[1]? = some o ∧ o.op = .load 3 (.tmp 1) ∧ o.guard = none ∧ o.dst = some 12 := ⟨(ops2[1]?).getD default, by kernel_rfl, by kernel_rfl, by kernel_rfl, by kernel_rfl⟩
    have hD : depsOf ops2 1 = [] := by kernel_rfl
    rw [hD] at hdeps
    exact R2.val hE hJ hB ho hg hdst (by decide) (by decide) (es := #[⟨.cell ⟨E.bi, 0, none⟩, false, false⟩]) (fun e he O => by simp at he; subst he; exact .cell _ _ (.inr (.inl ⟨hE.bi, rfl⟩))) (fun V O A W h => load3 hop h.wb.t1.eval h.wb.st.ci) next
  · obtain ⟨o, ho, hop, hg, hdst⟩ : ∃ o, ops2[2]? = some o ∧ o.op = .load 34 (.tmp 2) ∧ o.guard = none ∧ o.dst = some 13 := ⟨(ops2[2]?).getD default, by kernel_rfl, by kernel_rfl, by kernel_rfl, by kernel_rfl⟩
    have hD : depsOf ops2 2 = [] := by kernel_rfl
    rw [hD] at hdeps
    exact R2.val hE hJ hB ho hg hdst (by decide) (by decide) (es := #[⟨.cell ⟨E.bl, 0, none⟩, false, false⟩]) (fun e he O => by simp at he; subst he; exact .cell _ _ (.inr (.inl ⟨hE.bl, rfl⟩))) (fun V O A W h => loadLL hop h.wb.t2.eval h.wb.st.cl) next
  · obtain ⟨o, ho, hop, hg, hdst⟩ : ∃ o, ops2[3]? = some o ∧ o.op = .load 3 (.tmp 1) ∧ o.guard = none ∧ o.dst = some 14 := ⟨(ops2[3]?).getD default, by kernel_rfl, by kernel_rfl, by kernel_rfl, by kernel_rfl⟩
    have hD : depsOf ops2 3 = [] := by kernel_rfl
    rw [hD] at hdeps
    exact R2.val hE hJ hB ho hg hdst (by decide) (by decide) (es := #[⟨.cell ⟨E.bi, 0, none⟩, false, false⟩]) (fun e he O => by simp at he; subst he; exact .cell _ _ (.inr (.inl ⟨hE.bi, rfl⟩))) (fun V O A W h => load3 hop h.wb.t1.eval h.wb.st.ci) next
  · obtain ⟨o, ho, hop, hg, hdst⟩ : ∃ o, ops2[4]? = some o ∧ o.op = .binOp .mul 3 (.const (.int .i64 2)) (.tmp 14) 3 ∧ o.guard = none ∧ o.dst = some 15 := ⟨(ops2[4]?).getD default, by kernel_rfl, by kernel_rfl, by kernel_rfl, by kernel_rfl⟩
    have hD : depsOf ops2 4 = [3] := by kernel_rfl
    rw [hD] at hdeps
    exact R2.val hE hJ hB ho hg hdst (by decide) (by decide) (es := #[]) (fun e he => by simp at he) (fun V O A W h => (by have q := mulI (w := W) hop rfl (h.sl 3 (by omega) (by decide) (hdeps 3 (by simp))).eval (by omega); exact q)) next
  · obtain ⟨o, ho, hop, hg, hdst⟩ : ∃ o, ops2[5]? = some o ∧ o.op = .indexAddr 34 (.tmp 13) (.tmp 15) ∧ o.guard = none ∧ o.dst = some 16 := ⟨(ops2[5]?).getD default, by kernel_rfl, by kernel_rfl, by kernel_rfl, by kernel_rfl⟩
    have hD : depsOf ops2 5 = [2, 4] := by kernel_rfl
    rw [hD] at hdeps
    exact R2.val hE hJ hB ho hg hdst (by decide) (by decide) (es := #[]) (fun e he => by simp at he) (fun V O A W h => ixLL hop (h.sl 2 (by omega) (by decide) (hdeps 2 (by simp))).eval (h.sl 4 (by omega) (by decide) (hdeps 4 (by simp))).eval hi2 (by omega)) next
  · obtain ⟨o, ho, hop, hg, hdst⟩ : ∃ o, ops2[6]? = some o ∧ o.op = .load 35 (.tmp 16) ∧ o.guard = none ∧ o.dst = some 17 := ⟨(ops2[6]?).getD default, by kernel_rfl, by kernel_rfl, by kernel_rfl, by kernel_rfl⟩
    have hD : depsOf ops2 6 = [5] := by kernel_rfl
    rw [hD] at hdeps
    exact R2.val hE hJ hB ho hg hdst (by decide) (by decide) (es := #[⟨.cell ⟨E.rl, 2 * E.i, none⟩, false, false⟩]) (fun e he O => by simp at he; subst he; exact .cell _ _ (.inr (.inl ⟨hE.rl, rfl⟩))) (fun V O A W h => loadL hop (h.sl 5 (by omega) (by decide) (hdeps 5 (by simp))).eval (h.wb.st.lv _ hi2)) next
  · obtain ⟨o, ho, hop, hg, hdst⟩ : ∃ o, ops2[7]? = some o ∧ o.op = .indexAddr 34 (.tmp 11) (.tmp 12) ∧ o.guard = none ∧ o.dst = some 18 := ⟨(ops2[7]?).getD default, by kernel_rfl, by kernel_rfl, by kernel_rfl, by kernel_rfl⟩
    have hD : depsOf ops2 7 = [0, 1, 0, 1, 2, 3, 4, 5, 6] := by kernel_rfl
    rw [hD] at hdeps
    exact R2.val hE hJ hB ho hg hdst (by decide) (by decide) (es := #[]) (fun e he => by simp at he) (fun V O A W h => ixLL hop (h.sl 0 (by omega) (by decide) (hdeps 0 (by simp))).eval (h.sl 1 (by omega) (by decide) (hdeps 1 (by simp))).eval him (by omega)) next
  · obtain ⟨o, ho, hop, hg, hdst⟩ : ∃ o, ops2[8]? = some o ∧ o.op = .store 35 (.tmp 18) (.tmp 17) ∧ o.guard = none ∧ o.dst = none := ⟨(ops2[8]?).getD default, by kernel_rfl, by kernel_rfl, by kernel_rfl, by kernel_rfl⟩
    have hD : depsOf ops2 8 = [7, 6, 0, 1, 2, 3, 4, 5, 6] := by kernel_rfl
    rw [hD] at hdeps
    intro O A W ⟨V, h⟩
    obtain ⟨⟨_, ⟨sa, sc, hvs, _⟩⟩, _⟩ := (h.wb.st.ent _ hi2)
    refine rt_put (Own := O) (Z := fun W => R2 E Sc D0 L V O A W) (Z' := fun W => R2 E Sc D0 (L.setIfInBounds 8 true) V O (A.put none undef) W) (C := E.C) (j := E.i) (v := (E.V (2 * E.i))) hJ (fun W W1 hr z => z.rely hE hr) hB ho hg (fun W z => ?_) hE.c1 (fun W z => ?_) (fun W z => next _ _ _ ⟨V, by rw [hdst]; exact z⟩) W h
    · obtain ⟨cs, hc1, hc2⟩ := z.wb.st.pay
      obtain ⟨u, hu⟩ := rowcell hc1 (i := E.i) (by omega)
      have e1 := (z.sl 7 (by omega) (by decide) (hdeps 7 (by simp))).eval
      have e2 : A.eval (.tmp 17) = (E.V (2 * E.i)) := (z.sl 6 (by omega) (by decide) (hdeps 6 (by simp))).eval
      rw [hvs] at e2 ⊢
      exact storeL hop e1 e2 hu (thaw_of hc1)
    · have hlt : 8 < L.size := by rw [z.lsz]; omega
      obtain ⟨cs, hc1, hc2⟩ := z.wb.st.pay
      obtain ⟨u, hu⟩ := rowcell hc1 (i := E.i) (by omega)
      exact { z with wb := { z.wb with st := z.wb.st.put hE (.inl rfl) fun c hc => (hsep c hc).1 }, lsz := by simp [z.lsz], sl := fun q hq hq8 hl => z.sl q hq hq8 (((getD_set hlt).1 hl).resolve_left hq8), done := fun _ => World.cell?_setCell_same (w := W) (a := ⟨E.C, E.i, none⟩) (v := (E.V (2 * E.i))) hu }
end
end Go.Proofs.Ytkodpijedinanaa.Sim

namespace Go.Proofs.Ytkodpijedinanaa.Sim
open Go Go.Conc
abbrev wgLink : Go.Conc.Lib.WgLink := { add := 20, done := 22, wait := 23, relMerge := 34, disable := 35, enable := 36, inBubble := 37, associate := 38, fatal := 39, uOr := 40, uAdd := 41, raceRead := 42, uLoad := 43, uStore := 44, disassociate := 45, semrelease := 46, acquire := 47, isAssociated := 48, uCas := 49, raceWrite := 50, semacquire := 51, orU64 := 58, addU64 := 59, loadU64 := 60, storeU64 := 61, casU64 := 62, tWgP := 78, tUP := 80, tAssoc := 82, tWg := 65, tAU := 62, tU64 := 60, tUint := 86, tU32 := 63, tPU32 := 87, tPAU := 99, tPU64 := 101, tNoCopy := 57, tANoCopy := 58, tAlign64 := 59 }
theorem wgLib : Go.Conc.Lib.WgLib Try.prog wgLink :=
  ⟨Try.func20, Try.func22, Try.func23, Try.func34, Try.func35, Try.func36, Try.func37, Try.func38, Try.func39, Try.func40, Try.func41, Try.func42, Try.func43, Try.func44, Try.func45, Try.func46, Try.func47, Try.func48, Try.func49, Try.func50, Try.func51, Try.func58, Try.func59, Try.func60, Try.func61, Try.func62, Try.underlying78, Try.runUnderlying78, Try.sizeOf78, Try.isAgg78, Try.zeroValue78, Try.underlying80, Try.runUnderlying80, Try.sizeOf80, Try.isAgg80, Try.zeroValue80, Try.underlying82, Try.runUnderlying82, Try.sizeOf82, Try.isAgg82, Try.zeroValue82, Try.underlying65, Try.runUnderlying65, Try.sizeOf65, Try.isAgg65, Try.zeroValue65, Try.underlying62, Try.runUnderlying62, Try.sizeOf62, Try.isAgg62, Try.zeroValue62, Try.underlying60, Try.runUnderlying60, Try.sizeOf60, Try.isAgg60, Try.zeroValue60, Try.underlying86, Try.runUnderlying86, Try.sizeOf86, Try.isAgg86, Try.zeroValue86, Try.underlying63, Try.runUnderlying63, Try.sizeOf63, Try.isAgg63, Try.zeroValue63, Try.underlying87, Try.runUnderlying87, Try.sizeOf87, Try.isAgg87, Try.zeroValue87, Try.underlying99, Try.runUnderlying99, Try.sizeOf99, Try.isAgg99, Try.zeroValue99, Try.underlying101, Try.runUnderlying101, Try.sizeOf101, Try.isAgg101, Try.zeroValue101, Try.underlying0, Try.runUnderlying0, Try.sizeOf0, Try.isAgg0, Try.zeroValue0, Try.underlying3, Try.runUnderlying3, Try.sizeOf3, Try.isAgg3, Try.zeroValue3, Try.underlying4, Try.runUnderlying4, Try.sizeOf4, Try.isAgg4, Try.zeroValue4, Try.underlying9, Try.runUnderlying9, Try.sizeOf9, Try.isAgg9, Try.zeroValue9, Try.underlying20, Try.runUnderlying20, Try.sizeOf20, Try.isAgg20, Try.zeroValue20, Try.underlying21, Try.runUnderlying21, Try.sizeOf21, Try.isAgg21, Try.zeroValue21, (by kernel_rfl), (by kernel_rfl)⟩
end Go.Proofs.Ytkodpijedinanaa.Sim

namespace Go.Proofs.Ytkodpijedinanaa.Sim
open Go Go.Conc
set_option linter.unusedVariables false
set_option linter.unusedSimpArgs false

section
variable {P : Program} {W0 : World} {lo : Nat} {Post : Value → World → Prop} {n : Nat} {jobs : Nat → Option Job} {tag : ConcN.CTag} {Wg B d : Nat} {Sh : Shd} {Own : Blk} {g : Goroutine} {W : World}
theorem grow_same (Own : Blk) (w : World) : Grow Own w w = Own := by
  funext b
  refine propext ⟨fun h => ?_, .inl⟩
  rcases h with h | ⟨h1, h2⟩
  · exact h
  · omega
/-- A way on which nothing turns. -/
theorem mgo_seg (ht : tag ≠ .blk) : ∀ (m : Nat) {g : Goroutine} {W : World}, Goes P true (Rely Own Sh) ConcR.DC0 (fun g w => MGo P W0 lo Post n jobs tag Wg B d Sh Own g w) m g W → MGo P W0 lo Post n jobs tag Wg B d Sh Own g W := by
  intro m
  induction m with
  | zero => intro g W h; exact h W (.refl _ _ _)
  | succ m ih =>
    intro g W h
    rcases h with h | ⟨hr, h⟩
    · exact h W (.refl _ _ _)
    · have key : ∀ W1, Rely Own Sh W W1 → ∃ g', stepG P true g W1 = .go g' W1 #[] ∧ MGo P W0 lo Post n jobs tag Wg B d Sh Own g' W1 := fun W1 hr1 => by
        obtain ⟨g', w', es, e, ⟨rfl, rfl⟩, hn⟩ := goes_elim (h W1 hr1)
        exact ⟨g', e, ih hn⟩
      refine .step hr ht (fun W1 hr1 _ => ?_) fun W1 hr1 _ g' W' es he => ?_
      · obtain ⟨g', e, hm⟩ := key W1 hr1
        exact ⟨g', W1, #[], e, ⟨Nat.le_refl _, fun _ _ _ _ => rfl, fun _ _ _ _ _ => rfl, .refl _, rfl, rfl, rfl, fun e he => by simp at he⟩, hm.running.1⟩
      · obtain ⟨g'', e, hm⟩ := key W1 hr1
        rw [e] at he
        simp only [GStep.go.injEq] at he
        obtain ⟨rfl, rfl, rfl⟩ := he
        rw [grow_same]; exact hm
theorem MGo.add' (h0 : g.status = .running) (hB : B + 1 < 2147483648) (h : ∀ W1 (v : Nat), Rely Own Sh W W1 → v ≤ B → ConcR.WgAt tyWg Wg W1 (v * ConcR.KK) 0 → ∃ g', stepG P true g W1 = .go g' (W1.setCell (ConcR.stA Wg) (.int .u64 ((v + 1) * ConcR.KK))) #[ConcR.rd (ConcR.stA Wg), ConcR.wr (ConcR.stA Wg)] ∧
    MGo P W0 lo Post n jobs (.sp 0 0) Wg (B + 1) d Sh Own g' (W1.setCell (ConcR.stA Wg) (.int .u64 ((v + 1) * ConcR.KK)))) : MGo P W0 lo Post n jobs .kd Wg B d Sh Own g W := by
  refine .add h0 hB (fun W1 v h1 h2 h3 => let ⟨g', e, _⟩ := h W1 v h1 h2 h3; ⟨g', e⟩) fun W1 v g' h1 h2 h3 he => ?_
  obtain ⟨g'', e, hm⟩ := h W1 v h1 h2 h3
  rw [e] at he
  simp only [GStep.go.injEq] at he
  obtain ⟨rfl, _⟩ := he
  exact hm
theorem MGo.load' (h0 : g.status = .running) (h : ∀ W1 (v : Nat), Rely Own Sh W W1 → v ≤ B → ConcR.WgAt tyWg Wg W1 (v * ConcR.KK) 0 → ∃ g', stepG P true g W1 = .go g' W1 #[ConcR.rd (ConcR.stA Wg)] ∧
    (v = 0 → MGo P W0 lo Post n jobs .ke Wg 0 d Sh Own g' W1) ∧ (0 < v → MGo P W0 lo Post n jobs .kd Wg v d Sh Own g' W1)) : MGo P W0 lo Post n jobs .kd Wg B d Sh Own g W := by
  refine .load h0 (fun W1 v h1 h2 h3 => let ⟨g', e, _⟩ := h W1 v h1 h2 h3; ⟨g', e⟩) (fun W1 v g' h1 h2 h3 he hv => ?_) fun W1 v g' h1 h2 h3 he hv => ?_
  · obtain ⟨g'', e, hm, _⟩ := h W1 v h1 h2 h3
    rw [e] at he
    simp only [GStep.go.injEq] at he
    obtain ⟨rfl, _⟩ := he
    exact hm hv
  · obtain ⟨g'', e, _, hm⟩ := h W1 v h1 h2 h3
    rw [e] at he
    simp only [GStep.go.injEq] at he
    obtain ⟨rfl, _⟩ := he
    exact hm hv
theorem MGo.cas' (h0 : g.status = .running) (hB : 1 ≤ B) (h : ∀ W1, Rely Own Sh W W1 → ConcR.WgAt tyWg Wg W1 (B * ConcR.KK) 0 → ∃ g', stepG P true g W1 = .go g' (W1.setCell (ConcR.stA Wg) (.int .u64 (B * ConcR.KK + 1))) #[ConcR.rd (ConcR.stA Wg), ConcR.wr (ConcR.stA Wg)] ∧ MGo P W0 lo Post n jobs .w3 Wg B d Sh Own g' (W1.setCell (ConcR.stA Wg) (.int .u64 (B * ConcR.KK + 1))))
    (k : ∀ W1 (v : Nat), Rely Own Sh W W1 → v < B → ConcR.WgAt tyWg Wg W1 (v * ConcR.KK) 0 → ∃ g', stepG P true g W1 = .go g' W1 #[ConcR.rd (ConcR.stA Wg)] ∧ MGo P W0 lo Post n jobs .kd Wg v d Sh Own g' W1) : MGo P W0 lo Post n jobs .kd Wg B d Sh Own g W := by
  refine .cas h0 hB (fun W1 h1 h2 => let ⟨g', e, _⟩ := h W1 h1 h2; ⟨g', e⟩) (fun W1 v h1 h2 h3 => let ⟨g', e, _⟩ := k W1 v h1 h2 h3; ⟨g', e⟩) (fun W1 g' h1 h2 he => ?_) fun W1 v g' h1 h2 h3 he => ?_
  · obtain ⟨g'', e, hm⟩ := h W1 h1 h2
    rw [e] at he
    simp only [GStep.go.injEq] at he
    obtain ⟨rfl, _⟩ := he
    exact hm
  · obtain ⟨g'', e, hm⟩ := k W1 v h1 h2 h3
    rw [e] at he
    simp only [GStep.go.injEq] at he
    obtain ⟨rfl, _⟩ := he
    exact hm
theorem MGo.sema' (h0 : g.status = .running) (ho : g.offers = none) (hb : ∀ W1, Rely Own Sh W W1 → (∃ s, ConcR.WgAt tyWg Wg W1 s 0) → stepG P true g W1 = .go { g with status := .blocked } W1 #[])
    (h : ∀ W1, Rely Own Sh W W1 → ConcR.WgAt tyWg Wg W1 0 1 → ∃ g', stepG P true g W1 = .go g' (W1.setCell (ConcR.smA Wg) (.int .u32 0)) (semEvents (ConcR.smA Wg)) ∧ MGo P W0 lo Post n jobs .w4 Wg 0 d Sh Own g' (W1.setCell (ConcR.smA Wg) (.int .u32 0))) : MGo P W0 lo Post n jobs .w3 Wg B d Sh Own g W := by
  refine .sema h0 ho hb (fun W1 h1 h2 => let ⟨g', e, _⟩ := h W1 h1 h2; ⟨g', e⟩) fun W1 g' h1 h2 he => ?_
  obtain ⟨g'', e, hm⟩ := h W1 h1 h2
  rw [e] at he
  simp only [GStep.go.injEq] at he
  obtain ⟨rfl, _⟩ := he
  exact hm
theorem MGo.again' (h0 : g.status = .running) (h : ∀ W1, Rely Own Sh W W1 → ConcR.WgAt tyWg Wg W1 0 0 → ∃ g', stepG P true g W1 = .go g' W1 #[ConcR.rd (ConcR.stA Wg)] ∧ MGo P W0 lo Post n jobs .ke Wg 0 d Sh Own g' W1) : MGo P W0 lo Post n jobs .w4 Wg B d Sh Own g W := by
  refine .again h0 (fun W1 h1 h2 => let ⟨g', e, _⟩ := h W1 h1 h2; ⟨g', e⟩) fun W1 g' h1 h2 he => ?_
  obtain ⟨g'', e, hm⟩ := h W1 h1 h2
  rw [e] at he
  simp only [GStep.go.injEq] at he
  obtain ⟨rfl, _⟩ := he
  exact hm
/-- What is known on the way. -/
def OnWay (Own : Blk) (Sh : Shd) (Wg : Nat) (W w : World) : Prop := Rely Own Sh W w ∧ ConcN.WgLive tyWg Wg w
theorem onWay_rely (hg : Sh.grp Wg) {w w1 : World} (h : OnWay Own Sh Wg W w) (r : Rely Own Sh w w1) : OnWay Own Sh Wg W w1 := ⟨h.1.trans r, r.grp _ hg h.2⟩
theorem onWay_set (hn : ¬ Own Wg ∧ ¬ Sh Wg ∧ ∀ o, ¬ Sh.cel Wg o) {w : World} {s m s' m' : Int} {a : Addr} {v : Value} (ha : a.block = Wg) (h : OnWay Own Sh Wg W w) (hw : ConcR.WgAt tyWg Wg w s m) (hw' : ConcR.WgAt tyWg Wg (w.setCell a v) s' m') : OnWay Own Sh Wg W (w.setCell a v) := by
  have hAs : Conc.Aside Wg w (w.setCell a v) := ha ▸ aside_setCell w a v
  refine ⟨h.1.trans ⟨Nat.le_of_eq hAs.size.symm, fun b o hb ho => ?_, fun b c e z hc => ?_, fun b o x hb hv => ?_, fun b hb hg => ?_⟩, ⟨_, _, hw'⟩⟩
  · have : b ≠ Wg := fun e => by
      subst e
      rcases hb with hb | hb
      · exact hn.1 hb
      · exact hn.2.1 hb
    rw [hAs.block b this]; exact ho
  · by_cases e1 : b = Wg
    · subst e1
      rw [show w.heap[b]? = some (ConcR.wgBlock tyWg s m) from hw] at hc
      cases hc
      exact ⟨_, hw', rfl⟩
    · exact ⟨c, by rw [hAs.block b e1]; exact hc, rfl⟩
  · have : b ≠ Wg := fun e => by subst e; exact hn.2.2 _ hb
    simp only [World.cell?, hAs.block b this] at hv ⊢
    exact hv
  · by_cases e1 : b = Wg
    · subst e1; exact ⟨s', m', hw'⟩
    · obtain ⟨p, q, hpq⟩ := hg
      exact ⟨p, q, by show (w.setCell a v).heap[b]? = _; rw [hAs.block b e1]; exact hpq⟩
end
end Go.Proofs.Ytkodpijedinanaa.Sim
