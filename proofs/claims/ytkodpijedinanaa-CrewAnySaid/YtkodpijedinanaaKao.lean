/- Texts that the claim imports, laid together: MwE MwF Join. No statement of their own. -/
import Derived.Test.YtkodpijedinanaaKai
import Derived.Test.YtkodpijedinanaaKan
namespace Go.Proofs.Ytkodpijedinanaa.Sim
open Go Go.Conc
set_option linter.unusedVariables false
set_option linter.unusedSimpArgs false

theorem cell_of {W : World} {b : Nat} {v : Value} {e : TypeId} {z : Nat × Nat} (h : W.heap[b]? = some (.cells #[v] e z)) : W.cell? ⟨b, 0, none⟩ = some v := by simp [World.cell?, h]
theorem heap_lt {W : World} {b : Nat} {o : Obj} (h : W.heap[b]? = some o) : b < W.heap.size := (Array.getElem?_eq_some_iff.1 h).1
theorem frz_of {W : World} {b : Nat} {c : Array Value} {e : TypeId} (h : W.heap[b]? = some (.cells c e (0, 0))) : W.frozen? ⟨b, 0, none⟩ = false := by simp [World.frozen?, h]
/-- A write over a slice: lists of entries stay. -/
theorem REnt.setS {K : Blk} {W : World} {v : Value} {l : List Ent} (h : REnt K W v l) {a : Addr} {sa : Option Addr} {n c : Nat} {u : Value} (ha : W.cell? a = some (.slice sa n c)) : REnt K (W.setCell a u) v l := by
  obtain ⟨⟨hl, sa', cap, rfl, h1, h2, h3⟩, hv⟩ := h
  refine ⟨⟨hl, sa', cap, rfl, h1, h2, fun hp => ?_⟩, fun a' n c e => (hv a' n c e).imp id fun ⟨h4, cs, e', z, h5, h6⟩ => ⟨h4, ?_⟩⟩
  · obtain ⟨b, off, rfl, hc⟩ := h3 hp
    refine ⟨b, off, rfl, fun j x hx => ?_⟩
    rw [World.cell?_setCell_other (w := W) (a := a) (b := ⟨b, off + j, none⟩) (v := u) (fun e => ?_)]
    · exact hc j x hx
    · have h7 := hc j x hx
      rw [← e, ha] at h7
      have h8 := List.mem_of_getElem? hx
      cases h7
      simp only [ents, List.mem_flatMap, Ent.cells, List.mem_cons, List.not_mem_nil, or_false] at h8
      obtain ⟨y, _, h8⟩ := h8
      simp at h8
  · by_cases hb : a'.block = a.block
    · rw [hb, setCell_at W a u (hb ▸ h5)]
      simp only [Option.some.injEq]
      exact ⟨_, _, _, rfl, h6⟩
    · exact ⟨cs, e', z, by rw [heap_setCell_other _ _ _ _ hb]; exact h5, h6⟩
theorem REnt.old {K K' : Blk} {W : World} {v : Value} {l : List Ent} (h : REnt K W v l) (hK : ∀ b, K b → b < W.heap.size → K' b) : REnt K' W v l :=
  ⟨h.has, fun a n c e => (h.vis a n c e).imp id fun ⟨h1, cs, e', z, h5, h6⟩ => ⟨hK _ h1 (heap_lt h5), cs, e', z, h5, h6⟩⟩
def shR (lo : Nat) (Gr : Blk) : Shd := ⟨fun b => b < lo, fun _ _ => False, Gr⟩
/-- The lists, between two rounds. -/
structure RSt (lo bl n cap : Nat) (va : Option Addr) (rl : Nat) (V : Nat → Value) (ls : Nat → List Ent) (Rr K : Blk) (W0 W : World) : Prop where
  cl : W.cell? ⟨bl, 0, none⟩ = some (.slice va n cap)
  fl : ∃ c e, W.heap[bl]? = some (.cells c e (0, 0))
  lv : ∀ j, j < n → W.cell? ⟨rl, j, none⟩ = some (V j)
  ent : ∀ j, j < n → REnt Rr W (V j) (ls j)
  lt : ∀ b, Rr b → b < W.heap.size
  lo : lo ≤ W.heap.size
  gl : Try.prog.globals.size ≤ W.heap.size
  keep : Keep K W0 W
/-- Whose the blocks are. -/
structure ROk (lo bl n rl : Nat) (va : Option Addr) (Own Rr K : Blk) : Prop where
  own : ∀ b, Rr b → Own b ∨ b < lo
  obl : Own bl
  rbl : Rr bl
  rK : ∀ b, K b → Rr b
  kbl : ¬ K bl
  va : 0 < n → va = some ⟨rl, 0, none⟩ ∧ Rr rl
theorem RSt.rely {lo bl n cap rl : Nat} {va : Option Addr} {V : Nat → Value} {ls : Nat → List Ent} {Rr K Own : Blk} {Sh : Shd} {W0 W W1 : World} (hO : ROk lo bl n rl va Own Rr K) (hS : ∀ b, b < lo → Sh b) (h : RSt lo bl n cap va rl V ls Rr K W0 W) (hr : Rely Own Sh W W1) : RSt lo bl n cap va rl V ls Rr K W0 W1 := by
  have hR : ∀ b, Rr b → Own b ∨ Sh b := fun b hb => (hO.own b hb).imp id (hS b)
  obtain ⟨c, e, hf⟩ := h.fl
  exact {
    cl := hr.cell?' (.inl hO.obl) h.cl
    fl := ⟨c, e, hr.kept _ _ (.inl hO.obl) hf⟩
    lv := fun j hj => hr.cell?' ((hR _ (hO.va (by omega)).2).imp id .inl) (h.lv j hj)
    ent := fun j hj => (h.ent j hj).rely hr hR
    lt := fun b hb => Nat.lt_of_lt_of_le (h.lt b hb) hr.size
    lo := Nat.le_trans h.lo hr.size
    gl := Nat.le_trans h.gl hr.size
    keep := h.keep.rely hr fun b hb => hR b (hO.rK b hb) }
theorem RSt.set {lo bl n cap rl : Nat} {va : Option Addr} {V : Nat → Value} {ls : Nat → List Ent} {Rr K Own : Blk} {W0 W : World} (hO : ROk lo bl n rl va Own Rr K) (h : RSt lo bl n cap va rl V ls Rr K W0 W) {b : Nat} {v : Value} (hb : ¬ Rr b) : RSt lo bl n cap va rl V ls Rr K W0 (W.setCell ⟨b, 0, none⟩ v) := by
  have hn : ∀ x, Rr x → x ≠ b := fun x hx e => hb (e ▸ hx)
  have hc : ∀ (a : Addr) (u : Value), a.block ≠ b → W.cell? a = some u → (W.setCell ⟨b, 0, none⟩ v).cell? a = some u := fun a u ha hu => by
    rw [World.cell?_setCell_other (w := W) (a := ⟨b, 0, none⟩) (b := a) (v := v) (fun e => ha (by rw [← e]))]
    exact hu
  obtain ⟨c, e, hf⟩ := h.fl
  exact {
    cl := hc _ _ (hn _ hO.rbl) h.cl
    fl := ⟨c, e, by rw [heap_setCell_other _ _ _ _ (hn _ hO.rbl)]; exact hf⟩
    lv := fun j hj => hc _ _ (hn _ (hO.va (by omega)).2) (h.lv j hj)
    ent := fun j hj => (h.ent j hj).kept fun c o hcK ho => by rw [heap_setCell_other _ _ _ _ (hn c hcK)]; exact ho
    lt := fun x hx => by simpa using h.lt x hx
    lo := Nat.le_trans h.lo (Nat.le_of_eq (by simp))
    gl := Nat.le_trans h.gl (Nat.le_of_eq (by simp))
    keep := h.keep.set fun hk => hb (hO.rK b hk) }
def nextL (n : Nat) (ls : Nat → List Ent) (j : Nat) : List Ent := if 2 * j + 1 = n then ls (2 * j) else mergeL (ls (2 * j)) (ls (2 * j + 1))
/-- Behind the join. -/
structure AJ (lo bl bn bc C C2 n m cap : Nat) (va : Option Addr) (V : Nat → Value) (ls : Nat → List Ent) (Rr K : Blk) (W0 W : World) : Prop where
  cl : W.cell? ⟨bl, 0, none⟩ = some (.slice va n cap)
  fl : ∃ c e, W.heap[bl]? = some (.cells c e (0, 0))
  cn : W.cell? ⟨bn, 0, none⟩ = some (.slice (some ⟨C, 0, none⟩) m m)
  cc : W.cell? ⟨bc, 0, none⟩ = some (.slice (some ⟨C2, 0, none⟩) m m)
  ok : ∀ j, j < m → W.cell? ⟨C2, j, none⟩ = some (.int .i64 0)
  lv : ∀ j, j < m → W.cell? ⟨C, j, none⟩ = some (V j)
  ent : ∀ j, j < m → REnt Rr W (V j) (ls j)
  lt : ∀ b, Rr b → b < W.heap.size
  lo : lo ≤ W.heap.size
  gl : Try.prog.globals.size ≤ W.heap.size
  keep : Keep K W0 W
structure AOk (lo bl bn bc C C2 : Nat) (Own Rr K : Blk) : Prop where
  own : ∀ b, Rr b → Own b ∨ b < lo
  obl : Own bl
  obn : Own bn
  obc : Own bc
  oC : Own C
  oC2 : Own C2
  rbl : Rr bl
  rC : Rr C
  rK : ∀ b, K b → Rr b
  kbl : ¬ K bl
  ne : C ≠ bl
theorem AJ.rely {lo bl bn bc C C2 n m cap : Nat} {va : Option Addr} {V : Nat → Value} {ls : Nat → List Ent} {Rr K Own : Blk} {Sh : Shd} {W0 W W1 : World} (hO : AOk lo bl bn bc C C2 Own Rr K) (hS : ∀ b, b < lo → Sh b) (h : AJ lo bl bn bc C C2 n m cap va V ls Rr K W0 W) (hr : Rely Own Sh W W1) : AJ lo bl bn bc C C2 n m cap va V ls Rr K W0 W1 := by
  have hR : ∀ b, Rr b → Own b ∨ Sh b := fun b hb => (hO.own b hb).imp id (hS b)
  obtain ⟨c, e, hf⟩ := h.fl
  exact {
    cl := hr.cell?' (.inl hO.obl) h.cl
    fl := ⟨c, e, hr.kept _ _ (.inl hO.obl) hf⟩
    cn := hr.cell?' (.inl hO.obn) h.cn
    cc := hr.cell?' (.inl hO.obc) h.cc
    ok := fun j hj => hr.cell?' (.inl hO.oC2) (h.ok j hj)
    lv := fun j hj => hr.cell?' (.inl hO.oC) (h.lv j hj)
    ent := fun j hj => (h.ent j hj).rely hr hR
    lt := fun b hb => Nat.lt_of_lt_of_le (h.lt b hb) hr.size
    lo := Nat.le_trans h.lo hr.size
    gl := Nat.le_trans h.gl hr.size
    keep := h.keep.rely hr fun b hb => hR b (hO.rK b hb) }
/-- The lists of the next round take the lists' place. -/
theorem AJ.store {lo bl bn bc C C2 n m cap : Nat} {va : Option Addr} {V : Nat → Value} {ls : Nat → List Ent} {Rr K Own : Blk} {W0 W : World} (hO : AOk lo bl bn bc C C2 Own Rr K) (h : AJ lo bl bn bc C C2 n m cap va V ls Rr K W0 W) : RSt lo bl m m (some ⟨C, 0, none⟩) C V ls Rr K W0 (W.setCell ⟨bl, 0, none⟩ (.slice (some ⟨C, 0, none⟩) m m)) := by
  obtain ⟨c, e, hf⟩ := h.fl
  exact {
    cl := World.cell?_setCell_same (w := W) (a := ⟨bl, 0, none⟩) (v := .slice (some ⟨C, 0, none⟩) m m) h.cl
    fl := ⟨_, e, by rw [setCell_at W ⟨bl, 0, none⟩ _ hf]⟩
    lv := fun j hj => by
      rw [World.cell?_setCell_other (w := W) (a := ⟨bl, 0, none⟩) (b := ⟨C, j, none⟩) (v := .slice (some ⟨C, 0, none⟩) m m) (fun e => hO.ne (congrArg Addr.block e).symm)]
      exact h.lv j hj
    ent := fun j hj => (h.ent j hj).setS h.cl
    lt := fun x hx => by simpa using h.lt x hx
    lo := Nat.le_trans h.lo (Nat.le_of_eq (by simp))
    gl := Nat.le_trans h.gl (Nat.le_of_eq (by simp))
    keep := h.keep.set hO.kbl }
theorem AOk.next {lo bl bn bc C C2 m : Nat} {Own Rr K : Blk} (h : AOk lo bl bn bc C C2 Own Rr K) : ROk lo bl m C (some ⟨C, 0, none⟩) Own Rr K := ⟨h.own, h.obl, h.rbl, h.rK, h.kbl, fun _ => ⟨rfl, h.rC⟩⟩
section
variable {W00 : World} {lo : Nat} {Post : Value → World → Prop} {K : Blk} {W0 : World} {RB : List Frame} {kk : List Item}
set_option maxRecDepth 100000 in
set_option maxHeartbeats 16000000 in
/-- Behind the go statements. -/
theorem joined {E : WEnv} {R0 : Blk} (hE : MOk E R0 K) {n0 : Nat} {Gr Rr : Blk} {va : Option Addr} (hva : va = some ⟨E.rl, 0, none⟩) (hlo : ∀ b, b < lo → R0 b) (hRr : ∀ b, Rr b → R0 b) (hbl : lo ≤ E.bl ∧ lo ≤ E.bn ∧ lo ≤ E.bc ∧ lo ≤ E.C ∧ lo ≤ E.C2) (hkb : ¬ K E.bl) (hKs : ∀ b, K b → b < W0.heap.size)
    (hx : ∀ n' Wg' Gr' Own' Rr' V' A, ROk lo E.bl E.m E.C (some ⟨E.C, 0, none⟩) Own' Rr' K → A.tmps.size = 55 → A.defers = [] → Sl A 1 (.pointer (some ⟨E.bl, 0, none⟩)) →
      Rt (MGo Try.prog W00 lo Post n' (fun _ => none) .ret Wg' 0 0 (shR lo Gr')) RB (base 11) (.inLoop lpC :: .inBlock 1 :: kk) Own' A (RSt lo E.bl E.m E.m (some ⟨E.C, 0, none⟩) E.C V' (nextL E.n E.ls) Rr' K W0)) :
    ∀ R jobs A W, lo ≤ W.heap.size → MJ E n0 R R0 E.m jobs → A.tmps.size = 55 → A.defers = [] → Sl A 1 (.pointer (some ⟨E.bl, 0, none⟩)) → Sl A 4 (.pointer (some ⟨E.bn, 0, none⟩)) → Sl A 5 (.pointer (some ⟨E.bc, 0, none⟩)) → Sl A 6 (.pointer (some ⟨E.Wg, 0, none⟩)) → MS E R0 K W0 E.m W → (∃ c e, W.heap[E.bl]? = some (.cells c e (0, 0))) →
      MGo Try.prog W00 lo Post (n0 + E.m) jobs .kd E.Wg E.m 0 (shM E R Gr E.m) (fun _ => False) (Conc.G ((base 11).at A (.code (.seq q15 (.seq (.seq q16 (.block 5 (.loop cdC))) q22)) :: .inBlock 2 :: .inLoop lpC :: .inBlock 1 :: kk)) RB) W := by
  have hB : (base 11).kind ≠ .early := by simp [base]
  have hm := hE.m
  have hn2 := hE.n2
  intro R jobs A W hlW hj hsz hdf s1 s4 s5 s6 hW hfl
  have hJ := jud_mgo Try.prog W00 lo Post (n0 + E.m) jobs (tag := .kd) (by simp) E.Wg E.m 0 (shM E R Gr E.m)
  obtain ⟨c, e, hfl⟩ := hfl
  have hz : Stable (fun _ => False) (shM E R Gr E.m) (fun W => (lo ≤ W.heap.size ∧ W.heap[E.bl]? = some (.cells c e (0, 0))) ∧ MS E R0 K W0 E.m W) := fun W W1 hr z => ⟨⟨Nat.le_trans z.1.1 hr.size, hr.kept _ _ (.inr (hj.le _ hE.bl)) z.1.2⟩, z.2.rely hE hj.le hr⟩
  refine (show Rt (MGo Try.prog W00 lo Post (n0 + E.m) jobs .kd E.Wg E.m 0 (shM E R Gr E.m)) RB (base 11) _ (fun _ => False) A (fun W => (lo ≤ W.heap.size ∧ W.heap[E.bl]? = some (.cells c e (0, 0))) ∧ MS E R0 K W0 E.m W) from ?_) W ⟨⟨hlW, hfl⟩, hW⟩
  clear hW W hlW hfl
  refine rt_seq hJ hz ?_
  rw [show q15 = .region 15 (regOps (q15)) false from by kernel_rfl]
  refine rt_region hJ hz ?_
  rw [show List.range (regOps (q15)).size = [0] from by kernel_rfl]
  obtain ⟨o, ho, hop, hg, hdst⟩ : ∃ o, (regOps (q15))[0]? = some o ∧ o.op = .call { callee := .value (.func 23), args := #[.tmp 6], argTypes := #[65] } ∧ o.guard = none ∧ o.dst = some 36 := ⟨((regOps (q15))[0]?).getD default, by kernel_rfl, by kernel_rfl, by kernel_rfl, by kernel_rfl⟩
  have hmine : ∀ (vals : Nat → Value) (owns : Nat → Blk) (w : World) (b : Nat), Mine (fun _ => False) (shM E R Gr E.m) jobs owns b ∨ R b → Mine (fun _ => False) (shM E R Gr E.m) jobs owns b ∨ R b := fun _ _ _ _ h => h
  clear hmine
  refine rt_wait1 hz hB ho hg hop s6.eval (.inr rfl) ⟨fun h => h, fun h => (hj.sep _ h).2.2 rfl, fun o h => h.1.elim (fun e => hE.neW.1 e.symm) fun e => hE.neW.2 e.symm⟩ (by omega) (fun W z => z.2.wg) (O := fun w vals owns b => (Mine (fun _ => False) (shM E R Gr E.m) jobs owns b ∨ R b) ∧ lo ≤ b) (S := fun _ _ _ => shR lo (fun b => Gr b ∨ b = E.Wg)) (fun w vals owns z hh => ⟨fun b h => h.1.imp id fun h' => ⟨h.2, h'⟩, fun b h => .inr (hj.le b (hlo b h)), fun _ _ h => h.elim, fun _ h => h, fun b h h' => Nat.lt_irrefl _ (Nat.lt_of_lt_of_le h' h.2), fun _ _ h => h.elim⟩) fun w vals owns w' z hh hr => ?_
  clear hz hJ
  obtain ⟨⟨hlw, hfl⟩, z⟩ := z
  obtain ⟨O, hO⟩ : ∃ O : Blk, O = fun b => (Mine (fun _ => False) (shM E R Gr E.m) jobs owns b ∨ R b) ∧ lo ≤ b := ⟨_, rfl⟩
  rw [← hO] at hr ⊢
  have hOR : ∀ b, R b → lo ≤ b → O b := fun b h1 h2 => by rw [hO]; exact ⟨.inr h1, h2⟩
  have hRlo : ∀ b, R b → O b ∨ b < lo := fun b h => if h1 : b < lo then .inr h1 else .inl (hOR b h (by omega))
  have hm1 : 0 < E.m := by have := hE.n1; omega
  have hCm : ∀ b, (b = E.C ∨ b = E.C2) → O b := fun b h => by
    obtain ⟨bi, Sc, h1, h2, h3⟩ := hj.job 0 hm1
    rw [hO]
    refine ⟨?_, by rcases h with rfl | rfl; exact hbl.2.2.2.1; exact hbl.2.2.2.2⟩
    exact .inl (.inr (.inr (.inr ⟨_, _, 0, h1, (h3 b 0).2 ⟨h, rfl⟩⟩)))
  obtain ⟨Rr', hRr'⟩ : ∃ Rr' : Blk, Rr' = fun b => (O b ∨ b < lo) ∧ b < w.heap.size := ⟨_, rfl⟩
  have hjob : ∀ j, j < E.m → w.cell? ⟨E.C, j, none⟩ = some (vals (n0 + j)) ∧ REnt Rr' w (vals (n0 + j)) (nextL E.n E.ls j) ∧ w.cell? ⟨E.C2, j, none⟩ = some (.int .i64 0) := fun j hjm => by
    obtain ⟨bi, Sc, h1, h2, h3⟩ := hj.job j hjm
    obtain ⟨h4, h5, h6⟩ := hh.val _ _ h1
    refine ⟨h4, h5.old fun b hb hlt => ?_, h6⟩
    rw [hRr']
    refine ⟨?_, hlt⟩
    rcases hb with hb | hb
    · refine .inl ?_
      rw [hO]
      refine ⟨.inl (.inr (.inl ⟨_, _, h1, hb⟩)), ?_⟩
      have := (hh.own _ _ b h1 hb).2.2
      exact Nat.le_of_not_lt fun h => this (hj.le b (hlo b h))
    · exact hRlo b (h2 b hb)
  have hsz0 : ∀ b, R0 b → b < w.heap.size → Rr' b := fun b h1 h2 => by rw [hRr']; exact ⟨hRlo b (hj.le b h1), h2⟩
  have hAO : AOk lo E.bl E.bn E.bc E.C E.C2 O Rr' K := {
    own := fun b h => by rw [hRr'] at h; exact h.1
    obl := hOR _ (hj.le _ hE.bl) hbl.1
    obn := hOR _ (hj.le _ hE.bn) hbl.2.1
    obc := hOR _ (hj.le _ hE.bc) hbl.2.2.1
    oC := hCm _ (.inl rfl)
    oC2 := hCm _ (.inr rfl)
    rbl := hsz0 _ hE.bl (cell_lt z.cl)
    rC := by rw [hRr']; exact ⟨.inl (hCm _ (.inl rfl)), cell_lt (hjob 0 hm1).1⟩
    rK := fun b h => hsz0 _ (hE.K b h) (Nat.lt_of_lt_of_le (hKs b h) z.keep.size)
    kbl := hkb
    ne := fun e => (hj.sep _ (hj.le _ hE.bl)).1 e.symm }
  have hA : AJ lo E.bl E.bn E.bc E.C E.C2 E.n E.m E.cap va (fun j => vals (n0 + j)) (nextL E.n E.ls) Rr' K W0 w := ⟨hva ▸ z.cl, ⟨c, e, hfl⟩, z.cn, z.cc, fun j h => (hjob j h).2.2, fun j h => (hjob j h).1, fun j h => (hjob j h).2.1, fun b h => by rw [hRr'] at h; exact h.2, hlw, z.gl, z.keep⟩
  clear hjob hsz0 hRr' hCm hOR hRlo hh hj hO hE hlo hRr hbl hkb hm1 hKs z hlw hfl
  have hJ := jud_mgo Try.prog W00 lo Post (n0 + E.m) (fun _ => none) (tag := .ret) (by simp) E.Wg 0 0 (shR lo (fun b => Gr b ∨ b = E.Wg))
  have hz : Stable O (shR lo (fun b => Gr b ∨ b = E.Wg)) (AJ lo E.bl E.bn E.bc E.C E.C2 E.n E.m E.cap va (fun j => vals (n0 + j)) (nextL E.n E.ls) Rr' K W0) := fun W W1 hr z => z.rely hAO (fun _ h => h) hr
  have hA' := hz _ _ hr hA
  clear hA hr
  revert hA'
  rw [hdst]
  suffices hs : Rt (MGo Try.prog W00 lo Post (n0 + E.m) (fun _ => none) .ret E.Wg 0 0 (shR lo (fun b => Gr b ∨ b = E.Wg))) RB (base 11) (.inRegion (regOps q15) [] :: .code (.seq (.seq q16 (.block 5 (.loop cdC))) q22) :: .inBlock 2 :: .inLoop lpC :: .inBlock 1 :: kk) O (A.put (some 36) (.tuple #[])) (AJ lo E.bl E.bn E.bc E.C E.C2 E.n E.m E.cap va (fun j => vals (n0 + j)) (nextL E.n E.ls) Rr' K W0) from hs w'
  have hdst : some 36 = some 36 := rfl
  replace s1 := s1.ne (d := 36) (u := .tuple #[]) (by decide)
  replace s4 := s4.ne (d := 36) (u := .tuple #[]) (by decide)
  replace s5 := s5.ne (d := 36) (u := .tuple #[]) (by decide)
  replace hsz : (A.put (some 36) (.tuple #[])).tmps.size = 55 := (put_size _ _ _).trans hsz
  replace hdf : (A.put (some 36) (.tuple #[])).defers = [] := (put_defers _ _ _).trans hdf
  clear s6
  generalize A.put (some 36) (.tuple #[]) = A at *
  clear ho hop hg hdst
  refine rt_region_end hJ hz ?_
  refine rt_seq hJ hz ?_
  refine rt_seq hJ hz ?_
  rw [show q16 = .region 16 (regOps (q16)) false from by kernel_rfl]
  refine rt_region hJ hz ?_
  rw [show List.range (regOps (q16)).size = [0, 1, 2] from by kernel_rfl]
  obtain ⟨o, ho, hop, hg, hdst⟩ : ∃ o, (regOps (q16))[0]? = some o ∧ o.op = .load 50 (.tmp 5) ∧ o.guard = none ∧ o.dst = some 37 := ⟨((regOps (q16))[0]?).getD default, by kernel_rfl, by kernel_rfl, by kernel_rfl, by kernel_rfl⟩
  refine rt_val hJ hz hB ho hg (v := (.slice (some ⟨E.C2, 0, none⟩) E.m E.m)) (fun W z => loadEs hop s5.eval z.cc) (fun e he => by simp at he; subst he; exact .cell _ _ (.inl hAO.obc)) ?_
  rw [hdst]
  replace s1 := s1.ne (d := 37) (u := (.slice (some ⟨E.C2, 0, none⟩) E.m E.m)) (by decide)
  replace s4 := s4.ne (d := 37) (u := (.slice (some ⟨E.C2, 0, none⟩) E.m E.m)) (by decide)
  replace s5 := s5.ne (d := 37) (u := (.slice (some ⟨E.C2, 0, none⟩) E.m E.m)) (by decide)
  have s37 : Sl (A.put (some 37) (.slice (some ⟨E.C2, 0, none⟩) E.m E.m)) 37 (.slice (some ⟨E.C2, 0, none⟩) E.m E.m) := Sl.same (by rw [hsz]; decide)
  replace hsz : (A.put (some 37) (.slice (some ⟨E.C2, 0, none⟩) E.m E.m)).tmps.size = 55 := (put_size _ _ _).trans hsz
  replace hdf : (A.put (some 37) (.slice (some ⟨E.C2, 0, none⟩) E.m E.m)).defers = [] := (put_defers _ _ _).trans hdf
  generalize A.put (some 37) (.slice (some ⟨E.C2, 0, none⟩) E.m E.m) = A at *
  clear ho hop hg hdst
  obtain ⟨o, ho, hop, hg, hdst⟩ : ∃ o, (regOps (q16))[1]? = some o ∧ o.op = .call { callee := .builtin .len, args := #[.tmp 37], argTypes := #[50] } ∧ o.guard = none ∧ o.dst = some 38 := ⟨((regOps (q16))[1]?).getD default, by kernel_rfl, by kernel_rfl, by kernel_rfl, by kernel_rfl⟩
  refine rt_val hJ hz hB ho hg (v := (.int .i64 E.m)) (fun W z => lenEs hop s37.eval) (fun e he => by simp at he) ?_
  rw [hdst]
  replace s1 := s1.ne (d := 38) (u := (.int .i64 E.m)) (by decide)
  replace s4 := s4.ne (d := 38) (u := (.int .i64 E.m)) (by decide)
  replace s5 := s5.ne (d := 38) (u := (.int .i64 E.m)) (by decide)
  replace s37 := s37.ne (d := 38) (u := (.int .i64 E.m)) (by decide)
  have s38 : Sl (A.put (some 38) (.int .i64 E.m)) 38 (.int .i64 E.m) := Sl.same (by rw [hsz]; decide)
  replace hsz : (A.put (some 38) (.int .i64 E.m)).tmps.size = 55 := (put_size _ _ _).trans hsz
  replace hdf : (A.put (some 38) (.int .i64 E.m)).defers = [] := (put_defers _ _ _).trans hdf
  generalize A.put (some 38) (.int .i64 E.m) = A at *
  clear ho hop hg hdst
  obtain ⟨o, ho, hop, hg, hdst⟩ : ∃ o, (regOps (q16))[2]? = some o ∧ o.op = .move (.const (.int .i64 0)) ∧ o.guard = none ∧ o.dst = some 39 := ⟨((regOps (q16))[2]?).getD default, by kernel_rfl, by kernel_rfl, by kernel_rfl, by kernel_rfl⟩
  refine rt_val hJ hz hB ho hg (v := (.int .i64 ((0 : Nat) : Int))) (fun W z => move1 hop rfl) (fun e he => by simp at he) ?_
  rw [hdst]
  replace s1 := s1.ne (d := 39) (u := (.int .i64 ((0 : Nat) : Int))) (by decide)
  replace s4 := s4.ne (d := 39) (u := (.int .i64 ((0 : Nat) : Int))) (by decide)
  replace s5 := s5.ne (d := 39) (u := (.int .i64 ((0 : Nat) : Int))) (by decide)
  replace s37 := s37.ne (d := 39) (u := (.int .i64 ((0 : Nat) : Int))) (by decide)
  replace s38 := s38.ne (d := 39) (u := (.int .i64 ((0 : Nat) : Int))) (by decide)
  have s39 : Sl (A.put (some 39) (.int .i64 ((0 : Nat) : Int))) 39 (.int .i64 ((0 : Nat) : Int)) := Sl.same (by rw [hsz]; decide)
  replace hsz : (A.put (some 39) (.int .i64 ((0 : Nat) : Int))).tmps.size = 55 := (put_size _ _ _).trans hsz
  replace hdf : (A.put (some 39) (.int .i64 ((0 : Nat) : Int))).defers = [] := (put_defers _ _ _).trans hdf
  generalize A.put (some 39) (.int .i64 ((0 : Nat) : Int)) = A at *
  clear ho hop hg hdst
  refine rt_region_end hJ hz ?_
  refine rt_block hJ hz ?_
  refine rt_loop hJ hz ?_
  refine codes_loop hJ hz (by omega) hAO.oC2 (fun W z j h => z.ok j h) (fun A hsz hdf s1 s4 => ?_) E.m 0 A (by omega) (Nat.zero_le _) hsz hdf s1 s4 s37 s38 s39
  clear s5 s37 s38 s39
  rw [show q22 = .region 22 (regOps (q22)) false from by kernel_rfl]
  refine rt_region hJ hz ?_
  rw [show List.range (regOps (q22)).size = [0, 1] from by kernel_rfl]
  obtain ⟨o, ho, hop, hg, hdst⟩ : ∃ o, (regOps (q22))[0]? = some o ∧ o.op = .load 34 (.tmp 4) ∧ o.guard = none ∧ o.dst = some 47 := ⟨((regOps (q22))[0]?).getD default, by kernel_rfl, by kernel_rfl, by kernel_rfl, by kernel_rfl⟩
  refine rt_val hJ hz hB ho hg (v := (.slice (some ⟨E.C, 0, none⟩) E.m E.m)) (fun W z => loadLL hop s4.eval z.cn) (fun e he => by simp at he; subst he; exact .cell _ _ (.inl hAO.obn)) ?_
  rw [hdst]
  replace s1 := s1.ne (d := 47) (u := (.slice (some ⟨E.C, 0, none⟩) E.m E.m)) (by decide)
  replace s4 := s4.ne (d := 47) (u := (.slice (some ⟨E.C, 0, none⟩) E.m E.m)) (by decide)
  have s47 : Sl (A.put (some 47) (.slice (some ⟨E.C, 0, none⟩) E.m E.m)) 47 (.slice (some ⟨E.C, 0, none⟩) E.m E.m) := Sl.same (by rw [hsz]; decide)
  replace hsz : (A.put (some 47) (.slice (some ⟨E.C, 0, none⟩) E.m E.m)).tmps.size = 55 := (put_size _ _ _).trans hsz
  replace hdf : (A.put (some 47) (.slice (some ⟨E.C, 0, none⟩) E.m E.m)).defers = [] := (put_defers _ _ _).trans hdf
  generalize A.put (some 47) (.slice (some ⟨E.C, 0, none⟩) E.m E.m) = A at *
  clear ho hop hg hdst
  obtain ⟨o, ho, hop, hg, hdst⟩ : ∃ o, (regOps (q22))[1]? = some o ∧ o.op = .store 34 (.tmp 1) (.tmp 47) ∧ o.guard = none ∧ o.dst = none := ⟨((regOps (q22))[1]?).getD default, by kernel_rfl, by kernel_rfl, by kernel_rfl, by kernel_rfl⟩
  have hO' := hAO.next (m := E.m)
  refine rt_store hJ hz hB ho hg (ad := ⟨E.bl, 0, none⟩) (v := .slice (some ⟨E.C, 0, none⟩) E.m E.m) (Z' := RSt lo E.bl E.m E.m (some ⟨E.C, 0, none⟩) E.C (fun j => vals (n0 + j)) (nextL E.n E.ls) Rr' K W0) (fun W z => storeLL hop s1.eval s47.eval z.cl (by obtain ⟨c, e, hf⟩ := z.fl; exact frz_of hf)) hAO.obl (fun W z => z.store hAO) ?_
  rw [hdst]
  change Rt _ _ _ _ _ A _
  clear ho hop hg hdst hz
  have hz : Stable O (shR lo (fun b => Gr b ∨ b = E.Wg)) (RSt lo E.bl E.m E.m (some ⟨E.C, 0, none⟩) E.C (fun j => vals (n0 + j)) (nextL E.n E.ls) Rr' K W0) := fun W W1 hr z => z.rely hO' (fun _ h => h) hr
  refine rt_region_end hJ hz ?_
  refine rt_inBlock hJ hz ?_
  exact hx _ _ _ O Rr' _ A hO' hsz hdf s1
end
end Go.Proofs.Ytkodpijedinanaa.Sim

namespace Go.Proofs.Ytkodpijedinanaa.Sim
open Go Go.Conc
set_option linter.unusedVariables false
set_option linter.unusedSimpArgs false

theorem replicate_cell {W : World} {b n j : Nat} {v : Value} {e : TypeId} (h : W.heap[b]? = some (.cells (Array.replicate n v) e)) (hj : j < n) : W.cell? ⟨b, j, none⟩ = some v := by
  simp [World.cell?, h, hj]
theorem one_set {W : World} {b : Nat} {v u : Value} {e : TypeId} (h : W.heap[b]? = some (.cells #[v] e)) : (W.setCell ⟨b, 0, none⟩ u).heap[b]? = some (.cells #[u] e) := by
  rw [setCell_at W ⟨b, 0, none⟩ u h]; rfl
section
variable {W00 : World} {lo : Nat} {Post : Value → World → Prop} {K : Blk} {W0 : World} {RB : List Frame} {kk : List Item}
set_option maxRecDepth 100000 in
set_option maxHeartbeats 16000000 in
/-- A round. -/
theorem round {bl n cap rl : Nat} {va : Option Addr} {V : Nat → Value} {ls : Nat → List Ent} {Rr Own : Blk} {Gr : Blk} {n0 Wg0 Bd : Nat} (hn1 : 2 ≤ n) (hn2 : n ≤ 200) (hsix : ∀ j, j < n → MayL (ls j) ∧ (ls j).length ≤ 8) (hmrg : ∀ i j, i < n → j < n → (mergeL (ls i) (ls j)).length ≤ 8) (hO : ROk lo bl n rl va Own Rr K) (hKs : ∀ b, K b → b < W0.heap.size)
    (hx : ∀ n' Wg' Gr' Own' Rr' V' rl' A, ROk lo bl ((n + 1) / 2) rl' (some ⟨rl', 0, none⟩) Own' Rr' K → A.tmps.size = 55 → A.defers = [] → Sl A 1 (.pointer (some ⟨bl, 0, none⟩)) →
      Rt (MGo Try.prog W00 lo Post n' (fun _ => none) .ret Wg' 0 0 (shR lo Gr')) RB (base 11) (.inLoop lpC :: .inBlock 1 :: kk) Own' A (RSt lo bl ((n + 1) / 2) ((n + 1) / 2) (some ⟨rl', 0, none⟩) rl' V' (nextL n ls) Rr' K W0))
    {A : Act} (hsz : A.tmps.size = 55) (hdf : A.defers = []) (s1 : Sl A 1 (.pointer (some ⟨bl, 0, none⟩))) :
      Rt (MGo Try.prog W00 lo Post n0 (fun _ => none) .ret Wg0 Bd 0 (shR lo Gr)) RB (base 11) (.code bodyC :: .inBlock 2 :: .inLoop lpC :: .inBlock 1 :: kk) Own A (RSt lo bl n cap va rl V ls Rr K W0) := by
  have hB : (base 11).kind ≠ .early := by simp [base]
  obtain ⟨hva, hrl⟩ := hO.va (by omega)
  have hJ := jud_mgo Try.prog W00 lo Post n0 (fun _ => none) (tag := .ret) (by simp) Wg0 Bd 0 (shR lo Gr)
  have hz0 : Stable Own (shR lo Gr) (RSt lo bl n cap va rl V ls Rr K W0) := fun W W1 hr z => z.rely hO (fun _ h => h) hr
  obtain ⟨m, hm⟩ : ∃ m, m = (n + 1) / 2 := ⟨_, rfl⟩
  rw [← hm] at hx
  refine rt_low (by simp) fun hlo hsh _ => ?_
  rw [show (Item.code bodyC : Item) = _ from congrArg Item.code bodyC_eq]
  refine rt_seq hJ hz0 ?_
  rw [show q6 = .region 6 (regOps (q6)) false from by kernel_rfl]
  refine rt_region hJ hz0 ?_
  rw [show List.range (regOps (q6)).size = [0, 1, 2, 3, 4, 5, 6] from by kernel_rfl]
  obtain ⟨o, ho, hop, hg, hdst⟩ : ∃ o, (regOps (q6))[0]? = some o ∧ o.op = .load 34 (.tmp 1) ∧ o.guard = none ∧ o.dst = some 20 := ⟨((regOps (q6))[0]?).getD default, by kernel_rfl, by kernel_rfl, by kernel_rfl, by kernel_rfl⟩
  refine rt_val hJ hz0 hB ho hg (v := (.slice va n cap)) (fun W z => loadLL hop s1.eval z.cl) (fun e he => by simp at he; subst he; exact .cell _ _ (.inl hO.obl)) ?_
  rw [hdst]
  replace s1 := s1.ne (d := 20) (u := (.slice va n cap)) (by decide)
  have s20 : Sl (A.put (some 20) (.slice va n cap)) 20 (.slice va n cap) := Sl.same (by rw [hsz]; decide)
  replace hsz : (A.put (some 20) (.slice va n cap)).tmps.size = 55 := (put_size _ _ _).trans hsz
  replace hdf : (A.put (some 20) (.slice va n cap)).defers = [] := (put_defers _ _ _).trans hdf
  generalize A.put (some 20) (.slice va n cap) = A at *
  clear ho hop hg hdst
  obtain ⟨o, ho, hop, hg, hdst⟩ : ∃ o, (regOps (q6))[1]? = some o ∧ o.op = .call { callee := .builtin .len, args := #[.tmp 20], argTypes := #[34] } ∧ o.guard = none ∧ o.dst = some 21 := ⟨((regOps (q6))[1]?).getD default, by kernel_rfl, by kernel_rfl, by kernel_rfl, by kernel_rfl⟩
  refine rt_val hJ hz0 hB ho hg (v := (.int .i64 n)) (fun W z => lenLL hop s20.eval) (fun e he => by simp at he) ?_
  rw [hdst]
  replace s1 := s1.ne (d := 21) (u := (.int .i64 n)) (by decide)
  replace s20 := s20.ne (d := 21) (u := (.int .i64 n)) (by decide)
  have s21 : Sl (A.put (some 21) (.int .i64 n)) 21 (.int .i64 n) := Sl.same (by rw [hsz]; decide)
  replace hsz : (A.put (some 21) (.int .i64 n)).tmps.size = 55 := (put_size _ _ _).trans hsz
  replace hdf : (A.put (some 21) (.int .i64 n)).defers = [] := (put_defers _ _ _).trans hdf
  generalize A.put (some 21) (.int .i64 n) = A at *
  clear ho hop hg hdst
  obtain ⟨o, ho, hop, hg, hdst⟩ : ∃ o, (regOps (q6))[2]? = some o ∧ o.op = .binOp .add 3 (.tmp 21) (.const (.int .i64 1)) 3 ∧ o.guard = none ∧ o.dst = some 22 := ⟨((regOps (q6))[2]?).getD default, by kernel_rfl, by kernel_rfl, by kernel_rfl, by kernel_rfl⟩
  refine rt_val hJ hz0 hB ho hg (v := (.int .i64 ((n + 1 : Nat) : Int))) (fun W z => by have q := addI (w := W) hop s21.eval rfl (by omega); exact q) (fun e he => by simp at he) ?_
  rw [hdst]
  replace s1 := s1.ne (d := 22) (u := (.int .i64 ((n + 1 : Nat) : Int))) (by decide)
  replace s20 := s20.ne (d := 22) (u := (.int .i64 ((n + 1 : Nat) : Int))) (by decide)
  replace s21 := s21.ne (d := 22) (u := (.int .i64 ((n + 1 : Nat) : Int))) (by decide)
  have s22 : Sl (A.put (some 22) (.int .i64 ((n + 1 : Nat) : Int))) 22 (.int .i64 ((n + 1 : Nat) : Int)) := Sl.same (by rw [hsz]; decide)
  replace hsz : (A.put (some 22) (.int .i64 ((n + 1 : Nat) : Int))).tmps.size = 55 := (put_size _ _ _).trans hsz
  replace hdf : (A.put (some 22) (.int .i64 ((n + 1 : Nat) : Int))).defers = [] := (put_defers _ _ _).trans hdf
  generalize A.put (some 22) (.int .i64 ((n + 1 : Nat) : Int)) = A at *
  clear ho hop hg hdst
  obtain ⟨o, ho, hop, hg, hdst⟩ : ∃ o, (regOps (q6))[3]? = some o ∧ o.op = .binOp .quo 3 (.tmp 22) (.const (.int .i64 2)) 3 ∧ o.guard = none ∧ o.dst = some 23 := ⟨((regOps (q6))[3]?).getD default, by kernel_rfl, by kernel_rfl, by kernel_rfl, by kernel_rfl⟩
  refine rt_val hJ hz0 hB ho hg (v := (.int .i64 m)) (fun W z => by have q := quo2 (w := W) hop s22.eval rfl (by omega); rw [hm]; exact q) (fun e he => by simp at he) ?_
  rw [hdst]
  replace s1 := s1.ne (d := 23) (u := (.int .i64 m)) (by decide)
  replace s20 := s20.ne (d := 23) (u := (.int .i64 m)) (by decide)
  replace s21 := s21.ne (d := 23) (u := (.int .i64 m)) (by decide)
  replace s22 := s22.ne (d := 23) (u := (.int .i64 m)) (by decide)
  have s23 : Sl (A.put (some 23) (.int .i64 m)) 23 (.int .i64 m) := Sl.same (by rw [hsz]; decide)
  replace hsz : (A.put (some 23) (.int .i64 m)).tmps.size = 55 := (put_size _ _ _).trans hsz
  replace hdf : (A.put (some 23) (.int .i64 m)).defers = [] := (put_defers _ _ _).trans hdf
  generalize A.put (some 23) (.int .i64 m) = A at *
  clear ho hop hg hdst
  obtain ⟨o, ho, hop, hg, hdst⟩ : ∃ o, (regOps (q6))[4]? = some o ∧ o.op = .makeSlice 34 (.tmp 23) (.tmp 23) ∧ o.guard = none ∧ o.dst = some 24 := ⟨((regOps (q6))[4]?).getD default, by kernel_rfl, by kernel_rfl, by kernel_rfl, by kernel_rfl⟩
  refine rt_allocv hJ hz0 hB ho hg (ob := .cells (Array.replicate m (.slice none 0 0)) 35) (fun b => .slice (some ⟨b, 0, none⟩) m m) (fun W z => mkLL hop s23.eval (by omega)) fun C hC => ?_
  rw [hdst]
  replace s1 := s1.ne (d := 24) (u := (.slice (some ⟨C, 0, none⟩) m m)) (by decide)
  replace s20 := s20.ne (d := 24) (u := (.slice (some ⟨C, 0, none⟩) m m)) (by decide)
  replace s21 := s21.ne (d := 24) (u := (.slice (some ⟨C, 0, none⟩) m m)) (by decide)
  replace s22 := s22.ne (d := 24) (u := (.slice (some ⟨C, 0, none⟩) m m)) (by decide)
  replace s23 := s23.ne (d := 24) (u := (.slice (some ⟨C, 0, none⟩) m m)) (by decide)
  have s24 : Sl (A.put (some 24) (.slice (some ⟨C, 0, none⟩) m m)) 24 (.slice (some ⟨C, 0, none⟩) m m) := Sl.same (by rw [hsz]; decide)
  replace hsz : (A.put (some 24) (.slice (some ⟨C, 0, none⟩) m m)).tmps.size = 55 := (put_size _ _ _).trans hsz
  replace hdf : (A.put (some 24) (.slice (some ⟨C, 0, none⟩) m m)).defers = [] := (put_defers _ _ _).trans hdf
  generalize A.put (some 24) (.slice (some ⟨C, 0, none⟩) m m) = A at *
  clear ho hop hg hdst
  have hCR : ¬ Rr C ∧ lo ≤ C := by obtain ⟨W, z, rfl⟩ := hC; exact ⟨fun h => absurd (z.lt _ h) (Nat.lt_irrefl _), z.lo⟩
  clear hC
  have hz1 : Stable (fun x => Own x ∨ x = C) (shR lo Gr) fun W => RSt lo bl n cap va rl V ls Rr K W0 W ∧ W.heap[C]? = some (.cells (Array.replicate m (.slice none 0 0)) 35) := Stable.and (hz0.more fun x h => .inl h) (Stable.heap (.inl (.inr rfl)))
  obtain ⟨o, ho, hop, hg, hdst⟩ : ∃ o, (regOps (q6))[5]? = some o ∧ o.op = .alloc 34 ∧ o.guard = none ∧ o.dst = some 4 := ⟨((regOps (q6))[5]?).getD default, by kernel_rfl, by kernel_rfl, by kernel_rfl, by kernel_rfl⟩
  refine rt_allocv hJ hz1 hB ho hg (ob := .cells #[.slice none 0 0] 34) (fun b => .pointer (some ⟨b, 0, none⟩)) (fun W z => allocLL hop) fun bn hbn => ?_
  rw [hdst]
  replace s1 := s1.ne (d := 4) (u := (.pointer (some ⟨bn, 0, none⟩))) (by decide)
  replace s20 := s20.ne (d := 4) (u := (.pointer (some ⟨bn, 0, none⟩))) (by decide)
  replace s21 := s21.ne (d := 4) (u := (.pointer (some ⟨bn, 0, none⟩))) (by decide)
  replace s22 := s22.ne (d := 4) (u := (.pointer (some ⟨bn, 0, none⟩))) (by decide)
  replace s23 := s23.ne (d := 4) (u := (.pointer (some ⟨bn, 0, none⟩))) (by decide)
  replace s24 := s24.ne (d := 4) (u := (.pointer (some ⟨bn, 0, none⟩))) (by decide)
  have s4 : Sl (A.put (some 4) (.pointer (some ⟨bn, 0, none⟩))) 4 (.pointer (some ⟨bn, 0, none⟩)) := Sl.same (by rw [hsz]; decide)
  replace hsz : (A.put (some 4) (.pointer (some ⟨bn, 0, none⟩))).tmps.size = 55 := (put_size _ _ _).trans hsz
  replace hdf : (A.put (some 4) (.pointer (some ⟨bn, 0, none⟩))).defers = [] := (put_defers _ _ _).trans hdf
  generalize A.put (some 4) (.pointer (some ⟨bn, 0, none⟩)) = A at *
  clear ho hop hg hdst
  have hbnR : ¬ Rr bn ∧ lo ≤ bn ∧ bn ≠ C := by obtain ⟨W, z, rfl⟩ := hbn; exact ⟨fun h => absurd (z.1.lt _ h) (Nat.lt_irrefl _), z.1.lo, fun e => by have := heap_lt z.2; omega⟩
  clear hbn
  have hz2 : Stable (fun x => (Own x ∨ x = C) ∨ x = bn) (shR lo Gr) fun W => (RSt lo bl n cap va rl V ls Rr K W0 W ∧ W.heap[C]? = some (.cells (Array.replicate m (.slice none 0 0)) 35)) ∧ W.heap[bn]? = some (.cells #[.slice none 0 0] 34) := Stable.and (hz1.more fun x h => .inl h) (Stable.heap (.inl (.inr rfl)))
  have hz3 : Stable (fun x => (Own x ∨ x = C) ∨ x = bn) (shR lo Gr) fun W => (RSt lo bl n cap va rl V ls Rr K W0 W ∧ W.heap[C]? = some (.cells (Array.replicate m (.slice none 0 0)) 35)) ∧ W.heap[bn]? = some (.cells #[(.slice (some ⟨C, 0, none⟩) m m)] 34) := Stable.and (hz1.more fun x h => .inl h) (Stable.heap (.inl (.inr rfl)))
  obtain ⟨o, ho, hop, hg, hdst⟩ : ∃ o, (regOps (q6))[6]? = some o ∧ o.op = .store 34 (.tmp 4) (.tmp 24) ∧ o.guard = none ∧ o.dst = none := ⟨((regOps (q6))[6]?).getD default, by kernel_rfl, by kernel_rfl, by kernel_rfl, by kernel_rfl⟩
  refine rt_store hJ hz2 hB ho hg (ad := ⟨bn, 0, none⟩) (v := (.slice (some ⟨C, 0, none⟩) m m)) (Z' := fun W => (RSt lo bl n cap va rl V ls Rr K W0 W ∧ W.heap[C]? = some (.cells (Array.replicate m (.slice none 0 0)) 35)) ∧ W.heap[bn]? = some (.cells #[(.slice (some ⟨C, 0, none⟩) m m)] 34)) (fun W z => storeLL hop s4.eval s24.eval (cell_of z.2) (frz_of z.2)) (.inr rfl) (fun W z => ⟨⟨z.1.1.set hO hbnR.1, by rw [heap_setCell_other _ _ _ _ (fun e => hbnR.2.2 e.symm)]; exact z.1.2⟩, one_set z.2⟩) ?_
  rw [hdst]
  change Rt _ _ _ _ _ A _
  clear ho hop hg hdst hz2
  refine rt_region_end hJ hz3 ?_
  refine rt_seq hJ hz3 ?_
  rw [show q7 = .region 7 (regOps (q7)) false from by kernel_rfl]
  refine rt_region hJ hz3 ?_
  rw [show List.range (regOps (q7)).size = [0, 1, 2, 3, 4] from by kernel_rfl]
  obtain ⟨o, ho, hop, hg, hdst⟩ : ∃ o, (regOps (q7))[0]? = some o ∧ o.op = .load 34 (.tmp 4) ∧ o.guard = none ∧ o.dst = some 25 := ⟨((regOps (q7))[0]?).getD default, by kernel_rfl, by kernel_rfl, by kernel_rfl, by kernel_rfl⟩
  refine rt_val hJ hz3 hB ho hg (v := (.slice (some ⟨C, 0, none⟩) m m)) (fun W z => loadLL hop s4.eval (cell_of z.2)) (fun e he => by simp at he; subst he; exact .cell _ _ (.inl (.inr rfl))) ?_
  rw [hdst]
  replace s1 := s1.ne (d := 25) (u := (.slice (some ⟨C, 0, none⟩) m m)) (by decide)
  replace s20 := s20.ne (d := 25) (u := (.slice (some ⟨C, 0, none⟩) m m)) (by decide)
  replace s21 := s21.ne (d := 25) (u := (.slice (some ⟨C, 0, none⟩) m m)) (by decide)
  replace s22 := s22.ne (d := 25) (u := (.slice (some ⟨C, 0, none⟩) m m)) (by decide)
  replace s23 := s23.ne (d := 25) (u := (.slice (some ⟨C, 0, none⟩) m m)) (by decide)
  replace s24 := s24.ne (d := 25) (u := (.slice (some ⟨C, 0, none⟩) m m)) (by decide)
  replace s4 := s4.ne (d := 25) (u := (.slice (some ⟨C, 0, none⟩) m m)) (by decide)
  have s25 : Sl (A.put (some 25) (.slice (some ⟨C, 0, none⟩) m m)) 25 (.slice (some ⟨C, 0, none⟩) m m) := Sl.same (by rw [hsz]; decide)
  replace hsz : (A.put (some 25) (.slice (some ⟨C, 0, none⟩) m m)).tmps.size = 55 := (put_size _ _ _).trans hsz
  replace hdf : (A.put (some 25) (.slice (some ⟨C, 0, none⟩) m m)).defers = [] := (put_defers _ _ _).trans hdf
  generalize A.put (some 25) (.slice (some ⟨C, 0, none⟩) m m) = A at *
  clear ho hop hg hdst
  obtain ⟨o, ho, hop, hg, hdst⟩ : ∃ o, (regOps (q7))[1]? = some o ∧ o.op = .call { callee := .builtin .len, args := #[.tmp 25], argTypes := #[34] } ∧ o.guard = none ∧ o.dst = some 26 := ⟨((regOps (q7))[1]?).getD default, by kernel_rfl, by kernel_rfl, by kernel_rfl, by kernel_rfl⟩
  refine rt_val hJ hz3 hB ho hg (v := (.int .i64 m)) (fun W z => lenLL hop s25.eval) (fun e he => by simp at he) ?_
  rw [hdst]
  replace s1 := s1.ne (d := 26) (u := (.int .i64 m)) (by decide)
  replace s20 := s20.ne (d := 26) (u := (.int .i64 m)) (by decide)
  replace s21 := s21.ne (d := 26) (u := (.int .i64 m)) (by decide)
  replace s22 := s22.ne (d := 26) (u := (.int .i64 m)) (by decide)
  replace s23 := s23.ne (d := 26) (u := (.int .i64 m)) (by decide)
  replace s24 := s24.ne (d := 26) (u := (.int .i64 m)) (by decide)
  replace s4 := s4.ne (d := 26) (u := (.int .i64 m)) (by decide)
  replace s25 := s25.ne (d := 26) (u := (.int .i64 m)) (by decide)
  have s26 : Sl (A.put (some 26) (.int .i64 m)) 26 (.int .i64 m) := Sl.same (by rw [hsz]; decide)
  replace hsz : (A.put (some 26) (.int .i64 m)).tmps.size = 55 := (put_size _ _ _).trans hsz
  replace hdf : (A.put (some 26) (.int .i64 m)).defers = [] := (put_defers _ _ _).trans hdf
  generalize A.put (some 26) (.int .i64 m) = A at *
  clear ho hop hg hdst
  obtain ⟨o, ho, hop, hg, hdst⟩ : ∃ o, (regOps (q7))[2]? = some o ∧ o.op = .makeSlice 50 (.tmp 26) (.tmp 26) ∧ o.guard = none ∧ o.dst = some 27 := ⟨((regOps (q7))[2]?).getD default, by kernel_rfl, by kernel_rfl, by kernel_rfl, by kernel_rfl⟩
  refine rt_allocv hJ hz3 hB ho hg (ob := .cells (Array.replicate m (.int .i64 0)) 26) (fun b => .slice (some ⟨b, 0, none⟩) m m) (fun W z => mkEs hop s26.eval (by omega)) fun C2 hC2 => ?_
  rw [hdst]
  replace s1 := s1.ne (d := 27) (u := (.slice (some ⟨C2, 0, none⟩) m m)) (by decide)
  replace s20 := s20.ne (d := 27) (u := (.slice (some ⟨C2, 0, none⟩) m m)) (by decide)
  replace s21 := s21.ne (d := 27) (u := (.slice (some ⟨C2, 0, none⟩) m m)) (by decide)
  replace s22 := s22.ne (d := 27) (u := (.slice (some ⟨C2, 0, none⟩) m m)) (by decide)
  replace s23 := s23.ne (d := 27) (u := (.slice (some ⟨C2, 0, none⟩) m m)) (by decide)
  replace s24 := s24.ne (d := 27) (u := (.slice (some ⟨C2, 0, none⟩) m m)) (by decide)
  replace s4 := s4.ne (d := 27) (u := (.slice (some ⟨C2, 0, none⟩) m m)) (by decide)
  replace s25 := s25.ne (d := 27) (u := (.slice (some ⟨C2, 0, none⟩) m m)) (by decide)
  replace s26 := s26.ne (d := 27) (u := (.slice (some ⟨C2, 0, none⟩) m m)) (by decide)
  have s27 : Sl (A.put (some 27) (.slice (some ⟨C2, 0, none⟩) m m)) 27 (.slice (some ⟨C2, 0, none⟩) m m) := Sl.same (by rw [hsz]; decide)
  replace hsz : (A.put (some 27) (.slice (some ⟨C2, 0, none⟩) m m)).tmps.size = 55 := (put_size _ _ _).trans hsz
  replace hdf : (A.put (some 27) (.slice (some ⟨C2, 0, none⟩) m m)).defers = [] := (put_defers _ _ _).trans hdf
  generalize A.put (some 27) (.slice (some ⟨C2, 0, none⟩) m m) = A at *
  clear ho hop hg hdst
  have hC2R : ¬ Rr C2 ∧ lo ≤ C2 ∧ C2 ≠ C ∧ C2 ≠ bn := by obtain ⟨W, z, rfl⟩ := hC2; exact ⟨fun h => absurd (z.1.1.lt _ h) (Nat.lt_irrefl _), z.1.1.lo, fun e => by have := heap_lt z.1.2; omega, fun e => by have := heap_lt z.2; omega⟩
  clear hC2
  have hz4 : Stable (fun x => ((Own x ∨ x = C) ∨ x = bn) ∨ x = C2) (shR lo Gr) fun W => ((RSt lo bl n cap va rl V ls Rr K W0 W ∧ W.heap[C]? = some (.cells (Array.replicate m (.slice none 0 0)) 35)) ∧ W.heap[bn]? = some (.cells #[(.slice (some ⟨C, 0, none⟩) m m)] 34)) ∧ W.heap[C2]? = some (.cells (Array.replicate m (.int .i64 0)) 26) := Stable.and (hz3.more fun x h => .inl h) (Stable.heap (.inl (.inr rfl)))
  obtain ⟨o, ho, hop, hg, hdst⟩ : ∃ o, (regOps (q7))[3]? = some o ∧ o.op = .alloc 50 ∧ o.guard = none ∧ o.dst = some 5 := ⟨((regOps (q7))[3]?).getD default, by kernel_rfl, by kernel_rfl, by kernel_rfl, by kernel_rfl⟩
  refine rt_allocv hJ hz4 hB ho hg (ob := .cells #[.slice none 0 0] 50) (fun b => .pointer (some ⟨b, 0, none⟩)) (fun W z => allocEs hop) fun bc hbc => ?_
  rw [hdst]
  replace s1 := s1.ne (d := 5) (u := (.pointer (some ⟨bc, 0, none⟩))) (by decide)
  replace s20 := s20.ne (d := 5) (u := (.pointer (some ⟨bc, 0, none⟩))) (by decide)
  replace s21 := s21.ne (d := 5) (u := (.pointer (some ⟨bc, 0, none⟩))) (by decide)
  replace s22 := s22.ne (d := 5) (u := (.pointer (some ⟨bc, 0, none⟩))) (by decide)
  replace s23 := s23.ne (d := 5) (u := (.pointer (some ⟨bc, 0, none⟩))) (by decide)
  replace s24 := s24.ne (d := 5) (u := (.pointer (some ⟨bc, 0, none⟩))) (by decide)
  replace s4 := s4.ne (d := 5) (u := (.pointer (some ⟨bc, 0, none⟩))) (by decide)
  replace s25 := s25.ne (d := 5) (u := (.pointer (some ⟨bc, 0, none⟩))) (by decide)
  replace s26 := s26.ne (d := 5) (u := (.pointer (some ⟨bc, 0, none⟩))) (by decide)
  replace s27 := s27.ne (d := 5) (u := (.pointer (some ⟨bc, 0, none⟩))) (by decide)
  have s5 : Sl (A.put (some 5) (.pointer (some ⟨bc, 0, none⟩))) 5 (.pointer (some ⟨bc, 0, none⟩)) := Sl.same (by rw [hsz]; decide)
  replace hsz : (A.put (some 5) (.pointer (some ⟨bc, 0, none⟩))).tmps.size = 55 := (put_size _ _ _).trans hsz
  replace hdf : (A.put (some 5) (.pointer (some ⟨bc, 0, none⟩))).defers = [] := (put_defers _ _ _).trans hdf
  generalize A.put (some 5) (.pointer (some ⟨bc, 0, none⟩)) = A at *
  clear ho hop hg hdst
  have hbcR : ¬ Rr bc ∧ lo ≤ bc ∧ bc ≠ C ∧ bc ≠ bn ∧ bc ≠ C2 := by obtain ⟨W, z, rfl⟩ := hbc; exact ⟨fun h => absurd (z.1.1.1.lt _ h) (Nat.lt_irrefl _), z.1.1.1.lo, fun e => by have := heap_lt z.1.1.2; omega, fun e => by have := heap_lt z.1.2; omega, fun e => by have := heap_lt z.2; omega⟩
  clear hbc
  have hz5 : Stable (fun x => (((Own x ∨ x = C) ∨ x = bn) ∨ x = C2) ∨ x = bc) (shR lo Gr) fun W => (((RSt lo bl n cap va rl V ls Rr K W0 W ∧ W.heap[C]? = some (.cells (Array.replicate m (.slice none 0 0)) 35)) ∧ W.heap[bn]? = some (.cells #[(.slice (some ⟨C, 0, none⟩) m m)] 34)) ∧ W.heap[C2]? = some (.cells (Array.replicate m (.int .i64 0)) 26)) ∧ W.heap[bc]? = some (.cells #[.slice none 0 0] 50) := Stable.and (hz4.more fun x h => .inl h) (Stable.heap (.inl (.inr rfl)))
  have hz6 : Stable (fun x => (((Own x ∨ x = C) ∨ x = bn) ∨ x = C2) ∨ x = bc) (shR lo Gr) fun W => (((RSt lo bl n cap va rl V ls Rr K W0 W ∧ W.heap[C]? = some (.cells (Array.replicate m (.slice none 0 0)) 35)) ∧ W.heap[bn]? = some (.cells #[(.slice (some ⟨C, 0, none⟩) m m)] 34)) ∧ W.heap[C2]? = some (.cells (Array.replicate m (.int .i64 0)) 26)) ∧ W.heap[bc]? = some (.cells #[(.slice (some ⟨C2, 0, none⟩) m m)] 50) := Stable.and (hz4.more fun x h => .inl h) (Stable.heap (.inl (.inr rfl)))
  obtain ⟨o, ho, hop, hg, hdst⟩ : ∃ o, (regOps (q7))[4]? = some o ∧ o.op = .store 50 (.tmp 5) (.tmp 27) ∧ o.guard = none ∧ o.dst = none := ⟨((regOps (q7))[4]?).getD default, by kernel_rfl, by kernel_rfl, by kernel_rfl, by kernel_rfl⟩
  refine rt_store hJ hz5 hB ho hg (ad := ⟨bc, 0, none⟩) (v := (.slice (some ⟨C2, 0, none⟩) m m)) (Z' := fun W => (((RSt lo bl n cap va rl V ls Rr K W0 W ∧ W.heap[C]? = some (.cells (Array.replicate m (.slice none 0 0)) 35)) ∧ W.heap[bn]? = some (.cells #[(.slice (some ⟨C, 0, none⟩) m m)] 34)) ∧ W.heap[C2]? = some (.cells (Array.replicate m (.int .i64 0)) 26)) ∧ W.heap[bc]? = some (.cells #[(.slice (some ⟨C2, 0, none⟩) m m)] 50)) (fun W z => storeEs hop s5.eval s27.eval (cell_of z.2) (frz_of z.2)) (.inr rfl) (fun W z => ⟨⟨⟨⟨z.1.1.1.1.set hO hbcR.1, by rw [heap_setCell_other _ _ _ _ (fun e => hbcR.2.2.1 e.symm)]; exact z.1.1.1.2⟩, by rw [heap_setCell_other _ _ _ _ (fun e => hbcR.2.2.2.1 e.symm)]; exact z.1.1.2⟩, by rw [heap_setCell_other _ _ _ _ (fun e => hbcR.2.2.2.2 e.symm)]; exact z.1.2⟩, one_set z.2⟩) ?_
  rw [hdst]
  change Rt _ _ _ _ _ A _
  clear ho hop hg hdst hz5 hz0 hz1 hz3 hz4
  refine rt_region_end hJ hz6 ?_
  refine rt_seq hJ hz6 ?_
  rw [show q8 = .region 8 (regOps (q8)) false from by kernel_rfl]
  refine rt_region hJ hz6 ?_
  rw [show List.range (regOps (q8)).size = [0] from by kernel_rfl]
  obtain ⟨o, ho, hop, hg, hdst⟩ : ∃ o, (regOps (q8))[0]? = some o ∧ o.op = .alloc 65 ∧ o.guard = none ∧ o.dst = some 6 := ⟨((regOps (q8))[0]?).getD default, by kernel_rfl, by kernel_rfl, by kernel_rfl, by kernel_rfl⟩
  refine rt_mkgrp hz6 hB ho hg hop (fun _ => rfl) fun W z => ?_
  clear hJ
  have hWR : ¬ Rr W.heap.size ∧ W.heap.size ≠ C ∧ W.heap.size ≠ bn ∧ W.heap.size ≠ C2 ∧ W.heap.size ≠ bc ∧ lo ≤ W.heap.size := ⟨fun h => absurd (z.1.1.1.1.lt _ h) (Nat.lt_irrefl _), fun e => by have := heap_lt z.1.1.1.2; omega, fun e => by have := heap_lt z.1.1.2; omega, fun e => by have := heap_lt z.1.2; omega, fun e => by have := heap_lt z.2; omega, z.1.1.1.1.lo⟩
  have z' := hz6 _ _ (rely_alloc _ _ W (ConcR.wgBlock tyWg 0 0)) z
  have hgW : GrpAt W.heap.size (W.alloc (ConcR.wgBlock tyWg 0 0)) := ⟨0, 0, by show (W.heap.push _)[W.heap.size]? = _; simp⟩
  clear z
  revert z' hgW
  generalize W.alloc (ConcR.wgBlock tyWg 0 0) = W1
  generalize W.heap.size = Wg at *
  intro z' hgW
  rw [hdst]
  have hz7 : Stable (fun x => (((Own x ∨ x = C) ∨ x = bn) ∨ x = C2) ∨ x = bc) (shR lo (fun b => Gr b ∨ b = Wg)) fun W => ((((RSt lo bl n cap va rl V ls Rr K W0 W ∧ W.heap[C]? = some (.cells (Array.replicate m (.slice none 0 0)) 35)) ∧ W.heap[bn]? = some (.cells #[(.slice (some ⟨C, 0, none⟩) m m)] 34)) ∧ W.heap[C2]? = some (.cells (Array.replicate m (.int .i64 0)) 26)) ∧ W.heap[bc]? = some (.cells #[(.slice (some ⟨C2, 0, none⟩) m m)] 50)) ∧ GrpAt Wg W := Stable.and (fun W W1 hr z => hz6 W W1 ⟨hr.size, hr.kept, hr.shp, fun _ _ _ h => h.elim, fun b hb hg => hr.grp b (.inl hb) hg⟩ z) fun W W1 hr z => hr.grp _ (.inr rfl) z
  suffices hs : Rt (MGo Try.prog W00 lo Post n0 (fun _ => none) .kd Wg 0 0 (shR lo (fun b => Gr b ∨ b = Wg))) RB (base 11) (.inRegion (regOps q8) [] :: .code (.seq (.seq q9 (.block 3 (.loop spC))) (.seq q15 (.seq (.seq q16 (.block 5 (.loop cdC))) q22))) :: .inBlock 2 :: .inLoop lpC :: .inBlock 1 :: kk) (fun x => (((Own x ∨ x = C) ∨ x = bn) ∨ x = C2) ∨ x = bc) (A.put (some 6) (.pointer (some ⟨Wg, 0, none⟩))) (fun W => ((((RSt lo bl n cap va rl V ls Rr K W0 W ∧ W.heap[C]? = some (.cells (Array.replicate m (.slice none 0 0)) 35)) ∧ W.heap[bn]? = some (.cells #[(.slice (some ⟨C, 0, none⟩) m m)] 34)) ∧ W.heap[C2]? = some (.cells (Array.replicate m (.int .i64 0)) 26)) ∧ W.heap[bc]? = some (.cells #[(.slice (some ⟨C2, 0, none⟩) m m)] 50)) ∧ GrpAt Wg W) from hs W1 ⟨z', hgW⟩
  clear z' hgW hz6 W1 W
  have hdst : some 6 = some 6 := rfl
  replace s1 := s1.ne (d := 6) (u := (.pointer (some ⟨Wg, 0, none⟩))) (by decide)
  replace s20 := s20.ne (d := 6) (u := (.pointer (some ⟨Wg, 0, none⟩))) (by decide)
  replace s21 := s21.ne (d := 6) (u := (.pointer (some ⟨Wg, 0, none⟩))) (by decide)
  replace s22 := s22.ne (d := 6) (u := (.pointer (some ⟨Wg, 0, none⟩))) (by decide)
  replace s23 := s23.ne (d := 6) (u := (.pointer (some ⟨Wg, 0, none⟩))) (by decide)
  replace s24 := s24.ne (d := 6) (u := (.pointer (some ⟨Wg, 0, none⟩))) (by decide)
  replace s4 := s4.ne (d := 6) (u := (.pointer (some ⟨Wg, 0, none⟩))) (by decide)
  replace s25 := s25.ne (d := 6) (u := (.pointer (some ⟨Wg, 0, none⟩))) (by decide)
  replace s26 := s26.ne (d := 6) (u := (.pointer (some ⟨Wg, 0, none⟩))) (by decide)
  replace s27 := s27.ne (d := 6) (u := (.pointer (some ⟨Wg, 0, none⟩))) (by decide)
  replace s5 := s5.ne (d := 6) (u := (.pointer (some ⟨Wg, 0, none⟩))) (by decide)
  have s6 : Sl (A.put (some 6) (.pointer (some ⟨Wg, 0, none⟩))) 6 (.pointer (some ⟨Wg, 0, none⟩)) := Sl.same (by rw [hsz]; decide)
  replace hsz : (A.put (some 6) (.pointer (some ⟨Wg, 0, none⟩))).tmps.size = 55 := (put_size _ _ _).trans hsz
  replace hdf : (A.put (some 6) (.pointer (some ⟨Wg, 0, none⟩))).defers = [] := (put_defers _ _ _).trans hdf
  generalize A.put (some 6) (.pointer (some ⟨Wg, 0, none⟩)) = A at *
  clear ho hop hg hdst
  have hJ := jud_mgo Try.prog W00 lo Post n0 (fun _ => none) (tag := .kd) (by simp) Wg 0 0 (shR lo (fun b => Gr b ∨ b = Wg))
  refine rt_region_end hJ hz7 ?_
  refine rt_seq hJ hz7 ?_
  refine rt_seq hJ hz7 ?_
  rw [show q9 = .region 9 (regOps (q9)) false from by kernel_rfl]
  refine rt_region hJ hz7 ?_
  rw [show List.range (regOps (q9)).size = [0, 1, 2] from by kernel_rfl]
  obtain ⟨o, ho, hop, hg, hdst⟩ : ∃ o, (regOps (q9))[0]? = some o ∧ o.op = .load 34 (.tmp 4) ∧ o.guard = none ∧ o.dst = some 28 := ⟨((regOps (q9))[0]?).getD default, by kernel_rfl, by kernel_rfl, by kernel_rfl, by kernel_rfl⟩
  refine rt_val hJ hz7 hB ho hg (v := (.slice (some ⟨C, 0, none⟩) m m)) (fun W z => loadLL hop s4.eval (cell_of z.1.1.1.2)) (fun e he => by simp at he; subst he; exact .cell _ _ (.inl (.inl (.inl (.inr rfl))))) ?_
  rw [hdst]
  replace s1 := s1.ne (d := 28) (u := (.slice (some ⟨C, 0, none⟩) m m)) (by decide)
  replace s20 := s20.ne (d := 28) (u := (.slice (some ⟨C, 0, none⟩) m m)) (by decide)
  replace s21 := s21.ne (d := 28) (u := (.slice (some ⟨C, 0, none⟩) m m)) (by decide)
  replace s22 := s22.ne (d := 28) (u := (.slice (some ⟨C, 0, none⟩) m m)) (by decide)
  replace s23 := s23.ne (d := 28) (u := (.slice (some ⟨C, 0, none⟩) m m)) (by decide)
  replace s24 := s24.ne (d := 28) (u := (.slice (some ⟨C, 0, none⟩) m m)) (by decide)
  replace s4 := s4.ne (d := 28) (u := (.slice (some ⟨C, 0, none⟩) m m)) (by decide)
  replace s25 := s25.ne (d := 28) (u := (.slice (some ⟨C, 0, none⟩) m m)) (by decide)
  replace s26 := s26.ne (d := 28) (u := (.slice (some ⟨C, 0, none⟩) m m)) (by decide)
  replace s27 := s27.ne (d := 28) (u := (.slice (some ⟨C, 0, none⟩) m m)) (by decide)
  replace s5 := s5.ne (d := 28) (u := (.slice (some ⟨C, 0, none⟩) m m)) (by decide)
  replace s6 := s6.ne (d := 28) (u := (.slice (some ⟨C, 0, none⟩) m m)) (by decide)
  have s28 : Sl (A.put (some 28) (.slice (some ⟨C, 0, none⟩) m m)) 28 (.slice (some ⟨C, 0, none⟩) m m) := Sl.same (by rw [hsz]; decide)
  replace hsz : (A.put (some 28) (.slice (some ⟨C, 0, none⟩) m m)).tmps.size = 55 := (put_size _ _ _).trans hsz
  replace hdf : (A.put (some 28) (.slice (some ⟨C, 0, none⟩) m m)).defers = [] := (put_defers _ _ _).trans hdf
  generalize A.put (some 28) (.slice (some ⟨C, 0, none⟩) m m) = A at *
  clear ho hop hg hdst
  obtain ⟨o, ho, hop, hg, hdst⟩ : ∃ o, (regOps (q9))[1]? = some o ∧ o.op = .call { callee := .builtin .len, args := #[.tmp 28], argTypes := #[34] } ∧ o.guard = none ∧ o.dst = some 29 := ⟨((regOps (q9))[1]?).getD default, by kernel_rfl, by kernel_rfl, by kernel_rfl, by kernel_rfl⟩
  refine rt_val hJ hz7 hB ho hg (v := (.int .i64 m)) (fun W z => lenLL hop s28.eval) (fun e he => by simp at he) ?_
  rw [hdst]
  replace s1 := s1.ne (d := 29) (u := (.int .i64 m)) (by decide)
  replace s20 := s20.ne (d := 29) (u := (.int .i64 m)) (by decide)
  replace s21 := s21.ne (d := 29) (u := (.int .i64 m)) (by decide)
  replace s22 := s22.ne (d := 29) (u := (.int .i64 m)) (by decide)
  replace s23 := s23.ne (d := 29) (u := (.int .i64 m)) (by decide)
  replace s24 := s24.ne (d := 29) (u := (.int .i64 m)) (by decide)
  replace s4 := s4.ne (d := 29) (u := (.int .i64 m)) (by decide)
  replace s25 := s25.ne (d := 29) (u := (.int .i64 m)) (by decide)
  replace s26 := s26.ne (d := 29) (u := (.int .i64 m)) (by decide)
  replace s27 := s27.ne (d := 29) (u := (.int .i64 m)) (by decide)
  replace s5 := s5.ne (d := 29) (u := (.int .i64 m)) (by decide)
  replace s6 := s6.ne (d := 29) (u := (.int .i64 m)) (by decide)
  replace s28 := s28.ne (d := 29) (u := (.int .i64 m)) (by decide)
  have s29 : Sl (A.put (some 29) (.int .i64 m)) 29 (.int .i64 m) := Sl.same (by rw [hsz]; decide)
  replace hsz : (A.put (some 29) (.int .i64 m)).tmps.size = 55 := (put_size _ _ _).trans hsz
  replace hdf : (A.put (some 29) (.int .i64 m)).defers = [] := (put_defers _ _ _).trans hdf
  generalize A.put (some 29) (.int .i64 m) = A at *
  clear ho hop hg hdst
  obtain ⟨o, ho, hop, hg, hdst⟩ : ∃ o, (regOps (q9))[2]? = some o ∧ o.op = .move (.const (.int .i64 0)) ∧ o.guard = none ∧ o.dst = some 30 := ⟨((regOps (q9))[2]?).getD default, by kernel_rfl, by kernel_rfl, by kernel_rfl, by kernel_rfl⟩
  refine rt_val hJ hz7 hB ho hg (v := (.int .i64 ((0 : Nat) : Int))) (fun W z => move1 hop rfl) (fun e he => by simp at he) ?_
  rw [hdst]
  replace s1 := s1.ne (d := 30) (u := (.int .i64 ((0 : Nat) : Int))) (by decide)
  replace s20 := s20.ne (d := 30) (u := (.int .i64 ((0 : Nat) : Int))) (by decide)
  replace s21 := s21.ne (d := 30) (u := (.int .i64 ((0 : Nat) : Int))) (by decide)
  replace s22 := s22.ne (d := 30) (u := (.int .i64 ((0 : Nat) : Int))) (by decide)
  replace s23 := s23.ne (d := 30) (u := (.int .i64 ((0 : Nat) : Int))) (by decide)
  replace s24 := s24.ne (d := 30) (u := (.int .i64 ((0 : Nat) : Int))) (by decide)
  replace s4 := s4.ne (d := 30) (u := (.int .i64 ((0 : Nat) : Int))) (by decide)
  replace s25 := s25.ne (d := 30) (u := (.int .i64 ((0 : Nat) : Int))) (by decide)
  replace s26 := s26.ne (d := 30) (u := (.int .i64 ((0 : Nat) : Int))) (by decide)
  replace s27 := s27.ne (d := 30) (u := (.int .i64 ((0 : Nat) : Int))) (by decide)
  replace s5 := s5.ne (d := 30) (u := (.int .i64 ((0 : Nat) : Int))) (by decide)
  replace s6 := s6.ne (d := 30) (u := (.int .i64 ((0 : Nat) : Int))) (by decide)
  replace s28 := s28.ne (d := 30) (u := (.int .i64 ((0 : Nat) : Int))) (by decide)
  replace s29 := s29.ne (d := 30) (u := (.int .i64 ((0 : Nat) : Int))) (by decide)
  have s30 : Sl (A.put (some 30) (.int .i64 ((0 : Nat) : Int))) 30 (.int .i64 ((0 : Nat) : Int)) := Sl.same (by rw [hsz]; decide)
  replace hsz : (A.put (some 30) (.int .i64 ((0 : Nat) : Int))).tmps.size = 55 := (put_size _ _ _).trans hsz
  replace hdf : (A.put (some 30) (.int .i64 ((0 : Nat) : Int))).defers = [] := (put_defers _ _ _).trans hdf
  generalize A.put (some 30) (.int .i64 ((0 : Nat) : Int)) = A at *
  clear ho hop hg hdst
  refine rt_region_end hJ hz7 ?_
  refine rt_block hJ hz7 ?_
  refine rt_loop hJ hz7 ?_
  clear hz7 hJ
  obtain ⟨E, hE⟩ : ∃ E : WEnv, E = { bi := 0, bl := bl, bn := bn, bc := bc, rl := rl, C := C, C2 := C2, Wg := Wg, i := 0, n := n, m := m, cap := cap, V := V, ls := ls } := ⟨_, rfl⟩
  have hMK : ∀ K', (∀ b, K' b → (fun b => Rr b ∨ b < lo ∨ b = bn ∨ b = bc) b) → MOk E (fun b => Rr b ∨ b < lo ∨ b = bn ∨ b = bc) K' := fun K' hK' => by subst hE; exact ⟨.inl hO.rbl, .inr (.inr (.inl rfl)), .inr (.inr (.inr rfl)), .inl hrl, hK', fun e => hC2R.2.2.1 e.symm, ⟨fun e => hWR.2.1 e.symm, fun e => hWR.2.2.2.1 e.symm⟩, hm, hn1, hn2, hsix, hmrg⟩
  obtain ⟨R, hR⟩ : ∃ R : Blk, R = fun b => ((fun x => (((Own x ∨ x = C) ∨ x = bn) ∨ x = C2) ∨ x = bc) b ∨ b < lo) ∧ b ≠ C ∧ b ≠ C2 ∧ b ≠ Wg := ⟨_, rfl⟩
  have hRle : ∀ b, (fun b => Rr b ∨ b < lo ∨ b = bn ∨ b = bc) b → R b := fun b h => by
    rw [hR]
    rcases h with h | h | rfl | rfl
    · exact ⟨(hO.own b h).imp (fun h => .inl (.inl (.inl (.inl h)))) id, fun e => hCR.1 (e ▸ h), fun e => hC2R.1 (e ▸ h), fun e => hWR.1 (e ▸ h)⟩
    · exact ⟨.inr h, by omega, by omega, by omega⟩
    · exact ⟨.inl (.inl (.inl (.inr rfl))), hbnR.2.2, fun e => hC2R.2.2.2 e.symm, fun e => hWR.2.2.1 e.symm⟩
    · exact ⟨.inl (.inr rfl), hbcR.2.2.1, hbcR.2.2.2.2, fun e => hWR.2.2.2.2.1 e.symm⟩
  have hMJ : MJ E n0 R (fun b => Rr b ∨ b < lo ∨ b = bn ∨ b = bc) 0 (fun _ => none) := ⟨fun _ _ h => by simp at h, fun j h => absurd h (Nat.not_lt_zero j), hRle, fun b h => by rw [hR] at h; subst hE; exact h.2⟩
  refine rt_part (Own' := fun _ => False) (Sh' := shM E R Gr 0) (fun _ h => h.elim) (fun x h => ?_) (fun x o h => ?_) (fun x h => by subst hE; exact h) (fun _ h => h.elim) (fun x o h => ⟨fun h => h, fun h' => ?_⟩) ?_
  · have h : R x := h
    rw [hR] at h
    exact h.1.symm
  · subst hE
    rcases h.1 with e | e <;> subst e
    · exact .inr (.inl (.inl (.inl (.inr rfl))))
    · exact .inr (.inl (.inr rfl))
  · have h' : R x := h'
    have h2 := hMJ.sep x h'
    rcases h.1 with e | e
    · exact h2.1 e
    · exact h2.2.1 e
  intro W z
  have hMS : MS E (fun b => Rr b ∨ b < lo ∨ b = bn ∨ b = bc) (fun b => Rr b ∨ b < lo ∨ b = bn ∨ b = bc) W 0 W := by
    subst hE
    exact ⟨hva ▸ z.1.1.1.1.1.cl, cell_of z.1.1.1.2, cell_of z.1.2, z.1.1.1.1.1.lv, fun j hj => (z.1.1.1.1.1.ent j hj).mono fun b h => .inl h, ⟨_, z.1.1.1.1.2, by simp⟩, ⟨_, z.1.1.2, by simp⟩, fun j _ h => replicate_cell z.1.1.2 h, z.1.1.1.1.1.gl, z.2, .refl _ _⟩
  have hrun := spawn_loop (W00 := W00) (lo := lo) (n0 := n0) (Post := Post) (E := E) (R0 := (fun b => Rr b ∨ b < lo ∨ b = bn ∨ b = bc)) (K := (fun b => Rr b ∨ b < lo ∨ b = bn ∨ b = bc)) (Gr := Gr) (W0 := W) (RB := RB) (kx := .code (.seq q15 (.seq (.seq q16 (.block 5 (.loop cdC))) q22)) :: .inBlock 2 :: .inLoop lpC :: .inBlock 1 :: kk) (hMK _ fun _ h => h) (fun R jobs A W2 hj hsz hdf s1 s4 s5 s6 hW2 => ?_) m 0 R (fun _ => none) A W (by subst hE; rfl) (Nat.zero_le _) hMJ hsz hdf (by subst hE; exact s1) (by subst hE; exact s4) (by subst hE; exact s5) (by subst hE; exact s6) (by subst hE; exact s29) s30 hMS
  · subst hE; exact hrun
  have hkeep : Keep K W0 W2 := ⟨Nat.le_trans z.1.1.1.1.1.keep.size hW2.keep.size, fun b o hb ho => hW2.keep.heap b o (.inl (hO.rK b hb)) (z.1.1.1.1.1.keep.heap b o hb ho)⟩
  obtain ⟨c, e, hf⟩ := z.1.1.1.1.1.fl
  refine joined (W00 := W00) (lo := lo) (Post := Post) (K := K) (W0 := W0) (RB := RB) (kk := kk) (E := E) (R0 := (fun b => Rr b ∨ b < lo ∨ b = bn ∨ b = bc)) (n0 := n0) (Gr := Gr) (Rr := Rr) (va := va) (hMK K fun b h => .inl (hO.rK b h)) (by subst hE; exact hva) (fun b h => .inr (.inl h)) (fun b h => .inl h) (by subst hE; exact ⟨hlo _ hO.obl, hbnR.2.1, hbcR.2.1, hCR.2, hC2R.2.1⟩) (by subst hE; exact hO.kbl) hKs (fun n' Wg' Gr' Own' Rr' V' A h1 h2 h3 h4 => ?_) R jobs A W2 (Nat.le_trans z.1.1.1.1.1.lo hW2.keep.size) hj hsz hdf s1 s4 s5 s6 { hW2 with keep := hkeep } ⟨c, e, hW2.keep.heap _ _ (by subst hE; exact .inl hO.rbl) (by subst hE; exact hf)⟩
  subst hE
  exact hx n' Wg' Gr' Own' Rr' V' C A h1 h2 h3 h4
end
end Go.Proofs.Ytkodpijedinanaa.Sim

namespace Go.Proofs.Ytkodpijedinanaa
set_option linter.unusedVariables false
set_option linter.unusedSimpArgs false

theorem nw_iff (a b : Ent) : newer a b = true ↔ (b.t < a.t ∨ (a.t = b.t ∧ (b.h < a.h ∨ (a.h = b.h ∧ (flagI a.g < flagI b.g ∨ (flagI a.g = flagI b.g ∧ b.v < a.v)))))) := by
  simp only [newer, orI, cmpI]
  repeat' split
  all_goals first | omega | (simp_all; try omega)
theorem nw_irrefl (a : Ent) : newer a a = false := by
  rw [Bool.eq_false_iff, ne_eq, nw_iff]; omega
theorem nw_asymm {a b : Ent} (h : newer a b = true) : newer b a = false := by
  rw [Bool.eq_false_iff, ne_eq, nw_iff]; rw [nw_iff] at h; omega
theorem nw_trans {a b c : Ent} (h : newer a b = true) (k : newer b c = true) : newer a c = true := by
  rw [nw_iff] at *; omega
theorem nw_flag (a b : Bool) : flagI a = flagI b ↔ a = b := by cases a <;> cases b <;> simp [flagI]
theorem nw_total {a b : Ent} (hk : a.k = b.k) (h1 : newer a b = false) (h2 : newer b a = false) : a = b := by
  rw [Bool.eq_false_iff, ne_eq, nw_iff] at h1 h2
  have hg := nw_flag a.g b.g
  have h3 : a.t = b.t := by omega
  have h4 : a.h = b.h := by omega
  have h5 : a.v = b.v := by omega
  have h6 : a.g = b.g := hg.1 (by omega)
  cases a; cases b; simp_all
/-- The newer of two. -/
def mx (x y : Ent) : Ent := if newer y x = true then y else x
theorem mx_k {x y : Ent} (h : x.k = y.k) : (mx x y).k = x.k := by unfold mx; split <;> simp [h]
theorem mx_comm {x y : Ent} (h : x.k = y.k) : mx x y = mx y x := by
  unfold mx
  by_cases c1 : newer y x = true
  · rw [if_pos c1, if_neg (by rw [nw_asymm c1]; simp)]
  · rw [if_neg c1]
    by_cases c2 : newer x y = true
    · rw [if_pos c2]
    · rw [if_neg c2]; exact nw_total h (by simpa using c2) (by simpa using c1)
theorem mx_idem (x : Ent) : mx x x = x := by unfold mx; split <;> rfl
theorem mx_assoc {x y z : Ent} (h1 : x.k = y.k) (h2 : y.k = z.k) : mx (mx x y) z = mx x (mx y z) := by
  unfold mx
  by_cases c1 : newer y x = true
  · rw [if_pos c1]
    by_cases c2 : newer z y = true
    · rw [if_pos c2, if_pos (nw_trans c2 c1)]
    · rw [if_neg c2, if_pos c1]
  · rw [if_neg c1]
    by_cases c2 : newer z y = true
    · rw [if_pos c2]
    · rw [if_neg c2, if_neg c1]
      by_cases c3 : newer z x = true
      · exfalso
        by_cases c4 : newer x y = true
        · exact c2 (nw_trans c3 c4)
        · have := nw_total h1 (by simpa using c4) (by simpa using c1)
          rw [← this] at c2; exact c2 c3
      · rw [if_neg c3]
def jn : Option Ent → Option Ent → Option Ent
  | none, y => y
  | some x, none => some x
  | some x, some y => some (mx x y)
/-- An option of this key. -/
def Of (k : Int) (o : Option Ent) : Prop := ∀ x, o = some x → x.k = k
theorem jn_comm {k : Int} {a b : Option Ent} (ha : Of k a) (hb : Of k b) : jn a b = jn b a := by
  cases a with
  | none => cases b <;> rfl
  | some x => cases b with
    | none => rfl
    | some y => simp only [jn]; rw [mx_comm (by rw [ha x rfl, hb y rfl])]
theorem jn_idem (a : Option Ent) : jn a a = a := by cases a with
  | none => rfl
  | some x => simp only [jn, mx_idem]
theorem jn_assoc {k : Int} {a b c : Option Ent} (ha : Of k a) (hb : Of k b) (hc : Of k c) : jn (jn a b) c = jn a (jn b c) := by
  cases a with
  | none => rfl
  | some x => cases b with
    | none => rfl
    | some y => cases c with
      | none => rfl
      | some z => simp only [jn]; rw [mx_assoc (by rw [ha x rfl, hb y rfl]) (by rw [hb y rfl, hc z rfl])]
theorem look_of (l : List Ent) (k : Int) : Of k (look l k) := fun x hx => (look_some hx).2
theorem jn_of {k : Int} {a b : Option Ent} (ha : Of k a) (hb : Of k b) : Of k (jn a b) := by
  intro x hx
  cases a with
  | none => exact hb x hx
  | some y => cases b with
    | none => exact ha x hx
    | some z =>
      simp only [jn, Option.some.injEq] at hx
      rw [← hx, mx_k (by rw [ha y rfl, hb z rfl])]; exact ha y rfl
theorem newest_jn (o : Option Ent) (e : Ent) : some (newest o e) = jn o (some e) := by
  cases o with
  | none => rfl
  | some x => rfl
theorem look_mergeL {a : List Ent} (ha : MayL a) : ∀ (b : List Ent), MayL b → ∀ k, look (mergeL a b) k = jn (look a k) (look b k) := by
  intro b
  induction b generalizing a with
  | nil => intro _ k; show look a k = jn (look a k) none; cases look a k <;> rfl
  | cons e t ih =>
    intro hb k
    have hbs := hb.sorted
    rw [List.pairwise_cons] at hbs
    have hbt : MayL t := ⟨fun x hx => hb.ok x (List.mem_cons_of_mem _ hx), hbs.2⟩
    have h1 := ih (mergeOne_may ha (hb.ok e List.mem_cons_self)) hbt k
    have e0 : mergeL a (e :: t) = mergeL (mergeOne a e) t := rfl
    rw [e0, h1, look_merge a e ha.sorted, look_cons]
    by_cases c : k = e.k
    · rw [if_pos c, if_pos c.symm, newest_jn, look_none (l := t) fun x hx => by have := hbs.1 x hx; omega]
      cases look a k <;> rfl
    · rw [if_neg c, if_neg (fun h => c h.symm)]
theorem mergeL_comm {a b : List Ent} (ha : MayL a) (hb : MayL b) : mergeL a b = mergeL b a :=
  look_ext _ _ (mergeL_may ha hb.ok).sorted (mergeL_may hb ha.ok).sorted fun k => by
    rw [look_mergeL ha b hb, look_mergeL hb a ha, jn_comm (look_of a k) (look_of b k)]
theorem mergeL_assoc {a b c : List Ent} (ha : MayL a) (hb : MayL b) (hc : MayL c) : mergeL (mergeL a b) c = mergeL a (mergeL b c) :=
  have hab := mergeL_may ha hb.ok
  have hbc := mergeL_may hb hc.ok
  look_ext _ _ (mergeL_may hab hc.ok).sorted (mergeL_may ha hbc.ok).sorted fun k => by
    rw [look_mergeL hab c hc, look_mergeL ha b hb, look_mergeL ha _ hbc, look_mergeL hb c hc, jn_assoc (look_of a k) (look_of b k) (look_of c k)]
theorem mergeL_idem {a : List Ent} (ha : MayL a) : mergeL a a = a :=
  look_ext _ _ (mergeL_may ha ha.ok).sorted ha.sorted fun k => by rw [look_mergeL ha a ha, jn_idem]
theorem mergeL_absorb {a b : List Ent} (ha : MayL a) (hb : MayL b) : mergeL (mergeL a b) b = mergeL a b := by
  rw [mergeL_assoc ha hb hb, mergeL_idem hb]
/-- Few keys, few entries. -/
theorem sorted_len : ∀ (l : List Ent) (lo hi : Int), l.Pairwise (fun a b => a.k < b.k) → (∀ e ∈ l, lo ≤ e.k ∧ e.k < hi) → lo ≤ hi → (l.length : Int) ≤ hi - lo
  | [], lo, hi, _, _, h => by simp; omega
  | a :: t, lo, hi, hs, hb, h => by
    rw [List.pairwise_cons] at hs
    have h0 := hb a List.mem_cons_self
    have := sorted_len t (a.k + 1) hi hs.2 (fun e he => ⟨by have := hs.1 e he; omega, (hb e (List.mem_cons_of_mem _ he)).2⟩) (by omega)
    simp only [List.length_cons]; omega
/-- Entries of the laws: keys below 6. -/
structure SixL (l : List Ent) : Prop where
  may : MayL l
  six : ∀ e ∈ l, 0 ≤ e.k ∧ e.k < 6
theorem SixL.len {l : List Ent} (h : SixL l) : l.length ≤ 6 := by
  have := sorted_len l 0 6 h.may.sorted h.six (by omega); omega
theorem SixL.nil : SixL [] := ⟨⟨fun e he => by simp at he, List.Pairwise.nil⟩, fun e he => by simp at he⟩
theorem mergeL_mem {a b : List Ent} {x : Ent} (h : x ∈ mergeL a b) : x ∈ a ∨ x ∈ b := by
  induction b generalizing a with
  | nil => exact .inl h
  | cons e t ih =>
    rcases ih (a := mergeOne a e) h with h | h
    · rcases mergeOne_mem a e x h with rfl | h
      · exact .inr List.mem_cons_self
      · exact .inl h
    · exact .inr (List.mem_cons_of_mem _ h)
theorem SixL.merge {a b : List Ent} (ha : SixL a) (hb : SixL b) : SixL (mergeL a b) :=
  ⟨mergeL_may ha.may hb.may.ok, fun x hx => by
    rcases mergeL_mem hx with h | h
    · exact ha.six x h
    · exact hb.six x h⟩
end Go.Proofs.Ytkodpijedinanaa
