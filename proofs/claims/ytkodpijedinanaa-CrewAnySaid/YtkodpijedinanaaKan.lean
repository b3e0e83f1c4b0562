/- Texts that the claim imports, laid together: MwC MrL MwD. No statement of their own. -/
import Derived.Laws.MakeOwn
import Derived.Conc.AppendWalk
import Derived.Test.YtkodpijedinanaaKam
namespace Go.Proofs.Ytkodpijedinanaa.Sim
open Go Go.Conc
set_option linter.unusedVariables false
set_option linter.unusedSimpArgs false

noncomputable def cAll : Code := (Try.f11.body).getD .skip
noncomputable def lpC : Code := hd (hd (hd (tl (tl cAll))))
noncomputable def bodyC : Code := hd (tl lpC)
noncomputable def spC : Code := hd (hd (tl (hd (tl (tl (tl bodyC))))))
noncomputable def p10 : Code := hd spC
noncomputable def p11 : Code := hd (hd (hd (tl (tl spC))))
noncomputable def p12 : Code := hd (tl (hd (hd (tl (tl spC)))))
noncomputable def p13 : Code := tl (tl (hd (hd (tl (tl spC)))))
noncomputable def p14 : Code := tl (tl (tl spC))
/-- What older blocks hold stays. -/
structure Keep (K : Blk) (W0 W : World) : Prop where
  size : W0.heap.size ≤ W.heap.size
  heap : ∀ b o, K b → W0.heap[b]? = some o → W.heap[b]? = some o
theorem Keep.refl (K : Blk) (W : World) : Keep K W W := ⟨Nat.le_refl _, fun _ _ _ h => h⟩
theorem Keep.rely {K Own : Blk} {Sh : Shd} {W0 W W1 : World} (h : Keep K W0 W) (hr : Rely Own Sh W W1) (hK : ∀ b, K b → Own b ∨ Sh b) : Keep K W0 W1 := ⟨Nat.le_trans h.size hr.size, fun b o hb ho => hr.kept b o (hK b hb) (h.heap b o hb ho)⟩
theorem Keep.set {K : Blk} {W0 W : World} (h : Keep K W0 W) {a : Addr} {v : Value} (hn : ¬ K a.block) : Keep K W0 (W.setCell a v) := ⟨by simpa using h.size, fun b o hb ho => by
  rw [heap_setCell_other _ _ _ _ (fun e => hn (e ▸ hb))]
  exact h.heap b o hb ho⟩
/-- The lists, and what main has made for a round. -/
structure MS (E : WEnv) (R0 K : Blk) (W0 : World) (k : Nat) (W : World) : Prop where
  cl : W.cell? ⟨E.bl, 0, none⟩ = some (.slice (some ⟨E.rl, 0, none⟩) E.n E.cap)
  cn : W.cell? ⟨E.bn, 0, none⟩ = some (.slice (some ⟨E.C, 0, none⟩) E.m E.m)
  cc : W.cell? ⟨E.bc, 0, none⟩ = some (.slice (some ⟨E.C2, 0, none⟩) E.m E.m)
  lv : ∀ j, j < E.n → W.cell? ⟨E.rl, j, none⟩ = some (E.V j)
  ent : ∀ j, j < E.n → REnt R0 W (E.V j) (E.ls j)
  pay : ConcN.PayAt E.C E.m W
  pay2 : ∃ cs : Array Value, W.heap[E.C2]? = some (.cells cs 26) ∧ cs.size = E.m
  ok : ∀ j, k ≤ j → j < E.m → W.cell? ⟨E.C2, j, none⟩ = some (.int .i64 0)
  gl : Try.prog.globals.size ≤ W.heap.size
  wg : GrpAt E.Wg W
  keep : Keep K W0 W
/-- Where the round's blocks lie. -/
structure MOk (E : WEnv) (R0 K : Blk) : Prop where
  bl : R0 E.bl
  bn : R0 E.bn
  bc : R0 E.bc
  rl : R0 E.rl
  K : ∀ b, K b → R0 b
  ne : E.C ≠ E.C2
  neW : E.C ≠ E.Wg ∧ E.C2 ≠ E.Wg
  m : E.m = (E.n + 1) / 2
  n1 : 2 ≤ E.n
  n2 : E.n ≤ 200
  six : ∀ j, j < E.n → MayL (E.ls j) ∧ (E.ls j).length ≤ 8
  mrg : ∀ i j, i < E.n → j < E.n → (mergeL (E.ls i) (E.ls j)).length ≤ 8
def shM (E : WEnv) (R G : Blk) (k : Nat) : Shd := ⟨R, fun b o => (b = E.C ∨ b = E.C2) ∧ k ≤ o ∧ o < E.m, fun b => G b ∨ b = E.Wg⟩
theorem MS.rely {E : WEnv} {R0 K R G Own : Blk} {W0 : World} (hE : MOk E R0 K) (hR : ∀ b, R0 b → R b) {k : Nat} {W W1 : World} (h : MS E R0 K W0 k W) (hr : Rely Own (shM E R G k) W W1) : MS E R0 K W0 k W1 where
  cl := hr.cell?' (.inr (.inl (hR _ hE.bl))) h.cl
  cn := hr.cell?' (.inr (.inl (hR _ hE.bn))) h.cn
  cc := hr.cell?' (.inr (.inl (hR _ hE.bc))) h.cc
  lv := fun j hj => hr.cell?' (.inr (.inl (hR _ hE.rl))) (h.lv j hj)
  ent := fun j hj => (h.ent j hj).rely hr fun b hb => .inr (hR b hb)
  pay := by
    obtain ⟨cs, h1, h2⟩ := h.pay
    obtain ⟨c', h3, h4⟩ := hr.shp _ _ _ _ h1
    exact ⟨c', h3, h4.trans h2⟩
  pay2 := by
    obtain ⟨cs, h1, h2⟩ := h.pay2
    obtain ⟨c', h3, h4⟩ := hr.shp _ _ _ _ h1
    exact ⟨c', h3, h4.trans h2⟩
  ok := fun j h1 h2 => hr.cell?' (.inr (.inr ⟨⟨.inr rfl, h1, h2⟩, rfl⟩)) (h.ok j h1 h2)
  gl := Nat.le_trans h.gl hr.size
  wg := hr.grp _ (.inr rfl) h.wg
  keep := h.keep.rely hr fun b hb => .inr (hR _ (hE.K b hb))
theorem MS.set {E : WEnv} {R0 K : Blk} {W0 : World} (hE : MOk E R0 K) {k : Nat} {W : World} (h : MS E R0 K W0 k W) {b : Nat} {v : Value} (h1 : ¬ R0 b) (h2 : b ≠ E.C ∧ b ≠ E.C2 ∧ b ≠ E.Wg) : MS E R0 K W0 k (W.setCell ⟨b, 0, none⟩ v) := by
  have hc : ∀ (a : Addr) (u : Value), a.block ≠ b → W.cell? a = some u → (W.setCell ⟨b, 0, none⟩ v).cell? a = some u := fun a u ha hu => by
    rw [World.cell?_setCell_other (w := W) (a := ⟨b, 0, none⟩) (b := a) (v := v) (fun e => ha (by rw [← e]))]
    exact hu
  have hn : ∀ x, R0 x → x ≠ b := fun x hx e => h1 (e ▸ hx)
  exact {
    cl := hc _ _ (hn _ hE.bl) h.cl
    cn := hc _ _ (hn _ hE.bn) h.cn
    cc := hc _ _ (hn _ hE.bc) h.cc
    lv := fun j hj => hc _ _ (hn _ hE.rl) (h.lv j hj)
    ent := fun j hj => (h.ent j hj).kept fun c o hcK ho => by rw [heap_setCell_other _ _ _ _ (hn c hcK)]; exact ho
    pay := by obtain ⟨cs, h3, h4⟩ := h.pay; exact ⟨cs, by rw [heap_setCell_other _ _ _ _ (fun e => h2.1 e.symm)]; exact h3, h4⟩
    pay2 := by obtain ⟨cs, h3, h4⟩ := h.pay2; exact ⟨cs, by rw [heap_setCell_other _ _ _ _ (fun e => h2.2.1 e.symm)]; exact h3, h4⟩
    ok := fun j h3 h4 => hc _ _ (fun e => h2.2.1 e.symm) (h.ok j h3 h4)
    gl := Nat.le_trans h.gl (Nat.le_of_eq (by simp))
    wg := by obtain ⟨p, q, hw⟩ := h.wg; exact ⟨p, q, by show (W.setCell _ _).heap[E.Wg]? = _; rw [heap_setCell_other _ _ _ _ (fun e => h2.2.2 e.symm)]; exact hw⟩
    keep := h.keep.set fun hk => h1 (hE.K b hk) }
theorem MS.next {E : WEnv} {R0 K : Blk} {W0 : World} {k k' : Nat} {W : World} (h : MS E R0 K W0 k W) (hk : k ≤ k') : MS E R0 K W0 k' W := { h with ok := fun j h1 h2 => h.ok j (Nat.le_trans hk h1) h2 }
/-- The workers of the round so far: which they are, what is shared. -/
structure MJ (E : WEnv) (n0 : Nat) (R R0 : Blk) (k : Nat) (jobs : Nat → Option Job) : Prop where
  out : ∀ a jb, jobs a = some jb → ∃ j, j < k ∧ a = n0 + j
  job : ∀ j, j < k → ∃ bi Sc, jobs (n0 + j) = some (jobE { E with bi := bi, i := j } Sc) ∧ (∀ b, Sc.rd b → R b) ∧ (∀ b o, Sc.cel b o ↔ (b = E.C ∨ b = E.C2) ∧ o = j)
  le : ∀ b, R0 b → R b
  sep : ∀ b, R b → b ≠ E.C ∧ b ≠ E.C2 ∧ b ≠ E.Wg
theorem size_at {E : WEnv} {R0 K : Blk} {W0 : World} {k : Nat} {W : World} (h : MS E R0 K W0 k W) : E.C ≠ W.heap.size ∧ E.C2 ≠ W.heap.size :=
  ⟨fun e => absurd (pay_lt h.pay) (by omega), fun e => absurd (pay_lt2 h.pay2) (by omega)⟩
section
variable {W00 : World} {lo n0 : Nat} {Post : Value → World → Prop} {E : WEnv} {R0 K Gr : Blk} {W0 : World} {RB : List Frame} {kx : List Item}
set_option maxRecDepth 100000 in
set_option maxHeartbeats 8000000 in
/-- The go statements of a round. -/
theorem spawn_loop (hE : MOk E R0 K)
    (hx : ∀ R jobs A W, MJ E n0 R R0 E.m jobs → A.tmps.size = 55 → A.defers = [] → Sl A 1 (.pointer (some ⟨E.bl, 0, none⟩)) → Sl A 4 (.pointer (some ⟨E.bn, 0, none⟩)) → Sl A 5 (.pointer (some ⟨E.bc, 0, none⟩)) → Sl A 6 (.pointer (some ⟨E.Wg, 0, none⟩)) → MS E R0 K W0 E.m W →
      MGo Try.prog W00 lo Post (n0 + E.m) jobs .kd E.Wg E.m 0 (shM E R Gr E.m) (fun _ => False) (Conc.G ((base 11).at A kx) RB) W) :
    ∀ d k R jobs A W, d = E.m - k → k ≤ E.m → MJ E n0 R R0 k jobs → A.tmps.size = 55 → A.defers = [] → Sl A 1 (.pointer (some ⟨E.bl, 0, none⟩)) → Sl A 4 (.pointer (some ⟨E.bn, 0, none⟩)) → Sl A 5 (.pointer (some ⟨E.bc, 0, none⟩)) → Sl A 6 (.pointer (some ⟨E.Wg, 0, none⟩)) → Sl A 29 (.int .i64 E.m) → Sl A 30 (.int .i64 k) → MS E R0 K W0 k W →
      MGo Try.prog W00 lo Post (n0 + k) jobs .kd E.Wg k 0 (shM E R Gr k) (fun _ => False) (Conc.G ((base 11).at A (.code spC :: .inLoop spC :: .inBlock 3 :: kx)) RB) W := by
  have hB : (base 11).kind ≠ .early := by simp [base]
  have e0 : spC = .seq p10 (.seq (.cond (.tmp 31) .skip (.exit 3)) (.seq (.block 4 (.seq p11 (.seq p12 p13))) p14)) := by kernel_rfl
  have hm := hE.m
  have hn2 := hE.n2
  intro d
  induction d with
  | zero =>
    intro k R jobs A W hd hk hj hsz hdf s1 s4 s5 s6 s29 s30 hW
    obtain rfl : k = E.m := by omega
    have hJ := jud_mgo Try.prog W00 lo Post (n0 + E.m) jobs (tag := .kd) (by simp) E.Wg E.m 0 (shM E R Gr E.m)
    have hz : Stable (fun _ => False) (shM E R Gr E.m) (MS E R0 K W0 E.m) := fun W W1 hr z => z.rely hE hj.le hr
    refine (show Rt (MGo Try.prog W00 lo Post (n0 + E.m) jobs .kd E.Wg E.m 0 (shM E R Gr E.m)) RB (base 11) (.code spC :: .inLoop spC :: .inBlock 3 :: kx) (fun _ => False) A (MS E R0 K W0 E.m) from ?_) W hW
    clear hW W
    rw [show (Item.code spC : Item) = .code (.seq p10 (.seq (.cond (.tmp 31) .skip (.exit 3)) (.seq (.block 4 (.seq p11 (.seq p12 p13))) p14))) from congrArg Item.code e0]
    refine rt_seq hJ hz ?_
    rw [show p10 = .region 10 (regOps (p10)) false from by kernel_rfl]
    refine rt_region hJ hz ?_
    rw [show List.range (regOps (p10)).size = [0] from by kernel_rfl]
    obtain ⟨o, ho, hop, hg, hdst⟩ : ∃ o, (regOps (p10))[0]? = some o ∧ o.op = .binOp .lss 3 (.tmp 30) (.tmp 29) 3 ∧ o.guard = none ∧ o.dst = some 31 := ⟨((regOps (p10))[0]?).getD default, by kernel_rfl, by kernel_rfl, by kernel_rfl, by kernel_rfl⟩
    refine rt_val hJ hz hB ho hg (v := (.bool false)) (fun W z => by have q := ltI (w := W) hop s30.eval s29.eval; rw [show decide (((E.m : Nat) : Int) < (E.m : Int)) = false from by simp; try omega] at q; exact q) (fun e he => by simp at he) ?_
    rw [hdst]
    replace s1 := s1.ne (d := 31) (u := (.bool false)) (by decide)
    replace s4 := s4.ne (d := 31) (u := (.bool false)) (by decide)
    replace s5 := s5.ne (d := 31) (u := (.bool false)) (by decide)
    replace s6 := s6.ne (d := 31) (u := (.bool false)) (by decide)
    replace s29 := s29.ne (d := 31) (u := (.bool false)) (by decide)
    replace s30 := s30.ne (d := 31) (u := (.bool false)) (by decide)
    have s31 : Sl (A.put (some 31) (.bool false)) 31 (.bool false) := Sl.same (by rw [hsz]; decide)
    replace hsz : (A.put (some 31) (.bool false)).tmps.size = 55 := (put_size _ _ _).trans hsz
    replace hdf : (A.put (some 31) (.bool false)).defers = [] := (put_defers _ _ _).trans hdf
    generalize A.put (some 31) (.bool false) = A at *
    clear ho hop hg hdst
    refine rt_region_end hJ hz ?_
    refine rt_seq hJ hz ?_
    refine rt_cond hJ hz (b := false) s31.eval ?_
    simp only [Bool.false_eq_true, if_false]
    refine rt_exit hJ hz (k' := kx) (by simp [exitTo]) ?_
    exact fun W z => hx R jobs A W hj hsz hdf s1 s4 s5 s6 z
  | succ d ih =>
    intro k R jobs A W hd hk hj hsz hdf s1 s4 s5 s6 s29 s30 hW
    have hkm : k < E.m := by omega
    have hJ := jud_mgo Try.prog W00 lo Post (n0 + k) jobs (tag := .kd) (by simp) E.Wg k 0 (shM E R Gr k)
    have hz : Stable (fun _ => False) (shM E R Gr k) (MS E R0 K W0 k) := fun W W1 hr z => z.rely hE hj.le hr
    refine (show Rt (MGo Try.prog W00 lo Post (n0 + k) jobs .kd E.Wg k 0 (shM E R Gr k)) RB (base 11) (.code spC :: .inLoop spC :: .inBlock 3 :: kx) (fun _ => False) A (MS E R0 K W0 k) from ?_) W hW
    clear hW W
    rw [show (Item.code spC : Item) = .code (.seq p10 (.seq (.cond (.tmp 31) .skip (.exit 3)) (.seq (.block 4 (.seq p11 (.seq p12 p13))) p14))) from congrArg Item.code e0]
    refine rt_seq hJ hz ?_
    rw [show p10 = .region 10 (regOps (p10)) false from by kernel_rfl]
    refine rt_region hJ hz ?_
    rw [show List.range (regOps (p10)).size = [0] from by kernel_rfl]
    obtain ⟨o, ho, hop, hg, hdst⟩ : ∃ o, (regOps (p10))[0]? = some o ∧ o.op = .binOp .lss 3 (.tmp 30) (.tmp 29) 3 ∧ o.guard = none ∧ o.dst = some 31 := ⟨((regOps (p10))[0]?).getD default, by kernel_rfl, by kernel_rfl, by kernel_rfl, by kernel_rfl⟩
    refine rt_val hJ hz hB ho hg (v := (.bool true)) (fun W z => by have q := ltI (w := W) hop s30.eval s29.eval; rw [show decide (((k : Nat) : Int) < (E.m : Int)) = true from by simp; try omega] at q; exact q) (fun e he => by simp at he) ?_
    rw [hdst]
    replace s1 := s1.ne (d := 31) (u := (.bool true)) (by decide)
    replace s4 := s4.ne (d := 31) (u := (.bool true)) (by decide)
    replace s5 := s5.ne (d := 31) (u := (.bool true)) (by decide)
    replace s6 := s6.ne (d := 31) (u := (.bool true)) (by decide)
    replace s29 := s29.ne (d := 31) (u := (.bool true)) (by decide)
    replace s30 := s30.ne (d := 31) (u := (.bool true)) (by decide)
    have s31 : Sl (A.put (some 31) (.bool true)) 31 (.bool true) := Sl.same (by rw [hsz]; decide)
    replace hsz : (A.put (some 31) (.bool true)).tmps.size = 55 := (put_size _ _ _).trans hsz
    replace hdf : (A.put (some 31) (.bool true)).defers = [] := (put_defers _ _ _).trans hdf
    generalize A.put (some 31) (.bool true) = A at *
    clear ho hop hg hdst
    refine rt_region_end hJ hz ?_
    refine rt_seq hJ hz ?_
    refine rt_cond hJ hz (b := true) s31.eval ?_
    simp only [if_true]
    refine rt_skip hJ hz ?_
    refine rt_seq hJ hz ?_
    refine rt_block hJ hz ?_
    refine rt_seq hJ hz ?_
    rw [show p11 = .region 11 (regOps (p11)) false from by kernel_rfl]
    refine rt_region hJ hz ?_
    rw [show List.range (regOps (p11)).size = [0, 1, 2] from by kernel_rfl]
    obtain ⟨o, ho, hop, hg, hdst⟩ : ∃ o, (regOps (p11))[0]? = some o ∧ o.op = .move (.tmp 30) ∧ o.guard = none ∧ o.dst = some 32 := ⟨((regOps (p11))[0]?).getD default, by kernel_rfl, by kernel_rfl, by kernel_rfl, by kernel_rfl⟩
    refine rt_val hJ hz hB ho hg (v := (.int .i64 k)) (fun W z => move1 hop s30.eval) (fun e he => by simp at he) ?_
    rw [hdst]
    replace s1 := s1.ne (d := 32) (u := (.int .i64 k)) (by decide)
    replace s4 := s4.ne (d := 32) (u := (.int .i64 k)) (by decide)
    replace s5 := s5.ne (d := 32) (u := (.int .i64 k)) (by decide)
    replace s6 := s6.ne (d := 32) (u := (.int .i64 k)) (by decide)
    replace s29 := s29.ne (d := 32) (u := (.int .i64 k)) (by decide)
    replace s30 := s30.ne (d := 32) (u := (.int .i64 k)) (by decide)
    replace s31 := s31.ne (d := 32) (u := (.int .i64 k)) (by decide)
    have s32 : Sl (A.put (some 32) (.int .i64 k)) 32 (.int .i64 k) := Sl.same (by rw [hsz]; decide)
    replace hsz : (A.put (some 32) (.int .i64 k)).tmps.size = 55 := (put_size _ _ _).trans hsz
    replace hdf : (A.put (some 32) (.int .i64 k)).defers = [] := (put_defers _ _ _).trans hdf
    generalize A.put (some 32) (.int .i64 k) = A at *
    clear ho hop hg hdst
    obtain ⟨o, ho, hop, hg, hdst⟩ : ∃ o, (regOps (p11))[1]? = some o ∧ o.op = .alloc 3 ∧ o.guard = none ∧ o.dst = some 7 := ⟨((regOps (p11))[1]?).getD default, by kernel_rfl, by kernel_rfl, by kernel_rfl, by kernel_rfl⟩
    refine rt_alloc hJ hz hB ho hg (ob := .cells #[.int .i64 0] 3) (fun W z => alloc3 hop) fun b hb => ?_
    rw [hdst]
    replace s1 := s1.ne (d := 7) (u := (.pointer (some ⟨b, 0, none⟩))) (by decide)
    replace s4 := s4.ne (d := 7) (u := (.pointer (some ⟨b, 0, none⟩))) (by decide)
    replace s5 := s5.ne (d := 7) (u := (.pointer (some ⟨b, 0, none⟩))) (by decide)
    replace s6 := s6.ne (d := 7) (u := (.pointer (some ⟨b, 0, none⟩))) (by decide)
    replace s29 := s29.ne (d := 7) (u := (.pointer (some ⟨b, 0, none⟩))) (by decide)
    replace s30 := s30.ne (d := 7) (u := (.pointer (some ⟨b, 0, none⟩))) (by decide)
    replace s31 := s31.ne (d := 7) (u := (.pointer (some ⟨b, 0, none⟩))) (by decide)
    replace s32 := s32.ne (d := 7) (u := (.pointer (some ⟨b, 0, none⟩))) (by decide)
    have s7 : Sl (A.put (some 7) (.pointer (some ⟨b, 0, none⟩))) 7 (.pointer (some ⟨b, 0, none⟩)) := Sl.same (by rw [hsz]; decide)
    replace hsz : (A.put (some 7) (.pointer (some ⟨b, 0, none⟩))).tmps.size = 55 := (put_size _ _ _).trans hsz
    replace hdf : (A.put (some 7) (.pointer (some ⟨b, 0, none⟩))).defers = [] := (put_defers _ _ _).trans hdf
    generalize A.put (some 7) (.pointer (some ⟨b, 0, none⟩)) = A at *
    clear ho hop hg hdst
    refine rt_low (by simp) fun hlo hsh hcl => ?_
    have hbR : ¬ R b := hsh b (.inr rfl)
    have hbC : b ≠ E.C ∧ b ≠ E.C2 := ⟨fun e => (hcl b k ⟨.inl e, Nat.le_refl _, hkm⟩).1 (.inr rfl), fun e => (hcl b k ⟨.inr e, Nat.le_refl _, hkm⟩).1 (.inr rfl)⟩
    have hbW : b ≠ E.Wg := by obtain ⟨W, z, rfl⟩ := hb; obtain ⟨p, q, hw⟩ := z.wg; exact fun e => absurd (Array.getElem?_eq_some_iff.1 (show W.heap[E.Wg]? = some _ from hw)).1 (by omega)
    clear hb hlo hsh hcl
    have hz1 : Stable (fun x => False ∨ x = b) (shM E R Gr k) fun W => MS E R0 K W0 k W ∧ W.heap[b]? = some (.cells #[.int .i64 0] 3) := Stable.and (hz.more fun x h => h.elim) (Stable.heap (.inl (.inr rfl)))
    have hz2 : Stable (fun x => False ∨ x = b) (shM E R Gr k) fun W => MS E R0 K W0 k W ∧ W.cell? ⟨b, 0, none⟩ = some (.int .i64 k) := Stable.and (hz.more fun x h => h.elim) (Stable.cell (.inl (.inr rfl)))
    obtain ⟨o, ho, hop, hg, hdst⟩ : ∃ o, (regOps (p11))[2]? = some o ∧ o.op = .store 3 (.tmp 7) (.tmp 32) ∧ o.guard = none ∧ o.dst = none := ⟨((regOps (p11))[2]?).getD default, by kernel_rfl, by kernel_rfl, by kernel_rfl, by kernel_rfl⟩
    refine rt_store hJ hz1 hB ho hg (ad := ⟨b, 0, none⟩) (v := .int .i64 k) (Z' := fun W => MS E R0 K W0 k W ∧ W.cell? ⟨b, 0, none⟩ = some (.int .i64 k)) (fun W z => store3 hop s7.eval s32.eval (u := .int .i64 0) (by simp [World.cell?, z.2]) (by simp [World.frozen?, z.2])) (.inr rfl) (fun W z => ⟨z.1.set hE (fun h => hbR (hj.le b h)) ⟨hbC.1, hbC.2, hbW⟩, World.cell?_setCell_same (w := W) (a := ⟨b, 0, none⟩) (v := .int .i64 k) (u := .int .i64 0) (by simp [World.cell?, z.2])⟩) ?_
    rw [hdst]
    change Rt _ _ _ _ _ A _
    clear ho hop hg hdst hz1
    refine rt_region_end hJ hz2 ?_
    refine rt_seq hJ hz2 ?_
    rw [show p12 = .region 12 (regOps (p12)) false from by kernel_rfl]
    refine rt_region hJ hz2 ?_
    rw [show List.range (regOps (p12)).size = [0] from by kernel_rfl]
    obtain ⟨o, ho, hop, hg, hdst⟩ : ∃ o, (regOps (p12))[0]? = some o ∧ o.op = .call { callee := .value (.func 20), args := #[.tmp 6, .const (.int .i64 1)], argTypes := #[65, 3] } ∧ o.guard = none ∧ o.dst = some 33 := ⟨((regOps (p12))[0]?).getD default, by kernel_rfl, by kernel_rfl, by kernel_rfl, by kernel_rfl⟩
    refine rt_add1 hz2 hB ho hg hop s6.eval (.inr rfl) ⟨fun h => h.elim id fun h => hbW h.symm, fun h => (hj.sep _ h).2.2 rfl, fun o h => h.1.elim (fun e => hE.neW.1 e.symm) fun e => hE.neW.2 e.symm⟩ (by omega) (fun W z => z.1.wg) ?_
    rw [hdst]
    replace s1 := s1.ne (d := 33) (u := (.tuple #[])) (by decide)
    replace s4 := s4.ne (d := 33) (u := (.tuple #[])) (by decide)
    replace s5 := s5.ne (d := 33) (u := (.tuple #[])) (by decide)
    replace s6 := s6.ne (d := 33) (u := (.tuple #[])) (by decide)
    replace s29 := s29.ne (d := 33) (u := (.tuple #[])) (by decide)
    replace s30 := s30.ne (d := 33) (u := (.tuple #[])) (by decide)
    replace s31 := s31.ne (d := 33) (u := (.tuple #[])) (by decide)
    replace s32 := s32.ne (d := 33) (u := (.tuple #[])) (by decide)
    replace s7 := s7.ne (d := 33) (u := (.tuple #[])) (by decide)
    have s33 : Sl (A.put (some 33) (.tuple #[])) 33 (.tuple #[]) := Sl.same (by rw [hsz]; decide)
    replace hsz : (A.put (some 33) (.tuple #[])).tmps.size = 55 := (put_size _ _ _).trans hsz
    replace hdf : (A.put (some 33) (.tuple #[])).defers = [] := (put_defers _ _ _).trans hdf
    generalize A.put (some 33) (.tuple #[]) = A at *
    clear ho hop hg hdst
    replace hJ := jud_mgo Try.prog W00 lo Post (n0 + k) jobs (tag := .sp 0 0) (by simp) E.Wg (k + 1) 0 (shM E R Gr k)
    refine rt_region_end hJ hz2 ?_
    rw [show p13 = .region 13 (regOps (p13)) false from by kernel_rfl]
    refine rt_region hJ hz2 ?_
    rw [show List.range (regOps (p13)).size = [0, 1] from by kernel_rfl]
    obtain ⟨o, ho, hop, hg, hdst⟩ : ∃ o, (regOps (p13))[0]? = some o ∧ o.op = .makeFunc (.func 21) #[] #[.tmp 6, .tmp 7, .tmp 1, .tmp 4, .tmp 5] ∧ o.guard = none ∧ o.dst = some 34 := ⟨((regOps (p13))[0]?).getD default, by kernel_rfl, by kernel_rfl, by kernel_rfl, by kernel_rfl⟩
    have hfv : ∀ W, (execOp A.eval o).run Try.prog W = .ok (.value (.func (.func 21) #[] #[.pointer (some ⟨E.Wg, 0, none⟩), .pointer (some ⟨b, 0, none⟩), .pointer (some ⟨E.bl, 0, none⟩), .pointer (some ⟨E.bn, 0, none⟩), .pointer (some ⟨E.bc, 0, none⟩)])) W ∧ (execOp A.eval o).events Try.prog W #[] = #[] := fun W => by have q := mkFn (e := A.eval) (w := W) hop; simp only [List.map_toArray, List.map_cons, List.map_nil, s6.eval, s7.eval, s1.eval, s4.eval, s5.eval] at q; exact q
    refine rt_val hJ hz2 hB ho hg (v := (.func (.func 21) #[] #[.pointer (some ⟨E.Wg, 0, none⟩), .pointer (some ⟨b, 0, none⟩), .pointer (some ⟨E.bl, 0, none⟩), .pointer (some ⟨E.bn, 0, none⟩), .pointer (some ⟨E.bc, 0, none⟩)])) (fun W z => hfv W) (fun e he => by simp at he) ?_
    clear hfv
    rw [hdst]
    replace s1 := s1.ne (d := 34) (u := (.func (.func 21) #[] #[.pointer (some ⟨E.Wg, 0, none⟩), .pointer (some ⟨b, 0, none⟩), .pointer (some ⟨E.bl, 0, none⟩), .pointer (some ⟨E.bn, 0, none⟩), .pointer (some ⟨E.bc, 0, none⟩)])) (by decide)
    replace s4 := s4.ne (d := 34) (u := (.func (.func 21) #[] #[.pointer (some ⟨E.Wg, 0, none⟩), .pointer (some ⟨b, 0, none⟩), .pointer (some ⟨E.bl, 0, none⟩), .pointer (some ⟨E.bn, 0, none⟩), .pointer (some ⟨E.bc, 0, none⟩)])) (by decide)
    replace s5 := s5.ne (d := 34) (u := (.func (.func 21) #[] #[.pointer (some ⟨E.Wg, 0, none⟩), .pointer (some ⟨b, 0, none⟩), .pointer (some ⟨E.bl, 0, none⟩), .pointer (some ⟨E.bn, 0, none⟩), .pointer (some ⟨E.bc, 0, none⟩)])) (by decide)
    replace s6 := s6.ne (d := 34) (u := (.func (.func 21) #[] #[.pointer (some ⟨E.Wg, 0, none⟩), .pointer (some ⟨b, 0, none⟩), .pointer (some ⟨E.bl, 0, none⟩), .pointer (some ⟨E.bn, 0, none⟩), .pointer (some ⟨E.bc, 0, none⟩)])) (by decide)
    replace s29 := s29.ne (d := 34) (u := (.func (.func 21) #[] #[.pointer (some ⟨E.Wg, 0, none⟩), .pointer (some ⟨b, 0, none⟩), .pointer (some ⟨E.bl, 0, none⟩), .pointer (some ⟨E.bn, 0, none⟩), .pointer (some ⟨E.bc, 0, none⟩)])) (by decide)
    replace s30 := s30.ne (d := 34) (u := (.func (.func 21) #[] #[.pointer (some ⟨E.Wg, 0, none⟩), .pointer (some ⟨b, 0, none⟩), .pointer (some ⟨E.bl, 0, none⟩), .pointer (some ⟨E.bn, 0, none⟩), .pointer (some ⟨E.bc, 0, none⟩)])) (by decide)
    replace s31 := s31.ne (d := 34) (u := (.func (.func 21) #[] #[.pointer (some ⟨E.Wg, 0, none⟩), .pointer (some ⟨b, 0, none⟩), .pointer (some ⟨E.bl, 0, none⟩), .pointer (some ⟨E.bn, 0, none⟩), .pointer (some ⟨E.bc, 0, none⟩)])) (by decide)
    replace s32 := s32.ne (d := 34) (u := (.func (.func 21) #[] #[.pointer (some ⟨E.Wg, 0, none⟩), .pointer (some ⟨b, 0, none⟩), .pointer (some ⟨E.bl, 0, none⟩), .pointer (some ⟨E.bn, 0, none⟩), .pointer (some ⟨E.bc, 0, none⟩)])) (by decide)
    replace s7 := s7.ne (d := 34) (u := (.func (.func 21) #[] #[.pointer (some ⟨E.Wg, 0, none⟩), .pointer (some ⟨b, 0, none⟩), .pointer (some ⟨E.bl, 0, none⟩), .pointer (some ⟨E.bn, 0, none⟩), .pointer (some ⟨E.bc, 0, none⟩)])) (by decide)
    replace s33 := s33.ne (d := 34) (u := (.func (.func 21) #[] #[.pointer (some ⟨E.Wg, 0, none⟩), .pointer (some ⟨b, 0, none⟩), .pointer (some ⟨E.bl, 0, none⟩), .pointer (some ⟨E.bn, 0, none⟩), .pointer (some ⟨E.bc, 0, none⟩)])) (by decide)
    have s34 : Sl (A.put (some 34) (.func (.func 21) #[] #[.pointer (some ⟨E.Wg, 0, none⟩), .pointer (some ⟨b, 0, none⟩), .pointer (some ⟨E.bl, 0, none⟩), .pointer (some ⟨E.bn, 0, none⟩), .pointer (some ⟨E.bc, 0, none⟩)])) 34 (.func (.func 21) #[] #[.pointer (some ⟨E.Wg, 0, none⟩), .pointer (some ⟨b, 0, none⟩), .pointer (some ⟨E.bl, 0, none⟩), .pointer (some ⟨E.bn, 0, none⟩), .pointer (some ⟨E.bc, 0, none⟩)]) := Sl.same (by rw [hsz]; decide)
    replace hsz : (A.put (some 34) (.func (.func 21) #[] #[.pointer (some ⟨E.Wg, 0, none⟩), .pointer (some ⟨b, 0, none⟩), .pointer (some ⟨E.bl, 0, none⟩), .pointer (some ⟨E.bn, 0, none⟩), .pointer (some ⟨E.bc, 0, none⟩)])).tmps.size = 55 := (put_size _ _ _).trans hsz
    replace hdf : (A.put (some 34) (.func (.func 21) #[] #[.pointer (some ⟨E.Wg, 0, none⟩), .pointer (some ⟨b, 0, none⟩), .pointer (some ⟨E.bl, 0, none⟩), .pointer (some ⟨E.bn, 0, none⟩), .pointer (some ⟨E.bc, 0, none⟩)])).defers = [] := (put_defers _ _ _).trans hdf
    generalize A.put (some 34) (.func (.func 21) #[] #[.pointer (some ⟨E.Wg, 0, none⟩), .pointer (some ⟨b, 0, none⟩), .pointer (some ⟨E.bl, 0, none⟩), .pointer (some ⟨E.bn, 0, none⟩), .pointer (some ⟨E.bc, 0, none⟩)]) = A at *
    clear ho hop hg hdst
    refine rt_part (Own' := fun _ => False) (Sh' := shM E (fun x => R x ∨ x = b) Gr k) (fun _ h => h.elim) (fun x h => h.imp id .inr) (fun _ _ h => .inl h) (fun _ h => h) (fun _ h => h.elim) (fun x o h => ⟨fun h => h, fun h' => ?_⟩) ?_
    · rcases h.1 with e | e <;> subst e <;> rcases h' with h' | h'
      · exact (hj.sep _ h').1 rfl
      · exact hbC.1 h'.symm
      · exact (hj.sep _ h').2.1 rfl
      · exact hbC.2 h'.symm
    clear hz hz2 hJ
    have hle' : ∀ x, R0 x → (R x ∨ x = b) := fun x h => .inl (hj.le x h)
    have hz2 : Stable (fun _ => False) (shM E (fun x => R x ∨ x = b) Gr k) fun W => MS E R0 K W0 k W ∧ W.cell? ⟨b, 0, none⟩ = some (.int .i64 k) := Stable.and (fun W W1 hr z => z.rely hE hle' hr) (Stable.cell (.inr (.inl (.inr rfl))))
    obtain ⟨o, ho, hop, hg, hdst⟩ : ∃ o, (regOps (p13))[1]? = some o ∧ o.op = .go { callee := .value (.tmp 34), args := #[], argTypes := #[] } ∧ o.guard = none ∧ o.dst = none := ⟨((regOps (p13))[1]?).getD default, by kernel_rfl, by kernel_rfl, by kernel_rfl, by kernel_rfl⟩
    refine rt_spawn hz2 hB ho hg hop s34.eval (Sc := ⟨fun x => R x ∨ x = b, fun c o => (c = E.C ∨ c = E.C2) ∧ o = k, fun c => c = E.Wg⟩) (Sh' := shM E (fun x => R x ∨ x = b) Gr (k + 1)) (jb := jobE { E with bi := b, i := k } ⟨fun x => R x ∨ x = b, fun c o => (c = E.C ∨ c = E.C2) ∧ o = k, fun c => c = E.Wg⟩) ⟨fun _ h => h, fun c o h => (by obtain ⟨h1, rfl⟩ : (c = E.C ∨ c = E.C2) ∧ o = k := h; exact ⟨h1, Nat.le_refl _, hkm⟩), fun _ h => .inr h, fun _ h => h, fun c o h => (by obtain ⟨h1, h2, h3⟩ : (c = E.C ∨ c = E.C2) ∧ k + 1 ≤ o ∧ o < E.m := h; exact ⟨⟨h1, by omega, h3⟩, fun h' => by have h4 : o = k := h'.2; omega⟩), fun _ h => h⟩ (fun W z => ?_) ?_
    · refine many_run (E := { E with bi := b, i := k }) (Sc := ⟨fun x => R x ∨ x = b, fun c o => (c = E.C ∨ c = E.C2) ∧ o = k, fun c => c = E.Wg⟩) ⟨.inr rfl, .inl (hj.le _ hE.bl), .inl (hj.le _ hE.bn), .inl (hj.le _ hE.bc), .inl (hj.le _ hE.rl), ⟨.inl rfl, rfl⟩, ⟨.inr rfl, rfl⟩, hE.ne, rfl, hE.neW, hkm, by show 2 * k < E.n; omega, hE.n2, by show E.m ≤ 200; omega, hE.six, fun h => hE.mrg _ _ (by show 2 * k < E.n; omega) h⟩ (fun c h => ?_) ⟨z.2, z.1.cl, z.1.cn, z.1.cc, z.1.lv, fun j hj => (z.1.ent j hj).mono hle', z.1.pay, z.1.pay2, z.1.ok k (Nat.le_refl _) hkm, z.1.gl, z.1.wg⟩
      rcases h with h | rfl
      · exact ⟨(hj.sep c h).1, (hj.sep c h).2.1⟩
      · exact hbC
    rw [hdst]
    change Rt _ _ _ _ _ A _
    clear ho hop hg hdst hz2
    obtain ⟨jobs', hjobs⟩ : ∃ x, x = updJ jobs (n0 + k) (some (jobE { E with bi := b, i := k } ⟨fun x => R x ∨ x = b, fun c o => (c = E.C ∨ c = E.C2) ∧ o = k, fun c => c = E.Wg⟩)) := ⟨_, rfl⟩
    rw [← hjobs]
    have hj' : MJ E n0 (fun x => R x ∨ x = b) R0 (k + 1) jobs' := by
      subst hjobs
      refine ⟨fun a jb h => ?_, fun j hjk => ?_, hle', fun x h => ?_⟩
      · unfold updJ at h
        split at h
        · exact ⟨k, by omega, by assumption⟩
        · obtain ⟨j, h1, h2⟩ := hj.out a jb h; exact ⟨j, by omega, h2⟩
      · by_cases e : j = k
        · subst e; exact ⟨b, ⟨fun x => R x ∨ x = b, fun c o => (c = E.C ∨ c = E.C2) ∧ o = j, fun c => c = E.Wg⟩, by unfold updJ; rw [if_pos rfl], fun _ h => h, fun _ _ => Iff.rfl⟩
        · obtain ⟨bi, Sc, h1, h2, h3⟩ := hj.job j (by omega); exact ⟨bi, Sc, by rw [← h1]; unfold updJ; rw [if_neg (by omega)], fun x h => .inl (h2 x h), h3⟩
      · rcases h with h | rfl
        · exact hj.sep x h
        · exact ⟨hbC.1, hbC.2, hbW⟩
    have hJ := jud_mgo Try.prog W00 lo Post (n0 + k + 1) jobs' (tag := .kd) (by simp) E.Wg (k + 1) 0 (shM E (fun x => R x ∨ x = b) Gr (k + 1))
    have hz : Stable (fun _ => False) (shM E (fun x => R x ∨ x = b) Gr (k + 1)) fun W => MS E R0 K W0 (k + 1) W := fun W W1 hr z => z.rely hE hle' hr
    refine Rt.mono (Z' := fun W => MS E R0 K W0 (k + 1) W) ?_ fun W z => z.1.next (Nat.le_succ k)
    refine rt_region_end hJ hz ?_
    refine rt_inBlock hJ hz ?_
    rw [show p14 = .region 14 (regOps (p14)) false from by kernel_rfl]
    refine rt_region hJ hz ?_
    rw [show List.range (regOps (p14)).size = [0, 1] from by kernel_rfl]
    obtain ⟨o, ho, hop, hg, hdst⟩ : ∃ o, (regOps (p14))[0]? = some o ∧ o.op = .binOp .add 3 (.tmp 30) (.const (.int .i64 1)) 3 ∧ o.guard = none ∧ o.dst = some 35 := ⟨((regOps (p14))[0]?).getD default, by kernel_rfl, by kernel_rfl, by kernel_rfl, by kernel_rfl⟩
    refine rt_val hJ hz hB ho hg (v := (.int .i64 ((k + 1 : Nat) : Int))) (fun W z => by have q := addI (w := W) hop s30.eval rfl (by omega); exact q) (fun e he => by simp at he) ?_
    rw [hdst]
    replace s1 := s1.ne (d := 35) (u := (.int .i64 ((k + 1 : Nat) : Int))) (by decide)
    replace s4 := s4.ne (d := 35) (u := (.int .i64 ((k + 1 : Nat) : Int))) (by decide)
    replace s5 := s5.ne (d := 35) (u := (.int .i64 ((k + 1 : Nat) : Int))) (by decide)
    replace s6 := s6.ne (d := 35) (u := (.int .i64 ((k + 1 : Nat) : Int))) (by decide)
    replace s29 := s29.ne (d := 35) (u := (.int .i64 ((k + 1 : Nat) : Int))) (by decide)
    replace s30 := s30.ne (d := 35) (u := (.int .i64 ((k + 1 : Nat) : Int))) (by decide)
    replace s31 := s31.ne (d := 35) (u := (.int .i64 ((k + 1 : Nat) : Int))) (by decide)
    replace s32 := s32.ne (d := 35) (u := (.int .i64 ((k + 1 : Nat) : Int))) (by decide)
    replace s7 := s7.ne (d := 35) (u := (.int .i64 ((k + 1 : Nat) : Int))) (by decide)
    replace s33 := s33.ne (d := 35) (u := (.int .i64 ((k + 1 : Nat) : Int))) (by decide)
    replace s34 := s34.ne (d := 35) (u := (.int .i64 ((k + 1 : Nat) : Int))) (by decide)
    have s35 : Sl (A.put (some 35) (.int .i64 ((k + 1 : Nat) : Int))) 35 (.int .i64 ((k + 1 : Nat) : Int)) := Sl.same (by rw [hsz]; decide)
    replace hsz : (A.put (some 35) (.int .i64 ((k + 1 : Nat) : Int))).tmps.size = 55 := (put_size _ _ _).trans hsz
    replace hdf : (A.put (some 35) (.int .i64 ((k + 1 : Nat) : Int))).defers = [] := (put_defers _ _ _).trans hdf
    generalize A.put (some 35) (.int .i64 ((k + 1 : Nat) : Int)) = A at *
    clear ho hop hg hdst
    obtain ⟨o, ho, hop, hg, hdst⟩ : ∃ o, (regOps (p14))[1]? = some o ∧ o.op = .move (.tmp 35) ∧ o.guard = none ∧ o.dst = some 30 := ⟨((regOps (p14))[1]?).getD default, by kernel_rfl, by kernel_rfl, by kernel_rfl, by kernel_rfl⟩
    refine rt_val hJ hz hB ho hg (v := (.int .i64 ((k + 1 : Nat) : Int))) (fun W z => move1 hop s35.eval) (fun e he => by simp at he) ?_
    rw [hdst]
    clear s30
    replace s1 := s1.ne (d := 30) (u := (.int .i64 ((k + 1 : Nat) : Int))) (by decide)
    replace s4 := s4.ne (d := 30) (u := (.int .i64 ((k + 1 : Nat) : Int))) (by decide)
    replace s5 := s5.ne (d := 30) (u := (.int .i64 ((k + 1 : Nat) : Int))) (by decide)
    replace s6 := s6.ne (d := 30) (u := (.int .i64 ((k + 1 : Nat) : Int))) (by decide)
    replace s29 := s29.ne (d := 30) (u := (.int .i64 ((k + 1 : Nat) : Int))) (by decide)
    replace s31 := s31.ne (d := 30) (u := (.int .i64 ((k + 1 : Nat) : Int))) (by decide)
    replace s32 := s32.ne (d := 30) (u := (.int .i64 ((k + 1 : Nat) : Int))) (by decide)
    replace s7 := s7.ne (d := 30) (u := (.int .i64 ((k + 1 : Nat) : Int))) (by decide)
    replace s33 := s33.ne (d := 30) (u := (.int .i64 ((k + 1 : Nat) : Int))) (by decide)
    replace s34 := s34.ne (d := 30) (u := (.int .i64 ((k + 1 : Nat) : Int))) (by decide)
    replace s35 := s35.ne (d := 30) (u := (.int .i64 ((k + 1 : Nat) : Int))) (by decide)
    have s30 : Sl (A.put (some 30) (.int .i64 ((k + 1 : Nat) : Int))) 30 (.int .i64 ((k + 1 : Nat) : Int)) := Sl.same (by rw [hsz]; decide)
    replace hsz : (A.put (some 30) (.int .i64 ((k + 1 : Nat) : Int))).tmps.size = 55 := (put_size _ _ _).trans hsz
    replace hdf : (A.put (some 30) (.int .i64 ((k + 1 : Nat) : Int))).defers = [] := (put_defers _ _ _).trans hdf
    generalize A.put (some 30) (.int .i64 ((k + 1 : Nat) : Int)) = A at *
    clear ho hop hg hdst
    refine rt_region_end hJ hz ?_
    refine rt_inLoop hJ hz ?_
    exact fun W z => ih (k + 1) _ jobs' A W (by omega) (by omega) hj' hsz hdf s1 s4 s5 s6 s29 s30 z
end
end Go.Proofs.Ytkodpijedinanaa.Sim

namespace Go.Proofs.Ytkodpijedinanaa.Sim
open Go Go.Conc
set_option linter.unusedVariables false
set_option linter.unusedSimpArgs false

theorem info1 {P : Program} {e : TypeId} {z : Value} {b : Nat} (h : (P.info? e).map (fun i => (i.zero, i.size, i.bytes)) = some (some z, 1, b)) : ∃ i : TypeInfo, P.info? e = some i ∧ i.zero = some z ∧ i.size = 1 ∧ i.bytes = b := by
  obtain ⟨i, hi, hb⟩ := Option.map_eq_some_iff.1 h
  simp only [Prod.mk.injEq] at hb
  exact ⟨i, hi, hb.1, hb.2.1, hb.2.2⟩
theorem mkRow {P : Program} {t e : TypeId} {z : Value} {b : Nat} (ht : P.underlying t = some (.slice e)) (h : (P.info? e).map (fun i => (i.zero, i.size, i.bytes)) = some (some z, 1, b)) (hz : z.cells = #[z]) (n : Nat) (hn : n ≤ 200) (hb : b ≤ 1000) (X : World) :
    (Instr.makeSlice t (.int .i64 n) (.int .i64 n)).run P X = .ok (.slice (some ⟨X.heap.size, 0, none⟩) n n) (X.alloc (.cells (Array.replicate n z) e)) := by
  obtain ⟨i, hi, h1, h2, h3⟩ := info1 h
  rw [run_make X t e i z ht hi h1 .i64 .i64 n n (by omega) (by omega) (by rw [h3]; have : ((b * n : Nat) : Int) ≤ 281474976710656 := by have := Nat.mul_le_mul hb hn; omega
                                                                          simpa using this) (by omega)]
  simp only [Int.toNat_natCast, h2]
  congr 3
  rw [hz]
  apply Array.ext
  · simp [madeCells]
  · intro j h1 h2
    have : j % 1 = 0 := Nat.mod_one j
    simp [madeCells, this]
theorem mkRowE {P : Program} {t e : TypeId} {z : Value} {b : Nat} (ht : P.underlying t = some (.slice e)) (h : (P.info? e).map (fun i => (i.zero, i.size, i.bytes)) = some (some z, 1, b)) (n : Nat) (hn : n ≤ 200) (hb : b ≤ 1000) (X : World) (es : Array Event) :
    (Instr.makeSlice t (.int .i64 n) (.int .i64 n)).events P X es = es := by
  obtain ⟨i, hi, h1, h2, h3⟩ := info1 h
  exact events_make X t e i z ht hi h1 .i64 .i64 n n (by omega) (by omega) (by rw [h3]; have : ((b * n : Nat) : Int) ≤ 281474976710656 := by have := Nat.mul_le_mul hb hn; omega
                                                                               simpa using this) (by omega) (by rw [h3]; have := Nat.mul_le_mul hb hn; rw [Int.toNat_natCast, Nat.mul_comm]; omega) es
section
variable {e : Operand → Value} {o : Oper} {x y : Operand} {w : World} {ad : Addr} {v u : Value}
theorem mkLL (hop : o.op = .makeSlice 34 x x) {n : Nat} (hx : e x = .int .i64 n) (hn : n ≤ 200) : (execOp e o).run Try.prog w = .ok (.value (.slice (some ⟨w.heap.size, 0, none⟩) n n)) (w.alloc (.cells (Array.replicate n (.slice none 0 0)) 35)) ∧ (execOp e o).events Try.prog w #[] = #[] := by
  have h := mkRow (P := Try.prog) (b := 24) (z := .slice none 0 0) Try.underlying34 (by kernel_rfl) rfl n hn (by omega) w
  have he := mkRowE (P := Try.prog) (b := 24) (z := .slice none 0 0) Try.underlying34 (by kernel_rfl) n hn (by omega) w
  constructor <;> (unfold execOp; simp only [hop, hx]; simp [go_sem, h, he])
theorem mkEs (hop : o.op = .makeSlice 50 x x) {n : Nat} (hx : e x = .int .i64 n) (hn : n ≤ 200) : (execOp e o).run Try.prog w = .ok (.value (.slice (some ⟨w.heap.size, 0, none⟩) n n)) (w.alloc (.cells (Array.replicate n (.int .i64 0)) 26)) ∧ (execOp e o).events Try.prog w #[] = #[] := by
  have h := mkRow (P := Try.prog) (b := 8) (z := .int .i64 0) Try.underlying50 (by kernel_rfl) rfl n hn (by omega) w
  have he := mkRowE (P := Try.prog) (b := 8) (z := .int .i64 0) Try.underlying50 (by kernel_rfl) n hn (by omega) w
  constructor <;> (unfold execOp; simp only [hop, hx]; simp [go_sem, h, he])
theorem allocLL (hop : o.op = .alloc 34) : (execOp e o).run Try.prog w = .ok (.value (.pointer (some ⟨w.heap.size, 0, none⟩))) (w.alloc (.cells #[.slice none 0 0] 34)) ∧ (execOp e o).events Try.prog w #[] = #[] := by
  constructor <;> (unfold execOp; simp only [hop]; simp [go_sem])
theorem allocEs (hop : o.op = .alloc 50) : (execOp e o).run Try.prog w = .ok (.value (.pointer (some ⟨w.heap.size, 0, none⟩))) (w.alloc (.cells #[.slice none 0 0] 50)) ∧ (execOp e o).events Try.prog w #[] = #[] := by
  constructor <;> (unfold execOp; simp only [hop]; simp [go_sem])
theorem boxLL (hop : o.op = .box 34 x) {sa : Option Addr} {n c : Nat} (hx : e x = .slice sa n c) : (execOp e o).run Try.prog w = .ok (.value (.pointer (some ⟨w.heap.size, 0, none⟩))) (w.alloc (.cells #[.slice sa n c] 34)) ∧ (execOp e o).events Try.prog w #[] = #[] := by
  constructor <;> (unfold execOp; simp only [hop, hx]; simp [go_sem])
theorem gtrI (hop : o.op = .binOp .gtr 3 x y 3) {n m : Int} (hx : e x = .int .i64 n) (hy : e y = .int .i64 m) : (execOp e o).run Try.prog w = .ok (.value (.bool (decide (n > m)))) w ∧ (execOp e o).events Try.prog w #[] = #[] := by
  constructor <;> (unfold execOp; simp only [hop, hx, hy]; simp [go_sem])
theorem geqI (hop : o.op = .binOp .geq 3 x y 3) {n m : Int} (hx : e x = .int .i64 n) (hy : e y = .int .i64 m) : (execOp e o).run Try.prog w = .ok (.value (.bool (decide (n ≥ m)))) w ∧ (execOp e o).events Try.prog w #[] = #[] := by
  constructor <;> (unfold execOp; simp only [hop, hx, hy]; simp [go_sem])
theorem quo2 (hop : o.op = .binOp .quo 3 x y 3) {n : Nat} (hx : e x = .int .i64 n) (hy : e y = .int .i64 2) (hn : n ≤ 1000) : (execOp e o).run Try.prog w = .ok (.value (.int .i64 ((n / 2 : Nat) : Int))) w ∧ (execOp e o).events Try.prog w #[] = #[] := by
  constructor <;> (unfold execOp; simp only [hop, hx, hy]; simp [go_sem]; try (rw [IntKind.wrap_i64]; omega))
theorem neq26 (hop : o.op = .binOp .neq 26 x y 26) {n m : Int} (hx : e x = .int .i64 n) (hy : e y = .int .i64 m) : (execOp e o).run Try.prog w = .ok (.value (.bool (n != m))) w ∧ (execOp e o).events Try.prog w #[] = #[] := by
  constructor <;> (unfold execOp; simp only [hop, hx, hy]; simp [go_sem])
theorem eql26 (hop : o.op = .binOp .eql 26 x y 26) {n m : Int} (hx : e x = .int .i64 n) (hy : e y = .int .i64 m) : (execOp e o).run Try.prog w = .ok (.value (.bool (n == m))) w ∧ (execOp e o).events Try.prog w #[] = #[] := by
  constructor <;> (unfold execOp; simp only [hop, hx, hy]; simp [go_sem])
theorem notB (hop : o.op = .unOp .not 4 x) {b : Bool} (hx : e x = .bool b) : (execOp e o).run Try.prog w = .ok (.value (.bool (!b))) w ∧ (execOp e o).events Try.prog w #[] = #[] := by
  constructor <;> (unfold execOp; simp only [hop, hx]; simp [go_sem])
end
section
variable {P : Program} {main : Bool} {Sh : Shd} {Ju : Blk → Goroutine → World → Prop} {RB : List Frame} {B : Frame} {Own : Blk} {A : Act} {k : List Item} {Z : World → Prop}
/-- An operation that makes a block, and gives what hangs on it. -/
theorem rt_allocv (hJ : Jud P main Sh Ju) (hz : Stable Own Sh Z) (hB : B.kind ≠ .early) {ops : Array Oper} {i : Nat} {l : List Nat} {o : Oper} (ho : ops[i]? = some o) (hg : o.guard = none) {ob : Obj} (v : Nat → Value)
    (hrun : ∀ W, Z W → (execOp A.eval o).run P W = .ok (.value (v W.heap.size)) (W.alloc ob) ∧ (execOp A.eval o).events P W #[] = #[])
    (h : ∀ b, (∃ W, Z W ∧ b = W.heap.size) → Rt Ju RB B (.inRegion ops l :: k) (fun x => Own x ∨ x = b) (A.put o.dst (v b)) fun W => Z W ∧ W.heap[b]? = some ob) : Rt Ju RB B (.inRegion ops (i :: l) :: k) Own A Z :=
  ju_op hJ hz hB ho hg (v := fun W => v W.heap.size) (T := fun W => W.alloc ob) (fun W z => .inl (hrun W z).1) (fun W z => by rw [(hrun W z).2]; exact did_alloc fun e he => by simp at he) fun W z => by
    rw [grow_alloc]
    exact h _ ⟨W, z, rfl⟩ _ ⟨hz W _ (rely_alloc _ _ _ _) z, by show (W.heap.push ob)[W.heap.size]? = _; simp⟩
end
end Go.Proofs.Ytkodpijedinanaa.Sim

namespace Go.Proofs.Ytkodpijedinanaa.Sim
open Go Go.Conc
set_option linter.unusedVariables false
set_option linter.unusedSimpArgs false

noncomputable def t3C : Code := tl (tl (tl bodyC))
noncomputable def q5 : Code := hd (hd lpC)
noncomputable def q6 : Code := hd bodyC
noncomputable def q7 : Code := hd (tl bodyC)
noncomputable def q8 : Code := hd (tl (tl bodyC))
noncomputable def q9 : Code := hd (hd t3C)
noncomputable def q15 : Code := hd (tl t3C)
noncomputable def q16 : Code := hd (hd (tl (tl t3C)))
noncomputable def cdC : Code := hd (hd (tl (hd (tl (tl t3C)))))
noncomputable def q22 : Code := tl (tl (tl t3C))
noncomputable def q17 : Code := hd cdC
noncomputable def q18 : Code := hd (hd (hd (tl (tl cdC))))
noncomputable def q19 : Code := hd (tl (hd (hd (tl (tl cdC)))))
noncomputable def q20 : Code := hd (hd (tl (tl (hd (hd (tl (tl cdC)))))))
noncomputable def q21 : Code := tl (tl (tl cdC))
theorem lpC_eq : lpC = .seq (.seq q5 (.cond (.tmp 19) .skip (.exit 1))) (.block 2 bodyC) := by kernel_rfl
theorem bodyC_eq : bodyC = .seq q6 (.seq q7 (.seq q8 (.seq (.seq q9 (.block 3 (.loop spC))) (.seq q15 (.seq (.seq q16 (.block 5 (.loop cdC))) q22))))) := by kernel_rfl
theorem cdC_eq : cdC = .seq q17 (.seq (.cond (.tmp 40) .skip (.exit 5)) (.seq (.block 6 (.seq q18 (.seq q19 (.cond (.tmp 44) (.seq q20 .ret) .skip)))) q21)) := by kernel_rfl
theorem cell_lt {W : World} {b i : Nat} {v : Value} (h : W.cell? ⟨b, i, none⟩ = some v) : b < W.heap.size := by
  cases ho : W.heap[b]? with
  | none => simp [World.cell?, ho] at h
  | some q => exact (Array.getElem?_eq_some_iff.1 ho).1
section
variable {Sh : Shd} {Ju : Blk → Goroutine → World → Prop} {RB : List Frame} {Own : Blk} {kx : List Item} {Z : World → Prop}
set_option maxRecDepth 100000 in
set_option maxHeartbeats 8000000 in
/-- All codes are nought. -/
theorem codes_loop (hJ : Jud Try.prog true Sh Ju) (hz : Stable Own Sh Z) {C2 m : Nat} {v1 v4 : Value} (hm : m ≤ 200) (hC : Own C2) (hZ : ∀ W, Z W → ∀ j, j < m → W.cell? ⟨C2, j, none⟩ = some (.int .i64 0))
    (hx : ∀ A, A.tmps.size = 55 → A.defers = [] → Sl A 1 v1 → Sl A 4 v4 → Rt Ju RB (base 11) kx Own A Z) :
    ∀ d k A, d = m - k → k ≤ m → A.tmps.size = 55 → A.defers = [] → Sl A 1 v1 → Sl A 4 v4 → Sl A 37 (.slice (some ⟨C2, 0, none⟩) m m) → Sl A 38 (.int .i64 m) → Sl A 39 (.int .i64 k) →
      Rt Ju RB (base 11) (.code cdC :: .inLoop cdC :: .inBlock 5 :: kx) Own A Z := by
  have hB : (base 11).kind ≠ .early := by simp [base]
  intro d
  induction d with
  | zero =>
    intro k A hd hk hsz hdf s1 s4 s37 s38 s39
    obtain rfl : k = m := by omega
    rw [show (Item.code cdC : Item) = _ from congrArg Item.code cdC_eq]
    refine rt_seq hJ hz ?_
    rw [show q17 = .region 17 (regOps (q17)) false from by kernel_rfl]
    refine rt_region hJ hz ?_
    rw [show List.range (regOps (q17)).size = [0] from by kernel_rfl]
    obtain ⟨o, ho, hop, hg, hdst⟩ : ∃ o, (regOps (q17))[0]? = some o ∧ o.op = .binOp .lss 3 (.tmp 39) (.tmp 38) 3 ∧ o.guard = none ∧ o.dst = some 40 := ⟨((regOps (q17))[0]?).getD default, by kernel_rfl, by kernel_rfl, by kernel_rfl, by kernel_rfl⟩
    refine rt_val hJ hz hB ho hg (v := (.bool false)) (fun W z => by have q := ltI (w := W) hop s39.eval s38.eval; rw [show decide (((k : Nat) : Int) < (k : Int)) = false from by simp; try omega] at q; exact q) (fun e he => by simp at he) ?_
    rw [hdst]
    replace s1 := s1.ne (d := 40) (u := (.bool false)) (by decide)
    replace s4 := s4.ne (d := 40) (u := (.bool false)) (by decide)
    replace s37 := s37.ne (d := 40) (u := (.bool false)) (by decide)
    replace s38 := s38.ne (d := 40) (u := (.bool false)) (by decide)
    replace s39 := s39.ne (d := 40) (u := (.bool false)) (by decide)
    have s40 : Sl (A.put (some 40) (.bool false)) 40 (.bool false) := Sl.same (by rw [hsz]; decide)
    replace hsz : (A.put (some 40) (.bool false)).tmps.size = 55 := (put_size _ _ _).trans hsz
    replace hdf : (A.put (some 40) (.bool false)).defers = [] := (put_defers _ _ _).trans hdf
    generalize A.put (some 40) (.bool false) = A at *
    clear ho hop hg hdst
    refine rt_region_end hJ hz ?_
    refine rt_seq hJ hz ?_
    refine rt_cond hJ hz (b := false) s40.eval ?_
    simp only [Bool.false_eq_true, if_false]
    refine rt_exit hJ hz (k' := kx) (by simp [exitTo]) ?_
    exact hx A hsz hdf s1 s4
  | succ d ih =>
    intro k A hd hk hsz hdf s1 s4 s37 s38 s39
    have hkm : k < m := by omega
    rw [show (Item.code cdC : Item) = _ from congrArg Item.code cdC_eq]
    refine rt_seq hJ hz ?_
    rw [show q17 = .region 17 (regOps (q17)) false from by kernel_rfl]
    refine rt_region hJ hz ?_
    rw [show List.range (regOps (q17)).size = [0] from by kernel_rfl]
    obtain ⟨o, ho, hop, hg, hdst⟩ : ∃ o, (regOps (q17))[0]? = some o ∧ o.op = .binOp .lss 3 (.tmp 39) (.tmp 38) 3 ∧ o.guard = none ∧ o.dst = some 40 := ⟨((regOps (q17))[0]?).getD default, by kernel_rfl, by kernel_rfl, by kernel_rfl, by kernel_rfl⟩
    refine rt_val hJ hz hB ho hg (v := (.bool true)) (fun W z => by have q := ltI (w := W) hop s39.eval s38.eval; rw [show decide (((k : Nat) : Int) < (m : Int)) = true from by simp; try omega] at q; exact q) (fun e he => by simp at he) ?_
    rw [hdst]
    replace s1 := s1.ne (d := 40) (u := (.bool true)) (by decide)
    replace s4 := s4.ne (d := 40) (u := (.bool true)) (by decide)
    replace s37 := s37.ne (d := 40) (u := (.bool true)) (by decide)
    replace s38 := s38.ne (d := 40) (u := (.bool true)) (by decide)
    replace s39 := s39.ne (d := 40) (u := (.bool true)) (by decide)
    have s40 : Sl (A.put (some 40) (.bool true)) 40 (.bool true) := Sl.same (by rw [hsz]; decide)
    replace hsz : (A.put (some 40) (.bool true)).tmps.size = 55 := (put_size _ _ _).trans hsz
    replace hdf : (A.put (some 40) (.bool true)).defers = [] := (put_defers _ _ _).trans hdf
    generalize A.put (some 40) (.bool true) = A at *
    clear ho hop hg hdst
    refine rt_region_end hJ hz ?_
    refine rt_seq hJ hz ?_
    refine rt_cond hJ hz (b := true) s40.eval ?_
    simp only [if_true]
    refine rt_skip hJ hz ?_
    refine rt_seq hJ hz ?_
    refine rt_block hJ hz ?_
    refine rt_seq hJ hz ?_
    rw [show q18 = .region 18 (regOps (q18)) false from by kernel_rfl]
    refine rt_region hJ hz ?_
    rw [show List.range (regOps (q18)).size = [0, 1, 2] from by kernel_rfl]
    obtain ⟨o, ho, hop, hg, hdst⟩ : ∃ o, (regOps (q18))[0]? = some o ∧ o.op = .indexAddr 50 (.tmp 37) (.tmp 39) ∧ o.guard = none ∧ o.dst = some 41 := ⟨((regOps (q18))[0]?).getD default, by kernel_rfl, by kernel_rfl, by kernel_rfl, by kernel_rfl⟩
    refine rt_val hJ hz hB ho hg (v := (.pointer (some ⟨C2, k, none⟩))) (fun W z => ixEs hop s37.eval s39.eval hkm (by omega)) (fun e he => by simp at he) ?_
    rw [hdst]
    replace s1 := s1.ne (d := 41) (u := (.pointer (some ⟨C2, k, none⟩))) (by decide)
    replace s4 := s4.ne (d := 41) (u := (.pointer (some ⟨C2, k, none⟩))) (by decide)
    replace s37 := s37.ne (d := 41) (u := (.pointer (some ⟨C2, k, none⟩))) (by decide)
    replace s38 := s38.ne (d := 41) (u := (.pointer (some ⟨C2, k, none⟩))) (by decide)
    replace s39 := s39.ne (d := 41) (u := (.pointer (some ⟨C2, k, none⟩))) (by decide)
    replace s40 := s40.ne (d := 41) (u := (.pointer (some ⟨C2, k, none⟩))) (by decide)
    have s41 : Sl (A.put (some 41) (.pointer (some ⟨C2, k, none⟩))) 41 (.pointer (some ⟨C2, k, none⟩)) := Sl.same (by rw [hsz]; decide)
    replace hsz : (A.put (some 41) (.pointer (some ⟨C2, k, none⟩))).tmps.size = 55 := (put_size _ _ _).trans hsz
    replace hdf : (A.put (some 41) (.pointer (some ⟨C2, k, none⟩))).defers = [] := (put_defers _ _ _).trans hdf
    generalize A.put (some 41) (.pointer (some ⟨C2, k, none⟩)) = A at *
    clear ho hop hg hdst
    obtain ⟨o, ho, hop, hg, hdst⟩ : ∃ o, (regOps (q18))[1]? = some o ∧ o.op = .load 26 (.tmp 41) ∧ o.guard = none ∧ o.dst = some 42 := ⟨((regOps (q18))[1]?).getD default, by kernel_rfl, by kernel_rfl, by kernel_rfl, by kernel_rfl⟩
    refine rt_val hJ hz hB ho hg (v := (.int .i64 0)) (fun W z => load26 hop s41.eval (hZ W z k hkm)) (fun e he => by simp at he; subst he; exact .cell _ _ (.inl hC)) ?_
    rw [hdst]
    replace s1 := s1.ne (d := 42) (u := (.int .i64 0)) (by decide)
    replace s4 := s4.ne (d := 42) (u := (.int .i64 0)) (by decide)
    replace s37 := s37.ne (d := 42) (u := (.int .i64 0)) (by decide)
    replace s38 := s38.ne (d := 42) (u := (.int .i64 0)) (by decide)
    replace s39 := s39.ne (d := 42) (u := (.int .i64 0)) (by decide)
    replace s40 := s40.ne (d := 42) (u := (.int .i64 0)) (by decide)
    replace s41 := s41.ne (d := 42) (u := (.int .i64 0)) (by decide)
    have s42 : Sl (A.put (some 42) (.int .i64 0)) 42 (.int .i64 0) := Sl.same (by rw [hsz]; decide)
    replace hsz : (A.put (some 42) (.int .i64 0)).tmps.size = 55 := (put_size _ _ _).trans hsz
    replace hdf : (A.put (some 42) (.int .i64 0)).defers = [] := (put_defers _ _ _).trans hdf
    generalize A.put (some 42) (.int .i64 0) = A at *
    clear ho hop hg hdst
    obtain ⟨o, ho, hop, hg, hdst⟩ : ∃ o, (regOps (q18))[2]? = some o ∧ o.op = .assign (.tmp 42) ∧ o.guard = none ∧ o.dst = some 9 := ⟨((regOps (q18))[2]?).getD default, by kernel_rfl, by kernel_rfl, by kernel_rfl, by kernel_rfl⟩
    refine rt_val hJ hz hB ho hg (v := (.int .i64 0)) (fun W z => assign1 hop s42.eval) (fun e he => by simp at he) ?_
    rw [hdst]
    replace s1 := s1.ne (d := 9) (u := (.int .i64 0)) (by decide)
    replace s4 := s4.ne (d := 9) (u := (.int .i64 0)) (by decide)
    replace s37 := s37.ne (d := 9) (u := (.int .i64 0)) (by decide)
    replace s38 := s38.ne (d := 9) (u := (.int .i64 0)) (by decide)
    replace s39 := s39.ne (d := 9) (u := (.int .i64 0)) (by decide)
    replace s40 := s40.ne (d := 9) (u := (.int .i64 0)) (by decide)
    replace s41 := s41.ne (d := 9) (u := (.int .i64 0)) (by decide)
    replace s42 := s42.ne (d := 9) (u := (.int .i64 0)) (by decide)
    have s9 : Sl (A.put (some 9) (.int .i64 0)) 9 (.int .i64 0) := Sl.same (by rw [hsz]; decide)
    replace hsz : (A.put (some 9) (.int .i64 0)).tmps.size = 55 := (put_size _ _ _).trans hsz
    replace hdf : (A.put (some 9) (.int .i64 0)).defers = [] := (put_defers _ _ _).trans hdf
    generalize A.put (some 9) (.int .i64 0) = A at *
    clear ho hop hg hdst
    refine rt_region_end hJ hz ?_
    refine rt_seq hJ hz ?_
    rw [show q19 = .region 19 (regOps (q19)) false from by kernel_rfl]
    refine rt_region hJ hz ?_
    rw [show List.range (regOps (q19)).size = [0, 1] from by kernel_rfl]
    obtain ⟨o, ho, hop, hg, hdst⟩ : ∃ o, (regOps (q19))[0]? = some o ∧ o.op = .move (.tmp 9) ∧ o.guard = none ∧ o.dst = some 43 := ⟨((regOps (q19))[0]?).getD default, by kernel_rfl, by kernel_rfl, by kernel_rfl, by kernel_rfl⟩
    refine rt_val hJ hz hB ho hg (v := (.int .i64 0)) (fun W z => move1 hop s9.eval) (fun e he => by simp at he) ?_
    rw [hdst]
    replace s1 := s1.ne (d := 43) (u := (.int .i64 0)) (by decide)
    replace s4 := s4.ne (d := 43) (u := (.int .i64 0)) (by decide)
    replace s37 := s37.ne (d := 43) (u := (.int .i64 0)) (by decide)
    replace s38 := s38.ne (d := 43) (u := (.int .i64 0)) (by decide)
    replace s39 := s39.ne (d := 43) (u := (.int .i64 0)) (by decide)
    replace s40 := s40.ne (d := 43) (u := (.int .i64 0)) (by decide)
    replace s41 := s41.ne (d := 43) (u := (.int .i64 0)) (by decide)
    replace s42 := s42.ne (d := 43) (u := (.int .i64 0)) (by decide)
    replace s9 := s9.ne (d := 43) (u := (.int .i64 0)) (by decide)
    have s43 : Sl (A.put (some 43) (.int .i64 0)) 43 (.int .i64 0) := Sl.same (by rw [hsz]; decide)
    replace hsz : (A.put (some 43) (.int .i64 0)).tmps.size = 55 := (put_size _ _ _).trans hsz
    replace hdf : (A.put (some 43) (.int .i64 0)).defers = [] := (put_defers _ _ _).trans hdf
    generalize A.put (some 43) (.int .i64 0) = A at *
    clear ho hop hg hdst
    obtain ⟨o, ho, hop, hg, hdst⟩ : ∃ o, (regOps (q19))[1]? = some o ∧ o.op = .binOp .neq 26 (.tmp 43) (.const (.int .i64 0)) 26 ∧ o.guard = none ∧ o.dst = some 44 := ⟨((regOps (q19))[1]?).getD default, by kernel_rfl, by kernel_rfl, by kernel_rfl, by kernel_rfl⟩
    refine rt_val hJ hz hB ho hg (v := (.bool false)) (fun W z => by have q := neq26 (w := W) hop s43.eval (m := 0) rfl; exact q) (fun e he => by simp at he) ?_
    rw [hdst]
    replace s1 := s1.ne (d := 44) (u := (.bool false)) (by decide)
    replace s4 := s4.ne (d := 44) (u := (.bool false)) (by decide)
    replace s37 := s37.ne (d := 44) (u := (.bool false)) (by decide)
    replace s38 := s38.ne (d := 44) (u := (.bool false)) (by decide)
    replace s39 := s39.ne (d := 44) (u := (.bool false)) (by decide)
    replace s40 := s40.ne (d := 44) (u := (.bool false)) (by decide)
    replace s41 := s41.ne (d := 44) (u := (.bool false)) (by decide)
    replace s42 := s42.ne (d := 44) (u := (.bool false)) (by decide)
    replace s9 := s9.ne (d := 44) (u := (.bool false)) (by decide)
    replace s43 := s43.ne (d := 44) (u := (.bool false)) (by decide)
    have s44 : Sl (A.put (some 44) (.bool false)) 44 (.bool false) := Sl.same (by rw [hsz]; decide)
    replace hsz : (A.put (some 44) (.bool false)).tmps.size = 55 := (put_size _ _ _).trans hsz
    replace hdf : (A.put (some 44) (.bool false)).defers = [] := (put_defers _ _ _).trans hdf
    generalize A.put (some 44) (.bool false) = A at *
    clear ho hop hg hdst
    refine rt_region_end hJ hz ?_
    refine rt_cond hJ hz (b := false) s44.eval ?_
    simp only [Bool.false_eq_true, if_false]
    refine rt_skip hJ hz ?_
    refine rt_inBlock hJ hz ?_
    rw [show q21 = .region 21 (regOps (q21)) false from by kernel_rfl]
    refine rt_region hJ hz ?_
    rw [show List.range (regOps (q21)).size = [0, 1] from by kernel_rfl]
    obtain ⟨o, ho, hop, hg, hdst⟩ : ∃ o, (regOps (q21))[0]? = some o ∧ o.op = .binOp .add 3 (.tmp 39) (.const (.int .i64 1)) 3 ∧ o.guard = none ∧ o.dst = some 46 := ⟨((regOps (q21))[0]?).getD default, by kernel_rfl, by kernel_rfl, by kernel_rfl, by kernel_rfl⟩
    refine rt_val hJ hz hB ho hg (v := (.int .i64 ((k + 1 : Nat) : Int))) (fun W z => by have q := addI (w := W) hop s39.eval rfl (by omega); exact q) (fun e he => by simp at he) ?_
    rw [hdst]
    replace s1 := s1.ne (d := 46) (u := (.int .i64 ((k + 1 : Nat) : Int))) (by decide)
    replace s4 := s4.ne (d := 46) (u := (.int .i64 ((k + 1 : Nat) : Int))) (by decide)
    replace s37 := s37.ne (d := 46) (u := (.int .i64 ((k + 1 : Nat) : Int))) (by decide)
    replace s38 := s38.ne (d := 46) (u := (.int .i64 ((k + 1 : Nat) : Int))) (by decide)
    replace s39 := s39.ne (d := 46) (u := (.int .i64 ((k + 1 : Nat) : Int))) (by decide)
    replace s40 := s40.ne (d := 46) (u := (.int .i64 ((k + 1 : Nat) : Int))) (by decide)
    replace s41 := s41.ne (d := 46) (u := (.int .i64 ((k + 1 : Nat) : Int))) (by decide)
    replace s42 := s42.ne (d := 46) (u := (.int .i64 ((k + 1 : Nat) : Int))) (by decide)
    replace s9 := s9.ne (d := 46) (u := (.int .i64 ((k + 1 : Nat) : Int))) (by decide)
    replace s43 := s43.ne (d := 46) (u := (.int .i64 ((k + 1 : Nat) : Int))) (by decide)
    replace s44 := s44.ne (d := 46) (u := (.int .i64 ((k + 1 : Nat) : Int))) (by decide)
    have s46 : Sl (A.put (some 46) (.int .i64 ((k + 1 : Nat) : Int))) 46 (.int .i64 ((k + 1 : Nat) : Int)) := Sl.same (by rw [hsz]; decide)
    replace hsz : (A.put (some 46) (.int .i64 ((k + 1 : Nat) : Int))).tmps.size = 55 := (put_size _ _ _).trans hsz
    replace hdf : (A.put (some 46) (.int .i64 ((k + 1 : Nat) : Int))).defers = [] := (put_defers _ _ _).trans hdf
    generalize A.put (some 46) (.int .i64 ((k + 1 : Nat) : Int)) = A at *
    clear ho hop hg hdst
    obtain ⟨o, ho, hop, hg, hdst⟩ : ∃ o, (regOps (q21))[1]? = some o ∧ o.op = .move (.tmp 46) ∧ o.guard = none ∧ o.dst = some 39 := ⟨((regOps (q21))[1]?).getD default, by kernel_rfl, by kernel_rfl, by kernel_rfl, by kernel_rfl⟩
    refine rt_val hJ hz hB ho hg (v := (.int .i64 ((k + 1 : Nat) : Int))) (fun W z => move1 hop s46.eval) (fun e he => by simp at he) ?_
    rw [hdst]
    clear s39
    replace s1 := s1.ne (d := 39) (u := (.int .i64 ((k + 1 : Nat) : Int))) (by decide)
    replace s4 := s4.ne (d := 39) (u := (.int .i64 ((k + 1 : Nat) : Int))) (by decide)
    replace s37 := s37.ne (d := 39) (u := (.int .i64 ((k + 1 : Nat) : Int))) (by decide)
    replace s38 := s38.ne (d := 39) (u := (.int .i64 ((k + 1 : Nat) : Int))) (by decide)
    replace s40 := s40.ne (d := 39) (u := (.int .i64 ((k + 1 : Nat) : Int))) (by decide)
    replace s41 := s41.ne (d := 39) (u := (.int .i64 ((k + 1 : Nat) : Int))) (by decide)
    replace s42 := s42.ne (d := 39) (u := (.int .i64 ((k + 1 : Nat) : Int))) (by decide)
    replace s9 := s9.ne (d := 39) (u := (.int .i64 ((k + 1 : Nat) : Int))) (by decide)
    replace s43 := s43.ne (d := 39) (u := (.int .i64 ((k + 1 : Nat) : Int))) (by decide)
    replace s44 := s44.ne (d := 39) (u := (.int .i64 ((k + 1 : Nat) : Int))) (by decide)
    replace s46 := s46.ne (d := 39) (u := (.int .i64 ((k + 1 : Nat) : Int))) (by decide)
    have s39 : Sl (A.put (some 39) (.int .i64 ((k + 1 : Nat) : Int))) 39 (.int .i64 ((k + 1 : Nat) : Int)) := Sl.same (by rw [hsz]; decide)
    replace hsz : (A.put (some 39) (.int .i64 ((k + 1 : Nat) : Int))).tmps.size = 55 := (put_size _ _ _).trans hsz
    replace hdf : (A.put (some 39) (.int .i64 ((k + 1 : Nat) : Int))).defers = [] := (put_defers _ _ _).trans hdf
    generalize A.put (some 39) (.int .i64 ((k + 1 : Nat) : Int)) = A at *
    clear ho hop hg hdst
    refine rt_region_end hJ hz ?_
    refine rt_inLoop hJ hz ?_
    exact ih (k + 1) A (by omega) (by omega) hsz hdf s1 s4 s37 s38 s39
end
end Go.Proofs.Ytkodpijedinanaa.Sim
