/- Texts that the claim imports, laid together: MxD. No statement of their own. -/
import Derived.Test.YtkodpijedinanaaKas
namespace Go.Proofs.Ytkodpijedinanaa.Sim
open Go Go.Conc
set_option linter.unusedVariables false
set_option linter.unusedSimpArgs false

noncomputable def cCA : Code := (Try.f4.body).getD .skip
noncomputable def k1C : Code := hd (tl (tl cCA))
noncomputable def lp1C : Code := ((match tl k1C with | .block _ (.loop c) => c | c => c))
noncomputable def bk1C : Code := hd (hd (tl lp1C))
noncomputable def e3C : Code := hd (hd lp1C)
noncomputable def e4C : Code := tl (tl lp1C)
noncomputable def e5C : Code := hd bk1C
noncomputable def e6C : Code := hd (hd (tl bk1C))
noncomputable def e7C : Code := hd (hd (tl (hd (tl bk1C))))
noncomputable def e8C : Code := tl (tl bk1C)
theorem lp1C_eq : lp1C = .seq (.seq e3C (.cond (.tmp 25) .skip (.exit 0))) (.seq (.block 1 bk1C) e4C) := by kernel_rfl
theorem bk1C_eq : bk1C = .seq e5C (.seq (.seq e6C (.cond (.tmp 37) (.seq e7C .ret) .skip)) e8C) := by kernel_rfl
/-- Rows of notes that one may read. -/
structure NNRow (lo : Nat) (va : Option Addr) (m : Nat) (lls : Nat → List Ent) (W : World) : Prop where
  row : ∀ j, j < m → ∃ b off vi ci, va = some ⟨b, off, none⟩ ∧ b < lo ∧ W.cell? ⟨b, off + j, none⟩ = some (.slice vi (lls j).length ci) ∧ NoteRow (shR lo fun _ => False) vi (lls j) W
theorem NoteRow.keep {lo : Nat} {Gr Gr' : Blk} {va : Option Addr} {l : List Ent} {W W1 : World} (h : NoteRow (shR lo Gr) va l W) (hk : Keep (fun b => b < lo) W W1) : NoteRow (shR lo Gr') va l W1 := ⟨fun j hj => by
  obtain ⟨b, off, e, hb, h0, h1, h2, h3, h4⟩ := h.row j hj
  exact ⟨b, off, e, hb, hk.cell hb h0, hk.cell hb h1, hk.cell hb h2, hk.cell hb h3, hk.cell hb h4⟩⟩
/-- A slice of one's own making. -/
def SV (v : Value) (n : Nat) : Prop := (n = 0 ∧ v = .slice none 0 0) ∨ (0 < n ∧ ∃ g cap, v = .slice (some ⟨g, 0, none⟩) n cap)
theorem SRow.sv {lo : Nat} {W : World} {v : Value} {n : Nat} {V : Nat → Value} (h : SRow lo W v n V) (hn : 0 < n) : SV v n := by
  rcases h.row with ⟨_, h⟩ | ⟨g, cap, cur, h, _⟩
  · omega
  · exact .inr ⟨hn, g, cap, h⟩
/-- Lists of entries in a row of one's own. -/
structure ELst (lo : Nat) (K : Blk) (v : Value) (n : Nat) (V : Nat → Value) (ls : Nat → List Ent) (W : World) : Prop where
  row : SRow lo W v n V
  ent : ∀ j, j < n → REnt K W (V j) (ls j)
theorem ELst.rely {lo : Nat} {K Own : Blk} {Sh : Shd} {v : Value} {n : Nat} {V : Nat → Value} {ls : Nat → List Ent} {W W1 : World} (h : ELst lo K v n V ls W) (hr : Rely Own Sh W W1) (hown : ∀ g, v.ownBlock = some g → Own g) (hK : ∀ b, K b → Own b ∨ Sh b) : ELst lo K v n V ls W1 :=
  ⟨h.row.rely hown hr, fun j hj => (h.ent j hj).rely hr hK⟩
theorem ELst.mono {lo : Nat} {K K' : Blk} {v : Value} {n : Nat} {V : Nat → Value} {ls : Nat → List Ent} {W : World} (h : ELst lo K v n V ls W) (hK : ∀ b, K b → K' b) : ELst lo K' v n V ls W := ⟨h.row, fun j hj => (h.ent j hj).mono hK⟩
theorem Keep.trans' {K K' : Blk} {W0 W W1 : World} (h : Keep K W0 W) (h' : Keep K' W W1) (hK : ∀ b, K b → b < W0.heap.size → K' b) : Keep K W0 W1 := ⟨Nat.le_trans h.size h'.size, fun b o hb ho => h'.heap b o (hK b hb (heap_lt ho)) (h.heap b o hb ho)⟩
theorem REnt.sl {K : Blk} {W : World} {v : Value} {l : List Ent} (h : REnt K W v l) : ∃ a c, v = .slice a l.length c := by
  obtain ⟨⟨_, a, c, h, _⟩, _⟩ := h
  exact ⟨a, c, h⟩
section
variable {lo : Nat} {Gr : Blk} {Ju : Blk → Goroutine → World → Prop} {RB : List Frame} {Own : Blk} {v1 : Value}
set_option maxRecDepth 100000 in
set_option maxHeartbeats 16000000 in
/-- The first loop. -/
theorem es_loop (hJ : Jud Try.prog true (shR lo Gr) Ju) {W1 : World} {va : Option Addr} {m cap : Nat} {lls : Nat → List Ent} (hN : NNRow lo va m lls W1) (hgl1 : Try.prog.globals.size ≤ W1.heap.size) (hlo1 : lo ≤ W1.heap.size) {kx : List Item}
    (hx : ∀ O A v V k, (k ≤ 12 ∧ k ≤ m) → A.tmps.size = 101 → A.defers = [] → SV v k → (∀ g, v.ownBlock = some g → O g) → Sl A 1 v1 → Sl A 5 v → Rt Ju RB (base 4) kx O A (fun W => Keep (fun b => b < lo) W1 W ∧ ELst lo (fun b => O b ∨ b < lo) v k V (fun j => entsOf (lls j)) W)) :
    ∀ d k O A v V, d = 12 - k → k ≤ 12 → k ≤ m → A.tmps.size = 101 → A.defers = [] → SV v k → (∀ g, v.ownBlock = some g → O g) → Sl A 0 (.slice va m cap) → Sl A 1 v1 → Sl A 5 v → Sl A 6 (.int .i64 k) →
      Rt Ju RB (base 4) (.code lp1C :: .inLoop lp1C :: .inBlock 0 :: kx) O A (fun W => Keep (fun b => b < lo) W1 W ∧ ELst lo (fun b => O b ∨ b < lo) v k V (fun j => entsOf (lls j)) W) := by
  have hB : (base 4).kind ≠ .early := by simp [base]
  have hst : ∀ (O : Blk) (v : Value) (k : Nat) (V : Nat → Value), (∀ g, v.ownBlock = some g → O g) → Stable O (shR lo Gr) fun W => Keep (fun b => b < lo) W1 W ∧ ELst lo (fun b => O b ∨ b < lo) v k V (fun j => entsOf (lls j)) W := fun O v k V ho => Stable.and (fun W W' hr z => z.rely hr fun b hb => .inr hb) fun W W' hr z => z.rely hr ho fun b hb => hb
  intro d
  induction d with
  | zero =>
    intro k O A v V hd hk hkm hsz hdf hsv hown s0 s1 s5 s6
    obtain rfl : k = 12 := by omega
    have hz := hst O v 12 V hown
    by_cases h : (12 : Nat) < m
    ·
      rw [show (Item.code lp1C : Item) = _ from congrArg Item.code lp1C_eq]
      refine rt_seq hJ hz ?_
      refine rt_seq hJ hz ?_
      rw [show e3C = .region 3 (regOps (e3C)) false from by kernel_rfl]
      refine rt_region hJ hz ?_
      rw [show List.range (regOps (e3C)).size = [0, 1, 2, 3, 4, 5, 6, 7] from by kernel_rfl]
      obtain ⟨o, ho, hop, hg, hdst⟩ : ∃ o, (regOps (e3C))[0]? = some o ∧ o.op = .move (.tmp 6) ∧ o.guard = none ∧ o.dst = some 18 := ⟨((regOps (e3C))[0]?).getD default, by kernel_rfl, by kernel_rfl, by kernel_rfl, by kernel_rfl⟩
      refine rt_val hJ hz hB ho hg (v := (.int .i64 (12 : Nat))) (fun W z => move1 hop s6.eval) (fun e he => by simp at he) ?_
      rw [hdst]
      replace s0 := s0.ne (d := 18) (u := (.int .i64 (12 : Nat))) (by decide)
      replace s1 := s1.ne (d := 18) (u := (.int .i64 (12 : Nat))) (by decide)
      replace s5 := s5.ne (d := 18) (u := (.int .i64 (12 : Nat))) (by decide)
      replace s6 := s6.ne (d := 18) (u := (.int .i64 (12 : Nat))) (by decide)
      have s18 : Sl (A.put (some 18) (.int .i64 (12 : Nat))) 18 (.int .i64 (12 : Nat)) := Sl.same (by rw [hsz]; decide)
      replace hsz : (A.put (some 18) (.int .i64 (12 : Nat))).tmps.size = 101 := (put_size _ _ _).trans hsz
      replace hdf : (A.put (some 18) (.int .i64 (12 : Nat))).defers = [] := (put_defers _ _ _).trans hdf
      generalize A.put (some 18) (.int .i64 (12 : Nat)) = A at *
      clear ho hop hg hdst
      obtain ⟨o, ho, hop, hg, hdst⟩ : ∃ o, (regOps (e3C))[1]? = some o ∧ o.op = .move (.tmp 0) ∧ o.guard = none ∧ o.dst = some 19 := ⟨((regOps (e3C))[1]?).getD default, by kernel_rfl, by kernel_rfl, by kernel_rfl, by kernel_rfl⟩
      refine rt_val hJ hz hB ho hg (v := (.slice va m cap)) (fun W z => move1 hop s0.eval) (fun e he => by simp at he) ?_
      rw [hdst]
      replace s0 := s0.ne (d := 19) (u := (.slice va m cap)) (by decide)
      replace s1 := s1.ne (d := 19) (u := (.slice va m cap)) (by decide)
      replace s5 := s5.ne (d := 19) (u := (.slice va m cap)) (by decide)
      replace s6 := s6.ne (d := 19) (u := (.slice va m cap)) (by decide)
      replace s18 := s18.ne (d := 19) (u := (.slice va m cap)) (by decide)
      have s19 : Sl (A.put (some 19) (.slice va m cap)) 19 (.slice va m cap) := Sl.same (by rw [hsz]; decide)
      replace hsz : (A.put (some 19) (.slice va m cap)).tmps.size = 101 := (put_size _ _ _).trans hsz
      replace hdf : (A.put (some 19) (.slice va m cap)).defers = [] := (put_defers _ _ _).trans hdf
      generalize A.put (some 19) (.slice va m cap) = A at *
      clear ho hop hg hdst
      obtain ⟨o, ho, hop, hg, hdst⟩ : ∃ o, (regOps (e3C))[2]? = some o ∧ o.op = .call { callee := .builtin .len, args := #[.tmp 19], argTypes := #[33] } ∧ o.guard = none ∧ o.dst = some 20 := ⟨((regOps (e3C))[2]?).getD default, by kernel_rfl, by kernel_rfl, by kernel_rfl, by kernel_rfl⟩
      refine rt_val hJ hz hB ho hg (v := (.int .i64 m)) (fun W z => lenT (.inl rfl) hop s19.eval) (fun e he => by simp at he) ?_
      rw [hdst]
      replace s0 := s0.ne (d := 20) (u := (.int .i64 m)) (by decide)
      replace s1 := s1.ne (d := 20) (u := (.int .i64 m)) (by decide)
      replace s5 := s5.ne (d := 20) (u := (.int .i64 m)) (by decide)
      replace s6 := s6.ne (d := 20) (u := (.int .i64 m)) (by decide)
      replace s18 := s18.ne (d := 20) (u := (.int .i64 m)) (by decide)
      replace s19 := s19.ne (d := 20) (u := (.int .i64 m)) (by decide)
      have s20 : Sl (A.put (some 20) (.int .i64 m)) 20 (.int .i64 m) := Sl.same (by rw [hsz]; decide)
      replace hsz : (A.put (some 20) (.int .i64 m)).tmps.size = 101 := (put_size _ _ _).trans hsz
      replace hdf : (A.put (some 20) (.int .i64 m)).defers = [] := (put_defers _ _ _).trans hdf
      generalize A.put (some 20) (.int .i64 m) = A at *
      clear ho hop hg hdst
      obtain ⟨o, ho, hop, hg, hdst⟩ : ∃ o, (regOps (e3C))[3]? = some o ∧ o.op = .binOp .lss 3 (.tmp 18) (.tmp 20) 3 ∧ o.guard = none ∧ o.dst = some 21 := ⟨((regOps (e3C))[3]?).getD default, by kernel_rfl, by kernel_rfl, by kernel_rfl, by kernel_rfl⟩
      refine rt_val hJ hz hB ho hg (v := (.bool true)) (fun W z => by have q := ltI (w := W) hop s18.eval s20.eval; rw [show decide (((12 : Nat) : Int) < (m : Int)) = true from by simp; try omega] at q; exact q) (fun e he => by simp at he) ?_
      rw [hdst]
      replace s0 := s0.ne (d := 21) (u := (.bool true)) (by decide)
      replace s1 := s1.ne (d := 21) (u := (.bool true)) (by decide)
      replace s5 := s5.ne (d := 21) (u := (.bool true)) (by decide)
      replace s6 := s6.ne (d := 21) (u := (.bool true)) (by decide)
      replace s18 := s18.ne (d := 21) (u := (.bool true)) (by decide)
      replace s19 := s19.ne (d := 21) (u := (.bool true)) (by decide)
      replace s20 := s20.ne (d := 21) (u := (.bool true)) (by decide)
      have s21 : Sl (A.put (some 21) (.bool true)) 21 (.bool true) := Sl.same (by rw [hsz]; decide)
      replace hsz : (A.put (some 21) (.bool true)).tmps.size = 101 := (put_size _ _ _).trans hsz
      replace hdf : (A.put (some 21) (.bool true)).defers = [] := (put_defers _ _ _).trans hdf
      generalize A.put (some 21) (.bool true) = A at *
      clear ho hop hg hdst
      obtain ⟨o, ho, hop, hg, hdst⟩ : ∃ o, (regOps (e3C))[4]? = some o ∧ o.op = .move (.tmp 21) ∧ o.guard = none ∧ o.dst = some 22 := ⟨((regOps (e3C))[4]?).getD default, by kernel_rfl, by kernel_rfl, by kernel_rfl, by kernel_rfl⟩
      refine rt_val hJ hz hB ho hg (v := (.bool true)) (fun W z => move1 hop s21.eval) (fun e he => by simp at he) ?_
      rw [hdst]
      replace s0 := s0.ne (d := 22) (u := (.bool true)) (by decide)
      replace s1 := s1.ne (d := 22) (u := (.bool true)) (by decide)
      replace s5 := s5.ne (d := 22) (u := (.bool true)) (by decide)
      replace s6 := s6.ne (d := 22) (u := (.bool true)) (by decide)
      replace s18 := s18.ne (d := 22) (u := (.bool true)) (by decide)
      replace s19 := s19.ne (d := 22) (u := (.bool true)) (by decide)
      replace s20 := s20.ne (d := 22) (u := (.bool true)) (by decide)
      replace s21 := s21.ne (d := 22) (u := (.bool true)) (by decide)
      have s22 : Sl (A.put (some 22) (.bool true)) 22 (.bool true) := Sl.same (by rw [hsz]; decide)
      replace hsz : (A.put (some 22) (.bool true)).tmps.size = 101 := (put_size _ _ _).trans hsz
      replace hdf : (A.put (some 22) (.bool true)).defers = [] := (put_defers _ _ _).trans hdf
      generalize A.put (some 22) (.bool true) = A at *
      clear ho hop hg hdst
      obtain ⟨o, ho, hop, hg, hdst⟩ : ∃ o, (regOps (e3C))[5]? = some o ∧ o.op = .move (.tmp 6) ∧ o.guard = some (4, true) ∧ o.dst = some 23 := ⟨((regOps (e3C))[5]?).getD default, by kernel_rfl, by kernel_rfl, by kernel_rfl, by kernel_rfl⟩
      refine rt_valw hJ hz hB ho (wanted_of (b := true) hg (by kernel_rfl : ((regOps (e3C))[4]?).bind (·.dst) = some 22) s22) (v := (.int .i64 (12 : Nat))) (fun W z => move1 hop s6.eval) (fun e he => by simp at he) ?_
      rw [hdst]
      replace s0 := s0.ne (d := 23) (u := (.int .i64 (12 : Nat))) (by decide)
      replace s1 := s1.ne (d := 23) (u := (.int .i64 (12 : Nat))) (by decide)
      replace s5 := s5.ne (d := 23) (u := (.int .i64 (12 : Nat))) (by decide)
      replace s6 := s6.ne (d := 23) (u := (.int .i64 (12 : Nat))) (by decide)
      replace s18 := s18.ne (d := 23) (u := (.int .i64 (12 : Nat))) (by decide)
      replace s19 := s19.ne (d := 23) (u := (.int .i64 (12 : Nat))) (by decide)
      replace s20 := s20.ne (d := 23) (u := (.int .i64 (12 : Nat))) (by decide)
      replace s21 := s21.ne (d := 23) (u := (.int .i64 (12 : Nat))) (by decide)
      replace s22 := s22.ne (d := 23) (u := (.int .i64 (12 : Nat))) (by decide)
      have s23 : Sl (A.put (some 23) (.int .i64 (12 : Nat))) 23 (.int .i64 (12 : Nat)) := Sl.same (by rw [hsz]; decide)
      replace hsz : (A.put (some 23) (.int .i64 (12 : Nat))).tmps.size = 101 := (put_size _ _ _).trans hsz
      replace hdf : (A.put (some 23) (.int .i64 (12 : Nat))).defers = [] := (put_defers _ _ _).trans hdf
      generalize A.put (some 23) (.int .i64 (12 : Nat)) = A at *
      clear ho hop hg hdst
      obtain ⟨o, ho, hop, hg, hdst⟩ : ∃ o, (regOps (e3C))[6]? = some o ∧ o.op = .binOp .lss 3 (.tmp 23) (.const (.int .i64 12)) 3 ∧ o.guard = some (4, true) ∧ o.dst = some 24 := ⟨((regOps (e3C))[6]?).getD default, by kernel_rfl, by kernel_rfl, by kernel_rfl, by kernel_rfl⟩
      refine rt_valw hJ hz hB ho (wanted_of (b := true) hg (by kernel_rfl : ((regOps (e3C))[4]?).bind (·.dst) = some 22) s22) (v := (.bool false)) (fun W z => by have q := ltI (w := W) hop s23.eval (m := 12) rfl; rw [show decide (((12 : Nat) : Int) < (12 : Int)) = false from by simp; try omega] at q; exact q) (fun e he => by simp at he) ?_
      rw [hdst]
      replace s0 := s0.ne (d := 24) (u := (.bool false)) (by decide)
      replace s1 := s1.ne (d := 24) (u := (.bool false)) (by decide)
      replace s5 := s5.ne (d := 24) (u := (.bool false)) (by decide)
      replace s6 := s6.ne (d := 24) (u := (.bool false)) (by decide)
      replace s18 := s18.ne (d := 24) (u := (.bool false)) (by decide)
      replace s19 := s19.ne (d := 24) (u := (.bool false)) (by decide)
      replace s20 := s20.ne (d := 24) (u := (.bool false)) (by decide)
      replace s21 := s21.ne (d := 24) (u := (.bool false)) (by decide)
      replace s22 := s22.ne (d := 24) (u := (.bool false)) (by decide)
      replace s23 := s23.ne (d := 24) (u := (.bool false)) (by decide)
      have s24 : Sl (A.put (some 24) (.bool false)) 24 (.bool false) := Sl.same (by rw [hsz]; decide)
      replace hsz : (A.put (some 24) (.bool false)).tmps.size = 101 := (put_size _ _ _).trans hsz
      replace hdf : (A.put (some 24) (.bool false)).defers = [] := (put_defers _ _ _).trans hdf
      generalize A.put (some 24) (.bool false) = A at *
      clear ho hop hg hdst
      obtain ⟨o, ho, hop, hg, hdst⟩ : ∃ o, (regOps (e3C))[7]? = some o ∧ o.op = .pick (.tmp 22) (.tmp 24) (.const (.bool false)) ∧ o.guard = none ∧ o.dst = some 25 := ⟨((regOps (e3C))[7]?).getD default, by kernel_rfl, by kernel_rfl, by kernel_rfl, by kernel_rfl⟩
      refine rt_val hJ hz hB ho hg (v := (.bool false)) (fun W z => by have q := pickB (w := W) hop s22.eval; simp only [if_true, Bool.false_eq_true, if_false] at q; rw [s24.eval] at q; exact q) (fun e he => by simp at he) ?_
      rw [hdst]
      replace s0 := s0.ne (d := 25) (u := (.bool false)) (by decide)
      replace s1 := s1.ne (d := 25) (u := (.bool false)) (by decide)
      replace s5 := s5.ne (d := 25) (u := (.bool false)) (by decide)
      replace s6 := s6.ne (d := 25) (u := (.bool false)) (by decide)
      replace s18 := s18.ne (d := 25) (u := (.bool false)) (by decide)
      replace s19 := s19.ne (d := 25) (u := (.bool false)) (by decide)
      replace s20 := s20.ne (d := 25) (u := (.bool false)) (by decide)
      replace s21 := s21.ne (d := 25) (u := (.bool false)) (by decide)
      replace s22 := s22.ne (d := 25) (u := (.bool false)) (by decide)
      replace s23 := s23.ne (d := 25) (u := (.bool false)) (by decide)
      replace s24 := s24.ne (d := 25) (u := (.bool false)) (by decide)
      have s25 : Sl (A.put (some 25) (.bool false)) 25 (.bool false) := Sl.same (by rw [hsz]; decide)
      replace hsz : (A.put (some 25) (.bool false)).tmps.size = 101 := (put_size _ _ _).trans hsz
      replace hdf : (A.put (some 25) (.bool false)).defers = [] := (put_defers _ _ _).trans hdf
      generalize A.put (some 25) (.bool false) = A at *
      clear ho hop hg hdst
      refine rt_region_end hJ hz ?_
      refine rt_cond hJ hz (b := false) s25.eval ?_
      simp only [Bool.false_eq_true, if_false]
      refine rt_exit hJ hz (k' := kx) (by simp [exitTo]) ?_
      exact hx O A v V _ ⟨by omega, by omega⟩ hsz hdf hsv hown s1 s5
    ·
      rw [show (Item.code lp1C : Item) = _ from congrArg Item.code lp1C_eq]
      refine rt_seq hJ hz ?_
      refine rt_seq hJ hz ?_
      rw [show e3C = .region 3 (regOps (e3C)) false from by kernel_rfl]
      refine rt_region hJ hz ?_
      rw [show List.range (regOps (e3C)).size = [0, 1, 2, 3, 4, 5, 6, 7] from by kernel_rfl]
      obtain ⟨o, ho, hop, hg, hdst⟩ : ∃ o, (regOps (e3C))[0]? = some o ∧ o.op = .move (.tmp 6) ∧ o.guard = none ∧ o.dst = some 18 := ⟨((regOps (e3C))[0]?).getD default, by kernel_rfl, by kernel_rfl, by kernel_rfl, by kernel_rfl⟩
      refine rt_val hJ hz hB ho hg (v := (.int .i64 (12 : Nat))) (fun W z => move1 hop s6.eval) (fun e he => by simp at he) ?_
      rw [hdst]
      replace s0 := s0.ne (d := 18) (u := (.int .i64 (12 : Nat))) (by decide)
      replace s1 := s1.ne (d := 18) (u := (.int .i64 (12 : Nat))) (by decide)
      replace s5 := s5.ne (d := 18) (u := (.int .i64 (12 : Nat))) (by decide)
      replace s6 := s6.ne (d := 18) (u := (.int .i64 (12 : Nat))) (by decide)
      have s18 : Sl (A.put (some 18) (.int .i64 (12 : Nat))) 18 (.int .i64 (12 : Nat)) := Sl.same (by rw [hsz]; decide)
      replace hsz : (A.put (some 18) (.int .i64 (12 : Nat))).tmps.size = 101 := (put_size _ _ _).trans hsz
      replace hdf : (A.put (some 18) (.int .i64 (12 : Nat))).defers = [] := (put_defers _ _ _).trans hdf
      generalize A.put (some 18) (.int .i64 (12 : Nat)) = A at *
      clear ho hop hg hdst
      obtain ⟨o, ho, hop, hg, hdst⟩ : ∃ o, (regOps (e3C))[1]? = some o ∧ o.op = .move (.tmp 0) ∧ o.guard = none ∧ o.dst = some 19 := ⟨((regOps (e3C))[1]?).getD default, by kernel_rfl, by kernel_rfl, by kernel_rfl, by kernel_rfl⟩
      refine rt_val hJ hz hB ho hg (v := (.slice va m cap)) (fun W z => move1 hop s0.eval) (fun e he => by simp at he) ?_
      rw [hdst]
      replace s0 := s0.ne (d := 19) (u := (.slice va m cap)) (by decide)
      replace s1 := s1.ne (d := 19) (u := (.slice va m cap)) (by decide)
      replace s5 := s5.ne (d := 19) (u := (.slice va m cap)) (by decide)
      replace s6 := s6.ne (d := 19) (u := (.slice va m cap)) (by decide)
      replace s18 := s18.ne (d := 19) (u := (.slice va m cap)) (by decide)
      have s19 : Sl (A.put (some 19) (.slice va m cap)) 19 (.slice va m cap) := Sl.same (by rw [hsz]; decide)
      replace hsz : (A.put (some 19) (.slice va m cap)).tmps.size = 101 := (put_size _ _ _).trans hsz
      replace hdf : (A.put (some 19) (.slice va m cap)).defers = [] := (put_defers _ _ _).trans hdf
      generalize A.put (some 19) (.slice va m cap) = A at *
      clear ho hop hg hdst
      obtain ⟨o, ho, hop, hg, hdst⟩ : ∃ o, (regOps (e3C))[2]? = some o ∧ o.op = .call { callee := .builtin .len, args := #[.tmp 19], argTypes := #[33] } ∧ o.guard = none ∧ o.dst = some 20 := ⟨((regOps (e3C))[2]?).getD default, by kernel_rfl, by kernel_rfl, by kernel_rfl, by kernel_rfl⟩
      refine rt_val hJ hz hB ho hg (v := (.int .i64 m)) (fun W z => lenT (.inl rfl) hop s19.eval) (fun e he => by simp at he) ?_
      rw [hdst]
      replace s0 := s0.ne (d := 20) (u := (.int .i64 m)) (by decide)
      replace s1 := s1.ne (d := 20) (u := (.int .i64 m)) (by decide)
      replace s5 := s5.ne (d := 20) (u := (.int .i64 m)) (by decide)
      replace s6 := s6.ne (d := 20) (u := (.int .i64 m)) (by decide)
      replace s18 := s18.ne (d := 20) (u := (.int .i64 m)) (by decide)
      replace s19 := s19.ne (d := 20) (u := (.int .i64 m)) (by decide)
      have s20 : Sl (A.put (some 20) (.int .i64 m)) 20 (.int .i64 m) := Sl.same (by rw [hsz]; decide)
      replace hsz : (A.put (some 20) (.int .i64 m)).tmps.size = 101 := (put_size _ _ _).trans hsz
      replace hdf : (A.put (some 20) (.int .i64 m)).defers = [] := (put_defers _ _ _).trans hdf
      generalize A.put (some 20) (.int .i64 m) = A at *
      clear ho hop hg hdst
      obtain ⟨o, ho, hop, hg, hdst⟩ : ∃ o, (regOps (e3C))[3]? = some o ∧ o.op = .binOp .lss 3 (.tmp 18) (.tmp 20) 3 ∧ o.guard = none ∧ o.dst = some 21 := ⟨((regOps (e3C))[3]?).getD default, by kernel_rfl, by kernel_rfl, by kernel_rfl, by kernel_rfl⟩
      refine rt_val hJ hz hB ho hg (v := (.bool false)) (fun W z => by have q := ltI (w := W) hop s18.eval s20.eval; rw [show decide (((12 : Nat) : Int) < (m : Int)) = false from by simp; try omega] at q; exact q) (fun e he => by simp at he) ?_
      rw [hdst]
      replace s0 := s0.ne (d := 21) (u := (.bool false)) (by decide)
      replace s1 := s1.ne (d := 21) (u := (.bool false)) (by decide)
      replace s5 := s5.ne (d := 21) (u := (.bool false)) (by decide)
      replace s6 := s6.ne (d := 21) (u := (.bool false)) (by decide)
      replace s18 := s18.ne (d := 21) (u := (.bool false)) (by decide)
      replace s19 := s19.ne (d := 21) (u := (.bool false)) (by decide)
      replace s20 := s20.ne (d := 21) (u := (.bool false)) (by decide)
      have s21 : Sl (A.put (some 21) (.bool false)) 21 (.bool false) := Sl.same (by rw [hsz]; decide)
      replace hsz : (A.put (some 21) (.bool false)).tmps.size = 101 := (put_size _ _ _).trans hsz
      replace hdf : (A.put (some 21) (.bool false)).defers = [] := (put_defers _ _ _).trans hdf
      generalize A.put (some 21) (.bool false) = A at *
      clear ho hop hg hdst
      obtain ⟨o, ho, hop, hg, hdst⟩ : ∃ o, (regOps (e3C))[4]? = some o ∧ o.op = .move (.tmp 21) ∧ o.guard = none ∧ o.dst = some 22 := ⟨((regOps (e3C))[4]?).getD default, by kernel_rfl, by kernel_rfl, by kernel_rfl, by kernel_rfl⟩
      refine rt_val hJ hz hB ho hg (v := (.bool false)) (fun W z => move1 hop s21.eval) (fun e he => by simp at he) ?_
      rw [hdst]
      replace s0 := s0.ne (d := 22) (u := (.bool false)) (by decide)
      replace s1 := s1.ne (d := 22) (u := (.bool false)) (by decide)
      replace s5 := s5.ne (d := 22) (u := (.bool false)) (by decide)
      replace s6 := s6.ne (d := 22) (u := (.bool false)) (by decide)
      replace s18 := s18.ne (d := 22) (u := (.bool false)) (by decide)
      replace s19 := s19.ne (d := 22) (u := (.bool false)) (by decide)
      replace s20 := s20.ne (d := 22) (u := (.bool false)) (by decide)
      replace s21 := s21.ne (d := 22) (u := (.bool false)) (by decide)
      have s22 : Sl (A.put (some 22) (.bool false)) 22 (.bool false) := Sl.same (by rw [hsz]; decide)
      replace hsz : (A.put (some 22) (.bool false)).tmps.size = 101 := (put_size _ _ _).trans hsz
      replace hdf : (A.put (some 22) (.bool false)).defers = [] := (put_defers _ _ _).trans hdf
      generalize A.put (some 22) (.bool false) = A at *
      clear ho hop hg hdst
      obtain ⟨o, ho, hop, hg, hdst⟩ : ∃ o, (regOps (e3C))[5]? = some o ∧ o.op = .move (.tmp 6) ∧ o.guard = some (4, true) ∧ o.dst = some 23 := ⟨((regOps (e3C))[5]?).getD default, by kernel_rfl, by kernel_rfl, by kernel_rfl, by kernel_rfl⟩
      refine rt_unw hJ hz ho (wanted_of (b := false) hg (by kernel_rfl : ((regOps (e3C))[4]?).bind (·.dst) = some 22) s22) ?_
      rw [hdst]
      replace s0 := s0.ne (d := 23) (u := undef) (by decide)
      replace s1 := s1.ne (d := 23) (u := undef) (by decide)
      replace s5 := s5.ne (d := 23) (u := undef) (by decide)
      replace s6 := s6.ne (d := 23) (u := undef) (by decide)
      replace s18 := s18.ne (d := 23) (u := undef) (by decide)
      replace s19 := s19.ne (d := 23) (u := undef) (by decide)
      replace s20 := s20.ne (d := 23) (u := undef) (by decide)
      replace s21 := s21.ne (d := 23) (u := undef) (by decide)
      replace s22 := s22.ne (d := 23) (u := undef) (by decide)
      have s23 : Sl (A.put (some 23) undef) 23 undef := Sl.same (by rw [hsz]; decide)
      replace hsz : (A.put (some 23) undef).tmps.size = 101 := (put_size _ _ _).trans hsz
      replace hdf : (A.put (some 23) undef).defers = [] := (put_defers _ _ _).trans hdf
      generalize A.put (some 23) undef = A at *
      clear ho hop hg hdst
      obtain ⟨o, ho, hop, hg, hdst⟩ : ∃ o, (regOps (e3C))[6]? = some o ∧ o.op = .binOp .lss 3 (.tmp 23) (.const (.int .i64 12)) 3 ∧ o.guard = some (4, true) ∧ o.dst = some 24 := ⟨((regOps (e3C))[6]?).getD default, by kernel_rfl, by kernel_rfl, by kernel_rfl, by kernel_rfl⟩
      refine rt_unw hJ hz ho (wanted_of (b := false) hg (by kernel_rfl : ((regOps (e3C))[4]?).bind (·.dst) = some 22) s22) ?_
      rw [hdst]
      replace s0 := s0.ne (d := 24) (u := undef) (by decide)
      replace s1 := s1.ne (d := 24) (u := undef) (by decide)
      replace s5 := s5.ne (d := 24) (u := undef) (by decide)
      replace s6 := s6.ne (d := 24) (u := undef) (by decide)
      replace s18 := s18.ne (d := 24) (u := undef) (by decide)
      replace s19 := s19.ne (d := 24) (u := undef) (by decide)
      replace s20 := s20.ne (d := 24) (u := undef) (by decide)
      replace s21 := s21.ne (d := 24) (u := undef) (by decide)
      replace s22 := s22.ne (d := 24) (u := undef) (by decide)
      replace s23 := s23.ne (d := 24) (u := undef) (by decide)
      have s24 : Sl (A.put (some 24) undef) 24 undef := Sl.same (by rw [hsz]; decide)
      replace hsz : (A.put (some 24) undef).tmps.size = 101 := (put_size _ _ _).trans hsz
      replace hdf : (A.put (some 24) undef).defers = [] := (put_defers _ _ _).trans hdf
      generalize A.put (some 24) undef = A at *
      clear ho hop hg hdst
      obtain ⟨o, ho, hop, hg, hdst⟩ : ∃ o, (regOps (e3C))[7]? = some o ∧ o.op = .pick (.tmp 22) (.tmp 24) (.const (.bool false)) ∧ o.guard = none ∧ o.dst = some 25 := ⟨((regOps (e3C))[7]?).getD default, by kernel_rfl, by kernel_rfl, by kernel_rfl, by kernel_rfl⟩
      refine rt_val hJ hz hB ho hg (v := (.bool false)) (fun W z => by have q := pickB (w := W) hop s22.eval; simp only [if_true, Bool.false_eq_true, if_false] at q; exact q) (fun e he => by simp at he) ?_
      rw [hdst]
      replace s0 := s0.ne (d := 25) (u := (.bool false)) (by decide)
      replace s1 := s1.ne (d := 25) (u := (.bool false)) (by decide)
      replace s5 := s5.ne (d := 25) (u := (.bool false)) (by decide)
      replace s6 := s6.ne (d := 25) (u := (.bool false)) (by decide)
      replace s18 := s18.ne (d := 25) (u := (.bool false)) (by decide)
      replace s19 := s19.ne (d := 25) (u := (.bool false)) (by decide)
      replace s20 := s20.ne (d := 25) (u := (.bool false)) (by decide)
      replace s21 := s21.ne (d := 25) (u := (.bool false)) (by decide)
      replace s22 := s22.ne (d := 25) (u := (.bool false)) (by decide)
      replace s23 := s23.ne (d := 25) (u := (.bool false)) (by decide)
      replace s24 := s24.ne (d := 25) (u := (.bool false)) (by decide)
      have s25 : Sl (A.put (some 25) (.bool false)) 25 (.bool false) := Sl.same (by rw [hsz]; decide)
      replace hsz : (A.put (some 25) (.bool false)).tmps.size = 101 := (put_size _ _ _).trans hsz
      replace hdf : (A.put (some 25) (.bool false)).defers = [] := (put_defers _ _ _).trans hdf
      generalize A.put (some 25) (.bool false) = A at *
      clear ho hop hg hdst
      refine rt_region_end hJ hz ?_
      refine rt_cond hJ hz (b := false) s25.eval ?_
      simp only [Bool.false_eq_true, if_false]
      refine rt_exit hJ hz (k' := kx) (by simp [exitTo]) ?_
      exact hx O A v V _ ⟨by omega, by omega⟩ hsz hdf hsv hown s1 s5
  | succ d ih =>
    intro k O A v V hd hk hkm hsz hdf hsv hown s0 s1 s5 s6
    have hz := hst O v k V hown
    by_cases hlt : k < m
    ·
      rw [show (Item.code lp1C : Item) = _ from congrArg Item.code lp1C_eq]
      refine rt_seq hJ hz ?_
      refine rt_seq hJ hz ?_
      rw [show e3C = .region 3 (regOps (e3C)) false from by kernel_rfl]
      refine rt_region hJ hz ?_
      rw [show List.range (regOps (e3C)).size = [0, 1, 2, 3, 4, 5, 6, 7] from by kernel_rfl]
      obtain ⟨o, ho, hop, hg, hdst⟩ : ∃ o, (regOps (e3C))[0]? = some o ∧ o.op = .move (.tmp 6) ∧ o.guard = none ∧ o.dst = some 18 := ⟨((regOps (e3C))[0]?).getD default, by kernel_rfl, by kernel_rfl, by kernel_rfl, by kernel_rfl⟩
      refine rt_val hJ hz hB ho hg (v := (.int .i64 (k : Nat))) (fun W z => move1 hop s6.eval) (fun e he => by simp at he) ?_
      rw [hdst]
      replace s0 := s0.ne (d := 18) (u := (.int .i64 (k : Nat))) (by decide)
      replace s1 := s1.ne (d := 18) (u := (.int .i64 (k : Nat))) (by decide)
      replace s5 := s5.ne (d := 18) (u := (.int .i64 (k : Nat))) (by decide)
      replace s6 := s6.ne (d := 18) (u := (.int .i64 (k : Nat))) (by decide)
      have s18 : Sl (A.put (some 18) (.int .i64 (k : Nat))) 18 (.int .i64 (k : Nat)) := Sl.same (by rw [hsz]; decide)
      replace hsz : (A.put (some 18) (.int .i64 (k : Nat))).tmps.size = 101 := (put_size _ _ _).trans hsz
      replace hdf : (A.put (some 18) (.int .i64 (k : Nat))).defers = [] := (put_defers _ _ _).trans hdf
      generalize A.put (some 18) (.int .i64 (k : Nat)) = A at *
      clear ho hop hg hdst
      obtain ⟨o, ho, hop, hg, hdst⟩ : ∃ o, (regOps (e3C))[1]? = some o ∧ o.op = .move (.tmp 0) ∧ o.guard = none ∧ o.dst = some 19 := ⟨((regOps (e3C))[1]?).getD default, by kernel_rfl, by kernel_rfl, by kernel_rfl, by kernel_rfl⟩
      refine rt_val hJ hz hB ho hg (v := (.slice va m cap)) (fun W z => move1 hop s0.eval) (fun e he => by simp at he) ?_
      rw [hdst]
      replace s0 := s0.ne (d := 19) (u := (.slice va m cap)) (by decide)
      replace s1 := s1.ne (d := 19) (u := (.slice va m cap)) (by decide)
      replace s5 := s5.ne (d := 19) (u := (.slice va m cap)) (by decide)
      replace s6 := s6.ne (d := 19) (u := (.slice va m cap)) (by decide)
      replace s18 := s18.ne (d := 19) (u := (.slice va m cap)) (by decide)
      have s19 : Sl (A.put (some 19) (.slice va m cap)) 19 (.slice va m cap) := Sl.same (by rw [hsz]; decide)
      replace hsz : (A.put (some 19) (.slice va m cap)).tmps.size = 101 := (put_size _ _ _).trans hsz
      replace hdf : (A.put (some 19) (.slice va m cap)).defers = [] := (put_defers _ _ _).trans hdf
      generalize A.put (some 19) (.slice va m cap) = A at *
      clear ho hop hg hdst
      obtain ⟨o, ho, hop, hg, hdst⟩ : ∃ o, (regOps (e3C))[2]? = some o ∧ o.op = .call { callee := .builtin .len, args := #[.tmp 19], argTypes := #[33] } ∧ o.guard = none ∧ o.dst = some 20 := ⟨((regOps (e3C))[2]?).getD default, by kernel_rfl, by kernel_rfl, by kernel_rfl, by kernel_rfl⟩
      refine rt_val hJ hz hB ho hg (v := (.int .i64 m)) (fun W z => lenT (.inl rfl) hop s19.eval) (fun e he => by simp at he) ?_
      rw [hdst]
      replace s0 := s0.ne (d := 20) (u := (.int .i64 m)) (by decide)
      replace s1 := s1.ne (d := 20) (u := (.int .i64 m)) (by decide)
      replace s5 := s5.ne (d := 20) (u := (.int .i64 m)) (by decide)
      replace s6 := s6.ne (d := 20) (u := (.int .i64 m)) (by decide)
      replace s18 := s18.ne (d := 20) (u := (.int .i64 m)) (by decide)
      replace s19 := s19.ne (d := 20) (u := (.int .i64 m)) (by decide)
      have s20 : Sl (A.put (some 20) (.int .i64 m)) 20 (.int .i64 m) := Sl.same (by rw [hsz]; decide)
      replace hsz : (A.put (some 20) (.int .i64 m)).tmps.size = 101 := (put_size _ _ _).trans hsz
      replace hdf : (A.put (some 20) (.int .i64 m)).defers = [] := (put_defers _ _ _).trans hdf
      generalize A.put (some 20) (.int .i64 m) = A at *
      clear ho hop hg hdst
      obtain ⟨o, ho, hop, hg, hdst⟩ : ∃ o, (regOps (e3C))[3]? = some o ∧ o.op = .binOp .lss 3 (.tmp 18) (.tmp 20) 3 ∧ o.guard = none ∧ o.dst = some 21 := ⟨((regOps (e3C))[3]?).getD default, by kernel_rfl, by kernel_rfl, by kernel_rfl, by kernel_rfl⟩
      refine rt_val hJ hz hB ho hg (v := (.bool true)) (fun W z => by have q := ltI (w := W) hop s18.eval s20.eval; rw [show decide (((k : Nat) : Int) < (m : Int)) = true from by simp; try omega] at q; exact q) (fun e he => by simp at he) ?_
      rw [hdst]
      replace s0 := s0.ne (d := 21) (u := (.bool true)) (by decide)
      replace s1 := s1.ne (d := 21) (u := (.bool true)) (by decide)
      replace s5 := s5.ne (d := 21) (u := (.bool true)) (by decide)
      replace s6 := s6.ne (d := 21) (u := (.bool true)) (by decide)
      replace s18 := s18.ne (d := 21) (u := (.bool true)) (by decide)
      replace s19 := s19.ne (d := 21) (u := (.bool true)) (by decide)
      replace s20 := s20.ne (d := 21) (u := (.bool true)) (by decide)
      have s21 : Sl (A.put (some 21) (.bool true)) 21 (.bool true) := Sl.same (by rw [hsz]; decide)
      replace hsz : (A.put (some 21) (.bool true)).tmps.size = 101 := (put_size _ _ _).trans hsz
      replace hdf : (A.put (some 21) (.bool true)).defers = [] := (put_defers _ _ _).trans hdf
      generalize A.put (some 21) (.bool true) = A at *
      clear ho hop hg hdst
      obtain ⟨o, ho, hop, hg, hdst⟩ : ∃ o, (regOps (e3C))[4]? = some o ∧ o.op = .move (.tmp 21) ∧ o.guard = none ∧ o.dst = some 22 := ⟨((regOps (e3C))[4]?).getD default, by kernel_rfl, by kernel_rfl, by kernel_rfl, by kernel_rfl⟩
      refine rt_val hJ hz hB ho hg (v := (.bool true)) (fun W z => move1 hop s21.eval) (fun e he => by simp at he) ?_
      rw [hdst]
      replace s0 := s0.ne (d := 22) (u := (.bool true)) (by decide)
      replace s1 := s1.ne (d := 22) (u := (.bool true)) (by decide)
      replace s5 := s5.ne (d := 22) (u := (.bool true)) (by decide)
      replace s6 := s6.ne (d := 22) (u := (.bool true)) (by decide)
      replace s18 := s18.ne (d := 22) (u := (.bool true)) (by decide)
      replace s19 := s19.ne (d := 22) (u := (.bool true)) (by decide)
      replace s20 := s20.ne (d := 22) (u := (.bool true)) (by decide)
      replace s21 := s21.ne (d := 22) (u := (.bool true)) (by decide)
      have s22 : Sl (A.put (some 22) (.bool true)) 22 (.bool true) := Sl.same (by rw [hsz]; decide)
      replace hsz : (A.put (some 22) (.bool true)).tmps.size = 101 := (put_size _ _ _).trans hsz
      replace hdf : (A.put (some 22) (.bool true)).defers = [] := (put_defers _ _ _).trans hdf
      generalize A.put (some 22) (.bool true) = A at *
      clear ho hop hg hdst
      obtain ⟨o, ho, hop, hg, hdst⟩ : ∃ o, (regOps (e3C))[5]? = some o ∧ o.op = .move (.tmp 6) ∧ o.guard = some (4, true) ∧ o.dst = some 23 := ⟨((regOps (e3C))[5]?).getD default, by kernel_rfl, by kernel_rfl, by kernel_rfl, by kernel_rfl⟩
      refine rt_valw hJ hz hB ho (wanted_of (b := true) hg (by kernel_rfl : ((regOps (e3C))[4]?).bind (·.dst) = some 22) s22) (v := (.int .i64 (k : Nat))) (fun W z => move1 hop s6.eval) (fun e he => by simp at he) ?_
      rw [hdst]
      replace s0 := s0.ne (d := 23) (u := (.int .i64 (k : Nat))) (by decide)
      replace s1 := s1.ne (d := 23) (u := (.int .i64 (k : Nat))) (by decide)
      replace s5 := s5.ne (d := 23) (u := (.int .i64 (k : Nat))) (by decide)
      replace s6 := s6.ne (d := 23) (u := (.int .i64 (k : Nat))) (by decide)
      replace s18 := s18.ne (d := 23) (u := (.int .i64 (k : Nat))) (by decide)
      replace s19 := s19.ne (d := 23) (u := (.int .i64 (k : Nat))) (by decide)
      replace s20 := s20.ne (d := 23) (u := (.int .i64 (k : Nat))) (by decide)
      replace s21 := s21.ne (d := 23) (u := (.int .i64 (k : Nat))) (by decide)
      replace s22 := s22.ne (d := 23) (u := (.int .i64 (k : Nat))) (by decide)
      have s23 : Sl (A.put (some 23) (.int .i64 (k : Nat))) 23 (.int .i64 (k : Nat)) := Sl.same (by rw [hsz]; decide)
      replace hsz : (A.put (some 23) (.int .i64 (k : Nat))).tmps.size = 101 := (put_size _ _ _).trans hsz
      replace hdf : (A.put (some 23) (.int .i64 (k : Nat))).defers = [] := (put_defers _ _ _).trans hdf
      generalize A.put (some 23) (.int .i64 (k : Nat)) = A at *
      clear ho hop hg hdst
      obtain ⟨o, ho, hop, hg, hdst⟩ : ∃ o, (regOps (e3C))[6]? = some o ∧ o.op = .binOp .lss 3 (.tmp 23) (.const (.int .i64 12)) 3 ∧ o.guard = some (4, true) ∧ o.dst = some 24 := ⟨((regOps (e3C))[6]?).getD default, by kernel_rfl, by kernel_rfl, by kernel_rfl, by kernel_rfl⟩
      refine rt_valw hJ hz hB ho (wanted_of (b := true) hg (by kernel_rfl : ((regOps (e3C))[4]?).bind (·.dst) = some 22) s22) (v := (.bool true)) (fun W z => by have q := ltI (w := W) hop s23.eval (m := 12) rfl; rw [show decide (((k : Nat) : Int) < (12 : Int)) = true from by simp; try omega] at q; exact q) (fun e he => by simp at he) ?_
      rw [hdst]
      replace s0 := s0.ne (d := 24) (u := (.bool true)) (by decide)
      replace s1 := s1.ne (d := 24) (u := (.bool true)) (by decide)
      replace s5 := s5.ne (d := 24) (u := (.bool true)) (by decide)
      replace s6 := s6.ne (d := 24) (u := (.bool true)) (by decide)
      replace s18 := s18.ne (d := 24) (u := (.bool true)) (by decide)
      replace s19 := s19.ne (d := 24) (u := (.bool true)) (by decide)
      replace s20 := s20.ne (d := 24) (u := (.bool true)) (by decide)
      replace s21 := s21.ne (d := 24) (u := (.bool true)) (by decide)
      replace s22 := s22.ne (d := 24) (u := (.bool true)) (by decide)
      replace s23 := s23.ne (d := 24) (u := (.bool true)) (by decide)
      have s24 : Sl (A.put (some 24) (.bool true)) 24 (.bool true) := Sl.same (by rw [hsz]; decide)
      replace hsz : (A.put (some 24) (.bool true)).tmps.size = 101 := (put_size _ _ _).trans hsz
      replace hdf : (A.put (some 24) (.bool true)).defers = [] := (put_defers _ _ _).trans hdf
      generalize A.put (some 24) (.bool true) = A at *
      clear ho hop hg hdst
      obtain ⟨o, ho, hop, hg, hdst⟩ : ∃ o, (regOps (e3C))[7]? = some o ∧ o.op = .pick (.tmp 22) (.tmp 24) (.const (.bool false)) ∧ o.guard = none ∧ o.dst = some 25 := ⟨((regOps (e3C))[7]?).getD default, by kernel_rfl, by kernel_rfl, by kernel_rfl, by kernel_rfl⟩
      refine rt_val hJ hz hB ho hg (v := (.bool true)) (fun W z => by have q := pickB (w := W) hop s22.eval; simp only [if_true, Bool.false_eq_true, if_false] at q; rw [s24.eval] at q; exact q) (fun e he => by simp at he) ?_
      rw [hdst]
      replace s0 := s0.ne (d := 25) (u := (.bool true)) (by decide)
      replace s1 := s1.ne (d := 25) (u := (.bool true)) (by decide)
      replace s5 := s5.ne (d := 25) (u := (.bool true)) (by decide)
      replace s6 := s6.ne (d := 25) (u := (.bool true)) (by decide)
      replace s18 := s18.ne (d := 25) (u := (.bool true)) (by decide)
      replace s19 := s19.ne (d := 25) (u := (.bool true)) (by decide)
      replace s20 := s20.ne (d := 25) (u := (.bool true)) (by decide)
      replace s21 := s21.ne (d := 25) (u := (.bool true)) (by decide)
      replace s22 := s22.ne (d := 25) (u := (.bool true)) (by decide)
      replace s23 := s23.ne (d := 25) (u := (.bool true)) (by decide)
      replace s24 := s24.ne (d := 25) (u := (.bool true)) (by decide)
      have s25 : Sl (A.put (some 25) (.bool true)) 25 (.bool true) := Sl.same (by rw [hsz]; decide)
      replace hsz : (A.put (some 25) (.bool true)).tmps.size = 101 := (put_size _ _ _).trans hsz
      replace hdf : (A.put (some 25) (.bool true)).defers = [] := (put_defers _ _ _).trans hdf
      generalize A.put (some 25) (.bool true) = A at *
      clear ho hop hg hdst
      refine rt_region_end hJ hz ?_
      refine rt_cond hJ hz (b := true) s25.eval ?_
      simp only [if_true]
      obtain ⟨b, off, vi, ci, rfl, hb, hcell, hnr⟩ := hN.row k hlt
      refine rt_skip hJ hz ?_
      refine rt_seq hJ hz ?_
      refine rt_block hJ hz ?_
      rw [show (Item.code bk1C : Item) = _ from congrArg Item.code bk1C_eq]
      refine rt_seq hJ hz ?_
      rw [show e5C = .region 5 (regOps (e5C)) false from by kernel_rfl]
      refine rt_region hJ hz ?_
      rw [show List.range (regOps (e5C)).size = [0, 1, 2, 3, 4, 5, 6, 7, 8, 9] from by kernel_rfl]
      obtain ⟨o, ho, hop, hg, hdst⟩ : ∃ o, (regOps (e5C))[0]? = some o ∧ o.op = .move (.tmp 0) ∧ o.guard = none ∧ o.dst = some 29 := ⟨((regOps (e5C))[0]?).getD default, by kernel_rfl, by kernel_rfl, by kernel_rfl, by kernel_rfl⟩
      refine rt_val hJ hz hB ho hg (v := (.slice (some ⟨b, off, none⟩) m cap)) (fun W z => move1 hop s0.eval) (fun e he => by simp at he) ?_
      rw [hdst]
      replace s0 := s0.ne (d := 29) (u := (.slice (some ⟨b, off, none⟩) m cap)) (by decide)
      replace s1 := s1.ne (d := 29) (u := (.slice (some ⟨b, off, none⟩) m cap)) (by decide)
      replace s5 := s5.ne (d := 29) (u := (.slice (some ⟨b, off, none⟩) m cap)) (by decide)
      replace s6 := s6.ne (d := 29) (u := (.slice (some ⟨b, off, none⟩) m cap)) (by decide)
      replace s18 := s18.ne (d := 29) (u := (.slice (some ⟨b, off, none⟩) m cap)) (by decide)
      replace s19 := s19.ne (d := 29) (u := (.slice (some ⟨b, off, none⟩) m cap)) (by decide)
      replace s20 := s20.ne (d := 29) (u := (.slice (some ⟨b, off, none⟩) m cap)) (by decide)
      replace s21 := s21.ne (d := 29) (u := (.slice (some ⟨b, off, none⟩) m cap)) (by decide)
      replace s22 := s22.ne (d := 29) (u := (.slice (some ⟨b, off, none⟩) m cap)) (by decide)
      replace s23 := s23.ne (d := 29) (u := (.slice (some ⟨b, off, none⟩) m cap)) (by decide)
      replace s24 := s24.ne (d := 29) (u := (.slice (some ⟨b, off, none⟩) m cap)) (by decide)
      replace s25 := s25.ne (d := 29) (u := (.slice (some ⟨b, off, none⟩) m cap)) (by decide)
      have s29 : Sl (A.put (some 29) (.slice (some ⟨b, off, none⟩) m cap)) 29 (.slice (some ⟨b, off, none⟩) m cap) := Sl.same (by rw [hsz]; decide)
      replace hsz : (A.put (some 29) (.slice (some ⟨b, off, none⟩) m cap)).tmps.size = 101 := (put_size _ _ _).trans hsz
      replace hdf : (A.put (some 29) (.slice (some ⟨b, off, none⟩) m cap)).defers = [] := (put_defers _ _ _).trans hdf
      generalize A.put (some 29) (.slice (some ⟨b, off, none⟩) m cap) = A at *
      clear ho hop hg hdst
      obtain ⟨o, ho, hop, hg, hdst⟩ : ∃ o, (regOps (e5C))[1]? = some o ∧ o.op = .move (.tmp 6) ∧ o.guard = none ∧ o.dst = some 30 := ⟨((regOps (e5C))[1]?).getD default, by kernel_rfl, by kernel_rfl, by kernel_rfl, by kernel_rfl⟩
      refine rt_val hJ hz hB ho hg (v := (.int .i64 k)) (fun W z => move1 hop s6.eval) (fun e he => by simp at he) ?_
      rw [hdst]
      replace s0 := s0.ne (d := 30) (u := (.int .i64 k)) (by decide)
      replace s1 := s1.ne (d := 30) (u := (.int .i64 k)) (by decide)
      replace s5 := s5.ne (d := 30) (u := (.int .i64 k)) (by decide)
      replace s6 := s6.ne (d := 30) (u := (.int .i64 k)) (by decide)
      replace s18 := s18.ne (d := 30) (u := (.int .i64 k)) (by decide)
      replace s19 := s19.ne (d := 30) (u := (.int .i64 k)) (by decide)
      replace s20 := s20.ne (d := 30) (u := (.int .i64 k)) (by decide)
      replace s21 := s21.ne (d := 30) (u := (.int .i64 k)) (by decide)
      replace s22 := s22.ne (d := 30) (u := (.int .i64 k)) (by decide)
      replace s23 := s23.ne (d := 30) (u := (.int .i64 k)) (by decide)
      replace s24 := s24.ne (d := 30) (u := (.int .i64 k)) (by decide)
      replace s25 := s25.ne (d := 30) (u := (.int .i64 k)) (by decide)
      replace s29 := s29.ne (d := 30) (u := (.int .i64 k)) (by decide)
      have s30 : Sl (A.put (some 30) (.int .i64 k)) 30 (.int .i64 k) := Sl.same (by rw [hsz]; decide)
      replace hsz : (A.put (some 30) (.int .i64 k)).tmps.size = 101 := (put_size _ _ _).trans hsz
      replace hdf : (A.put (some 30) (.int .i64 k)).defers = [] := (put_defers _ _ _).trans hdf
      generalize A.put (some 30) (.int .i64 k) = A at *
      clear ho hop hg hdst
      obtain ⟨o, ho, hop, hg, hdst⟩ : ∃ o, (regOps (e5C))[2]? = some o ∧ o.op = .indexAddr 33 (.tmp 29) (.tmp 30) ∧ o.guard = none ∧ o.dst = some 31 := ⟨((regOps (e5C))[2]?).getD default, by kernel_rfl, by kernel_rfl, by kernel_rfl, by kernel_rfl⟩
      refine rt_val hJ hz hB ho hg (v := (.pointer (some ⟨b, off + k, none⟩))) (fun W z => ixNN hop s29.eval s30.eval hlt (by omega)) (fun e he => by simp at he) ?_
      rw [hdst]
      replace s0 := s0.ne (d := 31) (u := (.pointer (some ⟨b, off + k, none⟩))) (by decide)
      replace s1 := s1.ne (d := 31) (u := (.pointer (some ⟨b, off + k, none⟩))) (by decide)
      replace s5 := s5.ne (d := 31) (u := (.pointer (some ⟨b, off + k, none⟩))) (by decide)
      replace s6 := s6.ne (d := 31) (u := (.pointer (some ⟨b, off + k, none⟩))) (by decide)
      replace s18 := s18.ne (d := 31) (u := (.pointer (some ⟨b, off + k, none⟩))) (by decide)
      replace s19 := s19.ne (d := 31) (u := (.pointer (some ⟨b, off + k, none⟩))) (by decide)
      replace s20 := s20.ne (d := 31) (u := (.pointer (some ⟨b, off + k, none⟩))) (by decide)
      replace s21 := s21.ne (d := 31) (u := (.pointer (some ⟨b, off + k, none⟩))) (by decide)
      replace s22 := s22.ne (d := 31) (u := (.pointer (some ⟨b, off + k, none⟩))) (by decide)
      replace s23 := s23.ne (d := 31) (u := (.pointer (some ⟨b, off + k, none⟩))) (by decide)
      replace s24 := s24.ne (d := 31) (u := (.pointer (some ⟨b, off + k, none⟩))) (by decide)
      replace s25 := s25.ne (d := 31) (u := (.pointer (some ⟨b, off + k, none⟩))) (by decide)
      replace s29 := s29.ne (d := 31) (u := (.pointer (some ⟨b, off + k, none⟩))) (by decide)
      replace s30 := s30.ne (d := 31) (u := (.pointer (some ⟨b, off + k, none⟩))) (by decide)
      have s31 : Sl (A.put (some 31) (.pointer (some ⟨b, off + k, none⟩))) 31 (.pointer (some ⟨b, off + k, none⟩)) := Sl.same (by rw [hsz]; decide)
      replace hsz : (A.put (some 31) (.pointer (some ⟨b, off + k, none⟩))).tmps.size = 101 := (put_size _ _ _).trans hsz
      replace hdf : (A.put (some 31) (.pointer (some ⟨b, off + k, none⟩))).defers = [] := (put_defers _ _ _).trans hdf
      generalize A.put (some 31) (.pointer (some ⟨b, off + k, none⟩)) = A at *
      clear ho hop hg hdst
      obtain ⟨o, ho, hop, hg, hdst⟩ : ∃ o, (regOps (e5C))[3]? = some o ∧ o.op = .load 38 (.tmp 31) ∧ o.guard = none ∧ o.dst = some 32 := ⟨((regOps (e5C))[3]?).getD default, by kernel_rfl, by kernel_rfl, by kernel_rfl, by kernel_rfl⟩
      refine rt_val hJ hz hB ho hg (v := (.slice vi (lls k).length ci)) (fun W z => loadNs hop s31.eval (z.1.cell hb hcell)) (fun e he => by simp at he; subst he; exact .cell _ _ (.inr (.inl ⟨hb, rfl⟩))) ?_
      rw [hdst]
      replace s0 := s0.ne (d := 32) (u := (.slice vi (lls k).length ci)) (by decide)
      replace s1 := s1.ne (d := 32) (u := (.slice vi (lls k).length ci)) (by decide)
      replace s5 := s5.ne (d := 32) (u := (.slice vi (lls k).length ci)) (by decide)
      replace s6 := s6.ne (d := 32) (u := (.slice vi (lls k).length ci)) (by decide)
      replace s18 := s18.ne (d := 32) (u := (.slice vi (lls k).length ci)) (by decide)
      replace s19 := s19.ne (d := 32) (u := (.slice vi (lls k).length ci)) (by decide)
      replace s20 := s20.ne (d := 32) (u := (.slice vi (lls k).length ci)) (by decide)
      replace s21 := s21.ne (d := 32) (u := (.slice vi (lls k).length ci)) (by decide)
      replace s22 := s22.ne (d := 32) (u := (.slice vi (lls k).length ci)) (by decide)
      replace s23 := s23.ne (d := 32) (u := (.slice vi (lls k).length ci)) (by decide)
      replace s24 := s24.ne (d := 32) (u := (.slice vi (lls k).length ci)) (by decide)
      replace s25 := s25.ne (d := 32) (u := (.slice vi (lls k).length ci)) (by decide)
      replace s29 := s29.ne (d := 32) (u := (.slice vi (lls k).length ci)) (by decide)
      replace s30 := s30.ne (d := 32) (u := (.slice vi (lls k).length ci)) (by decide)
      replace s31 := s31.ne (d := 32) (u := (.slice vi (lls k).length ci)) (by decide)
      have s32 : Sl (A.put (some 32) (.slice vi (lls k).length ci)) 32 (.slice vi (lls k).length ci) := Sl.same (by rw [hsz]; decide)
      replace hsz : (A.put (some 32) (.slice vi (lls k).length ci)).tmps.size = 101 := (put_size _ _ _).trans hsz
      replace hdf : (A.put (some 32) (.slice vi (lls k).length ci)).defers = [] := (put_defers _ _ _).trans hdf
      generalize A.put (some 32) (.slice vi (lls k).length ci) = A at *
      clear ho hop hg hdst
      obtain ⟨o, ho, hop, hg, hdst⟩ : ∃ o, (regOps (e5C))[4]? = some o ∧ o.op = .call { callee := .value (.func 10), args := #[.tmp 32], argTypes := #[38] } ∧ o.guard = none ∧ o.dst = some 33 := ⟨((regOps (e5C))[4]?).getD default, by kernel_rfl, by kernel_rfl, by kernel_rfl, by kernel_rfl⟩
      refine rt_entriesOf hJ hz hB ho hg hop s32.eval (fun W z => hnr.keep z.1) (fun W z => Nat.le_trans hgl1 z.1.size) fun O2 V2 hO2 => ?_
      rw [hdst]
      replace s0 := s0.ne (d := 33) (u := (.tuple #[V2, .bool true])) (by decide)
      replace s1 := s1.ne (d := 33) (u := (.tuple #[V2, .bool true])) (by decide)
      replace s5 := s5.ne (d := 33) (u := (.tuple #[V2, .bool true])) (by decide)
      replace s6 := s6.ne (d := 33) (u := (.tuple #[V2, .bool true])) (by decide)
      replace s18 := s18.ne (d := 33) (u := (.tuple #[V2, .bool true])) (by decide)
      replace s19 := s19.ne (d := 33) (u := (.tuple #[V2, .bool true])) (by decide)
      replace s20 := s20.ne (d := 33) (u := (.tuple #[V2, .bool true])) (by decide)
      replace s21 := s21.ne (d := 33) (u := (.tuple #[V2, .bool true])) (by decide)
      replace s22 := s22.ne (d := 33) (u := (.tuple #[V2, .bool true])) (by decide)
      replace s23 := s23.ne (d := 33) (u := (.tuple #[V2, .bool true])) (by decide)
      replace s24 := s24.ne (d := 33) (u := (.tuple #[V2, .bool true])) (by decide)
      replace s25 := s25.ne (d := 33) (u := (.tuple #[V2, .bool true])) (by decide)
      replace s29 := s29.ne (d := 33) (u := (.tuple #[V2, .bool true])) (by decide)
      replace s30 := s30.ne (d := 33) (u := (.tuple #[V2, .bool true])) (by decide)
      replace s31 := s31.ne (d := 33) (u := (.tuple #[V2, .bool true])) (by decide)
      replace s32 := s32.ne (d := 33) (u := (.tuple #[V2, .bool true])) (by decide)
      have s33 : Sl (A.put (some 33) (.tuple #[V2, .bool true])) 33 (.tuple #[V2, .bool true]) := Sl.same (by rw [hsz]; decide)
      replace hsz : (A.put (some 33) (.tuple #[V2, .bool true])).tmps.size = 101 := (put_size _ _ _).trans hsz
      replace hdf : (A.put (some 33) (.tuple #[V2, .bool true])).defers = [] := (put_defers _ _ _).trans hdf
      generalize A.put (some 33) (.tuple #[V2, .bool true]) = A at *
      clear ho hop hg hdst
      refine Rt.mono (Z' := fun W => (Keep (fun b => b < lo) W1 W ∧ ELst lo (fun b => O2 b ∨ b < lo) v k V (fun j => entsOf (lls j)) W) ∧ REnt (fun b => O2 b ∨ b < lo) W V2 (entsOf (lls k))) ?_ fun W z => ⟨⟨z.1.1, z.1.2.mono fun b hb => hb.imp (hO2 b) id⟩, z.2⟩
      have hown2 : ∀ g, v.ownBlock = some g → O2 g := fun g hg => hO2 g (hown g hg)
      clear hz
      have hz : Stable O2 (shR lo Gr) fun W => (Keep (fun b => b < lo) W1 W ∧ ELst lo (fun b => O2 b ∨ b < lo) v k V (fun j => entsOf (lls j)) W) ∧ REnt (fun b => O2 b ∨ b < lo) W V2 (entsOf (lls k)) := Stable.and (hst O2 v k V hown2) fun W W' hr z => z.rely hr fun b hb => hb
      obtain ⟨o, ho, hop, hg, hdst⟩ : ∃ o, (regOps (e5C))[5]? = some o ∧ o.op = .move (.tmp 33) ∧ o.guard = none ∧ o.dst = some 28 := ⟨((regOps (e5C))[5]?).getD default, by kernel_rfl, by kernel_rfl, by kernel_rfl, by kernel_rfl⟩
      refine rt_val hJ hz hB ho hg (v := (.tuple #[V2, .bool true])) (fun W z => move1 hop s33.eval) (fun e he => by simp at he) ?_
      rw [hdst]
      replace s0 := s0.ne (d := 28) (u := (.tuple #[V2, .bool true])) (by decide)
      replace s1 := s1.ne (d := 28) (u := (.tuple #[V2, .bool true])) (by decide)
      replace s5 := s5.ne (d := 28) (u := (.tuple #[V2, .bool true])) (by decide)
      replace s6 := s6.ne (d := 28) (u := (.tuple #[V2, .bool true])) (by decide)
      replace s18 := s18.ne (d := 28) (u := (.tuple #[V2, .bool true])) (by decide)
      replace s19 := s19.ne (d := 28) (u := (.tuple #[V2, .bool true])) (by decide)
      replace s20 := s20.ne (d := 28) (u := (.tuple #[V2, .bool true])) (by decide)
      replace s21 := s21.ne (d := 28) (u := (.tuple #[V2, .bool true])) (by decide)
      replace s22 := s22.ne (d := 28) (u := (.tuple #[V2, .bool true])) (by decide)
      replace s23 := s23.ne (d := 28) (u := (.tuple #[V2, .bool true])) (by decide)
      replace s24 := s24.ne (d := 28) (u := (.tuple #[V2, .bool true])) (by decide)
      replace s25 := s25.ne (d := 28) (u := (.tuple #[V2, .bool true])) (by decide)
      replace s29 := s29.ne (d := 28) (u := (.tuple #[V2, .bool true])) (by decide)
      replace s30 := s30.ne (d := 28) (u := (.tuple #[V2, .bool true])) (by decide)
      replace s31 := s31.ne (d := 28) (u := (.tuple #[V2, .bool true])) (by decide)
      replace s32 := s32.ne (d := 28) (u := (.tuple #[V2, .bool true])) (by decide)
      replace s33 := s33.ne (d := 28) (u := (.tuple #[V2, .bool true])) (by decide)
      have s28 : Sl (A.put (some 28) (.tuple #[V2, .bool true])) 28 (.tuple #[V2, .bool true]) := Sl.same (by rw [hsz]; decide)
      replace hsz : (A.put (some 28) (.tuple #[V2, .bool true])).tmps.size = 101 := (put_size _ _ _).trans hsz
      replace hdf : (A.put (some 28) (.tuple #[V2, .bool true])).defers = [] := (put_defers _ _ _).trans hdf
      generalize A.put (some 28) (.tuple #[V2, .bool true]) = A at *
      clear ho hop hg hdst
      obtain ⟨o, ho, hop, hg, hdst⟩ : ∃ o, (regOps (e5C))[6]? = some o ∧ o.op = .extract (.tmp 28) 0 ∧ o.guard = none ∧ o.dst = some 34 := ⟨((regOps (e5C))[6]?).getD default, by kernel_rfl, by kernel_rfl, by kernel_rfl, by kernel_rfl⟩
      refine rt_val hJ hz hB ho hg (v := V2) (fun W z => ext1 hop s28.eval rfl) (fun e he => by simp at he) ?_
      rw [hdst]
      replace s0 := s0.ne (d := 34) (u := V2) (by decide)
      replace s1 := s1.ne (d := 34) (u := V2) (by decide)
      replace s5 := s5.ne (d := 34) (u := V2) (by decide)
      replace s6 := s6.ne (d := 34) (u := V2) (by decide)
      replace s18 := s18.ne (d := 34) (u := V2) (by decide)
      replace s19 := s19.ne (d := 34) (u := V2) (by decide)
      replace s20 := s20.ne (d := 34) (u := V2) (by decide)
      replace s21 := s21.ne (d := 34) (u := V2) (by decide)
      replace s22 := s22.ne (d := 34) (u := V2) (by decide)
      replace s23 := s23.ne (d := 34) (u := V2) (by decide)
      replace s24 := s24.ne (d := 34) (u := V2) (by decide)
      replace s25 := s25.ne (d := 34) (u := V2) (by decide)
      replace s29 := s29.ne (d := 34) (u := V2) (by decide)
      replace s30 := s30.ne (d := 34) (u := V2) (by decide)
      replace s31 := s31.ne (d := 34) (u := V2) (by decide)
      replace s32 := s32.ne (d := 34) (u := V2) (by decide)
      replace s33 := s33.ne (d := 34) (u := V2) (by decide)
      replace s28 := s28.ne (d := 34) (u := V2) (by decide)
      have s34 : Sl (A.put (some 34) V2) 34 V2 := Sl.same (by rw [hsz]; decide)
      replace hsz : (A.put (some 34) V2).tmps.size = 101 := (put_size _ _ _).trans hsz
      replace hdf : (A.put (some 34) V2).defers = [] := (put_defers _ _ _).trans hdf
      generalize A.put (some 34) V2 = A at *
      clear ho hop hg hdst
      obtain ⟨o, ho, hop, hg, hdst⟩ : ∃ o, (regOps (e5C))[7]? = some o ∧ o.op = .extract (.tmp 28) 1 ∧ o.guard = none ∧ o.dst = some 35 := ⟨((regOps (e5C))[7]?).getD default, by kernel_rfl, by kernel_rfl, by kernel_rfl, by kernel_rfl⟩
      refine rt_val hJ hz hB ho hg (v := (.bool true)) (fun W z => ext1 hop s28.eval rfl) (fun e he => by simp at he) ?_
      rw [hdst]
      replace s0 := s0.ne (d := 35) (u := (.bool true)) (by decide)
      replace s1 := s1.ne (d := 35) (u := (.bool true)) (by decide)
      replace s5 := s5.ne (d := 35) (u := (.bool true)) (by decide)
      replace s6 := s6.ne (d := 35) (u := (.bool true)) (by decide)
      replace s18 := s18.ne (d := 35) (u := (.bool true)) (by decide)
      replace s19 := s19.ne (d := 35) (u := (.bool true)) (by decide)
      replace s20 := s20.ne (d := 35) (u := (.bool true)) (by decide)
      replace s21 := s21.ne (d := 35) (u := (.bool true)) (by decide)
      replace s22 := s22.ne (d := 35) (u := (.bool true)) (by decide)
      replace s23 := s23.ne (d := 35) (u := (.bool true)) (by decide)
      replace s24 := s24.ne (d := 35) (u := (.bool true)) (by decide)
      replace s25 := s25.ne (d := 35) (u := (.bool true)) (by decide)
      replace s29 := s29.ne (d := 35) (u := (.bool true)) (by decide)
      replace s30 := s30.ne (d := 35) (u := (.bool true)) (by decide)
      replace s31 := s31.ne (d := 35) (u := (.bool true)) (by decide)
      replace s32 := s32.ne (d := 35) (u := (.bool true)) (by decide)
      replace s33 := s33.ne (d := 35) (u := (.bool true)) (by decide)
      replace s28 := s28.ne (d := 35) (u := (.bool true)) (by decide)
      replace s34 := s34.ne (d := 35) (u := (.bool true)) (by decide)
      have s35 : Sl (A.put (some 35) (.bool true)) 35 (.bool true) := Sl.same (by rw [hsz]; decide)
      replace hsz : (A.put (some 35) (.bool true)).tmps.size = 101 := (put_size _ _ _).trans hsz
      replace hdf : (A.put (some 35) (.bool true)).defers = [] := (put_defers _ _ _).trans hdf
      generalize A.put (some 35) (.bool true) = A at *
      clear ho hop hg hdst
      obtain ⟨o, ho, hop, hg, hdst⟩ : ∃ o, (regOps (e5C))[8]? = some o ∧ o.op = .assign (.tmp 34) ∧ o.guard = none ∧ o.dst = some 7 := ⟨((regOps (e5C))[8]?).getD default, by kernel_rfl, by kernel_rfl, by kernel_rfl, by kernel_rfl⟩
      refine rt_val hJ hz hB ho hg (v := V2) (fun W z => assign1 hop s34.eval) (fun e he => by simp at he) ?_
      rw [hdst]
      replace s0 := s0.ne (d := 7) (u := V2) (by decide)
      replace s1 := s1.ne (d := 7) (u := V2) (by decide)
      replace s5 := s5.ne (d := 7) (u := V2) (by decide)
      replace s6 := s6.ne (d := 7) (u := V2) (by decide)
      replace s18 := s18.ne (d := 7) (u := V2) (by decide)
      replace s19 := s19.ne (d := 7) (u := V2) (by decide)
      replace s20 := s20.ne (d := 7) (u := V2) (by decide)
      replace s21 := s21.ne (d := 7) (u := V2) (by decide)
      replace s22 := s22.ne (d := 7) (u := V2) (by decide)
      replace s23 := s23.ne (d := 7) (u := V2) (by decide)
      replace s24 := s24.ne (d := 7) (u := V2) (by decide)
      replace s25 := s25.ne (d := 7) (u := V2) (by decide)
      replace s29 := s29.ne (d := 7) (u := V2) (by decide)
      replace s30 := s30.ne (d := 7) (u := V2) (by decide)
      replace s31 := s31.ne (d := 7) (u := V2) (by decide)
      replace s32 := s32.ne (d := 7) (u := V2) (by decide)
      replace s33 := s33.ne (d := 7) (u := V2) (by decide)
      replace s28 := s28.ne (d := 7) (u := V2) (by decide)
      replace s34 := s34.ne (d := 7) (u := V2) (by decide)
      replace s35 := s35.ne (d := 7) (u := V2) (by decide)
      have s7 : Sl (A.put (some 7) V2) 7 V2 := Sl.same (by rw [hsz]; decide)
      replace hsz : (A.put (some 7) V2).tmps.size = 101 := (put_size _ _ _).trans hsz
      replace hdf : (A.put (some 7) V2).defers = [] := (put_defers _ _ _).trans hdf
      generalize A.put (some 7) V2 = A at *
      clear ho hop hg hdst
      obtain ⟨o, ho, hop, hg, hdst⟩ : ∃ o, (regOps (e5C))[9]? = some o ∧ o.op = .assign (.tmp 35) ∧ o.guard = none ∧ o.dst = some 8 := ⟨((regOps (e5C))[9]?).getD default, by kernel_rfl, by kernel_rfl, by kernel_rfl, by kernel_rfl⟩
      refine rt_val hJ hz hB ho hg (v := (.bool true)) (fun W z => assign1 hop s35.eval) (fun e he => by simp at he) ?_
      rw [hdst]
      replace s0 := s0.ne (d := 8) (u := (.bool true)) (by decide)
      replace s1 := s1.ne (d := 8) (u := (.bool true)) (by decide)
      replace s5 := s5.ne (d := 8) (u := (.bool true)) (by decide)
      replace s6 := s6.ne (d := 8) (u := (.bool true)) (by decide)
      replace s18 := s18.ne (d := 8) (u := (.bool true)) (by decide)
      replace s19 := s19.ne (d := 8) (u := (.bool true)) (by decide)
      replace s20 := s20.ne (d := 8) (u := (.bool true)) (by decide)
      replace s21 := s21.ne (d := 8) (u := (.bool true)) (by decide)
      replace s22 := s22.ne (d := 8) (u := (.bool true)) (by decide)
      replace s23 := s23.ne (d := 8) (u := (.bool true)) (by decide)
      replace s24 := s24.ne (d := 8) (u := (.bool true)) (by decide)
      replace s25 := s25.ne (d := 8) (u := (.bool true)) (by decide)
      replace s29 := s29.ne (d := 8) (u := (.bool true)) (by decide)
      replace s30 := s30.ne (d := 8) (u := (.bool true)) (by decide)
      replace s31 := s31.ne (d := 8) (u := (.bool true)) (by decide)
      replace s32 := s32.ne (d := 8) (u := (.bool true)) (by decide)
      replace s33 := s33.ne (d := 8) (u := (.bool true)) (by decide)
      replace s28 := s28.ne (d := 8) (u := (.bool true)) (by decide)
      replace s34 := s34.ne (d := 8) (u := (.bool true)) (by decide)
      replace s35 := s35.ne (d := 8) (u := (.bool true)) (by decide)
      replace s7 := s7.ne (d := 8) (u := (.bool true)) (by decide)
      have s8 : Sl (A.put (some 8) (.bool true)) 8 (.bool true) := Sl.same (by rw [hsz]; decide)
      replace hsz : (A.put (some 8) (.bool true)).tmps.size = 101 := (put_size _ _ _).trans hsz
      replace hdf : (A.put (some 8) (.bool true)).defers = [] := (put_defers _ _ _).trans hdf
      generalize A.put (some 8) (.bool true) = A at *
      clear ho hop hg hdst
      refine rt_region_end hJ hz ?_
      refine rt_seq hJ hz ?_
      refine rt_seq hJ hz ?_
      rw [show e6C = .region 6 (regOps (e6C)) false from by kernel_rfl]
      refine rt_region hJ hz ?_
      rw [show List.range (regOps (e6C)).size = [0, 1] from by kernel_rfl]
      obtain ⟨o, ho, hop, hg, hdst⟩ : ∃ o, (regOps (e6C))[0]? = some o ∧ o.op = .move (.tmp 8) ∧ o.guard = none ∧ o.dst = some 36 := ⟨((regOps (e6C))[0]?).getD default, by kernel_rfl, by kernel_rfl, by kernel_rfl, by kernel_rfl⟩
      refine rt_val hJ hz hB ho hg (v := (.bool true)) (fun W z => move1 hop s8.eval) (fun e he => by simp at he) ?_
      rw [hdst]
      replace s0 := s0.ne (d := 36) (u := (.bool true)) (by decide)
      replace s1 := s1.ne (d := 36) (u := (.bool true)) (by decide)
      replace s5 := s5.ne (d := 36) (u := (.bool true)) (by decide)
      replace s6 := s6.ne (d := 36) (u := (.bool true)) (by decide)
      replace s18 := s18.ne (d := 36) (u := (.bool true)) (by decide)
      replace s19 := s19.ne (d := 36) (u := (.bool true)) (by decide)
      replace s20 := s20.ne (d := 36) (u := (.bool true)) (by decide)
      replace s21 := s21.ne (d := 36) (u := (.bool true)) (by decide)
      replace s22 := s22.ne (d := 36) (u := (.bool true)) (by decide)
      replace s23 := s23.ne (d := 36) (u := (.bool true)) (by decide)
      replace s24 := s24.ne (d := 36) (u := (.bool true)) (by decide)
      replace s25 := s25.ne (d := 36) (u := (.bool true)) (by decide)
      replace s29 := s29.ne (d := 36) (u := (.bool true)) (by decide)
      replace s30 := s30.ne (d := 36) (u := (.bool true)) (by decide)
      replace s31 := s31.ne (d := 36) (u := (.bool true)) (by decide)
      replace s32 := s32.ne (d := 36) (u := (.bool true)) (by decide)
      replace s33 := s33.ne (d := 36) (u := (.bool true)) (by decide)
      replace s28 := s28.ne (d := 36) (u := (.bool true)) (by decide)
      replace s34 := s34.ne (d := 36) (u := (.bool true)) (by decide)
      replace s35 := s35.ne (d := 36) (u := (.bool true)) (by decide)
      replace s7 := s7.ne (d := 36) (u := (.bool true)) (by decide)
      replace s8 := s8.ne (d := 36) (u := (.bool true)) (by decide)
      have s36 : Sl (A.put (some 36) (.bool true)) 36 (.bool true) := Sl.same (by rw [hsz]; decide)
      replace hsz : (A.put (some 36) (.bool true)).tmps.size = 101 := (put_size _ _ _).trans hsz
      replace hdf : (A.put (some 36) (.bool true)).defers = [] := (put_defers _ _ _).trans hdf
      generalize A.put (some 36) (.bool true) = A at *
      clear ho hop hg hdst
      obtain ⟨o, ho, hop, hg, hdst⟩ : ∃ o, (regOps (e6C))[1]? = some o ∧ o.op = .unOp .not 4 (.tmp 36) ∧ o.guard = none ∧ o.dst = some 37 := ⟨((regOps (e6C))[1]?).getD default, by kernel_rfl, by kernel_rfl, by kernel_rfl, by kernel_rfl⟩
      refine rt_val hJ hz hB ho hg (v := (.bool false)) (fun W z => notB hop s36.eval) (fun e he => by simp at he) ?_
      rw [hdst]
      replace s0 := s0.ne (d := 37) (u := (.bool false)) (by decide)
      replace s1 := s1.ne (d := 37) (u := (.bool false)) (by decide)
      replace s5 := s5.ne (d := 37) (u := (.bool false)) (by decide)
      replace s6 := s6.ne (d := 37) (u := (.bool false)) (by decide)
      replace s18 := s18.ne (d := 37) (u := (.bool false)) (by decide)
      replace s19 := s19.ne (d := 37) (u := (.bool false)) (by decide)
      replace s20 := s20.ne (d := 37) (u := (.bool false)) (by decide)
      replace s21 := s21.ne (d := 37) (u := (.bool false)) (by decide)
      replace s22 := s22.ne (d := 37) (u := (.bool false)) (by decide)
      replace s23 := s23.ne (d := 37) (u := (.bool false)) (by decide)
      replace s24 := s24.ne (d := 37) (u := (.bool false)) (by decide)
      replace s25 := s25.ne (d := 37) (u := (.bool false)) (by decide)
      replace s29 := s29.ne (d := 37) (u := (.bool false)) (by decide)
      replace s30 := s30.ne (d := 37) (u := (.bool false)) (by decide)
      replace s31 := s31.ne (d := 37) (u := (.bool false)) (by decide)
      replace s32 := s32.ne (d := 37) (u := (.bool false)) (by decide)
      replace s33 := s33.ne (d := 37) (u := (.bool false)) (by decide)
      replace s28 := s28.ne (d := 37) (u := (.bool false)) (by decide)
      replace s34 := s34.ne (d := 37) (u := (.bool false)) (by decide)
      replace s35 := s35.ne (d := 37) (u := (.bool false)) (by decide)
      replace s7 := s7.ne (d := 37) (u := (.bool false)) (by decide)
      replace s8 := s8.ne (d := 37) (u := (.bool false)) (by decide)
      replace s36 := s36.ne (d := 37) (u := (.bool false)) (by decide)
      have s37 : Sl (A.put (some 37) (.bool false)) 37 (.bool false) := Sl.same (by rw [hsz]; decide)
      replace hsz : (A.put (some 37) (.bool false)).tmps.size = 101 := (put_size _ _ _).trans hsz
      replace hdf : (A.put (some 37) (.bool false)).defers = [] := (put_defers _ _ _).trans hdf
      generalize A.put (some 37) (.bool false) = A at *
      clear ho hop hg hdst
      refine rt_region_end hJ hz ?_
      refine rt_cond hJ hz (b := false) s37.eval ?_
      simp only [Bool.false_eq_true, if_false]
      refine rt_skip hJ hz ?_
      rw [show e8C = .region 8 (regOps (e8C)) false from by kernel_rfl]
      refine rt_region hJ hz ?_
      rw [show List.range (regOps (e8C)).size = [0, 1, 2, 3, 4] from by kernel_rfl]
      obtain ⟨o, ho, hop, hg, hdst⟩ : ∃ o, (regOps (e8C))[0]? = some o ∧ o.op = .move (.tmp 5) ∧ o.guard = none ∧ o.dst = some 38 := ⟨((regOps (e8C))[0]?).getD default, by kernel_rfl, by kernel_rfl, by kernel_rfl, by kernel_rfl⟩
      refine rt_val hJ hz hB ho hg (v := v) (fun W z => move1 hop s5.eval) (fun e he => by simp at he) ?_
      rw [hdst]
      replace s0 := s0.ne (d := 38) (u := v) (by decide)
      replace s1 := s1.ne (d := 38) (u := v) (by decide)
      replace s5 := s5.ne (d := 38) (u := v) (by decide)
      replace s6 := s6.ne (d := 38) (u := v) (by decide)
      replace s18 := s18.ne (d := 38) (u := v) (by decide)
      replace s19 := s19.ne (d := 38) (u := v) (by decide)
      replace s20 := s20.ne (d := 38) (u := v) (by decide)
      replace s21 := s21.ne (d := 38) (u := v) (by decide)
      replace s22 := s22.ne (d := 38) (u := v) (by decide)
      replace s23 := s23.ne (d := 38) (u := v) (by decide)
      replace s24 := s24.ne (d := 38) (u := v) (by decide)
      replace s25 := s25.ne (d := 38) (u := v) (by decide)
      replace s29 := s29.ne (d := 38) (u := v) (by decide)
      replace s30 := s30.ne (d := 38) (u := v) (by decide)
      replace s31 := s31.ne (d := 38) (u := v) (by decide)
      replace s32 := s32.ne (d := 38) (u := v) (by decide)
      replace s33 := s33.ne (d := 38) (u := v) (by decide)
      replace s28 := s28.ne (d := 38) (u := v) (by decide)
      replace s34 := s34.ne (d := 38) (u := v) (by decide)
      replace s35 := s35.ne (d := 38) (u := v) (by decide)
      replace s7 := s7.ne (d := 38) (u := v) (by decide)
      replace s8 := s8.ne (d := 38) (u := v) (by decide)
      replace s36 := s36.ne (d := 38) (u := v) (by decide)
      replace s37 := s37.ne (d := 38) (u := v) (by decide)
      have s38 : Sl (A.put (some 38) v) 38 v := Sl.same (by rw [hsz]; decide)
      replace hsz : (A.put (some 38) v).tmps.size = 101 := (put_size _ _ _).trans hsz
      replace hdf : (A.put (some 38) v).defers = [] := (put_defers _ _ _).trans hdf
      generalize A.put (some 38) v = A at *
      clear ho hop hg hdst
      obtain ⟨o, ho, hop, hg, hdst⟩ : ∃ o, (regOps (e8C))[1]? = some o ∧ o.op = .move (.tmp 7) ∧ o.guard = none ∧ o.dst = some 39 := ⟨((regOps (e8C))[1]?).getD default, by kernel_rfl, by kernel_rfl, by kernel_rfl, by kernel_rfl⟩
      refine rt_val hJ hz hB ho hg (v := V2) (fun W z => move1 hop s7.eval) (fun e he => by simp at he) ?_
      rw [hdst]
      replace s0 := s0.ne (d := 39) (u := V2) (by decide)
      replace s1 := s1.ne (d := 39) (u := V2) (by decide)
      replace s5 := s5.ne (d := 39) (u := V2) (by decide)
      replace s6 := s6.ne (d := 39) (u := V2) (by decide)
      replace s18 := s18.ne (d := 39) (u := V2) (by decide)
      replace s19 := s19.ne (d := 39) (u := V2) (by decide)
      replace s20 := s20.ne (d := 39) (u := V2) (by decide)
      replace s21 := s21.ne (d := 39) (u := V2) (by decide)
      replace s22 := s22.ne (d := 39) (u := V2) (by decide)
      replace s23 := s23.ne (d := 39) (u := V2) (by decide)
      replace s24 := s24.ne (d := 39) (u := V2) (by decide)
      replace s25 := s25.ne (d := 39) (u := V2) (by decide)
      replace s29 := s29.ne (d := 39) (u := V2) (by decide)
      replace s30 := s30.ne (d := 39) (u := V2) (by decide)
      replace s31 := s31.ne (d := 39) (u := V2) (by decide)
      replace s32 := s32.ne (d := 39) (u := V2) (by decide)
      replace s33 := s33.ne (d := 39) (u := V2) (by decide)
      replace s28 := s28.ne (d := 39) (u := V2) (by decide)
      replace s34 := s34.ne (d := 39) (u := V2) (by decide)
      replace s35 := s35.ne (d := 39) (u := V2) (by decide)
      replace s7 := s7.ne (d := 39) (u := V2) (by decide)
      replace s8 := s8.ne (d := 39) (u := V2) (by decide)
      replace s36 := s36.ne (d := 39) (u := V2) (by decide)
      replace s37 := s37.ne (d := 39) (u := V2) (by decide)
      replace s38 := s38.ne (d := 39) (u := V2) (by decide)
      have s39 : Sl (A.put (some 39) V2) 39 V2 := Sl.same (by rw [hsz]; decide)
      replace hsz : (A.put (some 39) V2).tmps.size = 101 := (put_size _ _ _).trans hsz
      replace hdf : (A.put (some 39) V2).defers = [] := (put_defers _ _ _).trans hdf
      generalize A.put (some 39) V2 = A at *
      clear ho hop hg hdst
      intro Wx zx
      obtain ⟨a2, c2, e2⟩ := zx.2.sl
      refine (show Rt Ju RB (base 4) _ O2 A (fun W => (Keep (fun b => b < lo) W1 W ∧ ELst lo (fun b => O2 b ∨ b < lo) v k V (fun j => entsOf (lls j)) W) ∧ REnt (fun b => O2 b ∨ b < lo) W V2 (entsOf (lls k))) from ?_) Wx zx
      clear zx
      obtain ⟨o, ho, hop, hg, hdst⟩ : ∃ o, (regOps (e8C))[2]? = some o ∧ o.op = .buildSlice 34 1 #[(0, .tmp 39)] ∧ o.guard = none ∧ o.dst = some 40 := ⟨((regOps (e8C))[2]?).getD default, by kernel_rfl, by kernel_rfl, by kernel_rfl, by kernel_rfl⟩
      refine rt_allocv hJ hz hB ho hg (ob := .cells #[.slice a2 (entsOf (lls k)).length c2] 35) (fun b => .slice (some ⟨b, 0, none⟩) 1 1) (fun W z => litL hop (s39.eval.trans e2)) fun b3 hb3 => ?_
      rw [hdst]
      replace s0 := s0.ne (d := 40) (u := (.slice (some ⟨b3, 0, none⟩) 1 1)) (by decide)
      replace s1 := s1.ne (d := 40) (u := (.slice (some ⟨b3, 0, none⟩) 1 1)) (by decide)
      replace s5 := s5.ne (d := 40) (u := (.slice (some ⟨b3, 0, none⟩) 1 1)) (by decide)
      replace s6 := s6.ne (d := 40) (u := (.slice (some ⟨b3, 0, none⟩) 1 1)) (by decide)
      replace s18 := s18.ne (d := 40) (u := (.slice (some ⟨b3, 0, none⟩) 1 1)) (by decide)
      replace s19 := s19.ne (d := 40) (u := (.slice (some ⟨b3, 0, none⟩) 1 1)) (by decide)
      replace s20 := s20.ne (d := 40) (u := (.slice (some ⟨b3, 0, none⟩) 1 1)) (by decide)
      replace s21 := s21.ne (d := 40) (u := (.slice (some ⟨b3, 0, none⟩) 1 1)) (by decide)
      replace s22 := s22.ne (d := 40) (u := (.slice (some ⟨b3, 0, none⟩) 1 1)) (by decide)
      replace s23 := s23.ne (d := 40) (u := (.slice (some ⟨b3, 0, none⟩) 1 1)) (by decide)
      replace s24 := s24.ne (d := 40) (u := (.slice (some ⟨b3, 0, none⟩) 1 1)) (by decide)
      replace s25 := s25.ne (d := 40) (u := (.slice (some ⟨b3, 0, none⟩) 1 1)) (by decide)
      replace s29 := s29.ne (d := 40) (u := (.slice (some ⟨b3, 0, none⟩) 1 1)) (by decide)
      replace s30 := s30.ne (d := 40) (u := (.slice (some ⟨b3, 0, none⟩) 1 1)) (by decide)
      replace s31 := s31.ne (d := 40) (u := (.slice (some ⟨b3, 0, none⟩) 1 1)) (by decide)
      replace s32 := s32.ne (d := 40) (u := (.slice (some ⟨b3, 0, none⟩) 1 1)) (by decide)
      replace s33 := s33.ne (d := 40) (u := (.slice (some ⟨b3, 0, none⟩) 1 1)) (by decide)
      replace s28 := s28.ne (d := 40) (u := (.slice (some ⟨b3, 0, none⟩) 1 1)) (by decide)
      replace s34 := s34.ne (d := 40) (u := (.slice (some ⟨b3, 0, none⟩) 1 1)) (by decide)
      replace s35 := s35.ne (d := 40) (u := (.slice (some ⟨b3, 0, none⟩) 1 1)) (by decide)
      replace s7 := s7.ne (d := 40) (u := (.slice (some ⟨b3, 0, none⟩) 1 1)) (by decide)
      replace s8 := s8.ne (d := 40) (u := (.slice (some ⟨b3, 0, none⟩) 1 1)) (by decide)
      replace s36 := s36.ne (d := 40) (u := (.slice (some ⟨b3, 0, none⟩) 1 1)) (by decide)
      replace s37 := s37.ne (d := 40) (u := (.slice (some ⟨b3, 0, none⟩) 1 1)) (by decide)
      replace s38 := s38.ne (d := 40) (u := (.slice (some ⟨b3, 0, none⟩) 1 1)) (by decide)
      replace s39 := s39.ne (d := 40) (u := (.slice (some ⟨b3, 0, none⟩) 1 1)) (by decide)
      have s40 : Sl (A.put (some 40) (.slice (some ⟨b3, 0, none⟩) 1 1)) 40 (.slice (some ⟨b3, 0, none⟩) 1 1) := Sl.same (by rw [hsz]; decide)
      replace hsz : (A.put (some 40) (.slice (some ⟨b3, 0, none⟩) 1 1)).tmps.size = 101 := (put_size _ _ _).trans hsz
      replace hdf : (A.put (some 40) (.slice (some ⟨b3, 0, none⟩) 1 1)).defers = [] := (put_defers _ _ _).trans hdf
      generalize A.put (some 40) (.slice (some ⟨b3, 0, none⟩) 1 1) = A at *
      clear ho hop hg hdst
      have hz3 : Stable (fun x => O2 x ∨ x = b3) (shR lo Gr) fun W => ((Keep (fun b => b < lo) W1 W ∧ ELst lo (fun b => O2 b ∨ b < lo) v k V (fun j => entsOf (lls j)) W) ∧ REnt (fun b => O2 b ∨ b < lo) W V2 (entsOf (lls k))) ∧ W.heap[b3]? = some (.cells #[.slice a2 (entsOf (lls k)).length c2] 35) := Stable.and (hz.more fun x h => .inl h) (Stable.heap (.inl (.inr rfl)))
      rw [← e2] at hz3 ⊢
      clear hb3
      obtain ⟨o, ho, hop, hg, hdst⟩ : ∃ o, (regOps (e8C))[3]? = some o ∧ o.op = .call { callee := .builtin .append, args := #[.tmp 38, .tmp 40], argTypes := #[34, 34] } ∧ o.guard = none ∧ o.dst = some 41 := ⟨((regOps (e8C))[3]?).getD default, by kernel_rfl, by kernel_rfl, by kernel_rfl, by kernel_rfl⟩
      refine rt_append hJ hz3 hB ho hg hop (lo := lo) (n := k) (V := V) (news := [V2]) s38.eval s40.eval (fun W z => z.1.1.2.row) (Nat.le_refl _) rfl (fun W z j u hu => ?_) (fun u hu => ?_) (by omega) (fun W z => Nat.le_trans hlo1 z.1.1.1.size) (fun g hg => .inl (hown2 g hg)) (.inl (.inr rfl)) fun W z v2 T O4 r1 r2 r3 r4 r5 r6 => ?_
      · cases j with
        | zero => simp only [List.getElem?_cons_zero, Option.some.injEq] at hu; subst hu; simp [World.cell?, z.2]
        | succ j => simp at hu
      · simp only [List.mem_singleton] at hu; subst hu; rw [e2]; exact ⟨_, _, _, rfl⟩
      have hsv2 := r1.sv (Nat.succ_pos k)
      have hkeep : Keep (fun b => b < lo) W1 T := ⟨Nat.le_trans z.1.1.1.size r6, fun b o hb ho => by
        rw [r5 b (fun e => by
          rcases z.1.1.2.row.row with ⟨e', _⟩ | ⟨g, c, cu, e', hg, _⟩
          · rw [e'] at e; cases e
          · rw [e'] at e; have e2 : b = g := Option.some.inj e; omega) (Nat.lt_of_lt_of_le hb (Nat.le_trans hlo1 z.1.1.1.size))]
        exact z.1.1.1.heap b o hb ho⟩
      have hel : ELst lo (fun b => O4 b ∨ b < lo) v2 (k + 1) (fun j => if j < k then V j else [V2].getD (j - k) undef) (fun j => entsOf (lls j)) T := ⟨r1, fun j hj => by
        by_cases hjk : j < k
        · simp only [hjk, if_true]
          exact r4 _ _ _ ((z.1.1.2.ent j hjk).mono fun b hb => hb.imp (fun h => r2 _ (.inl h)) id)
        · obtain rfl : j = k := by omega
          simp only [Nat.lt_irrefl, if_false, Nat.sub_self, List.getD_cons_zero]
          exact r4 _ _ _ (z.1.2.mono fun b hb => hb.imp (fun h => r2 _ (.inl h)) id)⟩
      clear r1 r2 r4 r5 r6 z
      rw [hdst]
      replace s0 := s0.ne (d := 41) (u := v2) (by decide)
      replace s1 := s1.ne (d := 41) (u := v2) (by decide)
      replace s5 := s5.ne (d := 41) (u := v2) (by decide)
      replace s6 := s6.ne (d := 41) (u := v2) (by decide)
      replace s18 := s18.ne (d := 41) (u := v2) (by decide)
      replace s19 := s19.ne (d := 41) (u := v2) (by decide)
      replace s20 := s20.ne (d := 41) (u := v2) (by decide)
      replace s21 := s21.ne (d := 41) (u := v2) (by decide)
      replace s22 := s22.ne (d := 41) (u := v2) (by decide)
      replace s23 := s23.ne (d := 41) (u := v2) (by decide)
      replace s24 := s24.ne (d := 41) (u := v2) (by decide)
      replace s25 := s25.ne (d := 41) (u := v2) (by decide)
      replace s29 := s29.ne (d := 41) (u := v2) (by decide)
      replace s30 := s30.ne (d := 41) (u := v2) (by decide)
      replace s31 := s31.ne (d := 41) (u := v2) (by decide)
      replace s32 := s32.ne (d := 41) (u := v2) (by decide)
      replace s33 := s33.ne (d := 41) (u := v2) (by decide)
      replace s28 := s28.ne (d := 41) (u := v2) (by decide)
      replace s34 := s34.ne (d := 41) (u := v2) (by decide)
      replace s35 := s35.ne (d := 41) (u := v2) (by decide)
      replace s7 := s7.ne (d := 41) (u := v2) (by decide)
      replace s8 := s8.ne (d := 41) (u := v2) (by decide)
      replace s36 := s36.ne (d := 41) (u := v2) (by decide)
      replace s37 := s37.ne (d := 41) (u := v2) (by decide)
      replace s38 := s38.ne (d := 41) (u := v2) (by decide)
      replace s39 := s39.ne (d := 41) (u := v2) (by decide)
      replace s40 := s40.ne (d := 41) (u := v2) (by decide)
      have s41 : Sl (A.put (some 41) v2) 41 v2 := Sl.same (by rw [hsz]; decide)
      replace hsz : (A.put (some 41) v2).tmps.size = 101 := (put_size _ _ _).trans hsz
      replace hdf : (A.put (some 41) v2).defers = [] := (put_defers _ _ _).trans hdf
      generalize A.put (some 41) v2 = A at *
      clear ho hop hg hdst
      refine (show Rt Ju RB (base 4) _ O4 A (fun W => Keep (fun b => b < lo) W1 W ∧ ELst lo (fun b => O4 b ∨ b < lo) v2 (k + 1) (fun j => if j < k then V j else [V2].getD (j - k) undef) (fun j => entsOf (lls j)) W) from ?_) T ⟨hkeep, hel⟩
      clear hkeep hel hz hz3
      generalize (fun j => if j < k then V j else [V2].getD (j - k) undef) = Vn
      have hz := hst O4 v2 (k + 1) Vn r3
      obtain ⟨o, ho, hop, hg, hdst⟩ : ∃ o, (regOps (e8C))[4]? = some o ∧ o.op = .assign (.tmp 41) ∧ o.guard = none ∧ o.dst = some 5 := ⟨((regOps (e8C))[4]?).getD default, by kernel_rfl, by kernel_rfl, by kernel_rfl, by kernel_rfl⟩
      refine rt_val hJ hz hB ho hg (v := v2) (fun W z => assign1 hop s41.eval) (fun e he => by simp at he) ?_
      rw [hdst]
      clear s5
      replace s0 := s0.ne (d := 5) (u := v2) (by decide)
      replace s1 := s1.ne (d := 5) (u := v2) (by decide)
      replace s6 := s6.ne (d := 5) (u := v2) (by decide)
      replace s18 := s18.ne (d := 5) (u := v2) (by decide)
      replace s19 := s19.ne (d := 5) (u := v2) (by decide)
      replace s20 := s20.ne (d := 5) (u := v2) (by decide)
      replace s21 := s21.ne (d := 5) (u := v2) (by decide)
      replace s22 := s22.ne (d := 5) (u := v2) (by decide)
      replace s23 := s23.ne (d := 5) (u := v2) (by decide)
      replace s24 := s24.ne (d := 5) (u := v2) (by decide)
      replace s25 := s25.ne (d := 5) (u := v2) (by decide)
      replace s29 := s29.ne (d := 5) (u := v2) (by decide)
      replace s30 := s30.ne (d := 5) (u := v2) (by decide)
      replace s31 := s31.ne (d := 5) (u := v2) (by decide)
      replace s32 := s32.ne (d := 5) (u := v2) (by decide)
      replace s33 := s33.ne (d := 5) (u := v2) (by decide)
      replace s28 := s28.ne (d := 5) (u := v2) (by decide)
      replace s34 := s34.ne (d := 5) (u := v2) (by decide)
      replace s35 := s35.ne (d := 5) (u := v2) (by decide)
      replace s7 := s7.ne (d := 5) (u := v2) (by decide)
      replace s8 := s8.ne (d := 5) (u := v2) (by decide)
      replace s36 := s36.ne (d := 5) (u := v2) (by decide)
      replace s37 := s37.ne (d := 5) (u := v2) (by decide)
      replace s38 := s38.ne (d := 5) (u := v2) (by decide)
      replace s39 := s39.ne (d := 5) (u := v2) (by decide)
      replace s40 := s40.ne (d := 5) (u := v2) (by decide)
      replace s41 := s41.ne (d := 5) (u := v2) (by decide)
      have s5 : Sl (A.put (some 5) v2) 5 v2 := Sl.same (by rw [hsz]; decide)
      replace hsz : (A.put (some 5) v2).tmps.size = 101 := (put_size _ _ _).trans hsz
      replace hdf : (A.put (some 5) v2).defers = [] := (put_defers _ _ _).trans hdf
      generalize A.put (some 5) v2 = A at *
      clear ho hop hg hdst
      refine rt_region_end hJ hz ?_
      refine rt_inBlock hJ hz ?_
      rw [show e4C = .region 4 (regOps (e4C)) false from by kernel_rfl]
      refine rt_region hJ hz ?_
      rw [show List.range (regOps (e4C)).size = [0, 1, 2] from by kernel_rfl]
      obtain ⟨o, ho, hop, hg, hdst⟩ : ∃ o, (regOps (e4C))[0]? = some o ∧ o.op = .move (.tmp 6) ∧ o.guard = none ∧ o.dst = some 26 := ⟨((regOps (e4C))[0]?).getD default, by kernel_rfl, by kernel_rfl, by kernel_rfl, by kernel_rfl⟩
      refine rt_val hJ hz hB ho hg (v := (.int .i64 k)) (fun W z => move1 hop s6.eval) (fun e he => by simp at he) ?_
      rw [hdst]
      replace s0 := s0.ne (d := 26) (u := (.int .i64 k)) (by decide)
      replace s1 := s1.ne (d := 26) (u := (.int .i64 k)) (by decide)
      replace s6 := s6.ne (d := 26) (u := (.int .i64 k)) (by decide)
      replace s18 := s18.ne (d := 26) (u := (.int .i64 k)) (by decide)
      replace s19 := s19.ne (d := 26) (u := (.int .i64 k)) (by decide)
      replace s20 := s20.ne (d := 26) (u := (.int .i64 k)) (by decide)
      replace s21 := s21.ne (d := 26) (u := (.int .i64 k)) (by decide)
      replace s22 := s22.ne (d := 26) (u := (.int .i64 k)) (by decide)
      replace s23 := s23.ne (d := 26) (u := (.int .i64 k)) (by decide)
      replace s24 := s24.ne (d := 26) (u := (.int .i64 k)) (by decide)
      replace s25 := s25.ne (d := 26) (u := (.int .i64 k)) (by decide)
      replace s29 := s29.ne (d := 26) (u := (.int .i64 k)) (by decide)
      replace s30 := s30.ne (d := 26) (u := (.int .i64 k)) (by decide)
      replace s31 := s31.ne (d := 26) (u := (.int .i64 k)) (by decide)
      replace s32 := s32.ne (d := 26) (u := (.int .i64 k)) (by decide)
      replace s33 := s33.ne (d := 26) (u := (.int .i64 k)) (by decide)
      replace s28 := s28.ne (d := 26) (u := (.int .i64 k)) (by decide)
      replace s34 := s34.ne (d := 26) (u := (.int .i64 k)) (by decide)
      replace s35 := s35.ne (d := 26) (u := (.int .i64 k)) (by decide)
      replace s7 := s7.ne (d := 26) (u := (.int .i64 k)) (by decide)
      replace s8 := s8.ne (d := 26) (u := (.int .i64 k)) (by decide)
      replace s36 := s36.ne (d := 26) (u := (.int .i64 k)) (by decide)
      replace s37 := s37.ne (d := 26) (u := (.int .i64 k)) (by decide)
      replace s38 := s38.ne (d := 26) (u := (.int .i64 k)) (by decide)
      replace s39 := s39.ne (d := 26) (u := (.int .i64 k)) (by decide)
      replace s40 := s40.ne (d := 26) (u := (.int .i64 k)) (by decide)
      replace s41 := s41.ne (d := 26) (u := (.int .i64 k)) (by decide)
      replace s5 := s5.ne (d := 26) (u := (.int .i64 k)) (by decide)
      have s26 : Sl (A.put (some 26) (.int .i64 k)) 26 (.int .i64 k) := Sl.same (by rw [hsz]; decide)
      replace hsz : (A.put (some 26) (.int .i64 k)).tmps.size = 101 := (put_size _ _ _).trans hsz
      replace hdf : (A.put (some 26) (.int .i64 k)).defers = [] := (put_defers _ _ _).trans hdf
      generalize A.put (some 26) (.int .i64 k) = A at *
      clear ho hop hg hdst
      obtain ⟨o, ho, hop, hg, hdst⟩ : ∃ o, (regOps (e4C))[1]? = some o ∧ o.op = .binOp .add 3 (.tmp 26) (.const (.int .i64 1)) 3 ∧ o.guard = none ∧ o.dst = some 27 := ⟨((regOps (e4C))[1]?).getD default, by kernel_rfl, by kernel_rfl, by kernel_rfl, by kernel_rfl⟩
      refine rt_val hJ hz hB ho hg (v := (.int .i64 ((k + 1 : Nat) : Int))) (fun W z => by have q := addI (w := W) hop s26.eval rfl (by omega); exact q) (fun e he => by simp at he) ?_
      rw [hdst]
      replace s0 := s0.ne (d := 27) (u := (.int .i64 ((k + 1 : Nat) : Int))) (by decide)
      replace s1 := s1.ne (d := 27) (u := (.int .i64 ((k + 1 : Nat) : Int))) (by decide)
      replace s6 := s6.ne (d := 27) (u := (.int .i64 ((k + 1 : Nat) : Int))) (by decide)
      replace s18 := s18.ne (d := 27) (u := (.int .i64 ((k + 1 : Nat) : Int))) (by decide)
      replace s19 := s19.ne (d := 27) (u := (.int .i64 ((k + 1 : Nat) : Int))) (by decide)
      replace s20 := s20.ne (d := 27) (u := (.int .i64 ((k + 1 : Nat) : Int))) (by decide)
      replace s21 := s21.ne (d := 27) (u := (.int .i64 ((k + 1 : Nat) : Int))) (by decide)
      replace s22 := s22.ne (d := 27) (u := (.int .i64 ((k + 1 : Nat) : Int))) (by decide)
      replace s23 := s23.ne (d := 27) (u := (.int .i64 ((k + 1 : Nat) : Int))) (by decide)
      replace s24 := s24.ne (d := 27) (u := (.int .i64 ((k + 1 : Nat) : Int))) (by decide)
      replace s25 := s25.ne (d := 27) (u := (.int .i64 ((k + 1 : Nat) : Int))) (by decide)
      replace s29 := s29.ne (d := 27) (u := (.int .i64 ((k + 1 : Nat) : Int))) (by decide)
      replace s30 := s30.ne (d := 27) (u := (.int .i64 ((k + 1 : Nat) : Int))) (by decide)
      replace s31 := s31.ne (d := 27) (u := (.int .i64 ((k + 1 : Nat) : Int))) (by decide)
      replace s32 := s32.ne (d := 27) (u := (.int .i64 ((k + 1 : Nat) : Int))) (by decide)
      replace s33 := s33.ne (d := 27) (u := (.int .i64 ((k + 1 : Nat) : Int))) (by decide)
      replace s28 := s28.ne (d := 27) (u := (.int .i64 ((k + 1 : Nat) : Int))) (by decide)
      replace s34 := s34.ne (d := 27) (u := (.int .i64 ((k + 1 : Nat) : Int))) (by decide)
      replace s35 := s35.ne (d := 27) (u := (.int .i64 ((k + 1 : Nat) : Int))) (by decide)
      replace s7 := s7.ne (d := 27) (u := (.int .i64 ((k + 1 : Nat) : Int))) (by decide)
      replace s8 := s8.ne (d := 27) (u := (.int .i64 ((k + 1 : Nat) : Int))) (by decide)
      replace s36 := s36.ne (d := 27) (u := (.int .i64 ((k + 1 : Nat) : Int))) (by decide)
      replace s37 := s37.ne (d := 27) (u := (.int .i64 ((k + 1 : Nat) : Int))) (by decide)
      replace s38 := s38.ne (d := 27) (u := (.int .i64 ((k + 1 : Nat) : Int))) (by decide)
      replace s39 := s39.ne (d := 27) (u := (.int .i64 ((k + 1 : Nat) : Int))) (by decide)
      replace s40 := s40.ne (d := 27) (u := (.int .i64 ((k + 1 : Nat) : Int))) (by decide)
      replace s41 := s41.ne (d := 27) (u := (.int .i64 ((k + 1 : Nat) : Int))) (by decide)
      replace s5 := s5.ne (d := 27) (u := (.int .i64 ((k + 1 : Nat) : Int))) (by decide)
      replace s26 := s26.ne (d := 27) (u := (.int .i64 ((k + 1 : Nat) : Int))) (by decide)
      have s27 : Sl (A.put (some 27) (.int .i64 ((k + 1 : Nat) : Int))) 27 (.int .i64 ((k + 1 : Nat) : Int)) := Sl.same (by rw [hsz]; decide)
      replace hsz : (A.put (some 27) (.int .i64 ((k + 1 : Nat) : Int))).tmps.size = 101 := (put_size _ _ _).trans hsz
      replace hdf : (A.put (some 27) (.int .i64 ((k + 1 : Nat) : Int))).defers = [] := (put_defers _ _ _).trans hdf
      generalize A.put (some 27) (.int .i64 ((k + 1 : Nat) : Int)) = A at *
      clear ho hop hg hdst
      obtain ⟨o, ho, hop, hg, hdst⟩ : ∃ o, (regOps (e4C))[2]? = some o ∧ o.op = .assign (.tmp 27) ∧ o.guard = none ∧ o.dst = some 6 := ⟨((regOps (e4C))[2]?).getD default, by kernel_rfl, by kernel_rfl, by kernel_rfl, by kernel_rfl⟩
      refine rt_val hJ hz hB ho hg (v := (.int .i64 ((k + 1 : Nat) : Int))) (fun W z => assign1 hop s27.eval) (fun e he => by simp at he) ?_
      rw [hdst]
      clear s6
      replace s0 := s0.ne (d := 6) (u := (.int .i64 ((k + 1 : Nat) : Int))) (by decide)
      replace s1 := s1.ne (d := 6) (u := (.int .i64 ((k + 1 : Nat) : Int))) (by decide)
      replace s18 := s18.ne (d := 6) (u := (.int .i64 ((k + 1 : Nat) : Int))) (by decide)
      replace s19 := s19.ne (d := 6) (u := (.int .i64 ((k + 1 : Nat) : Int))) (by decide)
      replace s20 := s20.ne (d := 6) (u := (.int .i64 ((k + 1 : Nat) : Int))) (by decide)
      replace s21 := s21.ne (d := 6) (u := (.int .i64 ((k + 1 : Nat) : Int))) (by decide)
      replace s22 := s22.ne (d := 6) (u := (.int .i64 ((k + 1 : Nat) : Int))) (by decide)
      replace s23 := s23.ne (d := 6) (u := (.int .i64 ((k + 1 : Nat) : Int))) (by decide)
      replace s24 := s24.ne (d := 6) (u := (.int .i64 ((k + 1 : Nat) : Int))) (by decide)
      replace s25 := s25.ne (d := 6) (u := (.int .i64 ((k + 1 : Nat) : Int))) (by decide)
      replace s29 := s29.ne (d := 6) (u := (.int .i64 ((k + 1 : Nat) : Int))) (by decide)
      replace s30 := s30.ne (d := 6) (u := (.int .i64 ((k + 1 : Nat) : Int))) (by decide)
      replace s31 := s31.ne (d := 6) (u := (.int .i64 ((k + 1 : Nat) : Int))) (by decide)
      replace s32 := s32.ne (d := 6) (u := (.int .i64 ((k + 1 : Nat) : Int))) (by decide)
      replace s33 := s33.ne (d := 6) (u := (.int .i64 ((k + 1 : Nat) : Int))) (by decide)
      replace s28 := s28.ne (d := 6) (u := (.int .i64 ((k + 1 : Nat) : Int))) (by decide)
      replace s34 := s34.ne (d := 6) (u := (.int .i64 ((k + 1 : Nat) : Int))) (by decide)
      replace s35 := s35.ne (d := 6) (u := (.int .i64 ((k + 1 : Nat) : Int))) (by decide)
      replace s7 := s7.ne (d := 6) (u := (.int .i64 ((k + 1 : Nat) : Int))) (by decide)
      replace s8 := s8.ne (d := 6) (u := (.int .i64 ((k + 1 : Nat) : Int))) (by decide)
      replace s36 := s36.ne (d := 6) (u := (.int .i64 ((k + 1 : Nat) : Int))) (by decide)
      replace s37 := s37.ne (d := 6) (u := (.int .i64 ((k + 1 : Nat) : Int))) (by decide)
      replace s38 := s38.ne (d := 6) (u := (.int .i64 ((k + 1 : Nat) : Int))) (by decide)
      replace s39 := s39.ne (d := 6) (u := (.int .i64 ((k + 1 : Nat) : Int))) (by decide)
      replace s40 := s40.ne (d := 6) (u := (.int .i64 ((k + 1 : Nat) : Int))) (by decide)
      replace s41 := s41.ne (d := 6) (u := (.int .i64 ((k + 1 : Nat) : Int))) (by decide)
      replace s5 := s5.ne (d := 6) (u := (.int .i64 ((k + 1 : Nat) : Int))) (by decide)
      replace s26 := s26.ne (d := 6) (u := (.int .i64 ((k + 1 : Nat) : Int))) (by decide)
      replace s27 := s27.ne (d := 6) (u := (.int .i64 ((k + 1 : Nat) : Int))) (by decide)
      have s6 : Sl (A.put (some 6) (.int .i64 ((k + 1 : Nat) : Int))) 6 (.int .i64 ((k + 1 : Nat) : Int)) := Sl.same (by rw [hsz]; decide)
      replace hsz : (A.put (some 6) (.int .i64 ((k + 1 : Nat) : Int))).tmps.size = 101 := (put_size _ _ _).trans hsz
      replace hdf : (A.put (some 6) (.int .i64 ((k + 1 : Nat) : Int))).defers = [] := (put_defers _ _ _).trans hdf
      generalize A.put (some 6) (.int .i64 ((k + 1 : Nat) : Int)) = A at *
      clear ho hop hg hdst
      refine rt_region_end hJ hz ?_
      refine rt_inLoop hJ hz ?_
      exact ih (k + 1) O4 A v2 Vn (by omega) (by omega) (by omega) hsz hdf hsv2 r3 s0 s1 s5 s6
    ·
      rw [show (Item.code lp1C : Item) = _ from congrArg Item.code lp1C_eq]
      refine rt_seq hJ hz ?_
      refine rt_seq hJ hz ?_
      rw [show e3C = .region 3 (regOps (e3C)) false from by kernel_rfl]
      refine rt_region hJ hz ?_
      rw [show List.range (regOps (e3C)).size = [0, 1, 2, 3, 4, 5, 6, 7] from by kernel_rfl]
      obtain ⟨o, ho, hop, hg, hdst⟩ : ∃ o, (regOps (e3C))[0]? = some o ∧ o.op = .move (.tmp 6) ∧ o.guard = none ∧ o.dst = some 18 := ⟨((regOps (e3C))[0]?).getD default, by kernel_rfl, by kernel_rfl, by kernel_rfl, by kernel_rfl⟩
      refine rt_val hJ hz hB ho hg (v := (.int .i64 (k : Nat))) (fun W z => move1 hop s6.eval) (fun e he => by simp at he) ?_
      rw [hdst]
      replace s0 := s0.ne (d := 18) (u := (.int .i64 (k : Nat))) (by decide)
      replace s1 := s1.ne (d := 18) (u := (.int .i64 (k : Nat))) (by decide)
      replace s5 := s5.ne (d := 18) (u := (.int .i64 (k : Nat))) (by decide)
      replace s6 := s6.ne (d := 18) (u := (.int .i64 (k : Nat))) (by decide)
      have s18 : Sl (A.put (some 18) (.int .i64 (k : Nat))) 18 (.int .i64 (k : Nat)) := Sl.same (by rw [hsz]; decide)
      replace hsz : (A.put (some 18) (.int .i64 (k : Nat))).tmps.size = 101 := (put_size _ _ _).trans hsz
      replace hdf : (A.put (some 18) (.int .i64 (k : Nat))).defers = [] := (put_defers _ _ _).trans hdf
      generalize A.put (some 18) (.int .i64 (k : Nat)) = A at *
      clear ho hop hg hdst
      obtain ⟨o, ho, hop, hg, hdst⟩ : ∃ o, (regOps (e3C))[1]? = some o ∧ o.op = .move (.tmp 0) ∧ o.guard = none ∧ o.dst = some 19 := ⟨((regOps (e3C))[1]?).getD default, by kernel_rfl, by kernel_rfl, by kernel_rfl, by kernel_rfl⟩
      refine rt_val hJ hz hB ho hg (v := (.slice va m cap)) (fun W z => move1 hop s0.eval) (fun e he => by simp at he) ?_
      rw [hdst]
      replace s0 := s0.ne (d := 19) (u := (.slice va m cap)) (by decide)
      replace s1 := s1.ne (d := 19) (u := (.slice va m cap)) (by decide)
      replace s5 := s5.ne (d := 19) (u := (.slice va m cap)) (by decide)
      replace s6 := s6.ne (d := 19) (u := (.slice va m cap)) (by decide)
      replace s18 := s18.ne (d := 19) (u := (.slice va m cap)) (by decide)
      have s19 : Sl (A.put (some 19) (.slice va m cap)) 19 (.slice va m cap) := Sl.same (by rw [hsz]; decide)
      replace hsz : (A.put (some 19) (.slice va m cap)).tmps.size = 101 := (put_size _ _ _).trans hsz
      replace hdf : (A.put (some 19) (.slice va m cap)).defers = [] := (put_defers _ _ _).trans hdf
      generalize A.put (some 19) (.slice va m cap) = A at *
      clear ho hop hg hdst
      obtain ⟨o, ho, hop, hg, hdst⟩ : ∃ o, (regOps (e3C))[2]? = some o ∧ o.op = .call { callee := .builtin .len, args := #[.tmp 19], argTypes := #[33] } ∧ o.guard = none ∧ o.dst = some 20 := ⟨((regOps (e3C))[2]?).getD default, by kernel_rfl, by kernel_rfl, by kernel_rfl, by kernel_rfl⟩
      refine rt_val hJ hz hB ho hg (v := (.int .i64 m)) (fun W z => lenT (.inl rfl) hop s19.eval) (fun e he => by simp at he) ?_
      rw [hdst]
      replace s0 := s0.ne (d := 20) (u := (.int .i64 m)) (by decide)
      replace s1 := s1.ne (d := 20) (u := (.int .i64 m)) (by decide)
      replace s5 := s5.ne (d := 20) (u := (.int .i64 m)) (by decide)
      replace s6 := s6.ne (d := 20) (u := (.int .i64 m)) (by decide)
      replace s18 := s18.ne (d := 20) (u := (.int .i64 m)) (by decide)
      replace s19 := s19.ne (d := 20) (u := (.int .i64 m)) (by decide)
      have s20 : Sl (A.put (some 20) (.int .i64 m)) 20 (.int .i64 m) := Sl.same (by rw [hsz]; decide)
      replace hsz : (A.put (some 20) (.int .i64 m)).tmps.size = 101 := (put_size _ _ _).trans hsz
      replace hdf : (A.put (some 20) (.int .i64 m)).defers = [] := (put_defers _ _ _).trans hdf
      generalize A.put (some 20) (.int .i64 m) = A at *
      clear ho hop hg hdst
      obtain ⟨o, ho, hop, hg, hdst⟩ : ∃ o, (regOps (e3C))[3]? = some o ∧ o.op = .binOp .lss 3 (.tmp 18) (.tmp 20) 3 ∧ o.guard = none ∧ o.dst = some 21 := ⟨((regOps (e3C))[3]?).getD default, by kernel_rfl, by kernel_rfl, by kernel_rfl, by kernel_rfl⟩
      refine rt_val hJ hz hB ho hg (v := (.bool false)) (fun W z => by have q := ltI (w := W) hop s18.eval s20.eval; rw [show decide (((k : Nat) : Int) < (m : Int)) = false from by simp; try omega] at q; exact q) (fun e he => by simp at he) ?_
      rw [hdst]
      replace s0 := s0.ne (d := 21) (u := (.bool false)) (by decide)
      replace s1 := s1.ne (d := 21) (u := (.bool false)) (by decide)
      replace s5 := s5.ne (d := 21) (u := (.bool false)) (by decide)
      replace s6 := s6.ne (d := 21) (u := (.bool false)) (by decide)
      replace s18 := s18.ne (d := 21) (u := (.bool false)) (by decide)
      replace s19 := s19.ne (d := 21) (u := (.bool false)) (by decide)
      replace s20 := s20.ne (d := 21) (u := (.bool false)) (by decide)
      have s21 : Sl (A.put (some 21) (.bool false)) 21 (.bool false) := Sl.same (by rw [hsz]; decide)
      replace hsz : (A.put (some 21) (.bool false)).tmps.size = 101 := (put_size _ _ _).trans hsz
      replace hdf : (A.put (some 21) (.bool false)).defers = [] := (put_defers _ _ _).trans hdf
      generalize A.put (some 21) (.bool false) = A at *
      clear ho hop hg hdst
      obtain ⟨o, ho, hop, hg, hdst⟩ : ∃ o, (regOps (e3C))[4]? = some o ∧ o.op = .move (.tmp 21) ∧ o.guard = none ∧ o.dst = some 22 := ⟨((regOps (e3C))[4]?).getD default, by kernel_rfl, by kernel_rfl, by kernel_rfl, by kernel_rfl⟩
      refine rt_val hJ hz hB ho hg (v := (.bool false)) (fun W z => move1 hop s21.eval) (fun e he => by simp at he) ?_
      rw [hdst]
      replace s0 := s0.ne (d := 22) (u := (.bool false)) (by decide)
      replace s1 := s1.ne (d := 22) (u := (.bool false)) (by decide)
      replace s5 := s5.ne (d := 22) (u := (.bool false)) (by decide)
      replace s6 := s6.ne (d := 22) (u := (.bool false)) (by decide)
      replace s18 := s18.ne (d := 22) (u := (.bool false)) (by decide)
      replace s19 := s19.ne (d := 22) (u := (.bool false)) (by decide)
      replace s20 := s20.ne (d := 22) (u := (.bool false)) (by decide)
      replace s21 := s21.ne (d := 22) (u := (.bool false)) (by decide)
      have s22 : Sl (A.put (some 22) (.bool false)) 22 (.bool false) := Sl.same (by rw [hsz]; decide)
      replace hsz : (A.put (some 22) (.bool false)).tmps.size = 101 := (put_size _ _ _).trans hsz
      replace hdf : (A.put (some 22) (.bool false)).defers = [] := (put_defers _ _ _).trans hdf
      generalize A.put (some 22) (.bool false) = A at *
      clear ho hop hg hdst
      obtain ⟨o, ho, hop, hg, hdst⟩ : ∃ o, (regOps (e3C))[5]? = some o ∧ o.op = .move (.tmp 6) ∧ o.guard = some (4, true) ∧ o.dst = some 23 := ⟨((regOps (e3C))[5]?).getD default, by kernel_rfl, by kernel_rfl, by kernel_rfl, by kernel_rfl⟩
      refine rt_unw hJ hz ho (wanted_of (b := false) hg (by kernel_rfl : ((regOps (e3C))[4]?).bind (·.dst) = some 22) s22) ?_
      rw [hdst]
      replace s0 := s0.ne (d := 23) (u := undef) (by decide)
      replace s1 := s1.ne (d := 23) (u := undef) (by decide)
      replace s5 := s5.ne (d := 23) (u := undef) (by decide)
      replace s6 := s6.ne (d := 23) (u := undef) (by decide)
      replace s18 := s18.ne (d := 23) (u := undef) (by decide)
      replace s19 := s19.ne (d := 23) (u := undef) (by decide)
      replace s20 := s20.ne (d := 23) (u := undef) (by decide)
      replace s21 := s21.ne (d := 23) (u := undef) (by decide)
      replace s22 := s22.ne (d := 23) (u := undef) (by decide)
      have s23 : Sl (A.put (some 23) undef) 23 undef := Sl.same (by rw [hsz]; decide)
      replace hsz : (A.put (some 23) undef).tmps.size = 101 := (put_size _ _ _).trans hsz
      replace hdf : (A.put (some 23) undef).defers = [] := (put_defers _ _ _).trans hdf
      generalize A.put (some 23) undef = A at *
      clear ho hop hg hdst
      obtain ⟨o, ho, hop, hg, hdst⟩ : ∃ o, (regOps (e3C))[6]? = some o ∧ o.op = .binOp .lss 3 (.tmp 23) (.const (.int .i64 12)) 3 ∧ o.guard = some (4, true) ∧ o.dst = some 24 := ⟨((regOps (e3C))[6]?).getD default, by kernel_rfl, by kernel_rfl, by kernel_rfl, by kernel_rfl⟩
      refine rt_unw hJ hz ho (wanted_of (b := false) hg (by kernel_rfl : ((regOps (e3C))[4]?).bind (·.dst) = some 22) s22) ?_
      rw [hdst]
      replace s0 := s0.ne (d := 24) (u := undef) (by decide)
      replace s1 := s1.ne (d := 24) (u := undef) (by decide)
      replace s5 := s5.ne (d := 24) (u := undef) (by decide)
      replace s6 := s6.ne (d := 24) (u := undef) (by decide)
      replace s18 := s18.ne (d := 24) (u := undef) (by decide)
      replace s19 := s19.ne (d := 24) (u := undef) (by decide)
      replace s20 := s20.ne (d := 24) (u := undef) (by decide)
      replace s21 := s21.ne (d := 24) (u := undef) (by decide)
      replace s22 := s22.ne (d := 24) (u := undef) (by decide)
      replace s23 := s23.ne (d := 24) (u := undef) (by decide)
      have s24 : Sl (A.put (some 24) undef) 24 undef := Sl.same (by rw [hsz]; decide)
      replace hsz : (A.put (some 24) undef).tmps.size = 101 := (put_size _ _ _).trans hsz
      replace hdf : (A.put (some 24) undef).defers = [] := (put_defers _ _ _).trans hdf
      generalize A.put (some 24) undef = A at *
      clear ho hop hg hdst
      obtain ⟨o, ho, hop, hg, hdst⟩ : ∃ o, (regOps (e3C))[7]? = some o ∧ o.op = .pick (.tmp 22) (.tmp 24) (.const (.bool false)) ∧ o.guard = none ∧ o.dst = some 25 := ⟨((regOps (e3C))[7]?).getD default, by kernel_rfl, by kernel_rfl, by kernel_rfl, by kernel_rfl⟩
      refine rt_val hJ hz hB ho hg (v := (.bool false)) (fun W z => by have q := pickB (w := W) hop s22.eval; simp only [if_true, Bool.false_eq_true, if_false] at q; exact q) (fun e he => by simp at he) ?_
      rw [hdst]
      replace s0 := s0.ne (d := 25) (u := (.bool false)) (by decide)
      replace s1 := s1.ne (d := 25) (u := (.bool false)) (by decide)
      replace s5 := s5.ne (d := 25) (u := (.bool false)) (by decide)
      replace s6 := s6.ne (d := 25) (u := (.bool false)) (by decide)
      replace s18 := s18.ne (d := 25) (u := (.bool false)) (by decide)
      replace s19 := s19.ne (d := 25) (u := (.bool false)) (by decide)
      replace s20 := s20.ne (d := 25) (u := (.bool false)) (by decide)
      replace s21 := s21.ne (d := 25) (u := (.bool false)) (by decide)
      replace s22 := s22.ne (d := 25) (u := (.bool false)) (by decide)
      replace s23 := s23.ne (d := 25) (u := (.bool false)) (by decide)
      replace s24 := s24.ne (d := 25) (u := (.bool false)) (by decide)
      have s25 : Sl (A.put (some 25) (.bool false)) 25 (.bool false) := Sl.same (by rw [hsz]; decide)
      replace hsz : (A.put (some 25) (.bool false)).tmps.size = 101 := (put_size _ _ _).trans hsz
      replace hdf : (A.put (some 25) (.bool false)).defers = [] := (put_defers _ _ _).trans hdf
      generalize A.put (some 25) (.bool false) = A at *
      clear ho hop hg hdst
      refine rt_region_end hJ hz ?_
      refine rt_cond hJ hz (b := false) s25.eval ?_
      simp only [Bool.false_eq_true, if_false]
      refine rt_exit hJ hz (k' := kx) (by simp [exitTo]) ?_
      exact hx O A v V _ ⟨by omega, by omega⟩ hsz hdf hsv hown s1 s5
end
end Go.Proofs.Ytkodpijedinanaa.Sim
