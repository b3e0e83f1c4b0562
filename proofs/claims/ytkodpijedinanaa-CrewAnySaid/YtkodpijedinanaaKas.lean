/- Texts that the claim imports, laid together: MxC. No statement of their own. -/
import Derived.Test.YtkodpijedinanaaKar
namespace Go.Proofs.Ytkodpijedinanaa.Sim
open Go Go.Conc
set_option linter.unusedVariables false
set_option linter.unusedSimpArgs false

theorem entsTo_succ' (l : List Ent) (k : Nat) (hk : k < l.length) : mergeL [] ((l.take (k + 1)).map EntPick) = mergeL (mergeL [] ((l.take k).map EntPick)) [EntPick l[k]] := by
  rw [take_snoc l k hk, List.map_append, List.map_cons, List.map_nil, mergeL_snoc]
  rfl
theorem six_one {e : Ent} (h : e.Ok) (h0 : 0 ≤ e.k ∧ e.k < 6) : SixL [e] := ⟨⟨fun x hx => by simp at hx; subst hx; exact h, by simp⟩, fun x hx => by simp at hx; subst hx; exact h0⟩
theorem ent_one {K : Blk} {W : World} {b : Nat} {e : Ent} (hK : K b) (h : W.heap[b]? = some (.cells (eCells e) 42)) : REnt K W (.slice (some ⟨b, 0, none⟩) 1 1) [e] :=
  ⟨⟨⟨rfl, fun n c e => by cases e⟩, some ⟨b, 0, none⟩, 1, rfl, Nat.le_refl _, by decide, fun _ => ⟨b, 0, rfl, fun j u hu => by
    simp only [World.cell?, h]
    rw [if_neg (by simp), Nat.zero_add]
    simpa [ents, Ent.cells, eCells] using hu⟩⟩, fun a n c e => by cases e; exact .inr ⟨hK, _, _, _, h, fun i ⟨h, h'⟩ => by simp at h'⟩⟩
noncomputable def cEs : Code := (Try.f10.body).getD .skip
noncomputable def lpE : Code := hd (hd (tl (hd (tl (tl cEs)))))
noncomputable def bkE : Code := hd (hd (tl lpE))
noncomputable def y0 : Code := hd cEs
noncomputable def y1 : Code := hd (tl cEs)
noncomputable def y2 : Code := hd (hd (tl (tl cEs)))
noncomputable def y3 : Code := hd (hd lpE)
noncomputable def y4 : Code := tl (tl lpE)
noncomputable def y5 : Code := hd bkE
noncomputable def y6 : Code := hd (hd (tl bkE))
noncomputable def y7 : Code := hd (hd (tl (hd (tl bkE))))
noncomputable def y8 : Code := tl (tl bkE)
noncomputable def y9 : Code := hd (tl (tl (tl cEs)))
theorem cEs_eq : cEs = .seq y0 (.seq y1 (.seq (.seq y2 (.block 0 (.loop lpE))) (.seq y9 .ret))) := by kernel_rfl
theorem lpE_eq : lpE = .seq (.seq y3 (.cond (.tmp 15) .skip (.exit 0))) (.seq (.block 1 bkE) y4) := by kernel_rfl
theorem bkE_eq : bkE = .seq y5 (.seq (.seq y6 (.cond (.tmp 30) (.seq y7 .ret) .skip)) y8) := by kernel_rfl
def toE (l : List Ent) (k : Nat) : List Ent := mergeL [] ((l.take k).map EntPick)
/-- A row of notes that one may read. -/
structure NoteRow (Sh : Shd) (va : Option Addr) (l : List Ent) (W : World) : Prop where
  row : ∀ j (hj : j < l.length), ∃ b off, va = some ⟨b, off, none⟩ ∧ Sh b ∧ W.cell? ⟨b, off + j * 5, none⟩ = some (.int .i64 l[j].k) ∧ W.cell? ⟨b, off + j * 5 + 1, none⟩ = some (.int .i64 l[j].v) ∧ W.cell? ⟨b, off + j * 5 + 2, none⟩ = some (.int .i64 l[j].t) ∧ W.cell? ⟨b, off + j * 5 + 3, none⟩ = some (.int .i64 l[j].h) ∧ W.cell? ⟨b, off + j * 5 + 4, none⟩ = some (.bool l[j].g)
theorem NoteRow.rely {Own : Blk} {Sh : Shd} {va : Option Addr} {l : List Ent} {W W1 : World} (h : NoteRow Sh va l W) (hr : Rely Own Sh W W1) : NoteRow Sh va l W1 := ⟨fun j hj => by
  obtain ⟨b, off, e, hb, h0, h1, h2, h3, h4⟩ := h.row j hj
  exact ⟨b, off, e, hb, hr.cell?' (.inr (.inl hb)) h0, hr.cell?' (.inr (.inl hb)) h1, hr.cell?' (.inr (.inl hb)) h2, hr.cell?' (.inr (.inl hb)) h3, hr.cell?' (.inr (.inl hb)) h4⟩⟩
section
variable {Sh : Shd} {Ju : Blk → Goroutine → World → Prop} {RB : List Frame} {B : Frame} {Own : Blk} {A : Act} {k : List Item} {Z : World → Prop}
set_option maxRecDepth 100000 in
set_option maxHeartbeats 16000000 in
/-- Its loop. -/
theorem entries_loop (hJ : Jud Try.prog true Sh Ju) {W1 : World} {va : Option Addr} {cap : Nat} {ls : List Ent} (hN : NoteRow Sh va ls W1) (hgl1 : Try.prog.globals.size ≤ W1.heap.size) {kx : List Item}
    (hx : ∀ O A v k, (∀ x, Own x → O x) → A.tmps.size = 35 → A.defers = [] → toE ls k = entsOf ls → Sl A 4 v → Rt Ju RB (base 10) kx O A (fun W => Rely Own Sh W1 W ∧ REnt (fun b => O b ∨ Sh b) W v (toE ls k))) :
    ∀ d k O A v, d = 30 - k → k ≤ 30 → k ≤ ls.length → (∀ x, Own x → O x) → A.tmps.size = 35 → A.defers = [] → Sl A 0 (.slice va ls.length cap) → Sl A 4 v → Sl A 5 (.int .i64 k) →
      Rt Ju RB (base 10) (.code lpE :: .inLoop lpE :: .inBlock 0 :: kx) O A (fun W => Rely Own Sh W1 W ∧ REnt (fun b => O b ∨ Sh b) W v (toE ls k)) := by
  have hB : (base 10).kind ≠ .early := by simp [base]
  intro d
  induction d with
  | zero =>
    intro k O A v hd hk hkl hO hsz hdf s0 s4 s5
    obtain rfl : k = 30 := by omega
    have hz : Stable O Sh fun W => Rely Own Sh W1 W ∧ REnt (fun b => O b ∨ Sh b) W v (toE ls 30) := Stable.and (fun W W' hr z => z.own hO hr) fun W W' hr z => z.rely hr fun b hb => hb
    have hfin : toE ls 30 = entsOf ls := rfl
    by_cases h : (30 : Nat) < ls.length
    ·
      rw [show (Item.code lpE : Item) = _ from congrArg Item.code lpE_eq]
      refine rt_seq hJ hz ?_
      refine rt_seq hJ hz ?_
      rw [show y3 = .region 3 (regOps (y3)) false from by kernel_rfl]
      refine rt_region hJ hz ?_
      rw [show List.range (regOps (y3)).size = [0, 1, 2, 3, 4, 5, 6, 7] from by kernel_rfl]
      obtain ⟨o, ho, hop, hg, hdst⟩ : ∃ o, (regOps (y3))[0]? = some o ∧ o.op = .move (.tmp 5) ∧ o.guard = none ∧ o.dst = some 8 := ⟨((regOps (y3))[0]?).getD default, by kernel_rfl, by kernel_rfl, by kernel_rfl, by kernel_rfl⟩
      refine rt_val hJ hz hB ho hg (v := (.int .i64 (30 : Nat))) (fun W z => move1 hop s5.eval) (fun e he => by simp at he) ?_
      rw [hdst]
      replace s0 := s0.ne (d := 8) (u := (.int .i64 (30 : Nat))) (by decide)
      replace s4 := s4.ne (d := 8) (u := (.int .i64 (30 : Nat))) (by decide)
      replace s5 := s5.ne (d := 8) (u := (.int .i64 (30 : Nat))) (by decide)
      have s8 : Sl (A.put (some 8) (.int .i64 (30 : Nat))) 8 (.int .i64 (30 : Nat)) := Sl.same (by rw [hsz]; decide)
      replace hsz : (A.put (some 8) (.int .i64 (30 : Nat))).tmps.size = 35 := (put_size _ _ _).trans hsz
      replace hdf : (A.put (some 8) (.int .i64 (30 : Nat))).defers = [] := (put_defers _ _ _).trans hdf
      generalize A.put (some 8) (.int .i64 (30 : Nat)) = A at *
      clear ho hop hg hdst
      obtain ⟨o, ho, hop, hg, hdst⟩ : ∃ o, (regOps (y3))[1]? = some o ∧ o.op = .move (.tmp 0) ∧ o.guard = none ∧ o.dst = some 9 := ⟨((regOps (y3))[1]?).getD default, by kernel_rfl, by kernel_rfl, by kernel_rfl, by kernel_rfl⟩
      refine rt_val hJ hz hB ho hg (v := (.slice va ls.length cap)) (fun W z => move1 hop s0.eval) (fun e he => by simp at he) ?_
      rw [hdst]
      replace s0 := s0.ne (d := 9) (u := (.slice va ls.length cap)) (by decide)
      replace s4 := s4.ne (d := 9) (u := (.slice va ls.length cap)) (by decide)
      replace s5 := s5.ne (d := 9) (u := (.slice va ls.length cap)) (by decide)
      replace s8 := s8.ne (d := 9) (u := (.slice va ls.length cap)) (by decide)
      have s9 : Sl (A.put (some 9) (.slice va ls.length cap)) 9 (.slice va ls.length cap) := Sl.same (by rw [hsz]; decide)
      replace hsz : (A.put (some 9) (.slice va ls.length cap)).tmps.size = 35 := (put_size _ _ _).trans hsz
      replace hdf : (A.put (some 9) (.slice va ls.length cap)).defers = [] := (put_defers _ _ _).trans hdf
      generalize A.put (some 9) (.slice va ls.length cap) = A at *
      clear ho hop hg hdst
      obtain ⟨o, ho, hop, hg, hdst⟩ : ∃ o, (regOps (y3))[2]? = some o ∧ o.op = .call { callee := .builtin .len, args := #[.tmp 9], argTypes := #[38] } ∧ o.guard = none ∧ o.dst = some 10 := ⟨((regOps (y3))[2]?).getD default, by kernel_rfl, by kernel_rfl, by kernel_rfl, by kernel_rfl⟩
      refine rt_val hJ hz hB ho hg (v := (.int .i64 ls.length)) (fun W z => lenT (.inr (.inl rfl)) hop s9.eval) (fun e he => by simp at he) ?_
      rw [hdst]
      replace s0 := s0.ne (d := 10) (u := (.int .i64 ls.length)) (by decide)
      replace s4 := s4.ne (d := 10) (u := (.int .i64 ls.length)) (by decide)
      replace s5 := s5.ne (d := 10) (u := (.int .i64 ls.length)) (by decide)
      replace s8 := s8.ne (d := 10) (u := (.int .i64 ls.length)) (by decide)
      replace s9 := s9.ne (d := 10) (u := (.int .i64 ls.length)) (by decide)
      have s10 : Sl (A.put (some 10) (.int .i64 ls.length)) 10 (.int .i64 ls.length) := Sl.same (by rw [hsz]; decide)
      replace hsz : (A.put (some 10) (.int .i64 ls.length)).tmps.size = 35 := (put_size _ _ _).trans hsz
      replace hdf : (A.put (some 10) (.int .i64 ls.length)).defers = [] := (put_defers _ _ _).trans hdf
      generalize A.put (some 10) (.int .i64 ls.length) = A at *
      clear ho hop hg hdst
      obtain ⟨o, ho, hop, hg, hdst⟩ : ∃ o, (regOps (y3))[3]? = some o ∧ o.op = .binOp .lss 3 (.tmp 8) (.tmp 10) 3 ∧ o.guard = none ∧ o.dst = some 11 := ⟨((regOps (y3))[3]?).getD default, by kernel_rfl, by kernel_rfl, by kernel_rfl, by kernel_rfl⟩
      refine rt_val hJ hz hB ho hg (v := (.bool true)) (fun W z => by have q := ltI (w := W) hop s8.eval s10.eval; rw [show decide (((30 : Nat) : Int) < (ls.length : Int)) = true from by simp; try omega] at q; exact q) (fun e he => by simp at he) ?_
      rw [hdst]
      replace s0 := s0.ne (d := 11) (u := (.bool true)) (by decide)
      replace s4 := s4.ne (d := 11) (u := (.bool true)) (by decide)
      replace s5 := s5.ne (d := 11) (u := (.bool true)) (by decide)
      replace s8 := s8.ne (d := 11) (u := (.bool true)) (by decide)
      replace s9 := s9.ne (d := 11) (u := (.bool true)) (by decide)
      replace s10 := s10.ne (d := 11) (u := (.bool true)) (by decide)
      have s11 : Sl (A.put (some 11) (.bool true)) 11 (.bool true) := Sl.same (by rw [hsz]; decide)
      replace hsz : (A.put (some 11) (.bool true)).tmps.size = 35 := (put_size _ _ _).trans hsz
      replace hdf : (A.put (some 11) (.bool true)).defers = [] := (put_defers _ _ _).trans hdf
      generalize A.put (some 11) (.bool true) = A at *
      clear ho hop hg hdst
      obtain ⟨o, ho, hop, hg, hdst⟩ : ∃ o, (regOps (y3))[4]? = some o ∧ o.op = .move (.tmp 11) ∧ o.guard = none ∧ o.dst = some 12 := ⟨((regOps (y3))[4]?).getD default, by kernel_rfl, by kernel_rfl, by kernel_rfl, by kernel_rfl⟩
      refine rt_val hJ hz hB ho hg (v := (.bool true)) (fun W z => move1 hop s11.eval) (fun e he => by simp at he) ?_
      rw [hdst]
      replace s0 := s0.ne (d := 12) (u := (.bool true)) (by decide)
      replace s4 := s4.ne (d := 12) (u := (.bool true)) (by decide)
      replace s5 := s5.ne (d := 12) (u := (.bool true)) (by decide)
      replace s8 := s8.ne (d := 12) (u := (.bool true)) (by decide)
      replace s9 := s9.ne (d := 12) (u := (.bool true)) (by decide)
      replace s10 := s10.ne (d := 12) (u := (.bool true)) (by decide)
      replace s11 := s11.ne (d := 12) (u := (.bool true)) (by decide)
      have s12 : Sl (A.put (some 12) (.bool true)) 12 (.bool true) := Sl.same (by rw [hsz]; decide)
      replace hsz : (A.put (some 12) (.bool true)).tmps.size = 35 := (put_size _ _ _).trans hsz
      replace hdf : (A.put (some 12) (.bool true)).defers = [] := (put_defers _ _ _).trans hdf
      generalize A.put (some 12) (.bool true) = A at *
      clear ho hop hg hdst
      obtain ⟨o, ho, hop, hg, hdst⟩ : ∃ o, (regOps (y3))[5]? = some o ∧ o.op = .move (.tmp 5) ∧ o.guard = some (4, true) ∧ o.dst = some 13 := ⟨((regOps (y3))[5]?).getD default, by kernel_rfl, by kernel_rfl, by kernel_rfl, by kernel_rfl⟩
      refine rt_valw hJ hz hB ho (wanted_of (b := true) hg (by kernel_rfl : ((regOps (y3))[4]?).bind (·.dst) = some 12) s12) (v := (.int .i64 (30 : Nat))) (fun W z => move1 hop s5.eval) (fun e he => by simp at he) ?_
      rw [hdst]
      replace s0 := s0.ne (d := 13) (u := (.int .i64 (30 : Nat))) (by decide)
      replace s4 := s4.ne (d := 13) (u := (.int .i64 (30 : Nat))) (by decide)
      replace s5 := s5.ne (d := 13) (u := (.int .i64 (30 : Nat))) (by decide)
      replace s8 := s8.ne (d := 13) (u := (.int .i64 (30 : Nat))) (by decide)
      replace s9 := s9.ne (d := 13) (u := (.int .i64 (30 : Nat))) (by decide)
      replace s10 := s10.ne (d := 13) (u := (.int .i64 (30 : Nat))) (by decide)
      replace s11 := s11.ne (d := 13) (u := (.int .i64 (30 : Nat))) (by decide)
      replace s12 := s12.ne (d := 13) (u := (.int .i64 (30 : Nat))) (by decide)
      have s13 : Sl (A.put (some 13) (.int .i64 (30 : Nat))) 13 (.int .i64 (30 : Nat)) := Sl.same (by rw [hsz]; decide)
      replace hsz : (A.put (some 13) (.int .i64 (30 : Nat))).tmps.size = 35 := (put_size _ _ _).trans hsz
      replace hdf : (A.put (some 13) (.int .i64 (30 : Nat))).defers = [] := (put_defers _ _ _).trans hdf
      generalize A.put (some 13) (.int .i64 (30 : Nat)) = A at *
      clear ho hop hg hdst
      obtain ⟨o, ho, hop, hg, hdst⟩ : ∃ o, (regOps (y3))[6]? = some o ∧ o.op = .binOp .lss 3 (.tmp 13) (.const (.int .i64 30)) 3 ∧ o.guard = some (4, true) ∧ o.dst = some 14 := ⟨((regOps (y3))[6]?).getD default, by kernel_rfl, by kernel_rfl, by kernel_rfl, by kernel_rfl⟩
      refine rt_valw hJ hz hB ho (wanted_of (b := true) hg (by kernel_rfl : ((regOps (y3))[4]?).bind (·.dst) = some 12) s12) (v := (.bool false)) (fun W z => by have q := ltI (w := W) hop s13.eval (m := 30) rfl; rw [show decide (((30 : Nat) : Int) < (30 : Int)) = false from by simp; try omega] at q; exact q) (fun e he => by simp at he) ?_
      rw [hdst]
      replace s0 := s0.ne (d := 14) (u := (.bool false)) (by decide)
      replace s4 := s4.ne (d := 14) (u := (.bool false)) (by decide)
      replace s5 := s5.ne (d := 14) (u := (.bool false)) (by decide)
      replace s8 := s8.ne (d := 14) (u := (.bool false)) (by decide)
      replace s9 := s9.ne (d := 14) (u := (.bool false)) (by decide)
      replace s10 := s10.ne (d := 14) (u := (.bool false)) (by decide)
      replace s11 := s11.ne (d := 14) (u := (.bool false)) (by decide)
      replace s12 := s12.ne (d := 14) (u := (.bool false)) (by decide)
      replace s13 := s13.ne (d := 14) (u := (.bool false)) (by decide)
      have s14 : Sl (A.put (some 14) (.bool false)) 14 (.bool false) := Sl.same (by rw [hsz]; decide)
      replace hsz : (A.put (some 14) (.bool false)).tmps.size = 35 := (put_size _ _ _).trans hsz
      replace hdf : (A.put (some 14) (.bool false)).defers = [] := (put_defers _ _ _).trans hdf
      generalize A.put (some 14) (.bool false) = A at *
      clear ho hop hg hdst
      obtain ⟨o, ho, hop, hg, hdst⟩ : ∃ o, (regOps (y3))[7]? = some o ∧ o.op = .pick (.tmp 12) (.tmp 14) (.const (.bool false)) ∧ o.guard = none ∧ o.dst = some 15 := ⟨((regOps (y3))[7]?).getD default, by kernel_rfl, by kernel_rfl, by kernel_rfl, by kernel_rfl⟩
      refine rt_val hJ hz hB ho hg (v := (.bool false)) (fun W z => by have q := pickB (w := W) hop s12.eval; simp only [if_true, Bool.false_eq_true, if_false] at q; rw [s14.eval] at q; exact q) (fun e he => by simp at he) ?_
      rw [hdst]
      replace s0 := s0.ne (d := 15) (u := (.bool false)) (by decide)
      replace s4 := s4.ne (d := 15) (u := (.bool false)) (by decide)
      replace s5 := s5.ne (d := 15) (u := (.bool false)) (by decide)
      replace s8 := s8.ne (d := 15) (u := (.bool false)) (by decide)
      replace s9 := s9.ne (d := 15) (u := (.bool false)) (by decide)
      replace s10 := s10.ne (d := 15) (u := (.bool false)) (by decide)
      replace s11 := s11.ne (d := 15) (u := (.bool false)) (by decide)
      replace s12 := s12.ne (d := 15) (u := (.bool false)) (by decide)
      replace s13 := s13.ne (d := 15) (u := (.bool false)) (by decide)
      replace s14 := s14.ne (d := 15) (u := (.bool false)) (by decide)
      have s15 : Sl (A.put (some 15) (.bool false)) 15 (.bool false) := Sl.same (by rw [hsz]; decide)
      replace hsz : (A.put (some 15) (.bool false)).tmps.size = 35 := (put_size _ _ _).trans hsz
      replace hdf : (A.put (some 15) (.bool false)).defers = [] := (put_defers _ _ _).trans hdf
      generalize A.put (some 15) (.bool false) = A at *
      clear ho hop hg hdst
      refine rt_region_end hJ hz ?_
      refine rt_cond hJ hz (b := false) s15.eval ?_
      simp only [Bool.false_eq_true, if_false]
      refine rt_exit hJ hz (k' := kx) (by simp [exitTo]) ?_
      exact hx O A v _ hO hsz hdf hfin s4
    ·
      rw [show (Item.code lpE : Item) = _ from congrArg Item.code lpE_eq]
      refine rt_seq hJ hz ?_
      refine rt_seq hJ hz ?_
      rw [show y3 = .region 3 (regOps (y3)) false from by kernel_rfl]
      refine rt_region hJ hz ?_
      rw [show List.range (regOps (y3)).size = [0, 1, 2, 3, 4, 5, 6, 7] from by kernel_rfl]
      obtain ⟨o, ho, hop, hg, hdst⟩ : ∃ o, (regOps (y3))[0]? = some o ∧ o.op = .move (.tmp 5) ∧ o.guard = none ∧ o.dst = some 8 := ⟨((regOps (y3))[0]?).getD default, by kernel_rfl, by kernel_rfl, by kernel_rfl, by kernel_rfl⟩
      refine rt_val hJ hz hB ho hg (v := (.int .i64 (30 : Nat))) (fun W z => move1 hop s5.eval) (fun e he => by simp at he) ?_
      rw [hdst]
      replace s0 := s0.ne (d := 8) (u := (.int .i64 (30 : Nat))) (by decide)
      replace s4 := s4.ne (d := 8) (u := (.int .i64 (30 : Nat))) (by decide)
      replace s5 := s5.ne (d := 8) (u := (.int .i64 (30 : Nat))) (by decide)
      have s8 : Sl (A.put (some 8) (.int .i64 (30 : Nat))) 8 (.int .i64 (30 : Nat)) := Sl.same (by rw [hsz]; decide)
      replace hsz : (A.put (some 8) (.int .i64 (30 : Nat))).tmps.size = 35 := (put_size _ _ _).trans hsz
      replace hdf : (A.put (some 8) (.int .i64 (30 : Nat))).defers = [] := (put_defers _ _ _).trans hdf
      generalize A.put (some 8) (.int .i64 (30 : Nat)) = A at *
      clear ho hop hg hdst
      obtain ⟨o, ho, hop, hg, hdst⟩ : ∃ o, (regOps (y3))[1]? = some o ∧ o.op = .move (.tmp 0) ∧ o.guard = none ∧ o.dst = some 9 := ⟨((regOps (y3))[1]?).getD default, by kernel_rfl, by kernel_rfl, by kernel_rfl, by kernel_rfl⟩
      refine rt_val hJ hz hB ho hg (v := (.slice va ls.length cap)) (fun W z => move1 hop s0.eval) (fun e he => by simp at he) ?_
      rw [hdst]
      replace s0 := s0.ne (d := 9) (u := (.slice va ls.length cap)) (by decide)
      replace s4 := s4.ne (d := 9) (u := (.slice va ls.length cap)) (by decide)
      replace s5 := s5.ne (d := 9) (u := (.slice va ls.length cap)) (by decide)
      replace s8 := s8.ne (d := 9) (u := (.slice va ls.length cap)) (by decide)
      have s9 : Sl (A.put (some 9) (.slice va ls.length cap)) 9 (.slice va ls.length cap) := Sl.same (by rw [hsz]; decide)
      replace hsz : (A.put (some 9) (.slice va ls.length cap)).tmps.size = 35 := (put_size _ _ _).trans hsz
      replace hdf : (A.put (some 9) (.slice va ls.length cap)).defers = [] := (put_defers _ _ _).trans hdf
      generalize A.put (some 9) (.slice va ls.length cap) = A at *
      clear ho hop hg hdst
      obtain ⟨o, ho, hop, hg, hdst⟩ : ∃ o, (regOps (y3))[2]? = some o ∧ o.op = .call { callee := .builtin .len, args := #[.tmp 9], argTypes := #[38] } ∧ o.guard = none ∧ o.dst = some 10 := ⟨((regOps (y3))[2]?).getD default, by kernel_rfl, by kernel_rfl, by kernel_rfl, by kernel_rfl⟩
      refine rt_val hJ hz hB ho hg (v := (.int .i64 ls.length)) (fun W z => lenT (.inr (.inl rfl)) hop s9.eval) (fun e he => by simp at he) ?_
      rw [hdst]
      replace s0 := s0.ne (d := 10) (u := (.int .i64 ls.length)) (by decide)
      replace s4 := s4.ne (d := 10) (u := (.int .i64 ls.length)) (by decide)
      replace s5 := s5.ne (d := 10) (u := (.int .i64 ls.length)) (by decide)
      replace s8 := s8.ne (d := 10) (u := (.int .i64 ls.length)) (by decide)
      replace s9 := s9.ne (d := 10) (u := (.int .i64 ls.length)) (by decide)
      have s10 : Sl (A.put (some 10) (.int .i64 ls.length)) 10 (.int .i64 ls.length) := Sl.same (by rw [hsz]; decide)
      replace hsz : (A.put (some 10) (.int .i64 ls.length)).tmps.size = 35 := (put_size _ _ _).trans hsz
      replace hdf : (A.put (some 10) (.int .i64 ls.length)).defers = [] := (put_defers _ _ _).trans hdf
      generalize A.put (some 10) (.int .i64 ls.length) = A at *
      clear ho hop hg hdst
      obtain ⟨o, ho, hop, hg, hdst⟩ : ∃ o, (regOps (y3))[3]? = some o ∧ o.op = .binOp .lss 3 (.tmp 8) (.tmp 10) 3 ∧ o.guard = none ∧ o.dst = some 11 := ⟨((regOps (y3))[3]?).getD default, by kernel_rfl, by kernel_rfl, by kernel_rfl, by kernel_rfl⟩
      refine rt_val hJ hz hB ho hg (v := (.bool false)) (fun W z => by have q := ltI (w := W) hop s8.eval s10.eval; rw [show decide (((30 : Nat) : Int) < (ls.length : Int)) = false from by simp; try omega] at q; exact q) (fun e he => by simp at he) ?_
      rw [hdst]
      replace s0 := s0.ne (d := 11) (u := (.bool false)) (by decide)
      replace s4 := s4.ne (d := 11) (u := (.bool false)) (by decide)
      replace s5 := s5.ne (d := 11) (u := (.bool false)) (by decide)
      replace s8 := s8.ne (d := 11) (u := (.bool false)) (by decide)
      replace s9 := s9.ne (d := 11) (u := (.bool false)) (by decide)
      replace s10 := s10.ne (d := 11) (u := (.bool false)) (by decide)
      have s11 : Sl (A.put (some 11) (.bool false)) 11 (.bool false) := Sl.same (by rw [hsz]; decide)
      replace hsz : (A.put (some 11) (.bool false)).tmps.size = 35 := (put_size _ _ _).trans hsz
      replace hdf : (A.put (some 11) (.bool false)).defers = [] := (put_defers _ _ _).trans hdf
      generalize A.put (some 11) (.bool false) = A at *
      clear ho hop hg hdst
      obtain ⟨o, ho, hop, hg, hdst⟩ : ∃ o, (regOps (y3))[4]? = some o ∧ o.op = .move (.tmp 11) ∧ o.guard = none ∧ o.dst = some 12 := ⟨((regOps (y3))[4]?).getD default, by kernel_rfl, by kernel_rfl, by kernel_rfl, by kernel_rfl⟩
      refine rt_val hJ hz hB ho hg (v := (.bool false)) (fun W z => move1 hop s11.eval) (fun e he => by simp at he) ?_
      rw [hdst]
      replace s0 := s0.ne (d := 12) (u := (.bool false)) (by decide)
      replace s4 := s4.ne (d := 12) (u := (.bool false)) (by decide)
      replace s5 := s5.ne (d := 12) (u := (.bool false)) (by decide)
      replace s8 := s8.ne (d := 12) (u := (.bool false)) (by decide)
      replace s9 := s9.ne (d := 12) (u := (.bool false)) (by decide)
      replace s10 := s10.ne (d := 12) (u := (.bool false)) (by decide)
      replace s11 := s11.ne (d := 12) (u := (.bool false)) (by decide)
      have s12 : Sl (A.put (some 12) (.bool false)) 12 (.bool false) := Sl.same (by rw [hsz]; decide)
      replace hsz : (A.put (some 12) (.bool false)).tmps.size = 35 := (put_size _ _ _).trans hsz
      replace hdf : (A.put (some 12) (.bool false)).defers = [] := (put_defers _ _ _).trans hdf
      generalize A.put (some 12) (.bool false) = A at *
      clear ho hop hg hdst
      obtain ⟨o, ho, hop, hg, hdst⟩ : ∃ o, (regOps (y3))[5]? = some o ∧ o.op = .move (.tmp 5) ∧ o.guard = some (4, true) ∧ o.dst = some 13 := ⟨((regOps (y3))[5]?).getD default, by kernel_rfl, by kernel_rfl, by kernel_rfl, by kernel_rfl⟩
      refine rt_unw hJ hz ho (wanted_of (b := false) hg (by kernel_rfl : ((regOps (y3))[4]?).bind (·.dst) = some 12) s12) ?_
      rw [hdst]
      replace s0 := s0.ne (d := 13) (u := undef) (by decide)
      replace s4 := s4.ne (d := 13) (u := undef) (by decide)
      replace s5 := s5.ne (d := 13) (u := undef) (by decide)
      replace s8 := s8.ne (d := 13) (u := undef) (by decide)
      replace s9 := s9.ne (d := 13) (u := undef) (by decide)
      replace s10 := s10.ne (d := 13) (u := undef) (by decide)
      replace s11 := s11.ne (d := 13) (u := undef) (by decide)
      replace s12 := s12.ne (d := 13) (u := undef) (by decide)
      have s13 : Sl (A.put (some 13) undef) 13 undef := Sl.same (by rw [hsz]; decide)
      replace hsz : (A.put (some 13) undef).tmps.size = 35 := (put_size _ _ _).trans hsz
      replace hdf : (A.put (some 13) undef).defers = [] := (put_defers _ _ _).trans hdf
      generalize A.put (some 13) undef = A at *
      clear ho hop hg hdst
      obtain ⟨o, ho, hop, hg, hdst⟩ : ∃ o, (regOps (y3))[6]? = some o ∧ o.op = .binOp .lss 3 (.tmp 13) (.const (.int .i64 30)) 3 ∧ o.guard = some (4, true) ∧ o.dst = some 14 := ⟨((regOps (y3))[6]?).getD default, by kernel_rfl, by kernel_rfl, by kernel_rfl, by kernel_rfl⟩
      refine rt_unw hJ hz ho (wanted_of (b := false) hg (by kernel_rfl : ((regOps (y3))[4]?).bind (·.dst) = some 12) s12) ?_
      rw [hdst]
      replace s0 := s0.ne (d := 14) (u := undef) (by decide)
      replace s4 := s4.ne (d := 14) (u := undef) (by decide)
      replace s5 := s5.ne (d := 14) (u := undef) (by decide)
      replace s8 := s8.ne (d := 14) (u := undef) (by decide)
      replace s9 := s9.ne (d := 14) (u := undef) (by decide)
      replace s10 := s10.ne (d := 14) (u := undef) (by decide)
      replace s11 := s11.ne (d := 14) (u := undef) (by decide)
      replace s12 := s12.ne (d := 14) (u := undef) (by decide)
      replace s13 := s13.ne (d := 14) (u := undef) (by decide)
      have s14 : Sl (A.put (some 14) undef) 14 undef := Sl.same (by rw [hsz]; decide)
      replace hsz : (A.put (some 14) undef).tmps.size = 35 := (put_size _ _ _).trans hsz
      replace hdf : (A.put (some 14) undef).defers = [] := (put_defers _ _ _).trans hdf
      generalize A.put (some 14) undef = A at *
      clear ho hop hg hdst
      obtain ⟨o, ho, hop, hg, hdst⟩ : ∃ o, (regOps (y3))[7]? = some o ∧ o.op = .pick (.tmp 12) (.tmp 14) (.const (.bool false)) ∧ o.guard = none ∧ o.dst = some 15 := ⟨((regOps (y3))[7]?).getD default, by kernel_rfl, by kernel_rfl, by kernel_rfl, by kernel_rfl⟩
      refine rt_val hJ hz hB ho hg (v := (.bool false)) (fun W z => by have q := pickB (w := W) hop s12.eval; simp only [if_true, Bool.false_eq_true, if_false] at q; exact q) (fun e he => by simp at he) ?_
      rw [hdst]
      replace s0 := s0.ne (d := 15) (u := (.bool false)) (by decide)
      replace s4 := s4.ne (d := 15) (u := (.bool false)) (by decide)
      replace s5 := s5.ne (d := 15) (u := (.bool false)) (by decide)
      replace s8 := s8.ne (d := 15) (u := (.bool false)) (by decide)
      replace s9 := s9.ne (d := 15) (u := (.bool false)) (by decide)
      replace s10 := s10.ne (d := 15) (u := (.bool false)) (by decide)
      replace s11 := s11.ne (d := 15) (u := (.bool false)) (by decide)
      replace s12 := s12.ne (d := 15) (u := (.bool false)) (by decide)
      replace s13 := s13.ne (d := 15) (u := (.bool false)) (by decide)
      replace s14 := s14.ne (d := 15) (u := (.bool false)) (by decide)
      have s15 : Sl (A.put (some 15) (.bool false)) 15 (.bool false) := Sl.same (by rw [hsz]; decide)
      replace hsz : (A.put (some 15) (.bool false)).tmps.size = 35 := (put_size _ _ _).trans hsz
      replace hdf : (A.put (some 15) (.bool false)).defers = [] := (put_defers _ _ _).trans hdf
      generalize A.put (some 15) (.bool false) = A at *
      clear ho hop hg hdst
      refine rt_region_end hJ hz ?_
      refine rt_cond hJ hz (b := false) s15.eval ?_
      simp only [Bool.false_eq_true, if_false]
      refine rt_exit hJ hz (k' := kx) (by simp [exitTo]) ?_
      exact hx O A v _ hO hsz hdf hfin s4
  | succ d ih =>
    intro k O A v hd hk hkl hO hsz hdf s0 s4 s5
    have hz : Stable O Sh fun W => Rely Own Sh W1 W ∧ REnt (fun b => O b ∨ Sh b) W v (toE ls k) := Stable.and (fun W W' hr z => z.own hO hr) fun W W' hr z => z.rely hr fun b hb => hb
    by_cases hlt : k < ls.length
    ·
      rw [show (Item.code lpE : Item) = _ from congrArg Item.code lpE_eq]
      refine rt_seq hJ hz ?_
      refine rt_seq hJ hz ?_
      rw [show y3 = .region 3 (regOps (y3)) false from by kernel_rfl]
      refine rt_region hJ hz ?_
      rw [show List.range (regOps (y3)).size = [0, 1, 2, 3, 4, 5, 6, 7] from by kernel_rfl]
      obtain ⟨o, ho, hop, hg, hdst⟩ : ∃ o, (regOps (y3))[0]? = some o ∧ o.op = .move (.tmp 5) ∧ o.guard = none ∧ o.dst = some 8 := ⟨((regOps (y3))[0]?).getD default, by kernel_rfl, by kernel_rfl, by kernel_rfl, by kernel_rfl⟩
      refine rt_val hJ hz hB ho hg (v := (.int .i64 (k : Nat))) (fun W z => move1 hop s5.eval) (fun e he => by simp at he) ?_
      rw [hdst]
      replace s0 := s0.ne (d := 8) (u := (.int .i64 (k : Nat))) (by decide)
      replace s4 := s4.ne (d := 8) (u := (.int .i64 (k : Nat))) (by decide)
      replace s5 := s5.ne (d := 8) (u := (.int .i64 (k : Nat))) (by decide)
      have s8 : Sl (A.put (some 8) (.int .i64 (k : Nat))) 8 (.int .i64 (k : Nat)) := Sl.same (by rw [hsz]; decide)
      replace hsz : (A.put (some 8) (.int .i64 (k : Nat))).tmps.size = 35 := (put_size _ _ _).trans hsz
      replace hdf : (A.put (some 8) (.int .i64 (k : Nat))).defers = [] := (put_defers _ _ _).trans hdf
      generalize A.put (some 8) (.int .i64 (k : Nat)) = A at *
      clear ho hop hg hdst
      obtain ⟨o, ho, hop, hg, hdst⟩ : ∃ o, (regOps (y3))[1]? = some o ∧ o.op = .move (.tmp 0) ∧ o.guard = none ∧ o.dst = some 9 := ⟨((regOps (y3))[1]?).getD default, by kernel_rfl, by kernel_rfl, by kernel_rfl, by kernel_rfl⟩
      refine rt_val hJ hz hB ho hg (v := (.slice va ls.length cap)) (fun W z => move1 hop s0.eval) (fun e he => by simp at he) ?_
      rw [hdst]
      replace s0 := s0.ne (d := 9) (u := (.slice va ls.length cap)) (by decide)
      replace s4 := s4.ne (d := 9) (u := (.slice va ls.length cap)) (by decide)
      replace s5 := s5.ne (d := 9) (u := (.slice va ls.length cap)) (by decide)
      replace s8 := s8.ne (d := 9) (u := (.slice va ls.length cap)) (by decide)
      have s9 : Sl (A.put (some 9) (.slice va ls.length cap)) 9 (.slice va ls.length cap) := Sl.same (by rw [hsz]; decide)
      replace hsz : (A.put (some 9) (.slice va ls.length cap)).tmps.size = 35 := (put_size _ _ _).trans hsz
      replace hdf : (A.put (some 9) (.slice va ls.length cap)).defers = [] := (put_defers _ _ _).trans hdf
      generalize A.put (some 9) (.slice va ls.length cap) = A at *
      clear ho hop hg hdst
      obtain ⟨o, ho, hop, hg, hdst⟩ : ∃ o, (regOps (y3))[2]? = some o ∧ o.op = .call { callee := .builtin .len, args := #[.tmp 9], argTypes := #[38] } ∧ o.guard = none ∧ o.dst = some 10 := ⟨((regOps (y3))[2]?).getD default, by kernel_rfl, by kernel_rfl, by kernel_rfl, by kernel_rfl⟩
      refine rt_val hJ hz hB ho hg (v := (.int .i64 ls.length)) (fun W z => lenT (.inr (.inl rfl)) hop s9.eval) (fun e he => by simp at he) ?_
      rw [hdst]
      replace s0 := s0.ne (d := 10) (u := (.int .i64 ls.length)) (by decide)
      replace s4 := s4.ne (d := 10) (u := (.int .i64 ls.length)) (by decide)
      replace s5 := s5.ne (d := 10) (u := (.int .i64 ls.length)) (by decide)
      replace s8 := s8.ne (d := 10) (u := (.int .i64 ls.length)) (by decide)
      replace s9 := s9.ne (d := 10) (u := (.int .i64 ls.length)) (by decide)
      have s10 : Sl (A.put (some 10) (.int .i64 ls.length)) 10 (.int .i64 ls.length) := Sl.same (by rw [hsz]; decide)
      replace hsz : (A.put (some 10) (.int .i64 ls.length)).tmps.size = 35 := (put_size _ _ _).trans hsz
      replace hdf : (A.put (some 10) (.int .i64 ls.length)).defers = [] := (put_defers _ _ _).trans hdf
      generalize A.put (some 10) (.int .i64 ls.length) = A at *
      clear ho hop hg hdst
      obtain ⟨o, ho, hop, hg, hdst⟩ : ∃ o, (regOps (y3))[3]? = some o ∧ o.op = .binOp .lss 3 (.tmp 8) (.tmp 10) 3 ∧ o.guard = none ∧ o.dst = some 11 := ⟨((regOps (y3))[3]?).getD default, by kernel_rfl, by kernel_rfl, by kernel_rfl, by kernel_rfl⟩
      refine rt_val hJ hz hB ho hg (v := (.bool true)) (fun W z => by have q := ltI (w := W) hop s8.eval s10.eval; rw [show decide (((k : Nat) : Int) < (ls.length : Int)) = true from by simp; try omega] at q; exact q) (fun e he => by simp at he) ?_
      rw [hdst]
      replace s0 := s0.ne (d := 11) (u := (.bool true)) (by decide)
      replace s4 := s4.ne (d := 11) (u := (.bool true)) (by decide)
      replace s5 := s5.ne (d := 11) (u := (.bool true)) (by decide)
      replace s8 := s8.ne (d := 11) (u := (.bool true)) (by decide)
      replace s9 := s9.ne (d := 11) (u := (.bool true)) (by decide)
      replace s10 := s10.ne (d := 11) (u := (.bool true)) (by decide)
      have s11 : Sl (A.put (some 11) (.bool true)) 11 (.bool true) := Sl.same (by rw [hsz]; decide)
      replace hsz : (A.put (some 11) (.bool true)).tmps.size = 35 := (put_size _ _ _).trans hsz
      replace hdf : (A.put (some 11) (.bool true)).defers = [] := (put_defers _ _ _).trans hdf
      generalize A.put (some 11) (.bool true) = A at *
      clear ho hop hg hdst
      obtain ⟨o, ho, hop, hg, hdst⟩ : ∃ o, (regOps (y3))[4]? = some o ∧ o.op = .move (.tmp 11) ∧ o.guard = none ∧ o.dst = some 12 := ⟨((regOps (y3))[4]?).getD default, by kernel_rfl, by kernel_rfl, by kernel_rfl, by kernel_rfl⟩
      refine rt_val hJ hz hB ho hg (v := (.bool true)) (fun W z => move1 hop s11.eval) (fun e he => by simp at he) ?_
      rw [hdst]
      replace s0 := s0.ne (d := 12) (u := (.bool true)) (by decide)
      replace s4 := s4.ne (d := 12) (u := (.bool true)) (by decide)
      replace s5 := s5.ne (d := 12) (u := (.bool true)) (by decide)
      replace s8 := s8.ne (d := 12) (u := (.bool true)) (by decide)
      replace s9 := s9.ne (d := 12) (u := (.bool true)) (by decide)
      replace s10 := s10.ne (d := 12) (u := (.bool true)) (by decide)
      replace s11 := s11.ne (d := 12) (u := (.bool true)) (by decide)
      have s12 : Sl (A.put (some 12) (.bool true)) 12 (.bool true) := Sl.same (by rw [hsz]; decide)
      replace hsz : (A.put (some 12) (.bool true)).tmps.size = 35 := (put_size _ _ _).trans hsz
      replace hdf : (A.put (some 12) (.bool true)).defers = [] := (put_defers _ _ _).trans hdf
      generalize A.put (some 12) (.bool true) = A at *
      clear ho hop hg hdst
      obtain ⟨o, ho, hop, hg, hdst⟩ : ∃ o, (regOps (y3))[5]? = some o ∧ o.op = .move (.tmp 5) ∧ o.guard = some (4, true) ∧ o.dst = some 13 := ⟨((regOps (y3))[5]?).getD default, by kernel_rfl, by kernel_rfl, by kernel_rfl, by kernel_rfl⟩
      refine rt_valw hJ hz hB ho (wanted_of (b := true) hg (by kernel_rfl : ((regOps (y3))[4]?).bind (·.dst) = some 12) s12) (v := (.int .i64 (k : Nat))) (fun W z => move1 hop s5.eval) (fun e he => by simp at he) ?_
      rw [hdst]
      replace s0 := s0.ne (d := 13) (u := (.int .i64 (k : Nat))) (by decide)
      replace s4 := s4.ne (d := 13) (u := (.int .i64 (k : Nat))) (by decide)
      replace s5 := s5.ne (d := 13) (u := (.int .i64 (k : Nat))) (by decide)
      replace s8 := s8.ne (d := 13) (u := (.int .i64 (k : Nat))) (by decide)
      replace s9 := s9.ne (d := 13) (u := (.int .i64 (k : Nat))) (by decide)
      replace s10 := s10.ne (d := 13) (u := (.int .i64 (k : Nat))) (by decide)
      replace s11 := s11.ne (d := 13) (u := (.int .i64 (k : Nat))) (by decide)
      replace s12 := s12.ne (d := 13) (u := (.int .i64 (k : Nat))) (by decide)
      have s13 : Sl (A.put (some 13) (.int .i64 (k : Nat))) 13 (.int .i64 (k : Nat)) := Sl.same (by rw [hsz]; decide)
      replace hsz : (A.put (some 13) (.int .i64 (k : Nat))).tmps.size = 35 := (put_size _ _ _).trans hsz
      replace hdf : (A.put (some 13) (.int .i64 (k : Nat))).defers = [] := (put_defers _ _ _).trans hdf
      generalize A.put (some 13) (.int .i64 (k : Nat)) = A at *
      clear ho hop hg hdst
      obtain ⟨o, ho, hop, hg, hdst⟩ : ∃ o, (regOps (y3))[6]? = some o ∧ o.op = .binOp .lss 3 (.tmp 13) (.const (.int .i64 30)) 3 ∧ o.guard = some (4, true) ∧ o.dst = some 14 := ⟨((regOps (y3))[6]?).getD default, by kernel_rfl, by kernel_rfl, by kernel_rfl, by kernel_rfl⟩
      refine rt_valw hJ hz hB ho (wanted_of (b := true) hg (by kernel_rfl : ((regOps (y3))[4]?).bind (·.dst) = some 12) s12) (v := (.bool true)) (fun W z => by have q := ltI (w := W) hop s13.eval (m := 30) rfl; rw [show decide (((k : Nat) : Int) < (30 : Int)) = true from by simp; try omega] at q; exact q) (fun e he => by simp at he) ?_
      rw [hdst]
      replace s0 := s0.ne (d := 14) (u := (.bool true)) (by decide)
      replace s4 := s4.ne (d := 14) (u := (.bool true)) (by decide)
      replace s5 := s5.ne (d := 14) (u := (.bool true)) (by decide)
      replace s8 := s8.ne (d := 14) (u := (.bool true)) (by decide)
      replace s9 := s9.ne (d := 14) (u := (.bool true)) (by decide)
      replace s10 := s10.ne (d := 14) (u := (.bool true)) (by decide)
      replace s11 := s11.ne (d := 14) (u := (.bool true)) (by decide)
      replace s12 := s12.ne (d := 14) (u := (.bool true)) (by decide)
      replace s13 := s13.ne (d := 14) (u := (.bool true)) (by decide)
      have s14 : Sl (A.put (some 14) (.bool true)) 14 (.bool true) := Sl.same (by rw [hsz]; decide)
      replace hsz : (A.put (some 14) (.bool true)).tmps.size = 35 := (put_size _ _ _).trans hsz
      replace hdf : (A.put (some 14) (.bool true)).defers = [] := (put_defers _ _ _).trans hdf
      generalize A.put (some 14) (.bool true) = A at *
      clear ho hop hg hdst
      obtain ⟨o, ho, hop, hg, hdst⟩ : ∃ o, (regOps (y3))[7]? = some o ∧ o.op = .pick (.tmp 12) (.tmp 14) (.const (.bool false)) ∧ o.guard = none ∧ o.dst = some 15 := ⟨((regOps (y3))[7]?).getD default, by kernel_rfl, by kernel_rfl, by kernel_rfl, by kernel_rfl⟩
      refine rt_val hJ hz hB ho hg (v := (.bool true)) (fun W z => by have q := pickB (w := W) hop s12.eval; simp only [if_true, Bool.false_eq_true, if_false] at q; rw [s14.eval] at q; exact q) (fun e he => by simp at he) ?_
      rw [hdst]
      replace s0 := s0.ne (d := 15) (u := (.bool true)) (by decide)
      replace s4 := s4.ne (d := 15) (u := (.bool true)) (by decide)
      replace s5 := s5.ne (d := 15) (u := (.bool true)) (by decide)
      replace s8 := s8.ne (d := 15) (u := (.bool true)) (by decide)
      replace s9 := s9.ne (d := 15) (u := (.bool true)) (by decide)
      replace s10 := s10.ne (d := 15) (u := (.bool true)) (by decide)
      replace s11 := s11.ne (d := 15) (u := (.bool true)) (by decide)
      replace s12 := s12.ne (d := 15) (u := (.bool true)) (by decide)
      replace s13 := s13.ne (d := 15) (u := (.bool true)) (by decide)
      replace s14 := s14.ne (d := 15) (u := (.bool true)) (by decide)
      have s15 : Sl (A.put (some 15) (.bool true)) 15 (.bool true) := Sl.same (by rw [hsz]; decide)
      replace hsz : (A.put (some 15) (.bool true)).tmps.size = 35 := (put_size _ _ _).trans hsz
      replace hdf : (A.put (some 15) (.bool true)).defers = [] := (put_defers _ _ _).trans hdf
      generalize A.put (some 15) (.bool true) = A at *
      clear ho hop hg hdst
      refine rt_region_end hJ hz ?_
      refine rt_cond hJ hz (b := true) s15.eval ?_
      simp only [if_true]
      have hsix : SixL (toE ls k) := entsTo_six ls k
      have hone : SixL [EntPick ls[k]] := six_one (entPick_ok _).1 (entPick_ok _).2
      obtain ⟨b, off, rfl, hSb, -⟩ := hN.row k hlt
      refine rt_skip hJ hz ?_
      refine rt_seq hJ hz ?_
      refine rt_block hJ hz ?_
      rw [show (Item.code bkE : Item) = _ from congrArg Item.code bkE_eq]
      refine rt_seq hJ hz ?_
      rw [show y5 = .region 5 (regOps (y5)) false from by kernel_rfl]
      refine rt_region hJ hz ?_
      rw [show List.range (regOps (y5)).size = [0, 1, 2, 3, 4, 5, 6, 7, 8, 9, 10, 11, 12] from by kernel_rfl]
      obtain ⟨o, ho, hop, hg, hdst⟩ : ∃ o, (regOps (y5))[0]? = some o ∧ o.op = .move (.tmp 4) ∧ o.guard = none ∧ o.dst = some 19 := ⟨((regOps (y5))[0]?).getD default, by kernel_rfl, by kernel_rfl, by kernel_rfl, by kernel_rfl⟩
      refine rt_val hJ hz hB ho hg (v := v) (fun W z => move1 hop s4.eval) (fun e he => by simp at he) ?_
      rw [hdst]
      replace s0 := s0.ne (d := 19) (u := v) (by decide)
      replace s4 := s4.ne (d := 19) (u := v) (by decide)
      replace s5 := s5.ne (d := 19) (u := v) (by decide)
      replace s8 := s8.ne (d := 19) (u := v) (by decide)
      replace s9 := s9.ne (d := 19) (u := v) (by decide)
      replace s10 := s10.ne (d := 19) (u := v) (by decide)
      replace s11 := s11.ne (d := 19) (u := v) (by decide)
      replace s12 := s12.ne (d := 19) (u := v) (by decide)
      replace s13 := s13.ne (d := 19) (u := v) (by decide)
      replace s14 := s14.ne (d := 19) (u := v) (by decide)
      replace s15 := s15.ne (d := 19) (u := v) (by decide)
      have s19 : Sl (A.put (some 19) v) 19 v := Sl.same (by rw [hsz]; decide)
      replace hsz : (A.put (some 19) v).tmps.size = 35 := (put_size _ _ _).trans hsz
      replace hdf : (A.put (some 19) v).defers = [] := (put_defers _ _ _).trans hdf
      generalize A.put (some 19) v = A at *
      clear ho hop hg hdst
      obtain ⟨o, ho, hop, hg, hdst⟩ : ∃ o, (regOps (y5))[1]? = some o ∧ o.op = .move (.tmp 0) ∧ o.guard = none ∧ o.dst = some 20 := ⟨((regOps (y5))[1]?).getD default, by kernel_rfl, by kernel_rfl, by kernel_rfl, by kernel_rfl⟩
      refine rt_val hJ hz hB ho hg (v := (.slice (some ⟨b, off, none⟩) ls.length cap)) (fun W z => move1 hop s0.eval) (fun e he => by simp at he) ?_
      rw [hdst]
      replace s0 := s0.ne (d := 20) (u := (.slice (some ⟨b, off, none⟩) ls.length cap)) (by decide)
      replace s4 := s4.ne (d := 20) (u := (.slice (some ⟨b, off, none⟩) ls.length cap)) (by decide)
      replace s5 := s5.ne (d := 20) (u := (.slice (some ⟨b, off, none⟩) ls.length cap)) (by decide)
      replace s8 := s8.ne (d := 20) (u := (.slice (some ⟨b, off, none⟩) ls.length cap)) (by decide)
      replace s9 := s9.ne (d := 20) (u := (.slice (some ⟨b, off, none⟩) ls.length cap)) (by decide)
      replace s10 := s10.ne (d := 20) (u := (.slice (some ⟨b, off, none⟩) ls.length cap)) (by decide)
      replace s11 := s11.ne (d := 20) (u := (.slice (some ⟨b, off, none⟩) ls.length cap)) (by decide)
      replace s12 := s12.ne (d := 20) (u := (.slice (some ⟨b, off, none⟩) ls.length cap)) (by decide)
      replace s13 := s13.ne (d := 20) (u := (.slice (some ⟨b, off, none⟩) ls.length cap)) (by decide)
      replace s14 := s14.ne (d := 20) (u := (.slice (some ⟨b, off, none⟩) ls.length cap)) (by decide)
      replace s15 := s15.ne (d := 20) (u := (.slice (some ⟨b, off, none⟩) ls.length cap)) (by decide)
      replace s19 := s19.ne (d := 20) (u := (.slice (some ⟨b, off, none⟩) ls.length cap)) (by decide)
      have s20 : Sl (A.put (some 20) (.slice (some ⟨b, off, none⟩) ls.length cap)) 20 (.slice (some ⟨b, off, none⟩) ls.length cap) := Sl.same (by rw [hsz]; decide)
      replace hsz : (A.put (some 20) (.slice (some ⟨b, off, none⟩) ls.length cap)).tmps.size = 35 := (put_size _ _ _).trans hsz
      replace hdf : (A.put (some 20) (.slice (some ⟨b, off, none⟩) ls.length cap)).defers = [] := (put_defers _ _ _).trans hdf
      generalize A.put (some 20) (.slice (some ⟨b, off, none⟩) ls.length cap) = A at *
      clear ho hop hg hdst
      obtain ⟨o, ho, hop, hg, hdst⟩ : ∃ o, (regOps (y5))[2]? = some o ∧ o.op = .move (.tmp 5) ∧ o.guard = none ∧ o.dst = some 21 := ⟨((regOps (y5))[2]?).getD default, by kernel_rfl, by kernel_rfl, by kernel_rfl, by kernel_rfl⟩
      refine rt_val hJ hz hB ho hg (v := (.int .i64 k)) (fun W z => move1 hop s5.eval) (fun e he => by simp at he) ?_
      rw [hdst]
      replace s0 := s0.ne (d := 21) (u := (.int .i64 k)) (by decide)
      replace s4 := s4.ne (d := 21) (u := (.int .i64 k)) (by decide)
      replace s5 := s5.ne (d := 21) (u := (.int .i64 k)) (by decide)
      replace s8 := s8.ne (d := 21) (u := (.int .i64 k)) (by decide)
      replace s9 := s9.ne (d := 21) (u := (.int .i64 k)) (by decide)
      replace s10 := s10.ne (d := 21) (u := (.int .i64 k)) (by decide)
      replace s11 := s11.ne (d := 21) (u := (.int .i64 k)) (by decide)
      replace s12 := s12.ne (d := 21) (u := (.int .i64 k)) (by decide)
      replace s13 := s13.ne (d := 21) (u := (.int .i64 k)) (by decide)
      replace s14 := s14.ne (d := 21) (u := (.int .i64 k)) (by decide)
      replace s15 := s15.ne (d := 21) (u := (.int .i64 k)) (by decide)
      replace s19 := s19.ne (d := 21) (u := (.int .i64 k)) (by decide)
      replace s20 := s20.ne (d := 21) (u := (.int .i64 k)) (by decide)
      have s21 : Sl (A.put (some 21) (.int .i64 k)) 21 (.int .i64 k) := Sl.same (by rw [hsz]; decide)
      replace hsz : (A.put (some 21) (.int .i64 k)).tmps.size = 35 := (put_size _ _ _).trans hsz
      replace hdf : (A.put (some 21) (.int .i64 k)).defers = [] := (put_defers _ _ _).trans hdf
      generalize A.put (some 21) (.int .i64 k) = A at *
      clear ho hop hg hdst
      obtain ⟨o, ho, hop, hg, hdst⟩ : ∃ o, (regOps (y5))[3]? = some o ∧ o.op = .indexAddr 38 (.tmp 20) (.tmp 21) ∧ o.guard = none ∧ o.dst = some 22 := ⟨((regOps (y5))[3]?).getD default, by kernel_rfl, by kernel_rfl, by kernel_rfl, by kernel_rfl⟩
      refine rt_val hJ hz hB ho hg (v := (.pointer (some ⟨b, off + k * 5, none⟩))) (fun W z => ixN hop s20.eval s21.eval hlt (by omega)) (fun e he => by simp at he) ?_
      rw [hdst]
      replace s0 := s0.ne (d := 22) (u := (.pointer (some ⟨b, off + k * 5, none⟩))) (by decide)
      replace s4 := s4.ne (d := 22) (u := (.pointer (some ⟨b, off + k * 5, none⟩))) (by decide)
      replace s5 := s5.ne (d := 22) (u := (.pointer (some ⟨b, off + k * 5, none⟩))) (by decide)
      replace s8 := s8.ne (d := 22) (u := (.pointer (some ⟨b, off + k * 5, none⟩))) (by decide)
      replace s9 := s9.ne (d := 22) (u := (.pointer (some ⟨b, off + k * 5, none⟩))) (by decide)
      replace s10 := s10.ne (d := 22) (u := (.pointer (some ⟨b, off + k * 5, none⟩))) (by decide)
      replace s11 := s11.ne (d := 22) (u := (.pointer (some ⟨b, off + k * 5, none⟩))) (by decide)
      replace s12 := s12.ne (d := 22) (u := (.pointer (some ⟨b, off + k * 5, none⟩))) (by decide)
      replace s13 := s13.ne (d := 22) (u := (.pointer (some ⟨b, off + k * 5, none⟩))) (by decide)
      replace s14 := s14.ne (d := 22) (u := (.pointer (some ⟨b, off + k * 5, none⟩))) (by decide)
      replace s15 := s15.ne (d := 22) (u := (.pointer (some ⟨b, off + k * 5, none⟩))) (by decide)
      replace s19 := s19.ne (d := 22) (u := (.pointer (some ⟨b, off + k * 5, none⟩))) (by decide)
      replace s20 := s20.ne (d := 22) (u := (.pointer (some ⟨b, off + k * 5, none⟩))) (by decide)
      replace s21 := s21.ne (d := 22) (u := (.pointer (some ⟨b, off + k * 5, none⟩))) (by decide)
      have s22 : Sl (A.put (some 22) (.pointer (some ⟨b, off + k * 5, none⟩))) 22 (.pointer (some ⟨b, off + k * 5, none⟩)) := Sl.same (by rw [hsz]; decide)
      replace hsz : (A.put (some 22) (.pointer (some ⟨b, off + k * 5, none⟩))).tmps.size = 35 := (put_size _ _ _).trans hsz
      replace hdf : (A.put (some 22) (.pointer (some ⟨b, off + k * 5, none⟩))).defers = [] := (put_defers _ _ _).trans hdf
      generalize A.put (some 22) (.pointer (some ⟨b, off + k * 5, none⟩)) = A at *
      clear ho hop hg hdst
      obtain ⟨o, ho, hop, hg, hdst⟩ : ∃ o, (regOps (y5))[4]? = some o ∧ o.op = .load 53 (.tmp 22) ∧ o.guard = none ∧ o.dst = some 23 := ⟨((regOps (y5))[4]?).getD default, by kernel_rfl, by kernel_rfl, by kernel_rfl, by kernel_rfl⟩
      refine rt_val hJ hz hB ho hg (v := (eAgg ls[k])) (fun W z => by obtain ⟨b', off', e, _, h0, h1, h2, h3, h4⟩ := (hN.rely z.1).row k hlt; cases e; exact loadN hop s22.eval h0 h1 h2 h3 h4) (fun e he => by simp [reads, List.range_succ] at he; rcases he with rfl | rfl | rfl | rfl | rfl <;> exact .cell _ _ (.inr (.inl ⟨hSb, rfl⟩))) ?_
      rw [hdst]
      replace s0 := s0.ne (d := 23) (u := (eAgg ls[k])) (by decide)
      replace s4 := s4.ne (d := 23) (u := (eAgg ls[k])) (by decide)
      replace s5 := s5.ne (d := 23) (u := (eAgg ls[k])) (by decide)
      replace s8 := s8.ne (d := 23) (u := (eAgg ls[k])) (by decide)
      replace s9 := s9.ne (d := 23) (u := (eAgg ls[k])) (by decide)
      replace s10 := s10.ne (d := 23) (u := (eAgg ls[k])) (by decide)
      replace s11 := s11.ne (d := 23) (u := (eAgg ls[k])) (by decide)
      replace s12 := s12.ne (d := 23) (u := (eAgg ls[k])) (by decide)
      replace s13 := s13.ne (d := 23) (u := (eAgg ls[k])) (by decide)
      replace s14 := s14.ne (d := 23) (u := (eAgg ls[k])) (by decide)
      replace s15 := s15.ne (d := 23) (u := (eAgg ls[k])) (by decide)
      replace s19 := s19.ne (d := 23) (u := (eAgg ls[k])) (by decide)
      replace s20 := s20.ne (d := 23) (u := (eAgg ls[k])) (by decide)
      replace s21 := s21.ne (d := 23) (u := (eAgg ls[k])) (by decide)
      replace s22 := s22.ne (d := 23) (u := (eAgg ls[k])) (by decide)
      have s23 : Sl (A.put (some 23) (eAgg ls[k])) 23 (eAgg ls[k]) := Sl.same (by rw [hsz]; decide)
      replace hsz : (A.put (some 23) (eAgg ls[k])).tmps.size = 35 := (put_size _ _ _).trans hsz
      replace hdf : (A.put (some 23) (eAgg ls[k])).defers = [] := (put_defers _ _ _).trans hdf
      generalize A.put (some 23) (eAgg ls[k]) = A at *
      clear ho hop hg hdst
      obtain ⟨o, ho, hop, hg, hdst⟩ : ∃ o, (regOps (y5))[5]? = some o ∧ o.op = .call { callee := .value (.func 16), args := #[.tmp 23], argTypes := #[53] } ∧ o.guard = none ∧ o.dst = some 24 := ⟨((regOps (y5))[5]?).getD default, by kernel_rfl, by kernel_rfl, by kernel_rfl, by kernel_rfl⟩
      refine rt_entryOf hJ hz hB ho hg hop s23.eval (fun W z => Nat.le_trans hgl1 z.1.size) fun O2 hO2 => ?_
      rw [hdst]
      replace s0 := s0.ne (d := 24) (u := (eAgg (EntPick ls[k]))) (by decide)
      replace s4 := s4.ne (d := 24) (u := (eAgg (EntPick ls[k]))) (by decide)
      replace s5 := s5.ne (d := 24) (u := (eAgg (EntPick ls[k]))) (by decide)
      replace s8 := s8.ne (d := 24) (u := (eAgg (EntPick ls[k]))) (by decide)
      replace s9 := s9.ne (d := 24) (u := (eAgg (EntPick ls[k]))) (by decide)
      replace s10 := s10.ne (d := 24) (u := (eAgg (EntPick ls[k]))) (by decide)
      replace s11 := s11.ne (d := 24) (u := (eAgg (EntPick ls[k]))) (by decide)
      replace s12 := s12.ne (d := 24) (u := (eAgg (EntPick ls[k]))) (by decide)
      replace s13 := s13.ne (d := 24) (u := (eAgg (EntPick ls[k]))) (by decide)
      replace s14 := s14.ne (d := 24) (u := (eAgg (EntPick ls[k]))) (by decide)
      replace s15 := s15.ne (d := 24) (u := (eAgg (EntPick ls[k]))) (by decide)
      replace s19 := s19.ne (d := 24) (u := (eAgg (EntPick ls[k]))) (by decide)
      replace s20 := s20.ne (d := 24) (u := (eAgg (EntPick ls[k]))) (by decide)
      replace s21 := s21.ne (d := 24) (u := (eAgg (EntPick ls[k]))) (by decide)
      replace s22 := s22.ne (d := 24) (u := (eAgg (EntPick ls[k]))) (by decide)
      replace s23 := s23.ne (d := 24) (u := (eAgg (EntPick ls[k]))) (by decide)
      have s24 : Sl (A.put (some 24) (eAgg (EntPick ls[k]))) 24 (eAgg (EntPick ls[k])) := Sl.same (by rw [hsz]; decide)
      replace hsz : (A.put (some 24) (eAgg (EntPick ls[k]))).tmps.size = 35 := (put_size _ _ _).trans hsz
      replace hdf : (A.put (some 24) (eAgg (EntPick ls[k]))).defers = [] := (put_defers _ _ _).trans hdf
      generalize A.put (some 24) (eAgg (EntPick ls[k])) = A at *
      clear ho hop hg hdst
      have hz2 : Stable O2 Sh fun W => Rely Own Sh W1 W ∧ REnt (fun b => O b ∨ Sh b) W v (toE ls k) := hz.more hO2
      obtain ⟨o, ho, hop, hg, hdst⟩ : ∃ o, (regOps (y5))[6]? = some o ∧ o.op = .buildSlice 35 1 #[(0, .tmp 24)] ∧ o.guard = none ∧ o.dst = some 25 := ⟨((regOps (y5))[6]?).getD default, by kernel_rfl, by kernel_rfl, by kernel_rfl, by kernel_rfl⟩
      refine rt_allocv hJ hz2 hB ho hg (ob := .cells (eCells (EntPick ls[k])) 42) (fun b => .slice (some ⟨b, 0, none⟩) 1 1) (fun W z => litE hop s24.eval) fun b3 hb3 => ?_
      rw [hdst]
      replace s0 := s0.ne (d := 25) (u := (.slice (some ⟨b3, 0, none⟩) 1 1)) (by decide)
      replace s4 := s4.ne (d := 25) (u := (.slice (some ⟨b3, 0, none⟩) 1 1)) (by decide)
      replace s5 := s5.ne (d := 25) (u := (.slice (some ⟨b3, 0, none⟩) 1 1)) (by decide)
      replace s8 := s8.ne (d := 25) (u := (.slice (some ⟨b3, 0, none⟩) 1 1)) (by decide)
      replace s9 := s9.ne (d := 25) (u := (.slice (some ⟨b3, 0, none⟩) 1 1)) (by decide)
      replace s10 := s10.ne (d := 25) (u := (.slice (some ⟨b3, 0, none⟩) 1 1)) (by decide)
      replace s11 := s11.ne (d := 25) (u := (.slice (some ⟨b3, 0, none⟩) 1 1)) (by decide)
      replace s12 := s12.ne (d := 25) (u := (.slice (some ⟨b3, 0, none⟩) 1 1)) (by decide)
      replace s13 := s13.ne (d := 25) (u := (.slice (some ⟨b3, 0, none⟩) 1 1)) (by decide)
      replace s14 := s14.ne (d := 25) (u := (.slice (some ⟨b3, 0, none⟩) 1 1)) (by decide)
      replace s15 := s15.ne (d := 25) (u := (.slice (some ⟨b3, 0, none⟩) 1 1)) (by decide)
      replace s19 := s19.ne (d := 25) (u := (.slice (some ⟨b3, 0, none⟩) 1 1)) (by decide)
      replace s20 := s20.ne (d := 25) (u := (.slice (some ⟨b3, 0, none⟩) 1 1)) (by decide)
      replace s21 := s21.ne (d := 25) (u := (.slice (some ⟨b3, 0, none⟩) 1 1)) (by decide)
      replace s22 := s22.ne (d := 25) (u := (.slice (some ⟨b3, 0, none⟩) 1 1)) (by decide)
      replace s23 := s23.ne (d := 25) (u := (.slice (some ⟨b3, 0, none⟩) 1 1)) (by decide)
      replace s24 := s24.ne (d := 25) (u := (.slice (some ⟨b3, 0, none⟩) 1 1)) (by decide)
      have s25 : Sl (A.put (some 25) (.slice (some ⟨b3, 0, none⟩) 1 1)) 25 (.slice (some ⟨b3, 0, none⟩) 1 1) := Sl.same (by rw [hsz]; decide)
      replace hsz : (A.put (some 25) (.slice (some ⟨b3, 0, none⟩) 1 1)).tmps.size = 35 := (put_size _ _ _).trans hsz
      replace hdf : (A.put (some 25) (.slice (some ⟨b3, 0, none⟩) 1 1)).defers = [] := (put_defers _ _ _).trans hdf
      generalize A.put (some 25) (.slice (some ⟨b3, 0, none⟩) 1 1) = A at *
      clear ho hop hg hdst
      clear hb3
      have hz3 : Stable (fun x => O2 x ∨ x = b3) Sh fun W => (Rely Own Sh W1 W ∧ REnt (fun b => O b ∨ Sh b) W v (toE ls k)) ∧ W.heap[b3]? = some (.cells (eCells (EntPick ls[k])) 42) := Stable.and (hz2.more fun x h => .inl h) (Stable.heap (.inl (.inr rfl)))
      obtain ⟨o, ho, hop, hg, hdst⟩ : ∃ o, (regOps (y5))[7]? = some o ∧ o.op = .call { callee := .value (.func 15), args := #[.tmp 19, .tmp 25], argTypes := #[35, 35] } ∧ o.guard = none ∧ o.dst = some 26 := ⟨((regOps (y5))[7]?).getD default, by kernel_rfl, by kernel_rfl, by kernel_rfl, by kernel_rfl⟩
      refine rt_merge hJ hz3 hB ho hg hop s19.eval s25.eval (a := toE ls k) (b := [EntPick ls[k]]) (fun W z => z.1.2.mono fun b hb => hb.imp (fun h => .inl (hO2 _ h)) id) (fun W z => ent_one (.inl (.inr rfl)) z.2) hsix.may hone.may (by have := hsix.len; omega) (by simp) (by have := (hsix.merge hone).len; omega) (fun W z => Nat.le_trans hgl1 z.1.1.size) fun O4 V' hO4 _ => ?_
      rw [hdst]
      replace s0 := s0.ne (d := 26) (u := (.tuple #[V', .int .i64 0])) (by decide)
      replace s4 := s4.ne (d := 26) (u := (.tuple #[V', .int .i64 0])) (by decide)
      replace s5 := s5.ne (d := 26) (u := (.tuple #[V', .int .i64 0])) (by decide)
      replace s8 := s8.ne (d := 26) (u := (.tuple #[V', .int .i64 0])) (by decide)
      replace s9 := s9.ne (d := 26) (u := (.tuple #[V', .int .i64 0])) (by decide)
      replace s10 := s10.ne (d := 26) (u := (.tuple #[V', .int .i64 0])) (by decide)
      replace s11 := s11.ne (d := 26) (u := (.tuple #[V', .int .i64 0])) (by decide)
      replace s12 := s12.ne (d := 26) (u := (.tuple #[V', .int .i64 0])) (by decide)
      replace s13 := s13.ne (d := 26) (u := (.tuple #[V', .int .i64 0])) (by decide)
      replace s14 := s14.ne (d := 26) (u := (.tuple #[V', .int .i64 0])) (by decide)
      replace s15 := s15.ne (d := 26) (u := (.tuple #[V', .int .i64 0])) (by decide)
      replace s19 := s19.ne (d := 26) (u := (.tuple #[V', .int .i64 0])) (by decide)
      replace s20 := s20.ne (d := 26) (u := (.tuple #[V', .int .i64 0])) (by decide)
      replace s21 := s21.ne (d := 26) (u := (.tuple #[V', .int .i64 0])) (by decide)
      replace s22 := s22.ne (d := 26) (u := (.tuple #[V', .int .i64 0])) (by decide)
      replace s23 := s23.ne (d := 26) (u := (.tuple #[V', .int .i64 0])) (by decide)
      replace s24 := s24.ne (d := 26) (u := (.tuple #[V', .int .i64 0])) (by decide)
      replace s25 := s25.ne (d := 26) (u := (.tuple #[V', .int .i64 0])) (by decide)
      have s26 : Sl (A.put (some 26) (.tuple #[V', .int .i64 0])) 26 (.tuple #[V', .int .i64 0]) := Sl.same (by rw [hsz]; decide)
      replace hsz : (A.put (some 26) (.tuple #[V', .int .i64 0])).tmps.size = 35 := (put_size _ _ _).trans hsz
      replace hdf : (A.put (some 26) (.tuple #[V', .int .i64 0])).defers = [] := (put_defers _ _ _).trans hdf
      generalize A.put (some 26) (.tuple #[V', .int .i64 0]) = A at *
      clear ho hop hg hdst
      have hO5 : ∀ x, Own x → O4 x := fun x hx => hO4 _ (.inl (hO2 _ (hO x hx)))
      refine Rt.mono (Z' := fun W => Rely Own Sh W1 W ∧ REnt (fun b => O4 b ∨ Sh b) W V' (toE ls (k + 1))) ?_ fun W z => ⟨z.1.1.1, by unfold toE; rw [entsTo_succ' ls k hlt]; exact z.2⟩
      clear hz hz2 hz3
      have hz : Stable O4 Sh fun W => Rely Own Sh W1 W ∧ REnt (fun b => O4 b ∨ Sh b) W V' (toE ls (k + 1)) := Stable.and (fun W W' hr z => z.own hO5 hr) fun W W' hr z => z.rely hr fun b hb => hb
      obtain ⟨o, ho, hop, hg, hdst⟩ : ∃ o, (regOps (y5))[8]? = some o ∧ o.op = .move (.tmp 26) ∧ o.guard = none ∧ o.dst = some 18 := ⟨((regOps (y5))[8]?).getD default, by kernel_rfl, by kernel_rfl, by kernel_rfl, by kernel_rfl⟩
      refine rt_val hJ hz hB ho hg (v := (.tuple #[V', .int .i64 0])) (fun W z => move1 hop s26.eval) (fun e he => by simp at he) ?_
      rw [hdst]
      replace s0 := s0.ne (d := 18) (u := (.tuple #[V', .int .i64 0])) (by decide)
      replace s4 := s4.ne (d := 18) (u := (.tuple #[V', .int .i64 0])) (by decide)
      replace s5 := s5.ne (d := 18) (u := (.tuple #[V', .int .i64 0])) (by decide)
      replace s8 := s8.ne (d := 18) (u := (.tuple #[V', .int .i64 0])) (by decide)
      replace s9 := s9.ne (d := 18) (u := (.tuple #[V', .int .i64 0])) (by decide)
      replace s10 := s10.ne (d := 18) (u := (.tuple #[V', .int .i64 0])) (by decide)
      replace s11 := s11.ne (d := 18) (u := (.tuple #[V', .int .i64 0])) (by decide)
      replace s12 := s12.ne (d := 18) (u := (.tuple #[V', .int .i64 0])) (by decide)
      replace s13 := s13.ne (d := 18) (u := (.tuple #[V', .int .i64 0])) (by decide)
      replace s14 := s14.ne (d := 18) (u := (.tuple #[V', .int .i64 0])) (by decide)
      replace s15 := s15.ne (d := 18) (u := (.tuple #[V', .int .i64 0])) (by decide)
      replace s19 := s19.ne (d := 18) (u := (.tuple #[V', .int .i64 0])) (by decide)
      replace s20 := s20.ne (d := 18) (u := (.tuple #[V', .int .i64 0])) (by decide)
      replace s21 := s21.ne (d := 18) (u := (.tuple #[V', .int .i64 0])) (by decide)
      replace s22 := s22.ne (d := 18) (u := (.tuple #[V', .int .i64 0])) (by decide)
      replace s23 := s23.ne (d := 18) (u := (.tuple #[V', .int .i64 0])) (by decide)
      replace s24 := s24.ne (d := 18) (u := (.tuple #[V', .int .i64 0])) (by decide)
      replace s25 := s25.ne (d := 18) (u := (.tuple #[V', .int .i64 0])) (by decide)
      replace s26 := s26.ne (d := 18) (u := (.tuple #[V', .int .i64 0])) (by decide)
      have s18 : Sl (A.put (some 18) (.tuple #[V', .int .i64 0])) 18 (.tuple #[V', .int .i64 0]) := Sl.same (by rw [hsz]; decide)
      replace hsz : (A.put (some 18) (.tuple #[V', .int .i64 0])).tmps.size = 35 := (put_size _ _ _).trans hsz
      replace hdf : (A.put (some 18) (.tuple #[V', .int .i64 0])).defers = [] := (put_defers _ _ _).trans hdf
      generalize A.put (some 18) (.tuple #[V', .int .i64 0]) = A at *
      clear ho hop hg hdst
      obtain ⟨o, ho, hop, hg, hdst⟩ : ∃ o, (regOps (y5))[9]? = some o ∧ o.op = .extract (.tmp 18) 0 ∧ o.guard = none ∧ o.dst = some 27 := ⟨((regOps (y5))[9]?).getD default, by kernel_rfl, by kernel_rfl, by kernel_rfl, by kernel_rfl⟩
      refine rt_val hJ hz hB ho hg (v := V') (fun W z => ext1 hop s18.eval rfl) (fun e he => by simp at he) ?_
      rw [hdst]
      replace s0 := s0.ne (d := 27) (u := V') (by decide)
      replace s4 := s4.ne (d := 27) (u := V') (by decide)
      replace s5 := s5.ne (d := 27) (u := V') (by decide)
      replace s8 := s8.ne (d := 27) (u := V') (by decide)
      replace s9 := s9.ne (d := 27) (u := V') (by decide)
      replace s10 := s10.ne (d := 27) (u := V') (by decide)
      replace s11 := s11.ne (d := 27) (u := V') (by decide)
      replace s12 := s12.ne (d := 27) (u := V') (by decide)
      replace s13 := s13.ne (d := 27) (u := V') (by decide)
      replace s14 := s14.ne (d := 27) (u := V') (by decide)
      replace s15 := s15.ne (d := 27) (u := V') (by decide)
      replace s19 := s19.ne (d := 27) (u := V') (by decide)
      replace s20 := s20.ne (d := 27) (u := V') (by decide)
      replace s21 := s21.ne (d := 27) (u := V') (by decide)
      replace s22 := s22.ne (d := 27) (u := V') (by decide)
      replace s23 := s23.ne (d := 27) (u := V') (by decide)
      replace s24 := s24.ne (d := 27) (u := V') (by decide)
      replace s25 := s25.ne (d := 27) (u := V') (by decide)
      replace s26 := s26.ne (d := 27) (u := V') (by decide)
      replace s18 := s18.ne (d := 27) (u := V') (by decide)
      have s27 : Sl (A.put (some 27) V') 27 V' := Sl.same (by rw [hsz]; decide)
      replace hsz : (A.put (some 27) V').tmps.size = 35 := (put_size _ _ _).trans hsz
      replace hdf : (A.put (some 27) V').defers = [] := (put_defers _ _ _).trans hdf
      generalize A.put (some 27) V' = A at *
      clear ho hop hg hdst
      obtain ⟨o, ho, hop, hg, hdst⟩ : ∃ o, (regOps (y5))[10]? = some o ∧ o.op = .extract (.tmp 18) 1 ∧ o.guard = none ∧ o.dst = some 28 := ⟨((regOps (y5))[10]?).getD default, by kernel_rfl, by kernel_rfl, by kernel_rfl, by kernel_rfl⟩
      refine rt_val hJ hz hB ho hg (v := (.int .i64 0)) (fun W z => ext1 hop s18.eval rfl) (fun e he => by simp at he) ?_
      rw [hdst]
      replace s0 := s0.ne (d := 28) (u := (.int .i64 0)) (by decide)
      replace s4 := s4.ne (d := 28) (u := (.int .i64 0)) (by decide)
      replace s5 := s5.ne (d := 28) (u := (.int .i64 0)) (by decide)
      replace s8 := s8.ne (d := 28) (u := (.int .i64 0)) (by decide)
      replace s9 := s9.ne (d := 28) (u := (.int .i64 0)) (by decide)
      replace s10 := s10.ne (d := 28) (u := (.int .i64 0)) (by decide)
      replace s11 := s11.ne (d := 28) (u := (.int .i64 0)) (by decide)
      replace s12 := s12.ne (d := 28) (u := (.int .i64 0)) (by decide)
      replace s13 := s13.ne (d := 28) (u := (.int .i64 0)) (by decide)
      replace s14 := s14.ne (d := 28) (u := (.int .i64 0)) (by decide)
      replace s15 := s15.ne (d := 28) (u := (.int .i64 0)) (by decide)
      replace s19 := s19.ne (d := 28) (u := (.int .i64 0)) (by decide)
      replace s20 := s20.ne (d := 28) (u := (.int .i64 0)) (by decide)
      replace s21 := s21.ne (d := 28) (u := (.int .i64 0)) (by decide)
      replace s22 := s22.ne (d := 28) (u := (.int .i64 0)) (by decide)
      replace s23 := s23.ne (d := 28) (u := (.int .i64 0)) (by decide)
      replace s24 := s24.ne (d := 28) (u := (.int .i64 0)) (by decide)
      replace s25 := s25.ne (d := 28) (u := (.int .i64 0)) (by decide)
      replace s26 := s26.ne (d := 28) (u := (.int .i64 0)) (by decide)
      replace s18 := s18.ne (d := 28) (u := (.int .i64 0)) (by decide)
      replace s27 := s27.ne (d := 28) (u := (.int .i64 0)) (by decide)
      have s28 : Sl (A.put (some 28) (.int .i64 0)) 28 (.int .i64 0) := Sl.same (by rw [hsz]; decide)
      replace hsz : (A.put (some 28) (.int .i64 0)).tmps.size = 35 := (put_size _ _ _).trans hsz
      replace hdf : (A.put (some 28) (.int .i64 0)).defers = [] := (put_defers _ _ _).trans hdf
      generalize A.put (some 28) (.int .i64 0) = A at *
      clear ho hop hg hdst
      obtain ⟨o, ho, hop, hg, hdst⟩ : ∃ o, (regOps (y5))[11]? = some o ∧ o.op = .assign (.tmp 27) ∧ o.guard = none ∧ o.dst = some 6 := ⟨((regOps (y5))[11]?).getD default, by kernel_rfl, by kernel_rfl, by kernel_rfl, by kernel_rfl⟩
      refine rt_val hJ hz hB ho hg (v := V') (fun W z => assign1 hop s27.eval) (fun e he => by simp at he) ?_
      rw [hdst]
      replace s0 := s0.ne (d := 6) (u := V') (by decide)
      replace s4 := s4.ne (d := 6) (u := V') (by decide)
      replace s5 := s5.ne (d := 6) (u := V') (by decide)
      replace s8 := s8.ne (d := 6) (u := V') (by decide)
      replace s9 := s9.ne (d := 6) (u := V') (by decide)
      replace s10 := s10.ne (d := 6) (u := V') (by decide)
      replace s11 := s11.ne (d := 6) (u := V') (by decide)
      replace s12 := s12.ne (d := 6) (u := V') (by decide)
      replace s13 := s13.ne (d := 6) (u := V') (by decide)
      replace s14 := s14.ne (d := 6) (u := V') (by decide)
      replace s15 := s15.ne (d := 6) (u := V') (by decide)
      replace s19 := s19.ne (d := 6) (u := V') (by decide)
      replace s20 := s20.ne (d := 6) (u := V') (by decide)
      replace s21 := s21.ne (d := 6) (u := V') (by decide)
      replace s22 := s22.ne (d := 6) (u := V') (by decide)
      replace s23 := s23.ne (d := 6) (u := V') (by decide)
      replace s24 := s24.ne (d := 6) (u := V') (by decide)
      replace s25 := s25.ne (d := 6) (u := V') (by decide)
      replace s26 := s26.ne (d := 6) (u := V') (by decide)
      replace s18 := s18.ne (d := 6) (u := V') (by decide)
      replace s27 := s27.ne (d := 6) (u := V') (by decide)
      replace s28 := s28.ne (d := 6) (u := V') (by decide)
      have s6 : Sl (A.put (some 6) V') 6 V' := Sl.same (by rw [hsz]; decide)
      replace hsz : (A.put (some 6) V').tmps.size = 35 := (put_size _ _ _).trans hsz
      replace hdf : (A.put (some 6) V').defers = [] := (put_defers _ _ _).trans hdf
      generalize A.put (some 6) V' = A at *
      clear ho hop hg hdst
      obtain ⟨o, ho, hop, hg, hdst⟩ : ∃ o, (regOps (y5))[12]? = some o ∧ o.op = .assign (.tmp 28) ∧ o.guard = none ∧ o.dst = some 7 := ⟨((regOps (y5))[12]?).getD default, by kernel_rfl, by kernel_rfl, by kernel_rfl, by kernel_rfl⟩
      refine rt_val hJ hz hB ho hg (v := (.int .i64 0)) (fun W z => assign1 hop s28.eval) (fun e he => by simp at he) ?_
      rw [hdst]
      replace s0 := s0.ne (d := 7) (u := (.int .i64 0)) (by decide)
      replace s4 := s4.ne (d := 7) (u := (.int .i64 0)) (by decide)
      replace s5 := s5.ne (d := 7) (u := (.int .i64 0)) (by decide)
      replace s8 := s8.ne (d := 7) (u := (.int .i64 0)) (by decide)
      replace s9 := s9.ne (d := 7) (u := (.int .i64 0)) (by decide)
      replace s10 := s10.ne (d := 7) (u := (.int .i64 0)) (by decide)
      replace s11 := s11.ne (d := 7) (u := (.int .i64 0)) (by decide)
      replace s12 := s12.ne (d := 7) (u := (.int .i64 0)) (by decide)
      replace s13 := s13.ne (d := 7) (u := (.int .i64 0)) (by decide)
      replace s14 := s14.ne (d := 7) (u := (.int .i64 0)) (by decide)
      replace s15 := s15.ne (d := 7) (u := (.int .i64 0)) (by decide)
      replace s19 := s19.ne (d := 7) (u := (.int .i64 0)) (by decide)
      replace s20 := s20.ne (d := 7) (u := (.int .i64 0)) (by decide)
      replace s21 := s21.ne (d := 7) (u := (.int .i64 0)) (by decide)
      replace s22 := s22.ne (d := 7) (u := (.int .i64 0)) (by decide)
      replace s23 := s23.ne (d := 7) (u := (.int .i64 0)) (by decide)
      replace s24 := s24.ne (d := 7) (u := (.int .i64 0)) (by decide)
      replace s25 := s25.ne (d := 7) (u := (.int .i64 0)) (by decide)
      replace s26 := s26.ne (d := 7) (u := (.int .i64 0)) (by decide)
      replace s18 := s18.ne (d := 7) (u := (.int .i64 0)) (by decide)
      replace s27 := s27.ne (d := 7) (u := (.int .i64 0)) (by decide)
      replace s28 := s28.ne (d := 7) (u := (.int .i64 0)) (by decide)
      replace s6 := s6.ne (d := 7) (u := (.int .i64 0)) (by decide)
      have s7 : Sl (A.put (some 7) (.int .i64 0)) 7 (.int .i64 0) := Sl.same (by rw [hsz]; decide)
      replace hsz : (A.put (some 7) (.int .i64 0)).tmps.size = 35 := (put_size _ _ _).trans hsz
      replace hdf : (A.put (some 7) (.int .i64 0)).defers = [] := (put_defers _ _ _).trans hdf
      generalize A.put (some 7) (.int .i64 0) = A at *
      clear ho hop hg hdst
      refine rt_region_end hJ hz ?_
      refine rt_seq hJ hz ?_
      refine rt_seq hJ hz ?_
      rw [show y6 = .region 6 (regOps (y6)) false from by kernel_rfl]
      refine rt_region hJ hz ?_
      rw [show List.range (regOps (y6)).size = [0, 1] from by kernel_rfl]
      obtain ⟨o, ho, hop, hg, hdst⟩ : ∃ o, (regOps (y6))[0]? = some o ∧ o.op = .move (.tmp 7) ∧ o.guard = none ∧ o.dst = some 29 := ⟨((regOps (y6))[0]?).getD default, by kernel_rfl, by kernel_rfl, by kernel_rfl, by kernel_rfl⟩
      refine rt_val hJ hz hB ho hg (v := (.int .i64 0)) (fun W z => move1 hop s7.eval) (fun e he => by simp at he) ?_
      rw [hdst]
      replace s0 := s0.ne (d := 29) (u := (.int .i64 0)) (by decide)
      replace s4 := s4.ne (d := 29) (u := (.int .i64 0)) (by decide)
      replace s5 := s5.ne (d := 29) (u := (.int .i64 0)) (by decide)
      replace s8 := s8.ne (d := 29) (u := (.int .i64 0)) (by decide)
      replace s9 := s9.ne (d := 29) (u := (.int .i64 0)) (by decide)
      replace s10 := s10.ne (d := 29) (u := (.int .i64 0)) (by decide)
      replace s11 := s11.ne (d := 29) (u := (.int .i64 0)) (by decide)
      replace s12 := s12.ne (d := 29) (u := (.int .i64 0)) (by decide)
      replace s13 := s13.ne (d := 29) (u := (.int .i64 0)) (by decide)
      replace s14 := s14.ne (d := 29) (u := (.int .i64 0)) (by decide)
      replace s15 := s15.ne (d := 29) (u := (.int .i64 0)) (by decide)
      replace s19 := s19.ne (d := 29) (u := (.int .i64 0)) (by decide)
      replace s20 := s20.ne (d := 29) (u := (.int .i64 0)) (by decide)
      replace s21 := s21.ne (d := 29) (u := (.int .i64 0)) (by decide)
      replace s22 := s22.ne (d := 29) (u := (.int .i64 0)) (by decide)
      replace s23 := s23.ne (d := 29) (u := (.int .i64 0)) (by decide)
      replace s24 := s24.ne (d := 29) (u := (.int .i64 0)) (by decide)
      replace s25 := s25.ne (d := 29) (u := (.int .i64 0)) (by decide)
      replace s26 := s26.ne (d := 29) (u := (.int .i64 0)) (by decide)
      replace s18 := s18.ne (d := 29) (u := (.int .i64 0)) (by decide)
      replace s27 := s27.ne (d := 29) (u := (.int .i64 0)) (by decide)
      replace s28 := s28.ne (d := 29) (u := (.int .i64 0)) (by decide)
      replace s6 := s6.ne (d := 29) (u := (.int .i64 0)) (by decide)
      replace s7 := s7.ne (d := 29) (u := (.int .i64 0)) (by decide)
      have s29 : Sl (A.put (some 29) (.int .i64 0)) 29 (.int .i64 0) := Sl.same (by rw [hsz]; decide)
      replace hsz : (A.put (some 29) (.int .i64 0)).tmps.size = 35 := (put_size _ _ _).trans hsz
      replace hdf : (A.put (some 29) (.int .i64 0)).defers = [] := (put_defers _ _ _).trans hdf
      generalize A.put (some 29) (.int .i64 0) = A at *
      clear ho hop hg hdst
      obtain ⟨o, ho, hop, hg, hdst⟩ : ∃ o, (regOps (y6))[1]? = some o ∧ o.op = .binOp .neq 26 (.tmp 29) (.const (.int .i64 0)) 26 ∧ o.guard = none ∧ o.dst = some 30 := ⟨((regOps (y6))[1]?).getD default, by kernel_rfl, by kernel_rfl, by kernel_rfl, by kernel_rfl⟩
      refine rt_val hJ hz hB ho hg (v := (.bool false)) (fun W z => by have q := neq26 (w := W) hop s29.eval (m := 0) rfl; exact q) (fun e he => by simp at he) ?_
      rw [hdst]
      replace s0 := s0.ne (d := 30) (u := (.bool false)) (by decide)
      replace s4 := s4.ne (d := 30) (u := (.bool false)) (by decide)
      replace s5 := s5.ne (d := 30) (u := (.bool false)) (by decide)
      replace s8 := s8.ne (d := 30) (u := (.bool false)) (by decide)
      replace s9 := s9.ne (d := 30) (u := (.bool false)) (by decide)
      replace s10 := s10.ne (d := 30) (u := (.bool false)) (by decide)
      replace s11 := s11.ne (d := 30) (u := (.bool false)) (by decide)
      replace s12 := s12.ne (d := 30) (u := (.bool false)) (by decide)
      replace s13 := s13.ne (d := 30) (u := (.bool false)) (by decide)
      replace s14 := s14.ne (d := 30) (u := (.bool false)) (by decide)
      replace s15 := s15.ne (d := 30) (u := (.bool false)) (by decide)
      replace s19 := s19.ne (d := 30) (u := (.bool false)) (by decide)
      replace s20 := s20.ne (d := 30) (u := (.bool false)) (by decide)
      replace s21 := s21.ne (d := 30) (u := (.bool false)) (by decide)
      replace s22 := s22.ne (d := 30) (u := (.bool false)) (by decide)
      replace s23 := s23.ne (d := 30) (u := (.bool false)) (by decide)
      replace s24 := s24.ne (d := 30) (u := (.bool false)) (by decide)
      replace s25 := s25.ne (d := 30) (u := (.bool false)) (by decide)
      replace s26 := s26.ne (d := 30) (u := (.bool false)) (by decide)
      replace s18 := s18.ne (d := 30) (u := (.bool false)) (by decide)
      replace s27 := s27.ne (d := 30) (u := (.bool false)) (by decide)
      replace s28 := s28.ne (d := 30) (u := (.bool false)) (by decide)
      replace s6 := s6.ne (d := 30) (u := (.bool false)) (by decide)
      replace s7 := s7.ne (d := 30) (u := (.bool false)) (by decide)
      replace s29 := s29.ne (d := 30) (u := (.bool false)) (by decide)
      have s30 : Sl (A.put (some 30) (.bool false)) 30 (.bool false) := Sl.same (by rw [hsz]; decide)
      replace hsz : (A.put (some 30) (.bool false)).tmps.size = 35 := (put_size _ _ _).trans hsz
      replace hdf : (A.put (some 30) (.bool false)).defers = [] := (put_defers _ _ _).trans hdf
      generalize A.put (some 30) (.bool false) = A at *
      clear ho hop hg hdst
      refine rt_region_end hJ hz ?_
      refine rt_cond hJ hz (b := false) s30.eval ?_
      simp only [Bool.false_eq_true, if_false]
      refine rt_skip hJ hz ?_
      rw [show y8 = .region 8 (regOps (y8)) false from by kernel_rfl]
      refine rt_region hJ hz ?_
      rw [show List.range (regOps (y8)).size = [0, 1] from by kernel_rfl]
      obtain ⟨o, ho, hop, hg, hdst⟩ : ∃ o, (regOps (y8))[0]? = some o ∧ o.op = .move (.tmp 6) ∧ o.guard = none ∧ o.dst = some 31 := ⟨((regOps (y8))[0]?).getD default, by kernel_rfl, by kernel_rfl, by kernel_rfl, by kernel_rfl⟩
      refine rt_val hJ hz hB ho hg (v := V') (fun W z => move1 hop s6.eval) (fun e he => by simp at he) ?_
      rw [hdst]
      replace s0 := s0.ne (d := 31) (u := V') (by decide)
      replace s4 := s4.ne (d := 31) (u := V') (by decide)
      replace s5 := s5.ne (d := 31) (u := V') (by decide)
      replace s8 := s8.ne (d := 31) (u := V') (by decide)
      replace s9 := s9.ne (d := 31) (u := V') (by decide)
      replace s10 := s10.ne (d := 31) (u := V') (by decide)
      replace s11 := s11.ne (d := 31) (u := V') (by decide)
      replace s12 := s12.ne (d := 31) (u := V') (by decide)
      replace s13 := s13.ne (d := 31) (u := V') (by decide)
      replace s14 := s14.ne (d := 31) (u := V') (by decide)
      replace s15 := s15.ne (d := 31) (u := V') (by decide)
      replace s19 := s19.ne (d := 31) (u := V') (by decide)
      replace s20 := s20.ne (d := 31) (u := V') (by decide)
      replace s21 := s21.ne (d := 31) (u := V') (by decide)
      replace s22 := s22.ne (d := 31) (u := V') (by decide)
      replace s23 := s23.ne (d := 31) (u := V') (by decide)
      replace s24 := s24.ne (d := 31) (u := V') (by decide)
      replace s25 := s25.ne (d := 31) (u := V') (by decide)
      replace s26 := s26.ne (d := 31) (u := V') (by decide)
      replace s18 := s18.ne (d := 31) (u := V') (by decide)
      replace s27 := s27.ne (d := 31) (u := V') (by decide)
      replace s28 := s28.ne (d := 31) (u := V') (by decide)
      replace s6 := s6.ne (d := 31) (u := V') (by decide)
      replace s7 := s7.ne (d := 31) (u := V') (by decide)
      replace s29 := s29.ne (d := 31) (u := V') (by decide)
      replace s30 := s30.ne (d := 31) (u := V') (by decide)
      have s31 : Sl (A.put (some 31) V') 31 V' := Sl.same (by rw [hsz]; decide)
      replace hsz : (A.put (some 31) V').tmps.size = 35 := (put_size _ _ _).trans hsz
      replace hdf : (A.put (some 31) V').defers = [] := (put_defers _ _ _).trans hdf
      generalize A.put (some 31) V' = A at *
      clear ho hop hg hdst
      obtain ⟨o, ho, hop, hg, hdst⟩ : ∃ o, (regOps (y8))[1]? = some o ∧ o.op = .assign (.tmp 31) ∧ o.guard = none ∧ o.dst = some 4 := ⟨((regOps (y8))[1]?).getD default, by kernel_rfl, by kernel_rfl, by kernel_rfl, by kernel_rfl⟩
      refine rt_val hJ hz hB ho hg (v := V') (fun W z => assign1 hop s31.eval) (fun e he => by simp at he) ?_
      rw [hdst]
      clear s4
      replace s0 := s0.ne (d := 4) (u := V') (by decide)
      replace s5 := s5.ne (d := 4) (u := V') (by decide)
      replace s8 := s8.ne (d := 4) (u := V') (by decide)
      replace s9 := s9.ne (d := 4) (u := V') (by decide)
      replace s10 := s10.ne (d := 4) (u := V') (by decide)
      replace s11 := s11.ne (d := 4) (u := V') (by decide)
      replace s12 := s12.ne (d := 4) (u := V') (by decide)
      replace s13 := s13.ne (d := 4) (u := V') (by decide)
      replace s14 := s14.ne (d := 4) (u := V') (by decide)
      replace s15 := s15.ne (d := 4) (u := V') (by decide)
      replace s19 := s19.ne (d := 4) (u := V') (by decide)
      replace s20 := s20.ne (d := 4) (u := V') (by decide)
      replace s21 := s21.ne (d := 4) (u := V') (by decide)
      replace s22 := s22.ne (d := 4) (u := V') (by decide)
      replace s23 := s23.ne (d := 4) (u := V') (by decide)
      replace s24 := s24.ne (d := 4) (u := V') (by decide)
      replace s25 := s25.ne (d := 4) (u := V') (by decide)
      replace s26 := s26.ne (d := 4) (u := V') (by decide)
      replace s18 := s18.ne (d := 4) (u := V') (by decide)
      replace s27 := s27.ne (d := 4) (u := V') (by decide)
      replace s28 := s28.ne (d := 4) (u := V') (by decide)
      replace s6 := s6.ne (d := 4) (u := V') (by decide)
      replace s7 := s7.ne (d := 4) (u := V') (by decide)
      replace s29 := s29.ne (d := 4) (u := V') (by decide)
      replace s30 := s30.ne (d := 4) (u := V') (by decide)
      replace s31 := s31.ne (d := 4) (u := V') (by decide)
      have s4 : Sl (A.put (some 4) V') 4 V' := Sl.same (by rw [hsz]; decide)
      replace hsz : (A.put (some 4) V').tmps.size = 35 := (put_size _ _ _).trans hsz
      replace hdf : (A.put (some 4) V').defers = [] := (put_defers _ _ _).trans hdf
      generalize A.put (some 4) V' = A at *
      clear ho hop hg hdst
      refine rt_region_end hJ hz ?_
      refine rt_inBlock hJ hz ?_
      rw [show y4 = .region 4 (regOps (y4)) false from by kernel_rfl]
      refine rt_region hJ hz ?_
      rw [show List.range (regOps (y4)).size = [0, 1, 2] from by kernel_rfl]
      obtain ⟨o, ho, hop, hg, hdst⟩ : ∃ o, (regOps (y4))[0]? = some o ∧ o.op = .move (.tmp 5) ∧ o.guard = none ∧ o.dst = some 16 := ⟨((regOps (y4))[0]?).getD default, by kernel_rfl, by kernel_rfl, by kernel_rfl, by kernel_rfl⟩
      refine rt_val hJ hz hB ho hg (v := (.int .i64 k)) (fun W z => move1 hop s5.eval) (fun e he => by simp at he) ?_
      rw [hdst]
      replace s0 := s0.ne (d := 16) (u := (.int .i64 k)) (by decide)
      replace s5 := s5.ne (d := 16) (u := (.int .i64 k)) (by decide)
      replace s8 := s8.ne (d := 16) (u := (.int .i64 k)) (by decide)
      replace s9 := s9.ne (d := 16) (u := (.int .i64 k)) (by decide)
      replace s10 := s10.ne (d := 16) (u := (.int .i64 k)) (by decide)
      replace s11 := s11.ne (d := 16) (u := (.int .i64 k)) (by decide)
      replace s12 := s12.ne (d := 16) (u := (.int .i64 k)) (by decide)
      replace s13 := s13.ne (d := 16) (u := (.int .i64 k)) (by decide)
      replace s14 := s14.ne (d := 16) (u := (.int .i64 k)) (by decide)
      replace s15 := s15.ne (d := 16) (u := (.int .i64 k)) (by decide)
      replace s19 := s19.ne (d := 16) (u := (.int .i64 k)) (by decide)
      replace s20 := s20.ne (d := 16) (u := (.int .i64 k)) (by decide)
      replace s21 := s21.ne (d := 16) (u := (.int .i64 k)) (by decide)
      replace s22 := s22.ne (d := 16) (u := (.int .i64 k)) (by decide)
      replace s23 := s23.ne (d := 16) (u := (.int .i64 k)) (by decide)
      replace s24 := s24.ne (d := 16) (u := (.int .i64 k)) (by decide)
      replace s25 := s25.ne (d := 16) (u := (.int .i64 k)) (by decide)
      replace s26 := s26.ne (d := 16) (u := (.int .i64 k)) (by decide)
      replace s18 := s18.ne (d := 16) (u := (.int .i64 k)) (by decide)
      replace s27 := s27.ne (d := 16) (u := (.int .i64 k)) (by decide)
      replace s28 := s28.ne (d := 16) (u := (.int .i64 k)) (by decide)
      replace s6 := s6.ne (d := 16) (u := (.int .i64 k)) (by decide)
      replace s7 := s7.ne (d := 16) (u := (.int .i64 k)) (by decide)
      replace s29 := s29.ne (d := 16) (u := (.int .i64 k)) (by decide)
      replace s30 := s30.ne (d := 16) (u := (.int .i64 k)) (by decide)
      replace s31 := s31.ne (d := 16) (u := (.int .i64 k)) (by decide)
      replace s4 := s4.ne (d := 16) (u := (.int .i64 k)) (by decide)
      have s16 : Sl (A.put (some 16) (.int .i64 k)) 16 (.int .i64 k) := Sl.same (by rw [hsz]; decide)
      replace hsz : (A.put (some 16) (.int .i64 k)).tmps.size = 35 := (put_size _ _ _).trans hsz
      replace hdf : (A.put (some 16) (.int .i64 k)).defers = [] := (put_defers _ _ _).trans hdf
      generalize A.put (some 16) (.int .i64 k) = A at *
      clear ho hop hg hdst
      obtain ⟨o, ho, hop, hg, hdst⟩ : ∃ o, (regOps (y4))[1]? = some o ∧ o.op = .binOp .add 3 (.tmp 16) (.const (.int .i64 1)) 3 ∧ o.guard = none ∧ o.dst = some 17 := ⟨((regOps (y4))[1]?).getD default, by kernel_rfl, by kernel_rfl, by kernel_rfl, by kernel_rfl⟩
      refine rt_val hJ hz hB ho hg (v := (.int .i64 ((k + 1 : Nat) : Int))) (fun W z => by have q := addI (w := W) hop s16.eval rfl (by omega); exact q) (fun e he => by simp at he) ?_
      rw [hdst]
      replace s0 := s0.ne (d := 17) (u := (.int .i64 ((k + 1 : Nat) : Int))) (by decide)
      replace s5 := s5.ne (d := 17) (u := (.int .i64 ((k + 1 : Nat) : Int))) (by decide)
      replace s8 := s8.ne (d := 17) (u := (.int .i64 ((k + 1 : Nat) : Int))) (by decide)
      replace s9 := s9.ne (d := 17) (u := (.int .i64 ((k + 1 : Nat) : Int))) (by decide)
      replace s10 := s10.ne (d := 17) (u := (.int .i64 ((k + 1 : Nat) : Int))) (by decide)
      replace s11 := s11.ne (d := 17) (u := (.int .i64 ((k + 1 : Nat) : Int))) (by decide)
      replace s12 := s12.ne (d := 17) (u := (.int .i64 ((k + 1 : Nat) : Int))) (by decide)
      replace s13 := s13.ne (d := 17) (u := (.int .i64 ((k + 1 : Nat) : Int))) (by decide)
      replace s14 := s14.ne (d := 17) (u := (.int .i64 ((k + 1 : Nat) : Int))) (by decide)
      replace s15 := s15.ne (d := 17) (u := (.int .i64 ((k + 1 : Nat) : Int))) (by decide)
      replace s19 := s19.ne (d := 17) (u := (.int .i64 ((k + 1 : Nat) : Int))) (by decide)
      replace s20 := s20.ne (d := 17) (u := (.int .i64 ((k + 1 : Nat) : Int))) (by decide)
      replace s21 := s21.ne (d := 17) (u := (.int .i64 ((k + 1 : Nat) : Int))) (by decide)
      replace s22 := s22.ne (d := 17) (u := (.int .i64 ((k + 1 : Nat) : Int))) (by decide)
      replace s23 := s23.ne (d := 17) (u := (.int .i64 ((k + 1 : Nat) : Int))) (by decide)
      replace s24 := s24.ne (d := 17) (u := (.int .i64 ((k + 1 : Nat) : Int))) (by decide)
      replace s25 := s25.ne (d := 17) (u := (.int .i64 ((k + 1 : Nat) : Int))) (by decide)
      replace s26 := s26.ne (d := 17) (u := (.int .i64 ((k + 1 : Nat) : Int))) (by decide)
      replace s18 := s18.ne (d := 17) (u := (.int .i64 ((k + 1 : Nat) : Int))) (by decide)
      replace s27 := s27.ne (d := 17) (u := (.int .i64 ((k + 1 : Nat) : Int))) (by decide)
      replace s28 := s28.ne (d := 17) (u := (.int .i64 ((k + 1 : Nat) : Int))) (by decide)
      replace s6 := s6.ne (d := 17) (u := (.int .i64 ((k + 1 : Nat) : Int))) (by decide)
      replace s7 := s7.ne (d := 17) (u := (.int .i64 ((k + 1 : Nat) : Int))) (by decide)
      replace s29 := s29.ne (d := 17) (u := (.int .i64 ((k + 1 : Nat) : Int))) (by decide)
      replace s30 := s30.ne (d := 17) (u := (.int .i64 ((k + 1 : Nat) : Int))) (by decide)
      replace s31 := s31.ne (d := 17) (u := (.int .i64 ((k + 1 : Nat) : Int))) (by decide)
      replace s4 := s4.ne (d := 17) (u := (.int .i64 ((k + 1 : Nat) : Int))) (by decide)
      replace s16 := s16.ne (d := 17) (u := (.int .i64 ((k + 1 : Nat) : Int))) (by decide)
      have s17 : Sl (A.put (some 17) (.int .i64 ((k + 1 : Nat) : Int))) 17 (.int .i64 ((k + 1 : Nat) : Int)) := Sl.same (by rw [hsz]; decide)
      replace hsz : (A.put (some 17) (.int .i64 ((k + 1 : Nat) : Int))).tmps.size = 35 := (put_size _ _ _).trans hsz
      replace hdf : (A.put (some 17) (.int .i64 ((k + 1 : Nat) : Int))).defers = [] := (put_defers _ _ _).trans hdf
      generalize A.put (some 17) (.int .i64 ((k + 1 : Nat) : Int)) = A at *
      clear ho hop hg hdst
      obtain ⟨o, ho, hop, hg, hdst⟩ : ∃ o, (regOps (y4))[2]? = some o ∧ o.op = .assign (.tmp 17) ∧ o.guard = none ∧ o.dst = some 5 := ⟨((regOps (y4))[2]?).getD default, by kernel_rfl, by kernel_rfl, by kernel_rfl, by kernel_rfl⟩
      refine rt_val hJ hz hB ho hg (v := (.int .i64 ((k + 1 : Nat) : Int))) (fun W z => assign1 hop s17.eval) (fun e he => by simp at he) ?_
      rw [hdst]
      clear s5
      replace s0 := s0.ne (d := 5) (u := (.int .i64 ((k + 1 : Nat) : Int))) (by decide)
      replace s8 := s8.ne (d := 5) (u := (.int .i64 ((k + 1 : Nat) : Int))) (by decide)
      replace s9 := s9.ne (d := 5) (u := (.int .i64 ((k + 1 : Nat) : Int))) (by decide)
      replace s10 := s10.ne (d := 5) (u := (.int .i64 ((k + 1 : Nat) : Int))) (by decide)
      replace s11 := s11.ne (d := 5) (u := (.int .i64 ((k + 1 : Nat) : Int))) (by decide)
      replace s12 := s12.ne (d := 5) (u := (.int .i64 ((k + 1 : Nat) : Int))) (by decide)
      replace s13 := s13.ne (d := 5) (u := (.int .i64 ((k + 1 : Nat) : Int))) (by decide)
      replace s14 := s14.ne (d := 5) (u := (.int .i64 ((k + 1 : Nat) : Int))) (by decide)
      replace s15 := s15.ne (d := 5) (u := (.int .i64 ((k + 1 : Nat) : Int))) (by decide)
      replace s19 := s19.ne (d := 5) (u := (.int .i64 ((k + 1 : Nat) : Int))) (by decide)
      replace s20 := s20.ne (d := 5) (u := (.int .i64 ((k + 1 : Nat) : Int))) (by decide)
      replace s21 := s21.ne (d := 5) (u := (.int .i64 ((k + 1 : Nat) : Int))) (by decide)
      replace s22 := s22.ne (d := 5) (u := (.int .i64 ((k + 1 : Nat) : Int))) (by decide)
      replace s23 := s23.ne (d := 5) (u := (.int .i64 ((k + 1 : Nat) : Int))) (by decide)
      replace s24 := s24.ne (d := 5) (u := (.int .i64 ((k + 1 : Nat) : Int))) (by decide)
      replace s25 := s25.ne (d := 5) (u := (.int .i64 ((k + 1 : Nat) : Int))) (by decide)
      replace s26 := s26.ne (d := 5) (u := (.int .i64 ((k + 1 : Nat) : Int))) (by decide)
      replace s18 := s18.ne (d := 5) (u := (.int .i64 ((k + 1 : Nat) : Int))) (by decide)
      replace s27 := s27.ne (d := 5) (u := (.int .i64 ((k + 1 : Nat) : Int))) (by decide)
      replace s28 := s28.ne (d := 5) (u := (.int .i64 ((k + 1 : Nat) : Int))) (by decide)
      replace s6 := s6.ne (d := 5) (u := (.int .i64 ((k + 1 : Nat) : Int))) (by decide)
      replace s7 := s7.ne (d := 5) (u := (.int .i64 ((k + 1 : Nat) : Int))) (by decide)
      replace s29 := s29.ne (d := 5) (u := (.int .i64 ((k + 1 : Nat) : Int))) (by decide)
      replace s30 := s30.ne (d := 5) (u := (.int .i64 ((k + 1 : Nat) : Int))) (by decide)
      replace s31 := s31.ne (d := 5) (u := (.int .i64 ((k + 1 : Nat) : Int))) (by decide)
      replace s4 := s4.ne (d := 5) (u := (.int .i64 ((k + 1 : Nat) : Int))) (by decide)
      replace s16 := s16.ne (d := 5) (u := (.int .i64 ((k + 1 : Nat) : Int))) (by decide)
      replace s17 := s17.ne (d := 5) (u := (.int .i64 ((k + 1 : Nat) : Int))) (by decide)
      have s5 : Sl (A.put (some 5) (.int .i64 ((k + 1 : Nat) : Int))) 5 (.int .i64 ((k + 1 : Nat) : Int)) := Sl.same (by rw [hsz]; decide)
      replace hsz : (A.put (some 5) (.int .i64 ((k + 1 : Nat) : Int))).tmps.size = 35 := (put_size _ _ _).trans hsz
      replace hdf : (A.put (some 5) (.int .i64 ((k + 1 : Nat) : Int))).defers = [] := (put_defers _ _ _).trans hdf
      generalize A.put (some 5) (.int .i64 ((k + 1 : Nat) : Int)) = A at *
      clear ho hop hg hdst
      refine rt_region_end hJ hz ?_
      refine rt_inLoop hJ hz ?_
      exact ih (k + 1) O4 A V' (by omega) (by omega) (by omega) hO5 hsz hdf s0 s4 s5
    ·
      have hfin : toE ls k = entsOf ls := by unfold toE entsOf; rw [List.take_of_length_le (by omega), List.take_of_length_le (by omega)]
      rw [show (Item.code lpE : Item) = _ from congrArg Item.code lpE_eq]
      refine rt_seq hJ hz ?_
      refine rt_seq hJ hz ?_
      rw [show y3 = .region 3 (regOps (y3)) false from by kernel_rfl]
      refine rt_region hJ hz ?_
      rw [show List.range (regOps (y3)).size = [0, 1, 2, 3, 4, 5, 6, 7] from by kernel_rfl]
      obtain ⟨o, ho, hop, hg, hdst⟩ : ∃ o, (regOps (y3))[0]? = some o ∧ o.op = .move (.tmp 5) ∧ o.guard = none ∧ o.dst = some 8 := ⟨((regOps (y3))[0]?).getD default, by kernel_rfl, by kernel_rfl, by kernel_rfl, by kernel_rfl⟩
      refine rt_val hJ hz hB ho hg (v := (.int .i64 (k : Nat))) (fun W z => move1 hop s5.eval) (fun e he => by simp at he) ?_
      rw [hdst]
      replace s0 := s0.ne (d := 8) (u := (.int .i64 (k : Nat))) (by decide)
      replace s4 := s4.ne (d := 8) (u := (.int .i64 (k : Nat))) (by decide)
      replace s5 := s5.ne (d := 8) (u := (.int .i64 (k : Nat))) (by decide)
      have s8 : Sl (A.put (some 8) (.int .i64 (k : Nat))) 8 (.int .i64 (k : Nat)) := Sl.same (by rw [hsz]; decide)
      replace hsz : (A.put (some 8) (.int .i64 (k : Nat))).tmps.size = 35 := (put_size _ _ _).trans hsz
      replace hdf : (A.put (some 8) (.int .i64 (k : Nat))).defers = [] := (put_defers _ _ _).trans hdf
      generalize A.put (some 8) (.int .i64 (k : Nat)) = A at *
      clear ho hop hg hdst
      obtain ⟨o, ho, hop, hg, hdst⟩ : ∃ o, (regOps (y3))[1]? = some o ∧ o.op = .move (.tmp 0) ∧ o.guard = none ∧ o.dst = some 9 := ⟨((regOps (y3))[1]?).getD default, by kernel_rfl, by kernel_rfl, by kernel_rfl, by kernel_rfl⟩
      refine rt_val hJ hz hB ho hg (v := (.slice va ls.length cap)) (fun W z => move1 hop s0.eval) (fun e he => by simp at he) ?_
      rw [hdst]
      replace s0 := s0.ne (d := 9) (u := (.slice va ls.length cap)) (by decide)
      replace s4 := s4.ne (d := 9) (u := (.slice va ls.length cap)) (by decide)
      replace s5 := s5.ne (d := 9) (u := (.slice va ls.length cap)) (by decide)
      replace s8 := s8.ne (d := 9) (u := (.slice va ls.length cap)) (by decide)
      have s9 : Sl (A.put (some 9) (.slice va ls.length cap)) 9 (.slice va ls.length cap) := Sl.same (by rw [hsz]; decide)
      replace hsz : (A.put (some 9) (.slice va ls.length cap)).tmps.size = 35 := (put_size _ _ _).trans hsz
      replace hdf : (A.put (some 9) (.slice va ls.length cap)).defers = [] := (put_defers _ _ _).trans hdf
      generalize A.put (some 9) (.slice va ls.length cap) = A at *
      clear ho hop hg hdst
      obtain ⟨o, ho, hop, hg, hdst⟩ : ∃ o, (regOps (y3))[2]? = some o ∧ o.op = .call { callee := .builtin .len, args := #[.tmp 9], argTypes := #[38] } ∧ o.guard = none ∧ o.dst = some 10 := ⟨((regOps (y3))[2]?).getD default, by kernel_rfl, by kernel_rfl, by kernel_rfl, by kernel_rfl⟩
      refine rt_val hJ hz hB ho hg (v := (.int .i64 ls.length)) (fun W z => lenT (.inr (.inl rfl)) hop s9.eval) (fun e he => by simp at he) ?_
      rw [hdst]
      replace s0 := s0.ne (d := 10) (u := (.int .i64 ls.length)) (by decide)
      replace s4 := s4.ne (d := 10) (u := (.int .i64 ls.length)) (by decide)
      replace s5 := s5.ne (d := 10) (u := (.int .i64 ls.length)) (by decide)
      replace s8 := s8.ne (d := 10) (u := (.int .i64 ls.length)) (by decide)
      replace s9 := s9.ne (d := 10) (u := (.int .i64 ls.length)) (by decide)
      have s10 : Sl (A.put (some 10) (.int .i64 ls.length)) 10 (.int .i64 ls.length) := Sl.same (by rw [hsz]; decide)
      replace hsz : (A.put (some 10) (.int .i64 ls.length)).tmps.size = 35 := (put_size _ _ _).trans hsz
      replace hdf : (A.put (some 10) (.int .i64 ls.length)).defers = [] := (put_defers _ _ _).trans hdf
      generalize A.put (some 10) (.int .i64 ls.length) = A at *
      clear ho hop hg hdst
      obtain ⟨o, ho, hop, hg, hdst⟩ : ∃ o, (regOps (y3))[3]? = some o ∧ o.op = .binOp .lss 3 (.tmp 8) (.tmp 10) 3 ∧ o.guard = none ∧ o.dst = some 11 := ⟨((regOps (y3))[3]?).getD default, by kernel_rfl, by kernel_rfl, by kernel_rfl, by kernel_rfl⟩
      refine rt_val hJ hz hB ho hg (v := (.bool false)) (fun W z => by have q := ltI (w := W) hop s8.eval s10.eval; rw [show decide (((k : Nat) : Int) < (ls.length : Int)) = false from by simp; try omega] at q; exact q) (fun e he => by simp at he) ?_
      rw [hdst]
      replace s0 := s0.ne (d := 11) (u := (.bool false)) (by decide)
      replace s4 := s4.ne (d := 11) (u := (.bool false)) (by decide)
      replace s5 := s5.ne (d := 11) (u := (.bool false)) (by decide)
      replace s8 := s8.ne (d := 11) (u := (.bool false)) (by decide)
      replace s9 := s9.ne (d := 11) (u := (.bool false)) (by decide)
      replace s10 := s10.ne (d := 11) (u := (.bool false)) (by decide)
      have s11 : Sl (A.put (some 11) (.bool false)) 11 (.bool false) := Sl.same (by rw [hsz]; decide)
      replace hsz : (A.put (some 11) (.bool false)).tmps.size = 35 := (put_size _ _ _).trans hsz
      replace hdf : (A.put (some 11) (.bool false)).defers = [] := (put_defers _ _ _).trans hdf
      generalize A.put (some 11) (.bool false) = A at *
      clear ho hop hg hdst
      obtain ⟨o, ho, hop, hg, hdst⟩ : ∃ o, (regOps (y3))[4]? = some o ∧ o.op = .move (.tmp 11) ∧ o.guard = none ∧ o.dst = some 12 := ⟨((regOps (y3))[4]?).getD default, by kernel_rfl, by kernel_rfl, by kernel_rfl, by kernel_rfl⟩
      refine rt_val hJ hz hB ho hg (v := (.bool false)) (fun W z => move1 hop s11.eval) (fun e he => by simp at he) ?_
      rw [hdst]
      replace s0 := s0.ne (d := 12) (u := (.bool false)) (by decide)
      replace s4 := s4.ne (d := 12) (u := (.bool false)) (by decide)
      replace s5 := s5.ne (d := 12) (u := (.bool false)) (by decide)
      replace s8 := s8.ne (d := 12) (u := (.bool false)) (by decide)
      replace s9 := s9.ne (d := 12) (u := (.bool false)) (by decide)
      replace s10 := s10.ne (d := 12) (u := (.bool false)) (by decide)
      replace s11 := s11.ne (d := 12) (u := (.bool false)) (by decide)
      have s12 : Sl (A.put (some 12) (.bool false)) 12 (.bool false) := Sl.same (by rw [hsz]; decide)
      replace hsz : (A.put (some 12) (.bool false)).tmps.size = 35 := (put_size _ _ _).trans hsz
      replace hdf : (A.put (some 12) (.bool false)).defers = [] := (put_defers _ _ _).trans hdf
      generalize A.put (some 12) (.bool false) = A at *
      clear ho hop hg hdst
      obtain ⟨o, ho, hop, hg, hdst⟩ : ∃ o, (regOps (y3))[5]? = some o ∧ o.op = .move (.tmp 5) ∧ o.guard = some (4, true) ∧ o.dst = some 13 := ⟨((regOps (y3))[5]?).getD default, by kernel_rfl, by kernel_rfl, by kernel_rfl, by kernel_rfl⟩
      refine rt_unw hJ hz ho (wanted_of (b := false) hg (by kernel_rfl : ((regOps (y3))[4]?).bind (·.dst) = some 12) s12) ?_
      rw [hdst]
      replace s0 := s0.ne (d := 13) (u := undef) (by decide)
      replace s4 := s4.ne (d := 13) (u := undef) (by decide)
      replace s5 := s5.ne (d := 13) (u := undef) (by decide)
      replace s8 := s8.ne (d := 13) (u := undef) (by decide)
      replace s9 := s9.ne (d := 13) (u := undef) (by decide)
      replace s10 := s10.ne (d := 13) (u := undef) (by decide)
      replace s11 := s11.ne (d := 13) (u := undef) (by decide)
      replace s12 := s12.ne (d := 13) (u := undef) (by decide)
      have s13 : Sl (A.put (some 13) undef) 13 undef := Sl.same (by rw [hsz]; decide)
      replace hsz : (A.put (some 13) undef).tmps.size = 35 := (put_size _ _ _).trans hsz
      replace hdf : (A.put (some 13) undef).defers = [] := (put_defers _ _ _).trans hdf
      generalize A.put (some 13) undef = A at *
      clear ho hop hg hdst
      obtain ⟨o, ho, hop, hg, hdst⟩ : ∃ o, (regOps (y3))[6]? = some o ∧ o.op = .binOp .lss 3 (.tmp 13) (.const (.int .i64 30)) 3 ∧ o.guard = some (4, true) ∧ o.dst = some 14 := ⟨((regOps (y3))[6]?).getD default, by kernel_rfl, by kernel_rfl, by kernel_rfl, by kernel_rfl⟩
      refine rt_unw hJ hz ho (wanted_of (b := false) hg (by kernel_rfl : ((regOps (y3))[4]?).bind (·.dst) = some 12) s12) ?_
      rw [hdst]
      replace s0 := s0.ne (d := 14) (u := undef) (by decide)
      replace s4 := s4.ne (d := 14) (u := undef) (by decide)
      replace s5 := s5.ne (d := 14) (u := undef) (by decide)
      replace s8 := s8.ne (d := 14) (u := undef) (by decide)
      replace s9 := s9.ne (d := 14) (u := undef) (by decide)
      replace s10 := s10.ne (d := 14) (u := undef) (by decide)
      replace s11 := s11.ne (d := 14) (u := undef) (by decide)
      replace s12 := s12.ne (d := 14) (u := undef) (by decide)
      replace s13 := s13.ne (d := 14) (u := undef) (by decide)
      have s14 : Sl (A.put (some 14) undef) 14 undef := Sl.same (by rw [hsz]; decide)
      replace hsz : (A.put (some 14) undef).tmps.size = 35 := (put_size _ _ _).trans hsz
      replace hdf : (A.put (some 14) undef).defers = [] := (put_defers _ _ _).trans hdf
      generalize A.put (some 14) undef = A at *
      clear ho hop hg hdst
      obtain ⟨o, ho, hop, hg, hdst⟩ : ∃ o, (regOps (y3))[7]? = some o ∧ o.op = .pick (.tmp 12) (.tmp 14) (.const (.bool false)) ∧ o.guard = none ∧ o.dst = some 15 := ⟨((regOps (y3))[7]?).getD default, by kernel_rfl, by kernel_rfl, by kernel_rfl, by kernel_rfl⟩
      refine rt_val hJ hz hB ho hg (v := (.bool false)) (fun W z => by have q := pickB (w := W) hop s12.eval; simp only [if_true, Bool.false_eq_true, if_false] at q; exact q) (fun e he => by simp at he) ?_
      rw [hdst]
      replace s0 := s0.ne (d := 15) (u := (.bool false)) (by decide)
      replace s4 := s4.ne (d := 15) (u := (.bool false)) (by decide)
      replace s5 := s5.ne (d := 15) (u := (.bool false)) (by decide)
      replace s8 := s8.ne (d := 15) (u := (.bool false)) (by decide)
      replace s9 := s9.ne (d := 15) (u := (.bool false)) (by decide)
      replace s10 := s10.ne (d := 15) (u := (.bool false)) (by decide)
      replace s11 := s11.ne (d := 15) (u := (.bool false)) (by decide)
      replace s12 := s12.ne (d := 15) (u := (.bool false)) (by decide)
      replace s13 := s13.ne (d := 15) (u := (.bool false)) (by decide)
      replace s14 := s14.ne (d := 15) (u := (.bool false)) (by decide)
      have s15 : Sl (A.put (some 15) (.bool false)) 15 (.bool false) := Sl.same (by rw [hsz]; decide)
      replace hsz : (A.put (some 15) (.bool false)).tmps.size = 35 := (put_size _ _ _).trans hsz
      replace hdf : (A.put (some 15) (.bool false)).defers = [] := (put_defers _ _ _).trans hdf
      generalize A.put (some 15) (.bool false) = A at *
      clear ho hop hg hdst
      refine rt_region_end hJ hz ?_
      refine rt_cond hJ hz (b := false) s15.eval ?_
      simp only [Bool.false_eq_true, if_false]
      refine rt_exit hJ hz (k' := kx) (by simp [exitTo]) ?_
      exact hx O A v _ hO hsz hdf hfin s4
set_option maxRecDepth 100000 in
set_option maxHeartbeats 16000000 in
/-- EntriesOf. -/
theorem rt_entriesOf (hJ : Jud Try.prog true Sh Ju) (hz : Stable Own Sh Z) (hB : B.kind ≠ .early) {ops : Array Oper} {i : Nat} {l : List Nat} {o : Oper} (ho : ops[i]? = some o) (hg : o.guard = none) {x : Operand} {ats : Array TypeId}
    (hop : o.op = .call { callee := .value (.func 10), args := #[x], argTypes := ats }) {va : Option Addr} {cap : Nat} {ls : List Ent} (hx : A.eval x = .slice va ls.length cap) (hN : ∀ W, Z W → NoteRow Sh va ls W) (hgl : ∀ W, Z W → Try.prog.globals.size ≤ W.heap.size)
    (hn : ∀ O V', (∀ x, Own x → O x) → Rt Ju RB B (.inRegion ops l :: k) O (A.put o.dst (.tuple #[V', .bool true])) (fun W => Z W ∧ REnt (fun b => O b ∨ Sh b) W V' (entsOf ls))) : Rt Ju RB B (.inRegion ops (i :: l) :: k) Own A Z := fun Wc zc => by
  have hw : Region.wanted o (yielded ops A.tmps) = true := by simp [Region.wanted, hg]
  refine hJ _ _ _ (call_enter hB ho hw hop Try.func10 (by kernel_rfl) (c := cEs) rfl fun W1 hr => .stop ?_)
  have z1 := hz _ _ hr zc
  have hgl1 := hgl W1 z1
  have hN1 := hN W1 z1
  obtain ⟨RB', hRB'⟩ : ∃ x, x = B.at A (.inRegion ops (i :: l) :: k) :: RB := ⟨_, rfl⟩
  rw [← hRB']
  have hleave : ∀ (O : Blk) (A' : Act) (V' : Value) (todo : List Item), A'.defers = [] → Sl A' 2 V' → Sl A' 3 (.bool true) → (∀ x, Own x → O x) → ∀ W, (Rely Own Sh W1 W ∧ REnt (fun b => O b ∨ Sh b) W V' (entsOf ls)) → Ju O (G { (base 10).at A' todo with mode := .returning } RB') W := fun O A' V' todo hd h2 h3 hO W hW => by
    subst hRB'
    refine hJ _ _ _ (call_leave2 rfl hd Try.func10 (t := 2) (u := 3) (by kernel_rfl) ho fun W2 hr => .stop ?_)
    rw [show A'.tmps.getD 2 undef = V' from h2.eval, show A'.tmps.getD 3 undef = .bool true from h3.eval]
    exact hn O V' hO W2 ⟨hz W1 W2 (hW.1.own hO hr) z1, hW.2.rely hr fun b hb => hb⟩
  clear hRB' hn ho hw hop hg hr zc z1 hgl hz hN
  have hB : (base 10).kind ≠ .early := by simp [base]
  have hnt : Try.f10.ntmps = 35 := by kernel_rfl
  obtain ⟨A0, hA0⟩ : ∃ A0 : Act, A0 = { tmps := #[x].map A.eval ++ Array.replicate (Try.f10.ntmps - (#[x].map A.eval).size) undef, defers := [] } := ⟨_, rfl⟩
  rw [← hA0]
  have s0 : Sl A0 0 (.slice va ls.length cap) := by subst hA0; exact sl_app (by simp [hx])
  have hsz : A0.tmps.size = 35 := by subst hA0; simp [hnt]
  have hdf : A0.defers = [] := by rw [hA0]
  clear hA0 hx
  generalize A0 = A at *
  have hz : Stable Own Sh (Rely Own Sh W1) := fun W W' hr z => z.trans hr
  refine (show Rt Ju RB' (base 10) [.code cEs] Own A (Rely Own Sh W1) from ?_) W1 (.refl _ _ _)
  rw [show (Item.code cEs : Item) = _ from congrArg Item.code cEs_eq]
  refine rt_seq hJ hz ?_
  rw [show y0 = .region 0 (regOps (y0)) false from by kernel_rfl]
  refine rt_region hJ hz ?_
  rw [show List.range (regOps (y0)).size = [0, 1] from by kernel_rfl]
  obtain ⟨o, ho, hop, hg, hdst⟩ : ∃ o, (regOps (y0))[0]? = some o ∧ o.op = .assign (.const (.slice none 0 0)) ∧ o.guard = none ∧ o.dst = some 2 := ⟨((regOps (y0))[0]?).getD default, by kernel_rfl, by kernel_rfl, by kernel_rfl, by kernel_rfl⟩
  refine rt_val hJ hz hB ho hg (v := (.slice none 0 0)) (fun W z => assign1 hop rfl) (fun e he => by simp at he) ?_
  rw [hdst]
  replace s0 := s0.ne (d := 2) (u := (.slice none 0 0)) (by decide)
  have s2 : Sl (A.put (some 2) (.slice none 0 0)) 2 (.slice none 0 0) := Sl.same (by rw [hsz]; decide)
  replace hsz : (A.put (some 2) (.slice none 0 0)).tmps.size = 35 := (put_size _ _ _).trans hsz
  replace hdf : (A.put (some 2) (.slice none 0 0)).defers = [] := (put_defers _ _ _).trans hdf
  generalize A.put (some 2) (.slice none 0 0) = A at *
  clear ho hop hg hdst
  obtain ⟨o, ho, hop, hg, hdst⟩ : ∃ o, (regOps (y0))[1]? = some o ∧ o.op = .assign (.const (.bool false)) ∧ o.guard = none ∧ o.dst = some 3 := ⟨((regOps (y0))[1]?).getD default, by kernel_rfl, by kernel_rfl, by kernel_rfl, by kernel_rfl⟩
  refine rt_val hJ hz hB ho hg (v := (.bool false)) (fun W z => assign1 hop rfl) (fun e he => by simp at he) ?_
  rw [hdst]
  replace s0 := s0.ne (d := 3) (u := (.bool false)) (by decide)
  replace s2 := s2.ne (d := 3) (u := (.bool false)) (by decide)
  have s3 : Sl (A.put (some 3) (.bool false)) 3 (.bool false) := Sl.same (by rw [hsz]; decide)
  replace hsz : (A.put (some 3) (.bool false)).tmps.size = 35 := (put_size _ _ _).trans hsz
  replace hdf : (A.put (some 3) (.bool false)).defers = [] := (put_defers _ _ _).trans hdf
  generalize A.put (some 3) (.bool false) = A at *
  clear ho hop hg hdst
  refine rt_region_end hJ hz ?_
  refine rt_seq hJ hz ?_
  rw [show y1 = .region 1 (regOps (y1)) false from by kernel_rfl]
  refine rt_region hJ hz ?_
  rw [show List.range (regOps (y1)).size = [0] from by kernel_rfl]
  obtain ⟨o, ho, hop, hg, hdst⟩ : ∃ o, (regOps (y1))[0]? = some o ∧ o.op = .assign (.const (.slice none 0 0)) ∧ o.guard = none ∧ o.dst = some 4 := ⟨((regOps (y1))[0]?).getD default, by kernel_rfl, by kernel_rfl, by kernel_rfl, by kernel_rfl⟩
  refine rt_val hJ hz hB ho hg (v := (.slice none 0 0)) (fun W z => assign1 hop rfl) (fun e he => by simp at he) ?_
  rw [hdst]
  replace s0 := s0.ne (d := 4) (u := (.slice none 0 0)) (by decide)
  replace s2 := s2.ne (d := 4) (u := (.slice none 0 0)) (by decide)
  replace s3 := s3.ne (d := 4) (u := (.slice none 0 0)) (by decide)
  have s4 : Sl (A.put (some 4) (.slice none 0 0)) 4 (.slice none 0 0) := Sl.same (by rw [hsz]; decide)
  replace hsz : (A.put (some 4) (.slice none 0 0)).tmps.size = 35 := (put_size _ _ _).trans hsz
  replace hdf : (A.put (some 4) (.slice none 0 0)).defers = [] := (put_defers _ _ _).trans hdf
  generalize A.put (some 4) (.slice none 0 0) = A at *
  clear ho hop hg hdst
  refine rt_region_end hJ hz ?_
  refine rt_seq hJ hz ?_
  refine rt_seq hJ hz ?_
  rw [show y2 = .region 2 (regOps (y2)) false from by kernel_rfl]
  refine rt_region hJ hz ?_
  rw [show List.range (regOps (y2)).size = [0] from by kernel_rfl]
  obtain ⟨o, ho, hop, hg, hdst⟩ : ∃ o, (regOps (y2))[0]? = some o ∧ o.op = .assign (.const (.int .i64 0)) ∧ o.guard = none ∧ o.dst = some 5 := ⟨((regOps (y2))[0]?).getD default, by kernel_rfl, by kernel_rfl, by kernel_rfl, by kernel_rfl⟩
  refine rt_val hJ hz hB ho hg (v := (.int .i64 ((0 : Nat) : Int))) (fun W z => assign1 hop rfl) (fun e he => by simp at he) ?_
  rw [hdst]
  replace s0 := s0.ne (d := 5) (u := (.int .i64 ((0 : Nat) : Int))) (by decide)
  replace s2 := s2.ne (d := 5) (u := (.int .i64 ((0 : Nat) : Int))) (by decide)
  replace s3 := s3.ne (d := 5) (u := (.int .i64 ((0 : Nat) : Int))) (by decide)
  replace s4 := s4.ne (d := 5) (u := (.int .i64 ((0 : Nat) : Int))) (by decide)
  have s5 : Sl (A.put (some 5) (.int .i64 ((0 : Nat) : Int))) 5 (.int .i64 ((0 : Nat) : Int)) := Sl.same (by rw [hsz]; decide)
  replace hsz : (A.put (some 5) (.int .i64 ((0 : Nat) : Int))).tmps.size = 35 := (put_size _ _ _).trans hsz
  replace hdf : (A.put (some 5) (.int .i64 ((0 : Nat) : Int))).defers = [] := (put_defers _ _ _).trans hdf
  generalize A.put (some 5) (.int .i64 ((0 : Nat) : Int)) = A at *
  clear ho hop hg hdst
  refine rt_region_end hJ hz ?_
  refine rt_block hJ hz ?_
  refine rt_loop hJ hz ?_
  refine Rt.mono (Z' := fun W => Rely Own Sh W1 W ∧ REnt (fun b => Own b ∨ Sh b) W (.slice none 0 0) (toE ls 0)) ?_ fun W z => ⟨z, ent_nil _ _⟩
  refine entries_loop hJ hN1 hgl1 (fun O A v k hO hsz hdf he s4 => ?_) 30 0 Own A (.slice none 0 0) rfl (by omega) (Nat.zero_le _) (fun _ h => h) hsz hdf s0 s4 s5
  clear s0 s2 s3 s5
  rw [he]
  have hz : Stable O Sh fun W => Rely Own Sh W1 W ∧ REnt (fun b => O b ∨ Sh b) W v (entsOf ls) := Stable.and (fun W W' hr z => z.own hO hr) fun W W' hr z => z.rely hr fun b hb => hb
  refine rt_seq hJ hz ?_
  rw [show y9 = .region 9 (regOps (y9)) false from by kernel_rfl]
  refine rt_region hJ hz ?_
  rw [show List.range (regOps (y9)).size = [0, 1, 2, 3, 4] from by kernel_rfl]
  obtain ⟨o, ho, hop, hg, hdst⟩ : ∃ o, (regOps (y9))[0]? = some o ∧ o.op = .move (.tmp 4) ∧ o.guard = none ∧ o.dst = some 32 := ⟨((regOps (y9))[0]?).getD default, by kernel_rfl, by kernel_rfl, by kernel_rfl, by kernel_rfl⟩
  refine rt_val hJ hz hB ho hg (v := v) (fun W z => move1 hop s4.eval) (fun e he => by simp at he) ?_
  rw [hdst]
  replace s4 := s4.ne (d := 32) (u := v) (by decide)
  have s32 : Sl (A.put (some 32) v) 32 v := Sl.same (by rw [hsz]; decide)
  replace hsz : (A.put (some 32) v).tmps.size = 35 := (put_size _ _ _).trans hsz
  replace hdf : (A.put (some 32) v).defers = [] := (put_defers _ _ _).trans hdf
  generalize A.put (some 32) v = A at *
  clear ho hop hg hdst
  obtain ⟨o, ho, hop, hg, hdst⟩ : ∃ o, (regOps (y9))[1]? = some o ∧ o.op = .move (.tmp 4) ∧ o.guard = none ∧ o.dst = some 33 := ⟨((regOps (y9))[1]?).getD default, by kernel_rfl, by kernel_rfl, by kernel_rfl, by kernel_rfl⟩
  refine rt_val hJ hz hB ho hg (v := v) (fun W z => move1 hop s4.eval) (fun e he => by simp at he) ?_
  rw [hdst]
  replace s4 := s4.ne (d := 33) (u := v) (by decide)
  replace s32 := s32.ne (d := 33) (u := v) (by decide)
  have s33 : Sl (A.put (some 33) v) 33 v := Sl.same (by rw [hsz]; decide)
  replace hsz : (A.put (some 33) v).tmps.size = 35 := (put_size _ _ _).trans hsz
  replace hdf : (A.put (some 33) v).defers = [] := (put_defers _ _ _).trans hdf
  generalize A.put (some 33) v = A at *
  clear ho hop hg hdst
  obtain ⟨o, ho, hop, hg, hdst⟩ : ∃ o, (regOps (y9))[2]? = some o ∧ o.op = .call { callee := .value (.func 17), args := #[.tmp 33], argTypes := #[35] } ∧ o.guard = none ∧ o.dst = some 34 := ⟨((regOps (y9))[2]?).getD default, by kernel_rfl, by kernel_rfl, by kernel_rfl, by kernel_rfl⟩
  refine rt_may hJ hz hB ho hg hop s33.eval (fun W z => z.2) (entsOf_six ls).may (by have := (entsOf_six ls).len; omega) (fun W z => Nat.le_trans hgl1 z.1.size) fun O2 hO2 => ?_
  rw [hdst]
  replace s4 := s4.ne (d := 34) (u := (.bool true)) (by decide)
  replace s32 := s32.ne (d := 34) (u := (.bool true)) (by decide)
  replace s33 := s33.ne (d := 34) (u := (.bool true)) (by decide)
  have s34 : Sl (A.put (some 34) (.bool true)) 34 (.bool true) := Sl.same (by rw [hsz]; decide)
  replace hsz : (A.put (some 34) (.bool true)).tmps.size = 35 := (put_size _ _ _).trans hsz
  replace hdf : (A.put (some 34) (.bool true)).defers = [] := (put_defers _ _ _).trans hdf
  generalize A.put (some 34) (.bool true) = A at *
  clear ho hop hg hdst
  have hO3 : ∀ x, Own x → O2 x := fun x hx => hO2 _ (hO x hx)
  refine Rt.mono (Z' := fun W => Rely Own Sh W1 W ∧ REnt (fun b => O2 b ∨ Sh b) W v (entsOf ls)) ?_ fun W z => ⟨z.1, z.2.mono fun b hb => hb.imp (hO2 b) id⟩
  clear hz
  have hz : Stable O2 Sh fun W => Rely Own Sh W1 W ∧ REnt (fun b => O2 b ∨ Sh b) W v (entsOf ls) := Stable.and (fun W W' hr z => z.own hO3 hr) fun W W' hr z => z.rely hr fun b hb => hb
  obtain ⟨o, ho, hop, hg, hdst⟩ : ∃ o, (regOps (y9))[3]? = some o ∧ o.op = .assign (.tmp 32) ∧ o.guard = none ∧ o.dst = some 2 := ⟨((regOps (y9))[3]?).getD default, by kernel_rfl, by kernel_rfl, by kernel_rfl, by kernel_rfl⟩
  refine rt_val hJ hz hB ho hg (v := v) (fun W z => assign1 hop s32.eval) (fun e he => by simp at he) ?_
  rw [hdst]
  replace s4 := s4.ne (d := 2) (u := v) (by decide)
  replace s32 := s32.ne (d := 2) (u := v) (by decide)
  replace s33 := s33.ne (d := 2) (u := v) (by decide)
  replace s34 := s34.ne (d := 2) (u := v) (by decide)
  have s2 : Sl (A.put (some 2) v) 2 v := Sl.same (by rw [hsz]; decide)
  replace hsz : (A.put (some 2) v).tmps.size = 35 := (put_size _ _ _).trans hsz
  replace hdf : (A.put (some 2) v).defers = [] := (put_defers _ _ _).trans hdf
  generalize A.put (some 2) v = A at *
  clear ho hop hg hdst
  obtain ⟨o, ho, hop, hg, hdst⟩ : ∃ o, (regOps (y9))[4]? = some o ∧ o.op = .assign (.tmp 34) ∧ o.guard = none ∧ o.dst = some 3 := ⟨((regOps (y9))[4]?).getD default, by kernel_rfl, by kernel_rfl, by kernel_rfl, by kernel_rfl⟩
  refine rt_val hJ hz hB ho hg (v := (.bool true)) (fun W z => assign1 hop s34.eval) (fun e he => by simp at he) ?_
  rw [hdst]
  replace s4 := s4.ne (d := 3) (u := (.bool true)) (by decide)
  replace s32 := s32.ne (d := 3) (u := (.bool true)) (by decide)
  replace s33 := s33.ne (d := 3) (u := (.bool true)) (by decide)
  replace s34 := s34.ne (d := 3) (u := (.bool true)) (by decide)
  replace s2 := s2.ne (d := 3) (u := (.bool true)) (by decide)
  have s3 : Sl (A.put (some 3) (.bool true)) 3 (.bool true) := Sl.same (by rw [hsz]; decide)
  replace hsz : (A.put (some 3) (.bool true)).tmps.size = 35 := (put_size _ _ _).trans hsz
  replace hdf : (A.put (some 3) (.bool true)).defers = [] := (put_defers _ _ _).trans hdf
  generalize A.put (some 3) (.bool true) = A at *
  clear ho hop hg hdst
  refine rt_region_end hJ hz ?_
  refine rt_ret hJ hz fun W z => hleave O2 A v _ hdf s2 s3 hO3 W z
end
end Go.Proofs.Ytkodpijedinanaa.Sim
