/- Texts that the claim imports, laid together: MxG. No statement of their own. -/
import Derived.Test.YtkodpijedinanaaKau
namespace Go.Proofs.Ytkodpijedinanaa.Sim
open Go Go.Conc
set_option linter.unusedVariables false
set_option linter.unusedSimpArgs false

noncomputable def g0C : Code := hd cCA
noncomputable def g1C : Code := hd (tl cCA)
noncomputable def g2C : Code := hd k1C
noncomputable def t9C : Code := tl (tl (tl cCA))
noncomputable def g9C : Code := hd t9C
noncomputable def g10C : Code := hd (tl t9C)
noncomputable def g11C : Code := hd k2C
noncomputable def t15C : Code := tl (tl (tl t9C))
noncomputable def g15C : Code := hd t15C
noncomputable def g16C : Code := hd (tl t15C)
noncomputable def g17C : Code := hd (tl (tl t15C))
noncomputable def g18C : Code := hd (tl (tl (tl t15C)))
theorem cCA_eq : cCA = .seq g0C (.seq g1C (.seq (.seq g2C (.block 0 (.loop lp1C))) t9C)) := by kernel_rfl
theorem t9C_eq : t9C = .seq g9C (.seq g10C (.seq (.seq g11C (.block 2 (.loop lp2C))) t15C)) := by kernel_rfl
theorem t15C_eq : t15C = .seq g15C (.seq g16C (.seq g17C (.seq g18C .ret))) := by kernel_rfl
def e3E : Ent := ⟨3, 0, 0, 0, false⟩
theorem six_e3 : SixL [e3E] := six_one ⟨by decide, by decide, by decide, by decide, fun h => by simp [e3E] at h⟩ ⟨by decide, by decide⟩
/-- What CrewAny comes to. -/
def AnyPost (W : World) (v : Value) (W1 : World) : Prop := v = .bool true ∧ BaseOk W W.heap.size W1
section
variable {W00 : World}
set_option maxRecDepth 100000 in
set_option maxHeartbeats 32000000 in
/-- Behind the three merges. -/
theorem any_end {lo : Nat} (hlo : W00.heap.size = lo) (hgl : Try.prog.globals.size ≤ W00.heap.size) {n' Wg Bd : Nat} {Gr O : Blk} {A : Act} {va vb vc : Value} {L : List Ent} (hsz : A.tmps.size = 101) (hdf : A.defers = []) (s12 : Sl A 12 va) (s13 : Sl A 13 (.int .i64 0)) (s14 : Sl A 14 vb) (s15 : Sl A 15 (.int .i64 0)) (s16 : Sl A 16 vc) (s17 : Sl A 17 (.int .i64 0)) :
    Rt (MGo Try.prog W00 lo (AnyPost W00) n' (fun _ => none) .ret Wg Bd 0 (shR lo Gr)) [] (base 4) (.code (.seq g18C .ret) :: []) O A (fun W => ((Keep (fun b => b < lo) W00 W ∧ REnt (fun b => O b ∨ b < lo) W va L) ∧ REnt (fun b => O b ∨ b < lo) W vb L) ∧ REnt (fun b => O b ∨ b < lo) W vc [e3E]) := by
  have hB : (base 4).kind ≠ .early := by simp [base]
  have hJ := jud_mgo Try.prog W00 lo (AnyPost W00) n' (fun _ => none) (tag := .ret) (by simp) Wg Bd 0 (shR lo Gr)
  have hz : Stable O (shR lo Gr) fun W => ((Keep (fun b => b < lo) W00 W ∧ REnt (fun b => O b ∨ b < lo) W va L) ∧ REnt (fun b => O b ∨ b < lo) W vb L) ∧ REnt (fun b => O b ∨ b < lo) W vc [e3E] := Stable.and (Stable.and (Stable.and (fun W W' hr z => z.rely hr fun b hb => .inr hb) fun W W' hr z => z.rely hr fun b hb => hb) fun W W' hr z => z.rely hr fun b hb => hb) fun W W' hr z => z.rely hr fun b hb => hb
  intro Wx zx
  obtain ⟨ac, cc, ec⟩ := zx.2.sl
  refine (show Rt (MGo Try.prog W00 lo (AnyPost W00) n' (fun _ => none) .ret Wg Bd 0 (shR lo Gr)) [] (base 4) _ O A (fun W => ((Keep (fun b => b < lo) W00 W ∧ REnt (fun b => O b ∨ b < lo) W va L) ∧ REnt (fun b => O b ∨ b < lo) W vb L) ∧ REnt (fun b => O b ∨ b < lo) W vc [e3E]) from ?_) Wx zx
  clear zx
  refine rt_seq hJ hz ?_
  rw [show g18C = .region 18 (regOps (g18C)) false from by kernel_rfl]
  refine rt_region hJ hz ?_
  rw [show List.range (regOps (g18C)).size = [0, 1, 2, 3, 4, 5, 6, 7, 8, 9, 10, 11, 12, 13, 14, 15, 16, 17, 18, 19, 20] from by kernel_rfl]
  obtain ⟨o, ho, hop, hg, hdst⟩ : ∃ o, (regOps (g18C))[0]? = some o ∧ o.op = .move (.tmp 13) ∧ o.guard = none ∧ o.dst = some 81 := ⟨((regOps (g18C))[0]?).getD default, by kernel_rfl, by kernel_rfl, by kernel_rfl, by kernel_rfl⟩
  refine rt_val hJ hz hB ho hg (v := (.int .i64 0)) (fun W z => move1 hop s13.eval) (fun e he => by simp at he) ?_
  rw [hdst]
  replace s12 := s12.ne (d := 81) (u := (.int .i64 0)) (by decide)
  replace s13 := s13.ne (d := 81) (u := (.int .i64 0)) (by decide)
  replace s14 := s14.ne (d := 81) (u := (.int .i64 0)) (by decide)
  replace s15 := s15.ne (d := 81) (u := (.int .i64 0)) (by decide)
  replace s16 := s16.ne (d := 81) (u := (.int .i64 0)) (by decide)
  replace s17 := s17.ne (d := 81) (u := (.int .i64 0)) (by decide)
  have s81 : Sl (A.put (some 81) (.int .i64 0)) 81 (.int .i64 0) := Sl.same (by rw [hsz]; decide)
  replace hsz : (A.put (some 81) (.int .i64 0)).tmps.size = 101 := (put_size _ _ _).trans hsz
  replace hdf : (A.put (some 81) (.int .i64 0)).defers = [] := (put_defers _ _ _).trans hdf
  generalize A.put (some 81) (.int .i64 0) = A at *
  clear ho hop hg hdst
  obtain ⟨o, ho, hop, hg, hdst⟩ : ∃ o, (regOps (g18C))[1]? = some o ∧ o.op = .binOp .eql 26 (.tmp 81) (.const (.int .i64 0)) 26 ∧ o.guard = none ∧ o.dst = some 82 := ⟨((regOps (g18C))[1]?).getD default, by kernel_rfl, by kernel_rfl, by kernel_rfl, by kernel_rfl⟩
  refine rt_val hJ hz hB ho hg (v := (.bool true)) (fun W z => by have q := eql26 (w := W) hop s81.eval (m := 0) rfl; exact q) (fun e he => by simp at he) ?_
  rw [hdst]
  replace s12 := s12.ne (d := 82) (u := (.bool true)) (by decide)
  replace s13 := s13.ne (d := 82) (u := (.bool true)) (by decide)
  replace s14 := s14.ne (d := 82) (u := (.bool true)) (by decide)
  replace s15 := s15.ne (d := 82) (u := (.bool true)) (by decide)
  replace s16 := s16.ne (d := 82) (u := (.bool true)) (by decide)
  replace s17 := s17.ne (d := 82) (u := (.bool true)) (by decide)
  replace s81 := s81.ne (d := 82) (u := (.bool true)) (by decide)
  have s82 : Sl (A.put (some 82) (.bool true)) 82 (.bool true) := Sl.same (by rw [hsz]; decide)
  replace hsz : (A.put (some 82) (.bool true)).tmps.size = 101 := (put_size _ _ _).trans hsz
  replace hdf : (A.put (some 82) (.bool true)).defers = [] := (put_defers _ _ _).trans hdf
  generalize A.put (some 82) (.bool true) = A at *
  clear ho hop hg hdst
  obtain ⟨o, ho, hop, hg, hdst⟩ : ∃ o, (regOps (g18C))[2]? = some o ∧ o.op = .move (.tmp 82) ∧ o.guard = none ∧ o.dst = some 83 := ⟨((regOps (g18C))[2]?).getD default, by kernel_rfl, by kernel_rfl, by kernel_rfl, by kernel_rfl⟩
  refine rt_val hJ hz hB ho hg (v := (.bool true)) (fun W z => move1 hop s82.eval) (fun e he => by simp at he) ?_
  rw [hdst]
  replace s12 := s12.ne (d := 83) (u := (.bool true)) (by decide)
  replace s13 := s13.ne (d := 83) (u := (.bool true)) (by decide)
  replace s14 := s14.ne (d := 83) (u := (.bool true)) (by decide)
  replace s15 := s15.ne (d := 83) (u := (.bool true)) (by decide)
  replace s16 := s16.ne (d := 83) (u := (.bool true)) (by decide)
  replace s17 := s17.ne (d := 83) (u := (.bool true)) (by decide)
  replace s81 := s81.ne (d := 83) (u := (.bool true)) (by decide)
  replace s82 := s82.ne (d := 83) (u := (.bool true)) (by decide)
  have s83 : Sl (A.put (some 83) (.bool true)) 83 (.bool true) := Sl.same (by rw [hsz]; decide)
  replace hsz : (A.put (some 83) (.bool true)).tmps.size = 101 := (put_size _ _ _).trans hsz
  replace hdf : (A.put (some 83) (.bool true)).defers = [] := (put_defers _ _ _).trans hdf
  generalize A.put (some 83) (.bool true) = A at *
  clear ho hop hg hdst
  obtain ⟨o, ho, hop, hg, hdst⟩ : ∃ o, (regOps (g18C))[3]? = some o ∧ o.op = .move (.tmp 15) ∧ o.guard = some (2, true) ∧ o.dst = some 84 := ⟨((regOps (g18C))[3]?).getD default, by kernel_rfl, by kernel_rfl, by kernel_rfl, by kernel_rfl⟩
  refine rt_valw hJ hz hB ho (wanted_of (b := true) hg (by kernel_rfl : ((regOps (g18C))[2]?).bind (·.dst) = some 83) s83) (v := (.int .i64 0)) (fun W z => move1 hop s15.eval) (fun e he => by simp at he) ?_
  rw [hdst]
  replace s12 := s12.ne (d := 84) (u := (.int .i64 0)) (by decide)
  replace s13 := s13.ne (d := 84) (u := (.int .i64 0)) (by decide)
  replace s14 := s14.ne (d := 84) (u := (.int .i64 0)) (by decide)
  replace s15 := s15.ne (d := 84) (u := (.int .i64 0)) (by decide)
  replace s16 := s16.ne (d := 84) (u := (.int .i64 0)) (by decide)
  replace s17 := s17.ne (d := 84) (u := (.int .i64 0)) (by decide)
  replace s81 := s81.ne (d := 84) (u := (.int .i64 0)) (by decide)
  replace s82 := s82.ne (d := 84) (u := (.int .i64 0)) (by decide)
  replace s83 := s83.ne (d := 84) (u := (.int .i64 0)) (by decide)
  have s84 : Sl (A.put (some 84) (.int .i64 0)) 84 (.int .i64 0) := Sl.same (by rw [hsz]; decide)
  replace hsz : (A.put (some 84) (.int .i64 0)).tmps.size = 101 := (put_size _ _ _).trans hsz
  replace hdf : (A.put (some 84) (.int .i64 0)).defers = [] := (put_defers _ _ _).trans hdf
  generalize A.put (some 84) (.int .i64 0) = A at *
  clear ho hop hg hdst
  obtain ⟨o, ho, hop, hg, hdst⟩ : ∃ o, (regOps (g18C))[4]? = some o ∧ o.op = .binOp .eql 26 (.tmp 84) (.const (.int .i64 0)) 26 ∧ o.guard = some (2, true) ∧ o.dst = some 85 := ⟨((regOps (g18C))[4]?).getD default, by kernel_rfl, by kernel_rfl, by kernel_rfl, by kernel_rfl⟩
  refine rt_valw hJ hz hB ho (wanted_of (b := true) hg (by kernel_rfl : ((regOps (g18C))[2]?).bind (·.dst) = some 83) s83) (v := (.bool true)) (fun W z => by have q := eql26 (w := W) hop s84.eval (m := 0) rfl; exact q) (fun e he => by simp at he) ?_
  rw [hdst]
  replace s12 := s12.ne (d := 85) (u := (.bool true)) (by decide)
  replace s13 := s13.ne (d := 85) (u := (.bool true)) (by decide)
  replace s14 := s14.ne (d := 85) (u := (.bool true)) (by decide)
  replace s15 := s15.ne (d := 85) (u := (.bool true)) (by decide)
  replace s16 := s16.ne (d := 85) (u := (.bool true)) (by decide)
  replace s17 := s17.ne (d := 85) (u := (.bool true)) (by decide)
  replace s81 := s81.ne (d := 85) (u := (.bool true)) (by decide)
  replace s82 := s82.ne (d := 85) (u := (.bool true)) (by decide)
  replace s83 := s83.ne (d := 85) (u := (.bool true)) (by decide)
  replace s84 := s84.ne (d := 85) (u := (.bool true)) (by decide)
  have s85 : Sl (A.put (some 85) (.bool true)) 85 (.bool true) := Sl.same (by rw [hsz]; decide)
  replace hsz : (A.put (some 85) (.bool true)).tmps.size = 101 := (put_size _ _ _).trans hsz
  replace hdf : (A.put (some 85) (.bool true)).defers = [] := (put_defers _ _ _).trans hdf
  generalize A.put (some 85) (.bool true) = A at *
  clear ho hop hg hdst
  obtain ⟨o, ho, hop, hg, hdst⟩ : ∃ o, (regOps (g18C))[5]? = some o ∧ o.op = .pick (.tmp 83) (.tmp 85) (.const (.bool false)) ∧ o.guard = none ∧ o.dst = some 86 := ⟨((regOps (g18C))[5]?).getD default, by kernel_rfl, by kernel_rfl, by kernel_rfl, by kernel_rfl⟩
  refine rt_val hJ hz hB ho hg (v := (.bool true)) (fun W z => by have q := pickB (w := W) hop s83.eval; simp only [if_true] at q; rw [s85.eval] at q; exact q) (fun e he => by simp at he) ?_
  rw [hdst]
  replace s12 := s12.ne (d := 86) (u := (.bool true)) (by decide)
  replace s13 := s13.ne (d := 86) (u := (.bool true)) (by decide)
  replace s14 := s14.ne (d := 86) (u := (.bool true)) (by decide)
  replace s15 := s15.ne (d := 86) (u := (.bool true)) (by decide)
  replace s16 := s16.ne (d := 86) (u := (.bool true)) (by decide)
  replace s17 := s17.ne (d := 86) (u := (.bool true)) (by decide)
  replace s81 := s81.ne (d := 86) (u := (.bool true)) (by decide)
  replace s82 := s82.ne (d := 86) (u := (.bool true)) (by decide)
  replace s83 := s83.ne (d := 86) (u := (.bool true)) (by decide)
  replace s84 := s84.ne (d := 86) (u := (.bool true)) (by decide)
  replace s85 := s85.ne (d := 86) (u := (.bool true)) (by decide)
  have s86 : Sl (A.put (some 86) (.bool true)) 86 (.bool true) := Sl.same (by rw [hsz]; decide)
  replace hsz : (A.put (some 86) (.bool true)).tmps.size = 101 := (put_size _ _ _).trans hsz
  replace hdf : (A.put (some 86) (.bool true)).defers = [] := (put_defers _ _ _).trans hdf
  generalize A.put (some 86) (.bool true) = A at *
  clear ho hop hg hdst
  obtain ⟨o, ho, hop, hg, hdst⟩ : ∃ o, (regOps (g18C))[6]? = some o ∧ o.op = .move (.tmp 86) ∧ o.guard = none ∧ o.dst = some 87 := ⟨((regOps (g18C))[6]?).getD default, by kernel_rfl, by kernel_rfl, by kernel_rfl, by kernel_rfl⟩
  refine rt_val hJ hz hB ho hg (v := (.bool true)) (fun W z => move1 hop s86.eval) (fun e he => by simp at he) ?_
  rw [hdst]
  replace s12 := s12.ne (d := 87) (u := (.bool true)) (by decide)
  replace s13 := s13.ne (d := 87) (u := (.bool true)) (by decide)
  replace s14 := s14.ne (d := 87) (u := (.bool true)) (by decide)
  replace s15 := s15.ne (d := 87) (u := (.bool true)) (by decide)
  replace s16 := s16.ne (d := 87) (u := (.bool true)) (by decide)
  replace s17 := s17.ne (d := 87) (u := (.bool true)) (by decide)
  replace s81 := s81.ne (d := 87) (u := (.bool true)) (by decide)
  replace s82 := s82.ne (d := 87) (u := (.bool true)) (by decide)
  replace s83 := s83.ne (d := 87) (u := (.bool true)) (by decide)
  replace s84 := s84.ne (d := 87) (u := (.bool true)) (by decide)
  replace s85 := s85.ne (d := 87) (u := (.bool true)) (by decide)
  replace s86 := s86.ne (d := 87) (u := (.bool true)) (by decide)
  have s87 : Sl (A.put (some 87) (.bool true)) 87 (.bool true) := Sl.same (by rw [hsz]; decide)
  replace hsz : (A.put (some 87) (.bool true)).tmps.size = 101 := (put_size _ _ _).trans hsz
  replace hdf : (A.put (some 87) (.bool true)).defers = [] := (put_defers _ _ _).trans hdf
  generalize A.put (some 87) (.bool true) = A at *
  clear ho hop hg hdst
  obtain ⟨o, ho, hop, hg, hdst⟩ : ∃ o, (regOps (g18C))[7]? = some o ∧ o.op = .move (.tmp 17) ∧ o.guard = some (6, true) ∧ o.dst = some 88 := ⟨((regOps (g18C))[7]?).getD default, by kernel_rfl, by kernel_rfl, by kernel_rfl, by kernel_rfl⟩
  refine rt_valw hJ hz hB ho (wanted_of (b := true) hg (by kernel_rfl : ((regOps (g18C))[6]?).bind (·.dst) = some 87) s87) (v := (.int .i64 0)) (fun W z => move1 hop s17.eval) (fun e he => by simp at he) ?_
  rw [hdst]
  replace s12 := s12.ne (d := 88) (u := (.int .i64 0)) (by decide)
  replace s13 := s13.ne (d := 88) (u := (.int .i64 0)) (by decide)
  replace s14 := s14.ne (d := 88) (u := (.int .i64 0)) (by decide)
  replace s15 := s15.ne (d := 88) (u := (.int .i64 0)) (by decide)
  replace s16 := s16.ne (d := 88) (u := (.int .i64 0)) (by decide)
  replace s17 := s17.ne (d := 88) (u := (.int .i64 0)) (by decide)
  replace s81 := s81.ne (d := 88) (u := (.int .i64 0)) (by decide)
  replace s82 := s82.ne (d := 88) (u := (.int .i64 0)) (by decide)
  replace s83 := s83.ne (d := 88) (u := (.int .i64 0)) (by decide)
  replace s84 := s84.ne (d := 88) (u := (.int .i64 0)) (by decide)
  replace s85 := s85.ne (d := 88) (u := (.int .i64 0)) (by decide)
  replace s86 := s86.ne (d := 88) (u := (.int .i64 0)) (by decide)
  replace s87 := s87.ne (d := 88) (u := (.int .i64 0)) (by decide)
  have s88 : Sl (A.put (some 88) (.int .i64 0)) 88 (.int .i64 0) := Sl.same (by rw [hsz]; decide)
  replace hsz : (A.put (some 88) (.int .i64 0)).tmps.size = 101 := (put_size _ _ _).trans hsz
  replace hdf : (A.put (some 88) (.int .i64 0)).defers = [] := (put_defers _ _ _).trans hdf
  generalize A.put (some 88) (.int .i64 0) = A at *
  clear ho hop hg hdst
  obtain ⟨o, ho, hop, hg, hdst⟩ : ∃ o, (regOps (g18C))[8]? = some o ∧ o.op = .binOp .eql 26 (.tmp 88) (.const (.int .i64 0)) 26 ∧ o.guard = some (6, true) ∧ o.dst = some 89 := ⟨((regOps (g18C))[8]?).getD default, by kernel_rfl, by kernel_rfl, by kernel_rfl, by kernel_rfl⟩
  refine rt_valw hJ hz hB ho (wanted_of (b := true) hg (by kernel_rfl : ((regOps (g18C))[6]?).bind (·.dst) = some 87) s87) (v := (.bool true)) (fun W z => by have q := eql26 (w := W) hop s88.eval (m := 0) rfl; exact q) (fun e he => by simp at he) ?_
  rw [hdst]
  replace s12 := s12.ne (d := 89) (u := (.bool true)) (by decide)
  replace s13 := s13.ne (d := 89) (u := (.bool true)) (by decide)
  replace s14 := s14.ne (d := 89) (u := (.bool true)) (by decide)
  replace s15 := s15.ne (d := 89) (u := (.bool true)) (by decide)
  replace s16 := s16.ne (d := 89) (u := (.bool true)) (by decide)
  replace s17 := s17.ne (d := 89) (u := (.bool true)) (by decide)
  replace s81 := s81.ne (d := 89) (u := (.bool true)) (by decide)
  replace s82 := s82.ne (d := 89) (u := (.bool true)) (by decide)
  replace s83 := s83.ne (d := 89) (u := (.bool true)) (by decide)
  replace s84 := s84.ne (d := 89) (u := (.bool true)) (by decide)
  replace s85 := s85.ne (d := 89) (u := (.bool true)) (by decide)
  replace s86 := s86.ne (d := 89) (u := (.bool true)) (by decide)
  replace s87 := s87.ne (d := 89) (u := (.bool true)) (by decide)
  replace s88 := s88.ne (d := 89) (u := (.bool true)) (by decide)
  have s89 : Sl (A.put (some 89) (.bool true)) 89 (.bool true) := Sl.same (by rw [hsz]; decide)
  replace hsz : (A.put (some 89) (.bool true)).tmps.size = 101 := (put_size _ _ _).trans hsz
  replace hdf : (A.put (some 89) (.bool true)).defers = [] := (put_defers _ _ _).trans hdf
  generalize A.put (some 89) (.bool true) = A at *
  clear ho hop hg hdst
  obtain ⟨o, ho, hop, hg, hdst⟩ : ∃ o, (regOps (g18C))[9]? = some o ∧ o.op = .pick (.tmp 87) (.tmp 89) (.const (.bool false)) ∧ o.guard = none ∧ o.dst = some 90 := ⟨((regOps (g18C))[9]?).getD default, by kernel_rfl, by kernel_rfl, by kernel_rfl, by kernel_rfl⟩
  refine rt_val hJ hz hB ho hg (v := (.bool true)) (fun W z => by have q := pickB (w := W) hop s87.eval; simp only [if_true] at q; rw [s89.eval] at q; exact q) (fun e he => by simp at he) ?_
  rw [hdst]
  replace s12 := s12.ne (d := 90) (u := (.bool true)) (by decide)
  replace s13 := s13.ne (d := 90) (u := (.bool true)) (by decide)
  replace s14 := s14.ne (d := 90) (u := (.bool true)) (by decide)
  replace s15 := s15.ne (d := 90) (u := (.bool true)) (by decide)
  replace s16 := s16.ne (d := 90) (u := (.bool true)) (by decide)
  replace s17 := s17.ne (d := 90) (u := (.bool true)) (by decide)
  replace s81 := s81.ne (d := 90) (u := (.bool true)) (by decide)
  replace s82 := s82.ne (d := 90) (u := (.bool true)) (by decide)
  replace s83 := s83.ne (d := 90) (u := (.bool true)) (by decide)
  replace s84 := s84.ne (d := 90) (u := (.bool true)) (by decide)
  replace s85 := s85.ne (d := 90) (u := (.bool true)) (by decide)
  replace s86 := s86.ne (d := 90) (u := (.bool true)) (by decide)
  replace s87 := s87.ne (d := 90) (u := (.bool true)) (by decide)
  replace s88 := s88.ne (d := 90) (u := (.bool true)) (by decide)
  replace s89 := s89.ne (d := 90) (u := (.bool true)) (by decide)
  have s90 : Sl (A.put (some 90) (.bool true)) 90 (.bool true) := Sl.same (by rw [hsz]; decide)
  replace hsz : (A.put (some 90) (.bool true)).tmps.size = 101 := (put_size _ _ _).trans hsz
  replace hdf : (A.put (some 90) (.bool true)).defers = [] := (put_defers _ _ _).trans hdf
  generalize A.put (some 90) (.bool true) = A at *
  clear ho hop hg hdst
  obtain ⟨o, ho, hop, hg, hdst⟩ : ∃ o, (regOps (g18C))[10]? = some o ∧ o.op = .move (.tmp 90) ∧ o.guard = none ∧ o.dst = some 91 := ⟨((regOps (g18C))[10]?).getD default, by kernel_rfl, by kernel_rfl, by kernel_rfl, by kernel_rfl⟩
  refine rt_val hJ hz hB ho hg (v := (.bool true)) (fun W z => move1 hop s90.eval) (fun e he => by simp at he) ?_
  rw [hdst]
  replace s12 := s12.ne (d := 91) (u := (.bool true)) (by decide)
  replace s13 := s13.ne (d := 91) (u := (.bool true)) (by decide)
  replace s14 := s14.ne (d := 91) (u := (.bool true)) (by decide)
  replace s15 := s15.ne (d := 91) (u := (.bool true)) (by decide)
  replace s16 := s16.ne (d := 91) (u := (.bool true)) (by decide)
  replace s17 := s17.ne (d := 91) (u := (.bool true)) (by decide)
  replace s81 := s81.ne (d := 91) (u := (.bool true)) (by decide)
  replace s82 := s82.ne (d := 91) (u := (.bool true)) (by decide)
  replace s83 := s83.ne (d := 91) (u := (.bool true)) (by decide)
  replace s84 := s84.ne (d := 91) (u := (.bool true)) (by decide)
  replace s85 := s85.ne (d := 91) (u := (.bool true)) (by decide)
  replace s86 := s86.ne (d := 91) (u := (.bool true)) (by decide)
  replace s87 := s87.ne (d := 91) (u := (.bool true)) (by decide)
  replace s88 := s88.ne (d := 91) (u := (.bool true)) (by decide)
  replace s89 := s89.ne (d := 91) (u := (.bool true)) (by decide)
  replace s90 := s90.ne (d := 91) (u := (.bool true)) (by decide)
  have s91 : Sl (A.put (some 91) (.bool true)) 91 (.bool true) := Sl.same (by rw [hsz]; decide)
  replace hsz : (A.put (some 91) (.bool true)).tmps.size = 101 := (put_size _ _ _).trans hsz
  replace hdf : (A.put (some 91) (.bool true)).defers = [] := (put_defers _ _ _).trans hdf
  generalize A.put (some 91) (.bool true) = A at *
  clear ho hop hg hdst
  obtain ⟨o, ho, hop, hg, hdst⟩ : ∃ o, (regOps (g18C))[11]? = some o ∧ o.op = .move (.tmp 16) ∧ o.guard = some (10, true) ∧ o.dst = some 92 := ⟨((regOps (g18C))[11]?).getD default, by kernel_rfl, by kernel_rfl, by kernel_rfl, by kernel_rfl⟩
  refine rt_valw hJ hz hB ho (wanted_of (b := true) hg (by kernel_rfl : ((regOps (g18C))[10]?).bind (·.dst) = some 91) s91) (v := vc) (fun W z => move1 hop s16.eval) (fun e he => by simp at he) ?_
  rw [hdst]
  replace s12 := s12.ne (d := 92) (u := vc) (by decide)
  replace s13 := s13.ne (d := 92) (u := vc) (by decide)
  replace s14 := s14.ne (d := 92) (u := vc) (by decide)
  replace s15 := s15.ne (d := 92) (u := vc) (by decide)
  replace s16 := s16.ne (d := 92) (u := vc) (by decide)
  replace s17 := s17.ne (d := 92) (u := vc) (by decide)
  replace s81 := s81.ne (d := 92) (u := vc) (by decide)
  replace s82 := s82.ne (d := 92) (u := vc) (by decide)
  replace s83 := s83.ne (d := 92) (u := vc) (by decide)
  replace s84 := s84.ne (d := 92) (u := vc) (by decide)
  replace s85 := s85.ne (d := 92) (u := vc) (by decide)
  replace s86 := s86.ne (d := 92) (u := vc) (by decide)
  replace s87 := s87.ne (d := 92) (u := vc) (by decide)
  replace s88 := s88.ne (d := 92) (u := vc) (by decide)
  replace s89 := s89.ne (d := 92) (u := vc) (by decide)
  replace s90 := s90.ne (d := 92) (u := vc) (by decide)
  replace s91 := s91.ne (d := 92) (u := vc) (by decide)
  have s92 : Sl (A.put (some 92) vc) 92 vc := Sl.same (by rw [hsz]; decide)
  replace hsz : (A.put (some 92) vc).tmps.size = 101 := (put_size _ _ _).trans hsz
  replace hdf : (A.put (some 92) vc).defers = [] := (put_defers _ _ _).trans hdf
  generalize A.put (some 92) vc = A at *
  clear ho hop hg hdst
  obtain ⟨o, ho, hop, hg, hdst⟩ : ∃ o, (regOps (g18C))[12]? = some o ∧ o.op = .call { callee := .builtin .len, args := #[.tmp 92], argTypes := #[35] } ∧ o.guard = some (10, true) ∧ o.dst = some 93 := ⟨((regOps (g18C))[12]?).getD default, by kernel_rfl, by kernel_rfl, by kernel_rfl, by kernel_rfl⟩
  refine rt_valw hJ hz hB ho (wanted_of (b := true) hg (by kernel_rfl : ((regOps (g18C))[10]?).bind (·.dst) = some 91) s91) (v := (.int .i64 1)) (fun W z => by have q := lenT (w := W) (.inr (.inr rfl)) hop (s92.eval.trans ec); exact q) (fun e he => by simp at he) ?_
  rw [hdst]
  replace s12 := s12.ne (d := 93) (u := (.int .i64 1)) (by decide)
  replace s13 := s13.ne (d := 93) (u := (.int .i64 1)) (by decide)
  replace s14 := s14.ne (d := 93) (u := (.int .i64 1)) (by decide)
  replace s15 := s15.ne (d := 93) (u := (.int .i64 1)) (by decide)
  replace s16 := s16.ne (d := 93) (u := (.int .i64 1)) (by decide)
  replace s17 := s17.ne (d := 93) (u := (.int .i64 1)) (by decide)
  replace s81 := s81.ne (d := 93) (u := (.int .i64 1)) (by decide)
  replace s82 := s82.ne (d := 93) (u := (.int .i64 1)) (by decide)
  replace s83 := s83.ne (d := 93) (u := (.int .i64 1)) (by decide)
  replace s84 := s84.ne (d := 93) (u := (.int .i64 1)) (by decide)
  replace s85 := s85.ne (d := 93) (u := (.int .i64 1)) (by decide)
  replace s86 := s86.ne (d := 93) (u := (.int .i64 1)) (by decide)
  replace s87 := s87.ne (d := 93) (u := (.int .i64 1)) (by decide)
  replace s88 := s88.ne (d := 93) (u := (.int .i64 1)) (by decide)
  replace s89 := s89.ne (d := 93) (u := (.int .i64 1)) (by decide)
  replace s90 := s90.ne (d := 93) (u := (.int .i64 1)) (by decide)
  replace s91 := s91.ne (d := 93) (u := (.int .i64 1)) (by decide)
  replace s92 := s92.ne (d := 93) (u := (.int .i64 1)) (by decide)
  have s93 : Sl (A.put (some 93) (.int .i64 1)) 93 (.int .i64 1) := Sl.same (by rw [hsz]; decide)
  replace hsz : (A.put (some 93) (.int .i64 1)).tmps.size = 101 := (put_size _ _ _).trans hsz
  replace hdf : (A.put (some 93) (.int .i64 1)).defers = [] := (put_defers _ _ _).trans hdf
  generalize A.put (some 93) (.int .i64 1) = A at *
  clear ho hop hg hdst
  obtain ⟨o, ho, hop, hg, hdst⟩ : ∃ o, (regOps (g18C))[13]? = some o ∧ o.op = .binOp .eql 3 (.tmp 93) (.const (.int .i64 1)) 3 ∧ o.guard = some (10, true) ∧ o.dst = some 94 := ⟨((regOps (g18C))[13]?).getD default, by kernel_rfl, by kernel_rfl, by kernel_rfl, by kernel_rfl⟩
  refine rt_valw hJ hz hB ho (wanted_of (b := true) hg (by kernel_rfl : ((regOps (g18C))[10]?).bind (·.dst) = some 91) s91) (v := (.bool true)) (fun W z => by have q := eqI (w := W) hop s93.eval (m := 1) rfl; exact q) (fun e he => by simp at he) ?_
  rw [hdst]
  replace s12 := s12.ne (d := 94) (u := (.bool true)) (by decide)
  replace s13 := s13.ne (d := 94) (u := (.bool true)) (by decide)
  replace s14 := s14.ne (d := 94) (u := (.bool true)) (by decide)
  replace s15 := s15.ne (d := 94) (u := (.bool true)) (by decide)
  replace s16 := s16.ne (d := 94) (u := (.bool true)) (by decide)
  replace s17 := s17.ne (d := 94) (u := (.bool true)) (by decide)
  replace s81 := s81.ne (d := 94) (u := (.bool true)) (by decide)
  replace s82 := s82.ne (d := 94) (u := (.bool true)) (by decide)
  replace s83 := s83.ne (d := 94) (u := (.bool true)) (by decide)
  replace s84 := s84.ne (d := 94) (u := (.bool true)) (by decide)
  replace s85 := s85.ne (d := 94) (u := (.bool true)) (by decide)
  replace s86 := s86.ne (d := 94) (u := (.bool true)) (by decide)
  replace s87 := s87.ne (d := 94) (u := (.bool true)) (by decide)
  replace s88 := s88.ne (d := 94) (u := (.bool true)) (by decide)
  replace s89 := s89.ne (d := 94) (u := (.bool true)) (by decide)
  replace s90 := s90.ne (d := 94) (u := (.bool true)) (by decide)
  replace s91 := s91.ne (d := 94) (u := (.bool true)) (by decide)
  replace s92 := s92.ne (d := 94) (u := (.bool true)) (by decide)
  replace s93 := s93.ne (d := 94) (u := (.bool true)) (by decide)
  have s94 : Sl (A.put (some 94) (.bool true)) 94 (.bool true) := Sl.same (by rw [hsz]; decide)
  replace hsz : (A.put (some 94) (.bool true)).tmps.size = 101 := (put_size _ _ _).trans hsz
  replace hdf : (A.put (some 94) (.bool true)).defers = [] := (put_defers _ _ _).trans hdf
  generalize A.put (some 94) (.bool true) = A at *
  clear ho hop hg hdst
  obtain ⟨o, ho, hop, hg, hdst⟩ : ∃ o, (regOps (g18C))[14]? = some o ∧ o.op = .pick (.tmp 91) (.tmp 94) (.const (.bool false)) ∧ o.guard = none ∧ o.dst = some 95 := ⟨((regOps (g18C))[14]?).getD default, by kernel_rfl, by kernel_rfl, by kernel_rfl, by kernel_rfl⟩
  refine rt_val hJ hz hB ho hg (v := (.bool true)) (fun W z => by have q := pickB (w := W) hop s91.eval; simp only [if_true] at q; rw [s94.eval] at q; exact q) (fun e he => by simp at he) ?_
  rw [hdst]
  replace s12 := s12.ne (d := 95) (u := (.bool true)) (by decide)
  replace s13 := s13.ne (d := 95) (u := (.bool true)) (by decide)
  replace s14 := s14.ne (d := 95) (u := (.bool true)) (by decide)
  replace s15 := s15.ne (d := 95) (u := (.bool true)) (by decide)
  replace s16 := s16.ne (d := 95) (u := (.bool true)) (by decide)
  replace s17 := s17.ne (d := 95) (u := (.bool true)) (by decide)
  replace s81 := s81.ne (d := 95) (u := (.bool true)) (by decide)
  replace s82 := s82.ne (d := 95) (u := (.bool true)) (by decide)
  replace s83 := s83.ne (d := 95) (u := (.bool true)) (by decide)
  replace s84 := s84.ne (d := 95) (u := (.bool true)) (by decide)
  replace s85 := s85.ne (d := 95) (u := (.bool true)) (by decide)
  replace s86 := s86.ne (d := 95) (u := (.bool true)) (by decide)
  replace s87 := s87.ne (d := 95) (u := (.bool true)) (by decide)
  replace s88 := s88.ne (d := 95) (u := (.bool true)) (by decide)
  replace s89 := s89.ne (d := 95) (u := (.bool true)) (by decide)
  replace s90 := s90.ne (d := 95) (u := (.bool true)) (by decide)
  replace s91 := s91.ne (d := 95) (u := (.bool true)) (by decide)
  replace s92 := s92.ne (d := 95) (u := (.bool true)) (by decide)
  replace s93 := s93.ne (d := 95) (u := (.bool true)) (by decide)
  replace s94 := s94.ne (d := 95) (u := (.bool true)) (by decide)
  have s95 : Sl (A.put (some 95) (.bool true)) 95 (.bool true) := Sl.same (by rw [hsz]; decide)
  replace hsz : (A.put (some 95) (.bool true)).tmps.size = 101 := (put_size _ _ _).trans hsz
  replace hdf : (A.put (some 95) (.bool true)).defers = [] := (put_defers _ _ _).trans hdf
  generalize A.put (some 95) (.bool true) = A at *
  clear ho hop hg hdst
  obtain ⟨o, ho, hop, hg, hdst⟩ : ∃ o, (regOps (g18C))[15]? = some o ∧ o.op = .move (.tmp 95) ∧ o.guard = none ∧ o.dst = some 96 := ⟨((regOps (g18C))[15]?).getD default, by kernel_rfl, by kernel_rfl, by kernel_rfl, by kernel_rfl⟩
  refine rt_val hJ hz hB ho hg (v := (.bool true)) (fun W z => move1 hop s95.eval) (fun e he => by simp at he) ?_
  rw [hdst]
  replace s12 := s12.ne (d := 96) (u := (.bool true)) (by decide)
  replace s13 := s13.ne (d := 96) (u := (.bool true)) (by decide)
  replace s14 := s14.ne (d := 96) (u := (.bool true)) (by decide)
  replace s15 := s15.ne (d := 96) (u := (.bool true)) (by decide)
  replace s16 := s16.ne (d := 96) (u := (.bool true)) (by decide)
  replace s17 := s17.ne (d := 96) (u := (.bool true)) (by decide)
  replace s81 := s81.ne (d := 96) (u := (.bool true)) (by decide)
  replace s82 := s82.ne (d := 96) (u := (.bool true)) (by decide)
  replace s83 := s83.ne (d := 96) (u := (.bool true)) (by decide)
  replace s84 := s84.ne (d := 96) (u := (.bool true)) (by decide)
  replace s85 := s85.ne (d := 96) (u := (.bool true)) (by decide)
  replace s86 := s86.ne (d := 96) (u := (.bool true)) (by decide)
  replace s87 := s87.ne (d := 96) (u := (.bool true)) (by decide)
  replace s88 := s88.ne (d := 96) (u := (.bool true)) (by decide)
  replace s89 := s89.ne (d := 96) (u := (.bool true)) (by decide)
  replace s90 := s90.ne (d := 96) (u := (.bool true)) (by decide)
  replace s91 := s91.ne (d := 96) (u := (.bool true)) (by decide)
  replace s92 := s92.ne (d := 96) (u := (.bool true)) (by decide)
  replace s93 := s93.ne (d := 96) (u := (.bool true)) (by decide)
  replace s94 := s94.ne (d := 96) (u := (.bool true)) (by decide)
  replace s95 := s95.ne (d := 96) (u := (.bool true)) (by decide)
  have s96 : Sl (A.put (some 96) (.bool true)) 96 (.bool true) := Sl.same (by rw [hsz]; decide)
  replace hsz : (A.put (some 96) (.bool true)).tmps.size = 101 := (put_size _ _ _).trans hsz
  replace hdf : (A.put (some 96) (.bool true)).defers = [] := (put_defers _ _ _).trans hdf
  generalize A.put (some 96) (.bool true) = A at *
  clear ho hop hg hdst
  obtain ⟨o, ho, hop, hg, hdst⟩ : ∃ o, (regOps (g18C))[16]? = some o ∧ o.op = .move (.tmp 12) ∧ o.guard = some (15, true) ∧ o.dst = some 97 := ⟨((regOps (g18C))[16]?).getD default, by kernel_rfl, by kernel_rfl, by kernel_rfl, by kernel_rfl⟩
  refine rt_valw hJ hz hB ho (wanted_of (b := true) hg (by kernel_rfl : ((regOps (g18C))[15]?).bind (·.dst) = some 96) s96) (v := va) (fun W z => move1 hop s12.eval) (fun e he => by simp at he) ?_
  rw [hdst]
  replace s12 := s12.ne (d := 97) (u := va) (by decide)
  replace s13 := s13.ne (d := 97) (u := va) (by decide)
  replace s14 := s14.ne (d := 97) (u := va) (by decide)
  replace s15 := s15.ne (d := 97) (u := va) (by decide)
  replace s16 := s16.ne (d := 97) (u := va) (by decide)
  replace s17 := s17.ne (d := 97) (u := va) (by decide)
  replace s81 := s81.ne (d := 97) (u := va) (by decide)
  replace s82 := s82.ne (d := 97) (u := va) (by decide)
  replace s83 := s83.ne (d := 97) (u := va) (by decide)
  replace s84 := s84.ne (d := 97) (u := va) (by decide)
  replace s85 := s85.ne (d := 97) (u := va) (by decide)
  replace s86 := s86.ne (d := 97) (u := va) (by decide)
  replace s87 := s87.ne (d := 97) (u := va) (by decide)
  replace s88 := s88.ne (d := 97) (u := va) (by decide)
  replace s89 := s89.ne (d := 97) (u := va) (by decide)
  replace s90 := s90.ne (d := 97) (u := va) (by decide)
  replace s91 := s91.ne (d := 97) (u := va) (by decide)
  replace s92 := s92.ne (d := 97) (u := va) (by decide)
  replace s93 := s93.ne (d := 97) (u := va) (by decide)
  replace s94 := s94.ne (d := 97) (u := va) (by decide)
  replace s95 := s95.ne (d := 97) (u := va) (by decide)
  replace s96 := s96.ne (d := 97) (u := va) (by decide)
  have s97 : Sl (A.put (some 97) va) 97 va := Sl.same (by rw [hsz]; decide)
  replace hsz : (A.put (some 97) va).tmps.size = 101 := (put_size _ _ _).trans hsz
  replace hdf : (A.put (some 97) va).defers = [] := (put_defers _ _ _).trans hdf
  generalize A.put (some 97) va = A at *
  clear ho hop hg hdst
  obtain ⟨o, ho, hop, hg, hdst⟩ : ∃ o, (regOps (g18C))[17]? = some o ∧ o.op = .move (.tmp 14) ∧ o.guard = some (15, true) ∧ o.dst = some 98 := ⟨((regOps (g18C))[17]?).getD default, by kernel_rfl, by kernel_rfl, by kernel_rfl, by kernel_rfl⟩
  refine rt_valw hJ hz hB ho (wanted_of (b := true) hg (by kernel_rfl : ((regOps (g18C))[15]?).bind (·.dst) = some 96) s96) (v := vb) (fun W z => move1 hop s14.eval) (fun e he => by simp at he) ?_
  rw [hdst]
  replace s12 := s12.ne (d := 98) (u := vb) (by decide)
  replace s13 := s13.ne (d := 98) (u := vb) (by decide)
  replace s14 := s14.ne (d := 98) (u := vb) (by decide)
  replace s15 := s15.ne (d := 98) (u := vb) (by decide)
  replace s16 := s16.ne (d := 98) (u := vb) (by decide)
  replace s17 := s17.ne (d := 98) (u := vb) (by decide)
  replace s81 := s81.ne (d := 98) (u := vb) (by decide)
  replace s82 := s82.ne (d := 98) (u := vb) (by decide)
  replace s83 := s83.ne (d := 98) (u := vb) (by decide)
  replace s84 := s84.ne (d := 98) (u := vb) (by decide)
  replace s85 := s85.ne (d := 98) (u := vb) (by decide)
  replace s86 := s86.ne (d := 98) (u := vb) (by decide)
  replace s87 := s87.ne (d := 98) (u := vb) (by decide)
  replace s88 := s88.ne (d := 98) (u := vb) (by decide)
  replace s89 := s89.ne (d := 98) (u := vb) (by decide)
  replace s90 := s90.ne (d := 98) (u := vb) (by decide)
  replace s91 := s91.ne (d := 98) (u := vb) (by decide)
  replace s92 := s92.ne (d := 98) (u := vb) (by decide)
  replace s93 := s93.ne (d := 98) (u := vb) (by decide)
  replace s94 := s94.ne (d := 98) (u := vb) (by decide)
  replace s95 := s95.ne (d := 98) (u := vb) (by decide)
  replace s96 := s96.ne (d := 98) (u := vb) (by decide)
  replace s97 := s97.ne (d := 98) (u := vb) (by decide)
  have s98 : Sl (A.put (some 98) vb) 98 vb := Sl.same (by rw [hsz]; decide)
  replace hsz : (A.put (some 98) vb).tmps.size = 101 := (put_size _ _ _).trans hsz
  replace hdf : (A.put (some 98) vb).defers = [] := (put_defers _ _ _).trans hdf
  generalize A.put (some 98) vb = A at *
  clear ho hop hg hdst
  obtain ⟨o, ho, hop, hg, hdst⟩ : ∃ o, (regOps (g18C))[18]? = some o ∧ o.op = .call { callee := .value (.func 12), args := #[.tmp 97, .tmp 98], argTypes := #[35, 35] } ∧ o.guard = some (15, true) ∧ o.dst = some 99 := ⟨((regOps (g18C))[18]?).getD default, by kernel_rfl, by kernel_rfl, by kernel_rfl, by kernel_rfl⟩
  refine rt_same hJ hz hB ho (wanted_of (b := true) hg (by kernel_rfl : ((regOps (g18C))[15]?).bind (·.dst) = some 96) s96) hop s97.eval s98.eval (fun W z => z.1.1.2) (fun W z => z.1.2) (fun W z => Nat.le_trans hgl z.1.1.1.size) fun O2 hO2 _ => ?_
  rw [hdst]
  replace s12 := s12.ne (d := 99) (u := (.bool true)) (by decide)
  replace s13 := s13.ne (d := 99) (u := (.bool true)) (by decide)
  replace s14 := s14.ne (d := 99) (u := (.bool true)) (by decide)
  replace s15 := s15.ne (d := 99) (u := (.bool true)) (by decide)
  replace s16 := s16.ne (d := 99) (u := (.bool true)) (by decide)
  replace s17 := s17.ne (d := 99) (u := (.bool true)) (by decide)
  replace s81 := s81.ne (d := 99) (u := (.bool true)) (by decide)
  replace s82 := s82.ne (d := 99) (u := (.bool true)) (by decide)
  replace s83 := s83.ne (d := 99) (u := (.bool true)) (by decide)
  replace s84 := s84.ne (d := 99) (u := (.bool true)) (by decide)
  replace s85 := s85.ne (d := 99) (u := (.bool true)) (by decide)
  replace s86 := s86.ne (d := 99) (u := (.bool true)) (by decide)
  replace s87 := s87.ne (d := 99) (u := (.bool true)) (by decide)
  replace s88 := s88.ne (d := 99) (u := (.bool true)) (by decide)
  replace s89 := s89.ne (d := 99) (u := (.bool true)) (by decide)
  replace s90 := s90.ne (d := 99) (u := (.bool true)) (by decide)
  replace s91 := s91.ne (d := 99) (u := (.bool true)) (by decide)
  replace s92 := s92.ne (d := 99) (u := (.bool true)) (by decide)
  replace s93 := s93.ne (d := 99) (u := (.bool true)) (by decide)
  replace s94 := s94.ne (d := 99) (u := (.bool true)) (by decide)
  replace s95 := s95.ne (d := 99) (u := (.bool true)) (by decide)
  replace s96 := s96.ne (d := 99) (u := (.bool true)) (by decide)
  replace s97 := s97.ne (d := 99) (u := (.bool true)) (by decide)
  replace s98 := s98.ne (d := 99) (u := (.bool true)) (by decide)
  have s99 : Sl (A.put (some 99) (.bool true)) 99 (.bool true) := Sl.same (by rw [hsz]; decide)
  replace hsz : (A.put (some 99) (.bool true)).tmps.size = 101 := (put_size _ _ _).trans hsz
  replace hdf : (A.put (some 99) (.bool true)).defers = [] := (put_defers _ _ _).trans hdf
  generalize A.put (some 99) (.bool true) = A at *
  clear ho hop hg hdst
  replace hz : Stable O2 (shR lo Gr) fun W => ((Keep (fun b => b < lo) W00 W ∧ REnt (fun b => O b ∨ b < lo) W va L) ∧ REnt (fun b => O b ∨ b < lo) W vb L) ∧ REnt (fun b => O b ∨ b < lo) W vc [e3E] := hz.more hO2
  obtain ⟨o, ho, hop, hg, hdst⟩ : ∃ o, (regOps (g18C))[19]? = some o ∧ o.op = .pick (.tmp 96) (.tmp 99) (.const (.bool false)) ∧ o.guard = none ∧ o.dst = some 100 := ⟨((regOps (g18C))[19]?).getD default, by kernel_rfl, by kernel_rfl, by kernel_rfl, by kernel_rfl⟩
  refine rt_val hJ hz hB ho hg (v := (.bool true)) (fun W z => by have q := pickB (w := W) hop s96.eval; simp only [if_true] at q; rw [s99.eval] at q; exact q) (fun e he => by simp at he) ?_
  rw [hdst]
  replace s12 := s12.ne (d := 100) (u := (.bool true)) (by decide)
  replace s13 := s13.ne (d := 100) (u := (.bool true)) (by decide)
  replace s14 := s14.ne (d := 100) (u := (.bool true)) (by decide)
  replace s15 := s15.ne (d := 100) (u := (.bool true)) (by decide)
  replace s16 := s16.ne (d := 100) (u := (.bool true)) (by decide)
  replace s17 := s17.ne (d := 100) (u := (.bool true)) (by decide)
  replace s81 := s81.ne (d := 100) (u := (.bool true)) (by decide)
  replace s82 := s82.ne (d := 100) (u := (.bool true)) (by decide)
  replace s83 := s83.ne (d := 100) (u := (.bool true)) (by decide)
  replace s84 := s84.ne (d := 100) (u := (.bool true)) (by decide)
  replace s85 := s85.ne (d := 100) (u := (.bool true)) (by decide)
  replace s86 := s86.ne (d := 100) (u := (.bool true)) (by decide)
  replace s87 := s87.ne (d := 100) (u := (.bool true)) (by decide)
  replace s88 := s88.ne (d := 100) (u := (.bool true)) (by decide)
  replace s89 := s89.ne (d := 100) (u := (.bool true)) (by decide)
  replace s90 := s90.ne (d := 100) (u := (.bool true)) (by decide)
  replace s91 := s91.ne (d := 100) (u := (.bool true)) (by decide)
  replace s92 := s92.ne (d := 100) (u := (.bool true)) (by decide)
  replace s93 := s93.ne (d := 100) (u := (.bool true)) (by decide)
  replace s94 := s94.ne (d := 100) (u := (.bool true)) (by decide)
  replace s95 := s95.ne (d := 100) (u := (.bool true)) (by decide)
  replace s96 := s96.ne (d := 100) (u := (.bool true)) (by decide)
  replace s97 := s97.ne (d := 100) (u := (.bool true)) (by decide)
  replace s98 := s98.ne (d := 100) (u := (.bool true)) (by decide)
  replace s99 := s99.ne (d := 100) (u := (.bool true)) (by decide)
  have s100 : Sl (A.put (some 100) (.bool true)) 100 (.bool true) := Sl.same (by rw [hsz]; decide)
  replace hsz : (A.put (some 100) (.bool true)).tmps.size = 101 := (put_size _ _ _).trans hsz
  replace hdf : (A.put (some 100) (.bool true)).defers = [] := (put_defers _ _ _).trans hdf
  generalize A.put (some 100) (.bool true) = A at *
  clear ho hop hg hdst
  obtain ⟨o, ho, hop, hg, hdst⟩ : ∃ o, (regOps (g18C))[20]? = some o ∧ o.op = .assign (.tmp 100) ∧ o.guard = none ∧ o.dst = some 4 := ⟨((regOps (g18C))[20]?).getD default, by kernel_rfl, by kernel_rfl, by kernel_rfl, by kernel_rfl⟩
  refine rt_val hJ hz hB ho hg (v := (.bool true)) (fun W z => assign1 hop s100.eval) (fun e he => by simp at he) ?_
  rw [hdst]
  replace s12 := s12.ne (d := 4) (u := (.bool true)) (by decide)
  replace s13 := s13.ne (d := 4) (u := (.bool true)) (by decide)
  replace s14 := s14.ne (d := 4) (u := (.bool true)) (by decide)
  replace s15 := s15.ne (d := 4) (u := (.bool true)) (by decide)
  replace s16 := s16.ne (d := 4) (u := (.bool true)) (by decide)
  replace s17 := s17.ne (d := 4) (u := (.bool true)) (by decide)
  replace s81 := s81.ne (d := 4) (u := (.bool true)) (by decide)
  replace s82 := s82.ne (d := 4) (u := (.bool true)) (by decide)
  replace s83 := s83.ne (d := 4) (u := (.bool true)) (by decide)
  replace s84 := s84.ne (d := 4) (u := (.bool true)) (by decide)
  replace s85 := s85.ne (d := 4) (u := (.bool true)) (by decide)
  replace s86 := s86.ne (d := 4) (u := (.bool true)) (by decide)
  replace s87 := s87.ne (d := 4) (u := (.bool true)) (by decide)
  replace s88 := s88.ne (d := 4) (u := (.bool true)) (by decide)
  replace s89 := s89.ne (d := 4) (u := (.bool true)) (by decide)
  replace s90 := s90.ne (d := 4) (u := (.bool true)) (by decide)
  replace s91 := s91.ne (d := 4) (u := (.bool true)) (by decide)
  replace s92 := s92.ne (d := 4) (u := (.bool true)) (by decide)
  replace s93 := s93.ne (d := 4) (u := (.bool true)) (by decide)
  replace s94 := s94.ne (d := 4) (u := (.bool true)) (by decide)
  replace s95 := s95.ne (d := 4) (u := (.bool true)) (by decide)
  replace s96 := s96.ne (d := 4) (u := (.bool true)) (by decide)
  replace s97 := s97.ne (d := 4) (u := (.bool true)) (by decide)
  replace s98 := s98.ne (d := 4) (u := (.bool true)) (by decide)
  replace s99 := s99.ne (d := 4) (u := (.bool true)) (by decide)
  replace s100 := s100.ne (d := 4) (u := (.bool true)) (by decide)
  have s4 : Sl (A.put (some 4) (.bool true)) 4 (.bool true) := Sl.same (by rw [hsz]; decide)
  replace hsz : (A.put (some 4) (.bool true)).tmps.size = 101 := (put_size _ _ _).trans hsz
  replace hdf : (A.put (some 4) (.bool true)).defers = [] := (put_defers _ _ _).trans hdf
  generalize A.put (some 4) (.bool true) = A at *
  clear ho hop hg hdst
  refine rt_region_end hJ hz ?_
  exact rt_mainret hz (t := 4) (by kernel_rfl) rfl Try.func4 (by kernel_rfl) s4.eval hdf (fun _ => rfl) fun W1 hb => ⟨rfl, by rw [hlo]; exact hb⟩
set_option maxRecDepth 100000 in
set_option maxHeartbeats 32000000 in
/-- The three merges. -/
theorem any_merges {lo : Nat} (hlo : W00.heap.size = lo) (hgl : Try.prog.globals.size ≤ W00.heap.size) {n' Wg Bd : Nat} {Gr O : Blk} {A : Act} {v u : Value} {V U : Nat → Value} {n p : Nat} {ls : Nat → List Ent} (hn12 : n ≤ 12) (hsix : ∀ j, SixL (ls j)) (hsz : A.tmps.size = 101) (hdf : A.defers = []) (hsv : SV v n) (hsu : SV u n) (hov : ∀ g, v.ownBlock = some g → O g) (hou : ∀ g, u.ownBlock = some g → O g) (hU : ∀ j, j < n → U j = V ((n - 1 - j + p) % n)) (s5 : Sl A 5 v) (s10 : Sl A 10 u) :
    Rt (MGo Try.prog W00 lo (AnyPost W00) n' (fun _ => none) .ret Wg Bd 0 (shR lo Gr)) [] (base 4) (.code t15C :: []) O A (fun W => (Keep (fun b => b < lo) W00 W ∧ ELst lo (fun b => O b ∨ b < lo) v n V ls W) ∧ SRow lo W u n U) := by
  have hB : (base 4).kind ≠ .early := by simp [base]
  have hJ := jud_mgo Try.prog W00 lo (AnyPost W00) n' (fun _ => none) (tag := .ret) (by simp) Wg Bd 0 (shR lo Gr)
  have hz : Stable O (shR lo Gr) fun W => (Keep (fun b => b < lo) W00 W ∧ ELst lo (fun b => O b ∨ b < lo) v n V ls W) ∧ SRow lo W u n U := Stable.and (Stable.and (fun W W' hr z => z.rely hr fun b hb => .inr hb) fun W W' hr z => z.rely hr hov fun b hb => hb) fun W W' hr z => z.rely hou hr
  have hlo1 : lo ≤ W00.heap.size := Nat.le_of_eq hlo.symm
  rw [show (Item.code t15C : Item) = _ from congrArg Item.code t15C_eq]
  obtain ⟨av, cv, rv, ev, hav, hav0⟩ := hsv.parts
  refine rt_seq hJ hz ?_
  rw [show g15C = .region 15 (regOps (g15C)) false from by kernel_rfl]
  refine rt_region hJ hz ?_
  rw [show List.range (regOps (g15C)).size = [0, 1, 2, 3, 4, 5, 6] from by kernel_rfl]
  obtain ⟨o, ho, hop, hg, hdst⟩ : ∃ o, (regOps (g15C))[0]? = some o ∧ o.op = .move (.tmp 5) ∧ o.guard = none ∧ o.dst = some 63 := ⟨((regOps (g15C))[0]?).getD default, by kernel_rfl, by kernel_rfl, by kernel_rfl, by kernel_rfl⟩
  refine rt_val hJ hz hB ho hg (v := v) (fun W z => move1 hop s5.eval) (fun e he => by simp at he) ?_
  rw [hdst]
  replace s5 := s5.ne (d := 63) (u := v) (by decide)
  replace s10 := s10.ne (d := 63) (u := v) (by decide)
  have s63 : Sl (A.put (some 63) v) 63 v := Sl.same (by rw [hsz]; decide)
  replace hsz : (A.put (some 63) v).tmps.size = 101 := (put_size _ _ _).trans hsz
  replace hdf : (A.put (some 63) v).defers = [] := (put_defers _ _ _).trans hdf
  generalize A.put (some 63) v = A at *
  clear ho hop hg hdst
  obtain ⟨o, ho, hop, hg, hdst⟩ : ∃ o, (regOps (g15C))[1]? = some o ∧ o.op = .call { callee := .value (.func 11), args := #[.tmp 63], argTypes := #[34] } ∧ o.guard = none ∧ o.dst = some 64 := ⟨((regOps (g15C))[1]?).getD default, by kernel_rfl, by kernel_rfl, by kernel_rfl, by kernel_rfl⟩
  refine rt_mergeall hz hB ho hg hop (s63.eval.trans ev) hav hav0 (by omega) (fun j _ => hsix j) (fun W z hp => ?_) (fun W z j hj => (z.1.2.row.look ev hav (by omega)).2 j hj) (fun W z j hj => z.1.2.ent j hj) (fun W z => Nat.le_trans hgl z.1.1.size) (fun W z => Nat.le_trans hlo1 z.1.1.size) fun W z n1 Wg1 Bd1 Gr1 O1 va hO1 => ?_
  · obtain ⟨⟨h1, h2⟩, _⟩ := z.1.2.row.look ev hav hp
    exact ⟨.inr (hov _ h1), h2⟩
  have hov1 := z.1.2.row.moved hO1 hov
  have hou1 := z.2.moved hO1 hou
  refine Rt.mono (Z' := fun W => ((Keep (fun b => b < lo) W00 W ∧ ELst lo (fun b => O1 b ∨ b < lo) v n V ls W) ∧ SRow lo W u n U) ∧ REnt (fun b => O1 b ∨ b < lo) W va (allL n ls)) ?_ fun W' z' => ⟨⟨⟨z.1.1.over hlo1 z'.1, z.1.2.over z'.1 hO1 hov⟩, z.2.over z'.1 hou⟩, z'.2⟩
  clear hz hJ z hov hou hO1
  have hJ := jud_mgo Try.prog W00 lo (AnyPost W00) n1 (fun _ => none) (tag := .ret) (by simp) Wg1 Bd1 0 (shR lo Gr1)
  have hz : Stable O1 (shR lo Gr1) fun W => ((Keep (fun b => b < lo) W00 W ∧ ELst lo (fun b => O1 b ∨ b < lo) v n V ls W) ∧ SRow lo W u n U) ∧ REnt (fun b => O1 b ∨ b < lo) W va (allL n ls) := Stable.and (Stable.and (Stable.and (fun W W' hr z => z.rely hr fun b hb => .inr hb) fun W W' hr z => z.rely hr hov1 fun b hb => hb) fun W W' hr z => z.rely hou1 hr) fun W W' hr z => z.rely hr fun b hb => hb
  rw [hdst]
  replace s5 := s5.ne (d := 64) (u := (.tuple #[va, .int .i64 0])) (by decide)
  replace s10 := s10.ne (d := 64) (u := (.tuple #[va, .int .i64 0])) (by decide)
  replace s63 := s63.ne (d := 64) (u := (.tuple #[va, .int .i64 0])) (by decide)
  have s64 : Sl (A.put (some 64) (.tuple #[va, .int .i64 0])) 64 (.tuple #[va, .int .i64 0]) := Sl.same (by rw [hsz]; decide)
  replace hsz : (A.put (some 64) (.tuple #[va, .int .i64 0])).tmps.size = 101 := (put_size _ _ _).trans hsz
  replace hdf : (A.put (some 64) (.tuple #[va, .int .i64 0])).defers = [] := (put_defers _ _ _).trans hdf
  generalize A.put (some 64) (.tuple #[va, .int .i64 0]) = A at *
  clear ho hop hg hdst
  obtain ⟨o, ho, hop, hg, hdst⟩ : ∃ o, (regOps (g15C))[2]? = some o ∧ o.op = .move (.tmp 64) ∧ o.guard = none ∧ o.dst = some 62 := ⟨((regOps (g15C))[2]?).getD default, by kernel_rfl, by kernel_rfl, by kernel_rfl, by kernel_rfl⟩
  refine rt_val hJ hz hB ho hg (v := (.tuple #[va, .int .i64 0])) (fun W z => move1 hop s64.eval) (fun e he => by simp at he) ?_
  rw [hdst]
  replace s5 := s5.ne (d := 62) (u := (.tuple #[va, .int .i64 0])) (by decide)
  replace s10 := s10.ne (d := 62) (u := (.tuple #[va, .int .i64 0])) (by decide)
  replace s63 := s63.ne (d := 62) (u := (.tuple #[va, .int .i64 0])) (by decide)
  replace s64 := s64.ne (d := 62) (u := (.tuple #[va, .int .i64 0])) (by decide)
  have s62 : Sl (A.put (some 62) (.tuple #[va, .int .i64 0])) 62 (.tuple #[va, .int .i64 0]) := Sl.same (by rw [hsz]; decide)
  replace hsz : (A.put (some 62) (.tuple #[va, .int .i64 0])).tmps.size = 101 := (put_size _ _ _).trans hsz
  replace hdf : (A.put (some 62) (.tuple #[va, .int .i64 0])).defers = [] := (put_defers _ _ _).trans hdf
  generalize A.put (some 62) (.tuple #[va, .int .i64 0]) = A at *
  clear ho hop hg hdst
  obtain ⟨o, ho, hop, hg, hdst⟩ : ∃ o, (regOps (g15C))[3]? = some o ∧ o.op = .extract (.tmp 62) 0 ∧ o.guard = none ∧ o.dst = some 65 := ⟨((regOps (g15C))[3]?).getD default, by kernel_rfl, by kernel_rfl, by kernel_rfl, by kernel_rfl⟩
  refine rt_val hJ hz hB ho hg (v := va) (fun W z => ext1 hop s62.eval rfl) (fun e he => by simp at he) ?_
  rw [hdst]
  replace s5 := s5.ne (d := 65) (u := va) (by decide)
  replace s10 := s10.ne (d := 65) (u := va) (by decide)
  replace s63 := s63.ne (d := 65) (u := va) (by decide)
  replace s64 := s64.ne (d := 65) (u := va) (by decide)
  replace s62 := s62.ne (d := 65) (u := va) (by decide)
  have s65 : Sl (A.put (some 65) va) 65 va := Sl.same (by rw [hsz]; decide)
  replace hsz : (A.put (some 65) va).tmps.size = 101 := (put_size _ _ _).trans hsz
  replace hdf : (A.put (some 65) va).defers = [] := (put_defers _ _ _).trans hdf
  generalize A.put (some 65) va = A at *
  clear ho hop hg hdst
  obtain ⟨o, ho, hop, hg, hdst⟩ : ∃ o, (regOps (g15C))[4]? = some o ∧ o.op = .extract (.tmp 62) 1 ∧ o.guard = none ∧ o.dst = some 66 := ⟨((regOps (g15C))[4]?).getD default, by kernel_rfl, by kernel_rfl, by kernel_rfl, by kernel_rfl⟩
  refine rt_val hJ hz hB ho hg (v := (.int .i64 0)) (fun W z => ext1 hop s62.eval rfl) (fun e he => by simp at he) ?_
  rw [hdst]
  replace s5 := s5.ne (d := 66) (u := (.int .i64 0)) (by decide)
  replace s10 := s10.ne (d := 66) (u := (.int .i64 0)) (by decide)
  replace s63 := s63.ne (d := 66) (u := (.int .i64 0)) (by decide)
  replace s64 := s64.ne (d := 66) (u := (.int .i64 0)) (by decide)
  replace s62 := s62.ne (d := 66) (u := (.int .i64 0)) (by decide)
  replace s65 := s65.ne (d := 66) (u := (.int .i64 0)) (by decide)
  have s66 : Sl (A.put (some 66) (.int .i64 0)) 66 (.int .i64 0) := Sl.same (by rw [hsz]; decide)
  replace hsz : (A.put (some 66) (.int .i64 0)).tmps.size = 101 := (put_size _ _ _).trans hsz
  replace hdf : (A.put (some 66) (.int .i64 0)).defers = [] := (put_defers _ _ _).trans hdf
  generalize A.put (some 66) (.int .i64 0) = A at *
  clear ho hop hg hdst
  obtain ⟨o, ho, hop, hg, hdst⟩ : ∃ o, (regOps (g15C))[5]? = some o ∧ o.op = .assign (.tmp 65) ∧ o.guard = none ∧ o.dst = some 12 := ⟨((regOps (g15C))[5]?).getD default, by kernel_rfl, by kernel_rfl, by kernel_rfl, by kernel_rfl⟩
  refine rt_val hJ hz hB ho hg (v := va) (fun W z => assign1 hop s65.eval) (fun e he => by simp at he) ?_
  rw [hdst]
  replace s5 := s5.ne (d := 12) (u := va) (by decide)
  replace s10 := s10.ne (d := 12) (u := va) (by decide)
  replace s63 := s63.ne (d := 12) (u := va) (by decide)
  replace s64 := s64.ne (d := 12) (u := va) (by decide)
  replace s62 := s62.ne (d := 12) (u := va) (by decide)
  replace s65 := s65.ne (d := 12) (u := va) (by decide)
  replace s66 := s66.ne (d := 12) (u := va) (by decide)
  have s12 : Sl (A.put (some 12) va) 12 va := Sl.same (by rw [hsz]; decide)
  replace hsz : (A.put (some 12) va).tmps.size = 101 := (put_size _ _ _).trans hsz
  replace hdf : (A.put (some 12) va).defers = [] := (put_defers _ _ _).trans hdf
  generalize A.put (some 12) va = A at *
  clear ho hop hg hdst
  obtain ⟨o, ho, hop, hg, hdst⟩ : ∃ o, (regOps (g15C))[6]? = some o ∧ o.op = .assign (.tmp 66) ∧ o.guard = none ∧ o.dst = some 13 := ⟨((regOps (g15C))[6]?).getD default, by kernel_rfl, by kernel_rfl, by kernel_rfl, by kernel_rfl⟩
  refine rt_val hJ hz hB ho hg (v := (.int .i64 0)) (fun W z => assign1 hop s66.eval) (fun e he => by simp at he) ?_
  rw [hdst]
  replace s5 := s5.ne (d := 13) (u := (.int .i64 0)) (by decide)
  replace s10 := s10.ne (d := 13) (u := (.int .i64 0)) (by decide)
  replace s63 := s63.ne (d := 13) (u := (.int .i64 0)) (by decide)
  replace s64 := s64.ne (d := 13) (u := (.int .i64 0)) (by decide)
  replace s62 := s62.ne (d := 13) (u := (.int .i64 0)) (by decide)
  replace s65 := s65.ne (d := 13) (u := (.int .i64 0)) (by decide)
  replace s66 := s66.ne (d := 13) (u := (.int .i64 0)) (by decide)
  replace s12 := s12.ne (d := 13) (u := (.int .i64 0)) (by decide)
  have s13 : Sl (A.put (some 13) (.int .i64 0)) 13 (.int .i64 0) := Sl.same (by rw [hsz]; decide)
  replace hsz : (A.put (some 13) (.int .i64 0)).tmps.size = 101 := (put_size _ _ _).trans hsz
  replace hdf : (A.put (some 13) (.int .i64 0)).defers = [] := (put_defers _ _ _).trans hdf
  generalize A.put (some 13) (.int .i64 0) = A at *
  clear ho hop hg hdst
  refine rt_region_end hJ hz ?_
  refine rt_seq hJ hz ?_
  rw [show g16C = .region 16 (regOps (g16C)) false from by kernel_rfl]
  refine rt_region hJ hz ?_
  rw [show List.range (regOps (g16C)).size = [0, 1, 2, 3, 4, 5, 6, 7, 8] from by kernel_rfl]
  obtain ⟨o, ho, hop, hg, hdst⟩ : ∃ o, (regOps (g16C))[0]? = some o ∧ o.op = .move (.tmp 10) ∧ o.guard = none ∧ o.dst = some 68 := ⟨((regOps (g16C))[0]?).getD default, by kernel_rfl, by kernel_rfl, by kernel_rfl, by kernel_rfl⟩
  refine rt_val hJ hz hB ho hg (v := u) (fun W z => move1 hop s10.eval) (fun e he => by simp at he) ?_
  rw [hdst]
  replace s5 := s5.ne (d := 68) (u := u) (by decide)
  replace s10 := s10.ne (d := 68) (u := u) (by decide)
  replace s63 := s63.ne (d := 68) (u := u) (by decide)
  replace s64 := s64.ne (d := 68) (u := u) (by decide)
  replace s62 := s62.ne (d := 68) (u := u) (by decide)
  replace s65 := s65.ne (d := 68) (u := u) (by decide)
  replace s66 := s66.ne (d := 68) (u := u) (by decide)
  replace s12 := s12.ne (d := 68) (u := u) (by decide)
  replace s13 := s13.ne (d := 68) (u := u) (by decide)
  have s68 : Sl (A.put (some 68) u) 68 u := Sl.same (by rw [hsz]; decide)
  replace hsz : (A.put (some 68) u).tmps.size = 101 := (put_size _ _ _).trans hsz
  replace hdf : (A.put (some 68) u).defers = [] := (put_defers _ _ _).trans hdf
  generalize A.put (some 68) u = A at *
  clear ho hop hg hdst
  obtain ⟨o, ho, hop, hg, hdst⟩ : ∃ o, (regOps (g16C))[1]? = some o ∧ o.op = .move (.tmp 5) ∧ o.guard = none ∧ o.dst = some 69 := ⟨((regOps (g16C))[1]?).getD default, by kernel_rfl, by kernel_rfl, by kernel_rfl, by kernel_rfl⟩
  refine rt_val hJ hz hB ho hg (v := v) (fun W z => move1 hop s5.eval) (fun e he => by simp at he) ?_
  rw [hdst]
  replace s5 := s5.ne (d := 69) (u := v) (by decide)
  replace s10 := s10.ne (d := 69) (u := v) (by decide)
  replace s63 := s63.ne (d := 69) (u := v) (by decide)
  replace s64 := s64.ne (d := 69) (u := v) (by decide)
  replace s62 := s62.ne (d := 69) (u := v) (by decide)
  replace s65 := s65.ne (d := 69) (u := v) (by decide)
  replace s66 := s66.ne (d := 69) (u := v) (by decide)
  replace s12 := s12.ne (d := 69) (u := v) (by decide)
  replace s13 := s13.ne (d := 69) (u := v) (by decide)
  replace s68 := s68.ne (d := 69) (u := v) (by decide)
  have s69 : Sl (A.put (some 69) v) 69 v := Sl.same (by rw [hsz]; decide)
  replace hsz : (A.put (some 69) v).tmps.size = 101 := (put_size _ _ _).trans hsz
  replace hdf : (A.put (some 69) v).defers = [] := (put_defers _ _ _).trans hdf
  generalize A.put (some 69) v = A at *
  clear ho hop hg hdst
  have fin : ∀ O A u2 U2, A.tmps.size = 101 → A.defers = [] → SV u2 (n + n) → (∀ x, u2.ownBlock = some x → O x) → Sl A 12 va → Sl A 13 (.int .i64 0) → Sl A 70 u2 → Rt (MGo Try.prog W00 lo (AnyPost W00) n1 (fun _ => none) .ret Wg1 Bd1 0 (shR lo Gr1)) [] (base 4) (.inRegion (regOps g16C) [3, 4, 5, 6, 7, 8] :: .code (.seq g17C (.seq g18C .ret)) :: []) O A (fun W => (Keep (fun b => b < lo) W00 W ∧ ELst lo (fun b => O b ∨ b < lo) u2 (n + n) U2 (twiceL n p ls) W) ∧ REnt (fun b => O b ∨ b < lo) W va (allL n ls)) := by
    clear hz hsz hdf hU hov1 hou1 s5 s10 s63 s64 s62 s65 s66 s12 s13 s68 s69
    intro O A u2 U2 hsz hdf hsu2 hou2 s12 s13 s70
    have hz : Stable O (shR lo Gr1) fun W => (Keep (fun b => b < lo) W00 W ∧ ELst lo (fun b => O b ∨ b < lo) u2 (n + n) U2 (twiceL n p ls) W) ∧ REnt (fun b => O b ∨ b < lo) W va (allL n ls) := Stable.and (Stable.and (fun W W' hr z => z.rely hr fun b hb => .inr hb) fun W W' hr z => z.rely hr hou2 fun b hb => hb) fun W W' hr z => z.rely hr fun b hb => hb
    obtain ⟨au, cu, ru, eu, hau, hau0⟩ := hsu2.parts
    obtain ⟨o, ho, hop, hg, hdst⟩ : ∃ o, (regOps (g16C))[3]? = some o ∧ o.op = .call { callee := .value (.func 11), args := #[.tmp 70], argTypes := #[34] } ∧ o.guard = none ∧ o.dst = some 71 := ⟨((regOps (g16C))[3]?).getD default, by kernel_rfl, by kernel_rfl, by kernel_rfl, by kernel_rfl⟩
    refine rt_mergeall hz hB ho hg hop (s70.eval.trans eu) hau hau0 (by omega) (fun j hj => twice_six (fun j _ => hsix j) j hj) (fun W z hp => ?_) (fun W z j hj => (z.1.2.row.look eu hau (by omega)).2 j hj) (fun W z j hj => z.1.2.ent j hj) (fun W z => Nat.le_trans hgl z.1.1.size) (fun W z => Nat.le_trans hlo1 z.1.1.size) fun W z n3 Wg3 Bd3 Gr3 O3 vb hO3 => ?_
    · obtain ⟨⟨h1, h2⟩, _⟩ := z.1.2.row.look eu hau hp
      exact ⟨.inr (hou2 _ h1), h2⟩
    rw [all_twice fun j _ => hsix j]
    refine Rt.mono (Z' := fun W => (Keep (fun b => b < lo) W00 W ∧ REnt (fun b => O3 b ∨ b < lo) W va (allL n ls)) ∧ REnt (fun b => O3 b ∨ b < lo) W vb (allL n ls)) ?_ fun W' z' => ⟨⟨z.1.1.over hlo1 z'.1, z.2.over z'.1 hO3⟩, z'.2⟩
    clear hz hJ z hO3 hou2 hsu2 eu hau hau0
    have hJ := jud_mgo Try.prog W00 lo (AnyPost W00) n3 (fun _ => none) (tag := .ret) (by simp) Wg3 Bd3 0 (shR lo Gr3)
    have hz : Stable O3 (shR lo Gr3) fun W => (Keep (fun b => b < lo) W00 W ∧ REnt (fun b => O3 b ∨ b < lo) W va (allL n ls)) ∧ REnt (fun b => O3 b ∨ b < lo) W vb (allL n ls) := Stable.and (Stable.and (fun W W' hr z => z.rely hr fun b hb => .inr hb) fun W W' hr z => z.rely hr fun b hb => hb) fun W W' hr z => z.rely hr fun b hb => hb
    rw [hdst]
    replace s12 := s12.ne (d := 71) (u := (.tuple #[vb, .int .i64 0])) (by decide)
    replace s13 := s13.ne (d := 71) (u := (.tuple #[vb, .int .i64 0])) (by decide)
    replace s70 := s70.ne (d := 71) (u := (.tuple #[vb, .int .i64 0])) (by decide)
    have s71 : Sl (A.put (some 71) (.tuple #[vb, .int .i64 0])) 71 (.tuple #[vb, .int .i64 0]) := Sl.same (by rw [hsz]; decide)
    replace hsz : (A.put (some 71) (.tuple #[vb, .int .i64 0])).tmps.size = 101 := (put_size _ _ _).trans hsz
    replace hdf : (A.put (some 71) (.tuple #[vb, .int .i64 0])).defers = [] := (put_defers _ _ _).trans hdf
    generalize A.put (some 71) (.tuple #[vb, .int .i64 0]) = A at *
    clear ho hop hg hdst
    obtain ⟨o, ho, hop, hg, hdst⟩ : ∃ o, (regOps (g16C))[4]? = some o ∧ o.op = .move (.tmp 71) ∧ o.guard = none ∧ o.dst = some 67 := ⟨((regOps (g16C))[4]?).getD default, by kernel_rfl, by kernel_rfl, by kernel_rfl, by kernel_rfl⟩
    refine rt_val hJ hz hB ho hg (v := (.tuple #[vb, .int .i64 0])) (fun W z => move1 hop s71.eval) (fun e he => by simp at he) ?_
    rw [hdst]
    replace s12 := s12.ne (d := 67) (u := (.tuple #[vb, .int .i64 0])) (by decide)
    replace s13 := s13.ne (d := 67) (u := (.tuple #[vb, .int .i64 0])) (by decide)
    replace s70 := s70.ne (d := 67) (u := (.tuple #[vb, .int .i64 0])) (by decide)
    replace s71 := s71.ne (d := 67) (u := (.tuple #[vb, .int .i64 0])) (by decide)
    have s67 : Sl (A.put (some 67) (.tuple #[vb, .int .i64 0])) 67 (.tuple #[vb, .int .i64 0]) := Sl.same (by rw [hsz]; decide)
    replace hsz : (A.put (some 67) (.tuple #[vb, .int .i64 0])).tmps.size = 101 := (put_size _ _ _).trans hsz
    replace hdf : (A.put (some 67) (.tuple #[vb, .int .i64 0])).defers = [] := (put_defers _ _ _).trans hdf
    generalize A.put (some 67) (.tuple #[vb, .int .i64 0]) = A at *
    clear ho hop hg hdst
    obtain ⟨o, ho, hop, hg, hdst⟩ : ∃ o, (regOps (g16C))[5]? = some o ∧ o.op = .extract (.tmp 67) 0 ∧ o.guard = none ∧ o.dst = some 72 := ⟨((regOps (g16C))[5]?).getD default, by kernel_rfl, by kernel_rfl, by kernel_rfl, by kernel_rfl⟩
    refine rt_val hJ hz hB ho hg (v := vb) (fun W z => ext1 hop s67.eval rfl) (fun e he => by simp at he) ?_
    rw [hdst]
    replace s12 := s12.ne (d := 72) (u := vb) (by decide)
    replace s13 := s13.ne (d := 72) (u := vb) (by decide)
    replace s70 := s70.ne (d := 72) (u := vb) (by decide)
    replace s71 := s71.ne (d := 72) (u := vb) (by decide)
    replace s67 := s67.ne (d := 72) (u := vb) (by decide)
    have s72 : Sl (A.put (some 72) vb) 72 vb := Sl.same (by rw [hsz]; decide)
    replace hsz : (A.put (some 72) vb).tmps.size = 101 := (put_size _ _ _).trans hsz
    replace hdf : (A.put (some 72) vb).defers = [] := (put_defers _ _ _).trans hdf
    generalize A.put (some 72) vb = A at *
    clear ho hop hg hdst
    obtain ⟨o, ho, hop, hg, hdst⟩ : ∃ o, (regOps (g16C))[6]? = some o ∧ o.op = .extract (.tmp 67) 1 ∧ o.guard = none ∧ o.dst = some 73 := ⟨((regOps (g16C))[6]?).getD default, by kernel_rfl, by kernel_rfl, by kernel_rfl, by kernel_rfl⟩
    refine rt_val hJ hz hB ho hg (v := (.int .i64 0)) (fun W z => ext1 hop s67.eval rfl) (fun e he => by simp at he) ?_
    rw [hdst]
    replace s12 := s12.ne (d := 73) (u := (.int .i64 0)) (by decide)
    replace s13 := s13.ne (d := 73) (u := (.int .i64 0)) (by decide)
    replace s70 := s70.ne (d := 73) (u := (.int .i64 0)) (by decide)
    replace s71 := s71.ne (d := 73) (u := (.int .i64 0)) (by decide)
    replace s67 := s67.ne (d := 73) (u := (.int .i64 0)) (by decide)
    replace s72 := s72.ne (d := 73) (u := (.int .i64 0)) (by decide)
    have s73 : Sl (A.put (some 73) (.int .i64 0)) 73 (.int .i64 0) := Sl.same (by rw [hsz]; decide)
    replace hsz : (A.put (some 73) (.int .i64 0)).tmps.size = 101 := (put_size _ _ _).trans hsz
    replace hdf : (A.put (some 73) (.int .i64 0)).defers = [] := (put_defers _ _ _).trans hdf
    generalize A.put (some 73) (.int .i64 0) = A at *
    clear ho hop hg hdst
    obtain ⟨o, ho, hop, hg, hdst⟩ : ∃ o, (regOps (g16C))[7]? = some o ∧ o.op = .assign (.tmp 72) ∧ o.guard = none ∧ o.dst = some 14 := ⟨((regOps (g16C))[7]?).getD default, by kernel_rfl, by kernel_rfl, by kernel_rfl, by kernel_rfl⟩
    refine rt_val hJ hz hB ho hg (v := vb) (fun W z => assign1 hop s72.eval) (fun e he => by simp at he) ?_
    rw [hdst]
    replace s12 := s12.ne (d := 14) (u := vb) (by decide)
    replace s13 := s13.ne (d := 14) (u := vb) (by decide)
    replace s70 := s70.ne (d := 14) (u := vb) (by decide)
    replace s71 := s71.ne (d := 14) (u := vb) (by decide)
    replace s67 := s67.ne (d := 14) (u := vb) (by decide)
    replace s72 := s72.ne (d := 14) (u := vb) (by decide)
    replace s73 := s73.ne (d := 14) (u := vb) (by decide)
    have s14 : Sl (A.put (some 14) vb) 14 vb := Sl.same (by rw [hsz]; decide)
    replace hsz : (A.put (some 14) vb).tmps.size = 101 := (put_size _ _ _).trans hsz
    replace hdf : (A.put (some 14) vb).defers = [] := (put_defers _ _ _).trans hdf
    generalize A.put (some 14) vb = A at *
    clear ho hop hg hdst
    obtain ⟨o, ho, hop, hg, hdst⟩ : ∃ o, (regOps (g16C))[8]? = some o ∧ o.op = .assign (.tmp 73) ∧ o.guard = none ∧ o.dst = some 15 := ⟨((regOps (g16C))[8]?).getD default, by kernel_rfl, by kernel_rfl, by kernel_rfl, by kernel_rfl⟩
    refine rt_val hJ hz hB ho hg (v := (.int .i64 0)) (fun W z => assign1 hop s73.eval) (fun e he => by simp at he) ?_
    rw [hdst]
    replace s12 := s12.ne (d := 15) (u := (.int .i64 0)) (by decide)
    replace s13 := s13.ne (d := 15) (u := (.int .i64 0)) (by decide)
    replace s70 := s70.ne (d := 15) (u := (.int .i64 0)) (by decide)
    replace s71 := s71.ne (d := 15) (u := (.int .i64 0)) (by decide)
    replace s67 := s67.ne (d := 15) (u := (.int .i64 0)) (by decide)
    replace s72 := s72.ne (d := 15) (u := (.int .i64 0)) (by decide)
    replace s73 := s73.ne (d := 15) (u := (.int .i64 0)) (by decide)
    replace s14 := s14.ne (d := 15) (u := (.int .i64 0)) (by decide)
    have s15 : Sl (A.put (some 15) (.int .i64 0)) 15 (.int .i64 0) := Sl.same (by rw [hsz]; decide)
    replace hsz : (A.put (some 15) (.int .i64 0)).tmps.size = 101 := (put_size _ _ _).trans hsz
    replace hdf : (A.put (some 15) (.int .i64 0)).defers = [] := (put_defers _ _ _).trans hdf
    generalize A.put (some 15) (.int .i64 0) = A at *
    clear ho hop hg hdst
    refine rt_region_end hJ hz ?_
    refine rt_seq hJ hz ?_
    rw [show g17C = .region 17 (regOps (g17C)) false from by kernel_rfl]
    refine rt_region hJ hz ?_
    rw [show List.range (regOps (g17C)).size = [0, 1, 2, 3, 4, 5, 6, 7, 8] from by kernel_rfl]
    obtain ⟨o, ho, hop, hg, hdst⟩ : ∃ o, (regOps (g17C))[0]? = some o ∧ o.op = .build 42 #[(0, .const (.int .i64 3))] ∧ o.guard = none ∧ o.dst = some 75 := ⟨((regOps (g17C))[0]?).getD default, by kernel_rfl, by kernel_rfl, by kernel_rfl, by kernel_rfl⟩
    refine rt_val hJ hz hB ho hg (v := (eAgg e3E)) (fun W z => build3 hop rfl) (fun e he => by simp at he) ?_
    rw [hdst]
    replace s12 := s12.ne (d := 75) (u := (eAgg e3E)) (by decide)
    replace s13 := s13.ne (d := 75) (u := (eAgg e3E)) (by decide)
    replace s70 := s70.ne (d := 75) (u := (eAgg e3E)) (by decide)
    replace s71 := s71.ne (d := 75) (u := (eAgg e3E)) (by decide)
    replace s67 := s67.ne (d := 75) (u := (eAgg e3E)) (by decide)
    replace s72 := s72.ne (d := 75) (u := (eAgg e3E)) (by decide)
    replace s73 := s73.ne (d := 75) (u := (eAgg e3E)) (by decide)
    replace s14 := s14.ne (d := 75) (u := (eAgg e3E)) (by decide)
    replace s15 := s15.ne (d := 75) (u := (eAgg e3E)) (by decide)
    have s75 : Sl (A.put (some 75) (eAgg e3E)) 75 (eAgg e3E) := Sl.same (by rw [hsz]; decide)
    replace hsz : (A.put (some 75) (eAgg e3E)).tmps.size = 101 := (put_size _ _ _).trans hsz
    replace hdf : (A.put (some 75) (eAgg e3E)).defers = [] := (put_defers _ _ _).trans hdf
    generalize A.put (some 75) (eAgg e3E) = A at *
    clear ho hop hg hdst
    obtain ⟨o, ho, hop, hg, hdst⟩ : ∃ o, (regOps (g17C))[1]? = some o ∧ o.op = .buildSlice 35 1 #[(0, .tmp 75)] ∧ o.guard = none ∧ o.dst = some 76 := ⟨((regOps (g17C))[1]?).getD default, by kernel_rfl, by kernel_rfl, by kernel_rfl, by kernel_rfl⟩
    refine rt_allocv hJ hz hB ho hg (ob := .cells (eCells e3E) 42) (fun b => .slice (some ⟨b, 0, none⟩) 1 1) (fun W z => litE hop s75.eval) fun b5 hb5 => ?_
    rw [hdst]
    replace s12 := s12.ne (d := 76) (u := (.slice (some ⟨b5, 0, none⟩) 1 1)) (by decide)
    replace s13 := s13.ne (d := 76) (u := (.slice (some ⟨b5, 0, none⟩) 1 1)) (by decide)
    replace s70 := s70.ne (d := 76) (u := (.slice (some ⟨b5, 0, none⟩) 1 1)) (by decide)
    replace s71 := s71.ne (d := 76) (u := (.slice (some ⟨b5, 0, none⟩) 1 1)) (by decide)
    replace s67 := s67.ne (d := 76) (u := (.slice (some ⟨b5, 0, none⟩) 1 1)) (by decide)
    replace s72 := s72.ne (d := 76) (u := (.slice (some ⟨b5, 0, none⟩) 1 1)) (by decide)
    replace s73 := s73.ne (d := 76) (u := (.slice (some ⟨b5, 0, none⟩) 1 1)) (by decide)
    replace s14 := s14.ne (d := 76) (u := (.slice (some ⟨b5, 0, none⟩) 1 1)) (by decide)
    replace s15 := s15.ne (d := 76) (u := (.slice (some ⟨b5, 0, none⟩) 1 1)) (by decide)
    replace s75 := s75.ne (d := 76) (u := (.slice (some ⟨b5, 0, none⟩) 1 1)) (by decide)
    have s76 : Sl (A.put (some 76) (.slice (some ⟨b5, 0, none⟩) 1 1)) 76 (.slice (some ⟨b5, 0, none⟩) 1 1) := Sl.same (by rw [hsz]; decide)
    replace hsz : (A.put (some 76) (.slice (some ⟨b5, 0, none⟩) 1 1)).tmps.size = 101 := (put_size _ _ _).trans hsz
    replace hdf : (A.put (some 76) (.slice (some ⟨b5, 0, none⟩) 1 1)).defers = [] := (put_defers _ _ _).trans hdf
    generalize A.put (some 76) (.slice (some ⟨b5, 0, none⟩) 1 1) = A at *
    clear ho hop hg hdst
    have hl5 : lo ≤ b5 := by obtain ⟨W, z, rfl⟩ := hb5; exact Nat.le_trans hlo1 z.1.1.size
    clear hb5
    have hz5 : Stable (fun x => O3 x ∨ x = b5) (shR lo Gr3) fun W => ((Keep (fun b => b < lo) W00 W ∧ REnt (fun b => O3 b ∨ b < lo) W va (allL n ls)) ∧ REnt (fun b => O3 b ∨ b < lo) W vb (allL n ls)) ∧ W.heap[b5]? = some (.cells (eCells e3E) 42) := Stable.and (hz.more fun x h => .inl h) (Stable.heap (.inl (.inr rfl)))
    obtain ⟨o, ho, hop, hg, hdst⟩ : ∃ o, (regOps (g17C))[2]? = some o ∧ o.op = .buildSlice 34 2 #[(0, .const (.slice none 0 0)), (1, .tmp 76)] ∧ o.guard = none ∧ o.dst = some 77 := ⟨((regOps (g17C))[2]?).getD default, by kernel_rfl, by kernel_rfl, by kernel_rfl, by kernel_rfl⟩
    refine rt_allocv hJ hz5 hB ho hg (ob := .cells #[.slice none 0 0, .slice (some ⟨b5, 0, none⟩) 1 1] 35) (fun b => .slice (some ⟨b, 0, none⟩) 2 2) (fun W z => litL2 hop rfl s76.eval) fun b6 hb6 => ?_
    rw [hdst]
    replace s12 := s12.ne (d := 77) (u := (.slice (some ⟨b6, 0, none⟩) 2 2)) (by decide)
    replace s13 := s13.ne (d := 77) (u := (.slice (some ⟨b6, 0, none⟩) 2 2)) (by decide)
    replace s70 := s70.ne (d := 77) (u := (.slice (some ⟨b6, 0, none⟩) 2 2)) (by decide)
    replace s71 := s71.ne (d := 77) (u := (.slice (some ⟨b6, 0, none⟩) 2 2)) (by decide)
    replace s67 := s67.ne (d := 77) (u := (.slice (some ⟨b6, 0, none⟩) 2 2)) (by decide)
    replace s72 := s72.ne (d := 77) (u := (.slice (some ⟨b6, 0, none⟩) 2 2)) (by decide)
    replace s73 := s73.ne (d := 77) (u := (.slice (some ⟨b6, 0, none⟩) 2 2)) (by decide)
    replace s14 := s14.ne (d := 77) (u := (.slice (some ⟨b6, 0, none⟩) 2 2)) (by decide)
    replace s15 := s15.ne (d := 77) (u := (.slice (some ⟨b6, 0, none⟩) 2 2)) (by decide)
    replace s75 := s75.ne (d := 77) (u := (.slice (some ⟨b6, 0, none⟩) 2 2)) (by decide)
    replace s76 := s76.ne (d := 77) (u := (.slice (some ⟨b6, 0, none⟩) 2 2)) (by decide)
    have s77 : Sl (A.put (some 77) (.slice (some ⟨b6, 0, none⟩) 2 2)) 77 (.slice (some ⟨b6, 0, none⟩) 2 2) := Sl.same (by rw [hsz]; decide)
    replace hsz : (A.put (some 77) (.slice (some ⟨b6, 0, none⟩) 2 2)).tmps.size = 101 := (put_size _ _ _).trans hsz
    replace hdf : (A.put (some 77) (.slice (some ⟨b6, 0, none⟩) 2 2)).defers = [] := (put_defers _ _ _).trans hdf
    generalize A.put (some 77) (.slice (some ⟨b6, 0, none⟩) 2 2) = A at *
    clear ho hop hg hdst
    have hl6 : lo ≤ b6 := by obtain ⟨W, z, rfl⟩ := hb6; exact Nat.le_trans hlo1 z.1.1.1.size
    clear hb6
    have hz6 : Stable (fun x => (O3 x ∨ x = b5) ∨ x = b6) (shR lo Gr3) fun W => (((Keep (fun b => b < lo) W00 W ∧ REnt (fun b => O3 b ∨ b < lo) W va (allL n ls)) ∧ REnt (fun b => O3 b ∨ b < lo) W vb (allL n ls)) ∧ W.heap[b5]? = some (.cells (eCells e3E) 42)) ∧ W.heap[b6]? = some (.cells #[.slice none 0 0, .slice (some ⟨b5, 0, none⟩) 1 1] 35) := Stable.and (hz5.more fun x h => .inl h) (Stable.heap (.inl (.inr rfl)))
    obtain ⟨o, ho, hop, hg, hdst⟩ : ∃ o, (regOps (g17C))[3]? = some o ∧ o.op = .call { callee := .value (.func 11), args := #[.tmp 77], argTypes := #[34] } ∧ o.guard = none ∧ o.dst = some 78 := ⟨((regOps (g17C))[3]?).getD default, by kernel_rfl, by kernel_rfl, by kernel_rfl, by kernel_rfl⟩
    refine rt_mergeall hz6 hB ho hg hop s77.eval (rl := b6) (V := fun j => if j = 0 then .slice none 0 0 else .slice (some ⟨b5, 0, none⟩) 1 1) (ls := oneL e3E) (fun _ => rfl) (fun h => by omega) (by omega) (fun j hj => ?_) (fun W z _ => ⟨.inr (.inr rfl), _, _, _, z.2, norng0⟩) (fun W z j hj => ?_) (fun W z j hj => ?_) (fun W z => Nat.le_trans hgl z.1.1.1.1.size) (fun W z => Nat.le_trans hlo1 z.1.1.1.1.size) fun W z n7 Wg7 Bd7 Gr7 O7 vc hO7 => ?_
    · unfold oneL
      split
      · exact SixL.nil
      · exact six_e3
    · rcases (show j = 0 ∨ j = 1 from by omega) with rfl | rfl <;> simp [World.cell?, z.2]
    · rcases (show j = 0 ∨ j = 1 from by omega) with rfl | rfl
      · exact ent_nil _ _
      · exact ent_one (.inl (.inl (.inr rfl))) z.1.2
    rw [all_one]
    refine Rt.mono (Z' := fun W => ((Keep (fun b => b < lo) W00 W ∧ REnt (fun b => O7 b ∨ b < lo) W va (allL n ls)) ∧ REnt (fun b => O7 b ∨ b < lo) W vb (allL n ls)) ∧ REnt (fun b => O7 b ∨ b < lo) W vc [e3E]) ?_ fun W' z' => ⟨⟨⟨z.1.1.1.1.over hlo1 z'.1, ((z.1.1.1.2.mono fun b hb => hb.imp (fun h => .inl (.inl h)) id).over z'.1 hO7)⟩, ((z.1.1.2.mono fun b hb => hb.imp (fun h => .inl (.inl h)) id).over z'.1 hO7)⟩, z'.2⟩
    clear hz hz5 hz6 hJ z hO7
    have hJ := jud_mgo Try.prog W00 lo (AnyPost W00) n7 (fun _ => none) (tag := .ret) (by simp) Wg7 Bd7 0 (shR lo Gr7)
    have hz : Stable O7 (shR lo Gr7) fun W => ((Keep (fun b => b < lo) W00 W ∧ REnt (fun b => O7 b ∨ b < lo) W va (allL n ls)) ∧ REnt (fun b => O7 b ∨ b < lo) W vb (allL n ls)) ∧ REnt (fun b => O7 b ∨ b < lo) W vc [e3E] := Stable.and (Stable.and (Stable.and (fun W W' hr z => z.rely hr fun b hb => .inr hb) fun W W' hr z => z.rely hr fun b hb => hb) fun W W' hr z => z.rely hr fun b hb => hb) fun W W' hr z => z.rely hr fun b hb => hb
    rw [hdst]
    replace s12 := s12.ne (d := 78) (u := (.tuple #[vc, .int .i64 0])) (by decide)
    replace s13 := s13.ne (d := 78) (u := (.tuple #[vc, .int .i64 0])) (by decide)
    replace s70 := s70.ne (d := 78) (u := (.tuple #[vc, .int .i64 0])) (by decide)
    replace s71 := s71.ne (d := 78) (u := (.tuple #[vc, .int .i64 0])) (by decide)
    replace s67 := s67.ne (d := 78) (u := (.tuple #[vc, .int .i64 0])) (by decide)
    replace s72 := s72.ne (d := 78) (u := (.tuple #[vc, .int .i64 0])) (by decide)
    replace s73 := s73.ne (d := 78) (u := (.tuple #[vc, .int .i64 0])) (by decide)
    replace s14 := s14.ne (d := 78) (u := (.tuple #[vc, .int .i64 0])) (by decide)
    replace s15 := s15.ne (d := 78) (u := (.tuple #[vc, .int .i64 0])) (by decide)
    replace s75 := s75.ne (d := 78) (u := (.tuple #[vc, .int .i64 0])) (by decide)
    replace s76 := s76.ne (d := 78) (u := (.tuple #[vc, .int .i64 0])) (by decide)
    replace s77 := s77.ne (d := 78) (u := (.tuple #[vc, .int .i64 0])) (by decide)
    have s78 : Sl (A.put (some 78) (.tuple #[vc, .int .i64 0])) 78 (.tuple #[vc, .int .i64 0]) := Sl.same (by rw [hsz]; decide)
    replace hsz : (A.put (some 78) (.tuple #[vc, .int .i64 0])).tmps.size = 101 := (put_size _ _ _).trans hsz
    replace hdf : (A.put (some 78) (.tuple #[vc, .int .i64 0])).defers = [] := (put_defers _ _ _).trans hdf
    generalize A.put (some 78) (.tuple #[vc, .int .i64 0]) = A at *
    clear ho hop hg hdst
    obtain ⟨o, ho, hop, hg, hdst⟩ : ∃ o, (regOps (g17C))[4]? = some o ∧ o.op = .move (.tmp 78) ∧ o.guard = none ∧ o.dst = some 74 := ⟨((regOps (g17C))[4]?).getD default, by kernel_rfl, by kernel_rfl, by kernel_rfl, by kernel_rfl⟩
    refine rt_val hJ hz hB ho hg (v := (.tuple #[vc, .int .i64 0])) (fun W z => move1 hop s78.eval) (fun e he => by simp at he) ?_
    rw [hdst]
    replace s12 := s12.ne (d := 74) (u := (.tuple #[vc, .int .i64 0])) (by decide)
    replace s13 := s13.ne (d := 74) (u := (.tuple #[vc, .int .i64 0])) (by decide)
    replace s70 := s70.ne (d := 74) (u := (.tuple #[vc, .int .i64 0])) (by decide)
    replace s71 := s71.ne (d := 74) (u := (.tuple #[vc, .int .i64 0])) (by decide)
    replace s67 := s67.ne (d := 74) (u := (.tuple #[vc, .int .i64 0])) (by decide)
    replace s72 := s72.ne (d := 74) (u := (.tuple #[vc, .int .i64 0])) (by decide)
    replace s73 := s73.ne (d := 74) (u := (.tuple #[vc, .int .i64 0])) (by decide)
    replace s14 := s14.ne (d := 74) (u := (.tuple #[vc, .int .i64 0])) (by decide)
    replace s15 := s15.ne (d := 74) (u := (.tuple #[vc, .int .i64 0])) (by decide)
    replace s75 := s75.ne (d := 74) (u := (.tuple #[vc, .int .i64 0])) (by decide)
    replace s76 := s76.ne (d := 74) (u := (.tuple #[vc, .int .i64 0])) (by decide)
    replace s77 := s77.ne (d := 74) (u := (.tuple #[vc, .int .i64 0])) (by decide)
    replace s78 := s78.ne (d := 74) (u := (.tuple #[vc, .int .i64 0])) (by decide)
    have s74 : Sl (A.put (some 74) (.tuple #[vc, .int .i64 0])) 74 (.tuple #[vc, .int .i64 0]) := Sl.same (by rw [hsz]; decide)
    replace hsz : (A.put (some 74) (.tuple #[vc, .int .i64 0])).tmps.size = 101 := (put_size _ _ _).trans hsz
    replace hdf : (A.put (some 74) (.tuple #[vc, .int .i64 0])).defers = [] := (put_defers _ _ _).trans hdf
    generalize A.put (some 74) (.tuple #[vc, .int .i64 0]) = A at *
    clear ho hop hg hdst
    obtain ⟨o, ho, hop, hg, hdst⟩ : ∃ o, (regOps (g17C))[5]? = some o ∧ o.op = .extract (.tmp 74) 0 ∧ o.guard = none ∧ o.dst = some 79 := ⟨((regOps (g17C))[5]?).getD default, by kernel_rfl, by kernel_rfl, by kernel_rfl, by kernel_rfl⟩
    refine rt_val hJ hz hB ho hg (v := vc) (fun W z => ext1 hop s74.eval rfl) (fun e he => by simp at he) ?_
    rw [hdst]
    replace s12 := s12.ne (d := 79) (u := vc) (by decide)
    replace s13 := s13.ne (d := 79) (u := vc) (by decide)
    replace s70 := s70.ne (d := 79) (u := vc) (by decide)
    replace s71 := s71.ne (d := 79) (u := vc) (by decide)
    replace s67 := s67.ne (d := 79) (u := vc) (by decide)
    replace s72 := s72.ne (d := 79) (u := vc) (by decide)
    replace s73 := s73.ne (d := 79) (u := vc) (by decide)
    replace s14 := s14.ne (d := 79) (u := vc) (by decide)
    replace s15 := s15.ne (d := 79) (u := vc) (by decide)
    replace s75 := s75.ne (d := 79) (u := vc) (by decide)
    replace s76 := s76.ne (d := 79) (u := vc) (by decide)
    replace s77 := s77.ne (d := 79) (u := vc) (by decide)
    replace s78 := s78.ne (d := 79) (u := vc) (by decide)
    replace s74 := s74.ne (d := 79) (u := vc) (by decide)
    have s79 : Sl (A.put (some 79) vc) 79 vc := Sl.same (by rw [hsz]; decide)
    replace hsz : (A.put (some 79) vc).tmps.size = 101 := (put_size _ _ _).trans hsz
    replace hdf : (A.put (some 79) vc).defers = [] := (put_defers _ _ _).trans hdf
    generalize A.put (some 79) vc = A at *
    clear ho hop hg hdst
    obtain ⟨o, ho, hop, hg, hdst⟩ : ∃ o, (regOps (g17C))[6]? = some o ∧ o.op = .extract (.tmp 74) 1 ∧ o.guard = none ∧ o.dst = some 80 := ⟨((regOps (g17C))[6]?).getD default, by kernel_rfl, by kernel_rfl, by kernel_rfl, by kernel_rfl⟩
    refine rt_val hJ hz hB ho hg (v := (.int .i64 0)) (fun W z => ext1 hop s74.eval rfl) (fun e he => by simp at he) ?_
    rw [hdst]
    replace s12 := s12.ne (d := 80) (u := (.int .i64 0)) (by decide)
    replace s13 := s13.ne (d := 80) (u := (.int .i64 0)) (by decide)
    replace s70 := s70.ne (d := 80) (u := (.int .i64 0)) (by decide)
    replace s71 := s71.ne (d := 80) (u := (.int .i64 0)) (by decide)
    replace s67 := s67.ne (d := 80) (u := (.int .i64 0)) (by decide)
    replace s72 := s72.ne (d := 80) (u := (.int .i64 0)) (by decide)
    replace s73 := s73.ne (d := 80) (u := (.int .i64 0)) (by decide)
    replace s14 := s14.ne (d := 80) (u := (.int .i64 0)) (by decide)
    replace s15 := s15.ne (d := 80) (u := (.int .i64 0)) (by decide)
    replace s75 := s75.ne (d := 80) (u := (.int .i64 0)) (by decide)
    replace s76 := s76.ne (d := 80) (u := (.int .i64 0)) (by decide)
    replace s77 := s77.ne (d := 80) (u := (.int .i64 0)) (by decide)
    replace s78 := s78.ne (d := 80) (u := (.int .i64 0)) (by decide)
    replace s74 := s74.ne (d := 80) (u := (.int .i64 0)) (by decide)
    replace s79 := s79.ne (d := 80) (u := (.int .i64 0)) (by decide)
    have s80 : Sl (A.put (some 80) (.int .i64 0)) 80 (.int .i64 0) := Sl.same (by rw [hsz]; decide)
    replace hsz : (A.put (some 80) (.int .i64 0)).tmps.size = 101 := (put_size _ _ _).trans hsz
    replace hdf : (A.put (some 80) (.int .i64 0)).defers = [] := (put_defers _ _ _).trans hdf
    generalize A.put (some 80) (.int .i64 0) = A at *
    clear ho hop hg hdst
    obtain ⟨o, ho, hop, hg, hdst⟩ : ∃ o, (regOps (g17C))[7]? = some o ∧ o.op = .assign (.tmp 79) ∧ o.guard = none ∧ o.dst = some 16 := ⟨((regOps (g17C))[7]?).getD default, by kernel_rfl, by kernel_rfl, by kernel_rfl, by kernel_rfl⟩
    refine rt_val hJ hz hB ho hg (v := vc) (fun W z => assign1 hop s79.eval) (fun e he => by simp at he) ?_
    rw [hdst]
    replace s12 := s12.ne (d := 16) (u := vc) (by decide)
    replace s13 := s13.ne (d := 16) (u := vc) (by decide)
    replace s70 := s70.ne (d := 16) (u := vc) (by decide)
    replace s71 := s71.ne (d := 16) (u := vc) (by decide)
    replace s67 := s67.ne (d := 16) (u := vc) (by decide)
    replace s72 := s72.ne (d := 16) (u := vc) (by decide)
    replace s73 := s73.ne (d := 16) (u := vc) (by decide)
    replace s14 := s14.ne (d := 16) (u := vc) (by decide)
    replace s15 := s15.ne (d := 16) (u := vc) (by decide)
    replace s75 := s75.ne (d := 16) (u := vc) (by decide)
    replace s76 := s76.ne (d := 16) (u := vc) (by decide)
    replace s77 := s77.ne (d := 16) (u := vc) (by decide)
    replace s78 := s78.ne (d := 16) (u := vc) (by decide)
    replace s74 := s74.ne (d := 16) (u := vc) (by decide)
    replace s79 := s79.ne (d := 16) (u := vc) (by decide)
    replace s80 := s80.ne (d := 16) (u := vc) (by decide)
    have s16 : Sl (A.put (some 16) vc) 16 vc := Sl.same (by rw [hsz]; decide)
    replace hsz : (A.put (some 16) vc).tmps.size = 101 := (put_size _ _ _).trans hsz
    replace hdf : (A.put (some 16) vc).defers = [] := (put_defers _ _ _).trans hdf
    generalize A.put (some 16) vc = A at *
    clear ho hop hg hdst
    obtain ⟨o, ho, hop, hg, hdst⟩ : ∃ o, (regOps (g17C))[8]? = some o ∧ o.op = .assign (.tmp 80) ∧ o.guard = none ∧ o.dst = some 17 := ⟨((regOps (g17C))[8]?).getD default, by kernel_rfl, by kernel_rfl, by kernel_rfl, by kernel_rfl⟩
    refine rt_val hJ hz hB ho hg (v := (.int .i64 0)) (fun W z => assign1 hop s80.eval) (fun e he => by simp at he) ?_
    rw [hdst]
    replace s12 := s12.ne (d := 17) (u := (.int .i64 0)) (by decide)
    replace s13 := s13.ne (d := 17) (u := (.int .i64 0)) (by decide)
    replace s70 := s70.ne (d := 17) (u := (.int .i64 0)) (by decide)
    replace s71 := s71.ne (d := 17) (u := (.int .i64 0)) (by decide)
    replace s67 := s67.ne (d := 17) (u := (.int .i64 0)) (by decide)
    replace s72 := s72.ne (d := 17) (u := (.int .i64 0)) (by decide)
    replace s73 := s73.ne (d := 17) (u := (.int .i64 0)) (by decide)
    replace s14 := s14.ne (d := 17) (u := (.int .i64 0)) (by decide)
    replace s15 := s15.ne (d := 17) (u := (.int .i64 0)) (by decide)
    replace s75 := s75.ne (d := 17) (u := (.int .i64 0)) (by decide)
    replace s76 := s76.ne (d := 17) (u := (.int .i64 0)) (by decide)
    replace s77 := s77.ne (d := 17) (u := (.int .i64 0)) (by decide)
    replace s78 := s78.ne (d := 17) (u := (.int .i64 0)) (by decide)
    replace s74 := s74.ne (d := 17) (u := (.int .i64 0)) (by decide)
    replace s79 := s79.ne (d := 17) (u := (.int .i64 0)) (by decide)
    replace s80 := s80.ne (d := 17) (u := (.int .i64 0)) (by decide)
    replace s16 := s16.ne (d := 17) (u := (.int .i64 0)) (by decide)
    have s17 : Sl (A.put (some 17) (.int .i64 0)) 17 (.int .i64 0) := Sl.same (by rw [hsz]; decide)
    replace hsz : (A.put (some 17) (.int .i64 0)).tmps.size = 101 := (put_size _ _ _).trans hsz
    replace hdf : (A.put (some 17) (.int .i64 0)).defers = [] := (put_defers _ _ _).trans hdf
    generalize A.put (some 17) (.int .i64 0) = A at *
    clear ho hop hg hdst
    refine rt_region_end hJ hz ?_
    exact any_end hlo hgl hsz hdf s12 s13 s14 s15 s16 s17
  intro Wx zx
  have hVs : ∀ j, j < n → IsSl (V j) := fun j hj => by obtain ⟨a, c, e⟩ := (zx.1.1.2.ent j hj).sl; exact ⟨_, _, _, e⟩
  refine (show Rt (MGo Try.prog W00 lo (AnyPost W00) n1 (fun _ => none) .ret Wg1 Bd1 0 (shR lo Gr1)) [] (base 4) _ O1 A (fun W => ((Keep (fun b => b < lo) W00 W ∧ ELst lo (fun b => O1 b ∨ b < lo) v n V ls W) ∧ SRow lo W u n U) ∧ REnt (fun b => O1 b ∨ b < lo) W va (allL n ls)) from ?_) Wx zx
  clear zx
  rcases Nat.eq_zero_or_pos n with rfl | hn0
  ·
    obtain rfl : u = .slice none 0 0 := by rcases hsu with ⟨_, h⟩ | ⟨h, _⟩; exact h; omega
    obtain rfl : v = .slice none 0 0 := by rcases hsv with ⟨_, h⟩ | ⟨h, _⟩; exact h; omega
    obtain ⟨o, ho, hop, hg, hdst⟩ : ∃ o, (regOps (g16C))[2]? = some o ∧ o.op = .call { callee := .builtin .append, args := #[.tmp 68, .tmp 69], argTypes := #[34, 34] } ∧ o.guard = none ∧ o.dst = some 70 := ⟨((regOps (g16C))[2]?).getD default, by kernel_rfl, by kernel_rfl, by kernel_rfl, by kernel_rfl⟩
    refine rt_val hJ hz hB ho hg (v := (.slice none 0 0)) (fun W z => app_none (lo := lo) (n := 0) (V := U) hop s68.eval s69.eval ⟨.inl ⟨rfl, rfl⟩⟩) (fun e he => by simp at he) ?_
    rw [hdst]
    replace s5 := s5.ne (d := 70) (u := (.slice none 0 0)) (by decide)
    replace s10 := s10.ne (d := 70) (u := (.slice none 0 0)) (by decide)
    replace s63 := s63.ne (d := 70) (u := (.slice none 0 0)) (by decide)
    replace s64 := s64.ne (d := 70) (u := (.slice none 0 0)) (by decide)
    replace s62 := s62.ne (d := 70) (u := (.slice none 0 0)) (by decide)
    replace s65 := s65.ne (d := 70) (u := (.slice none 0 0)) (by decide)
    replace s66 := s66.ne (d := 70) (u := (.slice none 0 0)) (by decide)
    replace s12 := s12.ne (d := 70) (u := (.slice none 0 0)) (by decide)
    replace s13 := s13.ne (d := 70) (u := (.slice none 0 0)) (by decide)
    replace s68 := s68.ne (d := 70) (u := (.slice none 0 0)) (by decide)
    replace s69 := s69.ne (d := 70) (u := (.slice none 0 0)) (by decide)
    have s70 : Sl (A.put (some 70) (.slice none 0 0)) 70 (.slice none 0 0) := Sl.same (by rw [hsz]; decide)
    replace hsz : (A.put (some 70) (.slice none 0 0)).tmps.size = 101 := (put_size _ _ _).trans hsz
    replace hdf : (A.put (some 70) (.slice none 0 0)).defers = [] := (put_defers _ _ _).trans hdf
    generalize A.put (some 70) (.slice none 0 0) = A at *
    clear ho hop hg hdst
    refine Rt.mono (Z' := fun W => (Keep (fun b => b < lo) W00 W ∧ ELst lo (fun b => O1 b ∨ b < lo) (.slice none 0 0) (0 + 0) U (twiceL 0 p ls) W) ∧ REnt (fun b => O1 b ∨ b < lo) W va (allL 0 ls)) ?_ fun W z => ⟨⟨z.1.1.1, ⟨⟨.inl ⟨rfl, rfl⟩⟩, fun j hj => by omega⟩⟩, z.2⟩
    exact fin O1 A _ U hsz hdf (.inl ⟨rfl, rfl⟩) (fun x hx => by cases hx) s12 s13 s70
  ·
    obtain ⟨g, rfl⟩ : ∃ g, av = some ⟨g, 0, none⟩ := ⟨rv, hav hn0⟩
    have hgv : v.ownBlock = some g := by rw [ev]; rfl
    obtain ⟨o, ho, hop, hg, hdst⟩ : ∃ o, (regOps (g16C))[2]? = some o ∧ o.op = .call { callee := .builtin .append, args := #[.tmp 68, .tmp 69], argTypes := #[34, 34] } ∧ o.guard = none ∧ o.dst = some 70 := ⟨((regOps (g16C))[2]?).getD default, by kernel_rfl, by kernel_rfl, by kernel_rfl, by kernel_rfl⟩
    refine rt_append hJ hz hB ho hg hop (lo := lo) (n := n) (V := U) (news := (List.range n).map V) s68.eval (s69.eval.trans ev) (fun W z => z.1.2) hn0 (by simp) (fun W z j x hu => ?_) (fun x hu => ?_) (by omega) (fun W z => Nat.le_trans hlo1 z.1.1.1.size) hou1 (.inl (hov1 g hgv)) fun W z u2 T O4 r1 r2 r3 r4 r5 r6 => ?_
    · obtain ⟨hjk, rfl⟩ : j < n ∧ V j = x := by
        simp only [List.getElem?_map, Option.map_eq_some_iff] at hu
        obtain ⟨i, hi, rfl⟩ := hu
        obtain ⟨h1, h2⟩ := List.getElem?_eq_some_iff.1 hi
        simp at h1 h2
        subst h2
        exact ⟨h1, rfl⟩
      rw [Nat.zero_add]
      have hr := z.1.1.2.row
      rw [ev] at hr
      exact hr.cell hjk
    · simp only [List.mem_map, List.mem_range] at hu
      obtain ⟨j, hj, rfl⟩ := hu
      exact hVs j hj
    have hlou : ∀ b, some b = u.ownBlock → lo ≤ b := fun b e => by
      rcases z.1.2.row with ⟨e', _⟩ | ⟨g', c, cc, e', hg', _⟩
      · rw [e'] at e; cases e
      · rw [e'] at e; have e2 : b = g' := Option.some.inj e; omega
    have hkeep : Keep (fun b => b < lo) W00 T := ⟨Nat.le_trans z.1.1.1.size r6, fun b o hb ho => by
      rw [r5 b (fun e => by have := hlou b e; omega) (Nat.lt_of_lt_of_le hb (Nat.le_trans hlo1 z.1.1.1.size))]
      exact z.1.1.1.heap b o hb ho⟩
    have hO14 : ∀ b, (O1 b ∨ b < lo) → O4 b ∨ b < lo := fun b hb => hb.imp (r2 b) id
    have hel : ELst lo (fun b => O4 b ∨ b < lo) u2 (n + n) (fun j => if j < n then U j else ((List.range n).map V).getD (j - n) undef) (twiceL n p ls) T := ⟨r1, fun j hj => by
      unfold twiceL
      by_cases hjn : j < n
      · simp only [hjn, if_true]
        rw [hU j hjn]
        exact r4 _ _ _ ((z.1.1.2.ent _ (Nat.mod_lt _ hn0)).mono hO14)
      · simp only [hjn, if_false]
        rw [List.getD_eq_getElem?_getD, List.getElem?_map, List.getElem?_range (by omega)]
        exact r4 _ _ _ ((z.1.1.2.ent _ (by omega)).mono hO14)⟩
    have hva := r4 _ _ _ (z.2.mono hO14)
    have hsu2 := r1.sv (by omega)
    clear r1 r2 r4 r5 r6 z hlou hO14
    rw [hdst]
    replace s5 := s5.ne (d := 70) (u := u2) (by decide)
    replace s10 := s10.ne (d := 70) (u := u2) (by decide)
    replace s63 := s63.ne (d := 70) (u := u2) (by decide)
    replace s64 := s64.ne (d := 70) (u := u2) (by decide)
    replace s62 := s62.ne (d := 70) (u := u2) (by decide)
    replace s65 := s65.ne (d := 70) (u := u2) (by decide)
    replace s66 := s66.ne (d := 70) (u := u2) (by decide)
    replace s12 := s12.ne (d := 70) (u := u2) (by decide)
    replace s13 := s13.ne (d := 70) (u := u2) (by decide)
    replace s68 := s68.ne (d := 70) (u := u2) (by decide)
    replace s69 := s69.ne (d := 70) (u := u2) (by decide)
    have s70 : Sl (A.put (some 70) u2) 70 u2 := Sl.same (by rw [hsz]; decide)
    replace hsz : (A.put (some 70) u2).tmps.size = 101 := (put_size _ _ _).trans hsz
    replace hdf : (A.put (some 70) u2).defers = [] := (put_defers _ _ _).trans hdf
    generalize A.put (some 70) u2 = A at *
    clear ho hop hg hdst
    exact fin O4 A u2 _ hsz hdf hsu2 r3 s12 s13 s70 T ⟨⟨hkeep, hel⟩, hva⟩
set_option maxRecDepth 100000 in
set_option maxHeartbeats 32000000 in
/-- CrewAny, from its start. -/
theorem any_all {lo : Nat} (hlo : W00.heap.size = lo) (hgl : Try.prog.globals.size ≤ W00.heap.size) {A : Act} {vl : Option Addr} {m cap : Nat} {lls : Nat → List Ent} {tn : Int} (hN : NNRow lo vl m lls W00) (hsz : A.tmps.size = 101) (hdf : A.defers = []) (s0 : Sl A 0 (.slice vl m cap)) (s1 : Sl A 1 (.int .i64 tn)) :
    Rt (MGo Try.prog W00 lo (AnyPost W00) 0 (fun _ => none) .ret 0 0 0 (shR lo fun _ => False)) [] (base 4) [.code cCA] (fun _ => False) A (Keep (fun b => b < lo) W00) := by
  have hB : (base 4).kind ≠ .early := by simp [base]
  have hJ := jud_mgo Try.prog W00 lo (AnyPost W00) 0 (fun _ => none) (tag := .ret) (by simp) 0 0 0 (shR lo fun _ => False)
  have hz : Stable (fun _ => False) (shR lo fun _ => False) (Keep (fun b => b < lo) W00) := fun W W' hr z => z.rely hr fun b hb => .inr hb
  have hlo1 : lo ≤ W00.heap.size := Nat.le_of_eq hlo.symm
  rw [show (Item.code cCA : Item) = _ from congrArg Item.code cCA_eq]
  refine rt_seq hJ hz ?_
  rw [show g0C = .region 0 (regOps (g0C)) false from by kernel_rfl]
  refine rt_region hJ hz ?_
  rw [show List.range (regOps (g0C)).size = [0] from by kernel_rfl]
  obtain ⟨o, ho, hop, hg, hdst⟩ : ∃ o, (regOps (g0C))[0]? = some o ∧ o.op = .assign (.const (.bool false)) ∧ o.guard = none ∧ o.dst = some 4 := ⟨((regOps (g0C))[0]?).getD default, by kernel_rfl, by kernel_rfl, by kernel_rfl, by kernel_rfl⟩
  refine rt_val hJ hz hB ho hg (v := (.bool false)) (fun W z => assign1 hop rfl) (fun e he => by simp at he) ?_
  rw [hdst]
  replace s0 := s0.ne (d := 4) (u := (.bool false)) (by decide)
  replace s1 := s1.ne (d := 4) (u := (.bool false)) (by decide)
  have s4 : Sl (A.put (some 4) (.bool false)) 4 (.bool false) := Sl.same (by rw [hsz]; decide)
  replace hsz : (A.put (some 4) (.bool false)).tmps.size = 101 := (put_size _ _ _).trans hsz
  replace hdf : (A.put (some 4) (.bool false)).defers = [] := (put_defers _ _ _).trans hdf
  generalize A.put (some 4) (.bool false) = A at *
  clear ho hop hg hdst
  refine rt_region_end hJ hz ?_
  refine rt_seq hJ hz ?_
  rw [show g1C = .region 1 (regOps (g1C)) false from by kernel_rfl]
  refine rt_region hJ hz ?_
  rw [show List.range (regOps (g1C)).size = [0] from by kernel_rfl]
  obtain ⟨o, ho, hop, hg, hdst⟩ : ∃ o, (regOps (g1C))[0]? = some o ∧ o.op = .assign (.const (.slice none 0 0)) ∧ o.guard = none ∧ o.dst = some 5 := ⟨((regOps (g1C))[0]?).getD default, by kernel_rfl, by kernel_rfl, by kernel_rfl, by kernel_rfl⟩
  refine rt_val hJ hz hB ho hg (v := (.slice none 0 0)) (fun W z => assign1 hop rfl) (fun e he => by simp at he) ?_
  rw [hdst]
  replace s0 := s0.ne (d := 5) (u := (.slice none 0 0)) (by decide)
  replace s1 := s1.ne (d := 5) (u := (.slice none 0 0)) (by decide)
  replace s4 := s4.ne (d := 5) (u := (.slice none 0 0)) (by decide)
  have s5 : Sl (A.put (some 5) (.slice none 0 0)) 5 (.slice none 0 0) := Sl.same (by rw [hsz]; decide)
  replace hsz : (A.put (some 5) (.slice none 0 0)).tmps.size = 101 := (put_size _ _ _).trans hsz
  replace hdf : (A.put (some 5) (.slice none 0 0)).defers = [] := (put_defers _ _ _).trans hdf
  generalize A.put (some 5) (.slice none 0 0) = A at *
  clear ho hop hg hdst
  refine rt_region_end hJ hz ?_
  refine rt_seq hJ hz ?_
  refine rt_seq hJ hz ?_
  rw [show g2C = .region 2 (regOps (g2C)) false from by kernel_rfl]
  refine rt_region hJ hz ?_
  rw [show List.range (regOps (g2C)).size = [0] from by kernel_rfl]
  obtain ⟨o, ho, hop, hg, hdst⟩ : ∃ o, (regOps (g2C))[0]? = some o ∧ o.op = .assign (.const (.int .i64 0)) ∧ o.guard = none ∧ o.dst = some 6 := ⟨((regOps (g2C))[0]?).getD default, by kernel_rfl, by kernel_rfl, by kernel_rfl, by kernel_rfl⟩
  refine rt_val hJ hz hB ho hg (v := (.int .i64 ((0 : Nat) : Int))) (fun W z => assign1 hop rfl) (fun e he => by simp at he) ?_
  rw [hdst]
  replace s0 := s0.ne (d := 6) (u := (.int .i64 ((0 : Nat) : Int))) (by decide)
  replace s1 := s1.ne (d := 6) (u := (.int .i64 ((0 : Nat) : Int))) (by decide)
  replace s4 := s4.ne (d := 6) (u := (.int .i64 ((0 : Nat) : Int))) (by decide)
  replace s5 := s5.ne (d := 6) (u := (.int .i64 ((0 : Nat) : Int))) (by decide)
  have s6 : Sl (A.put (some 6) (.int .i64 ((0 : Nat) : Int))) 6 (.int .i64 ((0 : Nat) : Int)) := Sl.same (by rw [hsz]; decide)
  replace hsz : (A.put (some 6) (.int .i64 ((0 : Nat) : Int))).tmps.size = 101 := (put_size _ _ _).trans hsz
  replace hdf : (A.put (some 6) (.int .i64 ((0 : Nat) : Int))).defers = [] := (put_defers _ _ _).trans hdf
  generalize A.put (some 6) (.int .i64 ((0 : Nat) : Int)) = A at *
  clear ho hop hg hdst
  refine rt_region_end hJ hz ?_
  refine rt_block hJ hz ?_
  refine rt_loop hJ hz ?_
  refine Rt.mono (Z' := fun W => Keep (fun b => b < lo) W00 W ∧ ELst lo (fun b => (fun _ => False) b ∨ b < lo) (.slice none 0 0) 0 (fun _ => undef) (fun j => entsOf (lls j)) W) ?_ fun W z => ⟨z, ⟨.inl ⟨rfl, rfl⟩⟩, fun j hj => absurd hj (Nat.not_lt_zero j)⟩
  refine es_loop hJ hN hgl hlo1 (fun O A v V n hn hsz hdf hsv hown s1 s5 => ?_) 12 0 (fun _ => False) A (.slice none 0 0) (fun _ => undef) rfl (by omega) (Nat.zero_le _) hsz hdf (.inl ⟨rfl, rfl⟩) (fun g hg => by cases hg) s0 s1 s5 s6
  clear s0 s4 s6 hz
  have hn12 := hn.1
  have hz : Stable O (shR lo fun _ => False) fun W => Keep (fun b => b < lo) W00 W ∧ ELst lo (fun b => O b ∨ b < lo) v n V (fun j => entsOf (lls j)) W := Stable.and (fun W W' hr z => z.rely hr fun b hb => .inr hb) fun W W' hr z => z.rely hr hown fun b hb => hb
  obtain ⟨a0, c0, r0, e0, h0, h00⟩ := hsv.parts
  rw [show (Item.code t9C : Item) = _ from congrArg Item.code t9C_eq]
  refine rt_seq hJ hz ?_
  rw [show g9C = .region 9 (regOps (g9C)) false from by kernel_rfl]
  refine rt_region hJ hz ?_
  rw [show List.range (regOps (g9C)).size = [0, 1, 2] from by kernel_rfl]
  obtain ⟨o, ho, hop, hg, hdst⟩ : ∃ o, (regOps (g9C))[0]? = some o ∧ o.op = .move (.tmp 5) ∧ o.guard = none ∧ o.dst = some 42 := ⟨((regOps (g9C))[0]?).getD default, by kernel_rfl, by kernel_rfl, by kernel_rfl, by kernel_rfl⟩
  refine rt_val hJ hz hB ho hg (v := v) (fun W z => move1 hop s5.eval) (fun e he => by simp at he) ?_
  rw [hdst]
  replace s1 := s1.ne (d := 42) (u := v) (by decide)
  replace s5 := s5.ne (d := 42) (u := v) (by decide)
  have s42 : Sl (A.put (some 42) v) 42 v := Sl.same (by rw [hsz]; decide)
  replace hsz : (A.put (some 42) v).tmps.size = 101 := (put_size _ _ _).trans hsz
  replace hdf : (A.put (some 42) v).defers = [] := (put_defers _ _ _).trans hdf
  generalize A.put (some 42) v = A at *
  clear ho hop hg hdst
  obtain ⟨o, ho, hop, hg, hdst⟩ : ∃ o, (regOps (g9C))[1]? = some o ∧ o.op = .call { callee := .builtin .len, args := #[.tmp 42], argTypes := #[34] } ∧ o.guard = none ∧ o.dst = some 43 := ⟨((regOps (g9C))[1]?).getD default, by kernel_rfl, by kernel_rfl, by kernel_rfl, by kernel_rfl⟩
  refine rt_val hJ hz hB ho hg (v := (.int .i64 n)) (fun W z => lenLL hop (s42.eval.trans e0)) (fun e he => by simp at he) ?_
  rw [hdst]
  replace s1 := s1.ne (d := 43) (u := (.int .i64 n)) (by decide)
  replace s5 := s5.ne (d := 43) (u := (.int .i64 n)) (by decide)
  replace s42 := s42.ne (d := 43) (u := (.int .i64 n)) (by decide)
  have s43 : Sl (A.put (some 43) (.int .i64 n)) 43 (.int .i64 n) := Sl.same (by rw [hsz]; decide)
  replace hsz : (A.put (some 43) (.int .i64 n)).tmps.size = 101 := (put_size _ _ _).trans hsz
  replace hdf : (A.put (some 43) (.int .i64 n)).defers = [] := (put_defers _ _ _).trans hdf
  generalize A.put (some 43) (.int .i64 n) = A at *
  clear ho hop hg hdst
  obtain ⟨o, ho, hop, hg, hdst⟩ : ∃ o, (regOps (g9C))[2]? = some o ∧ o.op = .assign (.tmp 43) ∧ o.guard = none ∧ o.dst = some 9 := ⟨((regOps (g9C))[2]?).getD default, by kernel_rfl, by kernel_rfl, by kernel_rfl, by kernel_rfl⟩
  refine rt_val hJ hz hB ho hg (v := (.int .i64 n)) (fun W z => assign1 hop s43.eval) (fun e he => by simp at he) ?_
  rw [hdst]
  replace s1 := s1.ne (d := 9) (u := (.int .i64 n)) (by decide)
  replace s5 := s5.ne (d := 9) (u := (.int .i64 n)) (by decide)
  replace s42 := s42.ne (d := 9) (u := (.int .i64 n)) (by decide)
  replace s43 := s43.ne (d := 9) (u := (.int .i64 n)) (by decide)
  have s9 : Sl (A.put (some 9) (.int .i64 n)) 9 (.int .i64 n) := Sl.same (by rw [hsz]; decide)
  replace hsz : (A.put (some 9) (.int .i64 n)).tmps.size = 101 := (put_size _ _ _).trans hsz
  replace hdf : (A.put (some 9) (.int .i64 n)).defers = [] := (put_defers _ _ _).trans hdf
  generalize A.put (some 9) (.int .i64 n) = A at *
  clear ho hop hg hdst
  refine rt_region_end hJ hz ?_
  refine rt_seq hJ hz ?_
  rw [show g10C = .region 10 (regOps (g10C)) false from by kernel_rfl]
  refine rt_region hJ hz ?_
  rw [show List.range (regOps (g10C)).size = [0] from by kernel_rfl]
  obtain ⟨o, ho, hop, hg, hdst⟩ : ∃ o, (regOps (g10C))[0]? = some o ∧ o.op = .assign (.const (.slice none 0 0)) ∧ o.guard = none ∧ o.dst = some 10 := ⟨((regOps (g10C))[0]?).getD default, by kernel_rfl, by kernel_rfl, by kernel_rfl, by kernel_rfl⟩
  refine rt_val hJ hz hB ho hg (v := (.slice none 0 0)) (fun W z => assign1 hop rfl) (fun e he => by simp at he) ?_
  rw [hdst]
  replace s1 := s1.ne (d := 10) (u := (.slice none 0 0)) (by decide)
  replace s5 := s5.ne (d := 10) (u := (.slice none 0 0)) (by decide)
  replace s42 := s42.ne (d := 10) (u := (.slice none 0 0)) (by decide)
  replace s43 := s43.ne (d := 10) (u := (.slice none 0 0)) (by decide)
  replace s9 := s9.ne (d := 10) (u := (.slice none 0 0)) (by decide)
  have s10 : Sl (A.put (some 10) (.slice none 0 0)) 10 (.slice none 0 0) := Sl.same (by rw [hsz]; decide)
  replace hsz : (A.put (some 10) (.slice none 0 0)).tmps.size = 101 := (put_size _ _ _).trans hsz
  replace hdf : (A.put (some 10) (.slice none 0 0)).defers = [] := (put_defers _ _ _).trans hdf
  generalize A.put (some 10) (.slice none 0 0) = A at *
  clear ho hop hg hdst
  refine rt_region_end hJ hz ?_
  refine rt_seq hJ hz ?_
  refine rt_seq hJ hz ?_
  rw [show g11C = .region 11 (regOps (g11C)) false from by kernel_rfl]
  refine rt_region hJ hz ?_
  rw [show List.range (regOps (g11C)).size = [0] from by kernel_rfl]
  obtain ⟨o, ho, hop, hg, hdst⟩ : ∃ o, (regOps (g11C))[0]? = some o ∧ o.op = .assign (.const (.int .i64 0)) ∧ o.guard = none ∧ o.dst = some 11 := ⟨((regOps (g11C))[0]?).getD default, by kernel_rfl, by kernel_rfl, by kernel_rfl, by kernel_rfl⟩
  refine rt_val hJ hz hB ho hg (v := (.int .i64 ((0 : Nat) : Int))) (fun W z => assign1 hop rfl) (fun e he => by simp at he) ?_
  rw [hdst]
  replace s1 := s1.ne (d := 11) (u := (.int .i64 ((0 : Nat) : Int))) (by decide)
  replace s5 := s5.ne (d := 11) (u := (.int .i64 ((0 : Nat) : Int))) (by decide)
  replace s42 := s42.ne (d := 11) (u := (.int .i64 ((0 : Nat) : Int))) (by decide)
  replace s43 := s43.ne (d := 11) (u := (.int .i64 ((0 : Nat) : Int))) (by decide)
  replace s9 := s9.ne (d := 11) (u := (.int .i64 ((0 : Nat) : Int))) (by decide)
  replace s10 := s10.ne (d := 11) (u := (.int .i64 ((0 : Nat) : Int))) (by decide)
  have s11 : Sl (A.put (some 11) (.int .i64 ((0 : Nat) : Int))) 11 (.int .i64 ((0 : Nat) : Int)) := Sl.same (by rw [hsz]; decide)
  replace hsz : (A.put (some 11) (.int .i64 ((0 : Nat) : Int))).tmps.size = 101 := (put_size _ _ _).trans hsz
  replace hdf : (A.put (some 11) (.int .i64 ((0 : Nat) : Int))).defers = [] := (put_defers _ _ _).trans hdf
  generalize A.put (some 11) (.int .i64 ((0 : Nat) : Int)) = A at *
  clear ho hop hg hdst
  refine rt_region_end hJ hz ?_
  refine rt_block hJ hz ?_
  refine rt_loop hJ hz ?_
  obtain ⟨p, hp⟩ : ∃ p : Nat, 0 < n → pick tn n = (p : Int) ∧ p < n := ⟨(pick tn n).toNat, fun h => by have := pick_bd tn n (by omega); omega⟩
  refine Rt.mono (Z' := fun W => (Keep (fun b => b < lo) W00 W ∧ ELst lo (fun b => O b ∨ b < lo) v n V (fun j => entsOf (lls j)) W) ∧ SRow lo W (.slice none 0 0) 0 (fun _ => undef)) ?_ fun W z => ⟨z, ⟨.inl ⟨rfl, rfl⟩⟩⟩
  refine other_loop hJ hn12 hp hsv hgl hlo1 (fun O2 A2 u U hsz2 hdf2 hsu hov hou hU s5' s10' => ?_) n 0 O A (.slice none 0 0) (fun _ => undef) rfl (Nat.zero_le _) hsz hdf (.inl ⟨rfl, rfl⟩) hown (fun g hg => by cases hg) (fun j hj => absurd hj (Nat.not_lt_zero j)) s1 s5 s9 s10 s11
  exact any_merges hlo hgl hn12 (fun j => entsOf_six (lls j)) hsz2 hdf2 hsv hsu hov hou hU s5' s10'
end
end Go.Proofs.Ytkodpijedinanaa.Sim
