/- CrewAny: whatever the input, and on every schedule, it returns true, without a data race; the arguments read as they did. No condition. -/
import Derived.Conc.LeavingOf
import Derived.Test.YtkodpijedinanaaKaw
namespace Go.Proofs.Ytkodpijedinanaa.crewAny
open Go.ChangeShapes Go.WideShapes Go.ChangeAt Go.RowKit Go.Conc
set_option linter.unusedVariables false

theorem own : ownKnob Try.prog.godebug = none := by kernel_rfl
theorem laidOut : laidOutB Try.prog = true := by kernel_rfl
set_option maxRecDepth 100000 in
theorem lifted (os : Os) (started : os.Started) (H : Type) (enc : TypeId × Value → H) :
    ReturnsInLeavingWide {} Try.checked os 4 .any (Rows.crewAnySpec.pre6 enc Try.prog Try.f4 Rows.crewAnyRow.domain false) (Rows.crewAnySpec.post enc Try.prog Try.f4 false true false false) := by
  refine returnsInLeavingWide_of_change_sized (C := Try.checked) own started Try.func4
    (ChangeSpec.witness6 (enc := enc) (C := Try.checked) false ⟨#[], #[.slice none 0 0, .int .i64 0], []⟩ 8 (by kernel_rfl) (by kernel_rfl) (by kernel_rfl) (by kernel_rfl)) ?_
  intro W base args ds gs before hval0 hW hcnd _ hholds
  have hval : ∀ (j : Nat) t v, Try.f4.params[j]? = some t → args[j]? = some v → Value.okWide Try.prog W .any base t v := hval0
  have hW' := hW
  obtain ⟨p, q, hA0, hV, rfl, hfz, hnd⟩ := hW
  have hA : DataW.TrodAll enc Try.prog W 0 (fun _ => true) true Try.f4.params.toList args.toList ds p := hA0
  have hlt : ∀ x ∈ p, x.block < W.heap.size := fun x hx => hW'.lt x (List.mem_append_left _ hx)
  have hAk := hA
  rw [Try.params4] at hA hval
  obtain ⟨v0, vs0, d0, ds0, p0, q0, hargs, rfl, rfl, h0, r0⟩ := trodAll_cons hA
  obtain ⟨v1, vs1, d1, ds1, p1, q1, rfl, rfl, rfl, h1, r1⟩ := trodAll_cons r0
  obtain ⟨rfl, rfl, rfl⟩ := trodAll_nil r1
  obtain rfl : args = #[v0, v1] := by cases args; simp_all
  obtain ⟨rfl, rfl⟩ := trodVars_none hV
  obtain ⟨m, us, lls, hin⟩ := Sim.open_any (hval 0 33 v0 rfl rfl) h0
  obtain ⟨tn, rfl, rfl, rfl, w1⟩ := open_int Try.underlying3 (hval 1 3 v1 rfl rfl) h1
  have hg : Try.prog.globals.size ≤ W.heap.size := by
    have h : Try.prog.globals.size = 0 := by kernel_rfl
    rw [h]
    exact Nat.zero_le _
  obtain ⟨M, last, o, w', t', e1, e2, e3, e4⟩ := Sim.any_run W hg v0 tn hin
  refine ⟨M, last, o, w', t', e1, e2, e3, e4.mono fun v hF => ?_⟩
  obtain ⟨rfl, hb⟩ := hF
  have hbelow : Below W.heap.size W w' := ⟨hb.os, hb.tape, hb.out, hb.le, hb.heap⟩
  exact law_post laidOut (by kernel_rfl) Try.underlying4 rfl hW' hAk hlt hbelow (by kernel_rfl) (fun _ => rfl) (fun _ => rfl)
theorem over : Rows.crewAnyRow.holds Try.pinned (OpenSpec.ofChange Rows.crewAnySpec) :=
  OpenClaim.holds_of_wide_leaving 4 Try.f4 rfl rfl rfl rfl rfl rfl rfl ⟨rfl, rfl, rfl, rfl, rfl⟩ rfl rfl rfl rfl rfl (by kernel_rfl) Try.func4 (by kernel_rfl)
    (of_decide_eq_true (by kernel_rfl)) (by unfold Func.isWrapper; first | (rw [if_pos (by decide +kernel)]; kernel_rfl) | (rw [if_neg (by decide +kernel)]; exact ⟨rfl, rfl⟩))
    (fun os started H enc _ => lifted os started H enc)
/-- The statement. -/
theorem proved : Rows.CrewAnySaid :=
  over
end Go.Proofs.Ytkodpijedinanaa.crewAny
