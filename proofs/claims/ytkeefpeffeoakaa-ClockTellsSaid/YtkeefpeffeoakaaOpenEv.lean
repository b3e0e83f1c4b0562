/- A '[]Happening' argument. -/
import Derived.Test.YtkeefpeffeoakaaOpenR
import Derived.Test.YtkeefpeffeoakaaClockP
namespace Go.Proofs.Ytkeefpeffeoakaa
open Go.ChangeShapes Go.WideShapes Go.ChangeAt Go.RowKit Go.Joins Go.Deep
set_option linter.unusedVariables false
theorem open_evs {H : Type} {enc : TypeId × Value → H} {W : World} {sp : Nat → Bool} {base : Nat} {v : Value} {d : DataW H} {ps : List MemPlace}
    (hval : Value.okWide Try.prog W .any base 61 v) (h : DataW.Trod enc Try.prog W 0 sp true 61 v d ps) : ∃ l : List Ev, Has W 3 v l.length (evs l) ∧ ∀ a ∈ l, True :=
  open_row Ev.cells (fun _ => True) 3 Ev.cells_length (by omega) Try.underlying61 (by kernel_rfl) (fun n cs y hl hr => by
    obtain ⟨_, n', hf⟩ := struct_fields Try.underlying89 (by kernel_rfl) (by kernel_rfl) hr
    match cs, hl with
    | [c0, c1, c2], _ =>
      obtain ⟨y0, h0⟩ := hf 0 _ c0 rfl rfl
      obtain ⟨y1, h1⟩ := hf 1 _ c1 rfl rfl
      obtain ⟨y2, h2⟩ := hf 2 _ c2 rfl rfl
      obtain ⟨a, rfl⟩ := int_of Try.underlying3 h0
      obtain ⟨b, rfl⟩ := int_of Try.underlying3 h1
      obtain ⟨c, rfl⟩ := int_of Try.underlying3 h2
      exact ⟨⟨a, b, c⟩, rfl, trivial⟩) hval h
end Go.Proofs.Ytkeefpeffeoakaa
