/- A '[]Affair' argument. -/
import Derived.Test.YtkeefpeffeoakaaOpenR
import Derived.Test.YtkeefpeffeoakaaTallyL
namespace Go.Proofs.Ytkeefpeffeoakaa
open Go.ChangeShapes Go.WideShapes Go.ChangeAt Go.RowKit Go.Joins Go.Deep
set_option linter.unusedVariables false
set_option maxRecDepth 100000 in
theorem open_affs {H : Type} {enc : TypeId × Value → H} {W : World} {sp : Nat → Bool} {base : Nat} {v : Value} {d : DataW H} {ps : List MemPlace}
    (hval : Value.okWide Try.prog W .any base 42 v) (h : DataW.Trod enc Try.prog W 0 sp true 42 v d ps) : ∃ l : List Aff, Has W 4 v l.length (affs l) ∧ ∀ a ∈ l, True :=
  open_row Aff.cells (fun _ => True) 4 Aff.cells_length (by omega) Try.underlying42 (by kernel_rfl) (fun n cs y hl hr => by
    obtain ⟨_, n', hf⟩ := struct_fields Try.underlying80 (by kernel_rfl) (by kernel_rfl) hr
    match cs, hl with
    | [c0, c1, c2, c3], _ =>
      obtain ⟨y0, h0⟩ := hf 0 _ c0 rfl rfl
      obtain ⟨y1, h1⟩ := hf 1 _ c1 rfl rfl
      obtain ⟨y2, h2⟩ := hf 2 _ c2 rfl rfl
      obtain ⟨y3, h3⟩ := hf 3 _ c3 rfl rfl
      obtain ⟨a, rfl⟩ := int_of Try.underlying3 h0
      obtain ⟨b, rfl⟩ := int_of Try.underlying3 h1
      obtain ⟨c, rfl⟩ := int_of Try.underlying3 h2
      obtain ⟨d, rfl⟩ := int_of Try.underlying3 h3
      exact ⟨⟨a, b, c, d⟩, rfl, trivial⟩) hval h
end Go.Proofs.Ytkeefpeffeoakaa
