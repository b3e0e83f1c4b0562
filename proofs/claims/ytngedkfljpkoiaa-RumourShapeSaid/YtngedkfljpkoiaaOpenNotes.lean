/- A '[]Note' argument. -/
import Derived.Test.YtngedkfljpkoiaaOpenR
import Derived.Test.YtngedkfljpkoiaaEnts
namespace Go.Proofs.Ytngedkfljpkoiaa
open Go.ChangeShapes Go.WideShapes Go.ChangeAt Go.RowKit Go.Joins Go.Deep
set_option linter.unusedVariables false
set_option linter.unusedSimpArgs false
set_option maxRecDepth 100000 in
theorem open_notes {H : Type} {enc : TypeId × Value → H} {W : World} {sp : Nat → Bool} {base : Nat} {v : Value} {d : DataW H} {ps : List MemPlace}
    (hval : Value.okWide Try.prog W .any base 46 v) (h : DataW.Trod enc Try.prog W 0 sp true 46 v d ps) : ∃ l : List Ent, Has W 5 v l.length (ents l) :=
  (open_row Ent.cells (fun _ => True) 5 Ent.cells_length (by omega) Try.underlying46 (by kernel_rfl) (fun n cs y hl hr => by
    obtain ⟨_, n', hf⟩ := struct_fields Try.underlying93 (by kernel_rfl) (by kernel_rfl) hr
    match cs, hl with
    | [c0, c1, c2, c3, c4], _ =>
      obtain ⟨y0, h0⟩ := hf 0 _ c0 rfl rfl
      obtain ⟨y1, h1⟩ := hf 1 _ c1 rfl rfl
      obtain ⟨y2, h2⟩ := hf 2 _ c2 rfl rfl
      obtain ⟨y3, h3⟩ := hf 3 _ c3 rfl rfl
      obtain ⟨y4, h4⟩ := hf 4 _ c4 rfl rfl
      obtain ⟨a, rfl⟩ := int_of Try.underlying3 h0
      obtain ⟨b, rfl⟩ := int_of Try.underlying3 h1
      obtain ⟨c, rfl⟩ := int_of Try.underlying3 h2
      obtain ⟨e, rfl⟩ := int_of Try.underlying3 h3
      obtain ⟨g, rfl⟩ := bool_of Try.underlying4 h4
      exact ⟨⟨a, b, c, e, g⟩, rfl, trivial⟩) hval h).imp fun _ h => h.1
end Go.Proofs.Ytngedkfljpkoiaa
