/- A 'Note' by value. -/
import Derived.Test.YtjinbcbpaoophaaOpen
import Derived.Test.YtjinbcbpaoophaaReg
namespace Go.Proofs.Ytjinbcbpaoophaa
open Go.ChangeShapes Go.WideShapes Go.ChangeAt Go.RowKit Go.Joins Go.Deep
set_option linter.unusedVariables false
theorem open_note {H : Type} {enc : TypeId × Value → H} {w : World} {base : Nat} {spare : Nat → Bool} {held : Bool} {r : Reach} {b0 : Nat} {v : Value} {d : DataW H} {p : List MemPlace}
    (hv : Value.okWide Try.prog w r b0 43 v) (h : DataW.Trod enc Try.prog w base spare held 43 v d p) : ∃ n : Ent, v = n.val := by
  obtain ⟨cs, n, rfl, hl, hf⟩ := open_struct Try.underlying43 (by kernel_rfl) (by kernel_rfl) hv h
  match cs, hl with
  | [c0, c1, c2, c3, c4], _ =>
    obtain ⟨y0, h0⟩ := hf 0 _ c0 rfl rfl
    obtain ⟨y1, h1⟩ := hf 1 _ c1 rfl rfl
    obtain ⟨y2, h2⟩ := hf 2 _ c2 rfl rfl
    obtain ⟨y3, h3⟩ := hf 3 _ c3 rfl rfl
    obtain ⟨y4, h4⟩ := hf 4 _ c4 rfl rfl
    obtain ⟨a, rfl⟩ := int_of Try.underlying3 h0
    obtain ⟨b, rfl⟩ := int_of Try.underlying3 h1
    obtain ⟨c, rfl⟩ := int_of Try.underlying3 h2
    obtain ⟨d, rfl⟩ := int_of Try.underlying3 h3
    obtain ⟨e, rfl⟩ := bool_of Try.underlying4 h4
    exact ⟨⟨a, b, c, d, e⟩, rfl⟩
end Go.Proofs.Ytjinbcbpaoophaa
