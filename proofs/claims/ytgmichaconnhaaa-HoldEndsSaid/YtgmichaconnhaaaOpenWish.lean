/- A '[]Wish' argument. -/
import Derived.Test.YtgmichaconnhaaaOpenR
import Derived.Test.YtgmichaconnhaaaStocked
namespace Go.Proofs.Ytgmichaconnhaaa
open Go.ChangeShapes Go.WideShapes Go.ChangeAt Go.RowKit Go.Joins Go.Deep
set_option linter.unusedVariables false
set_option linter.unusedSimpArgs false
set_option maxRecDepth 100000 in
theorem open_wishes {H : Type} {enc : TypeId × Value → H} {W : World} {sp : Nat → Bool} {base : Nat} {v : Value} {d : DataW H} {ps : List MemPlace}
    (hval : Value.okWide Try.prog W .any base 22 v) (h : DataW.Trod enc Try.prog W 0 sp true 22 v d ps) : ∃ l : List Ord, Has W 4 v l.length (ords l) :=
  (open_row Ord.cells (fun _ => True) 4 Ord.cells_length (by omega) Try.underlying22 (by kernel_rfl) (fun n cs y hl hr => by
    obtain ⟨_, n', hf⟩ := struct_fields Try.underlying79 (by kernel_rfl) (by kernel_rfl) hr
    match cs, hl with
    | [c0, c1, c2, c3], _ =>
      obtain ⟨y0, h0⟩ := hf 0 _ c0 rfl rfl
      obtain ⟨y1, h1⟩ := hf 1 _ c1 rfl rfl
      obtain ⟨y2, h2⟩ := hf 2 _ c2 rfl rfl
      obtain ⟨y3, h3⟩ := hf 3 _ c3 rfl rfl
      obtain ⟨a, rfl⟩ := int_of Try.underlying3 h0
      obtain ⟨b, rfl⟩ := int_of Try.underlying3 h1
      obtain ⟨c, rfl⟩ := int_of Try.underlying3 h2
      obtain ⟨e, rfl⟩ := int_of Try.underlying3 h3
      exact ⟨⟨a, b, c, e⟩, rfl, trivial⟩) hval h).imp fun _ h => h.1
/-- What stock k of a play reads. -/
theorem stk_at {w : World} {base n : Nat} {v : Value} {l : List Ord} (h : w.ownsRow base 33 5 v n (stks (hOuts l))) (k : Nat) (hk : k < l.length) :
    ∃ g cap, v = .slice (some ⟨g, 0, none⟩) n cap ∧ (n ≤ cap ∧ cap ≤ maxLen) ∧ (w.cell? ⟨g, k * 5, none⟩ = some (.int .i64 ((shfFold (l.take k)).1.out l[k]).code) ∧ w.cell? ⟨g, k * 5 + 1, none⟩ = some (.int .i64 ((shfFold (l.take k)).1.out l[k]).id) ∧ w.cell? ⟨g, k * 5 + 2, none⟩ = some (.int .i64 ((shfFold (l.take k)).1.out l[k]).free) ∧ w.cell? ⟨g, k * 5 + 3, none⟩ = some (.int .i64 ((shfFold (l.take k)).1.out l[k]).held) ∧ w.cell? ⟨g, k * 5 + 4, none⟩ = some (.int .i64 ((shfFold (l.take k)).1.out l[k]).used)) := by
  have hk' : k < (hOuts l).length := by rw [hOuts_length]; exact hk
  have e : (hOuts l)[k] = (shfFold (l.take k)).1.out l[k] := by
    have := hOuts_get l k hk
    rw [List.getElem?_eq_getElem hk'] at this
    simpa using this
  have := stk_get h k hk'
  rw [e] at this
  exact this
end Go.Proofs.Ytgmichaconnhaaa
