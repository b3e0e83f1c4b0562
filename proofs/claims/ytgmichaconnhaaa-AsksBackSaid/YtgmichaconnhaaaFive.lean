/- Five cells written. -/
import Derived.Test.YtgmichaconnhaaaMem
namespace Go.Proofs.Ytgmichaconnhaaa
open Go.ChangeShapes Go.WideShapes Go.ChangeAt Go.RowKit
set_option linter.unusedVariables false
set_option linter.unusedSimpArgs false

theorem five_at {W : World} {b : Nat} {a0 a1 a2 a3 a4 : Value} {e : TypeId} (h : W.heap[b]? = some (.cells #[a0, a1, a2, a3, a4] e (0, 0))) : (W.cell? ⟨b, 0, none⟩ = some a0 ∧ W.cell? ⟨b, 1, none⟩ = some a1 ∧ W.cell? ⟨b, 2, none⟩ = some a2 ∧ W.cell? ⟨b, 3, none⟩ = some a3 ∧ W.cell? ⟨b, 4, none⟩ = some a4) ∧ ∀ j, W.frozen? ⟨b, j, none⟩ = false :=
  ⟨⟨by rw [cell_of_row W _ _ _ _ _ h]; rfl, by rw [cell_of_row W _ _ _ _ _ h]; rfl, by rw [cell_of_row W _ _ _ _ _ h]; rfl, by rw [cell_of_row W _ _ _ _ _ h]; rfl, by rw [cell_of_row W _ _ _ _ _ h]; rfl⟩, fun j => by simp [World.frozen?, h]⟩
theorem five_put {w : World} {S : Nat} {a0 a1 a2 a3 a4 : Value} {e : TypeId} (h : w.heap[S]? = some (.cells #[a0, a1, a2, a3, a4] e (0, 0))) (x0 x1 x2 x3 x4 : Value) :
    (((((w.setCell ⟨S, 0, none⟩ x0).setCell ⟨S, 1, none⟩ x1).setCell ⟨S, 2, none⟩ x2).setCell ⟨S, 3, none⟩ x3).setCell ⟨S, 4, none⟩ x4).heap[S]? = some (.cells #[x0, x1, x2, x3, x4] e (0, 0)) :=
  heap_setCell_same _ S 4 _ _ x4 (heap_setCell_same _ S 3 _ _ x3 (heap_setCell_same _ S 2 _ _ x2 (heap_setCell_same _ S 1 _ _ x1 (heap_setCell_same _ S 0 _ _ x0 h))))
end Go.Proofs.Ytgmichaconnhaaa
