/- A slice whose block has not changed. -/
import Derived.Test.YtgmichaconnhaaaMem
namespace Go.Proofs.Ytgmichaconnhaaa
open Go.ChangeShapes Go.WideShapes Go.ChangeAt Go.RowKit
set_option linter.unusedVariables false

theorem Has.at {w w' : World} {sz n : Nat} {v : Value} {xs : List Value} (h : Has w sz v n xs) (hk : 0 < xs.length → ∀ b off n' cap, v = .slice (some ⟨b, off, none⟩) n' cap → w'.heap[b]? = w.heap[b]?) : Has w' sz v n xs := by
  obtain ⟨hl, a, cap, rfl, h1, h2, h3⟩ := h
  refine ⟨hl, a, cap, rfl, h1, h2, fun hp => ?_⟩
  obtain ⟨b, off, rfl, hc⟩ := h3 hp
  refine ⟨b, off, rfl, fun j u hu => ?_⟩
  rw [World.cell?_of_block (w := w) (a := ⟨b, off + j, none⟩) (hk hp b off n cap rfl)]; exact hc j u hu
end Go.Proofs.Ytgmichaconnhaaa
