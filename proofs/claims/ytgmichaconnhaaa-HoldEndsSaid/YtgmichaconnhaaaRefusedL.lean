/- Package hold: the plain law of 'HoldRefused'. -/
import Derived.Test.YtgmichaconnhaaaHoldL
namespace Go.Proofs.Ytgmichaconnhaaa
set_option linter.unusedVariables false
set_option linter.unusedSimpArgs false

theorem refused_next (s : Shf) (o : Ord) : (s.out o).code ≠ 0 → s.next o = s := by
  unfold Shf.out Shf.next Shf.order
  intro h
  revert h
  repeat' split
  all_goals first | (intro _; rfl) | (intro h; exact absurd rfl h)
/-- The same, from the front. -/
def fewTo (l : List Ord) : Nat → List Ord × List Stk
  | 0 => ([], [])
  | k + 1 => match l[k]? with
    | none => fewTo l k
    | some o => if ((shfFold (l.take k)).1.out o).code = 0 then ((fewTo l k).1 ++ [o], (fewTo l k).2 ++ [(shfFold (l.take k)).1.out o]) else fewTo l k
theorem shfFold_snoc (l : List Ord) (o : Ord) : shfFold (l ++ [o]) = shfStep (shfFold l) o := by unfold shfFold; rw [List.foldl_append]; rfl
/-- THE PLAIN LAW. -/
theorem few_same (l : List Ord) : ∀ k, k ≤ l.length → (shfFold (fewTo l k).1).1 = (shfFold (l.take k)).1 ∧ hOuts (fewTo l k).1 = (fewTo l k).2
  | 0, _ => ⟨rfl, rfl⟩
  | k + 1, hk => by
    obtain ⟨h1, h2⟩ := few_same l k (by omega)
    rw [shfFold_take l k (by omega)]
    simp only [fewTo, List.getElem?_eq_getElem (show k < l.length by omega)]
    split
    · next c =>
      simp only
      refine ⟨?_, ?_⟩
      · rw [shfFold_snoc]; simp only [shfStep]; rw [h1]
      · unfold hOuts at h2 ⊢
        rw [shfFold_snoc]; simp only [shfStep]; rw [h1, h2]
    · next c =>
      refine ⟨?_, h2⟩
      simp only [shfStep]
      rw [refused_next _ _ c]; exact h1
end Go.Proofs.Ytgmichaconnhaaa
