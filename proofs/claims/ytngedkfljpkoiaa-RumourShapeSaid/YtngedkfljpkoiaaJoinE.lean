/- Merging is a join: the laws' entries. -/
import Derived.Test.YtngedkfljpkoiaaJoin
import Derived.Test.YtngedkfljpkoiaaRegB
namespace Go.Proofs.Ytngedkfljpkoiaa
set_option linter.unusedVariables false
set_option linter.unusedSimpArgs false

/-- What the laws make of notes. -/
def entsOf (l : List Ent) : List Ent := mergeL [] ((l.take 30).map EntPick)
theorem entPick_ok (n : Ent) : (EntPick n).Ok ∧ 0 ≤ (EntPick n).k ∧ (EntPick n).k < 6 := by
  have h1 := pick_bd n.k 6 (by omega)
  have h2 := pick_bd n.t 4 (by omega)
  have h3 := pick_bd n.h 3 (by omega)
  have h4 := pick_bd n.v 3 (by omega)
  unfold EntPick
  refine ⟨⟨by simp only; omega, by simp only; split <;> omega, by simp only; omega, by simp only; omega, fun hg => by simp only at hg ⊢; rw [if_pos hg]⟩, by simp only; omega, by simp only; omega⟩
theorem entsTo_six (l : List Ent) (k : Nat) : SixL (mergeL [] ((l.take k).map EntPick)) :=
  ⟨mergeL_may SixL.nil.may fun e he => by obtain ⟨n, _, rfl⟩ := List.mem_map.1 he; exact (entPick_ok n).1, fun x hx => by
    rcases mergeL_mem hx with h | h
    · simp at h
    · obtain ⟨n, _, rfl⟩ := List.mem_map.1 h; exact (entPick_ok n).2⟩
theorem entsOf_six (l : List Ent) : SixL (entsOf l) := entsTo_six l 30
end Go.Proofs.Ytngedkfljpkoiaa
