/- World, plain: what is old, or lost, changes nothing. -/
import Derived.Test.YtjdedflfdlhkdaaGreatDoorWFull
namespace Go.Proofs.YtjdedflfdlhkdaaGreatDoor
set_option linter.unusedVariables false
set_option linter.unusedSimpArgs false

theorem comes_same (c : Cfg) (s : Wld) (x : Let) : (s.comes c x).ls = s.ls ∧ (s.comes c x).op = s.op ∧ (s.comes c x).lost = s.lost := by
  unfold Wld.comes
  repeat' split
  all_goals exact ⟨rfl, rfl, rfl⟩
theorem due_cases (s : Wld) (n : Nat) (h : n < s.ls.length) : s.due n = 0 ∨ s.due n = 10 := by
  unfold Wld.due
  rw [if_neg (by omega)]
  split
  · exact .inr rfl
  · exact .inl rfl
theorem due_of {s s' : Wld} (h1 : s'.ls = s.ls) (n : Nat) (h : n < s.ls.length) (h2 : s'.lost n = true ∨ s'.old n = true) : s'.due n = 10 := by
  unfold Wld.due
  rw [h1, if_neg (by omega), if_pos (by simpa using h2)]
end Go.Proofs.YtjdedflfdlhkdaaGreatDoor
