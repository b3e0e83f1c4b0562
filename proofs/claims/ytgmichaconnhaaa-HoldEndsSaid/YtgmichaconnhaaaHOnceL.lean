/- Package hold: the plain law of 'HoldOnce'. -/
import Derived.Test.YtgmichaconnhaaaHoldL
namespace Go.Proofs.Ytgmichaconnhaaa
set_option linter.unusedVariables false
set_option linter.unusedSimpArgs false

/-- Is a hold open? -/
def Shf.has (s : Shf) (id : Int) : Prop := ∃ h ∈ s.hs, h.id = id
theorem next_has (s : Shf) (o : Ord) (id : Int) : (s.next o).has id → s.has id ∨ id = s.made + 1 := by
  unfold Shf.next Shf.order
  repeat' split
  all_goals first
    | (intro h; exact .inl h)
    | (rintro ⟨h, hh, rfl⟩; rcases List.mem_append.1 hh with hh | hh; exact .inl ⟨h, hh, rfl⟩; (simp at hh; subst hh; exact .inr rfl))
    | (rintro ⟨h, hh, rfl⟩; exact .inl ⟨h, (List.eraseIdx_sublist _ _).mem hh, rfl⟩)
    | (rintro ⟨h, hh, rfl⟩; obtain ⟨x, hx, rfl⟩ := List.mem_map.1 (List.mem_filter.1 hh).1; exact .inl ⟨x, hx, rfl⟩)
/-- What a confirm or a cancel comes to. -/
theorem end_code {s : Shf} (hs : s.Ok) {o : Ord} (hk : o.kind = 4 ∨ o.kind = 5) (h1 : 1 ≤ o.id) :
    ((s.out o).code = 0 → o.id ≤ s.made ∧ s.has o.id ∧ ¬ (s.next o).has o.id) ∧ ((s.out o).code = 6 → s.made < o.id) ∧ ((s.out o).code = 10 → o.id ≤ s.made) := by
  unfold Shf.out Shf.next Shf.order
  have c0 : ¬ ((o.kind = 1 ∨ o.kind = 2 ∨ o.kind = 3 ∨ o.kind = 6) ∧ ¬ (1 ≤ o.count ∧ o.count ≤ 1048576)) := by omega
  rw [if_neg c0, if_neg (by omega), if_neg (by omega), if_neg (by omega), if_neg (by omega), if_pos hk]
  by_cases c1 : o.id < 1 ∨ s.made < o.id
  · rw [if_pos c1]
    exact ⟨fun h => absurd h (by simp), fun _ => by omega, fun h => absurd h (by simp)⟩
  rw [if_neg c1]
  cases hp : s.place o.id with
  | none => exact ⟨fun h => absurd h (by simp), fun h => absurd h (by simp), fun _ => by omega⟩
  | some i =>
    obtain ⟨hi, he, -⟩ := List.findIdx?_eq_some_iff_getElem.1 hp
    have he : s.hs[i].id = o.id := by simpa using he
    have key : ¬ ∃ h ∈ s.hs.eraseIdx i, h.id = o.id := by
      rintro ⟨h, hh, h2⟩
      obtain ⟨j, hj1, hj, rfl⟩ := List.mem_eraseIdx_iff_getElem.1 hh
      have hpw := List.pairwise_iff_getElem.1 hs.sorted
      rcases Nat.lt_or_gt_of_ne hj with h3 | h3
      · have := hpw _ _ hj1 hi h3; omega
      · have := hpw _ _ hi hj1 h3; omega
    refine ⟨fun _ => ⟨by omega, ⟨_, List.getElem_mem hi, he⟩, ?_⟩, ?_, fun _ => by omega⟩
    · simp only
      split <;> exact key
    · simp only
      split <;> (intro h; exact absurd h (by simp))
/-- A hold that was made is the next one. -/
theorem hold_id {s : Shf} {o : Ord} (hk : o.kind = 3) (hc : (s.out o).code = 0) : (s.out o).id = s.made + 1 ∧ (s.next o).made = s.made + 1 := by
  revert hc
  unfold Shf.out Shf.next Shf.order
  rw [if_neg (show ¬ o.kind = 1 by omega), if_neg (show ¬ o.kind = 2 by omega), if_neg (show ¬ o.kind = 6 by omega), if_pos hk]
  repeat' split
  all_goals first | (intro _; exact ⟨rfl, rfl⟩) | (intro h; simp at h)
theorem made_same {s : Shf} {o : Ord} (h : o.kind ≠ 3 ∨ (s.out o).code ≠ 0) : (s.next o).made = s.made := by
  revert h
  unfold Shf.out Shf.next Shf.order
  repeat' split
  all_goals first | (intro _; rfl) | (intro h; rcases h with h | h; exact absurd (by assumption) h; exact absurd rfl h)
end Go.Proofs.Ytgmichaconnhaaa
