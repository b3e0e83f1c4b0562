/- World, plain: frames to two places come in either order. -/
import Derived.Test.YtjdedflfdlhkdaaGreatDoorOldL
namespace Go.Proofs.YtjdedflfdlhkdaaGreatDoor
set_option linter.unusedVariables false
set_option linter.unusedSimpArgs false

theorem gains_comm (s : Wld) (i j : Nat) (l m : List Int) (h : i ≠ j) : (s.gains i l).gains j m = (s.gains j m).gains i l := by
  unfold Wld.gains
  simp only [Wld.mk.injEq, and_true, true_and]
  constructor
  · funext x k
    by_cases h1 : x = i
    · subst h1
      have h2 : ¬ x = j := h
      simp [h2]
    · by_cases h2 : x = j
      · subst h2; simp [h1]
      · simp [h1, h2]
  · funext x k
    by_cases h1 : x = i
    · subst h1
      have h2 : ¬ x = j := h
      simp [h2]
    · by_cases h2 : x = j
      · subst h2; simp [h1]
      · simp [h1, h2]
theorem learns_comm (s : Wld) (i j : Nat) (L M : Nat → List Ent) (h : i ≠ j) : (s.learns i L).learns j M = (s.learns j M).learns i L := by
  unfold Wld.learns
  simp only [Wld.mk.injEq, and_true, true_and]
  funext x
  by_cases h1 : x = i
  · subst h1
    rw [updF_ne _ _ h, updF_same, updF_same, updF_ne _ _ h]
  · by_cases h2 : x = j
    · subst h2
      rw [updF_same, updF_ne _ _ (fun e => h e.symm), updF_ne _ _ (fun e => h e.symm), updF_same]
    · rw [updF_ne _ _ h2, updF_ne _ _ h1, updF_ne _ _ h1, updF_ne _ _ h2]
theorem comes_comm (c : Cfg) (s : Wld) (x y : Let) (h : x.t ≠ y.t) : (s.comes c x).comes c y = (s.comes c y).comes c x := by
  unfold Wld.comes
  cases hx : x.m with
  | nums l =>
    cases hy : y.m with
    | nums m =>
      simp only
      by_cases h1 : x.t = c.n
      · have h2 : ¬ y.t = c.n := fun e => h (h1.trans e.symm)
        simp only [h1, h2, if_true, if_false]
        rfl
      · by_cases h2 : y.t = c.n
        · simp only [h1, h2, if_true, if_false]; rfl
        · simp only [h1, h2, if_false]; exact gains_comm _ _ _ _ _ h
    | rum st =>
      simp only
      split <;> rfl
  | rum st =>
    cases hy : y.m with
    | nums m =>
      simp only
      split <;> rfl
    | rum st' => exact learns_comm _ _ _ _ _ h
theorem opens_comes (c : Cfg) (s : Wld) (x : Let) (i : Nat) : (s.comes c x).opens i = (s.opens i).comes c x := by
  unfold Wld.comes
  cases x.m with
  | nums l => simp only; split <;> rfl
  | rum st => rfl
theorem opens_comm (s : Wld) (i j : Nat) (h : s.to' i ≠ s.to' j) : (s.opens i).opens j = (s.opens j).opens i := by
  unfold Wld.opens
  simp only [Wld.mk.injEq, and_true, true_and]
  have hz : ((s.to' i : Nat) : Int) ≠ ((s.to' j : Nat) : Int) := by omega
  show updW (updW s.op (s.from' i) (s.to' i) (i + 1)) (s.from' j) (s.to' j) (j + 1) = updW (updW s.op (s.from' j) (s.to' j) (j + 1)) (s.from' i) (s.to' i) (i + 1)
  funext a b
  unfold updW
  by_cases h1 : a = (s.from' i : Int) ∧ b = (s.to' i : Int)
  · have h2 : ¬ (a = (s.from' j : Int) ∧ b = (s.to' j : Int)) := fun q => hz (h1.2.symm.trans q.2)
    simp [h1, h2]
    intro q1 q2
    exact absurd q2 hz
  · by_cases h2 : a = (s.from' j : Int) ∧ b = (s.to' j : Int)
    · simp [h1, h2]
      intro q1 q2
      exact absurd q2.symm hz
    · simp [h1, h2]
theorem to_of (s : Wld) (i : Nat) (h : i < s.ls.length) : s.to' i = (s.ls[i]'h).t := by unfold Wld.to'; simp [List.getD_eq_getElem?_getD, h]
theorem deliver_at (c : Cfg) (s : Wld) (i : Nat) (h : i < s.ls.length) : s.deliver c (i : Int) = if s.due i = 0 then ({ noT 0 with who := ((s.ls[i]'h).t : Int), frame := (s.ls[i]'h).enc c.labs }, (s.opens i).comes c (s.ls[i]'h)) else ({ noT 10 with who := ((s.ls[i]'h).t : Int) }, s) := by
  unfold Wld.deliver
  have hx : s.ls[((i : Int)).toNat]? = some (s.ls[i]'h) := by simp [h]
  rcases due_cases s i h with q | q
  · rw [if_neg (by rw [q]; decide), if_neg (by rw [q]; decide), if_pos q, hx]; rfl
  · rw [if_neg (by rw [q]; decide), if_pos q, if_neg (by rw [q]; decide), Int.toNat_natCast, to_of s i h]
/-- What another place was brought leaves this frame as due as it was. -/
theorem due_after (c : Cfg) (s : Wld) (i j : Nat) (hi : i < s.ls.length) (hj : j < s.ls.length) (h : s.to' i ≠ s.to' j) : (s.deliver c (j : Int)).2.due i = s.due i ∧ (s.deliver c (j : Int)).2.ls = s.ls := by
  rw [deliver_at c s j hj]
  split
  · obtain ⟨e1, e2, e3⟩ := comes_same c (s.opens j) (s.ls[j]'hj)
    refine ⟨?_, by rw [e1]; rfl⟩
    have hz : ((s.to' i : Nat) : Int) ≠ ((s.to' j : Nat) : Int) := by omega
    have e4 : ((s.opens j).comes c (s.ls[j]'hj)).old i = s.old i := by
      unfold Wld.old Wld.from' Wld.to'
      rw [e1, e2]
      show decide ((i : Int) < updW s.op (s.from' j) (s.to' j) (j + 1) (s.from' i) (s.to' i)) = decide ((i : Int) < s.op (s.from' i) (s.to' i))
      unfold updW
      rw [if_neg (fun q => hz q.2)]
    unfold Wld.due
    simp only [Int.toNat_natCast, e1, e3, e4]
    rfl
  · exact ⟨rfl, rfl⟩
/-- Two frames to two places: which comes first does not matter. -/
theorem deliver_swap (c : Cfg) (s : Wld) (i j : Nat) (hi : i < s.ls.length) (hj : j < s.ls.length) (h : s.to' i ≠ s.to' j) :
    ((s.deliver c (i : Int)).2.deliver c (j : Int)).2 = ((s.deliver c (j : Int)).2.deliver c (i : Int)).2 ∧ ((s.deliver c (j : Int)).2.deliver c (i : Int)).1 = (s.deliver c (i : Int)).1 ∧ ((s.deliver c (i : Int)).2.deliver c (j : Int)).1 = (s.deliver c (j : Int)).1 := by
  obtain ⟨d1, l1⟩ := due_after c s i j hi hj h
  obtain ⟨d2, l2⟩ := due_after c s j i hj hi (fun e => h e.symm)
  have hi' : i < (s.deliver c (j : Int)).2.ls.length := by rw [l1]; exact hi
  have hj' : j < (s.deliver c (i : Int)).2.ls.length := by rw [l2]; exact hj
  have g1 : ((s.deliver c (j : Int)).2.ls[i]'hi') = s.ls[i]'hi := by simp only [l1]
  have g2 : ((s.deliver c (i : Int)).2.ls[j]'hj') = s.ls[j]'hj := by simp only [l2]
  have hne : (s.ls[i]'hi).t ≠ (s.ls[j]'hj).t := by rw [← to_of s i hi, ← to_of s j hj]; exact h
  rw [deliver_at c _ j hj', deliver_at c _ i hi', g1, g2, d1, d2]
  refine ⟨?_, ?_, ?_⟩
  · rw [deliver_at c s i hi, deliver_at c s j hj]
    rcases due_cases s i hi with q1 | q1 <;> rcases due_cases s j hj with q2 | q2 <;> simp only [q1, q2, if_true, if_false]
    · rw [opens_comes, opens_comes, comes_comm _ _ _ _ hne, opens_comm s i j h]
    all_goals rfl
  · rw [deliver_at c s i hi]
    rcases due_cases s i hi with q1 | q1 <;> simp only [q1, if_true, if_false]
    all_goals rfl
  · rw [deliver_at c s j hj]
    rcases due_cases s j hj with q1 | q1 <;> simp only [q1, if_true, if_false]
    all_goals rfl
end Go.Proofs.YtjdedflfdlhkdaaGreatDoor
