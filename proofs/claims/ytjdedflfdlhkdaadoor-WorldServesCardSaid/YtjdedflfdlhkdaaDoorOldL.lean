/- World, plain: what is old, or lost, changes nothing. -/
import Derived.Test.YtjdedflfdlhkdaaDoorWFull
namespace Go.Proofs.YtjdedflfdlhkdaaDoor
set_option linter.unusedVariables false
set_option linter.unusedSimpArgs false

theorem comes_same (c : Cfg) (s : Wld) (x : Let) : (s.comes c x).ls = s.ls ∧ (s.comes c x).op = s.op ∧ (s.comes c x).lost = s.lost := by
  unfold Wld.comes
  repeat' split
  all_goals exact ⟨rfl, rfl, rfl⟩
theorem due_cases (s : Wld) (n : Nat) (h : n < s.ls.length) : s.due n = 0 ∨ s.due n = 10 := by
  unfold Wld.due
  rw [if_neg (by omega)]
  split
  · exact .inr rfl
  · exact .inl rfl
theorem due_of {s s' : Wld} (h1 : s'.ls = s.ls) (n : Nat) (h : n < s.ls.length) (h2 : s'.lost n = true ∨ s'.old n = true) : s'.due n = 10 := by
  unfold Wld.due
  rw [h1, if_neg (by omega), if_pos (by simpa using h2)]
/-- Behind its coming or its loss a frame is old. -/
theorem then_old (c : Cfg) (s : Wld) (n : Nat) (h : n < s.ls.length) (lose : Bool) (p : Stp) (hp : p = (if lose then ⟨11, 0, 0, 0, 0, (n : Int), 0, 0⟩ else dlv n)) : (s.step c p).2.due n = 10 ∧ (s.step c p).2.ls.length = s.ls.length := by
  have hk : p.kind ≠ 9 := by subst hp; cases lose <;> simp [dlv]
  have hls := step_ls (c := c) (s := s) hk
  refine ⟨?_, by rw [hls]⟩
  cases lose with
  | true =>
    subst hp
    show (s.lose (n : Int)).2.due n = 10
    unfold Wld.lose
    split
    · refine due_of rfl n h (.inl ?_)
      simp [updF]
    · rename_i h0
      rcases due_cases s n h with q | q
      · exact absurd q h0
      · exact q
  | false =>
    subst hp
    show (s.deliver c (n : Int)).2.due n = 10
    unfold Wld.deliver
    rcases due_cases s n h with q | q
    · rw [if_neg (by rw [q]; decide), if_neg (by rw [q]; decide)]
      have hx : s.ls[((n : Int)).toNat]? = some (s.ls[n]'h) := by simp [h]
      rw [hx]
      simp only
      obtain ⟨e1, e2, e3⟩ := comes_same c (s.opens (n : Int).toNat) (s.ls[n]'h)
      refine due_of (s := s) (by rw [e1]; rfl) n h (.inr ?_)
      have e4 : ((s.opens (n : Int).toNat).comes c (s.ls[n]'h)).from' n = s.from' n := by unfold Wld.from'; rw [e1]; rfl
      have e5 : ((s.opens (n : Int).toNat).comes c (s.ls[n]'h)).to' n = s.to' n := by unfold Wld.to'; rw [e1]; rfl
      unfold Wld.old
      rw [e4, e5, e2]
      simp only [Wld.opens, Int.toNat_natCast, updW]
      simp
      omega
    · rw [if_neg (by rw [q]; decide), if_pos q]; exact q
/-- Its coming again is told to be old, and changes nothing. -/
theorem old_again (c : Cfg) (s : Wld) (n : Nat) (h : s.due n = 10) : (s.step c (dlv n)).2 = s ∧ (s.step c (dlv n)).1.code = 10 ∧ (s.step c (dlv n)).1.frame = [] := by
  have e : s.step c (dlv n) = s.deliver c (n : Int) := rfl
  rw [e]
  unfold Wld.deliver
  rw [if_neg (by rw [h]; decide), if_pos h]
  exact ⟨rfl, rfl, rfl⟩
end Go.Proofs.YtjdedflfdlhkdaaDoor
