/- Package hold: the plain law of 'HoldSums'. -/
import Derived.Test.YtjdedflfdlhkdaaDoorKaa
namespace Go.Proofs.YtjdedflfdlhkdaaDoor
set_option linter.unusedVariables false
set_option linter.unusedSimpArgs false

def Shf.all (s : Shf) : Int := s.free + s.held + s.used
/-- What an order brings. -/
def gain (s : Shf) (o : Ord) : Int := if o.kind = 1 ∧ (s.out o).code = 0 then o.count else 0
theorem next_all (s : Shf) (o : Ord) : (s.next o).all = s.all + gain s o := by
  have hg : o.kind ≠ 1 → gain s o = 0 := fun h => if_neg fun hh => h hh.1
  have hg0 : ((o.kind = 1 ∨ o.kind = 2 ∨ o.kind = 3 ∨ o.kind = 6) ∧ ¬ (1 ≤ o.count ∧ o.count ≤ 1048576)) → gain s o = 0 := fun h => if_neg fun hh => by
    have := hh.2
    unfold Shf.out Shf.order at this
    rw [if_pos h] at this
    simp only at this
    omega
  have hg1 : ¬ ((o.kind = 1 ∨ o.kind = 2 ∨ o.kind = 3 ∨ o.kind = 6) ∧ ¬ (1 ≤ o.count ∧ o.count ≤ 1048576)) → o.kind = 1 → gain s o = if 1048576 < s.free + s.held + s.used + o.count then 0 else o.count := fun h h1 => by
    unfold gain Shf.out Shf.order
    rw [if_neg h, if_pos h1]
    split <;> simp [h1]
  unfold Shf.next Shf.order
  by_cases c0 : (o.kind = 1 ∨ o.kind = 2 ∨ o.kind = 3 ∨ o.kind = 6) ∧ ¬ (1 ≤ o.count ∧ o.count ≤ 1048576)
  · rw [if_pos c0, hg0 c0]; simp
  rw [if_neg c0]
  by_cases c1 : o.kind = 1
  · rw [if_pos c1, hg1 c0 c1]
    split
    · simp
    · simp only [Shf.all, Shf.held]; omega
  rw [if_neg c1, hg c1]
  by_cases c2 : o.kind = 2
  · rw [if_pos c2]
    split
    · simp
    · simp only [Shf.all, Shf.held]; omega
  rw [if_neg c2]
  by_cases c3 : o.kind = 6
  · rw [if_pos c3]
    split
    · simp
    · simp only [Shf.all, Shf.held]; omega
  rw [if_neg c3]
  by_cases c4 : o.kind = 3
  · rw [if_pos c4]
    split
    · simp
    split
    · simp
    split
    · simp
    · simp only [Shf.all, Shf.held, heldL_append, heldL_cons, heldL_nil]; omega
  rw [if_neg c4]
  by_cases c5 : o.kind = 4 ∨ o.kind = 5
  · rw [if_pos c5]
    split
    · simp
    cases hp : s.place o.id with
    | none => simp
    | some i =>
      have h1 := heldL_erase s.hs i
      simp only
      split <;> simp only [Shf.all, Shf.held, Shf.at'] <;> omega
  rw [if_neg c5]
  split
  · have h1 := heldL_split (s.hs.map Hd.dec)
    rw [heldL_dec] at h1
    simp only [Shf.ticked, Shf.all, Shf.held]; omega
  · simp
/-- What was brought by the first k. -/
def gains (l : List Ord) : Nat → Int
  | 0 => 0
  | k + 1 => gains l k + (match l[k]? with | some o => gain (shfFold (l.take k)).1 o | none => 0)
theorem all_gains (l : List Ord) : ∀ k, k ≤ l.length → (shfFold (l.take k)).1.all = gains l k
  | 0, _ => rfl
  | k + 1, hk => by
    rw [shfFold_take l k (by omega)]
    simp only [shfStep, gains]
    rw [next_all, all_gains l k (by omega), List.getElem?_eq_getElem (by omega)]
end Go.Proofs.YtjdedflfdlhkdaaDoor
