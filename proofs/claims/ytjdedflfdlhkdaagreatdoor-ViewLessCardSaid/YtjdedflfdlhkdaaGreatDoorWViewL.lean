/- What some see, plain. -/
import Derived.Test.YtjdedflfdlhkdaaGreatDoorKau
namespace Go.Proofs.YtjdedflfdlhkdaaGreatDoor
set_option linter.unusedVariables false
set_option linter.unusedSimpArgs false

/-- Is it told to one of x? -/
def mine (n x : Nat) (t : Tld) : Bool := decide (0 ≤ t.who ∧ t.who < (n : Int)) && x.testBit t.who.toNat
def seenT (n x : Nat) (t : Tld) : Tld := if mine n x t = true then t else { noT 0 with who := t.who, sent := t.sent, report := t.report }
def viewOf (n x : Nat) (l : List Tld) : List Tld := l.map (seenT n x)
theorem seenT_who (n x : Nat) (t : Tld) : (seenT n x t).who = t.who := by unfold seenT; split <;> rfl
theorem seenT_sent (n x : Nat) (t : Tld) : (seenT n x t).sent = t.sent := by unfold seenT; split <;> rfl
theorem seenT_report (n x : Nat) (t : Tld) : (seenT n x t).report = t.report := by unfold seenT; split <;> rfl
theorem seen_twice (n x y : Nat) (t : Tld) : seenT n y (seenT n x t) = seenT n (x &&& y) t := by
  unfold seenT mine
  by_cases h : 0 ≤ t.who ∧ t.who < (n : Int)
  · cases hx : x.testBit t.who.toNat <;> cases hy : y.testBit t.who.toNat <;> simp [h, hx, hy, noT]
  · simp [h, noT]
theorem view_twice (n x y : Nat) (l : List Tld) : viewOf n y (viewOf n x l) = viewOf n (x &&& y) l := by
  unfold viewOf
  rw [List.map_map]
  congr 1
  funext t
  exact seen_twice n x y t
theorem view_len (n x : Nat) (l : List Tld) : (viewOf n x l).length = l.length := by simp [viewOf]
theorem seen_frame {n x : Nat} {t : Tld} (h : mine n x t = false) : (seenT n x t).frame = [] := by unfold seenT; rw [h]; rfl
/-- Who is told is a number of a place. -/
theorem step_who {c : Cfg} {s : Wld} {p : Stp} : 0 ≤ (s.step c p).1.who := by
  unfold Wld.step
  split
  · exact Int.le_refl _
  split
  · unfold Wld.deliver
    repeat' split
    all_goals simp [noT]
  split
  · unfold Wld.lose; split <;> simp [noT]
  split
  · simp [noT]
  split
  · simp [noT]
  · simp only; omega
theorem told_who (c : Cfg) (l : List Stp) (i : Nat) (T : Tld) (hT : (wFold c l).2[i]? = some T) : 0 ≤ T.who := by
  have hi : i < l.length := by rw [← wFold_len c l]; exact (List.getElem?_eq_some_iff.1 hT).1
  rw [told_at c l i hi, Option.some.injEq] at hT
  subst hT
  exact step_who
end Go.Proofs.YtjdedflfdlhkdaaGreatDoor
