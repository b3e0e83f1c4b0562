/- Clocks: May, Order, and the laws' own helpers ClockOf, order. -/
import Derived.Test.YtkeefpeffeoakaaOwn
import Derived.Test.YtkeefpeffeoakaaSameI
namespace Go.Proofs.Ytkeefpeffeoakaa
open Go.ChangeShapes Go.WideShapes Go.ChangeAt Go.RowKit
set_option linter.unusedVariables false

/-- Somewhere the first is behind the second. -/
def ckLess (a b : List Int) : Bool := (a.zip b).any fun p => decide (p.1 < p.2)
@[simp] theorem ckLess_cons (x y : Int) (a b : List Int) : ckLess (x :: a) (y :: b) = (decide (x < y) || ckLess a b) := rfl
@[simp] theorem ckLess_nil (b : List Int) : ckLess [] b = false := rfl
theorem ckLess_snoc (a b : List Int) (k : Nat) (h1 : k < a.length) (h2 : k < b.length) : ckLess (a.take (k + 1)) (b.take (k + 1)) = (ckLess (a.take k) (b.take k) || decide (a[k] < b[k])) := by
  rw [take_snoc _ _ h1, take_snoc _ _ h2]
  unfold ckLess
  rw [List.zip_append (by simp; omega), List.any_append]
  simp
theorem ckLess_self (a : List Int) : ckLess a a = false := by
  induction a with
  | nil => rfl
  | cons x t ih => simp [ih]
theorem ckLess_eq : ∀ (a b : List Int), a.length = b.length → ckLess a b = false → ckLess b a = false → a = b
  | [], [], _, _, _ => rfl
  | x :: a, y :: b, hl, h1, h2 => by
    simp only [ckLess_cons, Bool.or_eq_false_iff, decide_eq_false_iff_not, Int.not_lt] at h1 h2
    rw [ckLess_eq a b (by simpa using hl) h1.2 h2.2, show x = y by omega]
  | [], _ :: _, hl, _, _ => by simp at hl
  | _ :: _, [], hl, _, _ => by simp at hl
theorem ckLess_trans : ∀ (a b c : List Int), a.length = b.length → b.length = c.length → ckLess b a = false → ckLess c b = false → ckLess c a = false ∧ (ckLess a b = true → ckLess a c = true)
  | [], [], [], _, _, _, _ => ⟨rfl, fun h => h⟩
  | x :: a, y :: b, z :: c, h1, h2, h3, h4 => by
    simp only [ckLess_cons, Bool.or_eq_false_iff, decide_eq_false_iff_not, Int.not_lt, Bool.or_eq_true, decide_eq_true_eq] at *
    have ih := ckLess_trans a b c (by simpa using h1) (by simpa using h2) h3.2 h4.2
    refine ⟨⟨by omega, ih.1⟩, fun h => ?_⟩
    rcases h with h | h
    · left; omega
    · right; exact ih.2 h
  | [], _ :: _, _, h, _, _, _ => by simp at h
  | _ :: _, [], _, h, _, _, _ => by simp at h
  | _, [], _ :: _, _, h, _, _ => by simp at h
  | _, _ :: _, [], _, h, _, _ => by simp at h
/-- What 'Order' answers. -/
def ckOrd (a b : List Int) : Int := if ckLess a b = true then (if ckLess b a = true then 2 else -1) else if ckLess b a = true then 1 else 0
theorem ckOrd_cases (a b : List Int) (hl : a.length = b.length) :
    (ckOrd a b = -1 ∧ ckOrd b a = 1 ∧ a ≠ b) ∨ (ckOrd a b = 0 ∧ ckOrd b a = 0 ∧ a = b) ∨ (ckOrd a b = 1 ∧ ckOrd b a = -1 ∧ a ≠ b) ∨ (ckOrd a b = 2 ∧ ckOrd b a = 2 ∧ a ≠ b) := by
  unfold ckOrd
  cases h1 : ckLess a b <;> cases h2 : ckLess b a
  · right; left; exact ⟨rfl, rfl, ckLess_eq a b hl h1 h2⟩
  · right; right; left; refine ⟨rfl, rfl, ?_⟩; rintro rfl; rw [ckLess_self] at h2; cases h2
  · left; refine ⟨rfl, rfl, ?_⟩; rintro rfl; rw [ckLess_self] at h1; cases h1
  · right; right; right; refine ⟨rfl, rfl, ?_⟩; rintro rfl; rw [ckLess_self] at h1; cases h1
theorem ckOrd_lt {a b : List Int} : ckOrd a b = -1 ↔ ckLess a b = true ∧ ckLess b a = false := by
  unfold ckOrd
  cases h1 : ckLess a b <;> cases h2 : ckLess b a <;> simp
theorem ckOrd_trans (a b c : List Int) (h1 : a.length = b.length) (h2 : b.length = c.length) (hab : ckOrd a b = -1) (hbc : ckOrd b c = -1) : ckOrd a c = -1 := by
  rw [ckOrd_lt] at *
  have := ckLess_trans a b c h1 h2 hab.2 hbc.2
  exact ⟨this.2 hab.1, this.1⟩
theorem ckOrd_self (a : List Int) : ckOrd a a = 0 := by unfold ckOrd; simp [ckLess_self]

def ckOk (c : List Int) : Prop := ∀ x ∈ c, 0 ≤ x ∧ x ≤ 1048576
set_option maxRecDepth 100000 in
set_option maxHeartbeats 1000000 in
theorem cmayf (x : Int) (h0 : 0 ≤ x) (h1 : x ≤ 1048576) (w : World) :
    Calls Try.prog 48 #[.int .i64 x] w fun e w' => e = .returned (.bool false) ∧ w = w' := by
  have d1 : decide (x < 0) = false := by simp; omega
  have d2 : decide (1048576 < x) = false := by simp; omega
  go_enter Try.func48, Try.ntmps48
  go_wp2
  go_ret
  exact ⟨rfl, rfl⟩
set_option maxRecDepth 100000 in
set_option maxHeartbeats 1000000 in
theorem cindexf (v : Value) (c : List Int) (w : World) (h : Has w 1 v c.length (ints c)) (hok : ckOk c) :
    Calls Try.prog 49 #[v, .func (.func 48) #[] #[]] w fun e w' => e = .returned (.int .i64 (-1)) ∧ w = w' := by
  obtain ⟨hl, a, cap, rfl, hn, hm, hc⟩ := h
  unfold maxLen at hm
  have Hok := Lib.hid hok
  clear hok
  go_enter Try.func49, Try.ntmps49
  go_wp2_with fail
  go_loopw [5, 8] (fun _ i wr => ∃ k : Nat, k ≤ c.length ∧ i = .int .i64 k ∧ w = wr) (fun _ i _ => c.length - (intOf i).toNat)
  case atStart => exact ⟨0, by omega, rfl, rfl⟩
  case round =>
    obtain ⟨k, hk, rfl, rfl⟩ := hrel
    by_cases h1 : k < c.length
    · obtain ⟨b, off, rfl, hcc⟩ := hc (by simp; omega)
      have g := hcc k _ (ints_get c k h1)
      obtain ⟨x0, x1⟩ := Hok.out _ (List.getElem_mem h1)
      generalize c[k] = x at *
      clear hc hcc
      go_wp2_with (go_at_call 48; refine (cmayf x x0 x1 w).mono ?_; rintro e w' ⟨rfl, rfl⟩)
      go_roundw
      case rel => exact ⟨k + 1, by omega, by go_num, trivial⟩
      case measure => simp [intOf]; omega
    · obtain rfl : k = c.length := by omega
      clear hc
      go_wp2
      go_ret
      exact ⟨rfl, rfl⟩
set_option maxRecDepth 100000 in
set_option maxHeartbeats 1000000 in
theorem ccontainsf (v : Value) (c : List Int) (w : World) (h : Has w 1 v c.length (ints c)) (hok : ckOk c) :
    Calls Try.prog 45 #[v, .func (.func 48) #[] #[]] w fun e w' => e = .returned (.bool false) ∧ w = w' := by
  go_enter Try.func45, Try.ntmps45
  go_wp2_with (go_at_call 49; refine (cindexf v c w h hok).mono ?_; rintro e w' ⟨rfl, rfl⟩)
  go_ret
  exact ⟨rfl, rfl⟩
set_option maxRecDepth 100000 in
set_option maxHeartbeats 1000000 in
theorem cckMay (v : Value) (c : List Int) (w : World) (h : Has w 1 v c.length (ints c)) (hok : ckOk c) (h1 : 1 ≤ c.length) (h8 : c.length ≤ 8) :
    Calls Try.prog 44 #[v] w fun e w' => e = .returned (.bool true) ∧ w = w' := by
  have H := Lib.hid (ccontainsf v c w h hok)
  obtain ⟨hl, a, cap, rfl, hn, hm, hc⟩ := h
  unfold maxLen at hm
  clear hc hok
  go_enter Try.func44, Try.ntmps44
  go_wp2_with (go_at_call 45; refine H.out.mono ?_; rintro e w' ⟨rfl, rfl⟩)
  go_ret
  exact ⟨rfl, rfl⟩
end Go.Proofs.Ytkeefpeffeoakaa
