/- Clocks: fault, Order, the laws' order. -/
import Derived.Test.YtkeefpeffeoakaaClock
namespace Go.Proofs.Ytkeefpeffeoakaa
open Go.ChangeShapes Go.WideShapes Go.ChangeAt Go.RowKit
set_option linter.unusedVariables false

set_option maxRecDepth 100000 in
set_option maxHeartbeats 1000000 in
theorem cckFault (v1 v2 : Value) (a b : List Int) (w : World) (h1 : Has w 1 v1 a.length (ints a)) (h2 : Has w 1 v2 b.length (ints b)) (o1 : ckOk a) (o2 : ckOk b) (hl : a.length = b.length) (hp : 1 ≤ a.length) (h8 : a.length ≤ 8) :
    Calls Try.prog 30 #[v1, v2] w fun e w' => e = .returned (.int .i64 0) ∧ w = w' := by
  have M1 := Lib.hid (cckMay v1 a w h1 o1 hp h8)
  have M2 := Lib.hid (cckMay v2 b w h2 o2 (by omega) (by omega))
  obtain ⟨hl1, a1, cap1, rfl, hn1, hm1, hc1⟩ := h1
  obtain ⟨hl2, a2, cap2, rfl, hn2, hm2, hc2⟩ := h2
  unfold maxLen at hm1 hm2
  have d : (((a.length : Nat) : Int) != (b.length : Int)) = false := by rw [bne_eq_false_iff_eq]; omega
  clear hc1 hc2 o1 o2 hl
  go_enter Try.func30, Try.ntmps30
  go_wp2_with fail
  refine M1.out.mono ?_
  rintro e w' ⟨rfl, rfl⟩
  go_wp2_with fail
  refine M2.out.mono ?_
  rintro e w' ⟨rfl, rfl⟩
  go_wp2_with fail
  go_ret
  exact ⟨rfl, rfl⟩
set_option maxRecDepth 100000 in
set_option maxHeartbeats 2000000 in
theorem cckOrder (v1 v2 : Value) (a b : List Int) (w : World) (h1 : Has w 1 v1 a.length (ints a)) (h2 : Has w 1 v2 b.length (ints b)) (o1 : ckOk a) (o2 : ckOk b) (hl : a.length = b.length) (hp : 1 ≤ a.length) (h8 : a.length ≤ 8) :
    Calls Try.prog 32 #[v1, v2] w fun e w' => e = .returned (.tuple #[.int .i64 (ckOrd a b), .int .i64 0]) ∧ Below w.heap.size w w' := by
  have F := Lib.hid (cckFault v1 v2 a b w h1 h2 o1 o2 hl hp h8)
  obtain ⟨hl1, a1, cap1, rfl, hn1, hm1, hc1⟩ := h1
  obtain ⟨hl2, a2, cap2, rfl, hn2, hm2, hc2⟩ := h2
  unfold maxLen at hm1 hm2
  have hle1 : a.length ≤ b.length := by omega
  have hle2 : b.length ≤ a.length := by omega
  clear o1 o2 hl
  go_enter Try.func32, Try.ntmps32
  go_wp2_with (go_at_call 30; refine F.out.mono ?_; rintro e w' ⟨rfl, rfl⟩)
  go_loopw [7, 8, 9, 18] (fun l m _ i wr => ∃ k : Nat, k ≤ a.length ∧ i = .int .i64 k ∧ l = .bool (ckLess (a.take k) (b.take k)) ∧ m = .bool (ckLess (b.take k) (a.take k)) ∧ Below w.heap.size w wr) (fun _ _ _ i _ => a.length - (intOf i).toNat)
  case atStart => exact ⟨0, by omega, rfl, rfl, rfl, Below.refl _ _⟩
  case round =>
    obtain ⟨k, hk, rfl, rfl, rfl, hb⟩ := hrel
    have Hb := Lib.hid hb
    clear hb
    by_cases hlt : k < a.length
    · have hlt2 : k < b.length := by omega
      obtain ⟨b1, off1, rfl, hcc1⟩ := hc1 (by simp; omega)
      obtain ⟨b2, off2, rfl, hcc2⟩ := hc2 (by simp; omega)
      have g1 := cell_on Hb.out (hcc1 _ _ (ints_get a k hlt))
      have g2 := cell_on Hb.out (hcc2 _ _ (ints_get b k hlt2))
      have S1 := Lib.hid (ckLess_snoc a b k hlt hlt2)
      have S2 := Lib.hid (ckLess_snoc b a k hlt2 hlt)
      generalize a[k] = x at *
      generalize b[k] = y at *
      generalize ckLess (a.take k) (b.take k) = l at *
      generalize ckLess (b.take k) (a.take k) = m at *
      clear hc1 hc2 hcc1 hcc2
      cases l <;> cases m
      all_goals (
        go_wp2
        go_quiet (fail)
        go_wp2
        go_quiet (fail)
        go_wp2
        go_roundw
        case rel => exact ⟨k + 1, by omega, by go_num, by rw [S1.out]; rfl, by rw [S2.out]; rfl, below_drewN Hb.out _⟩
        case measure => simp [intOf]; omega)
    · obtain rfl : k = a.length := by omega
      rw [List.take_of_length_le (Nat.le_refl _), List.take_of_length_le (by omega)]
      have E := Lib.hid (show ckOrd a b = if ckLess a b = true then (if ckLess b a = true then 2 else -1) else if ckLess b a = true then 1 else 0 from rfl)
      clear hc1 hc2
      generalize ckLess a b = l at *
      generalize ckLess b a = m at *
      cases l <;> cases m
      all_goals (
        go_wp2
        go_ret2
        rw [E.out]
        exact ⟨rfl, Hb.out⟩)
set_option maxRecDepth 100000 in
set_option maxHeartbeats 2000000 in
theorem corder (v1 v2 : Value) (a b : List Int) (w : World) (h1 : Has w 1 v1 a.length (ints a)) (h2 : Has w 1 v2 b.length (ints b)) (o1 : ckOk a) (o2 : ckOk b) (hl : a.length = b.length) (hp : 1 ≤ a.length) (h8 : a.length ≤ 8) :
    Calls Try.prog 13 #[v1, v2] w fun e w' => e = .returned (.int .i64 (ckOrd a b)) ∧ Below w.heap.size w w' := by
  have F := Lib.hid (cckOrder v1 v2 a b w h1 h2 o1 o2 hl hp h8)
  clear h1 h2 o1 o2
  go_enter Try.func13, Try.ntmps13
  go_wp2_with (go_at_call 32; refine F.out.mono ?_; rintro e w' ⟨rfl, hb⟩)
  go_ret
  exact ⟨rfl, hb⟩
end Go.Proofs.Ytkeefpeffeoakaa
