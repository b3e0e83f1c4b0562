/- Helpers of the laws: sameInts. -/
import Derived.Test.YtkodpijedinanaaMem
namespace Go.Proofs.Ytkodpijedinanaa
open Go.ChangeShapes Go.WideShapes Go.ChangeAt Go.RowKit
set_option linter.unusedVariables false

theorem take_succ_eqI {α : Type} (l1 l2 : List α) (k : Nat) (h1 : k < l1.length) (h2 : k < l2.length) (h : l1.take k = l2.take k) (he : l1[k] = l2[k]) : l1.take (k + 1) = l2.take (k + 1) := by
  rw [take_snoc _ _ h1, take_snoc _ _ h2, h, he]
set_option maxRecDepth 100000 in
set_option maxHeartbeats 1000000 in
theorem csameInts (v1 v2 : Value) (l1 l2 : List Int) (w : World) (h1 : Has w 1 v1 l1.length (ints l1)) (h2 : Has w 1 v2 l2.length (ints l2)) :
    Calls Try.prog 9 #[v1, v2] w fun e w' => e = .returned (.bool (decide (l1 = l2))) ∧ Below w.heap.size w w' := by
  obtain ⟨hl1, a1, cap1, rfl, hn1, hm1, hc1⟩ := h1
  obtain ⟨hl2, a2, cap2, rfl, hn2, hm2, hc2⟩ := h2
  unfold maxLen at hm1 hm2
  by_cases hlen : l1.length = l2.length
  · have hd : (((l1.length : Nat) : Int) != (l2.length : Int)) = false := by rw [bne_eq_false_iff_eq]; omega
    have Hlen := Lib.hid hlen
    have hle : l1.length ≤ l2.length := by omega
    have hle' : l2.length ≤ l1.length := by omega
    clear hlen
    go_enter Try.func9, Try.ntmps9
    go_wp2
    go_loopw [5] (fun i wr => ∃ k : Nat, k ≤ l1.length ∧ i = .int .i64 k ∧ l1.take k = l2.take k ∧ Below w.heap.size w wr) (fun i _ => l1.length - (intOf i).toNat)
    case atStart => exact ⟨0, by omega, rfl, rfl, Below.refl _ _⟩
    case round =>
      clear hd
      obtain ⟨k, hk, rfl, ht, hb⟩ := hrel
      have Ht := Lib.hid ht
      have Hb := Lib.hid hb
      clear ht hb
      by_cases h1 : k < l1.length
      · have h2 : k < l2.length := by omega
        obtain ⟨b, off, rfl, hcc⟩ := hc1 (by simp; omega)
        obtain ⟨b2, off2, rfl, hcc2⟩ := hc2 (by simp; omega)
        have g1 := cell_on Hb.out (hcc _ _ (ints_get l1 k h1))
        have g2 := cell_on Hb.out (hcc2 _ _ (ints_get l2 k h2))
        clear hcc hcc2 hc1 hc2
        by_cases he : l1[k] = l2[k]
        · have he' : (l1[k] != l2[k]) = false := by rw [bne_eq_false_iff_eq, he]
          have Hs := Lib.hid (take_succ_eqI l1 l2 k h1 h2 Ht.out he)
          clear he
          go_wp2
          go_quiet (fail)
          go_wp2
          go_roundw
          case rel => exact ⟨k + 1, by omega, by go_num, Hs.out, below_drewN Hb.out _⟩
          case measure => simp [intOf]; omega
        · have he' : (l1[k] != l2[k]) = true := by rw [bne_iff_ne]; intro h; apply he; first | exact h | omega
          have Hf := Lib.hid (show decide (l1 = l2) = false from decide_eq_false fun h => he (by subst h; rfl))
          clear he
          go_wp2
          go_quiet (fail)
          go_wp2
          go_ret
          rw [Hf.out]
          exact ⟨rfl, below_drewN Hb.out _⟩
      · obtain rfl : k = l1.length := by omega
        have Hf := Lib.hid (show decide (l1 = l2) = true from decide_eq_true (by
          have := Ht.out
          rw [List.take_of_length_le (Nat.le_refl _), List.take_of_length_le (by omega)] at this
          exact this))
        clear hc1 hc2
        go_wp2
        go_ret
        rw [Hf.out]
        exact ⟨rfl, Hb.out⟩
  · have H := Lib.hid (show decide (l1 = l2) = false from decide_eq_false fun h => hlen (congrArg List.length h))
    have hd : (((l1.length : Nat) : Int) != (l2.length : Int)) = true := by rw [bne_iff_ne]; omega
    clear hc1 hc2 hlen
    go_enter Try.func9, Try.ntmps9
    go_wp2
    go_ret
    rw [H.out]
    exact ⟨rfl, Below.refl _ _⟩
end Go.Proofs.Ytkodpijedinanaa
