/- Package wire: the contract of Size. -/
import Derived.Test.YtgmichaconnhaaaFld
namespace Go.Proofs.Ytgmichaconnhaaa
open Go.ChangeShapes Go.WideShapes Go.ChangeAt Go.RowKit
set_option linter.unusedVariables false

/-- 'Size'. -/
def wsum (ws : List Int) : Int := ws.sum
theorem wsum_take (ws : List Int) (k : Nat) (h : k < ws.length) : wsum (ws.take (k + 1)) = wsum (ws.take k) + ws[k] := by
  rw [take_snoc _ _ h, wsum, wsum, List.sum_append, List.sum_cons, List.sum_nil]; omega
theorem wsum_bd (ws : List Int) (hw : ∀ x ∈ ws, 1 ≤ x ∧ x ≤ 60) : 0 ≤ wsum ws ∧ wsum ws ≤ 60 * ws.length ∧ ws.length ≤ wsum ws := by
  induction ws with
  | nil => simp [wsum]
  | cons a l ih =>
    have h1 := hw a (by simp)
    have h2 := ih (fun x hx => hw x (by simp [hx]))
    simp only [wsum, List.sum_cons, List.length_cons] at *
    omega
set_option maxRecDepth 100000 in
set_option maxHeartbeats 1000000 in
theorem csize (v : Value) (ws : List Int) (w : World) (h : Has w 1 v ws.length (ints ws)) (hw : ∀ x ∈ ws, 1 ≤ x ∧ x ≤ 60) (hlen : ws.length ≤ 40) :
    Calls Try.prog 53 #[v] w fun e w' => e = .returned (.tuple #[.int .i64 ((wsum ws + 7) / 8), .int .i64 0]) ∧ w = w' := by
  obtain ⟨hl, a, cap, rfl, hn, hm, hc⟩ := h
  unfold maxLen at hm
  have HW := Lib.hid hw
  have HB := Lib.hid (wsum_bd ws hw)
  clear hw
  go_enter Try.func53, Try.ntmps53
  go_wp2_with fail
  go_loop [4, 6, 12] (fun n x i => ∃ k : Nat, k ≤ ws.length ∧ i = .int .i64 k ∧ n = .int .i64 (wsum (ws.take k))) (fun _ _ i => ws.length - (intOf i).toNat)
  case atStart => exact ⟨0, by omega, rfl, rfl⟩
  case round =>
    obtain ⟨k, hk, rfl, rfl⟩ := hrel
    by_cases h1 : k < ws.length
    · obtain ⟨b, off, rfl, hcc⟩ := hc (by simp; omega)
      have hcell := hcc k _ (ints_get ws k h1)
      have hbl := World.block_lt_of_cell? w _ hcell
      obtain ⟨hx1, hx2⟩ := HW.out _ (List.getElem_mem h1)
      have Hs := Lib.hid (wsum_take ws k h1)
      obtain ⟨hb1, hb2, hb3⟩ := wsum_bd (ws.take k) (fun x hx => HW.out x (List.mem_of_mem_take hx))
      have hb4 : wsum (ws.take k) ≤ 2400 := by rw [List.length_take] at hb2; omega
      clear hb2 hb3 hcc hc
      go_wp2_with fail
      go_round
      case rel => exact ⟨k + 1, by omega, by go_num, by rw [Hs.out]⟩
      case measure => simp [intOf]; omega
    · obtain rfl : k = ws.length := by omega
      obtain ⟨hb1, hb2, hb3⟩ := HB.out
      have ht := List.take_length (l := ws)
      have hb4 : wsum ws ≤ 2400 := by omega
      clear hc hb2 hb3
      go_wp2
      go_ret2
      exact ⟨rfl, rfl⟩
end Go.Proofs.Ytgmichaconnhaaa
