/- Package share: least, sort.Search, the closure of Split. -/
import Derived.Test.YtkodpijedinanaaGrow
namespace Go.Proofs.Ytkodpijedinanaa
open Go.ChangeShapes Go.WideShapes Go.ChangeAt Go.RowKit
set_option linter.unusedVariables false

/-- All wants, but each no more than a level. -/
def least (ws : List Int) (l : Int) : Int := (ws.map fun w => min w l).sum
theorem least_take (ws : List Int) (l : Int) (k : Nat) (h : k < ws.length) : least (ws.take (k + 1)) l = least (ws.take k) l + min ws[k] l := by
  rw [take_snoc _ _ h, least, least, List.map_append, List.sum_append]; simp
theorem least_bd (ws : List Int) (l : Int) (hw : ∀ x ∈ ws, 0 ≤ x ∧ x ≤ 1048576) (hl : -1 ≤ l) : -(ws.length : Int) ≤ least ws l ∧ least ws l ≤ 1048576 * ws.length := by
  induction ws with
  | nil => simp [least]
  | cons a t ih =>
    have h1 := hw a (by simp)
    have h2 := ih (fun x hx => hw x (by simp [hx]))
    simp only [least, List.map_cons, List.sum_cons, List.length_cons] at *
    omega
set_option maxRecDepth 100000 in
set_option maxHeartbeats 1000000 in
theorem cleast (v : Value) (ws : List Int) (l : Int) (w : World) (h : Has w 1 v ws.length (ints ws)) (hw : ∀ x ∈ ws, 0 ≤ x ∧ x ≤ 1048576) (hlen : ws.length ≤ 16) (hl0 : -1 ≤ l) (hl1 : l ≤ 1048577) :
    Calls Try.prog 27 #[v, .int .i64 l] w fun e w' => e = .returned (.int .i64 (least ws l)) ∧ w = w' := by
  obtain ⟨hl, a, cap, rfl, hn, hm, hc⟩ := h
  unfold maxLen at hm
  have HW := Lib.hid hw
  clear hw hl
  go_enter Try.func27, Try.ntmps27
  go_wp2_with fail
  go_loop [4, 6, 9] (fun n x i => ∃ k : Nat, k ≤ ws.length ∧ i = .int .i64 k ∧ n = .int .i64 (least (ws.take k) l)) (fun _ _ i => ws.length - (intOf i).toNat)
  case atStart => exact ⟨0, by omega, rfl, rfl⟩
  case round =>
    obtain ⟨k, hk, rfl, rfl⟩ := hrel
    by_cases h1 : k < ws.length
    · obtain ⟨b, off, rfl, hcc⟩ := hc (by simp; omega)
      have hcell := hcc k _ (ints_get ws k h1)
      have Hs := Lib.hid (least_take ws l k h1)
      obtain ⟨hb1, hb2⟩ := least_bd (ws.take k) l (fun x hx => HW.out x (List.mem_of_mem_take hx)) hl0
      obtain ⟨hb3, hb4⟩ := HW.out _ (List.getElem_mem h1)
      rw [List.length_take] at hb1 hb2
      have hb5 : -16 ≤ least (ws.take k) l := by omega
      have hb6 : least (ws.take k) l ≤ 16777216 := by omega
      have Hmin := Lib.hid (show min ws[k] l = if l < ws[k] then l else ws[k] by split <;> omega)
      clear hb1 hb2 hcc hc
      go_wp2_with fail
      all_goals
        go_round
        case rel => exact ⟨k + 1, by omega, by go_num, by rw [Hs.out, Hmin.out]⟩
        case measure => simp [intOf]; omega
    · obtain rfl : k = ws.length := by omega
      have ht := List.take_length (l := ws)
      clear hc
      go_wp2
      go_ret
      exact ⟨rfl, rfl⟩
/-- The closure of Split: do all wants, up to a level, come to more than there is? -/
theorem cover (b3 b2 : Nat) (v : Value) (ws : List Int) (total n : Int) (w : World) (h : Has w 1 v ws.length (ints ws)) (hw : ∀ x ∈ ws, 0 ≤ x ∧ x ≤ 1048576) (hlen : ws.length ≤ 16) (h0 : 0 ≤ n) (h1 : n ≤ 1048577)
    (c3 : w.cell? ⟨b3, 0, none⟩ = some v) (c2 : w.cell? ⟨b2, 0, none⟩ = some (.int .i64 total)) :
    Calls Try.prog 26 #[.int .i64 n, .pointer (some ⟨b3, 0, none⟩), .pointer (some ⟨b2, 0, none⟩)] w fun e w' => e = .returned (.bool (decide (total < least ws n))) ∧ ∃ m, w' = w.drewN m := by
  have Hl := Lib.hid (fun X (hX : Has X 1 v ws.length (ints ws)) => (cleast v ws n X hX hw hlen (by omega) h1).mono fun _ _ h => same_symm h)
  have Hh := Lib.hid h
  clear h hw
  go_enter Try.func26, Try.ntmps26
  go_wp2
  go_quiet ((go_at_call 27; exact Calls.quiet_of_same (Hl.out _ (Hh.out.below (below_drewN (Below.refl _ _) _)))))
  go_wp2
  go_ret
  exact ⟨rfl, nq, rfl⟩
end Go.Proofs.Ytkodpijedinanaa
