/- lab.May; ContainsFunc where nothing is found. -/
import Derived.Test.YtgmichaconnhaaaMem
import Derived.Test.YtgmichaconnhaaaBits
import Derived.Test.YtgmichaconnhaaaOwn
import Derived.Shelf.Abstract
namespace Go.Proofs.Ytgmichaconnhaaa
open Go.ChangeShapes Go.WideShapes Go.ChangeAt Go.RowKit
set_option linter.unusedVariables false
set_option linter.unusedSimpArgs false

theorem andNot255 (a : Int) (h : 0 ≤ a) (h' : a ≤ 9223372036854775807) : (bits BinOp.andNot IntKind.u64 a 255 == 0) = decide (a ≤ 255) := by
  rw [u64_andNot a 255 h (by omega) (by omega) (by omega)]
  obtain ⟨n, rfl⟩ := Int.eq_ofNat_of_zero_le h
  have e : n &&& (18446744073709551615 - Int.toNat 255) = n % 18446744073709551616 / 256 * 256 := nat_hi64_8 n
  rw [Int.toNat_natCast, e]
  rw [Bool.eq_iff_iff]
  simp only [beq_iff_eq, decide_eq_true_eq]
  omega
theorem lmay (a : Int) (hw : (Lit.int .i64 a).wf = true) (w : World) :
    Calls Try.prog 51 #[.int .i64 a] w fun e w' => e = .returned (.bool (decide (0 ≤ a ∧ a ≤ 255))) ∧ w = w' := by
  have hb := wf64_iff.1 hw
  have H := Lib.hid (andNot255 a)
  go_enter Try.func51, Try.ntmps51
  go_wp2
  all_goals go_ret
  · exact ⟨ret_bool (by rw [H.out (by omega) (by omega)]; simp; omega), rfl⟩
  · exact ⟨ret_bool (by simp; omega), rfl⟩
theorem lmay_true (a : Int) (h0 : 0 ≤ a) (h1 : a ≤ 255) (w : World) :
    Calls Try.prog 51 #[.int .i64 a] w fun e w' => e = .returned (.bool true) ∧ w = w' := by
  have := lmay a (wf64_iff.2 (by omega)) w
  rwa [show decide (0 ≤ a ∧ a ≤ 255) = true by simp; omega] at this

/-- The library's IndexFunc and ContainsFunc, where nothing is found. -/
theorem cIxNone {w : World} {v : Value} {l : List Int} (g : Nat) (lb : Array Value) (eg : ∀ args w, (callFunc g args).run Try.prog w = .ok (.enter g args) w)
    (hp : ∀ x ∈ l, Calls Try.prog g (#[.int .i64 x] ++ lb) w fun e w' => e = .returned (.bool false) ∧ w = w') (h : Has w 1 v l.length (ints l)) :
    Calls Try.prog 68 #[v, .func (.func g) #[] lb] w fun e w' => e = .returned (.int .i64 (-1)) ∧ w = w' := by
  have HP := Lib.hid hp
  obtain ⟨⟨hl, _⟩, a, cap, rfl, hn, hm, hc⟩ := h
  unfold maxLen at hm
  have HC := Lib.hid hc
  clear hp hc
  go_enter Try.func68, Try.ntmps68
  go_wp2_with fail
  go_loopw [5, 8] (fun _ i wr => ∃ k : Nat, k ≤ l.length ∧ i = .int .i64 k ∧ w = wr) (fun _ i _ => l.length - (intOf i).toNat)
  case atStart => exact ⟨0, by omega, rfl, rfl⟩
  case round =>
    obtain ⟨k, hk, rfl, rfl⟩ := hrel
    by_cases hlt : k < l.length
    · have hltz : (k : Int) < (l.length : Int) := by omega
      obtain ⟨b, off, rfl, hcc⟩ := HC.out (by rw [ints_length]; omega)
      have x0 := hcc k _ (ints_get l k hlt)
      have CC := Lib.hid (HP.out l[k] (List.getElem_mem hlt))
      generalize l[k] = y at *
      clear hcc
      go_wp2_with (go_at_fn g; refine CC.out.mono ?_; rintro e w' ⟨rfl, rfl⟩)
      go_roundw
      case rel => exact ⟨k + 1, by omega, by go_num, by first | rfl | trivial⟩
      case measure => simp [intOf]; omega
    · obtain rfl : k = l.length := by omega
      go_wp2
      go_ret
      first | exact ⟨rfl, rfl⟩ | exact ⟨rfl, trivial⟩
set_option maxRecDepth 100000 in
set_option maxHeartbeats 1000000 in
theorem cHasNone {w : World} {v : Value} {l : List Int} (g : Nat) (lb : Array Value) (eg : ∀ args w, (callFunc g args).run Try.prog w = .ok (.enter g args) w)
    (hp : ∀ x ∈ l, Calls Try.prog g (#[.int .i64 x] ++ lb) w fun e w' => e = .returned (.bool false) ∧ w = w') (h : Has w 1 v l.length (ints l)) :
    Calls Try.prog 49 #[v, .func (.func g) #[] lb] w fun e w' => e = .returned (.bool false) ∧ w = w' := by
  have C := Lib.hid (cIxNone g lb eg hp h)
  clear h hp
  go_enter Try.func49, Try.ntmps49
  go_wp2_with (go_at_call 68; refine C.out.mono ?_; rintro e w' ⟨rfl, rfl⟩)
  go_ret
  exact ⟨rfl, rfl⟩
end Go.Proofs.Ytgmichaconnhaaa
