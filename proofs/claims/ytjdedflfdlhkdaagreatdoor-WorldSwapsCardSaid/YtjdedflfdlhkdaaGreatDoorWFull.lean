/- World: the laws' Frames, Full. -/
import Derived.Test.YtjdedflfdlhkdaaGreatDoorKav
namespace Go.Proofs.YtjdedflfdlhkdaaGreatDoor
open Go.ChangeShapes Go.WideShapes Go.ChangeAt Go.RowKit
set_option linter.unusedVariables false
set_option linter.unusedSimpArgs false

def dlv (n : Nat) : Stp := ⟨10, 0, 0, 0, 0, (n : Int), 0, 0⟩
/-- Behind steps a tick, whose frames all come. -/
def fullOf (l : List Stp) : List Stp := l ++ [tk9] ++ (List.range 20).map fun i => dlv (20 * ticksIn l + i)
theorem fullOf_len (l : List Stp) : (fullOf l).length = l.length + 21 := by simp [fullOf]
def fullTo (l : List Stp) (k : Nat) : List Stp := l ++ [tk9] ++ (List.range k).map fun i => dlv (20 * ticksIn l + i)
theorem fullTo_succ (l : List Stp) (k : Nat) : fullTo l (k + 1) = fullTo l k ++ [dlv (20 * ticksIn l + k)] := by unfold fullTo; rw [List.range_succ, List.map_append, ← List.append_assoc]; rfl
set_option maxRecDepth 100000 in
set_option maxHeartbeats 4000000 in
theorem cFrames (v : Value) (l : List Stp) (w : World) (h : Has w 8 v l.length (stps l)) (hl : l.length ≤ 1000) :
    Calls Tryz.prog 19 #[v] w fun e w' => e = .returned (.int .i64 ((20 * ticksIn l : Nat) : Int)) ∧ w = w' := by
  have H := Lib.hid h
  obtain ⟨_, ad, cap, rfl, _, hcm, _⟩ := h
  unfold maxLen at hcm
  go_enter Tryz.func19, Tryz.ntmps19
  go_wp2_with fail
  go_loopw [3, 4] (fun n i wr => ∃ k : Nat, k ≤ l.length ∧ i = .int .i64 k ∧ n = .int .i64 ((20 * ticksIn (l.take k) : Nat) : Int) ∧ Hid (w = wr)) (fun _ i _ => l.length - (intOf i).toNat)
  case atStart => exact ⟨0, by omega, rfl, rfl, rfl⟩
  case round =>
    obtain ⟨k, hk, rfl, rfl, HW⟩ := hrel
    by_cases h1 : k < l.length
    · obtain ⟨b, off, cap', he, -, -, x0, -⟩ := stp_get H.out k h1
      simp only [Value.slice.injEq] at he
      obtain ⟨rfl, -, rfl⟩ := he
      rw [HW.out] at x0
      have Htn : Hid (ticksIn (l.take (k + 1)) = ticksIn (l.take k) + if (l[k]'h1).kind = 9 then 1 else 0) := by
        show _ = _
        rw [take_snoc _ _ h1, ticksIn_snoc]
      have htl : ticksIn (l.take k) ≤ 1000 := by have := ticksIn_le (l.take k); rw [List.length_take] at this; omega
      have e1 : (k : Int) < (l.length : Int) := by omega
      by_cases hq : (l[k]'h1).kind = 9
      · simp only [hq, ↓reduceIte] at Htn
        rw [hq] at x0
        have hw20 : IntKind.i64.wrap (((20 * ticksIn (l.take k) : Nat) : Int) + 20) = ((20 * ticksIn (l.take k) : Nat) : Int) + 20 := IntWalk.i64_in _ (by omega)
        clear hq
        generalize ticksIn (l.take k) = T0 at *
        go_wp2_with fail
        go_roundw
        case rel => exact ⟨k + 1, by omega, by go_num, by rw [Htn.out]; first | rfl | (congr 1; done) | (congr 1; omega), HW⟩
        case measure => simp [intOf]; omega
      · simp only [hq, ↓reduceIte] at Htn
        have hqf : ((l[k]'h1).kind == 9) = false := by simpa using hq
        clear hq
        generalize (l[k]'h1).kind = q at *
        generalize ticksIn (l.take k) = T0 at *
        go_wp2_with fail
        go_roundw
        case rel => exact ⟨k + 1, by omega, by go_num, by rw [Htn.out]; first | rfl | (congr 1; done) | (congr 1; omega), HW⟩
        case measure => simp [intOf]; omega
    · obtain rfl : k = l.length := by omega
      have e : l.take l.length = l := List.take_of_length_le (Nat.le_refl _)
      rw [e]
      go_wp2_with fail
      go_ret
      exact ⟨rfl, HW.out⟩
end Go.Proofs.YtjdedflfdlhkdaaGreatDoor
