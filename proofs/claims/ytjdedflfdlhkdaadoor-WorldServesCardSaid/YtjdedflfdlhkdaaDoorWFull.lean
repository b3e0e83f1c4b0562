/- World: the laws' Frames, Full. -/
import Derived.Test.YtjdedflfdlhkdaaDoorKav
namespace Go.Proofs.YtjdedflfdlhkdaaDoor
open Go.ChangeShapes Go.WideShapes Go.ChangeAt Go.RowKit
set_option linter.unusedVariables false
set_option linter.unusedSimpArgs false

def dlv (n : Nat) : Stp := ⟨10, 0, 0, 0, 0, (n : Int), 0, 0⟩
/-- Behind steps a tick, whose frames all come. -/
def fullOf (l : List Stp) : List Stp := l ++ [tk9] ++ (List.range 20).map fun i => dlv (20 * ticksIn l + i)
theorem fullOf_len (l : List Stp) : (fullOf l).length = l.length + 21 := by simp [fullOf]
def fullTo (l : List Stp) (k : Nat) : List Stp := l ++ [tk9] ++ (List.range k).map fun i => dlv (20 * ticksIn l + i)
theorem fullTo_succ (l : List Stp) (k : Nat) : fullTo l (k + 1) = fullTo l k ++ [dlv (20 * ticksIn l + k)] := by unfold fullTo; rw [List.range_succ, List.map_append, ← List.append_assoc]; rfl
theorem fullTo_len (l : List Stp) (k : Nat) : (fullTo l k).length = l.length + 1 + k := by simp [fullTo]; omega
set_option maxRecDepth 100000 in
set_option maxHeartbeats 4000000 in
theorem cFrames (v : Value) (l : List Stp) (w : World) (h : Has w 8 v l.length (stps l)) (hl : l.length ≤ 1000) :
    Calls Tryd.prog 17 #[v] w fun e w' => e = .returned (.int .i64 ((20 * ticksIn l : Nat) : Int)) ∧ w = w' := by
  have H := Lib.hid h
  obtain ⟨_, ad, cap, rfl, _, hcm, _⟩ := h
  unfold maxLen at hcm
  go_enter Tryd.func17, Tryd.ntmps17
  go_wp2_with fail
  go_loopw [3, 4] (fun n i wr => ∃ k : Nat, k ≤ l.length ∧ i = .int .i64 k ∧ n = .int .i64 ((20 * ticksIn (l.take k) : Nat) : Int) ∧ Hid (w = wr)) (fun _ i _ => l.length - (intOf i).toNat)
  case atStart => exact ⟨0, by omega, rfl, rfl, rfl⟩
  case round =>
    obtain ⟨k, hk, rfl, rfl, HW⟩ := hrel
    by_cases h1 : k < l.length
    · obtain ⟨b, off, cap', he, -, -, x0, -⟩ := stp_get H.out k h1
      simp only [Value.slice.injEq] at he
      obtain ⟨rfl, -, rfl⟩ := he
      rw [HW.out] at x0
      have Htn : Hid (ticksIn (l.take (k + 1)) = ticksIn (l.take k) + if (l[k]'h1).kind = 9 then 1 else 0) := by
        show _ = _
        rw [take_snoc _ _ h1, ticksIn_snoc]
      have htl : ticksIn (l.take k) ≤ 1000 := by have := ticksIn_le (l.take k); rw [List.length_take] at this; omega
      have e1 : (k : Int) < (l.length : Int) := by omega
      by_cases hq : (l[k]'h1).kind = 9
      · simp only [hq, ↓reduceIte] at Htn
        rw [hq] at x0
        have hw20 : IntKind.i64.wrap (((20 * ticksIn (l.take k) : Nat) : Int) + 20) = ((20 * ticksIn (l.take k) : Nat) : Int) + 20 := IntWalk.i64_in _ (by omega)
        clear hq
        generalize ticksIn (l.take k) = T0 at *
        go_wp2_with fail
        go_roundw
        case rel => exact ⟨k + 1, by omega, by go_num, by rw [Htn.out]; first | rfl | (congr 1; done) | (congr 1; omega), HW⟩
        case measure => simp [intOf]; omega
      · simp only [hq, ↓reduceIte] at Htn
        have hqf : ((l[k]'h1).kind == 9) = false := by simpa using hq
        clear hq
        generalize (l[k]'h1).kind = q at *
        generalize ticksIn (l.take k) = T0 at *
        go_wp2_with fail
        go_roundw
        case rel => exact ⟨k + 1, by omega, by go_num, by rw [Htn.out]; first | rfl | (congr 1; done) | (congr 1; omega), HW⟩
        case measure => simp [intOf]; omega
    · obtain rfl : k = l.length := by omega
      have e : l.take l.length = l := List.take_of_length_le (Nat.le_refl _)
      rw [e]
      go_wp2_with fail
      go_ret
      exact ⟨rfl, HW.out⟩
set_option maxRecDepth 100000 in
set_option maxHeartbeats 4000000 in
theorem cFull (v : Value) (l : List Stp) (w : World) (h : Has w 8 v l.length (stps l)) (hl : l.length ≤ 900) :
    Calls Tryd.prog 10 #[v] w fun e w' => ∃ v', e = .returned v' ∧ w'.ownsRow w.heap.size 30 8 v' (fullOf l).length (stps (fullOf l)) ∧ Below w.heap.size w w' := by
  have H := Lib.hid h
  have CF := Lib.hid (cFrames v l w h (by omega))
  obtain ⟨_, ad, cap, rfl, _, hcm, _⟩ := h
  have H1 := Lib.hid (stps_all l)
  have htl : ticksIn l ≤ 900 := by have := ticksIn_le l; omega
  obtain ⟨N0, hN0⟩ : ∃ n, n = 20 * ticksIn l := ⟨_, rfl⟩
  rw [← hN0] at CF
  have hNb : N0 ≤ 18000 := by omega
  have HN0 := Lib.hid hN0
  clear hN0 htl
  unfold maxLen at hcm
  go_enter Tryd.func10, Tryd.ntmps10
  go_upto_region 2 with ((go_at_call 17; refine CF.out.mono ?_; rintro e w' ⟨rfl, rfl⟩))
  have hszw : w.heap.size ≤ w.heap.size := Nat.le_refl _
  go_upto_region 3 with (first | (at_builtin; refine wp_app1 (w0 := w2) 27 30 8 64 _ elStep Tryd.underlying27 w.heap.size _ _ _ hown2 (by repeat (first | exact Below.refl _ _ | refine Below.drew ?_ | refine Below.alloc ?_ (by first | (simp; done) | (simp; omega)) _ | refine Below.setCell ?_ (by first | (simp; done) | (simp; omega)) _)) [.int .i64 9, .int .i64 0, .int .i64 0, .int .i64 0, .int .i64 0, .int .i64 0, .int .i64 0, .int .i64 0] rfl _ _ rfl rfl rfl (by first | exact heap_alloc_new _ _ | (simp only [heap_drew, heap_drewN]; exact heap_alloc_new _ _)) (by simp) rfl rfl (by omega) (by omega) (Below.size hb2) ?_; intro v3 w3 hown3 hgrow3 hb3) | (refine wp_appN (w0 := w) 27 30 8 64 _ elStep Tryd.underlying27 w.heap.size _ _ _ (World.ownsRow_nil _ _ _ _) (by repeat (first | exact Below.refl _ _ | refine Below.drew ?_ | refine Below.alloc ?_ (by first | (simp; done) | (simp; omega)) _ | refine Below.setCell ?_ (by first | (simp; done) | (simp; omega)) _)) _ _ _ H.out rfl _ _ rfl rfl rfl H1.out (by omega) (by unfold maxLen; omega) (Nat.le_refl _) ?_; intro v2 w2 hown2 hgrow2 hb2))
  rw [List.nil_append, Nat.zero_add] at hown3
  have hO3 : Hid (w3.ownsRow w.heap.size 30 8 v3 (l.length + 1 + 0) (stps (fullTo l 0))) := by
    show World.ownsRow _ _ _ _ _ _ _
    have : stps (fullTo l 0) = stps l ++ [.int .i64 9, .int .i64 0, .int .i64 0, .int .i64 0, .int .i64 0, .int .i64 0, .int .i64 0, .int .i64 0] := by unfold fullTo; rw [List.range_zero, List.map_nil, List.append_nil, stps_snoc]; rfl
    rw [this]; exact hown3
  have hB3 : Hid (Below w.heap.size w w3) := hb2.trans hb3
  clear hown2 hgrow2 hb2 hown3 hgrow3 hb3 H H1 CF
  go_upto_region 4 with (fail)
  go_loopw [4, 5] (fun out i wr => ∃ k : Nat, k ≤ 20 ∧ i = .int .i64 k ∧ Hid (wr.ownsRow w.heap.size 30 8 out (l.length + 1 + k) (stps (fullTo l k))) ∧ Hid (Below w.heap.size w wr)) (fun _ i _ => 20 - (intOf i).toNat)
  case atStart => exact ⟨0, by omega, rfl, hO3, hB3⟩
  case round =>
    clear hO3 hB3
    obtain ⟨k, hk, rfl, HO, HB⟩ := hrel
    by_cases h1 : k < 20
    · have e1 : (k : Int) < 20 := by omega
      have hszk := HB.out.size
      have hw20 : IntKind.i64.wrap ((N0 : Int) + (k : Int)) = (N0 : Int) + (k : Int) := IntWalk.i64_in _ (by omega)
      have Hnx : Hid (stps (fullTo l (k + 1)) = stps (fullTo l k) ++ [.int .i64 10, .int .i64 0, .int .i64 0, .int .i64 0, .int .i64 0, .int .i64 ((N0 : Int) + (k : Int)), .int .i64 0, .int .i64 0]) := by
        show _ = _
        rw [fullTo_succ, stps_snoc, HN0.out]
        rfl
      have HK := Lib.hid h1
      clear h1
      go_wp2_with (at_builtin; refine wp_app1 (w0 := wr) 27 30 8 64 _ elStep Tryd.underlying27 w.heap.size _ _ _ HO.out (by repeat (first | exact Below.refl _ _ | refine Below.drew ?_ | refine Below.alloc ?_ (by first | (simp; done) | (simp; omega)) _ | refine Below.setCell ?_ (by first | (simp; done) | (simp; omega)) _)) [.int .i64 10, .int .i64 0, .int .i64 0, .int .i64 0, .int .i64 0, .int .i64 ((N0 : Int) + (k : Int)), .int .i64 0, .int .i64 0] rfl _ _ rfl rfl rfl (by first | exact heap_alloc_new _ _ | (simp only [heap_drew, heap_drewN]; exact heap_alloc_new _ _)) (by simp) rfl rfl (by omega) (by omega) hszk ?_; intro v6 w6 hown6 hgrow6 hb6)
      go_roundw
      case rel => exact ⟨k + 1, HK.out, by go_num, by show World.ownsRow _ _ _ _ _ _ _; rw [Hnx.out]; exact hown6, HB.out.trans hb6⟩
      case measure => have := HK.out; first | (simp [intOf]; done) | (simp [intOf]; omega)
    · obtain rfl : k = 20 := by omega
      go_wp2_with fail
      go_ret
      exact ⟨_, rfl, by rw [fullOf_len]; exact HO.out, HB.out⟩
end Go.Proofs.YtjdedflfdlhkdaaDoor
