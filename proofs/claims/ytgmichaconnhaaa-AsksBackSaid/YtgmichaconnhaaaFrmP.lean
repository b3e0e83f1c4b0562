/- Package wire: Unpack of what was packed; Repeat, of none too. -/
import Derived.Test.YtgmichaconnhaaaUnp
import Derived.Test.YtgmichaconnhaaaPackBackL
import Derived.Test.YtgmichaconnhaaaRepeat
import Derived.Test.YtgmichaconnhaaaApp
import Derived.Deep.RegionLaw
namespace Go.Proofs.Ytgmichaconnhaaa
open Go.ChangeShapes Go.WideShapes Go.ChangeAt Go.RowKit
set_option linter.unusedVariables false
set_option linter.unusedSimpArgs false

set_option maxRecDepth 100000 in
set_option maxHeartbeats 2000000 in
theorem crepeat0 (v : Value) (x : Int) (w : World) (h : Has w 1 v 1 (ints [x])) :
    Calls Try.prog 39 #[v, .int .i64 0] w fun e w' => ∃ v', e = .returned v' ∧ w'.ownsRow w.heap.size 3 1 v' 0 (ints (List.replicate 0 x)) ∧ Below w.heap.size w w' := by
  have mk : ∀ X : World, (Instr.makeSlice 44 (.int .i64 0) (.int .i64 0)).run Try.prog X = .ok (.slice (some ⟨X.heap.size, 0, none⟩) 0 0) (X.alloc (.cells #[] 3)) := fun X => run_mk infoInt Try.underlying44 rfl X 0 (by omega) (by omega)
  obtain ⟨_, a, cap, rfl, _, _, hc⟩ := h
  obtain ⟨b, off, rfl, hcc⟩ := hc (by simp [ints])
  have g0 := hcc 0 _ rfl
  rw [Nat.add_zero] at g0
  have w0 : IntKind.u64.wrap 0 = 0 := rfl
  have w1 : IntKind.u64.wrap 1 = 1 := rfl
  have hbl := World.block_lt_of_cell? w _ g0
  have CM := Lib.hid (cmul 0 (by omega) w)
  clear hc hcc g0
  go_enter Try.func39, Try.ntmps39
  go_wp2_with (first | (go_at_call 56; refine CM.out.mono ?_; rintro e w' ⟨rfl, rfl⟩) | (with_reducible refine wpList_copy_splice rfl _ _ _ _ rfl 3 Try.underlying44 (by kernel_rfl) _ _ _ _ _ _ rfl rfl w.heap.size 0 [] 3 (by exact heap_alloc_new _ _) [] ?_ ?_ ?_ ?_ w.heap.size w ((Below.refl _ _).alloc (Nat.le_refl _) _) (Nat.le_refl _) ?_) | fail)
  case refine_1 => rfl
  case refine_3 => simp
  case refine_4 => intro v hv; simp at hv
  intro w2 hrow hb2
  have Hrow : Hid (w2.heap[w.heap.size]? = some (.cells #[] 3 (0, 0))) := by
    show _ = _
    have h := hrow.out
    simpa [splice] using h
  have Hb2 := Lib.hid hb2
  clear hrow hb2 mk w0 w1
  go_wp2_with fail
  go_loopw [8] (fun c wr => c = .int .i64 0 ∧ w2 = wr) (fun _ _ => 0)
  case atStart => exact ⟨rfl, rfl⟩
  case round =>
    obtain ⟨rfl, rfl⟩ := hrel
    have Hown : Hid (w2.ownsRow w.heap.size 3 1 (.slice (some ⟨w.heap.size, 0, none⟩) 0 0) 0 (ints (List.replicate 0 x))) :=
      ⟨by simp, .inr ⟨_, 0, _, rfl, Nat.le_refl _, Hrow.out, Nat.le_refl _, by unfold maxLen; omega, by simp, by simp [ints]⟩⟩
    clear Hrow
    go_wp2_with fail
    go_ret
    exact ⟨_, rfl, Hown.out, Hb2.out⟩
theorem crepeatE (v : Value) (x : Int) (n : Nat) (w : World) (h : Has w 1 v 1 (ints [x])) (h48 : n ≤ 48) :
    Calls Try.prog 39 #[v, .int .i64 n] w fun e w' => ∃ v', e = .returned v' ∧ w'.ownsRow w.heap.size 3 1 v' n (ints (List.replicate n x)) ∧ Below w.heap.size w w' := by
  by_cases h0 : n = 0
  · subst h0; exact crepeat0 v x w h
  · exact crepeat v x n w h (by omega) h48
theorem recB_lt (F : List (Int × Int)) : ∀ b ∈ recB F, b < 256 := fun b hb => by
  simp only [recB, List.mem_map, List.mem_range] at hb
  obtain ⟨j, _, rfl⟩ := hb
  exact byteOf_lt _ (recBits_bits F) j
theorem cunpackF (v1 vb : Value) (F : List (Int × Int)) (w : World) (hok : FieldsOk F) (h1 : Has w 1 v1 F.length (ints (F.map (·.1)))) (hb : Has w 1 vb (recSize F) (u8s (recB F))) :
    Calls Try.prog 38 #[v1, vb] w fun e w' => ∃ v', e = .returned (.tuple #[v', .int .i64 0]) ∧ w'.ownsRow w.heap.size 3 1 v' F.length (ints (F.map (·.2))) ∧ Below w.heap.size w w' := by
  have hbl := recB_length F
  have el : (F.map (·.1)).length = F.length := by simp
  refine (cunpack v1 vb (F.map (·.1)) (recB F) w (by rw [el]; exact h1) hok.ws (by rw [el]; exact hok.1) (by rw [hbl]; exact hb) (recB_lt F) (by
    rw [hbl, wsum_bits F (fun p hp => (hok.2 p hp).1)]
    unfold recSize; omega)).mono ?_
  rintro e w4 ⟨h, hb2⟩
  have hz := rest_back F
  rcases h with ⟨vu, rfl, _, hown⟩ | ⟨_, hnz⟩
  case inr => exact absurd hz hnz
  have hvb := unpack_back F [] (fun p hp => ⟨(hok.2 p hp).2.2.1, (hok.2 p hp).2.2.2⟩)
  have e0 : (recBits ([] : List (Int × Int))).length = 0 := rfl
  rw [List.nil_append, e0] at hvb
  rw [hvb, el] at hown
  exact ⟨vu, rfl, hown, hb2⟩
end Go.Proofs.Ytgmichaconnhaaa
