/- Tallies of three branches: the laws' Blank. -/
import Derived.Test.YtkeefpeffeoakaaTallyG
namespace Go.Proofs.Ytkeefpeffeoakaa
open Go.ChangeShapes Go.WideShapes Go.ChangeAt Go.RowKit
set_option linter.unusedVariables false

set_option maxRecDepth 100000 in
set_option maxHeartbeats 4000000 in
theorem cBlank (w : World) :
    Calls Try.prog 21 #[.int .i64 3] w fun e w' => ∃ gm cm' gu cu', e = .returned (tlV gm 0 cm' gu 0 cu') ∧ TlAt w' gm 0 cm' gu 0 cu' tlBlank ∧ Below w.heap.size w w' := by
  have hmk : ∀ w, (Instr.makeSlice 22 (.int .i64 3) (.int .i64 3)).run Try.prog w = .ok (.slice (some ⟨w.heap.size, 0, none⟩) 3 3) (w.alloc (.cells #[.int .i64 0, .int .i64 0, .int .i64 0] 3)) := fun _ => by kernel_rfl
  have H0 : Hid (CopyAt w (((w.alloc (.cells #[.slice none 0 0, .slice none 0 0] 48)).alloc (.cells #[.int .i64 0, .int .i64 0, .int .i64 0] 3)).alloc (.cells #[.slice none 0 0, .slice (some ⟨w.heap.size + 1, 0, none⟩) 3 3] 48)) w.heap.size (w.heap.size + 2) 0 (.slice none 0 0) (fun _ => 0) (fun _ => 0) (w.heap.size + 1) 3 tlBlank) := by
    have e2 : ((w.alloc (.cells #[.slice none 0 0, .slice none 0 0] 48)).alloc (.cells #[.int .i64 0, .int .i64 0, .int .i64 0] 3)).heap.size = w.heap.size + 2 := by simp
    have h2 := heap_alloc_new ((w.alloc (.cells #[.slice none 0 0, .slice none 0 0] 48)).alloc (.cells #[.int .i64 0, .int .i64 0, .int .i64 0] 3)) (.cells #[.slice none 0 0, .slice (some ⟨w.heap.size + 1, 0, none⟩) 3 3] 48)
    rw [e2] at h2
    obtain ⟨x0, x1, -, -⟩ := two_cells h2
    have h1 := heap_alloc_new (w.alloc (.cells #[.slice none 0 0, .slice none 0 0] 48)) (.cells #[.int .i64 0, .int .i64 0, .int .i64 0] 3)
    have hu : ((w.alloc (.cells #[.slice none 0 0, .slice none 0 0] 48)).alloc (.cells #[.int .i64 0, .int .i64 0, .int .i64 0] 3)).ownsRow w.heap.size 3 1 (.slice (some ⟨w.heap.size + 1, 0, none⟩) 3 3) 3 (ints (row3 tlBlank.u)) :=
      owns_block (wp := w.alloc (.cells #[.slice none 0 0, .slice none 0 0] 48)) (cs := ints (row3 tlBlank.u)) h1 (by simp) rfl (by decide) (by simp)
    exact ⟨x0, x1, ⟨_, h2⟩, World.ownsRow_nil _ _ _ _, fun i hi => by omega, owns_below hu ((Below.refl _ _).alloc (Nat.le_refl _) _), fun i j hi => by omega, fun i hi => by omega, (by repeat (first | exact Below.refl _ _ | refine Below.drew ?_ | refine Below.alloc ?_ (by first | (simp; done) | (simp; omega)) _ | refine Below.setCell ?_ (by first | (simp; done) | (simp; omega)) _)), by omega, by rw [((Below.refl _ _).alloc (Nat.le_refl _) _).block _ (by simp; omega), ((Below.refl _ _).alloc (Nat.le_refl _) _).block _ (by simp)]; exact heap_alloc_new _ _⟩
  go_enter Try.func21, Try.ntmps21
  go_wp2_with fail
  generalize hX : w.heap.size + 1 + 1 = X at *
  have HX := Lib.hid hX
  clear hX
  go_loopw [4] (fun i wr => ∃ (k : Nat) (v : Value) (g c : Nat → Nat), k ≤ 3 ∧ i = .int .i64 k ∧ CopyAt w wr w.heap.size X k v g c (w.heap.size + 1) 3 tlBlank) (fun i _ => 3 - (intOf i).toNat)
  case atStart => exact ⟨0, _, _, _, by omega, rfl, H0.out⟩
  case round =>
    clear H0
    obtain ⟨k, v, g, c, hk, rfl, hC⟩ := hrel
    have HC := Lib.hid hC
    clear hC
    by_cases hlt : k < 3
    · have x0 := HC.out.x0
      have hXs : X < wr.heap.size := World.block_lt_of_cell? wr _ x0
      have hXs1 : X < wr.heap.size + 1 := by omega
      have hg1 : (wr.alloc (.cells #[.int .i64 0, .int .i64 0, .int .i64 0] 3)).ownsRow wr.heap.size 3 1 (.slice (some ⟨wr.heap.size, 0, none⟩) 3 3) 3 (ints (row3 (tlBlank.m k))) :=
        owns_block (wp := wr) (cs := ints (row3 (tlBlank.m k))) (heap_alloc_new _ _) rfl rfl (by decide) (Nat.le_refl _)
      have Hg1 := Lib.hid hg1
      have hb5 : Below wr.heap.size wr (wr.alloc (.cells #[.int .i64 0, .int .i64 0, .int .i64 0] 3)) := (Below.refl _ _).alloc (Nat.le_refl _) _
      have Hb5 := Lib.hid hb5
      clear hg1 hb5
      go_upto_region 5 with (fail)
      go_region_law (first
        | (refine step_appN (w0 := wr.alloc (.cells #[.int .i64 0, .int .i64 0, .int .i64 0] 3)) (wanted_of_none (by rfl)) 46 22 1 24 _ elInts Try.underlying46 w.heap.size v k (rowVs g c k) (owns_below HC.out.hm Hb5.out) (by repeat (first | exact Below.refl _ _ | refine Below.drew ?_ | refine Below.alloc ?_ (by first | (simp; done) | (simp; omega)) _ | refine Below.setCell ?_ (by first | (simp; done) | (simp; omega)) _)) (.slice (some ⟨wr.heap.size + 1, 0, none⟩) 1 1) 1 [.slice (some ⟨wr.heap.size, 0, none⟩) 3 3] (has_block (wp := wr.alloc (.cells #[.int .i64 0, .int .i64 0, .int .i64 0] 3)) (by first | exact heap_alloc_new _ _ | (simp only [heap_drew, heap_drewN]; exact heap_alloc_new _ _)) (by simp) (by rfl) (by decide)) _ _ (by rfl) (by rfl) (by rfl) (by simp [Value.oneCell']) (by omega) (by unfold maxLen; omega) (Nat.le_trans HC.out.hb.size Hb5.out.size) ?_; intro v6 w6 hown6 hgrow6 hb6; obtain ⟨a6, c6, rfl⟩ := owns_slice hown6; obtain ⟨x06, f06⟩ := copy_x HC.out Hb5.out hgrow6))
      all_goals
        go_wp2_with fail
        go_roundw
        case rel => exact ⟨k + 1, _, _, _, by omega, by go_num, copy_step HC.out Hg1.out Hb5.out hown6 hgrow6 hb6⟩
        case measure => simp [intOf]; omega
    · obtain rfl : k = 3 := by omega
      have x0 := HC.out.x0
      have x1 := HC.out.x1
      obtain ⟨gm, c6, rfl, -⟩ := owns_some HC.out.hm (by omega)
      obtain ⟨⟨r0, r1⟩, f0, f1⟩ := HC.out.rc
      clear hmk
      go_wp2_with fail
      refine bodyPost_ret (v := tlV gm 0 c6 (w.heap.size + 1) 0 3) (by simp [results, Try.results21, go_sem, r0, r1]) rfl ?_
      obtain ⟨d1, d2⟩ := copy_done HC.out (.slice (some ⟨gm, 0, none⟩) 3 c6) (.slice (some ⟨w.heap.size + 1, 0, none⟩) 3 3)
      exact ⟨_, _, _, _, rfl, d1.at, d2⟩
end Go.Proofs.Ytkeefpeffeoakaa
