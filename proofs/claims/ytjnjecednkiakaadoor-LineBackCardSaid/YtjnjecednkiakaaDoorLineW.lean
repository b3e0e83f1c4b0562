/- Lines: LineStep, walked. -/
import Derived.Test.YtjnjecednkiakaaDoorLineL
import Derived.Test.YtjnjecednkiakaaDoorDeskV
import Derived.Test.YtjnjecednkiakaaDoorPn
namespace Go.Proofs.YtjnjecednkiakaaDoor
open Go.ChangeShapes Go.WideShapes Go.ChangeAt Go.RowKit
set_option linter.unusedVariables false
set_option linter.unusedSimpArgs false

theorem step_ret (w : World) (f : Nat → Int) (act : Act) (h10 : act.tmps.getD 10 undef = .pointer (some ⟨w.heap.size, 0, none⟩)) (hd : act.defers = []) :
    bodyPost Tryd.prog Tryd.f10 (fun e w' => e = .returned (stepV f) ∧ Below w.heap.size w w') Exit.ret act (w.alloc (.cells (box8 f) 32)) := by
  have hx9 : Box (w.alloc (.cells (box8 f) 32)) w.heap.size f := heap_alloc_new w _
  have hb : Below w.heap.size w (w.alloc (.cells (box8 f) 32)) := (Below.refl _ w).alloc (Nat.le_refl _) _
  obtain ⟨W9, hW9⟩ : ∃ x, x = w.alloc (.cells (box8 f) 32) := ⟨_, rfl⟩
  rw [← hW9] at hx9 hb ⊢
  clear hW9
  have t0 := (hx9.cell 0 (by omega)).1
  have t1 := (hx9.cell 1 (by omega)).1
  have t2 := (hx9.cell 2 (by omega)).1
  have t3 := (hx9.cell 3 (by omega)).1
  have t4 := (hx9.cell 4 (by omega)).1
  have t5 := (hx9.cell 5 (by omega)).1
  have t6 := (hx9.cell 6 (by omega)).1
  have t7 := (hx9.cell 7 (by omega)).1
  obtain ⟨tm, df⟩ := act
  simp only at h10 hd
  subst hd
  have h11 : tm[10]?.getD undef = .pointer (some ⟨w.heap.size, 0, none⟩) := by rw [← Array.getD_eq_getD_getElem?]; exact h10
  refine bodyPost_ret (v := stepV f) (by simp [results, Tryd.results10, h11, go_sem, stepV, t0, t1, t2, t3, t4, t5, t6, t7]) rfl ⟨rfl, hb⟩
set_option maxRecDepth 100000 in
set_option maxHeartbeats 8000000 in
theorem cLineStep (kd a b c d : Int) (w : World) (x : Nat) (hx : x < 11) (hp : ∀ X, Calls Tryd.prog 6 #[.int .i64 kd, .int .i64 11] X fun e w' => e = .returned (.int .i64 (x : Int)) ∧ X = w') :
    Calls Tryd.prog 10 #[.int .i64 kd, .int .i64 a, .int .i64 b, .int .i64 c, .int .i64 d] w fun e w' => e = .returned (stepV (stepL x a b c d)) ∧ Below w.heap.size w w' := by
  have HP := Lib.hid hp
  clear hp
  have hcs : x = 0 ∨ x = 1 ∨ x = 2 ∨ x = 3 ∨ x = 4 ∨ x = 5 ∨ x = 6 ∨ x = 7 ∨ x = 8 ∨ x = 9 ∨ x = 10 := by omega
  clear hx
  rcases hcs with rfl | rfl | rfl | rfl | rfl | rfl | rfl | rfl | rfl | rfl | rfl
  all_goals (
    go_enter Tryd.func10, Tryd.ntmps10
    go_wp2_with fail
    refine (HP.out _).mono ?_
    rintro e w1 ⟨rfl, rfl⟩
    go_wp2_with fail)
  · exact step_ret w (stepL 0 a b c d) _ rfl rfl
  · exact step_ret w (stepL 1 a b c d) _ rfl rfl
  · exact step_ret w (stepL 2 a b c d) _ rfl rfl
  · exact step_ret w (stepL 3 a b c d) _ rfl rfl
  · exact step_ret w (stepL 4 a b c d) _ rfl rfl
  · exact step_ret w (stepL 5 a b c d) _ rfl rfl
  · exact step_ret w (stepL 6 a b c d) _ rfl rfl
  · exact step_ret w (stepL 7 a b c d) _ rfl rfl
  · exact step_ret w (stepL 8 a b c d) _ rfl rfl
  · exact step_ret w (stepL 9 a b c d) _ rfl rfl
  · exact step_ret w (stepL 10 a b c d) _ rfl rfl
end Go.Proofs.YtjnjecednkiakaaDoor
