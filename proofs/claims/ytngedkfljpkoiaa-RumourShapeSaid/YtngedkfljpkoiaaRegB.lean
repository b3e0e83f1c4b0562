/- EntryOf. -/
import Derived.Test.YtngedkfljpkoiaaReg
namespace Go.Proofs.Ytngedkfljpkoiaa
open Go.ChangeShapes Go.WideShapes Go.ChangeAt Go.RowKit
set_option linter.unusedVariables false
def EntPick (n : Ent) : Ent := { k := pick n.k 6, t := pick n.t 4, h := pick n.h 3, g := n.g, v := if n.g then 0 else pick n.v 3 }
set_option maxRecDepth 100000 in
set_option maxHeartbeats 2000000 in
theorem centryOf (n : Ent) (w : World) :
    Calls Try.prog 44 #[n.val] w fun e w' => e = .returned (EntPick n).val ∧ Below w.heap.size w w' := by
  obtain ⟨k1, v1, t1, h1, g1⟩ := n
  have Pk := Lib.hid fun (a n : Int) (h0 : 0 < n) (h1 : n ≤ 1152921504606846976) w => (picked a n h0 h1 w).mono fun _ _ h => same_symm h
  unfold Ent.val EntPick
  cases g1
  · go_enter Try.func44, Try.ntmps44
    go_wp2
    go_region_held3 (fun X => X.cell? ⟨w.heap.size, 0, none⟩ = some (.int .i64 k1) ∧ X.cell? ⟨w.heap.size, 2, none⟩ = some (.int .i64 t1) ∧ X.cell? ⟨w.heap.size, 3, none⟩ = some (.int .i64 h1) ∧ X.cell? ⟨w.heap.size, 4, none⟩ = some (.bool false))
      (go_keep)
      ((go_at_call 16; refine (picked _ _ (by omega) (by omega) _).mono ?_; rintro e w' ⟨rfl, rfl⟩))
    all_goals
      go_wp2_with (go_at_call 16; refine (picked _ _ (by omega) (by omega) _).mono ?_; rintro e w' ⟨rfl, rfl⟩)
      refine bodyPost_ret (v := .agg #[.int .i64 (pick k1 6), .int .i64 (pick v1 3), .int .i64 (pick t1 4), .int .i64 (pick h1 3), .bool false]) (by simp [results, Try.results44, go_sem]) rfl ⟨rfl, (by repeat (first | exact Below.refl _ _ | refine Below.drew ?_ | refine Below.alloc ?_ (by first | (simp; done) | (simp; omega)) _ | refine Below.setCell ?_ (by first | (simp; done) | (simp; omega)) _))⟩
  · go_enter Try.func44, Try.ntmps44
    go_wp2
    go_region_held3 (fun X => X.cell? ⟨w.heap.size, 0, none⟩ = some (.int .i64 k1) ∧ X.cell? ⟨w.heap.size, 2, none⟩ = some (.int .i64 t1) ∧ X.cell? ⟨w.heap.size, 3, none⟩ = some (.int .i64 h1) ∧ X.cell? ⟨w.heap.size, 4, none⟩ = some (.bool true))
      (go_keep)
      ((go_at_call 16; refine (picked _ _ (by omega) (by omega) _).mono ?_; rintro e w' ⟨rfl, rfl⟩))
    all_goals
      go_wp2_with (go_at_call 16; refine (picked _ _ (by omega) (by omega) _).mono ?_; rintro e w' ⟨rfl, rfl⟩)
      refine bodyPost_ret (v := .agg #[.int .i64 (pick k1 6), .int .i64 0, .int .i64 (pick t1 4), .int .i64 (pick h1 3), .bool true]) (by simp [results, Try.results44, go_sem]) rfl ⟨rfl, (by repeat (first | exact Below.refl _ _ | refine Below.drew ?_ | refine Below.alloc ?_ (by first | (simp; done) | (simp; omega)) _ | refine Below.setCell ?_ (by first | (simp; done) | (simp; omega)) _))⟩
/-- An entry in a block of its own. -/
structure Box (w : World) (b : Nat) (e : Ent) : Prop where
  c0 : w.cell? ⟨b, 0, none⟩ = some (.int .i64 e.k)
  c1 : w.cell? ⟨b, 1, none⟩ = some (.int .i64 e.v)
  c2 : w.cell? ⟨b, 2, none⟩ = some (.int .i64 e.t)
  c3 : w.cell? ⟨b, 3, none⟩ = some (.int .i64 e.h)
  c4 : w.cell? ⟨b, 4, none⟩ = some (.bool e.g)
  f : ∀ j, w.frozen? ⟨b, j, none⟩ = false
theorem Box.lt {w : World} {b : Nat} {e : Ent} (h : Box w b e) : b < w.heap.size := World.block_lt_of_cell? w _ h.c0
theorem Box.on {w w' : World} {b : Nat} {e : Ent} (h : Box w b e) (hb : Below w.heap.size w w') : Box w' b e :=
  ⟨cell_on hb h.c0, cell_on hb h.c1, cell_on hb h.c2, cell_on hb h.c3, cell_on hb h.c4, fun j => by rw [hb.frozen (p := ⟨b, j, none⟩) h.lt]; exact h.f j⟩
theorem Box.new (w : World) (k v t h : Int) (g : Bool) (T : TypeId) : Box (w.alloc (.cells #[.int .i64 k, .int .i64 v, .int .i64 t, .int .i64 h, .bool g] T)) w.heap.size ⟨k, v, t, h, g⟩ := by
  refine ⟨?_, ?_, ?_, ?_, ?_, fun j => World.frozen?_alloc_at _ _ _ _ rfl⟩ <;> (rw [World.cell?_alloc_at _ _ _ _ rfl]; rfl)
theorem Box.alloc {w : World} {b : Nat} {e : Ent} (h : Box w b e) (o : Obj) : Box (w.alloc o) b e := h.on (Below.alloc (Below.refl _ _) (Nat.le_refl _) o)
theorem Box.set0 {w : World} {b : Nat} {e : Ent} (h : Box w b e) (k : Int) : Box (w.setCell ⟨b, 0, none⟩ (.int .i64 k)) b ⟨k, e.v, e.t, e.h, e.g⟩ := by
  refine ⟨World.cell?_setCell_same _ _ _ h.c0, ?_, ?_, ?_, ?_, fun j => by rw [World.frozen?_setCell]; exact h.f j⟩
  · rw [World.cell?_setCell_other _ _ _ _ (by simp)]; exact h.c1
  · rw [World.cell?_setCell_other _ _ _ _ (by simp)]; exact h.c2
  · rw [World.cell?_setCell_other _ _ _ _ (by simp)]; exact h.c3
  · rw [World.cell?_setCell_other _ _ _ _ (by simp)]; exact h.c4
theorem Box.set_other {w : World} {b b' o : Nat} {e : Ent} (h : Box w b e) (hne : b' ≠ b) (u : Value) : Box (w.setCell ⟨b', o, none⟩ u) b e := by
  refine ⟨?_, ?_, ?_, ?_, ?_, fun j => by rw [World.frozen?_setCell]; exact h.f j⟩
  · rw [World.cell?_setCell_other _ _ _ _ (by simp)]; exact h.c0
  · rw [World.cell?_setCell_other _ _ _ _ (by simp)]; exact h.c1
  · rw [World.cell?_setCell_other _ _ _ _ (by simp)]; exact h.c2
  · rw [World.cell?_setCell_other _ _ _ _ (by simp)]; exact h.c3
  · rw [World.cell?_setCell_other _ _ _ _ (by simp)]; exact h.c4
end Go.Proofs.Ytngedkfljpkoiaa
