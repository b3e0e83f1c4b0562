/- Package hold: the shelf in memory; the library's IndexFunc, DeleteFunc, Delete on rows of holds. -/
import Derived.Test.YtgmichaconnhaaaHoldL
import Derived.Test.YtgmichaconnhaaaChc
import Derived.Test.YtgmichaconnhaaaApp
import Derived.Test.YtgmichaconnhaaaGrow
import Derived.Deep.RegionLaw
import Derived.Shelf.Abstract
import Derived.Lib.Hide
namespace Go.Proofs.Ytgmichaconnhaaa
open Go.ChangeShapes Go.WideShapes Go.ChangeAt Go.RowKit
set_option linter.unusedVariables false
set_option linter.unusedSimpArgs false

def Hd.cells (h : Hd) : List Value := [.int .i64 h.id, .int .i64 h.count, .int .i64 h.life]
theorem Hd.cells_length (h : Hd) : h.cells.length = 3 := rfl
def hcs (l : List Hd) : List Value := l.flatMap Hd.cells
theorem hcs_length (l : List Hd) : (hcs l).length = l.length * 3 := flat_length Hd.cells 3 Hd.cells_length l
theorem hcs_append (l m : List Hd) : hcs (l ++ m) = hcs l ++ hcs m := by simp [hcs]
theorem hcs_take : ∀ (l : List Hd) (k : Nat), (hcs l).take (k * 3) = hcs (l.take k)
  | [], k => by simp [hcs]
  | a :: t, 0 => by simp [hcs]
  | a :: t, k + 1 => by
    have ih := hcs_take t k
    rw [List.take_succ_cons]
    show ((Hd.cells a) ++ hcs t).take ((k + 1) * 3) = Hd.cells a ++ hcs (t.take k)
    rw [List.take_append, Hd.cells_length, show (k + 1) * 3 - 3 = k * 3 by omega, ih, List.take_of_length_le (by rw [Hd.cells_length]; omega)]
theorem hcs_drop : ∀ (l : List Hd) (k : Nat), (hcs l).drop (k * 3) = hcs (l.drop k)
  | [], k => by simp [hcs]
  | a :: t, 0 => by simp [hcs]
  | a :: t, k + 1 => by
    have ih := hcs_drop t k
    rw [List.drop_succ_cons]
    show ((Hd.cells a) ++ hcs t).drop ((k + 1) * 3) = hcs (t.drop k)
    rw [List.drop_append, Hd.cells_length, show (k + 1) * 3 - 3 = k * 3 by omega, ih, List.drop_of_length_le (by rw [Hd.cells_length]; omega), List.nil_append]
theorem hcs_one (l : List Hd) : ∀ u ∈ hcs l, u.oneCell' = true := by
  intro u hu
  simp only [hcs, List.mem_flatMap] at hu
  obtain ⟨p, _, h⟩ := hu
  simp [Hd.cells] at h
  rcases h with rfl | rfl | rfl <;> rfl
theorem set_split {α : Type} (l : List α) (i : Nat) (x : α) (hi : i < l.length) : l.set i x = l.take i ++ [x] ++ l.drop (i + 1) := by
  rw [List.set_eq_take_append_cons_drop, if_pos hi]; simp
section
variable {w : World}
theorem heap_setCells (g : Nat) (e : TypeId) : ∀ (vs : List Value) (o : Nat) (cur : Array Value) (w : World), w.heap[g]? = some (.cells cur e (0, 0)) → o + vs.length ≤ cur.size →
    (w.setCells g o vs).heap[g]? = some (.cells (cur.toList.take o ++ vs ++ cur.toList.drop (o + vs.length)).toArray e (0, 0))
  | [], o, cur, w, h, hl => by simpa [World.setCells] using h
  | v :: vs, o, cur, w, h, hl => by
    simp only [List.length_cons] at hl
    have h1 := heap_setCell_same w g o cur e v h
    have h2 := heap_setCells g e vs (o + 1) _ _ h1 (by simp; omega)
    show ((w.setCell ⟨g, o, none⟩ v).setCells g (o + 1) vs).heap[g]? = _
    rw [h2]
    have e1 : (cur.toList.take o ++ [v]).length = o + 1 := by simp; omega
    have e2 : (cur.setIfInBounds o v).toList = cur.toList.take o ++ [v] ++ cur.toList.drop (o + 1) := by rw [Array.toList_setIfInBounds, set_split _ _ _ (by simp; omega)]
    have e3 : (cur.setIfInBounds o v).toList.take (o + 1) = cur.toList.take o ++ [v] := by
      rw [e2, List.take_append_of_le_length (by rw [e1]; exact Nat.le_refl _), List.take_of_length_le (by rw [e1]; exact Nat.le_refl _)]
    have e4 : (cur.setIfInBounds o v).toList.drop (o + 1 + vs.length) = cur.toList.drop (o + (v :: vs).length) := by
      rw [e2, List.drop_append, List.drop_of_length_le (by rw [e1]; omega), List.nil_append, e1, List.drop_drop]
      congr 1
      simp only [List.length_cons]; omega
    rw [e3, e4]
    simp
theorem take_mid {α : Type} (A vs : List α) (o N : Nat) (h : o + vs.length ≤ N) (hN : N ≤ A.length) : (A.take o ++ vs ++ A.drop (o + vs.length)).take N = (A.take N).take o ++ vs ++ (A.take N).drop (o + vs.length) := by
  have e1 : (A.take o ++ vs).length = o + vs.length := by simp; omega
  rw [List.take_append, e1, List.take_of_length_le (by rw [e1]; exact h), List.take_take, Nat.min_eq_left (by omega), List.drop_take]
/-- Cells of an owned row are written. -/
theorem owns_write {base e sz n g cap : Nat} {xs : List Value} (h : w.ownsRow base e sz (.slice (some ⟨g, 0, none⟩) n cap) n xs) (o : Nat) (vs : List Value) (ho : o + vs.length ≤ n * sz) :
    (w.setCells g o vs).ownsRow base e sz (.slice (some ⟨g, 0, none⟩) n cap) n (xs.take o ++ vs ++ xs.drop (o + vs.length)) := by
  obtain ⟨hl, h⟩ := h
  refine ⟨by simp; omega, ?_⟩
  rcases h with ⟨h, _⟩ | ⟨g', cap', cur, he, hg, hh, hn, hm, hs, ht⟩
  · cases h
  · simp only [Value.slice.injEq, Option.some.injEq, Addr.mk.injEq, and_true, true_and] at he
    obtain ⟨rfl, rfl⟩ := he
    have hcap : n * sz ≤ cap * sz := Nat.mul_le_mul_right _ hn
    refine .inr ⟨g, cap, _, rfl, hg, heap_setCells g e vs o cur w hh (by omega), hn, hm, by simp; omega, ?_⟩
    rw [List.toList_toArray, take_mid _ _ _ _ ho (by simp; omega), ht]
theorem owns_cut {base e sz n m g cap : Nat} {xs : List Value} (h : w.ownsRow base e sz (.slice (some ⟨g, 0, none⟩) n cap) n xs) (hm' : m ≤ n) :
    w.ownsRow base e sz (.slice (some ⟨g, 0, none⟩) m cap) m (xs.take (m * sz)) := by
  obtain ⟨hl, h⟩ := h
  have hms : m * sz ≤ n * sz := Nat.mul_le_mul_right _ hm'
  refine ⟨by simp; omega, ?_⟩
  rcases h with ⟨h, _⟩ | ⟨g', cap', cur, he, hg, hh, hn, hm, hs, ht⟩
  · cases h
  · simp only [Value.slice.injEq, Option.some.injEq, Addr.mk.injEq, and_true, true_and] at he
    obtain ⟨rfl, rfl⟩ := he
    exact .inr ⟨g, cap, cur, rfl, hg, hh, by omega, hm, hs, by rw [← ht, List.take_take, Nat.min_eq_left hms]⟩
theorem Chc.setCells {T : List TypeId} {g : Nat} {e : TypeId} (he : e ∈ T) : ∀ (vs : List Value) (o : Nat) (w : World) (cs : Array Value), w.heap[g]? = some (.cells cs e (0, 0)) → Chc T w (w.setCells g o vs)
  | [], o, w, cs, h => Chc.refl _ _
  | v :: vs, o, w, cs, h => (Chc.setCell (p := ⟨g, o, none⟩) h he v).trans (Chc.setCells he vs (o + 1) _ _ (heap_setCell_same w g o cs e v h))
theorem below_cells {B g : Nat} {a : World} (hb : B ≤ g) : ∀ (vs : List Value) (o : Nat) (w : World), Below B a w → Below B a (w.setCells g o vs)
  | [], o, w, h => h
  | v :: vs, o, w, h => below_cells hb vs (o + 1) _ (h.setCell hb v)
theorem owns_chc_write {base e sz n g cap : Nat} {xs : List Value} (h : w.ownsRow base e sz (.slice (some ⟨g, 0, none⟩) n cap) n xs) (o : Nat) (vs : List Value) : Chc [e] w (w.setCells g o vs) ∧ Below base w (w.setCells g o vs) := by
  obtain ⟨hl, h⟩ := h
  rcases h with ⟨h, _⟩ | ⟨g', cap', cur, he, hg, hh, hn, hm, hs, ht⟩
  · cases h
  · simp only [Value.slice.injEq, Option.some.injEq, Addr.mk.injEq, and_true, true_and] at he
    obtain ⟨rfl, rfl⟩ := he
    exact ⟨Chc.setCells (by simp) vs o w _ hh, below_cells hg vs o w (Below.refl _ _)⟩
/-- What hold k of a row reads. -/
theorem hd_get {base n : Nat} {v : Value} {l : List Hd} (h : w.ownsRow base 146 3 v n (hcs l)) (k : Nat) (hk : k < l.length) :
    ∃ g cap, v = .slice (some ⟨g, 0, none⟩) n cap ∧ (n ≤ cap ∧ cap ≤ maxLen) ∧ (w.cell? ⟨g, k * 3, none⟩ = some (.int .i64 l[k].id) ∧ w.cell? ⟨g, k * 3 + 1, none⟩ = some (.int .i64 l[k].count) ∧ w.cell? ⟨g, k * 3 + 2, none⟩ = some (.int .i64 l[k].life)) ∧ ∀ j, w.frozen? ⟨g, j, none⟩ = false := by
  have hn : n = l.length := by have := h.1; rw [hcs_length] at this; omega
  obtain ⟨_, _, _, he0, hc1, hc2, _⟩ := Has.of_owns h
  obtain ⟨g, cap, rfl, _, _, hfz, hcc⟩ := owns_some h (by omega)
  simp only [Value.slice.injEq] at he0
  obtain ⟨-, -, rfl⟩ := he0
  refine ⟨g, cap, rfl, ⟨hc1, hc2⟩, ⟨?_, ?_, ?_⟩, hfz⟩
  · have := hcc (k * 3 + 0) (.int .i64 l[k].id) (by unfold hcs; rw [flat_get Hd.cells 3 Hd.cells_length l k hk 0 (by omega)]; rfl)
    rwa [Nat.add_zero] at this
  · exact hcc (k * 3 + 1) (.int .i64 l[k].count) (by unfold hcs; rw [flat_get Hd.cells 3 Hd.cells_length l k hk 1 (by omega)]; rfl)
  · exact hcc (k * 3 + 2) (.int .i64 l[k].life) (by unfold hcs; rw [flat_get Hd.cells 3 Hd.cells_length l k hk 2 (by omega)]; rfl)
end
theorem three_cells {W : World} {b : Nat} {a0 a1 a2 : Value} {e : TypeId} (h : W.heap[b]? = some (.cells #[a0, a1, a2] e (0, 0))) : W.cell? ⟨b, 0, none⟩ = some a0 ∧ W.cell? ⟨b, 1, none⟩ = some a1 ∧ W.cell? ⟨b, 2, none⟩ = some a2 :=
  ⟨by rw [cell_of_row W _ _ _ _ _ h]; rfl, by rw [cell_of_row W _ _ _ _ _ h]; rfl, by rw [cell_of_row W _ _ _ _ _ h]; rfl⟩
/-- One hold of a row is written. -/
theorem hd_set {w : World} {base n g cap : Nat} {l : List Hd} (h : w.ownsRow base 146 3 (.slice (some ⟨g, 0, none⟩) n cap) n (hcs l)) (k : Nat) (hk : k < l.length) (x : Hd) :
    (w.setCells g (k * 3) x.cells).ownsRow base 146 3 (.slice (some ⟨g, 0, none⟩) n cap) n (hcs (l.set k x)) := by
  have hn : n = l.length := by have := h.1; rw [hcs_length] at this; omega
  have := owns_write h (k * 3) x.cells (by rw [Hd.cells_length]; omega)
  rw [Hd.cells_length, show k * 3 + 3 = (k + 1) * 3 by omega, hcs_take, hcs_drop] at this
  rw [set_split l k x hk, hcs_append, hcs_append, show hcs [x] = x.cells by simp [hcs]]
  exact this
theorem elHold : Elem Try.prog 146 3 24 (.agg #[.int .i64 0, .int .i64 0, .int .i64 0]) := .of (by kernel_rfl) rfl (by decide)
theorem zeroHold (w : World) : (zeroValue 146).run Try.prog w = .ok (.agg #[.int .i64 0, .int .i64 0, .int .i64 0]) w := by kernel_rfl
/-- 'clear' of holds. -/
theorem run_clear_hold {w : World} {base n g cap : Nat} {xs : List Value} (h : w.ownsRow base 146 3 (.slice (some ⟨g, 0, none⟩) n cap) n xs) (i : Nat) (hi : i < n) (cc : Nat) :
    ∃ zs : List Value, zs.length = (n - i) * 3 ∧ ∀ ty, (Builtin.clear_ #[101] ty #[.slice (some ⟨g, i * 3, none⟩) (n - i) cc]).run Try.prog w = .ok (.tuple #[]) (w.setCells g (i * 3) zs) := by
  refine ⟨(Builtin.zeroCells #[.int .i64 0, .int .i64 0, .int .i64 0] (n - i)).toList, by simp [Builtin.zeroCells], fun ty => ?_⟩
  obtain ⟨hl, h⟩ := h
  rcases h with ⟨h, _⟩ | ⟨g', cap', cur, he, hg, hh, hn, hm, hs, ht⟩
  · cases h
  simp only [Value.slice.injEq, Option.some.injEq, Addr.mk.injEq, and_true, true_and] at he
  obtain ⟨rfl, rfl⟩ := he
  have hlen : (Builtin.zeroCells #[.int .i64 0, .int .i64 0, .int .i64 0] (n - i)).toList.length = (n - i) * 3 := by simp [Builtin.zeroCells]
  have hst := run_storeCells_cells (P := Try.prog) g (i * 3) (Builtin.zeroCells #[.int .i64 0, .int .i64 0, .int .i64 0] (n - i)).toList 0 w
    (fun j hj => by
      rw [hlen] at hj
      rw [cell_of_row w g _ cur _ _ hh, Nat.add_zero]
      have : i * 3 + j < cur.size := by omega
      simp [this])
    (fun j hj => by simp [World.frozen?, hh])
    (fun v hv => by
      simp only [Builtin.zeroCells, Array.toList_map, List.mem_map] at hv
      obtain ⟨j, -, rfl⟩ := hv
      have : j % 3 = 0 ∨ j % 3 = 1 ∨ j % 3 = 2 := by omega
      simp only [List.size_toArray, List.length_cons, List.length_nil]
      rcases this with e | e | e <;> (rw [show j % (0 + 1 + 1 + 1) = j % 3 from rfl, e]; rfl))
  rw [Nat.add_zero] at hst
  obtain ⟨m, hm'⟩ : ∃ m, n - i = m + 1 := ⟨n - i - 1, by omega⟩
  rw [hm'] at hst ⊢
  simp [Builtin.clear_, run_underlying Try.underlying101, zeroHold, Value.cells, hst]
def ixOf (p : Hd → Bool) (l : List Hd) : Int := match l.findIdx? p with | some i => (i : Int) | none => -1
theorem ixOf_some {p : Hd → Bool} {l : List Hd} {i : Nat} (h : l.findIdx? p = some i) : ixOf p l = i := by unfold ixOf; rw [h]
theorem ixOf_none {p : Hd → Bool} {l : List Hd} (h : l.findIdx? p = none) : ixOf p l = -1 := by unfold ixOf; rw [h]
set_option maxRecDepth 100000 in
set_option maxHeartbeats 2000000 in
/-- The library's IndexFunc. -/
theorem cIndexFunc {w : World} {base : Nat} {v : Value} {l : List Hd} (p : Hd → Bool) (g : Nat) (lb : Array Value) (eg : ∀ args w, (callFunc g args).run Try.prog w = .ok (.enter g args) w)
    (hp : ∀ (X : World) (x : Hd), Below w.heap.size w X → Calls Try.prog g (#[.agg #[.int .i64 x.id, .int .i64 x.count, .int .i64 x.life]] ++ lb) X fun e w' => e = .returned (.bool (p x)) ∧ Below X.heap.size X w')
    (h : w.ownsRow base 146 3 v l.length (hcs l)) :
    Calls Try.prog 82 #[v, .func (.func g) #[] lb] w fun e w' => e = .returned (.int .i64 (ixOf p l)) ∧ Below w.heap.size w w' := by
  have H := Lib.hid h
  have HP := Lib.hid hp
  obtain ⟨a, cap, rfl⟩ := owns_slice h
  have hbig : l.length ≤ 9223372036854775807 := by
    obtain ⟨_, _, _, he, h1, h2, _⟩ := Has.of_owns h
    unfold maxLen at h2; omega
  clear h hp
  go_enter Try.func82, Try.ntmps82
  go_wp2_with fail
  go_loopw [5, 8] (fun _ i wr => ∃ k : Nat, k ≤ l.length ∧ i = .int .i64 k ∧ Below w.heap.size w wr ∧ Hid (∀ j (hj : j < l.length), j < k → p l[j] = false)) (fun _ i _ => l.length - (intOf i).toNat)
  case atStart => exact ⟨0, by omega, rfl, Below.refl _ _, fun j _ h => absurd h (by omega)⟩
  case round =>
    obtain ⟨k, hk, rfl, hb, hall⟩ := hrel
    have HB := Lib.hid hb
    by_cases hlt : k < l.length
    · obtain ⟨gg, cap', he, ⟨c1, c2⟩, ⟨x0, x1, x2⟩, -⟩ := hd_get H.out k hlt
      simp only [Value.slice.injEq] at he
      obtain ⟨rfl, -, rfl⟩ := he
      replace x0 := cell_on hb x0
      replace x1 := cell_on hb x1
      replace x2 := cell_on hb x2
      have CC := Lib.hid (HP.out wr l[k] hb)
      have hltz : (k : Int) < (l.length : Int) := by omega
      unfold maxLen at c2
      obtain ⟨y, hy⟩ : ∃ y, Hid (y = l[k]) := ⟨l[k], (rfl : l[k] = l[k])⟩
      rw [← hy.out] at x0 x1 x2 CC
      clear hb
      cases hq : p y with
      | true =>
        rw [hq] at CC
        go_wp2_with (go_at_fn g; refine CC.out.mono ?_; rintro e w' ⟨rfl, hb'⟩)
        go_ret
        refine ⟨?_, HB.out.trans (hb'.mono HB.out.size)⟩
        have : l.findIdx? p = some k := List.findIdx?_eq_some_iff_getElem.2 ⟨hlt, by rw [← hy.out]; exact hq, fun j hj => by rw [hall.out j (by omega) hj]; simp⟩
        rw [ixOf_some this]; rfl
      | false =>
        rw [hq] at CC
        go_wp2_with (go_at_fn g; refine CC.out.mono ?_; rintro e w' ⟨rfl, hb'⟩)
        go_roundw
        case rel =>
          refine ⟨k + 1, by omega, by go_num, HB.out.trans (hb'.mono HB.out.size), fun j hj hjk => ?_⟩
          by_cases ejk : j = k
          · subst ejk; rw [← hy.out]; exact hq
          · exact hall.out j hj (by omega)
        case measure => simp [intOf]; omega
    · obtain rfl : k = l.length := by omega
      clear hb
      go_wp2
      go_ret
      refine ⟨?_, HB.out⟩
      have : l.findIdx? p = none := List.findIdx?_eq_none_iff.2 fun x hx => by
        obtain ⟨j, hj, rfl⟩ := List.mem_iff_getElem.1 hx
        exact hall.out j hj hj
      rw [ixOf_none this]; rfl
end Go.Proofs.Ytgmichaconnhaaa
