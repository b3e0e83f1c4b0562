/- Package hold: the shelf; held, Stock, shift. -/
import Derived.Test.YtgmichaconnhaaaHoldO
import Derived.Deep.RegionHeld3
namespace Go.Proofs.Ytgmichaconnhaaa
open Go.ChangeShapes Go.WideShapes Go.ChangeAt Go.RowKit
set_option linter.unusedVariables false
set_option linter.unusedSimpArgs false

/-- A shelf: its block, its open holds. -/
structure ShfAt (w : World) (base S : Nat) (s : Shf) : Prop where
  ex : ∃ v, w.heap[S]? = some (.cells #[.int .i64 s.free, .int .i64 s.used, .int .i64 s.made, v] 103 (0, 0)) ∧ w.ownsRow base 146 3 v s.hs.length (hcs s.hs)
  ok : s.Ok
  lo : base ≤ S
section
variable {w w' : World} {base S : Nat} {s : Shf}
theorem ShfAt.on (h : ShfAt w base S s) (hb : Below w.heap.size w w') : ShfAt w' base S s := by
  obtain ⟨v, h1, h2⟩ := h.ex
  exact ⟨⟨v, by rw [hb.block _ (Array.getElem?_eq_some_iff.1 h1).1]; exact h1, owns_below h2 hb⟩, h.ok, h.lo⟩
theorem ShfAt.chc {T : List TypeId} (h : ShfAt w base S s) (hc : Chc T w w') (h1 : 103 ∉ T) (h2 : 146 ∉ T) : ShfAt w' base S s := by
  obtain ⟨v, q1, q2⟩ := h.ex
  exact ⟨⟨v, hc.block _ _ _ _ q1 h1, owns_chc q2 hc h2⟩, h.ok, h.lo⟩
theorem ShfAt.lt (h : ShfAt w base S s) : S < w.heap.size := by
  obtain ⟨v, h1, h2⟩ := h.ex
  exact (Array.getElem?_eq_some_iff.1 h1).1
end
theorem four_cells {W : World} {b : Nat} {a0 a1 a2 a3 : Value} {e : TypeId} (h : W.heap[b]? = some (.cells #[a0, a1, a2, a3] e (0, 0))) : (W.cell? ⟨b, 0, none⟩ = some a0 ∧ W.cell? ⟨b, 1, none⟩ = some a1 ∧ W.cell? ⟨b, 2, none⟩ = some a2 ∧ W.cell? ⟨b, 3, none⟩ = some a3) ∧ ∀ j, W.frozen? ⟨b, j, none⟩ = false :=
  ⟨⟨by rw [cell_of_row W _ _ _ _ _ h]; rfl, by rw [cell_of_row W _ _ _ _ _ h]; rfl, by rw [cell_of_row W _ _ _ _ _ h]; rfl, by rw [cell_of_row W _ _ _ _ _ h]; rfl⟩, fun j => by simp [World.frozen?, h]⟩
theorem five_cells {W : World} {b : Nat} {a0 a1 a2 a3 a4 : Value} {e : TypeId} (h : W.heap[b]? = some (.cells #[a0, a1, a2, a3, a4] e (0, 0))) : (W.cell? ⟨b, 0, none⟩ = some a0 ∧ W.cell? ⟨b, 1, none⟩ = some a1 ∧ W.cell? ⟨b, 2, none⟩ = some a2 ∧ W.cell? ⟨b, 3, none⟩ = some a3 ∧ W.cell? ⟨b, 4, none⟩ = some a4) ∧ ∀ j, W.frozen? ⟨b, j, none⟩ = false :=
  ⟨⟨by rw [cell_of_row W _ _ _ _ _ h]; rfl, by rw [cell_of_row W _ _ _ _ _ h]; rfl, by rw [cell_of_row W _ _ _ _ _ h]; rfl, by rw [cell_of_row W _ _ _ _ _ h]; rfl, by rw [cell_of_row W _ _ _ _ _ h]; rfl⟩, fun j => by simp [World.frozen?, h]⟩
theorem five_set {w : World} {S : Nat} {a0 a1 a2 a3 a4 : Value} {e : TypeId} (h : w.heap[S]? = some (.cells #[a0, a1, a2, a3, a4] e (0, 0))) (x0 x1 x2 x3 x4 : Value) :
    (((((w.setCell ⟨S, 0, none⟩ x0).setCell ⟨S, 1, none⟩ x1).setCell ⟨S, 2, none⟩ x2).setCell ⟨S, 3, none⟩ x3).setCell ⟨S, 4, none⟩ x4).heap[S]? = some (.cells #[x0, x1, x2, x3, x4] e (0, 0)) :=
  heap_setCell_same _ S 4 _ _ x4 (heap_setCell_same _ S 3 _ _ x3 (heap_setCell_same _ S 2 _ _ x2 (heap_setCell_same _ S 1 _ _ x1 (heap_setCell_same _ S 0 _ _ x0 h))))
/-- A store into the shelf. -/
theorem shelf_set {w : World} {S : Nat} {a0 a1 a2 a3 : Value} {e : TypeId} (h : w.heap[S]? = some (.cells #[a0, a1, a2, a3] e (0, 0))) (x : Value) :
    (w.setCell ⟨S, 0, none⟩ x).heap[S]? = some (.cells #[x, a1, a2, a3] e (0, 0)) ∧ (w.setCell ⟨S, 1, none⟩ x).heap[S]? = some (.cells #[a0, x, a2, a3] e (0, 0)) ∧ (w.setCell ⟨S, 2, none⟩ x).heap[S]? = some (.cells #[a0, a1, x, a3] e (0, 0)) ∧ (w.setCell ⟨S, 3, none⟩ x).heap[S]? = some (.cells #[a0, a1, a2, x] e (0, 0)) :=
  ⟨heap_setCell_same w S 0 _ _ x h, heap_setCell_same w S 1 _ _ x h, heap_setCell_same w S 2 _ _ x h, heap_setCell_same w S 3 _ _ x h⟩
theorem heldL_take (l : List Hd) (k : Nat) (hk : k < l.length) : heldL (l.take (k + 1)) = heldL (l.take k) + l[k].count := by
  rw [take_snoc l k hk, heldL_append, heldL_cons, heldL_nil]; omega
theorem heldL_take_le {l : List Hd} (h : ∀ x ∈ l, 0 ≤ x.count) (k : Nat) : 0 ≤ heldL (l.take k) ∧ heldL (l.take k) ≤ heldL l := by
  have h1 : heldL (l.take k) + heldL (l.drop k) = heldL l := by rw [← heldL_append, List.take_append_drop]
  have h2 := heldL_nonneg (l := l.take k) fun x hx => h x (List.mem_of_mem_take hx)
  have h3 := heldL_nonneg (l := l.drop k) fun x hx => h x (List.mem_of_mem_drop hx)
  omega
set_option maxRecDepth 100000 in
set_option maxHeartbeats 2000000 in
theorem cHeld {w : World} {base S : Nat} {s : Shf} (h : ShfAt w base S s) :
    Calls Try.prog 73 #[.pointer (some ⟨S, 0, none⟩)] w fun e w' => e = .returned (.int .i64 s.held) ∧ Below w.heap.size w w' := by
  obtain ⟨v, h1, h2⟩ := h.ex
  have hok := h.ok
  have hsum := hok.sum
  have hfree := hok.free
  have hused := hok.used
  have hnn := Lib.hid fun k => heldL_take_le (l := s.hs) (fun x hx => by have := (hok.hs x hx).2.2.1; omega) k
  have hcnt := Lib.hid fun x hx => hok.hs x hx
  have hfew := hok.few
  obtain ⟨a, cap, rfl⟩ := owns_slice h2
  obtain ⟨⟨-, -, -, s3⟩, -⟩ := four_cells h1
  have hS := h.lt
  have H2 := Lib.hid h2
  obtain ⟨fr, us, mad, hs⟩ := s
  simp only [Shf.held] at *
  have hz : heldL (hs.take 0) = 0 := rfl
  clear h h1 h2 hok
  go_enter Try.func73, Try.ntmps73
  go_wp2_with fail
  go_loopw [2, 4, 10] (fun n _ i wr => ∃ k : Nat, k ≤ hs.length ∧ i = .int .i64 k ∧ n = .int .i64 (heldL (hs.take k)) ∧ Hid (Below w.heap.size w wr)) (fun _ _ i _ => hs.length - (intOf i).toNat)
  case atStart => exact ⟨0, by omega, rfl, rfl, Below.refl _ _⟩
  case round =>
    obtain ⟨k, hk, rfl, rfl, HB⟩ := hrel
    by_cases hlt : k < hs.length
    · obtain ⟨gg, cap', he, ⟨c1, c2⟩, ⟨x0, x1, x2⟩, -⟩ := hd_get H2.out k hlt
      simp only [Value.slice.injEq] at he
      obtain ⟨rfl, -, rfl⟩ := he
      have hg := World.block_lt_of_cell? w _ x0
      replace x0 := cell_on HB.out x0
      replace x1 := cell_on HB.out x1
      replace x2 := cell_on HB.out x2
      have hltz : (k : Int) < (hs.length : Int) := by omega
      have b0 := hnn.out k
      have b1 := hnn.out (k + 1)
      have hst := heldL_take hs k hlt
      have Hst := Lib.hid hst
      generalize hs[k] = y at *
      generalize heldL (hs.take k) = m at *
      generalize hm1 : heldL (hs.take (k + 1)) = m1 at *
      have Hm1 := Lib.hid hm1
      clear hm1
      generalize heldL hs = tot at *
      have hwrap : IntKind.i64.wrap (m + y.count) = m + y.count := IntWalk.i64_in _ (by omega)
      go_wp2_with fail
      go_roundw
      case rel => exact ⟨k + 1, by omega, by go_num, by rw [Hm1.out, ← Hst.out], HB.out.alloc HB.out.size _⟩
      case measure => first | (simp [intOf]; done) | (simp [intOf]; omega)
    · obtain rfl : k = hs.length := by omega
      rw [List.take_of_length_le (Nat.le_refl _)]
      go_wp2
      go_ret
      exact ⟨rfl, HB.out⟩
set_option maxRecDepth 100000 in
set_option maxHeartbeats 2000000 in
theorem cStock {w : World} {base S : Nat} {s : Shf} (h : ShfAt w base S s) :
    Calls Try.prog 64 #[.pointer (some ⟨S, 0, none⟩)] w fun e w' => e = .returned (.agg #[.int .i64 0, .int .i64 0, .int .i64 s.free, .int .i64 s.held, .int .i64 s.used]) ∧ Below w.heap.size w w' := by
  have H := Lib.hid h
  obtain ⟨v, h1, h2⟩ := h.ex
  obtain ⟨⟨s0, s1, -, -⟩, -⟩ := four_cells h1
  have hS := h.lt
  have CH := Lib.hid fun X (hX : Below w.heap.size w X) => cHeld (H.out.on hX)
  have hb0 : Below w.heap.size w (w.alloc (.cells #[.int .i64 0, .int .i64 0, .int .i64 0, .int .i64 0, .int .i64 0] 33)) := (Below.refl _ _).alloc (Nat.le_refl _) _
  have hnew := heap_alloc_new w (.cells #[.int .i64 0, .int .i64 0, .int .i64 0, .int .i64 0, .int .i64 0] 33)
  have e1 : (w.alloc (.cells #[.int .i64 0, .int .i64 0, .int .i64 0, .int .i64 0, .int .i64 0] 33)).heap.size = w.heap.size + 1 := by simp
  replace s0 := cell_on hb0 s0
  replace s1 := cell_on hb0 s1
  have HB0 := Lib.hid hb0
  have HF := Lib.hid fun (X : World) (hX : Below (w.alloc (.cells #[.int .i64 0, .int .i64 0, .int .i64 0, .int .i64 0, .int .i64 0] 33)).heap.size (w.alloc (.cells #[.int .i64 0, .int .i64 0, .int .i64 0, .int .i64 0, .int .i64 0] 33)) X) => (show X.heap[w.heap.size]? = some (.cells #[.int .i64 0, .int .i64 0, .int .i64 0, .int .i64 0, .int .i64 0] 33 (0, 0)) by rw [hX.block _ (by rw [e1]; omega)]; exact hnew)
  generalize s.held = hd at *
  generalize s.free = fr at *
  generalize s.used = us at *
  clear h h1 h2 hb0 hnew H
  go_enter Try.func64, Try.ntmps64
  go_upto_region 1 with (fail)
  generalize w.alloc (.cells #[.int .i64 0, .int .i64 0, .int .i64 0, .int .i64 0, .int .i64 0] 33) = W1 at *
  have q0 := Lib.hid s0
  have q1 := Lib.hid s1
  go_region_law (go_simp; go_at_call 73; refine (CH.out _ (HB0.out.drew)).mono ?_; rintro e w5 ⟨rfl, hb5'⟩; have hb5 : Below W1.heap.size W1 w5 := (Below.drew (Below.refl _ _)).trans hb5'; clear hb5'; obtain ⟨⟨z0, z1, z2, z3, z4⟩, hfz⟩ := five_cells (HF.out w5 hb5); have f0 := hfz 0; have f1 := hfz 1; have f2 := hfz 2; have f3 := hfz 3; have f4 := hfz 4; have y0 := cell_on hb5 s0; have y1 := cell_on hb5 s1)
  all_goals
    obtain ⟨⟨t0, t1, t2, t3, t4⟩, -⟩ := five_cells (five_set (HF.out w5 hb5) (.int .i64 0) (.int .i64 0) (.int .i64 fr) (.int .i64 hd) (.int .i64 us))
    have hb6 : Below w.heap.size w (((((w5.setCell ⟨w.heap.size, 0, none⟩ (.int .i64 0)).setCell ⟨w.heap.size, 1, none⟩ (.int .i64 0)).setCell ⟨w.heap.size, 2, none⟩ (.int .i64 fr)).setCell ⟨w.heap.size, 3, none⟩ (.int .i64 hd)).setCell ⟨w.heap.size, 4, none⟩ (.int .i64 us)) :=
      (((((HB0.out.trans (hb5.mono HB0.out.size)).setCell (Nat.le_refl _) _).setCell (Nat.le_refl _) _).setCell (Nat.le_refl _) _).setCell (Nat.le_refl _) _).setCell (Nat.le_refl _) _
    clear z0 z1 z2 z3 z4 f0 f1 f2 f3 f4 y0 y1 hfz
    generalize (((((w5.setCell ⟨w.heap.size, 0, none⟩ (.int .i64 0)).setCell ⟨w.heap.size, 1, none⟩ (.int .i64 0)).setCell ⟨w.heap.size, 2, none⟩ (.int .i64 fr)).setCell ⟨w.heap.size, 3, none⟩ (.int .i64 hd)).setCell ⟨w.heap.size, 4, none⟩ (.int .i64 us)) = w6 at *
    go_wp2_with fail
    refine bodyPost_ret (v := .agg #[.int .i64 0, .int .i64 0, .int .i64 fr, .int .i64 hd, .int .i64 us]) (by simp [results, Try.results64, go_sem, t0, t1, t2, t3, t4]) rfl ⟨rfl, hb6⟩
end Go.Proofs.Ytgmichaconnhaaa
