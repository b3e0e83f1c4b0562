/- Package hold: order: sell, refund, hold. (Printed by wip/tools/gen_hold2.py.) -/
import Derived.Test.YtgmichaconnhaaaHoldT
namespace Go.Proofs.Ytgmichaconnhaaa
open Go.ChangeShapes Go.WideShapes Go.ChangeAt Go.RowKit
set_option linter.unusedVariables false
set_option linter.unusedSimpArgs false

theorem shift_less2 {s : Shf} {o : Ord} (ho : o.Ok) (hk : o.kind = 2) (h : s.free < o.count) : s.order o = (0, 9, s) := by
  have h1 := ho.counts (by omega)
  have h2 := ho.count
  unfold Shf.order
  rw [if_neg (by omega), if_neg (by omega), if_pos hk, if_pos h]
theorem shift_ok2 {s : Shf} {o : Ord} (ho : o.Ok) (hk : o.kind = 2) (h : ¬ s.free < o.count) : s.order o = (0, 0, { s with free := s.free - o.count, used := s.used + o.count }) := by
  have h1 := ho.counts (by omega)
  have h2 := ho.count
  unfold Shf.order
  rw [if_neg (by omega), if_neg (by omega), if_pos hk, if_neg h]
set_option maxRecDepth 100000 in
set_option maxHeartbeats 4000000 in
theorem cOrder2 {w : World} {base S : Nat} {s : Shf} (h : ShfAt w base S s) (o : Ord) (ho : o.Ok) (hk : o.kind = 2) :
    Calls Try.prog 63 #[.pointer (some ⟨S, 0, none⟩), o.val] w fun e w' => e = .returned (.tuple #[.int .i64 (s.order o).1, .int .i64 (s.order o).2.1]) ∧ Ordered base S s (s.next o) w w' := by
  have hok := Lib.hid (next_ok h.ok o)
  have H := Lib.hid h
  have Ho := Lib.hid ho
  have hfr := h.ok.free
  have hsum := h.ok.sum
  have hus := h.ok.used
  have hnn := h.ok.nonneg
  have hmade := h.ok.made
  have hS := h.lt
  have Hle := Lib.hid (fun hh => shift_less2 (s := s) ho hk hh)
  have Hgk := Lib.hid (fun hh => shift_ok2 (s := s) ho hk hh)
  obtain ⟨k, c, l, id⟩ := o
  obtain ⟨k0, k1⟩ := ho.count
  have k2 := ho.counts (by omega)
  simp only at hk k0 k1 k2 hok Ho Hle Hgk
  subst hk
  unfold Ord.val
  simp only
  obtain ⟨⟨x0, x1, x2, x3⟩, -⟩ := four_cells (heap_alloc_new w (.cells #[.int .i64 2, .int .i64 c, .int .i64 l, .int .i64 id] 30))
  have hb : Below w.heap.size w (w.alloc (.cells #[.int .i64 2, .int .i64 c, .int .i64 l, .int .i64 id] 30)) := (Below.refl _ _).alloc (Nat.le_refl _) _
  have Hb := Lib.hid hb
  have hcm : c ≤ 1048576 := by omega
  clear h ho hb
  go_enter Try.func63, Try.ntmps63
  go_upto_region 1 with (fail)
  generalize w.alloc (.cells #[.int .i64 2, .int .i64 c, .int .i64 l, .int .i64 id] 30) = W at *
  go_upto_region 16 with (fail)
  obtain ⟨v, hv, -⟩ := (H.out.on Hb.out).ex
  have hvd : W.drew.heap[S]? = some (.cells #[.int .i64 s.free, .int .i64 s.used, .int .i64 s.made, v] 103 (0, 0)) := hv
  refine wp_still_tail 9 (by kernel_rfl) (by kernel_rfl) ?_
  simp only [List.take_succ_cons, List.take_zero, List.drop_succ_cons, List.drop_zero]
  repeat still_step
  refine wpStill_nil ?_
  clear x0 x1 x2 x3
  by_cases hle : s.free < c
  · go_wp2_with fail
    refine (cShiftLess0 hvd hle).mono ?_
    rintro e w' ⟨rfl, rfl⟩
    go_wp2_with fail
    go_ret2
    unfold Shf.next
    rw [Hle.out hle]
    exact ⟨rfl, .same H.out Hb.out.drew⟩
  · have Hn := Lib.hid hle
    go_wp2_with fail
    refine (cShift0 hvd (by have := Hn.out; omega) (by omega) (by omega) (by omega)).mono ?_
    rintro e w' ⟨rfl, rfl⟩
    go_wp2_with fail
    go_ret2
    unfold Shf.next at hok ⊢
    rw [Hgk.out (by have := Hn.out; omega)] at hok ⊢
    have e1 := (shelf_set hvd (.int .i64 (s.free - c))).1
    have e2 := (shelf_set e1 (.int .i64 (s.used + c))).2.1
    exact ⟨rfl, .put H.out Hb.out.drew (fun v' hv' => by
      obtain rfl : v' = v := by rw [hvd] at hv'; simpa using hv'.symm
      exact ⟨e2, (Chc.setCell (p := ⟨S, 0, none⟩) hvd (by simp) _).trans (Chc.setCell (p := ⟨S, 1, none⟩) e1 (by simp) _)⟩) (((Below.refl _ _).setCell H.out.lo _).setCell H.out.lo _) rfl hok.out⟩
theorem shift_less6 {s : Shf} {o : Ord} (ho : o.Ok) (hk : o.kind = 6) (h : s.used < o.count) : s.order o = (0, 9, s) := by
  have h1 := ho.counts (by omega)
  have h2 := ho.count
  unfold Shf.order
  rw [if_neg (by omega), if_neg (by omega), if_neg (by omega), if_pos hk, if_pos h]
theorem shift_ok6 {s : Shf} {o : Ord} (ho : o.Ok) (hk : o.kind = 6) (h : ¬ s.used < o.count) : s.order o = (0, 0, { s with free := s.free + o.count, used := s.used - o.count }) := by
  have h1 := ho.counts (by omega)
  have h2 := ho.count
  unfold Shf.order
  rw [if_neg (by omega), if_neg (by omega), if_neg (by omega), if_pos hk, if_neg h]
set_option maxRecDepth 100000 in
set_option maxHeartbeats 4000000 in
theorem cOrder6 {w : World} {base S : Nat} {s : Shf} (h : ShfAt w base S s) (o : Ord) (ho : o.Ok) (hk : o.kind = 6) :
    Calls Try.prog 63 #[.pointer (some ⟨S, 0, none⟩), o.val] w fun e w' => e = .returned (.tuple #[.int .i64 (s.order o).1, .int .i64 (s.order o).2.1]) ∧ Ordered base S s (s.next o) w w' := by
  have hok := Lib.hid (next_ok h.ok o)
  have H := Lib.hid h
  have Ho := Lib.hid ho
  have hfr := h.ok.free
  have hsum := h.ok.sum
  have hus := h.ok.used
  have hnn := h.ok.nonneg
  have hmade := h.ok.made
  have hS := h.lt
  have Hle := Lib.hid (fun hh => shift_less6 (s := s) ho hk hh)
  have Hgk := Lib.hid (fun hh => shift_ok6 (s := s) ho hk hh)
  obtain ⟨k, c, l, id⟩ := o
  obtain ⟨k0, k1⟩ := ho.count
  have k2 := ho.counts (by omega)
  simp only at hk k0 k1 k2 hok Ho Hle Hgk
  subst hk
  unfold Ord.val
  simp only
  obtain ⟨⟨x0, x1, x2, x3⟩, -⟩ := four_cells (heap_alloc_new w (.cells #[.int .i64 6, .int .i64 c, .int .i64 l, .int .i64 id] 30))
  have hb : Below w.heap.size w (w.alloc (.cells #[.int .i64 6, .int .i64 c, .int .i64 l, .int .i64 id] 30)) := (Below.refl _ _).alloc (Nat.le_refl _) _
  have Hb := Lib.hid hb
  have hcm : c ≤ 1048576 := by omega
  clear h ho hb
  go_enter Try.func63, Try.ntmps63
  go_upto_region 1 with (fail)
  generalize w.alloc (.cells #[.int .i64 6, .int .i64 c, .int .i64 l, .int .i64 id] 30) = W at *
  go_upto_region 18 with (fail)
  obtain ⟨v, hv, -⟩ := (H.out.on Hb.out).ex
  have hvd : W.drew.heap[S]? = some (.cells #[.int .i64 s.free, .int .i64 s.used, .int .i64 s.made, v] 103 (0, 0)) := hv
  refine wp_still_tail 9 (by kernel_rfl) (by kernel_rfl) ?_
  simp only [List.take_succ_cons, List.take_zero, List.drop_succ_cons, List.drop_zero]
  repeat still_step
  refine wpStill_nil ?_
  clear x0 x1 x2 x3
  by_cases hle : s.used < c
  · go_wp2_with fail
    refine (cShiftLess1 hvd hle).mono ?_
    rintro e w' ⟨rfl, rfl⟩
    go_wp2_with fail
    go_ret2
    unfold Shf.next
    rw [Hle.out hle]
    exact ⟨rfl, .same H.out Hb.out.drew⟩
  · have Hn := Lib.hid hle
    go_wp2_with fail
    refine (cShift1 hvd (by have := Hn.out; omega) (by omega) (by omega) (by omega)).mono ?_
    rintro e w' ⟨rfl, rfl⟩
    go_wp2_with fail
    go_ret2
    unfold Shf.next at hok ⊢
    rw [Hgk.out (by have := Hn.out; omega)] at hok ⊢
    have e1 := (shelf_set hvd (.int .i64 (s.used - c))).2.1
    have e2 := (shelf_set e1 (.int .i64 (s.free + c))).1
    exact ⟨rfl, .put H.out Hb.out.drew (fun v' hv' => by
      obtain rfl : v' = v := by rw [hvd] at hv'; simpa using hv'.symm
      exact ⟨e2, (Chc.setCell (p := ⟨S, 1, none⟩) hvd (by simp) _).trans (Chc.setCell (p := ⟨S, 0, none⟩) e1 (by simp) _)⟩) (((Below.refl _ _).setCell H.out.lo _).setCell H.out.lo _) rfl hok.out⟩
theorem hold_full {s : Shf} {o : Ord} (ho : o.Ok) (hk : o.kind = 3) (h : s.hs.length = 4) : s.order o = (0, 8, s) := by
  have h1 := ho.counts (by omega)
  have h2 := ho.count
  have h3 := ho.lives hk
  have h4 := ho.life
  unfold Shf.order
  rw [if_neg (by omega), if_neg (by omega), if_neg (by omega), if_neg (by omega), if_pos hk, if_neg (by omega), if_pos h]
theorem hold_less {s : Shf} {o : Ord} (ho : o.Ok) (hk : o.kind = 3) (h : ¬ s.hs.length = 4) (hl : s.free < o.count) : s.order o = (0, 9, s) := by
  have h1 := ho.counts (by omega)
  have h2 := ho.count
  have h3 := ho.lives hk
  have h4 := ho.life
  unfold Shf.order
  rw [if_neg (by omega), if_neg (by omega), if_neg (by omega), if_neg (by omega), if_pos hk, if_neg (by omega), if_neg h, if_pos hl]
set_option maxRecDepth 100000 in
set_option maxHeartbeats 4000000 in
theorem cOrder3 {w : World} {base S : Nat} {s : Shf} (h : ShfAt w base S s) (o : Ord) (ho : o.Ok) (hk : o.kind = 3) (hm : s.made ≤ 1000) :
    Calls Try.prog 63 #[.pointer (some ⟨S, 0, none⟩), o.val] w fun e w' => e = .returned (.tuple #[.int .i64 (s.order o).1, .int .i64 (s.order o).2.1]) ∧ Ordered base S s (s.next o) w w' := by
  have hok := Lib.hid (next_ok h.ok o)
  have H := Lib.hid h
  have Ho := Lib.hid ho
  have hfr := h.ok.free
  have hsum := h.ok.sum
  have hus := h.ok.used
  have hnn := h.ok.nonneg
  have hmade := h.ok.made
  have hS := h.lt
  have Hfu := Lib.hid (fun hh => hold_full (s := s) ho hk hh)
  have Hle := Lib.hid (fun hh hl => hold_less (s := s) ho hk hh hl)
  have Hgk := Lib.hid (fun hh hl => hold_order (s := s) ho hk hh hl)
  obtain ⟨k, c, l, id⟩ := o
  obtain ⟨k0, k1⟩ := ho.count
  have k2 := ho.counts (by omega)
  simp only at hk k0 k1 k2 hok Ho Hfu Hle Hgk
  subst hk
  unfold Ord.val
  simp only
  obtain ⟨⟨x0, x1, x2, x3⟩, -⟩ := four_cells (heap_alloc_new w (.cells #[.int .i64 3, .int .i64 c, .int .i64 l, .int .i64 id] 30))
  have hb : Below w.heap.size w (w.alloc (.cells #[.int .i64 3, .int .i64 c, .int .i64 l, .int .i64 id] 30)) := (Below.refl _ _).alloc (Nat.le_refl _) _
  have Hb := Lib.hid hb
  have hcm : c ≤ 1048576 := by omega
  clear h ho hb
  go_enter Try.func63, Try.ntmps63
  go_upto_region 1 with (fail)
  generalize w.alloc (.cells #[.int .i64 3, .int .i64 c, .int .i64 l, .int .i64 id] 30) = W at *
  have HW := Lib.hid (H.out.on Hb.out)
  go_upto_region 20 with (fail)
  by_cases hfu : s.hs.length = 4
  · go_wp2_with fail
    refine (cHoldFull HW.out ⟨3, c, l, id⟩ Ho.out rfl hfu).mono ?_
    rintro e w' ⟨rfl, hb'⟩
    have HB' : Hid (Below w.heap.size w w') := Hb.out.trans (hb'.mono Hb.out.size)
    clear x0 x1 x2 x3 hb'
    go_wp2_with fail
    go_ret2
    unfold Shf.next
    rw [Hfu.out hfu]
    exact ⟨rfl, .same H.out HB'.out⟩
  by_cases hle : s.free < c
  · go_wp2_with fail
    refine (cHoldLess HW.out ⟨3, c, l, id⟩ Ho.out rfl hfu hle).mono ?_
    rintro e w' ⟨rfl, hb'⟩
    have HB' : Hid (Below w.heap.size w w') := Hb.out.trans (hb'.mono Hb.out.size)
    clear x0 x1 x2 x3 hb'
    go_wp2_with fail
    go_ret2
    unfold Shf.next
    rw [Hle.out hfu hle]
    exact ⟨rfl, .same H.out HB'.out⟩
  · have Hn := Lib.hid hle
    go_wp2_with fail
    refine (cHold HW.out ⟨3, c, l, id⟩ Ho.out rfl hfu (Int.not_lt.2 Hn.out) hm).mono ?_
    rintro e w' ⟨rfl, h1, h2, h3⟩
    have HB' : Hid (Ordered base S s (s.next ⟨3, c, l, id⟩) w w') := ⟨h1, (Hb.out.mono (by have := H.out.lt; have := H.out.lo; omega)).trans h2, (Chc.of_below Hb.out).trans h3⟩
    clear x0 x1 x2 x3 h1 h2 h3
    go_wp2_with fail
    go_ret2
    rw [Hgk.out hfu (by have := Hn.out; omega)]
    exact ⟨rfl, HB'.out⟩
end Go.Proofs.Ytgmichaconnhaaa
