/- Package hold: order: confirm, cancel. (Printed by wip/tools/gen_hold2.py.) -/
import Derived.Test.YtgmichaconnhaaaHoldT
namespace Go.Proofs.Ytgmichaconnhaaa
open Go.ChangeShapes Go.WideShapes Go.ChangeAt Go.RowKit
set_option linter.unusedVariables false
set_option linter.unusedSimpArgs false

theorem close_none4 {s : Shf} {o : Ord} (ho : o.Ok) (hk : o.kind = 4) (h : s.made < o.id) : s.order o = (0, 6, s) := by
  unfold Shf.order
  rw [if_neg (by omega), if_neg (by omega), if_neg (by omega), if_neg (by omega), if_neg (by omega), if_pos (by omega), if_pos (by omega)]
theorem close_old4 {s : Shf} {o : Ord} (ho : o.Ok) (hk : o.kind = 4) (h : ¬ s.made < o.id) (hp : s.place o.id = none) : s.order o = (0, 10, s) := by
  have h1 := ho.ids (by omega)
  unfold Shf.order
  rw [if_neg (by omega), if_neg (by omega), if_neg (by omega), if_neg (by omega), if_neg (by omega), if_pos (by omega), if_neg (by omega), hp]
theorem close_code4 {s : Shf} {o : Ord} (ho : o.Ok) (hk : o.kind = 4) (h : ¬ s.made < o.id) (i : Nat) (hp : s.place o.id = some i) : (s.order o).1 = 0 ∧ (s.order o).2.1 = 0 := by
  have h1 := ho.ids (by omega)
  unfold Shf.order
  rw [if_neg (by omega), if_neg (by omega), if_neg (by omega), if_neg (by omega), if_neg (by omega), if_pos (by omega), if_neg (by omega), hp]
  simp only [hk]
  simp
set_option maxRecDepth 100000 in
set_option maxHeartbeats 4000000 in
theorem cOrder4 {w : World} {base S : Nat} {s : Shf} (h : ShfAt w base S s) (o : Ord) (ho : o.Ok) (hk : o.kind = 4) :
    Calls Try.prog 63 #[.pointer (some ⟨S, 0, none⟩), o.val] w fun e w' => e = .returned (.tuple #[.int .i64 (s.order o).1, .int .i64 (s.order o).2.1]) ∧ Ordered base S s (s.next o) w w' := by
  have hok := Lib.hid (next_ok h.ok o)
  have H := Lib.hid h
  have Ho := Lib.hid ho
  have hfr := h.ok.free
  have hsum := h.ok.sum
  have hus := h.ok.used
  have hnn := h.ok.nonneg
  have hmade := h.ok.made
  have hS := h.lt
  have Hno := Lib.hid (fun hh => close_none4 (s := s) ho hk hh)
  have Hol := Lib.hid (fun hh hp => close_old4 (s := s) ho hk hh hp)
  have Hgk := Lib.hid (fun hh i hp => close_code4 (s := s) ho hk hh i hp)
  obtain ⟨k, c, l, id⟩ := o
  obtain ⟨k0, k1⟩ := ho.count
  have d0 := ho.ids (by omega)
  obtain ⟨-, d1⟩ := ho.id
  simp only at hk k0 k1 d0 d1 hok Ho Hno Hol Hgk
  subst hk
  unfold Ord.val
  simp only
  obtain ⟨⟨x0, x1, x2, x3⟩, -⟩ := four_cells (heap_alloc_new w (.cells #[.int .i64 4, .int .i64 c, .int .i64 l, .int .i64 id] 30))
  have hb : Below w.heap.size w (w.alloc (.cells #[.int .i64 4, .int .i64 c, .int .i64 l, .int .i64 id] 30)) := (Below.refl _ _).alloc (Nat.le_refl _) _
  have Hb := Lib.hid hb
  have hcm : c ≤ 1048576 := by omega
  clear h ho hb
  go_enter Try.func63, Try.ntmps63
  go_upto_region 1 with (fail)
  generalize w.alloc (.cells #[.int .i64 4, .int .i64 c, .int .i64 l, .int .i64 id] 30) = W at *
  have HW : Hid (ShfAt W.drew base S s) := H.out.on Hb.out.drew
  have HBd : Hid (Below w.heap.size w W.drew) := Hb.out.drew
  rcases (show decide (1 ≤ c) = false ∨ 1 ≤ c from (by by_cases hh : 1 ≤ c; exact .inr hh; exact .inl (decide_eq_false hh))) with hd | hd
  all_goals
    go_upto_region 22 with (fail)
    refine wp_still_tail 6 (by kernel_rfl) (by kernel_rfl) ?_
    simp only [List.take_succ_cons, List.take_zero, List.drop_succ_cons, List.drop_zero]
    repeat still_step
    refine wpStill_nil ?_
    clear x0 x1 x2 x3
    by_cases hno : s.made < id
    · go_wp2_with fail
      refine (cCloseNone1 HW.out id d0 hno).mono ?_
      rintro e w' ⟨rfl, hb'⟩
      have HB' : Hid (Below w.heap.size w w') := HBd.out.trans (hb'.mono HBd.out.size)
      clear hb'
      go_wp2_with fail
      go_ret2
      unfold Shf.next
      rw [Hno.out hno]
      exact ⟨rfl, .same H.out HB'.out⟩
    have Hn := Lib.hid hno
    cases hp : s.place id with
    | none =>
      go_wp2_with fail
      refine (cCloseOld1 HW.out id d0 (by have := Hn.out; omega) hp).mono ?_
      rintro e w' ⟨rfl, hb'⟩
      have HB' : Hid (Below w.heap.size w w') := HBd.out.trans (hb'.mono HBd.out.size)
      clear hb'
      go_wp2_with fail
      go_ret2
      unfold Shf.next
      rw [Hol.out (by have := Hn.out; omega) hp]
      exact ⟨rfl, .same H.out HB'.out⟩
    | some i =>
      go_wp2_with fail
      refine (cClose1 HW.out ⟨4, c, l, id⟩ rfl d0 (Int.not_lt.2 Hn.out) i hp).mono ?_
      rintro e w' ⟨rfl, h1, h2, h3⟩
      have HB' : Hid (Ordered base S s (s.next ⟨4, c, l, id⟩) w w') := ⟨h1, (HBd.out.mono (by have := H.out.lt; have := H.out.lo; omega)).trans h2, (Chc.of_below HBd.out).trans h3⟩
      clear h1 h2 h3
      go_wp2_with fail
      go_ret2
      rw [(Hgk.out (by have := Hn.out; omega) i hp).1, (Hgk.out (by have := Hn.out; omega) i hp).2]
      exact ⟨rfl, HB'.out⟩
theorem close_none5 {s : Shf} {o : Ord} (ho : o.Ok) (hk : o.kind = 5) (h : s.made < o.id) : s.order o = (0, 6, s) := by
  unfold Shf.order
  rw [if_neg (by omega), if_neg (by omega), if_neg (by omega), if_neg (by omega), if_neg (by omega), if_pos (by omega), if_pos (by omega)]
theorem close_old5 {s : Shf} {o : Ord} (ho : o.Ok) (hk : o.kind = 5) (h : ¬ s.made < o.id) (hp : s.place o.id = none) : s.order o = (0, 10, s) := by
  have h1 := ho.ids (by omega)
  unfold Shf.order
  rw [if_neg (by omega), if_neg (by omega), if_neg (by omega), if_neg (by omega), if_neg (by omega), if_pos (by omega), if_neg (by omega), hp]
theorem close_code5 {s : Shf} {o : Ord} (ho : o.Ok) (hk : o.kind = 5) (h : ¬ s.made < o.id) (i : Nat) (hp : s.place o.id = some i) : (s.order o).1 = 0 ∧ (s.order o).2.1 = 0 := by
  have h1 := ho.ids (by omega)
  unfold Shf.order
  rw [if_neg (by omega), if_neg (by omega), if_neg (by omega), if_neg (by omega), if_neg (by omega), if_pos (by omega), if_neg (by omega), hp]
  simp only [hk]
  simp
set_option maxRecDepth 100000 in
set_option maxHeartbeats 4000000 in
theorem cOrder5 {w : World} {base S : Nat} {s : Shf} (h : ShfAt w base S s) (o : Ord) (ho : o.Ok) (hk : o.kind = 5) :
    Calls Try.prog 63 #[.pointer (some ⟨S, 0, none⟩), o.val] w fun e w' => e = .returned (.tuple #[.int .i64 (s.order o).1, .int .i64 (s.order o).2.1]) ∧ Ordered base S s (s.next o) w w' := by
  have hok := Lib.hid (next_ok h.ok o)
  have H := Lib.hid h
  have Ho := Lib.hid ho
  have hfr := h.ok.free
  have hsum := h.ok.sum
  have hus := h.ok.used
  have hnn := h.ok.nonneg
  have hmade := h.ok.made
  have hS := h.lt
  have Hno := Lib.hid (fun hh => close_none5 (s := s) ho hk hh)
  have Hol := Lib.hid (fun hh hp => close_old5 (s := s) ho hk hh hp)
  have Hgk := Lib.hid (fun hh i hp => close_code5 (s := s) ho hk hh i hp)
  obtain ⟨k, c, l, id⟩ := o
  obtain ⟨k0, k1⟩ := ho.count
  have d0 := ho.ids (by omega)
  obtain ⟨-, d1⟩ := ho.id
  simp only at hk k0 k1 d0 d1 hok Ho Hno Hol Hgk
  subst hk
  unfold Ord.val
  simp only
  obtain ⟨⟨x0, x1, x2, x3⟩, -⟩ := four_cells (heap_alloc_new w (.cells #[.int .i64 5, .int .i64 c, .int .i64 l, .int .i64 id] 30))
  have hb : Below w.heap.size w (w.alloc (.cells #[.int .i64 5, .int .i64 c, .int .i64 l, .int .i64 id] 30)) := (Below.refl _ _).alloc (Nat.le_refl _) _
  have Hb := Lib.hid hb
  have hcm : c ≤ 1048576 := by omega
  clear h ho hb
  go_enter Try.func63, Try.ntmps63
  go_upto_region 1 with (fail)
  generalize w.alloc (.cells #[.int .i64 5, .int .i64 c, .int .i64 l, .int .i64 id] 30) = W at *
  have HW : Hid (ShfAt W.drew base S s) := H.out.on Hb.out.drew
  have HBd : Hid (Below w.heap.size w W.drew) := Hb.out.drew
  rcases (show decide (1 ≤ c) = false ∨ 1 ≤ c from (by by_cases hh : 1 ≤ c; exact .inr hh; exact .inl (decide_eq_false hh))) with hd | hd
  all_goals
    go_upto_region 24 with (fail)
    refine wp_still_tail 6 (by kernel_rfl) (by kernel_rfl) ?_
    simp only [List.take_succ_cons, List.take_zero, List.drop_succ_cons, List.drop_zero]
    repeat still_step
    refine wpStill_nil ?_
    clear x0 x1 x2 x3
    by_cases hno : s.made < id
    · go_wp2_with fail
      refine (cCloseNone0 HW.out id d0 hno).mono ?_
      rintro e w' ⟨rfl, hb'⟩
      have HB' : Hid (Below w.heap.size w w') := HBd.out.trans (hb'.mono HBd.out.size)
      clear hb'
      go_wp2_with fail
      go_ret2
      unfold Shf.next
      rw [Hno.out hno]
      exact ⟨rfl, .same H.out HB'.out⟩
    have Hn := Lib.hid hno
    cases hp : s.place id with
    | none =>
      go_wp2_with fail
      refine (cCloseOld0 HW.out id d0 (by have := Hn.out; omega) hp).mono ?_
      rintro e w' ⟨rfl, hb'⟩
      have HB' : Hid (Below w.heap.size w w') := HBd.out.trans (hb'.mono HBd.out.size)
      clear hb'
      go_wp2_with fail
      go_ret2
      unfold Shf.next
      rw [Hol.out (by have := Hn.out; omega) hp]
      exact ⟨rfl, .same H.out HB'.out⟩
    | some i =>
      go_wp2_with fail
      refine (cClose0 HW.out ⟨5, c, l, id⟩ rfl d0 (Int.not_lt.2 Hn.out) i hp).mono ?_
      rintro e w' ⟨rfl, h1, h2, h3⟩
      have HB' : Hid (Ordered base S s (s.next ⟨5, c, l, id⟩) w w') := ⟨h1, (HBd.out.mono (by have := H.out.lt; have := H.out.lo; omega)).trans h2, (Chc.of_below HBd.out).trans h3⟩
      clear h1 h2 h3
      go_wp2_with fail
      go_ret2
      rw [(Hgk.out (by have := Hn.out; omega) i hp).1, (Hgk.out (by have := Hn.out; omega) i hp).2]
      exact ⟨rfl, HB'.out⟩
end Go.Proofs.Ytgmichaconnhaaa
