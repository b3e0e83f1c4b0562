/- Package hold: order: gain. -/
import Derived.Test.YtgmichaconnhaaaHoldR
import Derived.Test.YtgmichaconnhaaaHoldS
import Derived.BigQuiet
namespace Go.Proofs.Ytgmichaconnhaaa
open Go.ChangeShapes Go.WideShapes Go.ChangeAt Go.RowKit
set_option linter.unusedVariables false
set_option linter.unusedSimpArgs false

/-- What an order leaves. -/
structure Ordered (base S : Nat) (s s' : Shf) (w w' : World) : Prop where
  sh : ShfAt w' base S s'
  hb : Below base w w'
  hc : Chc [103, 146] w w'
theorem Ordered.same {base S : Nat} {s : Shf} {w w' : World} (h : ShfAt w base S s) (hb : Below w.heap.size w w') : Ordered base S s s w w' :=
  ⟨h.on hb, hb.mono (by have := h.lt; have := h.lo; omega), Chc.of_below hb⟩
/-- One store, behind some growth. -/
theorem Ordered.put {base S : Nat} {s s' : Shf} {w W W' : World} (h : ShfAt w base S s) (hb : Below w.heap.size w W) (hW : ∀ v, W.heap[S]? = some (.cells #[.int .i64 s.free, .int .i64 s.used, .int .i64 s.made, v] 103 (0, 0)) → W'.heap[S]? = some (.cells #[.int .i64 s'.free, .int .i64 s'.used, .int .i64 s'.made, v] 103 (0, 0)) ∧ Chc [103] W W')
    (hbb : Below base W W') (hhs : s'.hs = s.hs) (hok : s'.Ok) : Ordered base S s s' w W' := by
  obtain ⟨v, q1, q2⟩ := (h.on hb).ex
  obtain ⟨h1, h2⟩ := hW v q1
  have hbs : base ≤ w.heap.size := by have := h.lt; have := h.lo; omega
  refine ⟨⟨⟨v, h1, ?_⟩, hok, h.lo⟩, (hb.mono hbs).trans hbb, (Chc.of_below hb).trans (h2.mono (by simp))⟩
  rw [hhs]; exact owns_chc q2 h2 (by decide)
/-- The shelf's cells. -/
theorem ShfAt.cells {w : World} {base S : Nat} {s : Shf} (h : ShfAt w base S s) : (w.cell? ⟨S, 0, none⟩ = some (.int .i64 s.free) ∧ w.cell? ⟨S, 1, none⟩ = some (.int .i64 s.used) ∧ w.cell? ⟨S, 2, none⟩ = some (.int .i64 s.made)) ∧ ∀ j, w.frozen? ⟨S, j, none⟩ = false := by
  obtain ⟨v, q1, q2⟩ := h.ex
  obtain ⟨⟨a, b, c, -⟩, d⟩ := four_cells q1
  exact ⟨⟨a, b, c⟩, d⟩
theorem order_box (w : World) (o : Ord) : Below w.heap.size w (w.alloc (.cells #[.int .i64 o.kind, .int .i64 o.count, .int .i64 o.life, .int .i64 o.id] 30)) := (Below.refl _ _).alloc (Nat.le_refl _) _
theorem gain_over {s : Shf} {o : Ord} (ho : o.Ok) (hk : o.kind = 1) (h : 1048576 < s.free + s.held + s.used + o.count) : s.order o = (0, 12, s) := by
  have h1 := ho.counts (by omega)
  have h2 := ho.count
  unfold Shf.order
  rw [if_neg (by omega), if_pos hk, if_pos h]
theorem gain_ok {s : Shf} {o : Ord} (ho : o.Ok) (hk : o.kind = 1) (h : ¬ 1048576 < s.free + s.held + s.used + o.count) : s.order o = (0, 0, { s with free := s.free + o.count }) := by
  have h1 := ho.counts (by omega)
  have h2 := ho.count
  unfold Shf.order
  rw [if_neg (by omega), if_pos hk, if_neg h]
set_option maxRecDepth 100000 in
set_option maxHeartbeats 4000000 in
theorem cOrder1 {w : World} {base S : Nat} {s : Shf} (h : ShfAt w base S s) (o : Ord) (ho : o.Ok) (hk : o.kind = 1) :
    Calls Try.prog 63 #[.pointer (some ⟨S, 0, none⟩), o.val] w fun e w' => e = .returned (.tuple #[.int .i64 (s.order o).1, .int .i64 (s.order o).2.1]) ∧ Ordered base S s (s.next o) w w' := by
  have hok := Lib.hid (next_ok h.ok o)
  have H := Lib.hid h
  have hfr := h.ok.free
  have hsum := h.ok.sum
  have hus := h.ok.used
  have hnn := h.ok.nonneg
  have hS := h.lt
  have Hov := Lib.hid (fun hh => gain_over (s := s) ho hk hh)
  have Hgk := Lib.hid (fun hh => gain_ok (s := s) ho hk hh)
  obtain ⟨k, c, l, id⟩ := o
  obtain ⟨k0, k1⟩ := ho.count
  have k2 := ho.counts (by omega)
  simp only at hk k0 k1 k2 hok Hov Hgk
  subst hk
  unfold Ord.val
  simp only
  obtain ⟨⟨x0, x1, x2, x3⟩, -⟩ := four_cells (heap_alloc_new w (.cells #[.int .i64 1, .int .i64 c, .int .i64 l, .int .i64 id] 30))
  have hb : Below w.heap.size w (w.alloc (.cells #[.int .i64 1, .int .i64 c, .int .i64 l, .int .i64 id] 30)) := (Below.refl _ _).alloc (Nat.le_refl _) _
  have Hb := Lib.hid hb
  obtain ⟨⟨s0, s1, -⟩, hfz⟩ := (h.on hb).cells
  have CH := Lib.hid fun X (hX : Below w.heap.size w X) => cHeld (H.out.on hX)
  have hw0 : IntKind.i64.wrap (s.free + s.held) = s.free + s.held := IntWalk.i64_in _ (by omega)
  have hw1 : IntKind.i64.wrap (s.free + s.held + s.used) = s.free + s.held + s.used := IntWalk.i64_in _ (by omega)
  have hw2 : IntKind.i64.wrap (s.free + s.held + s.used + c) = s.free + s.held + s.used + c := IntWalk.i64_in _ (by omega)
  have hw3 : IntKind.i64.wrap (s.free + c) = s.free + c := IntWalk.i64_in _ (by omega)
  have hcm : c ≤ 1048576 := by omega
  clear h ho hb hfz x0 x2 x3
  go_enter Try.func63, Try.ntmps63
  go_upto_region 1 with (fail)
  have HN := Lib.hid (heap_alloc_new w (.cells #[.int .i64 1, .int .i64 c, .int .i64 l, .int .i64 id] 30))
  obtain ⟨⟨x0, -, -, -⟩, -⟩ := four_cells HN.out
  generalize w.alloc (.cells #[.int .i64 1, .int .i64 c, .int .i64 l, .int .i64 id] 30) = W at *
  go_upto_region 12 with (fail)
  have CS : Hid (∀ X : Ext W, Calls Try.prog 73 #[.pointer (some ⟨S, 0, none⟩)] X.1 fun e w' => e = .returned (.int .i64 s.held) ∧ Below X.1.heap.size X.1 w') := fun X => CH.out X.1 (Hb.out.trans (X.2.mono Hb.out.size))
  have p0 := ext_cell s0
  have p1 := ext_cell s1
  have p2 := ext_cell x1
  clear s0 s1 x0 x1
  refine wp_region_grow (by kernel_rfl) (by kernel_rfl) ?_
  repeat (go_big_quiet_step ((go_at_call 73; with_reducible exact grow_of (CS.out _))))
  refine wpQuiet_nil ?_
  intro w8 hb8
  have Hb8 : Hid (Below w.heap.size w w8) := Hb.out.trans (hb8.mono Hb.out.size)
  have q0 := p0 ⟨w8, hb8⟩
  have q1 := p2 ⟨w8, hb8⟩
  simp only at q0 q1
  obtain ⟨-, hfz⟩ := (H.out.on Hb8.out).cells
  have f0 := hfz 0
  clear p0 p1 p2 hb8 CS CH hw0 hw1 hw2 hfz
  by_cases hov : 1048576 < s.free + s.held + s.used + c
  · have hd : decide (1048576 < s.free + s.held + s.used + c) = true := decide_eq_true hov
    go_wp2_with fail
    go_ret2
    unfold Shf.next
    rw [Hov.out hov]
    exact ⟨rfl, .same H.out Hb8.out⟩
  · have hd : decide (1048576 < s.free + s.held + s.used + c) = false := decide_eq_false hov
    go_upto_region 14 with (fail)
    go_region
    go_wp2_with fail
    go_ret2
    unfold Shf.next at hok ⊢
    rw [Hgk.out hov] at hok ⊢
    exact ⟨rfl, .put H.out Hb8.out (fun v hv => ⟨(shelf_set hv (.int .i64 (s.free + c))).1, (Chc.setCell (p := ⟨S, 0, none⟩) hv (by simp) _).drew⟩) (((Below.refl _ _).setCell H.out.lo _).drew) rfl hok.out⟩
end Go.Proofs.Ytgmichaconnhaaa
