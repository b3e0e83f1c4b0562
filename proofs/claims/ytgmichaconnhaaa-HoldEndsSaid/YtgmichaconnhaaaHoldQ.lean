/- Package hold: shift, hold, close. -/
import Derived.Test.YtgmichaconnhaaaHoldP
namespace Go.Proofs.Ytgmichaconnhaaa
open Go.ChangeShapes Go.WideShapes Go.ChangeAt Go.RowKit
set_option linter.unusedVariables false
set_option linter.unusedSimpArgs false

set_option maxRecDepth 100000 in
set_option maxHeartbeats 2000000 in
theorem cShiftLess0 {w : World} {S : Nat} {f u c : Int} {m v : Value} (h : w.heap[S]? = some (.cells #[.int .i64 f, .int .i64 u, m, v] 103 (0, 0))) (hc : f < c) :
    Calls Try.prog 74 #[.pointer (some ⟨S, 0, none⟩), .pointer (some ⟨S, 0, none⟩), .pointer (some ⟨S, 1, none⟩), .int .i64 c] w fun e w' => e = .returned (.int .i64 9) ∧ w = w' := by
  obtain ⟨⟨s0, s1, -, -⟩, -⟩ := four_cells h
  clear h
  go_enter Try.func74, Try.ntmps74
  go_wp2_with fail
  go_ret
  exact ⟨rfl, rfl⟩
set_option maxRecDepth 100000 in
set_option maxHeartbeats 2000000 in
theorem cShift0 {w : World} {S : Nat} {f u c : Int} {m v : Value} (h : w.heap[S]? = some (.cells #[.int .i64 f, .int .i64 u, m, v] 103 (0, 0))) (hc : ¬ f < c) (hf : 0 ≤ f ∧ f ≤ 1048576) (hu : 0 ≤ u ∧ u ≤ 1048576) (h0 : 1 ≤ c) :
    Calls Try.prog 74 #[.pointer (some ⟨S, 0, none⟩), .pointer (some ⟨S, 0, none⟩), .pointer (some ⟨S, 1, none⟩), .int .i64 c] w fun e w' => e = .returned (.int .i64 0) ∧ w' = (w.setCell ⟨S, 0, none⟩ (.int .i64 (f - c))).setCell ⟨S, 1, none⟩ (.int .i64 (u + c)) := by
  obtain ⟨⟨s0, s1, -, -⟩, hfz⟩ := four_cells h
  have f0 := hfz 0
  have f1 := hfz 1
  have w0 : IntKind.i64.wrap (f - c) = f - c := IntWalk.i64_in _ (by omega)
  have w1 : IntKind.i64.wrap (u + c) = u + c := IntWalk.i64_in _ (by omega)
  clear h hfz
  go_enter Try.func74, Try.ntmps74
  go_wp2_with fail
  go_ret
  exact ⟨rfl, rfl⟩
set_option maxRecDepth 100000 in
set_option maxHeartbeats 2000000 in
theorem cShiftLess1 {w : World} {S : Nat} {f u c : Int} {m v : Value} (h : w.heap[S]? = some (.cells #[.int .i64 f, .int .i64 u, m, v] 103 (0, 0))) (hc : u < c) :
    Calls Try.prog 74 #[.pointer (some ⟨S, 0, none⟩), .pointer (some ⟨S, 1, none⟩), .pointer (some ⟨S, 0, none⟩), .int .i64 c] w fun e w' => e = .returned (.int .i64 9) ∧ w = w' := by
  obtain ⟨⟨s0, s1, -, -⟩, -⟩ := four_cells h
  clear h
  go_enter Try.func74, Try.ntmps74
  go_wp2_with fail
  go_ret
  exact ⟨rfl, rfl⟩
set_option maxRecDepth 100000 in
set_option maxHeartbeats 2000000 in
theorem cShift1 {w : World} {S : Nat} {f u c : Int} {m v : Value} (h : w.heap[S]? = some (.cells #[.int .i64 f, .int .i64 u, m, v] 103 (0, 0))) (hc : ¬ u < c) (hf : 0 ≤ f ∧ f ≤ 1048576) (hu : 0 ≤ u ∧ u ≤ 1048576) (h0 : 1 ≤ c) :
    Calls Try.prog 74 #[.pointer (some ⟨S, 0, none⟩), .pointer (some ⟨S, 1, none⟩), .pointer (some ⟨S, 0, none⟩), .int .i64 c] w fun e w' => e = .returned (.int .i64 0) ∧ w' = (w.setCell ⟨S, 1, none⟩ (.int .i64 (u - c))).setCell ⟨S, 0, none⟩ (.int .i64 (f + c)) := by
  obtain ⟨⟨s0, s1, -, -⟩, hfz⟩ := four_cells h
  have f0 := hfz 0
  have f1 := hfz 1
  have w0 : IntKind.i64.wrap (u - c) = u - c := IntWalk.i64_in _ (by omega)
  have w1 : IntKind.i64.wrap (f + c) = f + c := IntWalk.i64_in _ (by omega)
  clear h hfz
  go_enter Try.func74, Try.ntmps74
  go_wp2_with fail
  go_ret
  exact ⟨rfl, rfl⟩
/-- The orders of the laws. -/
structure Ord.Ok (o : Ord) : Prop where
  kind : 1 ≤ o.kind ∧ o.kind ≤ 7
  count : 0 ≤ o.count ∧ o.count ≤ 9
  counts : (o.kind = 1 ∨ o.kind = 2 ∨ o.kind = 3 ∨ o.kind = 6) → 1 ≤ o.count
  life : 0 ≤ o.life ∧ o.life ≤ 20
  lives : o.kind = 3 → 1 ≤ o.life
  id : 0 ≤ o.id ∧ o.id ≤ 1000
  ids : (o.kind = 4 ∨ o.kind = 5) → 1 ≤ o.id
def Ord.val (o : Ord) : Value := .agg #[.int .i64 o.kind, .int .i64 o.count, .int .i64 o.life, .int .i64 o.id]
theorem ShfAt.moved {w w' : World} {base S : Nat} {s s' : Shf} {v : Value} (h : w'.heap[S]? = some (.cells #[.int .i64 s'.free, .int .i64 s'.used, .int .i64 s'.made, v] 103 (0, 0))) (hl : base ≤ S) (ho : w.ownsRow base 146 3 v s'.hs.length (hcs s'.hs)) (hc : Chc [103] w w') (hok : s'.Ok) : ShfAt w' base S s' :=
  ⟨⟨v, h, owns_chc ho hc (by decide)⟩, hok, hl⟩
set_option maxRecDepth 100000 in
set_option maxHeartbeats 2000000 in
theorem cHoldFull {w : World} {base S : Nat} {s : Shf} (h : ShfAt w base S s) (o : Ord) (ho : o.Ok) (hk : o.kind = 3) (hfull : s.hs.length = 4) :
    Calls Try.prog 75 #[.pointer (some ⟨S, 0, none⟩), o.val] w fun e w' => e = .returned (.tuple #[.int .i64 0, .int .i64 8]) ∧ Below w.heap.size w w' := by
  obtain ⟨v, h1, h2⟩ := h.ex
  obtain ⟨a, cap, rfl⟩ := owns_slice h2
  obtain ⟨⟨s0, s1, s2, s3⟩, -⟩ := four_cells h1
  have hS := h.lt
  obtain ⟨k, c, l, id⟩ := o
  obtain ⟨l0, l1⟩ := ho.life
  have l2 := ho.lives hk
  simp only at l0 l1 l2
  unfold Ord.val
  rw [hfull] at s3
  clear h h1 h2 ho hk
  go_enter Try.func75, Try.ntmps75
  go_wp2_with fail
  go_ret2
  exact ⟨rfl, (by repeat (first | exact Below.refl _ _ | refine Below.drew ?_ | refine Below.alloc ?_ (by first | (simp; done) | (simp; omega)) _ | refine Below.setCell ?_ (by first | (simp; done) | (simp; omega)) _))⟩
set_option maxRecDepth 100000 in
set_option maxHeartbeats 2000000 in
theorem cHoldLess {w : World} {base S : Nat} {s : Shf} (h : ShfAt w base S s) (o : Ord) (ho : o.Ok) (hk : o.kind = 3) (hfull : ¬ s.hs.length = 4) (hless : s.free < o.count) :
    Calls Try.prog 75 #[.pointer (some ⟨S, 0, none⟩), o.val] w fun e w' => e = .returned (.tuple #[.int .i64 0, .int .i64 9]) ∧ Below w.heap.size w w' := by
  obtain ⟨v, h1, h2⟩ := h.ex
  obtain ⟨a, cap, rfl⟩ := owns_slice h2
  obtain ⟨⟨s0, s1, s2, s3⟩, -⟩ := four_cells h1
  have hS := h.lt
  obtain ⟨k, c, l, id⟩ := o
  obtain ⟨l0, l1⟩ := ho.life
  have l2 := ho.lives hk
  simp only at l0 l1 l2 hless
  unfold Ord.val
  have hne : ((s.hs.length : Int) == 4) = false := by rw [beq_eq_false_iff_ne]; omega
  obtain ⟨⟨x0, x1, x2, x3⟩, -⟩ := four_cells (heap_alloc_new w (.cells #[.int .i64 k, .int .i64 c, .int .i64 l, .int .i64 id] 30))
  have hb : Below w.heap.size w (w.alloc (.cells #[.int .i64 k, .int .i64 c, .int .i64 l, .int .i64 id] 30)) := (Below.refl _ _).alloc (Nat.le_refl _) _
  replace s0 := cell_on hb s0
  replace s3 := cell_on hb s3
  have Hb := Lib.hid hb
  clear h h1 h2 ho hk hb s1 s2
  go_enter Try.func75, Try.ntmps75
  go_upto_region 1 with (fail)
  generalize w.alloc (.cells #[.int .i64 k, .int .i64 c, .int .i64 l, .int .i64 id] 30) = W at *
  go_upto_region 5 with (fail)
  go_quiet (fail)
  go_wp2_with fail
  go_ret2
  exact ⟨rfl, below_drewN Hb.out _⟩
end Go.Proofs.Ytgmichaconnhaaa
