/- LineBack: the walk. -/
import Derived.Test.YtjnjecednkiakaaDoorLineW
import Derived.Test.YtjnjecednkiakaaDoorDeskS
namespace Go.Proofs.YtjnjecednkiakaaDoor.lineBack
open Go.ChangeShapes Go.WideShapes Go.ChangeAt Go.RowKit
set_option linter.unusedVariables false
set_option linter.unusedSimpArgs false

set_option maxRecDepth 100000 in
set_option maxHeartbeats 8000000 in
theorem walk (w : World) (hL : LibVars w) (kd a b c d : Int) (wa : (Lit.int .i64 a).wf = true) (wb : (Lit.int .i64 b).wf = true) (wc : (Lit.int .i64 c).wf = true) (wd : (Lit.int .i64 d).wf = true) :
    Calls Tryd.prog 4 #[.int .i64 kd, .int .i64 a, .int .i64 b, .int .i64 c, .int .i64 d] w fun e w' => e = .returned (.bool true) ∧ Below w.heap.size w w' := by
  have P1 := Lib.hid fun X => picked kd 11 (by omega) (by omega) X
  rw [← (pn_eq kd 11 (by omega)).1] at P1
  have hx := (pn_eq kd 11 (by omega)).2
  generalize pn kd 11 = x at *
  replace hx : x < 11 := by omega
  have CS := Lib.hid (cLineStep kd a b c d w x hx P1.out)
  have hst := stepL_range x hx a b c d (bounds_i64 wa) (bounds_i64 wb) (bounds_i64 wc) (bounds_i64 wd)
  have h00 := stepL_zero x hx a b c d
  have hz := fun o (_ : o < 8) (h : 1 ≤ o) (h' : o ∉ offsOf x) => stepL_none x a b c d o h h'
  generalize stepL x a b c d = f at *
  obtain ⟨g, hg1, hg2⟩ := read_line f hst x hx h00 hz
  have RB := Lib.hid (read_behind f x hx)
  have RA := Lib.hid (read_ahead (lineP f (wordOf x, offsOf x)))
  have hll := line_len f hst x hx
  have SH : Hid (∀ X, Below w.heap.size w X → Calls Tryd.prog 11 #[stepV f] X fun e w' => e = .returned (.tuple #[.string ⟨(lineP f (wordOf x, offsOf x)).toArray⟩, .int .i64 0]) ∧ Below X.heap.size X w') := fun X hX => cShow x hx f h00 hst hz X (hL.below hX).words (hL.below hX).tab
  have RD : Hid (∀ (s : ByteArray) X, s.size < 4294967281 → Below w.heap.size w X → Calls Tryd.prog 12 #[.string s] X fun e w' => e = .returned (outOf (readM s.data.toList)) ∧ Below X.heap.size X w') := fun s X hs hX => cRead s hs X (hL.below hX)
  have HG1 := Lib.hid hg1
  have HG2 := Lib.hid (stepV_congr hg2)
  have hq := fun X => eq_step f X
  simp only [stepV] at hq
  clear hg1 hg2 hst h00 hz wa wb wc wd hL hx
  generalize lineP f (wordOf x, offsOf x) = l at *
  go_enter Tryd.func4, Tryd.ntmps4
  go_wp2_with fail
  refine CS.out.mono ?_
  rintro e w1 ⟨rfl, hb1⟩
  unfold stepV
  have HB1 := Lib.hid hb1
  clear CS hb1
  go_wp2_with fail
  change Calls Tryd.prog _ #[stepV f] (w1.alloc (.cells (box8 f) 32)) _
  have hA := HB1.out.alloc HB1.out.size (.cells (box8 f) 32)
  refine (SH.out _ hA).mono ?_
  rintro e w2 ⟨rfl, hb2⟩
  have hbx2 : Box w2 w1.heap.size f := (hb2.block _ (by simp)).trans (heap_alloc_new _ _)
  have HB2 := Lib.hid (hA.trans (hb2.mono hA.size))
  clear hA hb2 HB1
  have hsl : ByteArray.size ⟨l.toArray⟩ = l.length := by show l.toArray.size = _; simp
  go_wp2_with fail
  refine (RD.out ⟨l.toArray⟩ _ (by rw [hsl]; omega) HB2.out).mono ?_
  rintro e w3 ⟨rfl, hb3⟩
  rw [show (ByteArray.mk l.toArray).data.toList = l from by simp, HG1.out]
  simp only [outOf]
  rw [HG2.out]
  unfold stepV
  have hbx3 := hbx2.kept (hb3.block _ hbx2.lt)
  have HB3 := Lib.hid (HB2.out.trans (hb3.mono HB2.out.size))
  clear hb3 hbx2 HB2
  go_wp2_with fail
  change Calls Tryd.prog _ _ (w3.alloc (.cells (box8 f) 32)) _
  have hA := HB3.out.alloc HB3.out.size (.cells (box8 f) 32)
  have hbA := hbx3.kept (Below.heap_alloc w3 (.cells (box8 f) 32) _ hbx3.lt)
  have hbN : Box (w3.alloc (.cells (box8 f) 32)) w3.heap.size f := heap_alloc_new _ _
  have hs2 : (ByteArray.mk l.toArray ++ ByteArray.mk #[32]).size < 4294967281 := by
    rw [ByteArray.size_append, hsl]
    have : ByteArray.size (ByteArray.mk #[32]) = 1 := by rfl
    omega
  with_reducible refine (RD.out (ByteArray.mk l.toArray ++ ByteArray.mk #[32]) _ hs2 hA).mono ?_
  rintro e w4 ⟨rfl, hb4⟩
  rw [show (ByteArray.mk l.toArray ++ ByteArray.mk #[32]).data.toList = l ++ [32] by rw [ByteArray.data_append]; simp, RB.out]
  have hbx4 := hbA.kept (hb4.block _ hbA.lt)
  have hby4 := hbN.kept (hb4.block _ hbN.lt)
  have HB4 := Lib.hid (hA.trans (hb4.mono hA.size))
  simp only [outOf, stepV]
  clear hb4 hbx3 HB3 hA hbA hbN
  go_wp2_with fail
  change Calls Tryd.prog _ _ (w4.alloc (.cells (box8 fun _ => 0) 32)) _
  have hA := HB4.out.alloc HB4.out.size (.cells (box8 fun _ => 0) 32)
  have hbA := hbx4.kept (Below.heap_alloc w4 (.cells (box8 fun _ => 0) 32) _ hbx4.lt)
  have hbN := hby4.kept (Below.heap_alloc w4 (.cells (box8 fun _ => 0) 32) _ hby4.lt)
  have hs3 : (ByteArray.mk #[32] ++ ByteArray.mk l.toArray).size < 4294967281 := by
    rw [ByteArray.size_append, hsl]
    have : ByteArray.size (ByteArray.mk #[32]) = 1 := by rfl
    omega
  with_reducible refine (RD.out (ByteArray.mk #[32] ++ ByteArray.mk l.toArray) _ hs3 hA).mono ?_
  rintro e w5 ⟨rfl, hb5⟩
  rw [show (ByteArray.mk #[32] ++ ByteArray.mk l.toArray).data.toList = 32 :: l by rw [ByteArray.data_append]; simp, RA.out]
  have hbx5 := hbA.kept (hb5.block _ hbA.lt)
  have hby5 := hbN.kept (hb5.block _ hbN.lt)
  have HB5 := Lib.hid (hA.trans (hb5.mono hA.size))
  simp only [outOf, stepV]
  have r0 := (hbx5.cell 0 (by omega)).1
  have r1 := (hbx5.cell 1 (by omega)).1
  have r2 := (hbx5.cell 2 (by omega)).1
  have r3 := (hbx5.cell 3 (by omega)).1
  have r4 := (hbx5.cell 4 (by omega)).1
  have r5 := (hbx5.cell 5 (by omega)).1
  have r6 := (hbx5.cell 6 (by omega)).1
  have r7 := (hbx5.cell 7 (by omega)).1
  have s0 := (hby5.cell 0 (by omega)).1
  have s1 := (hby5.cell 1 (by omega)).1
  have s2 := (hby5.cell 2 (by omega)).1
  have s3 := (hby5.cell 3 (by omega)).1
  have s4 := (hby5.cell 4 (by omega)).1
  have s5 := (hby5.cell 5 (by omega)).1
  have s6 := (hby5.cell 6 (by omega)).1
  have s7 := (hby5.cell 7 (by omega)).1
  have hl3 : (2 : Int) < (l.length : Int) := by omega
  have hlt1 := hbx5.lt
  have hlt2 := hby5.lt
  clear hb5 hbx4 hby4 HB4 hA hbA hbN hbx5 hby5
  go_wp2_with fail
  go_ret
  exact ⟨by rfl, HB5.out.alloc HB5.out.size _⟩
end Go.Proofs.YtjnjecednkiakaaDoor.lineBack
