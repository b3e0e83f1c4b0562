/- LineFixed: the walk. -/
import Derived.Test.YtjnjecednkiakaaDoorLineL
import Derived.Test.YtjnjecednkiakaaDoorDeskV
import Derived.Test.YtjnjecednkiakaaDoorDeskS
namespace Go.Proofs.YtjnjecednkiakaaDoor.lineFixed
open Go.ChangeShapes Go.WideShapes Go.ChangeAt Go.RowKit
set_option linter.unusedVariables false
set_option linter.unusedSimpArgs false

set_option maxRecDepth 100000 in
set_option maxHeartbeats 8000000 in
theorem walk (w : World) (hL : LibVars w) (s : ByteArray) (hs : s.size < 4294967281) :
    Calls Tryd.prog 5 #[.string s] w fun e w' => e = .returned (.bool true) ∧ Below w.heap.size w w' := by
  have RD : Hid (∀ (s : ByteArray) X, s.size < 4294967281 → Below w.heap.size w X → Calls Tryd.prog 12 #[.string s] X fun e w' => e = .returned (outOf (readM s.data.toList)) ∧ Below X.heap.size X w') := fun s X hs hX => cRead s hs X (hL.below hX)
  have HL := Lib.hid hL
  have CR := Lib.hid (RD.out s w hs (Below.refl _ _))
  obtain ⟨g, hg1, hg0, hg3, hg4⟩ := hold_line
  have HG1 := Lib.hid hg1
  clear hL hs hg1
  go_enter Tryd.func5, Tryd.ntmps5
  cases hr : readM s.data.toList with
  | none =>
    rw [hr] at CR
    have hq := fun X => eq_step (fun _ => 0) X
    simp only [stepV] at hq
    clear hr
    go_wp2_with fail
    refine CR.out.mono ?_
    rintro e w1 ⟨rfl, hb1⟩
    have HB1 := Lib.hid hb1
    simp only [outOf, stepV]
    clear CR hb1
    go_wp2_with fail
    change Calls Tryd.prog _ _ (w1.alloc (.cells (box8 fun _ => 0) 32)) _
    have hA := HB1.out.alloc HB1.out.size (.cells (box8 fun _ => 0) 32)
    have hbN : Box (w1.alloc (.cells (box8 fun _ => 0) 32)) w1.heap.size (fun _ => 0) := heap_alloc_new _ _
    with_reducible refine (RD.out (ByteArray.mk #[104, 111, 108, 100, 32, 49, 32, 48, 32, 45, 55, 32, 51]) _ (by decide) hA).mono ?_
    rintro e w2 ⟨rfl, hb2⟩
    rw [show (ByteArray.mk #[104, 111, 108, 100, 32, 49, 32, 48, 32, 45, 55, 32, 51]).data.toList = [104, 111, 108, 100, 32, 49, 32, 48, 32, 45, 55, 32, 51] from rfl, HG1.out]
    have hbx2 := hbN.kept (hb2.block _ hbN.lt)
    have HB2 := Lib.hid (hA.trans (hb2.mono hA.size))
    simp only [outOf, stepV, hg0, hg3, hg4]
    clear hb2 hA hbN
    have hlt1 := hbx2.lt
    have s0 := (hbx2.cell 0 (by omega)).1
    have s1 := (hbx2.cell 1 (by omega)).1
    have s2 := (hbx2.cell 2 (by omega)).1
    have s3 := (hbx2.cell 3 (by omega)).1
    have s4 := (hbx2.cell 4 (by omega)).1
    have s5 := (hbx2.cell 5 (by omega)).1
    have s6 := (hbx2.cell 6 (by omega)).1
    have s7 := (hbx2.cell 7 (by omega)).1
    clear hbx2
    go_wp2_with fail
    go_ret
    exact ⟨by rfl, HB2.out.alloc HB2.out.size _⟩
  | some f =>
    obtain ⟨x, hx, h00, hst, hz, hln⟩ := read_shown _ f hr
    rw [hr] at CR
    have hbs : ByteArray.mk (lineP f (wordOf x, offsOf x)).toArray = s := by rw [hln]
    have SH : Hid (∀ X, Below w.heap.size w X → Calls Tryd.prog 11 #[stepV f] X fun e w' => e = .returned (.tuple #[.string s, .int .i64 0]) ∧ Below X.heap.size X w') := fun X hX => by
      have := cShow x hx f h00 hst hz X (HL.out.below hX).words (HL.out.below hX).tab
      rw [hbs] at this
      exact this
    clear hr hbs hln hz hst h00 hx
    go_wp2_with fail
    refine CR.out.mono ?_
    rintro e w1 ⟨rfl, hb1⟩
    have HB1 := Lib.hid hb1
    simp only [outOf, stepV]
    clear CR hb1
    go_wp2_with fail
    change Calls Tryd.prog _ _ (w1.alloc (.cells (box8 f) 32)) _
    have hA := HB1.out.alloc HB1.out.size (.cells (box8 f) 32)
    have hbN : Box (w1.alloc (.cells (box8 f) 32)) w1.heap.size f := heap_alloc_new _ _
    with_reducible refine (RD.out (ByteArray.mk #[104, 111, 108, 100, 32, 49, 32, 48, 32, 45, 55, 32, 51]) _ (by decide) hA).mono ?_
    rintro e w2 ⟨rfl, hb2⟩
    rw [show (ByteArray.mk #[104, 111, 108, 100, 32, 49, 32, 48, 32, 45, 55, 32, 51]).data.toList = [104, 111, 108, 100, 32, 49, 32, 48, 32, 45, 55, 32, 51] from rfl, HG1.out]
    have hbx2 := hbN.kept (hb2.block _ hbN.lt)
    have HB2 := Lib.hid (hA.trans (hb2.mono hA.size))
    simp only [outOf, stepV, hg0, hg3, hg4]
    clear hb2 hA hbN
    have hlt1 := hbx2.lt
    have s0 := (hbx2.cell 0 (by omega)).1
    have s1 := (hbx2.cell 1 (by omega)).1
    have s2 := (hbx2.cell 2 (by omega)).1
    have s3 := (hbx2.cell 3 (by omega)).1
    have s4 := (hbx2.cell 4 (by omega)).1
    have s5 := (hbx2.cell 5 (by omega)).1
    have s6 := (hbx2.cell 6 (by omega)).1
    have s7 := (hbx2.cell 7 (by omega)).1
    clear hbx2
    go_wp2_with fail
    change Calls Tryd.prog _ #[stepV f] _ _
    refine (SH.out _ (HB2.out.alloc HB2.out.size _)).mono ?_
    rintro e w3 ⟨rfl, hb3⟩
    have HB3 := Lib.hid ((HB2.out.alloc HB2.out.size _).trans (hb3.mono (by have := HB2.out.size; simp; omega)))
    clear hb3
    go_wp2_with fail
    go_ret
    exact ⟨by rfl, HB3.out⟩
end Go.Proofs.YtjnjecednkiakaaDoor.lineFixed
