/- ClockLeast: the walk. -/
import Derived.Test.YtkeefpeffeoakaaClockJ
import Derived.Test.YtkeefpeffeoakaaSameI
namespace Go.Proofs.Ytkeefpeffeoakaa.clockLeast
open Go.ChangeShapes Go.WideShapes Go.ChangeAt Go.RowKit
set_option linter.unusedVariables false

theorem ckSame {w : World} {a1 a2 : Option Addr} {p1 p2 : Nat} {x y : List Int} (h1 : Ck w a1 p1 x) (h2 : Ck w a2 p2 y) (he : x = y) :
    Calls Try.prog 12 #[.slice a1 4 p1, .slice a2 4 p2] w fun e w' => e = .returned (.bool true) ∧ Below w.heap.size w w' :=
  (csameInts _ _ x y w h1.has h2.has).mono fun _ _ h => by simpa [he] using h
set_option maxRecDepth 100000 in
set_option maxHeartbeats 4000000 in
theorem walk (w : World) (v0 : Value) (x : List Int) (A0 : Has w 1 v0 x.length (ints x) ∧ ∀ u ∈ x, -9223372036854775808 ≤ u ∧ u ≤ 9223372036854775807) (v1 : Value) (y : List Int) (A1 : Has w 1 v1 y.length (ints y) ∧ ∀ u ∈ y, -9223372036854775808 ≤ u ∧ u ≤ 9223372036854775807)
    (v2 : Value) (z : List Int) (A2 : Has w 1 v2 z.length (ints z) ∧ ∀ u ∈ z, -9223372036854775808 ≤ u ∧ u ≤ 9223372036854775807) :
    Calls Try.prog 3 #[v0, v1, v2] w fun e w' => e = .returned (.bool true) ∧ Below w.heap.size w w' := by
  have h0 := Lib.hid A0.1
  have h1 := Lib.hid A1.1
  have h2 := Lib.hid A2.1
  clear A0 A1 A2
  go_enter Try.func3, Try.ntmps3
  go_wp2_with fail
  refine (cckOf v0 x w h0.out).mono ?_
  rintro e w1 ⟨aa, pa, a, rfl, Ca, hb⟩
  have HB := Lib.hid hb
  have h1' := Lib.hid (h1.out.below hb)
  have h2' := Lib.hid (h2.out.below hb)
  clear hb h0 h1 h2
  go_wp2_with fail
  refine (cckOf v1 y w1 h1'.out).mono ?_
  rintro e w2 ⟨ab, pb, b, rfl, Cb, hb⟩
  have HB2 : Hid (Below w.heap.size w w2) := HB.out.trans (hb.mono HB.out.size)
  replace Ca := Ca.on hb
  have h2 := Lib.hid (h2'.out.below hb)
  clear hb HB h1' h2'
  go_wp2_with fail
  refine (cckOf v2 z w2 h2.out).mono ?_
  rintro e w3 ⟨ac, pc, c, rfl, Cc, hb⟩
  have HB : Hid (Below w.heap.size w w3) := HB2.out.trans (hb.mono HB2.out.size)
  replace Ca := Ca.on hb
  replace Cb := Cb.on hb
  clear hb HB2 h2
  go_wp2_with fail
  refine (cckJoin Ca Cb).mono ?_
  rintro e w4 ⟨a1, p1, rfl, C1, hb⟩
  have HB2 : Hid (Below w.heap.size w w4) := HB.out.trans (hb.mono HB.out.size)
  replace Ca := Ca.on hb
  replace Cb := Cb.on hb
  replace Cc := Cc.on hb
  clear hb HB
  go_wp2_with fail
  refine (cckJoin Cb Ca).mono ?_
  rintro e w5 ⟨a2, p2, rfl, C2, hb⟩
  have HB : Hid (Below w.heap.size w w5) := HB2.out.trans (hb.mono HB2.out.size)
  replace Ca := Ca.on hb
  replace Cb := Cb.on hb
  replace Cc := Cc.on hb
  replace C1 := C1.on hb
  clear hb HB2
  go_wp2_with fail
  refine (cckJoin Cb Cc).mono ?_
  rintro e w6 ⟨a3, p3, rfl, C3, hb⟩
  have HB2 : Hid (Below w.heap.size w w6) := HB.out.trans (hb.mono HB.out.size)
  replace Ca := Ca.on hb
  replace Cb := Cb.on hb
  replace Cc := Cc.on hb
  replace C1 := C1.on hb
  replace C2 := C2.on hb
  clear hb HB
  go_wp2_with fail
  refine (ckSame C1 C2 (ckJoin_comm _ _)).mono ?_
  rintro e w7 ⟨rfl, hb⟩
  have HB : Hid (Below w.heap.size w w7) := HB2.out.trans (hb.mono HB2.out.size)
  replace Ca := Ca.on hb
  replace Cb := Cb.on hb
  replace Cc := Cc.on hb
  replace C1 := C1.on hb
  replace C3 := C3.on hb
  clear hb HB2 C2
  go_wp2_with fail
  refine (cckJoin C1 Cc).mono ?_
  rintro e w8 ⟨a4, p4, rfl, C4, hb⟩
  have HB2 : Hid (Below w.heap.size w w8) := HB.out.trans (hb.mono HB.out.size)
  replace Ca := Ca.on hb
  replace Cb := Cb.on hb
  replace Cc := Cc.on hb
  replace C1 := C1.on hb
  replace C3 := C3.on hb
  clear hb HB
  go_wp2_with fail
  refine (cckJoin Ca C3).mono ?_
  rintro e w9 ⟨a5, p5, rfl, C5, hb⟩
  have HB : Hid (Below w.heap.size w w9) := HB2.out.trans (hb.mono HB2.out.size)
  replace Ca := Ca.on hb
  replace Cb := Cb.on hb
  replace Cc := Cc.on hb
  replace C1 := C1.on hb
  replace C4 := C4.on hb
  clear hb HB2 C3
  go_wp2_with fail
  refine (cckJoin Ca Ca).mono ?_
  rintro e w10 ⟨a6, p6, rfl, C6, hb⟩
  have HB2 : Hid (Below w.heap.size w w10) := HB.out.trans (hb.mono HB.out.size)
  replace Ca := Ca.on hb
  replace Cb := Cb.on hb
  replace Cc := Cc.on hb
  replace C1 := C1.on hb
  replace C4 := C4.on hb
  replace C5 := C5.on hb
  clear hb HB
  go_wp2_with fail
  refine (ckSame C4 C5 (ckJoin_assoc _ _ _)).mono ?_
  rintro e w11 ⟨rfl, hb⟩
  have HB : Hid (Below w.heap.size w w11) := HB2.out.trans (hb.mono HB2.out.size)
  replace Ca := Ca.on hb
  replace Cb := Cb.on hb
  replace Cc := Cc.on hb
  replace C1 := C1.on hb
  replace C6 := C6.on hb
  clear hb HB2 C4 C5
  go_wp2_with fail
  refine (ckSame C6 Ca (ckJoin_self _)).mono ?_
  rintro e w12 ⟨rfl, hb⟩
  have HB2 : Hid (Below w.heap.size w w12) := HB.out.trans (hb.mono HB.out.size)
  replace Ca := Ca.on hb
  replace Cb := Cb.on hb
  replace Cc := Cc.on hb
  replace C1 := C1.on hb
  clear hb HB C6
  have Oac := Lib.hid fun X (hX : Below w12.heap.size w12 X) => ckOrder (Ca.on hX) (Cc.on hX)
  have Obc := Lib.hid fun X (hX : Below w12.heap.size w12 X) => ckOrder (Cb.on hX) (Cc.on hX)
  have Oa1 := Lib.hid fun X (hX : Below w12.heap.size w12 X) => ckOrder (Ca.on hX) (C1.on hX)
  have Ob1 := Lib.hid fun X (hX : Below w12.heap.size w12 X) => ckOrder (Cb.on hX) (C1.on hX)
  have O1c := Lib.hid fun X (hX : Below w12.heap.size w12 X) => ckOrder (C1.on hX) (Cc.on hX)
  have hl := ckOrd_joinl a b (by rw [Ca.len, Cb.len])
  have hr := ckOrd_joinr a b (by rw [Ca.len, Cb.len])
  have hj := ckOrd_join a b c (by rw [Ca.len, Cb.len]) (by rw [Cb.len, Cc.len])
  generalize ckOrd a c = oac at *
  generalize ckOrd b c = obc at *
  generalize ckOrd a (ckJoin a b) = oa1 at *
  generalize ckOrd b (ckJoin a b) = ob1 at *
  generalize ckOrd (ckJoin a b) c = o1c at *
  clear Ca Cb Cc C1
  by_cases hA : oac ≤ 0
  · by_cases hB : obc ≤ 0
    · have h1c : o1c ≤ 0 := hj.2 ⟨hA, hB⟩
      clear hj
      go_wp2_with fail
      refine (Oac.out _ (Below.refl _ _)).mono ?_
      rintro e w13 ⟨rfl, b1⟩
      go_wp2_with fail
      refine (Obc.out _ b1).mono ?_
      rintro e w14 ⟨rfl, hb⟩
      have b2 := b1.trans (hb.mono b1.size)
      clear hb b1
      go_wp2_with fail
      refine (Oa1.out _ b2).mono ?_
      rintro e w15 ⟨rfl, hb⟩
      have b3 := b2.trans (hb.mono b2.size)
      clear hb b2
      go_wp2_with fail
      refine (Ob1.out _ b3).mono ?_
      rintro e w16 ⟨rfl, hb⟩
      have b4 := b3.trans (hb.mono b3.size)
      clear hb b3
      go_wp2_with fail
      refine (O1c.out _ b4).mono ?_
      rintro e w17 ⟨rfl, hb⟩
      have b5 := b4.trans (hb.mono b4.size)
      clear hb b4
      go_wp2_with fail
      go_ret
      exact ⟨rfl, HB2.out.trans (b5.mono HB2.out.size)⟩
    · have h1c : decide (o1c ≤ 0) = false := by simp; omega
      have dB : decide (obc ≤ 0) = false := by simp; omega
      clear hj hB
      go_wp2_with fail
      refine (Oac.out _ (Below.refl _ _)).mono ?_
      rintro e w13 ⟨rfl, b1⟩
      go_wp2_with fail
      refine (Obc.out _ b1).mono ?_
      rintro e w14 ⟨rfl, hb⟩
      have b2 := b1.trans (hb.mono b1.size)
      clear hb b1
      go_wp2_with fail
      refine (Oa1.out _ b2).mono ?_
      rintro e w15 ⟨rfl, hb⟩
      have b3 := b2.trans (hb.mono b2.size)
      clear hb b2
      go_wp2_with fail
      refine (Ob1.out _ b3).mono ?_
      rintro e w16 ⟨rfl, hb⟩
      have b4 := b3.trans (hb.mono b3.size)
      clear hb b3
      go_wp2_with fail
      refine (O1c.out _ b4).mono ?_
      rintro e w17 ⟨rfl, hb⟩
      have b5 := b4.trans (hb.mono b4.size)
      clear hb b4
      go_wp2_with fail
      go_ret
      exact ⟨rfl, HB2.out.trans (b5.mono HB2.out.size)⟩
  · have h1c : decide (o1c ≤ 0) = false := by simp; omega
    have dA : decide (oac ≤ 0) = false := by simp; omega
    clear hj hA
    go_wp2_with fail
    refine (Oac.out _ (Below.refl _ _)).mono ?_
    rintro e w13 ⟨rfl, b2⟩
    go_wp2_with fail
    refine (Oa1.out _ b2).mono ?_
    rintro e w15 ⟨rfl, hb⟩
    have b3 := b2.trans (hb.mono b2.size)
    clear hb b2
    go_wp2_with fail
    refine (Ob1.out _ b3).mono ?_
    rintro e w16 ⟨rfl, hb⟩
    have b4 := b3.trans (hb.mono b3.size)
    clear hb b3
    go_wp2_with fail
    refine (O1c.out _ b4).mono ?_
    rintro e w17 ⟨rfl, hb⟩
    have b5 := b4.trans (hb.mono b4.size)
    clear hb b4
    go_wp2_with fail
    go_ret
    exact ⟨rfl, HB2.out.trans (b5.mono HB2.out.size)⟩
end Go.Proofs.Ytkeefpeffeoakaa.clockLeast
