/- ClockOrder: the walk. -/
import Derived.Test.YtjinbcbpaoophaaClockB
import Derived.Test.YtjinbcbpaoophaaClockC
namespace Go.Proofs.Ytjinbcbpaoophaa.clockOrder
open Go.ChangeShapes Go.WideShapes Go.ChangeAt Go.RowKit
set_option linter.unusedVariables false

theorem order_at {f : Nat} {args : Array Value} {v : Value} {w0 X : World} {Q : Ending → World → Prop} (C : ∀ X, Below w0.heap.size w0 X → Calls Try.prog f args X fun e w' => e = .returned v ∧ Below X.heap.size X w') (hX : Below w0.heap.size w0 X)
    (h : ∀ w', Below w0.heap.size w0 w' → Q (.returned v) w') : Calls Try.prog f args X Q :=
  (C X hX).mono fun _ _ ⟨h1, h2⟩ => by subst h1; exact h _ (hX.trans (h2.mono hX.size))
theorem order_at' {f : Nat} {args : Array Value} {v : Value} {w0 X : World} {Q : Ending → World → Prop} (C : ∀ X, Below w0.heap.size w0 X → Calls Try.prog f args X fun e w' => e = .returned v ∧ X = w') (hX : Below w0.heap.size w0 X)
    (h : Q (.returned v) X) : Calls Try.prog f args X Q :=
  (C X hX).mono fun _ _ ⟨h1, h2⟩ => by subst h1; subst h2; exact h
set_option maxRecDepth 100000 in
set_option maxHeartbeats 2000000 in
theorem walk (w : World) (v0 : Value) (x : List Int) (A0 : Has w 1 v0 x.length (ints x) ∧ ∀ u ∈ x, -9223372036854775808 ≤ u ∧ u ≤ 9223372036854775807) (v1 : Value) (y : List Int) (A1 : Has w 1 v1 y.length (ints y) ∧ ∀ u ∈ y, -9223372036854775808 ≤ u ∧ u ≤ 9223372036854775807)
    (v2 : Value) (z : List Int) (A2 : Has w 1 v2 z.length (ints z) ∧ ∀ u ∈ z, -9223372036854775808 ≤ u ∧ u ≤ 9223372036854775807) :
    Calls Try.prog 10 #[v0, v1, v2] w fun e w' => e = .returned (.bool true) ∧ Below w.heap.size w w' := by
  have h0 := Lib.hid A0.1
  have h1 := Lib.hid A1.1
  have h2 := Lib.hid A2.1
  clear A0 A1 A2
  go_enter Try.func10, Try.ntmps10
  go_wp2_with fail
  refine (cclockOf v0 x w h0.out).mono ?_
  rintro e w1 ⟨va, a, rfl, la, ba, oa, hb1⟩
  have Oa := Lib.hid (show Has w1 1 va a.length (ints a) from la ▸ Has.of_owns oa)
  have Ba := Lib.hid (show ckOk a from fun u hu => by have := ba u hu; omega)
  have Hb1 := Lib.hid hb1
  have h1' := Lib.hid (h1.out.below hb1)
  have h2' := Lib.hid (h2.out.below hb1)
  obtain ⟨ga, ca, rfl, -⟩ := owns_some oa (by omega)
  clear ba oa hb1 h0 h1 h2
  go_wp2_with fail
  refine (cclockOf v1 y w1 h1'.out).mono ?_
  rintro e w2 ⟨vb, b, rfl, lb, bb, ob, hb2⟩
  have Ob := Lib.hid (show Has w2 1 vb b.length (ints b) from lb ▸ Has.of_owns ob)
  have Bb := Lib.hid (show ckOk b from fun u hu => by have := bb u hu; omega)
  have Hb2 : Hid (Below w.heap.size w w2) := Hb1.out.trans (hb2.mono Hb1.out.size)
  have Oa2 := Lib.hid (Oa.out.below hb2)
  have h2'' := Lib.hid (h2'.out.below hb2)
  obtain ⟨gb, cb, rfl, -⟩ := owns_some ob (by omega)
  clear bb ob hb2 h1' h2' Oa Hb1
  go_wp2_with fail
  refine (cclockOf v2 z w2 h2''.out).mono ?_
  rintro e w3 ⟨vc, c, rfl, lc, bc, oc, hb3⟩
  have Oc := Lib.hid (show Has w3 1 vc c.length (ints c) from lc ▸ Has.of_owns oc)
  have Bc := Lib.hid (show ckOk c from fun u hu => by have := bc u hu; omega)
  have Hb3 : Hid (Below w.heap.size w w3) := Hb2.out.trans (hb3.mono Hb2.out.size)
  have Oa3 := Lib.hid (Oa2.out.below hb3)
  have Ob3 := Lib.hid (Ob.out.below hb3)
  obtain ⟨gc, cc, rfl, -⟩ := owns_some oc (by omega)
  clear bc oc hb3 h2'' Oa2 Ob Hb2
  have Cab := Lib.hid fun X (hX : Below w3.heap.size w3 X) => corder _ _ a b X (Oa3.out.below hX) (Ob3.out.below hX) Ba.out Bb.out (by omega) (by omega) (by omega)
  have Cba := Lib.hid fun X (hX : Below w3.heap.size w3 X) => corder _ _ b a X (Ob3.out.below hX) (Oa3.out.below hX) Bb.out Ba.out (by omega) (by omega) (by omega)
  have Caa := Lib.hid fun X (hX : Below w3.heap.size w3 X) => corder _ _ a a X (Oa3.out.below hX) (Oa3.out.below hX) Ba.out Ba.out rfl (by omega) (by omega)
  have Cbc := Lib.hid fun X (hX : Below w3.heap.size w3 X) => corder _ _ b c X (Ob3.out.below hX) (Oc.out.below hX) Bb.out Bc.out (by omega) (by omega) (by omega)
  have Cac := Lib.hid fun X (hX : Below w3.heap.size w3 X) => corder _ _ a c X (Oa3.out.below hX) (Oc.out.below hX) Ba.out Bc.out (by omega) (by omega) (by omega)
  have Cm := Lib.hid fun X (hX : Below w3.heap.size w3 X) => cckMay _ a X (Oa3.out.below hX) Ba.out (by omega) (by omega)
  have Cs := Lib.hid fun X (hX : Below w3.heap.size w3 X) => csameInts _ _ a b X (Oa3.out.below hX) (Ob3.out.below hX)
  have Tr := Lib.hid (ckOrd_trans a b c (by omega) (by omega))
  have Cases := ckOrd_cases a b (by omega)
  have saa := ckOrd_self a
  rw [saa] at Caa
  clear saa Oa3 Ob3 Oc Ba Bb Bc la lb lc
  obtain ⟨dab, hdab⟩ : ∃ d, decide (a = b) = d := ⟨_, rfl⟩
  rw [hdab] at Cs
  obtain ⟨oab, hoab⟩ : ∃ o, ckOrd a b = o := ⟨_, rfl⟩
  obtain ⟨oba, hoba⟩ : ∃ o, ckOrd b a = o := ⟨_, rfl⟩
  obtain ⟨obc, hobc⟩ : ∃ o, ckOrd b c = o := ⟨_, rfl⟩
  obtain ⟨oac, hoac⟩ : ∃ o, ckOrd a c = o := ⟨_, rfl⟩
  rw [hoab] at Cab Cases
  rw [hoba] at Cba Cases
  rw [hobc] at Cbc
  rw [hoac] at Cac
  have Tr' : Hid (oab = -1 → obc = -1 → oac = -1) := fun p q => by rw [← hoac]; exact Tr.out (hoab.trans p) (hobc.trans q)
  have Cases' : (oab = -1 ∧ oba = 1 ∧ dab = false) ∨ (oab = 0 ∧ oba = 0 ∧ dab = true) ∨ (oab = 1 ∧ oba = -1 ∧ dab = false) ∨ (oab = 2 ∧ oba = 2 ∧ dab = false) := by
    rw [← hdab]; simpa using Cases
  clear Cases Tr hdab hoab hoba hobc hoac
  have hX0 : Below w3.heap.size w3 w3 := Below.refl _ _
  go_wp2_with fail
  rcases Cases' with ⟨rfl, rfl, rfl⟩ | ⟨rfl, rfl, rfl⟩ | ⟨rfl, rfl, rfl⟩ | ⟨rfl, rfl, rfl⟩
  · by_cases hbc : obc = -1
    · obtain rfl := hbc
      obtain rfl := Tr'.out rfl rfl
      clear Tr'
      with_reducible refine order_at (Cab.out) (by assumption) ?_
      intro w4 hX
      go_wp2_with fail
      with_reducible refine order_at (Cba.out) (by assumption) ?_
      intro w4 hX
      go_wp2_with fail
      with_reducible refine order_at' (Cm.out) (by assumption) ?_
      go_wp2_with fail
      with_reducible refine order_at (Caa.out) (by assumption) ?_
      intro w4 hX
      go_wp2_with fail
      with_reducible refine order_at (Cs.out) (by assumption) ?_
      intro w4 hX
      go_wp2_with fail
      with_reducible refine order_at (Cbc.out) (by assumption) ?_
      intro w4 hX
      go_wp2_with fail
      with_reducible refine order_at (Cac.out) (by assumption) ?_
      intro w4 hX
      go_wp2_with fail
      go_ret
      exact ⟨rfl, Hb3.out.trans (Below.mono (by assumption) Hb3.out.size)⟩
    · have dbc : (obc == -1) = false := by simpa using hbc
      clear Tr'
      with_reducible refine order_at (Cab.out) (by assumption) ?_
      intro w4 hX
      go_wp2_with fail
      with_reducible refine order_at (Cba.out) (by assumption) ?_
      intro w4 hX
      go_wp2_with fail
      with_reducible refine order_at' (Cm.out) (by assumption) ?_
      go_wp2_with fail
      with_reducible refine order_at (Caa.out) (by assumption) ?_
      intro w4 hX
      go_wp2_with fail
      with_reducible refine order_at (Cs.out) (by assumption) ?_
      intro w4 hX
      go_wp2_with fail
      with_reducible refine order_at (Cbc.out) (by assumption) ?_
      intro w4 hX
      go_wp2_with fail
      go_ret
      exact ⟨rfl, Hb3.out.trans (Below.mono (by assumption) Hb3.out.size)⟩
  · with_reducible refine order_at (Cab.out) (by assumption) ?_
    intro w4 hX
    go_wp2_with fail
    with_reducible refine order_at (Cba.out) (by assumption) ?_
    intro w4 hX
    go_wp2_with fail
    with_reducible refine order_at' (Cm.out) (by assumption) ?_
    go_wp2_with fail
    with_reducible refine order_at (Caa.out) (by assumption) ?_
    intro w4 hX
    go_wp2_with fail
    with_reducible refine order_at (Cs.out) (by assumption) ?_
    intro w4 hX
    go_wp2_with fail
    go_ret
    exact ⟨rfl, Hb3.out.trans (Below.mono (by assumption) Hb3.out.size)⟩
  · with_reducible refine order_at (Cab.out) (by assumption) ?_
    intro w4 hX
    go_wp2_with fail
    with_reducible refine order_at (Cba.out) (by assumption) ?_
    intro w4 hX
    go_wp2_with fail
    with_reducible refine order_at' (Cm.out) (by assumption) ?_
    go_wp2_with fail
    with_reducible refine order_at (Caa.out) (by assumption) ?_
    intro w4 hX
    go_wp2_with fail
    with_reducible refine order_at (Cs.out) (by assumption) ?_
    intro w4 hX
    go_wp2_with fail
    go_ret
    exact ⟨rfl, Hb3.out.trans (Below.mono (by assumption) Hb3.out.size)⟩
  · with_reducible refine order_at (Cab.out) (by assumption) ?_
    intro w4 hX
    go_wp2_with fail
    with_reducible refine order_at (Cba.out) (by assumption) ?_
    intro w4 hX
    go_wp2_with fail
    with_reducible refine order_at' (Cm.out) (by assumption) ?_
    go_wp2_with fail
    with_reducible refine order_at (Caa.out) (by assumption) ?_
    intro w4 hX
    go_wp2_with fail
    with_reducible refine order_at (Cs.out) (by assumption) ?_
    intro w4 hX
    go_wp2_with fail
    go_ret
    exact ⟨rfl, Hb3.out.trans (Below.mono (by assumption) Hb3.out.size)⟩
end Go.Proofs.Ytjinbcbpaoophaa.clockOrder
