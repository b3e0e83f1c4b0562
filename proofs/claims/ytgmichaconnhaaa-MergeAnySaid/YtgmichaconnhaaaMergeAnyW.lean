/- MergeAny: the walk. -/
import Derived.Test.YtgmichaconnhaaaEnts
namespace Go.Proofs.Ytgmichaconnhaaa.mergeAny
open Go.ChangeShapes Go.WideShapes Go.ChangeAt Go.RowKit
set_option linter.unusedVariables false
set_option linter.unusedSimpArgs false

/-- A row of entries that may be read from here on. -/
def Row (w : World) (v : Value) (l : List Ent) : Prop := Has w 5 v l.length (ents l)
theorem Row.on {w w' : World} {v : Value} {l : List Ent} (h : Row w v l) (hb : Below w.heap.size w w') : Row w' v l := Has.below h hb
set_option maxRecDepth 100000 in
set_option maxHeartbeats 8000000 in
theorem walk (w : World) (v0 : Value) (l : List Ent) (A0 : Has w 5 v0 l.length (ents l)) (v1 : Value) (m : List Ent) (A1 : Has w 5 v1 m.length (ents m)) (v2 : Value) (n : List Ent) (A2 : Has w 5 v2 n.length (ents n)) :
    Calls Try.prog 12 #[v0, v1, v2] w fun e w' => e = .returned (.bool true) ∧ Below w.heap.size w w' := by
  have H1 := Lib.hid A1
  have H2 := Lib.hid A2
  have C0 := Lib.hid (centriesOf v0 l w A0)
  have sa := entsOf_six l
  have sb := entsOf_six m
  have sc := entsOf_six n
  have CE1 := Lib.hid fun X (hX : Below w.heap.size w X) => centriesOf v1 m X (H1.out.below hX)
  have CE2 := Lib.hid fun X (hX : Below w.heap.size w X) => centriesOf v2 n X (H2.out.below hX)
  generalize entsOf l = a at *
  generalize entsOf m = b at *
  generalize entsOf n = c at *
  have Sa := Lib.hid sa
  have Sb := Lib.hid sb
  have Sc := Lib.hid sc
  have sab := sa.merge sb
  have Sab := Lib.hid sab
  have Sbc := Lib.hid (sb.merge sc)
  have K := Lib.hid fun (X : World) (p q : Value) (x y : List Ent) (hx : Row X p x) (hy : Row X q y) (sx : SixL x) (sy : SixL y) => ckmerge p q x y X hx hy sx sy
  have E1 := Lib.hid (mergeL_comm sb.may sa.may)
  have E2 := Lib.hid (mergeL_assoc sa.may sb.may sc.may)
  have E3 := Lib.hid (mergeL_idem sa.may)
  have E4 := Lib.hid (mergeL_absorb sa.may sb.may)
  clear A0 A1 A2 H1 H2 sa sb sc sab
  go_enter Try.func12, Try.ntmps12
  go_wp2_with fail
  refine C0.out.mono ?_
  rintro e w1 ⟨va, rfl, hown, hb1⟩
  obtain ⟨aa, ca, rfl⟩ := owns_slice hown
  have Ra : Hid (Row w1 (.slice aa a.length ca) a) := Has.of_owns hown
  have B1 := Lib.hid hb1
  clear hown hb1 C0
  go_wp2_with fail
  refine (CE1.out w1 B1.out).mono ?_
  rintro e w2 ⟨vb, rfl, hown, hb2⟩
  obtain ⟨ab, cb, rfl⟩ := owns_slice hown
  have Rb : Hid (Row w2 (.slice ab b.length cb) b) := Has.of_owns hown
  have Ra2 : Hid (Row w2 (.slice aa a.length ca) a) := Ra.out.on hb2
  have B2 : Hid (Below w.heap.size w w2) := B1.out.trans (hb2.mono B1.out.size)
  clear hown hb2 CE1 Ra B1
  go_wp2_with fail
  refine (CE2.out w2 B2.out).mono ?_
  rintro e w3 ⟨vc, rfl, hown, hb3⟩
  obtain ⟨ac, cc, rfl⟩ := owns_slice hown
  have Rc : Hid (Row w3 (.slice ac c.length cc) c) := Has.of_owns hown
  have Ra3 : Hid (Row w3 (.slice aa a.length ca) a) := Ra2.out.on hb3
  have Rb3 : Hid (Row w3 (.slice ab b.length cb) b) := Rb.out.on hb3
  have B3 : Hid (Below w.heap.size w w3) := B2.out.trans (hb3.mono B2.out.size)
  clear hown hb3 CE2 Ra2 Rb B2
  go_wp2_with fail
  refine (K.out w3 _ _ a b Ra3.out Rb3.out Sa.out Sb.out).mono ?_
  rintro e w4 ⟨vab, rfl, hown, hb4⟩
  obtain ⟨aab, cab, rfl⟩ := owns_slice hown
  have Rab : Hid (Row w4 (.slice aab (mergeL a b).length cab) (mergeL a b)) := Has.of_owns hown
  have Ra4 : Hid (Row w4 (.slice aa a.length ca) a) := Ra3.out.on hb4
  have Rb4 : Hid (Row w4 (.slice ab b.length cb) b) := Rb3.out.on hb4
  have Rc4 : Hid (Row w4 (.slice ac c.length cc) c) := Rc.out.on hb4
  have B4 : Hid (Below w.heap.size w w4) := B3.out.trans (hb4.mono B3.out.size)
  clear hown hb4 Ra3 Rb3 Rc B3
  go_wp2_with fail
  refine (cmay _ (mergeL a b) w4 Rab.out Sab.out.may (by have := Sab.out.len; omega)).mono ?_
  rintro e w5 ⟨rfl, hb5⟩
  have Rab5 : Hid (Row w5 (.slice aab (mergeL a b).length cab) (mergeL a b)) := Rab.out.on hb5
  have Ra5 : Hid (Row w5 (.slice aa a.length ca) a) := Ra4.out.on hb5
  have Rb5 : Hid (Row w5 (.slice ab b.length cb) b) := Rb4.out.on hb5
  have Rc5 : Hid (Row w5 (.slice ac c.length cc) c) := Rc4.out.on hb5
  have B5 : Hid (Below w.heap.size w w5) := B4.out.trans (hb5.mono B4.out.size)
  clear hb5 Rab Ra4 Rb4 Rc4 B4
  go_wp2_with fail
  refine (K.out w5 _ _ b a Rb5.out Ra5.out Sb.out Sa.out).mono ?_
  rintro e w6 ⟨vba, rfl, hown, hb6⟩
  rw [E1.out] at hown
  have Rba : Hid (Row w6 vba (mergeL a b)) := Has.of_owns hown
  have Rab6 : Hid (Row w6 (.slice aab (mergeL a b).length cab) (mergeL a b)) := Rab5.out.on hb6
  have Ra6 : Hid (Row w6 (.slice aa a.length ca) a) := Ra5.out.on hb6
  have Rb6 : Hid (Row w6 (.slice ab b.length cb) b) := Rb5.out.on hb6
  have Rc6 : Hid (Row w6 (.slice ac c.length cc) c) := Rc5.out.on hb6
  have B6 : Hid (Below w.heap.size w w6) := B5.out.trans (hb6.mono B5.out.size)
  clear hown hb6 Rab5 Ra5 Rb5 Rc5 B5
  go_wp2_with fail
  refine (csameEntries _ _ (mergeL a b) w6 Rab6.out Rba.out).mono ?_
  rintro e w7 ⟨rfl, hb7⟩
  have Rab7 : Hid (Row w7 (.slice aab (mergeL a b).length cab) (mergeL a b)) := Rab6.out.on hb7
  have Ra7 : Hid (Row w7 (.slice aa a.length ca) a) := Ra6.out.on hb7
  have Rb7 : Hid (Row w7 (.slice ab b.length cb) b) := Rb6.out.on hb7
  have Rc7 : Hid (Row w7 (.slice ac c.length cc) c) := Rc6.out.on hb7
  have B7 : Hid (Below w.heap.size w w7) := B6.out.trans (hb7.mono B6.out.size)
  clear hb7 Rab6 Ra6 Rb6 Rc6 B6 Rba
  go_wp2_with fail
  refine (K.out w7 _ _ (mergeL a b) c Rab7.out Rc7.out Sab.out Sc.out).mono ?_
  rintro e w8 ⟨vx, rfl, hown, hb8⟩
  rw [E2.out] at hown
  have Rx : Hid (Row w8 vx (mergeL a (mergeL b c))) := Has.of_owns hown
  have Rab8 : Hid (Row w8 (.slice aab (mergeL a b).length cab) (mergeL a b)) := Rab7.out.on hb8
  have Ra8 : Hid (Row w8 (.slice aa a.length ca) a) := Ra7.out.on hb8
  have Rb8 : Hid (Row w8 (.slice ab b.length cb) b) := Rb7.out.on hb8
  have Rc8 : Hid (Row w8 (.slice ac c.length cc) c) := Rc7.out.on hb8
  have B8 : Hid (Below w.heap.size w w8) := B7.out.trans (hb8.mono B7.out.size)
  clear hown hb8 Rab7 Ra7 Rb7 Rc7 B7
  go_wp2_with fail
  refine (K.out w8 _ _ b c Rb8.out Rc8.out Sb.out Sc.out).mono ?_
  rintro e w9 ⟨vy, rfl, hown, hb9⟩
  have Ry : Hid (Row w9 vy (mergeL b c)) := Has.of_owns hown
  have Rx9 := Lib.hid (Rx.out.on hb9)
  have Rab9 : Hid (Row w9 (.slice aab (mergeL a b).length cab) (mergeL a b)) := Rab8.out.on hb9
  have Ra9 : Hid (Row w9 (.slice aa a.length ca) a) := Ra8.out.on hb9
  have Rb9 : Hid (Row w9 (.slice ab b.length cb) b) := Rb8.out.on hb9
  have B9 : Hid (Below w.heap.size w w9) := B8.out.trans (hb9.mono B8.out.size)
  clear hown hb9 Rab8 Ra8 Rb8 Rc8 B8 Rx
  go_wp2_with fail
  refine (K.out w9 _ _ a (mergeL b c) Ra9.out Ry.out Sa.out Sbc.out).mono ?_
  rintro e w10 ⟨vz, rfl, hown, hb10⟩
  have Rz : Hid (Row w10 vz (mergeL a (mergeL b c))) := Has.of_owns hown
  have Rx10 := Lib.hid (Rx9.out.on hb10)
  have Rab10 : Hid (Row w10 (.slice aab (mergeL a b).length cab) (mergeL a b)) := Rab9.out.on hb10
  have Ra10 : Hid (Row w10 (.slice aa a.length ca) a) := Ra9.out.on hb10
  have Rb10 : Hid (Row w10 (.slice ab b.length cb) b) := Rb9.out.on hb10
  have B10 : Hid (Below w.heap.size w w10) := B9.out.trans (hb10.mono B9.out.size)
  clear hown hb10 Rab9 Ra9 Rb9 B9 Rx9 Ry
  go_wp2_with fail
  refine (csameEntries _ _ _ w10 Rx10.out Rz.out).mono ?_
  rintro e w11 ⟨rfl, hb11⟩
  have Rab11 : Hid (Row w11 (.slice aab (mergeL a b).length cab) (mergeL a b)) := Rab10.out.on hb11
  have Ra11 : Hid (Row w11 (.slice aa a.length ca) a) := Ra10.out.on hb11
  have Rb11 : Hid (Row w11 (.slice ab b.length cb) b) := Rb10.out.on hb11
  have B11 : Hid (Below w.heap.size w w11) := B10.out.trans (hb11.mono B10.out.size)
  clear hb11 Rab10 Ra10 Rb10 B10 Rx10 Rz
  go_wp2_with fail
  refine (K.out w11 _ _ a a Ra11.out Ra11.out Sa.out Sa.out).mono ?_
  rintro e w12 ⟨vaa, rfl, hown, hb12⟩
  rw [E3.out] at hown
  have Raa : Hid (Row w12 vaa a) := Has.of_owns hown
  have Rab12 : Hid (Row w12 (.slice aab (mergeL a b).length cab) (mergeL a b)) := Rab11.out.on hb12
  have Ra12 : Hid (Row w12 (.slice aa a.length ca) a) := Ra11.out.on hb12
  have Rb12 : Hid (Row w12 (.slice ab b.length cb) b) := Rb11.out.on hb12
  have B12 : Hid (Below w.heap.size w w12) := B11.out.trans (hb12.mono B11.out.size)
  clear hown hb12 Rab11 Ra11 Rb11 B11
  go_wp2_with fail
  refine (csameEntries _ _ a w12 Raa.out Ra12.out).mono ?_
  rintro e w13 ⟨rfl, hb13⟩
  have Rab13 : Hid (Row w13 (.slice aab (mergeL a b).length cab) (mergeL a b)) := Rab12.out.on hb13
  have Rb13 : Hid (Row w13 (.slice ab b.length cb) b) := Rb12.out.on hb13
  have B13 : Hid (Below w.heap.size w w13) := B12.out.trans (hb13.mono B12.out.size)
  clear hb13 Rab12 Ra12 Rb12 B12 Raa
  go_wp2_with fail
  refine (K.out w13 _ _ (mergeL a b) b Rab13.out Rb13.out Sab.out Sb.out).mono ?_
  rintro e w14 ⟨vq, rfl, hown, hb14⟩
  rw [E4.out] at hown
  have Rq : Hid (Row w14 vq (mergeL a b)) := Has.of_owns hown
  have Rab14 : Hid (Row w14 (.slice aab (mergeL a b).length cab) (mergeL a b)) := Rab13.out.on hb14
  have B14 : Hid (Below w.heap.size w w14) := B13.out.trans (hb14.mono B13.out.size)
  clear hown hb14 Rab13 Rb13 B13
  go_wp2_with fail
  refine (csameEntries _ _ _ w14 Rq.out Rab14.out).mono ?_
  rintro e w15 ⟨rfl, hb15⟩
  have B15 : Hid (Below w.heap.size w w15) := B14.out.trans (hb15.mono B14.out.size)
  clear hb15 Rab14 B14 Rq
  go_wp2_with fail
  go_ret
  exact ⟨rfl, B15.out⟩
end Go.Proofs.Ytgmichaconnhaaa.mergeAny
