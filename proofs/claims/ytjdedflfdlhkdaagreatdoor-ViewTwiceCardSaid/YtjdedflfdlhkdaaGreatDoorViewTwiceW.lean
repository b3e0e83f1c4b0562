/- ViewTwice: the walk. -/
import Derived.Deep.RegionHeld3
import Derived.Test.YtjdedflfdlhkdaaGreatDoorViewOf
import Derived.Test.YtjdedflfdlhkdaaGreatDoorWBd
import Derived.Test.YtjdedflfdlhkdaaGreatDoorWSure
namespace Go.Proofs.YtjdedflfdlhkdaaGreatDoor.viewTwice
open Go.ChangeShapes Go.WideShapes Go.ChangeAt Go.RowKit
set_option linter.unusedVariables false
set_option linter.unusedSimpArgs false

theorem i64_and16 : ∀ (x y : Nat), x < 16 → y < 16 → bits BinOp.and IntKind.i64 (x : Int) (y : Int) = ((x &&& y : Nat) : Int) := by
  have h : ∀ x : Fin 16, ∀ y : Fin 16, bits BinOp.and IntKind.i64 ((x.val : Nat) : Int) ((y.val : Nat) : Int) = ((x.val &&& y.val : Nat) : Int) := by decide
  exact fun x y hx hy => h ⟨x, hx⟩ ⟨y, hy⟩
set_option maxRecDepth 100000 in
set_option maxHeartbeats 8000000 in
theorem walk (w : World) (hL : OrdVar w) (v0 : Value) (ls : List Int) (A0 : Has w 1 v0 ls.length (ints ls) ∧ ∀ x ∈ ls, -9223372036854775808 ≤ x ∧ x ≤ 9223372036854775807) (v1 : Value) (l : List Stp) (A1 : Has w 8 v1 l.length (stps l)) (a2 a3 : Int)
    (wf2 : (Lit.int .i64 a2).wf = true) (wf3 : (Lit.int .i64 a3).wf = true) :
    Calls Tryz.prog 7 #[v0, v1, .int .i64 a2, .int .i64 a3] w fun e w' => e = .returned (.bool true) ∧ Below w.heap.size w w' := by
  have C0 := Lib.hid (cConfigR hL 1 99 5 A0.1 (by decide))
  have H4 := Lib.hid A1
  have Hok := Lib.hid (cfgOf_ok ls 1 99 5)
  have hn4 : Hid ((cfgOf ls 1 99 5).n = 4) := (rfl : _ = _)
  generalize cfgOf ls 1 99 5 = c at *
  obtain ⟨_, q1, r1, rfl, _, _, _⟩ := A1
  have P2 := Lib.hid fun X => picked a2 16 (by omega) (by omega) X
  have P3 := Lib.hid fun X => picked a3 16 (by omega) (by omega) X
  have hx := (pn_eq a2 16 (by omega)).2
  have hy := (pn_eq a3 16 (by omega)).2
  rw [← (pn_eq a2 16 (by omega)).1] at P2
  rw [← (pn_eq a3 16 (by omega)).1] at P3
  generalize pn a2 16 = x at *
  generalize pn a3 16 = y at *
  replace hx : x < 16 := by omega
  replace hy : y < 16 := by omega
  have hS : (stepsOf (l.take 60)).length ≤ 60 := by rw [stepsOf_len, List.length_take]; omega
  clear A0 wf2 wf3 hL
  unfold Cfg.cells at C0
  go_enter Tryz.func7, Tryz.ntmps7
  go_wp2_with fail
  refine C0.out.mono ?_
  rintro e w1 ⟨gl, cl, gm, rfl, hR, hb1⟩
  have hbx := cfg_box w1 c (.slice (some ⟨gl, 0, none⟩) 3 cl) (.slice (some ⟨gm, 0, none⟩) 2 2)
  obtain ⟨x0, x1, x2, x3, x4⟩ := cfg_at (heap_alloc_new w1 (.cells (c.cells (.slice (some ⟨gl, 0, none⟩) 3 cl) (.slice (some ⟨gm, 0, none⟩) 2 2)) 25))
  have HR := Lib.hid (hR.on hbx)
  have hb2 := hb1.trans (hbx.mono hb1.size)
  have CS := Lib.hid (fun (Y : World) (hY : Below (w1.alloc (.cells (c.cells (.slice (some ⟨gl, 0, none⟩) 3 cl) (.slice (some ⟨gm, 0, none⟩) 2 2)) 25)).heap.size (w1.alloc (.cells (c.cells (.slice (some ⟨gl, 0, none⟩) 3 cl) (.slice (some ⟨gm, 0, none⟩) 2 2)) 25)) Y) => cStepsOf _ l 60 Y ((H4.out.below hb2).below hY) (by omega))
  have Hb2 := Lib.hid hb2
  unfold Cfg.cells at x0 x1 x2 x3 x4 HR CS Hb2
  clear hbx hb1 hb2 C0 H4 hR
  go_upto_region 2 with (fail)
  generalize (w1.alloc (.cells #[.int .i64 c.n, .slice (some ⟨gl, 0, none⟩) 3 cl, .int .i64 c.ticks, .slice (some ⟨gm, 0, none⟩) 2 2, .int .i64 c.cap] 25)) = W at *
  generalize w1.heap.size = B at *
  generalize stepsOf (l.take 60) = S at *
  have CP : Hid (∀ (Y : World) (v : Value) (b0 : Nat), Rdy Y c (.slice (some ⟨gl, 0, none⟩) 3 cl) (.slice (some ⟨gm, 0, none⟩) 2 2) → Y.ownsRow b0 48 8 v S.length (stps S) → _) := fun Y v b0 hY hv => cPlayR Hok.out hY v S (Has.of_owns hv) (inF_owns hv) (by omega)
  unfold Cfg.cells at CP
  go_cut [10, 11] (fun o e wx => ∃ oa oc sv fv rv, o = .slice oa S.length oc ∧ e = .int .i64 0 ∧ Hid (TldsH wx (.slice oa S.length oc) (wFold c S).2 sv fv rv) ∧ Hid (Below W.heap.size W wx))
  case first =>
    go_region_held3 (fun Z => Z.cell? ⟨B, 0, none⟩ = some (.int .i64 c.n) ∧ Z.cell? ⟨B, 1, none⟩ = some (.slice (some ⟨gl, 0, none⟩) 3 cl) ∧ Z.cell? ⟨B, 2, none⟩ = some (.int .i64 c.ticks) ∧ Z.cell? ⟨B, 3, none⟩ = some (.slice (some ⟨gm, 0, none⟩) 2 2) ∧ Z.cell? ⟨B, 4, none⟩ = some (.int .i64 c.cap))
      (first | with_reducible exact ⟨j0, j1, j2, j3, j4⟩ | with_reducible exact ⟨i0, i1, i2, i3, i4⟩ | go_keep)
      ((first | (go_at_call 12; refine (CS.out _ (Below.drew (Below.refl W.heap.size W))).mono ?_; rintro e w3 ⟨v3, rfl, hown3, hb3'⟩; have hb3 : Below W.heap.size W w3 := Below.trans (Below.drew (Below.refl W.heap.size W)) hb3'; have HO3 := Lib.hid hown3; have HB3 := Lib.hid hb3; have i0 := cell_on hb3 x0; have i1 := cell_on hb3 x1; have i2 := cell_on hb3 x2; have i3 := cell_on hb3 x3; have i4 := cell_on hb3 x4; clear hown3 hb3 hb3') | (go_at_call 20; refine (CP.out _ _ _ (HR.out.on HB3.out) HO3.out).mono ?_; rintro e w7 ⟨out, sv, fv, rv, rfl, hT, hb7⟩; have j0 := cell_on hb7 i0; have j1 := cell_on hb7 i1; have j2 := cell_on hb7 i2; have j3 := cell_on hb7 i3; have j4 := cell_on hb7 i4; have HT7 := Lib.hid hT; have HB7 := Lib.hid (HB3.out.trans (hb7.mono HB3.out.size)); clear hT hb7)))
    all_goals
      go_wp2_with fail
      go_meet
      obtain ⟨_, oa, oc, he, _⟩ := HT7.out.row
      rw [wFold_len] at he
      subst he
      exact ⟨oa, oc, sv, fv, rv, rfl, rfl, HT7, HB7⟩
  case rest =>
  obtain ⟨oa, oc, sv, fv, rv, rfl, rfl, HT7, HB7⟩ := hcut
  have HTL : Hid ((wFold c S).2.length = S.length) := wFold_len c S
  have HBD := Lib.hid (wFold_bd Hok.out S (by omega))
  generalize (wFold c S).2 = T at *
  have HR7 := Lib.hid (HR.out.on HB7.out)
  have HX : Hid (∀ Y, Below wc.heap.size wc Y → (Y.cell? ⟨B, 0, none⟩ = some (.int .i64 c.n) ∧ Y.cell? ⟨B, 1, none⟩ = some (.slice (some ⟨gl, 0, none⟩) 3 cl) ∧ Y.cell? ⟨B, 2, none⟩ = some (.int .i64 c.ticks) ∧ Y.cell? ⟨B, 3, none⟩ = some (.slice (some ⟨gm, 0, none⟩) 2 2) ∧ Y.cell? ⟨B, 4, none⟩ = some (.int .i64 c.cap))) := fun Y hY => by
    have q := HB7.out.trans (hY.mono HB7.out.size)
    exact ⟨cell_on q x0, cell_on q x1, cell_on q x2, cell_on q x3, cell_on q x4⟩
  have HBW := Lib.hid (Hb2.out.trans (HB7.out.mono Hb2.out.size))
  obtain ⟨y0, y1, y2, y3, y4⟩ := HX.out wc (Below.refl _ _)
  have hbits : ∀ z, z < 16 → z < 2 ^ c.n := fun z hz => by rw [hn4.out]; exact hz
  have HBI := Lib.hid hbits
  have CV : Hid (∀ (Y : World) (out : Value) (T' : List Tld) (s f r : Nat → Value) (z : Nat), Below wc.heap.size wc Y → TldsH Y out T' s f r → T'.length ≤ 300 → (∀ t ∈ T', t.sent.length ≤ 1000000 ∧ t.frame.length ≤ 1000000 ∧ t.report.length ≤ 1000000) → z < 16 → _) := fun Y out T' s f r z hY hT hl hbd hz => cViewOf Hok.out (HR7.out.cf.on hY) hT hl hbd z (HBI.out z hz)
  unfold Cfg.cells at CV
  clear hbits x0 x1 x2 x3 x4 CP CS
  go_upto_region 5 with ((first | (go_at_call 18; with_reducible refine (P2.out _).mono ?_; rintro e w' ⟨rfl, rfl⟩) | (go_at_call 18; with_reducible refine (P3.out _).mono ?_; rintro e w' ⟨rfl, rfl⟩)))
  have HT9 := Lib.hid HT7.out
  have hl300 : T.length ≤ 300 := by rw [HTL.out]; omega
  have hv1 : (viewOf c.n x T).length = S.length := by rw [view_len, HTL.out]
  have hv2 : (viewOf c.n (x &&& y) T).length = S.length := by rw [view_len, HTL.out]
  have HV1 := Lib.hid hv1
  have HV2 := Lib.hid hv2
  have HL3 := Lib.hid hl300
  have hxy : x &&& y < 16 := Nat.lt_of_le_of_lt Nat.and_le_left hx
  have HXY := Lib.hid hxy
  have hand : bits BinOp.and IntKind.i64 (x : Int) (y : Int) = ((x &&& y : Nat) : Int) := i64_and16 x y hx hy
  have C1 := Lib.hid (CV.out wc (.slice oa S.length oc) T sv fv rv x (Below.refl _ _) HT7.out HL3.out HBD.out hx)
  clear hv1 hv2 hl300 hxy
  go_wp2_with fail
  refine C1.out.mono ?_
  rintro e w3 ⟨o1, s1, f1, r1', rfl, hT1, hb3⟩
  have HT1 := Lib.hid hT1
  have HB3 := Lib.hid hb3
  obtain ⟨p1, k1, rfl⟩ : ∃ a cap, o1 = .slice a S.length cap := by obtain ⟨_, a, cap, he, _⟩ := hT1.row; rw [HV1.out] at he; exact ⟨a, cap, he⟩
  obtain ⟨y0, y1, y2, y3, y4⟩ := HX.out w3 hb3
  have C2 := Lib.hid (CV.out w3 (.slice p1 S.length k1) (viewOf c.n x T) s1 f1 r1' y hb3 hT1 (by rw [HV1.out]; omega) (view_bd c.n x HBD.out) hy)
  rw [view_twice] at C2
  clear hT1 hb3 C1
  go_wp2_with fail
  refine C2.out.mono ?_
  rintro e w4 ⟨o2, s2, f2, r2, rfl, hT2, hb4⟩
  have HT2 := Lib.hid hT2
  have hb4' := HB3.out.trans (hb4.mono HB3.out.size)
  have HB4 := Lib.hid hb4'
  have HT1b := Lib.hid (HT1.out.on hb4)
  obtain ⟨p2, k2, rfl⟩ : ∃ a cap, o2 = .slice a S.length cap := by obtain ⟨_, a, cap, he, _⟩ := hT2.row; rw [HV2.out] at he; exact ⟨a, cap, he⟩
  obtain ⟨y0, y1, y2, y3, y4⟩ := HX.out w4 hb4'
  have C3 := Lib.hid (CV.out w4 (.slice oa S.length oc) T sv fv rv (x &&& y) hb4' (HT7.out.on hb4') HL3.out HBD.out HXY.out)
  clear hT2 hb4 hb4' C2 HT1
  go_wp2_with fail
  refine C3.out.mono ?_
  rintro e w5 ⟨o3, s3, f3, r3, rfl, hT3, hb5⟩
  have hb5' := HB4.out.trans (hb5.mono HB4.out.size)
  have HB5 := Lib.hid hb5'
  have HT3 := Lib.hid hT3
  have HT1c := Lib.hid (HT1b.out.on hb5)
  have HT2c := Lib.hid (HT2.out.on hb5)
  obtain ⟨p3, k3, rfl⟩ : ∃ a cap, o3 = .slice a S.length cap := by obtain ⟨_, a, cap, he, _⟩ := hT3.row; rw [HV2.out] at he; exact ⟨a, cap, he⟩
  obtain ⟨y0, y1, y2, y3, y4⟩ := HX.out w5 hb5'
  have C4 := Lib.hid (CV.out w5 (.slice p1 S.length k1) (viewOf c.n x T) s1 f1 r1' x hb5' HT1c.out (by rw [HV1.out]; omega) (view_bd c.n x HBD.out) hx)
  rw [view_twice, Nat.and_self] at C4
  clear hT3 hb5 hb5' C3 HT1b HT2
  go_wp2_with fail
  refine C4.out.mono ?_
  rintro e w6 ⟨o4, s4, f4, r4, rfl, hT4, hb6⟩
  have hb6' := HB5.out.trans (hb6.mono HB5.out.size)
  have HB6 := Lib.hid hb6'
  have HT4 := Lib.hid hT4
  have HT1d := Lib.hid (HT1c.out.on hb6)
  have HT2d := Lib.hid (HT2c.out.on hb6)
  have HT3d := Lib.hid (HT3.out.on hb6)
  obtain ⟨p4, k4, rfl⟩ : ∃ a cap, o4 = .slice a S.length cap := by obtain ⟨_, a, cap, he, _⟩ := hT4.row; rw [HV1.out] at he; exact ⟨a, cap, he⟩
  have CW := Lib.hid (cWorldSure w6 (HR7.out.od.on hb6' HR7.out.od.pos))
  clear hT4 hb6 hb6' C4 HT1c HT2c HT3
  go_wp2_with fail
  refine CW.out.mono ?_
  rintro e w8 ⟨rfl, hb8⟩
  have CA := Lib.hid (csameViews (HT2d.out.on hb8) (HT3d.out.on hb8))
  have HB8 := Lib.hid (HB6.out.trans (hb8.mono HB6.out.size))
  have HT4e := Lib.hid (HT4.out.on hb8)
  have HT1e := Lib.hid (HT1d.out.on hb8)
  clear hb8 CW
  go_wp2_with fail
  refine CA.out.mono ?_
  rintro e w9 ⟨rfl, hb9⟩
  have CB := Lib.hid (csameViews (HT4e.out.on hb9) (HT1e.out.on hb9))
  have HB9 := Lib.hid (HB8.out.trans (hb9.mono HB8.out.size))
  clear hb9 CA
  go_wp2_with fail
  refine CB.out.mono ?_
  rintro e w10 ⟨rfl, hb10⟩
  have HBF := Lib.hid (HBW.out.trans ((HB9.out.trans (hb10.mono HB9.out.size)).mono HBW.out.size))
  clear hb10 CB
  go_wp2_with fail
  go_ret
  exact ⟨rfl, HBF.out⟩
end Go.Proofs.YtjdedflfdlhkdaaGreatDoor.viewTwice
