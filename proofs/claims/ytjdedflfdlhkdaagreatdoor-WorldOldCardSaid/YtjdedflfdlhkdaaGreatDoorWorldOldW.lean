/- WorldOld: the walk. -/
import Derived.Deep.RegionHeld3
import Derived.BigQuiet
import Derived.Test.YtjdedflfdlhkdaaGreatDoorWEnded
import Derived.Test.YtjdedflfdlhkdaaGreatDoorOldL
import Derived.Test.YtjdedflfdlhkdaaGreatDoorSameI
import Derived.Test.YtjdedflfdlhkdaaGreatDoorSameE
import Derived.Test.YtjdedflfdlhkdaaGreatDoorPurGet
namespace Go.Proofs.YtjdedflfdlhkdaaGreatDoor.worldOld
open Go.ChangeShapes Go.WideShapes Go.ChangeAt Go.RowKit
set_option linter.unusedVariables false
set_option linter.unusedSimpArgs false

set_option maxRecDepth 100000 in
set_option maxHeartbeats 16000000 in
theorem walk (w : World) (hL : OrdVar w) (v0 : Value) (ls : List Int) (A0 : Has w 1 v0 ls.length (ints ls) ∧ ∀ x ∈ ls, -9223372036854775808 ≤ x ∧ x ≤ 9223372036854775807) (a1 a2 a3 : Int) (v4 : Value) (l : List Stp) (A4 : Has w 8 v4 l.length (stps l)) (a5 : Int) (lose : Bool)
    (wf1 : (Lit.int .i64 a1).wf = true) (wf2 : (Lit.int .i64 a2).wf = true) (wf3 : (Lit.int .i64 a3).wf = true) (wf5 : (Lit.int .i64 a5).wf = true) :
    Calls Tryz.prog 5 #[v0, .int .i64 a1, .int .i64 a2, .int .i64 a3, v4, .int .i64 a5, .bool lose] w fun e w' => e = .returned (.bool true) ∧ Below w.heap.size w w' := by
  have C0 := Lib.hid (cConfigR hL a1 a2 a3 A0.1 wf2)
  have H4 := Lib.hid A4
  have Hok := Lib.hid (cfgOf_ok ls a1 a2 a3)
  have hn4 : Hid ((cfgOf ls a1 a2 a3).n = 4) := (rfl : _ = _)
  have hlb : Hid ((cfgOf ls a1 a2 a3).labs.length = 3) := (labsK_len ls 3 : _ = _)
  have hit : Hid ((cfgOf ls a1 a2 a3).items = 2) := (rfl : _ = _)
  generalize cfgOf ls a1 a2 a3 = c at *
  obtain ⟨_, q1, r1, rfl, _, _, _⟩ := A4
  have hS : (stepsOf (l.take 100)).length ≤ 100 := by rw [stepsOf_len, List.length_take]; omega
  have hstp : stps (stepsOf (l.take 100)) ++ [.int .i64 9, .int .i64 0, .int .i64 0, .int .i64 0, .int .i64 0, .int .i64 0, .int .i64 0, .int .i64 0] = stps (stepsOf (l.take 100) ++ [tk9]) := (stps_snoc _ tk9).symm
  have htk : 1 ≤ ticksIn (stepsOf (l.take 100) ++ [tk9]) ∧ ticksIn (stepsOf (l.take 100) ++ [tk9]) ≤ 101 := by
    refine ⟨by rw [ticksIn_snoc]; simp [tk9], ?_⟩
    have := ticksIn_le (stepsOf (l.take 100) ++ [tk9]); simp at this; omega
  have hlls := ls_len c hn4.out (stepsOf (l.take 100) ++ [tk9])
  have hNs : (stepsOf (l.take 100)).length + 1 = (stepsOf (l.take 100) ++ [tk9]).length := by simp
  have HSTP := Lib.hid hstp
  have hS101 : (stepsOf (l.take 100) ++ [tk9]).length ≤ 101 := by rw [List.length_append]; simp; omega
  clear A0 wf1 wf2 wf3 wf5 hL hstp
  unfold Cfg.cells at C0
  go_enter Tryz.func5, Tryz.ntmps5
  go_wp2_with fail
  refine C0.out.mono ?_
  rintro e w1 ⟨gl, cl, gm, rfl, hR, hb1⟩
  have hbx := cfg_box w1 c (.slice (some ⟨gl, 0, none⟩) 3 cl) (.slice (some ⟨gm, 0, none⟩) 2 2)
  obtain ⟨x0, x1, x2, x3, x4⟩ := cfg_at (heap_alloc_new w1 (.cells (c.cells (.slice (some ⟨gl, 0, none⟩) 3 cl) (.slice (some ⟨gm, 0, none⟩) 2 2)) 25))
  have HR := Lib.hid (hR.on hbx)
  have hb2 := hb1.trans (hbx.mono hb1.size)
  have CS := Lib.hid (cStepsOf _ l 100 _ (H4.out.below hb2) (by omega))
  have Hb2 := Lib.hid hb2
  unfold Cfg.cells at x0 x1 x2 x3 x4 HR CS Hb2
  clear hbx hb1 hb2 C0 H4 hR
  go_upto_region 2 with (fail)
  generalize (w1.alloc (.cells #[.int .i64 c.n, .slice (some ⟨gl, 0, none⟩) 3 cl, .int .i64 c.ticks, .slice (some ⟨gm, 0, none⟩) 2 2, .int .i64 c.cap] 25)) = W at *
  generalize w1.heap.size = B at *
  go_wp2_with fail
  refine CS.out.mono ?_
  rintro e w3 ⟨v3, rfl, hown3, hb3⟩
  obtain ⟨a3', c3, rfl⟩ := owns_slice hown3
  have HO3 := Lib.hid hown3
  have HB3 := Lib.hid hb3
  have hsz3 := hb3.size
  generalize (stepsOf (l.take 100)).length = n3 at *
  clear CS hown3
  go_upto_region 3 with ((at_builtin; refine wp_app1 (w0 := w3) 27 48 8 64 _ elStep Tryz.underlying27 W.heap.size _ _ _ HO3.out (by repeat (first | exact Below.refl _ _ | refine Below.drew ?_ | refine Below.alloc ?_ (by first | (simp; done) | (simp; omega)) _ | refine Below.setCell ?_ (by first | (simp; done) | (simp; omega)) _)) [.int .i64 9, .int .i64 0, .int .i64 0, .int .i64 0, .int .i64 0, .int .i64 0, .int .i64 0, .int .i64 0] rfl _ _ rfl rfl rfl (by first | exact heap_alloc_new _ _ | (simp only [heap_drew, heap_drewN]; exact heap_alloc_new _ _)) (by simp) rfl rfl (by omega) (by omega) hsz3 ?_; intro v5 w5 hown5 hgrow5 hb5))
  obtain ⟨a5', c5, rfl⟩ := owns_slice hown5
  rw [HSTP.out] at hown5
  clear HSTP
  generalize stepsOf (l.take 100) ++ [tk9] = S at *
  generalize n3 + 1 = N at *
  subst hNs
  have hbW5 : Below W.heap.size W w5 := HB3.out.trans hb5
  have HBW5 := Lib.hid hbW5
  have HO5 := Lib.hid hown5
  have hsz5 := hbW5.size
  clear HO3 HB3 hsz3 hgrow5 hb5 hown5 hb3
  -- the frame's number
  have CF := Lib.hid (cFrames _ S w5 (Has.of_owns HO5.out) (by omega))
  obtain ⟨F0, hF0⟩ : ∃ n, n = 20 * ticksIn S := ⟨_, rfl⟩
  rw [← hF0] at CF hlls
  have hFb : 20 ≤ F0 ∧ F0 ≤ 2020 := by omega
  have CPk := Lib.hid fun X => picked a5 (F0 : Int) (by omega) (by omega) X
  obtain ⟨hm0, hm1⟩ := pick_bd a5 (F0 : Int) (by omega)
  obtain ⟨n, hn⟩ := Int.eq_ofNat_of_zero_le hm0
  rw [hn] at CPk hm1
  have hnF : n < F0 := by omega
  have HLL : Hid (n < (wFold c S).1.ls.length) := by show _ < _; rw [hlls]; exact hnF
  clear hn hm0 hm1 hF0 hlls htk
  go_upto_region 4 with (first | (go_at_call 19; refine CF.out.mono ?_; rintro e w' ⟨rfl, rfl⟩) | (go_at_call 18; refine (CPk.out _).mono ?_; rintro e w' ⟨rfl, rfl⟩))
  -- BEHIND REGION 4
  cases lose with
  | true =>
    have h7 : (w5.alloc (.cells #[.int .i64 11, .int .i64 0, .int .i64 0, .int .i64 0, .int .i64 0, .int .i64 n, .int .i64 0, .int .i64 0] 48)).heap[w5.heap.size]? = some (.cells #[.int .i64 11, .int .i64 0, .int .i64 0, .int .i64 0, .int .i64 0, .int .i64 n, .int .i64 0, .int .i64 0] 48 (0, 0)) := heap_alloc_new _ _
    have hb7 : Below w5.heap.size w5 (w5.alloc (.cells #[.int .i64 11, .int .i64 0, .int .i64 0, .int .i64 0, .int .i64 0, .int .i64 n, .int .i64 0, .int .i64 0] 48)) := (Below.refl _ _).alloc (Nat.le_refl _) _
    go_upto_region 7 with (fail)
    generalize (w5.alloc (.cells #[.int .i64 11, .int .i64 0, .int .i64 0, .int .i64 0, .int .i64 0, .int .i64 n, .int .i64 0, .int .i64 0] 48)) = w7 at *
    obtain ⟨z0, z1, z2, z3, z4, z5, z6, z7⟩ := eight_at h7
    have HO7 := Lib.hid (owns_below HO5.out hb7)
    have hsz7 : W.heap.size ≤ w7.heap.size := Nat.le_trans hsz5 hb7.size
    have HB7 := Lib.hid (HBW5.out.trans (hb7.mono hsz5))
    clear h7 hb7
    go_upto_region 8 with ((at_builtin; refine wp_app1 (w0 := w7) 27 48 8 64 _ elStep Tryz.underlying27 W.heap.size _ _ _ HO7.out (by repeat (first | exact Below.refl _ _ | refine Below.drew ?_ | refine Below.alloc ?_ (by first | (simp; done) | (simp; omega)) _ | refine Below.setCell ?_ (by first | (simp; done) | (simp; omega)) _)) [.int .i64 11, .int .i64 0, .int .i64 0, .int .i64 0, .int .i64 0, .int .i64 n, .int .i64 0, .int .i64 0] rfl _ _ rfl rfl rfl (by first | exact heap_alloc_new _ _ | (simp only [heap_drew, heap_drewN]; exact heap_alloc_new _ _)) (by simp) rfl rfl (by omega) (by omega) hsz7 ?_; intro v8 w8 hown8 hgrow8 hb8))
    obtain ⟨a8, c8, rfl⟩ := owns_slice hown8
    have hs8 : stps S ++ [.int .i64 11, .int .i64 0, .int .i64 0, .int .i64 0, .int .i64 0, .int .i64 n, .int .i64 0, .int .i64 0] = stps (S ++ [(⟨11, 0, 0, 0, 0, (n : Int), 0, 0⟩ : Stp)]) := (stps_snoc S (⟨11, 0, 0, 0, 0, (n : Int), 0, 0⟩ : Stp)).symm
    rw [hs8] at hown8
    have hP : (⟨11, 0, 0, 0, 0, (n : Int), 0, 0⟩ : Stp) = (if true then ⟨11, 0, 0, 0, 0, (n : Int), 0, 0⟩ else dlv n) := rfl
    have HOLD := Lib.hid (then_old c (wFold c S).1 n HLL.out true (⟨11, 0, 0, 0, 0, (n : Int), 0, 0⟩ : Stp) hP)
    have HSN := Lib.hid (wFold_snoc c S (⟨11, 0, 0, 0, 0, (n : Int), 0, 0⟩ : Stp))
    have hl8 : S.length + 1 = (S ++ [(⟨11, 0, 0, 0, 0, (n : Int), 0, 0⟩ : Stp)]).length := by simp
    have hl102 : (S ++ [(⟨11, 0, 0, 0, 0, (n : Int), 0, 0⟩ : Stp)]).length ≤ 102 := by simp; omega
    generalize S ++ [(⟨11, 0, 0, 0, 0, (n : Int), 0, 0⟩ : Stp)] = S8 at *
    generalize S.length + 1 = N8 at *
    subst hl8
    have H8 := Lib.hid (Has.of_owns hown8)
    have HB8 := Lib.hid (HB7.out.trans hb8)
    have hsz8 : W.heap.size ≤ w8.heap.size := Nat.le_trans hsz7 hb8.size
    clear hs8 hP hown8 hgrow8 hb8 z0 z1 z2 z3 z4 z5 z6 z7 HO7 HB7
    go_upto_region 9 with (first | (at_builtin; refine wp_app1 (w0 := w9) 27 48 8 64 _ elStep Tryz.underlying27 w8.heap.size _ _ _ hown9 (by repeat (first | exact Below.refl _ _ | refine Below.drew ?_ | refine Below.alloc ?_ (by first | (simp; done) | (simp; omega)) _ | refine Below.setCell ?_ (by first | (simp; done) | (simp; omega)) _)) [.int .i64 10, .int .i64 0, .int .i64 0, .int .i64 0, .int .i64 0, .int .i64 n, .int .i64 0, .int .i64 0] rfl _ _ rfl rfl rfl (by first | exact heap_alloc_new _ _ | (simp only [heap_drew, heap_drewN]; exact heap_alloc_new _ _)) (by simp) rfl rfl (by omega) (by omega) (Below.size hb9) ?_; intro v10 w10 hown10 hgrow10 hb10) | (refine wp_appN (w0 := w8) 27 48 8 64 _ elStep Tryz.underlying27 w8.heap.size _ _ _ (World.ownsRow_nil _ _ _ _) (by repeat (first | exact Below.refl _ _ | refine Below.drew ?_ | refine Below.alloc ?_ (by first | (simp; done) | (simp; omega)) _ | refine Below.setCell ?_ (by first | (simp; done) | (simp; omega)) _)) _ _ _ H8.out rfl _ _ rfl rfl rfl (stps_all _) (by omega) (by unfold maxLen; omega) (Nat.le_refl _) ?_; intro v9 w9 hown9 hgrow9 hb9))
    rw [List.nil_append, Nat.zero_add] at hown10
    obtain ⟨a10, c10, rfl⟩ := owns_slice hown10
    have hs9 : stps S8 ++ [.int .i64 10, .int .i64 0, .int .i64 0, .int .i64 0, .int .i64 0, .int .i64 n, .int .i64 0, .int .i64 0] = stps (S8 ++ [dlv n]) := (stps_snoc S8 (dlv n)).symm
    rw [hs9] at hown10
    have HEQ : Hid ((wFold c (S8 ++ [dlv n])).1 = (wFold c S8).1) := by (show _ = _; rw [wFold_snoc]; simp only; rw [HSN.out]; exact (old_again c _ n HOLD.out.1).1)
    have HLAST : Hid (∀ i (h : i < (wFold c (S8 ++ [dlv n])).2.length), i = S8.length → ((wFold c (S8 ++ [dlv n])).2[i]'h).code = 10 ∧ ((wFold c (S8 ++ [dlv n])).2[i]'h).frame = []) := fun i h hi => by
      subst hi
      have q := told_at c (S8 ++ [dlv n]) S8.length (by simp)
      rw [List.getElem?_eq_getElem h, Option.some.injEq, List.take_left] at q
      have e : (S8 ++ [dlv n])[S8.length]'(by simp) = dlv n := by simp
      rw [q, e, HSN.out]
      exact (old_again c _ n HOLD.out.1).2
    have hl9 : S8.length + 1 = (S8 ++ [dlv n]).length := by simp
    have hl103 : (S8 ++ [dlv n]).length ≤ 103 := by simp; omega
    have hlast : (S8 ++ [dlv n]).length - 1 = S8.length := by simp
    generalize S8 ++ [dlv n] = S9 at *
    generalize hN9 : S8.length + 1 = N9 at *
    subst hl9
    have hb810 : Below w8.heap.size w8 w10 := hb9.trans hb10
    have HB810 := Lib.hid hb810
    have HB10 := Lib.hid (HB8.out.trans (hb810.mono hsz8))
    have HO10 := Lib.hid hown10
    have HX : Hid (∀ Y, Below W.heap.size W Y → (Y.cell? ⟨B, 0, none⟩ = some (.int .i64 c.n) ∧ Y.cell? ⟨B, 1, none⟩ = some (.slice (some ⟨gl, 0, none⟩) 3 cl) ∧ Y.cell? ⟨B, 2, none⟩ = some (.int .i64 c.ticks) ∧ Y.cell? ⟨B, 3, none⟩ = some (.slice (some ⟨gm, 0, none⟩) 2 2) ∧ Y.cell? ⟨B, 4, none⟩ = some (.int .i64 c.cap))) := fun Y q => ⟨cell_on q x0, cell_on q x1, cell_on q x2, cell_on q x3, cell_on q x4⟩
    have CE : Hid (∀ (Y : World) (v : Value) (T : List Stp), Below W.heap.size W Y → Has Y 8 v T.length (stps T) → T.length ≤ 300 → _) := fun Y v T hY hv hT => cended Hok.out hn4.out hit.out hlb.out (HR.out.on hY) v T hv hT
    unfold Cfg.cells at CE
    have C9 := Lib.hid (CE.out w10 (.slice a8 S8.length c8) S8 HB10.out (H8.out.below hb810) (by omega))
    obtain ⟨y0, y1, y2, y3, y4⟩ := HX.out w10 HB10.out
    clear hs9 hown9 hown10 hgrow9 hgrow10 hb9 hb10 hb810 x0 x1 x2 x3 x4 HSN HOLD
    go_wp2_with fail
    refine C9.out.mono ?_
    rintro e w11 ⟨r1', p1', t1', pv1, tv1, ev1, rfl, hE1, hb11⟩
    have HE1 := Lib.hid hE1
    have HB11 := Lib.hid (HB10.out.trans (hb11.mono HB10.out.size))
    have H911 := Lib.hid hb11
    have C10 := Lib.hid (CE.out w11 (.slice a10 S9.length c10) S9 HB11.out ((Has.of_owns HO10.out).below hb11) (by omega))
    clear y0 y1 y2 y3 y4 C9
    obtain ⟨y0, y1, y2, y3, y4⟩ := HX.out w11 HB11.out
    clear hE1 hb11
    go_wp2_with fail
    refine C10.out.mono ?_
    rintro e w12 ⟨r2', p2', t2', pv2, tv2, ev2, rfl, hE2, hb12⟩
    rw [HEQ.out] at hE2
    have HE2 := Lib.hid hE2
    have HE1b := Lib.hid (HE1.out.on hb12)
    have HB12 := Lib.hid (HB11.out.trans (hb12.mono HB11.out.size))
    have H912 := Lib.hid (H911.out.trans (hb12.mono H911.out.size))
    clear hE2 hb12 C10 HE1 y0 y1 y2 y3 y4
    obtain ⟨y0, y1, y2, y3, y4⟩ := HX.out w12 HB12.out
    have HST := Lib.hid ((Has.of_owns HO10.out).below H912.out)
    have HR12 := Lib.hid (HR.out.on HB12.out)
    have CP : Hid (∀ (Y : World) (v : Value), Rdy Y c (.slice (some ⟨gl, 0, none⟩) 3 cl) (.slice (some ⟨gm, 0, none⟩) 2 2) → Y.ownsRow w12.heap.size 48 8 v S9.length (stps S9) → _) := fun Y v hY hv => cPlayR Hok.out hY v S9 (Has.of_owns hv) (inF_owns hv) (by omega)
    unfold Cfg.cells at CP
    go_upto_region 11 with (fail)
    go_cut [28, 29] (fun o e wx => ∃ oa oc sv fv rv, o = .slice oa S9.length oc ∧ e = .int .i64 0 ∧ Hid (TldsH wx (.slice oa S9.length oc) (wFold c S9).2 sv fv rv) ∧ Hid (Below w12.heap.size w12 wx))
    case first =>
      go_region_held3 (fun Z => Z.cell? ⟨B, 0, none⟩ = some (.int .i64 c.n) ∧ Z.cell? ⟨B, 1, none⟩ = some (.slice (some ⟨gl, 0, none⟩) 3 cl) ∧ Z.cell? ⟨B, 2, none⟩ = some (.int .i64 c.ticks) ∧ Z.cell? ⟨B, 3, none⟩ = some (.slice (some ⟨gm, 0, none⟩) 2 2) ∧ Z.cell? ⟨B, 4, none⟩ = some (.int .i64 c.cap))
        (first | with_reducible exact ⟨j0, j1, j2, j3, j4⟩ | with_reducible exact ⟨i0, i1, i2, i3, i4⟩ | go_keep)
        ((first | (refine step_appN (w0 := w12) (wanted_of_none (by rfl)) 27 48 8 64 _ elStep Tryz.underlying27 w12.heap.size (.slice none 0 0) 0 [] (World.ownsRow_nil _ _ _ _) (by repeat (first | exact Below.refl _ _ | refine Below.drew ?_ | refine Below.alloc ?_ (by first | (simp; done) | (simp; omega)) _ | refine Below.setCell ?_ (by first | (simp; done) | (simp; omega)) _)) _ S9.length (stps S9) (HST.out.below (by repeat (first | exact Below.refl _ _ | refine Below.drew ?_ | refine Below.alloc ?_ (by first | (simp; done) | (simp; omega)) _ | refine Below.setCell ?_ (by first | (simp; done) | (simp; omega)) _))) _ _ (by rfl) (by rfl) (by rfl) (stps_all _) (by omega) (by unfold maxLen; omega) (Nat.le_refl _) ?_; intro v16 w16 hown16 hgrow16 hb16; rw [Nat.zero_add, List.nil_append] at hown16; have HO16 := Lib.hid hown16; have HB16 := Lib.hid hb16; have i0 := cell_on hb16 y0; have i1 := cell_on hb16 y1; have i2 := cell_on hb16 y2; have i3 := cell_on hb16 y3; have i4 := cell_on hb16 y4; clear hown16 hgrow16 hb16) | (go_at_call 20; refine (CP.out _ _ (HR12.out.on HB16.out) HO16.out).mono ?_; rintro e w17 ⟨out, sv, fv, rv, rfl, hT, hb17⟩; have j0 := cell_on hb17 i0; have j1 := cell_on hb17 i1; have j2 := cell_on hb17 i2; have j3 := cell_on hb17 i3; have j4 := cell_on hb17 i4; have HT17 := Lib.hid hT; have HB17 := Lib.hid (HB16.out.trans (hb17.mono HB16.out.size)); clear hT hb17)))
      all_goals
        go_wp2_with fail
        go_meet
        obtain ⟨_, oa, oc, he, _⟩ := HT17.out.row
        rw [wFold_len] at he
        subst he
        exact ⟨oa, oc, sv, fv, rv, rfl, rfl, HT17, HB17⟩
    case rest =>
    obtain ⟨oa, oc, sv, fv, rv, rfl, rfl, HT, HB17⟩ := hcut
    have hTL : (wFold c S9).2.length = S9.length := wFold_len c S9
    have hK : S8.length < (wFold c S9).2.length := by omega
    obtain ⟨hcode, hframe⟩ := HLAST.out S8.length hK rfl
    obtain ⟨tb, td, tcap, he, htc1, htc2, hcell⟩ := HT.out.at S8.length hK
    simp only [Value.slice.injEq] at he
    obtain ⟨rfl, -, rfl⟩ := he
    have zc := hcell 0 _ (by omega) rfl
    rw [Nat.add_zero, hcode] at zc
    have zf := hcell 9 _ (by omega) rfl
    have hfr := HT.out.f S8.length hK
    rw [hframe] at hfr
    obtain ⟨fa, fc, hfv⟩ : ∃ a cap, fv S8.length = .slice a 0 cap := by obtain ⟨_, a, cap, he, _⟩ := hfr; exact ⟨a, cap, he⟩
    rw [hfv] at zf
    have hwl : IntKind.i64.wrap ((S9.length : Int) - 1) = ((S8.length : Nat) : Int) := by rw [IntWalk.i64_in _ (by omega)]; omega
    have hKz : ((S8.length : Nat) : Int) < (S9.length : Int) := by omega
    rw [hTL] at htc1
    unfold maxLen at htc2
    have hres : resC (wFold c S8).1 c.items = ints ((List.range c.items).map fun k => ((wFold c S8).1.bk k).res) := by simp [resC, ints]
    have hb1217 := HB17.out
    have R1 := (HE1b.out.on hb1217).r
    have R2 := (HE2.out.on hb1217).r
    rw [hres] at R1 R2
    have CI := Lib.hid (csameInts r1' r2' _ _ wc (by rw [List.length_map, List.length_range]; exact R1) (by rw [List.length_map, List.length_range]; exact R2))
    have HP1 := Lib.hid (HE1b.out.on hb1217)
    have HP2 := Lib.hid (HE2.out.on hb1217)
    have HBW := Lib.hid (Hb2.out.trans ((HB12.out.trans (HB17.out.mono HB12.out.size)).mono Hb2.out.size))
    clear hcell hcode hframe hfr hfv hTL hK hres R1 R2 hb1217 HT y0 y1 y2 y3 y4 CP HE1b HE2 HB17
    go_wp2_with fail
    refine CI.out.mono ?_
    rintro e W20 ⟨rfl, hb20⟩
    have HA := Lib.hid (HP1.out.on hb20)
    have HM := Lib.hid (HP2.out.on hb20)
    have HB20 := Lib.hid (HBW.out.trans (hb20.mono HBW.out.size))
    obtain ⟨pb, po, pc, rfl, ⟨hpc1, hpc2⟩, hpa⟩ := HA.out.pcell hn4.out hit.out
    obtain ⟨mb, mo, mc, rfl, ⟨hmc1, hmc2⟩, hpm⟩ := HM.out.pcell hn4.out hit.out
    obtain ⟨ub, uo, uc, rfl, ⟨huc1, huc2⟩, hta⟩ := HA.out.tcell hn4.out hlb.out
    obtain ⟨wb, wo, wc2, rfl, ⟨hwc1, hwc2⟩, htm⟩ := HM.out.tcell hn4.out hlb.out
    have HPA := Lib.hid hpa
    have HPM := Lib.hid hpm
    have HTA := Lib.hid hta
    have HTM := Lib.hid htm
    clear hb20 CI zc zf hpa hpm hta htm hwl hKz htc1 htc2
    go_wp2_with fail
    go_loopw [30] (fun i wr => ∃ k : Nat, k ≤ 4 ∧ i = .int .i64 k ∧ Hid (Below W20.heap.size W20 wr)) (fun i _ => 4 - (intOf i).toNat)
    case atStart => exact ⟨0, by omega, rfl, Below.refl _ _⟩
    case round =>
      obtain ⟨k, hk, rfl, HB⟩ := hrel
      by_cases hlt : k < 4
      · have hltz : (k : Int) < 4 := by omega
        have HLT := Lib.hid hlt
        obtain ⟨ya, xb1, xo1, xc1, hv1, ⟨hx1, hx1'⟩, hc1⟩ := HPA.out k hlt
        obtain ⟨ym, xb2, xo2, xc2, hv2, ⟨hx2, hx2'⟩, hc2⟩ := HPM.out k hlt
        obtain ⟨ta, xb3, xo3, xc3, hv3, ⟨hx3, hx3'⟩, hc3⟩ := HTA.out k hlt
        obtain ⟨tm, xb4, xo4, xc4, hv4, ⟨hx4, hx4'⟩, hc4⟩ := HTM.out k hlt
        rw [hv1] at ya
        rw [hv2] at ym
        rw [hv3] at ta
        rw [hv4] at tm
        have HC1 := Lib.hid hc1
        have HC2 := Lib.hid hc2
        have HC3 := Lib.hid hc3
        have HC4 := Lib.hid hc4
        have YA := Lib.hid ya
        have YM := Lib.hid ym
        have TA := Lib.hid ta
        have TM := Lib.hid tm
        clear hlt hk hv1 hv2 hv3 hv4 hc1 hc2 hc3 hc4 ya ym ta tm
        go_upto_region 18 with (fail)
        go_loopw [31] (fun i wr => ∃ j : Nat, j ≤ 2 ∧ i = .int .i64 j ∧ Hid (Below W20.heap.size W20 wr)) (fun i _ => 2 - (intOf i).toNat)
        case atStart => exact ⟨0, by omega, rfl, HB⟩
        case round =>
          clear HB
          obtain ⟨j, hj, rfl, HB⟩ := hrel
          by_cases hlt : j < 2
          · have hjz : (j : Int) < 2 := by omega
            have HJ := Lib.hid hlt
            have ya := cell_on HB.out YA.out
            have ym := cell_on HB.out YM.out
            have za : ∀ m u, m < 6 → (purse (wFold c S8).1 k j)[m]? = some u → wr.cell? ⟨xb1, xo1 + j * 6 + m, none⟩ = some u := fun m u hm hu => cell_on HB.out (HC1.out j hlt m u hm hu)
            have zm : ∀ m u, m < 6 → (purse (wFold c S8).1 k j)[m]? = some u → wr.cell? ⟨xb2, xo2 + j * 6 + m, none⟩ = some u := fun m u hm hu => cell_on HB.out (HC2.out j hlt m u hm hu)
            have z0 := za 0 _ (by omega) rfl
            rw [Nat.add_zero] at z0
            have z1 := za 1 _ (by omega) rfl
            have z2 := za 2 _ (by omega) rfl
            have z3 := za 3 _ (by omega) rfl
            have z4 := za 4 _ (by omega) rfl
            have z5 := za 5 _ (by omega) rfl
            have o0 := zm 0 _ (by omega) rfl
            rw [Nat.add_zero] at o0
            have o1 := zm 1 _ (by omega) rfl
            have o2 := zm 2 _ (by omega) rfl
            have o3 := zm 3 _ (by omega) rfl
            have o4 := zm 4 _ (by omega) rfl
            have o5 := zm 5 _ (by omega) rfl
            clear za zm hlt hj
            generalize (wFold c S8).1.asks k j = A at *
            generalize ((wFold c S8).1.sh k j).free = F at *
            generalize ((wFold c S8).1.sh k j).held = H at *
            generalize ((wFold c S8).1.sh k j).used = U at *
            go_upto_region 20 with (fail)
            go_quiet (fail)
            go_wp2_with fail
            go_roundw
            case rel => exact ⟨j + 1, HJ.out, by go_num, below_drewN HB.out _⟩
            case measure => have := HJ.out; first | (simp [intOf]; done) | (simp [intOf]; omega)
          · obtain rfl : j = 2 := by omega
            clear hlt hj
            go_upto_region 23 with (fail)
            go_loopw [32] (fun i wr => ∃ j : Nat, j ≤ 3 ∧ i = .int .i64 j ∧ Hid (Below W20.heap.size W20 wr)) (fun i _ => 3 - (intOf i).toNat)
            case atStart => exact ⟨0, by omega, rfl, HB⟩
            case round =>
              clear HB
              obtain ⟨j, hj, rfl, HB⟩ := hrel
              by_cases hlt : j < 3
              · have hjz : (j : Int) < 3 := by omega
                have HJ := Lib.hid hlt
                have p1 := ext_cell (cell_on HB.out TA.out)
                have p2 := ext_cell (cell_on HB.out TM.out)
                have p3 := ext_cell (cell_on HB.out (HC3.out j hlt))
                have p4 := ext_cell (cell_on HB.out (HC4.out j hlt))
                have E1 := HA.out.ee k j (by rw [hn4.out]; exact HLT.out) (by rw [hlb.out]; exact hlt)
                have E2 := HM.out.ee k j (by rw [hn4.out]; exact HLT.out) (by rw [hlb.out]; exact hlt)
                have CS : Hid (∀ X : Ext wr, Calls Tryz.prog 17 #[ev1 k j, ev2 k j] X.1 fun e w' => e = .returned (.bool true) ∧ Below X.1.heap.size X.1 w') := fun X =>
                  csameEntries _ _ _ X.1 (E1.below (HB.out.trans (X.2.mono HB.out.size))) (E2.below (HB.out.trans (X.2.mono HB.out.size)))
                have Fin : Hid (∀ w8, Below wr.heap.size wr w8 → Hid (Below W20.heap.size W20 w8)) := fun w8 hb8 => HB.out.trans (hb8.mono HB.out.size)
                clear hlt hj E1 E2
                go_upto_region 25 with (fail)
                refine wp_region_grow (by kernel_rfl) (by kernel_rfl) ?_
                repeat (go_big_quiet_step ((go_at_call 17; with_reducible exact grow_of (CS.out _))))
                refine wpQuiet_nil ?_
                intro w8' hb8'
                have HB8' := Fin.out _ hb8'
                clear hb8' Fin CS p1 p2 p3 p4
                go_wp2_with fail
                go_roundw
                case rel => exact ⟨j + 1, HJ.out, by go_num, HB8'⟩
                case measure => have := HJ.out; first | (simp [intOf]; done) | (simp [intOf]; omega)
              · obtain rfl : j = 3 := by omega
                go_wp2_with fail
                go_roundw
                case rel => exact ⟨k + 1, HLT.out, by go_num, HB⟩
                case measure => have := HLT.out; first | (simp [intOf]; done) | (simp [intOf]; omega)
      · obtain rfl : k = 4 := by omega
        go_wp2_with fail
        go_ret
        exact ⟨rfl, HB20.out.trans (HB.out.mono HB20.out.size)⟩
  | false =>
    have h7 : (w5.alloc (.cells #[.int .i64 10, .int .i64 0, .int .i64 0, .int .i64 0, .int .i64 0, .int .i64 n, .int .i64 0, .int .i64 0] 48)).heap[w5.heap.size]? = some (.cells #[.int .i64 10, .int .i64 0, .int .i64 0, .int .i64 0, .int .i64 0, .int .i64 n, .int .i64 0, .int .i64 0] 48 (0, 0)) := heap_alloc_new _ _
    have hb7 : Below w5.heap.size w5 (w5.alloc (.cells #[.int .i64 10, .int .i64 0, .int .i64 0, .int .i64 0, .int .i64 0, .int .i64 n, .int .i64 0, .int .i64 0] 48)) := (Below.refl _ _).alloc (Nat.le_refl _) _
    go_upto_region 7 with (fail)
    generalize (w5.alloc (.cells #[.int .i64 10, .int .i64 0, .int .i64 0, .int .i64 0, .int .i64 0, .int .i64 n, .int .i64 0, .int .i64 0] 48)) = w7 at *
    obtain ⟨z0, z1, z2, z3, z4, z5, z6, z7⟩ := eight_at h7
    have HO7 := Lib.hid (owns_below HO5.out hb7)
    have hsz7 : W.heap.size ≤ w7.heap.size := Nat.le_trans hsz5 hb7.size
    have HB7 := Lib.hid (HBW5.out.trans (hb7.mono hsz5))
    clear h7 hb7
    go_upto_region 8 with ((at_builtin; refine wp_app1 (w0 := w7) 27 48 8 64 _ elStep Tryz.underlying27 W.heap.size _ _ _ HO7.out (by repeat (first | exact Below.refl _ _ | refine Below.drew ?_ | refine Below.alloc ?_ (by first | (simp; done) | (simp; omega)) _ | refine Below.setCell ?_ (by first | (simp; done) | (simp; omega)) _)) [.int .i64 10, .int .i64 0, .int .i64 0, .int .i64 0, .int .i64 0, .int .i64 n, .int .i64 0, .int .i64 0] rfl _ _ rfl rfl rfl (by first | exact heap_alloc_new _ _ | (simp only [heap_drew, heap_drewN]; exact heap_alloc_new _ _)) (by simp) rfl rfl (by omega) (by omega) hsz7 ?_; intro v8 w8 hown8 hgrow8 hb8))
    obtain ⟨a8, c8, rfl⟩ := owns_slice hown8
    have hs8 : stps S ++ [.int .i64 10, .int .i64 0, .int .i64 0, .int .i64 0, .int .i64 0, .int .i64 n, .int .i64 0, .int .i64 0] = stps (S ++ [(dlv n)]) := (stps_snoc S (dlv n)).symm
    rw [hs8] at hown8
    have hP : (dlv n) = (if false then ⟨11, 0, 0, 0, 0, (n : Int), 0, 0⟩ else dlv n) := rfl
    have HOLD := Lib.hid (then_old c (wFold c S).1 n HLL.out false (dlv n) hP)
    have HSN := Lib.hid (wFold_snoc c S (dlv n))
    have hl8 : S.length + 1 = (S ++ [(dlv n)]).length := by simp
    have hl102 : (S ++ [(dlv n)]).length ≤ 102 := by simp; omega
    generalize S ++ [(dlv n)] = S8 at *
    generalize S.length + 1 = N8 at *
    subst hl8
    have H8 := Lib.hid (Has.of_owns hown8)
    have HB8 := Lib.hid (HB7.out.trans hb8)
    have hsz8 : W.heap.size ≤ w8.heap.size := Nat.le_trans hsz7 hb8.size
    clear hs8 hP hown8 hgrow8 hb8 z0 z1 z2 z3 z4 z5 z6 z7 HO7 HB7
    go_upto_region 9 with (first | (at_builtin; refine wp_app1 (w0 := w9) 27 48 8 64 _ elStep Tryz.underlying27 w8.heap.size _ _ _ hown9 (by repeat (first | exact Below.refl _ _ | refine Below.drew ?_ | refine Below.alloc ?_ (by first | (simp; done) | (simp; omega)) _ | refine Below.setCell ?_ (by first | (simp; done) | (simp; omega)) _)) [.int .i64 10, .int .i64 0, .int .i64 0, .int .i64 0, .int .i64 0, .int .i64 n, .int .i64 0, .int .i64 0] rfl _ _ rfl rfl rfl (by first | exact heap_alloc_new _ _ | (simp only [heap_drew, heap_drewN]; exact heap_alloc_new _ _)) (by simp) rfl rfl (by omega) (by omega) (Below.size hb9) ?_; intro v10 w10 hown10 hgrow10 hb10) | (refine wp_appN (w0 := w8) 27 48 8 64 _ elStep Tryz.underlying27 w8.heap.size _ _ _ (World.ownsRow_nil _ _ _ _) (by repeat (first | exact Below.refl _ _ | refine Below.drew ?_ | refine Below.alloc ?_ (by first | (simp; done) | (simp; omega)) _ | refine Below.setCell ?_ (by first | (simp; done) | (simp; omega)) _)) _ _ _ H8.out rfl _ _ rfl rfl rfl (stps_all _) (by omega) (by unfold maxLen; omega) (Nat.le_refl _) ?_; intro v9 w9 hown9 hgrow9 hb9))
    rw [List.nil_append, Nat.zero_add] at hown10
    obtain ⟨a10, c10, rfl⟩ := owns_slice hown10
    have hs9 : stps S8 ++ [.int .i64 10, .int .i64 0, .int .i64 0, .int .i64 0, .int .i64 0, .int .i64 n, .int .i64 0, .int .i64 0] = stps (S8 ++ [dlv n]) := (stps_snoc S8 (dlv n)).symm
    rw [hs9] at hown10
    have HEQ : Hid ((wFold c (S8 ++ [dlv n])).1 = (wFold c S8).1) := by (show _ = _; rw [wFold_snoc]; simp only; rw [HSN.out]; exact (old_again c _ n HOLD.out.1).1)
    have HLAST : Hid (∀ i (h : i < (wFold c (S8 ++ [dlv n])).2.length), i = S8.length → ((wFold c (S8 ++ [dlv n])).2[i]'h).code = 10 ∧ ((wFold c (S8 ++ [dlv n])).2[i]'h).frame = []) := fun i h hi => by
      subst hi
      have q := told_at c (S8 ++ [dlv n]) S8.length (by simp)
      rw [List.getElem?_eq_getElem h, Option.some.injEq, List.take_left] at q
      have e : (S8 ++ [dlv n])[S8.length]'(by simp) = dlv n := by simp
      rw [q, e, HSN.out]
      exact (old_again c _ n HOLD.out.1).2
    have hl9 : S8.length + 1 = (S8 ++ [dlv n]).length := by simp
    have hl103 : (S8 ++ [dlv n]).length ≤ 103 := by simp; omega
    have hlast : (S8 ++ [dlv n]).length - 1 = S8.length := by simp
    generalize S8 ++ [dlv n] = S9 at *
    generalize hN9 : S8.length + 1 = N9 at *
    subst hl9
    have hb810 : Below w8.heap.size w8 w10 := hb9.trans hb10
    have HB810 := Lib.hid hb810
    have HB10 := Lib.hid (HB8.out.trans (hb810.mono hsz8))
    have HO10 := Lib.hid hown10
    have HX : Hid (∀ Y, Below W.heap.size W Y → (Y.cell? ⟨B, 0, none⟩ = some (.int .i64 c.n) ∧ Y.cell? ⟨B, 1, none⟩ = some (.slice (some ⟨gl, 0, none⟩) 3 cl) ∧ Y.cell? ⟨B, 2, none⟩ = some (.int .i64 c.ticks) ∧ Y.cell? ⟨B, 3, none⟩ = some (.slice (some ⟨gm, 0, none⟩) 2 2) ∧ Y.cell? ⟨B, 4, none⟩ = some (.int .i64 c.cap))) := fun Y q => ⟨cell_on q x0, cell_on q x1, cell_on q x2, cell_on q x3, cell_on q x4⟩
    have CE : Hid (∀ (Y : World) (v : Value) (T : List Stp), Below W.heap.size W Y → Has Y 8 v T.length (stps T) → T.length ≤ 300 → _) := fun Y v T hY hv hT => cended Hok.out hn4.out hit.out hlb.out (HR.out.on hY) v T hv hT
    unfold Cfg.cells at CE
    have C9 := Lib.hid (CE.out w10 (.slice a8 S8.length c8) S8 HB10.out (H8.out.below hb810) (by omega))
    obtain ⟨y0, y1, y2, y3, y4⟩ := HX.out w10 HB10.out
    clear hs9 hown9 hown10 hgrow9 hgrow10 hb9 hb10 hb810 x0 x1 x2 x3 x4 HSN HOLD
    go_wp2_with fail
    refine C9.out.mono ?_
    rintro e w11 ⟨r1', p1', t1', pv1, tv1, ev1, rfl, hE1, hb11⟩
    have HE1 := Lib.hid hE1
    have HB11 := Lib.hid (HB10.out.trans (hb11.mono HB10.out.size))
    have H911 := Lib.hid hb11
    have C10 := Lib.hid (CE.out w11 (.slice a10 S9.length c10) S9 HB11.out ((Has.of_owns HO10.out).below hb11) (by omega))
    clear y0 y1 y2 y3 y4 C9
    obtain ⟨y0, y1, y2, y3, y4⟩ := HX.out w11 HB11.out
    clear hE1 hb11
    go_wp2_with fail
    refine C10.out.mono ?_
    rintro e w12 ⟨r2', p2', t2', pv2, tv2, ev2, rfl, hE2, hb12⟩
    rw [HEQ.out] at hE2
    have HE2 := Lib.hid hE2
    have HE1b := Lib.hid (HE1.out.on hb12)
    have HB12 := Lib.hid (HB11.out.trans (hb12.mono HB11.out.size))
    have H912 := Lib.hid (H911.out.trans (hb12.mono H911.out.size))
    clear hE2 hb12 C10 HE1 y0 y1 y2 y3 y4
    obtain ⟨y0, y1, y2, y3, y4⟩ := HX.out w12 HB12.out
    have HST := Lib.hid ((Has.of_owns HO10.out).below H912.out)
    have HR12 := Lib.hid (HR.out.on HB12.out)
    have CP : Hid (∀ (Y : World) (v : Value), Rdy Y c (.slice (some ⟨gl, 0, none⟩) 3 cl) (.slice (some ⟨gm, 0, none⟩) 2 2) → Y.ownsRow w12.heap.size 48 8 v S9.length (stps S9) → _) := fun Y v hY hv => cPlayR Hok.out hY v S9 (Has.of_owns hv) (inF_owns hv) (by omega)
    unfold Cfg.cells at CP
    go_upto_region 11 with (fail)
    go_cut [28, 29] (fun o e wx => ∃ oa oc sv fv rv, o = .slice oa S9.length oc ∧ e = .int .i64 0 ∧ Hid (TldsH wx (.slice oa S9.length oc) (wFold c S9).2 sv fv rv) ∧ Hid (Below w12.heap.size w12 wx))
    case first =>
      go_region_held3 (fun Z => Z.cell? ⟨B, 0, none⟩ = some (.int .i64 c.n) ∧ Z.cell? ⟨B, 1, none⟩ = some (.slice (some ⟨gl, 0, none⟩) 3 cl) ∧ Z.cell? ⟨B, 2, none⟩ = some (.int .i64 c.ticks) ∧ Z.cell? ⟨B, 3, none⟩ = some (.slice (some ⟨gm, 0, none⟩) 2 2) ∧ Z.cell? ⟨B, 4, none⟩ = some (.int .i64 c.cap))
        (first | with_reducible exact ⟨j0, j1, j2, j3, j4⟩ | with_reducible exact ⟨i0, i1, i2, i3, i4⟩ | go_keep)
        ((first | (refine step_appN (w0 := w12) (wanted_of_none (by rfl)) 27 48 8 64 _ elStep Tryz.underlying27 w12.heap.size (.slice none 0 0) 0 [] (World.ownsRow_nil _ _ _ _) (by repeat (first | exact Below.refl _ _ | refine Below.drew ?_ | refine Below.alloc ?_ (by first | (simp; done) | (simp; omega)) _ | refine Below.setCell ?_ (by first | (simp; done) | (simp; omega)) _)) _ S9.length (stps S9) (HST.out.below (by repeat (first | exact Below.refl _ _ | refine Below.drew ?_ | refine Below.alloc ?_ (by first | (simp; done) | (simp; omega)) _ | refine Below.setCell ?_ (by first | (simp; done) | (simp; omega)) _))) _ _ (by rfl) (by rfl) (by rfl) (stps_all _) (by omega) (by unfold maxLen; omega) (Nat.le_refl _) ?_; intro v16 w16 hown16 hgrow16 hb16; rw [Nat.zero_add, List.nil_append] at hown16; have HO16 := Lib.hid hown16; have HB16 := Lib.hid hb16; have i0 := cell_on hb16 y0; have i1 := cell_on hb16 y1; have i2 := cell_on hb16 y2; have i3 := cell_on hb16 y3; have i4 := cell_on hb16 y4; clear hown16 hgrow16 hb16) | (go_at_call 20; refine (CP.out _ _ (HR12.out.on HB16.out) HO16.out).mono ?_; rintro e w17 ⟨out, sv, fv, rv, rfl, hT, hb17⟩; have j0 := cell_on hb17 i0; have j1 := cell_on hb17 i1; have j2 := cell_on hb17 i2; have j3 := cell_on hb17 i3; have j4 := cell_on hb17 i4; have HT17 := Lib.hid hT; have HB17 := Lib.hid (HB16.out.trans (hb17.mono HB16.out.size)); clear hT hb17)))
      all_goals
        go_wp2_with fail
        go_meet
        obtain ⟨_, oa, oc, he, _⟩ := HT17.out.row
        rw [wFold_len] at he
        subst he
        exact ⟨oa, oc, sv, fv, rv, rfl, rfl, HT17, HB17⟩
    case rest =>
    obtain ⟨oa, oc, sv, fv, rv, rfl, rfl, HT, HB17⟩ := hcut
    have hTL : (wFold c S9).2.length = S9.length := wFold_len c S9
    have hK : S8.length < (wFold c S9).2.length := by omega
    obtain ⟨hcode, hframe⟩ := HLAST.out S8.length hK rfl
    obtain ⟨tb, td, tcap, he, htc1, htc2, hcell⟩ := HT.out.at S8.length hK
    simp only [Value.slice.injEq] at he
    obtain ⟨rfl, -, rfl⟩ := he
    have zc := hcell 0 _ (by omega) rfl
    rw [Nat.add_zero, hcode] at zc
    have zf := hcell 9 _ (by omega) rfl
    have hfr := HT.out.f S8.length hK
    rw [hframe] at hfr
    obtain ⟨fa, fc, hfv⟩ : ∃ a cap, fv S8.length = .slice a 0 cap := by obtain ⟨_, a, cap, he, _⟩ := hfr; exact ⟨a, cap, he⟩
    rw [hfv] at zf
    have hwl : IntKind.i64.wrap ((S9.length : Int) - 1) = ((S8.length : Nat) : Int) := by rw [IntWalk.i64_in _ (by omega)]; omega
    have hKz : ((S8.length : Nat) : Int) < (S9.length : Int) := by omega
    rw [hTL] at htc1
    unfold maxLen at htc2
    have hres : resC (wFold c S8).1 c.items = ints ((List.range c.items).map fun k => ((wFold c S8).1.bk k).res) := by simp [resC, ints]
    have hb1217 := HB17.out
    have R1 := (HE1b.out.on hb1217).r
    have R2 := (HE2.out.on hb1217).r
    rw [hres] at R1 R2
    have CI := Lib.hid (csameInts r1' r2' _ _ wc (by rw [List.length_map, List.length_range]; exact R1) (by rw [List.length_map, List.length_range]; exact R2))
    have HP1 := Lib.hid (HE1b.out.on hb1217)
    have HP2 := Lib.hid (HE2.out.on hb1217)
    have HBW := Lib.hid (Hb2.out.trans ((HB12.out.trans (HB17.out.mono HB12.out.size)).mono Hb2.out.size))
    clear hcell hcode hframe hfr hfv hTL hK hres R1 R2 hb1217 HT y0 y1 y2 y3 y4 CP HE1b HE2 HB17
    go_wp2_with fail
    refine CI.out.mono ?_
    rintro e W20 ⟨rfl, hb20⟩
    have HA := Lib.hid (HP1.out.on hb20)
    have HM := Lib.hid (HP2.out.on hb20)
    have HB20 := Lib.hid (HBW.out.trans (hb20.mono HBW.out.size))
    obtain ⟨pb, po, pc, rfl, ⟨hpc1, hpc2⟩, hpa⟩ := HA.out.pcell hn4.out hit.out
    obtain ⟨mb, mo, mc, rfl, ⟨hmc1, hmc2⟩, hpm⟩ := HM.out.pcell hn4.out hit.out
    obtain ⟨ub, uo, uc, rfl, ⟨huc1, huc2⟩, hta⟩ := HA.out.tcell hn4.out hlb.out
    obtain ⟨wb, wo, wc2, rfl, ⟨hwc1, hwc2⟩, htm⟩ := HM.out.tcell hn4.out hlb.out
    have HPA := Lib.hid hpa
    have HPM := Lib.hid hpm
    have HTA := Lib.hid hta
    have HTM := Lib.hid htm
    clear hb20 CI zc zf hpa hpm hta htm hwl hKz htc1 htc2
    go_wp2_with fail
    go_loopw [30] (fun i wr => ∃ k : Nat, k ≤ 4 ∧ i = .int .i64 k ∧ Hid (Below W20.heap.size W20 wr)) (fun i _ => 4 - (intOf i).toNat)
    case atStart => exact ⟨0, by omega, rfl, Below.refl _ _⟩
    case round =>
      obtain ⟨k, hk, rfl, HB⟩ := hrel
      by_cases hlt : k < 4
      · have hltz : (k : Int) < 4 := by omega
        have HLT := Lib.hid hlt
        obtain ⟨ya, xb1, xo1, xc1, hv1, ⟨hx1, hx1'⟩, hc1⟩ := HPA.out k hlt
        obtain ⟨ym, xb2, xo2, xc2, hv2, ⟨hx2, hx2'⟩, hc2⟩ := HPM.out k hlt
        obtain ⟨ta, xb3, xo3, xc3, hv3, ⟨hx3, hx3'⟩, hc3⟩ := HTA.out k hlt
        obtain ⟨tm, xb4, xo4, xc4, hv4, ⟨hx4, hx4'⟩, hc4⟩ := HTM.out k hlt
        rw [hv1] at ya
        rw [hv2] at ym
        rw [hv3] at ta
        rw [hv4] at tm
        have HC1 := Lib.hid hc1
        have HC2 := Lib.hid hc2
        have HC3 := Lib.hid hc3
        have HC4 := Lib.hid hc4
        have YA := Lib.hid ya
        have YM := Lib.hid ym
        have TA := Lib.hid ta
        have TM := Lib.hid tm
        clear hlt hk hv1 hv2 hv3 hv4 hc1 hc2 hc3 hc4 ya ym ta tm
        go_upto_region 18 with (fail)
        go_loopw [31] (fun i wr => ∃ j : Nat, j ≤ 2 ∧ i = .int .i64 j ∧ Hid (Below W20.heap.size W20 wr)) (fun i _ => 2 - (intOf i).toNat)
        case atStart => exact ⟨0, by omega, rfl, HB⟩
        case round =>
          clear HB
          obtain ⟨j, hj, rfl, HB⟩ := hrel
          by_cases hlt : j < 2
          · have hjz : (j : Int) < 2 := by omega
            have HJ := Lib.hid hlt
            have ya := cell_on HB.out YA.out
            have ym := cell_on HB.out YM.out
            have za : ∀ m u, m < 6 → (purse (wFold c S8).1 k j)[m]? = some u → wr.cell? ⟨xb1, xo1 + j * 6 + m, none⟩ = some u := fun m u hm hu => cell_on HB.out (HC1.out j hlt m u hm hu)
            have zm : ∀ m u, m < 6 → (purse (wFold c S8).1 k j)[m]? = some u → wr.cell? ⟨xb2, xo2 + j * 6 + m, none⟩ = some u := fun m u hm hu => cell_on HB.out (HC2.out j hlt m u hm hu)
            have z0 := za 0 _ (by omega) rfl
            rw [Nat.add_zero] at z0
            have z1 := za 1 _ (by omega) rfl
            have z2 := za 2 _ (by omega) rfl
            have z3 := za 3 _ (by omega) rfl
            have z4 := za 4 _ (by omega) rfl
            have z5 := za 5 _ (by omega) rfl
            have o0 := zm 0 _ (by omega) rfl
            rw [Nat.add_zero] at o0
            have o1 := zm 1 _ (by omega) rfl
            have o2 := zm 2 _ (by omega) rfl
            have o3 := zm 3 _ (by omega) rfl
            have o4 := zm 4 _ (by omega) rfl
            have o5 := zm 5 _ (by omega) rfl
            clear za zm hlt hj
            generalize (wFold c S8).1.asks k j = A at *
            generalize ((wFold c S8).1.sh k j).free = F at *
            generalize ((wFold c S8).1.sh k j).held = H at *
            generalize ((wFold c S8).1.sh k j).used = U at *
            go_upto_region 20 with (fail)
            go_quiet (fail)
            go_wp2_with fail
            go_roundw
            case rel => exact ⟨j + 1, HJ.out, by go_num, below_drewN HB.out _⟩
            case measure => have := HJ.out; first | (simp [intOf]; done) | (simp [intOf]; omega)
          · obtain rfl : j = 2 := by omega
            clear hlt hj
            go_upto_region 23 with (fail)
            go_loopw [32] (fun i wr => ∃ j : Nat, j ≤ 3 ∧ i = .int .i64 j ∧ Hid (Below W20.heap.size W20 wr)) (fun i _ => 3 - (intOf i).toNat)
            case atStart => exact ⟨0, by omega, rfl, HB⟩
            case round =>
              clear HB
              obtain ⟨j, hj, rfl, HB⟩ := hrel
              by_cases hlt : j < 3
              · have hjz : (j : Int) < 3 := by omega
                have HJ := Lib.hid hlt
                have p1 := ext_cell (cell_on HB.out TA.out)
                have p2 := ext_cell (cell_on HB.out TM.out)
                have p3 := ext_cell (cell_on HB.out (HC3.out j hlt))
                have p4 := ext_cell (cell_on HB.out (HC4.out j hlt))
                have E1 := HA.out.ee k j (by rw [hn4.out]; exact HLT.out) (by rw [hlb.out]; exact hlt)
                have E2 := HM.out.ee k j (by rw [hn4.out]; exact HLT.out) (by rw [hlb.out]; exact hlt)
                have CS : Hid (∀ X : Ext wr, Calls Tryz.prog 17 #[ev1 k j, ev2 k j] X.1 fun e w' => e = .returned (.bool true) ∧ Below X.1.heap.size X.1 w') := fun X =>
                  csameEntries _ _ _ X.1 (E1.below (HB.out.trans (X.2.mono HB.out.size))) (E2.below (HB.out.trans (X.2.mono HB.out.size)))
                have Fin : Hid (∀ w8, Below wr.heap.size wr w8 → Hid (Below W20.heap.size W20 w8)) := fun w8 hb8 => HB.out.trans (hb8.mono HB.out.size)
                clear hlt hj E1 E2
                go_upto_region 25 with (fail)
                refine wp_region_grow (by kernel_rfl) (by kernel_rfl) ?_
                repeat (go_big_quiet_step ((go_at_call 17; with_reducible exact grow_of (CS.out _))))
                refine wpQuiet_nil ?_
                intro w8' hb8'
                have HB8' := Fin.out _ hb8'
                clear hb8' Fin CS p1 p2 p3 p4
                go_wp2_with fail
                go_roundw
                case rel => exact ⟨j + 1, HJ.out, by go_num, HB8'⟩
                case measure => have := HJ.out; first | (simp [intOf]; done) | (simp [intOf]; omega)
              · obtain rfl : j = 3 := by omega
                go_wp2_with fail
                go_roundw
                case rel => exact ⟨k + 1, HLT.out, by go_num, HB⟩
                case measure => have := HLT.out; first | (simp [intOf]; done) | (simp [intOf]; omega)
      · obtain rfl : k = 4 := by omega
        go_wp2_with fail
        go_ret
        exact ⟨rfl, HB20.out.trans (HB.out.mono HB20.out.size)⟩
end Go.Proofs.YtjdedflfdlhkdaaGreatDoor.worldOld
