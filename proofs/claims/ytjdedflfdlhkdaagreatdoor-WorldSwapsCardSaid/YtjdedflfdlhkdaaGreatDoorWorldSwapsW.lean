/- WorldSwaps: the walk. -/
import Derived.Deep.RegionHeld3
import Derived.BigQuiet
import Derived.Test.YtjdedflfdlhkdaaGreatDoorWEnded
import Derived.Test.YtjdedflfdlhkdaaGreatDoorWSure
import Derived.Test.YtjdedflfdlhkdaaGreatDoorSwapM
import Derived.Test.YtjdedflfdlhkdaaGreatDoorSameI
import Derived.Test.YtjdedflfdlhkdaaGreatDoorSame
import Derived.Test.YtjdedflfdlhkdaaGreatDoorSameE
import Derived.Test.YtjdedflfdlhkdaaGreatDoorPurGet
import Derived.Test.YtjdedflfdlhkdaaGreatDoorWorldSwapsR6
import Derived.Test.YtjdedflfdlhkdaaGreatDoorWorldSwapsR7
import Derived.Test.YtjdedflfdlhkdaaGreatDoorWorldSwapsR14
import Derived.Test.YtjdedflfdlhkdaaGreatDoorWorldSwapsR15
import Derived.Test.YtjdedflfdlhkdaaGreatDoorWorldSwapsR16
namespace Go.Proofs.YtjdedflfdlhkdaaGreatDoor.worldSwaps
open Go.ChangeShapes Go.WideShapes Go.ChangeAt Go.RowKit
set_option linter.unusedVariables false
set_option linter.unusedSimpArgs false

set_option maxRecDepth 100000 in
set_option maxHeartbeats 32000000 in
theorem walk (w : World) (hL : OrdVar w) (v0 : Value) (ls : List Int) (A0 : Has w 1 v0 ls.length (ints ls) ∧ ∀ x ∈ ls, -9223372036854775808 ≤ x ∧ x ≤ 9223372036854775807) (a1 a2 a3 : Int) (v4 : Value) (l : List Stp) (A4 : Has w 8 v4 l.length (stps l)) (a5 a6 : Int) (v7 : Value) (m : List Stp) (A7 : Has w 8 v7 m.length (stps m))
    (wf1 : (Lit.int .i64 a1).wf = true) (wf2 : (Lit.int .i64 a2).wf = true) (wf3 : (Lit.int .i64 a3).wf = true) (wf5 : (Lit.int .i64 a5).wf = true) (wf6 : (Lit.int .i64 a6).wf = true) :
    Calls Tryz.prog 6 #[v0, .int .i64 a1, .int .i64 a2, .int .i64 a3, v4, .int .i64 a5, .int .i64 a6, v7] w fun e w' => e = .returned (.bool true) ∧ Below w.heap.size w w' := by
  have C0 := Lib.hid (cConfigR hL a1 a2 a3 A0.1 wf2)
  have H4 := Lib.hid A4
  have H7 := Lib.hid A7
  have Hok := Lib.hid (cfgOf_ok ls a1 a2 a3)
  have hn4 : Hid ((cfgOf ls a1 a2 a3).n = 4) := (rfl : _ = _)
  have hlb : Hid ((cfgOf ls a1 a2 a3).labs.length = 3) := (labsK_len ls 3 : _ = _)
  have hit : Hid ((cfgOf ls a1 a2 a3).items = 2) := (rfl : _ = _)
  generalize cfgOf ls a1 a2 a3 = c at *
  obtain ⟨_, q1, r1, rfl, _, _, _⟩ := A4
  obtain ⟨_, q7, r7, rfl, _, _, _⟩ := A7
  have hM : (stepsOf (m.take 40)).length ≤ 40 := by rw [stepsOf_len, List.length_take]; omega
  have hS : (stepsOf (l.take 80)).length ≤ 80 := by rw [stepsOf_len, List.length_take]; omega
  have hstp : stps (stepsOf (l.take 80)) ++ [.int .i64 9, .int .i64 0, .int .i64 0, .int .i64 0, .int .i64 0, .int .i64 0, .int .i64 0, .int .i64 0] = stps (stepsOf (l.take 80) ++ [tk9]) := (stps_snoc _ tk9).symm
  have htk : 1 ≤ ticksIn (stepsOf (l.take 80) ++ [tk9]) ∧ ticksIn (stepsOf (l.take 80) ++ [tk9]) ≤ 81 := by
    refine ⟨by rw [ticksIn_snoc]; simp [tk9], ?_⟩
    have := ticksIn_le (stepsOf (l.take 80) ++ [tk9]); simp at this; omega
  have hlls := ls_len c hn4.out (stepsOf (l.take 80) ++ [tk9])
  have hNs : (stepsOf (l.take 80)).length + 1 = (stepsOf (l.take 80) ++ [tk9]).length := by simp
  have HSTP := Lib.hid hstp
  have hS101 : (stepsOf (l.take 80) ++ [tk9]).length ≤ 81 := by rw [List.length_append]; simp; omega
  clear A0 wf1 wf2 wf3 wf5 wf6 hL hstp
  unfold Cfg.cells at C0
  go_enter Tryz.func6, Tryz.ntmps6
  go_wp2_with fail
  refine C0.out.mono ?_
  rintro e w1 ⟨gl, cl, gm, rfl, hR, hb1⟩
  have hbx := cfg_box w1 c (.slice (some ⟨gl, 0, none⟩) 3 cl) (.slice (some ⟨gm, 0, none⟩) 2 2)
  obtain ⟨x0, x1, x2, x3, x4⟩ := cfg_at (heap_alloc_new w1 (.cells (c.cells (.slice (some ⟨gl, 0, none⟩) 3 cl) (.slice (some ⟨gm, 0, none⟩) 2 2)) 25))
  have HR := Lib.hid (hR.on hbx)
  have hb2 := hb1.trans (hbx.mono hb1.size)
  have CS := Lib.hid (cStepsOf _ l 80 _ (H4.out.below hb2) (by omega))
  have Hb2 := Lib.hid hb2
  unfold Cfg.cells at x0 x1 x2 x3 x4 HR CS Hb2
  have CSM := Lib.hid (fun (Y : World) (hY : Below (w1.alloc (.cells (c.cells (.slice (some ⟨gl, 0, none⟩) 3 cl) (.slice (some ⟨gm, 0, none⟩) 2 2)) 25)).heap.size (w1.alloc (.cells (c.cells (.slice (some ⟨gl, 0, none⟩) 3 cl) (.slice (some ⟨gm, 0, none⟩) 2 2)) 25)) Y) => cStepsOf _ m 40 Y ((H7.out.below hb2).below hY) (by omega))
  unfold Cfg.cells at CSM
  clear hbx hb1 hb2 C0 H4 H7 hR
  go_upto_region 2 with (fail)
  generalize (w1.alloc (.cells #[.int .i64 c.n, .slice (some ⟨gl, 0, none⟩) 3 cl, .int .i64 c.ticks, .slice (some ⟨gm, 0, none⟩) 2 2, .int .i64 c.cap] 25)) = W at *
  generalize w1.heap.size = B at *
  go_wp2_with fail
  refine CS.out.mono ?_
  rintro e w3 ⟨v3, rfl, hown3, hb3⟩
  obtain ⟨a3', c3, rfl⟩ := owns_slice hown3
  have HO3 := Lib.hid hown3
  have HB3 := Lib.hid hb3
  have hsz3 := hb3.size
  generalize (stepsOf (l.take 80)).length = n3 at *
  clear CS hown3
  go_upto_region 3 with ((at_builtin; refine wp_app1 (w0 := w3) 27 48 8 64 _ elStep Tryz.underlying27 W.heap.size _ _ _ HO3.out (by repeat (first | exact Below.refl _ _ | refine Below.drew ?_ | refine Below.alloc ?_ (by first | (simp; done) | (simp; omega)) _ | refine Below.setCell ?_ (by first | (simp; done) | (simp; omega)) _)) [.int .i64 9, .int .i64 0, .int .i64 0, .int .i64 0, .int .i64 0, .int .i64 0, .int .i64 0, .int .i64 0] rfl _ _ rfl rfl rfl (by first | exact heap_alloc_new _ _ | (simp only [heap_drew, heap_drewN]; exact heap_alloc_new _ _)) (by simp) rfl rfl (by omega) (by omega) hsz3 ?_; intro v5 w5 hown5 hgrow5 hb5))
  obtain ⟨a5', c5, rfl⟩ := owns_slice hown5
  rw [HSTP.out] at hown5
  clear HSTP
  generalize stepsOf (l.take 80) ++ [tk9] = S at *
  generalize n3 + 1 = N at *
  subst hNs
  have hbW5 : Below W.heap.size W w5 := HB3.out.trans hb5
  have HBW5 := Lib.hid hbW5
  have HO5 := Lib.hid hown5
  have hsz5 := hbW5.size
  clear HO3 HB3 hsz3 hgrow5 hb5 hown5 hb3
  -- the frame's number
  have CF := Lib.hid (cFrames _ S w5 (Has.of_owns HO5.out) (by omega))
  obtain ⟨F0, hF0⟩ : ∃ n, n = 20 * ticksIn S := ⟨_, rfl⟩
  rw [← hF0] at CF hlls
  have hFb : 20 ≤ F0 ∧ F0 ≤ 2020 := by omega
  have CPx := Lib.hid fun X => picked a5 (F0 : Int) (by omega) (by omega) X
  have CPy := Lib.hid fun X => picked a6 (F0 : Int) (by omega) (by omega) X
  obtain ⟨hx0, hx1⟩ := pick_bd a5 (F0 : Int) (by omega)
  obtain ⟨hy0, hy1⟩ := pick_bd a6 (F0 : Int) (by omega)
  obtain ⟨nx, hnx⟩ := Int.eq_ofNat_of_zero_le hx0
  obtain ⟨ny, hny⟩ := Int.eq_ofNat_of_zero_le hy0
  rw [hnx] at CPx hx1
  rw [hny] at CPy hy1
  have HSW := Lib.hid (swap_ok c S nx ny (by rw [hlls]; omega) (by rw [hlls]; omega))
  clear hnx hny hx0 hx1 hy0 hy1 hF0 hlls htk
  go_upto_region 4 with (go_at_call 19; refine CF.out.mono ?_; rintro e w' ⟨rfl, rfl⟩)
  go_upto_region 5 with (go_at_call 18; refine (CPx.out _).mono ?_; rintro e w' ⟨rfl, rfl⟩)
  have h6 : (w5.alloc (.cells #[.int .i64 10, .int .i64 0, .int .i64 0, .int .i64 0, .int .i64 0, .int .i64 nx, .int .i64 0, .int .i64 0] 48)).heap[w5.heap.size]? = some (.cells #[.int .i64 10, .int .i64 0, .int .i64 0, .int .i64 0, .int .i64 0, .int .i64 nx, .int .i64 0, .int .i64 0] 48 (0, 0)) := heap_alloc_new _ _
  have hb6 : Below w5.heap.size w5 (w5.alloc (.cells #[.int .i64 10, .int .i64 0, .int .i64 0, .int .i64 0, .int .i64 0, .int .i64 nx, .int .i64 0, .int .i64 0] 48)) := (Below.refl _ _).alloc (Nat.le_refl _) _
  generalize (w5.alloc (.cells #[.int .i64 10, .int .i64 0, .int .i64 0, .int .i64 0, .int .i64 0, .int .i64 nx, .int .i64 0, .int .i64 0] 48)) = w6 at *
  obtain ⟨px0, px1, px2, px3, px4, px5, px6, px7⟩ := eight_at h6
  obtain ⟨BX, hBX⟩ : ∃ z, z = w5.heap.size := ⟨_, rfl⟩
  rw [← hBX] at px0 px1 px2 px3 px4 px5 px6 px7 ⊢
  have HO6 := Lib.hid (owns_below HO5.out hb6)
  have HB6 := Lib.hid (HBW5.out.trans (hb6.mono hsz5))
  clear h6 hb6 hBX HBW5 HO5 hsz5 CF CPx
  go_upto_region 6 with (go_at_call 18; refine (CPy.out _).mono ?_; rintro e w' ⟨rfl, rfl⟩)
  have h7 : (w6.alloc (.cells #[.int .i64 10, .int .i64 0, .int .i64 0, .int .i64 0, .int .i64 0, .int .i64 ny, .int .i64 0, .int .i64 0] 48)).heap[w6.heap.size]? = some (.cells #[.int .i64 10, .int .i64 0, .int .i64 0, .int .i64 0, .int .i64 0, .int .i64 ny, .int .i64 0, .int .i64 0] 48 (0, 0)) := heap_alloc_new _ _
  have hb7 : Below w6.heap.size w6 (w6.alloc (.cells #[.int .i64 10, .int .i64 0, .int .i64 0, .int .i64 0, .int .i64 0, .int .i64 ny, .int .i64 0, .int .i64 0] 48)) := (Below.refl _ _).alloc (Nat.le_refl _) _
  generalize (w6.alloc (.cells #[.int .i64 10, .int .i64 0, .int .i64 0, .int .i64 0, .int .i64 0, .int .i64 ny, .int .i64 0, .int .i64 0] 48)) = w7 at *
  obtain ⟨y0, y1, y2, y3, y4, y5, y6, y7⟩ := eight_at h7
  obtain ⟨BY, hBY⟩ : ∃ z, z = w6.heap.size := ⟨_, rfl⟩
  rw [← hBY] at y0 y1 y2 y3 y4 y5 y6 y7 ⊢
  have HO7 := Lib.hid (owns_below HO6.out hb7)
  have HB7 := Lib.hid (HB6.out.trans (hb7.mono HB6.out.size))
  have HXY : Hid (∀ Y, Below w7.heap.size w7 Y → SPd c gl cl gm B BX BY nx ny Y) := fun Y q => ⟨cell_on (HB7.out.trans (q.mono HB7.out.size)) x0, cell_on (HB7.out.trans (q.mono HB7.out.size)) x1, cell_on (HB7.out.trans (q.mono HB7.out.size)) x2, cell_on (HB7.out.trans (q.mono HB7.out.size)) x3, cell_on (HB7.out.trans (q.mono HB7.out.size)) x4,
    cell_on q (cell_on hb7 px0), cell_on q (cell_on hb7 px1), cell_on q (cell_on hb7 px2), cell_on q (cell_on hb7 px3), cell_on q (cell_on hb7 px4), cell_on q (cell_on hb7 px5), cell_on q (cell_on hb7 px6), cell_on q (cell_on hb7 px7),
    cell_on q y0, cell_on q y1, cell_on q y2, cell_on q y3, cell_on q y4, cell_on q y5, cell_on q y6, cell_on q y7⟩
  have CP : Hid (∀ (Y : World) (v : Value) (b0 : Nat) (T : List Stp), Rdy Y c (.slice (some ⟨gl, 0, none⟩) 3 cl) (.slice (some ⟨gm, 0, none⟩) 2 2) → Y.ownsRow b0 48 8 v T.length (stps T) → T.length ≤ 300 → _) := fun Y v b0 T hY hv hT => cPlayR Hok.out hY v T (Has.of_owns hv) (inF_owns hv) hT
  unfold Cfg.cells at CP
  have CE : Hid (∀ (Y : World) (v : Value) (T : List Stp), Below W.heap.size W Y → Has Y 8 v T.length (stps T) → T.length ≤ 300 → _) := fun Y v T hY hv hT => cended Hok.out hn4.out hit.out hlb.out (HR.out.on hY) v T hv hT
  unfold Cfg.cells at CE
  have HST := Lib.hid (Has.of_owns HO7.out)
  clear h7 hb7 hBY HB6 HO6 CPy HO7 px0 px1 px2 px3 px4 px5 px6 px7 y0 y1 y2 y3 y4 y5 y6 y7 x0 x1 x2 x3 x4
  have HB77 := Lib.hid (Below.refl w7.heap.size w7)
  have HX0 : Hid (∀ Y, Below w7.heap.size w7 Y → SPd c gl cl gm B BX BY nx ny Y) := fun Y q => HXY.out Y (HB77.out.trans (q.mono HB77.out.size))
  have HW0 := Lib.hid (HB7.out.trans (HB77.out.mono HB7.out.size))
  have HR0 := Lib.hid (HR.out.on HW0.out)
  have HS0 := Lib.hid (HST.out.below HB77.out)
  go_upto_region 6 with (fail)
  go_cut [22, 23] from 39 (fun o e wx => ∃ oa oc sv fv rv, o = .slice oa (S.length + 2) oc ∧ e = .int .i64 0 ∧ Hid (TldsH wx (.slice oa (S.length + 2) oc) (wFold c (S ++ [dlv nx, dlv ny])).2 sv fv rv) ∧ Hid (Below w7.heap.size w7 wx))
  case first =>
    rename_i J K' h1 h2
    exact reg6 c Hok S hS101 nx ny gl cl gm B BX BY a5' c5 w7 HR0 HS0 HX0 K' _ (fun a w h => h2 a w (Met.intro (h1 a w h)))
  case rest =>
  clear HX0 HW0 HR0 HS0
  obtain ⟨oa, oc, sv, fv, rv, rfl, rfl, HT1, HB8⟩ := hcut
  clear HB77
  generalize wc = w8 at *
  have HX0 : Hid (∀ Y, Below w8.heap.size w8 Y → SPd c gl cl gm B BX BY nx ny Y) := fun Y q => HXY.out Y (HB8.out.trans (q.mono HB8.out.size))
  have HW0 := Lib.hid (HB7.out.trans (HB8.out.mono HB7.out.size))
  have HR0 := Lib.hid (HR.out.on HW0.out)
  have HS0 := Lib.hid (HST.out.below HB8.out)
  go_upto_region 7 with (fail)
  go_cut [24, 25] from 39 (fun o e wx => ∃ oa oc sv fv rv, o = .slice oa (S.length + 2) oc ∧ e = .int .i64 0 ∧ Hid (TldsH wx (.slice oa (S.length + 2) oc) (wFold c (S ++ [dlv ny, dlv nx])).2 sv fv rv) ∧ Hid (Below w8.heap.size w8 wx))
  case first =>
    rename_i J K' h1 h2
    exact reg7 c Hok S hS101 nx ny gl cl gm B BX BY a5' c5 w8 HR0 HS0 HX0 K' _ (fun a w h => h2 a w (Met.intro (h1 a w h)))
  case rest =>
  clear HX0 HW0 HR0 HS0
  obtain ⟨ob, od, su, fu, ru, rfl, rfl, HU1, HB9⟩ := hcut
  generalize wc = w9 at *
  have HB79 := Lib.hid (HB8.out.trans (HB9.out.mono HB8.out.size))
  have HTt := Lib.hid (HT1.out.on HB9.out)
  have HW9 := Lib.hid (HB7.out.trans (HB79.out.mono HB7.out.size))
  have CW := Lib.hid (cWorldSure w9 (HR.out.on HW9.out).od)
  have hw2 : IntKind.i64.wrap ((S.length : Int) + 2) = (S.length : Int) + 2 := IntWalk.i64_in _ (by omega)
  clear HT1 HB8 HB9 CP
  go_wp2_with fail
  refine CW.out.mono ?_
  rintro e w10 ⟨rfl, hb10⟩
  have HB710 := Lib.hid (HB79.out.trans (hb10.mono HB79.out.size))
  have HTw := Lib.hid (HTt.out.on hb10)
  have HUw := Lib.hid (HU1.out.on hb10)
  clear CW hb10 HTt HU1 HB79 HW9 hw2
  go_upto_region 11 with (fail)
  have hTL : (wFold c (S ++ [dlv nx, dlv ny])).2.length = S.length + 2 := by rw [wFold_len, List.length_append]; rfl
  have hUL : (wFold c (S ++ [dlv ny, dlv nx])).2.length = S.length + 2 := by rw [wFold_len, List.length_append]; rfl
  obtain ⟨N1, hN1⟩ : ∃ z, z = S.length + 1 := ⟨_, rfl⟩
  have hwk1 : IntKind.i64.wrap ((S.length : Int) + 1) = (N1 : Int) := by rw [IntWalk.i64_in _ (by omega)]; omega
  have hk1z : (N1 : Int) < (S.length : Int) + 2 := by omega
  have hk0z : (S.length : Int) < (S.length : Int) + 2 := by omega
  have hT0 := HSW.out.t0 (by omega)
  have hT1 := HSW.out.t1 (by omega)
  have hA := fun q => HSW.out.a q (by omega) (by omega)
  have hBb := fun q => HSW.out.b q (by omega) (by omega)
  have hEe := HSW.out.e
  generalize (wFold c S).1.to' nx = ta at *
  generalize (wFold c S).1.to' ny = tb' at *
  have HEE := Lib.hid hEe
  clear hEe HSW
  have hK0T : S.length < (wFold c (S ++ [dlv nx, dlv ny])).2.length := by omega
  have hK1T : N1 < (wFold c (S ++ [dlv nx, dlv ny])).2.length := by omega
  have hK0U : S.length < (wFold c (S ++ [dlv ny, dlv nx])).2.length := by omega
  have hK1U : N1 < (wFold c (S ++ [dlv ny, dlv nx])).2.length := by omega
  replace hT1 : ((wFold c (S ++ [dlv nx, dlv ny])).2[N1]'hK1T).who = ((tb' : Nat) : Int) := by subst hN1; exact hT1
  replace hA : ta ≠ tb' → (wFold c (S ++ [dlv nx, dlv ny])).2[S.length]'hK0T = (wFold c (S ++ [dlv ny, dlv nx])).2[N1]'hK1U := by subst hN1; exact hA
  replace hBb : ta ≠ tb' → (wFold c (S ++ [dlv nx, dlv ny])).2[N1]'hK1T = (wFold c (S ++ [dlv ny, dlv nx])).2[S.length]'hK0U := by subst hN1; exact hBb
  clear hN1
  obtain ⟨tb, td, tcap, he, htc1, htc2, hct0⟩ := HTw.out.at S.length hK0T
  rw [hTL] at he htc1
  simp only [Value.slice.injEq] at he
  obtain ⟨rfl, -, rfl⟩ := he
  obtain ⟨tb2, td2, tcap2, he, -, -, hct1⟩ := HTw.out.at N1 hK1T
  simp only [Value.slice.injEq, Option.some.injEq, Addr.mk.injEq, and_true] at he
  obtain ⟨⟨rfl, rfl⟩, -, -⟩ := he
  obtain ⟨ub, ud, ucap, he, huc1, huc2, hcu0⟩ := HUw.out.at S.length hK0U
  rw [hUL] at he huc1
  simp only [Value.slice.injEq] at he
  obtain ⟨rfl, -, rfl⟩ := he
  obtain ⟨ub2, ud2, ucap2, he, -, -, hcu1⟩ := HUw.out.at N1 hK1U
  simp only [Value.slice.injEq, Option.some.injEq, Addr.mk.injEq, and_true] at he
  obtain ⟨⟨rfl, rfl⟩, -, -⟩ := he
  have hft0 := HTw.out.f S.length hK0T
  have hft1 := HTw.out.f N1 hK1T
  have hfu0 := HUw.out.f S.length hK0U
  have hfu1 := HUw.out.f N1 hK1U
  have tw0 := hct0 1 _ (by omega) rfl
  have tw1 := hct1 1 _ (by omega) rfl
  have tc0 := hct0 0 _ (by omega) rfl
  have tc1 := hct1 0 _ (by omega) rfl
  have tf0 := hct0 9 _ (by omega) rfl
  have tf1 := hct1 9 _ (by omega) rfl
  have uc0 := hcu0 0 _ (by omega) rfl
  have uc1 := hcu1 0 _ (by omega) rfl
  have uf0 := hcu0 9 _ (by omega) rfl
  have uf1 := hcu1 9 _ (by omega) rfl
  rw [Nat.add_zero] at tc0 tc1 uc0 uc1
  rw [hT0] at tw0
  rw [hT1] at tw1
  unfold maxLen at htc2 huc2
  clear hct0 hct1 hcu0 hcu1 HTw HUw
  generalize fv S.length = ft0 at *
  generalize fv N1 = ft1 at *
  generalize fu S.length = fu0 at *
  generalize fu N1 = fu1 at *
  have HFT0 := Lib.hid hft0
  have HFT1 := Lib.hid hft1
  have HFU0 := Lib.hid hfu0
  have HFU1 := Lib.hid hfu1
  have HA := Lib.hid hA
  have HBb := Lib.hid hBb
  have HC := Lib.hid (And.intro tc0 (And.intro tc1 (And.intro uc0 (And.intro uc1 (And.intro tf0 (And.intro tf1 (And.intro uf0 uf1)))))))
  clear tc0 tc1 uc0 uc1 tf0 tf1 uf0 uf1 hft0 hft1 hfu0 hfu1 hA hBb
  have HFin := Lib.hid (Hb2.out.trans ((HB7.out.trans (HB710.out.mono HB7.out.size)).mono Hb2.out.size))
  by_cases hq : ta = tb'
  · have hqb : (((ta : Nat) : Int) == ((tb' : Nat) : Int)) = true := by rw [hq]; simp
    have hqn : (ta == tb') = true := by rw [hq]; simp
    clear HA HBb HEE HC HFT0 HFT1 HFU0 HFU1
    go_quiet (fail)
    go_wp2_with fail
    go_ret
    exact ⟨rfl, below_drewN HFin.out _⟩
  · have hqb : (((ta : Nat) : Int) == ((tb' : Nat) : Int)) = false := by rw [beq_eq_false_iff_ne]; omega
    have hqn : (ta == tb') = false := by rw [beq_eq_false_iff_ne]; exact hq
    have HA' := Lib.hid (HA.out hq)
    have HB' := Lib.hid (HBb.out hq)
    have HEq := Lib.hid (HEE.out hq)
    clear HA HBb HEE hq
    go_quiet (fail)
    obtain ⟨w11, hw11⟩ : ∃ x, x = w10.drewN nq := ⟨_, rfl⟩
    rw [← hw11]
    have hb11 : Below w10.heap.size w10 w11 := by rw [hw11]; exact below_drewN (Below.refl _ _) _
    have HB711 := Lib.hid (HB710.out.trans (hb11.mono HB710.out.size))
    have HB1011 := Lib.hid hb11
    have HW11 := Lib.hid (HB7.out.trans (HB711.out.mono HB7.out.size))
    have CM := Lib.hid (CSM.out w11 HW11.out)
    clear hw11 hb11 tw0 tw1 hqb hqn CSM
    go_upto_region 13 with (fail)
    go_wp2_with fail
    refine CM.out.mono ?_
    rintro e w13 ⟨v13, rfl, hown13, hb13⟩
    have HRR0 := Lib.hid (Has.of_owns hown13)
    obtain ⟨a13, c13, rfl⟩ := owns_slice hown13
    have HB713 := Lib.hid (HB711.out.trans (hb13.mono HB711.out.size))
    have HB1013 := Lib.hid (HB1011.out.trans (hb13.mono HB1011.out.size))
    generalize stepsOf (m.take 40) = R at *
    have HRR := Lib.hid HRR0.out
    clear hown13 hb13 CM HRR0 HB711 HB1011 HW11
    have HX0 : Hid (∀ Y, Below w13.heap.size w13 Y → SPd c gl cl gm B BX BY nx ny Y) := fun Y q => HXY.out Y (HB713.out.trans (q.mono HB713.out.size))
    have HW0 := Lib.hid (HB7.out.trans (HB713.out.mono HB7.out.size))
    have HR0 := Lib.hid (HR.out.on HW0.out)
    have HS0 := Lib.hid (HST.out.below HB713.out)
    go_upto_region 14 with (fail)
    go_cut [28, 29, 30, 31] from 39 (fun rr pp tt e wx => ∃ pv tv ev, e = .bool true ∧ Hid (EndH wx c (wFold c ((S ++ [dlv nx, dlv ny]) ++ R)).1 rr pp tt pv tv ev) ∧ Hid (Below w13.heap.size w13 wx))
    case first =>
      rename_i J K' h1 h2
      exact reg14 c Hok S hS101 nx ny gl cl gm B BX BY a5' c5 w13 HR0 HS0 W HR HW0 hn4 hit hlb R hM a13 c13 HRR HX0 K' _ (fun a w h => h2 a w (Met.intro (h1 a w h)))
    case rest =>
    clear HX0 HW0 HR0 HS0
    obtain ⟨pv1, tv1, ev1, rfl, HE1, HB14⟩ := hcut
    generalize wc = w14 at *
    have HB714 := Lib.hid (HB713.out.trans (HB14.out.mono HB713.out.size))
    replace HRR := Lib.hid (HRR.out.below HB14.out)
    have HX0 : Hid (∀ Y, Below w14.heap.size w14 Y → SPd c gl cl gm B BX BY nx ny Y) := fun Y q => HXY.out Y (HB714.out.trans (q.mono HB714.out.size))
    have HW0 := Lib.hid (HB7.out.trans (HB714.out.mono HB7.out.size))
    have HR0 := Lib.hid (HR.out.on HW0.out)
    have HS0 := Lib.hid (HST.out.below HB714.out)
    go_upto_region 15 with (fail)
    go_cut [32, 33, 34, 35] from 39 (fun rr pp tt e wx => ∃ pv tv ev, e = .bool true ∧ Hid (EndH wx c (wFold c ((S ++ [dlv ny, dlv nx]) ++ R)).1 rr pp tt pv tv ev) ∧ Hid (Below w14.heap.size w14 wx))
    case first =>
      rename_i J K' h1 h2
      exact reg15 c Hok S hS101 nx ny gl cl gm B BX BY a5' c5 w14 HR0 HS0 W HR HW0 hn4 hit hlb R hM a13 c13 HRR HX0 K' _ (fun a w h => h2 a w (Met.intro (h1 a w h)))
    case rest =>
    clear HX0 HW0 HR0 HS0
    obtain ⟨pv2, tv2, ev2, rfl, HE2, HB15⟩ := hcut
    generalize wc = w15 at *
    have HE1b := Lib.hid (HE1.out.on HB15.out)
    have hE2 := HE2.out
    rw [← HEq.out R] at hE2
    have HE2b := Lib.hid hE2
    have HB1315 := Lib.hid (HB14.out.trans (HB15.out.mono HB14.out.size))
    have HB1015 := Lib.hid (HB1013.out.trans (HB1315.out.mono HB1013.out.size))
    have HB715 := Lib.hid (HB714.out.trans (HB15.out.mono HB714.out.size))
    have HBW := Lib.hid (Hb2.out.trans ((HB7.out.trans (HB715.out.mono HB7.out.size)).mono Hb2.out.size))
    clear hE2 HE1 HE2 HB14 HB15 HB714 HB713 HB1013 HB1315 HEq HRR CE HXY HR HST
    generalize (wFold c (S ++ [dlv nx, dlv ny] ++ R)).1 = st at *
    have hres : resC st c.items = ints ((List.range c.items).map fun k => (st.bk k).res) := by simp [resC, ints]
    have R1 := HE1b.out.r
    have R2 := HE2b.out.r
    rw [hres] at R1 R2
    obtain ⟨t0, t1, u0, u1, f0, f1, g0, g1⟩ := HC.out
    have p0 := ext_cell (cell_on HB1015.out t0)
    have p1 := ext_cell (cell_on HB1015.out t1)
    have p2 := ext_cell (cell_on HB1015.out u0)
    have p3 := ext_cell (cell_on HB1015.out u1)
    have p4 := ext_cell (cell_on HB1015.out f0)
    have p5 := ext_cell (cell_on HB1015.out f1)
    have p6 := ext_cell (cell_on HB1015.out g0)
    have p7 := ext_cell (cell_on HB1015.out g1)
    have R1' : Has w15 1 u28 ((List.range c.items).map fun k => (st.bk k).res).length (ints ((List.range c.items).map fun k => (st.bk k).res)) := by rw [List.length_map, List.length_range]; exact R1
    have R2' : Has w15 1 u32 ((List.range c.items).map fun k => (st.bk k).res).length (ints ((List.range c.items).map fun k => (st.bk k).res)) := by rw [List.length_map, List.length_range]; exact R2
    have HR1 := Lib.hid R1'
    have HR2 := Lib.hid R2'
    have CI : Hid (∀ X : Ext w15, Calls Tryz.prog 21 #[u28, u32] X.1 fun e w' => e = .returned (.bool true) ∧ Below X.1.heap.size X.1 w') := fun X => (csameInts _ _ _ _ X.1 (HR1.out.below X.2) (HR2.out.below X.2)).mono fun e w' ⟨h1, h2⟩ => ⟨by rw [h1]; simp, h2⟩
    have CB1 : Hid (∀ X : Ext w15, Calls Tryz.prog 22 #[ft0, fu1] X.1 fun e w' => e = .returned (.bool true) ∧ Below X.1.heap.size X.1 w') := fun X => (csameBytes _ _ _ _ X.1 ((HFT0.out.below HB1015.out).below X.2) ((HFU1.out.below HB1015.out).below X.2)).mono fun e w' ⟨h1, h2⟩ => ⟨by rw [h1, HA'.out]; simp, h2⟩
    have CB2 : Hid (∀ X : Ext w15, Calls Tryz.prog 22 #[ft1, fu0] X.1 fun e w' => e = .returned (.bool true) ∧ Below X.1.heap.size X.1 w') := fun X => (csameBytes _ _ _ _ X.1 ((HFT1.out.below HB1015.out).below X.2) ((HFU0.out.below HB1015.out).below X.2)).mono fun e w' ⟨h1, h2⟩ => ⟨by rw [h1, HB'.out]; simp, h2⟩
    have hA' := congrArg Tld.code HA'.out
    have hB' := congrArg Tld.code HB'.out
    rw [hA'] at p0
    rw [hB'] at p1
    clear hres R1 R2 R1' R2' HR1 HR2 t0 t1 u0 u1 f0 f1 g0 g1 HC hA' hB' HA' HB'
    generalize ((wFold c (S ++ [dlv ny, dlv nx])).2[S.length]'hK0U).code = cd0 at *
    generalize ((wFold c (S ++ [dlv ny, dlv nx])).2[N1]'hK1U).code = cd1 at *
    go_upto_region 16 with (fail)
    go_cut [222] from 39 (fun x wx => x = .bool false ∧ Hid (Below w15.heap.size w15 wx))
    case first =>
      rename_i J K' h1 h2
      exact reg16 S hS101 N1 hwk1 hk1z hk0z tb td ub ud oc od htc1 huc1 w15 u28 u32 ft0 ft1 fu0 fu1 cd0 cd1 p0 p1 p2 p3 p4 p5 p6 p7 CI CB1 CB2 K' _ (fun a w h => h2 a w (Met.intro (h1 a w h)))
    case rest =>
    obtain ⟨rfl, HB1620⟩ := hcut
    generalize wc = W20 at *
    have hb20 := HB1620.out
    have HA := Lib.hid (HE1b.out.on hb20)
    have HM := Lib.hid (HE2b.out.on hb20)
    have HB20 := Lib.hid (HBW.out.trans (hb20.mono HBW.out.size))
    obtain ⟨pb, po, pc, rfl, ⟨hpc1, hpc2⟩, hpa⟩ := HA.out.pcell hn4.out hit.out
    obtain ⟨mb, mo, mc, rfl, ⟨hmc1, hmc2⟩, hpm⟩ := HM.out.pcell hn4.out hit.out
    obtain ⟨ubb, uo, uc, rfl, ⟨huuc1, huuc2⟩, hta⟩ := HA.out.tcell hn4.out hlb.out
    obtain ⟨wb, wo, wc2, rfl, ⟨hwc1, hwc2⟩, htm⟩ := HM.out.tcell hn4.out hlb.out
    have HPA := Lib.hid hpa
    have HPM := Lib.hid hpm
    have HTA := Lib.hid hta
    have HTM := Lib.hid htm
    clear hb20 CI CB1 CB2 p0 p1 p2 p3 p4 p5 p6 p7 HB1620 hpa hpm hta htm HE1b HE2b HBW HFT0 HFT1 HFU0 HFU1
    go_wp2_with fail
    go_loopw [36] (fun i wr => ∃ k : Nat, k ≤ 4 ∧ i = .int .i64 k ∧ Hid (Below W20.heap.size W20 wr)) (fun i _ => 4 - (intOf i).toNat)
    case atStart => exact ⟨0, by omega, rfl, Below.refl _ _⟩
    case round =>
      obtain ⟨k, hk, rfl, HB⟩ := hrel
      by_cases hlt : k < 4
      · have hltz : (k : Int) < 4 := by omega
        have HLT := Lib.hid hlt
        obtain ⟨ya, xb1, xo1, xc1, hv1, ⟨hx1, hx1'⟩, hc1⟩ := HPA.out k hlt
        obtain ⟨ym, xb2, xo2, xc2, hv2, ⟨hx2, hx2'⟩, hc2⟩ := HPM.out k hlt
        obtain ⟨ta, xb3, xo3, xc3, hv3, ⟨hx3, hx3'⟩, hc3⟩ := HTA.out k hlt
        obtain ⟨tm, xb4, xo4, xc4, hv4, ⟨hx4, hx4'⟩, hc4⟩ := HTM.out k hlt
        rw [hv1] at ya
        rw [hv2] at ym
        rw [hv3] at ta
        rw [hv4] at tm
        have HC1 := Lib.hid hc1
        have HC2 := Lib.hid hc2
        have HC3 := Lib.hid hc3
        have HC4 := Lib.hid hc4
        have YA := Lib.hid ya
        have YM := Lib.hid ym
        have TA := Lib.hid ta
        have TM := Lib.hid tm
        clear hlt hk hv1 hv2 hv3 hv4 hc1 hc2 hc3 hc4 ya ym ta tm
        go_upto_region 22 with (fail)
        go_loopw [37] (fun i wr => ∃ j : Nat, j ≤ 2 ∧ i = .int .i64 j ∧ Hid (Below W20.heap.size W20 wr)) (fun i _ => 2 - (intOf i).toNat)
        case atStart => exact ⟨0, by omega, rfl, HB⟩
        case round =>
          clear HB
          obtain ⟨j, hj, rfl, HB⟩ := hrel
          by_cases hlt : j < 2
          · have hjz : (j : Int) < 2 := by omega
            have HJ := Lib.hid hlt
            have ya := cell_on HB.out YA.out
            have ym := cell_on HB.out YM.out
            have za : ∀ m u, m < 6 → (purse st k j)[m]? = some u → wr.cell? ⟨xb1, xo1 + j * 6 + m, none⟩ = some u := fun m u hm hu => cell_on HB.out (HC1.out j hlt m u hm hu)
            have zm : ∀ m u, m < 6 → (purse st k j)[m]? = some u → wr.cell? ⟨xb2, xo2 + j * 6 + m, none⟩ = some u := fun m u hm hu => cell_on HB.out (HC2.out j hlt m u hm hu)
            have z0 := za 0 _ (by omega) rfl
            rw [Nat.add_zero] at z0
            have z1 := za 1 _ (by omega) rfl
            have z2 := za 2 _ (by omega) rfl
            have z3 := za 3 _ (by omega) rfl
            have z4 := za 4 _ (by omega) rfl
            have z5 := za 5 _ (by omega) rfl
            have o0 := zm 0 _ (by omega) rfl
            rw [Nat.add_zero] at o0
            have o1 := zm 1 _ (by omega) rfl
            have o2 := zm 2 _ (by omega) rfl
            have o3 := zm 3 _ (by omega) rfl
            have o4 := zm 4 _ (by omega) rfl
            have o5 := zm 5 _ (by omega) rfl
            clear za zm hlt hj
            generalize st.asks k j = A at *
            generalize (st.sh k j).free = F at *
            generalize (st.sh k j).held = H at *
            generalize (st.sh k j).used = U at *
            go_upto_region 24 with (fail)
            go_quiet (fail)
            go_wp2_with fail
            go_roundw
            case rel => exact ⟨j + 1, HJ.out, by go_num, below_drewN HB.out _⟩
            case measure => have := HJ.out; first | (simp [intOf]; done) | (simp [intOf]; omega)
          · obtain rfl : j = 2 := by omega
            clear hlt hj
            go_upto_region 27 with (fail)
            go_loopw [38] (fun i wr => ∃ j : Nat, j ≤ 3 ∧ i = .int .i64 j ∧ Hid (Below W20.heap.size W20 wr)) (fun i _ => 3 - (intOf i).toNat)
            case atStart => exact ⟨0, by omega, rfl, HB⟩
            case round =>
              clear HB
              obtain ⟨j, hj, rfl, HB⟩ := hrel
              by_cases hlt : j < 3
              · have hjz : (j : Int) < 3 := by omega
                have HJ := Lib.hid hlt
                have p1 := ext_cell (cell_on HB.out TA.out)
                have p2 := ext_cell (cell_on HB.out TM.out)
                have p3 := ext_cell (cell_on HB.out (HC3.out j hlt))
                have p4 := ext_cell (cell_on HB.out (HC4.out j hlt))
                have E1 := HA.out.ee k j (by rw [hn4.out]; exact HLT.out) (by rw [hlb.out]; exact hlt)
                have E2 := HM.out.ee k j (by rw [hn4.out]; exact HLT.out) (by rw [hlb.out]; exact hlt)
                have CS : Hid (∀ X : Ext wr, Calls Tryz.prog 17 #[ev1 k j, ev2 k j] X.1 fun e w' => e = .returned (.bool true) ∧ Below X.1.heap.size X.1 w') := fun X =>
                  csameEntries _ _ _ X.1 (E1.below (HB.out.trans (X.2.mono HB.out.size))) (E2.below (HB.out.trans (X.2.mono HB.out.size)))
                have Fin : Hid (∀ w8, Below wr.heap.size wr w8 → Hid (Below W20.heap.size W20 w8)) := fun w8 hb8 => HB.out.trans (hb8.mono HB.out.size)
                clear hlt hj E1 E2
                go_upto_region 29 with (fail)
                refine wp_region_grow (by kernel_rfl) (by kernel_rfl) ?_
                repeat (go_big_quiet_step ((go_at_call 17; with_reducible exact grow_of (CS.out _))))
                refine wpQuiet_nil ?_
                intro w8' hb8'
                have HB8' := Fin.out _ hb8'
                clear hb8' Fin CS p1 p2 p3 p4
                go_wp2_with fail
                go_roundw
                case rel => exact ⟨j + 1, HJ.out, by go_num, HB8'⟩
                case measure => have := HJ.out; first | (simp [intOf]; done) | (simp [intOf]; omega)
              · obtain rfl : j = 3 := by omega
                go_wp2_with fail
                go_roundw
                case rel => exact ⟨k + 1, HLT.out, by go_num, HB⟩
                case measure => have := HLT.out; first | (simp [intOf]; done) | (simp [intOf]; omega)
      · obtain rfl : k = 4 := by omega
        go_wp2_with fail
        go_ret
        exact ⟨rfl, HB20.out.trans (HB.out.mono HB20.out.size)⟩
end Go.Proofs.YtjdedflfdlhkdaaGreatDoor.worldSwaps
