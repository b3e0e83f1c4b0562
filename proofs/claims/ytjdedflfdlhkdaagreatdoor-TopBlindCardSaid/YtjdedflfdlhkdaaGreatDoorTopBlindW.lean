/- TopBlind: the walk. -/
import Derived.Test.YtjdedflfdlhkdaaGreatDoorBlindS
import Derived.Test.YtjdedflfdlhkdaaGreatDoorBlindQ
import Derived.Test.YtjdedflfdlhkdaaGreatDoorWSure
import Derived.Test.YtjdedflfdlhkdaaGreatDoorSameTold
namespace Go.Proofs.YtjdedflfdlhkdaaGreatDoor.topBlind
open Go.ChangeShapes Go.WideShapes Go.ChangeAt Go.RowKit
set_option linter.unusedVariables false

theorem steps_law (l : List Stp) : ∀ p ∈ stepsOf l, LawStp p := by
  induction l using snoc_ind with
  | h0 => intro p hp; simp [stepsOf] at hp
  | hs l x ih =>
    intro p hp
    rw [stepsOf_snoc] at hp
    rcases List.mem_append.1 hp with hp | hp
    · exact ih p hp
    · rw [List.mem_singleton] at hp
      subst hp
      exact stepOf_ok _ _
set_option maxRecDepth 100000 in
set_option maxHeartbeats 16000000 in
theorem walk (w : World) (hL : OrdVar w) (v0 : Value) (ls : List Int) (A0 : Has w 1 v0 ls.length (ints ls) ∧ ∀ x ∈ ls, -9223372036854775808 ≤ x ∧ x ≤ 9223372036854775807) (a1 a2 a3 : Int) (v4 : Value) (l : List Stp) (A4 : Has w 8 v4 l.length (stps l)) (a5 : Int) (v6 : Value) (O : List Stp) (A6 : Has w 8 v6 O.length (stps O))
    (wf1 : (Lit.int .i64 a1).wf = true) (wf2 : (Lit.int .i64 a2).wf = true) (wf3 : (Lit.int .i64 a3).wf = true) (wf5 : (Lit.int .i64 a5).wf = true) :
    Calls Tryz.prog 10 #[v0, .int .i64 a1, .int .i64 a2, .int .i64 a3, v4, .int .i64 a5, v6] w fun e w' => e = .returned (.bool true) ∧ Below w.heap.size w w' := by
  have C0 := Lib.hid (cConfigR hL a1 a2 a3 A0.1 wf2)
  have H4 := Lib.hid A4
  have H6 := Lib.hid A6
  have Hok := Lib.hid (cfgOf_ok ls a1 a2 a3)
  have hn4 : Hid ((cfgOf ls a1 a2 a3).n = 4) := (rfl : _ = _)
  have hlb : Hid ((cfgOf ls a1 a2 a3).labs.length = 3) := (labsK_len ls 3 : _ = _)
  generalize cfgOf ls a1 a2 a3 = c at *
  obtain ⟨_, q1, r1, rfl, _, _, _⟩ := A4
  obtain ⟨_, q6, r6, rfl, _, _, _⟩ := A6
  have PX := Lib.hid fun X => picked a5 16 (by omega) (by omega) X
  have hx := (pn_eq a5 16 (by omega)).2
  rw [← (pn_eq a5 16 (by omega)).1] at PX
  generalize pn a5 16 = X at *
  replace hx : X < 16 := by omega
  have hS : (stepsOf (l.take 150)).length ≤ 150 := by rw [stepsOf_len, List.length_take]; omega
  have HLS := Lib.hid (steps_law (l.take 150))
  clear A0 wf1 wf2 wf3 wf5 hL
  unfold Cfg.cells at C0
  go_enter Tryz.func10, Tryz.ntmps10
  go_wp2_with fail
  refine C0.out.mono ?_
  rintro e w1 ⟨gl, cl, gm, rfl, hR, hb1⟩
  have hbx := cfg_box w1 c (.slice (some ⟨gl, 0, none⟩) 3 cl) (.slice (some ⟨gm, 0, none⟩) 2 2)
  obtain ⟨x0, x1, x2, x3, x4⟩ := cfg_at (heap_alloc_new w1 (.cells (c.cells (.slice (some ⟨gl, 0, none⟩) 3 cl) (.slice (some ⟨gm, 0, none⟩) 2 2)) 25))
  have HR := Lib.hid (hR.on hbx)
  have hb2 := hb1.trans (hbx.mono hb1.size)
  have CS := Lib.hid (cStepsOf _ l 150 _ (H4.out.below hb2) (by omega))
  have H6b := Lib.hid (H6.out.below hb2)
  have Hb2 := Lib.hid hb2
  unfold Cfg.cells at x0 x1 x2 x3 x4 HR CS Hb2 H6b
  clear hbx hb1 hb2 C0 H4 H6 hR
  go_upto_region 2 with (fail)
  generalize (w1.alloc (.cells #[.int .i64 c.n, .slice (some ⟨gl, 0, none⟩) 3 cl, .int .i64 c.ticks, .slice (some ⟨gm, 0, none⟩) 2 2, .int .i64 c.cap] 25)) = W at *
  generalize w1.heap.size = B at *
  go_upto_region 3 with (go_at_call 18; refine (PX.out _).mono ?_; rintro e w' ⟨rfl, rfl⟩)
  have HX : Hid (∀ Y, Below W.heap.size W Y → (Y.cell? ⟨B, 0, none⟩ = some (.int .i64 c.n) ∧ Y.cell? ⟨B, 1, none⟩ = some (.slice (some ⟨gl, 0, none⟩) 3 cl) ∧ Y.cell? ⟨B, 2, none⟩ = some (.int .i64 c.ticks) ∧ Y.cell? ⟨B, 3, none⟩ = some (.slice (some ⟨gm, 0, none⟩) 2 2) ∧ Y.cell? ⟨B, 4, none⟩ = some (.int .i64 c.cap))) := fun Y q => ⟨cell_on q x0, cell_on q x1, cell_on q x2, cell_on q x3, cell_on q x4⟩
  go_wp2_with fail
  refine CS.out.mono ?_
  rintro e w3 ⟨v3, rfl, hown3, hb3⟩
  obtain ⟨a3', c3, rfl⟩ := owns_slice hown3
  have HS3 := Lib.hid (Has.of_owns hown3)
  have HB3 := Lib.hid hb3
  generalize stepsOf (l.take 150) = S at *
  have CSe := Lib.hid (cseen Hok.out hn4.out (HR.out.on hb3) _ S HS3.out (by omega) X hx)
  unfold Cfg.cells at CSe
  obtain ⟨y0, y1, y2, y3, y4⟩ := HX.out w3 hb3
  clear CS hown3 hb3 PX x0 x1 x2 x3 x4
  go_wp2_with fail
  refine CSe.out.mono ?_
  rintro e w4 ⟨vo, to1, s1, f1, r1', s2, f2, r2, rfl, hTV, hTT, hb4⟩
  have HTV := Lib.hid hTV
  have HTT := Lib.hid hTT
  have HB4 := Lib.hid (HB3.out.trans (hb4.mono HB3.out.size))
  have HS4 := Lib.hid (HS3.out.below hb4)
  have HO4 := Lib.hid (H6b.out.below HB4.out)
  clear hTV hTT hb4 CSe y0 y1 y2 y3 y4 HB3 HS3 H6b
  obtain ⟨y0, y1, y2, y3, y4⟩ := HX.out w4 HB4.out
  have HLT : Hid (gl < W.heap.size) := HR.out.il gl 0 3 cl rfl
  have CO : Hid (∀ Y, Below w4.heap.size w4 Y → _) := fun Y hY => cotherwise (HR.out.on (HB4.out.trans (hY.mono HB4.out.size))).cf (Nat.lt_of_lt_of_le HLT.out (HB4.out.trans (hY.mono HB4.out.size)).size) Hok.out.lt16 hlb.out S O _ _ (HS4.out.below hY) (HO4.out.below hY) HLS.out (by omega) X hx
  have hOL : (othN c X S O S.length).length = S.length := othN_len c X S O S.length
  have HAl := Lib.hid (othN_alike (c := c) (X := X) hn4.out S O HLS.out S.length)
  have CS2 : Hid (∀ Y (v : Value), Below w4.heap.size w4 Y → Has Y 8 v (othN c X S O S.length).length (stps (othN c X S O S.length)) → _) := fun Y v hY hv => cseen Hok.out hn4.out (HR.out.on (HB4.out.trans (hY.mono HB4.out.size))) v (othN c X S O S.length) hv (by omega) X hx
  unfold Cfg.cells at CO CS2
  have HOL := Lib.hid hOL
  rw [hOL] at CS2
  clear hOL
  generalize othN c X S O S.length = S2 at *
  go_upto_region 5 with (fail)
  go_cut [21, 22, 23] (fun vv tt b wx => ∃ s3 f3 r3 s4 f4 r4, b = .bool true ∧ Hid (TldsH wx vv (viewOf c.n X (wFold c S2).2) s3 f3 r3) ∧ Hid (TldsH wx tt (wFold c S2).2 s4 f4 r4) ∧ Hid (Below w4.heap.size w4 wx))
  case first =>
    go_region_held3 (fun Z => Z.cell? ⟨B, 0, none⟩ = some (.int .i64 c.n) ∧ Z.cell? ⟨B, 1, none⟩ = some (.slice (some ⟨gl, 0, none⟩) 3 cl) ∧ Z.cell? ⟨B, 2, none⟩ = some (.int .i64 c.ticks) ∧ Z.cell? ⟨B, 3, none⟩ = some (.slice (some ⟨gm, 0, none⟩) 2 2) ∧ Z.cell? ⟨B, 4, none⟩ = some (.int .i64 c.cap))
      (first | with_reducible exact ⟨j0, j1, j2, j3, j4⟩ | with_reducible exact ⟨i0, i1, i2, i3, i4⟩ | go_keep)
      ((first | (go_at_call 27; refine (CO.out _ (Below.drew (Below.refl w4.heap.size w4))).mono ?_; rintro e w5 ⟨v5, rfl, hown5, hb5'⟩; have hb5 : Below w4.heap.size w4 w5 := Below.trans (Below.drew (Below.refl w4.heap.size w4)) hb5'; have HO5 := Lib.hid hown5; have HB5 := Lib.hid hb5; have i0 := cell_on hb5 y0; have i1 := cell_on hb5 y1; have i2 := cell_on hb5 y2; have i3 := cell_on hb5 y3; have i4 := cell_on hb5 y4; clear hown5 hb5 hb5') | (go_at_call 26; refine (CS2.out _ _ HB5.out (Has.of_owns HO5.out)).mono ?_; rintro e w7 ⟨vo2, to2, s3, f3, r3, s4, f4, r4, rfl, hTV, hTT, hb7⟩; have j0 := cell_on hb7 i0; have j1 := cell_on hb7 i1; have j2 := cell_on hb7 i2; have j3 := cell_on hb7 i3; have j4 := cell_on hb7 i4; have HV7 := Lib.hid hTV; have HT7 := Lib.hid hTT; have HB7 := Lib.hid (HB5.out.trans (hb7.mono HB5.out.size)); clear hTV hTT hb7)))
    all_goals
      go_wp2_with fail
      go_meet
      exact ⟨s3, f3, r3, s4, f4, r4, rfl, HV7, HT7, HB7⟩
  case rest =>
  obtain ⟨s3, f3, r3, s4, f4, r4, rfl, HV7, HT7, HB7⟩ := hcut
  have HTV7 := Lib.hid (HTV.out.on HB7.out)
  have HTT7 := Lib.hid (HTT.out.on HB7.out)
  have HBW := Lib.hid (HB4.out.trans (HB7.out.mono HB4.out.size))
  have CW := Lib.hid (cWorldSure wc (HR.out.on HBW.out).od)
  clear y0 y1 y2 y3 y4 CO CS2 HTV HTT HB7 HB4 HS4 HO4 HX
  go_wp2_with fail
  refine CW.out.mono ?_
  rintro e w9 ⟨rfl, hb9⟩
  have HVa := Lib.hid (HTV7.out.on hb9)
  have HVb := Lib.hid (HV7.out.on hb9)
  have HB9 := Lib.hid (HBW.out.trans (hb9.mono HBW.out.size))
  have CRp := Lib.hid (creports (HTT7.out.on hb9) (HT7.out.on hb9) (by rw [wFold_len, wFold_len]; exact HOL.out.symm) (by rw [wFold_len]; omega))
  clear hb9 CW HTV7 HTT7 HV7 HT7 HBW
  go_wp2_with fail
  refine CRp.out.mono ?_
  rintro e w10 ⟨b, rfl, hrep, hb10⟩
  have HVa' := Lib.hid (HVa.out.on hb10)
  have HVb' := Lib.hid (HVb.out.on hb10)
  have HF := Lib.hid (Hb2.out.trans ((HB9.out.trans (hb10.mono HB9.out.size)).mono Hb2.out.size))
  have HREP := Lib.hid hrep
  clear hb10 CRp HVa HVb HB9 hrep
  cases b with
  | false =>
    go_wp2_with fail
    go_ret
    exact ⟨rfl, HF.out⟩
  | true =>
    have hbl : viewOf c.n X (wFold c S).2 = viewOf c.n X (wFold c S2).2 := blind Hok.out hn4.out S S2 HOL.out.symm (by omega) HAl.out (fun i t u ht hu => HREP.out rfl i t u (by rw [wFold_len]; have := (List.getElem?_eq_some_iff.1 ht).1; rw [wFold_len] at this; exact this) ht hu)
    have hVb := HVb'.out
    rw [← hbl] at hVb
    have HVc := Lib.hid hVb
    have hVL : (viewOf c.n X (wFold c S).2).length ≤ 300 := by rw [view_len, wFold_len]; omega
    generalize viewOf c.n X (wFold c S).2 = T at *
    obtain ⟨_, ta, tc, rfl, htc1, htc2, _⟩ := HVa'.out.row
    obtain ⟨_, ua, uc, he, huc1, huc2, _⟩ := HVc.out.row
    subst he
    unfold maxLen at htc2 huc2
    clear hVb hbl HVb' HREP HAl
    go_wp2_with fail
    go_loopw [24] (fun i wr => ∃ k : Nat, k ≤ T.length ∧ i = .int .i64 (k : Int) ∧ Hid (Below w10.heap.size w10 wr)) (fun i _ => T.length - (intOf i).toNat)
    case atStart => exact ⟨0, by omega, rfl, Below.refl _ _⟩
    case round =>
      obtain ⟨k, hk, rfl, HB⟩ := hrel
      by_cases hlt : k < T.length
      · have hltz : (k : Int) < (T.length : Int) := by omega
        have HK := Lib.hid hlt
        have R1 := (⟨HVa'.out.s k hlt, HVa'.out.f k hlt, HVa'.out.r k hlt⟩ : RdT _ _ _ _ _)
        have R2 := (⟨HVc.out.s k hlt, HVc.out.f k hlt, HVc.out.r k hlt⟩ : RdT _ _ _ _ _)
        have CT : Hid (∀ X' : Ext wr, Calls Tryz.prog 25 #[(T[k]'hlt).val (s1 k) (f1 k) (r1' k), (T[k]'hlt).val (s3 k) (f3 k) (r3 k)] X'.1 fun e w' => e = .returned (.bool true) ∧ Below X'.1.heap.size X'.1 w') := fun X' => cSameTold _ (R1.on (HB.out.trans (X'.2.mono HB.out.size))) (R2.on (HB.out.trans (X'.2.mono HB.out.size)))
        obtain ⟨tb, td, tcap, he, -, -, hct⟩ := HVa'.out.at k hlt
        simp only [Value.slice.injEq] at he
        obtain ⟨rfl, -, rfl⟩ := he
        obtain ⟨ub, ud, ucap, he, -, -, hcu⟩ := HVc.out.at k hlt
        simp only [Value.slice.injEq] at he
        obtain ⟨rfl, -, rfl⟩ := he
        have z : ∀ j u, j < 11 → ((T[k]'hlt).cells (s1 k) (f1 k) (r1' k))[j]? = some u → wr.cell? ⟨tb, td + k * 11 + j, none⟩ = some u := fun j u hj hu => cell_on HB.out (hct j u hj hu)
        have z' : ∀ j u, j < 11 → ((T[k]'hlt).cells (s3 k) (f3 k) (r3 k))[j]? = some u → wr.cell? ⟨ub, ud + k * 11 + j, none⟩ = some u := fun j u hj hu => cell_on HB.out (hcu j u hj hu)
        clear hct hcu R1 R2
        generalize (T[k]'hlt) = tk at *
        obtain ⟨tcd, tw, ⟨kc, ki, kf, kh, ku⟩, tvv, ts, tf, tr⟩ := tk
        unfold Tld.val tldC at CT
        unfold Tld.cells tldC at z z'
        simp only at CT z z'
        have p0 := ext_cell (by have := z 0 _ (by omega) rfl; rwa [Nat.add_zero] at this)
        have px1 := ext_cell (z 1 _ (by omega) rfl)
        have px2 := ext_cell (z 2 _ (by omega) rfl)
        have px3 := ext_cell (z 3 _ (by omega) rfl)
        have px4 := ext_cell (z 4 _ (by omega) rfl)
        have px5 := ext_cell (z 5 _ (by omega) rfl)
        have px6 := ext_cell (z 6 _ (by omega) rfl)
        have px7 := ext_cell (z 7 _ (by omega) rfl)
        have px8 := ext_cell (z 8 _ (by omega) rfl)
        have px9 := ext_cell (z 9 _ (by omega) rfl)
        have px10 := ext_cell (z 10 _ (by omega) rfl)
        have q0 := ext_cell (by have := z' 0 _ (by omega) rfl; rwa [Nat.add_zero] at this)
        have qx1 := ext_cell (z' 1 _ (by omega) rfl)
        have qx2 := ext_cell (z' 2 _ (by omega) rfl)
        have qx3 := ext_cell (z' 3 _ (by omega) rfl)
        have qx4 := ext_cell (z' 4 _ (by omega) rfl)
        have qx5 := ext_cell (z' 5 _ (by omega) rfl)
        have qx6 := ext_cell (z' 6 _ (by omega) rfl)
        have qx7 := ext_cell (z' 7 _ (by omega) rfl)
        have qx8 := ext_cell (z' 8 _ (by omega) rfl)
        have qx9 := ext_cell (z' 9 _ (by omega) rfl)
        have qx10 := ext_cell (z' 10 _ (by omega) rfl)
        clear z z'
        have Fin : Hid (∀ w8, Below wr.heap.size wr w8 → Hid (Below w10.heap.size w10 w8)) := fun w8 hb8 => HB.out.trans (hb8.mono HB.out.size)
        clear hlt hk
        go_upto_region 13 with (fail)
        refine wp_region_grow (by kernel_rfl) (by kernel_rfl) ?_
        repeat (go_big_quiet_step ((go_at_call 25; with_reducible exact grow_of (CT.out _))))
        refine wpQuiet_nil ?_
        intro w8' hb8'
        have HB8' := Fin.out _ hb8'
        clear hb8' Fin CT
        go_wp2_with fail
        go_roundw
        case rel => exact ⟨k + 1, HK.out, by go_num, HB8'⟩
        case measure => have := HK.out; first | (simp [intOf]; done) | (simp [intOf]; omega)
      · obtain rfl : k = T.length := by omega
        go_wp2_with fail
        go_ret
        exact ⟨rfl, HF.out.trans (HB.out.mono HF.out.size)⟩
end Go.Proofs.YtjdedflfdlhkdaaGreatDoor.topBlind
