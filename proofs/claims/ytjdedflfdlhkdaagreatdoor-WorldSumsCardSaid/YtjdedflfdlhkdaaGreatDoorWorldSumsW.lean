/- WorldSums: the walk. -/
import Derived.Deep.RegionHeld3
import Derived.BigQuiet
import Derived.Test.YtjdedflfdlhkdaaGreatDoorKac
import Derived.Test.YtjdedflfdlhkdaaGreatDoorWEnded
import Derived.Test.YtjdedflfdlhkdaaGreatDoorWSure
import Derived.Test.YtjdedflfdlhkdaaGreatDoorFullL
import Derived.Test.YtjdedflfdlhkdaaGreatDoorPurGet
namespace Go.Proofs.YtjdedflfdlhkdaaGreatDoor.worldSums
open Go.ChangeShapes Go.WideShapes Go.ChangeAt Go.RowKit
set_option linter.unusedVariables false
set_option linter.unusedSimpArgs false

set_option maxRecDepth 100000 in
set_option maxHeartbeats 16000000 in
theorem walk (w : World) (hL : OrdVar w) (v0 : Value) (ls : List Int) (A0 : Has w 1 v0 ls.length (ints ls) ∧ ∀ x ∈ ls, -9223372036854775808 ≤ x ∧ x ≤ 9223372036854775807) (a1 a2 a3 : Int) (v4 : Value) (l : List Stp) (A4 : Has w 8 v4 l.length (stps l))
    (wf1 : (Lit.int .i64 a1).wf = true) (wf2 : (Lit.int .i64 a2).wf = true) (wf3 : (Lit.int .i64 a3).wf = true) :
    Calls Tryz.prog 3 #[v0, .int .i64 a1, .int .i64 a2, .int .i64 a3, v4] w fun e w' => e = .returned (.bool true) ∧ Below w.heap.size w w' := by
  have C0 := Lib.hid (cConfigR hL a1 a2 a3 A0.1 wf2)
  have H4 := Lib.hid A4
  have Hok := Lib.hid (cfgOf_ok ls a1 a2 a3)
  have hn4 : Hid ((cfgOf ls a1 a2 a3).n = 4) := (rfl : _ = _)
  have hlb : Hid ((cfgOf ls a1 a2 a3).labs.length = 3) := (labsK_len ls 3 : _ = _)
  have hit : Hid ((cfgOf ls a1 a2 a3).items = 2) := (rfl : _ = _)
  have hmm : Hid (∀ k, k < 2 → 0 ≤ (cfgOf ls a1 a2 a3).minted.getD k 0 ∧ (cfgOf ls a1 a2 a3).minted.getD k 0 ≤ 59) := fun k hk => by
    have h1 := pick_bd a2 60 (by omega)
    have h2 := pick_bd (a2.tdiv 60) 60 (by omega)
    rcases (show k = 0 ∨ k = 1 by omega) with rfl | rfl
    · exact ⟨h1.1, by have := h1.2; show _ ≤ (59 : Int); simp only [cfgOf, List.getD_cons_zero]; omega⟩
    · exact ⟨h2.1, by have := h2.2; show _ ≤ (59 : Int); simp only [cfgOf, List.getD_cons_zero, List.getD_cons_succ]; omega⟩
  generalize cfgOf ls a1 a2 a3 = c at *
  obtain ⟨_, q1, r1, rfl, _, _, _⟩ := A4
  have hS : (stepsOf (l.take 120)).length ≤ 120 := by rw [stepsOf_len, List.length_take]; omega
  clear A0 wf1 wf2 wf3 hL
  unfold Cfg.cells at C0
  go_enter Tryz.func3, Tryz.ntmps3
  go_wp2_with fail
  refine C0.out.mono ?_
  rintro e w1 ⟨gl, cl, gm, rfl, hR, hb1⟩
  have hbx := cfg_box w1 c (.slice (some ⟨gl, 0, none⟩) 3 cl) (.slice (some ⟨gm, 0, none⟩) 2 2)
  obtain ⟨x0, x1, x2, x3, x4⟩ := cfg_at (heap_alloc_new w1 (.cells (c.cells (.slice (some ⟨gl, 0, none⟩) 3 cl) (.slice (some ⟨gm, 0, none⟩) 2 2)) 25))
  have HR := Lib.hid (hR.on hbx)
  have hb2 := hb1.trans (hbx.mono hb1.size)
  have CS := Lib.hid (cStepsOf _ l 120 _ (H4.out.below hb2) (by omega))
  have Hb2 := Lib.hid hb2
  unfold Cfg.cells at x0 x1 x2 x3 x4 HR CS Hb2
  clear hbx hb1 hb2 C0 H4 hR
  go_upto_region 2 with (fail)
  generalize (w1.alloc (.cells #[.int .i64 c.n, .slice (some ⟨gl, 0, none⟩) 3 cl, .int .i64 c.ticks, .slice (some ⟨gm, 0, none⟩) 2 2, .int .i64 c.cap] 25)) = W at *
  generalize w1.heap.size = B at *
  have HSUM : Hid (∀ k, k < 2 → SumsOk c (wFold c (stepsOf (l.take 120))).1 (wFold c (fullOf (stepsOf (l.take 120)))).1 k) := fun k hk =>
    sums_ok c Hok.out hn4.out _ (by omega) k (by rw [hit.out]; exact hk) (hmm.out k hk).2
  have HMK : Hid (∀ k, k < 2 → W.cell? ⟨gm, k, none⟩ = some (.int .i64 (c.minted.getD k 0))) := fun k hk => by
    obtain ⟨_, a, cap, he, _, _, hmc⟩ := HR.out.cf.hm
    simp only [Value.slice.injEq] at he
    obtain ⟨rfl, -, rfl⟩ := he
    have hlen : k < c.minted.length := by have := hit.out; unfold Cfg.items at this; omega
    obtain ⟨b, o, he, hmc⟩ := hmc (by rw [ints_length]; omega)
    simp only [Option.some.injEq, Addr.mk.injEq, and_true] at he
    obtain ⟨rfl, rfl⟩ := he
    have := hmc k _ (ints_get c.minted k hlen)
    rw [Nat.zero_add] at this
    rw [this]
    simp [List.getD_eq_getElem?_getD, hlen]
  go_wp2_with fail
  refine CS.out.mono ?_
  rintro e w3 ⟨v3, rfl, hown3, hb3⟩
  obtain ⟨a3', c3, rfl⟩ := owns_slice hown3
  have HO3 := Lib.hid hown3
  have HB3 := Lib.hid hb3
  have HX : Hid (∀ Y, Below W.heap.size W Y → (Y.cell? ⟨B, 0, none⟩ = some (.int .i64 c.n) ∧ Y.cell? ⟨B, 1, none⟩ = some (.slice (some ⟨gl, 0, none⟩) 3 cl) ∧ Y.cell? ⟨B, 2, none⟩ = some (.int .i64 c.ticks) ∧ Y.cell? ⟨B, 3, none⟩ = some (.slice (some ⟨gm, 0, none⟩) 2 2) ∧ Y.cell? ⟨B, 4, none⟩ = some (.int .i64 c.cap))) := fun Y q => ⟨cell_on q x0, cell_on q x1, cell_on q x2, cell_on q x3, cell_on q x4⟩
  have CE : Hid (∀ (Y : World) (v : Value) (T : List Stp), Below W.heap.size W Y → Has Y 8 v T.length (stps T) → T.length ≤ 300 → _) := fun Y v T hY hv hT => cended Hok.out hn4.out hit.out hlb.out (HR.out.on hY) v T hv hT
  unfold Cfg.cells at CE
  generalize stepsOf (l.take 120) = S at *
  have C9 := Lib.hid (CE.out w3 (.slice a3' S.length c3) S HB3.out (Has.of_owns HO3.out) (by omega))
  obtain ⟨y0, y1, y2, y3, y4⟩ := HX.out w3 HB3.out
  clear CS hown3 hb3 x0 x1 x2 x3 x4
  go_wp2_with fail
  refine C9.out.mono ?_
  rintro e w4 ⟨r1', p1', t1', pv1, tv1, ev1, rfl, hE1, hb4⟩
  have HE1 := Lib.hid hE1
  have HB4 := Lib.hid (HB3.out.trans (hb4.mono HB3.out.size))
  have HST := Lib.hid ((Has.of_owns HO3.out).below hb4)
  clear y0 y1 y2 y3 y4 C9 hE1 hb4 HO3
  obtain ⟨y0, y1, y2, y3, y4⟩ := HX.out w4 HB4.out
  go_upto_region 4 with (fail)
  go_cut [17, 18, 19, 20] (fun rr pp tt e wx => ∃ pv tv ev, e = .bool true ∧ Hid (EndH wx c (wFold c (fullOf S)).1 rr pp tt pv tv ev) ∧ Hid (Below w4.heap.size w4 wx))
  case first =>
    go_region_held3 (fun Z => Z.cell? ⟨B, 0, none⟩ = some (.int .i64 c.n) ∧ Z.cell? ⟨B, 1, none⟩ = some (.slice (some ⟨gl, 0, none⟩) 3 cl) ∧ Z.cell? ⟨B, 2, none⟩ = some (.int .i64 c.ticks) ∧ Z.cell? ⟨B, 3, none⟩ = some (.slice (some ⟨gm, 0, none⟩) 2 2) ∧ Z.cell? ⟨B, 4, none⟩ = some (.int .i64 c.cap))
      (first | with_reducible exact ⟨j0, j1, j2, j3, j4⟩ | with_reducible exact ⟨i0, i1, i2, i3, i4⟩ | go_keep)
      ((first | (go_at_call 14; refine (cFull _ S _ (HST.out.below (Below.drew (Below.refl w4.heap.size w4))) (by omega)).mono ?_; rintro e w5 ⟨v5, rfl, hown5, hb5'⟩; have hb5 : Below w4.heap.size w4 w5 := Below.trans (Below.drew (Below.refl w4.heap.size w4)) hb5'; have HO5 := Lib.hid hown5; have HB5 := Lib.hid hb5; have i0 := cell_on hb5 y0; have i1 := cell_on hb5 y1; have i2 := cell_on hb5 y2; have i3 := cell_on hb5 y3; have i4 := cell_on hb5 y4; clear hown5 hb5 hb5') | (go_at_call 13; refine (CE.out _ _ (fullOf S) (HB4.out.trans (HB5.out.mono HB4.out.size)) (Has.of_owns HO5.out) (by rw [fullOf_len]; omega)).mono ?_; rintro e w7 ⟨rr, pp, tt, pv, tv, ev, rfl, hE, hb7⟩; have j0 := cell_on hb7 i0; have j1 := cell_on hb7 i1; have j2 := cell_on hb7 i2; have j3 := cell_on hb7 i3; have j4 := cell_on hb7 i4; have HE7 := Lib.hid hE; have HB7 := Lib.hid (HB5.out.trans (hb7.mono HB5.out.size)); clear hE hb7)))
    all_goals
      go_wp2_with fail
      go_meet
      exact ⟨pv, tv, ev, rfl, HE7, HB7⟩
  case rest =>
  obtain ⟨pv, tv, ev, rfl, HE7, HB7⟩ := hcut
  have HE1b := Lib.hid (HE1.out.on HB7.out)
  have HBW := Lib.hid (HB4.out.trans (HB7.out.mono HB4.out.size))
  have CW := Lib.hid (cWorldSure wc (HR.out.on HBW.out).od)
  generalize (wFold c S).1 = s at *
  generalize (wFold c (fullOf S)).1 = u at *
  clear y0 y1 y2 y3 y4 CE HE1 HB7 HST hS
  go_wp2_with fail
  refine CW.out.mono ?_
  rintro e W9 ⟨rfl, hb9⟩
  have HP1 := Lib.hid (HE1b.out.on hb9)
  have HP2 := Lib.hid (HE7.out.on hb9)
  have HB9 := Lib.hid (HBW.out.trans (hb9.mono HBW.out.size))
  obtain ⟨pb, po, pc, rfl, ⟨hpc1, hpc2⟩, hpa⟩ := HP1.out.pcell hn4.out hit.out
  obtain ⟨mb, mo, mc, rfl, ⟨hmc1, hmc2⟩, hpm⟩ := HP2.out.pcell hn4.out hit.out
  have HPA := Lib.hid hpa
  have HPM := Lib.hid hpm
  obtain ⟨rb, ro, rc, rfl, ⟨hrc1, hrc2⟩, hrr⟩ := HP1.out.rcell hit.out
  obtain ⟨qb, qo, qc, rfl, ⟨hqc1, hqc2⟩, hqq⟩ := HP2.out.rcell hit.out
  have HRR := Lib.hid hrr
  have HQQ := Lib.hid hqq
  have HM9 : Hid (∀ k, k < 2 → W9.cell? ⟨gm, k, none⟩ = some (.int .i64 (c.minted.getD k 0))) := fun k hk => cell_on HB9.out (HMK.out k hk)
  have X3 := Lib.hid ((HX.out W9 HB9.out).2.2.2.1)
  have HFin := Lib.hid (Hb2.out.trans (HB9.out.mono Hb2.out.size))
  clear hb9 hpa hpm hrr hqq CW HMK HE7 HE1b HBW HX HB9 HB4 HB3 Hb2
  go_wp2_with fail
  go_loopw [21] (fun i wr => ∃ k : Nat, k ≤ 2 ∧ i = .int .i64 k ∧ Hid (Below W9.heap.size W9 wr)) (fun i _ => 2 - (intOf i).toNat)
  case atStart => exact ⟨0, by omega, rfl, Below.refl _ _⟩
  case round =>
    obtain ⟨k, hk, rfl, HB⟩ := hrel
    by_cases hlt : k < 2
    · have hltz : (k : Int) < 2 := by omega
      have HLT := Lib.hid hlt
      have HSK := Lib.hid (HSUM.out k hlt)
      have MKc := Lib.hid (HM9.out k hlt)
      have RKc := Lib.hid (HRR.out k hlt)
      have QKc := Lib.hid (HQQ.out k hlt)
      have MBd := Lib.hid (hmm.out k hlt)
      clear hlt hk
      go_upto_region 13 with (fail)
      go_loopw [22, 23, 24] (fun had now i wr => ∃ j : Nat, j ≤ 4 ∧ i = .int .i64 j ∧ had = .int .i64 (hasAll s k j) ∧ now = .int .i64 (hasAll u k j) ∧ Hid (Below W9.heap.size W9 wr)) (fun _ _ i _ => 4 - (intOf i).toNat)
      case atStart => exact ⟨0, by omega, rfl, rfl, rfl, HB⟩
      case round =>
        clear HB
        obtain ⟨j, hj, rfl, rfl, rfl, HB⟩ := hrel
        by_cases hj4 : j < 4
        · have hjz : (j : Int) < 4 := by omega
          obtain ⟨ya, xb1, xo1, xc1, hv1, ⟨hx1, hx1'⟩, hc1⟩ := HPA.out j hj4
          obtain ⟨ym, xb2, xo2, xc2, hv2, ⟨hx2, hx2'⟩, hc2⟩ := HPM.out j hj4
          rw [hv1] at ya
          rw [hv2] at ym
          replace ya := cell_on HB.out ya
          replace ym := cell_on HB.out ym
          have za : ∀ m v, m < 6 → (purse s j k)[m]? = some v → wr.cell? ⟨xb1, xo1 + k * 6 + m, none⟩ = some v := fun m v hm hu => cell_on HB.out (hc1 k HLT.out m v hm hu)
          have zm : ∀ m v, m < 6 → (purse u j k)[m]? = some v → wr.cell? ⟨xb2, xo2 + k * 6 + m, none⟩ = some v := fun m v hm hu => cell_on HB.out (hc2 k HLT.out m v hm hu)
          have z1 := za 1 _ (by omega) rfl
          have z2 := za 2 _ (by omega) rfl
          have z3 := za 3 _ (by omega) rfl
          have z4 := za 4 _ (by omega) rfl
          have z5 := za 5 _ (by omega) rfl
          have o1 := zm 1 _ (by omega) rfl
          have o2 := zm 2 _ (by omega) rfl
          have o3 := zm 3 _ (by omega) rfl
          have o4 := zm 4 _ (by omega) rfl
          have o5 := zm 5 _ (by omega) rfl
          obtain ⟨b1, b2, b3, b4, b5, b6⟩ := HSK.out.a j hj4
          obtain ⟨d1, d2, d3, d4, d5, d6⟩ := HSK.out.b j hj4
          obtain ⟨t0, t1⟩ := hasAll_bd HSK.out.a j (by omega)
          obtain ⟨t2, t3⟩ := hasAll_bd HSK.out.b j (by omega)
          have Hus : Hid (hasAll s k (j + 1) = hasAll s k j + ((s.sh j k).free + (s.sh j k).held + (s.sh j k).used)) := rfl
          have Hun : Hid (hasAll u k (j + 1) = hasAll u k j + ((u.sh j k).free + (u.sh j k).held + (u.sh j k).used)) := rfl
          have HJ := Lib.hid hj4
          clear za zm hc1 hc2 hv1 hv2
          generalize (s.sh j k).free = F at *
          generalize (s.sh j k).held = H at *
          generalize (s.sh j k).used = U at *
          generalize hasAll s k j = T0 at *
          generalize (u.sh j k).free = F' at *
          generalize (u.sh j k).held = H' at *
          generalize (u.sh j k).used = U' at *
          generalize hasAll u k j = T1 at *
          have n1 : ¬ U < 0 := by omega
          have n2 : ¬ 100 < U := by omega
          have n3 : ¬ F < 0 := by omega
          have n4 : ¬ 100 < F := by omega
          have n5 : ¬ H < 0 := by omega
          have n6 : ¬ 100 < H := by omega
          have n7 : ¬ U' < 0 := by omega
          have n8 : ¬ 100 < U' := by omega
          have n9 : ¬ F' < 0 := by omega
          have n10 : ¬ 100 < F' := by omega
          have n11 : ¬ H' < 0 := by omega
          have n12 : ¬ 100 < H' := by omega
          have w1 : IntKind.i64.wrap (F + H) = F + H := IntWalk.i64_in _ (by omega)
          have w2 : IntKind.i64.wrap (F + H + U) = F + H + U := IntWalk.i64_in _ (by omega)
          have w3 : IntKind.i64.wrap (T0 + (F + H + U)) = T0 + (F + H + U) := IntWalk.i64_in _ (by omega)
          have w4 : IntKind.i64.wrap (F' + H') = F' + H' := IntWalk.i64_in _ (by omega)
          have w5 : IntKind.i64.wrap (F' + H' + U') = F' + H' + U' := IntWalk.i64_in _ (by omega)
          have w6 : IntKind.i64.wrap (T1 + (F' + H' + U')) = T1 + (F' + H' + U') := IntWalk.i64_in _ (by omega)
          clear b1 b2 b3 b4 b5 b6 d1 d2 d3 d4 d5 d6 t0 t1 t2 t3 hj4
          have hSA : Hid (∃ x, x = wr.alloc (.cells #[.int .i64 0, .int .i64 0, .int .i64 F, .int .i64 H, .int .i64 U] 37)) := ⟨_, rfl⟩
          obtain ⟨wa, hwa⟩ := hSA.out
          have hA : wa.heap[wr.heap.size]? = some (.cells #[.int .i64 0, .int .i64 0, .int .i64 F, .int .i64 H, .int .i64 U] 37 (0, 0)) := by rw [hwa]; exact heap_alloc_new _ _
          have hbA : Below wr.heap.size wr wa := by rw [hwa]; exact (Below.refl _ _).alloc (Nat.le_refl _) _
          obtain ⟨⟨s0, s1, s2, s3, s4⟩, -⟩ := five_at hA
          have hWA := Lib.hid hwa
          clear hwa hSA
          go_upto_region 16 with (fail)
          rw [← hWA.out]
          replace ym := cell_on hbA ym
          replace o1 := cell_on hbA o1
          replace o2 := cell_on hbA o2
          replace o3 := cell_on hbA o3
          replace o4 := cell_on hbA o4
          replace o5 := cell_on hbA o5
          have HBA := Lib.hid (HB.out.trans (hbA.mono HB.out.size))
          clear hA hbA hWA ya z1 z2 z3 z4 z5
          generalize wr.heap.size = A1 at *
          have hSB : Hid (∃ x, x = wa.alloc (.cells #[.int .i64 0, .int .i64 0, .int .i64 F', .int .i64 H', .int .i64 U'] 37)) := ⟨_, rfl⟩
          obtain ⟨wb, hwb⟩ := hSB.out
          have hA2 : wb.heap[wa.heap.size]? = some (.cells #[.int .i64 0, .int .i64 0, .int .i64 F', .int .i64 H', .int .i64 U'] 37 (0, 0)) := by rw [hwb]; exact heap_alloc_new _ _
          have hbB : Below wa.heap.size wa wb := by rw [hwb]; exact (Below.refl _ _).alloc (Nat.le_refl _) _
          obtain ⟨⟨g0, g1, g2, g3, g4⟩, -⟩ := five_at hA2
          have hWB := Lib.hid hwb
          clear hwb hSB
          go_upto_region 17 with (fail)
          rw [← hWB.out]
          replace s2 := cell_on hbB s2
          replace s3 := cell_on hbB s3
          replace s4 := cell_on hbB s4
          have HBB := Lib.hid (HBA.out.trans (hbB.mono HBA.out.size))
          clear hA2 hbB hWB ym o1 o2 o3 o4 o5 s0 s1 g0 g1 HB HBA
          generalize wa.heap.size = A2 at *
          go_wp2_with fail
          go_roundw
          case rel => exact ⟨j + 1, HJ.out, by go_num, by rw [Hus.out], by rw [Hun.out], HBB⟩
          case measure => have := HJ.out; first | (simp [intOf]; done) | (simp [intOf]; omega)
        · obtain rfl : j = 4 := by omega
          have x3 := cell_on HB.out X3.out
          have xm := cell_on HB.out MKc.out
          have xr := cell_on HB.out RKc.out
          have xq := cell_on HB.out QKc.out
          have hh := HSK.out.had
          have hw := HSK.out.now
          have hr := HSK.out.r
          have hq := HSK.out.q
          obtain ⟨t0, t1⟩ := hasAll_bd HSK.out.a 4 (by omega)
          obtain ⟨t2, t3⟩ := hasAll_bd HSK.out.b 4 (by omega)
          generalize hasAll s k 4 = T0 at *
          generalize hasAll u k 4 = T1 at *
          generalize (s.bk k).res = R0 at *
          generalize (u.bk k).res = Q0 at *
          have hM := MBd.out
          generalize c.minted.getD k 0 = M at *
          have n1 : ¬ R0 < 0 := by omega
          have n2 : ¬ M < R0 := by omega
          have n3 : ¬ Q0 < 0 := by omega
          have w1 : IntKind.i64.wrap (T0 + R0) = T0 + R0 := IntWalk.i64_in _ (by omega)
          have n4 : ¬ M < T0 + R0 := by omega
          have w2 : IntKind.i64.wrap (T1 + Q0) = M := by rw [IntWalk.i64_in _ (by omega)]; omega
          clear hh hw hr hq t0 t1 t2 t3 hM
          go_upto_region 21 with (fail)
          go_quiet (fail)
          go_wp2_with fail
          go_roundw
          case rel => exact ⟨k + 1, HLT.out, by go_num, below_drewN HB.out _⟩
          case measure => have := HLT.out; first | (simp [intOf]; done) | (simp [intOf]; omega)
    · obtain rfl : k = 2 := by omega
      go_wp2_with fail
      go_ret
      exact ⟨rfl, HFin.out.trans (HB.out.mono HFin.out.size)⟩
end Go.Proofs.YtjdedflfdlhkdaaGreatDoor.worldSums
