/- TopSold: the walk. -/
import Derived.Deep.RegionHeld3
import Derived.Test.YtjdedflfdlhkdaaDoorWEnd
import Derived.Test.YtjdedflfdlhkdaaDoorWSure
import Derived.Test.YtjdedflfdlhkdaaDoorSoldL
namespace Go.Proofs.YtjdedflfdlhkdaaDoor.topSold
open Go.ChangeShapes Go.WideShapes Go.ChangeAt Go.RowKit
set_option linter.unusedVariables false
set_option linter.unusedSimpArgs false

theorem pur_get (s : Wld) (i n k j : Nat) (hk : k < n) (hj : j < 6) : (purC s i n)[k * 6 + j]? = (purse s i k)[j]? := by
  induction n with
  | zero => omega
  | succ n ih =>
    have hlen : ∀ n, (purC s i n).length = n * 6 := fun n => by
      induction n with
      | zero => rfl
      | succ n ih => rw [purC_succ, List.length_append, ih]; simp [purse]; omega
    rw [purC_succ]
    rcases Nat.lt_or_ge k n with h | h
    · rw [List.getElem?_append_left (by rw [hlen]; omega)]; exact ih h
    · obtain rfl : k = n := by omega
      rw [List.getElem?_append_right (by rw [hlen]; omega), hlen]; congr 1; omega
set_option maxRecDepth 100000 in
set_option maxHeartbeats 8000000 in
theorem walk (w : World) (hL : OrdVar w) (v0 : Value) (ls : List Int) (A0 : Has w 1 v0 ls.length (ints ls) ∧ ∀ x ∈ ls, -9223372036854775808 ≤ x ∧ x ≤ 9223372036854775807) (a1 a2 a3 : Int) (v4 : Value) (l : List Stp) (A4 : Has w 8 v4 l.length (stps l))
    (wf1 : (Lit.int .i64 a1).wf = true) (wf2 : (Lit.int .i64 a2).wf = true) (wf3 : (Lit.int .i64 a3).wf = true) :
    Calls Tryd.prog 5 #[v0, .int .i64 a1, .int .i64 a2, .int .i64 a3, v4] w fun e w' => e = .returned (.bool true) ∧ Below w.heap.size w w' := by
  have C0 := Lib.hid (cConfigR hL a1 a2 a3 A0.1 wf2)
  have H4 := Lib.hid A4
  have Hok := Lib.hid (cfgOf_ok ls a1 a2 a3)
  have hn4 : Hid ((cfgOf ls a1 a2 a3).n = 4) := (rfl : _ = _)
  have hlb : Hid ((cfgOf ls a1 a2 a3).labs.length = 3) := (labsK_len ls 3 : _ = _)
  have hmm : Hid (∃ m0 m1, (cfgOf ls a1 a2 a3).minted = [m0, m1] ∧ (0 ≤ m0 ∧ m0 ≤ 59) ∧ (0 ≤ m1 ∧ m1 ≤ 59)) := by
    have h1 := pick_bd a2 60 (by omega)
    have h2 := pick_bd (a2.tdiv 60) 60 (by omega)
    exact ⟨_, _, rfl, by omega, by omega⟩
  generalize cfgOf ls a1 a2 a3 = c at *
  obtain ⟨_, q1, r1, rfl, _, _, _⟩ := A4
  have hS : (stepsOf (l.take 150)).length ≤ 150 := by rw [stepsOf_len, List.length_take]; omega
  clear A0 wf1 wf2 wf3 hL
  unfold Cfg.cells at C0
  go_enter Tryd.func5, Tryd.ntmps5
  go_wp2_with fail
  refine C0.out.mono ?_
  rintro e w1 ⟨gl, cl, gm, rfl, hR, hb1⟩
  have hbx := cfg_box w1 c (.slice (some ⟨gl, 0, none⟩) 3 cl) (.slice (some ⟨gm, 0, none⟩) 2 2)
  obtain ⟨x0, x1, x2, x3, x4⟩ := cfg_at (heap_alloc_new w1 (.cells (c.cells (.slice (some ⟨gl, 0, none⟩) 3 cl) (.slice (some ⟨gm, 0, none⟩) 2 2)) 25))
  have HR := Lib.hid (hR.on hbx)
  have hb2 := hb1.trans (hbx.mono hb1.size)
  have CS := Lib.hid (fun (Y : World) (hY : Below (w1.alloc (.cells (c.cells (.slice (some ⟨gl, 0, none⟩) 3 cl) (.slice (some ⟨gm, 0, none⟩) 2 2)) 25)).heap.size (w1.alloc (.cells (c.cells (.slice (some ⟨gl, 0, none⟩) 3 cl) (.slice (some ⟨gm, 0, none⟩) 2 2)) 25)) Y) => cStepsOf _ l 150 Y ((H4.out.below hb2).below hY) (by omega))
  have Hb2 := Lib.hid hb2
  unfold Cfg.cells at x0 x1 x2 x3 x4 HR CS Hb2
  clear hbx hb1 hb2 C0 H4 hR
  go_upto_region 2 with (fail)
  generalize (w1.alloc (.cells #[.int .i64 c.n, .slice (some ⟨gl, 0, none⟩) 3 cl, .int .i64 c.ticks, .slice (some ⟨gm, 0, none⟩) 2 2, .int .i64 c.cap] 25)) = W at *
  generalize w1.heap.size = B at *
  generalize stepsOf (l.take 150) = S at *
  have CP : Hid (∀ (Y : World) (v : Value) (b0 : Nat), Rdy Y c (.slice (some ⟨gl, 0, none⟩) 3 cl) (.slice (some ⟨gm, 0, none⟩) 2 2) → Y.ownsRow b0 30 8 v S.length (stps S) → _) := fun Y v b0 hY hv => cEnd Hok.out hY v S (Has.of_owns hv) (inF_owns hv) (by omega)
  unfold Cfg.cells at CP
  go_cut [12, 13, 14, 15] (fun rr pp tt e wx => ∃ pv tv ev, e = .int .i64 0 ∧ Hid (EndH wx c (wFold c S).1 rr pp tt pv tv ev) ∧ Hid (Below W.heap.size W wx))
  case first =>
    go_region_held3 (fun Z => Z.cell? ⟨B, 0, none⟩ = some (.int .i64 c.n) ∧ Z.cell? ⟨B, 1, none⟩ = some (.slice (some ⟨gl, 0, none⟩) 3 cl) ∧ Z.cell? ⟨B, 2, none⟩ = some (.int .i64 c.ticks) ∧ Z.cell? ⟨B, 3, none⟩ = some (.slice (some ⟨gm, 0, none⟩) 2 2) ∧ Z.cell? ⟨B, 4, none⟩ = some (.int .i64 c.cap))
      (first | with_reducible exact ⟨j0, j1, j2, j3, j4⟩ | with_reducible exact ⟨i0, i1, i2, i3, i4⟩ | go_keep)
      ((first | (go_at_call 7; refine (CS.out _ (Below.drew (Below.refl W.heap.size W))).mono ?_; rintro e w3 ⟨v3, rfl, hown3, hb3'⟩; have hb3 : Below W.heap.size W w3 := Below.trans (Below.drew (Below.refl W.heap.size W)) hb3'; have HO3 := Lib.hid hown3; have HB3 := Lib.hid hb3; have i0 := cell_on hb3 x0; have i1 := cell_on hb3 x1; have i2 := cell_on hb3 x2; have i3 := cell_on hb3 x3; have i4 := cell_on hb3 x4; clear hown3 hb3 hb3') | (go_at_call 12; refine (CP.out _ _ _ (HR.out.on HB3.out) HO3.out).mono ?_; rintro e w7 ⟨rr, pp, tt, pv, tv, ev, rfl, hE, hb7⟩; have j0 := cell_on hb7 i0; have j1 := cell_on hb7 i1; have j2 := cell_on hb7 i2; have j3 := cell_on hb7 i3; have j4 := cell_on hb7 i4; have HE7 := Lib.hid hE; have HB7 := Lib.hid (HB3.out.trans (hb7.mono HB3.out.size)); clear hE hb7)))
    all_goals
      go_wp2_with fail
      go_meet
      exact ⟨pv, tv, ev, rfl, HE7, HB7⟩
  case rest =>
  obtain ⟨pv, tv, ev, rfl, HE7, HB7⟩ := hcut
  have x3 := cell_on HB7.out x3
  have HSO : Hid (∀ k, k < 2 → SoldOk c (wFold c S).1 k) := fun k hk => by
    obtain ⟨m0, m1, e, h0, h1⟩ := hmm.out
    have ht := wFold_tinv c Hok.out S S.length (Nat.le_refl _) (by omega)
    have hw := wFold_ok c Hok.out S S.length (Nat.le_refl _) (by omega)
    rw [List.take_of_length_le (Nat.le_refl _)] at ht hw
    refine sold_ok hn4.out ht hw k (by unfold Cfg.items; rw [e]; simpa using hk) ?_
    rw [e]
    rcases (show k = 0 ∨ k = 1 by omega) with rfl | rfl
    · simpa using h0.2
    · simpa using h1.2
  generalize (wFold c S).1 = s at *
  have HR7 := Lib.hid (HR.out.on HB7.out)
  have HBW := Lib.hid (Hb2.out.trans (HB7.out.mono Hb2.out.size))
  have CW := Lib.hid (cWorldSure wc HR7.out.od)
  have X3 := Lib.hid x3
  clear x0 x1 x2 x4 x3 CP CS HB7 HR Hb2
  have hi2 : c.items = 2 := by obtain ⟨m0, m1, e, _⟩ := hmm.out; unfold Cfg.items; rw [e]; rfl
  have HI2 := Lib.hid hi2
  obtain ⟨_, pa, pc, he, hp1, hp2, hpc⟩ := HE7.out.p
  subst he
  obtain ⟨pb, po, rfl, hpd⟩ := hpc (by simp [hn4.out])
  have HP : Hid (∀ i, i < 4 → wc.cell? ⟨pb, po + i, none⟩ = some (pv i)) := fun i hi => hpd i _ (by simp [hn4.out, hi])
  have HMK : Hid (∀ k, k < 2 → wc.cell? ⟨gm, k, none⟩ = some (.int .i64 (c.minted.getD k 0))) := fun k hk => by
    obtain ⟨_, a, cap, he, _, _, hmc⟩ := HR7.out.cf.hm
    simp only [Value.slice.injEq] at he
    obtain ⟨rfl, -, rfl⟩ := he
    have hlen : k < c.minted.length := by have := HI2.out; unfold Cfg.items at this; omega
    obtain ⟨b, o, he, hmc⟩ := hmc (by rw [ints_length]; omega)
    simp only [Option.some.injEq, Addr.mk.injEq, and_true] at he
    obtain ⟨rfl, rfl⟩ := he
    have := hmc k _ (ints_get c.minted k hlen)
    rw [Nat.zero_add] at this
    rw [this]
    simp [List.getD_eq_getElem?_getD, hlen]
  rw [hn4.out] at hp1 ⊢
  unfold maxLen at hp2
  clear hi2 hpc hpd
  go_wp2_with fail
  refine CW.out.mono ?_
  rintro e W9 ⟨rfl, hb9⟩
  have HB9 := Lib.hid hb9
  clear hb9 CW
  go_wp2_with fail
  go_loopw [16] (fun i wr => ∃ k : Nat, k ≤ 2 ∧ i = .int .i64 k ∧ Hid (Below wc.heap.size wc wr)) (fun i _ => 2 - (intOf i).toNat)
  case atStart => exact ⟨0, by omega, rfl, HB9.out⟩
  case round =>
    obtain ⟨k, hk, rfl, HB⟩ := hrel
    by_cases hlt : k < 2
    · have hltz : (k : Int) < 2 := by omega
      have HLT := Lib.hid hlt
      have HSK := Lib.hid (HSO.out k hlt)
      have MKc := Lib.hid (HMK.out k hlt)
      clear hlt hk
      go_upto_region 10 with (fail)
      go_loopw [17, 18] (fun u i wr => ∃ j : Nat, j ≤ 4 ∧ i = .int .i64 j ∧ u = .int .i64 (usedTo s k j) ∧ Hid (Below wc.heap.size wc wr)) (fun _ i _ => 4 - (intOf i).toNat)
      case atStart => exact ⟨0, by omega, rfl, rfl, HB⟩
      case round =>
        clear HB
        obtain ⟨j, hj, rfl, rfl, HB⟩ := hrel
        by_cases hj4 : j < 4
        · have hjz : (j : Int) < 4 := by omega
          have y0 := cell_on HB.out (HP.out j hj4)
          obtain ⟨_, xa, xc, hpv, hx1, hx2, hxc⟩ := HE7.out.pe j (by rw [hn4.out]; exact hj4)
          rw [HI2.out] at hpv hx1
          obtain ⟨xb, xo, rfl, hcell⟩ := hxc (by
            have := pur_get s j c.items k 0 (by rw [HI2.out]; exact HLT.out) (by omega)
            have h2 : (purse s j k)[0]? = some (.int .i64 (s.asks j k)) := rfl
            rw [h2] at this
            have := (List.getElem?_eq_some_iff.1 this).1
            omega)
          have zz : ∀ m u, m < 6 → (purse s j k)[m]? = some u → wr.cell? ⟨xb, xo + k * 6 + m, none⟩ = some u := fun m u hm hu => by
            rw [Nat.add_assoc]
            exact cell_on HB.out (hcell _ u (by rw [pur_get s j c.items k m (by rw [HI2.out]; exact HLT.out) hm]; exact hu))
          have z0 := zz 0 _ (by omega) rfl
          rw [Nat.add_zero] at z0
          have z1 := zz 1 _ (by omega) rfl
          have z2 := zz 2 _ (by omega) rfl
          have z3 := zz 3 _ (by omega) rfl
          have z4 := zz 4 _ (by omega) rfl
          have z5 := zz 5 _ (by omega) rfl
          rw [hpv] at y0
          obtain ⟨b1, b2, b3, b4, b5⟩ := HSK.out.bd j hj4
          have b6 := HSK.out.asks j hj4
          obtain ⟨t0, t1⟩ := used_bd HSK.out j (by omega)
          have Hus : Hid (usedTo s k (j + 1) = usedTo s k j + (s.sh j k).used) := rfl
          have HJ := Lib.hid hj4
          clear zz hcell hxc hpv
          generalize s.asks j k = A at *
          generalize (s.sh j k).free = F at *
          generalize (s.sh j k).held = H at *
          generalize (s.sh j k).used = U at *
          generalize usedTo s k j = T0 at *
          have n1 : ¬ U < 0 := by omega
          have n2 : ¬ 100 < U := by omega
          have n3 : ¬ F < 0 := by omega
          have n4 : ¬ 100 < F := by omega
          have n5 : ¬ H < 0 := by omega
          have n6 : ¬ 100 < H := by omega
          have n7 : ¬ A < F + H + U := by omega
          have w1 : IntKind.i64.wrap (F + H) = F + H := IntWalk.i64_in _ (by omega)
          have w2 : IntKind.i64.wrap (F + H + U) = F + H + U := IntWalk.i64_in _ (by omega)
          have w3 : IntKind.i64.wrap (T0 + U) = T0 + U := IntWalk.i64_in _ (by omega)
          clear b1 b2 b3 b4 b5 b6 t0 t1 hj4
          go_wp2_with fail
          go_roundw
          case rel => exact ⟨j + 1, HJ.out, by go_num, by rw [Hus.out], HB.out.alloc HB.out.size _⟩
          case measure => have := HJ.out; first | (simp [intOf]; done) | (simp [intOf]; omega)
        · obtain rfl : j = 4 := by omega
          have x3 := cell_on HB.out X3.out
          have xm := cell_on HB.out MKc.out
          have hall := HSK.out.all
          obtain ⟨t0, t1⟩ := used_bd HSK.out 4 (by omega)
          generalize usedTo s k 4 = T0 at *
          generalize c.minted.getD k 0 = M at *
          have n1 : ¬ M < T0 := by omega
          clear hall t0 t1
          go_wp2_with fail
          go_roundw
          case rel => exact ⟨k + 1, HLT.out, by go_num, HB⟩
          case measure => have := HLT.out; first | (simp [intOf]; done) | (simp [intOf]; omega)
    · obtain rfl : k = 2 := by omega
      go_wp2_with fail
      go_ret
      exact ⟨rfl, HBW.out.trans (HB.out.mono HBW.out.size)⟩
end Go.Proofs.YtjdedflfdlhkdaaDoor.topSold
