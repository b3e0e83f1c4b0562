/- ViewLess: the walk. -/
import Derived.Deep.RegionHeld3
import Derived.Test.YtjdedflfdlhkdaaGreatDoorViewOf
import Derived.Test.YtjdedflfdlhkdaaGreatDoorWBd
import Derived.Test.YtjdedflfdlhkdaaGreatDoorWSure
namespace Go.Proofs.YtjdedflfdlhkdaaGreatDoor.viewLess
open Go.ChangeShapes Go.WideShapes Go.ChangeAt Go.RowKit
set_option linter.unusedVariables false
set_option linter.unusedSimpArgs false

theorem bit1 (x : Nat) (hx : x < 16) (i : Nat) (hi : i < 4) : (bits BinOp.and IntKind.i64 ((x : Int) / 2 ^ i) 1 == 1) = inL x i := by
  have h : ∀ x : Fin 16, ∀ i : Fin 4, (bits BinOp.and IntKind.i64 (((x.1 : Nat) : Int) / 2 ^ i.1) 1 == 1) = inL x.1 i.1 := by decide
  exact h ⟨x, hx⟩ ⟨i, hi⟩
theorem bit0 (x : Nat) (hx : x < 16) (i : Nat) (hi : i < 4) : (bits BinOp.and IntKind.i64 ((x : Int) / 2 ^ i) 1 == 0) = !inL x i := by
  have h : ∀ x : Fin 16, ∀ i : Fin 4, (bits BinOp.and IntKind.i64 (((x.1 : Nat) : Int) / 2 ^ i.1) 1 == 0) = !inL x.1 i.1 := by decide
  exact h ⟨x, hx⟩ ⟨i, hi⟩
theorem i64_or16 : ∀ (x y : Nat), x < 16 → y < 16 → bits BinOp.or IntKind.i64 (x : Int) (y : Int) = ((x ||| y : Nat) : Int) ∧ x ||| y < 16 := by
  have h : ∀ x : Fin 16, ∀ y : Fin 16, bits BinOp.or IntKind.i64 ((x.val : Nat) : Int) ((y.val : Nat) : Int) = ((x.val ||| y.val : Nat) : Int) ∧ x.val ||| y.val < 16 := by decide
  exact fun x y hx hy => h ⟨x, hx⟩ ⟨y, hy⟩
theorem in15 (i : Nat) (hi : i < 4) : inL 15 i = true := by
  have h : ∀ i : Fin 4, inL 15 i.1 = true := by decide
  exact h ⟨i, hi⟩
theorem in_or (x y i : Nat) (h : inL x i = true) : inL (x ||| y) i = true := by unfold inL at *; rw [Nat.testBit_or, h]; rfl
theorem seen_in {n x : Nat} {t : Tld} {wn : Nat} (hw : t.who = (wn : Int)) (hn : wn < n) (h : inL x wn = true) : seenT n x t = t := by
  unfold seenT mine inL at *
  rw [hw]; simp [h, hn]
theorem seen_out {n x : Nat} {t : Tld} (h : ∀ wn : Nat, t.who = (wn : Int) → wn < n → inL x wn = false) (h0 : 0 ≤ t.who) : (seenT n x t).frame = [] := by
  refine seen_frame ?_
  unfold mine
  obtain ⟨wn, hw⟩ := Int.eq_ofNat_of_zero_le h0
  rw [hw]
  by_cases hn : wn < n
  · have := h wn hw hn
    unfold inL at this
    simp [this]
  · simp; intro h'; omega
set_option maxRecDepth 100000 in
set_option maxHeartbeats 8000000 in
theorem walk (w : World) (hL : OrdVar w) (v0 : Value) (ls : List Int) (A0 : Has w 1 v0 ls.length (ints ls) ∧ ∀ x ∈ ls, -9223372036854775808 ≤ x ∧ x ≤ 9223372036854775807) (v1 : Value) (l : List Stp) (A1 : Has w 8 v1 l.length (stps l)) (a2 a3 : Int)
    (wf2 : (Lit.int .i64 a2).wf = true) (wf3 : (Lit.int .i64 a3).wf = true) :
    Calls Tryz.prog 9 #[v0, v1, .int .i64 a2, .int .i64 a3] w fun e w' => e = .returned (.bool true) ∧ Below w.heap.size w w' := by
  have C0 := Lib.hid (cConfigR hL 1 99 5 A0.1 (by decide))
  have H4 := Lib.hid A1
  have Hok := Lib.hid (cfgOf_ok ls 1 99 5)
  have hn4 : Hid ((cfgOf ls 1 99 5).n = 4) := (rfl : _ = _)
  generalize cfgOf ls 1 99 5 = c at *
  obtain ⟨_, q1, r1, rfl, _, _, _⟩ := A1
  have P2 := Lib.hid fun X => picked a2 16 (by omega) (by omega) X
  have P3 := Lib.hid fun X => picked a3 16 (by omega) (by omega) X
  have hx := (pn_eq a2 16 (by omega)).2
  have hy := (pn_eq a3 16 (by omega)).2
  rw [← (pn_eq a2 16 (by omega)).1] at P2
  rw [← (pn_eq a3 16 (by omega)).1] at P3
  generalize pn a2 16 = x at *
  generalize pn a3 16 = y at *
  replace hx : x < 16 := by omega
  replace hy : y < 16 := by omega
  have hS : (stepsOf (l.take 60)).length ≤ 60 := by rw [stepsOf_len, List.length_take]; omega
  clear A0 wf2 wf3 hL
  unfold Cfg.cells at C0
  go_enter Tryz.func9, Tryz.ntmps9
  go_wp2_with fail
  refine C0.out.mono ?_
  rintro e w1 ⟨gl, cl, gm, rfl, hR, hb1⟩
  have hbx := cfg_box w1 c (.slice (some ⟨gl, 0, none⟩) 3 cl) (.slice (some ⟨gm, 0, none⟩) 2 2)
  obtain ⟨x0, x1, x2, x3, x4⟩ := cfg_at (heap_alloc_new w1 (.cells (c.cells (.slice (some ⟨gl, 0, none⟩) 3 cl) (.slice (some ⟨gm, 0, none⟩) 2 2)) 25))
  have HR := Lib.hid (hR.on hbx)
  have hb2 := hb1.trans (hbx.mono hb1.size)
  have CS := Lib.hid (fun (Y : World) (hY : Below (w1.alloc (.cells (c.cells (.slice (some ⟨gl, 0, none⟩) 3 cl) (.slice (some ⟨gm, 0, none⟩) 2 2)) 25)).heap.size (w1.alloc (.cells (c.cells (.slice (some ⟨gl, 0, none⟩) 3 cl) (.slice (some ⟨gm, 0, none⟩) 2 2)) 25)) Y) => cStepsOf _ l 60 Y ((H4.out.below hb2).below hY) (by omega))
  have Hb2 := Lib.hid hb2
  unfold Cfg.cells at x0 x1 x2 x3 x4 HR CS Hb2
  clear hbx hb1 hb2 C0 H4 hR
  go_upto_region 2 with (fail)
  generalize (w1.alloc (.cells #[.int .i64 c.n, .slice (some ⟨gl, 0, none⟩) 3 cl, .int .i64 c.ticks, .slice (some ⟨gm, 0, none⟩) 2 2, .int .i64 c.cap] 25)) = W at *
  generalize w1.heap.size = B at *
  generalize stepsOf (l.take 60) = S at *
  have CP : Hid (∀ (Y : World) (v : Value) (b0 : Nat), Rdy Y c (.slice (some ⟨gl, 0, none⟩) 3 cl) (.slice (some ⟨gm, 0, none⟩) 2 2) → Y.ownsRow b0 48 8 v S.length (stps S) → _) := fun Y v b0 hY hv => cPlayR Hok.out hY v S (Has.of_owns hv) (inF_owns hv) (by omega)
  unfold Cfg.cells at CP
  go_cut [10, 11] (fun o e wx => ∃ oa oc sv fv rv, o = .slice oa S.length oc ∧ e = .int .i64 0 ∧ Hid (TldsH wx (.slice oa S.length oc) (wFold c S).2 sv fv rv) ∧ Hid (Below W.heap.size W wx))
  case first =>
    go_region_held3 (fun Z => Z.cell? ⟨B, 0, none⟩ = some (.int .i64 c.n) ∧ Z.cell? ⟨B, 1, none⟩ = some (.slice (some ⟨gl, 0, none⟩) 3 cl) ∧ Z.cell? ⟨B, 2, none⟩ = some (.int .i64 c.ticks) ∧ Z.cell? ⟨B, 3, none⟩ = some (.slice (some ⟨gm, 0, none⟩) 2 2) ∧ Z.cell? ⟨B, 4, none⟩ = some (.int .i64 c.cap))
      (first | with_reducible exact ⟨j0, j1, j2, j3, j4⟩ | with_reducible exact ⟨i0, i1, i2, i3, i4⟩ | go_keep)
      ((first | (go_at_call 12; refine (CS.out _ (Below.drew (Below.refl W.heap.size W))).mono ?_; rintro e w3 ⟨v3, rfl, hown3, hb3'⟩; have hb3 : Below W.heap.size W w3 := Below.trans (Below.drew (Below.refl W.heap.size W)) hb3'; have HO3 := Lib.hid hown3; have HB3 := Lib.hid hb3; have i0 := cell_on hb3 x0; have i1 := cell_on hb3 x1; have i2 := cell_on hb3 x2; have i3 := cell_on hb3 x3; have i4 := cell_on hb3 x4; clear hown3 hb3 hb3') | (go_at_call 20; refine (CP.out _ _ _ (HR.out.on HB3.out) HO3.out).mono ?_; rintro e w7 ⟨out, sv, fv, rv, rfl, hT, hb7⟩; have j0 := cell_on hb7 i0; have j1 := cell_on hb7 i1; have j2 := cell_on hb7 i2; have j3 := cell_on hb7 i3; have j4 := cell_on hb7 i4; have HT7 := Lib.hid hT; have HB7 := Lib.hid (HB3.out.trans (hb7.mono HB3.out.size)); clear hT hb7)))
    all_goals
      go_wp2_with fail
      go_meet
      obtain ⟨_, oa, oc, he, _⟩ := HT7.out.row
      rw [wFold_len] at he
      subst he
      exact ⟨oa, oc, sv, fv, rv, rfl, rfl, HT7, HB7⟩
  case rest =>
  obtain ⟨oa, oc, sv, fv, rv, rfl, rfl, HT7, HB7⟩ := hcut
  have HTL : Hid ((wFold c S).2.length = S.length) := wFold_len c S
  have HBD := Lib.hid (wFold_bd Hok.out S (by omega))
  have HWH : Hid (∀ i (h : i < (wFold c S).2.length), 0 ≤ ((wFold c S).2[i]'h).who) := fun i h => told_who c S i _ (List.getElem?_eq_getElem h)
  generalize (wFold c S).2 = T at *
  have HR7 := Lib.hid (HR.out.on HB7.out)
  have HX : Hid (∀ Y, Below wc.heap.size wc Y → (Y.cell? ⟨B, 0, none⟩ = some (.int .i64 c.n) ∧ Y.cell? ⟨B, 1, none⟩ = some (.slice (some ⟨gl, 0, none⟩) 3 cl) ∧ Y.cell? ⟨B, 2, none⟩ = some (.int .i64 c.ticks) ∧ Y.cell? ⟨B, 3, none⟩ = some (.slice (some ⟨gm, 0, none⟩) 2 2) ∧ Y.cell? ⟨B, 4, none⟩ = some (.int .i64 c.cap))) := fun Y hY => by
    have q := HB7.out.trans (hY.mono HB7.out.size)
    exact ⟨cell_on q x0, cell_on q x1, cell_on q x2, cell_on q x3, cell_on q x4⟩
  have HBW := Lib.hid (Hb2.out.trans (HB7.out.mono Hb2.out.size))
  obtain ⟨y0, y1, y2, y3, y4⟩ := HX.out wc (Below.refl _ _)
  have hbits : ∀ z, z < 16 → z < 2 ^ c.n := fun z hz => by rw [hn4.out]; exact hz
  have HBI := Lib.hid hbits
  have CV : Hid (∀ (Y : World) (out : Value) (T' : List Tld) (s f r : Nat → Value) (z : Nat), Below wc.heap.size wc Y → TldsH Y out T' s f r → T'.length ≤ 300 → (∀ t ∈ T', t.sent.length ≤ 1000000 ∧ t.frame.length ≤ 1000000 ∧ t.report.length ≤ 1000000) → z < 16 → _) := fun Y out T' s f r z hY hT hl hbd hz => cViewOf Hok.out (HR7.out.cf.on hY) hT hl hbd z (HBI.out z hz)
  unfold Cfg.cells at CV
  clear hbits x0 x1 x2 x3 x4 CP CS
  have hl300 : T.length ≤ 300 := by rw [HTL.out]; omega
  have HL3 := Lib.hid hl300
  clear hl300
  obtain ⟨hor, horl⟩ := i64_or16 x y hx hy
  have HORL := Lib.hid horl
  clear horl
  go_upto_region 4 with ((go_at_call 18; with_reducible refine (P2.out _).mono ?_; rintro e w' ⟨rfl, rfl⟩))
  have C1 := Lib.hid (CV.out wc (.slice oa S.length oc) T sv fv rv x (Below.refl _ _) (HT7.out.on (Below.refl _ _)) HL3.out HBD.out hx)
  go_wp2_with fail
  refine C1.out.mono ?_
  rintro e w3 ⟨o1, s1, f1, r1', rfl, hT1, hb1⟩
  have hbb1 : Below wc.heap.size wc w3 := hb1
  have HB1 := Lib.hid hbb1
  have HT1 := Lib.hid hT1
  obtain ⟨p1, k1, rfl⟩ : ∃ a cap, o1 = .slice a S.length cap := by obtain ⟨_, a, cap, he, _⟩ := hT1.row; rw [view_len, HTL.out] at he; exact ⟨a, cap, he⟩
  clear hT1 hb1 C1 y0 y1 y2 y3 y4
  obtain ⟨y0, y1, y2, y3, y4⟩ := HX.out w3 hbb1
  go_upto_region 5 with (fail)
  go_cut [15, 16] (fun o e wx => ∃ p k s f r, o = .slice p S.length k ∧ e = .int .i64 0 ∧ Hid (TldsH wx (.slice p S.length k) (viewOf c.n (x ||| y) T) s f r) ∧ Hid (Below w3.heap.size w3 wx))
  case first =>
    have CZ : Hid (∀ Y : World, Below w3.heap.size w3 Y → _) := fun Y hY => CV.out Y (.slice oa S.length oc) T sv fv rv (x ||| y) (HB1.out.trans (hY.mono HB1.out.size)) (HT7.out.on (HB1.out.trans (hY.mono HB1.out.size))) HL3.out HBD.out HORL.out
    go_region_held3 (fun Z => Z.cell? ⟨B, 0, none⟩ = some (.int .i64 c.n) ∧ Z.cell? ⟨B, 1, none⟩ = some (.slice (some ⟨gl, 0, none⟩) 3 cl) ∧ Z.cell? ⟨B, 2, none⟩ = some (.int .i64 c.ticks) ∧ Z.cell? ⟨B, 3, none⟩ = some (.slice (some ⟨gm, 0, none⟩) 2 2) ∧ Z.cell? ⟨B, 4, none⟩ = some (.int .i64 c.cap))
      (first | with_reducible exact ⟨j0, j1, j2, j3, j4⟩ | go_keep)
      ((first | (go_at_call 18; with_reducible refine (P3.out _).mono ?_; rintro e w' ⟨rfl, rfl⟩) | (go_at_call 23; refine (CZ.out _ (Below.drew (Below.refl w3.heap.size w3))).mono ?_; rintro e w5 ⟨o2, s2, f2, r2, rfl, hT2, hb2'⟩; have hb2 : Below w3.heap.size w3 w5 := Below.trans (Below.drew (Below.refl w3.heap.size w3)) hb2'; have hq := HB1.out.trans (hb2.mono HB1.out.size); obtain ⟨j0, j1, j2, j3, j4⟩ := HX.out w5 hq; have HT2 := Lib.hid hT2; have HB2 := Lib.hid hb2; clear hT2 hb2 hb2' hq)))
    all_goals
      go_wp2_with fail
      go_meet
      obtain ⟨_, p2, k2, he, _⟩ := HT2.out.row
      rw [view_len, HTL.out] at he
      subst he
      exact ⟨p2, k2, s2, f2, r2, rfl, rfl, HT2, HB2⟩
  case rest =>
  obtain ⟨p2, k2, s2, f2, r2, rfl, rfl, HT2, HB2⟩ := hcut
  have HB6 := Lib.hid (HB1.out.trans (HB2.out.mono HB1.out.size))
  have hnn : ((S.length : Int) != (S.length : Int)) = false := by simp
  have CW := Lib.hid (cWorldSure wc (HR7.out.od.on HB6.out HR7.out.od.pos))
  have HTa := Lib.hid (HT1.out.on HB2.out)
  have HTt := Lib.hid (HT7.out.on HB6.out)
  go_wp2_with fail
  refine CW.out.mono ?_
  rintro e W9 ⟨rfl, hb9⟩
  have HA := Lib.hid (HTa.out.on hb9)
  have HM := Lib.hid (HT2.out.on hb9)
  have HTT := Lib.hid (HTt.out.on hb9)
  have HB9 := Lib.hid (HB6.out.trans (hb9.mono HB6.out.size))
  clear hb9 CW hbb1 y0 y1 y2 y3 y4
  go_wp2_with fail
  go_loopw [17] (fun i wr => ∃ k : Nat, k ≤ S.length ∧ i = .int .i64 k ∧ Hid (Below W9.heap.size W9 wr)) (fun i _ => S.length - (intOf i).toNat)
  case atStart => exact ⟨0, by omega, rfl, Below.refl _ _⟩
  case round =>
    obtain ⟨k, hk, rfl, HB⟩ := hrel
    by_cases hlt : k < S.length
    · have hltz : (k : Int) < (S.length : Int) := by omega
      have hT : k < T.length := by rw [HTL.out]; exact hlt
      obtain ⟨tb, tp, tcap, he, -, -, hct⟩ := HTT.out.at k hT
      simp only [Value.slice.injEq] at he
      obtain ⟨rfl, -, rfl⟩ := he
      have zw := cell_on HB.out (hct 1 _ (by omega) rfl)
      obtain ⟨wn, hwn⟩ := Int.eq_ofNat_of_zero_le (HWH.out k hT)
      rw [hwn] at zw
      have HLT := Lib.hid hlt
      have HWN := Lib.hid hwn
      have Fin : Hid (∀ w8, Below wr.heap.size wr w8 → Hid (Below W9.heap.size W9 w8)) := fun w8 hb8 => HB.out.trans (hb8.mono HB.out.size)
      clear hwn hk
      by_cases h4 : wn < 4
      · have h4z : (wn : Int) < 4 := by omega
        cases hin : inL x wn with
        | false =>
          have hbit := bit1 x hx wn h4
          rw [hin] at hbit
          have a1 := ext_cell zw
          clear zw hct
          go_upto_region 11 with (fail)
          refine wp_region_grow (by kernel_rfl) (by kernel_rfl) ?_
          repeat (go_big_quiet_step (fail))
          refine wpQuiet_nil ?_
          intro w8 hb8
          have HB8 := Fin.out _ hb8
          clear hb8 Fin a1
          go_wp2_with fail
          go_roundw
          case rel => exact ⟨k + 1, HLT.out, by go_num, HB8⟩
          case measure => have := HLT.out; first | (simp [intOf]; done) | (simp [intOf]; omega)
        | true =>
          have hbit := bit1 x hx wn h4
          rw [hin] at hbit
          have e1 : (viewOf c.n x T)[k]'(by rw [view_len]; exact hT) = T[k]'hT := by unfold viewOf; rw [List.getElem_map]; exact seen_in HWN.out (by rw [hn4.out]; exact h4) hin
          have e2 : (viewOf c.n (x ||| y) T)[k]'(by rw [view_len]; exact hT) = T[k]'hT := by unfold viewOf; rw [List.getElem_map]; exact seen_in HWN.out (by rw [hn4.out]; exact h4) (in_or x y wn hin)
          obtain ⟨ab, ap, acap, he, -, -, hca⟩ := HA.out.at k (by rw [view_len]; exact hT)
          simp only [Value.slice.injEq] at he
          obtain ⟨rfl, -, rfl⟩ := he
          obtain ⟨mb, mp, mcap, he, -, -, hcm⟩ := HM.out.at k (by rw [view_len]; exact hT)
          simp only [Value.slice.injEq] at he
          obtain ⟨rfl, -, rfl⟩ := he
          have R1 := HA.out.rd k (by rw [view_len]; exact hT)
          have R2 := HM.out.rd k (by rw [view_len]; exact hT)
          rw [e1] at hca R1
          rw [e2] at hcm R2
          have z1 : ∀ j u, j < 11 → ((T[k]'hT).cells (s1 k) (f1 k) (r1' k))[j]? = some u → wr.cell? ⟨ab, ap + k * 11 + j, none⟩ = some u := fun j u hj hu => cell_on HB.out (hca j u hj hu)
          have z2 : ∀ j u, j < 11 → ((T[k]'hT).cells (s2 k) (f2 k) (r2 k))[j]? = some u → wr.cell? ⟨mb, mp + k * 11 + j, none⟩ = some u := fun j u hj hu => cell_on HB.out (hcm j u hj hu)
          have CS : Hid (∀ X : Ext wr, Calls Tryz.prog 25 #[(T[k]'hT).val (s1 k) (f1 k) (r1' k), (T[k]'hT).val (s2 k) (f2 k) (r2 k)] X.1 fun e w' => e = .returned (.bool true) ∧ Below X.1.heap.size X.1 w') := fun X =>
            cSameTold (T[k]'hT) (R1.on (HB.out.trans (X.2.mono HB.out.size))) (R2.on (HB.out.trans (X.2.mono HB.out.size)))
          have w1 := ext_cell zw
          clear hca hcm R1 R2 e1 e2 hct zw
          generalize (T[k]'hT) = t at *
          obtain ⟨tc, tw, ⟨kc, ki, kf, kh, ku⟩, tv, ts, tf, tr⟩ := t
          unfold Tld.val tldC at CS
          unfold Tld.cells tldC at z1 z2
          simp only at CS z1 z2 HWN
          have a0 := ext_cell (by have := z1 0 _ (by omega) rfl; rwa [Nat.add_zero] at this)
          have a1 := ext_cell (z1 1 _ (by omega) rfl)
          have a2 := ext_cell (z1 2 _ (by omega) rfl)
          have a3 := ext_cell (z1 3 _ (by omega) rfl)
          have a4 := ext_cell (z1 4 _ (by omega) rfl)
          have a5 := ext_cell (z1 5 _ (by omega) rfl)
          have a6 := ext_cell (z1 6 _ (by omega) rfl)
          have a7 := ext_cell (z1 7 _ (by omega) rfl)
          have a8 := ext_cell (z1 8 _ (by omega) rfl)
          have a9 := ext_cell (z1 9 _ (by omega) rfl)
          have a10 := ext_cell (z1 10 _ (by omega) rfl)
          have c0' := ext_cell (by have := z2 0 _ (by omega) rfl; rwa [Nat.add_zero] at this)
          have c1' := ext_cell (z2 1 _ (by omega) rfl)
          have c2' := ext_cell (z2 2 _ (by omega) rfl)
          have c3' := ext_cell (z2 3 _ (by omega) rfl)
          have c4' := ext_cell (z2 4 _ (by omega) rfl)
          have c5' := ext_cell (z2 5 _ (by omega) rfl)
          have c6' := ext_cell (z2 6 _ (by omega) rfl)
          have c7' := ext_cell (z2 7 _ (by omega) rfl)
          have c8' := ext_cell (z2 8 _ (by omega) rfl)
          have c9' := ext_cell (z2 9 _ (by omega) rfl)
          have c10' := ext_cell (z2 10 _ (by omega) rfl)
          clear z1 z2
          go_upto_region 11 with (fail)
          refine wp_region_grow (by kernel_rfl) (by kernel_rfl) ?_
          repeat (go_big_quiet_step ((go_at_call 25; with_reducible exact grow_of (CS.out _))))
          refine wpQuiet_nil ?_
          intro w8 hb8
          have HB8 := Fin.out _ hb8
          clear hb8 Fin CS w1 a0 a1 a2 a3 a4 a5 a6 a7 a8 a9 a10 c0' c1' c2' c3' c4' c5' c6' c7' c8' c9' c10'
          go_wp2_with fail
          go_roundw
          case rel => exact ⟨k + 1, HLT.out, by go_num, HB8⟩
          case measure => have := HLT.out; first | (simp [intOf]; done) | (simp [intOf]; omega)
      · have h4z : ¬ (wn : Int) < 4 := by omega
        have a1 := ext_cell zw
        clear zw hct
        go_upto_region 11 with (fail)
        refine wp_region_grow (by kernel_rfl) (by kernel_rfl) ?_
        repeat (go_big_quiet_step (fail))
        refine wpQuiet_nil ?_
        intro w8 hb8
        have HB8 := Fin.out _ hb8
        clear hb8 Fin a1
        go_wp2_with fail
        go_roundw
        case rel => exact ⟨k + 1, HLT.out, by go_num, HB8⟩
        case measure => have := HLT.out; first | (simp [intOf]; done) | (simp [intOf]; omega)
    · obtain rfl : k = S.length := by omega
      go_wp2_with fail
      go_ret
      exact ⟨rfl, HBW.out.trans ((HB9.out.trans (HB.out.mono HB9.out.size)).mono HBW.out.size)⟩
end Go.Proofs.YtjdedflfdlhkdaaGreatDoor.viewLess
