/- WorldShape: the walk. -/
import Derived.Deep.RegionHeld3
import Derived.Test.YtjdedflfdlhkdaaDoorKav
namespace Go.Proofs.YtjdedflfdlhkdaaDoor.worldShape
open Go.ChangeShapes Go.WideShapes Go.ChangeAt Go.RowKit
set_option linter.unusedVariables false
set_option linter.unusedSimpArgs false

set_option maxRecDepth 100000 in
set_option maxHeartbeats 8000000 in
theorem walk (w : World) (hL : OrdVar w) (v0 : Value) (ls : List Int) (A0 : Has w 1 v0 ls.length (ints ls) ∧ ∀ x ∈ ls, -9223372036854775808 ≤ x ∧ x ≤ 9223372036854775807) (a1 a2 a3 : Int) (v4 : Value) (l : List Stp) (A4 : Has w 8 v4 l.length (stps l))
    (wf1 : (Lit.int .i64 a1).wf = true) (wf2 : (Lit.int .i64 a2).wf = true) (wf3 : (Lit.int .i64 a3).wf = true) :
    Calls Tryd.prog 3 #[v0, .int .i64 a1, .int .i64 a2, .int .i64 a3, v4] w fun e w' => e = .returned (.bool true) ∧ Below w.heap.size w w' := by
  have C0 := Lib.hid (cConfigR hL a1 a2 a3 A0.1 wf2)
  have H4 := Lib.hid A4
  have Hok := Lib.hid (cfgOf_ok ls a1 a2 a3)
  have hn4 : Hid ((cfgOf ls a1 a2 a3).n = 4) := (rfl : _ = _)
  generalize cfgOf ls a1 a2 a3 = c at *
  obtain ⟨_, q1, r1, rfl, _, _, _⟩ := A4
  clear A0 wf1 wf2 wf3 hL
  -- the deeds
  have hN : (stepsOf (l.take 120) ++ [tk9]).length ≤ 121 := by rw [List.length_append, stepsOf_len, List.length_take]; simp; omega
  have Hst := Lib.hid (stps_snoc (stepsOf (l.take 120)) tk9)
  have hNs : (stepsOf (l.take 120)).length + 1 = (stepsOf (l.take 120) ++ [tk9]).length := by simp
  unfold Cfg.cells at C0
  go_enter Tryd.func3, Tryd.ntmps3
  go_wp2_with fail
  refine C0.out.mono ?_
  rintro e w1 ⟨gl, cl, gm, rfl, hR, hb1⟩
  have hbx := cfg_box w1 c (.slice (some ⟨gl, 0, none⟩) 3 cl) (.slice (some ⟨gm, 0, none⟩) 2 2)
  obtain ⟨x0, x1, x2, x3, x4⟩ := cfg_at (heap_alloc_new w1 (.cells (c.cells (.slice (some ⟨gl, 0, none⟩) 3 cl) (.slice (some ⟨gm, 0, none⟩) 2 2)) 25))
  have HR := Lib.hid (hR.on hbx)
  have hb2 := hb1.trans (hbx.mono hb1.size)
  have CS := Lib.hid (cStepsOf _ l 120 _ (H4.out.below hb2) (by omega))
  have Hb2 := Lib.hid hb2
  unfold Cfg.cells at x0 x1 x2 x3 x4 HR CS Hb2
  clear hbx hb1 hb2 C0 H4 hR
  go_upto_region 2 with (fail)
  generalize (w1.alloc (.cells #[.int .i64 c.n, .slice (some ⟨gl, 0, none⟩) 3 cl, .int .i64 c.ticks, .slice (some ⟨gm, 0, none⟩) 2 2, .int .i64 c.cap] 25)) = W at *
  generalize w1.heap.size = B at *
  go_wp2_with fail
  refine CS.out.mono ?_
  rintro e w3 ⟨v3, rfl, hown3, hb3⟩
  obtain ⟨a3', c3, rfl⟩ := owns_slice hown3
  have HO3 := Lib.hid hown3
  have HB3 := Lib.hid hb3
  have hsz3 := hb3.size
  generalize (stepsOf (l.take 120)).length = n3 at *
  clear CS hown3
  go_upto_region 3 with ((at_builtin; refine wp_app1 (w0 := w3) 27 30 8 64 _ elStep Tryd.underlying27 W.heap.size _ _ _ HO3.out (by repeat (first | exact Below.refl _ _ | refine Below.drew ?_ | refine Below.alloc ?_ (by first | (simp; done) | (simp; omega)) _ | refine Below.setCell ?_ (by first | (simp; done) | (simp; omega)) _)) [.int .i64 9, .int .i64 0, .int .i64 0, .int .i64 0, .int .i64 0, .int .i64 0, .int .i64 0, .int .i64 0] rfl _ _ rfl rfl rfl (by first | exact heap_alloc_new _ _ | (simp only [heap_drew, heap_drewN]; exact heap_alloc_new _ _)) (by simp) rfl rfl (by omega) (by omega) hsz3 ?_; intro v5 w5 hown5 hgrow5 hb5))
  have hstp : stps (stepsOf (l.take 120)) ++ [.int .i64 9, .int .i64 0, .int .i64 0, .int .i64 0, .int .i64 0, .int .i64 0, .int .i64 0, .int .i64 0] = stps (stepsOf (l.take 120) ++ [tk9]) := Hst.out.symm
  obtain ⟨a5, c5, rfl⟩ := owns_slice hown5
  rw [hstp] at hown5
  clear hstp Hst
  generalize stepsOf (l.take 120) ++ [tk9] = S at *
  generalize n3 + 1 = N at *
  subst hNs
  have HST := Lib.hid (Has.of_owns hown5)
  have hbW5 : Below W.heap.size W w5 := HB3.out.trans hb5
  have HR5 := Lib.hid (HR.out.on hbW5)
  have HBW5 := Lib.hid (Hb2.out.trans (hbW5.mono Hb2.out.size))
  have y0 := cell_on hbW5 x0
  have y1 := cell_on hbW5 x1
  have y2 := cell_on hbW5 x2
  have y3 := cell_on hbW5 x3
  have y4 := cell_on hbW5 x4
  have hsz5 : w5.heap.size ≤ w5.heap.size := Nat.le_refl _
  clear hown5 hgrow5 hb5 hbW5 HO3 HB3 hsz3 x0 x1 x2 x3 x4
  have CP : Hid (∀ (Y : World) (v : Value), Rdy Y c (.slice (some ⟨gl, 0, none⟩) 3 cl) (.slice (some ⟨gm, 0, none⟩) 2 2) → Y.ownsRow w5.heap.size 30 8 v S.length (stps S) → _) := fun Y v hY hv => cPlayR Hok.out hY v S (Has.of_owns hv) (inF_owns hv) (by omega)
  unfold Cfg.cells at CP
  go_cut [13, 14] (fun o e wx => ∃ oa oc sv fv rv, o = .slice oa S.length oc ∧ e = .int .i64 0 ∧ Hid (TldsH wx (.slice oa S.length oc) (wFold c S).2 sv fv rv) ∧ Hid (Below w5.heap.size w5 wx))
  case first =>
    go_region_held3 (fun Z => Z.cell? ⟨B, 0, none⟩ = some (.int .i64 c.n) ∧ Z.cell? ⟨B, 1, none⟩ = some (.slice (some ⟨gl, 0, none⟩) 3 cl) ∧ Z.cell? ⟨B, 2, none⟩ = some (.int .i64 c.ticks) ∧ Z.cell? ⟨B, 3, none⟩ = some (.slice (some ⟨gm, 0, none⟩) 2 2) ∧ Z.cell? ⟨B, 4, none⟩ = some (.int .i64 c.cap))
      (first | with_reducible exact ⟨j0, j1, j2, j3, j4⟩ | with_reducible exact ⟨i0, i1, i2, i3, i4⟩ | go_keep)
      ((first | (refine step_appN (w0 := w5) (wanted_of_none (by rfl)) 27 30 8 64 _ elStep Tryd.underlying27 w5.heap.size (.slice none 0 0) 0 [] (World.ownsRow_nil _ _ _ _) (by repeat (first | exact Below.refl _ _ | refine Below.drew ?_ | refine Below.alloc ?_ (by first | (simp; done) | (simp; omega)) _ | refine Below.setCell ?_ (by first | (simp; done) | (simp; omega)) _)) _ S.length (stps S) (HST.out.below (by repeat (first | exact Below.refl _ _ | refine Below.drew ?_ | refine Below.alloc ?_ (by first | (simp; done) | (simp; omega)) _ | refine Below.setCell ?_ (by first | (simp; done) | (simp; omega)) _))) _ _ (by rfl) (by rfl) (by rfl) (stps_all _) (by omega) (by unfold maxLen; omega) (Nat.le_refl _) ?_; intro v6 w6 hown6 hgrow6 hb6; rw [Nat.zero_add, List.nil_append] at hown6; have HO6 := Lib.hid hown6; have HB6 := Lib.hid hb6; have i0 := cell_on hb6 y0; have i1 := cell_on hb6 y1; have i2 := cell_on hb6 y2; have i3 := cell_on hb6 y3; have i4 := cell_on hb6 y4; clear hown6 hgrow6 hb6) | (go_at_call 8; refine (CP.out _ _ (HR5.out.on HB6.out) HO6.out).mono ?_; rintro e w7 ⟨out, sv, fv, rv, rfl, hT, hb7⟩; have j0 := cell_on hb7 i0; have j1 := cell_on hb7 i1; have j2 := cell_on hb7 i2; have j3 := cell_on hb7 i3; have j4 := cell_on hb7 i4; have HT7 := Lib.hid hT; have HB7 := Lib.hid (HB6.out.trans (hb7.mono HB6.out.size)); clear hT hb7)))
    all_goals
      go_wp2_with fail
      go_meet
      obtain ⟨_, oa, oc, he, _⟩ := HT7.out.row
      rw [wFold_len] at he
      subst he
      exact ⟨oa, oc, sv, fv, rv, rfl, rfl, HT7, HB7⟩
  case rest =>
  obtain ⟨oa, oc, sv, fv, rv, rfl, rfl, HT7, HB7⟩ := hcut
  have hlit : Below wc.heap.size wc (wc.alloc (.cells #[.int .i64 9, .int .i64 0, .int .i64 0, .int .i64 0, .int .i64 0, .int .i64 0, .int .i64 0, .int .i64 0] 30)) := (Below.refl _ _).alloc (Nat.le_refl _) _
  have CQ := Lib.hid (cPlayR Hok.out ((HR5.out.on HB7.out).on hlit) (.slice (some ⟨wc.heap.size, 0, none⟩) 1 1) [tk9] (has_block (wp := wc) (cs := stps [tk9]) (heap_alloc_new _ _) rfl rfl (by decide)) (fun b off n' c' hv => by simp only [Value.slice.injEq, Option.some.injEq, Addr.mk.injEq] at hv; obtain ⟨⟨rfl, -, -⟩, -⟩ := hv; simp) (by simp))
  have HLIT := Lib.hid hlit
  have z0 := cell_on HB7.out y0
  have z1 := cell_on HB7.out y1
  have z2 := cell_on HB7.out y2
  have z3 := cell_on HB7.out y3
  have z4 := cell_on HB7.out y4
  unfold Cfg.cells at CQ
  clear hlit CP y0 y1 y2 y3 y4
  go_wp2_with fail
  refine CQ.out.mono ?_
  rintro e w8 ⟨out1, sv1, fv1, rv1, rfl, hT1, hb8⟩
  have hs1 : (wFold c [tk9]).2[0]? = some ((wld0 c).step c tk9).1 := told_at c [tk9] 0 (by simp)
  have hl1 : (wFold c [tk9]).2.length = 1 := by rw [wFold_len]; rfl
  have hsent1 : ∀ h : 0 < (wFold c [tk9]).2.length, ((wFold c [tk9]).2[0]'h).sent = (List.range 20).map (envK c 0) := fun h => (sent_at c hn4.out [tk9] 0 (by simp) _ (List.getElem?_eq_getElem h)).trans (if_pos rfl)
  generalize (wFold c [tk9]).2 = O1 at *
  obtain ⟨b1, o1, cap1, rfl, hc1, hc1', hcell1⟩ := hT1.at 0 (by omega)
  have u8c := hcell1 8 (sv1 0) (by omega) rfl
  have HE1 := hT1.s 0 (by omega)
  rw [hsent1 _] at HE1
  rw [List.length_map, List.length_range] at HE1
  obtain ⟨ea1, ec1, hsv1⟩ : ∃ a cap, sv1 0 = .slice a 20 cap := by obtain ⟨_, a, cap, he, _⟩ := HE1; exact ⟨a, cap, he⟩
  rw [hsv1] at u8c HE1
  rw [hl1] at hc1
  have HE := Lib.hid HE1
  have hB8 : Below w5.heap.size w5 w8 := HB7.out.trans ((HLIT.out.trans (hb8.mono HLIT.out.size)).mono HB7.out.size)
  have HB8 := Lib.hid hB8
  have HT8 := Lib.hid ((HT7.out.on HLIT.out).on hb8)
  have HS8 := Lib.hid (HST.out.below hB8)
  have HSENT : Hid (∀ i (hi : i < S.length) (hi' : i < (wFold c S).2.length), ((wFold c S).2[i]'hi').sent = if (S[i]'hi).kind = 9 then (List.range 20).map (envK c (20 * ticksIn (S.take i))) else []) := fun i hi hi' => sent_at c hn4.out S i hi _ (List.getElem?_eq_getElem _)
  have HTL : Hid ((wFold c S).2.length = S.length) := wFold_len c S
  have hnn : ((S.length : Int) != (S.length : Int)) = false := by simp
  rw [hl1]
  clear hT1 hb8 hs1 hcell1 hsent1 hl1 hB8 HE1 hsv1 CQ HT7 HST z0 z1 z2 z3 z4
  rw [Nat.zero_mul, Nat.add_zero] at u8c
  go_wp2_with fail
  go_loopw [17, 18] (fun nx i wr => ∃ k : Nat, k ≤ S.length ∧ i = .int .i64 k ∧ nx = .int .i64 ((20 * ticksIn (S.take k) : Nat) : Int) ∧ Hid (Below w8.heap.size w8 wr)) (fun _ i _ => S.length - (intOf i).toNat)
  case atStart => exact ⟨0, by omega, rfl, rfl, Below.refl _ _⟩
  case round =>
    obtain ⟨k, hk, rfl, rfl, HB⟩ := hrel
    by_cases hlt : k < S.length
    · have hltz : (k : Int) < (S.length : Int) := by omega
      obtain ⟨sb, so, scap, he, -, -, x0, -⟩ := stp_get HS8.out k hlt
      simp only [Value.slice.injEq] at he
      obtain ⟨rfl, -, rfl⟩ := he
      obtain ⟨tb, td, tcap, he, ht1, ht2, hcell⟩ := HT8.out.at k (by rw [HTL.out]; exact hlt)
      simp only [Value.slice.injEq] at he
      obtain ⟨rfl, -, rfl⟩ := he
      have hcl := hcell 8 (sv k) (by omega) rfl
      have x0 := cell_on HB.out x0
      have xs := cell_on HB.out hcl
      have u9 := cell_on HB.out u8c
      have hE := HT8.out.s k (by rw [HTL.out]; exact hlt)
      rw [HSENT.out k hlt] at hE
      have htk : Hid (ticksIn (S.take (k + 1)) = ticksIn (S.take k) + if S[k].kind = 9 then 1 else 0) := by
        show _ = _
        rw [take_snoc _ _ hlt, ticksIn_snoc]
      have htl : ticksIn (S.take k) ≤ 121 := by have := ticksIn_le (S.take k); rw [List.length_take] at this; omega
      have HLT := Lib.hid hlt
      rw [HTL.out] at ht1
      clear hcell HSENT
      by_cases h9 : (S[k]'hlt).kind = 9
      · simp only [h9, ↓reduceIte] at hE htk
        rw [h9] at x0
        have hE' : Has w8 4 (sv k) 20 (envC ((List.range 20).map (envK c (20 * ticksIn (S.take k))))) := by
          rw [List.length_map, List.length_range] at hE; exact hE
        obtain ⟨ea, ec, hsv⟩ : ∃ a cap, sv k = .slice a 20 cap := by obtain ⟨_, a, cap, he, _⟩ := hE'; exact ⟨a, cap, he⟩
        rw [hsv] at hE' xs hcl
        have HEK := Lib.hid hE'
        have HCL := Lib.hid hcl
        have HU8 := Lib.hid u8c
        clear hE hE' hsv h9 hcl
        go_upto_region 16 with (fail)
        go_upto_region 17 with (fail)
        clear x0 xs u9
        go_loopw [17, 19] (fun nx j wq => ∃ m : Nat, m ≤ 20 ∧ j = .int .i64 m ∧ nx = .int .i64 ((20 * ticksIn (S.take k) + m : Nat) : Int) ∧ Hid (Below w8.heap.size w8 wq)) (fun _ j _ => 20 - (intOf j).toNat)
        case atStart => exact ⟨0, by omega, rfl, rfl, HB⟩
        case round =>
          clear HB
          obtain ⟨m, hm, rfl, rfl, HB⟩ := hrel
          by_cases hm2 : m < 20
          · have hmz : (m : Int) < 20 := by omega
            have HM2 := Lib.hid hm2
            have xs := cell_on HB.out HCL.out
            have u9 := cell_on HB.out HU8.out
            obtain ⟨eb, eo, ecap, he, -, -, e0, e1, e2, e3⟩ := env_get (l := (List.range 20).map (envK c (20 * ticksIn (S.take k)))) (by rw [List.length_map, List.length_range]; exact HEK.out) m (by rw [List.length_map, List.length_range]; exact hm2)
            simp only [Value.slice.injEq] at he
            obtain ⟨rfl, -, rfl⟩ := he
            obtain ⟨fb, fo, fcap, he, -, -, f0, f1, f2, f3⟩ := env_get (l := (List.range 20).map (envK c 0)) (by rw [List.length_map, List.length_range]; exact HE.out) m (by rw [List.length_map, List.length_range]; exact hm2)
            simp only [Value.slice.injEq] at he
            obtain ⟨rfl, -, rfl⟩ := he
            simp only [List.getElem_map, List.getElem_range, envK] at e0 e1 e2 e3 f0 f1 f2 f3
            replace e0 := cell_on HB.out e0
            replace e1 := cell_on HB.out e1
            replace e2 := cell_on HB.out e2
            replace e3 := cell_on HB.out e3
            replace f0 := cell_on HB.out f0
            replace f1 := cell_on HB.out f1
            replace f2 := cell_on HB.out f2
            replace f3 := cell_on HB.out f3
            generalize (letK c m).1 = F at *
            generalize (letK c m).2.1 = G at *
            generalize (letK c m).2.2 = Z at *
            obtain ⟨I, hI⟩ : ∃ I : Int, I = ((20 * ticksIn (S.take k) + m : Nat) : Int) := ⟨_, rfl⟩
            have hwI : IntKind.i64.wrap (I + 1) = I + 1 := IntWalk.i64_in _ (by rw [hI]; omega)
            rw [← hI] at e0 ⊢
            have lfb := World.block_lt_of_cell? wr _ f0
            have lb1 := World.block_lt_of_cell? wr _ u9
            simp only at lfb lb1
            have lfn : fb ≠ wr.heap.size := by omega
            have lbn : b1 ≠ wr.heap.size := by omega
            have HI := Lib.hid hI
            clear hI hm2
            go_wp2_with fail
            go_roundw
            case rel => exact ⟨m + 1, HM2.out, by go_num, by rw [HI.out]; congr 1, (HB.out.alloc HB.out.size _).alloc (by have := HB.out.size; simp; omega) _⟩
            case measure => have := HM2.out; simp [intOf]; omega
          · obtain rfl : m = 20 := by omega
            clear HE HEK
            go_wp2_with fail
            go_roundw
            case rel => exact ⟨k + 1, HLT.out, by go_num, by rw [htk.out]; first | rfl | (congr 1; done) | (congr 1; omega), HB⟩
            case measure => simp [intOf]; omega
      · simp only [h9, ↓reduceIte] at hE htk
        obtain ⟨ea, ec, hsv⟩ : ∃ a cap, sv k = .slice a 0 cap := by obtain ⟨_, a, cap, he, _⟩ := hE; exact ⟨a, cap, he⟩
        rw [hsv] at xs
        have hq : ((S[k]'hlt).kind != 9) = true := by simpa using h9
        clear hE hsv hcl
        generalize (S[k]'hlt).kind = q at *
        go_wp2_with fail
        go_roundw
        case rel => exact ⟨k + 1, HLT.out, by go_num, by rw [htk.out]; rfl, HB⟩
        case measure => simp [intOf]; omega
    · obtain rfl : k = S.length := by omega
      go_wp2_with fail
      go_ret
      exact ⟨rfl, HBW5.out.trans ((HB8.out.trans (HB.out.mono HB8.out.size)).mono HBW5.out.size)⟩
end Go.Proofs.YtjdedflfdlhkdaaDoor.worldShape
