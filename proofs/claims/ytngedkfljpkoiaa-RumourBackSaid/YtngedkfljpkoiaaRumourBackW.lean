/- RumourBack: the walk. -/
import Derived.Test.YtngedkfljpkoiaaFrmS
namespace Go.Proofs.Ytngedkfljpkoiaa.rumourBack
open Go.ChangeShapes Go.WideShapes Go.ChangeAt Go.RowKit
set_option linter.unusedVariables false
set_option linter.unusedSimpArgs false

set_option maxRecDepth 100000 in
set_option maxHeartbeats 8000000 in
theorem walk (w : World) (v0 : Value) (ls : List Int) (A0 : Has w 1 v0 ls.length (ints ls) ∧ ∀ x ∈ ls, -9223372036854775808 ≤ x ∧ x ≤ 9223372036854775807) (v1 : Value) (n1 : List Ent) (A1 : Has w 5 v1 n1.length (ents n1)) (v2 : Value) (n2 : List Ent) (A2 : Has w 5 v2 n2.length (ents n2)) (v3 : Value) (n3 : List Ent) (A3 : Has w 5 v3 n3.length (ents n3))
    (a4 a5 : Int) (wf4 : (Lit.int .i64 a4).wf = true) (wf5 : (Lit.int .i64 a5).wf = true) :
    Calls Try.prog 9 #[v0, v1, v2, v3, .int .i64 a4, .int .i64 a5] w fun e w' => e = .returned (.bool true) ∧ Below w.heap.size w w' := by
  have C0 := Lib.hid (cConfigOf 1 1 1 A0.1 (by decide))
  have H1 := Lib.hid A1
  have H2 := Lib.hid A2
  have H3 := Lib.hid A3
  have Hok := Lib.hid (cfgOf_ok ls 1 1 1)
  have hn4 : (cfgOf ls 1 1 1).n = 4 := rfl
  have hlen : (cfgOf ls 1 1 1).labs.length = 3 := labsK_len ls 3
  have P4 := Lib.hid fun X => picked a4 4 (by omega) (by omega) X
  have P5 := Lib.hid fun X => picked a5 4 (by omega) (by omega) X
  have hx := (pn_eq a4 4 (by omega)).2
  have hy := (pn_eq a5 4 (by omega)).2
  rw [← (pn_eq a4 4 (by omega)).1] at P4
  rw [← (pn_eq a5 4 (by omega)).1] at P5
  generalize pn a4 4 = x at *
  generalize pn a5 4 = y at *
  have hxn : x < (cfgOf ls 1 1 1).n := by omega
  have hyn : y < (cfgOf ls 1 1 1).n := by omega
  clear hn4
  generalize cfgOf ls 1 1 1 = c at *
  have HXN := Lib.hid hxn
  have HYN := Lib.hid hyn
  clear hxn hyn
  clear A0 A1 A2 A3 wf4 wf5
  unfold Cfg.cells at C0
  go_enter Try.func9, Try.ntmps9
  go_wp2_with fail
  refine C0.out.mono ?_
  rintro e w1 ⟨gl, cl, gm, rfl, hC, hb1⟩
  have hbx := cfg_box w1 c (.slice (some ⟨gl, 0, none⟩) 3 cl) (.slice (some ⟨gm, 0, none⟩) 2 2)
  obtain ⟨x0, x1, x2, x3, x4⟩ := cfg_at (heap_alloc_new w1 (.cells (c.cells (.slice (some ⟨gl, 0, none⟩) 3 cl) (.slice (some ⟨gm, 0, none⟩) 2 2)) 48))
  have HC := Lib.hid (hC.on hbx)
  have hb2 := hb1.trans (hbx.mono hb1.size)
  have CS := Lib.hid (cStoreOf (H1.out.below hb2) (H2.out.below hb2) (H3.out.below hb2))
  have Hb2 := Lib.hid hb2
  have hclb : 3 ≤ cl ∧ cl ≤ maxLen := by
    obtain ⟨_, _, _, he, h1, h2, _⟩ := hC.hl
    simp only [Value.slice.injEq] at he
    obtain ⟨-, -, rfl⟩ := he
    rw [hlen] at h1
    exact ⟨h1, h2⟩
  obtain ⟨hcl1, hcl2⟩ := hclb
  unfold maxLen at hcl2
  unfold Cfg.cells at x0 x1 x2 x3 x4 HC CS Hb2
  clear hbx hb1 hb2 C0 H1 H2 H3 hC
  go_upto_region 2 with (fail)
  generalize (w1.alloc (.cells #[.int .i64 c.n, .slice (some ⟨gl, 0, none⟩) 3 cl, .int .i64 c.ticks, .slice (some ⟨gm, 0, none⟩) 2 2, .int .i64 c.cap] 48)) = W at *
  generalize w1.heap.size = B at *
  go_wp2_with fail
  refine CS.out.mono ?_
  rintro e w3 ⟨gs, vs, rfl, hS, hSc, hb3⟩
  have HC3 := Lib.hid (HC.out.on hb3)
  have HS := Lib.hid hS
  have HSc := Lib.hid hSc
  have Hb3 := Lib.hid (Hb2.out.trans (hb3.mono Hb2.out.size))
  replace x0 := cell_on hb3 x0
  replace x1 := cell_on hb3 x1
  replace x2 := cell_on hb3 x2
  replace x3 := cell_on hb3 x3
  replace x4 := cell_on hb3 x4
  generalize three n1 n2 n3 = l at *
  have CR := Lib.hid (cRumour Hok.out HC3.out x y HXN.out HYN.out (.slice (some ⟨gs, 0, none⟩) 3 3) vs l (by rw [hlen]; exact HS.out))
  have Hlok := Lib.hid hS.ok
  unfold Cfg.cells at CR
  clear CS HC hb3 hS hSc Hb2
  go_upto_region 5 with (first | (go_at_call 16; with_reducible refine (P4.out _).mono ?_; rintro e w' ⟨rfl, rfl⟩) | (go_at_call 16; with_reducible refine (P5.out _).mono ?_; rintro e w' ⟨rfl, rfl⟩))
  rename World => w3
  go_wp2_with fail
  refine CR.out.mono ?_
  rintro e w4 ⟨v4, rfl, hown4, hb4⟩
  obtain ⟨a4', c4, rfl⟩ := owns_slice hown4
  have HC4 := Lib.hid (HC3.out.on hb4)
  replace x0 := cell_on hb4 x0
  replace x1 := cell_on hb4 x1
  replace x2 := cell_on hb4 x2
  replace x3 := cell_on hb4 x3
  replace x4 := cell_on hb4 x4
  have CH := Lib.hid (cHeard Hok.out HC4.out x y HXN.out HYN.out (.slice a4' (recSize (rumF c.labs x y l)) c4) l (by rw [hlen]; exact Hlok.out) (Has.of_owns hown4))
  have HS4 := Lib.hid (HS.out.on hb4)
  have HSc4 := Lib.hid (fun j hj => cell_on hb4 (HSc.out j hj))
  have Hb4 := Lib.hid (Hb3.out.trans (hb4.mono Hb3.out.size))
  unfold Cfg.cells at CH
  rw [hlen] at CH
  clear CR hown4 hb4 HC3 HS HSc Hb3 P4 P5
  go_wp2_with fail
  refine CH.out.mono ?_
  rintro e w5 ⟨gh, vh, rfl, hH⟩
  have hb5 := hH.hb
  have HC5 := Lib.hid (HC4.out.on hb5)
  replace x0 := cell_on hb5 x0
  replace x1 := cell_on hb5 x1
  replace x2 := cell_on hb5 x2
  replace x3 := cell_on hb5 x3
  replace x4 := cell_on hb5 x4
  have HS5 := Lib.hid (HS4.out.on hb5)
  have HSc5 := Lib.hid (fun j hj => cell_on hb5 (HSc4.out j hj))
  have Hb5 := Lib.hid (Hb4.out.trans (hb5.mono Hb4.out.size))
  have HH := Lib.hid hH
  have CM := Lib.hid (cFMay Hok.out HC5.out)
  unfold Cfg.cells at CM
  clear CH hb5 hH HC4 HS4 HSc4 Hb4
  go_wp2_with fail
  refine CM.out.mono ?_
  rintro e w6 ⟨rfl, hb6⟩
  have HC6 := Lib.hid (HC5.out.on hb6)
  have X1 := Lib.hid (cell_on hb6 x1)
  have HS6 := Lib.hid (HS5.out.on hb6)
  have HSc6 := Lib.hid (fun j hj => cell_on hb6 (HSc5.out j hj))
  have Hb6 := Lib.hid (Hb5.out.trans (hb6.mono Hb5.out.size))
  have HHc := Lib.hid (fun j hj => cell_on hb6 (HH.out.cell j hj))
  have HHr := Lib.hid (fun j hj => (HH.out.rows j hj).below hb6)
  have HHn := Lib.hid HH.out.nil
  clear CM hb6 HC5 HS5 HSc5 Hb5 HH x0 x1 x2 x3 x4
  go_wp2_with fail
  go_loopw [22] (fun i wr => ∃ k : Nat, k ≤ 3 ∧ i = .int .i64 k ∧ Hid (Below w6.heap.size w6 wr)) (fun i _ => 3 - (intOf i).toNat)
  case atStart => exact ⟨0, by omega, rfl, Below.refl _ _⟩
  case round =>
    obtain ⟨i, hi, rfl, HB⟩ := hrel
    by_cases hlt : i < 3
    · have hltz : (i : Int) < 3 := by omega
      have x1 := cell_on HB.out X1.out
      have hlr : Has w6 1 (.slice (some ⟨gl, 0, none⟩) 3 cl) 3 (ints (labInts c.labs)) := by have := HC6.out.hl; rwa [hlen] at this
      have x0 := cell_on HB.out (lab_cell hlr i (by omega))
      have hl16 := Hok.out.lt16 _ (List.getElem_mem (show i < c.labs.length by omega))
      have hbi := bit_in (c.labs[i]'(by omega)) x (by omega)
      have hbk := bit_in (c.labs[i]'(by omega)) y (by omega)
      have hhe : heardL c.labs x y l i = if inL (c.labs[i]'(by omega)) x = true ∧ inL (c.labs[i]'(by omega)) y = true then l i else [] := by
        unfold heardL
        rw [lb_at (by omega), lb_at (by omega)]
        by_cases h : inL (c.labs[i]'(by omega)) x = true ∧ inL (c.labs[i]'(by omega)) y = true
        · rw [if_pos h, if_pos ⟨by omega, h⟩]
        · rw [if_neg h, if_neg (fun hh => h hh.2)]
      have d1 := cell_on HB.out (HHc.out i hlt)
      have d2 := cell_on HB.out (HSc6.out i hlt)
      have E1 := Lib.hid ((HHr.out i hlt).below HB.out)
      have E2 := Lib.hid ((HS6.out.rows i hlt).below HB.out)
      have hnil := HHn.out i
      rw [hhe] at E1 hnil
      have Hnil := Lib.hid hnil
      generalize c.labs[i]'(by omega) = lab at *
      have Fin : Hid (∀ w8, Below wr.heap.size wr w8 → Hid (Below w6.heap.size w6 w8)) := fun w8 hb8 => HB.out.trans (hb8.mono HB.out.size)
      clear hhe hlr hnil
      by_cases hb : inL lab x = true ∧ inL lab y = true
      · rw [if_pos hb] at E1
        obtain ⟨h1, h2⟩ := hb
        rw [h1] at hbi
        rw [h2] at hbk
        obtain ⟨_, a1, c1, he1, _, _, _⟩ := E1.out
        obtain ⟨_, a2, c2, he2, _, _, _⟩ := E2.out
        rw [he1] at d1 E1
        rw [he2] at d2 E2
        have CS : Hid (∀ X : Ext wr, Calls Try.prog 14 #[.slice a1 (l i).length c1, .slice a2 (l i).length c2] X.1 fun e w' => e = .returned (.bool true) ∧ Below X.1.heap.size X.1 w') := fun X => csameEntries _ _ _ X.1 (E1.out.below X.2) (E2.out.below X.2)
        have p1 := ext_cell d1
        have p2 := ext_cell d2
        clear he1 he2 E1 E2 Hnil HB
        go_upto_region 13 with (fail)
        refine wp_region_grow (by kernel_rfl) (by kernel_rfl) ?_
        repeat (go_big_quiet_step ((go_at_call 14; with_reducible exact grow_of (CS.out _))))
        refine wpQuiet_nil ?_
        intro w8 hb8
        have HB8 := Fin.out _ hb8
        clear hb8 Fin CS p1 p2 x0 x1 d1 d2
        go_wp2_with fail
        go_roundw
        case rel => exact ⟨i + 1, by omega, by go_num, HB8⟩
        case measure => first | (simp [intOf]; done) | (simp [intOf]; omega)
      · have hv := Hnil.out (if_neg hb)
        rw [hv] at d1
        have HB8 : Hid (Below w6.heap.size w6 wr) := HB.out
        clear hv Hnil E1 E2 Fin HB
        have hcases : inL lab x = false ∨ (inL lab x = true ∧ inL lab y = false) := by
          cases h1 : inL lab x <;> cases h2 : inL lab y <;> simp_all
        rcases hcases with h1 | ⟨h1, h2⟩
        · rw [h1] at hbi
          go_wp2_with fail
          go_roundw
          case rel => exact ⟨i + 1, by omega, by go_num, HB8⟩
          case measure => first | (simp [intOf]; done) | (simp [intOf]; omega)
        · rw [h1] at hbi
          rw [h2] at hbk
          go_wp2_with fail
          go_roundw
          case rel => exact ⟨i + 1, by omega, by go_num, HB8⟩
          case measure => first | (simp [intOf]; done) | (simp [intOf]; omega)
    · obtain rfl : i = 3 := by omega
      have hfin : Hid (Below w.heap.size w wr) := Hb6.out.trans (HB.out.mono Hb6.out.size)
      clear HB
      go_wp2_with fail
      go_ret
      exact ⟨rfl, hfin.out⟩
end Go.Proofs.Ytngedkfljpkoiaa.rumourBack
