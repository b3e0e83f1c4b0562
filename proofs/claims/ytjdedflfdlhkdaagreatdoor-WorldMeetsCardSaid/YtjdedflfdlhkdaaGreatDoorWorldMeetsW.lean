/- WorldMeets: the walk. -/
import Derived.BigQuiet
import Derived.Test.YtjdedflfdlhkdaaGreatDoorWEnded
import Derived.Test.YtjdedflfdlhkdaaGreatDoorWSure
import Derived.Test.YtjdedflfdlhkdaaGreatDoorMeetsL
import Derived.Test.YtjdedflfdlhkdaaGreatDoorSameE
import Derived.Test.YtjdedflfdlhkdaaGreatDoorPurGet
namespace Go.Proofs.YtjdedflfdlhkdaaGreatDoor.worldMeets
open Go.ChangeShapes Go.WideShapes Go.ChangeAt Go.RowKit
set_option linter.unusedVariables false
set_option linter.unusedSimpArgs false

set_option maxRecDepth 100000 in
set_option maxHeartbeats 16000000 in
theorem walk (w : World) (hL : OrdVar w) (v0 : Value) (ls : List Int) (A0 : Has w 1 v0 ls.length (ints ls) ∧ ∀ x ∈ ls, -9223372036854775808 ≤ x ∧ x ≤ 9223372036854775807) (v1 : Value) (l : List Stp) (A1 : Has w 8 v1 l.length (stps l)) :
    Calls Tryz.prog 4 #[v0, v1] w fun e w' => e = .returned (.bool true) ∧ Below w.heap.size w w' := by
  have C0 := Lib.hid (cConfigR hL 1 77 5 A0.1 (by rfl))
  have H4 := Lib.hid A1
  have Hok := Lib.hid (cfgOf_ok ls 1 77 5)
  have hn4 : Hid ((cfgOf ls 1 77 5).n = 4) := (rfl : _ = _)
  have hlb : Hid ((cfgOf ls 1 77 5).labs.length = 3) := (labsK_len ls 3 : _ = _)
  have hit : Hid ((cfgOf ls 1 77 5).items = 2) := (rfl : _ = _)
  generalize cfgOf ls 1 77 5 = c at *
  obtain ⟨_, q1, r1, rfl, _, _, _⟩ := A1
  have hS : (stepsOf (l.take 120)).length ≤ 120 := by rw [stepsOf_len, List.length_take]; omega
  clear A0 hL
  unfold Cfg.cells at C0
  go_enter Tryz.func4, Tryz.ntmps4
  go_wp2_with fail
  refine C0.out.mono ?_
  rintro e w1 ⟨gl, cl, gm, rfl, hR, hb1⟩
  have hbx := cfg_box w1 c (.slice (some ⟨gl, 0, none⟩) 3 cl) (.slice (some ⟨gm, 0, none⟩) 2 2)
  obtain ⟨x0, x1, x2, x3, x4⟩ := cfg_at (heap_alloc_new w1 (.cells (c.cells (.slice (some ⟨gl, 0, none⟩) 3 cl) (.slice (some ⟨gm, 0, none⟩) 2 2)) 25))
  have HR := Lib.hid (hR.on hbx)
  have hb2 := hb1.trans (hbx.mono hb1.size)
  have CS := Lib.hid (cStepsOf _ l 120 _ (H4.out.below hb2) (by omega))
  have Hb2 := Lib.hid hb2
  unfold Cfg.cells at x0 x1 x2 x3 x4 HR CS Hb2
  clear hbx hb1 hb2 C0 H4 hR
  go_upto_region 2 with (fail)
  generalize (w1.alloc (.cells #[.int .i64 c.n, .slice (some ⟨gl, 0, none⟩) 3 cl, .int .i64 c.ticks, .slice (some ⟨gm, 0, none⟩) 2 2, .int .i64 c.cap] 25)) = W at *
  generalize w1.heap.size = B at *
  have HX : Hid (∀ Y, Below W.heap.size W Y → (Y.cell? ⟨B, 0, none⟩ = some (.int .i64 c.n) ∧ Y.cell? ⟨B, 1, none⟩ = some (.slice (some ⟨gl, 0, none⟩) 3 cl) ∧ Y.cell? ⟨B, 2, none⟩ = some (.int .i64 c.ticks) ∧ Y.cell? ⟨B, 3, none⟩ = some (.slice (some ⟨gm, 0, none⟩) 2 2) ∧ Y.cell? ⟨B, 4, none⟩ = some (.int .i64 c.cap))) := fun Y q => ⟨cell_on q x0, cell_on q x1, cell_on q x2, cell_on q x3, cell_on q x4⟩
  have CE : Hid (∀ (Y : World) (v : Value) (T : List Stp), Below W.heap.size W Y → Has Y 8 v T.length (stps T) → T.length ≤ 300 → _) := fun Y v T hY hv hT => cended Hok.out hn4.out hit.out hlb.out (HR.out.on hY) v T hv hT
  unfold Cfg.cells at CE
  generalize stepsOf (l.take 120) = S at *
  clear x0 x1 x2 x3 x4
  go_wp2_with fail
  refine CS.out.mono ?_
  rintro e w3 ⟨v3, rfl, hown3, hb3⟩
  have HB3 := Lib.hid hb3
  have CF1 := Lib.hid (cFull v3 S w3 (Has.of_owns hown3) (by omega))
  clear CS hown3 hb3
  go_wp2_with fail
  refine CF1.out.mono ?_
  rintro e w4 ⟨v4, rfl, hown4, hb4⟩
  have HB4 := Lib.hid (HB3.out.trans (hb4.mono HB3.out.size))
  have hl1 : (fullOf S).length ≤ 141 := by rw [fullOf_len]; omega
  have HMT := Lib.hid (meets_ok c Hok.out hn4.out (fullOf S) (by omega))
  generalize fullOf S = S1 at *
  have CF2 := Lib.hid (cFull v4 S1 w4 (Has.of_owns hown4) (by omega))
  clear CF1 hown4 hb4 HB3
  go_wp2_with fail
  refine CF2.out.mono ?_
  rintro e w5 ⟨v5, rfl, hown5, hb5⟩
  have HB5 := Lib.hid (HB4.out.trans (hb5.mono HB4.out.size))
  have hl2 : (fullOf S1).length ≤ 162 := by rw [fullOf_len]; omega
  generalize fullOf S1 = S2 at *
  have C9 := Lib.hid (CE.out w5 v5 S2 HB5.out (Has.of_owns hown5) (by omega))
  obtain ⟨a5', c5, rfl⟩ := owns_slice hown5
  obtain ⟨y0, y1, y2, y3, y4⟩ := HX.out w5 HB5.out
  clear CF2 hown5 hb5 HB4 hS hl1
  go_wp2_with fail
  refine C9.out.mono ?_
  rintro e w6 ⟨r1', p1', t1', pv1, tv1, ev1, rfl, hE1, hb6⟩
  have HE1 := Lib.hid hE1
  have HB6 := Lib.hid (HB5.out.trans (hb6.mono HB5.out.size))
  have CW := Lib.hid (cWorldSure w6 (HR.out.on HB6.out).od)
  generalize (wFold c S2).1 = s at *
  clear y0 y1 y2 y3 y4 C9 CE hE1 hb6 HB5 hl2
  go_wp2_with fail
  refine CW.out.mono ?_
  rintro e W9 ⟨rfl, hb9⟩
  have HP1 := Lib.hid (HE1.out.on hb9)
  have HB9 := Lib.hid (HB6.out.trans (hb9.mono HB6.out.size))
  obtain ⟨ub, uo, uc, rfl, ⟨huc1, huc2⟩, hta⟩ := HP1.out.tcell hn4.out hlb.out
  have HTA := Lib.hid hta
  have X1 := Lib.hid ((HX.out W9 HB9.out).2.1)
  have HFin := Lib.hid (Hb2.out.trans (HB9.out.mono Hb2.out.size))
  have HL9 : Hid (Has W9 1 (.slice (some ⟨gl, 0, none⟩) 3 cl) 3 (ints (labInts c.labs))) := by
    have := (HR.out.on HB9.out).cf.hl
    rw [hlb.out] at this
    exact this
  have hlab := Hok.out.lt16
  have HLab := Lib.hid hlab
  clear hb9 hta CW HE1 HX HB9 HB6 Hb2 HR hlab
  have hclz : cl ≤ 9223372036854775807 := by
    obtain ⟨_, _, _, he, h1, h2, _⟩ := HL9.out
    simp only [Value.slice.injEq] at he
    obtain ⟨-, -, rfl⟩ := he
    exact h2
  go_wp2_with fail
  go_loopw [11] (fun i wr => ∃ k : Nat, k ≤ 3 ∧ i = .int .i64 k ∧ Hid (Below W9.heap.size W9 wr)) (fun i _ => 3 - (intOf i).toNat)
  case atStart => exact ⟨0, by omega, rfl, Below.refl _ _⟩
  case round =>
    obtain ⟨k, hk, rfl, HB⟩ := hrel
    by_cases hlt : k < 3
    · have hltz : (k : Int) < 3 := by omega
      have HLT := Lib.hid hlt
      have hkl : k < c.labs.length := by have := hlb.out; omega
      have XL := Lib.hid (lab_cell (labs := c.labs) HL9.out k hkl)
      have HLb : Hid (∀ i, lb c.labs k i = inL (c.labs[k]'hkl) i) := fun i => lb_at hkl
      have hl16 := HLab.out _ (List.getElem_mem hkl)
      generalize (c.labs[k]'hkl) = lab at *
      clear hlt hk hkl
      go_upto_region 10 with (fail)
      go_loopw [12] (fun i wr => ∃ j : Nat, j ≤ 4 ∧ i = .int .i64 j ∧ Hid (Below W9.heap.size W9 wr)) (fun i _ => 4 - (intOf i).toNat)
      case atStart => exact ⟨0, by omega, rfl, HB⟩
      case round =>
        clear HB
        obtain ⟨i, hi, rfl, HB⟩ := hrel
        by_cases hi4 : i < 4
        · have hiz : (i : Int) < 4 := by omega
          have HI := Lib.hid hi4
          obtain ⟨ta, xb3, xo3, xc3, hv3, ⟨hx3, hx3'⟩, hc3⟩ := HTA.out i hi4
          rw [hv3] at ta
          have TA := Lib.hid ta
          have HC3 := Lib.hid (hc3 k HLT.out)
          have E1 := HP1.out.ee i k (by rw [hn4.out]; exact hi4) (by have := HLT.out; rw [hlb.out]; exact this)
          obtain ⟨_, ea, ec, hev, he1, he2, _⟩ := id E1
          have hei := HMT.out.eight i k hi4 (by have := HLT.out; rw [hlb.out]; exact this)
          have HE1 := Lib.hid E1
          have CM := Lib.hid (cmay (ev1 i k) (s.st i k) wr (E1.below HB.out) hei.may hei.len)
          have z1 := cell_on HB.out TA.out
          have z2 := cell_on HB.out HC3.out
          have z3 := cell_on HB.out X1.out
          have z4 := cell_on HB.out XL.out
          have hbo := bit_out lab i (by omega)
          have HEV := Lib.hid hev
          have hemp : inL lab i = false → (s.st i k).length = 0 := fun h => by rw [HMT.out.own i k (by rw [HLb.out]; exact h)]; rfl
          have HEmp := Lib.hid hemp
          rw [hev] at z2 CM
          unfold maxLen at he2
          clear E1 hei hc3 hv3 ta hemp hev hi hi4
          generalize hsl : (s.st i k).length = n0 at *
          have Hsl := Lib.hid hsl
          clear hsl
          go_wp2_with fail
          refine CM.out.mono ?_
          rintro e w10 ⟨rfl, hb10⟩
          have HB10 := Lib.hid (HB.out.trans (hb10.mono HB.out.size))
          replace z1 := cell_on hb10 z1
          replace z2 := cell_on hb10 z2
          replace z3 := cell_on hb10 z3
          replace z4 := cell_on hb10 z4
          have Hi1 : Hid (inL lab i = true ∨ inL lab i = false) := by cases inL lab i <;> simp [Hid]
          clear hb10 CM HB
          have JN : Hid (∀ wz, Below W9.heap.size W9 wz → True) := fun _ _ => trivial
          rcases Hi1.out with hin | hin
          · rw [hin] at hbo
            simp only [Bool.not_true] at hbo
            go_wp2_with fail
            clear z1 z2 z3 z4 hbo
            go_loopw [13] (fun i wr => ∃ j : Nat, j ≤ 4 ∧ i = .int .i64 j ∧ Hid (Below W9.heap.size W9 wr)) (fun i _ => 4 - (intOf i).toNat)
            case atStart => exact ⟨0, by omega, rfl, HB10⟩
            case round =>
              clear HB10
              obtain ⟨j, hj, rfl, HB⟩ := hrel
              by_cases hj4 : j < 4
              · have hjz : (j : Int) < 4 := by omega
                have HJ := Lib.hid hj4
                obtain ⟨tb, xb4, xo4, xc4, hv4, ⟨hx4, hx4'⟩, hc4⟩ := HTA.out j hj4
                rw [hv4] at tb
                have hbi := bit_in lab i (by omega)
                rw [hin] at hbi
                have hbk := bit_in lab j (by omega)
                have p5 := ext_cell (cell_on HB.out XL.out)
                have p6 := ext_cell (cell_on HB.out X1.out)
                have Fin : Hid (∀ w8, Below wr.heap.size wr w8 → Hid (Below W9.heap.size W9 w8)) := fun w8 hb8 => HB.out.trans (hb8.mono HB.out.size)
                have Hj1 : Hid (inL lab j = true ∨ inL lab j = false) := by cases inL lab j <;> simp [Hid]
                rcases Hj1.out with hjn | hjn
                · rw [hjn] at hbk
                  have heq := HMT.out.same i j k HI.out hj4 (by rw [HLb.out]; exact hin) (by rw [HLb.out]; exact hjn)
                  have E1 := HE1.out.below HB.out
                  rw [← Hsl.out] at E1
                  have E2 := HP1.out.ee j k (by rw [hn4.out]; exact hj4) (by have := HLT.out; rw [hlb.out]; exact this)
                  rw [← heq] at E2
                  have E2 := E2.below HB.out
                  have CS : Hid (∀ X : Ext wr, Calls Tryz.prog 17 #[ev1 i k, ev1 j k] X.1 fun e w' => e = .returned (.bool true) ∧ Below X.1.heap.size X.1 w') := fun X =>
                    csameEntries _ _ _ X.1 (E1.below X.2) (E2.below X.2)
                  have p1 := ext_cell (cell_on HB.out TA.out)
                  have p2 := ext_cell (cell_on HB.out tb)
                  have p3 := ext_cell (cell_on HB.out HC3.out)
                  have p4 := ext_cell (cell_on HB.out (hc4 k HLT.out))
                  clear hin hjn Hj1 heq E1 E2 HB tb hc4 hv4 hj hj4
                  go_upto_region 17 with (fail)
                  refine wp_region_grow (by kernel_rfl) (by kernel_rfl) ?_
                  repeat (go_big_quiet_step ((go_at_call 17; with_reducible exact grow_of (CS.out _))))
                  refine wpQuiet_nil ?_
                  intro w8' hb8'
                  have HB8' := Fin.out _ hb8'
                  clear hb8' Fin CS p1 p2 p3 p4 p5 p6
                  go_wp2_with fail
                  go_roundw
                  case rel => exact ⟨j + 1, HJ.out, by go_num, HB8'⟩
                  case measure => have := HJ.out; first | (simp [intOf]; done) | (simp [intOf]; omega)
                · rw [hjn] at hbk
                  clear hin hjn Hj1 HB tb hc4 hv4 hj hj4
                  go_upto_region 17 with (fail)
                  refine wp_region_grow (by kernel_rfl) (by kernel_rfl) ?_
                  repeat (go_big_quiet_step (fail))
                  refine wpQuiet_nil ?_
                  intro w8' hb8'
                  have HB8' := Fin.out _ hb8'
                  clear hb8' Fin p5 p6
                  go_wp2_with fail
                  go_roundw
                  case rel => exact ⟨j + 1, HJ.out, by go_num, HB8'⟩
                  case measure => have := HJ.out; first | (simp [intOf]; done) | (simp [intOf]; omega)
              · obtain rfl : j = 4 := by omega
                go_wp2_with fail
                go_roundw
                case rel => exact ⟨i + 1, HI.out, by go_num, HB⟩
                case measure => have := HI.out; first | (simp [intOf]; done) | (simp [intOf]; omega)
          · obtain rfl : n0 = 0 := HEmp.out hin
            rw [hin] at hbo
            simp only [Bool.not_false] at hbo
            go_wp2_with fail
            clear z1 z2 z3 z4 hbo
            go_loopw [13] (fun i wr => ∃ j : Nat, j ≤ 4 ∧ i = .int .i64 j ∧ Hid (Below W9.heap.size W9 wr)) (fun i _ => 4 - (intOf i).toNat)
            case atStart => exact ⟨0, by omega, rfl, HB10⟩
            case round =>
              clear HB10
              obtain ⟨j, hj, rfl, HB⟩ := hrel
              by_cases hj4 : j < 4
              · have hjz : (j : Int) < 4 := by omega
                have HJ := Lib.hid hj4
                have hbi := bit_in lab i (by omega)
                rw [hin] at hbi
                have p5 := ext_cell (cell_on HB.out XL.out)
                have p6 := ext_cell (cell_on HB.out X1.out)
                have Fin : Hid (∀ w8, Below wr.heap.size wr w8 → Hid (Below W9.heap.size W9 w8)) := fun w8 hb8 => HB.out.trans (hb8.mono HB.out.size)
                clear hin HB hj hj4
                go_upto_region 17 with (fail)
                refine wp_region_grow (by kernel_rfl) (by kernel_rfl) ?_
                repeat (go_big_quiet_step (fail))
                refine wpQuiet_nil ?_
                intro w8' hb8'
                have HB8' := Fin.out _ hb8'
                clear hb8' Fin p5 p6
                go_wp2_with fail
                go_roundw
                case rel => exact ⟨j + 1, HJ.out, by go_num, HB8'⟩
                case measure => have := HJ.out; first | (simp [intOf]; done) | (simp [intOf]; omega)
              · obtain rfl : j = 4 := by omega
                go_wp2_with fail
                go_roundw
                case rel => exact ⟨i + 1, HI.out, by go_num, HB⟩
                case measure => have := HI.out; first | (simp [intOf]; done) | (simp [intOf]; omega)
        · obtain rfl : i = 4 := by omega
          go_wp2_with fail
          go_roundw
          case rel => exact ⟨k + 1, HLT.out, by go_num, HB⟩
          case measure => have := HLT.out; first | (simp [intOf]; done) | (simp [intOf]; omega)
    · obtain rfl : k = 3 := by omega
      go_wp2_with fail
      go_ret
      exact ⟨rfl, HFin.out.trans (HB.out.mono HFin.out.size)⟩
end Go.Proofs.YtjdedflfdlhkdaaGreatDoor.worldMeets
