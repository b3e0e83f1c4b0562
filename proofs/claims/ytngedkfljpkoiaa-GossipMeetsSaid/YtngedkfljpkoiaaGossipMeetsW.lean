/- GossipMeets: the walk. -/
import Derived.Test.YtngedkfljpkoiaaGosK
namespace Go.Proofs.Ytngedkfljpkoiaa.gossipMeets
open Go.ChangeShapes Go.WideShapes Go.ChangeAt Go.RowKit
set_option linter.unusedVariables false
set_option linter.unusedSimpArgs false

set_option maxRecDepth 100000 in
set_option maxHeartbeats 8000000 in
theorem walk (w : World) (v0 : Value) (ls : List Int) (A0 : Has w 1 v0 ls.length (ints ls) ∧ ∀ x ∈ ls, -9223372036854775808 ≤ x ∧ x ≤ 9223372036854775807) (v1 : Value) (l : List Tk) (A1 : Has w 6 v1 l.length (tks l)) :
    Calls Try.prog 3 #[v0, v1] w fun e w' => e = .returned (.bool true) ∧ Below w.heap.size w w' := by
  have C0 := Lib.hid (cLabelsOf A0.1)
  have H1 := Lib.hid A1
  have hlen := labsOf_len ls
  have Hlab := Lib.hid (labsOf_lt ls)
  generalize labsOf ls = labs at *
  clear A0 A1
  go_enter Try.func3, Try.ntmps3
  go_wp2_with fail
  refine C0.out.mono ?_
  rintro e w2 ⟨gl, cl, rfl, hownL, hb2⟩
  have HL2 := Lib.hid (Has.of_owns hownL)
  have C1 := Lib.hid (cTurns 60 (H1.out.below hb2) (by omega))
  have Hb2 := Lib.hid hb2
  clear C0 H1 hownL hb2
  go_wp2_with fail
  refine C1.out.mono ?_
  rintro e w3 ⟨vt, rfl, hownT, hb3⟩
  obtain ⟨at', ct, rfl⟩ := owns_slice hownT
  have HL3 := Lib.hid (HL2.out.below hb3)
  have HT3 := Lib.hid (Has.of_owns hownT)
  have Hb3 := Lib.hid (Hb2.out.trans (hb3.mono Hb2.out.size))
  have hT60 := turnsOf_len l 60
  have Hok2 := Lib.hid (turns_plus l 60 2)
  have Hok3 := Lib.hid (turns_plus l 60 3)
  have HokT := Lib.hid (turnsOf_ok l 60)
  generalize turnsOf l 60 = ts at *
  have Hone := Lib.hid (trns_one ts)
  have Hr2 := Lib.hid (trns_one (roundL 2))
  have Hr3 := Lib.hid (trns_one (roundL 3))
  have hct : ts.length ≤ ct ∧ ct ≤ maxLen := by
    obtain ⟨_, _, _, he, h1, h2, _⟩ := HT3.out
    simp only [Value.slice.injEq] at he
    obtain ⟨-, -, rfl⟩ := he
    exact ⟨h1, h2⟩
  obtain ⟨hct1, hct2⟩ := hct
  unfold maxLen at hct2
  clear C1 hownT hb3 HL2 Hb2
  go_wp2_with (refine wp_appN (w0 := w3) 25 38 6 48 _ elTurn Try.underlying25 w3.heap.size _ _ _ (World.ownsRow_nil _ _ _ _) (by repeat (first | exact Below.refl _ _ | refine Below.drew ?_ | refine Below.alloc ?_ (by first | (simp; done) | (simp; omega)) _ | refine Below.setCell ?_ (by first | (simp; done) | (simp; omega)) _)) _ _ _ HT3.out rfl _ _ rfl rfl rfl Hone.out (by omega) (by unfold maxLen; omega) (Nat.le_refl _) ?_; intro v4 w4 hown4 hgrow4 hb4)
  rw [List.nil_append, Nat.zero_add] at hown4
  refine (cround 2 (by omega) w4).mono ?_
  rintro e w5 ⟨v5, rfl, hown5, hb5⟩
  obtain ⟨a5, c5, rfl⟩ := owns_slice hown5
  have hown4' := owns_below hown4 hb5
  have hb45 := hb4.trans (hb5.mono hb4.size)
  have hsz5 := hb45.size
  go_wp2_with (refine wp_appN (w0 := w5) 25 38 6 48 _ elTurn Try.underlying25 w3.heap.size _ _ _ hown4' (by repeat (first | exact Below.refl _ _ | refine Below.drew ?_ | refine Below.alloc ?_ (by first | (simp; done) | (simp; omega)) _ | refine Below.setCell ?_ (by first | (simp; done) | (simp; omega)) _)) _ _ _ (Has.of_owns hown5) rfl _ _ rfl rfl rfl Hr2.out (by omega) (by unfold maxLen; omega) hsz5 ?_; intro v6 w6 hown6 hgrow6 hb6)
  have hB6 := hb45.trans hb6
  rw [← trns_append] at hown6
  have hL6 := HL3.out.below hB6
  have hT6 := HT3.out.below hB6
  have el3 : ts.length + 32 = (ts ++ roundL 2).length := by rw [List.length_append, roundL_length]
  refine (cgossiped (w := w6) (labs := labs) (ts := ts ++ roundL 2) (by rw [hlen]; exact hL6) (by rw [← el3]; exact Has.of_owns hown6) (by omega) Hlab.out (by rw [← el3]; omega) (by rw [hlen]; exact Hok2.out)).mono ?_
  rintro e w7 ⟨vc3, vs3, rfl, hP3⟩
  obtain ⟨gs3, cs3, g3, rfl, hS3⟩ := hP3.stores
  obtain ⟨ac3, cc3, rfl⟩ := owns_slice hP3.codes
  rw [meets (by rw [hlen]; exact HokT.out) (by omega), hlen] at hS3
  have HS3 := Lib.hid hS3
  have HL7 := Lib.hid (hL6.below hP3.hb)
  have HT7 := Lib.hid (hT6.below hP3.hb)
  have Hb7 := Lib.hid (Hb3.out.trans ((hB6.trans (hP3.hb.mono hB6.size)).mono Hb3.out.size))
  have HB7 := Lib.hid (hB6.trans (hP3.hb.mono hB6.size))
  clear hown4 hown5 hown6 hown4' hb4 hb5 hb45 hb6 hB6 hL6 hT6 el3 hgrow4 hgrow6 hsz5 hP3 hS3
  go_wp2_with (refine wp_appN (w0 := w7) 25 38 6 48 _ elTurn Try.underlying25 w7.heap.size _ _ _ (World.ownsRow_nil _ _ _ _) (by repeat (first | exact Below.refl _ _ | refine Below.drew ?_ | refine Below.alloc ?_ (by first | (simp; done) | (simp; omega)) _ | refine Below.setCell ?_ (by first | (simp; done) | (simp; omega)) _)) _ _ _ HT7.out rfl _ _ rfl rfl rfl Hone.out (by omega) (by unfold maxLen; omega) (Nat.le_refl _) ?_; intro v8 w8 hown8 hgrow8 hb8)
  rw [List.nil_append, Nat.zero_add] at hown8
  refine (cround 3 (by omega) w8).mono ?_
  rintro e w9 ⟨v9, rfl, hown9, hb9⟩
  obtain ⟨a9, c9, rfl⟩ := owns_slice hown9
  have hown8' := owns_below hown8 hb9
  have hb89 := hb8.trans (hb9.mono hb8.size)
  have hsz9 := hb89.size
  go_wp2_with (refine wp_appN (w0 := w9) 25 38 6 48 _ elTurn Try.underlying25 w7.heap.size _ _ _ hown8' (by repeat (first | exact Below.refl _ _ | refine Below.drew ?_ | refine Below.alloc ?_ (by first | (simp; done) | (simp; omega)) _ | refine Below.setCell ?_ (by first | (simp; done) | (simp; omega)) _)) _ _ _ (Has.of_owns hown9) rfl _ _ rfl rfl rfl Hr3.out (by omega) (by unfold maxLen; omega) hsz9 ?_; intro v10 w10 hown10 hgrow10 hb10)
  have hB10 := hb89.trans hb10
  rw [← trns_append] at hown10
  have hL10 := HL7.out.below hB10
  have hT10 := HT7.out.below hB10
  have el7 : ts.length + 48 = (ts ++ roundL 3).length := by rw [List.length_append, roundL_length]
  refine (cgossiped (w := w10) (labs := labs) (ts := ts ++ roundL 3) (by rw [hlen]; exact hL10) (by rw [← el7]; exact Has.of_owns hown10) (by omega) Hlab.out (by rw [← el7]; omega) (by rw [hlen]; exact Hok3.out)).mono ?_
  rintro e w11 ⟨vc7, vs7, rfl, hP7⟩
  obtain ⟨gs7, cs7, g7, rfl, hS7⟩ := hP7.stores
  obtain ⟨ac7, cc7, rfl⟩ := owns_slice hP7.codes
  rw [meets (by rw [hlen]; exact HokT.out) (by omega), hlen] at hS7
  have HS7 := Lib.hid hS7
  have HL11 := Lib.hid (hL10.below hP7.hb)
  have HT11 := Lib.hid (hT10.below hP7.hb)
  have Hb11 := Lib.hid (Hb7.out.trans ((hB10.trans (hP7.hb.mono hB10.size)).mono Hb7.out.size))
  have HB11 := Lib.hid (hB10.trans (hP7.hb.mono hB10.size))
  clear hown8 hown9 hown10 hown8' hb8 hb9 hb89 hb10 hB10 hL10 hT10 el7 hgrow8 hgrow10 hsz9 hP7 hS7
  replace HS3 := Lib.hid (HS3.out.on HB11.out)
  have hgood := play_good (labs := labs) (ts := ts) (by rw [hlen]; exact HokT.out) (by omega)
  have hsame := round_same (labs := labs) hgood.may
  have Hsame := Lib.hid hsame
  generalize stAfter labs (stAfter labs noSt ts) (tells 16) = st at *
  obtain ⟨k31, k32⟩ := HS3.out.c1
  obtain ⟨k71, k72⟩ := HS7.out.c1
  unfold maxLen at k32 k72
  clear hgood hsame HL3 HT3 Hb3 HL7 HT7 Hb7 HB7 HB11 Hok2 Hok3 HokT Hone Hr2 Hr3 HT11
  have hclz : cl ≤ 9223372036854775807 := by
    obtain ⟨_, _, _, he, h1, h2, _⟩ := HL11.out
    simp only [Value.slice.injEq] at he
    obtain ⟨-, -, rfl⟩ := he
    exact h2
  go_wp2_with fail
  go_loopw [13, 14, 15] (fun i _ _ wr => ∃ k : Nat, k ≤ 4 ∧ i = .int .i64 k ∧ Hid (Below w11.heap.size w11 wr)) (fun i _ _ _ => 4 - (intOf i).toNat)
  case atStart => exact ⟨0, by omega, rfl, Below.refl _ _⟩
  case round =>
    obtain ⟨i, hi, rfl, HB⟩ := hrel
    by_cases hlt : i < 4
    · have hltz : (i : Int) < 4 := by omega
      go_wp2_with fail
      go_loopw [14, 15] (fun j _ wr => ∃ k : Nat, k ≤ 3 ∧ j = .int .i64 k ∧ Hid (Below w11.heap.size w11 wr)) (fun j _ _ => 3 - (intOf j).toNat)
      case atStart => exact ⟨0, by omega, rfl, HB⟩
      case round =>
        clear HB
        obtain ⟨j, hj, rfl, HB⟩ := hrel
        by_cases hjl : j < 3
        · have hjz : (j : Int) < 3 := by omega
          have S1 := HS3.out.on HB.out
          have S2 := HS7.out.on HB.out
          obtain ⟨a1, c1, d1, E1⟩ := S1.ent i j hlt hjl
          obtain ⟨a2, c2, d2, E2⟩ := S2.ent i j hlt hjl
          have r1 := S1.row i hlt
          have r2 := S2.row i hlt
          have E1' := Lib.hid E1
          have E2' := Lib.hid E2
          have hEm := (S1.eight i j hlt hjl)
          have hEl := hEm.len
          have CS : Hid (∀ X : Ext wr, Calls Try.prog 14 #[.slice a1 (st i j).length c1, .slice a2 (st i j).length c2] X.1 fun e w' => e = .returned (.bool true) ∧ Below X.1.heap.size X.1 w') := fun X => csameEntries _ _ _ X.1 (E1'.out.below X.2) (E2'.out.below X.2)
          have CM : Hid (∀ X : Ext wr, Calls Try.prog 15 #[.slice a1 (st i j).length c1] X.1 fun e w' => e = .returned (.bool true) ∧ Below X.1.heap.size X.1 w') := fun X => cmay _ _ X.1 (E1'.out.below X.2) hEm.may hEl
          have p1 := ext_cell r1
          have p2 := ext_cell r2
          have p3 := ext_cell d1
          have p4 := ext_cell d2
          clear E1 E2 S1 S2 r1 r2 d1 d2 hEm hEl
          go_upto_region 13 with (fail)
          refine wp_region_grow (by kernel_rfl) (by kernel_rfl) ?_
          repeat (go_big_quiet_step (first | (go_at_call 14; with_reducible exact grow_of (CS.out _)) | (go_at_call 15; with_reducible exact grow_of (CM.out _))))
          refine wpQuiet_nil ?_
          intro w8 hb8
          have HB8 : Hid (Below w11.heap.size w11 w8) := HB.out.trans (hb8.mono HB.out.size)
          clear hb8 CS CM p1 p2 p3 p4 HB E1' E2'
          go_wp2_with fail
          go_loopw [15] (fun k wr => ∃ kk : Nat, kk ≤ 4 ∧ k = .int .i64 kk ∧ Hid (Below w11.heap.size w11 wr)) (fun k _ => 4 - (intOf k).toNat)
          case atStart => exact ⟨0, by omega, rfl, HB8⟩
          case round =>
            clear HB8
            obtain ⟨k, hk, rfl, HB⟩ := hrel
            by_cases hkl : k < 4
            · have hkz : (k : Int) < 4 := by omega
              have S1 := HS3.out.on HB.out
              obtain ⟨a1, c1, d1, E1⟩ := S1.ent i j hlt hjl
              obtain ⟨a2, c2, d2, E2⟩ := S1.ent k j hkl hjl
              have r1 := S1.row i hlt
              have r2 := S1.row k hkl
              have E1' := Lib.hid E1
              have E2' := Lib.hid E2
              have x0 := cell_on HB.out (lab_cell (labs := labs) HL11.out j (by omega))
              have hl16 := Hlab.out _ (List.getElem_mem (show j < labs.length by omega))
              have hbi := bit_in (labs[j]'(by omega)) i (by omega)
              have hbk := bit_in (labs[j]'(by omega)) k (by omega)
              have Hsm := Lib.hid (Hsame.out j i k hlt hkl)
              rw [lb_at (by omega), lb_at (by omega)] at Hsm
              generalize labs[j]'(by omega) = lab at *
              have CS : inL lab i = true → inL lab k = true → Hid (∀ X : Ext wr, Calls Try.prog 14 #[.slice a1 (st i j).length c1, .slice a2 (st k j).length c2] X.1 fun e w' => e = .returned (.bool true) ∧ Below X.1.heap.size X.1 w') := fun q1 q2 X => by
                have e := Hsm.out q1 q2
                rw [← e] at E2' ⊢
                exact csameEntries _ _ _ X.1 (E1'.out.below X.2) (E2'.out.below X.2)
              clear E1 E2 S1
              have fin : ∀ w8, Below wr.heap.size wr w8 → Hid (Below w11.heap.size w11 w8) := fun w8 hb8 => HB.out.trans (hb8.mono HB.out.size)
              have Fin := Lib.hid fin
              clear fin
              cases hi1 : inL lab i with
              | false =>
                rw [hi1] at hbi
                have p5 := ext_cell x0
                clear CS hbk Hsm E1' E2'
                go_upto_region 18 with (fail)
                refine wp_region_grow (by kernel_rfl) (by kernel_rfl) ?_
                repeat (go_big_quiet_step (fail))
                refine wpQuiet_nil ?_
                intro w8 hb8
                have HB8 := Fin.out _ hb8
                clear hb8 Fin
                go_wp2_with fail
                go_roundw
                case rel => exact ⟨k + 1, by omega, by go_num, HB8⟩
                case measure => first | (simp [intOf]; done) | (simp [intOf]; omega)
              | true =>
                rw [hi1] at hbi CS
                cases hi2 : inL lab k with
                | false =>
                  rw [hi2] at hbk
                  have p5 := ext_cell x0
                  clear CS Hsm E1' E2'
                  go_upto_region 18 with (fail)
                  refine wp_region_grow (by kernel_rfl) (by kernel_rfl) ?_
                  repeat (go_big_quiet_step (fail))
                  refine wpQuiet_nil ?_
                  intro w8 hb8
                  have HB8 := Fin.out _ hb8
                  clear hb8 Fin
                  go_wp2_with fail
                  go_roundw
                  case rel => exact ⟨k + 1, by omega, by go_num, HB8⟩
                  case measure => first | (simp [intOf]; done) | (simp [intOf]; omega)
                | true =>
                  rw [hi2] at hbk CS
                  replace CS := CS rfl rfl
                  have p1 := ext_cell r1
                  have p2 := ext_cell r2
                  have p3 := ext_cell d1
                  have p4 := ext_cell d2
                  have p5 := ext_cell x0
                  clear Hsm E1' E2' r1 r2 d1 d2 x0
                  go_upto_region 18 with (fail)
                  refine wp_region_grow (by kernel_rfl) (by kernel_rfl) ?_
                  repeat (go_big_quiet_step ((go_at_call 14; with_reducible exact grow_of (CS.out _))))
                  refine wpQuiet_nil ?_
                  intro w8 hb8
                  have HB8 := Fin.out _ hb8
                  clear hb8 Fin CS p1 p2 p3 p4 p5
                  go_wp2_with fail
                  go_roundw
                  case rel => exact ⟨k + 1, by omega, by go_num, HB8⟩
                  case measure => first | (simp [intOf]; done) | (simp [intOf]; omega)
            · obtain rfl : k = 4 := by omega
              go_wp2_with fail
              go_roundw
              case rel => exact ⟨j + 1, by omega, by go_num, HB⟩
              case measure => first | (simp [intOf]; done) | (simp [intOf]; omega)
        · obtain rfl : j = 3 := by omega
          go_wp2_with fail
          go_roundw
          case rel => exact ⟨i + 1, by omega, by go_num, HB⟩
          case measure => first | (simp [intOf]; done) | (simp [intOf]; omega)
    · obtain rfl : i = 4 := by omega
      have hfin : Hid (Below w.heap.size w wr) := Hb11.out.trans (HB.out.mono Hb11.out.size)
      clear HB
      go_wp2_with fail
      go_ret
      exact ⟨rfl, hfin.out⟩
end Go.Proofs.Ytngedkfljpkoiaa.gossipMeets
