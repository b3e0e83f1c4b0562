/- GossipKeeps: the walk. -/
import Derived.Test.YtngedkfljpkoiaaGosO
namespace Go.Proofs.Ytngedkfljpkoiaa.gossipKeeps
open Go.ChangeShapes Go.WideShapes Go.ChangeAt Go.RowKit
set_option linter.unusedVariables false
set_option linter.unusedSimpArgs false

set_option maxRecDepth 100000 in
set_option maxHeartbeats 8000000 in
theorem walk (w : World) (v0 : Value) (ls : List Int) (A0 : Has w 1 v0 ls.length (ints ls) ∧ ∀ x ∈ ls, -9223372036854775808 ≤ x ∧ x ≤ 9223372036854775807) (v1 : Value) (l : List Tk) (A1 : Has w 6 v1 l.length (tks l)) :
    Calls Try.prog 4 #[v0, v1] w fun e w' => e = .returned (.bool true) ∧ Below w.heap.size w w' := by
  have C0 := Lib.hid (cLabelsOf A0.1)
  have H1 := Lib.hid A1
  have hlen := labsOf_len ls
  have Hlab := Lib.hid (labsOf_lt ls)
  generalize labsOf ls = labs at *
  clear A0 A1
  go_enter Try.func4, Try.ntmps4
  go_wp2_with fail
  refine C0.out.mono ?_
  rintro e w2 ⟨gl, cl, rfl, hownL, hb2⟩
  have HL2 := Lib.hid (Has.of_owns hownL)
  have C1 := Lib.hid (cTurns 80 (H1.out.below hb2) (by omega))
  have Hb2 := Lib.hid hb2
  clear C0 H1 hownL hb2
  go_wp2_with fail
  refine C1.out.mono ?_
  rintro e w3 ⟨vt, rfl, hownT, hb3⟩
  obtain ⟨at', ct, rfl⟩ := owns_slice hownT
  have HL3 := Lib.hid (HL2.out.below hb3)
  have HT3 := Lib.hid (Has.of_owns hownT)
  have Hb3 := Lib.hid (Hb2.out.trans (hb3.mono Hb2.out.size))
  have hT := turnsOf_len l 80
  have HokT := Lib.hid (turnsOf_ok l 80)
  generalize turnsOf l 80 = ts at *
  have hct : ts.length ≤ ct ∧ ct ≤ maxLen := by
    obtain ⟨_, _, _, he, h1, h2, _⟩ := HT3.out
    simp only [Value.slice.injEq] at he
    obtain ⟨-, -, rfl⟩ := he
    exact ⟨h1, h2⟩
  obtain ⟨hct1, hct2⟩ := hct
  unfold maxLen at hct2
  have hcl : cl ≤ maxLen := by
    obtain ⟨_, _, _, he, h1, h2, _⟩ := HL3.out
    simp only [Value.slice.injEq] at he
    obtain ⟨-, -, rfl⟩ := he
    exact h2
  unfold maxLen at hcl
  clear C1 hownT hb3 HL2 Hb2
  go_wp2_with fail
  refine (cgossiped (w := w3) (labs := labs) (ts := ts) (by rw [hlen]; exact HL3.out) HT3.out (by omega) Hlab.out (by omega) (by rw [hlen]; exact HokT.out)).mono ?_
  rintro e w4 ⟨vc, vs, rfl, hP⟩
  obtain ⟨gs, cs, g, rfl, hS⟩ := hP.stores
  have HC := Lib.hid (Has.of_owns hP.codes)
  obtain ⟨ac, cc, rfl⟩ := owns_slice hP.codes
  have HL4 := Lib.hid (HL3.out.below hP.hb)
  have HT4 := Lib.hid (HT3.out.below hP.hb)
  have Hb4 := Lib.hid (Hb3.out.trans (hP.hb.mono Hb3.out.size))
  have hgood := play_good (labs := labs) (ts := ts) (by rw [hlen]; exact HokT.out) (by omega)
  have Hown := Lib.hid hgood.own
  have HS := Lib.hid hS
  have Hcode := Lib.hid (codes_at labs ts noSt)
  generalize hst : stAfter labs noSt ts = st at *
  obtain ⟨k1, k2⟩ := HS.out.c1
  obtain ⟨_, _, _, he, h1, h2, _⟩ := HC.out
  simp only [Value.slice.injEq] at he
  obtain ⟨-, -, rfl⟩ := he
  unfold maxLen at k2 h2
  clear hP hS hgood HL3 HT3 Hb3 hst
  go_wp2_with fail
  go_loopw [10, 11] (fun i _ wr => ∃ k : Nat, k ≤ 4 ∧ i = .int .i64 k ∧ Hid (Below w4.heap.size w4 wr)) (fun i _ _ => 4 - (intOf i).toNat)
  case atStart => exact ⟨0, by omega, rfl, Below.refl _ _⟩
  case round =>
    obtain ⟨i, hi, rfl, HB⟩ := hrel
    by_cases hlt : i < 4
    · have hltz : (i : Int) < 4 := by omega
      go_wp2_with fail
      go_loopw [11] (fun j wr => ∃ k : Nat, k ≤ 3 ∧ j = .int .i64 k ∧ Hid (Below w4.heap.size w4 wr)) (fun j _ => 3 - (intOf j).toNat)
      case atStart => exact ⟨0, by omega, rfl, HB⟩
      case round =>
        clear HB
        obtain ⟨j, hj, rfl, HB⟩ := hrel
        by_cases hjl : j < 3
        · have hjz : (j : Int) < 3 := by omega
          have S1 := HS.out.on HB.out
          obtain ⟨a1, c1, d1, E1⟩ := S1.ent i j hlt (by omega)
          have r1 := S1.row i hlt
          have x0 := cell_on HB.out (lab_cell (labs := labs) HL4.out j (by omega))
          have hl16 := Hlab.out _ (List.getElem_mem (show j < labs.length by omega))
          have hbi := bit_out (labs[j]'(by omega)) i (by omega)
          have Hem := Lib.hid (Hown.out i j)
          rw [lb_at (by omega)] at Hem
          generalize labs[j]'(by omega) = lab at *
          clear E1 S1
          cases hi1 : inL lab i with
          | true =>
            rw [hi1] at hbi
            clear Hem d1 r1
            go_wp2_with fail
            go_roundw
            case rel => exact ⟨j + 1, by omega, by go_num, HB⟩
            case measure => first | (simp [intOf]; done) | (simp [intOf]; omega)
          | false =>
            rw [hi1] at hbi
            have he := Hem.out hi1
            rw [he] at d1
            clear Hem he
            go_wp2_with fail
            go_roundw
            case rel => exact ⟨j + 1, by omega, by go_num, HB⟩
            case measure => first | (simp [intOf]; done) | (simp [intOf]; omega)
        · obtain rfl : j = 3 := by omega
          go_wp2_with fail
          go_roundw
          case rel => exact ⟨i + 1, by omega, by go_num, HB⟩
          case measure => first | (simp [intOf]; done) | (simp [intOf]; omega)
    · obtain rfl : i = 4 := by omega
      clear HS Hown
      go_wp2_with fail
      go_loopw [12] (fun i wr => ∃ k : Nat, k ≤ ts.length ∧ i = .int .i64 k ∧ Hid (Below w4.heap.size w4 wr)) (fun i _ => ts.length - (intOf i).toNat)
      case atStart => exact ⟨0, by omega, rfl, HB⟩
      case round =>
        clear HB
        obtain ⟨i, hi, rfl, HB⟩ := hrel
        by_cases hlt : i < ts.length
        · have hltz : (i : Int) < (ts.length : Int) := by omega
          obtain ⟨b, off, cap', he, -, x0, x1, x2, x3, x4, x5⟩ := trn_get (HT4.out.below HB.out) i hlt
          simp only [Value.slice.injEq] at he
          obtain ⟨rfl, -, rfl⟩ := he
          have hok := HokT.out _ (List.getElem_mem hlt)
          have hlab3 := hok.label
          have hwho := hok.who
          have hkind := hok.kind
          have Hcd := Lib.hid (fun (hk' : ts[i].kind = 1) => turn_code (labs := labs) (stAfter labs noSt (ts.take i)) (t := ts[i]) hk')
          have hcc := Hcode.out i hlt
          obtain ⟨⟨hcl0, _⟩, _, _, he, _, _, hc⟩ := HC.out
          simp only [Value.slice.injEq] at he
          obtain ⟨rfl, -, rfl⟩ := he
          obtain ⟨bc, oc, rfl, hcell⟩ := hc (by rw [ints_length, codesOf_length]; omega)
          have z0 := cell_on HB.out (hcell i _ (ints_get _ i (by rw [codesOf_length]; exact hlt)))
          rw [hcc] at z0
          have y0 := cell_on HB.out (lab_cell (labs := labs) HL4.out ts[i].label (by omega))
          have hl16 := Hlab.out _ (List.getElem_mem (show ts[i].label < labs.length by omega))
          have hbi := bit_in (labs[ts[i].label]'(by omega)) ts[i].who (by omega)
          rw [lb_at (by omega)] at Hcd
          generalize (turnOf labs (stAfter labs noSt (ts.take i)) ts[i]).1 = r at *
          generalize labs[ts[i].label]'(by omega) = lab at *
          generalize ts[i] = t at *
          obtain ⟨kind, who, dest, label, key, value⟩ := t
          simp only at *
          clear hcc hcell hc hcl0 hok
          generalize inL lab who = q at *
          by_cases hk1 : kind = 1
          · subst hk1
            have hrq := Hcd.out rfl
            cases q
            all_goals
              go_upto_region 17 with (fail)
              go_quiet (fail)
              go_wp2_with fail
              go_roundw
              case rel => exact ⟨i + 1, by omega, by go_num, below_drewN HB.out _⟩
              case measure => first | (simp [intOf]; done) | (simp [intOf]; omega)
          · have hkz : ((kind : Int) == 1) = false := by rw [beq_eq_false_iff_ne]; omega
            clear Hcd z0 y0
            go_upto_region 17 with (fail)
            go_quiet (fail)
            go_wp2_with fail
            go_roundw
            case rel => exact ⟨i + 1, by omega, by go_num, below_drewN HB.out _⟩
            case measure => first | (simp [intOf]; done) | (simp [intOf]; omega)
        · obtain rfl : i = ts.length := by omega
          have Hbw : Hid (Below w.heap.size w wr) := Hb4.out.trans (HB.out.mono Hb4.out.size)
          have C5 := Lib.hid (cOne wr)
          clear HL4 HT4 HC Hcode HokT HB
          go_wp2_with fail
          refine C5.out.mono ?_
          rintro e w6 ⟨vc1, gs1, cs1, g1, b1, o1, c1, rfl, hb6, hc11, ⟨hc12, hc13⟩, ⟨hc14, hc15⟩, y0, y1, y2⟩
          obtain ⟨ac1, cc1, rfl⟩ := hc11
          have Hb6 : Hid (Below w.heap.size w w6) := Hbw.out.trans (hb6.mono Hbw.out.size)
          unfold maxLen at hc13 hc15
          clear C5 hb6 Hbw
          go_wp2_with fail
          go_ret
          exact ⟨rfl, Hb6.out⟩
end Go.Proofs.Ytngedkfljpkoiaa.gossipKeeps
