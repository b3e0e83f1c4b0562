/- BookMore: the walk. -/
import Derived.Test.YtgmichaconnhaaaBookL
namespace Go.Proofs.Ytgmichaconnhaaa.bookMore
open Go.ChangeShapes Go.WideShapes Go.ChangeAt Go.RowKit
set_option linter.unusedVariables false

def moreTail (a b c : Int) : List Cal := [⟨2, 0, a⟩, ⟨3, 0, 0⟩, ⟨2, 1, b⟩, ⟨2, 2, c⟩, ⟨3, 0, 0⟩, ⟨3, 0, 0⟩]
theorem more_cells (n a b c : Int) : [Value.int .i64 1, .int .i64 0, .int .i64 n] ++ cals (moreTail a b c) = cals (moreCals n a b c) := rfl
/-- Ruling i of a play. -/
theorem rul_at {w : World} {a : Option Addr} {n c : Nat} {rs : List Rul} (h : Has w 3 (.slice a n c) n (ruls rs)) (hr : ∀ r ∈ rs, RulAt w r) (hl : rs.length = n) (i : Nat) (hi : i < n) :
    ∃ b off r ag cg, a = some ⟨b, off, none⟩ ∧ rs[i]? = some r ∧ w.cell? ⟨b, off + i * 3 + 1, none⟩ = some (.slice ag r.g.length cg) ∧ Has w 1 (.slice ag r.g.length cg) r.g.length (ints r.g) := by
  obtain ⟨_, ad, cap', he, _, _, hc⟩ := h
  simp only [Value.slice.injEq] at he
  obtain ⟨rfl, -, rfl⟩ := he
  obtain ⟨b, off, rfl, hcc⟩ := hc (by unfold ruls; rw [flat_length Rul.cells 3 Rul.cells_length]; omega)
  have hi' : i < rs.length := by omega
  have y1 := hcc (i * 3 + 1) rs[i].gv (by unfold ruls; rw [flat_get Rul.cells 3 Rul.cells_length rs i hi' 1 (by omega)]; rfl)
  have hR := hr _ (List.getElem_mem hi')
  obtain ⟨ag, cg, hgv⟩ := hR.sl
  have hh := hR.has.has
  rw [hgv] at y1 hh
  exact ⟨b, off, rs[i], ag, cg, rfl, List.getElem?_eq_getElem hi', by rw [Nat.add_assoc]; exact y1, hh⟩
set_option maxRecDepth 100000 in
set_option maxHeartbeats 4000000 in
theorem walk (w : World) (a0 a1 a2 a3 a4 a5 : Int) (w0 : (Lit.int .i64 a0).wf = true) (w1 : (Lit.int .i64 a1).wf = true) (w2 : (Lit.int .i64 a2).wf = true) (w3 : (Lit.int .i64 a3).wf = true) (w4 : (Lit.int .i64 a4).wf = true) (w5 : (Lit.int .i64 a5).wf = true) :
    Calls Try.prog 10 #[.int .i64 a0, .int .i64 a1, .int .i64 a2, .int .i64 a3, .int .i64 a4, .int .i64 a5] w fun e w' => e = .returned (.bool true) ∧ Below w.heap.size w w' := by
  obtain ⟨p00, p01⟩ := pick_bd a0 30 (by omega)
  obtain ⟨p10, p11⟩ := pick_bd a1 40 (by omega)
  obtain ⟨p20, p21⟩ := pick_bd a2 40 (by omega)
  obtain ⟨p30, p31⟩ := pick_bd a3 40 (by omega)
  obtain ⟨p40, p41⟩ := pick_bd a4 80 (by omega)
  obtain ⟨p50, p51⟩ := pick_bd a5 40 (by omega)
  have P0 := Lib.hid fun w => picked a0 30 (by omega) (by omega) w
  have P1 := Lib.hid fun w => picked a1 40 (by omega) (by omega) w
  have P2 := Lib.hid fun w => picked a2 40 (by omega) (by omega) w
  have P3 := Lib.hid fun w => picked a3 40 (by omega) (by omega) w
  have P4 := Lib.hid fun w => picked a4 80 (by omega) (by omega) w
  have P5 := Lib.hid fun w => picked a5 40 (by omega) (by omega) w
  generalize pick a0 30 = top at *
  generalize pick a1 40 = a at *
  generalize pick a2 40 = b at *
  generalize pick a3 40 = c at *
  generalize pick a4 80 = st at *
  generalize pick a5 40 = mo at *
  clear w0 w1 w2 w3 w4 w5
  go_enter Try.func10, Try.ntmps10
  go_wp2_with fail
  with_reducible refine (P0.out _).mono ?_
  rintro e w' ⟨rfl, rfl⟩
  go_wp2_with fail
  with_reducible refine (P4.out _).mono ?_
  rintro e w' ⟨rfl, rfl⟩
  go_wp2_with fail
  with_reducible refine (P1.out _).mono ?_
  rintro e w' ⟨rfl, rfl⟩
  go_wp2_with fail
  with_reducible refine (P2.out _).mono ?_
  rintro e w' ⟨rfl, rfl⟩
  go_wp2_with fail
  with_reducible refine (P3.out _).mono ?_
  rintro e w' ⟨rfl, rfl⟩
  go_upto_region 4 with (fail)
  have hb1 : Below w.heap.size w (w.alloc (.cells (cals (moreTail a b c)).toArray 46)) := (Below.refl _ _).alloc (Nat.le_refl _) _
  have hr1 : Has (w.alloc (.cells (cals (moreTail a b c)).toArray 46)) 3 (.slice (some ⟨w.heap.size, 0, none⟩) 6 6) 6 (cals (moreTail a b c)) := has_block (heap_alloc_new _ _) rfl (by rfl) (by decide)
  have hlit : (w.alloc (Obj.cells #[.int .i64 2, .int .i64 0, .int .i64 a, .int .i64 3, .int .i64 0, .int .i64 0, .int .i64 2, .int .i64 1, .int .i64 b, .int .i64 2, .int .i64 2, .int .i64 c, .int .i64 3, .int .i64 0, .int .i64 0, .int .i64 3, .int .i64 0, .int .i64 0] 46)) = w.alloc (.cells (cals (moreTail a b c)).toArray 46) := rfl
  rw [hlit]
  clear hlit
  generalize w.alloc (.cells (cals (moreTail a b c)).toArray 46) = W1 at *
  have Hb1 := Lib.hid hb1
  have Hr1 := Lib.hid hr1
  have HT := Lib.hid (cals_one (moreTail a b c))
  have hM1 := Lib.hid (more_cells (1 + st) a b c)
  have hM2 := Lib.hid (more_cells (1 + st + 1 + mo) a b c)
  have hO1 := Lib.hid (moreCals_ok (n := 1 + st) (a := a) (b := b) (c := c) (by omega) (by omega) (by omega) (by omega))
  have hO2 := Lib.hid (moreCals_ok (n := 1 + st + 1 + mo) (a := a) (b := b) (c := c) (by omega) (by omega) (by omega) (by omega))
  have hNL := Lib.hid (more_noLess (top := top) (n := 1 + st) (m := 1 + st + 1 + mo) (a := a) (b := b) (c := c) (by omega) (by omega) (by omega) (by omega) (by omega) (by omega))
  generalize cals (moreTail a b c) = tl at *
  clear hb1 hr1
  go_wp2_with (refine wp_appN (w0 := (W1.alloc (.cells #[.int .i64 1, .int .i64 0, .int .i64 (1 + st)] 46))) 39 46 3 24 _ elCall Try.underlying39 W1.heap.size _ _ _ (owns_block (heap_alloc_new _ _) rfl (by rfl) (by decide) (Nat.le_refl _)) (by repeat (first | exact Below.refl _ _ | refine Below.drew ?_ | refine Below.alloc ?_ (by first | (simp; done) | (simp; omega)) _ | refine Below.setCell ?_ (by first | (simp; done) | (simp; omega)) _)) _ _ _ (Hr1.out.below ((Below.refl _ _).alloc (Nat.le_refl _) _)) rfl _ _ rfl rfl rfl HT.out (by omega) (by unfold maxLen; omega) (by simp) ?_; intro v3 w3 hown3 hgrow3 hb3)
  have HX : Hid (Has w3 3 v3 (moreCals (1 + st) a b c).length (cals (moreCals (1 + st) a b c))) := by
    have h := Has.of_owns hown3
    rw [← hM1.out]; exact h
  have hb13 : Below W1.heap.size W1 w3 := ((Below.refl _ _).alloc (Nat.le_refl _) _).trans hb3
  have Hb3 := Lib.hid (Hb1.out.trans (hb13.mono Hb1.out.size))
  have Hr3 := Lib.hid (Hr1.out.below hb13)
  clear hown3 hgrow3 hb3 hb13 Hr1 Hb1
  refine (cbooked top 4 v3 _ w3 HX.out hO1.out (by omega) (by omega) (by show 7 ≤ 300; omega)).mono ?_
  rintro e w4 ⟨ax, cx, rs, rfl, hx, hrs, hex, hb4⟩
  have h7 : (moreCals (1 + st) a b c).length = 7 := rfl
  rw [h7] at hx ⊢
  have HX4 := Lib.hid hx
  have HRs := Lib.hid hrs
  have HEx := Lib.hid hex
  have Hb4 := Lib.hid (Hb3.out.trans (hb4.mono Hb3.out.size))
  have Hr1 := Lib.hid (Hr3.out.below hb4)
  clear h7 hx hrs hex hb4 HX Hb3 Hr3
  go_wp2_with fail
  with_reducible refine (P5.out _).mono ?_
  rintro e w' ⟨rfl, rfl⟩
  go_wp2_with (refine wp_appN (w0 := (w4.alloc (.cells #[.int .i64 1, .int .i64 0, .int .i64 (1 + st + 1 + mo)] 46))) 39 46 3 24 _ elCall Try.underlying39 w4.heap.size _ _ _ (owns_block (heap_alloc_new _ _) rfl (by rfl) (by decide) (Nat.le_refl _)) (by repeat (first | exact Below.refl _ _ | refine Below.drew ?_ | refine Below.alloc ?_ (by first | (simp; done) | (simp; omega)) _ | refine Below.setCell ?_ (by first | (simp; done) | (simp; omega)) _)) _ _ _ (Hr1.out.below ((Below.refl _ _).alloc (Nat.le_refl _) _)) rfl _ _ rfl rfl rfl HT.out (by omega) (by unfold maxLen; omega) (by simp) ?_; intro v5 w5 hown5 hgrow5 hb5)
  have HY : Hid (Has w5 3 v5 (moreCals (1 + st + 1 + mo) a b c).length (cals (moreCals (1 + st + 1 + mo) a b c))) := by
    have h := Has.of_owns hown5
    rw [← hM2.out]; exact h
  have hb45 : Below w4.heap.size w4 w5 := ((Below.refl _ _).alloc (Nat.le_refl _) _).trans hb5
  have Hb5 := Lib.hid (Hb4.out.trans (hb45.mono Hb4.out.size))
  have HX5 := Lib.hid (HX4.out.below hb45)
  have HRs5 := Lib.hid fun r hr => (HRs.out r hr).below hb45
  clear hown5 hgrow5 hb5 hb45 Hr1 Hb4 HX4 HRs
  refine (cbooked top 4 v5 _ w5 HY.out hO2.out (by omega) (by omega) (by show 7 ≤ 300; omega)).mono ?_
  rintro e w6 ⟨ay, cy, ss, rfl, hy, hss, hey, hb6⟩
  have h7 : (moreCals (1 + st + 1 + mo) a b c).length = 7 := rfl
  rw [h7] at hy ⊢
  have HY6 := Lib.hid hy
  have HSs := Lib.hid hss
  have HEy := Lib.hid hey
  have Hb6 := Lib.hid (Hb5.out.trans (hb6.mono Hb5.out.size))
  have HX6 := Lib.hid (HX5.out.below hb6)
  have HRs6 := Lib.hid fun r hr => (HRs5.out r hr).below hb6
  have hNN : Hid (NoLess (rs.map Rul.erase) (ss.map Rul.erase)) := by rw [HEx.out, HEy.out]; exact hNL.out
  have hrl : rs.length = 7 := by have := congrArg List.length HEx.out; rw [List.length_map, bkOuts_length] at this; exact this
  have hsl : ss.length = 7 := by have := congrArg List.length HEy.out; rw [List.length_map, bkOuts_length] at this; exact this
  have Hrl := Lib.hid hrl
  have Hsl := Lib.hid hsl
  clear h7 hy hss hey hb6 HY Hb5 HX5 HRs5 hrl hsl HEx HEy hNL hM1 hM2 hO1 hO2 HT P0 P1 P2 P3 P4 P5
  go_wp2_with fail
  go_loopw [20, 21] (fun i _ wr => ∃ k : Nat, k ≤ 7 ∧ i = .int .i64 k ∧ Below w6.heap.size w6 wr) (fun i _ _ => 7 - (intOf i).toNat)
  case atStart => exact ⟨0, by omega, rfl, Below.refl _ _⟩
  case round =>
    obtain ⟨k, hk, rfl, hb⟩ := hrel
    have Hb := Lib.hid hb
    clear hb
    by_cases hlt : k < 7
    · obtain ⟨bx, ox, r, agx, cgx, rfl, hrk, cx1, hgx⟩ := rul_at HX6.out HRs6.out Hrl.out k hlt
      obtain ⟨by', oy, s, agy, cgy, rfl, hsk, cy1, hgy⟩ := rul_at HY6.out HSs.out Hsl.out k hlt
      obtain ⟨hlen, hle⟩ := hNN.out.2 k r.erase s.erase (by rw [List.getElem?_map, hrk]; rfl) (by rw [List.getElem?_map, hsk]; rfl)
      have hlen' : s.g.length = r.g.length := hlen.symm
      have hle' : ∀ (j : Nat) (u v : Int), r.g[j]? = some u → s.g[j]? = some v → u ≤ v := hle
      have Hle := Lib.hid hle'
      rw [hlen'] at cy1 hgy
      have HCx := Lib.hid cx1
      have HCy := Lib.hid cy1
      have c1 := cell_on Hb.out cx1
      have c2 := cell_on Hb.out cy1
      have Hgx := Lib.hid hgx
      have Hgy := Lib.hid hgy
      have Hlen := Lib.hid hlen'
      generalize hL : r.g.length = L at *
      have HL := Lib.hid hL
      clear hrk hsk hlen hle hle' hlen' cx1 cy1 hgx hgy hL
      go_wp2_with fail
      go_quiet (fail)
      go_wp2_with fail
      go_loopw [21] (fun j wq => ∃ m : Nat, m ≤ L ∧ j = .int .i64 m ∧ Below w6.heap.size w6 wq) (fun j _ => L - (intOf j).toNat)
      case atStart => exact ⟨0, by omega, rfl, below_drewN Hb.out _⟩
      case round =>
        clear c1 c2 Hb
        obtain ⟨m, hm, rfl, hbq⟩ := hrel
        have Hbq := Lib.hid hbq
        clear hbq
        have c1 := cell_on Hbq.out HCx.out
        have c2 := cell_on Hbq.out HCy.out
        by_cases hmL : m < L
        · obtain ⟨_, ad, cp, he, hl1, hl2, hcx⟩ := Hgx.out
          simp only [Value.slice.injEq] at he
          obtain ⟨rfl, -, rfl⟩ := he
          have hLm : L ≤ 9223372036854775807 := Nat.le_trans hl1 hl2
          clear hl1 hl2
          have hmr : m < r.g.length := by have := HL.out; omega
          have hms : m < s.g.length := by have := HL.out; have := Hlen.out; omega
          obtain ⟨b1, o1, rfl, hc1⟩ := hcx (by simp; omega)
          obtain ⟨_, ad, cp, he, _, _, hcy⟩ := Hgy.out
          simp only [Value.slice.injEq] at he
          obtain ⟨rfl, -, rfl⟩ := he
          obtain ⟨b2, o2, rfl, hc2⟩ := hcy (by simp; omega)
          have d1 := cell_on Hbq.out (hc1 m _ (ints_get r.g m hmr))
          have d2 := cell_on Hbq.out (hc2 m _ (ints_get s.g m hms))
          have huv := Hle.out m _ _ (List.getElem?_eq_getElem hmr) (List.getElem?_eq_getElem hms)
          generalize r.g[m] = u at *
          generalize s.g[m] = v at *
          have dd : decide (v < u) = false := by simp; omega
          clear hcx hcy hc1 hc2 hmr hms
          go_wp2_with fail
          go_quiet (fail)
          go_wp2_with fail
          go_roundw
          case rel => exact ⟨m + 1, hmL, by go_num, below_drewN Hbq.out _⟩
          case measure => simp [intOf]; omega
        · obtain rfl : m = L := by omega
          go_wp2_with fail
          go_roundw
          case rel => exact ⟨k + 1, by omega, by go_num, Hbq.out⟩
          case measure => simp [intOf]; omega
    · obtain rfl : k = 7 := by omega
      go_wp2_with fail
      go_ret
      exact ⟨rfl, Hb6.out.trans (Hb.out.mono Hb6.out.size)⟩
end Go.Proofs.Ytgmichaconnhaaa.bookMore
