/- BookServes: the walk. -/
import Derived.Test.YtgmichaconnhaaaBookServesL
namespace Go.Proofs.Ytgmichaconnhaaa.bookServes
open Go.ChangeShapes Go.WideShapes Go.ChangeAt Go.RowKit
set_option linter.unusedVariables false
set_option linter.unusedSimpArgs false

/-- Ruling i of a play. -/
theorem rul_at {w : World} {a : Option Addr} {n c : Nat} {rs : List Rul} (h : Has w 3 (.slice a n c) n (ruls rs)) (hr : ∀ r ∈ rs, RulAt w r) (hl : rs.length = n) (i : Nat) (hi : i < n) :
    ∃ b off r ag cg, a = some ⟨b, off, none⟩ ∧ rs[i]? = some r ∧ w.cell? ⟨b, off + i * 3 + 1, none⟩ = some (.slice ag r.g.length cg) ∧ Has w 1 (.slice ag r.g.length cg) r.g.length (ints r.g) := by
  obtain ⟨_, ad, cap', he, _, _, hc⟩ := h
  simp only [Value.slice.injEq] at he
  obtain ⟨rfl, -, rfl⟩ := he
  obtain ⟨b, off, rfl, hcc⟩ := hc (by unfold ruls; rw [flat_length Rul.cells 3 Rul.cells_length]; omega)
  have hi' : i < rs.length := by omega
  have y1 := hcc (i * 3 + 1) rs[i].gv (by unfold ruls; rw [flat_get Rul.cells 3 Rul.cells_length rs i hi' 1 (by omega)]; rfl)
  have hR := hr _ (List.getElem_mem hi')
  obtain ⟨ag, cg, hgv⟩ := hR.sl
  have hh := hR.has.has
  rw [hgv] at y1 hh
  exact ⟨b, off, rs[i], ag, cg, rfl, List.getElem?_eq_getElem hi', by rw [Nat.add_assoc]; exact y1, hh⟩
theorem cals_snoc (l : List Cal) (c : Cal) : cals (l ++ [c]) = cals l ++ [.int .i64 c.kind, .int .i64 c.who, .int .i64 c.count] := by simp [cals, Cal.cells]
def head (n a b c : Int) (k : Nat) : List Cal := [⟨1, 0, n⟩] ++ (srvWants a b c).take k
theorem head_succ (n a b c : Int) (k : Nat) (h : k < 3) : ∃ x, [a, b, c][k]? = some x ∧ head n a b c (k + 1) = head n a b c k ++ [⟨2, k, x⟩] := by
  match k, h with
  | 0, _ => exact ⟨a, rfl, rfl⟩
  | 1, _ => exact ⟨b, rfl, rfl⟩
  | 2, _ => exact ⟨c, rfl, rfl⟩
set_option maxRecDepth 100000 in
set_option maxHeartbeats 4000000 in
theorem walk (w : World) (a0 a1 a2 a3 a4 : Int) (w0 : (Lit.int .i64 a0).wf = true) (w1 : (Lit.int .i64 a1).wf = true) (w2 : (Lit.int .i64 a2).wf = true) (w3 : (Lit.int .i64 a3).wf = true) (w4 : (Lit.int .i64 a4).wf = true) :
    Calls Try.prog 9 #[.int .i64 a0, .int .i64 a1, .int .i64 a2, .int .i64 a3, .int .i64 a4] w fun e w' => e = .returned (.bool true) ∧ Below w.heap.size w w' := by
  obtain ⟨p00, p01⟩ := pick_bd a0 30 (by omega)
  obtain ⟨p10, p11⟩ := pick_bd a1 4 (by omega)
  obtain ⟨p20, p21⟩ := pick_bd a2 40 (by omega)
  obtain ⟨p30, p31⟩ := pick_bd a3 40 (by omega)
  obtain ⟨p40, p41⟩ := pick_bd a4 40 (by omega)
  have P0 := Lib.hid fun w => picked a0 30 (by omega) (by omega) w
  have P1 := Lib.hid fun w => picked a1 4 (by omega) (by omega) w
  have P2 := Lib.hid fun w => picked a2 40 (by omega) (by omega) w
  have P3 := Lib.hid fun w => picked a3 40 (by omega) (by omega) w
  have P4 := Lib.hid fun w => picked a4 40 (by omega) (by omega) w
  generalize pick a0 30 = top at *
  generalize pick a1 4 = tk at *
  generalize pick a2 40 = a at *
  generalize pick a3 40 = b at *
  generalize pick a4 40 = c at *
  clear w0 w1 w2 w3 w4
  go_enter Try.func9, Try.ntmps9
  go_wp2_with fail
  with_reducible refine (P0.out _).mono ?_
  rintro e w' ⟨rfl, rfl⟩
  go_wp2_with fail
  with_reducible refine (P1.out _).mono ?_
  rintro e w' ⟨rfl, rfl⟩
  go_wp2_with fail
  with_reducible refine (P2.out _).mono ?_
  rintro e w' ⟨rfl, rfl⟩
  go_wp2_with fail
  with_reducible refine (P3.out _).mono ?_
  rintro e w' ⟨rfl, rfl⟩
  go_wp2_with fail
  with_reducible refine (P4.out _).mono ?_
  rintro e w' ⟨rfl, rfl⟩
  go_upto_region 4 with (fail)
  have hb1 : Below w.heap.size w (w.alloc (.cells #[.int .i64 a, .int .i64 b, .int .i64 c] 3)) := (Below.refl _ _).alloc (Nat.le_refl _) _
  have hr1 : Has (w.alloc (.cells #[.int .i64 a, .int .i64 b, .int .i64 c] 3)) 1 (.slice (some ⟨w.heap.size, 0, none⟩) 3 3) 3 (ints [a, b, c]) := has_block (heap_alloc_new _ _) rfl (by rfl) (by decide)
  have c0 : (w.alloc (.cells #[.int .i64 a, .int .i64 b, .int .i64 c] 3)).cell? ⟨w.heap.size, 0, none⟩ = some (.int .i64 a) := cell_of_row _ _ _ _ _ _ (heap_alloc_new _ _)
  have c1 : (w.alloc (.cells #[.int .i64 a, .int .i64 b, .int .i64 c] 3)).cell? ⟨w.heap.size, 1, none⟩ = some (.int .i64 b) := cell_of_row _ _ _ _ _ _ (heap_alloc_new _ _)
  have c2 : (w.alloc (.cells #[.int .i64 a, .int .i64 b, .int .i64 c] 3)).cell? ⟨w.heap.size, 2, none⟩ = some (.int .i64 c) := cell_of_row _ _ _ _ _ _ (heap_alloc_new _ _)
  have hs1 : w.heap.size < (w.alloc (.cells #[.int .i64 a, .int .i64 b, .int .i64 c] 3)).heap.size := by simp
  generalize w.alloc (.cells #[.int .i64 a, .int .i64 b, .int .i64 c] 3) = W1 at *
  have Hb1 := Lib.hid hb1
  have Hr1 := Lib.hid hr1
  have hk0 : IntKind.i64.wrap (a + b) = a + b := IntWalk.i64_in _ (by omega)
  have hk1 : IntKind.i64.wrap (a + b + c) = a + b + c := IntWalk.i64_in _ (by omega)
  have hk2 : IntKind.i64.wrap (3 * (a + b + c)) = 3 * (a + b + c) := IntWalk.i64_in _ (by omega)
  have hk3 : IntKind.i64.wrap (1 + 3 * (a + b + c)) = 1 + 3 * (a + b + c) := IntWalk.i64_in _ (by omega)
  clear hb1 hr1
  go_region_held3 (fun X => X.cell? ⟨w.heap.size, 0, none⟩ = some (.int .i64 a) ∧ X.cell? ⟨w.heap.size, 1, none⟩ = some (.int .i64 b) ∧ X.cell? ⟨w.heap.size, 2, none⟩ = some (.int .i64 c)) (first | exact ⟨c0, c1, c2⟩ | go_keep) (fail)
  generalize hn : 1 + 3 * (a + b + c) = n at *
  have hn1 : 1 ≤ n ∧ n ≤ 400 := by omega
  have Hn := Lib.hid hn
  clear c0 c1 c2 hk0 hk1 hk2 hk3 hn P0 P1 P2 P3 P4
  go_wp2_with fail
  go_loopw [14, 15] (fun v i wr => ∃ k : Nat, k ≤ 3 ∧ i = .int .i64 k ∧ wr.ownsRow W1.heap.size 46 3 v (1 + k) (cals (head n a b c k)) ∧ Below W1.heap.size W1 wr) (fun _ i _ => 3 - (intOf i).toNat)
  case atStart => exact ⟨0, by omega, rfl, owns_block (heap_alloc_new _ _) rfl (by rfl) (by decide) (Nat.le_refl _), (by repeat (first | exact Below.refl _ _ | refine Below.drew ?_ | refine Below.alloc ?_ (by first | (simp; done) | (simp; omega)) _ | refine Below.setCell ?_ (by first | (simp; done) | (simp; omega)) _))⟩
  case round =>
    obtain ⟨k, hk, rfl, hown, hb⟩ := hrel
    have Hb := Lib.hid hb
    have Hown := Lib.hid hown
    have hsz := hb.size
    clear hown hb
    by_cases hlt : k < 3
    · obtain ⟨x, hx, hsx⟩ := head_succ n a b c k hlt
      obtain ⟨_, ad, cp, he, _, _, hcx⟩ := Hr1.out
      simp only [Value.slice.injEq, Option.some.injEq] at he
      obtain ⟨rfl, -, rfl⟩ := he
      obtain ⟨b1, o1, he1, hc1⟩ := hcx (by simp [ints])
      simp only [Option.some.injEq, Addr.mk.injEq] at he1
      obtain ⟨rfl, rfl, -⟩ := he1
      have d1 := cell_on Hb.out (hc1 k (.int .i64 x) (by unfold ints; rw [List.getElem?_map, hx]; rfl))
      have hbd : 0 ≤ x ∧ x ≤ 39 := by
        match k, hlt, hx with
        | 0, _, hx => simp at hx; omega
        | 1, _, hx => simp at hx; omega
        | 2, _, hx => simp at hx; omega
      rw [Nat.zero_add] at d1
      have Hsx := Lib.hid hsx
      clear hcx hc1 hsx hx
      go_wp2_with (at_builtin; refine wp_app1 (w0 := wr) 39 46 3 24 _ elCall Try.underlying39 W1.heap.size _ _ _ Hown.out (by repeat (first | exact Below.refl _ _ | refine Below.drew ?_ | refine Below.alloc ?_ (by first | (simp; done) | (simp; omega)) _ | refine Below.setCell ?_ (by first | (simp; done) | (simp; omega)) _)) [.int .i64 2, .int .i64 k, .int .i64 x] rfl _ _ rfl rfl rfl (by first | exact heap_alloc_new _ _ | (simp only [heap_drew, heap_drewN]; exact heap_alloc_new _ _)) (by simp) rfl rfl (by omega) (by omega) hsz ?_; intro v5 w5 hown5 hgrow5 hb5)
      go_roundw
      case rel => exact ⟨k + 1, by omega, by go_num, by rw [Hsx.out, cals_snoc]; exact hown5, Hb.out.trans hb5⟩
      case measure => simp [intOf]; omega
    · obtain rfl : k = 3 := by omega
      have e4 : head n a b c 3 = srvCals n a b c 0 := rfl
      rw [e4] at Hown
      obtain ⟨J, hJ⟩ : ∃ J : Nat, (J : Int) + 1 = 40 * (1 + tk) := ⟨(40 * (1 + tk) - 1).toNat, by omega⟩
      have Hb0 := Lib.hid Hb.out
      have hkm : IntKind.i64.wrap (40 * (1 + tk)) = 40 * (1 + tk) := IntWalk.i64_in _ (by omega)
      rw [← hJ] at hkm
      clear e4 hlt
      go_wp2_with fail
      go_loopw [14, 16] (fun v i wq => ∃ j : Nat, j ≤ J + 1 ∧ i = .int .i64 j ∧ wq.ownsRow W1.heap.size 46 3 v (4 + j) (cals (srvCals n a b c j)) ∧ Below W1.heap.size W1 wq) (fun _ i _ => J + 1 - (intOf i).toNat)
      case atStart => exact ⟨0, by omega, rfl, Hown.out, Hb0.out⟩
      case round =>
        clear Hown Hb Hb0 hsz hk
        obtain ⟨j, hj, rfl, hown, hb⟩ := hrel
        have Hb := Lib.hid hb
        have Hown := Lib.hid hown
        have hsz := hb.size
        clear hown hb
        by_cases hlt : j < J + 1
        · go_wp2_with (at_builtin; refine wp_app1 (w0 := wr) 39 46 3 24 _ elCall Try.underlying39 W1.heap.size _ _ _ Hown.out (by repeat (first | exact Below.refl _ _ | refine Below.drew ?_ | refine Below.alloc ?_ (by first | (simp; done) | (simp; omega)) _ | refine Below.setCell ?_ (by first | (simp; done) | (simp; omega)) _)) [.int .i64 3, .int .i64 0, .int .i64 0] rfl _ _ rfl rfl rfl (by first | exact heap_alloc_new _ _ | (simp only [heap_drew, heap_drewN]; exact heap_alloc_new _ _)) (by simp) rfl rfl (by omega) (by omega) hsz ?_; intro v6 w6 hown6 hgrow6 hb6)
          go_roundw
          case rel =>
            repeat apply Exists.intro
            refine ⟨⟨j + 1, by omega, ?_, by rw [srvCals_succ, cals_snoc]; exact hown6, Hb.out.trans hb6⟩, rfl⟩
            go_num
          case measure => simp [intOf]; omega
        · obtain rfl : j = J + 1 := by omega
          have hok : ∀ x ∈ srvCals n a b c (J + 1), CalOk 3 x := srvCals_ok (by omega) (by omega) (by omega) (by omega)
          obtain ⟨rp, hlast⟩ := serves_last (top := 1 + top) (t := 1 + tk) (n := n) (a := a) (b := b) (c := c) (by omega) (by omega) (by omega) (by omega) (by omega) (by have := Hn.out; omega) J hJ
          have hlen := srvCals_length n a b c (J + 1)
          have HX : Hid (Has wr 3 u14 (srvCals n a b c (J + 1)).length (cals (srvCals n a b c (J + 1)))) := by
            have h := Has.of_owns Hown.out
            rw [hlen]; exact h
          have hln : (srvCals n a b c (J + 1)).length ≤ 300 := by rw [hlen]; omega
          have Hok := Lib.hid hok
          have Hlast := Lib.hid hlast
          clear Hown hok hlast
          go_wp2_with fail
          refine (cbooked (1 + top) (1 + tk) _ _ wr HX.out Hok.out (by omega) (by omega) hln).mono ?_
          rintro e w6 ⟨ax, cx, rs, rfl, hx, hrs, hex, hb6⟩
          have hrl : rs.length = (srvCals n a b c (J + 1)).length := by have := congrArg List.length hex; rw [List.length_map, bkOuts_length] at this; exact this
          rw [← hex, List.getElem?_map] at Hlast
          rw [hlen] at hx hrl ⊢
          obtain ⟨bx, ox, r, agx, cgx, rfl, hrk, cx1, hgx⟩ := rul_at hx hrs hrl (4 + J) (by omega)
          rw [hrk] at Hlast
          have hre : r.g = [a, b, c] := by have h := Hlast.out; simp [Rul.erase] at h; exact h.1
          rw [hre] at cx1 hgx
          have Hgx := Lib.hid hgx
          have HW6 := Lib.hid ((Hr1.out.below Hb.out).below hb6)
          have Hb6 := Lib.hid ((Hb1.out.trans (Hb.out.mono Hb1.out.size)).trans (hb6.mono ((Hb1.out.trans (Hb.out.mono Hb1.out.size)).size)))
          clear hx hrs hex hgx hb6 hrk Hlast HX Hok hlen hln hrl hre Hb
          have hM : 4 + (J + 1) = (4 + J) + 1 := by omega
          have hMb : 4 + J ≤ 200 := by omega
          rw [hM]
          generalize 4 + J = M at *
          clear hJ hM hkm
          go_wp2_with (go_at_call 20; refine (csameR _ _ [a, b, c] _ Hgx.out HW6.out).mono ?_; rintro e w7 ⟨rfl, hb7⟩)
          go_ret
          exact ⟨rfl, Hb6.out.trans (hb7.mono Hb6.out.size)⟩
end Go.Proofs.Ytgmichaconnhaaa.bookServes
