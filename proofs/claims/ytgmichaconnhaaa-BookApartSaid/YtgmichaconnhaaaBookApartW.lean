/- BookApart: the walk. -/
import Derived.Test.YtgmichaconnhaaaBookApartL
namespace Go.Proofs.Ytgmichaconnhaaa.bookApart
open Go.ChangeShapes Go.WideShapes Go.ChangeAt Go.RowKit
set_option linter.unusedVariables false
set_option linter.unusedSimpArgs false

/-- Ruling i of a play. -/
theorem rul_at {w : World} {a : Option Addr} {n c : Nat} {rs : List Rul} (h : Has w 3 (.slice a n c) n (ruls rs)) (hr : ∀ r ∈ rs, RulAt w r) (hl : rs.length = n) (i : Nat) (hi : i < n) :
    ∃ b off r ag cg, a = some ⟨b, off, none⟩ ∧ rs[i]? = some r ∧ w.cell? ⟨b, off + i * 3 + 1, none⟩ = some (.slice ag r.g.length cg) ∧ w.cell? ⟨b, off + i * 3 + 2, none⟩ = some (.int .i64 r.report) ∧ Has w 1 (.slice ag r.g.length cg) r.g.length (ints r.g) := by
  obtain ⟨_, ad, cap', he, _, _, hc⟩ := h
  simp only [Value.slice.injEq] at he
  obtain ⟨rfl, -, rfl⟩ := he
  obtain ⟨b, off, rfl, hcc⟩ := hc (by unfold ruls; rw [flat_length Rul.cells 3 Rul.cells_length]; omega)
  have hi' : i < rs.length := by omega
  have y1 := hcc (i * 3 + 1) rs[i].gv (by unfold ruls; rw [flat_get Rul.cells 3 Rul.cells_length rs i hi' 1 (by omega)]; rfl)
  have y2 := hcc (i * 3 + 2) (.int .i64 rs[i].report) (by unfold ruls; rw [flat_get Rul.cells 3 Rul.cells_length rs i hi' 2 (by omega)]; rfl)
  have hR := hr _ (List.getElem_mem hi')
  obtain ⟨ag, cg, hgv⟩ := hR.sl
  have hh := hR.has.has
  rw [hgv] at y1 hh
  exact ⟨b, off, rs[i], ag, cg, rfl, List.getElem?_eq_getElem hi', by rw [Nat.add_assoc]; exact y1, by rw [Nat.add_assoc]; exact y2, hh⟩
theorem aparts_next {w : World} {base : Nat} {v : Value} (wn : Nat) (os : List Int) (l : List Cal) (k : Nat) (h : k < l.length) {c : Cal} (hc : apartOf wn os k l[k] = c) (hown : w.ownsRow base 46 3 v (k + 1) (cals (aparts wn os (l.take k)) ++ c.cells)) :
    w.ownsRow base 46 3 v (k + 1) (cals (aparts wn os (l.take (k + 1)))) := by
  rw [aparts_snoc _ _ _ _ h, hc, cals_snoc]; exact hown
set_option maxRecDepth 100000 in
set_option maxHeartbeats 4000000 in
theorem walk (w : World) (a0 a1 : Int) (v : Value) (l : List Cal) (hl : Has w 3 v l.length (cals l)) (a3 : Int) (vo : Value) (os : List Int) (hoz : Has w 1 vo os.length (ints os) ∧ ∀ z ∈ os, -9223372036854775808 ≤ z ∧ z ≤ 9223372036854775807) (w0 : (Lit.int .i64 a0).wf = true) (w1 : (Lit.int .i64 a1).wf = true) (w3 : (Lit.int .i64 a3).wf = true) :
    Calls Try.prog 8 #[.int .i64 a0, .int .i64 a1, v, .int .i64 a3, vo] w fun e w' => e = .returned (.bool true) ∧ Below w.heap.size w w' := by
  obtain ⟨p00, p01⟩ := pick_bd a0 30 (by omega)
  obtain ⟨p10, p11⟩ := pick_bd a1 4 (by omega)
  obtain ⟨p30, p31⟩ := pick_bd a3 3 (by omega)
  have P0 := Lib.hid fun w => picked a0 30 (by omega) (by omega) w
  have P1 := Lib.hid fun w => picked a1 4 (by omega) (by omega) w
  have P3 := Lib.hid fun w => picked a3 3 (by omega) (by omega) w
  have P60 := Lib.hid fun (a : Int) w => picked a 60 (by omega) (by omega) w
  generalize pick a0 30 = top at *
  generalize pick a1 4 = tk at *
  generalize pick a3 3 = wi at *
  obtain ⟨wn, rfl⟩ := Int.eq_ofNat_of_zero_le p30
  have hwn : wn < 3 := by omega
  have Hl := Lib.hid hl
  have ho := hoz.1
  clear hoz
  obtain ⟨⟨_, _⟩, ao, co, rfl, hocn, hocm, hoc⟩ := ho
  have Hoc := Lib.hid hoc
  have Hom : Hid (os.length ≤ 9223372036854775807) := Nat.le_trans hocn hocm
  clear w0 w1 w3 hl hoc hocn hocm
  go_enter Try.func8, Try.ntmps8
  go_wp2_with fail
  with_reducible refine (P0.out _).mono ?_
  rintro e w' ⟨rfl, rfl⟩
  go_wp2_with fail
  with_reducible refine (P1.out _).mono ?_
  rintro e w' ⟨rfl, rfl⟩
  go_wp2_with fail
  with_reducible refine (P3.out _).mono ?_
  rintro e w' ⟨rfl, rfl⟩
  go_wp2_with fail
  refine (ccalls v l 100 w Hl.out (by omega)).mono ?_
  rintro e w1 ⟨vc, rfl, hown, hb1⟩
  obtain ⟨hok, hle⟩ := callsOf_ok l 100
  generalize callsOf l 100 = cs at *
  obtain ⟨ac, cc, rfl⟩ := owns_slice hown
  have HC1 := Lib.hid (Has.of_owns hown)
  have Hok := Lib.hid hok
  have Hb1 := Lib.hid hb1
  clear hown hb1 Hl hok P0 P1 P3
  go_wp2_with fail
  go_loopw [15, 16, 17] (fun out i _ wr => ∃ k : Nat, k ≤ cs.length ∧ i = .int .i64 k ∧ wr.ownsRow w1.heap.size 46 3 out k (cals (aparts wn os (cs.take k))) ∧ Below w1.heap.size w1 wr) (fun _ i _ _ => cs.length - (intOf i).toNat)
  case atStart => exact ⟨0, by omega, rfl, World.ownsRow_nil _ _ _ _, Below.refl _ _⟩
  case round =>
    obtain ⟨k, hk, rfl, ho, hb⟩ := hrel
    have Ho := Lib.hid ho
    have Hb := Lib.hid hb
    have hszw := hb.size
    clear ho hb
    by_cases hlt : k < cs.length
    · obtain ⟨_, ad, cp, he, _, _, hcc⟩ := HC1.out
      simp only [Value.slice.injEq] at he
      obtain ⟨rfl, -, -⟩ := he
      obtain ⟨bc, oc, rfl, hc2⟩ := hcc (by rw [cals_length]; omega)
      have x0 := cell_on Hb.out (hc2 (k * 3 + 0) (.int .i64 cs[k].kind) (by unfold cals; rw [flat_get Cal.cells 3 Cal.cells_length cs k hlt 0 (by omega)]; rfl))
      have x1 := cell_on Hb.out (hc2 (k * 3 + 1) (.int .i64 cs[k].who) (by unfold cals; rw [flat_get Cal.cells 3 Cal.cells_length cs k hlt 1 (by omega)]; rfl))
      have x2 := cell_on Hb.out (hc2 (k * 3 + 2) (.int .i64 cs[k].count) (by unfold cals; rw [flat_get Cal.cells 3 Cal.cells_length cs k hlt 2 (by omega)]; rfl))
      rw [Nat.add_zero] at x0
      rw [← Nat.add_assoc] at x1 x2
      have hbl := World.block_lt_of_cell? wr _ x0
      have Hnx := Lib.hid fun (c : Cal) (hc : apartOf wn os k cs[k] = c) X base v => aparts_next (w := X) (base := base) (v := v) wn os cs k hlt hc
      have hcall : apartOf wn os k cs[k] = if cs[k].kind = 2 ∧ cs[k].who = wn ∧ k < os.length then ⟨cs[k].kind, cs[k].who, pick (os.getD k 0) 60⟩ else cs[k] := rfl
      generalize cs[k] = x at *
      obtain ⟨kd, wh, ct⟩ := x
      simp only at *
      have Hcall := Lib.hid hcall
      clear hcc hc2 hcall
      have hblk : (wr.alloc (Obj.cells #[Value.int IntKind.i64 kd, Value.int IntKind.i64 wh, Value.int IntKind.i64 ct] 46)).heap[wr.heap.size]? = some (.cells #[.int .i64 kd, .int .i64 wh, .int .i64 ct] 46 (0, 0)) := heap_alloc_new _ _
      obtain ⟨y0, y1, y2, z0, z1, z2⟩ := three_cells hblk
      clear hblk
      by_cases h1 : kd = 2
      · subst h1
        by_cases h2 : wh = wn
        · subst h2
          by_cases h3 : k < os.length
          · rw [if_pos ⟨rfl, rfl, h3⟩] at Hcall
            obtain ⟨bo, oo, rfl, hoc⟩ := Hoc.out (by simp [ints]; omega)
            have o1 := cell_on (Hb1.out.trans (Hb.out.mono Hb1.out.size)) (hoc k _ (ints_get os k h3))
            have hgd : os.getD k 0 = os[k] := by simp [List.getD_eq_getElem?_getD, h3]
            rw [hgd] at Hcall
            generalize os[k] = ov at *
            clear hoc hgd
            have hbo := World.block_lt_of_cell? wr _ o1
            obtain ⟨s0, s1⟩ := pick_bd ov 60 (by omega)
            have Pk := Lib.hid (P60.out ov)
            generalize pick ov 60 = s at *
            go_wp2_with fail
            with_reducible refine (Pk.out _).mono ?_
            rintro e w' ⟨rfl, rfl⟩
            go_wp2_with (at_builtin; refine wp_app1 (w0 := wr) 39 46 3 24 _ elCall Try.underlying39 w1.heap.size _ _ _ Ho.out (by repeat (first | exact Below.refl _ _ | refine Below.drew ?_ | refine Below.alloc ?_ (by first | (simp; done) | (simp; omega)) _ | refine Below.setCell ?_ (by first | (simp; done) | (simp; omega)) _)) [.int .i64 2, .int .i64 wn, .int .i64 s] rfl _ _ rfl rfl rfl (by first | exact heap_alloc_new _ _ | (simp only [heap_drew, heap_drewN]; exact heap_alloc_new _ _)) (by simp) rfl rfl (by omega) (by omega) hszw ?_; intro v3 w3 hown3 hgrow3 hb3)
            go_roundw
            case rel => exact ⟨k + 1, by omega, by go_num, Hnx.out _ Hcall.out _ _ _ hown3, Hb.out.trans hb3⟩
            case measure => simp [intOf]; omega
          · rw [if_neg (by omega)] at Hcall
            go_wp2_with (at_builtin; refine wp_app1 (w0 := wr) 39 46 3 24 _ elCall Try.underlying39 w1.heap.size _ _ _ Ho.out (by repeat (first | exact Below.refl _ _ | refine Below.drew ?_ | refine Below.alloc ?_ (by first | (simp; done) | (simp; omega)) _ | refine Below.setCell ?_ (by first | (simp; done) | (simp; omega)) _)) [.int .i64 2, .int .i64 wn, .int .i64 ct] rfl _ _ rfl rfl rfl (by first | exact heap_alloc_new _ _ | (simp only [heap_drew, heap_drewN]; exact heap_alloc_new _ _)) (by simp) rfl rfl (by omega) (by omega) hszw ?_; intro v3 w3 hown3 hgrow3 hb3)
            go_roundw
            case rel => exact ⟨k + 1, by omega, by go_num, Hnx.out _ Hcall.out _ _ _ hown3, Hb.out.trans hb3⟩
            case measure => simp [intOf]; omega
        · rw [if_neg (by omega)] at Hcall
          have e2 : (wh == (wn : Int)) = false := by rw [beq_eq_false_iff_ne]; exact h2
          go_wp2_with (at_builtin; refine wp_app1 (w0 := wr) 39 46 3 24 _ elCall Try.underlying39 w1.heap.size _ _ _ Ho.out (by repeat (first | exact Below.refl _ _ | refine Below.drew ?_ | refine Below.alloc ?_ (by first | (simp; done) | (simp; omega)) _ | refine Below.setCell ?_ (by first | (simp; done) | (simp; omega)) _)) [.int .i64 2, .int .i64 wh, .int .i64 ct] rfl _ _ rfl rfl rfl (by first | exact heap_alloc_new _ _ | (simp only [heap_drew, heap_drewN]; exact heap_alloc_new _ _)) (by simp) rfl rfl (by omega) (by omega) hszw ?_; intro v3 w3 hown3 hgrow3 hb3)
          go_roundw
          case rel => exact ⟨k + 1, by omega, by go_num, Hnx.out _ Hcall.out _ _ _ hown3, Hb.out.trans hb3⟩
          case measure => simp [intOf]; omega
      · rw [if_neg (by omega)] at Hcall
        have e1 : (kd == 2) = false := by rw [beq_eq_false_iff_ne]; exact h1
        go_wp2_with (at_builtin; refine wp_app1 (w0 := wr) 39 46 3 24 _ elCall Try.underlying39 w1.heap.size _ _ _ Ho.out (by repeat (first | exact Below.refl _ _ | refine Below.drew ?_ | refine Below.alloc ?_ (by first | (simp; done) | (simp; omega)) _ | refine Below.setCell ?_ (by first | (simp; done) | (simp; omega)) _)) [.int .i64 kd, .int .i64 wh, .int .i64 ct] rfl _ _ rfl rfl rfl (by first | exact heap_alloc_new _ _ | (simp only [heap_drew, heap_drewN]; exact heap_alloc_new _ _)) (by simp) rfl rfl (by omega) (by omega) hszw ?_; intro v3 w3 hown3 hgrow3 hb3)
        go_roundw
        case rel => exact ⟨k + 1, by omega, by go_num, Hnx.out _ Hcall.out _ _ _ hown3, Hb.out.trans hb3⟩
        case measure => simp [intOf]; omega
    · obtain rfl : k = cs.length := by omega
      have h := Ho.out
      rw [List.take_length] at h
      have HD := Lib.hid (Has.of_owns h)
      have HD : Hid (Has wr 3 u15 (aparts wn os cs).length (cals (aparts wn os cs))) := by rw [aparts_length]; exact HD.out
      have hdl := aparts_length wn os cs
      have Hdk := Lib.hid (aparts_ok (w := wn) os Hok.out)
      have HC2 := Lib.hid (HC1.out.below Hb.out)
      have Hb2 := Lib.hid (Hb1.out.trans (Hb.out.mono Hb1.out.size))
      have Hst := Lib.hid fun k hk => apart_step (os := os) (w := wn) (BkOk.new 3 top (1 + tk) (by omega) (by omega)) rfl rfl Hok.out (by omega) k hk
      have hdget : ∀ k (hk : k < cs.length), (aparts wn os cs)[k]? = some (apartOf wn os k cs[k]) := fun k hk => by
        rw [List.getElem?_eq_getElem (by rw [aparts_length]; exact hk), aparts_get wn os cs k hk]
      have Hdget := Lib.hid hdget
      clear hdget
      generalize hds : aparts wn os cs = ds at *
      clear h Ho HC1 Hb1 Hb hszw hk hlt hds P60 Hoc Hom
      go_wp2_with fail
      refine (cbooked top (1 + tk) _ cs wr HC2.out Hok.out (by omega) (by omega) (by omega)).mono ?_
      rintro e w3 ⟨ax, cx, rs, rfl, hx, hrs, hex, hb3⟩
      have HX3 := Lib.hid hx
      have HR3 := Lib.hid hrs
      have HE1 := Lib.hid hex
      have HC3 := Lib.hid (HC2.out.below hb3)
      have HD3 := Lib.hid (HD.out.below hb3)
      have Hb3 := Lib.hid (Hb2.out.trans (hb3.mono Hb2.out.size))
      clear hx hrs hex hb3 HC2 HD Hb2
      go_wp2_with fail
      refine (cbooked top (1 + tk) _ ds w3 HD3.out Hdk.out (by omega) (by omega) (by omega)).mono ?_
      rintro e w4 ⟨ay, cy, ss, rfl, hy, hss, hey, hb4⟩
      have hrl : rs.length = cs.length := by have := congrArg List.length HE1.out; rw [List.length_map, bkOuts_length] at this; exact this
      have hsl : ss.length = cs.length := by have := congrArg List.length hey; rw [List.length_map, bkOuts_length] at this; omega
      rw [hdl] at hy ⊢
      have HY := Lib.hid hy
      have HS := Lib.hid hss
      have HE2 := Lib.hid hey
      have HX := Lib.hid (HX3.out.below hb4)
      have HR := Lib.hid fun r hr => (HR3.out r hr).below hb4
      have HC := Lib.hid (HC3.out.below hb4)
      have Hb4 := Lib.hid (Hb3.out.trans (hb4.mono Hb3.out.size))
      have Hrl := Lib.hid hrl
      have Hsl := Lib.hid hsl
      have Hk1 := Lib.hid (bkFold_ok (BkOk.new 3 top (1 + tk) (by omega) (by omega)) rfl rfl cs Hok.out (by omega))
      have Hk2 := Lib.hid (bkFold_ok (BkOk.new 3 top (1 + tk) (by omega) (by omega)) rfl rfl ds Hdk.out (by omega))
      clear hy hss hey hb4 HX3 HR3 HC3 HD3 Hb3 hrl hsl
      generalize Bk.new 3 top (1 + tk) = b0 at *
      go_wp2_with fail
      go_loopw [22, 23] (fun i _ wr => ∃ k : Nat, k ≤ cs.length ∧ i = .int .i64 k ∧ Sim wn (bkFold b0 (cs.take k)).1 (bkFold b0 (ds.take k)).1 ∧ Below w4.heap.size w4 wr) (fun i _ _ => cs.length - (intOf i).toNat)
      case atStart => exact ⟨0, by omega, rfl, Sim.refl _ _, Below.refl _ _⟩
      case round =>
        obtain ⟨k, hk, rfl, hsim, hb⟩ := hrel
        have Hb := Lib.hid hb
        have Hsim := Lib.hid hsim
        clear hb hsim
        by_cases hlt : k < cs.length
        · obtain ⟨bx, ox, r, agx, cgx, rfl, hrk, cx1, cx2, hgx⟩ := rul_at HX.out HR.out Hrl.out k hlt
          obtain ⟨by', oy, s, agy, cgy, rfl, hsk, cy1, cy2, hgy⟩ := rul_at HY.out HS.out Hsl.out k hlt
          have ho1 := bkOuts_get b0 cs k hlt
          have ho2 := bkOuts_get b0 ds k (by omega)
          have hdk : ds[k] = apartOf wn os k cs[k] := by
            have h := Hdget.out k hlt
            rw [List.getElem?_eq_getElem (by omega)] at h
            exact Option.some.inj h
          rw [hdk] at ho2
          rw [← HE1.out, List.getElem?_map, hrk] at ho1
          rw [← HE2.out, List.getElem?_map, hsk] at ho2
          simp only [Option.map_some, Option.some.injEq] at ho1 ho2
          have hstep := Hst.out k hlt Hsim.out
          rw [← ho1, ← ho2] at hstep
          have hl1 : cs[k].kind = 3 → r.g.length = 3 := fun h3 => by
            have h := out_length (Hk1.out k hk).1 cs[k] h3
            rw [← ho1] at h; exact h
          have hl2 : cs[k].kind = 3 → s.g.length = 3 := fun h3 => by
            have h := out_length (Hk2.out k (by omega)).1 (apartOf wn os k cs[k]) ((apart_alike wn os k cs[k]).kind ▸ h3)
            rw [← ho2] at h; exact h
          obtain ⟨_, ad, cp, he, _, _, hcc⟩ := HC.out
          simp only [Value.slice.injEq] at he
          obtain ⟨rfl, -, -⟩ := he
          obtain ⟨bc, oc, rfl, hc2⟩ := hcc (by rw [cals_length]; omega)
          have x0 := cell_on Hb.out (hc2 (k * 3 + 0) (.int .i64 cs[k].kind) (by unfold cals; rw [flat_get Cal.cells 3 Cal.cells_length cs k hlt 0 (by omega)]; rfl))
          rw [Nat.add_zero] at x0
          have d1 := cell_on Hb.out cx1
          have d2 := cell_on Hb.out cx2
          have e1 := cell_on Hb.out cy1
          have e2 := cell_on Hb.out cy2
          have hstep' : r.report = s.report → Sim wn (bkFold b0 (cs.take (k + 1))).1 (bkFold b0 (ds.take (k + 1))).1 ∧ (cs[k].kind = 3 → ∀ j, j ≠ wn → r.g.getD j 0 = s.g.getD j 0) := hstep
          have Hstep := Lib.hid hstep'
          have Hcx := Lib.hid cx1
          have Hcy := Lib.hid cy1
          have Hgx := Lib.hid hgx
          have Hgy := Lib.hid hgy
          clear hrk hsk ho1 ho2 hdk hstep hstep' hcc hc2 cx1 cx2 cy1 cy2 hgx hgy
          generalize cs[k].kind = kd at *
          by_cases hrep : r.report = s.report
          · obtain ⟨hsim2, hgr⟩ := Hstep.out hrep
            have Hsim2 := Lib.hid hsim2
            rw [hrep] at d2
            by_cases h3 : kd = 3
            · subst h3
              have hg1 := hl1 rfl
              have hg2 := hl2 rfl
              have Hgr := Lib.hid (hgr rfl)
              rw [hg1] at d1 Hcx Hgx
              rw [hg2] at e1 Hcy Hgy
              have Hg1 := Lib.hid hg1
              have Hg2 := Lib.hid hg2
              clear hsim2 hgr hl1 hl2 hg1 hg2 hrep
              go_wp2_with fail
              go_quiet (fail)
              go_wp2_with fail
              go_loopw [23] (fun j wq => ∃ m : Nat, m ≤ 3 ∧ j = .int .i64 m ∧ Below w4.heap.size w4 wq) (fun j _ => 3 - (intOf j).toNat)
              case atStart => exact ⟨0, by omega, rfl, below_drewN Hb.out _⟩
              case round =>
                clear d1 d2 e1 e2 x0 Hb
                obtain ⟨m, hm, rfl, hb⟩ := hrel
                have Hb := Lib.hid hb
                clear hb
                by_cases hml : m < 3
                · have hmi : (m : Int) < 3 := by omega
                  by_cases hmw : m = wn
                  · subst hmw
                    go_wp2_with fail
                    go_quiet (fail)
                    go_wp2_with fail
                    go_roundw
                    case rel => exact ⟨m + 1, by omega, by go_num, below_drewN Hb.out _⟩
                    case measure => simp [intOf]; omega
                  · have heq := Hgr.out m hmw
                    have hmw' : ((m : Int) == (wn : Int)) = false := by rw [beq_eq_false_iff_ne]; omega
                    have hmw1 : (m == wn) = false := by rw [beq_eq_false_iff_ne]; exact hmw
                    have hmw2 : ¬ ((m : Int) = (wn : Int)) := by omega
                    have d1 := cell_on Hb.out Hcx.out
                    have e1 := cell_on Hb.out Hcy.out
                    obtain ⟨_, ad, cp, he, _, _, hcx⟩ := Hgx.out
                    simp only [Value.slice.injEq] at he
                    obtain ⟨rfl, -, -⟩ := he
                    obtain ⟨b1, o1, rfl, hc1⟩ := hcx (by simp [Hg1.out])
                    obtain ⟨_, ad, cp, he, _, _, hcy⟩ := Hgy.out
                    simp only [Value.slice.injEq] at he
                    obtain ⟨rfl, -, -⟩ := he
                    obtain ⟨b2, o2, rfl, hc2⟩ := hcy (by simp [Hg2.out])
                    have m1 : m < r.g.length := by rw [Hg1.out]; exact hml
                    have m2 : m < s.g.length := by rw [Hg2.out]; exact hml
                    have f1 := cell_on Hb.out (hc1 m _ (ints_get r.g m m1))
                    have f2 := cell_on Hb.out (hc2 m _ (ints_get s.g m m2))
                    have q1 : r.g.getD m 0 = r.g[m] := by simp [List.getD_eq_getElem?_getD, m1]
                    have q2 : s.g.getD m 0 = s.g[m] := by simp [List.getD_eq_getElem?_getD, m2]
                    rw [q1, q2] at heq
                    rw [heq] at f1
                    generalize s.g[m] = gv at *
                    clear hcx hcy hc1 hc2 q1 q2 heq m1 m2
                    go_wp2_with fail
                    go_quiet (fail)
                    go_wp2_with fail
                    go_roundw
                    case rel => exact ⟨m + 1, by omega, by go_num, below_drewN Hb.out _⟩
                    case measure => simp [intOf]; omega
                · obtain rfl : m = 3 := by omega
                  go_wp2_with fail
                  go_roundw
                  case rel => exact ⟨k + 1, by omega, by go_num, Hsim2.out, Hb.out⟩
                  case measure => simp [intOf]; omega
            · have h3' : (kd == 3) = false := by rw [beq_eq_false_iff_ne]; exact h3
              clear hsim2 hgr hl1 hl2 hrep
              go_wp2_with fail
              go_quiet (fail)
              go_wp2_with fail
              go_roundw
              case rel => exact ⟨k + 1, by omega, by go_num, Hsim2.out, below_drewN Hb.out _⟩
              case measure => simp [intOf]; omega
          · have hne : (r.report == s.report) = false := by rw [beq_eq_false_iff_ne]; exact hrep
            clear hl1 hl2
            go_wp2_with fail
            go_quiet (fail)
            go_wp2_with fail
            go_ret
            exact ⟨rfl, Hb4.out.trans (below_drewN (Hb.out.mono Hb4.out.size) _)⟩
        · obtain rfl : k = cs.length := by omega
          go_wp2_with fail
          go_ret
          exact ⟨rfl, Hb4.out.trans (Hb.out.mono Hb4.out.size)⟩
end Go.Proofs.Ytgmichaconnhaaa.bookApart
