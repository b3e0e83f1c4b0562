/- BookSums: the walk. -/
import Derived.Test.YtgmichaconnhaaaBookSumsL
namespace Go.Proofs.Ytgmichaconnhaaa.bookSums
open Go.ChangeShapes Go.WideShapes Go.ChangeAt Go.RowKit
set_option linter.unusedVariables false
set_option linter.unusedSimpArgs false

/-- Ruling i of a play. -/
theorem rul_at {w : World} {a : Option Addr} {n c : Nat} {rs : List Rul} (h : Has w 3 (.slice a n c) n (ruls rs)) (hr : ∀ r ∈ rs, RulAt w r) (hl : rs.length = n) (i : Nat) (hi : i < n) :
    ∃ b off r ag cg, a = some ⟨b, off, none⟩ ∧ rs[i]? = some r ∧ w.cell? ⟨b, off + i * 3 + 1, none⟩ = some (.slice ag r.g.length cg) ∧ w.cell? ⟨b, off + i * 3 + 2, none⟩ = some (.int .i64 r.report) ∧ Has w 1 (.slice ag r.g.length cg) r.g.length (ints r.g) := by
  obtain ⟨_, ad, cap', he, _, _, hc⟩ := h
  simp only [Value.slice.injEq] at he
  obtain ⟨rfl, -, rfl⟩ := he
  obtain ⟨b, off, rfl, hcc⟩ := hc (by unfold ruls; rw [flat_length Rul.cells 3 Rul.cells_length]; omega)
  have hi' : i < rs.length := by omega
  have y1 := hcc (i * 3 + 1) rs[i].gv (by unfold ruls; rw [flat_get Rul.cells 3 Rul.cells_length rs i hi' 1 (by omega)]; rfl)
  have y2 := hcc (i * 3 + 2) (.int .i64 rs[i].report) (by unfold ruls; rw [flat_get Rul.cells 3 Rul.cells_length rs i hi' 2 (by omega)]; rfl)
  have hR := hr _ (List.getElem_mem hi')
  obtain ⟨ag, cg, hgv⟩ := hR.sl
  have hh := hR.has.has
  rw [hgv] at y1 hh
  exact ⟨b, off, rs[i], ag, cg, rfl, List.getElem?_eq_getElem hi', by rw [Nat.add_assoc]; exact y1, by rw [Nat.add_assoc]; exact y2, hh⟩
theorem row3 {w : World} {base g : Nat} (h : w.heap[g]? = some (.cells #[.int .i64 0, .int .i64 0, .int .i64 0] 3 (0, 0))) (hb : base ≤ g) : w.ownsRow base 3 1 (.slice (some ⟨g, 0, none⟩) 3 3) 3 (ints [0, 0, 0]) :=
  ⟨rfl, .inr ⟨g, 3, _, rfl, hb, h, Nat.le_refl _, by decide, rfl, rfl⟩⟩
set_option maxRecDepth 100000 in
set_option maxHeartbeats 4000000 in
theorem walk (w : World) (a0 a1 : Int) (v : Value) (l : List Cal) (hl : Has w 3 v l.length (cals l)) (w0 : (Lit.int .i64 a0).wf = true) (w1 : (Lit.int .i64 a1).wf = true) :
    Calls Try.prog 7 #[.int .i64 a0, .int .i64 a1, v] w fun e w' => e = .returned (.bool true) ∧ Below w.heap.size w w' := by
  obtain ⟨p00, p01⟩ := pick_bd a0 30 (by omega)
  obtain ⟨p10, p11⟩ := pick_bd a1 4 (by omega)
  have P0 := Lib.hid fun w => picked a0 30 (by omega) (by omega) w
  have P1 := Lib.hid fun w => picked a1 4 (by omega) (by omega) w
  generalize pick a0 30 = top at *
  generalize pick a1 4 = tk at *
  have Hl := Lib.hid hl
  clear w0 w1 hl
  go_enter Try.func7, Try.ntmps7
  go_wp2_with fail
  with_reducible refine (P0.out _).mono ?_
  rintro e w' ⟨rfl, rfl⟩
  go_wp2_with fail
  with_reducible refine (P1.out _).mono ?_
  rintro e w' ⟨rfl, rfl⟩
  go_wp2_with fail
  refine (ccalls v l 100 w Hl.out (by omega)).mono ?_
  rintro e w1 ⟨vc, rfl, hown, hb1⟩
  obtain ⟨hok, hle⟩ := callsOf_ok l 100
  generalize callsOf l 100 = cs at *
  obtain ⟨ac, cc, rfl⟩ := owns_slice hown
  have HC1 := Lib.hid (Has.of_owns hown)
  have Hok := Lib.hid hok
  have Hb1 := Lib.hid hb1
  clear hown hb1 Hl hok P0 P1
  go_wp2_with fail
  refine (cbooked top (1 + tk) _ cs w1 HC1.out Hok.out (by omega) (by omega) (by omega)).mono ?_
  rintro e w2 ⟨ax, cx, rs, rfl, hx, hrs, hex, hb2⟩
  have hrl : rs.length = cs.length := by have := congrArg List.length hex; rw [List.length_map, bkOuts_length] at this; exact this
  have HC2 := Lib.hid (HC1.out.below hb2)
  have HX2 := Lib.hid hx
  have HR2 := Lib.hid hrs
  have HE := Lib.hid hex
  have Hrl := Lib.hid hrl
  have Hb2 := Lib.hid (Hb1.out.trans (hb2.mono Hb1.out.size))
  have Hbk := Lib.hid (bkFold_ok (BkOk.new 3 top (1 + tk) (by omega) (by omega)) rfl rfl cs Hok.out (by omega))
  have Hke := Lib.hid (bkFold_keeps (Bk.new 3 top (1 + tk)) cs)
  clear hx hrs hex hrl hb2 HC1 Hb1
  have hmk3 : ∀ w, (Instr.makeSlice 44 (.int .i64 3) (.int .i64 3)).run Try.prog w = .ok (.slice (some ⟨w.heap.size, 0, none⟩) 3 3) (w.alloc (.cells #[.int .i64 0, .int .i64 0, .int .i64 0] 3)) := fun _ => by kernel_rfl
  go_wp2_with fail
  have hS : SumAt w2 (((w2.alloc (.cells #[.int .i64 0, .int .i64 0, .int .i64 0] 3)).alloc (.cells #[.int .i64 0, .int .i64 0, .int .i64 0] 3)).alloc (.cells #[.int .i64 0, .int .i64 0, .int .i64 0] 3)) w2.heap.size (w2.heap.size + 1) (w2.heap.size + 2) [0, 0, 0] [0, 0, 0] (List.replicate 3 0) := by
    obtain ⟨e1, e2, e3, e4⟩ := heap3 w2 (.cells #[.int .i64 0, .int .i64 0, .int .i64 0] 3)
    exact ⟨row3 e1 (Nat.le_refl _), row3 e2 (by omega), row3 e3 (by omega), by omega, by omega, by omega, ⟨Nat.le_refl _, by omega, by omega⟩, (((Below.refl _ _).alloc (Nat.le_refl _) _).alloc (by simp) _).alloc (by simp; omega) _⟩
  generalize hmk : (((w2.alloc (.cells #[.int .i64 0, .int .i64 0, .int .i64 0] 3)).alloc (.cells #[.int .i64 0, .int .i64 0, .int .i64 0] 3)).alloc (.cells #[.int .i64 0, .int .i64 0, .int .i64 0] 3)) = W3 at *
  have HS := Lib.hid hS
  have hz0 : SinceOk top (Bk.new 3 top (1 + tk)) (List.replicate 3 0) := SinceOk.start p00 rfl
  have Hz0 := Lib.hid hz0
  clear hS hz0 hmk
  go_loopw [14, 15, 16, 17, 18, 19, 20, 157, 166] (fun since res rounds i _ _ _ _ _ wr => ∃ (k g3 : Nat) (ss : List Int), k ≤ cs.length ∧ i = .int .i64 k ∧ since = .slice (some ⟨g3, 0, none⟩) 3 3 ∧ res = .int .i64 (bkFold (Bk.new 3 top (1 + tk)) (cs.take k)).1.res ∧ rounds = .int .i64 (bkFold (Bk.new 3 top (1 + tk)) (cs.take k)).1.round ∧
      SumAt w2 wr w2.heap.size (w2.heap.size + 1) g3 (bkFold (Bk.new 3 top (1 + tk)) (cs.take k)).1.wants (bkFold (Bk.new 3 top (1 + tk)) (cs.take k)).1.granted ss ∧ SinceOk top (bkFold (Bk.new 3 top (1 + tk)) (cs.take k)).1 ss) (fun _ _ _ i _ _ _ _ _ _ => cs.length - (intOf i).toNat)
  case atStart => exact ⟨0, w2.heap.size + 2, List.replicate 3 0, by omega, rfl, rfl, rfl, rfl, HS.out, Hz0.out⟩
  case round =>
    clear HS Hz0
    obtain ⟨k, g3, ss, hk, rfl, rfl, rfl, rfl, hS, hZ⟩ := hrel
    have HS := Lib.hid hS
    have HZ := Lib.hid hZ
    clear hS hZ
    by_cases hlt : k < cs.length
    · obtain ⟨hko, hall, hrd⟩ := Hbk.out k hk
      obtain ⟨hm, htk⟩ := Hke.out k hk
      have hfold : bkFold (Bk.new 3 top (1 + tk)) (cs.take (k + 1)) = bkStep (bkFold (Bk.new 3 top (1 + tk)) (cs.take k)) cs[k] := foldl_take _ _ _ _ hlt
      have hout := bkOuts_get (Bk.new 3 top (1 + tk)) cs k hlt
      have hcok := Hok.out _ (List.getElem_mem hlt)
      have hnk := (Hbk.out (k + 1) (by omega)).1
      have hbs : ∀ c : Cal, (bkStep (bkFold (Bk.new 3 top (1 + tk)) (cs.take k)) c).1 = (bkFold (Bk.new 3 top (1 + tk)) (cs.take k)).1.step c := fun _ => rfl
      have hfold1 := hbs cs[k]
      rw [← hfold] at hfold1
      rw [hfold1] at hnk
      have Hfold := Lib.hid hfold1
      clear hbs hfold hfold1
      obtain ⟨⟨_, _⟩, ad, cp, he, _, _, hcc⟩ := HC2.out
      simp only [Value.slice.injEq] at he
      obtain ⟨rfl, -, -⟩ := he
      obtain ⟨bc, oc, rfl, hc2⟩ := hcc (by rw [cals_length]; omega)
      have x0 := cell_on HS.out.hb (hc2 (k * 3 + 0) (.int .i64 cs[k].kind) (by unfold cals; rw [flat_get Cal.cells 3 Cal.cells_length cs k hlt 0 (by omega)]; rfl))
      have x1 := cell_on HS.out.hb (hc2 (k * 3 + 1) (.int .i64 cs[k].who) (by unfold cals; rw [flat_get Cal.cells 3 Cal.cells_length cs k hlt 1 (by omega)]; rfl))
      have x2 := cell_on HS.out.hb (hc2 (k * 3 + 2) (.int .i64 cs[k].count) (by unfold cals; rw [flat_get Cal.cells 3 Cal.cells_length cs k hlt 2 (by omega)]; rfl))
      rw [Nat.add_zero] at x0
      rw [← Nat.add_assoc] at x1 x2
      clear hcc hc2
      generalize hb : (bkFold (Bk.new 3 top (1 + tk)) (cs.take k)).1 = b at *
      generalize cs[k] = c at *
      obtain ⟨kd, wh, ct⟩ := c
      simp only at *
      have hres := hko.res
      have hround := hko.round
      rcases hcok with ⟨e, q1, q2⟩ | ⟨e, q1, q2, q3, q4⟩ | e
      · simp only at e q1 q2
        subst e
        have hst : b.step ⟨1, wh, ct⟩ = b.stock ct := rfl
        rw [hst] at Hfold
        go_wp2_with fail
        go_roundw
        case rel => exact ⟨k + 1, g3, ss, by omega, by go_num, rfl, by rw [Hfold.out]; unfold Bk.stock; go_num, by rw [Hfold.out]; rfl, by rw [Hfold.out]; exact HS.out, by rw [Hfold.out]; exact HZ.out⟩
        case measure => simp [intOf]; omega
      · simp only at e q1 q2 q3 q4
        subst e
        obtain ⟨who, rfl⟩ := Int.eq_ofNat_of_zero_le q1
        have hst : b.step ⟨2, (who : Int), ct⟩ = b.want who ct := rfl
        rw [hst] at Hfold
        have hwl := hko.lw
        obtain ⟨y1, f1⟩ := row_get HS.out.rw (k := who) (by omega)
        have hmx : max (b.wants.getD who 0) ct = if b.wants.getD who 0 < ct then ct else b.wants.getD who 0 := by split <;> omega
        have hset := fun x => HS.out.setW who x
        have hwant : b.want who ct = { b with wants := b.wants.set who (max (b.wants.getD who 0) ct) } := rfl
        rw [hmx] at hwant
        generalize b.wants.getD who 0 = wv at *
        have hwho : who < 3 := by omega
        have hwi : (who : Int) < 3 := by omega
        have Hset := Lib.hid hset
        have Hwant := Lib.hid hwant
        clear hset hwant hmx hst hwl hko hnk hall hrd hm htk hout hres hround
        by_cases hx : wv < ct
        case' pos => rw [if_pos hx] at Hwant
        case' neg => rw [if_neg hx] at Hwant
        all_goals
          go_wp2_with fail
          refine wp_still_tail 21 (by kernel_rfl) (by kernel_rfl) ?_
          simp only [List.take_succ_cons, List.take_zero, List.drop_succ_cons, List.drop_zero]
          repeat still_step
          refine wpStill_nil ?_
          go_wp2_with fail
          go_roundw
          trace_state
          case rel => exact ⟨k + 1, g3, ss, by omega, by go_num, rfl, by rw [Hfold.out, Hwant.out], by rw [Hfold.out, Hwant.out], by rw [Hfold.out, Hwant.out]; exact (Hset.out _).below (by repeat (first | exact Below.refl _ _ | refine Below.drew ?_ | refine Below.alloc ?_ (by first | (simp; done) | (simp; omega)) _ | refine Below.setCell ?_ (by first | (simp; done) | (simp; omega)) _)), by rw [Hfold.out, Hwant.out]; exact HZ.out⟩
          case measure => simp [intOf]; omega
      · simp only at e
        subst e
        have hst : b.step ⟨3, wh, ct⟩ = b.rounded := rfl
        have hob : b.out ⟨3, wh, ct⟩ = (b.rounded.granted, b.report) := rfl
        rw [hst] at Hfold
        rw [hob, ← HE.out, List.getElem?_map] at hout
        obtain ⟨bx, ox, r, agx, cgx, rfl, hrk, cx1, cx2, hgx⟩ := rul_at HX2.out HR2.out Hrl.out k hlt
        rw [hrk] at hout
        simp only [Option.map_some, Option.some.injEq, Rul.erase, Prod.mk.injEq] at hout
        obtain ⟨hrg, hrr⟩ := hout
        have hlg := hko.rounded.lg
        rw [hrg, hlg] at cx1 hgx
        rw [hrr] at cx2
        have hbxl := World.block_lt_of_cell? w2 _ cx1
        have hb3 : b.rounded = b.next.payTo 3 := by unfold Bk.rounded; rw [hko.lw]
        obtain ⟨_, ad, cp, he, _, _, hcg⟩ := hgx
        simp only [Value.slice.injEq] at he
        obtain ⟨rfl, -, -⟩ := he
        obtain ⟨b1, o1, rfl, hcg1⟩ := hcg (by simp [hlg])
        have hb1l : b1 < w2.heap.size := World.block_lt_of_cell? w2 _ (hcg1 0 _ (ints_get b.rounded.granted 0 (by omega)))
        have HG := Lib.hid fun (j : Nat) (hj : j < 3) => show w2.cell? ⟨b1, o1 + j, none⟩ = some (.int .i64 (b.rounded.granted.getD j 0)) by
          rw [hcg1 j _ (ints_get b.rounded.granted j (by omega))]; simp [List.getD_eq_getElem?_getD, show j < b.rounded.granted.length by omega]
        have HC1 := Lib.hid cx1
        have d1 := cell_on HS.out.hb cx1
        have d2 := cell_on HS.out.hb cx2
        have hne0 : ¬ (1 + tk) = 0 := by omega
        have htm : b.round.tmod (1 + tk) = b.round % (1 + tk) := Int.tmod_eq_emod_of_nonneg hround
        have hbg : b.begins = (b.round % (1 + tk) == 0) := by unfold Bk.begins; rw [htk]; rfl
        have Hko := Lib.hid hko
        have Hnx := Lib.hid hko.next
        have Hb3 := Lib.hid hb3
        have hlo := Lib.hid HS.out.lo
        have hrd' : b.round ≤ 1000 := by omega
        have Hres := Lib.hid hres
        have Hm := Lib.hid hm
        have hrep : b.report = if b.begins = true then b.res else -1 := rfl
        clear cx1 cx2 hcg hcg1 hrk hrg hrr hst hob hlg hb3 hko hnk hall hrd hm htk hres x1 x2
        cases hbb : b.begins
        case' true =>
          have hm0 : (b.round % (1 + tk) == 0) = true := by rw [← hbg]; exact hbb
          rw [hbb, if_pos rfl] at hrep
          rw [hrep] at d2
          have hZ2 : SinceOk top b.next (List.replicate 3 0) := SinceOk.epoch Hko.out Hm.out hbb
          have hfr : Hid (∀ X : World, Below wr.heap.size wr X → X.heap[wr.heap.size]? = some (.cells #[.int .i64 0, .int .i64 0, .int .i64 0] 3 (0, 0)) → SumAt w2 X w2.heap.size (w2.heap.size + 1) wr.heap.size b.wants b.granted (List.replicate 3 0)) := fun X h1 h2 => HS.out.fresh h1 h2
          clear hbg hrep hbb
          go_wp2_with fail
          have HS2 := Lib.hid (hfr.out (wr.alloc (.cells #[.int .i64 0, .int .i64 0, .int .i64 0] 3)) ((Below.refl _ _).alloc (Nat.le_refl _) _) (heap_alloc_new _ _))
          have HZ2 := Lib.hid hZ2
          clear hfr hZ2
          generalize List.replicate 3 (0 : Int) = zs at *
          generalize wr.alloc (.cells #[.int .i64 0, .int .i64 0, .int .i64 0] 3) = W5 at *
          generalize wr.heap.size = g5 at *
        case' false =>
          have hm0 : (b.round % (1 + tk) == 0) = false := by rw [← hbg]; exact hbb
          rw [hbb, if_neg (by simp)] at hrep
          rw [hrep] at d2
          have HZ2 := Lib.hid (HZ.out.same hbb)
          clear hbg hrep hbb
          go_wp2_with fail
          have HS2 := HS
          obtain ⟨g5, zs, rfl, rfl⟩ : ∃ x y, x = g3 ∧ y = ss := ⟨_, _, rfl, rfl⟩
        all_goals
          clear HS HZ d2 hm0 htm hne0
          obtain ⟨n1, n2, n3, n4, n5, n6⟩ := next_keeps b
          go_loopw [15, 19, 20] (fun res wi _ wr => ∃ (m : Nat) (sx : List Int), m ≤ 3 ∧ wi = .int .i64 m ∧ res = .int .i64 (b.next.payTo m).res ∧ SumAt w2 wr w2.heap.size (w2.heap.size + 1) g5 b.wants (b.next.payTo m).granted sx ∧ SinceOk top (b.next.payTo m) sx) (fun _ wi _ _ => 3 - (intOf wi).toNat)
          case atStart => exact ⟨0, zs, by omega, rfl, by rw [show (b.next.payTo 0).res = b.res from n6], by rw [show (b.next.payTo 0).granted = b.granted from n5]; exact HS2.out, HZ2.out⟩
          case round =>
            clear HS2 HZ2 d1
            obtain ⟨m, sx, hm3, rfl, rfl, hS, hZ⟩ := hrel
            have HS := Lib.hid hS
            have HZ := Lib.hid hZ
            clear hS hZ
            by_cases hml : m < 3
            · have hxo := Hnx.out.payTo m hm3
              have hP : Hid (b.next.payTo (m + 1) = (b.next.payTo m).pay m) := Bk.payTo_succ _ _
              have hturn := granted_turn 3 m hml Hnx.out 3 hml (Nat.le_refl _)
              rw [← Hb3.out] at hturn
              have hkw := (payTo_keeps b.next m).1
              rw [n1] at hkw
              have hpz := Lib.hid (HZ.out.pay hxo m hml)
              have hdb := due_bd hxo m
              have hwb := hxo.want m
              have hsb := HZ.out.2 m
              have hrb := hxo.res
              rw [hkw] at hdb hwb
              have Hpay : Hid ((b.next.payTo m).pay m = { (b.next.payTo m) with granted := (b.next.payTo m).granted.set m ((b.next.payTo m).granted.getD m 0 + (b.next.payTo m).due m), quota := (b.next.payTo m).quota.set m ((b.next.payTo m).quota.getD m 0 - (b.next.payTo m).due m), res := (b.next.payTo m).res - (b.next.payTo m).due m }) := rfl
              obtain ⟨z1, -⟩ := row_get HS.out.rw hml
              obtain ⟨z2, f2⟩ := row_get HS.out.rg hml
              obtain ⟨z3, f3⟩ := row_get HS.out.rs hml
              have d1 := cell_on HS.out.hb HC1.out
              have dg := cell_on HS.out.hb (HG.out m hml)
              rw [hturn] at dg
              have e12 := HS.out.d12
              have e13 := HS.out.d13
              have e23 := HS.out.d23
              have hlo := HS.out.lo
              have hset := fun x y => (HS.out.setS m x).setG m y
              have Hset := Lib.hid hset
              have v1 : bx ≠ g5 := by omega
              have v2 : b1 ≠ g5 := by omega
              have hmi : (m : Int) < 3 := by omega
              generalize b.next.payTo m = x at *
              generalize x.due m = d at *
              generalize x.granted.getD m 0 = gk at *
              generalize b.wants.getD m 0 = wk at *
              generalize sx.getD m 0 = sk at *
              generalize x.quota.getD m 0 = qk at *
              generalize hG : gk + d = G at *
              have HGe := Lib.hid hG
              have wG : IntKind.i64.wrap (G - gk) = d := by rw [IntWalk.i64_in _ (by omega)]; omega
              have t1 : decide (G < gk) = false := by simp; omega
              have t2 : decide (wk < G) = false := by simp; omega
              have t3 : decide (top < sk + d) = false := by simp; omega
              have t4 : decide (x.res - d < 0) = false := by simp; omega
              have hb1 : 0 ≤ d ∧ d ≤ 30 := by omega
              have hb2 : 0 ≤ sk ∧ sk ≤ 30 := by omega
              clear hturn hkw hdb hwb hsb hset hG hxo
              go_wp2_with fail
              go_quiet (fail)
              go_wp2_with fail
              go_quiet (fail)
              go_wp2_with fail
              go_roundw
              case rel => exact ⟨m + 1, sx.set m (sk + d), by omega, by go_num, by rw [hP.out, Hpay.out], by rw [hP.out, Hpay.out]; exact ((HS.out.drewN _).setS m _).setG m _, by rw [hP.out]; exact hpz.out⟩
              case measure => simp [intOf]; omega
            · obtain rfl : m = 3 := by omega
              obtain ⟨k1, k2, k3, k4⟩ := rounded_keeps b
              have hS3 := HS.out
              have hZ3 := HZ.out
              rw [← Hb3.out] at hS3 hZ3 ⊢
              have HS3 := Lib.hid hS3
              have HZ3 := Lib.hid hZ3
              clear hS3 hZ3 HS HZ n1 n2 n3 n4 n5 n6
              go_wp2_with fail
              go_roundw
              case rel => exact ⟨k + 1, g5, sx, by omega, by go_num, rfl, by rw [Hfold.out], by rw [Hfold.out, k4], by rw [Hfold.out, k1]; exact HS3.out, by rw [Hfold.out]; exact HZ3.out⟩
              case measure => simp [intOf]; omega
    · obtain rfl : k = cs.length := by omega
      go_wp2_with fail
      go_ret
      exact ⟨rfl, Hb2.out.trans (HS.out.hb.mono Hb2.out.size)⟩
end Go.Proofs.Ytgmichaconnhaaa.bookSums
