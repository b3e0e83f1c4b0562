/- TopBlind: the law's seen. -/
import Derived.Test.YtjdedflfdlhkdaaGreatDoorBlindR
namespace Go.Proofs.YtjdedflfdlhkdaaGreatDoor
open Go.ChangeShapes Go.WideShapes Go.ChangeAt Go.RowKit
set_option linter.unusedVariables false

set_option maxRecDepth 100000 in
set_option maxHeartbeats 8000000 in
theorem cseen {w : World} {c : Cfg} {vl vm : Value} (hc : c.Ok) (hn : c.n = 4) (h : Rdy w c vl vm) (v : Value) (S : List Stp) (hv : Has w 8 v S.length (stps S)) (hlen : S.length ≤ 300) (X : Nat) (hX : X < 16) :
    Calls Tryz.prog 26 #[.agg (c.cells vl vm), v, .int .i64 (X : Int)] w fun e w' => ∃ vo to' s1 f1 r1 s2 f2 r2, e = .returned (.tuple #[vo, to', .bool true]) ∧ TldsH w' vo (viewOf c.n X (wFold c S).2) s1 f1 r1 ∧ TldsH w' to' (wFold c S).2 s2 f2 r2 ∧ Below w.heap.size w w' := by
  have h0 := heap_alloc_new w (.cells (c.cells vl vm) 25)
  have hbx := cfg_box w c vl vm
  have HV := Lib.hid (hv.below hbx)
  have HR := Lib.hid (h.on hbx)
  have Hbx := Lib.hid hbx
  have H1 := Lib.hid (stps_all S)
  have HN := Lib.hid hn
  clear hn
  have CP : Hid (∀ (Y : World) (v : Value) (b0 : Nat), Rdy Y c vl vm → Y.ownsRow b0 48 8 v S.length (stps S) → _) := fun Y v b0 hY hv => cPlayR hc hY v S (Has.of_owns hv) (inF_owns hv) hlen
  obtain ⟨_, va, vc, rfl, hvc1, hvc2, _⟩ := hv
  unfold maxLen at hvc2
  unfold Cfg.cells at h0 HV HR Hbx CP
  unfold Cfg.cells
  obtain ⟨⟨x0, x1, x2, x3, x4⟩, -⟩ := five_at h0
  obtain ⟨B, hB⟩ : ∃ z, z = w.heap.size := ⟨_, rfl⟩
  have HBq := Lib.hid hB
  clear h hbx h0
  go_enter Tryz.func26, Tryz.ntmps26
  go_upto_region 1 with (fail)
  rw [← hB] at Hbx x0 x1 x2 x3 x4 ⊢
  clear hB
  generalize (w.alloc (.cells #[.int .i64 c.n, vl, .int .i64 c.ticks, vm, .int .i64 c.cap] 25)) = wB at *
  go_cut [9, 10] (fun o e wx => ∃ oa oc sv fv rv, o = .slice oa S.length oc ∧ e = .int .i64 0 ∧ Hid (TldsH wx (.slice oa S.length oc) (wFold c S).2 sv fv rv) ∧ Hid (Below wB.heap.size wB wx))
  case first =>
    go_region_held3 (fun Z => Z.cell? ⟨B, 0, none⟩ = some (.int .i64 c.n) ∧ Z.cell? ⟨B, 1, none⟩ = some vl ∧ Z.cell? ⟨B, 2, none⟩ = some (.int .i64 c.ticks) ∧ Z.cell? ⟨B, 3, none⟩ = some vm ∧ Z.cell? ⟨B, 4, none⟩ = some (.int .i64 c.cap))
      (first | with_reducible exact ⟨j0, j1, j2, j3, j4⟩ | with_reducible exact ⟨i0, i1, i2, i3, i4⟩ | go_keep)
      ((first | (refine step_appN (w0 := wB) (wanted_of_none (by rfl)) 27 48 8 64 _ elStep Tryz.underlying27 wB.heap.size (.slice none 0 0) 0 [] (World.ownsRow_nil _ _ _ _) (by repeat (first | exact Below.refl _ _ | refine Below.drew ?_ | refine Below.alloc ?_ (by first | (simp; done) | (simp; omega)) _ | refine Below.setCell ?_ (by first | (simp; done) | (simp; omega)) _)) _ S.length (stps S) (HV.out.below (by repeat (first | exact Below.refl _ _ | refine Below.drew ?_ | refine Below.alloc ?_ (by first | (simp; done) | (simp; omega)) _ | refine Below.setCell ?_ (by first | (simp; done) | (simp; omega)) _))) _ _ (by rfl) (by rfl) (by rfl) H1.out (by omega) (by unfold maxLen; omega) (Nat.le_refl _) ?_; intro v16 w16 hown16 hgrow16 hb16; rw [Nat.zero_add, List.nil_append] at hown16; have HO16 := Lib.hid hown16; have HB16 := Lib.hid hb16; have i0 := cell_on hb16 x0; have i1 := cell_on hb16 x1; have i2 := cell_on hb16 x2; have i3 := cell_on hb16 x3; have i4 := cell_on hb16 x4; clear hown16 hgrow16 hb16) | (go_at_call 20; refine (CP.out _ _ _ (HR.out.on HB16.out) HO16.out).mono ?_; rintro e w17 ⟨out, sv, fv, rv, rfl, hT, hb17⟩; have j0 := cell_on hb17 i0; have j1 := cell_on hb17 i1; have j2 := cell_on hb17 i2; have j3 := cell_on hb17 i3; have j4 := cell_on hb17 i4; have HT17 := Lib.hid hT; have HB17 := Lib.hid (HB16.out.trans (hb17.mono HB16.out.size)); clear hT hb17)))
    all_goals
      go_wp2_with fail
      go_meet
      obtain ⟨_, oa, oc, he, _⟩ := HT17.out.row
      rw [wFold_len] at he
      subst he
      exact ⟨oa, oc, sv, fv, rv, rfl, rfl, HT17, HB17⟩
  case rest =>
  obtain ⟨oa, oc, sv, fv, rv, rfl, rfl, HT7, HB7⟩ := hcut
  have HTL : Hid ((wFold c S).2.length = S.length) := wFold_len c S
  have HBD := Lib.hid (wFold_bd hc S (by omega))
  have y0 := cell_on HB7.out x0
  have y1 := cell_on HB7.out x1
  have y2 := cell_on HB7.out x2
  have y3 := cell_on HB7.out x3
  have y4 := cell_on HB7.out x4
  have CV := Lib.hid (cViewOf hc (HR.out.cf.on HB7.out) HT7.out (by rw [HTL.out]; exact hlen) HBD.out X (by rw [HN.out]; exact hX))
  have HVL : Hid ((viewOf c.n X (wFold c S).2).length = S.length) := by show _ = _; rw [view_len]; exact HTL.out
  unfold Cfg.cells at CV
  clear x0 x1 x2 x3 x4 CP
  go_wp2_with fail
  refine CV.out.mono ?_
  rintro e w9 ⟨o1, s1, f1, r1, rfl, hT1, hb9⟩
  obtain ⟨p1, k1, rfl⟩ : ∃ a cap, o1 = .slice a S.length cap := by obtain ⟨_, a, cap, he, _⟩ := hT1.row; rw [HVL.out] at he; exact ⟨a, cap, he⟩
  have HT1 := Lib.hid hT1
  have HT0 := Lib.hid (HT7.out.on hb9)
  have HF : Hid (Below w.heap.size w w9) := by
    have q := Hbx.out
    rw [HBq.out] at q
    exact q.trans ((HB7.out.trans (hb9.mono HB7.out.size)).mono (by have := q.size; omega))
  clear hT1 hb9 CV y0 y1 y2 y3 y4
  go_wp2_with fail
  refine bodyPost_ret (v := .tuple #[.slice p1 S.length k1, .slice oa S.length oc, .bool true]) (by simp [results, Tryz.results26, go_sem]) rfl ?_
  exact ⟨_, _, s1, f1, r1, sv, fv, rv, rfl, HT1.out, HT0.out, HF.out⟩
end Go.Proofs.YtjdedflfdlhkdaaGreatDoor
