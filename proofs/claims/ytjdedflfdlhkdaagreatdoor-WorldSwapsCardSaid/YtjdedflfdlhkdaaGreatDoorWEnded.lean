/- World: the laws' ended. -/
import Derived.Deep.RegionHeld3
import Derived.Test.YtjdedflfdlhkdaaGreatDoorWEnd
namespace Go.Proofs.YtjdedflfdlhkdaaGreatDoor
open Go.ChangeShapes Go.WideShapes Go.ChangeAt Go.RowKit
set_option linter.unusedVariables false
set_option linter.unusedSimpArgs false

set_option maxRecDepth 100000 in
set_option maxHeartbeats 8000000 in
theorem cended {w : World} {c : Cfg} {vl vm : Value} (hc : c.Ok) (hn : c.n = 4) (hi : c.items = 2) (hlb : c.labs.length = 3) (h : Rdy w c vl vm) (v : Value) (S : List Stp) (hv : Has w 8 v S.length (stps S)) (hlen : S.length ≤ 300) :
    Calls Tryz.prog 13 #[.agg (c.cells vl vm), v] w fun e w' => ∃ r p t pv tv ev, e = .returned (.tuple #[r, p, t, .bool true]) ∧ EndH w' c (wFold c S).1 r p t pv tv ev ∧ Below w.heap.size w w' := by
  have hbx := cfg_box w c vl vm
  obtain ⟨x0, x1, x2, x3, x4⟩ := cfg_at (heap_alloc_new w (.cells (c.cells vl vm) 25))
  have HR := Lib.hid (h.on hbx)
  have HST := Lib.hid (hv.below hbx)
  have HBX := Lib.hid hbx
  have HN := Lib.hid hn
  have HI := Lib.hid hi
  have HL := Lib.hid hlb
  have hit0 : c.items = c.minted.length := rfl
  obtain ⟨_, la, cl, rfl, _⟩ := h.cf.hl
  obtain ⟨_, ma, cm, rfl, _⟩ := h.cf.hm
  obtain ⟨_, qa, qc, rfl, _⟩ := hv
  have CP : Hid (∀ (Y : World) (v : Value) (b0 : Nat), Rdy Y c (.slice la c.labs.length cl) (.slice ma c.minted.length cm) → Y.ownsRow b0 48 8 v S.length (stps S) → _) := fun Y v b0 hY hv => cEnd hc hY v S (Has.of_owns hv) (inF_owns hv) hlen
  unfold Cfg.cells at *
  clear h hbx hc hn hi hlb hit0
  go_enter Tryz.func13, Tryz.ntmps13
  go_upto_region 1 with (fail)
  generalize (w.alloc (.cells #[.int .i64 c.n, .slice la c.labs.length cl, .int .i64 c.ticks, .slice ma c.minted.length cm, .int .i64 c.cap] 25)) = W at *
  obtain ⟨B, hB⟩ : ∃ y, y = w.heap.size := ⟨_, rfl⟩
  rw [← hB] at x0 x1 x2 x3 x4 ⊢
  clear hB
  go_cut [8, 9, 10, 11] (fun rr pp tt e wx => ∃ pv tv ev, e = .int .i64 0 ∧ Hid (EndH wx c (wFold c S).1 rr pp tt pv tv ev) ∧ Hid (Below W.heap.size W wx))
  case first =>
    go_region_held3 (fun Z => Z.cell? ⟨B, 0, none⟩ = some (.int .i64 c.n) ∧ Z.cell? ⟨B, 1, none⟩ = some (.slice la c.labs.length cl) ∧ Z.cell? ⟨B, 2, none⟩ = some (.int .i64 c.ticks) ∧ Z.cell? ⟨B, 3, none⟩ = some (.slice ma c.minted.length cm) ∧ Z.cell? ⟨B, 4, none⟩ = some (.int .i64 c.cap))
      (first | with_reducible exact ⟨j0, j1, j2, j3, j4⟩ | with_reducible exact ⟨i0, i1, i2, i3, i4⟩ | go_keep)
      ((first | (refine step_appN (w0 := W) (wanted_of_none (by rfl)) 27 48 8 64 _ elStep Tryz.underlying27 W.heap.size (.slice none 0 0) 0 [] (World.ownsRow_nil _ _ _ _) (by repeat (first | exact Below.refl _ _ | refine Below.drew ?_ | refine Below.alloc ?_ (by first | (simp; done) | (simp; omega)) _ | refine Below.setCell ?_ (by first | (simp; done) | (simp; omega)) _)) _ S.length (stps S) (HST.out.below (by repeat (first | exact Below.refl _ _ | refine Below.drew ?_ | refine Below.alloc ?_ (by first | (simp; done) | (simp; omega)) _ | refine Below.setCell ?_ (by first | (simp; done) | (simp; omega)) _))) _ _ (by rfl) (by rfl) (by rfl) (stps_all _) (by omega) (by unfold maxLen; omega) (Nat.le_refl _) ?_; intro v6 w6 hown6 hgrow6 hb6; rw [Nat.zero_add, List.nil_append] at hown6; have HO6 := Lib.hid hown6; have HB6 := Lib.hid hb6; have i0 := cell_on hb6 x0; have i1 := cell_on hb6 x1; have i2 := cell_on hb6 x2; have i3 := cell_on hb6 x3; have i4 := cell_on hb6 x4; clear hown6 hgrow6 hb6) | (go_at_call 31; refine (CP.out _ _ _ (HR.out.on HB6.out) HO6.out).mono ?_; rintro e w7 ⟨rr, pp, tt, pv, tv, ev, rfl, hE, hb7⟩; have j0 := cell_on hb7 i0; have j1 := cell_on hb7 i1; have j2 := cell_on hb7 i2; have j3 := cell_on hb7 i3; have j4 := cell_on hb7 i4; have HE7 := Lib.hid hE; have HB7 := Lib.hid (HB6.out.trans (hb7.mono HB6.out.size)); clear hE hb7)))
    all_goals
      go_wp2_with fail
      go_meet
      exact ⟨pv, tv, ev, rfl, HE7, HB7⟩
  case rest =>
  obtain ⟨pv, tv, ev, rfl, HE, HB7⟩ := hcut
  have HBF := Lib.hid (HBX.out.trans (HB7.out.mono HBX.out.size))
  obtain ⟨_, ra, rc, he, hr1, hr2, _⟩ := HE.out.r
  subst he
  obtain ⟨_, pa, pc, he, hp1, hp2, hpc⟩ := HE.out.p
  subst he
  obtain ⟨_, ta, tc, he, ht1, ht2, htc⟩ := HE.out.t
  subst he
  obtain ⟨pb, po, rfl, hpd⟩ := hpc (by simp [HN.out])
  obtain ⟨tb, td, rfl, htd⟩ := htc (by simp [HN.out])
  have HP : Hid (∀ i, i < 4 → wc.cell? ⟨pb, po + i, none⟩ = some (pv i)) := fun i hi => hpd i _ (by simp [HN.out, hi])
  have HT : Hid (∀ i, i < 4 → wc.cell? ⟨tb, td + i, none⟩ = some (tv i)) := fun i hi => htd i _ (by simp [HN.out, hi])
  have HPV : Hid (∀ i, i < 4 → ∃ a cap, pv i = .slice a 2 cap) := fun i hi => by
    obtain ⟨_, a, cap, he, _⟩ := HE.out.pe i (by rw [HN.out]; exact hi)
    rw [HI.out] at he; exact ⟨a, cap, he⟩
  have HTV : Hid (∀ i, i < 4 → ∃ a cap, tv i = .slice a 3 cap) := fun i hi => by
    obtain ⟨_, a, cap, he, _⟩ := HE.out.te i (by rw [HN.out]; exact hi)
    rw [HL.out] at he; exact ⟨a, cap, he⟩
  have HE2 := HE
  have hE3 : Hid (c.items = 2 ∧ c.n = 4) := ⟨HI.out, HN.out⟩
  rw [HI.out] at hr1
  rw [HN.out] at hp1 ht1
  unfold maxLen at hr2 hp2 ht2
  clear hpc htc hpd htd x0 x1 x2 x3 x4 CP
  have hci : (c.items : Int) = 2 := by have := HI.out; omega
  have hcn : (c.n : Int) = 4 := by have := HN.out; omega
  have hq1 : ((c.items : Int) != 2) = false := by rw [hci]; rfl
  have hq2 : ((c.n : Int) != 4) = false := by rw [hcn]; rfl
  clear hci hcn
  go_wp2_with fail
  go_loopw [12] (fun i wr => ∃ k : Nat, k ≤ 4 ∧ i = .int .i64 k ∧ Hid (wc = wr)) (fun i _ => 4 - (intOf i).toNat)
  case atStart => exact ⟨0, by omega, rfl, rfl⟩
  case round =>
    obtain ⟨k, hk, rfl, HW⟩ := hrel
    by_cases hlt : k < 4
    · have hltz : (k : Int) < 4 := by omega
      have hltc : (k : Int) < (c.n : Int) := by have := HN.out; omega
      have y0 := HP.out k hlt
      have y1 := HT.out k hlt
      obtain ⟨ua, uc, hu⟩ := HPV.out k hlt
      obtain ⟨va, vc, hv⟩ := HTV.out k hlt
      rw [hu, HW.out] at y0
      rw [hv, HW.out] at y1
      have HLT := Lib.hid hlt
      clear hu hv hlt hk
      go_wp2_with fail
      go_roundw
      case rel => exact ⟨k + 1, HLT.out, by go_num, HW⟩
      case measure => have := HLT.out; first | (simp [intOf]; done) | (simp [intOf]; omega)
    · obtain rfl : k = 4 := by omega
      go_wp2_with fail
      refine bodyPost_ret (v := .tuple #[.slice ra c.items rc, .slice (some ⟨pb, po, none⟩) c.n pc, .slice (some ⟨tb, td, none⟩) c.n tc, .bool true]) (by simp [results, Tryz.results13, go_sem]) rfl ?_
      exact ⟨_, _, _, pv, tv, ev, rfl, by rw [← HW.out]; exact HE.out, by rw [← HW.out]; exact HBF.out⟩
end Go.Proofs.YtjdedflfdlhkdaaGreatDoor
