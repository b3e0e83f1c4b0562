/- Texts that the claim imports, laid together: WPlayW Eight WSteps WShapeL WStepL WStepsW Pn LabsOf. No statement of their own. -/
import Derived.Deep.RegionHeld3
import Derived.Test.YtjdedflfdlhkdaaGreatDoorKaa
import Derived.Test.YtjdedflfdlhkdaaGreatDoorKad
import Derived.Test.YtjdedflfdlhkdaaGreatDoorKaf
import Derived.Test.YtjdedflfdlhkdaaGreatDoorKam
import Derived.Test.YtjdedflfdlhkdaaGreatDoorKan
import Derived.Test.YtjdedflfdlhkdaaGreatDoorKao
import Derived.Test.YtjdedflfdlhkdaaGreatDoorKaq
namespace Go.Proofs.YtjdedflfdlhkdaaGreatDoor
open Go.ChangeShapes Go.WideShapes Go.ChangeAt Go.RowKit
set_option linter.unusedVariables false
set_option linter.unusedSimpArgs false

/-- What was told, to be read. -/
structure TldsH (w : World) (out : Value) (l : List Tld) (sv fv rv : Nat → Value) : Prop where
  row : Has w 11 out l.length (tldsC l sv fv rv)
  s : ∀ i (hi : i < l.length), Has w 4 (sv i) l[i].sent.length (envC l[i].sent)
  f : ∀ i (hi : i < l.length), Has w 1 (fv i) l[i].frame.length (u8s l[i].frame)
  r : ∀ i (hi : i < l.length), Has w 1 (rv i) l[i].report.length (ints l[i].report)
theorem TldsH.on {w w' : World} {out : Value} {l : List Tld} {sv fv rv : Nat → Value} (h : TldsH w out l sv fv rv) (hb : Below w.heap.size w w') : TldsH w' out l sv fv rv :=
  ⟨h.row.below hb, fun i hi => (h.s i hi).below hb, fun i hi => (h.f i hi).below hb, fun i hi => (h.r i hi).below hb⟩
theorem OutAt.tlds {w : World} {own : Own} {B : Nat} {out : Value} {l : List Tld} {sv fv rv : Nat → Value} (h : OutAt w own B out l sv fv rv) : TldsH w out l sv fv rv :=
  ⟨Has.of_owns h.row, fun i hi => (h.each i hi).1.s, fun i hi => (h.each i hi).1.f, fun i hi => (h.each i hi).1.r⟩
set_option maxRecDepth 100000 in
set_option maxHeartbeats 4000000 in
theorem cPlay1 (HB : BegunOk) (HS : StepOk) {w : World} {c : Cfg} {vl vm : Value} (hc : c.Ok) (hcfg : CfgAt w c vl vm) (hl : InF (fun b => b < w.heap.size) vl) (hm : InF (fun b => b < w.heap.size) vm) (ho : OrdVar w) (h0 : 0 < w.heap.size)
    (v : Value) (l : List Stp) (hv : Has w 8 v l.length (stps l)) (hvi : InF (fun b => b < w.heap.size) v) (hlen : l.length ≤ 300) :
    Calls Tryz.prog 20 #[.agg (c.cells vl vm), v] w fun e w' => ∃ out sv fv rv, e = .returned (.tuple #[out, .int .i64 0]) ∧ TldsH w' out (wFold c l).2 sv fv rv ∧ Below w.heap.size w w' := by
  have hbx := cfg_box w c vl vm
  obtain ⟨x0, x1, x2, x3, x4⟩ := cfg_at (heap_alloc_new w (.cells (c.cells vl vm) 25))
  have CP := Lib.hid (cPlay0 HB HS hc (hcfg.on hbx) (hl.mono fun b hb => Nat.lt_of_lt_of_le hb hbx.size) (hm.mono fun b hb => Nat.lt_of_lt_of_le hb hbx.size) (ho.kept (hbx.block 0 h0)) (Nat.lt_of_lt_of_le h0 hbx.size) v l (hv.below hbx) (hvi.mono fun b hb => Nat.lt_of_lt_of_le hb hbx.size) hlen)
  have HBX := Lib.hid hbx
  obtain ⟨_, va, vc, rfl, hv1, hv2, _⟩ := hv
  obtain ⟨_, la, cl, rfl, _⟩ := hcfg.hl
  obtain ⟨_, ma, cm, rfl, _⟩ := hcfg.hm
  unfold Cfg.cells at *
  clear hc hcfg hl hm ho hvi hbx HS HB
  go_enter Tryz.func20, Tryz.ntmps20
  go_upto_region 1 with (fail)
  generalize (w.alloc (.cells #[.int .i64 c.n, .slice la c.labs.length cl, .int .i64 c.ticks, .slice ma c.minted.length cm, .int .i64 c.cap] 25)) = W1 at *
  go_wp2_with fail
  refine CP.out.mono ?_
  rintro e w2 ⟨out, X, own, sv, fv, rv, N, rfl, hW, hO, hn, hb⟩
  obtain ⟨oa, oc, rfl⟩ := owns_slice hO.row
  have hfin : TldsH w2 (.slice oa (wFold c l).2.length oc) (wFold c l).2 sv fv rv ∧ Below w.heap.size w w2 := ⟨hO.tlds, HBX.out.trans (hb.mono HBX.out.size)⟩
  have Hfin := Lib.hid hfin
  clear hW hO hn hb hfin CP x0 x1 x2 x3 x4
  go_wp2_with fail
  go_ret2
  exact ⟨_, sv, fv, rv, rfl, Hfin.out⟩
end Go.Proofs.YtjdedflfdlhkdaaGreatDoor

namespace Go.Proofs.YtjdedflfdlhkdaaGreatDoor
open Go.ChangeShapes Go.WideShapes Go.ChangeAt Go.RowKit
set_option linter.unusedVariables false
set_option linter.unusedSimpArgs false

theorem eight_put {w : World} {S : Nat} {a0 a1 a2 a3 a4 a5 a6 a7 : Value} {e : TypeId} (h : w.heap[S]? = some (.cells #[a0, a1, a2, a3, a4, a5, a6, a7] e (0, 0))) (x0 x1 x2 x3 x4 x5 x6 x7 : Value) :
    ((((((((w.setCell ⟨S, 0, none⟩ x0).setCell ⟨S, 1, none⟩ x1).setCell ⟨S, 2, none⟩ x2).setCell ⟨S, 3, none⟩ x3).setCell ⟨S, 4, none⟩ x4).setCell ⟨S, 5, none⟩ x5).setCell ⟨S, 6, none⟩ x6).setCell ⟨S, 7, none⟩ x7).heap[S]? = some (.cells #[x0, x1, x2, x3, x4, x5, x6, x7] e (0, 0)) := by
  have h1 : (w.setCell ⟨S, 0, none⟩ x0).heap[S]? = some (.cells #[x0, a1, a2, a3, a4, a5, a6, a7] e (0, 0)) := heap_setCell_same _ S 0 _ _ x0 h
  generalize (w.setCell ⟨S, 0, none⟩ x0) = W0 at *
  have h2 : (W0.setCell ⟨S, 1, none⟩ x1).heap[S]? = some (.cells #[x0, x1, a2, a3, a4, a5, a6, a7] e (0, 0)) := heap_setCell_same _ S 1 _ _ x1 h1
  generalize (W0.setCell ⟨S, 1, none⟩ x1) = W1 at *
  have h3 : (W1.setCell ⟨S, 2, none⟩ x2).heap[S]? = some (.cells #[x0, x1, x2, a3, a4, a5, a6, a7] e (0, 0)) := heap_setCell_same _ S 2 _ _ x2 h2
  generalize (W1.setCell ⟨S, 2, none⟩ x2) = W2 at *
  have h4 : (W2.setCell ⟨S, 3, none⟩ x3).heap[S]? = some (.cells #[x0, x1, x2, x3, a4, a5, a6, a7] e (0, 0)) := heap_setCell_same _ S 3 _ _ x3 h3
  generalize (W2.setCell ⟨S, 3, none⟩ x3) = W3 at *
  have h5 : (W3.setCell ⟨S, 4, none⟩ x4).heap[S]? = some (.cells #[x0, x1, x2, x3, x4, a5, a6, a7] e (0, 0)) := heap_setCell_same _ S 4 _ _ x4 h4
  generalize (W3.setCell ⟨S, 4, none⟩ x4) = W4 at *
  have h6 : (W4.setCell ⟨S, 5, none⟩ x5).heap[S]? = some (.cells #[x0, x1, x2, x3, x4, x5, a6, a7] e (0, 0)) := heap_setCell_same _ S 5 _ _ x5 h5
  generalize (W4.setCell ⟨S, 5, none⟩ x5) = W5 at *
  have h7 : (W5.setCell ⟨S, 6, none⟩ x6).heap[S]? = some (.cells #[x0, x1, x2, x3, x4, x5, x6, a7] e (0, 0)) := heap_setCell_same _ S 6 _ _ x6 h6
  generalize (W5.setCell ⟨S, 6, none⟩ x6) = W6 at *
  have h8 : (W6.setCell ⟨S, 7, none⟩ x7).heap[S]? = some (.cells #[x0, x1, x2, x3, x4, x5, x6, x7] e (0, 0)) := heap_setCell_same _ S 7 _ _ x7 h7
  generalize (W6.setCell ⟨S, 7, none⟩ x7) = W7 at *
  exact h8
theorem eight_one {w : World} {S : Nat} {a0 a1 a2 a3 a4 a5 a6 a7 : Value} {e : TypeId} (h : w.heap[S]? = some (.cells #[a0, a1, a2, a3, a4, a5, a6, a7] e (0, 0))) (x0 : Value) : (w.setCell ⟨S, 0, none⟩ x0).heap[S]? = some (.cells #[x0, a1, a2, a3, a4, a5, a6, a7] e (0, 0)) :=
  heap_setCell_same _ S 0 _ _ x0 h
end Go.Proofs.YtjdedflfdlhkdaaGreatDoor

namespace Go.Proofs.YtjdedflfdlhkdaaGreatDoor
open Go.ChangeShapes Go.WideShapes Go.ChangeAt Go.RowKit
set_option linter.unusedVariables false
set_option linter.unusedSimpArgs false

def stepKind (k : Int) : Int := if k < 2 then 1 else if k < 8 then (if k = 2 then 2 else k - 1) else if k < 10 then 7 else if k = 10 then 8 else if k < 13 then 9 else if k < 14 then 11 else 10
/-- What the laws make of a deed. -/
def stepOf (d : Stp) (ahead : Nat) : Stp :=
  if pick d.kind 24 < 11 then ⟨stepKind (pick d.kind 24), pick d.who 4, pick d.item 2, 1 + pick d.count 9, 1 + pick d.life 5, 1 + pick d.id 5, pick d.label 3, pick d.key 4⟩
  else if pick d.kind 24 < 13 then ⟨9, 0, 0, 0, 0, 0, 0, 0⟩
  else ⟨stepKind (pick d.kind 24), 0, 0, 0, 0, pick d.id ((ahead : Int) + 1), 0, 0⟩
theorem fin8 {w w3 : World} {B R : Nat} {a0 a1 a2 a3 a4 a5 a6 a7 : Value} {e : TypeId} (hR : w3.heap[R]? = some (.cells #[a0, a1, a2, a3, a4, a5, a6, a7] e (0, 0))) (hb : Below B w w3) (hBR : B ≤ R) (x0 x1 x2 x3 x4 x5 x6 x7 : Value) :
    ∀ X : World, X = ((((((((w3.setCell ⟨R, 0, none⟩ x0).setCell ⟨R, 1, none⟩ x1).setCell ⟨R, 2, none⟩ x2).setCell ⟨R, 3, none⟩ x3).setCell ⟨R, 4, none⟩ x4).setCell ⟨R, 5, none⟩ x5).setCell ⟨R, 6, none⟩ x6).setCell ⟨R, 7, none⟩ x7) →
      (X.cell? ⟨R, 0, none⟩ = some x0 ∧ X.cell? ⟨R, 1, none⟩ = some x1 ∧ X.cell? ⟨R, 2, none⟩ = some x2 ∧ X.cell? ⟨R, 3, none⟩ = some x3 ∧ X.cell? ⟨R, 4, none⟩ = some x4 ∧ X.cell? ⟨R, 5, none⟩ = some x5 ∧ X.cell? ⟨R, 6, none⟩ = some x6 ∧ X.cell? ⟨R, 7, none⟩ = some x7) ∧ Below B w X := fun X hX => by
  have h := eight_put hR x0 x1 x2 x3 x4 x5 x6 x7
  rw [← hX] at h
  refine ⟨eight_at h, ?_⟩
  rw [hX]
  exact (((((((hb.setCell hBR _).setCell hBR _).setCell hBR _).setCell hBR _).setCell hBR _).setCell hBR _).setCell hBR _).setCell hBR _
set_option maxRecDepth 100000 in
set_option maxHeartbeats 8000000 in
theorem cStepOf (d : Stp) (ahead : Nat) (ha : ahead ≤ 100000) (w : World) : Calls Tryz.prog 30 #[d.val, .int .i64 ahead] w fun e w' => e = .returned (stepOf d ahead).val ∧ Below w.heap.size w w' := by
  obtain ⟨kd, wh, im, ct, lf, id, lb, ky⟩ := d
  unfold Stp.val Stp.cells
  simp only
  have HM : Hid (stepOf ⟨kd, wh, im, ct, lf, id, lb, ky⟩ ahead = if pick kd 24 < 11 then ⟨stepKind (pick kd 24), pick wh 4, pick im 2, 1 + pick ct 9, 1 + pick lf 5, 1 + pick id 5, pick lb 3, pick ky 4⟩ else if pick kd 24 < 13 then ⟨9, 0, 0, 0, 0, 0, 0, 0⟩ else ⟨stepKind (pick kd 24), 0, 0, 0, 0, pick id ((ahead : Int) + 1), 0, 0⟩) := rfl
  have P1 := Lib.hid fun X => picked wh 4 (by omega) (by omega) X
  have P2 := Lib.hid fun X => picked im 2 (by omega) (by omega) X
  have P3 := Lib.hid fun X => picked ct 9 (by omega) (by omega) X
  have P4 := Lib.hid fun X => picked lf 5 (by omega) (by omega) X
  have P5 := Lib.hid fun X => picked id 5 (by omega) (by omega) X
  have P6 := Lib.hid fun X => picked lb 3 (by omega) (by omega) X
  have P7 := Lib.hid fun X => picked ky 4 (by omega) (by omega) X
  have P0 := Lib.hid fun X => picked kd 24 (by omega) (by omega) X
  have PA := Lib.hid fun X => picked id ((ahead : Int) + 1) (by omega) (by omega) X
  obtain ⟨b0, b1⟩ := pick_bd kd 24 (by omega)
  obtain ⟨p0, p1⟩ := pick_bd ct 9 (by omega)
  obtain ⟨q0, q1⟩ := pick_bd lf 5 (by omega)
  obtain ⟨r0, r1⟩ := pick_bd id 5 (by omega)
  have hwa : IntKind.i64.wrap ((ahead : Int) + 1) = (ahead : Int) + 1 := IntWalk.i64_in _ (by omega)
  generalize pick kd 24 = k at *
  generalize pick wh 4 = v1 at *
  generalize pick im 2 = v2 at *
  generalize pick ct 9 = v3 at *
  generalize pick lf 5 = v4 at *
  generalize pick id 5 = v5 at *
  generalize pick lb 3 = v6 at *
  generalize pick ky 4 = v7 at *
  generalize pick id ((ahead : Int) + 1) = va at *
  have e3 : IntKind.i64.wrap (1 + v3) = 1 + v3 := IntWalk.i64_in _ (by omega)
  have e4 : IntKind.i64.wrap (1 + v4) = 1 + v4 := IntWalk.i64_in _ (by omega)
  have e5 : IntKind.i64.wrap (1 + v5) = 1 + v5 := IntWalk.i64_in _ (by omega)
  clear p0 p1 q0 q1 r0 r1
  have hx : ((w.alloc (.cells #[.int .i64 kd, .int .i64 wh, .int .i64 im, .int .i64 ct, .int .i64 lf, .int .i64 id, .int .i64 lb, .int .i64 ky] 73)).alloc (.cells #[.int .i64 0, .int .i64 0, .int .i64 0, .int .i64 0, .int .i64 0, .int .i64 0, .int .i64 0, .int .i64 0] 48)).heap[w.heap.size]? = some (.cells #[.int .i64 kd, .int .i64 wh, .int .i64 im, .int .i64 ct, .int .i64 lf, .int .i64 id, .int .i64 lb, .int .i64 ky] 73) := by rw [Below.heap_alloc _ _ _ (by simp), heap_alloc_new]
  obtain ⟨x0, x1, x2, x3, x4, x5, x6, x7⟩ := eight_at hx
  have hb1 : Below w.heap.size w ((w.alloc (.cells #[.int .i64 kd, .int .i64 wh, .int .i64 im, .int .i64 ct, .int .i64 lf, .int .i64 id, .int .i64 lb, .int .i64 ky] 73)).alloc (.cells #[.int .i64 0, .int .i64 0, .int .i64 0, .int .i64 0, .int .i64 0, .int .i64 0, .int .i64 0, .int .i64 0] 48)) := ((Below.refl _ _).alloc (Nat.le_refl _) _).alloc (by simp) _
  have hr : ((w.alloc (.cells #[.int .i64 kd, .int .i64 wh, .int .i64 im, .int .i64 ct, .int .i64 lf, .int .i64 id, .int .i64 lb, .int .i64 ky] 73)).alloc (.cells #[.int .i64 0, .int .i64 0, .int .i64 0, .int .i64 0, .int .i64 0, .int .i64 0, .int .i64 0, .int .i64 0] 48)).heap[w.heap.size + 1]? = some (.cells #[.int .i64 0, .int .i64 0, .int .i64 0, .int .i64 0, .int .i64 0, .int .i64 0, .int .i64 0, .int .i64 0] 48) := by have := heap_alloc_new (w.alloc (.cells #[.int .i64 kd, .int .i64 wh, .int .i64 im, .int .i64 ct, .int .i64 lf, .int .i64 id, .int .i64 lb, .int .i64 ky] 73)) (.cells #[.int .i64 0, .int .i64 0, .int .i64 0, .int .i64 0, .int .i64 0, .int .i64 0, .int .i64 0, .int .i64 0] 48); simpa using this
  have Hb1 := Lib.hid hb1
  have Hr := Lib.hid hr
  clear hx hb1 hr
  go_enter Tryz.func30, Tryz.ntmps30
  go_upto_region 1 with (fail)
  generalize ((w.alloc (.cells #[.int .i64 kd, .int .i64 wh, .int .i64 im, .int .i64 ct, .int .i64 lf, .int .i64 id, .int .i64 lb, .int .i64 ky] 73)).alloc (.cells #[.int .i64 0, .int .i64 0, .int .i64 0, .int .i64 0, .int .i64 0, .int .i64 0, .int .i64 0, .int .i64 0] 48)) = W1 at *
  have l1 := World.block_lt_of_cell? W1 _ x0
  simp only at l1
  go_cut [5] (fun v wx => ∃ g, v = .pointer (some ⟨g, 0, none⟩) ∧ wx.heap[g]? = some (.cells #[.int .i64 1, .int .i64 v1, .int .i64 v2, .int .i64 (1 + v3), .int .i64 (1 + v4), .int .i64 (1 + v5), .int .i64 v6, .int .i64 v7] 48 (0, 0)) ∧ W1.heap.size ≤ g ∧ Hid (Below W1.heap.size W1 wx))
  case first =>
    go_region_held3 (fun Z => Z.cell? ⟨w.heap.size, 1, none⟩ = some (.int .i64 wh) ∧ Z.cell? ⟨w.heap.size, 2, none⟩ = some (.int .i64 im) ∧ Z.cell? ⟨w.heap.size, 3, none⟩ = some (.int .i64 ct) ∧ Z.cell? ⟨w.heap.size, 4, none⟩ = some (.int .i64 lf) ∧ Z.cell? ⟨w.heap.size, 5, none⟩ = some (.int .i64 id) ∧ Z.cell? ⟨w.heap.size, 6, none⟩ = some (.int .i64 lb) ∧ Z.cell? ⟨w.heap.size, 7, none⟩ = some (.int .i64 ky)) (go_keep) ((first | (go_at_call 18; with_reducible refine (P1.out _).mono ?_; rintro e w' ⟨rfl, rfl⟩) | (go_at_call 18; with_reducible refine (P2.out _).mono ?_; rintro e w' ⟨rfl, rfl⟩) | (go_at_call 18; with_reducible refine (P3.out _).mono ?_; rintro e w' ⟨rfl, rfl⟩) | (go_at_call 18; with_reducible refine (P4.out _).mono ?_; rintro e w' ⟨rfl, rfl⟩) | (go_at_call 18; with_reducible refine (P5.out _).mono ?_; rintro e w' ⟨rfl, rfl⟩) | (go_at_call 18; with_reducible refine (P6.out _).mono ?_; rintro e w' ⟨rfl, rfl⟩) | (go_at_call 18; with_reducible refine (P7.out _).mono ?_; rintro e w' ⟨rfl, rfl⟩)))
    all_goals
      go_wp2_with fail
      go_meet
      exact ⟨W1.heap.size, rfl, heap_alloc_new W1 (.cells #[.int .i64 1, .int .i64 v1, .int .i64 v2, .int .i64 (1 + v3), .int .i64 (1 + v4), .int .i64 (1 + v5), .int .i64 v6, .int .i64 v7] 48), Nat.le_refl _, ((Below.refl _ _).alloc (Nat.le_refl _) _).drew⟩
  case rest =>
  obtain ⟨g, rfl, hg, hgl, HB⟩ := hcut
  replace x0 := cell_on HB.out x0
  replace x5 := cell_on HB.out x5
  clear x1 x2 x3 x4 x6 x7
  have hr : wc.heap[w.heap.size + 1]? = some (.cells #[.int .i64 0, .int .i64 0, .int .i64 0, .int .i64 0, .int .i64 0, .int .i64 0, .int .i64 0, .int .i64 0] 48) := by rw [HB.out.block _ (Array.getElem?_eq_some_iff.1 Hr.out).1]; exact Hr.out
  have hsz1 : w.heap.size + 1 < W1.heap.size := (Array.getElem?_eq_some_iff.1 Hr.out).1
  have hgn : w.heap.size + 1 ≠ g := by omega
  have hgn' : g ≠ w.heap.size + 1 := by omega
  have hgb : w.heap.size ≠ g := by omega
  have Hg := Lib.hid hg
  have HBB : Hid (Below w.heap.size w wc) := Hb1.out.trans (HB.out.mono Hb1.out.size)
  have Hr2 := Lib.hid hr
  obtain ⟨y0, y1, y2, y3, y4, y5, y6, y7⟩ := eight_at hg
  have yf : ∀ j, wc.frozen? ⟨g, j, none⟩ = false := fun j => by simp [World.frozen?, Hg.out]
  have yf0 := yf 0
  have yf1 := yf 1
  have yf2 := yf 2
  have yf3 := yf 3
  have yf4 := yf 4
  have yf5 := yf 5
  have yf6 := yf 6
  have yf7 := yf 7
  have hgw : w.heap.size ≤ g := by omega
  clear hg hr Hr Hb1 yf HB l1 hsz1 hgl
  go_upto_region 4 with ((go_at_call 18; with_reducible refine (P0.out _).mono ?_; rintro e w' ⟨rfl, rfl⟩))
  rcases (show k < 2 ∨ k = 2 ∨ (3 ≤ k ∧ k < 8) ∨ (8 ≤ k ∧ k < 10) ∨ k = 10 ∨ (11 ≤ k ∧ k < 13) ∨ k = 13 ∨ 14 ≤ k by omega) with h | h | h | h | h | h | h | h
  · have h3 := Hg.out
    have hr3 := Hr2.out
    have hb3 := HBB.out
    go_upto_region 17 with (fail)
    obtain ⟨z0, z1, z2, z3, z4, z5, z6, z7⟩ := eight_at h3
    obtain ⟨f0, f1, f2, f3, f4, f5, f6, f7⟩ := eight_at hr3
    have ff : ∀ j, wc.frozen? ⟨w.heap.size + 1, j, none⟩ = false := fun j => by simp [World.frozen?, hr3]
    have ff0 := ff 0
    have ff1 := ff 1
    have ff2 := ff 2
    have ff3 := ff 3
    have ff4 := ff 4
    have ff5 := ff 5
    have ff6 := ff 6
    have ff7 := ff 7
    have Hfin := Lib.hid (fin8 hr3 hb3 (Nat.le_succ _) (.int .i64 1) (.int .i64 v1) (.int .i64 v2) (.int .i64 (1 + v3)) (.int .i64 (1 + v4)) (.int .i64 (1 + v5)) (.int .i64 v6) (.int .i64 v7))
    clear h3 hr3 hb3 ff
    go_wp2_with fail
    obtain ⟨⟨t0, t1, t2, t3, t4, t5, t6, t7⟩, hb⟩ := Hfin.out _ rfl
    clear Hfin f0 f1 f2 f3 f4 f5 f6 f7 ff0 ff1 ff2 ff3 ff4 ff5 ff6 ff7 z0 z1 z2 z3 z4 z5 z6 z7
    generalize ((((((((wc.setCell ⟨w.heap.size + 1, 0, none⟩ (.int .i64 1)).setCell ⟨w.heap.size + 1, 1, none⟩ (.int .i64 v1)).setCell ⟨w.heap.size + 1, 2, none⟩ (.int .i64 v2)).setCell ⟨w.heap.size + 1, 3, none⟩ (.int .i64 (1 + v3))).setCell ⟨w.heap.size + 1, 4, none⟩ (.int .i64 (1 + v4))).setCell ⟨w.heap.size + 1, 5, none⟩ (.int .i64 (1 + v5))).setCell ⟨w.heap.size + 1, 6, none⟩ (.int .i64 v6)).setCell ⟨w.heap.size + 1, 7, none⟩ (.int .i64 v7)) = X at *
    refine bodyPost_ret (v := .agg #[.int .i64 1, .int .i64 v1, .int .i64 v2, .int .i64 (1 + v3), .int .i64 (1 + v4), .int .i64 (1 + v5), .int .i64 v6, .int .i64 v7]) (by simp [results, Tryz.results30, go_sem, t0, t1, t2, t3, t4, t5, t6, t7]) rfl ⟨?_, hb⟩
    rw [HM.out, if_pos (by omega)]; unfold stepKind; rw [if_pos (by omega)]; try rfl
  · subst h
    have h3 : ((wc.setCell ⟨g, 0, none⟩ (.int .i64 1)).setCell ⟨g, 0, none⟩ (.int .i64 2)).heap[g]? = some (.cells #[.int .i64 2, .int .i64 v1, .int .i64 v2, .int .i64 (1 + v3), .int .i64 (1 + v4), .int .i64 (1 + v5), .int .i64 v6, .int .i64 v7] 48 (0, 0)) := eight_one (eight_one Hg.out _) _
    have hr3 : ((wc.setCell ⟨g, 0, none⟩ (.int .i64 1)).setCell ⟨g, 0, none⟩ (.int .i64 2)).heap[w.heap.size + 1]? = some (.cells #[.int .i64 0, .int .i64 0, .int .i64 0, .int .i64 0, .int .i64 0, .int .i64 0, .int .i64 0, .int .i64 0] 48) := by rw [Below.heap_setCell _ _ _ _ hgn, Below.heap_setCell _ _ _ _ hgn]; exact Hr2.out
    have hb3 : Below w.heap.size w ((wc.setCell ⟨g, 0, none⟩ (.int .i64 1)).setCell ⟨g, 0, none⟩ (.int .i64 2)) := ((HBB.out.setCell hgw _).setCell hgw _)
    go_upto_region 17 with (fail)
    generalize ((wc.setCell ⟨g, 0, none⟩ (.int .i64 1)).setCell ⟨g, 0, none⟩ (.int .i64 2)) = w3 at *
    obtain ⟨z0, z1, z2, z3, z4, z5, z6, z7⟩ := eight_at h3
    obtain ⟨f0, f1, f2, f3, f4, f5, f6, f7⟩ := eight_at hr3
    have ff : ∀ j, w3.frozen? ⟨w.heap.size + 1, j, none⟩ = false := fun j => by simp [World.frozen?, hr3]
    have ff0 := ff 0
    have ff1 := ff 1
    have ff2 := ff 2
    have ff3 := ff 3
    have ff4 := ff 4
    have ff5 := ff 5
    have ff6 := ff 6
    have ff7 := ff 7
    have Hfin := Lib.hid (fin8 hr3 hb3 (Nat.le_succ _) (.int .i64 2) (.int .i64 v1) (.int .i64 v2) (.int .i64 (1 + v3)) (.int .i64 (1 + v4)) (.int .i64 (1 + v5)) (.int .i64 v6) (.int .i64 v7))
    clear h3 hr3 hb3 ff
    go_wp2_with fail
    obtain ⟨⟨t0, t1, t2, t3, t4, t5, t6, t7⟩, hb⟩ := Hfin.out _ rfl
    clear Hfin f0 f1 f2 f3 f4 f5 f6 f7 ff0 ff1 ff2 ff3 ff4 ff5 ff6 ff7 z0 z1 z2 z3 z4 z5 z6 z7
    generalize ((((((((w3.setCell ⟨w.heap.size + 1, 0, none⟩ (.int .i64 2)).setCell ⟨w.heap.size + 1, 1, none⟩ (.int .i64 v1)).setCell ⟨w.heap.size + 1, 2, none⟩ (.int .i64 v2)).setCell ⟨w.heap.size + 1, 3, none⟩ (.int .i64 (1 + v3))).setCell ⟨w.heap.size + 1, 4, none⟩ (.int .i64 (1 + v4))).setCell ⟨w.heap.size + 1, 5, none⟩ (.int .i64 (1 + v5))).setCell ⟨w.heap.size + 1, 6, none⟩ (.int .i64 v6)).setCell ⟨w.heap.size + 1, 7, none⟩ (.int .i64 v7)) = X at *
    refine bodyPost_ret (v := .agg #[.int .i64 2, .int .i64 v1, .int .i64 v2, .int .i64 (1 + v3), .int .i64 (1 + v4), .int .i64 (1 + v5), .int .i64 v6, .int .i64 v7]) (by simp [results, Tryz.results30, go_sem, t0, t1, t2, t3, t4, t5, t6, t7]) rfl ⟨?_, hb⟩
    rw [HM.out, if_pos (by decide)]; try rfl
  · obtain ⟨h1, h2⟩ := h
    have g1 : ¬ k < 2 := by omega
    have g2 : (k == 2) = false := by simp; omega
    have w1 : IntKind.i64.wrap (2 + k) = 2 + k := IntWalk.i64_in _ (by omega)
    have w2 : IntKind.i64.wrap (2 + k - 3) = 2 + k - 3 := IntWalk.i64_in _ (by omega)
    have h3 : (wc.setCell ⟨g, 0, none⟩ (.int .i64 (2 + k - 3))).heap[g]? = some (.cells #[.int .i64 (2 + k - 3), .int .i64 v1, .int .i64 v2, .int .i64 (1 + v3), .int .i64 (1 + v4), .int .i64 (1 + v5), .int .i64 v6, .int .i64 v7] 48 (0, 0)) := eight_one Hg.out _
    have hr3 : (wc.setCell ⟨g, 0, none⟩ (.int .i64 (2 + k - 3))).heap[w.heap.size + 1]? = some (.cells #[.int .i64 0, .int .i64 0, .int .i64 0, .int .i64 0, .int .i64 0, .int .i64 0, .int .i64 0, .int .i64 0] 48) := by rw [Below.heap_setCell _ _ _ _ hgn]; exact Hr2.out
    have hb3 : Below w.heap.size w (wc.setCell ⟨g, 0, none⟩ (.int .i64 (2 + k - 3))) := (HBB.out.setCell hgw _)
    go_upto_region 17 with (fail)
    generalize (wc.setCell ⟨g, 0, none⟩ (.int .i64 (2 + k - 3))) = w3 at *
    obtain ⟨z0, z1, z2, z3, z4, z5, z6, z7⟩ := eight_at h3
    obtain ⟨f0, f1, f2, f3, f4, f5, f6, f7⟩ := eight_at hr3
    have ff : ∀ j, w3.frozen? ⟨w.heap.size + 1, j, none⟩ = false := fun j => by simp [World.frozen?, hr3]
    have ff0 := ff 0
    have ff1 := ff 1
    have ff2 := ff 2
    have ff3 := ff 3
    have ff4 := ff 4
    have ff5 := ff 5
    have ff6 := ff 6
    have ff7 := ff 7
    have Hfin := Lib.hid (fin8 hr3 hb3 (Nat.le_succ _) (.int .i64 (2 + k - 3)) (.int .i64 v1) (.int .i64 v2) (.int .i64 (1 + v3)) (.int .i64 (1 + v4)) (.int .i64 (1 + v5)) (.int .i64 v6) (.int .i64 v7))
    clear h3 hr3 hb3 ff
    go_wp2_with fail
    obtain ⟨⟨t0, t1, t2, t3, t4, t5, t6, t7⟩, hb⟩ := Hfin.out _ rfl
    clear Hfin f0 f1 f2 f3 f4 f5 f6 f7 ff0 ff1 ff2 ff3 ff4 ff5 ff6 ff7 z0 z1 z2 z3 z4 z5 z6 z7
    generalize ((((((((w3.setCell ⟨w.heap.size + 1, 0, none⟩ (.int .i64 (2 + k - 3))).setCell ⟨w.heap.size + 1, 1, none⟩ (.int .i64 v1)).setCell ⟨w.heap.size + 1, 2, none⟩ (.int .i64 v2)).setCell ⟨w.heap.size + 1, 3, none⟩ (.int .i64 (1 + v3))).setCell ⟨w.heap.size + 1, 4, none⟩ (.int .i64 (1 + v4))).setCell ⟨w.heap.size + 1, 5, none⟩ (.int .i64 (1 + v5))).setCell ⟨w.heap.size + 1, 6, none⟩ (.int .i64 v6)).setCell ⟨w.heap.size + 1, 7, none⟩ (.int .i64 v7)) = X at *
    refine bodyPost_ret (v := .agg #[.int .i64 (2 + k - 3), .int .i64 v1, .int .i64 v2, .int .i64 (1 + v3), .int .i64 (1 + v4), .int .i64 (1 + v5), .int .i64 v6, .int .i64 v7]) (by simp [results, Tryz.results30, go_sem, t0, t1, t2, t3, t4, t5, t6, t7]) rfl ⟨?_, hb⟩
    rw [HM.out, if_pos (by omega)]; unfold stepKind; rw [if_neg (by omega), if_pos (by omega), if_neg (by omega), show k - 1 = 2 + k - 3 by omega]; try rfl
  · obtain ⟨h1, h2⟩ := h
    have g1 : ¬ k < 2 := by omega
    have g2 : ¬ k < 8 := by omega
    have h3 : (wc.setCell ⟨g, 0, none⟩ (.int .i64 7)).heap[g]? = some (.cells #[.int .i64 7, .int .i64 v1, .int .i64 v2, .int .i64 (1 + v3), .int .i64 (1 + v4), .int .i64 (1 + v5), .int .i64 v6, .int .i64 v7] 48 (0, 0)) := eight_one Hg.out _
    have hr3 : (wc.setCell ⟨g, 0, none⟩ (.int .i64 7)).heap[w.heap.size + 1]? = some (.cells #[.int .i64 0, .int .i64 0, .int .i64 0, .int .i64 0, .int .i64 0, .int .i64 0, .int .i64 0, .int .i64 0] 48) := by rw [Below.heap_setCell _ _ _ _ hgn]; exact Hr2.out
    have hb3 : Below w.heap.size w (wc.setCell ⟨g, 0, none⟩ (.int .i64 7)) := (HBB.out.setCell hgw _)
    go_upto_region 17 with (fail)
    generalize (wc.setCell ⟨g, 0, none⟩ (.int .i64 7)) = w3 at *
    obtain ⟨z0, z1, z2, z3, z4, z5, z6, z7⟩ := eight_at h3
    obtain ⟨f0, f1, f2, f3, f4, f5, f6, f7⟩ := eight_at hr3
    have ff : ∀ j, w3.frozen? ⟨w.heap.size + 1, j, none⟩ = false := fun j => by simp [World.frozen?, hr3]
    have ff0 := ff 0
    have ff1 := ff 1
    have ff2 := ff 2
    have ff3 := ff 3
    have ff4 := ff 4
    have ff5 := ff 5
    have ff6 := ff 6
    have ff7 := ff 7
    have Hfin := Lib.hid (fin8 hr3 hb3 (Nat.le_succ _) (.int .i64 7) (.int .i64 v1) (.int .i64 v2) (.int .i64 (1 + v3)) (.int .i64 (1 + v4)) (.int .i64 (1 + v5)) (.int .i64 v6) (.int .i64 v7))
    clear h3 hr3 hb3 ff
    go_wp2_with fail
    obtain ⟨⟨t0, t1, t2, t3, t4, t5, t6, t7⟩, hb⟩ := Hfin.out _ rfl
    clear Hfin f0 f1 f2 f3 f4 f5 f6 f7 ff0 ff1 ff2 ff3 ff4 ff5 ff6 ff7 z0 z1 z2 z3 z4 z5 z6 z7
    generalize ((((((((w3.setCell ⟨w.heap.size + 1, 0, none⟩ (.int .i64 7)).setCell ⟨w.heap.size + 1, 1, none⟩ (.int .i64 v1)).setCell ⟨w.heap.size + 1, 2, none⟩ (.int .i64 v2)).setCell ⟨w.heap.size + 1, 3, none⟩ (.int .i64 (1 + v3))).setCell ⟨w.heap.size + 1, 4, none⟩ (.int .i64 (1 + v4))).setCell ⟨w.heap.size + 1, 5, none⟩ (.int .i64 (1 + v5))).setCell ⟨w.heap.size + 1, 6, none⟩ (.int .i64 v6)).setCell ⟨w.heap.size + 1, 7, none⟩ (.int .i64 v7)) = X at *
    refine bodyPost_ret (v := .agg #[.int .i64 7, .int .i64 v1, .int .i64 v2, .int .i64 (1 + v3), .int .i64 (1 + v4), .int .i64 (1 + v5), .int .i64 v6, .int .i64 v7]) (by simp [results, Tryz.results30, go_sem, t0, t1, t2, t3, t4, t5, t6, t7]) rfl ⟨?_, hb⟩
    rw [HM.out, if_pos (by omega)]; unfold stepKind; rw [if_neg (by omega), if_neg (by omega), if_pos (by omega)]; try rfl
  · subst h
    have h3 : (wc.setCell ⟨g, 0, none⟩ (.int .i64 8)).heap[g]? = some (.cells #[.int .i64 8, .int .i64 v1, .int .i64 v2, .int .i64 (1 + v3), .int .i64 (1 + v4), .int .i64 (1 + v5), .int .i64 v6, .int .i64 v7] 48 (0, 0)) := eight_one Hg.out _
    have hr3 : (wc.setCell ⟨g, 0, none⟩ (.int .i64 8)).heap[w.heap.size + 1]? = some (.cells #[.int .i64 0, .int .i64 0, .int .i64 0, .int .i64 0, .int .i64 0, .int .i64 0, .int .i64 0, .int .i64 0] 48) := by rw [Below.heap_setCell _ _ _ _ hgn]; exact Hr2.out
    have hb3 : Below w.heap.size w (wc.setCell ⟨g, 0, none⟩ (.int .i64 8)) := (HBB.out.setCell hgw _)
    go_upto_region 17 with (fail)
    generalize (wc.setCell ⟨g, 0, none⟩ (.int .i64 8)) = w3 at *
    obtain ⟨z0, z1, z2, z3, z4, z5, z6, z7⟩ := eight_at h3
    obtain ⟨f0, f1, f2, f3, f4, f5, f6, f7⟩ := eight_at hr3
    have ff : ∀ j, w3.frozen? ⟨w.heap.size + 1, j, none⟩ = false := fun j => by simp [World.frozen?, hr3]
    have ff0 := ff 0
    have ff1 := ff 1
    have ff2 := ff 2
    have ff3 := ff 3
    have ff4 := ff 4
    have ff5 := ff 5
    have ff6 := ff 6
    have ff7 := ff 7
    have Hfin := Lib.hid (fin8 hr3 hb3 (Nat.le_succ _) (.int .i64 8) (.int .i64 v1) (.int .i64 v2) (.int .i64 (1 + v3)) (.int .i64 (1 + v4)) (.int .i64 (1 + v5)) (.int .i64 v6) (.int .i64 v7))
    clear h3 hr3 hb3 ff
    go_wp2_with fail
    obtain ⟨⟨t0, t1, t2, t3, t4, t5, t6, t7⟩, hb⟩ := Hfin.out _ rfl
    clear Hfin f0 f1 f2 f3 f4 f5 f6 f7 ff0 ff1 ff2 ff3 ff4 ff5 ff6 ff7 z0 z1 z2 z3 z4 z5 z6 z7
    generalize ((((((((w3.setCell ⟨w.heap.size + 1, 0, none⟩ (.int .i64 8)).setCell ⟨w.heap.size + 1, 1, none⟩ (.int .i64 v1)).setCell ⟨w.heap.size + 1, 2, none⟩ (.int .i64 v2)).setCell ⟨w.heap.size + 1, 3, none⟩ (.int .i64 (1 + v3))).setCell ⟨w.heap.size + 1, 4, none⟩ (.int .i64 (1 + v4))).setCell ⟨w.heap.size + 1, 5, none⟩ (.int .i64 (1 + v5))).setCell ⟨w.heap.size + 1, 6, none⟩ (.int .i64 v6)).setCell ⟨w.heap.size + 1, 7, none⟩ (.int .i64 v7)) = X at *
    refine bodyPost_ret (v := .agg #[.int .i64 8, .int .i64 v1, .int .i64 v2, .int .i64 (1 + v3), .int .i64 (1 + v4), .int .i64 (1 + v5), .int .i64 v6, .int .i64 v7]) (by simp [results, Tryz.results30, go_sem, t0, t1, t2, t3, t4, t5, t6, t7]) rfl ⟨?_, hb⟩
    rw [HM.out, if_pos (by decide)]; try rfl
  · obtain ⟨h1, h2⟩ := h
    have g1 : ¬ k < 2 := by omega
    have g2 : ¬ k < 8 := by omega
    have g3 : ¬ k < 10 := by omega
    have g4 : (k == 10) = false := by simp; omega
    have h3 : ((((((((wc.setCell ⟨g, 0, none⟩ (.int .i64 9)).setCell ⟨g, 1, none⟩ (.int .i64 0)).setCell ⟨g, 2, none⟩ (.int .i64 0)).setCell ⟨g, 3, none⟩ (.int .i64 0)).setCell ⟨g, 4, none⟩ (.int .i64 0)).setCell ⟨g, 5, none⟩ (.int .i64 0)).setCell ⟨g, 6, none⟩ (.int .i64 0)).setCell ⟨g, 7, none⟩ (.int .i64 0)).heap[g]? = some (.cells #[.int .i64 9, .int .i64 0, .int .i64 0, .int .i64 0, .int .i64 0, .int .i64 0, .int .i64 0, .int .i64 0] 48 (0, 0)) := eight_put Hg.out _ _ _ _ _ _ _ _
    have hr3 : ((((((((wc.setCell ⟨g, 0, none⟩ (.int .i64 9)).setCell ⟨g, 1, none⟩ (.int .i64 0)).setCell ⟨g, 2, none⟩ (.int .i64 0)).setCell ⟨g, 3, none⟩ (.int .i64 0)).setCell ⟨g, 4, none⟩ (.int .i64 0)).setCell ⟨g, 5, none⟩ (.int .i64 0)).setCell ⟨g, 6, none⟩ (.int .i64 0)).setCell ⟨g, 7, none⟩ (.int .i64 0)).heap[w.heap.size + 1]? = some (.cells #[.int .i64 0, .int .i64 0, .int .i64 0, .int .i64 0, .int .i64 0, .int .i64 0, .int .i64 0, .int .i64 0] 48) := by rw [Below.heap_setCell _ _ _ _ hgn, Below.heap_setCell _ _ _ _ hgn, Below.heap_setCell _ _ _ _ hgn, Below.heap_setCell _ _ _ _ hgn, Below.heap_setCell _ _ _ _ hgn, Below.heap_setCell _ _ _ _ hgn, Below.heap_setCell _ _ _ _ hgn, Below.heap_setCell _ _ _ _ hgn]; exact Hr2.out
    have hb3 : Below w.heap.size w ((((((((wc.setCell ⟨g, 0, none⟩ (.int .i64 9)).setCell ⟨g, 1, none⟩ (.int .i64 0)).setCell ⟨g, 2, none⟩ (.int .i64 0)).setCell ⟨g, 3, none⟩ (.int .i64 0)).setCell ⟨g, 4, none⟩ (.int .i64 0)).setCell ⟨g, 5, none⟩ (.int .i64 0)).setCell ⟨g, 6, none⟩ (.int .i64 0)).setCell ⟨g, 7, none⟩ (.int .i64 0)) := ((((((((HBB.out.setCell hgw _).setCell hgw _).setCell hgw _).setCell hgw _).setCell hgw _).setCell hgw _).setCell hgw _).setCell hgw _)
    go_upto_region 17 with (fail)
    generalize ((((((((wc.setCell ⟨g, 0, none⟩ (.int .i64 9)).setCell ⟨g, 1, none⟩ (.int .i64 0)).setCell ⟨g, 2, none⟩ (.int .i64 0)).setCell ⟨g, 3, none⟩ (.int .i64 0)).setCell ⟨g, 4, none⟩ (.int .i64 0)).setCell ⟨g, 5, none⟩ (.int .i64 0)).setCell ⟨g, 6, none⟩ (.int .i64 0)).setCell ⟨g, 7, none⟩ (.int .i64 0)) = w3 at *
    obtain ⟨z0, z1, z2, z3, z4, z5, z6, z7⟩ := eight_at h3
    obtain ⟨f0, f1, f2, f3, f4, f5, f6, f7⟩ := eight_at hr3
    have ff : ∀ j, w3.frozen? ⟨w.heap.size + 1, j, none⟩ = false := fun j => by simp [World.frozen?, hr3]
    have ff0 := ff 0
    have ff1 := ff 1
    have ff2 := ff 2
    have ff3 := ff 3
    have ff4 := ff 4
    have ff5 := ff 5
    have ff6 := ff 6
    have ff7 := ff 7
    have Hfin := Lib.hid (fin8 hr3 hb3 (Nat.le_succ _) (.int .i64 9) (.int .i64 0) (.int .i64 0) (.int .i64 0) (.int .i64 0) (.int .i64 0) (.int .i64 0) (.int .i64 0))
    clear h3 hr3 hb3 ff
    go_wp2_with fail
    obtain ⟨⟨t0, t1, t2, t3, t4, t5, t6, t7⟩, hb⟩ := Hfin.out _ rfl
    clear Hfin f0 f1 f2 f3 f4 f5 f6 f7 ff0 ff1 ff2 ff3 ff4 ff5 ff6 ff7 z0 z1 z2 z3 z4 z5 z6 z7
    generalize ((((((((w3.setCell ⟨w.heap.size + 1, 0, none⟩ (.int .i64 9)).setCell ⟨w.heap.size + 1, 1, none⟩ (.int .i64 0)).setCell ⟨w.heap.size + 1, 2, none⟩ (.int .i64 0)).setCell ⟨w.heap.size + 1, 3, none⟩ (.int .i64 0)).setCell ⟨w.heap.size + 1, 4, none⟩ (.int .i64 0)).setCell ⟨w.heap.size + 1, 5, none⟩ (.int .i64 0)).setCell ⟨w.heap.size + 1, 6, none⟩ (.int .i64 0)).setCell ⟨w.heap.size + 1, 7, none⟩ (.int .i64 0)) = X at *
    refine bodyPost_ret (v := .agg #[.int .i64 9, .int .i64 0, .int .i64 0, .int .i64 0, .int .i64 0, .int .i64 0, .int .i64 0, .int .i64 0]) (by simp [results, Tryz.results30, go_sem, t0, t1, t2, t3, t4, t5, t6, t7]) rfl ⟨?_, hb⟩
    rw [HM.out, if_neg (by omega), if_pos (by omega)]; try rfl
  · subst h
    have h3 : ((((((((wc.setCell ⟨g, 0, none⟩ (.int .i64 11)).setCell ⟨g, 1, none⟩ (.int .i64 0)).setCell ⟨g, 2, none⟩ (.int .i64 0)).setCell ⟨g, 3, none⟩ (.int .i64 0)).setCell ⟨g, 4, none⟩ (.int .i64 0)).setCell ⟨g, 5, none⟩ (.int .i64 va)).setCell ⟨g, 6, none⟩ (.int .i64 0)).setCell ⟨g, 7, none⟩ (.int .i64 0)).heap[g]? = some (.cells #[.int .i64 11, .int .i64 0, .int .i64 0, .int .i64 0, .int .i64 0, .int .i64 va, .int .i64 0, .int .i64 0] 48 (0, 0)) := eight_put Hg.out _ _ _ _ _ _ _ _
    have hr3 : ((((((((wc.setCell ⟨g, 0, none⟩ (.int .i64 11)).setCell ⟨g, 1, none⟩ (.int .i64 0)).setCell ⟨g, 2, none⟩ (.int .i64 0)).setCell ⟨g, 3, none⟩ (.int .i64 0)).setCell ⟨g, 4, none⟩ (.int .i64 0)).setCell ⟨g, 5, none⟩ (.int .i64 va)).setCell ⟨g, 6, none⟩ (.int .i64 0)).setCell ⟨g, 7, none⟩ (.int .i64 0)).heap[w.heap.size + 1]? = some (.cells #[.int .i64 0, .int .i64 0, .int .i64 0, .int .i64 0, .int .i64 0, .int .i64 0, .int .i64 0, .int .i64 0] 48) := by rw [Below.heap_setCell _ _ _ _ hgn, Below.heap_setCell _ _ _ _ hgn, Below.heap_setCell _ _ _ _ hgn, Below.heap_setCell _ _ _ _ hgn, Below.heap_setCell _ _ _ _ hgn, Below.heap_setCell _ _ _ _ hgn, Below.heap_setCell _ _ _ _ hgn, Below.heap_setCell _ _ _ _ hgn]; exact Hr2.out
    have hb3 : Below w.heap.size w ((((((((wc.setCell ⟨g, 0, none⟩ (.int .i64 11)).setCell ⟨g, 1, none⟩ (.int .i64 0)).setCell ⟨g, 2, none⟩ (.int .i64 0)).setCell ⟨g, 3, none⟩ (.int .i64 0)).setCell ⟨g, 4, none⟩ (.int .i64 0)).setCell ⟨g, 5, none⟩ (.int .i64 va)).setCell ⟨g, 6, none⟩ (.int .i64 0)).setCell ⟨g, 7, none⟩ (.int .i64 0)) := ((((((((HBB.out.setCell hgw _).setCell hgw _).setCell hgw _).setCell hgw _).setCell hgw _).setCell hgw _).setCell hgw _).setCell hgw _)
    go_upto_region 17 with ((go_at_call 18; with_reducible refine (PA.out _).mono ?_; rintro e w' ⟨rfl, rfl⟩))
    generalize ((((((((wc.setCell ⟨g, 0, none⟩ (.int .i64 11)).setCell ⟨g, 1, none⟩ (.int .i64 0)).setCell ⟨g, 2, none⟩ (.int .i64 0)).setCell ⟨g, 3, none⟩ (.int .i64 0)).setCell ⟨g, 4, none⟩ (.int .i64 0)).setCell ⟨g, 5, none⟩ (.int .i64 va)).setCell ⟨g, 6, none⟩ (.int .i64 0)).setCell ⟨g, 7, none⟩ (.int .i64 0)) = w3 at *
    obtain ⟨z0, z1, z2, z3, z4, z5, z6, z7⟩ := eight_at h3
    obtain ⟨f0, f1, f2, f3, f4, f5, f6, f7⟩ := eight_at hr3
    have ff : ∀ j, w3.frozen? ⟨w.heap.size + 1, j, none⟩ = false := fun j => by simp [World.frozen?, hr3]
    have ff0 := ff 0
    have ff1 := ff 1
    have ff2 := ff 2
    have ff3 := ff 3
    have ff4 := ff 4
    have ff5 := ff 5
    have ff6 := ff 6
    have ff7 := ff 7
    have Hfin := Lib.hid (fin8 hr3 hb3 (Nat.le_succ _) (.int .i64 11) (.int .i64 0) (.int .i64 0) (.int .i64 0) (.int .i64 0) (.int .i64 va) (.int .i64 0) (.int .i64 0))
    clear h3 hr3 hb3 ff
    go_wp2_with fail
    obtain ⟨⟨t0, t1, t2, t3, t4, t5, t6, t7⟩, hb⟩ := Hfin.out _ rfl
    clear Hfin f0 f1 f2 f3 f4 f5 f6 f7 ff0 ff1 ff2 ff3 ff4 ff5 ff6 ff7 z0 z1 z2 z3 z4 z5 z6 z7
    generalize ((((((((w3.setCell ⟨w.heap.size + 1, 0, none⟩ (.int .i64 11)).setCell ⟨w.heap.size + 1, 1, none⟩ (.int .i64 0)).setCell ⟨w.heap.size + 1, 2, none⟩ (.int .i64 0)).setCell ⟨w.heap.size + 1, 3, none⟩ (.int .i64 0)).setCell ⟨w.heap.size + 1, 4, none⟩ (.int .i64 0)).setCell ⟨w.heap.size + 1, 5, none⟩ (.int .i64 va)).setCell ⟨w.heap.size + 1, 6, none⟩ (.int .i64 0)).setCell ⟨w.heap.size + 1, 7, none⟩ (.int .i64 0)) = X at *
    refine bodyPost_ret (v := .agg #[.int .i64 11, .int .i64 0, .int .i64 0, .int .i64 0, .int .i64 0, .int .i64 va, .int .i64 0, .int .i64 0]) (by simp [results, Tryz.results30, go_sem, t0, t1, t2, t3, t4, t5, t6, t7]) rfl ⟨?_, hb⟩
    rw [HM.out, if_neg (by decide), if_neg (by decide)]; try rfl
  · have g1 : ¬ k < 2 := by omega
    have g2 : ¬ k < 8 := by omega
    have g3 : ¬ k < 10 := by omega
    have g4 : (k == 10) = false := by simp; omega
    have g5 : ¬ k < 13 := by omega
    have g6 : ¬ k < 14 := by omega
    have h3 : ((((((((wc.setCell ⟨g, 0, none⟩ (.int .i64 10)).setCell ⟨g, 1, none⟩ (.int .i64 0)).setCell ⟨g, 2, none⟩ (.int .i64 0)).setCell ⟨g, 3, none⟩ (.int .i64 0)).setCell ⟨g, 4, none⟩ (.int .i64 0)).setCell ⟨g, 5, none⟩ (.int .i64 va)).setCell ⟨g, 6, none⟩ (.int .i64 0)).setCell ⟨g, 7, none⟩ (.int .i64 0)).heap[g]? = some (.cells #[.int .i64 10, .int .i64 0, .int .i64 0, .int .i64 0, .int .i64 0, .int .i64 va, .int .i64 0, .int .i64 0] 48 (0, 0)) := eight_put Hg.out _ _ _ _ _ _ _ _
    have hr3 : ((((((((wc.setCell ⟨g, 0, none⟩ (.int .i64 10)).setCell ⟨g, 1, none⟩ (.int .i64 0)).setCell ⟨g, 2, none⟩ (.int .i64 0)).setCell ⟨g, 3, none⟩ (.int .i64 0)).setCell ⟨g, 4, none⟩ (.int .i64 0)).setCell ⟨g, 5, none⟩ (.int .i64 va)).setCell ⟨g, 6, none⟩ (.int .i64 0)).setCell ⟨g, 7, none⟩ (.int .i64 0)).heap[w.heap.size + 1]? = some (.cells #[.int .i64 0, .int .i64 0, .int .i64 0, .int .i64 0, .int .i64 0, .int .i64 0, .int .i64 0, .int .i64 0] 48) := by rw [Below.heap_setCell _ _ _ _ hgn, Below.heap_setCell _ _ _ _ hgn, Below.heap_setCell _ _ _ _ hgn, Below.heap_setCell _ _ _ _ hgn, Below.heap_setCell _ _ _ _ hgn, Below.heap_setCell _ _ _ _ hgn, Below.heap_setCell _ _ _ _ hgn, Below.heap_setCell _ _ _ _ hgn]; exact Hr2.out
    have hb3 : Below w.heap.size w ((((((((wc.setCell ⟨g, 0, none⟩ (.int .i64 10)).setCell ⟨g, 1, none⟩ (.int .i64 0)).setCell ⟨g, 2, none⟩ (.int .i64 0)).setCell ⟨g, 3, none⟩ (.int .i64 0)).setCell ⟨g, 4, none⟩ (.int .i64 0)).setCell ⟨g, 5, none⟩ (.int .i64 va)).setCell ⟨g, 6, none⟩ (.int .i64 0)).setCell ⟨g, 7, none⟩ (.int .i64 0)) := ((((((((HBB.out.setCell hgw _).setCell hgw _).setCell hgw _).setCell hgw _).setCell hgw _).setCell hgw _).setCell hgw _).setCell hgw _)
    go_upto_region 17 with ((go_at_call 18; with_reducible refine (PA.out _).mono ?_; rintro e w' ⟨rfl, rfl⟩))
    generalize ((((((((wc.setCell ⟨g, 0, none⟩ (.int .i64 10)).setCell ⟨g, 1, none⟩ (.int .i64 0)).setCell ⟨g, 2, none⟩ (.int .i64 0)).setCell ⟨g, 3, none⟩ (.int .i64 0)).setCell ⟨g, 4, none⟩ (.int .i64 0)).setCell ⟨g, 5, none⟩ (.int .i64 va)).setCell ⟨g, 6, none⟩ (.int .i64 0)).setCell ⟨g, 7, none⟩ (.int .i64 0)) = w3 at *
    obtain ⟨z0, z1, z2, z3, z4, z5, z6, z7⟩ := eight_at h3
    obtain ⟨f0, f1, f2, f3, f4, f5, f6, f7⟩ := eight_at hr3
    have ff : ∀ j, w3.frozen? ⟨w.heap.size + 1, j, none⟩ = false := fun j => by simp [World.frozen?, hr3]
    have ff0 := ff 0
    have ff1 := ff 1
    have ff2 := ff 2
    have ff3 := ff 3
    have ff4 := ff 4
    have ff5 := ff 5
    have ff6 := ff 6
    have ff7 := ff 7
    have Hfin := Lib.hid (fin8 hr3 hb3 (Nat.le_succ _) (.int .i64 10) (.int .i64 0) (.int .i64 0) (.int .i64 0) (.int .i64 0) (.int .i64 va) (.int .i64 0) (.int .i64 0))
    clear h3 hr3 hb3 ff
    go_wp2_with fail
    obtain ⟨⟨t0, t1, t2, t3, t4, t5, t6, t7⟩, hb⟩ := Hfin.out _ rfl
    clear Hfin f0 f1 f2 f3 f4 f5 f6 f7 ff0 ff1 ff2 ff3 ff4 ff5 ff6 ff7 z0 z1 z2 z3 z4 z5 z6 z7
    generalize ((((((((w3.setCell ⟨w.heap.size + 1, 0, none⟩ (.int .i64 10)).setCell ⟨w.heap.size + 1, 1, none⟩ (.int .i64 0)).setCell ⟨w.heap.size + 1, 2, none⟩ (.int .i64 0)).setCell ⟨w.heap.size + 1, 3, none⟩ (.int .i64 0)).setCell ⟨w.heap.size + 1, 4, none⟩ (.int .i64 0)).setCell ⟨w.heap.size + 1, 5, none⟩ (.int .i64 va)).setCell ⟨w.heap.size + 1, 6, none⟩ (.int .i64 0)).setCell ⟨w.heap.size + 1, 7, none⟩ (.int .i64 0)) = X at *
    refine bodyPost_ret (v := .agg #[.int .i64 10, .int .i64 0, .int .i64 0, .int .i64 0, .int .i64 0, .int .i64 va, .int .i64 0, .int .i64 0]) (by simp [results, Tryz.results30, go_sem, t0, t1, t2, t3, t4, t5, t6, t7]) rfl ⟨?_, hb⟩
    rw [HM.out, if_neg (by omega), if_neg (by omega)]; unfold stepKind; rw [if_neg (by omega), if_neg (by omega), if_neg (by omega), if_neg (by omega), if_neg (by omega), if_neg (by omega)]; try rfl
end Go.Proofs.YtjdedflfdlhkdaaGreatDoor

namespace Go.Proofs.YtjdedflfdlhkdaaGreatDoor
set_option linter.unusedVariables false
set_option linter.unusedSimpArgs false

theorem snoc_ind {α : Type} {P : List α → Prop} (h0 : P []) (hs : ∀ l x, P l → P (l ++ [x])) (l : List α) : P l := by
  rw [← List.reverse_reverse l]
  induction l.reverse with
  | nil => exact h0
  | cons x t ih => rw [List.reverse_cons]; exact hs _ _ ih
theorem tickMsgs_len (c : Cfg) (s : Wld) (hn : c.n = 4) : (tickMsgs c s).length = 20 := by
  obtain ⟨n, labs, ticks, minted, cap⟩ := c
  simp only at hn
  subst hn
  rfl
theorem size_ask (labs : List Nat) (f t : Nat) (l : List Int) : recSize ((⟨f, t, .nums l⟩ : Let).fields labs) = (l.length * 21 + 7) / 8 := askF_size l
theorem size_rum (labs : List Nat) (f t : Nat) (st : Nat → List Ent) : recSize ((⟨f, t, .rum st⟩ : Let).fields labs) = ((shr labs f t labs.length).length * 272 + 7) / 8 := rum_size labs f t st
theorem tickMsgs_shape (c : Cfg) (s u : Wld) : (tickMsgs c s).map (fun x => (x.f, x.t, recSize (x.fields c.labs))) = (tickMsgs c u).map (fun x => (x.f, x.t, recSize (x.fields c.labs))) := by
  unfold tickMsgs
  rw [List.map_append, List.map_append, List.map_flatMap, List.map_flatMap, List.map_map, List.map_map]
  congr 1
  · congr 1
    funext i
    unfold rowMsg
    rw [List.map_cons, List.map_cons, List.map_map, List.map_map]
    congr 1
    · simp only [askMsg, size_ask, List.length_map]
    · apply List.map_congr_left
      intro j _
      simp only [Function.comp, rumMsg, size_rum]
  · apply List.map_congr_left
    intro i _
    simp only [Function.comp, giveMsg, size_ask, List.length_map]
theorem envs_len (labs : List Nat) (n0 : Nat) (l : List Let) : (envs labs n0 l).length = l.length := by simp [envs]
theorem envs_get (labs : List Nat) (n0 : Nat) (l : List Let) (k : Nat) (h : k < l.length) : (envs labs n0 l)[k]? = some (l[k].env labs (n0 + k)) := by
  simp [envs, List.getElem?_zipWith, h]
theorem step_ls {c : Cfg} {s : Wld} {p : Stp} (h : p.kind ≠ 9) : (s.step c p).2.ls = s.ls := by
  unfold Wld.step
  rw [if_neg h]
  split
  · unfold Wld.deliver
    repeat' split
    all_goals first | rfl | (unfold Wld.comes; repeat' split) <;> rfl
  split
  · unfold Wld.lose; split <;> rfl
  split
  · rfl
  split
  · rfl
  simp only
  unfold Wld.client Wld.entry
  repeat' split
  all_goals rfl
theorem step_sent {c : Cfg} {s : Wld} {p : Stp} (h : p.kind ≠ 9) : (s.step c p).1.sent = [] := by
  unfold Wld.step
  rw [if_neg h]
  split
  · unfold Wld.deliver
    repeat' split
    all_goals rfl
  split
  · unfold Wld.lose; split <;> rfl
  split
  · rfl
  split
  · rfl
  simp only
  unfold Wld.client Wld.entry
  repeat' split
  all_goals rfl
theorem step_tick {c : Cfg} {s : Wld} {p : Stp} (h : p.kind = 9) : s.step c p = s.tick c := by unfold Wld.step; rw [if_pos h]
/-- How many ticks. -/
def ticksIn (l : List Stp) : Nat := (l.filter fun p => p.kind = 9).length
theorem ticksIn_snoc (l : List Stp) (p : Stp) : ticksIn (l ++ [p]) = ticksIn l + if p.kind = 9 then 1 else 0 := by
  unfold ticksIn
  rw [List.filter_append, List.length_append]
  congr 1
  by_cases h : p.kind = 9 <;> simp [h]
theorem ls_len (c : Cfg) (hn : c.n = 4) (l : List Stp) : (wFold c l).1.ls.length = 20 * ticksIn l := by
  induction l using snoc_ind with
  | h0 => rfl
  | hs l p ih =>
    rw [wFold_snoc, ticksIn_snoc]
    simp only [wStep]
    by_cases h : p.kind = 9
    · rw [step_tick h, if_pos h]
      simp only [Wld.tick, Wld.ticked, List.length_append, tickMsgs_len c _ hn]
      omega
    · rw [step_ls h, if_neg h, ih]; omega
/-- What step i came to. -/
theorem told_at (c : Cfg) (l : List Stp) : ∀ i (hi : i < l.length), (wFold c l).2[i]? = some (((wFold c (l.take i)).1.step c l[i]).1) := by
  induction l using snoc_ind with
  | h0 => intro i hi; simp at hi
  | hs l p ih =>
    intro i hi
    rw [wFold_snoc]
    simp only [wStep]
    rw [List.length_append, List.length_singleton] at hi
    rcases Nat.lt_or_ge i l.length with h | h
    · rw [List.getElem?_append_left (by rw [wFold_len]; exact h), ih i h, List.take_append_of_le_length (by omega), List.getElem_append_left h]
    · obtain rfl : i = l.length := by omega
      rw [List.getElem?_append_right (by rw [wFold_len]; omega), wFold_len, List.take_left]
      simp
/-- A letter of any tick, but for its number. -/
def letK (c : Cfg) (k : Nat) : Nat × Nat × Nat := ((tickMsgs c (wld0 c)).map (fun x => (x.f, x.t, recSize (x.fields c.labs)))).getD k (0, 0, 0)
def envK (c : Cfg) (n k : Nat) : Env := ⟨n + k, (letK c k).1, (letK c k).2.1, (letK c k).2.2⟩
theorem sent_tick (c : Cfg) (hn : c.n = 4) (s : Wld) : (s.tick c).1.sent = (List.range 20).map (envK c s.ls.length) := by
  have hl := tickMsgs_len c s hn
  apply List.ext_getElem?
  intro k
  by_cases hk : k < 20
  · show (envs c.labs s.ls.length (tickMsgs c s))[k]? = _
    rw [envs_get _ _ _ _ (by omega), List.getElem?_map, List.getElem?_range hk]
    simp only [Option.map_some, Option.some.injEq]
    have := tickMsgs_shape c s (wld0 c)
    have h2 : letK c k = ((tickMsgs c s)[k].f, (tickMsgs c s)[k].t, recSize ((tickMsgs c s)[k].fields c.labs)) := by
      unfold letK; rw [← this]
      simp [List.getD_eq_getElem?_getD, hl, hk]
    unfold envK Let.env
    rw [h2]
  · have h1 : (s.tick c).1.sent[k]? = none := List.getElem?_eq_none (by show (envs c.labs s.ls.length (tickMsgs c s)).length ≤ k; rw [envs_len]; omega)
    have h2 : ((List.range 20).map (envK c s.ls.length))[k]? = none := List.getElem?_eq_none (by rw [List.length_map, List.length_range]; omega)
    rw [h1, h2]
/-- What is sent at step i. -/
theorem sent_at (c : Cfg) (hn : c.n = 4) (l : List Stp) (i : Nat) (hi : i < l.length) (T : Tld) (hT : (wFold c l).2[i]? = some T) : T.sent = if l[i].kind = 9 then (List.range 20).map (envK c (20 * ticksIn (l.take i))) else [] := by
  rw [told_at c l i hi, Option.some.injEq] at hT
  subst hT
  split
  · rename_i h; rw [step_tick h, sent_tick c hn, ls_len c hn]
  · rename_i h; exact step_sent h
end Go.Proofs.YtjdedflfdlhkdaaGreatDoor

namespace Go.Proofs.YtjdedflfdlhkdaaGreatDoor
set_option linter.unusedVariables false
set_option linter.unusedSimpArgs false

/-- What the laws make of deeds. -/
def stepsOf (l : List Stp) : List Stp := l.foldl (fun out d => out ++ [stepOf d (20 * ticksIn out)]) []
theorem stepsOf_snoc (l : List Stp) (d : Stp) : stepsOf (l ++ [d]) = stepsOf l ++ [stepOf d (20 * ticksIn (stepsOf l))] := by unfold stepsOf; rw [List.foldl_append]; rfl
theorem stepsOf_len (l : List Stp) : (stepsOf l).length = l.length := by
  induction l using snoc_ind with
  | h0 => rfl
  | hs l p ih => rw [stepsOf_snoc]; simp [ih]
theorem ticksIn_le (l : List Stp) : ticksIn l ≤ l.length := by unfold ticksIn; exact List.length_filter_le _ _
theorem stps_snoc (l : List Stp) (p : Stp) : stps (l ++ [p]) = stps l ++ p.cells := by simp [stps]
theorem stps_one (p : Stp) : stps [p] = p.cells := by simp [stps]
theorem stps_all (l : List Stp) : (stps l).all Value.oneCell' = true := by
  rw [List.all_eq_true]
  intro v hv
  simp only [stps, List.mem_flatMap] at hv
  obtain ⟨p, _, hv⟩ := hv
  simp only [Stp.cells, List.mem_cons, List.not_mem_nil, or_false] at hv
  rcases hv with rfl | rfl | rfl | rfl | rfl | rfl | rfl | rfl <;> rfl
theorem stepKind_tick {d : Stp} {a : Nat} : (stepOf d a).kind = 9 ↔ (11 ≤ pick d.kind 24 ∧ pick d.kind 24 < 13) := by
  unfold stepOf
  split
  · simp only [stepKind]
    repeat' split
    all_goals omega
  · split
    · simp only [true_iff]; omega
    · simp only [stepKind]
      repeat' split
      all_goals omega
end Go.Proofs.YtjdedflfdlhkdaaGreatDoor

namespace Go.Proofs.YtjdedflfdlhkdaaGreatDoor
open Go.ChangeShapes Go.WideShapes Go.ChangeAt Go.RowKit
set_option linter.unusedVariables false
set_option linter.unusedSimpArgs false

theorem elStep : Elem Tryz.prog 48 8 64 (.agg #[.int .i64 0, .int .i64 0, .int .i64 0, .int .i64 0, .int .i64 0, .int .i64 0, .int .i64 0, .int .i64 0]) := .of (by kernel_rfl) rfl (by decide)
theorem stp_get {W : World} {v : Value} {l : List Stp} (h : Has W 8 v l.length (stps l)) (k : Nat) (hk : k < l.length) : ∃ b o cap, v = .slice (some ⟨b, o, none⟩) l.length cap ∧ l.length ≤ cap ∧ cap ≤ maxLen ∧
    (W.cell? ⟨b, o + k * 8, none⟩ = some (.int .i64 l[k].kind) ∧ W.cell? ⟨b, o + k * 8 + 1, none⟩ = some (.int .i64 l[k].who) ∧ W.cell? ⟨b, o + k * 8 + 2, none⟩ = some (.int .i64 l[k].item) ∧ W.cell? ⟨b, o + k * 8 + 3, none⟩ = some (.int .i64 l[k].count) ∧ W.cell? ⟨b, o + k * 8 + 4, none⟩ = some (.int .i64 l[k].life) ∧ W.cell? ⟨b, o + k * 8 + 5, none⟩ = some (.int .i64 l[k].id) ∧ W.cell? ⟨b, o + k * 8 + 6, none⟩ = some (.int .i64 l[k].label) ∧ W.cell? ⟨b, o + k * 8 + 7, none⟩ = some (.int .i64 l[k].key)) := by
  obtain ⟨⟨hl0, _⟩, a, cap, rfl, h1, h2, hcc⟩ := h
  obtain ⟨b, o, rfl, hcell⟩ := hcc (by rw [hl0]; omega)
  have zz : ∀ j u, j < 8 → l[k].cells[j]? = some u → W.cell? ⟨b, o + k * 8 + j, none⟩ = some u := fun j u hj hu => by
    rw [Nat.add_assoc]; exact hcell _ u (by rw [stps_get l k j hk hj]; exact hu)
  exact ⟨b, o, cap, rfl, h1, h2, zz 0 _ (by omega) rfl, zz 1 _ (by omega) rfl, zz 2 _ (by omega) rfl, zz 3 _ (by omega) rfl, zz 4 _ (by omega) rfl, zz 5 _ (by omega) rfl, zz 6 _ (by omega) rfl, zz 7 _ (by omega) rfl⟩
theorem steps_next (l : List Stp) (k : Nat) (h : k < l.length) : stps (stepsOf (l.take k)) ++ (stepOf l[k] (20 * ticksIn (stepsOf (l.take k)))).cells = stps (stepsOf (l.take (k + 1))) := by
  rw [take_snoc _ _ h, stepsOf_snoc, stps_snoc]
set_option maxRecDepth 100000 in
set_option maxHeartbeats 4000000 in
theorem cStepsOf (v : Value) (l : List Stp) (n : Nat) (w : World) (h : Has w 8 v l.length (stps l)) (hn : n ≤ 1000) :
    Calls Tryz.prog 12 #[v, .int .i64 n] w fun e w' => ∃ v', e = .returned v' ∧ w'.ownsRow w.heap.size 48 8 v' (stepsOf (l.take n)).length (stps (stepsOf (l.take n))) ∧ Below w.heap.size w w' := by
  have H := Lib.hid h
  obtain ⟨_, ad, cap, rfl, _, hcm, _⟩ := h
  unfold maxLen at hcm
  go_enter Tryz.func12, Tryz.ntmps12
  go_wp2_with fail
  go_loopw [5, 6, 7] (fun out ah i wr => ∃ k : Nat, k ≤ l.length ∧ k ≤ n ∧ i = .int .i64 k ∧ ah = .int .i64 ((20 * ticksIn (stepsOf (l.take k)) : Nat) : Int) ∧ wr.ownsRow w.heap.size 48 8 out k (stps (stepsOf (l.take k))) ∧ Below w.heap.size w wr) (fun _ _ i _ => l.length - (intOf i).toNat)
  case atStart => exact ⟨0, by omega, by omega, rfl, rfl, World.ownsRow_nil _ _ _ _, Below.refl _ _⟩
  case round =>
    obtain ⟨k, hk, hkn, rfl, rfl, ho, hb⟩ := hrel
    have Ho := Lib.hid ho
    have Hb := Lib.hid hb
    have hszw := hb.size
    clear ho hb
    by_cases h1 : k < l.length
    · by_cases h2 : k < n
      · obtain ⟨b, off, cap', he, -, -, x0, x1, x2, x3, x4, x5, x6, x7⟩ := stp_get H.out k h1
        simp only [Value.slice.injEq] at he
        obtain ⟨rfl, -, rfl⟩ := he
        replace x0 := cell_on Hb.out x0
        replace x1 := cell_on Hb.out x1
        replace x2 := cell_on Hb.out x2
        replace x3 := cell_on Hb.out x3
        replace x4 := cell_on Hb.out x4
        replace x5 := cell_on Hb.out x5
        replace x6 := cell_on Hb.out x6
        replace x7 := cell_on Hb.out x7
        have Hnx := Lib.hid (steps_next l k h1)
        have htk : ticksIn (stepsOf (l.take k)) ≤ k := by have := ticksIn_le (stepsOf (l.take k)); rw [stepsOf_len, List.length_take] at this; omega
        have Htn : Hid (ticksIn (stepsOf (l.take (k + 1))) = ticksIn (stepsOf (l.take k)) + if (stepOf l[k] (20 * ticksIn (stepsOf (l.take k)))).kind = 9 then 1 else 0) := by
          show _ = _
          rw [take_snoc _ _ h1, stepsOf_snoc, ticksIn_snoc]
        have CO := Lib.hid (cStepOf l[k] (20 * ticksIn (stepsOf (l.take k))) (by omega) wr)
        generalize stps (stepsOf (l.take k)) = R0 at *
        generalize ticksIn (stepsOf (l.take k)) = T0 at *
        generalize l[k] = x at *
        generalize stepOf x (20 * T0) = q at *
        obtain ⟨d0, d1, d2, d3, d4, d5, d6, d7⟩ := x
        obtain ⟨q0, q1, q2, q3, q4, q5, q6, q7⟩ := q
        unfold Stp.val Stp.cells at CO
        unfold Stp.cells at Hnx
        simp only at x0 x1 x2 x3 x4 x5 x6 x7 CO Hnx Htn
        have e1 : (k : Int) < (l.length : Int) := by omega
        have e2 : (k : Int) < (n : Int) := by omega
        go_upto_region 6 with (fail)
        go_wp2_with fail
        refine CO.out.mono ?_
        rintro e w5 ⟨rfl, hb5⟩
        have Hb5 := Lib.hid (Hb.out.trans (hb5.mono Hb.out.size))
        have ho5 := Lib.hid (owns_below Ho.out hb5)
        have hsz5 := Hb5.out.size
        have hl5 : k + 1 ≤ 1001 := by omega
        clear hb5 CO x0 x1 x2 x3 x4 x5 x6 x7
        by_cases hq : q0 = 9
        · subst hq
          have hw20 : IntKind.i64.wrap (((20 * T0 : Nat) : Int) + 20) = ((20 * T0 : Nat) : Int) + 20 := IntWalk.i64_in _ (by omega)
          rw [if_pos rfl] at Htn
          go_wp2_with (at_builtin; refine wp_app1 (w0 := w5) 27 48 8 64 _ elStep Tryz.underlying27 w.heap.size _ _ _ ho5.out (by repeat (first | exact Below.refl _ _ | refine Below.drew ?_ | refine Below.alloc ?_ (by first | (simp; done) | (simp; omega)) _ | refine Below.setCell ?_ (by first | (simp; done) | (simp; omega)) _)) [.int .i64 9, .int .i64 q1, .int .i64 q2, .int .i64 q3, .int .i64 q4, .int .i64 q5, .int .i64 q6, .int .i64 q7] rfl _ _ rfl rfl rfl (by first | exact heap_alloc_new _ _ | (simp only [heap_drew, heap_drewN]; exact heap_alloc_new _ _)) (by simp) rfl rfl (by omega) (by omega) hsz5 ?_; intro v6 w6 hown6 hgrow6 hb6)
          go_roundw
          case rel => exact ⟨k + 1, by omega, by omega, by go_num, by rw [Htn.out]; first | rfl | (congr 1; done) | (congr 1; omega), by rw [← Hnx.out]; exact hown6, Hb5.out.trans hb6⟩
          case measure => simp [intOf]; omega
        · have hqf : (q0 == 9) = false := by simp; exact hq
          rw [if_neg hq] at Htn
          go_wp2_with (at_builtin; refine wp_app1 (w0 := w5) 27 48 8 64 _ elStep Tryz.underlying27 w.heap.size _ _ _ ho5.out (by repeat (first | exact Below.refl _ _ | refine Below.drew ?_ | refine Below.alloc ?_ (by first | (simp; done) | (simp; omega)) _ | refine Below.setCell ?_ (by first | (simp; done) | (simp; omega)) _)) [.int .i64 q0, .int .i64 q1, .int .i64 q2, .int .i64 q3, .int .i64 q4, .int .i64 q5, .int .i64 q6, .int .i64 q7] rfl _ _ rfl rfl rfl (by first | exact heap_alloc_new _ _ | (simp only [heap_drew, heap_drewN]; exact heap_alloc_new _ _)) (by simp) rfl rfl (by omega) (by omega) hsz5 ?_; intro v6 w6 hown6 hgrow6 hb6)
          go_roundw
          case rel => exact ⟨k + 1, by omega, by omega, by go_num, by rw [Htn.out]; first | rfl | (congr 1; done) | (congr 1; omega), by rw [← Hnx.out]; exact hown6, Hb5.out.trans hb6⟩
          case measure => simp [intOf]; omega
      · obtain rfl : k = n := by omega
        have e1 : (k : Int) < (l.length : Int) := by omega
        have hO : Hid (wr.ownsRow w.heap.size 48 8 u5 (stepsOf (l.take k)).length (stps (stepsOf (l.take k)))) := by
          rw [show (stepsOf (l.take k)).length = k by rw [stepsOf_len, List.length_take]; omega]; exact Ho.out
        clear Ho
        go_wp2_with fail
        go_ret
        exact ⟨_, rfl, hO.out, Hb.out⟩
    · obtain rfl : k = l.length := by omega
      have hO : Hid (wr.ownsRow w.heap.size 48 8 u5 (stepsOf (l.take n)).length (stps (stepsOf (l.take n)))) := by
        have e : l.take n = l.take l.length := by rw [List.take_of_length_le hkn, List.take_of_length_le (Nat.le_refl _)]
        rw [e, show (stepsOf (l.take l.length)).length = l.length by rw [stepsOf_len, List.length_take]; omega]; exact Ho.out
      clear Ho
      go_wp2_with fail
      go_ret
      exact ⟨_, rfl, hO.out, Hb.out⟩
end Go.Proofs.YtjdedflfdlhkdaaGreatDoor

namespace Go.Proofs.YtjdedflfdlhkdaaGreatDoor
set_option linter.unusedVariables false

def pn (a n : Int) : Nat := (pick a n).toNat
theorem pn_eq (a n : Int) (hn : 0 < n) : ((pn a n : Nat) : Int) = pick a n ∧ (pn a n : Int) < n := by
  have := pick_bd a n hn
  unfold pn; omega
end Go.Proofs.YtjdedflfdlhkdaaGreatDoor

namespace Go.Proofs.YtjdedflfdlhkdaaGreatDoor
open Go.ChangeShapes Go.WideShapes Go.ChangeAt Go.RowKit
set_option linter.unusedVariables false
set_option linter.unusedSimpArgs false

/-- What the laws make of integers: three labels. -/
def labsK (l : List Int) : Nat → List Nat
  | 0 => [15, 6, 9]
  | k + 1 => match l[k]? with
    | some x => (labsK l k).set k (pick x 16).toNat
    | none => labsK l k
def labsOf (l : List Int) : List Nat := labsK l 3
theorem labsK_len (l : List Int) : ∀ k, (labsK l k).length = 3
  | 0 => rfl
  | k + 1 => by
    unfold labsK
    cases l[k]? with
    | none => exact labsK_len l k
    | some x => simp [labsK_len l k]
theorem labsK_lt (l : List Int) : ∀ k, ∀ x ∈ labsK l k, x < 16
  | 0 => by simp [labsK]
  | k + 1 => by
    unfold labsK
    cases l[k]? with
    | none => exact labsK_lt l k
    | some x =>
      intro y hy
      rcases List.mem_or_eq_of_mem_set hy with h | h
      · exact labsK_lt l k y h
      · subst h
        have := pick_bd x 16 (by omega)
        omega
theorem labsK_all {l : List Int} {k : Nat} (h : l.length = k) (h3 : k ≤ 3) : labsK l k = labsOf l := by
  have s : ∀ j, k ≤ j → labsK l (j + 1) = labsK l j := fun j hj => by
    show (match l[j]? with | some x => (labsK l j).set j (pick x 16).toNat | none => labsK l j) = _
    rw [List.getElem?_eq_none (by omega)]
  unfold labsOf
  rcases (show k = 0 ∨ k = 1 ∨ k = 2 ∨ k = 3 by omega) with rfl | rfl | rfl | rfl
  · rw [s 2 (by omega), s 1 (by omega), s 0 (by omega)]
  · rw [s 2 (by omega), s 1 (by omega)]
  · rw [s 2 (by omega)]
  · rfl
theorem labInts_set (l : List Nat) (k : Nat) (x : Nat) : (labInts l).set k x = labInts (l.set k x) := by simp [labInts, List.map_set]
set_option maxRecDepth 100000 in
set_option maxHeartbeats 4000000 in
theorem cLabelsOf {w : World} {v : Value} {l : List Int} (h : Has w 1 v l.length (ints l)) :
    Calls Tryz.prog 29 #[v] w fun e w' => ∃ g cap, e = .returned (.slice (some ⟨g, 0, none⟩) 3 cap) ∧ w'.ownsRow w.heap.size 3 1 (.slice (some ⟨g, 0, none⟩) 3 cap) 3 (ints (labInts (labsOf l))) ∧ Below w.heap.size w w' := by
  obtain ⟨⟨hl, _⟩, a, cap, rfl, hn, hm, hc⟩ := h
  unfold maxLen at hm
  have HC := Lib.hid hc
  have P := Lib.hid fun (a : Int) X => picked a 16 (by omega) (by omega) X
  have hb0 : Below w.heap.size w (w.alloc (.cells #[.int .i64 15, .int .i64 6, .int .i64 9] 3)) := (Below.refl _ _).alloc (Nat.le_refl _) _
  have hown0 : Hid ((w.alloc (.cells #[.int .i64 15, .int .i64 6, .int .i64 9] 3)).ownsRow w.heap.size 3 1 (.slice (some ⟨w.heap.size, 0, none⟩) 3 3) 3 (ints (labInts (labsK l 0)))) :=
    owns_block (wp := w) (cs := ints (labInts (labsK l 0))) (heap_alloc_new _ _) rfl rfl (by decide) (Nat.le_refl _)
  have Hb0 := Lib.hid hb0
  clear hc hb0
  go_enter Tryz.func29, Tryz.ntmps29
  go_wp2_with fail
  go_loopw [4] (fun i wr => ∃ k : Nat, k ≤ 3 ∧ k ≤ l.length ∧ i = .int .i64 k ∧ wr.ownsRow w.heap.size 3 1 (.slice (some ⟨w.heap.size, 0, none⟩) 3 3) 3 (ints (labInts (labsK l k))) ∧ Below w.heap.size w wr) (fun i _ => 3 - (intOf i).toNat)
  case atStart => exact ⟨0, by omega, by omega, rfl, hown0.out, Hb0.out⟩
  case round =>
    clear hown0 Hb0
    obtain ⟨k, hk, hkl, rfl, ho, hb⟩ := hrel
    have HO := Lib.hid ho
    have HB := Lib.hid hb
    have hbl : w.heap.size < wr.heap.size := by
      obtain ⟨_, _, he, _, h2, _⟩ := owns_some ho (by omega)
      simp only [Value.slice.injEq, Option.some.injEq, Addr.mk.injEq] at he
      omega
    clear ho hb
    by_cases h3 : k < 3
    · by_cases hlt : k < l.length
      · have h3z : (k : Int) < 3 := by omega
        have hltz : (k : Int) < (l.length : Int) := by omega
        obtain ⟨b, off, rfl, hcc⟩ := HC.out (by rw [ints_length]; omega)
        have x0 := cell_on HB.out (hcc k _ (ints_get l k hlt))
        have hset : Hid (labsK l (k + 1) = (labsK l k).set k (pick l[k] 16).toNat) := by
          show (match l[k]? with | some x => (labsK l k).set k (pick x 16).toNat | none => labsK l k) = _
          rw [List.getElem?_eq_getElem hlt]
        have hpk := pick_bd l[k] 16 (by omega)
        have Pk := Lib.hid (P.out l[k])
        generalize l[k] = y at *
        obtain ⟨q, hq⟩ : ∃ q : Nat, pick y 16 = q := ⟨(pick y 16).toNat, by omega⟩
        rw [hq] at hset Pk
        have y0 : ∃ u, wr.cell? ⟨w.heap.size, k, none⟩ = some u := by
          obtain ⟨g, c, he, _, _, _, hcc2⟩ := owns_some HO.out (by omega)
          simp only [Value.slice.injEq, Option.some.injEq, Addr.mk.injEq, and_true, true_and] at he
          obtain ⟨rfl, rfl⟩ := he
          exact ⟨_, hcc2 k _ (ints_get _ k (by rw [labInts_length, labsK_len]; omega))⟩
        obtain ⟨u, y0⟩ := y0
        have yf : wr.frozen? ⟨w.heap.size, k, none⟩ = false := by
          obtain ⟨g, c, he, _, _, hf, _⟩ := owns_some HO.out (by omega)
          simp only [Value.slice.injEq, Option.some.injEq, Addr.mk.injEq, and_true, true_and] at he
          obtain ⟨rfl, rfl⟩ := he
          exact hf k
        have hfin : Hid ((wr.setCell ⟨w.heap.size, k, none⟩ (.int .i64 q)).ownsRow w.heap.size 3 1 (.slice (some ⟨w.heap.size, 0, none⟩) 3 3) 3 (ints (labInts (labsK l (k + 1)))) ∧ Below w.heap.size w (wr.setCell ⟨w.heap.size, k, none⟩ (.int .i64 q))) := by
          refine ⟨?_, HB.out.setCell (Nat.le_refl _) _⟩
          rw [hset.out, ← labInts_set, ← ints_set]
          exact owns_set HO.out k _
        clear hcc hpk hq hset P
        go_wp2_with (go_at_call 18; refine (Pk.out _).mono ?_; rintro e w' ⟨rfl, rfl⟩)
        go_roundw
        case rel => exact ⟨k + 1, by omega, by omega, by go_num, hfin.out⟩
        case measure => simp [intOf]; omega
      · obtain rfl : k = l.length := by omega
        have h3z : ((l.length : Nat) : Int) < 3 := by omega
        have hfin : Hid (wr.ownsRow w.heap.size 3 1 (.slice (some ⟨w.heap.size, 0, none⟩) 3 3) 3 (ints (labInts (labsOf l))) ∧ Below w.heap.size w wr) := by
          rw [← labsK_all rfl (by omega)]; exact ⟨HO.out, HB.out⟩
        clear HO HB P HC
        go_wp2
        go_ret
        exact ⟨_, _, rfl, hfin.out⟩
    · obtain rfl : k = 3 := by omega
      have hfin : Hid (wr.ownsRow w.heap.size 3 1 (.slice (some ⟨w.heap.size, 0, none⟩) 3 3) 3 (ints (labInts (labsOf l))) ∧ Below w.heap.size w wr) := ⟨HO.out, HB.out⟩
      clear HO HB P HC
      go_wp2
      go_ret
      exact ⟨_, _, rfl, hfin.out⟩
theorem labInts_one (l : List Nat) : (ints (labInts l)).all Value.oneCell' = true := ints_one _
/-- The bit of a branch in a label, as the laws ask for it. -/
theorem bit_in (label who : Nat) (hl : label < 256) : (bits BinOp.and IntKind.i64 ((label : Int) / 2 ^ who) 1 == 1) = inL label who := by
  have hlt : label / 2 ^ who < 9223372036854775808 := Nat.lt_of_le_of_lt (Nat.div_le_self _ _) (by omega)
  have hc : (label : Int) / 2 ^ who = ((label / 2 ^ who : Nat) : Int) := by push_cast; rfl
  rw [hc, andOne _ hlt, inL, Nat.testBit_eq_decide_div_mod_eq]
  rw [Bool.eq_iff_iff]
  simp only [beq_iff_eq, decide_eq_true_eq]
  omega
theorem bit_out (label who : Nat) (hl : label < 256) : (bits BinOp.and IntKind.i64 ((label : Int) / 2 ^ who) 1 == 0) = !inL label who := by
  have hlt : label / 2 ^ who < 9223372036854775808 := Nat.lt_of_le_of_lt (Nat.div_le_self _ _) (by omega)
  have hc : (label : Int) / 2 ^ who = ((label / 2 ^ who : Nat) : Int) := by push_cast; rfl
  rw [hc, andOne _ hlt, inL, Nat.testBit_eq_decide_div_mod_eq]
  rw [Bool.eq_iff_iff]
  simp only [beq_iff_eq, Bool.not_eq_true', decide_eq_false_iff_not]
  omega
/-- A label's number in the laws' row. -/
theorem lab_cell {w : World} {g : Nat} {m cap : Nat} {labs : List Nat} (h : Has w 1 (.slice (some ⟨g, 0, none⟩) m cap) m (ints (labInts labs))) (j : Nat) (hj : j < labs.length) : w.cell? ⟨g, j, none⟩ = some (.int .i64 labs[j]) := by
  obtain ⟨⟨hl, _⟩, a, c, he, h1, h2, hc⟩ := h
  simp only [Value.slice.injEq] at he
  obtain ⟨rfl, -, rfl⟩ := he
  obtain ⟨b, o, he, hcc⟩ := hc (by rw [ints_length, labInts_length]; omega)
  simp only [Option.some.injEq, Addr.mk.injEq, and_true] at he
  obtain ⟨rfl, rfl⟩ := he
  have := hcc j (.int .i64 labs[j]) (by rw [ints_get _ j (by rw [labInts_length]; exact hj)]; simp [labInts])
  simpa using this
theorem labsOf_len (l : List Int) : (labsOf l).length = 3 := labsK_len l 3
theorem labsOf_lt (l : List Int) : ∀ x ∈ labsOf l, x < 16 := labsK_lt l 3
end Go.Proofs.YtjdedflfdlhkdaaGreatDoor
