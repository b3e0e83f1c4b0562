/- TallyAny: the walk (written by wip/tools/gen_tallyany.py). -/
import Derived.Test.YtkeefpeffeoakaaTallyBox
namespace Go.Proofs.Ytkeefpeffeoakaa.tallyAny
open Go.ChangeShapes Go.WideShapes Go.ChangeAt Go.RowKit
set_option linter.unusedVariables false
set_option maxRecDepth 100000 in
set_option maxHeartbeats 4000000 in
theorem walk (w : World) (v0 : Value) (l : List Aff) (A0 : Has w 4 v0 l.length (affs l) ∧ ∀ a ∈ l, True) (a1 : Int) (w1 : (Lit.int .i64 a1).wf = true) :
    Calls Try.prog 7 #[v0, .int .i64 a1] w fun e w' => e = .returned (.bool true) ∧ Below w.heap.size w w' := by
  have CK := Lib.hid (cknown v0 l 40 a1 w A0.1 (by omega))
  obtain ⟨p0, p1⟩ := pick_bd a1 50 (by omega)
  have HI := Lib.hid (tlKnown_inv (1 + pick a1 50) (by omega) (by omega) l 40)
  generalize pick a1 50 = q at *
  obtain ⟨ts, hts⟩ : ∃ ts, ts = tlKnown (1 + q) l 40 := ⟨_, rfl⟩
  rw [← hts] at CK HI
  clear A0 hts
  go_enter Try.func7, Try.ntmps7
  go_wp2_with fail
  refine CK.out.mono ?_
  rintro e W ⟨B, A, rfl, hT⟩
  have HT := Lib.hid hT
  clear hT CK
  go_upto_region 4 with (fail)
  obtain ⟨⟨g10, g11⟩, -, -⟩ := HT.out.cells 0 (by omega)
  have HA1 := Lib.hid (HT.out.at' 0 (by omega))
  have hin1 : TlIn (ts 0) 1048576 := (HI.out.bd 0 (by omega)).mono (by omega)
  obtain ⟨ax, hax⟩ : ∃ ax, ax = A 0 := ⟨_, rfl⟩
  rw [← hax] at g10 g11 HA1
  obtain ⟨bm1, om1, cm1, bu1, ou1, cu1⟩ := ax
  simp only [TA.c0, TA.c1] at g10 g11
  clear hax
  obtain ⟨⟨g20, g21⟩, -, -⟩ := HT.out.cells 1 (by omega)
  have HA2 := Lib.hid (HT.out.at' 1 (by omega))
  have hin2 : TlIn (ts 1) 1048576 := (HI.out.bd 1 (by omega)).mono (by omega)
  obtain ⟨ax, hax⟩ : ∃ ax, ax = A 1 := ⟨_, rfl⟩
  rw [← hax] at g20 g21 HA2
  obtain ⟨bm2, om2, cm2, bu2, ou2, cu2⟩ := ax
  simp only [TA.c0, TA.c1] at g20 g21
  clear hax
  have hS : Hid ((W.cell? ⟨B, 0, none⟩ = some (.slice (some ⟨bm1, om1, none⟩) 3 cm1) ∧ W.cell? ⟨B, 1, none⟩ = some (.slice (some ⟨bu1, ou1, none⟩) 3 cu1)) ∧ (W.cell? ⟨B, 2, none⟩ = some (.slice (some ⟨bm2, om2, none⟩) 3 cm2) ∧ W.cell? ⟨B, 3, none⟩ = some (.slice (some ⟨bu2, ou2, none⟩) 3 cu2))) := ⟨⟨g10, g11⟩, g20, g21⟩
  have CM : Hid (∀ Z, Below W.heap.size W Z → _) := fun Z hZ => ctMerge bm1 om1 cm1 bu1 ou1 cu1 bm2 om2 cm2 bu2 ou2 cu2 _ _ Z (HA1.out.on hZ) (HA2.out.on hZ) hin1 hin2
  have HinN1 : Hid (TlIn (tlMax (ts 0) (ts 1)) 1048576) := hin1.max hin2
  clear hin1 hin2 g10 g11 g20 g21 HA1 HA2
  go_cut [7, 8] (fun sp se wx => ∃ N, sp = .pointer (some ⟨N, 0, none⟩) ∧ se = .int .i64 0 ∧ TlBox wx N (tlMax (ts 0) (ts 1)) ∧ Below W.heap.size W wx)
  case first =>
    go_region_held3 (fun Z => (Z.cell? ⟨B, 0, none⟩ = some (.slice (some ⟨bm1, om1, none⟩) 3 cm1) ∧ Z.cell? ⟨B, 1, none⟩ = some (.slice (some ⟨bu1, ou1, none⟩) 3 cu1)) ∧ (Z.cell? ⟨B, 2, none⟩ = some (.slice (some ⟨bm2, om2, none⟩) 3 cm2) ∧ Z.cell? ⟨B, 3, none⟩ = some (.slice (some ⟨bu2, ou2, none⟩) 3 cu2)))
      (first | exact hS.out | exact pair_on (by repeat (first | exact hb6 | exact Below.refl _ _ | refine Below.drew ?_ | refine Below.alloc ?_ (by first | exact hb6.size | (simp; done) | (simp; omega)) _ | refine Below.setCell ?_ (by first | (simp; done) | (simp; omega)) _)) hS.out | (go_keep; done))
      ((go_at_call 23; refine (CM.out _ (by repeat (first | exact Below.refl _ _ | refine Below.drew ?_ | refine Below.alloc ?_ (by first | (simp; done) | (simp; omega)) _ | refine Below.setCell ?_ (by first | (simp; done) | (simp; omega)) _))).mono ?_; rintro e w6 ⟨gm6, cm6, gu6, cu6, rfl, hT6, hb6'⟩; have hb6 : Below W.heap.size W w6 := Below.trans (b := _) (by repeat (first | exact Below.refl _ _ | refine Below.drew ?_ | refine Below.alloc ?_ (by first | (simp; done) | (simp; omega)) _ | refine Below.setCell ?_ (by first | (simp; done) | (simp; omega)) _)) (hb6'.mono (by first | exact Nat.le_refl _ | (simp [heap_drew]; done) | (simp [heap_drew]; omega))); try (have hN := next_kept hb6'; obtain ⟨z0, z1, z2, z3⟩ := two_cells hN)))
    · go_wp2_with fail
      go_meet
      exact ⟨_, rfl, rfl, box1 hb6 hT6⟩
    · go_wp2_with fail
      go_meet
      exact ⟨_, rfl, rfl, box2 hb6 hT6 hN⟩
  case rest =>
  clear hS CM
  obtain ⟨N1, rfl, rfl, hX, hb⟩ := hcut
  have HXN1 := Lib.hid hX
  replace HT := Lib.hid (HT.out.on hb)
  clear hb hX W
  rename World => W
  go_upto_region 5 with (fail)
  obtain ⟨⟨g10, g11⟩, -, -⟩ := HT.out.cells 1 (by omega)
  have HA1 := Lib.hid (HT.out.at' 1 (by omega))
  have hin1 : TlIn (ts 1) 1048576 := (HI.out.bd 1 (by omega)).mono (by omega)
  obtain ⟨ax, hax⟩ : ∃ ax, ax = A 1 := ⟨_, rfl⟩
  rw [← hax] at g10 g11 HA1
  obtain ⟨bm1, om1, cm1, bu1, ou1, cu1⟩ := ax
  simp only [TA.c0, TA.c1] at g10 g11
  clear hax
  obtain ⟨⟨g20, g21⟩, -, -⟩ := HT.out.cells 0 (by omega)
  have HA2 := Lib.hid (HT.out.at' 0 (by omega))
  have hin2 : TlIn (ts 0) 1048576 := (HI.out.bd 0 (by omega)).mono (by omega)
  obtain ⟨ax, hax⟩ : ∃ ax, ax = A 0 := ⟨_, rfl⟩
  rw [← hax] at g20 g21 HA2
  obtain ⟨bm2, om2, cm2, bu2, ou2, cu2⟩ := ax
  simp only [TA.c0, TA.c1] at g20 g21
  clear hax
  have hS : Hid ((W.cell? ⟨B, 2, none⟩ = some (.slice (some ⟨bm1, om1, none⟩) 3 cm1) ∧ W.cell? ⟨B, 3, none⟩ = some (.slice (some ⟨bu1, ou1, none⟩) 3 cu1)) ∧ (W.cell? ⟨B, 0, none⟩ = some (.slice (some ⟨bm2, om2, none⟩) 3 cm2) ∧ W.cell? ⟨B, 1, none⟩ = some (.slice (some ⟨bu2, ou2, none⟩) 3 cu2))) := ⟨⟨g10, g11⟩, g20, g21⟩
  have CM : Hid (∀ Z, Below W.heap.size W Z → _) := fun Z hZ => ctMerge bm1 om1 cm1 bu1 ou1 cu1 bm2 om2 cm2 bu2 ou2 cu2 _ _ Z (HA1.out.on hZ) (HA2.out.on hZ) hin1 hin2
  have HinN2 : Hid (TlIn (tlMax (ts 1) (ts 0)) 1048576) := hin1.max hin2
  clear hin1 hin2 g10 g11 g20 g21 HA1 HA2
  go_cut [9, 10] (fun sp se wx => ∃ N, sp = .pointer (some ⟨N, 0, none⟩) ∧ se = .int .i64 0 ∧ TlBox wx N (tlMax (ts 1) (ts 0)) ∧ Below W.heap.size W wx)
  case first =>
    go_region_held3 (fun Z => (Z.cell? ⟨B, 2, none⟩ = some (.slice (some ⟨bm1, om1, none⟩) 3 cm1) ∧ Z.cell? ⟨B, 3, none⟩ = some (.slice (some ⟨bu1, ou1, none⟩) 3 cu1)) ∧ (Z.cell? ⟨B, 0, none⟩ = some (.slice (some ⟨bm2, om2, none⟩) 3 cm2) ∧ Z.cell? ⟨B, 1, none⟩ = some (.slice (some ⟨bu2, ou2, none⟩) 3 cu2)))
      (first | exact hS.out | exact pair_on (by repeat (first | exact hb6 | exact Below.refl _ _ | refine Below.drew ?_ | refine Below.alloc ?_ (by first | exact hb6.size | (simp; done) | (simp; omega)) _ | refine Below.setCell ?_ (by first | (simp; done) | (simp; omega)) _)) hS.out | (go_keep; done))
      ((go_at_call 23; refine (CM.out _ (by repeat (first | exact Below.refl _ _ | refine Below.drew ?_ | refine Below.alloc ?_ (by first | (simp; done) | (simp; omega)) _ | refine Below.setCell ?_ (by first | (simp; done) | (simp; omega)) _))).mono ?_; rintro e w6 ⟨gm6, cm6, gu6, cu6, rfl, hT6, hb6'⟩; have hb6 : Below W.heap.size W w6 := Below.trans (b := _) (by repeat (first | exact Below.refl _ _ | refine Below.drew ?_ | refine Below.alloc ?_ (by first | (simp; done) | (simp; omega)) _ | refine Below.setCell ?_ (by first | (simp; done) | (simp; omega)) _)) (hb6'.mono (by first | exact Nat.le_refl _ | (simp [heap_drew]; done) | (simp [heap_drew]; omega))); try (have hN := next_kept hb6'; obtain ⟨z0, z1, z2, z3⟩ := two_cells hN)))
    · go_wp2_with fail
      go_meet
      exact ⟨_, rfl, rfl, box1 hb6 hT6⟩
    · go_wp2_with fail
      go_meet
      exact ⟨_, rfl, rfl, box2 hb6 hT6 hN⟩
  case rest =>
  clear hS CM
  obtain ⟨N2, rfl, rfl, hX, hb⟩ := hcut
  have HXN2 := Lib.hid hX
  replace HT := Lib.hid (HT.out.on hb)
  replace HXN1 := Lib.hid (HXN1.out.on hb)
  clear hb hX W
  rename World => W
  go_upto_region 6 with (fail)
  obtain ⟨⟨g10, g11⟩, -, -⟩ := HT.out.cells 1 (by omega)
  have HA1 := Lib.hid (HT.out.at' 1 (by omega))
  have hin1 : TlIn (ts 1) 1048576 := (HI.out.bd 1 (by omega)).mono (by omega)
  obtain ⟨ax, hax⟩ : ∃ ax, ax = A 1 := ⟨_, rfl⟩
  rw [← hax] at g10 g11 HA1
  obtain ⟨bm1, om1, cm1, bu1, ou1, cu1⟩ := ax
  simp only [TA.c0, TA.c1] at g10 g11
  clear hax
  obtain ⟨⟨g20, g21⟩, -, -⟩ := HT.out.cells 2 (by omega)
  have HA2 := Lib.hid (HT.out.at' 2 (by omega))
  have hin2 : TlIn (ts 2) 1048576 := (HI.out.bd 2 (by omega)).mono (by omega)
  obtain ⟨ax, hax⟩ : ∃ ax, ax = A 2 := ⟨_, rfl⟩
  rw [← hax] at g20 g21 HA2
  obtain ⟨bm2, om2, cm2, bu2, ou2, cu2⟩ := ax
  simp only [TA.c0, TA.c1] at g20 g21
  clear hax
  have hS : Hid ((W.cell? ⟨B, 2, none⟩ = some (.slice (some ⟨bm1, om1, none⟩) 3 cm1) ∧ W.cell? ⟨B, 3, none⟩ = some (.slice (some ⟨bu1, ou1, none⟩) 3 cu1)) ∧ (W.cell? ⟨B, 4, none⟩ = some (.slice (some ⟨bm2, om2, none⟩) 3 cm2) ∧ W.cell? ⟨B, 5, none⟩ = some (.slice (some ⟨bu2, ou2, none⟩) 3 cu2))) := ⟨⟨g10, g11⟩, g20, g21⟩
  have CM : Hid (∀ Z, Below W.heap.size W Z → _) := fun Z hZ => ctMerge bm1 om1 cm1 bu1 ou1 cu1 bm2 om2 cm2 bu2 ou2 cu2 _ _ Z (HA1.out.on hZ) (HA2.out.on hZ) hin1 hin2
  have HinN3 : Hid (TlIn (tlMax (ts 1) (ts 2)) 1048576) := hin1.max hin2
  clear hin1 hin2 g10 g11 g20 g21 HA1 HA2
  go_cut [11, 12] (fun sp se wx => ∃ N, sp = .pointer (some ⟨N, 0, none⟩) ∧ se = .int .i64 0 ∧ TlBox wx N (tlMax (ts 1) (ts 2)) ∧ Below W.heap.size W wx)
  case first =>
    go_region_held3 (fun Z => (Z.cell? ⟨B, 2, none⟩ = some (.slice (some ⟨bm1, om1, none⟩) 3 cm1) ∧ Z.cell? ⟨B, 3, none⟩ = some (.slice (some ⟨bu1, ou1, none⟩) 3 cu1)) ∧ (Z.cell? ⟨B, 4, none⟩ = some (.slice (some ⟨bm2, om2, none⟩) 3 cm2) ∧ Z.cell? ⟨B, 5, none⟩ = some (.slice (some ⟨bu2, ou2, none⟩) 3 cu2)))
      (first | exact hS.out | exact pair_on (by repeat (first | exact hb6 | exact Below.refl _ _ | refine Below.drew ?_ | refine Below.alloc ?_ (by first | exact hb6.size | (simp; done) | (simp; omega)) _ | refine Below.setCell ?_ (by first | (simp; done) | (simp; omega)) _)) hS.out | (go_keep; done))
      ((go_at_call 23; refine (CM.out _ (by repeat (first | exact Below.refl _ _ | refine Below.drew ?_ | refine Below.alloc ?_ (by first | (simp; done) | (simp; omega)) _ | refine Below.setCell ?_ (by first | (simp; done) | (simp; omega)) _))).mono ?_; rintro e w6 ⟨gm6, cm6, gu6, cu6, rfl, hT6, hb6'⟩; have hb6 : Below W.heap.size W w6 := Below.trans (b := _) (by repeat (first | exact Below.refl _ _ | refine Below.drew ?_ | refine Below.alloc ?_ (by first | (simp; done) | (simp; omega)) _ | refine Below.setCell ?_ (by first | (simp; done) | (simp; omega)) _)) (hb6'.mono (by first | exact Nat.le_refl _ | (simp [heap_drew]; done) | (simp [heap_drew]; omega))); try (have hN := next_kept hb6'; obtain ⟨z0, z1, z2, z3⟩ := two_cells hN)))
    · go_wp2_with fail
      go_meet
      exact ⟨_, rfl, rfl, box1 hb6 hT6⟩
    · go_wp2_with fail
      go_meet
      exact ⟨_, rfl, rfl, box2 hb6 hT6 hN⟩
  case rest =>
  clear hS CM
  obtain ⟨N3, rfl, rfl, hX, hb⟩ := hcut
  have HXN3 := Lib.hid hX
  replace HT := Lib.hid (HT.out.on hb)
  replace HXN1 := Lib.hid (HXN1.out.on hb)
  replace HXN2 := Lib.hid (HXN2.out.on hb)
  clear hb hX W
  rename World => W
  go_upto_region 7 with (fail)
  obtain ⟨bm1, om1, cm1, bu1, ou1, cu1, hN1, hA1⟩ := HXN1.out
  obtain ⟨g10, g11, -, -⟩ := two_cells hN1
  have HA1 := Lib.hid hA1
  have hin1 := HinN1.out
  clear hN1 hA1
  obtain ⟨⟨g20, g21⟩, -, -⟩ := HT.out.cells 2 (by omega)
  have HA2 := Lib.hid (HT.out.at' 2 (by omega))
  have hin2 : TlIn (ts 2) 1048576 := (HI.out.bd 2 (by omega)).mono (by omega)
  obtain ⟨ax, hax⟩ : ∃ ax, ax = A 2 := ⟨_, rfl⟩
  rw [← hax] at g20 g21 HA2
  obtain ⟨bm2, om2, cm2, bu2, ou2, cu2⟩ := ax
  simp only [TA.c0, TA.c1] at g20 g21
  clear hax
  have hS : Hid ((W.cell? ⟨N1, 0, none⟩ = some (.slice (some ⟨bm1, om1, none⟩) 3 cm1) ∧ W.cell? ⟨N1, 1, none⟩ = some (.slice (some ⟨bu1, ou1, none⟩) 3 cu1)) ∧ (W.cell? ⟨B, 4, none⟩ = some (.slice (some ⟨bm2, om2, none⟩) 3 cm2) ∧ W.cell? ⟨B, 5, none⟩ = some (.slice (some ⟨bu2, ou2, none⟩) 3 cu2))) := ⟨⟨g10, g11⟩, g20, g21⟩
  have CM : Hid (∀ Z, Below W.heap.size W Z → _) := fun Z hZ => ctMerge bm1 om1 cm1 bu1 ou1 cu1 bm2 om2 cm2 bu2 ou2 cu2 _ _ Z (HA1.out.on hZ) (HA2.out.on hZ) hin1 hin2
  have HinN4 : Hid (TlIn (tlMax (tlMax (ts 0) (ts 1)) (ts 2)) 1048576) := hin1.max hin2
  clear hin1 hin2 g10 g11 g20 g21 HA1 HA2
  go_cut [13, 14] (fun sp se wx => ∃ N, sp = .pointer (some ⟨N, 0, none⟩) ∧ se = .int .i64 0 ∧ TlBox wx N (tlMax (tlMax (ts 0) (ts 1)) (ts 2)) ∧ Below W.heap.size W wx)
  case first =>
    go_region_held3 (fun Z => (Z.cell? ⟨N1, 0, none⟩ = some (.slice (some ⟨bm1, om1, none⟩) 3 cm1) ∧ Z.cell? ⟨N1, 1, none⟩ = some (.slice (some ⟨bu1, ou1, none⟩) 3 cu1)) ∧ (Z.cell? ⟨B, 4, none⟩ = some (.slice (some ⟨bm2, om2, none⟩) 3 cm2) ∧ Z.cell? ⟨B, 5, none⟩ = some (.slice (some ⟨bu2, ou2, none⟩) 3 cu2)))
      (first | exact hS.out | exact pair_on (by repeat (first | exact hb6 | exact Below.refl _ _ | refine Below.drew ?_ | refine Below.alloc ?_ (by first | exact hb6.size | (simp; done) | (simp; omega)) _ | refine Below.setCell ?_ (by first | (simp; done) | (simp; omega)) _)) hS.out | (go_keep; done))
      ((go_at_call 23; refine (CM.out _ (by repeat (first | exact Below.refl _ _ | refine Below.drew ?_ | refine Below.alloc ?_ (by first | (simp; done) | (simp; omega)) _ | refine Below.setCell ?_ (by first | (simp; done) | (simp; omega)) _))).mono ?_; rintro e w6 ⟨gm6, cm6, gu6, cu6, rfl, hT6, hb6'⟩; have hb6 : Below W.heap.size W w6 := Below.trans (b := _) (by repeat (first | exact Below.refl _ _ | refine Below.drew ?_ | refine Below.alloc ?_ (by first | (simp; done) | (simp; omega)) _ | refine Below.setCell ?_ (by first | (simp; done) | (simp; omega)) _)) (hb6'.mono (by first | exact Nat.le_refl _ | (simp [heap_drew]; done) | (simp [heap_drew]; omega))); try (have hN := next_kept hb6'; obtain ⟨z0, z1, z2, z3⟩ := two_cells hN)))
    · go_wp2_with fail
      go_meet
      exact ⟨_, rfl, rfl, box1 hb6 hT6⟩
    · go_wp2_with fail
      go_meet
      exact ⟨_, rfl, rfl, box2 hb6 hT6 hN⟩
  case rest =>
  clear hS CM
  obtain ⟨N4, rfl, rfl, hX, hb⟩ := hcut
  have HXN4 := Lib.hid hX
  replace HT := Lib.hid (HT.out.on hb)
  replace HXN1 := Lib.hid (HXN1.out.on hb)
  replace HXN2 := Lib.hid (HXN2.out.on hb)
  replace HXN3 := Lib.hid (HXN3.out.on hb)
  clear hb hX W
  rename World => W
  go_upto_region 8 with (fail)
  obtain ⟨⟨g10, g11⟩, -, -⟩ := HT.out.cells 0 (by omega)
  have HA1 := Lib.hid (HT.out.at' 0 (by omega))
  have hin1 : TlIn (ts 0) 1048576 := (HI.out.bd 0 (by omega)).mono (by omega)
  obtain ⟨ax, hax⟩ : ∃ ax, ax = A 0 := ⟨_, rfl⟩
  rw [← hax] at g10 g11 HA1
  obtain ⟨bm1, om1, cm1, bu1, ou1, cu1⟩ := ax
  simp only [TA.c0, TA.c1] at g10 g11
  clear hax
  obtain ⟨bm2, om2, cm2, bu2, ou2, cu2, hN2, hA2⟩ := HXN3.out
  obtain ⟨g20, g21, -, -⟩ := two_cells hN2
  have HA2 := Lib.hid hA2
  have hin2 := HinN3.out
  clear hN2 hA2
  have hS : Hid ((W.cell? ⟨B, 0, none⟩ = some (.slice (some ⟨bm1, om1, none⟩) 3 cm1) ∧ W.cell? ⟨B, 1, none⟩ = some (.slice (some ⟨bu1, ou1, none⟩) 3 cu1)) ∧ (W.cell? ⟨N3, 0, none⟩ = some (.slice (some ⟨bm2, om2, none⟩) 3 cm2) ∧ W.cell? ⟨N3, 1, none⟩ = some (.slice (some ⟨bu2, ou2, none⟩) 3 cu2))) := ⟨⟨g10, g11⟩, g20, g21⟩
  have CM : Hid (∀ Z, Below W.heap.size W Z → _) := fun Z hZ => ctMerge bm1 om1 cm1 bu1 ou1 cu1 bm2 om2 cm2 bu2 ou2 cu2 _ _ Z (HA1.out.on hZ) (HA2.out.on hZ) hin1 hin2
  have HinN5 : Hid (TlIn (tlMax (ts 0) (tlMax (ts 1) (ts 2))) 1048576) := hin1.max hin2
  clear hin1 hin2 g10 g11 g20 g21 HA1 HA2
  go_cut [15, 16] (fun sp se wx => ∃ N, sp = .pointer (some ⟨N, 0, none⟩) ∧ se = .int .i64 0 ∧ TlBox wx N (tlMax (ts 0) (tlMax (ts 1) (ts 2))) ∧ Below W.heap.size W wx)
  case first =>
    go_region_held3 (fun Z => (Z.cell? ⟨B, 0, none⟩ = some (.slice (some ⟨bm1, om1, none⟩) 3 cm1) ∧ Z.cell? ⟨B, 1, none⟩ = some (.slice (some ⟨bu1, ou1, none⟩) 3 cu1)) ∧ (Z.cell? ⟨N3, 0, none⟩ = some (.slice (some ⟨bm2, om2, none⟩) 3 cm2) ∧ Z.cell? ⟨N3, 1, none⟩ = some (.slice (some ⟨bu2, ou2, none⟩) 3 cu2)))
      (first | exact hS.out | exact pair_on (by repeat (first | exact hb6 | exact Below.refl _ _ | refine Below.drew ?_ | refine Below.alloc ?_ (by first | exact hb6.size | (simp; done) | (simp; omega)) _ | refine Below.setCell ?_ (by first | (simp; done) | (simp; omega)) _)) hS.out | (go_keep; done))
      ((go_at_call 23; refine (CM.out _ (by repeat (first | exact Below.refl _ _ | refine Below.drew ?_ | refine Below.alloc ?_ (by first | (simp; done) | (simp; omega)) _ | refine Below.setCell ?_ (by first | (simp; done) | (simp; omega)) _))).mono ?_; rintro e w6 ⟨gm6, cm6, gu6, cu6, rfl, hT6, hb6'⟩; have hb6 : Below W.heap.size W w6 := Below.trans (b := _) (by repeat (first | exact Below.refl _ _ | refine Below.drew ?_ | refine Below.alloc ?_ (by first | (simp; done) | (simp; omega)) _ | refine Below.setCell ?_ (by first | (simp; done) | (simp; omega)) _)) (hb6'.mono (by first | exact Nat.le_refl _ | (simp [heap_drew]; done) | (simp [heap_drew]; omega))); try (have hN := next_kept hb6'; obtain ⟨z0, z1, z2, z3⟩ := two_cells hN)))
    · go_wp2_with fail
      go_meet
      exact ⟨_, rfl, rfl, box1 hb6 hT6⟩
    · go_wp2_with fail
      go_meet
      exact ⟨_, rfl, rfl, box2 hb6 hT6 hN⟩
  case rest =>
  clear hS CM
  obtain ⟨N5, rfl, rfl, hX, hb⟩ := hcut
  have HXN5 := Lib.hid hX
  replace HT := Lib.hid (HT.out.on hb)
  replace HXN1 := Lib.hid (HXN1.out.on hb)
  replace HXN2 := Lib.hid (HXN2.out.on hb)
  replace HXN3 := Lib.hid (HXN3.out.on hb)
  replace HXN4 := Lib.hid (HXN4.out.on hb)
  clear hb hX W
  rename World => W
  rw [tlMax_comm (ts 1) (ts 0)] at HXN2
  rw [← tlMax_assoc] at HXN5
  have hin1 := HinN1.out
  have hin4 := HinN4.out
  clear HinN1 HinN2 HinN3 HinN4 HinN5 HXN3
  generalize tlMax (tlMax (ts 0) (ts 1)) (ts 2) = t4 at *
  generalize tlMax (ts 0) (ts 1) = t1 at *
  obtain ⟨b1, o1, c1, d1, q1, f1, n1, T1⟩ := HXN1.out
  obtain ⟨b2, o2, c2, d2, q2, f2, n2, T2⟩ := HXN2.out
  obtain ⟨b4, o4, c4, d4, q4, f4, n4, T4⟩ := HXN4.out
  obtain ⟨b5, o5, c5, d5, q5, f5, n5, T5⟩ := HXN5.out
  obtain ⟨x40, x41, -, -⟩ := two_cells n4
  have CM := Lib.hid (ctMerge b4 o4 c4 d4 q4 f4 b4 o4 c4 d4 q4 f4 t4 t4 W T4 T4 hin4 hin4)
  rw [tlMax_self] at CM
  have H1 := Lib.hid n1
  have H2 := Lib.hid n2
  have H4 := Lib.hid n4
  have H5 := Lib.hid n5
  have S1 := Lib.hid T1
  have S2 := Lib.hid T2
  have S4 := Lib.hid T4
  have S5 := Lib.hid T5
  clear n1 n2 n4 n5 T1 T2 T4 T5 HXN1 HXN2 HXN4 HXN5
  go_wp2_with fail
  refine CM.out.mono ?_
  rintro e w6 ⟨gm, cm, gu, cu, rfl, hT6, hb6⟩
  have ha : Below W.heap.size W (w6.alloc (.cells #[.slice (some ⟨gm, 0, none⟩) 3 cm, .slice (some ⟨gu, 0, none⟩) 3 cu] 48)) := hb6.alloc hb6.size _
  have H6 := Lib.hid (heap_alloc_new w6 (.cells #[.slice (some ⟨gm, 0, none⟩) 3 cm, .slice (some ⟨gu, 0, none⟩) 3 cu] 48))
  have S6 := Lib.hid (hT6.on ((Below.refl _ _).alloc (Nat.le_refl _) (.cells #[.slice (some ⟨gm, 0, none⟩) 3 cm, .slice (some ⟨gu, 0, none⟩) 3 cu] 48)))
  have Ha := Lib.hid ha
  have K : Hid (∀ (X : World) (N : Nat) (a b : Value), Below W.heap.size W X → W.heap[N]? = some (.cells #[a, b] 48 (0, 0)) → X.cell? ⟨N, 0, none⟩ = some a ∧ X.cell? ⟨N, 1, none⟩ = some b) := fun X N a b hX hN => by
    obtain ⟨k0, k1, -, -⟩ := two_cells hN
    exact ⟨cell_on hX k0, cell_on hX k1⟩
  have hw6 := hb6.size
  clear CM hT6 hb6 ha x40 x41
  obtain ⟨x40, x41⟩ := K.out _ _ _ _ Ha.out H4.out
  have CMay := Lib.hid (ctMay b4 o4 c4 d4 q4 f4 t4 _ (S4.out.on Ha.out) hin4)
  go_wp2_with fail
  refine CMay.out.mono ?_
  rintro e w7 ⟨rfl, hb7⟩
  have Hb7 : Hid (Below W.heap.size W w7) := Ha.out.trans (hb7.mono Ha.out.size)
  replace H6 : Hid (w7.heap[w6.heap.size]? = some (.cells #[.slice (some ⟨gm, 0, none⟩) 3 cm, .slice (some ⟨gu, 0, none⟩) 3 cu] 48 (0, 0))) := by unfold Hid; rw [hb7.block _ (by simp)]; exact H6.out
  replace S6 := Lib.hid (S6.out.on hb7)
  clear CMay hb7 Ha x40 x41
  obtain ⟨x10, x11⟩ := K.out _ _ _ _ Hb7.out H1.out
  obtain ⟨x20, x21⟩ := K.out _ _ _ _ Hb7.out H2.out
  have CS := Lib.hid (ctSame b1 o1 c1 d1 q1 f1 b2 o2 c2 d2 q2 f2 t1 w7 (S1.out.on Hb7.out) (S2.out.on Hb7.out))
  go_wp2_with fail
  refine CS.out.mono ?_
  rintro e w8 ⟨rfl, hb8⟩
  have Hb8 : Hid (Below W.heap.size W w8) := Hb7.out.trans (hb8.mono Hb7.out.size)
  replace H6 : Hid (w8.heap[w6.heap.size]? = some (.cells #[.slice (some ⟨gm, 0, none⟩) 3 cm, .slice (some ⟨gu, 0, none⟩) 3 cu] 48 (0, 0))) := by unfold Hid; rw [hb8.block _ (Array.getElem?_eq_some_iff.1 H6.out).1]; exact H6.out
  replace S6 := Lib.hid (S6.out.on hb8)
  clear CS hb8 Hb7 x10 x11 x20 x21
  obtain ⟨x40, x41⟩ := K.out _ _ _ _ Hb8.out H4.out
  obtain ⟨x50, x51⟩ := K.out _ _ _ _ Hb8.out H5.out
  have CS := Lib.hid (ctSame b4 o4 c4 d4 q4 f4 b5 o5 c5 d5 q5 f5 t4 w8 (S4.out.on Hb8.out) (S5.out.on Hb8.out))
  go_wp2_with fail
  refine CS.out.mono ?_
  rintro e w9 ⟨rfl, hb9⟩
  have Hb9 : Hid (Below W.heap.size W w9) := Hb8.out.trans (hb9.mono Hb8.out.size)
  replace H6 : Hid (w9.heap[w6.heap.size]? = some (.cells #[.slice (some ⟨gm, 0, none⟩) 3 cm, .slice (some ⟨gu, 0, none⟩) 3 cu] 48 (0, 0))) := by unfold Hid; rw [hb9.block _ (Array.getElem?_eq_some_iff.1 H6.out).1]; exact H6.out
  replace S6 := Lib.hid (S6.out.on hb9)
  clear CS hb9 Hb8 x40 x41 x50 x51
  obtain ⟨x40, x41⟩ := K.out _ _ _ _ Hb9.out H4.out
  obtain ⟨x60, x61, -, -⟩ := two_cells H6.out
  have CS := Lib.hid (ctSame gm 0 cm gu 0 cu b4 o4 c4 d4 q4 f4 t4 w9 S6.out (S4.out.on Hb9.out))
  go_wp2_with fail
  refine CS.out.mono ?_
  rintro e w10 ⟨rfl, hb10⟩
  have Hb10 : Hid (Below w.heap.size w w10) := HT.out.hb.trans ((Hb9.out.trans (hb10.mono Hb9.out.size)).mono HT.out.hb.size)
  clear CS hb10 Hb9 x40 x41 x60 x61
  go_wp2_with fail
  go_ret
  exact ⟨rfl, Hb10.out⟩
end Go.Proofs.Ytkeefpeffeoakaa.tallyAny
