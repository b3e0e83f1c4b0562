/- TallyMoves: the walk. -/
import Derived.Test.YtkeefpeffeoakaaTallyK
namespace Go.Proofs.Ytkeefpeffeoakaa.tallyMoves
open Go.ChangeShapes Go.WideShapes Go.ChangeAt Go.RowKit
set_option linter.unusedVariables false

def sumLeft (t : Tl) : Nat → Int
  | 0 => 0
  | k + 1 => sumLeft t k + tlLeft t k
theorem sumLeft_bd (t : Tl) (hin : TlIn t 1048576) : ∀ k, k ≤ 3 → -(4194304 * k) ≤ sumLeft t k ∧ sumLeft t k ≤ 4194304 * k
  | 0, _ => by simp [sumLeft]
  | k + 1, hk => by
    have ih := sumLeft_bd t hin k (by omega)
    have := tlLeft_bd t hin k (by omega)
    simp only [sumLeft]; omega
set_option maxRecDepth 100000 in
set_option maxHeartbeats 4000000 in
theorem walk (w : World) (v0 : Value) (l : List Aff) (A0 : Has w 4 v0 l.length (affs l) ∧ ∀ a ∈ l, True) (a1 a2 a3 a4 : Int) (w1 : (Lit.int .i64 a1).wf = true) (w2 : (Lit.int .i64 a2).wf = true) (w3 : (Lit.int .i64 a3).wf = true) (w4 : (Lit.int .i64 a4).wf = true) :
    Calls Try.prog 8 #[v0, .int .i64 a1, .int .i64 a2, .int .i64 a3, .int .i64 a4] w fun e w' => e = .returned (.bool true) ∧ Below w.heap.size w w' := by
  have CK := Lib.hid (cknown v0 l 40 a1 w A0.1 (by omega))
  obtain ⟨p0, p1⟩ := pick_bd a1 50 (by omega)
  have HI := Lib.hid (tlKnown_inv (1 + pick a1 50) (by omega) (by omega) l 40)
  have P1 := Lib.hid (fun X => picked a1 50 (by omega) (by omega) X)
  have hp2 := pick_bd a2 3 (by omega)
  have hp3 := pick_bd a3 2 (by omega)
  have hp4 := pick_bd a4 9 (by omega)
  obtain ⟨x, hx⟩ := Int.eq_ofNat_of_zero_le hp2.1
  obtain ⟨y, hy⟩ := Int.eq_ofNat_of_zero_le hp3.1
  have P2 : Hid (∀ X, Calls Try.prog 24 #[.int .i64 a2, .int .i64 3] X fun e w' => e = .returned (.int .i64 x) ∧ X = w') := fun X => by have := picked a2 3 (by omega) (by omega) X; rwa [hx] at this
  have P3 : Hid (∀ X, Calls Try.prog 24 #[.int .i64 a3, .int .i64 2] X fun e w' => e = .returned (.int .i64 y) ∧ X = w') := fun X => by have := picked a3 2 (by omega) (by omega) X; rwa [hy] at this
  have P4 := Lib.hid (fun X => picked a4 9 (by omega) (by omega) X)
  have hx3 : x < 3 := by omega
  have hy2 : y < 2 := by omega
  obtain ⟨o, ho⟩ : ∃ o : Nat, o = (x + 1 + y) % 3 := ⟨_, rfl⟩
  have hyo : Hid (((x : Int) + 1 + (y : Int)) % 3 = (o : Int)) := by unfold Hid; rw [ho]; omega
  have ho3 : o < 3 := by omega
  have hxo : x ≠ o := by omega
  generalize pick a4 9 = z at *
  generalize pick a1 50 = q at *
  obtain ⟨ts, hts⟩ : ∃ ts, ts = tlKnown (1 + q) l 40 := ⟨_, rfl⟩
  rw [← hts] at CK HI
  clear A0 hp2 hp3 hx hy ho hts
  go_enter Try.func8, Try.ntmps8
  go_wp2_with fail
  refine CK.out.mono ?_
  rintro e w1 ⟨B, A, rfl, hT⟩
  have HT := Lib.hid hT
  clear hT CK
  go_wp2_with fail
  refine (P2.out _).mono ?_
  rintro e w' ⟨rfl, rfl⟩
  go_wp2_with fail
  refine (P3.out _).mono ?_
  rintro e w' ⟨rfl, rfl⟩
  go_wp2_with fail
  refine (P4.out _).mono ?_
  rintro e w' ⟨rfl, rfl⟩
  generalize hre : ((x : Int) + 1 + (y : Int)) % 3 = r at *
  obtain rfl : r = (o : Int) := hyo.out
  clear hre
  obtain ⟨⟨g0, g1⟩, -, -⟩ := HT.out.cells x hx3
  have HA := Lib.hid (HT.out.at' x hx3)
  obtain ⟨ax, hax⟩ : ∃ ax, ax = A x := ⟨_, rfl⟩
  rw [← hax] at g0 g1 HA
  obtain ⟨bm, om, cm', bu, ou, cu'⟩ := ax
  simp only [TA.c0, TA.c1] at g0 g1
  have Hin : Hid (TlIn (ts x) 1000) := (HI.out.bd x hx3).mono (by omega)
  have Hin2 : Hid (TlIn (ts x) 1048576) := (HI.out.bd x hx3).mono (by omega)
  have hlb := tlLeft_bd (ts x) Hin2.out x hx3
  have Hax := Lib.hid hax
  have hx3' : (x : Int) < 3 := by omega
  clear hax
  by_cases hlc : 1 + z ≤ tlLeft (ts x) x
  · have CD := Lib.hid (ctDoMove bm om cm' bu ou cu' (ts x) x o ho3 hxo (1 + z) w1 HA.out Hin.out hx3 hlc (by omega) (by omega))
    have hmv := fun v hv => tlLeft_move (ts x) x o (1 + z) hx3 ho3 hxo v hv
    have Hmv := Lib.hid hmv
    have Hin3 : Hid (TlIn (tlMove (ts x) x o (1 + z)) 1048576) := by
      refine ⟨fun i j hi hj => ?_, fun i hi => ?_⟩
      · have := Hin.out.1 i j hi hj
        simp only [tlMove]; split <;> omega
      · have := Hin.out.2 i hi
        simp only [tlMove]; omega
    clear hmv
    generalize tlMove (ts x) x o (1 + z) = t' at *
    go_wp2_with fail
    refine CD.out.mono ?_
    rintro e w2 ⟨gm, cm, gu, cu, rfl, hT', hb2⟩
    have ha : Below w2.heap.size w2 (w2.alloc (.cells #[.slice (some ⟨gm, 0, none⟩) 3 cm, .slice (some ⟨gu, 0, none⟩) 3 cu] 48)) := (Below.refl _ _).alloc (Nat.le_refl _) _
    have Hn := Lib.hid (two_cells (heap_alloc_new w2 (.cells #[.slice (some ⟨gm, 0, none⟩) 3 cm, .slice (some ⟨gu, 0, none⟩) 3 cu] 48)))
    have HT' := Lib.hid (hT'.on ha)
    have HT2 := Lib.hid ((HT.out.on hb2).on ha)
    clear hT' hb2 ha CD HT HA g0 g1
    go_wp2_with fail
    generalize w2.alloc (.cells #[.slice (some ⟨gm, 0, none⟩) 3 cm, .slice (some ⟨gu, 0, none⟩) 3 cu] 48) = W at *
    go_loopw [18, 21] (fun s i wr => ∃ k : Nat, k ≤ 3 ∧ i = .int .i64 k ∧ s = .int .i64 (sumLeft (ts x) k) ∧ Below W.heap.size W wr) (fun _ i _ => 3 - (intOf i).toNat)
    case atStart => exact ⟨0, by omega, rfl, rfl, Below.refl _ _⟩
    case round =>
      obtain ⟨k, hk, rfl, rfl, hb⟩ := hrel
      have Hb := Lib.hid hb
      have HTr := Lib.hid (HT2.out.on hb)
      by_cases hlt : k < 3
      · obtain ⟨⟨g0, g1⟩, -, -⟩ := HTr.out.cells x hx3
        have HA := Lib.hid (HTr.out.at' x hx3)
        rw [← Hax.out] at g0 g1 HA
        simp only [TA.c0, TA.c1] at g0 g1
        have CL := Lib.hid (ctLeft bm om cm' bu ou cu' (ts x) k wr HA.out Hin2.out hlt)
        obtain ⟨n0, n1, -, -⟩ := Hn.out
        replace n0 := cell_on hb n0
        replace n1 := cell_on hb n1
        have hsb := sumLeft_bd (ts x) Hin2.out k (by omega)
        have hlk := tlLeft_bd (ts x) Hin2.out k hlt
        have hlk2 := tlLeft_bd t' Hin3.out k hlt
        have hs : Hid (sumLeft (ts x) k + tlLeft (ts x) k = sumLeft (ts x) (k + 1)) := rfl
        have hm := Hmv.out k hlt
        generalize sumLeft (ts x) k = s0 at *
        generalize hl1 : tlLeft (ts x) k = l1 at *
        generalize hl2 : tlLeft t' k = l2 at *
        clear hb HA
        go_wp2_with fail
        refine CL.out.mono ?_
        rintro e w5 ⟨rfl, hb5⟩
        have HT5 := Lib.hid (HT'.out.on (Hb.out.trans (hb5.mono Hb.out.size)))
        replace n0 := cell_on hb5 n0
        replace n1 := cell_on hb5 n1
        have Hb5 : Hid (Below W.heap.size W w5) := Hb.out.trans (hb5.mono Hb.out.size)
        clear hb5 CL g0 g1
        go_wp2_with fail
        refine (ctLeft gm 0 cm gu 0 cu t' k w5 HT5.out Hin3.out hlt).mono ?_
        rintro e w6 ⟨rfl, hb6⟩
        rw [hl2]
        have Hb6 : Hid (Below W.heap.size W w6) := Hb5.out.trans (hb6.mono Hb5.out.size)
        clear hb6 n0 n1 HT5 hl1 hl2
        by_cases e1 : k = x
        · subst e1
          have e2 : ((k : Int) == (o : Int)) = false := by rw [beq_eq_false_iff_ne]; omega
          have e3 : (l2 - l1 != -(1 + z)) = false := by rw [bne_eq_false_iff_eq]; simp [hxo] at hm; omega
          clear hm
          go_wp2_with fail
          go_roundw
          case rel => exact ⟨k + 1, by omega, by go_num, by rw [hs.out], Hb6.out⟩
          case measure => simp [intOf]; omega
        · have e1' : ((k : Int) == (x : Int)) = false := by rw [beq_eq_false_iff_ne]; omega
          by_cases e2 : k = o
          · subst e2
            have e3 : (l2 - l1 != 1 + z) = false := by rw [bne_eq_false_iff_eq]; simp [e1] at hm; omega
            clear hm
            go_wp2_with fail
            go_roundw
            case rel => exact ⟨k + 1, by omega, by go_num, by rw [hs.out], Hb6.out⟩
            case measure => simp [intOf]; omega
          · have e2' : ((k : Int) == (o : Int)) = false := by rw [beq_eq_false_iff_ne]; omega
            have e3 : (l2 - l1 != 0) = false := by rw [bne_eq_false_iff_eq]; simp [e1, e2] at hm; omega
            clear hm
            go_wp2_with fail
            go_roundw
            case rel => exact ⟨k + 1, by omega, by go_num, by rw [hs.out], Hb6.out⟩
            case measure => simp [intOf]; omega
      · obtain rfl : k = 3 := by omega
        have hbf := tlBefore HI.out x hx3
        have hs3 : sumLeft (ts x) 3 = tlLeft (ts x) 0 + tlLeft (ts x) 1 + tlLeft (ts x) 2 := by simp [sumLeft]
        rw [← hs3] at hbf
        generalize sumLeft (ts x) 3 = s0 at *
        clear hs3
        go_wp2_with fail
        refine (P1.out _).mono ?_
        rintro e w' ⟨rfl, rfl⟩
        go_wp2_with fail
        go_ret
        exact ⟨rfl, HTr.out.hb⟩
  · have CD := Lib.hid (ctDoMoveLess bm om cm' bu ou cu' (ts x) x o ho3 hxo (1 + z) w1 HA.out Hin.out hx3 (by omega) (by omega) (by omega))
    go_wp2_with fail
    refine CD.out.mono ?_
    rintro e w2 ⟨rfl, hb2⟩
    have ha : Below w2.heap.size w2 (w2.alloc (.cells #[.slice none 0 0, .slice none 0 0] 48)) := (Below.refl _ _).alloc (Nat.le_refl _) _
    have HT2 := Lib.hid ((HT.out.on hb2).on ha)
    clear hb2 ha CD HT HA g0 g1
    obtain ⟨⟨g0, g1⟩, -, -⟩ := HT2.out.cells x hx3
    have HA := Lib.hid (HT2.out.at' x hx3)
    rw [← Hax.out] at g0 g1 HA
    simp only [TA.c0, TA.c1] at g0 g1
    have CL := Lib.hid (ctLeft bm om cm' bu ou cu' (ts x) x _ HA.out Hin2.out hx3)
    generalize hl1 : tlLeft (ts x) x = l1 at *
    have Hl1 := Lib.hid hl1
    clear hl1
    have hlc2 : decide (l1 < 1 + z) = true := by simp; omega
    go_wp2_with fail
    refine CL.out.mono ?_
    rintro e w3 ⟨rfl, hb3⟩
    have Hb3 := Lib.hid (HT2.out.hb.trans (hb3.mono HT2.out.hb.size))
    clear hb3
    go_wp2_with fail
    go_ret
    exact ⟨rfl, Hb3.out⟩
end Go.Proofs.Ytkeefpeffeoakaa.tallyMoves
