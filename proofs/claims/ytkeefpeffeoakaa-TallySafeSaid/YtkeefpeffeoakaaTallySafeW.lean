/- TallySafe: the walk. -/
import Derived.Test.YtkeefpeffeoakaaTallyBox
namespace Go.Proofs.Ytkeefpeffeoakaa.tallySafe
open Go.ChangeShapes Go.WideShapes Go.ChangeAt Go.RowKit
set_option linter.unusedVariables false
def usedSum (ts : Nat → Tl) : Nat → Int
  | 0 => 0
  | k + 1 => usedSum ts k + (ts k).u k
def allSum (t : Tl) : Nat → Int
  | 0 => 0
  | k + 1 => allSum t k + (tlLeft t k + t.u k)
theorem usedSum_bd {N B : Int} {ts : Nat → Tl} (h : TlInv N B ts) : ∀ k, k ≤ 3 → 0 ≤ usedSum ts k ∧ usedSum ts k ≤ B * k
  | 0, _ => by simp [usedSum]
  | k + 1, hk => by
    have ih := usedSum_bd h k (by omega)
    have := (h.bd k (by omega)).2 k (by omega)
    have e : B * ((k + 1 : Nat) : Int) = B * k + B := by rw [Int.natCast_add, Int.mul_add]; simp
    simp only [usedSum]; rw [e]; omega
theorem allSum_bd {t : Tl} (h : TlIn t 1048576) : ∀ k, k ≤ 3 → -(6000000 * k) ≤ allSum t k ∧ allSum t k ≤ 6000000 * k
  | 0, _ => by simp [allSum]
  | k + 1, hk => by
    have ih := allSum_bd h k (by omega)
    have := h.2 k (by omega)
    have := tlLeft_bd t h k (by omega)
    simp only [allSum]; omega
end Go.Proofs.Ytkeefpeffeoakaa.tallySafe
namespace Go.Proofs.Ytkeefpeffeoakaa
open Go.ChangeShapes Go.WideShapes Go.ChangeAt Go.RowKit
theorem TlBox.put {w6 : World} {N bm om cm bu ou cu : Nat} {t : Tl} {p q : Value} (h : TlAt w6 bm om cm bu ou cu t) (hN : w6.heap[N]? = some (.cells #[p, q] 48 (0, 0))) :
    TlBox ((w6.setCell ⟨N, 0, none⟩ (.slice (some ⟨bm, om, none⟩) 3 cm)).setCell ⟨N, 1, none⟩ (.slice (some ⟨bu, ou, none⟩) 3 cu)) N t :=
  ⟨_, _, _, _, _, _, two_set hN _ _, h.chg (do_chg hN _ _) (by decide) (by decide)⟩
theorem Row3.ne {w : World} {b o N : Nat} {f : Nat → Int} {cs : Array Value} {r : Nat × Nat} (h : Row3 w b o f) (hN : w.heap[N]? = some (.cells cs 48 r)) : b ≠ N := by
  rintro rfl
  obtain ⟨cs', r', h'⟩ := h.t
  rw [hN] at h'
  simp only [Option.some.injEq, Obj.cells.injEq] at h'
  exact absurd h'.2.1 (by decide)
theorem TsAt.other {w wr w' : World} {B : Nat} {A : Nat → TA} {ts : Nat → Tl} (h : TsAt w wr B A ts) (hc : Chg [48] wr w') (hB : w'.heap[B]? = wr.heap[B]?) (hb : Below w.heap.size w w') : TsAt w w' B A ts :=
  ⟨by rw [hB]; exact h.b, fun v hv => (h.at' v hv).chg hc (by decide) (by decide), hb, h.lo⟩
end Go.Proofs.Ytkeefpeffeoakaa
namespace Go.Proofs.Ytkeefpeffeoakaa.tallySafe
open Go.ChangeShapes Go.WideShapes Go.ChangeAt Go.RowKit
set_option maxRecDepth 100000 in
set_option maxHeartbeats 8000000 in
theorem walk (w : World) (v0 : Value) (l : List Aff) (A0 : Has w 4 v0 l.length (affs l) ∧ ∀ a ∈ l, True) (a1 : Int) (w1 : (Lit.int .i64 a1).wf = true) :
    Calls Try.prog 6 #[v0, .int .i64 a1] w fun e w' => e = .returned (.bool true) ∧ Below w.heap.size w w' := by
  have CK := Lib.hid (cknown v0 l 60 a1 w A0.1 (by omega))
  obtain ⟨p0, p1⟩ := pick_bd a1 50 (by omega)
  have HI := Lib.hid (tlKnown_inv (1 + pick a1 50) (by omega) (by omega) l 60)
  have P1 := Lib.hid (fun X => picked a1 50 (by omega) (by omega) X)
  generalize pick a1 50 = q at *
  obtain ⟨ts, hts⟩ : ∃ ts, ts = tlKnown (1 + q) l 60 := ⟨_, rfl⟩
  rw [← hts] at CK HI
  clear A0 hts
  go_enter Try.func6, Try.ntmps6
  go_wp2_with fail
  refine CK.out.mono ?_
  rintro e w1 ⟨B, A, rfl, hT⟩
  have HT := Lib.hid hT
  clear hT CK
  go_wp2_with fail
  refine (cBlank w1).mono ?_
  rintro e w2 ⟨gm, cm, gu, cu, rfl, hT2, hb2⟩
  have hx := heap_alloc_new w2 (.cells #[.slice (some ⟨gm, 0, none⟩) 3 cm, .slice (some ⟨gu, 0, none⟩) 3 cu] 48)
  have hBox := (box1 (Below.refl w2.heap.size w2) hT2).1
  have HT3 := Lib.hid ((HT.out.on hb2).on ((Below.refl _ _).alloc (Nat.le_refl _) (.cells #[.slice (some ⟨gm, 0, none⟩) 3 cm, .slice (some ⟨gu, 0, none⟩) 3 cu] 48)))
  have hlo : w.heap.size ≤ w2.heap.size := Nat.le_trans HT.out.hb.size hb2.size
  have hNB : w2.heap.size ≠ B := by have := (Array.getElem?_eq_some_iff.1 (HT.out.on hb2).b).1; omega
  have HBox := Lib.hid hBox
  clear hx hT2 hb2 HT hBox
  generalize hW : w2.alloc (.cells #[.slice (some ⟨gm, 0, none⟩) 3 cm, .slice (some ⟨gu, 0, none⟩) 3 cu] 48) = W at *
  have HW := Lib.hid hW
  go_wp2_with fail
  clear hW
  generalize w2.heap.size = N at *
  go_loopw [7, 9] (fun s i wr => ∃ k : Nat, k ≤ 3 ∧ i = .int .i64 k ∧ s = .int .i64 (usedSum ts k) ∧ TsAt w wr B A ts ∧ TlBox wr N (tlAll ts k)) (fun _ i _ => 3 - (intOf i).toNat)
  case atStart => exact ⟨0, by omega, rfl, rfl, HT3.out, HBox.out⟩
  case round =>
    clear HT3 HBox HW
    obtain ⟨k, hk, rfl, rfl, hT, hBx⟩ := hrel
    have HT := Lib.hid hT
    have HBx := Lib.hid hBx
    clear hT hBx
    by_cases hlt : k < 3
    · obtain ⟨⟨g0, g1⟩, -, -⟩ := HT.out.cells k hlt
      have HA := Lib.hid (HT.out.at' k hlt)
      obtain ⟨ax, hax⟩ : ∃ ax, ax = A k := ⟨_, rfl⟩
      rw [← hax] at g0 g1 HA
      obtain ⟨bm, om, cm', bu, ou, cu'⟩ := ax
      simp only [TA.c0, TA.c1] at g0 g1
      obtain ⟨bn, on, cn, dn, qn, fn, hN, hAN⟩ := HBx.out
      have HN := Lib.hid hN
      have HAN := Lib.hid hAN
      have hin : TlIn (ts k) 1048576 := (HI.out.bd k hlt).mono (by omega)
      have hinA : TlIn (tlAll ts k) 1048576 := (tlAll_in HI.out (by omega) k (by omega)).mono (by omega)
      have hl0 := HI.out.left k hlt
      have hlb := tlLeft_bd (ts k) hin k hlt
      have hub := (HI.out.bd k hlt).2 k hlt
      have hsb := usedSum_bd HI.out k (by omega)
      have hs : Hid (usedSum ts k + (ts k).u k = usedSum ts (k + 1)) := rfl
      have hal : Hid (tlMax (tlAll ts k) (ts k) = tlAll ts (k + 1)) := rfl
      have CL := Lib.hid (ctLeft bm om cm' bu ou cu' (ts k) k wr HA.out hin hlt)
      have HU := Lib.hid HA.out.u
      have Hax := Lib.hid hax
      have hkk : (k : Int) * 2 = ((k * 2 : Nat) : Int) := by omega
      have hsz0 : usedSum ts k ≤ 1770 := by have := hsb.2; rcases (show k = 0 ∨ k = 1 ∨ k = 2 by omega) with rfl | rfl | rfl <;> simp at this <;> omega
      obtain ⟨hsz1, -⟩ := hsb
      have hcu := HA.out.cu
      clear hin hN hAN hax hkk
      generalize usedSum ts k = s0 at *
      generalize hlf : tlLeft (ts k) k = lf at *
      go_wp2_with fail
      refine CL.out.mono ?_
      rintro e w5 ⟨rfl, hb5⟩
      have hNB' := hNB
      obtain ⟨n0, n1, -, -⟩ := two_cells HN.out
      replace n0 := cell_on hb5 n0
      replace n1 := cell_on hb5 n1
      replace g0 := cell_on hb5 g0
      replace g1 := cell_on hb5 g1
      have HT5 := Lib.hid (HT.out.on hb5)
      have hS : Hid ((w5.cell? ⟨N, 0, none⟩ = some (.slice (some ⟨bn, on, none⟩) 3 cn) ∧ w5.cell? ⟨N, 0 + 1, none⟩ = some (.slice (some ⟨dn, qn, none⟩) 3 fn)) ∧ (w5.cell? ⟨B, k * 2, none⟩ = some (.slice (some ⟨bm, om, none⟩) 3 cm') ∧ w5.cell? ⟨B, k * 2 + 1, none⟩ = some (.slice (some ⟨bu, ou, none⟩) 3 cu'))) := ⟨⟨n0, n1⟩, g0, g1⟩
      have hin2 : TlIn (ts k) 1048576 := (HI.out.bd k hlt).mono (by omega)
      have CM : Hid (∀ Z, Below w5.heap.size w5 Z → _) := fun Z hZ => ctMerge bn on cn dn qn fn bm om cm' bu ou cu' _ _ Z ((HAN.out.on hb5).on hZ) ((HA.out.on hb5).on hZ) hinA hin2
      have HN5 : Hid (w5.heap[N]? = some (.cells #[.slice (some ⟨bn, on, none⟩) 3 cn, .slice (some ⟨dn, qn, none⟩) 3 fn] 48 (0, 0))) := by unfold Hid; rw [hb5.block _ (Array.getElem?_eq_some_iff.1 HN.out).1]; exact HN.out
      have HU5 := Lib.hid (HU.out.on hb5)
      clear CL hinA hin2 hb5 HAN HA HN HU HT HBx hlf
      go_upto_region 10 with (fail)
      clear n0 n1 g0 g1
      go_region_held3 (fun Z => (Z.cell? ⟨N, 0, none⟩ = some (.slice (some ⟨bn, on, none⟩) 3 cn) ∧ Z.cell? ⟨N, 0 + 1, none⟩ = some (.slice (some ⟨dn, qn, none⟩) 3 fn)) ∧ (Z.cell? ⟨B, k * 2, none⟩ = some (.slice (some ⟨bm, om, none⟩) 3 cm') ∧ Z.cell? ⟨B, k * 2 + 1, none⟩ = some (.slice (some ⟨bu, ou, none⟩) 3 cu')))
        (first | exact hS.out | exact pair_on (by repeat (first | exact hb6 | exact Below.refl _ _ | refine Below.drew ?_ | refine Below.alloc ?_ (by first | exact hb6.size | (simp; done) | (simp; omega)) _ | refine Below.setCell ?_ (by first | (simp; done) | (simp; omega)) _)) hS.out | (go_keep; done))
        ((go_at_call 23; refine (CM.out _ (by repeat (first | exact Below.refl _ _ | refine Below.drew ?_ | refine Below.alloc ?_ (by first | (simp; done) | (simp; omega)) _ | refine Below.setCell ?_ (by first | (simp; done) | (simp; omega)) _))).mono ?_; rintro e w6 ⟨gm6, cm6, gu6, cu6, rfl, hT6, hb6'⟩; have hb6 : Below w5.heap.size w5 w6 := Below.trans (b := _) (by repeat (first | exact Below.refl _ _ | refine Below.drew ?_ | refine Below.alloc ?_ (by first | (simp; done) | (simp; omega)) _ | refine Below.setCell ?_ (by first | (simp; done) | (simp; omega)) _)) (hb6'.mono (by first | exact Nat.le_refl _ | (simp [heap_drew]; done) | (simp [heap_drew]; omega))); try (have hN := next_kept hb6'; obtain ⟨z0, z1, z2, z3⟩ := two_cells hN)))
      all_goals
        first
          | (obtain ⟨hX, hbX⟩ := box2 hb6 hT6 hN
             clear hN z0 z1 z2 z3
             generalize (w6.setCell ⟨w5.heap.size, 0, none⟩ (.slice (some ⟨gm6, 0, none⟩) 3 cm6)).setCell ⟨w5.heap.size, 1, none⟩ (.slice (some ⟨gu6, 0, none⟩) 3 cu6) = W7 at *)
          | (obtain ⟨hX, hbX⟩ := box1 hb6 hT6
             generalize w6.alloc (.cells #[.slice (some ⟨gm6, 0, none⟩) 3 cm6, .slice (some ⟨gu6, 0, none⟩) 3 cu6] 48) = W7 at *)
        rw [hal.out] at hX
        obtain ⟨bx, ox, cx, dx, qx, fx, hM, hTM⟩ := hX
        obtain ⟨m0, m1, -, -⟩ := two_cells hM
        have HN7 : W7.heap[N]? = some (.cells #[.slice (some ⟨bn, on, none⟩) 3 cn, .slice (some ⟨dn, qn, none⟩) 3 fn] 48 (0, 0)) := by rw [hbX.block _ (Array.getElem?_eq_some_iff.1 HN5.out).1]; exact HN5.out
        obtain ⟨n0, n1, nf0, nf1⟩ := two_cells HN7
        have HT7 := Lib.hid (HT5.out.on hbX)
        obtain ⟨⟨g0, g1⟩, -, -⟩ := HT7.out.cells k hlt
        rw [← Hax.out] at g0 g1
        simp only [TA.c0, TA.c1] at g0 g1
        have hU := HU5.out.on hbX
        have u0 := hU.c k hlt
        have hun := hU.ne HN7
        have HP := Lib.hid (TlBox.put hTM HN7)
        have hBN : B ≠ N := fun e => hNB e.symm
        have Hch := Lib.hid (do_chg HN7 (.slice (some ⟨bx, ox, none⟩) 3 cx) (.slice (some ⟨dx, qx, none⟩) 3 fx))
        have HlN : Hid (w.heap.size ≤ N) := hlo
        generalize (ts k).u k = uk at *
        clear hU hM hTM HN7 HN5 HU5 HT5 hS CM hbX hT6 hb6 hb6'
        go_wp2_with fail
        go_roundw
        case rel =>
          refine ⟨k + 1, by omega, by go_num, by rw [hs.out], HT7.out.other Hch.out ?_ ((HT7.out.hb.setCell HlN.out _).setCell HlN.out _), HP.out⟩
          rw [Below.heap_setCell _ _ _ _ hBN, Below.heap_setCell _ _ _ _ hBN]
        case measure => simp [intOf]; omega
    · obtain rfl : k = 3 := by omega
      have hu3 := tlUsed HI.out
      have hs3 : usedSum ts 3 = (ts 0).u 0 + (ts 1).u 1 + (ts 2).u 2 := by simp [usedSum]
      rw [← hs3] at hu3
      have hinA : TlIn (tlAll ts 3) 1048576 := (tlAll_in HI.out (by omega) 3 (by omega)).mono (by omega)
      have HinA := Lib.hid hinA
      have hsum := tlAll_sum HI.out
      have hsum3 : allSum (tlAll ts 3) 3 = 1 + q := by simp [allSum]; omega
      have HS := Lib.hid hsum3
      obtain ⟨bn, on, cn, dn, qn, fn, hN, hAN⟩ := HBx.out
      obtain ⟨n0, n1, -, -⟩ := two_cells hN
      have HN := Lib.hid hN
      have HAN := Lib.hid hAN
      generalize usedSum ts 3 = s0 at *
      clear hs3 hinA hsum hsum3 hN hAN HBx
      go_wp2_with fail
      refine (P1.out _).mono ?_
      rintro e w' ⟨rfl, rfl⟩
      have hgt : decide (1 + q < s0) = false := by simp; omega
      go_wp2_with fail
      clear n0 n1 hgt hu3
      have Hm := Lib.hid (fun i hi => tlAll_u HI.out i hi)
      have Hle := Lib.hid (fun x hx => tlLeft_all HI.out x hx)
      generalize tlAll ts 3 = t4 at *
      obtain ⟨w9, rfl⟩ : ∃ x, x = wr := ⟨_, rfl⟩
      go_loopw [14, 15] (fun s i wr => ∃ k : Nat, k ≤ 3 ∧ i = .int .i64 k ∧ s = .int .i64 (allSum t4 k) ∧ Below w9.heap.size w9 wr) (fun _ i _ => 3 - (intOf i).toNat)
      case atStart => exact ⟨0, by omega, rfl, rfl, Below.refl _ _⟩
      case round =>
        obtain ⟨k, hk, rfl, rfl, hb⟩ := hrel
        have Hb := Lib.hid hb
        have HTk := Lib.hid (HT.out.on hb)
        by_cases hlt : k < 3
        · obtain ⟨n0, n1, -, -⟩ := two_cells HN.out
          have N0 := Lib.hid n0
          have N1 := Lib.hid n1
          replace n0 := cell_on hb n0
          replace n1 := cell_on hb n1
          have hsb := allSum_bd HinA.out k (by omega)
          have hs : Hid (allSum t4 k + (tlLeft t4 k + t4.u k) = allSum t4 (k + 1)) := rfl
          have hla := tlLeft_bd t4 HinA.out k hlt
          have hua := HinA.out.2 k hlt
          have hsz0 : -18000000 ≤ allSum t4 k ∧ allSum t4 k ≤ 18000000 := by rcases (show k = 0 ∨ k = 1 ∨ k = 2 by omega) with rfl | rfl | rfl <;> simp at hsb <;> omega
          have hin2 : TlIn (ts k) 1048576 := (HI.out.bd k hlt).mono (by omega)
          have hlk := tlLeft_bd (ts k) hin2 k hlt
          have hle2 := Hle.out k hlt
          have hue := Hm.out k hlt
          have CA := Lib.hid (ctLeft bn on cn dn qn fn t4 k wr (HAN.out.on hb) HinA.out hlt)
          have hd1 : decide (tlLeft t4 k < tlLeft (ts k) k) = false := by simp; omega
          have hd2 : (t4.u k != (ts k).u k) = false := by rw [bne_eq_false_iff_eq]; exact hue
          have Hin2 := Lib.hid hin2
          have hfn := HAN.out.cu
          clear hb hsb hle2 hue hin2
          generalize allSum t4 k = s1 at *
          generalize hA1 : tlLeft t4 k = lA at *
          generalize hA2 : tlLeft (ts k) k = lT at *
          generalize hA3 : t4.u k = uA at *
          generalize hA4 : (ts k).u k = uT at *
          have HA2 := Lib.hid hA2
          have HA3 := Lib.hid hA3
          have HA4 := Lib.hid hA4
          clear hA1 hA2 hA3 hA4
          go_wp2_with fail
          refine CA.out.mono ?_
          rintro e w5 ⟨rfl, hb5⟩
          have Hb5 : Hid (Below w9.heap.size w9 w5) := Hb.out.trans (hb5.mono Hb.out.size)
          have HT5 := Lib.hid (HTk.out.on hb5)
          clear hb5 CA n0 n1
          obtain ⟨⟨g0, g1⟩, -, -⟩ := HT5.out.cells k hlt
          have HA := Lib.hid (HT5.out.at' k hlt)
          obtain ⟨ax, hax⟩ : ∃ ax, ax = A k := ⟨_, rfl⟩
          rw [← hax] at g0 g1 HA
          obtain ⟨bm, om, cm', bu, ou, cu'⟩ := ax
          simp only [TA.c0, TA.c1] at g0 g1
          have CL := Lib.hid (ctLeft bm om cm' bu ou cu' (ts k) k w5 HA.out Hin2.out hlt)
          have hcu := HA.out.cu
          clear hax
          go_wp2_with fail
          refine CL.out.mono ?_
          rintro e w6 ⟨rfl, hb6⟩
          rw [HA2.out]
          have Hb6 : Hid (Below w9.heap.size w9 w6) := Hb5.out.trans (hb6.mono Hb5.out.size)
          replace g0 := cell_on hb6 g0
          replace g1 := cell_on hb6 g1
          have u1 := (HA.out.u.on hb6).c k hlt
          rw [HA4.out] at u1
          have u2 := (HAN.out.u.on Hb6.out).c k hlt
          rw [HA3.out] at u2
          have n1 := cell_on Hb6.out N1.out
          have U2 := Lib.hid u2
          have N2 := Lib.hid n1
          clear hb6 CL HA HT5 Hb5
          go_upto_region 23 with (fail)
          go_quiet (fail)
          have Hb7 : Hid (Below w9.heap.size w9 (w6.drewN nq)) := below_drewN Hb6.out _
          clear g0 g1 u1
          go_wp2_with fail
          go_roundw
          case rel => exact ⟨k + 1, by omega, by go_num, by rw [← hs.out], Hb7.out⟩
          case measure => simp [intOf]; omega
        · obtain rfl : k = 3 := by omega
          have he : (1 + q == 1 + q) = true := by simp
          rw [HS.out]
          clear hb
          go_wp2_with fail
          refine (P1.out _).mono ?_
          rintro e w' ⟨rfl, rfl⟩
          go_wp2_with fail
          go_ret
          exact ⟨rfl, HTk.out.hb⟩
end Go.Proofs.Ytkeefpeffeoakaa.tallySafe
