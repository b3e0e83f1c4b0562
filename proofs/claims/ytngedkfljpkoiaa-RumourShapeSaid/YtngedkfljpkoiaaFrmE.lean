/- Package frame: Rumour, the walk. -/
import Derived.Test.YtngedkfljpkoiaaFrmD
namespace Go.Proofs.Ytngedkfljpkoiaa
open Go.ChangeShapes Go.WideShapes Go.ChangeAt Go.RowKit
set_option linter.unusedVariables false
set_option linter.unusedSimpArgs false

theorem StoreH.at {w : World} {v : Value} {m : Nat} {vs : Nat → Value} {l : Nat → List Ent} (h : StoreH w v m vs l) (j : Nat) (hj : j < m) : ∃ b o cap, v = .slice (some ⟨b, o, none⟩) m cap ∧ w.cell? ⟨b, o + j, none⟩ = some (vs j) := by
  obtain ⟨_, a, cap, rfl, _, _, hc⟩ := h.row
  obtain ⟨b, o, rfl, hcc⟩ := hc (by simp; omega)
  exact ⟨b, o, cap, rfl, hcc j _ (by simp [hj])⟩
theorem index8_0 (a0 a1 a2 a3 a4 a5 a6 a7 : Value) (X : World) : (Instr.index 70 (.agg #[a0, a1, a2, a3, a4, a5, a6, a7]) (.int .i64 0)).run Try.prog X = .ok a0 X := by kernel_rfl
theorem index8_1 (a0 a1 a2 a3 a4 a5 a6 a7 : Value) (X : World) : (Instr.index 70 (.agg #[a0, a1, a2, a3, a4, a5, a6, a7]) (.int .i64 1)).run Try.prog X = .ok a1 X := by kernel_rfl
theorem index8_2 (a0 a1 a2 a3 a4 a5 a6 a7 : Value) (X : World) : (Instr.index 70 (.agg #[a0, a1, a2, a3, a4, a5, a6, a7]) (.int .i64 2)).run Try.prog X = .ok a2 X := by kernel_rfl
theorem index8_3 (a0 a1 a2 a3 a4 a5 a6 a7 : Value) (X : World) : (Instr.index 70 (.agg #[a0, a1, a2, a3, a4, a5, a6, a7]) (.int .i64 3)).run Try.prog X = .ok a3 X := by kernel_rfl
theorem index8_4 (a0 a1 a2 a3 a4 a5 a6 a7 : Value) (X : World) : (Instr.index 70 (.agg #[a0, a1, a2, a3, a4, a5, a6, a7]) (.int .i64 4)).run Try.prog X = .ok a4 X := by kernel_rfl
theorem index8_5 (a0 a1 a2 a3 a4 a5 a6 a7 : Value) (X : World) : (Instr.index 70 (.agg #[a0, a1, a2, a3, a4, a5, a6, a7]) (.int .i64 5)).run Try.prog X = .ok a5 X := by kernel_rfl
theorem index8_6 (a0 a1 a2 a3 a4 a5 a6 a7 : Value) (X : World) : (Instr.index 70 (.agg #[a0, a1, a2, a3, a4, a5, a6, a7]) (.int .i64 6)).run Try.prog X = .ok a6 X := by kernel_rfl
theorem index8_7 (a0 a1 a2 a3 a4 a5 a6 a7 : Value) (X : World) : (Instr.index 70 (.agg #[a0, a1, a2, a3, a4, a5, a6, a7]) (.int .i64 7)).run Try.prog X = .ok a7 X := by kernel_rfl
theorem five_far {w : World} {E S k : Nat} {u a0 a1 a2 a3 a4 : Value} (h : S ≠ E) (z0 : w.cell? ⟨E, 0, none⟩ = some a0) (z1 : w.cell? ⟨E, 1, none⟩ = some a1) (z2 : w.cell? ⟨E, 2, none⟩ = some a2) (z3 : w.cell? ⟨E, 3, none⟩ = some a3) (z4 : w.cell? ⟨E, 4, none⟩ = some a4) :
    (w.setCell ⟨S, k, none⟩ u).cell? ⟨E, 0, none⟩ = some a0 ∧ (w.setCell ⟨S, k, none⟩ u).cell? ⟨E, 1, none⟩ = some a1 ∧ (w.setCell ⟨S, k, none⟩ u).cell? ⟨E, 2, none⟩ = some a2 ∧ (w.setCell ⟨S, k, none⟩ u).cell? ⟨E, 3, none⟩ = some a3 ∧ (w.setCell ⟨S, k, none⟩ u).cell? ⟨E, 4, none⟩ = some a4 := by
  refine ⟨?_, ?_, ?_, ?_, ?_⟩ <;> rw [World.cell?_setCell_far _ _ _ _ h] <;> assumption
set_option maxRecDepth 100000 in
set_option maxHeartbeats 8000000 in
theorem cRumour {w : World} {c : Cfg} {vl vm : Value} (hc : c.Ok) (h : CfgAt w c vl vm) (f t : Nat) (hf : f < c.n) (ht : t < c.n) (v : Value) (vs : Nat → Value) (l : Nat → List Ent) (hs : StoreH w v c.labs.length vs l) :
    Calls Try.prog 19 #[.agg (c.cells vl vm), .int .i64 f, .int .i64 t, v] w fun e w' => ∃ v', e = .returned (.tuple #[v', .int .i64 0]) ∧ w'.ownsRow w.heap.size 5 1 v' (recSize (rumF c.labs f t l)) (recBytes (rumF c.labs f t l)) ∧ Below w.heap.size w w' := by
  have hb := cfg_box w c vl vm
  obtain ⟨x0, x1, x2, x3, x4⟩ := cfg_at (heap_alloc_new w (.cells (c.cells vl vm) 48))
  have H := Lib.hid (h.on hb)
  have S := Lib.hid (hs.on hb)
  have Hb := Lib.hid hb
  have hlen := hc.len
  have hn := hc.n
  have hf4 : f < 4 := by omega
  have ht4 : t < 4 := by omega
  have Hc := Lib.hid hc
  have Hok := Lib.hid (rumF_ok (f := f) (t := t) hlen hs.ok)
  have KM := Lib.hid (fun (X : World) (hX : CfgAt X c vl vm) => cFMay hc hX)
  have KB := Lib.hid (fun (X : World) (vv : Value) (hX : Has X 1 vv 2 (ints [(f : Int), (t : Int)])) => cBranch (w := X) (vl := vl) (vm := vm) hc vv f t hf ht hX)
  have KS := Lib.hid (fun (X : World) (hX : CfgAt X c vl vm) => cShared hc hX f t hf4 ht4)
  have KI := Lib.hid (fun (X : World) (hX : StoreH X v c.labs.length vs l) => cHasStore hX hlen)
  obtain ⟨_, la, cl, rfl, hcl1, hcl2, _⟩ := h.hl
  obtain ⟨_, ma, cm, rfl, hcm1, hcm2, _⟩ := h.hm
  obtain ⟨_, sa, sc, rfl, hsc1, hsc2, _⟩ := hs.row
  unfold maxLen at hcl2 hcm2 hsc2
  have hll : ((c.labs.length : Int) != (c.labs.length : Int)) = false := by simp
  unfold Cfg.cells at x0 x1 x2 x3 x4 Hb H S hb KM KB KS ⊢
  clear hb hc h hs
  go_enter Try.func19, Try.ntmps19
  go_upto_region 1 with (fail)
  generalize (w.alloc (.cells #[.int .i64 c.n, .slice la c.labs.length cl, .int .i64 c.ticks, .slice ma c.minted.length cm, .int .i64 c.cap] 48)) = W at *
  go_wp2_with fail
  refine (KM.out _ H.out).mono ?_
  rintro e w1 ⟨rfl, hb1⟩
  have H1 := Lib.hid (H.out.on hb1)
  have S1 := Lib.hid (S.out.on hb1)
  have Hb1 := Lib.hid hb1
  replace x0 := cell_on hb1 x0
  replace x1 := cell_on hb1 x1
  replace x2 := cell_on hb1 x2
  replace x3 := cell_on hb1 x3
  replace x4 := cell_on hb1 x4
  clear hb1 KM H S
  have hba : Below w1.heap.size w1 (w1.alloc (.cells #[.int .i64 f, .int .i64 t] 3)) := (Below.refl _ _).alloc (Nat.le_refl _) _
  have KB1 := Lib.hid (KB.out (w1.alloc (.cells #[.int .i64 f, .int .i64 t] 3)) (.slice (some ⟨w1.heap.size, 0, none⟩) 2 2) (has_block (wp := w1) (cs := ints [(f : Int), (t : Int)]) (heap_alloc_new _ _) rfl rfl (by decide)))
  have Hba := Lib.hid hba
  clear KB hba
  go_wp2_with fail
  refine KB1.out.mono ?_
  rintro e w2 ⟨rfl, hb2⟩
  have hb12 : Below w1.heap.size w1 w2 := Hba.out.trans (hb2.mono Hba.out.size)
  have H2 := Lib.hid (H1.out.on hb12)
  have S2 := Lib.hid (S1.out.on hb12)
  have Hb2 := Lib.hid (Hb1.out.trans (hb12.mono Hb1.out.size))
  replace x0 := cell_on hb12 x0
  replace x1 := cell_on hb12 x1
  replace x2 := cell_on hb12 x2
  replace x3 := cell_on hb12 x3
  replace x4 := cell_on hb12 x4
  clear hb2 hb12 KB1 Hba H1 S1 Hb1
  go_wp2_with fail
  refine (KI.out _ S2.out).mono ?_
  rintro e w3 ⟨rfl, hb3⟩
  have H3 := Lib.hid (H2.out.on hb3)
  have S3 := Lib.hid (S2.out.on hb3)
  have Hb3 := Lib.hid (Hb2.out.trans (hb3.mono Hb2.out.size))
  replace x0 := cell_on hb3 x0
  replace x1 := cell_on hb3 x1
  replace x2 := cell_on hb3 x2
  replace x3 := cell_on hb3 x3
  replace x4 := cell_on hb3 x4
  clear hb3 KI H2 S2 Hb2
  go_wp2_with fail
  refine (KS.out _ H3.out).mono ?_
  rintro e w4 ⟨vi, rfl, howni, hb4⟩
  obtain ⟨ai, ci, rfl⟩ := owns_slice howni
  have S4 := Lib.hid (S3.out.on hb4)
  have HI := Lib.hid (Has.of_owns howni)
  have Hb4 := Lib.hid (Hb.out.trans ((Hb3.out.trans (hb4.mono Hb3.out.size)).mono Hb.out.size))
  have hix := shr_mem c.labs f t c.labs.length
  have hil := shr_len c.labs f t c.labs.length
  have Hix := Lib.hid hix
  have hF : rumF c.labs f t l = rumK (shr c.labs f t c.labs.length) l (shr c.labs f t c.labs.length).length 0 := by
    rw [rumK_zero, List.take_length]; rfl
  rw [hF] at Hok
  have HF := Lib.hid hF
  generalize shr c.labs f t c.labs.length = ix at *
  have hib : ix.length ≤ ci ∧ ci ≤ maxLen := by
    obtain ⟨_, _, _, he, h1, h2, _⟩ := HI.out
    simp only [Value.slice.injEq] at he
    obtain ⟨-, -, rfl⟩ := he
    exact ⟨h1, h2⟩
  obtain ⟨hib1, hib2⟩ := hib
  unfold maxLen at hib2
  clear hb4 KS H3 S3 Hb3 howni hix hF x0 x1 x2 x3 x4 Hb
  go_wp2_with fail
  go_loopw [10, 12, 13, 15, 17, 44] (fun out _ _ _ _ i wr => ∃ k : Nat, k ≤ ix.length ∧ i = .int .i64 k ∧ wr.ownsRow w4.heap.size 73 2 out (rumK ix l k 0).length (flds (rumK ix l k 0)) ∧ Below w4.heap.size w4 wr) (fun _ _ _ _ _ i _ => ix.length - (intOf i).toNat)
  case atStart => exact ⟨0, by omega, rfl, by rw [rumK_zero]; exact World.ownsRow_nil _ _ _ _, Below.refl _ _⟩
  case round =>
    obtain ⟨k, hk, rfl, ho, hB⟩ := hrel
    have HO := Lib.hid ho
    have HB := Lib.hid hB
    clear ho hB
    by_cases hlt : k < ix.length
    · have hltz : (k : Int) < (ix.length : Int) := by omega
      have him := ((Hix.out ix[k]).1 (List.getElem_mem hlt)).1
      obtain ⟨⟨hl0, _⟩, _, _, he, _, _, hcc⟩ := HI.out
      simp only [Value.slice.injEq] at he
      obtain ⟨rfl, -, rfl⟩ := he
      obtain ⟨bi, oi, rfl, hcell⟩ := hcc (by rw [ints_length, labInts_length']; omega)
      have x0 := cell_on HB.out (hcell k (.int .i64 ix[k]) (by rw [ints_get _ k (by rw [labInts_length']; exact hlt)]; simp [labInts]))
      have S5 := S4.out.on HB.out
      obtain ⟨bs, os, cs', he, y0⟩ := S5.at ix[k] him
      simp only [Value.slice.injEq] at he
      obtain ⟨rfl, -, rfl⟩ := he
      have HE := Lib.hid (S5.rows ix[k] him)
      obtain ⟨hEk, hEv⟩ := S5.ok ix[k] him
      have HEk := Lib.hid hEk
      have HEv := Lib.hid hEv
      obtain ⟨_, ae, ce, hve, _, hce, _⟩ := S5.rows ix[k] him
      unfold maxLen at hce
      rw [hve] at y0 HE
      have Hks := Lib.hid (fun r (hr : r < 8) => rumK_snoc ix l k r hlt hr)
      have Hkn := Lib.hid (rumK_next ix l k hlt)
      have Hkl := Lib.hid (fun r (hr : r ≤ 8) => rumK_len ix l k r (by omega) hr)
      have hikz : ((ix[k] : Nat) : Int) < (c.labs.length : Int) := by omega
      generalize l ix[k] = es at *
      generalize ix[k] = q at *
      clear hcell hcc hl0 S5 hEk hEv hve
      have hszw := HB.out.size
      have Hb13 := Lib.hid (show Below wr.heap.size wr (wr.alloc (.cells #[.int .i64 0, .int .i64 0, .int .i64 0, .int .i64 0, .int .i64 0, .int .i64 0, .int .i64 0, .int .i64 0] 70)) from (Below.refl _ _).alloc (Nat.le_refl _) _)
      go_upto_region 14 with (fail)
      obtain ⟨wo, hwo⟩ : ∃ x, x = wr := ⟨_, rfl⟩
      rw [← hwo] at HO HB hszw Hb13 x0 y0 HE ⊢
      clear hwo
      have hS0 : Hid (SlotsAt (wo.alloc (.cells #[.int .i64 0, .int .i64 0, .int .i64 0, .int .i64 0, .int .i64 0, .int .i64 0, .int .i64 0, .int .i64 0] 70)) wo.heap.size (es.take 0)) := ⟨heap_alloc_new _ _⟩
      replace y0 := cell_on Hb13.out y0
      have hsz1 : wo.heap.size < (wo.alloc (.cells #[.int .i64 0, .int .i64 0, .int .i64 0, .int .i64 0, .int .i64 0, .int .i64 0, .int .i64 0, .int .i64 0] 70)).heap.size := by simp
      generalize (wo.alloc (.cells #[.int .i64 0, .int .i64 0, .int .i64 0, .int .i64 0, .int .i64 0, .int .i64 0, .int .i64 0, .int .i64 0] 70)) = W5 at *
      clear x0
      go_wp2_with fail
      clear y0
      go_loopw [15, 53] (fun _ i wr => ∃ j : Nat, j ≤ es.length ∧ i = .int .i64 j ∧ Hid (SlotsAt wr wo.heap.size (es.take j)) ∧ Hid (Below wo.heap.size wo wr)) (fun _ i _ => es.length - (intOf i).toNat)
      case atStart => exact ⟨0, by omega, rfl, hS0, Hb13⟩
      case round =>
        clear hS0 Hb13
        obtain ⟨j, hj, rfl, HS, HBj⟩ := hrel
        by_cases hjl : j < es.length
        · have hjz : (j : Int) < (es.length : Int) := by omega
          obtain ⟨b, off, cap, he, -, x0, x1, x2, x3, x4⟩ := ent_get (HE.out.below HBj.out) j hjl
          simp only [Value.slice.injEq] at he
          obtain ⟨rfl, -, rfl⟩ := he
          have hbl := World.block_lt_of_cell? wr _ x0
          obtain ⟨hk0, hk8⟩ := HEk.out.eight _ (List.getElem_mem hjl)
          have hv := HEv.out _ (List.getElem_mem hjl)
          have hok := HEk.out.may.ok _ (List.getElem_mem hjl)
          obtain ⟨kk, hkk⟩ : ∃ kk : Nat, es[j].k = kk := ⟨es[j].k.toNat, by omega⟩
          have hkk8 : kk < 8 := by omega
          have Hset := Lib.hid (fun (X : World) (hX : SlotsAt X wo.heap.size (es.take j)) => hX.set HEk.out hjl hkk)
          have CS := Lib.hid (fun X => cslot es[j] hok hv X)
          generalize slotOf es[j] = sl at *
          generalize es[j] = x at *
          have hbx := ent_box (w := wr) x
          obtain ⟨⟨z0, z1, z2, z3, z4⟩, -⟩ := five_at (heap_alloc_new wr (.cells #[.int .i64 x.k, .int .i64 x.v, .int .i64 x.t, .int .i64 x.h, .bool x.g] 41))
          have HBx := Lib.hid (HBj.out.trans (hbx.mono HBj.out.size))
          have HSx := Lib.hid (HS.out.on hbx)
          obtain ⟨s0, sf⟩ := HSx.out.cell kk hkk8
          have hkz : decide ((8 : Int) ≤ (kk : Int)) = false := by simp; omega
          have hvz : decide ((255 : Int) < x.v) = false := by simp; omega
          have hbE := hbx.size
          obtain ⟨xk, xv, xt, xh, xg⟩ := x
          simp only at *
          subst hkk
          clear hbx hok hk0 hk8
          go_upto_region 17 with (fail)
          generalize (wr.alloc (.cells #[.int .i64 kk, .int .i64 xv, .int .i64 xt, .int .i64 xh, .bool xg] 41)) = W6 at *
          have HSw := HS
          clear x0 x1 x2 x3 x4 HS HBj
          go_upto_region 19 with (fail)
          have hkz8 : (kk : Int) < 8 := by omega
          have hEO : wo.heap.size ≠ wr.heap.size := by
            have := (Array.getElem?_eq_some_iff.1 HSw.out.cells).1; omega
          go_region_held3 (fun X => X.cell? ⟨wr.heap.size, 0, none⟩ = some (.int .i64 kk) ∧ X.cell? ⟨wr.heap.size, 1, none⟩ = some (.int .i64 xv) ∧ X.cell? ⟨wr.heap.size, 2, none⟩ = some (.int .i64 xt) ∧ X.cell? ⟨wr.heap.size, 3, none⟩ = some (.int .i64 xh) ∧ X.cell? ⟨wr.heap.size, 4, none⟩ = some (.bool xg))
            (first | go_keep | exact ⟨z0, z1, z2, z3, z4⟩ | exact five_far hEO (cell_on hb7 z0) (cell_on hb7 z1) (cell_on hb7 z2) (cell_on hb7 z3) (cell_on hb7 z4) | exact ⟨cell_on hb7 z0, cell_on hb7 z1, cell_on hb7 z2, cell_on hb7 z3, cell_on hb7 z4⟩)
            ((go_at_call 30; refine (CS.out _).mono ?_; rintro e w7 ⟨rfl, hb7⟩; have hS7 := HSx.out.on ((Below.drew (Below.refl _ _)).trans hb7); obtain ⟨s7, sf7⟩ := hS7.cell kk hkk8))
          all_goals
            have hS8 := Hset.out _ hS7
            have hB8 : Hid (Below wo.heap.size wo (w7.setCell ⟨wo.heap.size, kk, none⟩ (.int .i64 sl))) := (HBx.out.trans (((Below.drew (Below.refl _ _)).trans hb7).mono HBx.out.size)).setCell (Nat.le_refl _) _
            clear hS7 s7 sf7 hb7 CS HSw HSx HBx z0 z1 z2 z3 z4
            go_wp2_with fail
            go_roundw
            case rel => exact ⟨j + 1, by omega, by go_num, hS8, hB8⟩
            case measure => first | (simp [intOf]; done) | (simp [intOf]; omega)
        · obtain rfl : j = es.length := by omega
          have hSf : Hid (SlotsAt wr wo.heap.size es) := by have := HS.out; rwa [List.take_length] at this
          obtain ⟨p0, -⟩ := hSf.out.cell 0 (by omega)
          obtain ⟨p1, -⟩ := hSf.out.cell 1 (by omega)
          obtain ⟨p2, -⟩ := hSf.out.cell 2 (by omega)
          obtain ⟨p3, -⟩ := hSf.out.cell 3 (by omega)
          obtain ⟨p4, -⟩ := hSf.out.cell 4 (by omega)
          obtain ⟨p5, -⟩ := hSf.out.cell 5 (by omega)
          obtain ⟨p6, -⟩ := hSf.out.cell 6 (by omega)
          obtain ⟨p7, -⟩ := hSf.out.cell 7 (by omega)
          have HO8 := Lib.hid (owns_below HO.out HBj.out)
          have HB8 := Lib.hid (HB.out.trans (HBj.out.mono HB.out.size))
          clear HS HBj
          go_wp2_with fail
          clear p0 p1 p2 p3 p4 p5 p6 p7 hSf
          go_loopw [10, 17, 72] (fun out _ i wr2 => ∃ r : Nat, r ≤ 8 ∧ i = .int .i64 r ∧ wr2.ownsRow w4.heap.size 73 2 out (rumK ix l k r).length (flds (rumK ix l k r)) ∧ Hid (Below w4.heap.size w4 wr2)) (fun _ _ i _ => 8 - (intOf i).toNat)
          case atStart => exact ⟨0, by omega, rfl, HO8.out, HB8⟩
          case round =>
            clear HO8 HB8
            obtain ⟨r, hr, rfl, ho9, HB9⟩ := hrel
            have HO9 := Lib.hid ho9
            have hsz9 := HB9.out.size
            clear ho9
            by_cases hrl : r < 8
            · have hkl := Hkl.out r hr
              have hks := Hks.out r hrl
              have Hks' := Lib.hid hks
              clear hks
              obtain ⟨z, hz⟩ : ∃ z, z = slotAt es r := ⟨_, rfl⟩
              rw [← hz] at Hks'
              have hxr : ∀ X, (Instr.index 70 (.agg #[.int .i64 (slotAt es 0), .int .i64 (slotAt es 1), .int .i64 (slotAt es 2), .int .i64 (slotAt es 3), .int .i64 (slotAt es 4), .int .i64 (slotAt es 5), .int .i64 (slotAt es 6), .int .i64 (slotAt es 7)]) (.int .i64 (r : Int))).run Try.prog X = .ok (.int .i64 z) X := fun X => by
                rw [hz]
                rcases (show r = 0 ∨ r = 1 ∨ r = 2 ∨ r = 3 ∨ r = 4 ∨ r = 5 ∨ r = 6 ∨ r = 7 by omega) with rfl | rfl | rfl | rfl | rfl | rfl | rfl | rfl
                · exact index8_0 _ _ _ _ _ _ _ _ X
                · exact index8_1 _ _ _ _ _ _ _ _ X
                · exact index8_2 _ _ _ _ _ _ _ _ X
                · exact index8_3 _ _ _ _ _ _ _ _ X
                · exact index8_4 _ _ _ _ _ _ _ _ X
                · exact index8_5 _ _ _ _ _ _ _ _ X
                · exact index8_6 _ _ _ _ _ _ _ _ X
                · exact index8_7 _ _ _ _ _ _ _ _ X
              have hG : ∀ (X : World) (vv : Value), X.ownsRow w4.heap.size 73 2 vv ((rumK ix l k r).length + 1) (flds (rumK ix l k r) ++ [.int .i64 34, .int .i64 z]) → X.ownsRow w4.heap.size 73 2 vv (rumK ix l k (r + 1)).length (flds (rumK ix l k (r + 1))) := fun X vv h => by
                rw [Hks'.out, ← flds_snoc, List.length_append, List.length_singleton]; exact h
              have HG := Lib.hid hG
              have hrz : (r : Int) < 8 := by omega
              clear hz hG Hks'
              go_upto_region 24 with (fail)
              clear hxr
              go_wp2_with (at_builtin; refine wp_app1 (w0 := wr) 68 73 2 16 _ elField Try.underlying68 w4.heap.size _ _ _ HO9.out (by repeat (first | exact Below.refl _ _ | refine Below.drew ?_ | refine Below.alloc ?_ (by first | (simp; done) | (simp; omega)) _ | refine Below.setCell ?_ (by first | (simp; done) | (simp; omega)) _)) [.int .i64 34, .int .i64 z] rfl _ _ rfl rfl rfl (by first | exact heap_alloc_new _ _ | (simp only [heap_drew, heap_drewN]; exact heap_alloc_new _ _)) (by simp) rfl rfl (by omega) (by omega) hsz9 ?_; intro v6 w6 hown6 hgrow6 hb6)
              have hfin' := Lib.hid (HG.out _ _ hown6)
              have hB' := Lib.hid (HB9.out.trans hb6)
              clear hown6 hgrow6 hb6 HG
              go_roundw
              case rel => first | exact ⟨r + 1, by omega, by go_num, hfin'.out, hB'⟩ | ((repeat apply Exists.intro); exact ⟨⟨r + 1, by omega, by go_num, hfin'.out, hB'⟩, rfl⟩)
              case measure => first | (simp [intOf]; done) | (simp [intOf]; omega)
            · obtain rfl : r = 8 := by omega
              have hO := HO9.out
              rw [Hkn.out] at hO
              have HO' := Lib.hid hO
              clear hO HO9
              go_wp2_with fail
              go_roundw
              case rel => first | exact ⟨k + 1, by omega, by go_num, HO'.out, HB9.out⟩ | ((repeat apply Exists.intro); exact ⟨⟨k + 1, by omega, by go_num, HO'.out, HB9.out⟩, rfl⟩)
              case measure => first | (simp [intOf]; done) | (simp [intOf]; omega)
    · obtain rfl : k = ix.length := by omega
      obtain ⟨ao, co, rfl⟩ := owns_slice HO.out
      have CP := Lib.hid (cpack _ _ wr (Has.of_owns HO.out) Hok.out)
      have hBw := Lib.hid (Hb4.out.trans (HB.out.mono Hb4.out.size))
      clear HO HB
      go_wp2_with fail
      refine CP.out.mono ?_
      rintro e w9 ⟨v9, rfl, hown9, hb9⟩
      obtain ⟨a9, c9, rfl⟩ := owns_slice hown9
      have hfin : Hid (w9.ownsRow w.heap.size 5 1 (.slice a9 (recSize (rumF c.labs f t l)) c9) (recSize (rumF c.labs f t l)) (recBytes (rumF c.labs f t l)) ∧ Below w.heap.size w w9) := by
        rw [HF.out]
        exact ⟨owns_base hown9 hBw.out.size, hBw.out.trans (hb9.mono hBw.out.size)⟩
      rw [← HF.out]
      clear hown9 hb9 CP
      go_wp2_with fail
      go_ret2
      exact ⟨_, rfl, hfin.out⟩
end Go.Proofs.Ytngedkfljpkoiaa
