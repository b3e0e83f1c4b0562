/- Lines: desk.Read, walked. -/
import Derived.Test.YtjnjecednkiakaaDoorDeskR
import Derived.Test.YtjnjecednkiakaaDoorGrow
namespace Go.Proofs.YtjnjecednkiakaaDoor
open Go.ChangeShapes Go.WideShapes Go.ChangeAt Go.RowKit
set_option linter.unusedVariables false
set_option linter.unusedSimpArgs false

/-- The eight fields of a box written. -/
def put8 (w : World) (b : Nat) (f : Nat → Int) : World := (((((((w.setCell ⟨b, 0, none⟩ (.int .i64 (f 0))).setCell ⟨b, 1, none⟩ (.int .i64 (f 1))).setCell ⟨b, 2, none⟩ (.int .i64 (f 2))).setCell ⟨b, 3, none⟩ (.int .i64 (f 3))).setCell ⟨b, 4, none⟩ (.int .i64 (f 4))).setCell ⟨b, 5, none⟩ (.int .i64 (f 5))).setCell ⟨b, 6, none⟩ (.int .i64 (f 6))).setCell ⟨b, 7, none⟩ (.int .i64 (f 7))
theorem put8_below {B : Nat} {a w : World} {b : Nat} (h : Below B a w) (hb : B ≤ b) (f : Nat → Int) : Below B a (put8 w b f) :=
  (((((((h.setCell hb _).setCell hb _).setCell hb _).setCell hb _).setCell hb _).setCell hb _).setCell hb _).setCell hb _
theorem put8_box {w : World} {b : Nat} {g : Nat → Int} (h : Box w b g) (f : Nat → Int) : Box (put8 w b f) b f := by
  have h1 := (((((((h.put 0 (by omega) (f 0)).put 1 (by omega) (f 1)).put 2 (by omega) (f 2)).put 3 (by omega) (f 3)).put 4 (by omega) (f 4)).put 5 (by omega) (f 5)).put 6 (by omega) (f 6)).put 7 (by omega) (f 7)
  refine h1.congr fun o ho => ?_
  have : o = 0 ∨ o = 1 ∨ o = 2 ∨ o = 3 ∨ o = 4 ∨ o = 5 ∨ o = 6 ∨ o = 7 := by omega
  rcases this with rfl | rfl | rfl | rfl | rfl | rfl | rfl | rfl <;> rfl
/-- The world in which Read looks for the word. -/
def rdW (w : World) (l : List (List UInt8)) : World := ((w.alloc (.cells (box8 fun _ => 0) 32)).alloc (.cells (strs l).toArray 9)).alloc (.cells #[.slice (some ⟨w.heap.size + 1, 0, none⟩) l.length l.length] 45)
theorem rdW_facts (w : World) (l : List (List UInt8)) : (rdW w l).heap.size = w.heap.size + 3 ∧ Below w.heap.size w (rdW w l) ∧ Box (rdW w l) w.heap.size (fun _ => 0) ∧ (rdW w l).cell? ⟨w.heap.size + 1 + 1, 0, none⟩ = some (.slice (some ⟨w.heap.size + 1, 0, none⟩) l.length l.length) ∧
    ∀ j x, l[j]? = some x → (rdW w l).cell? ⟨w.heap.size + 1, j, none⟩ = some (.string ⟨x.toArray⟩) := by
  unfold rdW
  refine ⟨by simp, (((Below.refl _ w).alloc (Nat.le_refl _) _).alloc (by simp) _).alloc (by simp; omega) _, ?_, ?_, fun j x hx => ?_⟩
  · exact (Below.heap_alloc _ _ _ (by simp; omega)).trans ((Below.heap_alloc _ _ _ (by simp)).trans (heap_alloc_new w _))
  · rw [World.cell?_alloc_at _ _ _ _ (by simp)]; rfl
  · have e1 : (w.alloc (.cells (box8 fun _ => 0) 32)).heap.size = w.heap.size + 1 := by simp
    have e2 : (((w.alloc (.cells (box8 fun _ => 0) 32)).alloc (.cells (strs l).toArray 9)).alloc (.cells #[.slice (some ⟨w.heap.size + 1, 0, none⟩) l.length l.length] 45)).heap[w.heap.size + 1]? = some (.cells (strs l).toArray 9 (0, 0)) :=
      (Below.heap_alloc _ _ _ (by simp)).trans (by rw [← e1]; exact heap_alloc_new _ _)
    rw [cell_of_row _ _ _ _ _ _ e2]
    simp [strs, hx]
set_option maxRecDepth 100000 in
set_option maxHeartbeats 8000000 in
theorem cRead (s : ByteArray) (hs : s.size < 4294967281) (w : World) (hL : LibVars w) :
    Calls Tryd.prog 12 #[.string s] w fun e w' => e = .returned (outOf (readM s.data.toList)) ∧ Below w.heap.size w w' := by
  obtain ⟨p, ps, hsp⟩ : ∃ p ps, spl s.data.toList = p :: ps := by
    cases h : spl s.data.toList with
    | nil => exact absurd h (spl_ne _)
    | cons p ps => exact ⟨p, ps, rfl⟩
  have h0 : 0 < w.heap.size := World.block_lt_of_cell? w _ (hL.words 0 (by omega)).1
  have HL := Lib.hid hL
  have HS := Lib.hid hs
  have HSP := Lib.hid hsp
  clear hL hs hsp
  go_enter Tryd.func12, Tryd.ntmps12
  go_wp2_with fail
  with_reducible refine (cSplit s HS.out _ (HL.out.below ((Below.refl _ w).alloc (Nat.le_refl _) _))).mono ?_
  rintro e w1 ⟨rfl, hw1⟩
  rw [HSP.out] at hw1 ⊢
  subst hw1
  go_wp2_with fail
  change Calls Tryd.prog _ _ (rdW w (p :: ps)) _
  obtain ⟨hz3, hB3, hbx3, hpc3, hrow3⟩ := rdW_facts w (p :: ps)
  obtain ⟨W3, hW3⟩ : ∃ x, x = rdW w (p :: ps) := ⟨_, rfl⟩
  rw [← hW3] at hz3 hB3 hbx3 hpc3 hrow3 ⊢
  clear hW3
  have HL3 := HL.out.below hB3
  with_reducible refine (cIndexW ⟨p.toArray⟩ _ _ _ W3 HL3.words (by simp) hpc3 (hrow3 0 p rfl)).mono ?_
  rintro e w4 ⟨rfl, hb4⟩
  have hz4 := hb4.size
  have HL4 := Lib.hid (HL3.below hb4)
  have hbx4 := hbx3.kept (hb4.block _ hbx3.lt)
  have hpc4 := cell_on hb4 hpc3
  have HROW : Hid (∀ j x, (p :: ps)[j]? = some x → w4.cell? ⟨w.heap.size + 1, j, none⟩ = some (.string ⟨x.toArray⟩)) := fun j x hx => cell_on hb4 (hrow3 j x hx)
  have HB4 := Lib.hid (hB3.trans (hb4.mono (by omega)))
  have hz : w.heap.size + 3 ≤ w4.heap.size := by omega
  clear hb4 hB3 HL3 hbx3 hpc3 hrow3 hz3 hz4
  simp only [List.toList_toArray, ixW]
  have HRM : Hid (readM s.data.toList = match findW p with
    | none => none
    | some k => if ps.length = (offsOf k).length then readP (offsOf k) ps (stK k) else none) := by
    show _ = _
    unfold readM
    rw [HSP.out]
    rfl
  have hcx : ∀ o, o < 8 → w4.cell? ⟨w.heap.size, o, none⟩ = some (.int .i64 0) ∧ w4.frozen? ⟨w.heap.size, o, none⟩ = false := fun o ho => hbx4.cell o ho
  cases hf : findW p with
  | none =>
    rw [hf] at HRM
    simp only at HRM ⊢
    obtain ⟨r0, f0⟩ := hcx 0 (by omega)
    obtain ⟨r1, f1⟩ := hcx 1 (by omega)
    obtain ⟨r2, f2⟩ := hcx 2 (by omega)
    obtain ⟨r3, f3⟩ := hcx 3 (by omega)
    obtain ⟨r4, f4⟩ := hcx 4 (by omega)
    obtain ⟨r5, f5⟩ := hcx 5 (by omega)
    obtain ⟨r6, f6⟩ := hcx 6 (by omega)
    obtain ⟨r7, f7⟩ := hcx 7 (by omega)
    clear hcx
    go_upto_region 3 with (fail)
    go_quiet (fail)
    go_wp2_with fail
    change bodyPost Tryd.prog _ _ _ _ (put8 (w4.drewN nq) w.heap.size (fun _ => 0))
    have hb9 := Lib.hid (put8_below (w := w4.drewN nq) (HB4.out.trans ⟨rfl, rfl, rfl, Nat.le_refl _, fun _ _ => rfl⟩) (Nat.le_refl w.heap.size) (fun _ => 0))
    have hx9 := put8_box (w := w4.drewN nq) hbx4 (fun _ => 0)
    obtain ⟨W9, hW9⟩ : ∃ x, x = put8 (w4.drewN nq) w.heap.size (fun _ => 0) := ⟨_, rfl⟩
    rw [← hW9] at hb9 hx9 ⊢
    clear hW9
    have t0 := (hx9.cell 0 (by omega)).1
    have t1 := (hx9.cell 1 (by omega)).1
    have t2 := (hx9.cell 2 (by omega)).1
    have t3 := (hx9.cell 3 (by omega)).1
    have t4 := (hx9.cell 4 (by omega)).1
    have t5 := (hx9.cell 5 (by omega)).1
    have t6 := (hx9.cell 6 (by omega)).1
    have t7 := (hx9.cell 7 (by omega)).1
    refine bodyPost_ret (v := .tuple #[stepV (fun _ => 0), .int .i64 4]) (by simp [results, Tryd.results12, go_sem, stepV, t0, t1, t2, t3, t4, t5, t6, t7]) rfl ?_
    exact ⟨by rw [HRM.out]; rfl, hb9.out⟩
  | some k =>
    rw [hf] at HRM
    simp only at HRM ⊢
    have hk11 : k < 11 := by
      unfold findW at hf
      have := List.mem_of_find?_eq_some hf
      simpa using this
    obtain ⟨-, hlet⟩ := HL4.out.words k hk11
    have hk0 : decide ((k : Int) < 0) = false := by simp
    have hki : (k : Int) < 11 := by omega
    obtain ⟨hof1, hof2, hof3⟩ := offs_ok k hk11
    have HOF := Lib.hid hof1
    have HND := Lib.hid hof2
    have hlets : ltrsOf k = (offsOf k).map ltr := rfl
    rw [hlets] at hlet
    have HK11 := Lib.hid hk11
    clear hlets hof1 hof2 hf hk11
    generalize offsOf k = L at *
    have hwl : IntKind.i64.wrap ((L.length : Int) + 1) = (L.length : Int) + 1 := by rw [IntWalk.i64_in _ (by omega)]
    by_cases hlen : ps.length = L.length
    · rw [if_pos hlen] at HRM
      have heq : ((ps.length : Int) == (L.length : Int)) = true := by rw [beq_iff_eq]; omega
      have heq2 : ((ps.length : Int) + 1 == (L.length : Int) + 1) = true := by rw [beq_iff_eq]; omega
      have heqN : (ps.length == L.length) = true := by rw [beq_iff_eq]; omega
      have hw1 : IntKind.i64.wrap (1 + (k : Int)) = 1 + (k : Int) := by rw [IntWalk.i64_in _ (by omega)]
      have HLEN := Lib.hid hlen
      clear hlen hcx
      go_upto_region 3 with (fail)
      go_quiet (fail)
      obtain ⟨w5, hw5⟩ : ∃ X, X = w4.drewN nq := ⟨_, rfl⟩
      rw [← hw5]
      have hb5 : Below w4.heap.size w4 w5 := by rw [hw5]; exact ⟨rfl, rfl, rfl, Nat.le_refl _, fun _ _ => rfl⟩
      have hs5 : w5.heap.size = w4.heap.size := by rw [hw5]; rfl
      clear hw5
      have HL5 := Lib.hid (HL4.out.below hb5)
      have hbx5 := hbx4.kept (hb5.block _ hbx4.lt)
      have hpc5 := cell_on hb5 hpc4
      have hlet5 := cell_on hb5 hlet
      have HROW5 : Hid (∀ j x, (p :: ps)[j]? = some x → w5.cell? ⟨w.heap.size + 1, j, none⟩ = some (.string ⟨x.toArray⟩)) := fun j x hx => cell_on hb5 (HROW.out j x hx)
      have HB5 := Lib.hid (HB4.out.trans (hb5.mono (by omega)))
      have hz5 : w.heap.size + 3 ≤ w5.heap.size := by omega
      have h05 : 0 < w5.heap.size := by omega
      clear hb5 hs5 HL4 hbx4 hpc4 hlet HROW HB4 hz
      go_wp2_with fail
      change Calls Tryd.prog _ _ (w5.alloc (.cells (box8 (stK k)) 32)) _
      with_reducible refine (cFields _ _).mono ?_
      rintro e w7 ⟨m, rfl, hm, hF, hb⟩
      rw [World.size_alloc] at hm
      have ha : Below w5.heap.size w5 (w5.alloc (.cells (box8 (stK k)) 32)) := (Below.refl _ w5).alloc (Nat.le_refl _) _
      have hbx6 : Box w7 w5.heap.size (stK k) := (hb.block _ (by rw [World.size_alloc]; omega)).trans (heap_alloc_new _ _)
      have hb7 := ha.trans (hb.mono (by rw [World.size_alloc]; omega))
      have hbx7 := hbx5.kept (hb7.block _ hbx5.lt)
      have hpc7 := cell_on hb7 hpc5
      have hlet7 := cell_on hb7 hlet5
      have HROW7 : Hid (∀ j x, (p :: ps)[j]? = some x → w7.cell? ⟨w.heap.size + 1, j, none⟩ = some (.string ⟨x.toArray⟩)) := fun j x hx => cell_on hb7 (HROW5.out j x hx)
      have HB7 := Lib.hid (HB5.out.trans (hb7.mono (by omega)))
      have hz7 : w5.heap.size + 1 ≤ w7.heap.size := by have := hb.size; rw [World.size_alloc] at this; exact this
      have HF := Lib.hid hF
      have hmlt := hF.lt
      have HBX7 := Lib.hid hbx7
      have HBX6 := Lib.hid hbx6
      have HPC7 := Lib.hid hpc7
      have hof := hof3
      clear ha hb hb7 HROW5 HB5 hbx5 hpc5 hlet5 HL5 hF hbx7 hbx6 hpc7
      have hsz7 : w.heap.size + 3 ≤ w7.heap.size := by omega
      go_wp2_with fail
      go_loopw [] (fun wr => ∃ (i : Nat) (f : Nat → Int), i ≤ L.length ∧ Hid (wr.heap[w7.heap.size]? = some (.stringIter ⟨(L.map ltr).toArray⟩ i)) ∧ Hid (Box wr w5.heap.size f) ∧ Hid (FMap wr m 7 w5.heap.size (FF true true true true true true true)) ∧ Hid (Below (w.heap.size + 3) w7 wr) ∧ Hid (readP (L.drop i) (ps.drop i) f = readP L ps (stK k))) (fun wr => L.length - wr.iterPos w7.heap.size)
      case atStart =>
        exact ⟨0, stK k, Nat.zero_le _, World.iter_heap w7 _ 0, HBX6.out.kept (Below.heap_alloc _ _ _ (by omega)), HF.out.kept (Below.heap_alloc _ _ _ hmlt), (Below.refl _ w7).alloc hsz7 _, rfl⟩
      case round =>
        obtain ⟨i, f, hi, HIT, HBX, HF', HB, HRP⟩ := hrel
        have hss : ByteArray.size ⟨(L.map ltr).toArray⟩ = L.length := by simp [ByteArray.size]
        by_cases hlt : i < L.length
        · obtain ⟨o, he⟩ : ∃ o, o = L[i] := ⟨_, rfl⟩
          obtain ⟨q, hq⟩ : ∃ q, q = ps[i]'(by rw [HLEN.out]; exact hlt) := ⟨_, rfl⟩
          obtain ⟨ho1, ho7⟩ := HOF.out o (he ▸ List.getElem_mem hlt)
          have hdr : L.drop i = o :: L.drop (i + 1) := by rw [he]; exact List.drop_eq_getElem_cons hlt
          have hdp : ps.drop i = q :: ps.drop (i + 1) := by rw [hq]; exact List.drop_eq_getElem_cons _
          have HSTEP : Hid (readP L ps (stK k) = match Lib.atoiAll q with
              | .ok n => if Lib.itoa n = q then readP (L.drop (i + 1)) (ps.drop (i + 1)) (setP f o n) else none
              | _ => none) := by
            show _ = _
            rw [← HRP.out, hdr, hdp]
            rfl
          have hqs : q.length ≤ 4294967281 := by
            have h1 := (spl_size s.data.toList).1 q (by rw [HSP.out, hq]; exact List.mem_cons_of_mem _ (List.getElem_mem _))
            have h2 := HS.out
            have h3 : s.data.toList.length = s.size := (Lib.size_eq s).symm
            omega
          have hp : i < ByteArray.size ⟨(L.map ltr).toArray⟩ := by rw [hss]; exact hlt
          have hbyte : (ByteArray.mk (L.map ltr).toArray)[i]'hp = ltr o := by
            show ((L.map ltr).toArray)[i]'(by simpa using hlt) = _
            simp [he]
          have hnx : ∀ ty, (Instr.next (.pointer (some ⟨w7.heap.size, 0, none⟩)) true ty).run Tryd.prog wr = .ok (.tuple #[.bool true, .int .i64 (i : Nat), .int .i32 ((ltr o).toNat : Nat)]) (wr.iterAt w7.heap.size ⟨(L.map ltr).toArray⟩ (i + 1)) := fun ty => by
            rw [Lib.run_next_ascii_at wr _ _ i ty HIT.out hp (by rw [hbyte]; exact ltr_lt o (by omega)), hbyte]
          have hit2 := Lib.iterAt_heap wr w7.heap.size _ i (i + 1) HIT.out
          have hB3 := Lib.below_iterAt HB.out hsz7 ⟨(L.map ltr).toArray⟩ (i + 1)
          have hbx2 := HBX.out.kept (Lib.iterAt_other wr w7.heap.size w5.heap.size ⟨(L.map ltr).toArray⟩ (i + 1) (by omega))
          have hF2 := HF'.out.kept (Lib.iterAt_other wr w7.heap.size m ⟨(L.map ltr).toArray⟩ (i + 1) (by omega))
          have hmu := iterPos_of HIT.out
          obtain ⟨W1, hW1⟩ : ∃ X, X = wr.iterAt w7.heap.size ⟨(L.map ltr).toArray⟩ (i + 1) := ⟨_, rfl⟩
          rw [← hW1] at hnx hit2 hB3 hbx2 hF2
          have hkey : (Lit.int .i32 ((ltr o).toNat : Nat)).wf = true := by
            have := ltr_lt o (by omega)
            have e1 : IntKind.i32.min = -2147483648 := by rfl
            have e2 : IntKind.i32.max = 2147483647 := by rfl
            simp [Lit.wf]
            omega
          have hpcW : W1.cell? ⟨w.heap.size + 1 + 1, 0, none⟩ = some (.slice (some ⟨w.heap.size + 1, 0, none⟩) (ps.length + 1) (ps.length + 1)) := by
            rw [hB3.cell (p := ⟨w.heap.size + 1 + 1, 0, none⟩) (by show w.heap.size + 1 + 1 < w.heap.size + 3; omega)]; exact HPC7.out
          have hrowW : W1.cell? ⟨w.heap.size + 1, i + 1, none⟩ = some (.string ⟨q.toArray⟩) := by
            rw [hB3.cell (p := ⟨w.heap.size + 1, i + 1, none⟩) (by show w.heap.size + 1 < w.heap.size + 3; omega)]
            exact HROW7.out (i + 1) q (by rw [List.getElem?_cons_succ, hq]; exact List.getElem?_eq_getElem _)
          have hLW := HL.out.below (HB7.out.trans (hB3.mono (by omega)))
          have CA := Lib.hid (cAtoi ⟨q.toArray⟩ (by show q.toArray.size ≤ _; rw [List.size_toArray]; omega) W1 hLW)
          have hwi : IntKind.i64.wrap ((i : Int) + 1) = ((i + 1 : Nat) : Int) := by rw [IntWalk.i64_in _ (by omega)]; omega
          have hll := HLEN.out
          have hix1 : (i : Int) < (ps.length : Int) := by omega
          have hix2 : (i : Int) + 1 < (ps.length : Int) + 1 := by omega
          have hix3 : i < ps.length := by omega
          have HIT2 := Lib.hid hit2
          have HBX2 := Lib.hid hbx2
          have HF2 := Lib.hid hF2
          have HB3 := Lib.hid hB3
          have HKEY := Lib.hid hkey
          have HLW := Lib.hid hLW
          clear hW1 hbyte hp hit2 hbx2 hF2 hB3 hkey he hq hdr hdp hll hLW
          go_wp2_with fail
          refine CA.out.mono ?_
          rintro e w8 ⟨hb8, hcase⟩
          have hpc8 := cell_on hb8 hpcW
          have hrow8 := cell_on hb8 hrowW
          have HL8 := Lib.hid (HLW.out.below hb8)
          have HB8 := Lib.hid (HB3.out.trans (hb8.mono (by have := HB3.out.size; omega)))
          have HIT8 := Lib.hid ((hb8.block _ (Array.getElem?_eq_some_iff.1 HIT2.out).1).trans HIT2.out)
          have HBX8 := Lib.hid (HBX2.out.kept (hb8.block _ HBX2.out.lt))
          have HF8 := Lib.hid (HF2.out.kept (hb8.block _ HF2.out.lt))
          clear hb8 hpcW hrowW CA hnx HLW
          rcases hcase with ⟨v, rfl, hv⟩ | ⟨v, N, rfl, hno⟩
          · rw [hv] at HSTEP
            simp only at HSTEP
            obtain ⟨hv0, hv1⟩ := atoi_range hv
            have CI : Hid (∀ x : Ext w8, Calls Tryd.prog 15 #[.int .i64 v] x.1 fun e w' => e = .returned (.string ⟨(Lib.itoa v).toArray⟩) ∧ Below x.1.heap.size x.1 w') := fun x => cItoa v hv0 hv1 x.1 (HL8.out.below x.2)
            have p0 := ext_cell hpc8
            have p1 := ext_cell hrow8
            clear hv hv0 hv1 hpc8 hrow8
            by_cases hiq : Lib.itoa v = q
            · rw [if_pos hiq] at HSTEP
              have hiq2 : (Lib.itoa v == q) = true := by rw [beq_iff_eq]; exact hiq
              have hiq3 := ByteArray.toList_eq ⟨(Lib.itoa v).toArray⟩
              have hiq4 := ByteArray.toList_eq ⟨q.toArray⟩
              simp only [List.toList_toArray] at hiq3 hiq4
              have HIQ := Lib.hid hiq
              clear hiq
              go_upto_region 11 with (fail)
              refine wp_region_grow (by kernel_rfl) (by kernel_rfl) ?_
              repeat (go_big_quiet_step ((go_at_call 15; with_reducible exact grow_of (CI.out _))))
              refine wpQuiet_nil ?_
              intro w9 hb9
              have HB9 := Lib.hid (HB8.out.trans (hb9.mono (by have := HB8.out.size; omega)))
              have HIT9 := Lib.hid ((hb9.block _ (Array.getElem?_eq_some_iff.1 HIT8.out).1).trans HIT8.out)
              have hbx9 := HBX8.out.kept (hb9.block _ HBX8.out.lt)
              have hF9 := HF8.out.kept (hb9.block _ HF8.out.lt)
              have hl9 := hF9.look (k := ((ltr o).toNat : Nat)) HKEY.out (ltr_key ho1 ho7)
              obtain ⟨c9, g9⟩ := hbx9.cell o (by omega)
              have HBX9 := Lib.hid hbx9
              have HF9 := Lib.hid hF9
              clear hb9 p0 p1 CI hbx9 hF9
              go_wp2_with fail
              have e1 : (w9.setCell ⟨w5.heap.size, o, none⟩ (.int .i64 v)).heap[w7.heap.size]? = some (.stringIter ⟨(L.map ltr).toArray⟩ (i + 1)) := (Below.heap_setCell _ _ _ _ (by show w7.heap.size ≠ w5.heap.size; omega)).trans HIT9.out
              go_roundw
              case rel =>
                exact ⟨i + 1, setP f o v, hlt, e1, HBX9.out.put o (by omega) v, HF9.out.kept (Below.heap_setCell _ _ _ _ (by show m ≠ w5.heap.size; omega)), HB9.out.setCell (by show w.heap.size + 3 ≤ w5.heap.size; omega) _, HSTEP.out.symm⟩
              case measure =>
                rw [iterPos_of e1, hmu]; omega
            · rw [if_neg hiq] at HSTEP
              have hiq2 : (Lib.itoa v == q) = false := by rw [beq_eq_false_iff_ne]; exact hiq
              have hiq3 := ByteArray.toList_eq ⟨(Lib.itoa v).toArray⟩
              have hiq4 := ByteArray.toList_eq ⟨q.toArray⟩
              simp only [List.toList_toArray] at hiq3 hiq4
              rw [HSTEP.out] at HRM
              clear hiq
              go_upto_region 11 with (fail)
              refine wp_region_grow (by kernel_rfl) (by kernel_rfl) ?_
              repeat (go_big_quiet_step ((go_at_call 15; with_reducible exact grow_of (CI.out _))))
              refine wpQuiet_nil ?_
              intro w9 hb9
              have HB9 := Lib.hid (HB8.out.trans (hb9.mono (by have := HB8.out.size; omega)))
              have hN := HBX7.out.kept (HB9.out.block _ (by omega))
              have r0 := (hN.cell 0 (by omega)).1
              have f0 := (hN.cell 0 (by omega)).2
              have r1 := (hN.cell 1 (by omega)).1
              have f1 := (hN.cell 1 (by omega)).2
              have r2 := (hN.cell 2 (by omega)).1
              have f2 := (hN.cell 2 (by omega)).2
              have r3 := (hN.cell 3 (by omega)).1
              have f3 := (hN.cell 3 (by omega)).2
              have r4 := (hN.cell 4 (by omega)).1
              have f4 := (hN.cell 4 (by omega)).2
              have r5 := (hN.cell 5 (by omega)).1
              have f5 := (hN.cell 5 (by omega)).2
              have r6 := (hN.cell 6 (by omega)).1
              have f6 := (hN.cell 6 (by omega)).2
              have r7 := (hN.cell 7 (by omega)).1
              have f7 := (hN.cell 7 (by omega)).2
              clear hb9 p0 p1 CI HSTEP
              go_wp2_with fail
              change bodyPost Tryd.prog _ _ _ _ (put8 (w9) w.heap.size (fun _ => 0))
              have hb9 := Lib.hid (put8_below (w := w9) (HB7.out.trans (HB9.out.mono (by omega))) (Nat.le_refl w.heap.size) (fun _ => 0))
              have hx9 := put8_box (w := w9) hN (fun _ => 0)
              obtain ⟨W9, hW9⟩ : ∃ x, x = put8 (w9) w.heap.size (fun _ => 0) := ⟨_, rfl⟩
              rw [← hW9] at hb9 hx9 ⊢
              clear hW9
              have t0 := (hx9.cell 0 (by omega)).1
              have t1 := (hx9.cell 1 (by omega)).1
              have t2 := (hx9.cell 2 (by omega)).1
              have t3 := (hx9.cell 3 (by omega)).1
              have t4 := (hx9.cell 4 (by omega)).1
              have t5 := (hx9.cell 5 (by omega)).1
              have t6 := (hx9.cell 6 (by omega)).1
              have t7 := (hx9.cell 7 (by omega)).1
              refine bodyPost_ret (v := .tuple #[stepV (fun _ => 0), .int .i64 4]) (by simp [results, Tryd.results12, go_sem, stepV, t0, t1, t2, t3, t4, t5, t6, t7]) rfl ?_
              exact ⟨by rw [HRM.out]; rfl, hb9.out⟩
          · have HRN : Hid (readP L ps (stK k) = none) := by
              show _ = _
              rw [HSTEP.out]
              split
              · rename_i n hn
                exact absurd hn (hno n)
              · rfl
            rw [HRN.out] at HRM
            have hN := HBX7.out.kept (HB8.out.block _ (by omega))
            have r0 := (hN.cell 0 (by omega)).1
            have f0 := (hN.cell 0 (by omega)).2
            have r1 := (hN.cell 1 (by omega)).1
            have f1 := (hN.cell 1 (by omega)).2
            have r2 := (hN.cell 2 (by omega)).1
            have f2 := (hN.cell 2 (by omega)).2
            have r3 := (hN.cell 3 (by omega)).1
            have f3 := (hN.cell 3 (by omega)).2
            have r4 := (hN.cell 4 (by omega)).1
            have f4 := (hN.cell 4 (by omega)).2
            have r5 := (hN.cell 5 (by omega)).1
            have f5 := (hN.cell 5 (by omega)).2
            have r6 := (hN.cell 6 (by omega)).1
            have f6 := (hN.cell 6 (by omega)).2
            have r7 := (hN.cell 7 (by omega)).1
            have f7 := (hN.cell 7 (by omega)).2
            clear hno HSTEP
            go_upto_region 11 with (fail)
            go_quiet (fail)
            go_wp2_with fail
            change bodyPost Tryd.prog _ _ _ _ (put8 (w8.drewN nq) w.heap.size (fun _ => 0))
            have hb9 := Lib.hid (put8_below (w := w8.drewN nq) ((HB7.out.trans (HB8.out.mono (by omega))).trans ⟨rfl, rfl, rfl, Nat.le_refl _, fun _ _ => rfl⟩) (Nat.le_refl w.heap.size) (fun _ => 0))
            have hx9 := put8_box (w := w8.drewN nq) hN (fun _ => 0)
            obtain ⟨W9, hW9⟩ : ∃ x, x = put8 (w8.drewN nq) w.heap.size (fun _ => 0) := ⟨_, rfl⟩
            rw [← hW9] at hb9 hx9 ⊢
            clear hW9
            have t0 := (hx9.cell 0 (by omega)).1
            have t1 := (hx9.cell 1 (by omega)).1
            have t2 := (hx9.cell 2 (by omega)).1
            have t3 := (hx9.cell 3 (by omega)).1
            have t4 := (hx9.cell 4 (by omega)).1
            have t5 := (hx9.cell 5 (by omega)).1
            have t6 := (hx9.cell 6 (by omega)).1
            have t7 := (hx9.cell 7 (by omega)).1
            refine bodyPost_ret (v := .tuple #[stepV (fun _ => 0), .int .i64 4]) (by simp [results, Tryd.results12, go_sem, stepV, t0, t1, t2, t3, t4, t5, t6, t7]) rfl ?_
            exact ⟨by rw [HRM.out]; rfl, hb9.out⟩
        · obtain rfl : i = L.length := by omega
          have hnx : ∀ ty, (Instr.next (.pointer (some ⟨w7.heap.size, 0, none⟩)) true ty).run Tryd.prog wr = .ok (.tuple #[.bool false]) wr := fun ty => Lib.run_next_end_at wr _ _ _ ty HIT.out (by rw [hss]; omega)
          have hN := HBX7.out.kept (HB.out.block _ (by omega))
          have hFF := HBX.out
          rw [List.drop_length, List.drop_of_length_le (by rw [HLEN.out]; omega)] at HRP
          rw [← HRP.out] at HRM
          have r0 := (hN.cell 0 (by omega)).1
          have f0 := (hN.cell 0 (by omega)).2
          have r1 := (hN.cell 1 (by omega)).1
          have f1 := (hN.cell 1 (by omega)).2
          have r2 := (hN.cell 2 (by omega)).1
          have f2 := (hN.cell 2 (by omega)).2
          have r3 := (hN.cell 3 (by omega)).1
          have f3 := (hN.cell 3 (by omega)).2
          have r4 := (hN.cell 4 (by omega)).1
          have f4 := (hN.cell 4 (by omega)).2
          have r5 := (hN.cell 5 (by omega)).1
          have f5 := (hN.cell 5 (by omega)).2
          have r6 := (hN.cell 6 (by omega)).1
          have f6 := (hN.cell 6 (by omega)).2
          have r7 := (hN.cell 7 (by omega)).1
          have f7 := (hN.cell 7 (by omega)).2
          have c0 := (hFF.cell 0 (by omega)).1
          have g0 := (hFF.cell 0 (by omega)).2
          have c1 := (hFF.cell 1 (by omega)).1
          have g1 := (hFF.cell 1 (by omega)).2
          have c2 := (hFF.cell 2 (by omega)).1
          have g2 := (hFF.cell 2 (by omega)).2
          have c3 := (hFF.cell 3 (by omega)).1
          have g3 := (hFF.cell 3 (by omega)).2
          have c4 := (hFF.cell 4 (by omega)).1
          have g4 := (hFF.cell 4 (by omega)).2
          have c5 := (hFF.cell 5 (by omega)).1
          have g5 := (hFF.cell 5 (by omega)).2
          have c6 := (hFF.cell 6 (by omega)).1
          have g6 := (hFF.cell 6 (by omega)).2
          have c7 := (hFF.cell 7 (by omega)).1
          have g7 := (hFF.cell 7 (by omega)).2
          go_wp2_with fail
          change bodyPost Tryd.prog _ _ _ _ (put8 (wr) w.heap.size f)
          have hb9 := Lib.hid (put8_below (w := wr) (HB7.out.trans (HB.out.mono (by omega))) (Nat.le_refl w.heap.size) f)
          have hx9 := put8_box (w := wr) hN f
          obtain ⟨W9, hW9⟩ : ∃ x, x = put8 (wr) w.heap.size f := ⟨_, rfl⟩
          rw [← hW9] at hb9 hx9 ⊢
          clear hW9
          have t0 := (hx9.cell 0 (by omega)).1
          have t1 := (hx9.cell 1 (by omega)).1
          have t2 := (hx9.cell 2 (by omega)).1
          have t3 := (hx9.cell 3 (by omega)).1
          have t4 := (hx9.cell 4 (by omega)).1
          have t5 := (hx9.cell 5 (by omega)).1
          have t6 := (hx9.cell 6 (by omega)).1
          have t7 := (hx9.cell 7 (by omega)).1
          refine bodyPost_ret (v := .tuple #[stepV f, .int .i64 0]) (by simp [results, Tryd.results12, go_sem, stepV, t0, t1, t2, t3, t4, t5, t6, t7]) rfl ?_
          exact ⟨by rw [HRM.out]; rfl, hb9.out⟩
    · rw [if_neg hlen] at HRM
      have hne : ((ps.length : Int) == (L.length : Int)) = false := by rw [beq_eq_false_iff_ne]; omega
      have hne2 : ((ps.length : Int) + 1 == (L.length : Int) + 1) = false := by rw [beq_eq_false_iff_ne]; omega
      have hneN : (ps.length == L.length) = false := by rw [beq_eq_false_iff_ne]; omega
      clear hlen
      obtain ⟨r0, f0⟩ := hcx 0 (by omega)
      obtain ⟨r1, f1⟩ := hcx 1 (by omega)
      obtain ⟨r2, f2⟩ := hcx 2 (by omega)
      obtain ⟨r3, f3⟩ := hcx 3 (by omega)
      obtain ⟨r4, f4⟩ := hcx 4 (by omega)
      obtain ⟨r5, f5⟩ := hcx 5 (by omega)
      obtain ⟨r6, f6⟩ := hcx 6 (by omega)
      obtain ⟨r7, f7⟩ := hcx 7 (by omega)
      clear hcx
      go_upto_region 3 with (fail)
      go_quiet (fail)
      go_wp2_with fail
      change bodyPost Tryd.prog _ _ _ _ (put8 (w4.drewN nq) w.heap.size (fun _ => 0))
      have hb9 := Lib.hid (put8_below (w := w4.drewN nq) (HB4.out.trans ⟨rfl, rfl, rfl, Nat.le_refl _, fun _ _ => rfl⟩) (Nat.le_refl w.heap.size) (fun _ => 0))
      have hx9 := put8_box (w := w4.drewN nq) hbx4 (fun _ => 0)
      obtain ⟨W9, hW9⟩ : ∃ x, x = put8 (w4.drewN nq) w.heap.size (fun _ => 0) := ⟨_, rfl⟩
      rw [← hW9] at hb9 hx9 ⊢
      clear hW9
      have t0 := (hx9.cell 0 (by omega)).1
      have t1 := (hx9.cell 1 (by omega)).1
      have t2 := (hx9.cell 2 (by omega)).1
      have t3 := (hx9.cell 3 (by omega)).1
      have t4 := (hx9.cell 4 (by omega)).1
      have t5 := (hx9.cell 5 (by omega)).1
      have t6 := (hx9.cell 6 (by omega)).1
      have t7 := (hx9.cell 7 (by omega)).1
      refine bodyPost_ret (v := .tuple #[stepV (fun _ => 0), .int .i64 4]) (by simp [results, Tryd.results12, go_sem, stepV, t0, t1, t2, t3, t4, t5, t6, t7]) rfl ?_
      exact ⟨by rw [HRM.out]; rfl, hb9.out⟩
end Go.Proofs.YtjnjecednkiakaaDoor
