/- The laws' LabelsOf; labels as the laws read them. -/
import Derived.Test.YtgmichaconnhaaaLbs
import Derived.Test.YtgmichaconnhaaaMem
import Derived.Test.YtgmichaconnhaaaRow
namespace Go.Proofs.Ytgmichaconnhaaa
open Go.ChangeShapes Go.WideShapes Go.ChangeAt Go.RowKit
set_option linter.unusedVariables false
set_option linter.unusedSimpArgs false

/-- What the laws make of integers: three labels. -/
def labsK (l : List Int) : Nat → List Nat
  | 0 => [15, 6, 9]
  | k + 1 => match l[k]? with
    | some x => (labsK l k).set k (pick x 16).toNat
    | none => labsK l k
def labsOf (l : List Int) : List Nat := labsK l 3
theorem labsK_len (l : List Int) : ∀ k, (labsK l k).length = 3
  | 0 => rfl
  | k + 1 => by
    unfold labsK
    cases l[k]? with
    | none => exact labsK_len l k
    | some x => simp [labsK_len l k]
theorem labsK_lt (l : List Int) : ∀ k, ∀ x ∈ labsK l k, x < 16
  | 0 => by simp [labsK]
  | k + 1 => by
    unfold labsK
    cases l[k]? with
    | none => exact labsK_lt l k
    | some x =>
      intro y hy
      rcases List.mem_or_eq_of_mem_set hy with h | h
      · exact labsK_lt l k y h
      · subst h
        have := pick_bd x 16 (by omega)
        omega
theorem labsK_all {l : List Int} {k : Nat} (h : l.length = k) (h3 : k ≤ 3) : labsK l k = labsOf l := by
  have s : ∀ j, k ≤ j → labsK l (j + 1) = labsK l j := fun j hj => by
    show (match l[j]? with | some x => (labsK l j).set j (pick x 16).toNat | none => labsK l j) = _
    rw [List.getElem?_eq_none (by omega)]
  unfold labsOf
  rcases (show k = 0 ∨ k = 1 ∨ k = 2 ∨ k = 3 by omega) with rfl | rfl | rfl | rfl
  · rw [s 2 (by omega), s 1 (by omega), s 0 (by omega)]
  · rw [s 2 (by omega), s 1 (by omega)]
  · rw [s 2 (by omega)]
  · rfl
theorem labInts_set (l : List Nat) (k : Nat) (x : Nat) : (labInts l).set k x = labInts (l.set k x) := by simp [labInts, List.map_set]
set_option maxRecDepth 100000 in
set_option maxHeartbeats 4000000 in
theorem cLabelsOf {w : World} {v : Value} {l : List Int} (h : Has w 1 v l.length (ints l)) :
    Calls Try.prog 34 #[v] w fun e w' => ∃ g cap, e = .returned (.slice (some ⟨g, 0, none⟩) 3 cap) ∧ w'.ownsRow w.heap.size 3 1 (.slice (some ⟨g, 0, none⟩) 3 cap) 3 (ints (labInts (labsOf l))) ∧ Below w.heap.size w w' := by
  obtain ⟨⟨hl, _⟩, a, cap, rfl, hn, hm, hc⟩ := h
  unfold maxLen at hm
  have HC := Lib.hid hc
  have P := Lib.hid fun (a : Int) X => picked a 16 (by omega) (by omega) X
  have hb0 : Below w.heap.size w (w.alloc (.cells #[.int .i64 15, .int .i64 6, .int .i64 9] 3)) := (Below.refl _ _).alloc (Nat.le_refl _) _
  have hown0 : Hid ((w.alloc (.cells #[.int .i64 15, .int .i64 6, .int .i64 9] 3)).ownsRow w.heap.size 3 1 (.slice (some ⟨w.heap.size, 0, none⟩) 3 3) 3 (ints (labInts (labsK l 0)))) :=
    owns_block (wp := w) (cs := ints (labInts (labsK l 0))) (heap_alloc_new _ _) rfl rfl (by decide) (Nat.le_refl _)
  have Hb0 := Lib.hid hb0
  clear hc hb0
  go_enter Try.func34, Try.ntmps34
  go_wp2_with fail
  go_loopw [4] (fun i wr => ∃ k : Nat, k ≤ 3 ∧ k ≤ l.length ∧ i = .int .i64 k ∧ wr.ownsRow w.heap.size 3 1 (.slice (some ⟨w.heap.size, 0, none⟩) 3 3) 3 (ints (labInts (labsK l k))) ∧ Below w.heap.size w wr) (fun i _ => 3 - (intOf i).toNat)
  case atStart => exact ⟨0, by omega, by omega, rfl, hown0.out, Hb0.out⟩
  case round =>
    clear hown0 Hb0
    obtain ⟨k, hk, hkl, rfl, ho, hb⟩ := hrel
    have HO := Lib.hid ho
    have HB := Lib.hid hb
    have hbl : w.heap.size < wr.heap.size := by
      obtain ⟨_, _, he, _, h2, _⟩ := owns_some ho (by omega)
      simp only [Value.slice.injEq, Option.some.injEq, Addr.mk.injEq] at he
      omega
    clear ho hb
    by_cases h3 : k < 3
    · by_cases hlt : k < l.length
      · have h3z : (k : Int) < 3 := by omega
        have hltz : (k : Int) < (l.length : Int) := by omega
        obtain ⟨b, off, rfl, hcc⟩ := HC.out (by rw [ints_length]; omega)
        have x0 := cell_on HB.out (hcc k _ (ints_get l k hlt))
        have hset : Hid (labsK l (k + 1) = (labsK l k).set k (pick l[k] 16).toNat) := by
          show (match l[k]? with | some x => (labsK l k).set k (pick x 16).toNat | none => labsK l k) = _
          rw [List.getElem?_eq_getElem hlt]
        have hpk := pick_bd l[k] 16 (by omega)
        have Pk := Lib.hid (P.out l[k])
        generalize l[k] = y at *
        obtain ⟨q, hq⟩ : ∃ q : Nat, pick y 16 = q := ⟨(pick y 16).toNat, by omega⟩
        rw [hq] at hset Pk
        have y0 : ∃ u, wr.cell? ⟨w.heap.size, k, none⟩ = some u := by
          obtain ⟨g, c, he, _, _, _, hcc2⟩ := owns_some HO.out (by omega)
          simp only [Value.slice.injEq, Option.some.injEq, Addr.mk.injEq, and_true, true_and] at he
          obtain ⟨rfl, rfl⟩ := he
          exact ⟨_, hcc2 k _ (ints_get _ k (by rw [labInts_length, labsK_len]; omega))⟩
        obtain ⟨u, y0⟩ := y0
        have yf : wr.frozen? ⟨w.heap.size, k, none⟩ = false := by
          obtain ⟨g, c, he, _, _, hf, _⟩ := owns_some HO.out (by omega)
          simp only [Value.slice.injEq, Option.some.injEq, Addr.mk.injEq, and_true, true_and] at he
          obtain ⟨rfl, rfl⟩ := he
          exact hf k
        have hfin : Hid ((wr.setCell ⟨w.heap.size, k, none⟩ (.int .i64 q)).ownsRow w.heap.size 3 1 (.slice (some ⟨w.heap.size, 0, none⟩) 3 3) 3 (ints (labInts (labsK l (k + 1)))) ∧ Below w.heap.size w (wr.setCell ⟨w.heap.size, k, none⟩ (.int .i64 q))) := by
          refine ⟨?_, HB.out.setCell (Nat.le_refl _) _⟩
          rw [hset.out, ← labInts_set, ← ints_set]
          exact owns_set HO.out k _
        clear hcc hpk hq hset P
        go_wp2_with (go_at_call 17; refine (Pk.out _).mono ?_; rintro e w' ⟨rfl, rfl⟩)
        go_roundw
        case rel => exact ⟨k + 1, by omega, by omega, by go_num, hfin.out⟩
        case measure => simp [intOf]; omega
      · obtain rfl : k = l.length := by omega
        have h3z : ((l.length : Nat) : Int) < 3 := by omega
        have hfin : Hid (wr.ownsRow w.heap.size 3 1 (.slice (some ⟨w.heap.size, 0, none⟩) 3 3) 3 (ints (labInts (labsOf l))) ∧ Below w.heap.size w wr) := by
          rw [← labsK_all rfl (by omega)]; exact ⟨HO.out, HB.out⟩
        clear HO HB P HC
        go_wp2
        go_ret
        exact ⟨_, _, rfl, hfin.out⟩
    · obtain rfl : k = 3 := by omega
      have hfin : Hid (wr.ownsRow w.heap.size 3 1 (.slice (some ⟨w.heap.size, 0, none⟩) 3 3) 3 (ints (labInts (labsOf l))) ∧ Below w.heap.size w wr) := ⟨HO.out, HB.out⟩
      clear HO HB P HC
      go_wp2
      go_ret
      exact ⟨_, _, rfl, hfin.out⟩
theorem labInts_one (l : List Nat) : (ints (labInts l)).all Value.oneCell' = true := ints_one _
/-- The bit of a branch in a label, as the laws ask for it. -/
theorem bit_in (label who : Nat) (hl : label < 256) : (bits BinOp.and IntKind.i64 ((label : Int) / 2 ^ who) 1 == 1) = inL label who := by
  have hlt : label / 2 ^ who < 9223372036854775808 := Nat.lt_of_le_of_lt (Nat.div_le_self _ _) (by omega)
  have hc : (label : Int) / 2 ^ who = ((label / 2 ^ who : Nat) : Int) := by push_cast; rfl
  rw [hc, andOne _ hlt, inL, Nat.testBit_eq_decide_div_mod_eq]
  rw [Bool.eq_iff_iff]
  simp only [beq_iff_eq, decide_eq_true_eq]
  omega
theorem bit_out (label who : Nat) (hl : label < 256) : (bits BinOp.and IntKind.i64 ((label : Int) / 2 ^ who) 1 == 0) = !inL label who := by
  have hlt : label / 2 ^ who < 9223372036854775808 := Nat.lt_of_le_of_lt (Nat.div_le_self _ _) (by omega)
  have hc : (label : Int) / 2 ^ who = ((label / 2 ^ who : Nat) : Int) := by push_cast; rfl
  rw [hc, andOne _ hlt, inL, Nat.testBit_eq_decide_div_mod_eq]
  rw [Bool.eq_iff_iff]
  simp only [beq_iff_eq, Bool.not_eq_true', decide_eq_false_iff_not]
  omega
/-- A label's number in the laws' row. -/
theorem lab_cell {w : World} {g : Nat} {m cap : Nat} {labs : List Nat} (h : Has w 1 (.slice (some ⟨g, 0, none⟩) m cap) m (ints (labInts labs))) (j : Nat) (hj : j < labs.length) : w.cell? ⟨g, j, none⟩ = some (.int .i64 labs[j]) := by
  obtain ⟨⟨hl, _⟩, a, c, he, h1, h2, hc⟩ := h
  simp only [Value.slice.injEq] at he
  obtain ⟨rfl, -, rfl⟩ := he
  obtain ⟨b, o, he, hcc⟩ := hc (by rw [ints_length, labInts_length]; omega)
  simp only [Option.some.injEq, Addr.mk.injEq, and_true] at he
  obtain ⟨rfl, rfl⟩ := he
  have := hcc j (.int .i64 labs[j]) (by rw [ints_get _ j (by rw [labInts_length]; exact hj)]; simp [labInts])
  simpa using this
theorem labsOf_len (l : List Int) : (labsOf l).length = 3 := labsK_len l 3
theorem labsOf_lt (l : List Int) : ∀ x ∈ labsOf l, x < 16 := labsK_lt l 3
end Go.Proofs.Ytgmichaconnhaaa
