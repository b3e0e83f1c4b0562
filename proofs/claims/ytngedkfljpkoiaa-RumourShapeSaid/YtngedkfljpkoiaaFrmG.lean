/- Package frame: Heard. -/
import Derived.Test.YtngedkfljpkoiaaFrmF
import Derived.Test.YtngedkfljpkoiaaApp
import Derived.Deep.RegionLaw
namespace Go.Proofs.Ytngedkfljpkoiaa
open Go.ChangeShapes Go.WideShapes Go.ChangeAt Go.RowKit
set_option linter.unusedVariables false
set_option linter.unusedSimpArgs false

set_option maxRecDepth 100000 in
set_option maxHeartbeats 2000000 in
theorem crepeat0 (v : Value) (x : Int) (w : World) (h : Has w 1 v 1 (ints [x])) :
    Calls Try.prog 38 #[v, .int .i64 0] w fun e w' => ∃ v', e = .returned v' ∧ w'.ownsRow w.heap.size 3 1 v' 0 (ints (List.replicate 0 x)) ∧ Below w.heap.size w w' := by
  have mk : ∀ X : World, (Instr.makeSlice 22 (.int .i64 0) (.int .i64 0)).run Try.prog X = .ok (.slice (some ⟨X.heap.size, 0, none⟩) 0 0) (X.alloc (.cells #[] 3)) := fun X => run_mk infoInt Try.underlying22 rfl X 0 (by omega) (by omega)
  obtain ⟨_, a, cap, rfl, _, _, hc⟩ := h
  obtain ⟨b, off, rfl, hcc⟩ := hc (by simp [ints])
  have g0 := hcc 0 _ rfl
  rw [Nat.add_zero] at g0
  have w0 : IntKind.u64.wrap 0 = 0 := rfl
  have w1 : IntKind.u64.wrap 1 = 1 := rfl
  have hbl := World.block_lt_of_cell? w _ g0
  have CM := Lib.hid (cmul 0 (by omega) w)
  clear hc hcc g0
  go_enter Try.func38, Try.ntmps38
  go_wp2_with (first | (go_at_call 51; refine CM.out.mono ?_; rintro e w' ⟨rfl, rfl⟩) | (with_reducible refine wpList_copy_splice rfl _ _ _ _ rfl 3 Try.underlying22 (by kernel_rfl) _ _ _ _ _ _ rfl rfl w.heap.size 0 [] 3 (by exact heap_alloc_new _ _) [] ?_ ?_ ?_ ?_ w.heap.size w ((Below.refl _ _).alloc (Nat.le_refl _) _) (Nat.le_refl _) ?_) | fail)
  case refine_1 => rfl
  case refine_3 => simp
  case refine_4 => intro v hv; simp at hv
  intro w2 hrow hb2
  have Hrow : Hid (w2.heap[w.heap.size]? = some (.cells #[] 3 (0, 0))) := by
    show _ = _
    have h := hrow.out
    simpa [splice] using h
  have Hb2 := Lib.hid hb2
  clear hrow hb2 mk w0 w1
  go_wp2_with fail
  go_loopw [8] (fun c wr => c = .int .i64 0 ∧ w2 = wr) (fun _ _ => 0)
  case atStart => exact ⟨rfl, rfl⟩
  case round =>
    obtain ⟨rfl, rfl⟩ := hrel
    have Hown : Hid (w2.ownsRow w.heap.size 3 1 (.slice (some ⟨w.heap.size, 0, none⟩) 0 0) 0 (ints (List.replicate 0 x))) :=
      ⟨by simp, .inr ⟨_, 0, _, rfl, Nat.le_refl _, Hrow.out, Nat.le_refl _, by unfold maxLen; omega, by simp, by simp [ints]⟩⟩
    clear Hrow
    go_wp2_with fail
    go_ret
    exact ⟨_, rfl, Hown.out, Hb2.out⟩
theorem crepeatE (v : Value) (x : Int) (n : Nat) (w : World) (h : Has w 1 v 1 (ints [x])) (h48 : n ≤ 48) :
    Calls Try.prog 38 #[v, .int .i64 n] w fun e w' => ∃ v', e = .returned v' ∧ w'.ownsRow w.heap.size 3 1 v' n (ints (List.replicate n x)) ∧ Below w.heap.size w w' := by
  by_cases h0 : n = 0
  · subst h0; exact crepeat0 v x w h
  · exact crepeat v x n w h (by omega) h48
theorem rumF_fst (labs : List Nat) (f t : Nat) (l : Nat → List Ent) : (rumF labs f t l).map (·.1) = List.replicate ((shr labs f t labs.length).length * 8) 34 := by
  unfold rumF
  generalize shr labs f t labs.length = ix
  induction ix with
  | nil => rfl
  | cons a s ih =>
    rw [List.flatMap_cons, List.map_append, ih, List.length_cons, show (s.length + 1) * 8 = 8 + s.length * 8 by omega, ← List.replicate_append_replicate]
    rfl
theorem rumF_len (labs : List Nat) (f t : Nat) (l : Nat → List Ent) : (rumF labs f t l).length = (shr labs f t labs.length).length * 8 := by
  unfold rumF; rw [flat8]
theorem rumF_at (labs : List Nat) (f t : Nat) (l : Nat → List Ent) (a r : Nat) (ha : a < (shr labs f t labs.length).length) (hr : r < 8) : ((rumF labs f t l).map (·.2))[a * 8 + r]? = some (slotAt (l (shr labs f t labs.length)[a]) r) := by
  unfold rumF
  generalize shr labs f t labs.length = ix at *
  induction ix generalizing a with
  | nil => simp at ha
  | cons b s ih =>
    rw [List.flatMap_cons, List.map_append]
    cases a with
    | zero =>
      rw [List.getElem?_append_left (by rw [List.length_map, slotsOf_length]; omega)]
      simp [slotsOf, hr]
    | succ a =>
      rw [List.getElem?_append_right (by rw [List.length_map, slotsOf_length]; omega), List.length_map, slotsOf_length, show (a + 1) * 8 + r - 8 = a * 8 + r by omega, ih a (by simpa using ha)]
      rfl
theorem recB_lt (F : List (Int × Int)) : ∀ b ∈ recB F, b < 256 := fun b hb => by
  simp only [recB, List.mem_map, List.mem_range] at hb
  obtain ⟨j, _, rfl⟩ := hb
  exact byteOf_lt _ (recBits_bits F) j
theorem cunpackF (v1 vb : Value) (F : List (Int × Int)) (w : World) (hok : FieldsOk F) (h1 : Has w 1 v1 F.length (ints (F.map (·.1)))) (hb : Has w 1 vb (recSize F) (u8s (recB F))) :
    Calls Try.prog 37 #[v1, vb] w fun e w' => ∃ v', e = .returned (.tuple #[v', .int .i64 0]) ∧ w'.ownsRow w.heap.size 3 1 v' F.length (ints (F.map (·.2))) ∧ Below w.heap.size w w' := by
  have hbl := recB_length F
  have el : (F.map (·.1)).length = F.length := by simp
  refine (cunpack v1 vb (F.map (·.1)) (recB F) w (by rw [el]; exact h1) hok.ws (by rw [el]; exact hok.1) (by rw [hbl]; exact hb) (recB_lt F) (by
    rw [hbl, wsum_bits F (fun p hp => (hok.2 p hp).1)]
    unfold recSize; omega)).mono ?_
  rintro e w4 ⟨h, hb2⟩
  have hz := rest_back F
  rcases h with ⟨vu, rfl, _, hown⟩ | ⟨_, hnz⟩
  case inr => exact absurd hz hnz
  have hvb := unpack_back F [] (fun p hp => ⟨(hok.2 p hp).2.2.1, (hok.2 p hp).2.2.2⟩)
  have e0 : (recBits ([] : List (Int × Int))).length = 0 := rfl
  rw [List.nil_append, e0] at hvb
  rw [hvb, el] at hown
  exact ⟨vu, rfl, hown, hb2⟩
/-- What is heard of a rumour. -/
def heardL (labs : List Nat) (f t : Nat) (l : Nat → List Ent) (j : Nat) : List Ent := if j < labs.length ∧ lb labs j f = true ∧ lb labs j t = true then l j else []
theorem heardP_heardL (labs : List Nat) (f t : Nat) (l : Nat → List Ent) (j : Nat) : heardP (shr labs f t labs.length) l (shr labs f t labs.length).length 0 j = heardL labs f t l j := by
  rw [heardP_end]
  unfold heardL
  by_cases h : j ∈ shr labs f t labs.length
  · rw [if_pos h, if_pos ((shr_mem _ _ _ _ _).1 h)]
  · rw [if_neg h, if_neg (fun hh => h ((shr_mem _ _ _ _ _).2 hh))]
theorem hp_next {ix : List Nat} {l : Nat → List Ent} (hs : ix.Pairwise (· < ·)) (h : ∀ i ∈ ix, EightL (l i)) (a r : Nat) (ha : a < ix.length) (hr : r < 8) :
    ∃ a' r', a' * 8 + r' = a * 8 + r + 1 ∧ a' ≤ ix.length ∧ r' < 8 ∧ (a' = ix.length → r' = 0) ∧ (∀ j, heardP ix l a' r' j = heardP ix l a (r + 1) j) ∧ (0 < r' → ix[a']? = some ix[a]) := by
  by_cases e : r + 1 < 8
  · exact ⟨a, r + 1, by omega, by omega, e, fun h => by omega, fun _ => rfl, fun _ => List.getElem?_eq_getElem ha⟩
  · obtain rfl : r = 7 := by omega
    exact ⟨a + 1, 0, by omega, by omega, by omega, fun _ => rfl, fun j => (heardP_next hs h a ha j).symm, fun h => absurd h (by omega)⟩
theorem heardP_cur {ix : List Nat} {l : Nat → List Ent} (hs : ix.Pairwise (· < ·)) (a r : Nat) (ha : a < ix.length) : heardP ix l a r ix[a] = upTo (l ix[a]) r := by
  unfold heardP; rw [if_neg (idx_notin hs a ha), List.getElem?_eq_getElem ha, if_pos rfl]
theorem own_lt {w : World} {B e sz n : Nat} {v : Value} {xs : List Value} (h : w.ownsRow B e sz v n xs) : ∀ g, v.ownBlock = some g → g < w.heap.size := fun g hg => by
  obtain ⟨hl, h⟩ := h
  rcases h with ⟨rfl, _⟩ | ⟨g', cap, cur, rfl, _, hh, _⟩
  · cases hg
  · simp only [Value.ownBlock, Option.some.injEq] at hg
    subst hg
    exact (Array.getElem?_eq_some_iff.1 hh).1
theorem cell_grown {w w' : World} {o : Option Nat} {b i : Nat} {u : Value} (h : w.grownBy w' o) (hb : b < w.heap.size) (hne : some b ≠ o) (z : w.cell? ⟨b, i, none⟩ = some u) : w'.cell? ⟨b, i, none⟩ = some u := by
  rw [World.cell?_of_block (w := w) (a := ⟨b, i, none⟩) (h.block b hb hne)]; exact z
theorem HAt.keep {w X : World} {g B m cur j : Nat} {vs : Nat → Value} {L : Nat → List Ent} (h : HAt w g B m cur vs L) (hj : j < m) (hb : Below B w X) : X.cell? ⟨g, j, none⟩ = some (vs j) ∧ X.frozen? ⟨g, j, none⟩ = false := by
  have hc : X.heap[g]? = some (.cells ((List.range m).map vs).toArray 33 (0, 0)) := by rw [hb.block g h.gB]; exact h.cells
  refine ⟨?_, by simp [World.frozen?, hc]⟩
  rw [cell_of_row X _ _ _ _ _ hc]
  simp [hj]
structure HeardAt (w w' : World) (g m : Nat) (vs : Nat → Value) (L : Nat → List Ent) : Prop where
  cells : w'.heap[g]? = some (.cells ((List.range m).map vs).toArray 33 (0, 0))
  rows : ∀ j, j < m → Has w' 5 (vs j) (L j).length (ents (L j))
  nil : ∀ j, L j = [] → vs j = .slice none 0 0
  new : w.heap.size ≤ g
  hb : Below w.heap.size w w'
theorem HeardAt.cell {w w' : World} {g m : Nat} {vs : Nat → Value} {L : Nat → List Ent} (h : HeardAt w w' g m vs L) (j : Nat) (hj : j < m) : w'.cell? ⟨g, j, none⟩ = some (vs j) := by
  rw [cell_of_row w' _ _ _ _ _ h.cells]
  simp [hj]
end Go.Proofs.Ytngedkfljpkoiaa
