/- PackShape: for all lists of widths and of values: the length of a packed record hangs on the widths alone. Conditions: none. -/
import Derived.Test.YtjinbcbpaoophaaSame
namespace Go.Proofs.Ytjinbcbpaoophaa.packShape
open Go.ChangeShapes Go.WideShapes Go.ChangeAt Go.RowKit
set_option linter.unusedVariables false

theorem widths_ok (zs : List Int) : ∀ x ∈ widths zs, 1 ≤ x ∧ x ≤ 60 := by
  intro x hx
  simp only [widths, List.mem_map] at hx
  obtain ⟨z, _, rfl⟩ := hx
  have := pick_bd z 60 (by omega); omega
theorem widths_le (zs : List Int) : (widths zs).length ≤ 20 := by simp [widths]; omega
theorem fields_ok (ws vs : List Int) (hl : ws.length ≤ 40) (h : ∀ x ∈ ws, 1 ≤ x ∧ x ≤ 60) : FieldsOk (fieldsOf ws vs) := by
  refine ⟨by rw [fieldsOf_length]; exact hl, fun p hp => ?_⟩
  simp only [fieldsOf, List.mem_map, List.mem_range] at hp
  obtain ⟨i, hi, rfl⟩ := hp
  have hw := h (ws.getD i 0) (by rw [List.getD_eq_getElem?_getD, List.getElem?_eq_getElem hi]; exact List.getElem_mem hi)
  refine ⟨hw.1, hw.2, ?_, ?_⟩ <;> simp only [fieldAt]
  · split
    · exact (pick_bd _ _ (Int.pow_pos (by decide))).1
    · exact Int.le_refl _
  · split
    · exact (pick_bd _ _ (Int.pow_pos (by decide))).2
    · exact Int.pow_pos (by decide)
theorem fields_map (ws vs : List Int) : (fieldsOf ws vs).map (·.1) = ws := by
  apply List.ext_getElem
  · simp [fieldsOf]
  · intro i h1 h2; simp [fieldsOf, fieldAt, List.getD_eq_getElem?_getD, h2]
theorem size_fields (ws vs us : List Int) : recSize (fieldsOf ws vs) = recSize (fieldsOf ws us) := by
  unfold recSize
  rw [recBits_length, recBits_length]
  have h1 : (fieldsOf ws vs).map (fun p => p.1.toNat) = ws.map Int.toNat := by rw [← fields_map ws vs, List.map_map]; simp [fields_map, Function.comp_def]
  have h2 : (fieldsOf ws us).map (fun p => p.1.toNat) = ws.map Int.toNat := by rw [← fields_map ws us, List.map_map]; simp [fields_map, Function.comp_def]
  rw [h1, h2]
theorem size_zero (ws vs : List Int) (h : ∀ x ∈ ws, 1 ≤ x ∧ x ≤ 60) : recSize (fieldsOf ws vs) = 0 ↔ ws.length = 0 := by
  have hb := wsum_bd ws h
  have e := wsum_bits (fieldsOf ws vs) (fun p hp => by
    have : p.1 ∈ (fieldsOf ws vs).map (·.1) := List.mem_map_of_mem hp
    rw [fields_map] at this; exact (h _ this).1)
  rw [fields_map] at e
  unfold recSize; omega
set_option maxRecDepth 100000 in
set_option maxHeartbeats 2000000 in
theorem walk (w : World) (v0 : Value) (z0 : List Int) (A0 : Has w 1 v0 z0.length (ints z0) ∧ ∀ z ∈ z0, -9223372036854775808 ≤ z ∧ z ≤ 9223372036854775807)
    (v1 : Value) (z1 : List Int) (A1 : Has w 1 v1 z1.length (ints z1) ∧ ∀ z ∈ z1, -9223372036854775808 ≤ z ∧ z ≤ 9223372036854775807)
    (v2 : Value) (z2 : List Int) (A2 : Has w 1 v2 z2.length (ints z2) ∧ ∀ z ∈ z2, -9223372036854775808 ≤ z ∧ z ≤ 9223372036854775807) :
    Calls Try.prog 6 #[v0, v1, v2] w fun e w' => e = .returned (.bool true) ∧ Below w.heap.size w w' := by
  have hA0 := Lib.hid A0.1; have hA1 := Lib.hid A1.1; have hA2 := Lib.hid A2.1
  clear A0 A1 A2
  have hok := Lib.hid (widths_ok z0)
  have hle := widths_le z0
  have hf1 := Lib.hid (fields_ok (widths z0) z1 (by omega) hok.out)
  have hf2 := Lib.hid (fields_ok (widths z0) z2 (by omega) hok.out)
  go_enter Try.func6, Try.ntmps6
  go_wp2_with fail
  refine (cwidths v0 z0 w hA0.out).mono ?_
  rintro e w1 ⟨vw, rfl, hown, hb1⟩
  obtain ⟨a, cap, rfl⟩ := owns_slice hown
  have Hw := Lib.hid (Has.of_owns hown)
  have Hb1 := Lib.hid hb1
  clear hown hb1
  go_wp2_with fail
  refine (cfieldsOf _ v1 (widths z0) z1 w1 Hw (hA1.out.below Hb1.out) hok.out (by omega)).mono ?_
  rintro e w2 ⟨vf, rfl, hown, hb2⟩
  have Hf := Lib.hid (Has.of_owns hown)
  have Hb2 := Lib.hid (Hb1.out.trans (hb2.mono Hb1.out.size))
  have Hw2 := Lib.hid (Hw.out.below hb2)
  clear hown hb2
  go_wp2_with fail
  refine (cpack vf _ w2 Hf.out hf1.out).mono ?_
  rintro e w3 ⟨vp, rfl, hown, hb2⟩
  obtain ⟨a1, cap1, rfl⟩ := owns_slice hown
  have Hb3 := Lib.hid (Hb2.out.trans (hb2.mono Hb2.out.size))
  have Hw3 := Lib.hid (Hw2.out.below hb2)
  clear hown hb2
  go_wp2_with fail
  refine (cfieldsOf _ v2 (widths z0) z2 w3 Hw3.out (hA2.out.below Hb3.out) hok.out (by omega)).mono ?_
  rintro e w4 ⟨vg, rfl, hown, hb2⟩
  have Hg := Lib.hid (Has.of_owns hown)
  have Hb4 := Lib.hid (Hb3.out.trans (hb2.mono Hb3.out.size))
  have Hw4 := Lib.hid (Hw3.out.below hb2)
  clear hown hb2
  go_wp2_with fail
  refine (cpack vg _ w4 Hg.out hf2.out).mono ?_
  rintro e w5 ⟨vq, rfl, hown, hb2⟩
  obtain ⟨a2, cap2, rfl⟩ := owns_slice hown
  have Hb5 := Lib.hid (Hb4.out.trans (hb2.mono Hb4.out.size))
  have Hw5 := Lib.hid (Has.below Hw4.out hb2)
  clear hown hb2
  go_wp2_with fail
  have hsz := csize _ (widths z0) w5 Hw5.out hok.out (by omega)
  have e1 : (wsum (widths z0) + 7) / 8 = ((recSize (fieldsOf (widths z0) z1) : Nat) : Int) := by
    have e := wsum_bits (fieldsOf (widths z0) z1) (fun p hp => ((hf1.out).2 p hp).1)
    rw [fields_map] at e
    rw [e]; unfold recSize; omega
  rw [e1] at hsz
  refine hsz.mono ?_
  clear hsz e1
  rintro e w6 ⟨rfl, rfl⟩
  have hq := size_fields (widths z0) z2 z1
  have hz := size_zero (widths z0) z1 hok.out
  have t1 : (((recSize (fieldsOf (widths z0) z1) : Nat) : Int) == 0) = (((widths z0).length : Int) == 0) := by
    rw [Bool.eq_iff_iff]; simp only [beq_iff_eq]; omega
  clear hz
  go_wp2
  go_ret
  exact ⟨rfl, Hb5.out⟩
end Go.Proofs.Ytjinbcbpaoophaa.packShape
