/- Lemmas on widths and fields for the laws of records. -/
import Derived.Test.YtkeefpeffeoakaaSame
namespace Go.Proofs.Ytkeefpeffeoakaa
set_option linter.unusedVariables false

theorem widths_ok (zs : List Int) : ∀ x ∈ widths zs, 1 ≤ x ∧ x ≤ 60 := by
  intro x hx
  simp only [widths, List.mem_map] at hx
  obtain ⟨z, _, rfl⟩ := hx
  have := pick_bd z 60 (by omega); omega
theorem widths_le (zs : List Int) : (widths zs).length ≤ 20 := by simp [widths]; omega
theorem fields_ok (ws vs : List Int) (hl : ws.length ≤ 40) (h : ∀ x ∈ ws, 1 ≤ x ∧ x ≤ 60) : FieldsOk (fieldsOf ws vs) := by
  refine ⟨by rw [fieldsOf_length]; exact hl, fun p hp => ?_⟩
  simp only [fieldsOf, List.mem_map, List.mem_range] at hp
  obtain ⟨i, hi, rfl⟩ := hp
  have hw := h (ws.getD i 0) (by rw [List.getD_eq_getElem?_getD, List.getElem?_eq_getElem hi]; exact List.getElem_mem hi)
  refine ⟨hw.1, hw.2, ?_, ?_⟩ <;> simp only [fieldAt]
  · split
    · exact (pick_bd _ _ (Int.pow_pos (by decide))).1
    · exact Int.le_refl _
  · split
    · exact (pick_bd _ _ (Int.pow_pos (by decide))).2
    · exact Int.pow_pos (by decide)
theorem fields_map (ws vs : List Int) : (fieldsOf ws vs).map (·.1) = ws := by
  apply List.ext_getElem
  · simp [fieldsOf]
  · intro i h1 h2; simp [fieldsOf, fieldAt, List.getD_eq_getElem?_getD, h2]
theorem size_fields (ws vs us : List Int) : recSize (fieldsOf ws vs) = recSize (fieldsOf ws us) := by
  unfold recSize
  rw [recBits_length, recBits_length]
  have h1 : (fieldsOf ws vs).map (fun p => p.1.toNat) = ws.map Int.toNat := by rw [← fields_map ws vs, List.map_map]; simp [fields_map, Function.comp_def]
  have h2 : (fieldsOf ws us).map (fun p => p.1.toNat) = ws.map Int.toNat := by rw [← fields_map ws us, List.map_map]; simp [fields_map, Function.comp_def]
  rw [h1, h2]
theorem size_zero (ws vs : List Int) (h : ∀ x ∈ ws, 1 ≤ x ∧ x ≤ 60) : recSize (fieldsOf ws vs) = 0 ↔ ws.length = 0 := by
  have hb := wsum_bd ws h
  have e := wsum_bits (fieldsOf ws vs) (fun p hp => by
    have : p.1 ∈ (fieldsOf ws vs).map (·.1) := List.mem_map_of_mem hp
    rw [fields_map] at this; exact (h _ this).1)
  rw [fields_map] at e
  unfold recSize; omega
end Go.Proofs.Ytkeefpeffeoakaa
