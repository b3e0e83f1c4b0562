/- PackParts: the plain law: a record whose fields end at a byte, and what stands behind it. -/
import Derived.Test.YtjinbcbpaoophaaPackLem
namespace Go.Proofs.Ytjinbcbpaoophaa
set_option linter.unusedVariables false

theorem getD_app (a b : List Nat) (i : Nat) : (a ++ b).getD i 0 = if i < a.length then a.getD i 0 else b.getD (i - a.length) 0 := by
  simp only [List.getD_eq_getElem?_getD, List.getElem?_append]
  split <;> rfl
theorem byteOf_left (a b : List Nat) (j : Nat) (h : 8 * j + 7 < a.length) : byteOf (a ++ b) j = byteOf a j := by
  unfold byteOf
  simp only [getD_app]
  repeat rw [if_pos (by omega)]
theorem byteOf_right (a b : List Nat) (q j : Nat) (h : a.length = 8 * q) : byteOf (a ++ b) (q + j) = byteOf b j := by
  unfold byteOf
  simp only [getD_app]
  repeat rw [if_neg (by omega)]
  rw [show 8 * (q + j) - a.length = 8 * j by omega, show 8 * (q + j) + 1 - a.length = 8 * j + 1 by omega, show 8 * (q + j) + 2 - a.length = 8 * j + 2 by omega, show 8 * (q + j) + 3 - a.length = 8 * j + 3 by omega, show 8 * (q + j) + 4 - a.length = 8 * j + 4 by omega, show 8 * (q + j) + 5 - a.length = 8 * j + 5 by omega, show 8 * (q + j) + 6 - a.length = 8 * j + 6 by omega, show 8 * (q + j) + 7 - a.length = 8 * j + 7 by omega]
theorem recBits_append (x y : List (Int × Int)) : recBits (x ++ y) = recBits x ++ recBits y := by simp [recBits]
theorem recB_append (x y : List (Int × Int)) (h : (recBits x).length % 8 = 0) : recB (x ++ y) = recB x ++ recB y := by
  obtain ⟨q, hq⟩ : ∃ q, (recBits x).length = 8 * q := ⟨(recBits x).length / 8, by omega⟩
  have e1 : recSize x = q := by unfold recSize; omega
  have e2 : recSize (x ++ y) = q + recSize y := by unfold recSize; rw [recBits_append, List.length_append]; omega
  unfold recB
  rw [e1, e2, recBits_append, List.range_add, List.map_append, List.map_map]
  congr 1
  · apply List.map_congr_left
    intro j hj
    have := List.mem_range.1 hj
    exact byteOf_left _ _ _ (by omega)
  · apply List.map_congr_left
    intro j hj
    exact byteOf_right _ _ _ _ hq
/-- The widths that 'PackParts' makes: the last one fills the byte. -/
def padW (ws : List Int) : List Int := ws ++ [8 + -(wsum ws % 8) % 8]
theorem padW_ok (ws : List Int) (h : ∀ x ∈ ws, 1 ≤ x ∧ x ≤ 60) : ∀ x ∈ padW ws, 1 ≤ x ∧ x ≤ 60 := by
  intro x hx
  rcases List.mem_append.1 hx with h' | h'
  · exact h x h'
  · simp at h'; omega
theorem padW_bits (ws vs : List Int) (h : ∀ x ∈ ws, 1 ≤ x ∧ x ≤ 60) : (recBits (fieldsOf (padW ws) vs)).length % 8 = 0 := by
  have e := wsum_bits (fieldsOf (padW ws) vs) (fun p hp => by
    have : p.1 ∈ (fieldsOf (padW ws) vs).map (·.1) := List.mem_map_of_mem hp
    rw [fields_map] at this; exact (padW_ok ws h _ this).1)
  rw [fields_map] at e
  have hs : wsum (padW ws) = wsum ws + (8 + -(wsum ws % 8) % 8) := by simp [padW, wsum]
  omega
theorem padW_length (ws : List Int) : (padW ws).length = ws.length + 1 := by simp [padW]
theorem flds_append (x y : List (Int × Int)) : flds (x ++ y) = flds x ++ flds y := by simp [flds]
theorem u8s_append (x y : List Nat) : u8s (x ++ y) = u8s x ++ u8s y := by simp [u8s]
theorem FieldsOk.append {x y : List (Int × Int)} (hx : FieldsOk x) (hy : FieldsOk y) (h : x.length + y.length ≤ 40) : FieldsOk (x ++ y) :=
  ⟨by simpa using h, fun p hp => by
    rcases List.mem_append.1 hp with h' | h'
    · exact hx.2 p h'
    · exact hy.2 p h'⟩
end Go.Proofs.Ytjinbcbpaoophaa
