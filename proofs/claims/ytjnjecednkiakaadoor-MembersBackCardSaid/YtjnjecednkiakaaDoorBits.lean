/- Bits and bytes: what a record holds. Plain arithmetic, no program. -/
import Derived.Laws.BitsAllLaws
namespace Go.Proofs.YtjnjecednkiakaaDoor
set_option linter.unusedVariables false

/-- Byte j of a row of bits (each 0 or 1), the most significant first, unused bits 0. -/
def byteOf (bs : List Nat) (j : Nat) : Nat :=
  bs.getD (8 * j) 0 * 128 + bs.getD (8 * j + 1) 0 * 64 + bs.getD (8 * j + 2) 0 * 32 + bs.getD (8 * j + 3) 0 * 16 + bs.getD (8 * j + 4) 0 * 8 + bs.getD (8 * j + 5) 0 * 4 + bs.getD (8 * j + 6) 0 * 2 + bs.getD (8 * j + 7) 0
/-- Is each of them a bit? -/
def Bits (bs : List Nat) : Prop := ∀ i, bs.getD i 0 ≤ 1
theorem byteOf_lt (bs : List Nat) (h : Bits bs) (j : Nat) : byteOf bs j < 256 := by
  have h0 := h (8 * j); have h1 := h (8 * j + 1); have h2 := h (8 * j + 2); have h3 := h (8 * j + 3)
  have h4 := h (8 * j + 4); have h5 := h (8 * j + 5); have h6 := h (8 * j + 6); have h7 := h (8 * j + 7)
  unfold byteOf; omega
theorem getD_snoc (bs : List Nat) (b i : Nat) : (bs ++ [b]).getD i 0 = if i = bs.length then b else bs.getD i 0 := by
  simp only [List.getD_eq_getElem?_getD]
  by_cases h : i < bs.length
  · rw [List.getElem?_append_left h, if_neg (by omega)]
  · by_cases h' : i = bs.length
    · subst h'; simp
    · rw [if_neg h', List.getElem?_eq_none (by simp; omega), List.getElem?_eq_none (by omega)]
theorem getD_past (bs : List Nat) (i : Nat) (h : bs.length ≤ i) : bs.getD i 0 = 0 := by
  simp [List.getD_eq_getElem?_getD, List.getElem?_eq_none h]
theorem Bits.snoc {bs : List Nat} {b : Nat} (h : Bits bs) (hb : b ≤ 1) : Bits (bs ++ [b]) := by
  intro i; rw [getD_snoc]; split
  · exact hb
  · exact h i
theorem byteOf_other (bs : List Nat) (b j : Nat) (h : j ≠ bs.length / 8) : byteOf (bs ++ [b]) j = byteOf bs j := by
  unfold byteOf
  simp only [getD_snoc]
  repeat rw [if_neg (by omega)]
theorem byteOf_here (bs : List Nat) (b : Nat) (h : Bits bs) (hb : b ≤ 1) : byteOf bs (bs.length / 8) ||| (b <<< (7 - bs.length % 8)) = byteOf (bs ++ [b]) (bs.length / 8) := by
  have hm : byteOf bs (bs.length / 8) % 2 ^ (8 - bs.length % 8) = 0 ∧ byteOf (bs ++ [b]) (bs.length / 8) = byteOf bs (bs.length / 8) + b * 2 ^ (7 - bs.length % 8) := by
    have p : ∀ i, bs.length ≤ i → bs.getD i 0 = 0 := getD_past bs
    generalize hq : bs.length / 8 = q
    have hr : bs.length % 8 = 0 ∨ bs.length % 8 = 1 ∨ bs.length % 8 = 2 ∨ bs.length % 8 = 3 ∨ bs.length % 8 = 4 ∨ bs.length % 8 = 5 ∨ bs.length % 8 = 6 ∨ bs.length % 8 = 7 := by omega
    unfold byteOf
    simp only [getD_snoc]
    rcases hr with hr | hr | hr | hr | hr | hr | hr | hr <;> rw [hr] <;> constructor
    all_goals
      have e0 : bs.length = 8 * q + bs.length % 8 := by omega
      rw [hr] at e0
    all_goals first
      | (simp only [e0, p (8 * q) (by omega), p (8 * q + 1) (by omega), p (8 * q + 2) (by omega), p (8 * q + 3) (by omega), p (8 * q + 4) (by omega), p (8 * q + 5) (by omega), p (8 * q + 6) (by omega), p (8 * q + 7) (by omega)]; (try simp); (try omega); done)
      | (simp only [e0, p (8 * q + 1) (by omega), p (8 * q + 2) (by omega), p (8 * q + 3) (by omega), p (8 * q + 4) (by omega), p (8 * q + 5) (by omega), p (8 * q + 6) (by omega), p (8 * q + 7) (by omega)]; (try simp); (try omega); done)
      | (simp only [e0, p (8 * q + 2) (by omega), p (8 * q + 3) (by omega), p (8 * q + 4) (by omega), p (8 * q + 5) (by omega), p (8 * q + 6) (by omega), p (8 * q + 7) (by omega)]; (try simp); (try omega); done)
      | (simp only [e0, p (8 * q + 3) (by omega), p (8 * q + 4) (by omega), p (8 * q + 5) (by omega), p (8 * q + 6) (by omega), p (8 * q + 7) (by omega)]; (try simp); (try omega); done)
      | (simp only [e0, p (8 * q + 4) (by omega), p (8 * q + 5) (by omega), p (8 * q + 6) (by omega), p (8 * q + 7) (by omega)]; (try simp); (try omega); done)
      | (simp only [e0, p (8 * q + 5) (by omega), p (8 * q + 6) (by omega), p (8 * q + 7) (by omega)]; (try simp); (try omega); done)
      | (simp only [e0, p (8 * q + 6) (by omega), p (8 * q + 7) (by omega)]; (try simp); (try omega); done)
      | (simp only [e0, p (8 * q + 7) (by omega)]; (try simp); (try omega); done)
  rw [hm.2, Nat.shiftLeft_eq]
  have hlt : b * 2 ^ (7 - bs.length % 8) < 2 ^ (8 - bs.length % 8) := by
    have : 2 ^ (8 - bs.length % 8) = 2 * 2 ^ (7 - bs.length % 8) := by
      rw [show 8 - bs.length % 8 = (7 - bs.length % 8) + 1 by omega, Nat.pow_succ]; omega
    have hp := Nat.two_pow_pos (7 - bs.length % 8)
    have : b * 2 ^ (7 - bs.length % 8) ≤ 1 * 2 ^ (7 - bs.length % 8) := Nat.mul_le_mul_right _ hb
    omega
  exact nat_join (8 - bs.length % 8) _ _ hm.1 hlt
end Go.Proofs.YtjnjecednkiakaaDoor
