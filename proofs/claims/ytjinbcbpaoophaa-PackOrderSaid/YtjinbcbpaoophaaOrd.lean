/- The order of records: bit by bit, byte by byte, value by value. Plain arithmetic. -/
import Derived.Test.YtjinbcbpaoophaaWireD
namespace Go.Proofs.Ytjinbcbpaoophaa
set_option linter.unusedVariables false

/-- Which of two numbers, of two lists, comes first. -/
def cmp1 (a b : Nat) : Int := if a < b then -1 else if a > b then 1 else 0
def cmpN : List Nat → List Nat → Int
  | a :: l, b :: m => if a < b then -1 else if a > b then 1 else cmpN l m
  | _, _ => 0
theorem cmpN_append : ∀ (l1 l2 r1 r2 : List Nat), l1.length = l2.length → cmpN (l1 ++ r1) (l2 ++ r2) = if cmpN l1 l2 = 0 then cmpN r1 r2 else cmpN l1 l2
  | [], [], _, _, _ => by simp [cmpN]
  | a :: l, b :: m, r1, r2, h => by
    have ih := cmpN_append l m r1 r2 (by simpa using h)
    simp only [List.cons_append, cmpN]
    split
    · simp
    · split
      · simp
      · exact ih
theorem cmpN_self : ∀ l : List Nat, cmpN l l = 0
  | [] => rfl
  | a :: l => by simp [cmpN, cmpN_self l]
theorem fieldBits_succ (w v : Nat) : fieldBits (w + 1) v = (v / 2 ^ w % 2) :: fieldBits w v := by
  unfold fieldBits
  rw [List.range_succ_eq_map, List.map_cons, List.map_map]
  congr 1
  apply List.map_congr_left
  intro i hi
  simp only [Function.comp]
  rw [show w + 1 - 1 - (i + 1) = w - 1 - i by omega]
theorem cmp_field (w : Nat) : ∀ (v u : Nat), cmpN (fieldBits w v) (fieldBits w u) = cmp1 (v % 2 ^ w) (u % 2 ^ w) := by
  induction w with
  | zero => intro v u; simp [fieldBits, cmpN, cmp1, Nat.mod_one]
  | succ w ih =>
    intro v u
    rw [fieldBits_succ, fieldBits_succ]
    simp only [cmpN, ih]
    have e : ∀ x : Nat, x % 2 ^ (w + 1) = (x / 2 ^ w % 2) * 2 ^ w + x % 2 ^ w := fun x => by
      rw [Nat.pow_succ, Nat.mod_mul, Nat.mul_comm (2 ^ w)]; omega
    rw [e v, e u]
    have p := Nat.two_pow_pos w
    have a1 := Nat.mod_lt v p
    have a2 := Nat.mod_lt u p
    have b1 : v / 2 ^ w % 2 = 0 ∨ v / 2 ^ w % 2 = 1 := by omega
    have b2 : u / 2 ^ w % 2 = 0 ∨ u / 2 ^ w % 2 = 1 := by omega
    generalize v % 2 ^ w = x at *
    generalize u % 2 ^ w = y at *
    generalize 2 ^ w = q at *
    unfold cmp1
    rcases b1 with b1 | b1 <;> rcases b2 with b2 | b2 <;> rw [b1, b2] <;> simp <;> (try (split <;> omega))
theorem cmp1_eq (a b : Nat) : cmp1 a b = 0 ↔ a = b := by unfold cmp1; split <;> (try split) <;> simp <;> omega
theorem cmpN_cons (a b : Nat) (l m : List Nat) : cmpN (a :: l) (b :: m) = if cmp1 a b = 0 then cmpN l m else cmp1 a b := by
  simp only [cmpN, cmp1]; split
  · simp
  · split <;> simp
/-- Fields of the same widths stand in the order of their bits. -/
theorem cmp_fields : ∀ (fs gs : List (Int × Int)), fs.map (·.1) = gs.map (·.1) → (∀ p ∈ fs, 0 ≤ p.2 ∧ p.2 < 2 ^ p.1.toNat) → (∀ p ∈ gs, 0 ≤ p.2 ∧ p.2 < 2 ^ p.1.toNat) →
    cmpN (recBits fs) (recBits gs) = cmpN (fs.map fun p => p.2.toNat) (gs.map fun p => p.2.toNat)
  | [], [], _, _, _ => rfl
  | [], q :: gs, h, _, _ => by simp at h
  | p :: fs, [], h, _, _ => by simp at h
  | p :: fs, q :: gs, h, hf, hg => by
    simp only [List.map_cons, List.cons.injEq] at h
    have ih := cmp_fields fs gs h.2 (fun r hr => hf r (by simp [hr])) (fun r hr => hg r (by simp [hr]))
    have e1 : recBits (p :: fs) = fieldBits p.1.toNat p.2.toNat ++ recBits fs := by simp [recBits]
    have e2 : recBits (q :: gs) = fieldBits q.1.toNat q.2.toNat ++ recBits gs := by simp [recBits]
    have lt : ∀ r : Int × Int, 0 ≤ r.2 ∧ r.2 < 2 ^ r.1.toNat → r.2.toNat % 2 ^ r.1.toNat = r.2.toNat := fun r hr => by
      apply Nat.mod_eq_of_lt
      have : ((2 ^ r.1.toNat : Nat) : Int) = (2 : Int) ^ r.1.toNat := by simp
      omega
    rw [e1, e2, cmpN_append _ _ _ _ (by rw [fieldBits_length, fieldBits_length, h.1]), List.map_cons, List.map_cons, cmpN_cons, ← h.1, cmp_field, ih]
    have l1 := lt p (hf p (by simp))
    have l2 := lt q (hg q (by simp))
    rw [← h.1] at l2
    rw [l1, l2]
theorem byte_bits (bs : List Nat) (h : Bits bs) (j : Nat) : fieldBits 8 (byteOf bs j) = [bs.getD (8 * j) 0, bs.getD (8 * j + 1) 0, bs.getD (8 * j + 2) 0, bs.getD (8 * j + 3) 0, bs.getD (8 * j + 4) 0, bs.getD (8 * j + 5) 0, bs.getD (8 * j + 6) 0, bs.getD (8 * j + 7) 0] := by
  have h0 := h (8 * j); have h1 := h (8 * j + 1); have h2 := h (8 * j + 2); have h3 := h (8 * j + 3)
  have h4 := h (8 * j + 4); have h5 := h (8 * j + 5); have h6 := h (8 * j + 6); have h7 := h (8 * j + 7)
  have e : fieldBits 8 (byteOf bs j) = [byteOf bs j / 128 % 2, byteOf bs j / 64 % 2, byteOf bs j / 32 % 2, byteOf bs j / 16 % 2, byteOf bs j / 8 % 2, byteOf bs j / 4 % 2, byteOf bs j / 2 % 2, byteOf bs j % 2] := by
    simp [fieldBits, List.range_succ]
  rw [e]
  unfold byteOf
  generalize bs.getD (8 * j) 0 = a0 at *
  generalize bs.getD (8 * j + 1) 0 = a1 at *
  generalize bs.getD (8 * j + 2) 0 = a2 at *
  generalize bs.getD (8 * j + 3) 0 = a3 at *
  generalize bs.getD (8 * j + 4) 0 = a4 at *
  generalize bs.getD (8 * j + 5) 0 = a5 at *
  generalize bs.getD (8 * j + 6) 0 = a6 at *
  generalize bs.getD (8 * j + 7) 0 = a7 at *
  simp only [List.cons.injEq, and_true]
  omega
/-- The bits of n bytes are the bits, filled up by zeros. -/
theorem bytes_bits (bs : List Nat) (h : Bits bs) (n : Nat) : ((List.range n).map (byteOf bs)).flatMap (fieldBits 8) = (List.range (8 * n)).map (bs.getD · 0) := by
  induction n with
  | zero => rfl
  | succ n ih =>
    rw [List.range_succ, List.map_append, List.flatMap_append, ih]
    rw [show 8 * (n + 1) = 8 * n + 8 by omega, List.range_add, List.map_append]
    congr 1
    simp only [List.map_cons, List.map_nil, List.flatMap_cons, List.flatMap_nil, List.append_nil, byte_bits bs h n]
    simp [List.range_succ]
theorem range_getD (bs : List Nat) (m : Nat) (h : bs.length ≤ m) : (List.range m).map (bs.getD · 0) = bs ++ List.replicate (m - bs.length) 0 := by
  apply List.ext_getElem
  · simp; omega
  · intro i h1 h2
    simp only [List.getElem_map, List.getElem_range, List.getD_eq_getElem?_getD]
    by_cases hi : i < bs.length
    · simp [List.getElem_append_left hi, hi]
    · rw [List.getElem_append_right (by omega)]; simp [List.getElem?_eq_none (Nat.le_of_not_lt hi)]
theorem cmp_bytes_flat : ∀ (l m : List Nat), l.length = m.length → (∀ x ∈ l, x < 256) → (∀ x ∈ m, x < 256) → cmpN (l.flatMap (fieldBits 8)) (m.flatMap (fieldBits 8)) = cmpN l m
  | [], [], _, _, _ => rfl
  | a :: l, b :: m, h, h1, h2 => by
    have ih := cmp_bytes_flat l m (by simpa using h) (fun x hx => h1 x (by simp [hx])) (fun x hx => h2 x (by simp [hx]))
    have ha := h1 a (by simp)
    have hb := h2 b (by simp)
    rw [List.flatMap_cons, List.flatMap_cons, cmpN_append _ _ _ _ (by rw [fieldBits_length, fieldBits_length]), cmpN_cons, cmp_field, ih]
    rw [Nat.mod_eq_of_lt (show a < 2 ^ 8 by omega), Nat.mod_eq_of_lt (show b < 2 ^ 8 by omega)]
theorem recBits_bits (fs : List (Int × Int)) : Bits (recBits fs) := by
  intro i
  rw [List.getD_eq_getElem?_getD]
  by_cases h : i < (recBits fs).length
  · rw [List.getElem?_eq_getElem h]
    have := List.getElem_mem h
    simp only [recBits, List.mem_flatMap] at this
    obtain ⟨p, _, hp⟩ := this
    exact fieldBits_bits _ _ _ hp
  · rw [List.getElem?_eq_none (by omega)]; simp
/-- Records of the same widths stand in the order of their values. -/
theorem cmp_records (fs gs : List (Int × Int)) (hw : fs.map (·.1) = gs.map (·.1)) (hf : ∀ p ∈ fs, 0 ≤ p.2 ∧ p.2 < 2 ^ p.1.toNat) (hg : ∀ p ∈ gs, 0 ≤ p.2 ∧ p.2 < 2 ^ p.1.toNat) :
    cmpN (recB fs) (recB gs) = cmpN (fs.map fun p => p.2.toNat) (gs.map fun p => p.2.toNat) := by
  rw [← cmp_fields fs gs hw hf hg]
  have hl : (recBits fs).length = (recBits gs).length := by
    rw [recBits_length, recBits_length]
    have h1 : fs.map (fun p => p.1.toNat) = (fs.map (·.1)).map Int.toNat := by rw [List.map_map]; rfl
    have h2 : gs.map (fun p => p.1.toNat) = (gs.map (·.1)).map Int.toNat := by rw [List.map_map]; rfl
    rw [h1, h2, hw]
  have hs : recSize fs = recSize gs := by unfold recSize; rw [hl]
  have hb : ∀ fs, ∀ x ∈ recB fs, x < 256 := fun fs x hx => by
    simp only [recB, List.mem_map] at hx
    obtain ⟨j, _, rfl⟩ := hx
    exact byteOf_lt _ (recBits_bits fs) j
  rw [← cmp_bytes_flat _ _ (by rw [recB_length, recB_length, hs]) (hb fs) (hb gs)]
  have e : ∀ fs, (recB fs).flatMap (fieldBits 8) = recBits fs ++ List.replicate (8 * recSize fs - (recBits fs).length) 0 := fun fs => by
    rw [recB, bytes_bits _ (recBits_bits fs), range_getD]
    unfold recSize; omega
  rw [e fs, e gs, cmpN_append _ _ _ _ hl, hl, hs, cmpN_self]
  split
  · next h => exact h.symm
  · rfl
theorem cmpN_drop (l m : List Nat) (j : Nat) (h1 : j < l.length) (h2 : j < m.length) : cmpN (l.drop j) (m.drop j) = if l[j] < m[j] then -1 else if l[j] > m[j] then 1 else cmpN (l.drop (j + 1)) (m.drop (j + 1)) := by
  rw [List.drop_eq_getElem_cons h1, List.drop_eq_getElem_cons h2]; rfl
end Go.Proofs.Ytjinbcbpaoophaa
