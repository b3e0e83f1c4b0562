/- Lines, plain: numbers and blanks. -/
import Derived.Test.YtjnjecednkiakaaDoorShelf
namespace Go.Proofs.YtjnjecednkiakaaDoor
open Go.Lib
set_option linter.unusedVariables false
set_option linter.unusedSimpArgs false

/-- Cut at blanks. -/
def headTo (c : UInt8) : List (List UInt8) → List (List UInt8)
  | [] => [[c]]
  | a :: r => (c :: a) :: r
def spl : List UInt8 → List (List UInt8)
  | [] => [[]]
  | c :: r => if c = 32 then [] :: spl r else headTo c (spl r)
theorem spl_ne (l : List UInt8) : spl l ≠ [] := by
  cases l with
  | nil => simp [spl]
  | cons c r =>
    unfold spl
    split
    · simp
    · unfold headTo; split <;> simp
theorem split_one : ∀ l : List UInt8, splitK [32] 0 (count l [32]) l = spl l
  | [] => by
    rw [count_miss (by rfl)]; rfl
  | c :: r => by
    have ih := split_one r
    by_cases hc : c = 32
    · subst hc
      have hi : Lib.index (32 :: r) [32] = ((0 : Nat) : Int) := by rw [index_one]; rfl
      rw [count_hit (by simp) hi]
      have hk : ∀ k, splitK [32] 0 (1 + k) (32 :: r) = [] :: splitK [32] 0 k r := fun k => by
        rw [Nat.add_comm 1 k]
        conv => lhs; unfold splitK
        rw [hi]
        rfl
      show splitK [32] 0 (1 + count r [32]) (32 :: r) = _
      rw [hk, ih]
      rfl
    · have hb : (c == 32) = false := by simpa using hc
      have hi : Lib.index (c :: r) [32] = if Lib.index r [32] == -1 then -1 else Lib.index r [32] + 1 := by
        rw [index_one, index_one]
        conv => lhs; unfold indexByte
        rw [hb]; rfl
      have hs : spl (c :: r) = headTo c (spl r) := by
        conv => lhs; unfold spl
        rw [if_neg hc]
      by_cases hr : Lib.index r [32] = -1
      · rw [hr] at hi
        have hi' : Lib.index (c :: r) [32] = -1 := hi
        rw [count_miss hi', hs]
        rw [count_miss hr] at ih
        rw [← ih]; rfl
      · obtain ⟨i, hi2⟩ : ∃ i : Nat, Lib.index r [32] = (i : Int) := by
          have := index_ge r [32]
          exact ⟨(Lib.index r [32]).toNat, by omega⟩
        have hne : (Lib.index r [32] == -1) = false := by simpa using hr
        rw [hne] at hi
        have hi' : Lib.index (c :: r) [32] = ((i + 1 : Nat) : Int) := by rw [hi, hi2]; simp
        rw [count_hit (by simp) hi', hs, ← ih, count_hit (by simp) hi2]
        have e1 : List.drop (i + 1 + [(32 : UInt8)].length) (c :: r) = List.drop (i + [(32 : UInt8)].length) r := by simp [List.drop_succ_cons]
        rw [e1]
        generalize count (List.drop (i + [(32 : UInt8)].length) r) [32] = k
        have h1 : splitK [32] 0 (1 + k) (c :: r) = List.take (i + 1) (c :: r) :: splitK [32] 0 k (List.drop (i + 1 + [(32 : UInt8)].length) (c :: r)) := by
          rw [Nat.add_comm 1 k]
          conv => lhs; unfold splitK
          rw [hi', if_neg (by simp; omega)]
          simp
        have h2 : splitK [32] 0 (1 + k) r = List.take i r :: splitK [32] 0 k (List.drop (i + [(32 : UInt8)].length) r) := by
          rw [Nat.add_comm 1 k]
          conv => lhs; unfold splitK
          rw [hi2, if_neg (by simp)]
          simp
        rw [h1, h2, e1]
        rfl
theorem splitB_spl (s : ByteArray) : (splitB ⟨#[32]⟩ 0 (countB s ⟨#[32]⟩) s).map (·.data.toList) = spl s.data.toList := by
  rw [splitB_data]
  exact split_one _
/-- Parts without blanks, joined and cut again. -/
theorem spl_word (a : List UInt8) (h : ∀ c ∈ a, c ≠ 32) : spl a = [a] := by
  induction a with
  | nil => rfl
  | cons c r ih =>
    unfold spl
    rw [if_neg (h c List.mem_cons_self), ih (fun d hd => h d (List.mem_cons_of_mem _ hd))]
    rfl
theorem spl_app (a l : List UInt8) (h : ∀ c ∈ a, c ≠ 32) : spl (a ++ 32 :: l) = a :: spl l := by
  induction a with
  | nil =>
    show spl (32 :: l) = _
    conv => lhs; unfold spl
    rw [if_pos rfl]
  | cons c r ih =>
    show spl (c :: (r ++ 32 :: l)) = _
    conv => lhs; unfold spl
    rw [if_neg (h c List.mem_cons_self), ih (fun d hd => h d (List.mem_cons_of_mem _ hd))]
    rfl
theorem spl_join (a : List UInt8) (r : List (List UInt8)) (ha : ∀ c ∈ a, c ≠ 32) (hr : ∀ x ∈ r, ∀ c ∈ x, c ≠ 32) : spl (Lib.join (a :: r) [32]) = a :: r := by
  rw [join_cons]
  induction r generalizing a with
  | nil => simp only [joinTail, List.map_nil, List.flatten_nil, List.append_nil]; exact spl_word a ha
  | cons b t ih =>
    have e : a ++ joinTail [32] (b :: t) = a ++ 32 :: (b ++ joinTail [32] t) := by simp [joinTail]
    rw [e, spl_app a _ ha, ih b (hr b List.mem_cons_self) (fun x hx => hr x (List.mem_cons_of_mem _ hx))]
theorem join_spl : ∀ l : List UInt8, Lib.join (spl l) [32] = l
  | [] => rfl
  | c :: r => by
    have ih := join_spl r
    unfold spl
    obtain ⟨a, t, e⟩ : ∃ a t, spl r = a :: t := by
      cases h : spl r with
      | nil => exact absurd h (spl_ne r)
      | cons a t => exact ⟨a, t, rfl⟩
    rw [e, join_cons] at ih
    split
    · rename_i hc
      subst hc
      rw [e, join_cons]
      show [] ++ joinTail [32] (a :: t) = _
      rw [← ih]
      simp [joinTail]
    · rw [e]
      show Lib.join ((c :: a) :: t) [32] = _
      rw [join_cons, ← ih]; rfl
/-- Numerals. -/
theorem decDigits_lt (u : Nat) (h : u < 10) : decDigits u = [UInt8.ofNat (48 + u)] := by rw [decDigits, dif_pos h]
theorem decDigits_ge (u : Nat) (h : ¬ u < 10) : decDigits u = decDigits (u / 10) ++ [UInt8.ofNat (48 + u % 10)] := by conv => lhs; rw [decDigits, dif_neg h]
theorem digit_ok (d : Nat) (h : d < 10) : (UInt8.ofNat (48 + d)).toNat = 48 + d ∧ UInt8.ofNat (48 + d) ≠ 32 ∧ UInt8.ofNat (48 + d) ≠ 43 ∧ UInt8.ofNat (48 + d) ≠ 45 := by
  have : ∀ d : Fin 10, (UInt8.ofNat (48 + d.val)).toNat = 48 + d.val ∧ UInt8.ofNat (48 + d.val) ≠ 32 ∧ UInt8.ofNat (48 + d.val) ≠ 43 ∧ UInt8.ofNat (48 + d.val) ≠ 45 := by decide
  exact this ⟨d, h⟩
theorem dec_mem (u : Nat) : ∀ c ∈ decDigits u, 48 ≤ c.toNat ∧ c.toNat ≤ 57 := by
  induction u using Nat.strongRecOn with
  | _ u ih =>
    intro c hc
    by_cases h : u < 10
    · rw [decDigits_lt u h, List.mem_singleton] at hc
      subst hc
      rw [(digit_ok u h).1]; omega
    · rw [decDigits_ge u h] at hc
      rcases List.mem_append.1 hc with hc | hc
      · exact ih (u / 10) (by omega) c hc
      · rw [List.mem_singleton] at hc
        subst hc
        rw [(digit_ok (u % 10) (by omega)).1]; omega
theorem dec_ne (u : Nat) : decDigits u ≠ [] := by
  by_cases h : u < 10
  · rw [decDigits_lt u h]; simp
  · rw [decDigits_ge u h]; simp
theorem parse_append (l m : List UInt8) : ∀ acc u, parseUint10 acc l = .ok u → parseUint10 acc (l ++ m) = parseUint10 u m := by
  induction l with
  | nil => intro acc u h; simp only [parseUint10, NumEnd.ok.injEq] at h; subst h; rfl
  | cons c r ih =>
    intro acc u h
    show parseUint10 acc (c :: (r ++ m)) = _
    conv => lhs; unfold parseUint10
    unfold parseUint10 at h
    by_cases h1 : 48 ≤ c.toNat ∧ c.toNat ≤ 57
    · rw [if_pos h1] at h ⊢
      by_cases h2 : 1844674407370955162 ≤ acc
      · rw [if_pos h2] at h; cases h
      · rw [if_neg h2] at h ⊢
        by_cases h3 : 18446744073709551616 ≤ acc * 10 + (c.toNat - 48)
        · rw [if_pos h3] at h; cases h
        · rw [if_neg h3] at h ⊢
          exact ih _ _ h
    · rw [if_neg h1] at h; cases h
theorem parse_dec (u : Nat) : u < 18446744073709551616 → parseUint10 0 (decDigits u) = .ok u := by
  induction u using Nat.strongRecOn with
  | _ u ih =>
    intro hu
    by_cases h : u < 10
    · rw [decDigits_lt u h]
      have := (digit_ok u h).1
      unfold parseUint10
      rw [this, if_pos (by omega), if_neg (by omega), if_neg (by omega)]
      simp [parseUint10]
    · rw [decDigits_ge u h, parse_append _ _ 0 (u / 10) (ih (u / 10) (by omega) (by omega))]
      have := (digit_ok (u % 10) (by omega)).1
      unfold parseUint10
      rw [this, if_pos (by omega), if_neg (by omega), if_neg (by omega)]
      simp only [parseUint10, NumEnd.ok.injEq]
      omega
theorem atoi_itoa (n : Int) (h0 : -9223372036854775808 ≤ n) (h1 : n ≤ 9223372036854775807) : atoiAll (itoa n) = .ok n := by
  unfold itoa
  by_cases hn : n < 0
  · rw [if_pos hn]
    unfold atoiAll
    have e45 : (45 : UInt8).toNat = 45 := rfl
    simp only [e45, or_true, if_true]
    have hp : parseMag (decDigits n.natAbs) = .ok n.natAbs := by
      unfold parseMag
      rw [if_neg (dec_ne _)]
      exact parse_dec _ (by omega)
    rw [hp]
    simp only [not_true, false_and, if_false, true_and]
    rw [if_neg (by omega)]
    congr 1
    omega
  · rw [if_neg hn]
    obtain ⟨c, r, e⟩ : ∃ c r, decDigits n.toNat = c :: r := by
      cases h : decDigits n.toNat with
      | nil => exact absurd h (dec_ne _)
      | cons c r => exact ⟨c, r, rfl⟩
    have hc := dec_mem n.toNat c (by rw [e]; exact List.mem_cons_self)
    have hp : parseMag (decDigits n.toNat) = .ok n.toNat := by
      unfold parseMag
      rw [if_neg (dec_ne _)]
      exact parse_dec _ (by omega)
    rw [e] at hp ⊢
    unfold atoiAll
    have h43 : ¬ (c.toNat = 43 ∨ c.toNat = 45) := by omega
    have h45 : ¬ c.toNat = 45 := by omega
    simp only [if_neg h43, hp]
    rw [if_neg (by omega), if_neg (by omega), if_neg h45]
    congr 1
    omega
theorem itoa_ok (n : Int) : ∀ c ∈ itoa n, c ≠ 32 := by
  intro c hc e
  subst e
  unfold itoa at hc
  split at hc
  · rcases List.mem_cons.1 hc with h | h
    · cases h
    · have := dec_mem _ _ h; revert this; decide
  · have := dec_mem _ _ hc; revert this; decide
theorem itoa_ne (n : Int) : itoa n ≠ [] := by
  unfold itoa
  split
  · simp
  · exact dec_ne _
end Go.Proofs.YtjnjecednkiakaaDoor
