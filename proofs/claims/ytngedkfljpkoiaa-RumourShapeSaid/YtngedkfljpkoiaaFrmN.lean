/- Frames, plain: how long they are. -/
import Derived.Test.YtngedkfljpkoiaaFrmD
namespace Go.Proofs.Ytngedkfljpkoiaa
set_option linter.unusedVariables false
set_option linter.unusedSimpArgs false

theorem slotsOf_bits (es : List Ent) : ((slotsOf es).flatMap fun p => fieldBits p.1.toNat p.2.toNat).length = 272 := by
  unfold slotsOf
  rw [List.flatMap_map]
  have : ∀ n : Nat, ((List.range n).flatMap fun k => fieldBits (34 : Int).toNat (slotAt es k).toNat).length = n * 34 := by
    intro n
    induction n with
    | zero => rfl
    | succ n ih => rw [List.range_succ, List.flatMap_append, List.length_append, ih, List.flatMap_cons, List.flatMap_nil, List.append_nil, fieldBits_length, Nat.succ_mul]; rfl
  exact this 8
theorem rum_bits (ix : List Nat) (l : Nat → List Ent) : (recBits (ix.flatMap fun i => slotsOf (l i))).length = ix.length * 272 := by
  unfold recBits
  induction ix with
  | nil => rfl
  | cons a t ih => rw [List.flatMap_cons, List.flatMap_append, List.length_append, slotsOf_bits, ih, List.length_cons, Nat.succ_mul]; omega
theorem rum_size (labs : List Nat) (f t : Nat) (l : Nat → List Ent) : recSize (rumF labs f t l) = ((shr labs f t labs.length).length * 272 + 7) / 8 := by
  unfold recSize rumF; rw [rum_bits]
theorem shr_symm (labs : List Nat) (f t : Nat) : ∀ k, shr labs f t k = shr labs t f k
  | 0 => rfl
  | k + 1 => by
    unfold shr
    rw [shr_symm labs f t k]
    by_cases h1 : lb labs k f = true <;> by_cases h2 : lb labs k t = true <;> simp [h1, h2]
theorem rumF_congr (labs : List Nat) (f t : Nat) (l l' : Nat → List Ent) (h : ∀ i, i < labs.length → lb labs i f = true → lb labs i t = true → l i = l' i) : rumF labs f t l = rumF labs f t l' := by
  unfold rumF
  have : ∀ ix : List Nat, (∀ i ∈ ix, l i = l' i) → (ix.flatMap fun i => slotsOf (l i)) = ix.flatMap fun i => slotsOf (l' i) := by
    intro ix hix
    induction ix with
    | nil => rfl
    | cons a t ih => rw [List.flatMap_cons, List.flatMap_cons, hix a List.mem_cons_self, ih fun i hi => hix i (List.mem_cons_of_mem _ hi)]
  exact this _ fun i hi => by
    obtain ⟨h1, h2, h3⟩ := (shr_mem labs f t labs.length i).1 hi
    exact h i h1 h2 h3
end Go.Proofs.Ytngedkfljpkoiaa
