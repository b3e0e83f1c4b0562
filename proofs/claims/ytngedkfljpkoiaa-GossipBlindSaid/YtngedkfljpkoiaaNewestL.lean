/- MergeNewest: the plain law. -/
import Derived.Test.YtngedkfljpkoiaaJoinE
namespace Go.Proofs.Ytngedkfljpkoiaa
set_option linter.unusedVariables false
set_option linter.unusedSimpArgs false

theorem rev_ind {α : Type} {P : List α → Prop} (h0 : P []) (h1 : ∀ l a, P l → P (l ++ [a])) : ∀ (k : Nat) (l : List α), l.length = k → P l
  | 0, l, hl => by rw [List.length_eq_zero_iff.1 hl]; exact h0
  | k + 1, l, hl => by
    have hne : l ≠ [] := fun hh => by rw [hh] at hl; simp at hl
    rw [← List.dropLast_concat_getLast hne]
    exact h1 _ _ (rev_ind h0 h1 k _ (by simp; omega))
/-- What was merged is outdone by nothing that was merged. -/
theorem newest_stands (L : List Ent) (hok : ∀ e ∈ L, e.Ok) : ∀ y ∈ L, ∃ x, look (mergeL [] L) y.k = some x ∧ newer y x = false := by
  refine rev_ind (P := fun L => (∀ e ∈ L, e.Ok) → ∀ y ∈ L, ∃ x, look (mergeL [] L) y.k = some x ∧ newer y x = false) (fun _ y hy => by simp at hy) (fun l e ih hok y hy => ?_) _ L rfl hok
  have hl : ∀ x ∈ l, x.Ok := fun x hx => hok x (List.mem_append_left _ hx)
  have hm : MayL (mergeL [] l) := mergeL_may SixL.nil.may hl
  rw [mergeL_snoc, look_merge _ e hm.sorted]
  rcases List.mem_append.1 hy with hy | hy
  · obtain ⟨x, hx, hn⟩ := ih hl y hy
    by_cases c : y.k = e.k
    · rw [if_pos c]
      refine ⟨_, rfl, ?_⟩
      rw [hx]
      simp only [newest]
      by_cases c2 : newer e x = true
      · rw [if_pos c2]
        cases c3 : newer y e with
        | false => rfl
        | true => rw [nw_trans c3 c2] at hn; cases hn
      · rw [if_neg c2]; exact hn
    · rw [if_neg c]; exact ⟨x, hx, hn⟩
  · simp at hy; subst hy
    rw [if_pos rfl]
    refine ⟨_, rfl, ?_⟩
    cases hx : look (mergeL [] l) y.k with
    | none => simp only [newest]; exact nw_irrefl y
    | some x =>
      simp only [newest]
      by_cases c2 : newer y x = true
      · rw [if_pos c2]; exact nw_irrefl y
      · rw [if_neg c2]; simpa using c2
/-- The same members, the same list. -/
theorem merge_set {L M : List Ent} (hL : ∀ e ∈ L, e.Ok) (h : ∀ x, x ∈ L ↔ x ∈ M) : mergeL [] L = mergeL [] M := by
  have hM : ∀ e ∈ M, e.Ok := fun e he => hL e ((h e).2 he)
  have key : ∀ (A B : List Ent), (∀ e ∈ A, e.Ok) → (∀ e ∈ B, e.Ok) → (∀ x, x ∈ A → x ∈ B) → (∀ x, x ∈ B → x ∈ A) → ∀ k x, look (mergeL [] A) k = some x → look (mergeL [] B) k = some x := by
    intro A B hA hB h1 h2 k x hx
    obtain ⟨hm, hk⟩ := look_some hx
    have hxA : x ∈ A := by rcases mergeL_mem hm with hh | hh; simp at hh; exact hh
    obtain ⟨x', hx', hn⟩ := newest_stands B hB x (h1 x hxA)
    rw [hk] at hx'
    obtain ⟨hm', hk'⟩ := look_some hx'
    have hxB : x' ∈ B := by rcases mergeL_mem hm' with hh | hh; simp at hh; exact hh
    obtain ⟨x'', hx'', hn'⟩ := newest_stands A hA x' (h2 x' hxB)
    rw [hk', hx] at hx''
    simp only [Option.some.injEq] at hx''
    subst hx''
    rw [hx', nw_total (by rw [hk, hk']) hn hn']
  refine look_ext _ _ (mergeL_may SixL.nil.may hL).sorted (mergeL_may SixL.nil.may hM).sorted fun k => ?_
  cases hx : look (mergeL [] L) k with
  | some x => exact (key L M hL hM (fun x => (h x).1) (fun x => (h x).2) k x hx).symm
  | none =>
    cases hy : look (mergeL [] M) k with
    | none => rfl
    | some y => rw [key M L hM hL (fun x => (h x).2) (fun x => (h x).1) k y hy] at hx; cases hx
/-- Of a sorted list. -/
theorem look_at {a : List Ent} (ha : MayL a) (k : Nat) (hk : k < a.length) : look a a[k].k = some a[k] := by
  cases hx : look a a[k].k with
  | none =>
    unfold look at hx
    rw [List.find?_eq_none] at hx
    exact absurd (hx a[k] (List.getElem_mem hk)) (by simp)
  | some x =>
    obtain ⟨hm, hkk⟩ := look_some hx
    obtain ⟨j, hj, rfl⟩ := List.mem_iff_getElem.1 hm
    have hpw := List.pairwise_iff_getElem.1 ha.sorted
    rcases Nat.lt_trichotomy j k with h | h | h
    · have := hpw j k hj hk h; omega
    · subst h; rfl
    · have := hpw k j hk hj h; omega
/-- The notes from the other end, from some place on. -/
def turned (l : List Ent) (n r : Nat) : Nat → List Ent
  | 0 => []
  | i + 1 => (match l[(i + r) % n]? with | some x => x | none => ⟨0, 0, 0, 0, false⟩) :: turned l n r i
theorem turned_length (l : List Ent) (n r : Nat) : ∀ i, (turned l n r i).length = i
  | 0 => rfl
  | i + 1 => by simp [turned, turned_length l n r i]
theorem turned_mem (l : List Ent) (n r : Nat) (hn : n ≤ l.length) (h0 : 0 < n) (x : Ent) : x ∈ turned l n r n ↔ x ∈ l.take n := by
  have hin : ∀ i x, x ∈ turned l n r i ↔ ∃ j, j < i ∧ l[(j + r) % n]? = some x := by
    intro i
    induction i with
    | zero => intro x; simp [turned]
    | succ i ih =>
      intro x
      have hlt : (i + r) % n < l.length := Nat.lt_of_lt_of_le (Nat.mod_lt _ h0) hn
      simp only [turned, List.getElem?_eq_getElem hlt, List.mem_cons, ih]
      constructor
      · rintro (rfl | ⟨j, hj, hh⟩)
        · exact ⟨i, by omega, List.getElem?_eq_getElem hlt⟩
        · exact ⟨j, by omega, hh⟩
      · rintro ⟨j, hj, hh⟩
        by_cases e : j = i
        · subst e
          rw [List.getElem?_eq_getElem hlt] at hh
          simp only [Option.some.injEq] at hh
          exact .inl hh.symm
        · exact .inr ⟨j, by omega, hh⟩
  rw [hin]
  constructor
  · rintro ⟨j, hj, hh⟩
    rw [List.mem_take_iff_getElem]
    have hm := Nat.mod_lt (j + r) h0
    obtain ⟨h1, h2⟩ := List.getElem?_eq_some_iff.1 hh
    exact ⟨(j + r) % n, by omega, h2⟩
  · intro hx
    rw [List.mem_take_iff_getElem] at hx
    obtain ⟨i, hi, rfl⟩ := hx
    have hi' : i < n := by omega
    refine ⟨(i + (n - r % n)) % n, Nat.mod_lt _ h0, ?_⟩
    have hr := Nat.mod_lt r h0
    have e : ((i + (n - r % n)) % n + r) % n = i := by
      have h1 : (i + (n - r % n) + r) % n = i := by
        have h2 : i + (n - r % n) + r = i + n * (1 + r / n) := by
          have := Nat.div_add_mod r n
          rw [Nat.mul_add, Nat.mul_one]; omega
        rw [h2, Nat.add_mul_mod_self_left, Nat.mod_eq_of_lt hi']
      rw [Nat.add_mod, Nat.mod_mod, ← Nat.add_mod]; exact h1
    rw [e]
    exact List.getElem?_eq_getElem (by omega)
end Go.Proofs.Ytngedkfljpkoiaa
