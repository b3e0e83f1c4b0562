/- What the shares are worth: plain arithmetic. -/
import Derived.Test.YtkodpijedinanaaShareC
namespace Go.Proofs.Ytkodpijedinanaa
set_option linter.unusedVariables false

theorem least_mono (ws : List Int) (l m : Int) (h : l ≤ m) : least ws l ≤ least ws m := by
  induction ws with
  | nil => exact Int.le_refl _
  | cons a t ih => simp only [least, List.map_cons, List.sum_cons] at *; omega
theorem Lev.unique {t : Int} {ws : List Int} {L M : Int} (h : Lev t ws L) (k : Lev t ws M) : L = M := by
  have key : ∀ {L M : Int}, Lev t ws L → Lev t ws M → ¬ L < M := fun {L M} h k hlt => by
    have h1 := h.2.2.2 (by have := k.2.1; omega)
    have h2 := least_mono ws (L + 1) M (by omega)
    have := k.2.2.1
    omega
  have := key h k
  have := key k h
  omega
theorem give1_bd (L r w : Int) (hL : 0 ≤ L) (hw : 0 ≤ w) : 0 ≤ give1 L r w ∧ give1 L r w ≤ w ∧ min w L ≤ give1 L r w ∧ give1 L r w ≤ min w (L + 1) := by
  unfold give1; split <;> omega
theorem give_get (L : Int) : ∀ (r : Int) (ws : List Int) (i : Nat) (h : i < ws.length) (h' : i < (give L r ws).length), ∃ r', (give L r ws)[i] = give1 L r' ws[i]
  | r, w :: ws, 0, _, _ => ⟨r, rfl⟩
  | r, w :: ws, i + 1, h, h' => by
    obtain ⟨r', e⟩ := give_get L (rest1 L r w) ws i (by simpa using h) (by simpa [give] using h')
    exact ⟨r', by simpa [give] using e⟩
/-- How many want more than a level. -/
def above (L : Int) (ws : List Int) : Int := (ws.map fun w => if L < w then (1 : Int) else 0).sum
theorem least_succ (ws : List Int) (L : Int) : least ws (L + 1) = least ws L + above L ws := by
  induction ws with
  | nil => rfl
  | cons a t ih =>
    simp only [least, above, List.map_cons, List.sum_cons] at *
    split <;> omega
theorem above_nonneg (L : Int) (ws : List Int) : 0 ≤ above L ws := by
  induction ws with
  | nil => exact Int.le_refl _
  | cons a t ih => simp only [above, List.map_cons, List.sum_cons] at *; split <;> omega
theorem give_sum (L : Int) : ∀ (r : Int) (ws : List Int), (give L r ws).sum = least ws L + (r - restA L r ws)
  | r, [] => by simp [give, least, restA]
  | r, w :: ws => by
    have ih := give_sum L (rest1 L r w) ws
    simp only [give, List.sum_cons, restA, least, List.map_cons] at *
    unfold give1 rest1 at *
    split <;> simp_all <;> omega
theorem restA_zero (L : Int) : ∀ (r : Int) (ws : List Int), 0 ≤ r → r ≤ above L ws → restA L r ws = 0
  | r, [], h, k => by simp [above] at k; simp [restA]; omega
  | r, w :: ws, h, k => by
    simp only [restA]
    apply restA_zero
    · unfold rest1; split <;> omega
    · simp only [above, List.map_cons, List.sum_cons] at *
      unfold rest1
      have := above_nonneg L ws
      simp only [above] at this
      split <;> split at k <;> omega
theorem sum_le (ws : List Int) (L : Int) : least ws L ≤ ws.sum := by
  induction ws with
  | nil => exact Int.le_refl _
  | cons a t ih => simp only [least, List.map_cons, List.sum_cons] at *; omega
theorem least_all (ws : List Int) (L : Int) (h : ∀ w ∈ ws, w ≤ L) : least ws L = ws.sum := by
  induction ws with
  | nil => rfl
  | cons a t ih =>
    have h1 := h a (by simp)
    have := ih (fun w hw => h w (by simp [hw]))
    simp only [least, List.map_cons, List.sum_cons] at *; omega
/-- All is given that is wanted, as far as there is. -/
theorem share_sum {t : Int} {ws : List Int} {L : Int} (hw : ∀ x ∈ ws, 0 ≤ x ∧ x ≤ 1048576) (h : Lev t ws L) : (give L (t - least ws L) ws).sum = min t ws.sum := by
  rw [give_sum]
  obtain ⟨h0, h1, h2, h3⟩ := h
  by_cases hl : L < 1048576
  · have h4 := h3 hl
    rw [least_succ] at h4
    rw [restA_zero L _ ws (by omega) (by omega)]
    have := sum_le ws (L + 1)
    rw [least_succ] at this
    omega
  · have e := least_all ws L (fun w hw' => by have := hw w hw'; omega)
    have hz : above L ws = 0 := by
      have := sum_le ws (L + 1); rw [least_succ] at this
      have := above_nonneg L ws
      omega
    have hr : ∀ (r : Int) (l : List Int), above L l = 0 → restA L r l = r := fun r l => by
      induction l generalizing r with
      | nil => intro _; rfl
      | cons a t ih =>
        intro hz
        have hn := above_nonneg L t
        have hz' : ¬ L < a ∧ above L t = 0 := by
          simp only [above, List.map_cons, List.sum_cons] at hz hn ⊢
          split at hz <;> omega
        simp only [restA, rest1]
        rw [if_neg (by omega)]
        exact ih r hz'.2
    rw [hr _ _ hz]
    omega
/-- With more to give nobody gets less. -/
theorem give_mono (L : Int) : ∀ (r s : Int) (ws : List Int) (i : Nat) (h1 : i < (give L r ws).length) (h2 : i < (give L s ws).length), r ≤ s → (give L r ws)[i] ≤ (give L s ws)[i]
  | r, s, w :: ws, 0, _, _, h => by simp only [give, List.getElem_cons_zero]; unfold give1; split <;> split <;> omega
  | r, s, w :: ws, i + 1, h1, h2, h => by
    simp only [give, List.getElem_cons_succ]
    apply give_mono
    unfold rest1; split <;> split <;> omega
theorem share_grows {t u : Int} {ws : List Int} {L M : Int} (hw : ∀ x ∈ ws, 0 ≤ x ∧ x ≤ 1048576) (h : Lev t ws L) (k : Lev u ws M) (htu : t ≤ u) (i : Nat) (h1 : i < (give L (t - least ws L) ws).length) (h2 : i < (give M (u - least ws M) ws).length) :
    (give L (t - least ws L) ws)[i] ≤ (give M (u - least ws M) ws)[i] := by
  have hi : i < ws.length := by rw [give_length] at h1; exact h1
  have hLM : L ≤ M := by
    rcases Int.lt_or_le M L with hlt | hle
    · have h3 := k.2.2.2 (by have := h.2.1; omega)
      have h4 := least_mono ws (M + 1) L (by omega)
      have := h.2.2.1
      omega
    · exact hle
  rcases Int.lt_or_eq_of_le hLM with hlt | rfl
  · obtain ⟨r, e1⟩ := give_get L (t - least ws L) ws i hi h1
    obtain ⟨s, e2⟩ := give_get M (u - least ws M) ws i hi h2
    rw [e1, e2]
    have b := hw _ (List.getElem_mem hi)
    have c1 := give1_bd L r ws[i] h.1 b.1
    have c2 := give1_bd M s ws[i] k.1 b.1
    omega
  · exact give_mono L _ _ ws i h1 h2 (by omega)
end Go.Proofs.Ytkodpijedinanaa
