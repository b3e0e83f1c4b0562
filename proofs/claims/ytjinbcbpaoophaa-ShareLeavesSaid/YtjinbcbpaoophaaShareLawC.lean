/- Taking one's share and leaving: plain arithmetic. -/
import Derived.Test.YtjinbcbpaoophaaShareLawB
namespace Go.Proofs.Ytjinbcbpaoophaa
set_option linter.unusedVariables false

theorem give1_cases (L r w : Int) : (give1 L r w = min w L ∧ rest1 L r w = r ∧ ¬ (L < w ∧ 0 < r)) ∨ (give1 L r w = min w L + 1 ∧ rest1 L r w = r - 1 ∧ L < w ∧ 0 < r) := by
  unfold give1 rest1
  by_cases h : L < w ∧ 0 < r
  · right; rw [if_pos h, if_pos h]; exact ⟨rfl, rfl, h.1, h.2⟩
  · left; rw [if_neg h, if_neg h]; exact ⟨rfl, rfl, h⟩
/-- What stands at one place above the level. -/
theorem give_extra (L : Int) : ∀ (r : Int) (ws : List Int) (i : Nat) (h : i < ws.length) (h' : i < (give L r ws).length), 0 ≤ r →
    ((give L r ws)[i] = min ws[i] L ∧ (give L r ws).eraseIdx i = give L r (ws.eraseIdx i) ∧ (L < ws[i] → r ≤ above L (ws.eraseIdx i))) ∨
    ((give L r ws)[i] = min ws[i] L + 1 ∧ L < ws[i] ∧ 0 < r ∧ (give L r ws).eraseIdx i = give L (r - 1) (ws.eraseIdx i))
  | r, a :: t, 0, h, h', hr => by
    simp only [give, List.getElem_cons_zero, List.eraseIdx_cons_zero]
    rcases give1_cases L r a with ⟨h1, h2, h3⟩ | ⟨h1, h2, h3, h4⟩
    · left
      rw [h1, h2]
      refine ⟨rfl, rfl, fun hl => ?_⟩
      have := above_nonneg L t
      omega
    · right
      rw [h1, h2]
      exact ⟨rfl, h3, h4, rfl⟩
  | r, a :: t, i + 1, h, h', hr => by
    have hi : i < t.length := by simpa using h
    have hi' : i < (give L (rest1 L r a) t).length := by simpa [give] using h'
    simp only [give, List.getElem_cons_succ, List.eraseIdx_cons_succ]
    rcases give1_cases L r a with ⟨h1, h2, h3⟩ | ⟨h1, h2, h3, h4⟩
    · rcases give_extra L (rest1 L r a) t i hi hi' (by omega) with ⟨e1, e2, e3⟩ | ⟨e1, e2, e3, e4⟩
      · left
        refine ⟨e1, by rw [e2], fun hl => ?_⟩
        have := e3 hl
        simp only [above, List.map_cons, List.sum_cons] at *
        split <;> omega
      · right
        have ha : ¬ L < a := by omega
        refine ⟨e1, e2, by omega, ?_⟩
        rw [e4, h2, show give1 L (r - 1) a = give1 L r a by unfold give1; rw [if_neg (by omega), if_neg (by omega)], show rest1 L (r - 1) a = r - 1 by unfold rest1; rw [if_neg (by omega)]]
    · rcases give_extra L (rest1 L r a) t i hi hi' (by omega) with ⟨e1, e2, e3⟩ | ⟨e1, e2, e3, e4⟩
      · left
        refine ⟨e1, by rw [e2], fun hl => ?_⟩
        have := e3 hl
        simp only [above, List.map_cons, List.sum_cons] at *
        rw [if_pos h3]; omega
      · right
        refine ⟨e1, e2, h4, ?_⟩
        rw [e4, h2, show give1 L (r - 1) a = give1 L r a by unfold give1; rw [if_pos (by omega), if_pos (by omega)], show rest1 L (r - 1) a = r - 1 - 1 by unfold rest1; rw [if_pos (by omega)]]
theorem give_none (L : Int) : ∀ (ws : List Int), give L 0 ws = ws.map fun w => min w L
  | [] => rfl
  | a :: t => by
    have h1 : give1 L 0 a = min a L := by unfold give1; rw [if_neg (by omega)]
    have h2 : rest1 L 0 a = 0 := by unfold rest1; rw [if_neg (by omega)]
    simp only [give, h1, h2, give_none L t, List.map_cons]
theorem give_all (L : Int) : ∀ (ws : List Int), give L (above L ws) ws = ws.map fun w => min w (L + 1)
  | [] => rfl
  | a :: t => by
    have ha := above_nonneg L t
    have ih := give_all L t
    by_cases h : L < a
    · have e : above L (a :: t) = above L t + 1 := by simp only [above, List.map_cons, List.sum_cons]; rw [if_pos h]; omega
      have h1 : give1 L (above L t + 1) a = min a (L + 1) := by unfold give1; rw [if_pos (by omega)]; omega
      have h2 : rest1 L (above L t + 1) a = above L t := by unfold rest1; rw [if_pos (by omega)]; omega
      simp only [give, e, h1, h2, ih, List.map_cons]
    · have e : above L (a :: t) = above L t := by simp only [above, List.map_cons, List.sum_cons]; rw [if_neg h]; omega
      have h1 : give1 L (above L t) a = min a (L + 1) := by unfold give1; rw [if_neg (by omega)]; omega
      have h2 : rest1 L (above L t) a = above L t := by unfold rest1; rw [if_neg (by omega)]
      simp only [give, e, h1, h2, ih, List.map_cons]
theorem least_same (l m : Int) (hlm : l ≤ m) : ∀ (ws : List Int), least ws m ≤ least ws l → (ws.map fun w => min w m) = ws.map fun w => min w l
  | [], _ => rfl
  | a :: t, h => by
    have h1 := least_mono t l m hlm
    have ih := least_same l m hlm t
    simp only [least, List.map_cons, List.sum_cons] at *
    rw [ih (by omega), show min a m = min a l by omega]
theorem least_erase (l : Int) : ∀ (ws : List Int) (i : Nat) (h : i < ws.length), least ws l = least (ws.eraseIdx i) l + min ws[i] l
  | a :: t, 0, _ => by simp only [least, List.map_cons, List.sum_cons, List.eraseIdx_cons_zero, List.getElem_cons_zero]; omega
  | a :: t, i + 1, h => by
    have := least_erase l t i (by simpa using h)
    simp only [least, List.map_cons, List.sum_cons, List.eraseIdx_cons_succ, List.getElem_cons_succ] at *
    omega
/-- Who takes its share and leaves changes nothing for the others. -/
theorem share_leaves {t : Int} {ws : List Int} {L M : Int} (i : Nat) (hi : i < ws.length) (h : Lev t ws L) (h1 : i < (give L (t - least ws L) ws).length)
    (k : Lev (t - (give L (t - least ws L) ws)[i]) (ws.eraseIdx i) M) :
    give M (t - (give L (t - least ws L) ws)[i] - least (ws.eraseIdx i) M) (ws.eraseIdx i) = (give L (t - least ws L) ws).eraseIdx i := by
  have hR : 0 ≤ t - least ws L := by have := h.2.2.1; omega
  have eL := least_erase L ws i hi
  have eL1 := least_erase (L + 1) ws i hi
  have sL := least_succ (ws.eraseIdx i) L
  obtain ⟨a, b, c, d⟩ := h
  rcases give_extra L (t - least ws L) ws i hi h1 hR with ⟨e1, e2, e3⟩ | ⟨e1, e2, e3, e4⟩
  · rw [e1] at k ⊢
    rw [e2]
    by_cases hl : L < 1048576 ∧ least (ws.eraseIdx i) (L + 1) ≤ t - min ws[i] L
    · have hd := d hl.1
      have hw : L < ws[i] := by
        rcases Int.lt_or_le L ws[i] with hw | hw
        · exact hw
        · exfalso
          have : min ws[i] (L + 1) = min ws[i] L := by omega
          omega
      have e3' := e3 hw
      have eR : t - least ws L = above L (ws.eraseIdx i) := by omega
      have hM : L + 1 ≤ M := by
        rcases Int.lt_or_le M (L + 1) with hM | hM
        · exfalso
          have := k.2.2.2 (by omega)
          have := least_mono (ws.eraseIdx i) (M + 1) (L + 1) (by omega)
          omega
        · exact hM
      have m1 := least_mono (ws.eraseIdx i) (L + 1) M hM
      have m2 := k.2.2.1
      rw [show t - min ws[i] L - least (ws.eraseIdx i) M = 0 by omega, eR, give_all, give_none]
      exact least_same (L + 1) M hM _ (by omega)
    · have k' : Lev (t - min ws[i] L) (ws.eraseIdx i) L := ⟨a, b, by omega, fun hlt => by
        rcases Int.lt_or_le (t - min ws[i] L) (least (ws.eraseIdx i) (L + 1)) with hh | hh
        · exact hh
        · exact absurd ⟨hlt, hh⟩ hl⟩
      obtain rfl := k.unique k'
      congr 1; omega
  · rw [e1] at k ⊢
    rw [e4]
    have k' : Lev (t - (min ws[i] L + 1)) (ws.eraseIdx i) L := ⟨a, b, by omega, fun hlt => by
      have := d hlt
      have : min ws[i] (L + 1) = min ws[i] L + 1 := by omega
      omega⟩
    obtain rfl := k.unique k'
    congr 1; omega
end Go.Proofs.Ytjinbcbpaoophaa
