/- Wanting more: plain arithmetic. And a store into an owned row. -/
import Derived.Test.YtjinbcbpaoophaaShareK
namespace Go.Proofs.Ytjinbcbpaoophaa
open Go.RowKit
set_option linter.unusedVariables false

theorem least_set (ws : List Int) (l : Int) (i : Nat) (h : i < ws.length) (w' : Int) : least (ws.set i w') l = least ws l - min ws[i] l + min w' l := by
  induction ws generalizing i with
  | nil => simp at h
  | cons a t ih =>
    rcases i with _ | i
    · simp only [least, List.set_cons_zero, List.map_cons, List.sum_cons, List.getElem_cons_zero]; omega
    · have := ih i (by simpa using h)
      simp only [least, List.set_cons_succ, List.map_cons, List.sum_cons, List.getElem_cons_succ] at *
      omega
theorem give_set (L : Int) : ∀ (r : Int) (ws : List Int) (i : Nat) (h : i < ws.length) (w' : Int), L < ws[i] → L < w' → give L r (ws.set i w') = give L r ws
  | r, a :: t, 0, _, w', h1, h2 => by
    simp only [List.getElem_cons_zero] at h1
    simp only [List.set_cons_zero, give, give1, rest1, h1, h2, true_and]
    rw [show min w' L = min a L by omega]
  | r, a :: t, i + 1, h, w', h1, h2 => by
    simp only [List.set_cons_succ, give]
    rw [give_set L _ t i (by simpa using h) w' (by simpa using h1) h2]
theorem Lev.set {t : Int} {ws : List Int} {L : Int} (h : Lev t ws L) (i : Nat) (hi : i < ws.length) (w' : Int) (h1 : L < ws[i]) (h2 : L < w') : Lev t (ws.set i w') L := by
  obtain ⟨a, b, c, d⟩ := h
  refine ⟨a, b, ?_, fun hl => ?_⟩
  · rw [least_set _ _ _ hi]; omega
  · have := d hl; rw [least_set _ _ _ hi]; omega
theorem give_at (L : Int) (hL : 0 ≤ L) (r : Int) (ws : List Int) (i : Nat) (h : i < ws.length) (h' : i < (give L r ws).length) (h0 : 0 ≤ ws[i]) : min ws[i] L ≤ (give L r ws)[i] ∧ (give L r ws)[i] ≤ ws[i] ∧ 0 ≤ (give L r ws)[i] := by
  obtain ⟨r', e⟩ := give_get L r ws i h h'
  have := give1_bd L r' ws[i] hL h0
  rw [e]; omega
/-- Whoever wants more gets no less; and who got less than it wanted gets just what it got. -/
theorem share_wants {t : Int} {ws : List Int} {L M : Int} (i : Nat) (hi : i < ws.length) (w' : Int) (h0 : 0 ≤ ws[i]) (hw' : ws[i] < w') (h : Lev t ws L) (k : Lev t (ws.set i w') M)
    (h1 : i < (give L (t - least ws L) ws).length) (h2 : i < (give M (t - least (ws.set i w') M) (ws.set i w')).length) :
    (give L (t - least ws L) ws)[i] ≤ (give M (t - least (ws.set i w') M) (ws.set i w'))[i] ∧
    ((give L (t - least ws L) ws)[i] ≠ ws[i] → give L (t - least ws L) ws = give M (t - least (ws.set i w') M) (ws.set i w')) := by
  by_cases hlt : L < ws[i]
  · obtain rfl : L = M := (h.set i hi w' hlt (by omega)).unique k
    have e1 : least (ws.set i w') L = least ws L := by rw [least_set _ _ _ hi]; omega
    have e2 : give L (t - least (ws.set i w') L) (ws.set i w') = give L (t - least ws L) ws := by rw [e1]; exact give_set L _ ws i hi w' hlt (by omega)
    refine ⟨?_, fun _ => e2.symm⟩
    simp only [e2]; exact Int.le_refl _
  · have a1 := give_at L h.1 (t - least ws L) ws i hi h1 h0
    have e1 : (give L (t - least ws L) ws)[i] = ws[i] := by omega
    have hi' : i < (ws.set i w').length := by simpa using hi
    have e3 : (ws.set i w')[i] = w' := by simp
    have a2 := give_at M k.1 (t - least (ws.set i w') M) (ws.set i w') i hi' h2 (by rw [e3]; omega)
    rw [e3] at a2
    refine ⟨?_, fun hne => absurd e1 hne⟩
    rcases Int.lt_or_le M ws[i] with hM | hM
    · have k' := k.set i hi' ws[i] (by rw [e3]; omega) hM
      have e4 : (ws.set i w').set i ws[i] = ws := by rw [List.set_set, List.set_getElem_self]
      rw [e4] at k'
      have := h.unique k'
      omega
    · omega
/-- A store into a row of the call's own. -/
theorem owns_set {w : World} {base e n cap : Nat} {g : Nat} {xs : List Value} (h : w.ownsRow base e 1 (.slice (some ⟨g, 0, none⟩) n cap) n xs) (i : Nat) (u : Value) :
    (w.setCell ⟨g, i, none⟩ u).ownsRow base e 1 (.slice (some ⟨g, 0, none⟩) n cap) n (xs.set i u) := by
  obtain ⟨hl, h⟩ := h
  refine ⟨by simpa using hl, ?_⟩
  rcases h with ⟨h, _⟩ | ⟨g', cap', cur, he, hg, hh, hn, hm, hs, ht⟩
  · simp at h
  · simp only [Value.slice.injEq, Option.some.injEq, Addr.mk.injEq, and_true, true_and] at he
    obtain ⟨rfl, rfl⟩ := he
    refine .inr ⟨g, cap, cur.setIfInBounds i u, rfl, hg, heap_setCell_same _ _ _ _ _ _ hh, hn, hm, by simpa using hs, ?_⟩
    rw [Array.toList_setIfInBounds, List.take_set, ht]
theorem owns_set_other {w : World} {base e sz n g : Nat} {v : Value} {xs : List Value} (h : w.ownsRow base e sz v n xs) (hg : g < base) (i : Nat) (u : Value) : (w.setCell ⟨g, i, none⟩ u).ownsRow base e sz v n xs :=
  ownsRow_setCell_below h (a := ⟨g, i, none⟩) hg u
theorem ints_set (ws : List Int) (i : Nat) (z : Int) : (ints ws).set i (.int .i64 z) = ints (ws.set i z) := by simp [ints, List.map_set]
/-- A row that holds something: its value, written out. -/
theorem owns_some {w : World} {base e sz n : Nat} {v : Value} {xs : List Value} (h : w.ownsRow base e sz v n xs) (hn : 0 < n) : ∃ g cap, v = .slice (some ⟨g, 0, none⟩) n cap ∧ base ≤ g ∧ g < w.heap.size ∧ (∀ j, w.frozen? ⟨g, j, none⟩ = false) ∧ ∀ j u, xs[j]? = some u → w.cell? ⟨g, j, none⟩ = some u := by
  obtain ⟨hl, h⟩ := h
  rcases h with ⟨_, h⟩ | ⟨g, cap, cur, rfl, hg, hh, hn', hm, hs, ht⟩
  · omega
  · refine ⟨g, cap, rfl, hg, (Array.getElem?_eq_some_iff.1 hh).1, fun j => by simp [World.frozen?, hh], fun j u hu => ?_⟩
    rw [cell_of_row w g j _ _ _ hh]
    rw [← ht, List.getElem?_take] at hu
    split at hu
    · simpa using hu
    · cases hu
end Go.Proofs.Ytjinbcbpaoophaa
