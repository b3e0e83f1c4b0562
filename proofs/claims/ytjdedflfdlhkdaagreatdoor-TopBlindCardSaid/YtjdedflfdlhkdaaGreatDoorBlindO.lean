/- World, plain: the same steps, but that what is private is another thing; and how a row of steps is written. -/
import Derived.Test.YtjdedflfdlhkdaaGreatDoorKab
import Derived.Test.YtjdedflfdlhkdaaGreatDoorKau
import Derived.Test.YtjdedflfdlhkdaaGreatDoorBlindTL
namespace Go.Proofs.YtjdedflfdlhkdaaGreatDoor
open Go.ChangeShapes Go.WideShapes Go.ChangeAt Go.RowKit
set_option linter.unusedVariables false

def privB (c : Cfg) (X : Nat) (p : Stp) : Bool := !(X.testBit p.who.toNat) && (decide (1 ≤ p.kind ∧ p.kind ≤ 6) || (decide (p.kind = 7 ∨ p.kind = 8) && ((c.labs.getD p.label.toNat 0) &&& X == 0)))
def altS (p d : Stp) : Stp := if p.kind = 7 ∨ p.kind = 8 then ⟨7 + pick d.kind 2, p.who, p.item, d.count, p.life, p.id, p.label, d.key⟩ else ⟨1 + pick d.kind 6, p.who, pick d.item 3, d.count, d.life, d.id, p.label, p.key⟩
def othN (c : Cfg) (X : Nat) (S O : List Stp) : Nat → List Stp
  | 0 => S
  | k + 1 => if h : k < S.length ∧ k < O.length then (if privB c X S[k] = true then (othN c X S O k).set k (altS S[k] O[k]) else othN c X S O k) else othN c X S O k
theorem othN_len (c : Cfg) (X : Nat) (S O : List Stp) : ∀ k, (othN c X S O k).length = S.length
  | 0 => rfl
  | k + 1 => by
    unfold othN
    have ih := othN_len c X S O k
    split
    · split
      · rw [List.length_set, ih]
      · exact ih
    · exact ih
theorem othN_get (c : Cfg) (X : Nat) (S O : List Stp) : ∀ k i, k ≤ i → (othN c X S O k)[i]? = S[i]?
  | 0, i, _ => rfl
  | k + 1, i, h => by
    unfold othN
    have ih := othN_get c X S O k i (by omega)
    split
    · split
      · rw [List.getElem?_set_ne (by omega), ih]
      · exact ih
    · exact ih
def LawStp (p : Stp) : Prop := 0 ≤ p.who ∧ p.who < 4 ∧ 0 ≤ p.label ∧ p.label < 3 ∧ 1 ≤ p.kind ∧ p.kind ≤ 11
theorem stepOf_ok (d : Stp) (a : Nat) : LawStp (stepOf d a) := by
  have h1 := pick_bd d.kind 24 (by omega)
  have h2 := pick_bd d.who 4 (by omega)
  have h3 := pick_bd d.label 3 (by omega)
  unfold stepOf
  generalize pick d.kind 24 = k at *
  have hk : 1 ≤ stepKind k ∧ stepKind k ≤ 11 := by
    unfold stepKind
    repeat' split
    all_goals omega
  split
  · exact ⟨h2.1, h2.2, h3.1, h3.2, hk.1, hk.2⟩
  split
  · exact ⟨by decide, by decide, by decide, by decide, by decide, by decide⟩
  · exact ⟨(by show (0 : Int) ≤ 0; decide), (by show (0 : Int) < 4; decide), (by show (0 : Int) ≤ 0; decide), (by show (0 : Int) < 3; decide), hk.1, hk.2⟩
theorem and_sees {c : Cfg} {X j : Nat} (h : (c.labs.getD j 0) &&& X = 0) : ¬ Sees c X j := by
  rintro ⟨i, _, h1, h2⟩
  have h3 : ((c.labs.getD j 0) &&& X).testBit i = true := by
    rw [Nat.testBit_and, h1]
    unfold lb inL at h2
    rw [h2]; rfl
  rw [h] at h3
  simp at h3
theorem altS_priv {c : Cfg} {X : Nat} (hn : c.n = 4) {p : Stp} (d : Stp) (hp : LawStp p) (h : privB c X p = true) : Priv c X p (altS p d) := by
  obtain ⟨w0, w1, l0, l1, k0, k1⟩ := hp
  unfold privB at h
  simp only [Bool.and_eq_true, Bool.not_eq_true', Bool.or_eq_true, decide_eq_true_eq, beq_iff_eq] at h
  obtain ⟨hx, hk⟩ := h
  have p2 := pick_bd d.kind 2 (by omega)
  have p6 := pick_bd d.kind 6 (by omega)
  unfold altS
  by_cases h7 : p.kind = 7 ∨ p.kind = 8
  · rw [if_pos h7]
    refine ⟨rfl, by rw [hn]; exact ⟨w0, w1⟩, hx, .inr ⟨by omega, by simp only; omega, rfl, ?_⟩⟩
    rcases hk with hk | hk
    · omega
    · exact and_sees hk.2
  · rw [if_neg h7]
    refine ⟨rfl, by rw [hn]; exact ⟨w0, w1⟩, hx, .inl ⟨?_, by simp only; omega⟩⟩
    rcases hk with hk | hk
    · exact hk
    · exact absurd hk.1 h7
theorem othN_alike {c : Cfg} {X : Nat} (hn : c.n = 4) (S O : List Stp) (hS : ∀ p ∈ S, LawStp p) : ∀ k, ∀ (i : Nat) (p q : Stp), S[i]? = some p → (othN c X S O k)[i]? = some q → Alike c X p q
  | 0, i, p, q, h1, h2 => by
    have h2 : S[i]? = some q := h2
    rw [h1, Option.some.injEq] at h2
    exact .inl h2
  | k + 1, i, p, q, h1, h2 => by
    unfold othN at h2
    split at h2
    · rename_i hk
      split at h2
      · rename_i hp
        by_cases e : k = i
        · subst e
          rw [List.getElem?_set_self (by rw [othN_len]; exact hk.1), Option.some.injEq] at h2
          rw [List.getElem?_eq_getElem hk.1, Option.some.injEq] at h1
          rw [h1] at h2 hp
          subst h2
          exact .inr (altS_priv hn _ (hS p (by rw [← h1]; exact List.getElem_mem _)) hp)
        · rw [List.getElem?_set_ne e] at h2
          exact othN_alike hn S O hS k i p q h1 h2
      · exact othN_alike hn S O hS k i p q h1 h2
    · exact othN_alike hn S O hS k i p q h1 h2
theorem stps_length (l : List Stp) : (stps l).length = l.length * 8 := by
  induction l with
  | nil => rfl
  | cons a t ih =>
    have e : stps (a :: t) = a.cells ++ stps t := by unfold stps; rw [List.flatMap_cons]
    have e8 : a.cells.length = 8 := rfl
    rw [e, List.length_append, ih, e8, List.length_cons]; omega
theorem stps_put : ∀ (l : List Stp) (k : Nat) (hk : k < l.length) (j : Nat) (v : Value) (q : Stp), j < 8 → q.cells = (l[k]'hk).cells.set j v → (stps l).take (k * 8 + j) ++ [v] ++ (stps l).drop (k * 8 + j + 1) = stps (l.set k q)
  | a :: t, 0, _, j, v, q, hj, hq => by
    have e : a.cells.length = 8 := rfl
    have hs : (stps (a :: t)).take (0 * 8 + j) ++ [v] ++ (stps (a :: t)).drop (0 * 8 + j + 1) = (stps (a :: t)).set j v := by
      rw [set_split _ _ _ (by simp [stps, e]; omega)]; simp
    rw [hs]
    unfold stps
    rw [List.flatMap_cons, List.set_append_left _ _ (by omega), List.set_cons_zero, List.flatMap_cons, hq]
    rfl
  | a :: t, k + 1, hk, j, v, q, hj, hq => by
    have e : a.cells.length = 8 := rfl
    have ih := stps_put t k (by simpa using hk) j v q hj hq
    have hlen : k * 8 + j < (stps t).length := by
      have := stps_length t
      simp at hk; omega
    have h1 : (stps (a :: t)).take ((k + 1) * 8 + j) ++ [v] ++ (stps (a :: t)).drop ((k + 1) * 8 + j + 1) = (stps (a :: t)).set ((k + 1) * 8 + j) v := by
      rw [set_split]
      unfold stps at *
      rw [List.flatMap_cons, List.length_append]; omega
    have h2 : (stps t).take (k * 8 + j) ++ [v] ++ (stps t).drop (k * 8 + j + 1) = (stps t).set (k * 8 + j) v := by rw [set_split _ _ _ hlen]
    rw [h1]
    rw [h2] at ih
    unfold stps at *
    rw [List.set_cons_succ, List.flatMap_cons, List.flatMap_cons, List.set_append_right _ _ (by omega), ← ih]
    congr 2
    omega
theorem owns_put {w : World} {base g cap : Nat} {l : List Stp} (h : w.ownsRow base 48 8 (.slice (some ⟨g, 0, none⟩) l.length cap) l.length (stps l)) (k : Nat) (hk : k < l.length) (j : Nat) (v : Value) (q : Stp) (hj : j < 8) (hq : q.cells = (l[k]'hk).cells.set j v) :
    (w.setCell ⟨g, k * 8 + j, none⟩ v).ownsRow base 48 8 (.slice (some ⟨g, 0, none⟩) l.length cap) l.length (stps (l.set k q)) ∧ Below base w (w.setCell ⟨g, k * 8 + j, none⟩ v) := by
  have h1 := owns_write h (k * 8 + j) [v] (by simp; omega)
  have h2 := (owns_chc_write h (k * 8 + j) [v]).2
  rw [List.length_singleton, stps_put l k hk j v q hj hq] at h1
  exact ⟨h1, h2⟩
end Go.Proofs.YtjdedflfdlhkdaaGreatDoor
