/- World: purses, cell by cell. -/
import Derived.Test.YtjdedflfdlhkdaaGreatDoorWEnd
namespace Go.Proofs.YtjdedflfdlhkdaaGreatDoor
open Go.ChangeShapes Go.WideShapes Go.ChangeAt Go.RowKit
set_option linter.unusedVariables false
theorem pur_get6 (s : Wld) (i n k j : Nat) (hk : k < n) (hj : j < 6) : (purC s i n)[k * 6 + j]? = (purse s i k)[j]? := by
  induction n with
  | zero => omega
  | succ n ih =>
    have hlen : ∀ n, (purC s i n).length = n * 6 := fun n => by
      induction n with
      | zero => rfl
      | succ n ih => rw [purC_succ, List.length_append, ih]; simp [purse]; omega
    rw [purC_succ]
    rcases Nat.lt_or_ge k n with h | h
    · rw [List.getElem?_append_left (by rw [hlen]; omega)]; exact ih h
    · obtain rfl : k = n := by omega
      rw [List.getElem?_append_right (by rw [hlen]; omega), hlen]; congr 1; omega
theorem EndH.pcell {w : World} {c : Cfg} {s : Wld} {r p t : Value} {pv tv : Nat → Value} {ev : Nat → Nat → Value} (h : EndH w c s r p t pv tv ev) (hn : c.n = 4) (hi : c.items = 2) :
    ∃ pb po pc, p = .slice (some ⟨pb, po, none⟩) 4 pc ∧ (4 ≤ pc ∧ pc ≤ maxLen) ∧ ∀ i, i < 4 → w.cell? ⟨pb, po + i, none⟩ = some (pv i) ∧ ∃ xb xo xc, pv i = .slice (some ⟨xb, xo, none⟩) 2 xc ∧ (2 ≤ xc ∧ xc ≤ maxLen) ∧ ∀ k, k < 2 → ∀ m u, m < 6 → (purse s i k)[m]? = some u → w.cell? ⟨xb, xo + k * 6 + m, none⟩ = some u := by
  obtain ⟨_, pa, pc, he, h1, h2, hc⟩ := h.p
  rw [hn] at he h1
  obtain ⟨pb, po, rfl, hcl⟩ := hc (by simp [hn])
  refine ⟨pb, po, pc, he, ⟨h1, h2⟩, fun i hi4 => ⟨hcl i _ (by simp [hn, hi4]), ?_⟩⟩
  obtain ⟨_, xa, xc, he2, g1, g2, hd⟩ := h.pe i (by rw [hn]; exact hi4)
  rw [hi] at he2 g1
  have hlen : ∀ n, (purC s i n).length = n * 6 := fun n => by
    induction n with
    | zero => rfl
    | succ n ih => rw [purC_succ, List.length_append, ih]; simp [purse]; omega
  obtain ⟨xb, xo, rfl, hdl⟩ := hd (by rw [hlen, hi]; omega)
  exact ⟨xb, xo, xc, he2, ⟨g1, g2⟩, fun k hk m u hm hu => by rw [Nat.add_assoc]; exact hdl _ u (by rw [pur_get6 s i c.items k m (by rw [hi]; exact hk) hm]; exact hu)⟩
theorem EndH.tcell {w : World} {c : Cfg} {s : Wld} {r p t : Value} {pv tv : Nat → Value} {ev : Nat → Nat → Value} (h : EndH w c s r p t pv tv ev) (hn : c.n = 4) (hl : c.labs.length = 3) :
    ∃ tb td tc, t = .slice (some ⟨tb, td, none⟩) 4 tc ∧ (4 ≤ tc ∧ tc ≤ maxLen) ∧ ∀ i, i < 4 → w.cell? ⟨tb, td + i, none⟩ = some (tv i) ∧ ∃ xb xo xc, tv i = .slice (some ⟨xb, xo, none⟩) 3 xc ∧ (3 ≤ xc ∧ xc ≤ maxLen) ∧ ∀ j, j < 3 → w.cell? ⟨xb, xo + j, none⟩ = some (ev i j) := by
  obtain ⟨_, pa, pc, he, h1, h2, hc⟩ := h.t
  rw [hn] at he h1
  obtain ⟨pb, po, rfl, hcl⟩ := hc (by simp [hn])
  refine ⟨pb, po, pc, he, ⟨h1, h2⟩, fun i hi4 => ⟨hcl i _ (by simp [hn, hi4]), ?_⟩⟩
  obtain ⟨_, xa, xc, he2, g1, g2, hd⟩ := h.te i (by rw [hn]; exact hi4)
  rw [hl] at he2 g1
  obtain ⟨xb, xo, rfl, hdl⟩ := hd (by simp [hl])
  exact ⟨xb, xo, xc, he2, ⟨g1, g2⟩, fun j hj => hdl j _ (by simp [hl, hj])⟩
theorem EndH.rcell {w : World} {c : Cfg} {s : Wld} {r p t : Value} {pv tv : Nat → Value} {ev : Nat → Nat → Value} (h : EndH w c s r p t pv tv ev) (hi : c.items = 2) :
    ∃ rb ro rc, r = .slice (some ⟨rb, ro, none⟩) 2 rc ∧ (2 ≤ rc ∧ rc ≤ maxLen) ∧ ∀ k, k < 2 → w.cell? ⟨rb, ro + k, none⟩ = some (.int .i64 (s.bk k).res) := by
  obtain ⟨_, pa, pc, he, h1, h2, hc⟩ := h.r
  rw [hi] at he h1 hc
  obtain ⟨pb, po, rfl, hcl⟩ := hc (by simp [resC])
  exact ⟨pb, po, pc, he, ⟨h1, h2⟩, fun k hk => hcl k _ (by simp [resC, hk])⟩
end Go.Proofs.YtjdedflfdlhkdaaGreatDoor
