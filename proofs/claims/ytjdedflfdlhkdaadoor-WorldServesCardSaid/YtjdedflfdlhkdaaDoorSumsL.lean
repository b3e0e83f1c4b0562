/- World, plain: what was minted is somewhere, once. -/
import Derived.Test.YtjdedflfdlhkdaaDoorSoldL
import Derived.Test.YtjdedflfdlhkdaaDoorOldL
namespace Go.Proofs.YtjdedflfdlhkdaaDoor
set_option linter.unusedVariables false
set_option linter.unusedSimpArgs false

/-- What all branches have of item k. -/
def hasAll (s : Wld) (k : Nat) : Nat → Int
  | 0 => 0
  | j + 1 => hasAll s k j + (s.sh j k).all
/-- Nobody has more than was minted, all together. -/
theorem has_all {c : Cfg} {K : Nat} {s : Wld} (hn : c.n = 4) (h : TInv c s) (w : WOk c K s) (k : Nat) (hk : k < c.items) : hasAll s k 4 + (s.bk k).res ≤ c.minted.getD k 0 ∧ ((∀ i, i < 4 → s.gain i k = (s.bk k).granted.getD i 0) → hasAll s k 4 + (s.bk k).res = c.minted.getD k 0) := by
  have hb := w.bk k hk
  have hsum := h.sum k hk
  have hl : (s.bk k).granted.length = 4 := by rw [hb.lg, hn]
  have e := fun i (hi : i < 4) => h.sh i k (by omega) hk
  have g := fun i (hi : i < 4) => h.gr i k (by omega) hk
  have e0 := e 0 (by omega)
  have e1 := e 1 (by omega)
  have e2 := e 2 (by omega)
  have e3 := e 3 (by omega)
  have g0 := g 0 (by omega)
  have g1 := g 1 (by omega)
  have g2 := g 2 (by omega)
  have g3 := g 3 (by omega)
  match hgr : (s.bk k).granted, hl with
  | [x0, x1, x2, x3], _ =>
    rw [hgr] at g0 g1 g2 g3 hsum
    simp only [List.getD_cons_zero, List.getD_cons_succ, List.sum_cons, List.sum_nil] at g0 g1 g2 g3 hsum
    refine ⟨by simp only [hasAll]; omega, fun hq => ?_⟩
    have q0 := hq 0 (by omega)
    have q1 := hq 1 (by omega)
    have q2 := hq 2 (by omega)
    have q3 := hq 3 (by omega)
    simp only [List.getD_cons_zero, List.getD_cons_succ] at q0 q1 q2 q3
    simp only [hasAll]
    omega
/-- What comes later is neither old nor lost. -/
structure Fresh (s : Wld) : Prop where
  op : ∀ a b, s.op a b ≤ (s.ls.length : Int)
  lost : ∀ i, s.lost i = true → i < s.ls.length
theorem fresh0 (c : Cfg) : Fresh (wld0 c) := ⟨fun _ _ => by simp [wld0], fun i h => by simp [wld0] at h⟩
theorem fresh_step {c : Cfg} {s : Wld} (h : Fresh s) (p : Stp) : Fresh (s.step c p).2 := by
  unfold Wld.step
  split
  · refine ⟨fun a b => ?_, fun i hi => ?_⟩
    · have := h.op a b
      simp only [Wld.tick, Wld.ticked, List.length_append]; omega
    · have := h.lost i hi
      simp only [Wld.tick, Wld.ticked, List.length_append]; omega
  split
  · unfold Wld.deliver
    split
    · exact h
    split
    · exact h
    split
    · exact h
    · rename_i x hx
      obtain ⟨e1, e2, e3⟩ := comes_same c (s.opens p.id.toNat) x
      have hlt : p.id.toNat < s.ls.length := (List.getElem?_eq_some_iff.1 hx).1
      refine ⟨fun a b => ?_, fun i hi => ?_⟩
      · rw [e1, e2]
        show updW s.op _ _ _ a b ≤ (s.ls.length : Int)
        unfold updW
        split
        · omega
        · exact h.op a b
      · rw [e3] at hi
        rw [e1]
        exact h.lost i hi
  split
  · unfold Wld.lose
    split
    · rename_i h0
      refine ⟨h.op, fun i hi => ?_⟩
      simp only [updF] at hi
      split at hi
      · rename_i e
        subst e
        unfold Wld.due at h0
        split at h0
        · omega
        · rename_i hr
          show p.id.toNat < s.ls.length
          omega
      · exact h.lost i hi
    · exact h
  split
  · exact h
  split
  · exact h
  simp only
  unfold Wld.client Wld.entry
  repeat' split
  all_goals first | exact h | exact ⟨h.op, h.lost⟩
theorem fresh_due {s : Wld} (h : Fresh s) (t : Wld) (i : Nat) (hi : s.ls.length ≤ i) (h1 : t.op = s.op) (h2 : t.lost = s.lost) (h3 : i < t.ls.length) : t.due i = 0 := by
  unfold Wld.due
  rw [if_neg (by omega), if_neg]
  rintro (q | q)
  · rw [h2] at q
    have := h.lost _ q
    simp at this; omega
  · unfold Wld.old at q
    rw [h1] at q
    have := h.op (t.from' i) (t.to' i)
    simp at q; omega
end Go.Proofs.YtjdedflfdlhkdaaDoor
