/- Package seal: the plain law of 'SealAway'. -/
import Derived.Test.YtgidichmphniaaaSealL
namespace Go.Proofs.Ytgidichmphniaaa
set_option linter.unusedVariables false

def keepA (w : Int) (x : Mv) : Prop := x.kind = 1 ∨ x.t = w
structure Sim (w : Int) (o o' : Off) : Prop where
  ls : o.ls = o'.ls
  op : ∀ f, o.op f w = o'.op f w
theorem Off.at_same {o o' : Off} (h : o.ls = o'.ls) (id : Int) : o.at' id = o'.at' id := by unfold Off.at'; rw [h]
theorem sim_keep {w : Int} {o o' : Off} (h : Sim w o o') {x : Mv} (hx : keepA w x) : o.out x = o'.out x ∧ Sim w (o.next x) (o'.next x) := by
  obtain ⟨ls, op⟩ := o
  obtain ⟨ls', op'⟩ := o'
  obtain ⟨h1, h2⟩ := h
  simp only at h1 h2
  subst h1
  unfold Off.out Off.next Off.at'
  simp only
  by_cases c1 : x.kind = 1
  · simp only [if_pos c1]
    exact ⟨trivial, rfl, h2⟩
  · simp only [if_neg c1]
    by_cases c2 : x.id < 0 ∨ (ls.length : Int) ≤ x.id
    · simp only [if_pos c2]
      exact ⟨trivial, rfl, h2⟩
    · simp only [if_neg c2]
      generalize ls.getD x.id.toNat ⟨0, 0, []⟩ = y
      by_cases c3 : y.t ≠ x.t
      · simp only [if_pos c3]
        exact ⟨trivial, rfl, h2⟩
      · simp only [if_neg c3]
        have hw : y.t = w := by
          rcases hx with hx | hx
          · exact absurd hx c1
          · rw [← hx]; exact Classical.byContradiction fun h => c3 h
        rw [hw, h2]
        by_cases c4 : x.id < op' y.f w
        · simp only [if_pos c4]
          exact ⟨trivial, rfl, h2⟩
        · simp only [if_neg c4]
          refine ⟨trivial, rfl, fun f => ?_⟩
          simp only [updW]
          split
          · rfl
          · exact h2 f
theorem sim_skip {w : Int} {o o' : Off} (h : Sim w o o') {x : Mv} (hx : ¬ keepA w x) : Sim w (o.next x) o' := by
  obtain ⟨ls, op⟩ := o
  obtain ⟨h1, h2⟩ := h
  simp only at h1 h2
  unfold Off.next Off.at'
  simp only
  have c1 : ¬ x.kind = 1 := fun h => hx (.inl h)
  have c5 : ¬ x.t = w := fun h => hx (.inr h)
  simp only [if_neg c1]
  by_cases c2 : x.id < 0 ∨ (ls.length : Int) ≤ x.id
  · simp only [if_pos c2]; exact ⟨h1, h2⟩
  · simp only [if_neg c2]
    generalize ls.getD x.id.toNat ⟨0, 0, []⟩ = y
    by_cases c3 : y.t ≠ x.t
    · simp only [if_pos c3]; exact ⟨h1, h2⟩
    · simp only [if_neg c3]
      by_cases c4 : x.id < op y.f y.t
      · simp only [if_pos c4]; exact ⟨h1, h2⟩
      · simp only [if_neg c4]
        have c6 : y.t = x.t := Classical.byContradiction fun h => c3 h
        refine ⟨h1, fun f => ?_⟩
        simp only [updW]
        rw [if_neg (fun h => c5 (by rw [← c6]; exact h.2.symm))]
        exact h2 f
theorem offFold_snoc (F : List Mv) (x : Mv) : offFold (F ++ [x]) = offStep (offFold F) x := by unfold offFold; rw [List.foldl_append]; rfl
theorem offFold_all (F : List Mv) : (offFold F).2.length = F.length := sOuts_length F
/-- What was kept, and where it stood. -/
structure AwayAt (l : List Mv) (w : Int) (k : Nat) (F : List Mv) (Wt : List Int) : Prop where
  len : Wt.length = F.length
  ix : ∀ j, j < F.length → ∃ i : Nat, Wt[j]? = some (i : Int) ∧ i < k ∧ F[j]? = l[i]? ∧ (offFold F).2[j]? = (offFold (l.take k)).2[i]?
  sim : Sim w (offFold (l.take k)).1 (offFold F).1
  ok : ∀ x ∈ F, x ∈ l
  le : F.length ≤ k
theorem AwayAt.start (l : List Mv) (w : Int) : AwayAt l w 0 [] [] := ⟨rfl, fun j hj => by simp at hj, ⟨rfl, fun _ => rfl⟩, fun x hx => by simp at hx, Nat.le_refl _⟩
theorem AwayAt.keep {l : List Mv} {w : Int} {k : Nat} {F : List Mv} {Wt : List Int} (h : AwayAt l w k F Wt) (hk : k < l.length) (hx : keepA w l[k]) : AwayAt l w (k + 1) (F ++ [l[k]]) (Wt ++ [(k : Int)]) := by
  obtain ⟨s1, s2⟩ := sim_keep h.sim hx
  have hlk : (offFold (l.take k)).2.length = k := offFold_len l k (by omega)
  refine ⟨by simp [h.len], fun j hj => ?_, ?_, fun x hx => ?_, by have := h.le; simp; omega⟩
  · rw [offFold_snoc, offFold_take l k hk]
    simp only [offStep]
    by_cases hjF : j < F.length
    · obtain ⟨i, q1, q2, q3, q4⟩ := h.ix j hjF
      refine ⟨i, by rw [List.getElem?_append_left (by rw [h.len]; exact hjF)]; exact q1, by omega, by rw [List.getElem?_append_left hjF]; exact q3, ?_⟩
      rw [List.getElem?_append_left (by rw [offFold_all]; exact hjF), List.getElem?_append_left (by omega)]
      exact q4
    · have hj' : j = F.length := by simp at hj; omega
      subst hj'
      refine ⟨k, by rw [← h.len]; simp, by omega, by simp [hk], ?_⟩
      rw [List.getElem?_append_right (by rw [offFold_all]; exact Nat.le_refl _), offFold_all, Nat.sub_self, List.getElem?_append_right (by omega), hlk, Nat.sub_self, s1]
  · rw [offFold_snoc, offFold_take l k hk]; exact s2
  · rcases List.mem_append.1 hx with hx | hx
    · exact h.ok x hx
    · simp at hx; subst hx; exact List.getElem_mem hk
theorem AwayAt.skip {l : List Mv} {w : Int} {k : Nat} {F : List Mv} {Wt : List Int} (h : AwayAt l w k F Wt) (hk : k < l.length) (hx : ¬ keepA w l[k]) : AwayAt l w (k + 1) F Wt := by
  have hlk : (offFold (l.take k)).2.length = k := offFold_len l k (by omega)
  refine ⟨h.len, fun j hj => ?_, ?_, h.ok, by have := h.le; omega⟩
  · obtain ⟨i, q1, q2, q3, q4⟩ := h.ix j hj
    refine ⟨i, q1, by omega, q3, ?_⟩
    rw [q4, offFold_take l k hk]
    simp only [offStep]
    rw [List.getElem?_append_left (by omega)]
  · rw [offFold_take l k hk]; exact sim_skip h.sim hx
/-- THE PLAIN LAW. -/
theorem AwayAt.done {l : List Mv} {w : Int} {F : List Mv} {Wt : List Int} (h : AwayAt l w l.length F Wt) (j : Nat) (hj : j < F.length) : ∃ (i : Nat) (hi : i < (sOuts l).length) (hj2 : j < (sOuts F).length), Wt[j]? = some (i : Int) ∧ i < l.length ∧ (sOuts F)[j] = (sOuts l)[i] := by
  obtain ⟨i, q1, q2, q3, q4⟩ := h.ix j hj
  rw [List.take_length] at q4
  have hj2 : j < (sOuts F).length := by rw [sOuts_length]; exact hj
  have hi : i < (sOuts l).length := by rw [sOuts_length]; exact q2
  refine ⟨i, hi, hj2, q1, q2, ?_⟩
  have e : (sOuts F)[j]? = (sOuts l)[i]? := q4
  rw [List.getElem?_eq_getElem hj2, List.getElem?_eq_getElem hi] at e
  exact Option.some.inj e
end Go.Proofs.Ytgidichmphniaaa
