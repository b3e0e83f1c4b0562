/- World, plain: behind a tick all of whose frames come all of a label have the same. -/
import Derived.Test.YtjdedflfdlhkdaaGreatDoorKaf
import Derived.Test.YtjdedflfdlhkdaaGreatDoorFullL
namespace Go.Proofs.YtjdedflfdlhkdaaGreatDoor
set_option linter.unusedVariables false
set_option linter.unusedSimpArgs false

/-- Nothing stands where it does not belong. -/
def OwnSt (c : Cfg) (s : Wld) : Prop := ∀ i j, lb c.labs j i = false → s.st i j = []
theorem own_comes {c : Cfg} {s : Wld} (h : OwnSt c s) (x : Let) : OwnSt c (s.comes c x) := by
  unfold Wld.comes
  cases x.m with
  | nums l => simp only; split <;> exact h
  | rum st =>
    intro i j hb
    show updF s.st x.t (fun j => mergeL (s.st x.t j) (heardL c.labs x.f x.t st j)) i j = []
    by_cases e : i = x.t
    · subst e
      rw [updF_same, h _ _ hb]
      unfold heardL
      rw [if_neg (fun hh => by rw [hb] at hh; simp at hh)]
      rfl
    · rw [updF_ne _ _ e]; exact h i j hb
theorem own_step {c : Cfg} {s : Wld} (h : OwnSt c s) (p : Stp) : OwnSt c (s.step c p).2 := by
  unfold Wld.step
  split
  · exact h
  split
  · unfold Wld.deliver
    split
    · exact h
    split
    · exact h
    split
    · exact h
    · rename_i x hx
      exact own_comes (s := s.opens p.id.toNat) h x
  split
  · unfold Wld.lose
    split <;> exact h
  split
  · exact h
  split
  · exact h
  simp only
  unfold Wld.client
  split
  · unfold Wld.entry
    split
    · exact h
    split
    · exact h
    · rename_i hin
      split
      · intro i j hb
        show upd2 s.st _ _ _ i j = []
        by_cases e : i = p.who.toNat ∧ j = p.label.toNat
        · exfalso
          obtain ⟨rfl, rfl⟩ := e
          exact hin hb
        · rw [upd2_ne _ _ e]; exact h i j hb
      split <;> exact h
  split
  · exact h
  split
  · split
    · exact h
    split <;> exact h
  · exact h
theorem own_fold (c : Cfg) (S : List Stp) : OwnSt c (wFold c S).1 := by
  induction S using snoc_ind with
  | h0 => exact fun _ _ _ => rfl
  | hs l p ih => rw [wFold_snoc]; exact own_step ih p
/-- What letters that hold what all had come to. -/
structure ToldW (c : Cfg) (s0 g : Nat → Nat → List Ent) (l : List Let) : Prop where
  may : ∀ x j, x < 4 → MayL (g x j)
  grows : ∀ x j, x < 4 → Le (s0 x j) (g x j)
  told : ∀ x ∈ l, ∀ st, x.m = .rum st → ∀ j, lb c.labs j x.f = true → lb c.labs j x.t = true → Le (s0 x.f j) (g x.t j)
  most : ∀ (J : List Ent) j, MayL J → (∀ x, x < 4 → lb c.labs j x = true → Le (s0 x j) J) → ∀ x, x < 4 → lb c.labs j x = true → Le (g x j) J
def RumOk (s0 : Nat → Nat → List Ent) (x : Let) : Prop := ∀ st, x.m = .rum st → st = s0 x.f ∧ x.f < 4 ∧ x.t < 4
theorem comes_st_nums {c : Cfg} (s : Wld) (x : Let) {l : List Int} (h : x.m = .nums l) : (s.comes c x).st = s.st := by
  unfold Wld.comes; rw [h]; simp only; split <;> rfl
theorem comes_st_rum {c : Cfg} (s : Wld) (x : Let) {st : Nat → List Ent} (h : x.m = .rum st) (i j : Nat) : (s.comes c x).st i j = if i = x.t ∧ lb c.labs j x.f = true ∧ lb c.labs j x.t = true then mergeL (s.st i j) (st j) else s.st i j := by
  unfold Wld.comes; rw [h]
  show updF s.st x.t (fun j => mergeL (s.st x.t j) (heardL c.labs x.f x.t st j)) i j = _
  by_cases e : i = x.t
  · subst e
    rw [updF_same]
    unfold heardL
    by_cases hb : lb c.labs j x.f = true ∧ lb c.labs j x.t = true
    · have hj : j < c.labs.length := by
        rcases Nat.lt_or_ge j c.labs.length with h1 | h1
        · exact h1
        · have := hb.1; rw [lb_none h1] at this; simp at this
      rw [if_pos ⟨hj, hb⟩, if_pos ⟨rfl, hb⟩]
    · rw [if_neg (fun hh => hb hh.2), if_neg (fun hh => hb hh.2)]
      rfl
  · rw [updF_ne _ _ e, if_neg (fun hh => e hh.1)]
theorem told_letters {c : Cfg} (t : Wld) (h : ∀ x j, x < 4 → MayL (t.st x j)) (l : List Let) : (∀ x ∈ l, RumOk t.st x) → ToldW c t.st (t.allOf c l).st l := by
  induction l using snoc_ind with
  | h0 => exact fun _ => ⟨h, fun x j hx => .refl (h x j hx), fun _ hx => by simp at hx, fun _ _ _ hh => hh⟩
  | hs l x ih =>
    intro hl
    have ih := ih (fun y hy => hl y (List.mem_append_left _ hy))
    have hx := hl x (List.mem_append_right _ List.mem_cons_self)
    rw [allOf_append, allOf_cons, allOf_nil]
    generalize t.allOf c l = g at *
    cases hm : x.m with
    | nums q =>
      rw [comes_st_nums g x hm]
      refine ⟨ih.may, ih.grows, fun y hy st hs => ?_, ih.most⟩
      rcases List.mem_append.1 hy with hy | hy
      · exact ih.told y hy st hs
      · rw [List.mem_singleton] at hy
        subst hy
        rw [hm] at hs; simp at hs
    | rum st =>
      obtain ⟨hst, hf, ht⟩ := hx st hm
      have G := comes_st_rum (c := c) g x hm
      have mm : ∀ y j, y < 4 → MayL ((g.comes c x).st y j) := fun y j hy => by
        rw [G]; split
        · rw [hst]; exact mergeL_may (ih.may _ _ hy) (h _ _ hf).ok
        · exact ih.may _ _ hy
      have up : ∀ y j, y < 4 → Le (g.st y j) ((g.comes c x).st y j) := fun y j hy => by
        rw [G]; split
        · rw [hst]; exact .left (ih.may _ _ hy) (h _ _ hf)
        · exact .refl (ih.may _ _ hy)
      refine ⟨mm, fun y j hy => (ih.grows y j hy).trans (h y j hy) (ih.may y j hy) (mm y j hy) (up y j hy), fun y hy st' hs j h1 h2 => ?_, fun J j hJ hh y hy hy1 => ?_⟩
      · rcases List.mem_append.1 hy with hy' | hy'
        · obtain ⟨-, hyf, hyt⟩ := hl y hy st' hs
          exact (ih.told y hy' st' hs j h1 h2).trans (h _ _ hyf) (ih.may _ _ hyt) (mm _ _ hyt) (up _ _ hyt)
        · rw [List.mem_singleton] at hy'
          subst hy'
          rw [G, if_pos ⟨rfl, h1, h2⟩, hst]
          exact .right (ih.may _ _ ht) (h _ _ hf)
      · rw [G]; split
        · next hq =>
          obtain ⟨rfl, q1, q2⟩ := hq
          rw [hst]
          exact .lub (ih.may _ _ hy) (h _ _ hf) hJ (ih.most J j hJ hh _ hy hy1) (hh _ hf q1)
        · exact ih.most J j hJ hh y hy hy1
theorem tick_rumOk (c : Cfg) (hn : c.n = 4) (s : Wld) : ∀ x ∈ tickMsgs c s, RumOk s.st x := by
  intro x hx st hs
  unfold tickMsgs at hx
  rcases List.mem_append.1 hx with hx | hx
  · obtain ⟨i, hi, hx⟩ := List.mem_flatMap.1 hx
    rw [List.mem_range] at hi
    unfold rowMsg at hx
    rcases List.mem_cons.1 hx with rfl | hx
    · simp [askMsg] at hs
    · obtain ⟨j, hj, rfl⟩ := List.mem_map.1 hx
      have hj' := List.mem_range.1 (List.mem_filter.1 hj).1
      simp only [rumMsg, Msg.rum.injEq] at hs
      exact ⟨hs.symm, by simp only [rumMsg]; omega, by simp only [rumMsg]; omega⟩
  · obtain ⟨i, hi, rfl⟩ := List.mem_map.1 hx
    simp [giveMsg] at hs
theorem tick_tells (c : Cfg) (s : Wld) (i j : Nat) (hi : i < c.n) (hj : j < c.n) (h : j ≠ i) : rumMsg s i j ∈ tickMsgs c s := by
  unfold tickMsgs
  refine List.mem_append_left _ (List.mem_flatMap.2 ⟨i, List.mem_range.2 hi, ?_⟩)
  unfold rowMsg
  refine List.mem_cons_of_mem _ (List.mem_map.2 ⟨j, List.mem_filter.2 ⟨List.mem_range.2 hj, by simpa using h⟩, rfl⟩)
theorem fold_may (c : Cfg) (hc : c.Ok) (hn : c.n = 4) (S : List Stp) (hS : S.length ≤ 1000) : ∀ x j, x < 4 → MayL ((wFold c S).1.st x j) := by
  intro x j hx
  have w1 := wFold_ok c hc S S.length (Nat.le_refl _) (by omega)
  rw [List.take_of_length_le (Nat.le_refl _)] at w1
  rcases Nat.lt_or_ge j c.labs.length with hj | hj
  · exact (w1.st x j (by omega) hj).may.may
  · rw [own_fold c S x j (lb_none hj)]; exact EightL.nil.may
/-- Behind a tick all of whose frames come all of a label have the same. -/
theorem full_meets (c : Cfg) (hc : c.Ok) (hn : c.n = 4) (S : List Stp) (hS : S.length ≤ 900) : ∀ i j k, i < 4 → j < 4 → lb c.labs k i = true → lb c.labs k j = true → (wFold c (fullOf S)).1.st i k = (wFold c (fullOf S)).1.st j k := by
  obtain ⟨o, e⟩ := full_all c hn S
  have hm := fold_may c hc hn S (by omega)
  rw [e]
  generalize (wFold c S).1 = s at *
  show ∀ i j k, i < 4 → j < 4 → lb c.labs k i = true → lb c.labs k j = true → ((s.ticked c).allOf c (tickMsgs c s)).st i k = ((s.ticked c).allOf c (tickMsgs c s)).st j k
  have T := told_letters (c := c) (s.ticked c) hm (tickMsgs c s) (tick_rumOk c hn s)
  generalize ((s.ticked c).allOf c (tickMsgs c s)).st = g at *
  have le : ∀ i j k, i < 4 → j < 4 → lb c.labs k i = true → lb c.labs k j = true → Le (g i k) (g j k) := fun i j k hi hj h1 h2 =>
    T.most _ k (T.may j k hj) (fun x hx hx1 => by
      by_cases q : j = x
      · subst q; exact T.grows _ _ hj
      · exact T.told (rumMsg s x j) (tick_tells c s x j (by omega) (by omega) q) (s.st x) rfl k hx1 h2) i hi h1
  exact fun i j k hi hj h1 h2 => (le i j k hi hj h1 h2).anti (T.may _ _ hi) (T.may _ _ hj) (le j i k hj hi h2 h1)
/-- Meets: what the law wants. -/
structure MeetOk (c : Cfg) (s : Wld) : Prop where
  eight : ∀ i k, i < 4 → k < c.labs.length → EightL (s.st i k)
  same : ∀ i j k, i < 4 → j < 4 → lb c.labs k i = true → lb c.labs k j = true → s.st i k = s.st j k
  own : ∀ i k, lb c.labs k i = false → s.st i k = []
theorem meets_ok (c : Cfg) (hc : c.Ok) (hn : c.n = 4) (S : List Stp) (hS : S.length ≤ 900) : MeetOk c (wFold c (fullOf S)).1 := by
  have hfl := fullOf_len S
  have w1 := wFold_ok c hc (fullOf S) (fullOf S).length (Nat.le_refl _) (by omega)
  rw [List.take_of_length_le (Nat.le_refl _)] at w1
  exact ⟨fun i k hi hk => (w1.st i k (by omega) hk).may, full_meets c hc hn S hS, fun i k h => own_fold c _ i k h⟩
end Go.Proofs.YtjdedflfdlhkdaaGreatDoor
