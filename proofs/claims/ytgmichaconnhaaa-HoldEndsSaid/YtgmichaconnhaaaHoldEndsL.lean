/- Package hold: the plain law of 'HoldEnds'. -/
import Derived.Test.YtgmichaconnhaaaRefusedL
import Derived.Test.YtgmichaconnhaaaHoldSumsL
namespace Go.Proofs.Ytgmichaconnhaaa
set_option linter.unusedVariables false
set_option linter.unusedSimpArgs false

/-- The shelf behind some orders. -/
def shAt (l : List Ord) : Shf := (shfFold l).1
theorem shAt_snoc (l : List Ord) (o : Ord) : shAt (l ++ [o]) = (shAt l).next o := by unfold shAt; rw [shfFold_snoc]; rfl
theorem shAt_ok (l : List Ord) : (shAt l).Ok := by
  have := fold_ok l l.length (Nat.le_refl _)
  rwa [List.take_length] at this
theorem hOuts_at (l m : List Ord) (o : Ord) : (hOuts (l ++ o :: m))[l.length]? = some ((shAt l).out o) := by
  rw [hOuts_get _ _ (by simp)]
  simp [shAt]
def tickO : Ord := ⟨7, 0, 0, 0⟩
def gainO (n : Int) : Ord := ⟨1, n, 0, 0⟩
def holdO (n t : Int) : Ord := ⟨3, n, t, 0⟩
def confO (id : Int) : Ord := ⟨4, 0, 0, id⟩
/-- All that is open has at most so many ticks. -/
def Shf.lives (s : Shf) (n : Int) : Prop := ∀ h ∈ s.hs, h.life ≤ n
theorem next_lives {s : Shf} {o : Ord} {n : Int} (hs : s.lives n) (ho : o.life ≤ n) : (s.next o).lives n := by
  unfold Shf.next Shf.order
  repeat' split
  all_goals first
    | exact hs
    | (intro h hh; rcases List.mem_append.1 hh with hh | hh; exact hs h hh; (simp at hh; subst hh; exact ho))
    | (intro h hh; exact hs h ((List.eraseIdx_sublist _ _).mem hh))
    | (intro h hh; obtain ⟨x, hx, rfl⟩ := List.mem_map.1 (List.mem_filter.1 hh).1; have := hs x hx; simp only [Hd.dec]; omega)
theorem shAt_lives (n : Int) : ∀ (k : Nat) (l : List Ord), l.length = k → (∀ o ∈ l, o.life ≤ n) → (shAt l).lives n
  | 0, l, hl, _ => by
    obtain rfl : l = [] := List.length_eq_zero_iff.1 hl
    intro h hh; simp [shAt, shfFold, shf0] at hh
  | k + 1, l, hl, h => by
    have hne : l ≠ [] := fun hh => by rw [hh] at hl; simp at hl
    have h1 : l = l.dropLast ++ [l.getLast hne] := (List.dropLast_concat_getLast hne).symm
    rw [h1, shAt_snoc]
    exact next_lives (shAt_lives n k _ (by simp; omega) fun o ho => h o (List.dropLast_subset l ho)) (h _ (List.getLast_mem hne))
theorem next_tick (s : Shf) : s.next tickO = s.ticked := by
  unfold Shf.next Shf.order tickO
  simp
/-- So many ticks. -/
def ticksN (s : Shf) : Nat → Shf
  | 0 => s
  | k + 1 => (ticksN s k).ticked
theorem shAt_ticks (l : List Ord) : ∀ k, shAt (l ++ List.replicate k tickO) = ticksN (shAt l) k
  | 0 => by simp [ticksN]
  | k + 1 => by
    rw [List.replicate_succ', ← List.append_assoc, shAt_snoc, shAt_ticks l k, next_tick]; rfl
theorem ticked_lives {s : Shf} {n : Int} (hs : s.lives n) : s.ticked.lives (n - 1) := by
  intro h hh
  obtain ⟨x, hx, rfl⟩ := List.mem_map.1 (List.mem_filter.1 hh).1
  have := hs x hx
  simp only [Hd.dec]; omega
theorem ticksN_lives {s : Shf} {n : Int} (hs : s.lives n) : ∀ k : Nat, (ticksN s k).lives (n - k)
  | 0 => by simpa [ticksN] using hs
  | k + 1 => by
    have := ticked_lives (ticksN_lives hs k)
    rw [show n - ((k + 1 : Nat) : Int) = n - (k : Int) - 1 by omega]; exact this
theorem ticksN_ok {s : Shf} (hs : s.Ok) : ∀ k : Nat, (ticksN s k).Ok
  | 0 => hs
  | k + 1 => ticked_ok (ticksN_ok hs k)
theorem none_open {s : Shf} (hs : s.Ok) (h0 : s.lives 0) : s.hs = [] := by
  cases hh : s.hs with
  | nil => rfl
  | cons a l =>
    have h1 := hs.hs a (by rw [hh]; exact List.mem_cons_self)
    have h2 := h0 a (by rw [hh]; exact List.mem_cons_self)
    omega
/-- One hold, and its ticks. -/
theorem one_hold (f u m c : Int) (id : Int) (t : Int) (ht : 1 ≤ t) : ∀ k : Nat, ticksN ⟨f, u, m, [⟨id, c, t⟩]⟩ k = if (k : Int) < t then ⟨f, u, m, [⟨id, c, t - k⟩]⟩ else ⟨f + c, u, m, []⟩
  | 0 => by rw [if_pos (by omega)]; simp [ticksN]
  | k + 1 => by
    unfold ticksN
    rw [one_hold f u m c id t ht k]
    by_cases h1 : (k : Int) < t
    · rw [if_pos h1]
      by_cases h2 : ((k + 1 : Nat) : Int) < t
      · rw [if_pos h2]
        have h3 : ((t - (k : Int) - 1) == 0) = false := by rw [beq_eq_false_iff_ne]; omega
        simp only [Shf.ticked, overL, Hd.dec, Hd.over, List.map_cons, List.map_nil, List.filter_cons, List.filter_nil, h3, heldL_nil]
        have h4 : heldL [] = 0 := rfl
        simp [h4]; omega
      · rw [if_neg h2]
        have h3 : ((t - (k : Int) - 1) == 0) = true := by rw [beq_iff_eq]; omega
        simp only [Shf.ticked, overL, Hd.dec, Hd.over, List.map_cons, List.map_nil, List.filter_cons, List.filter_nil, h3]
        simp [heldL_cons, heldL_nil]
    · rw [if_neg h1, if_neg (by omega)]
      simp [Shf.ticked, overL, heldL_nil]
theorem gains_le (l : List Ord) (h : ∀ o ∈ l, o.count ≤ 9) : ∀ k, k ≤ l.length → gains l k ≤ 9 * k
  | 0, _ => by simp [gains]
  | k + 1, hk => by
    have h1 := gains_le l h k (by omega)
    have h2 := h l[k] (List.getElem_mem _)
    simp only [gains, List.getElem?_eq_getElem (show k < l.length by omega), gain]
    split <;> omega
/-- The orders of 'HoldEnds'. -/
def endsL (l : List Ord) (n t : Int) : List Ord := l ++ List.replicate 5 tickO ++ [gainO n]
theorem ends_law (l : List Ord) (n t : Int) (k : Nat) (hl : l.length ≤ 60) (hb : ∀ o ∈ l, o.life ≤ 5 ∧ o.count ≤ 9) (hn : 1 ≤ n ∧ n ≤ 9) (ht : 1 ≤ t ∧ t ≤ 20) :
    ∃ a z : Stk, (hOuts (endsL l n t ++ holdO n t :: List.replicate k tickO))[(endsL l n t).length]? = some a ∧ a.code = 0 ∧ a.held = n
      ∧ (hOuts (endsL l n t ++ holdO n t :: List.replicate k tickO ++ [confO a.id]))[(endsL l n t ++ holdO n t :: List.replicate k tickO).length]? = some z
      ∧ ((k : Int) < t → z.code = 0 ∧ z.used = a.used + n ∧ z.free = a.free)
      ∧ (¬ (k : Int) < t → z.code = 10 ∧ z.free = a.free + n ∧ z.held = 0) := by
  have h1 : shAt (l ++ List.replicate 5 tickO) = ticksN (shAt l) 5 := shAt_ticks l 5
  obtain ⟨b, hbb⟩ : ∃ b, b = ticksN (shAt l) 5 := ⟨_, rfl⟩
  have hbo : b.Ok := by rw [hbb]; exact ticksN_ok (shAt_ok l) 5
  have hb0 : b.hs = [] := by
    refine none_open hbo ?_
    have := ticksN_lives (shAt_lives 5 _ l rfl fun o ho => (hb o ho).1) 5
    rw [hbb]; simpa using this
  have hall : (shAt (l ++ List.replicate 5 tickO)).all ≤ 9 * 65 := by
    have h2 := all_gains (l ++ List.replicate 5 tickO) _ (Nat.le_refl _)
    rw [List.take_length] at h2
    have h3 := gains_le (l ++ List.replicate 5 tickO) (fun o ho => by
      rcases List.mem_append.1 ho with ho | ho
      · exact (hb o ho).2
      · rw [List.eq_of_mem_replicate ho]; simp [tickO]) _ (Nat.le_refl _)
    rw [← h2] at h3
    simp only [List.length_append, List.length_replicate] at h3
    have : (shfFold (l ++ List.replicate 5 tickO)).1.all = (shAt (l ++ List.replicate 5 tickO)).all := rfl
    omega
  rw [← hbb] at h1
  obtain ⟨f, u, m, hs⟩ := b
  simp only at hb0
  subst hb0
  have hall : f + 0 + u ≤ 9 * 65 := by rw [h1] at hall; exact hall
  have hf := hbo.free
  have hu := hbo.used
  have hm := hbo.made
  simp only at hf hu hm
  have hg : shAt (endsL l n t) = ⟨f + n, u, m, []⟩ := by
    unfold endsL
    rw [shAt_snoc, h1]
    unfold Shf.next Shf.order gainO
    have e : ¬ (1048576 < (⟨f, u, m, []⟩ : Shf).free + (⟨f, u, m, []⟩ : Shf).held + (⟨f, u, m, []⟩ : Shf).used + n) := by
      simp only [Shf.held, heldL_nil]; omega
    rw [if_neg (by simp; omega), if_pos (by simp), if_neg e]
  have ho : (shAt (endsL l n t)).order (holdO n t) = (m + 1, 0, ⟨f, u, m + 1, [⟨m + 1, n, t⟩]⟩) := by
    rw [hg]
    unfold Shf.order holdO
    simp only
    rw [if_neg (by simp; omega), if_neg (by simp), if_neg (by simp), if_neg (by simp), if_pos (by simp), if_neg (by omega), if_neg (by simp), if_neg (by omega)]
    simp
  have hat := hOuts_at (endsL l n t) (List.replicate k tickO) (holdO n t)
  have hk : shAt (endsL l n t ++ holdO n t :: List.replicate k tickO) = ticksN ⟨f, u, m + 1, [⟨m + 1, n, t⟩]⟩ k := by
    rw [show endsL l n t ++ holdO n t :: List.replicate k tickO = endsL l n t ++ [holdO n t] ++ List.replicate k tickO by simp, shAt_ticks, shAt_snoc]
    unfold Shf.next
    rw [ho]
  have haid : ((shAt (endsL l n t)).out (holdO n t)) = ⟨0, m + 1, f, n, u⟩ := by
    unfold Shf.out Shf.next
    rw [ho]
    simp [Shf.held, heldL_cons, heldL_nil]
  rw [haid] at hat
  refine ⟨_, _, hat, rfl, rfl, hOuts_at _ [] _, fun hlt => ?_, fun hge => ?_⟩
  · rw [hk, one_hold _ _ _ _ _ _ ht.1, if_pos hlt]
    unfold Shf.out Shf.next Shf.order confO
    simp only
    rw [if_neg (by simp), if_neg (by simp), if_neg (by simp), if_neg (by simp), if_neg (by simp), if_pos (by simp), if_neg (by omega)]
    simp [Shf.place, List.findIdx?_cons, Shf.at', Shf.held]
  · rw [hk, one_hold _ _ _ _ _ _ ht.1, if_neg hge]
    unfold Shf.out Shf.next Shf.order confO
    simp only
    rw [if_neg (by simp), if_neg (by simp), if_neg (by simp), if_neg (by simp), if_neg (by simp), if_pos (by simp), if_neg (by omega)]
    simp [Shf.place, Shf.held, heldL_nil]
end Go.Proofs.Ytgmichaconnhaaa
