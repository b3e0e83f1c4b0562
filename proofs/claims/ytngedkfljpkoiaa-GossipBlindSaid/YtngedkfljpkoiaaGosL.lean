/- Gossip, plain: what rounds come to; what never happens. -/
import Derived.Test.YtngedkfljpkoiaaGosR
namespace Go.Proofs.Ytngedkfljpkoiaa
set_option linter.unusedVariables false
set_option linter.unusedSimpArgs false

abbrev St := Nat → Nat → List Ent
theorem if_congr' {α : Type} {p q : Prop} [Decidable p] [Decidable q] (h : p ↔ q) (a b : α) : (if p then a else b) = if q then a else b := by
  by_cases hp : p
  · rw [if_pos hp, if_pos (h.1 hp)]
  · rw [if_neg hp, if_neg (fun hq => hp (h.2 hq))]
def lb (labs : List Nat) (j i : Nat) : Bool := inL (labs.getD j 0) i
theorem lb_none {labs : List Nat} {j i : Nat} (h : labs.length ≤ j) : lb labs j i = false := by
  unfold lb; rw [List.getD_eq_getElem?_getD, List.getElem?_eq_none h]; simp [inL]
theorem lb_at {labs : List Nat} {j i : Nat} (h : j < labs.length) : lb labs j i = inL labs[j] i := by
  unfold lb; rw [List.getD_eq_getElem?_getD, List.getElem?_eq_getElem h]; rfl
theorem tellN_get (labs : List Nat) (who to' : Nat) (st : St) : ∀ k i j, tellN labs who to' st k i j = if i = to' ∧ j < k ∧ lb labs j who = true ∧ lb labs j to' = true then mergeL (st to' j) (st who j) else st i j
  | 0, i, j => by simp [tellN]
  | k + 1, i, j => by
    have ih := tellN_get labs who to' st k
    have e : lb labs k who = true ∧ lb labs k to' = true ∨ j ≠ k ∨ ¬ (lb labs k who = true ∧ lb labs k to' = true) := by
      by_cases h : lb labs k who = true ∧ lb labs k to' = true
      · exact .inl h
      · exact .inr (.inr h)
    have eq : ¬ (j = k ∧ lb labs k who = true ∧ lb labs k to' = true) → ((i = to' ∧ j < k + 1 ∧ lb labs j who = true ∧ lb labs j to' = true) ↔ (i = to' ∧ j < k ∧ lb labs j who = true ∧ lb labs j to' = true)) := fun hn => by
      constructor
      · rintro ⟨a, b, c⟩
        refine ⟨a, ?_, c⟩
        rcases Nat.lt_or_ge j k with h | h
        · exact h
        · obtain rfl : j = k := by omega
          exact absurd ⟨rfl, c⟩ hn
      · rintro ⟨a, b, c⟩; exact ⟨a, by omega, c⟩
    unfold tellN
    cases hl : labs[k]? with
    | none =>
      have hk : labs.length ≤ k := List.getElem?_eq_none_iff.1 hl
      simp only
      rw [ih i j, if_congr' (eq fun h => by rw [lb_none hk] at h; simp at h)]
    | some lab =>
      obtain ⟨hk, hg⟩ := List.getElem?_eq_some_iff.1 hl
      have e1 : ∀ x, lb labs k x = inL lab x := fun x => by rw [lb_at hk, hg]
      simp only
      by_cases hc : inL lab who = true ∧ inL lab to' = true
      · rw [if_pos hc]
        by_cases hi : i = to'
        · subst hi
          rw [updF_same]
          by_cases hj : j = k
          · subst hj
            have n1 : ∀ x, tellN labs who i st j x j = st x j := fun x => by rw [ih, if_neg (by omega)]
            rw [updF_same, n1, n1, if_pos ⟨rfl, by omega, by rw [e1]; exact hc.1, by rw [e1]; exact hc.2⟩]
          · rw [updF_ne _ _ hj, ih, if_congr' (eq fun h => hj h.1)]
        · rw [updF_ne _ _ hi, ih, if_neg (fun h => hi h.1), if_neg (fun h => hi h.1)]
      · rw [if_neg hc, ih, if_congr' (eq fun h => hc (by rw [← e1, ← e1]; exact h.2))]
theorem tell_get (labs : List Nat) (who to' : Nat) (st : St) (i j : Nat) : tellN labs who to' st labs.length i j = if i = to' ∧ lb labs j who = true ∧ lb labs j to' = true then mergeL (st to' j) (st who j) else st i j := by
  rw [tellN_get]
  refine if_congr' ⟨fun h => ⟨h.1, h.2.2⟩, fun h => ⟨h.1, ?_, h.2⟩⟩ _ _
  rcases Nat.lt_or_ge j labs.length with h1 | h1
  · exact h1
  · rw [lb_none h1] at h; simp at h
theorem turn_tl (labs : List Nat) (st : St) (i k : Nat) : (turnOf labs st (tl i k)).2 = tellN labs i k st labs.length := by
  unfold turnOf tl; rw [if_pos rfl]
/-- Has b what a has? -/
def Le (a b : List Ent) : Prop := mergeL b a = b
section
variable {a b c : List Ent}
theorem Le.refl (h : MayL a) : Le a a := mergeL_idem h
theorem Le.trans (ha : MayL a) (hb : MayL b) (hc : MayL c) (h : Le a b) (k : Le b c) : Le a c := by
  unfold Le at *
  rw [← k, mergeL_assoc hc hb ha, h]
theorem Le.left (ha : MayL a) (hb : MayL b) : Le a (mergeL a b) := by
  unfold Le
  rw [mergeL_comm ha hb]
  exact mergeL_absorb hb ha
theorem Le.right (ha : MayL a) (hb : MayL b) : Le b (mergeL a b) := mergeL_absorb ha hb
theorem Le.lub (ha : MayL a) (hb : MayL b) (hc : MayL c) (h : Le a c) (k : Le b c) : Le (mergeL a b) c := by
  unfold Le at *
  rw [← mergeL_assoc hc ha hb, h, k]
theorem Le.anti (ha : MayL a) (hb : MayL b) (h : Le a b) (k : Le b a) : a = b := by
  unfold Le at *
  rw [← k, mergeL_comm ha hb, h]
end
structure Tells (labs : List Nat) (st g : St) (n : Nat) : Prop where
  may : ∀ x j, MayL (g x j)
  grows : ∀ x j, Le (st x j) (g x j)
  told : ∀ u v j, v < 4 → lb labs j u = true → lb labs j v = true → 4 * u + v < n → Le (st u j) (g v j)
  most : ∀ (J : List Ent) j, MayL J → (∀ x, x < 4 → lb labs j x = true → Le (st x j) J) → ∀ x, x < 4 → lb labs j x = true → Le (g x j) J
theorem after_tells {labs : List Nat} {st : St} (h : ∀ x j, MayL (st x j)) : ∀ n, n ≤ 16 → Tells labs st (stAfter labs st (tells n)) n
  | 0, _ => ⟨h, fun x j => .refl (h x j), fun _ _ _ _ _ _ hh => absurd hh (by omega), fun _ _ _ hh => hh⟩
  | n + 1, hn => by
    have ih := after_tells (labs := labs) h n (by omega)
    rw [tells_snoc, stAfter_append]
    show Tells labs st (turnOf labs (stAfter labs st (tells n)) (tl (n / 4) (n % 4))).2 (n + 1)
    rw [turn_tl]
    generalize stAfter labs st (tells n) = g at *
    have G := tell_get labs (n / 4) (n % 4) g
    have hm : ∀ x j, MayL (tellN labs (n / 4) (n % 4) g labs.length x j) := fun x j => by
      rw [G]; split
      · exact mergeL_may (ih.may _ _) (ih.may _ _).ok
      · exact ih.may _ _
    have up : ∀ x j, Le (g x j) (tellN labs (n / 4) (n % 4) g labs.length x j) := fun x j => by
      rw [G]; split
      · next hh => obtain ⟨rfl, -⟩ := hh; exact .left (ih.may _ _) (ih.may _ _)
      · exact .refl (ih.may _ _)
    refine ⟨hm, fun x j => (ih.grows x j).trans (h x j) (ih.may x j) (hm x j) (up x j), fun u v j hv hu1 hv1 hlt => ?_, fun J j hJ hh x hx hx1 => ?_⟩
    · by_cases e : 4 * u + v < n
      · exact (ih.told u v j hv hu1 hv1 e).trans (h u j) (ih.may v j) (hm v j) (up v j)
      · have e1 : n / 4 = u := by omega
        have e2 : n % 4 = v := by omega
        rw [e1, e2] at G hm ⊢
        rw [G, if_pos ⟨rfl, hu1, hv1⟩]
        exact (ih.grows u j).trans (h u j) (ih.may u j) (mergeL_may (ih.may _ _) (ih.may _ _).ok) (.right (ih.may _ _) (ih.may _ _))
    · rw [G]; split
      · next hq =>
        obtain ⟨rfl, q1, q2⟩ := hq
        exact .lub (ih.may _ _) (ih.may _ _) hJ (ih.most J j hJ hh _ hx hx1) (ih.most J j hJ hh _ (by omega) q1)
      · exact ih.most J j hJ hh x hx hx1
def Same4 (labs : List Nat) (st : St) : Prop := ∀ j u v, u < 4 → v < 4 → lb labs j u = true → lb labs j v = true → st u j = st v j
theorem round_same {labs : List Nat} {st : St} (h : ∀ x j, MayL (st x j)) : Same4 labs (stAfter labs st (tells 16)) := by
  have T := after_tells (labs := labs) h 16 (by omega)
  have le : ∀ j u v, u < 4 → v < 4 → lb labs j u = true → lb labs j v = true → Le (stAfter labs st (tells 16) u j) (stAfter labs st (tells 16) v j) := fun j u v hu hv hu1 hv1 =>
    T.most _ j (T.may v j) (fun x hx hx1 => T.told x v j hv hx1 hv1 (by omega)) u hu hu1
  exact fun j u v hu hv hu1 hv1 => (le j u v hu hv hu1 hv1).anti (T.may _ _) (T.may _ _) (le j v u hv hu hv1 hu1)
theorem tells_fix {labs : List Nat} {st : St} (h : ∀ x j, MayL (st x j)) (hs : Same4 labs st) : ∀ n, n ≤ 16 → stAfter labs st (tells n) = st
  | 0, _ => rfl
  | n + 1, hn => by
    rw [tells_snoc, stAfter_append, tells_fix h hs n (by omega)]
    show (turnOf labs st (tl (n / 4) (n % 4))).2 = st
    rw [turn_tl]
    funext x j
    rw [tell_get]; split
    · next hq =>
      obtain ⟨rfl, q1, q2⟩ := hq
      rw [hs j (n / 4) (n % 4) (by omega) (by omega) q1 q2]; exact mergeL_idem (h _ _)
    · rfl
theorem roundL_one : roundL 1 = tells 16 := by rw [roundL_snoc]; rfl
theorem roundL_two : roundL 2 = tells 16 ++ tells 16 := by rw [roundL_snoc, roundL_one]
theorem after_may {labs : List Nat} {st : St} (h : ∀ x j, MayL (st x j)) : ∀ x j, MayL (stAfter labs st (tells 16) x j) := (after_tells (labs := labs) h 16 (by omega)).may
/-- Rounds: the first one brings all together, and others change nothing. -/
theorem rounds_eq {labs : List Nat} {st : St} (h : ∀ x j, MayL (st x j)) : ∀ n, stAfter labs st (roundL (n + 1)) = stAfter labs st (tells 16)
  | 0 => by rw [roundL_one]
  | n + 1 => by
    rw [roundL_snoc, stAfter_append, rounds_eq h n]
    exact tells_fix (after_may h) (round_same h) 16 (by omega)
/-- What may stand in stores: good lists, times within bounds, and nothing where it does not belong. -/
structure GoodSt (labs : List Nat) (st : St) (n : Int) : Prop where
  eight : ∀ i j, EightL (st i j)
  late : ∀ i j, maxT (st i j) ≤ n
  own : ∀ i j, lb labs j i = false → st i j = []
theorem noSt_good (labs : List Nat) : GoodSt labs noSt 0 := ⟨fun _ _ => EightL.nil, fun _ _ => Int.le_refl _, fun _ _ _ => rfl⟩
theorem lb_getD (labs : List Nat) (j i : Nat) : inL (labs.getD j 0) i = lb labs j i := rfl
theorem put_get (st : St) (t : Trn) (gone : Bool) (i j : Nat) : putSt st t gone i j = if i = t.who ∧ j = t.label then mergeL (st t.who t.label) [putE st t gone] else st i j := by
  unfold putSt updF
  by_cases h1 : i = t.who
  · by_cases h2 : j = t.label
    · rw [if_pos h1, if_pos h2, if_pos ⟨h1, h2⟩]
    · rw [if_pos h1, if_neg h2, if_neg (fun h => h2 h.2), h1]
  · rw [if_neg h1, if_neg (fun h => h1 h.1)]
theorem put_good {labs : List Nat} {st : St} {n : Int} {t : Trn} {gone : Bool} (h : GoodSt labs st n) (ht : t.Ok labs.length) (hn : n ≤ 1000) (hin : lb labs t.label t.who = true) : GoodSt labs (putSt st t gone) (n + 1) := by
  have h0 := maxT_nonneg (st t.who t.label)
  have hl := h.late t.who t.label
  have hE := putE_ok (st := st) ht (fun i' j' => by have := h.late i' j'; omega) gone
  have h1 : EightL [putE st t gone] := EightL.one hE (by have := ht.key; unfold putE; simp only; omega)
  have h2 : maxT [putE st t gone] ≤ n + 1 := by unfold putE; simp only [maxT]; omega
  refine ⟨fun i j => ?_, fun i j => ?_, fun i j hb => ?_⟩
  · rw [put_get]; split
    · exact (h.eight _ _).merge h1
    · exact h.eight i j
  · rw [put_get]; split
    · exact maxT_merge (by omega) h2
    · have := h.late i j; omega
  · rw [put_get]; split
    · next hq => obtain ⟨rfl, rfl⟩ := hq; rw [hb] at hin; simp at hin
    · exact h.own i j hb
theorem tell_good {labs : List Nat} {st : St} {n : Int} (h : GoodSt labs st n) (who to' : Nat) : GoodSt labs (tellN labs who to' st labs.length) n := by
  refine ⟨fun i j => ?_, fun i j => ?_, fun i j hb => ?_⟩
  · rw [tell_get]; split
    · exact (h.eight _ _).merge (h.eight _ _)
    · exact h.eight i j
  · rw [tell_get]; split
    · exact maxT_merge (h.late _ _) (h.late _ _)
    · exact h.late i j
  · rw [tell_get]; split
    · next hq => obtain ⟨rfl, -, hq⟩ := hq; rw [hb] at hq; simp at hq
    · exact h.own i j hb
theorem GoodSt.le {labs : List Nat} {st : St} {n m : Int} (h : GoodSt labs st n) (hm : n ≤ m) : GoodSt labs st m := ⟨h.eight, fun i j => Int.le_trans (h.late i j) hm, h.own⟩
theorem turn_good {labs : List Nat} {st : St} {n : Int} {t : Trn} (h : GoodSt labs st n) (ht : t.Ok labs.length) (hn : n ≤ 1000) : GoodSt labs (turnOf labs st t).2 (n + 1) := by
  unfold turnOf
  split
  · exact (tell_good h _ _).le (by omega)
  · split
    · next hin =>
      split
      · exact put_good h ht hn hin
      · split
        · exact put_good h ht hn hin
        · exact h.le (by omega)
    · exact h.le (by omega)
theorem after_good {labs : List Nat} : ∀ {ts : List Trn} {st : St} {n : Int}, GoodSt labs st n → (∀ t ∈ ts, t.Ok labs.length) → n + ts.length ≤ 1000 → GoodSt labs (stAfter labs st ts) (n + ts.length)
  | [], st, n, h, _, _ => h.le (by simp)
  | t :: ts, st, n, h, hok, hn => by
    simp only [List.length_cons, Int.natCast_add] at hn
    have h1 := turn_good h (hok t List.mem_cons_self) (by omega)
    have h2 := after_good h1 (fun x hx => hok x (List.mem_cons_of_mem _ hx)) (by omega)
    refine (show GoodSt labs (stAfter labs st (t :: ts)) (n + 1 + ts.length) from h2).le ?_
    simp only [List.length_cons, Int.natCast_add]; omega
theorem play_good {labs : List Nat} {ts : List Trn} (hok : ∀ t ∈ ts, t.Ok labs.length) (hn : ts.length ≤ 900) : GoodSt labs (stAfter labs noSt ts) 1000 :=
  (after_good (noSt_good labs) hok (by omega)).le (by omega)
theorem GoodSt.may {labs : List Nat} {st : St} {n : Int} (h : GoodSt labs st n) (i j : Nat) : MayL (st i j) := (h.eight i j).may
/-- Codes of writes. -/
theorem turn_code {labs : List Nat} (st : St) {t : Trn} (h1 : t.kind = 1) : ((turnOf labs st t).1 == 0) = lb labs t.label t.who := by
  unfold turnOf
  rw [if_neg (by omega), lb_getD]
  cases lb labs t.label t.who
  · simp
  · simp [h1]
theorem codes_at (labs : List Nat) : ∀ (ts : List Trn) (st : St) (k : Nat) (hk : k < ts.length), (codesOf labs st ts)[k]'(by rw [codesOf_length]; exact hk) = (turnOf labs (stAfter labs st (ts.take k)) ts[k]).1
  | t :: ts, st, 0, _ => rfl
  | t :: ts, st, k + 1, hk => by
    simp only [codesOf, List.getElem_cons_succ, List.take_succ_cons]
    exact codes_at labs ts _ k (by simpa using hk)
/-- Does a branch know all that is known under a label? -/
def Knows (labs : List Nat) (st : St) (who j : Nat) : Prop := ∀ x, x < 4 → lb labs j x = true → Le (st x j) (st who j)
theorem Same4.knows {labs : List Nat} {st : St} {n : Int} (h : GoodSt labs st n) (hs : Same4 labs st) {who j : Nat} (hw : who < 4) (hin : lb labs j who = true) : Knows labs st who j := fun x hx hx1 => by
  rw [hs j x who hx hw hx1 hin]; exact .refl (h.may _ _)
theorem put_one {labs : List Nat} {st : St} {n : Int} {t : Trn} {gone : Bool} (h : GoodSt labs st n) (ht : t.Ok labs.length) (hn : n ≤ 1000) : MayL [putE st t gone] :=
  (EightL.one (putE_ok (st := st) ht (fun i' j' => by have := h.late i' j'; omega) gone) (by have := ht.key; unfold putE; simp only; omega)).may
theorem Knows.put {labs : List Nat} {st : St} {n : Int} {t : Trn} {gone : Bool} (h : GoodSt labs st n) (ht : t.Ok labs.length) (hn : n ≤ 1000) (hin : lb labs t.label t.who = true) (hk : Knows labs st t.who t.label) : Knows labs (putSt st t gone) t.who t.label := fun x hx hx1 => by
  have hg := put_good (gone := gone) h ht hn hin
  have m1 := put_one (gone := gone) h ht hn
  have hw : putSt st t gone t.who t.label = mergeL (st t.who t.label) [putE st t gone] := by rw [put_get, if_pos ⟨rfl, rfl⟩]
  by_cases e : x = t.who
  · subst e; exact .refl (hg.may _ _)
  · rw [put_get, if_neg (fun hh => e hh.1), hw]
    exact (hk x hx hx1).trans (h.may _ _) (h.may _ _) (mergeL_may (h.may _ _) m1.ok) (.left (h.may _ _) m1)
theorem put_look {labs : List Nat} {st : St} {n : Int} {t : Trn} {gone : Bool} (h : GoodSt labs st n) : look (putSt st t gone t.who t.label) t.key = some (putE st t gone) := by
  have hw : putSt st t gone t.who t.label = mergeL (st t.who t.label) [putE st t gone] := by rw [put_get, if_pos ⟨rfl, rfl⟩]
  rw [hw, mergeL_one, look_merge _ _ (h.may _ _).sorted]
  have hk : (putE st t gone).k = t.key := rfl
  rw [if_pos hk.symm]
  congr 1
  unfold newest
  cases hl : look (st t.who t.label) t.key with
  | none => rfl
  | some x =>
    obtain ⟨hx, -⟩ := look_some hl
    have := le_maxT hx
    have hn2 : newer (putE st t gone) x = true := (nw_iff _ _).2 (.inl (by unfold putE; simp only; omega))
    simp only; rw [if_pos hn2]
/-- What a write, with full knowledge, comes to. -/
theorem write_last {labs : List Nat} {st : St} {n : Int} {t : Trn} {gone : Bool} (h : GoodSt labs st n) (hs : Knows labs st t.who t.label) (ht : t.Ok labs.length) (hn : n ≤ 1000) (hin : lb labs t.label t.who = true) (i : Nat) (hi : i < 4) (hb : lb labs t.label i = true) :
    look (stAfter labs (putSt st t gone) (tells 16) i t.label) t.key = some (putE st t gone) := by
  have hg := put_good (gone := gone) h ht hn hin
  have T := after_tells (labs := labs) (st := putSt st t gone) hg.may 16 (by omega)
  have hq : stAfter labs (putSt st t gone) (tells 16) i t.label = putSt st t gone t.who t.label :=
    (T.most _ t.label (hg.may _ _) (hs.put h ht hn hin) i hi hb).anti (T.may _ _) (hg.may _ _) (T.told t.who i t.label hi hin hb (by have := ht.who; omega))
  rw [hq, put_look h]
end Go.Proofs.Ytngedkfljpkoiaa
