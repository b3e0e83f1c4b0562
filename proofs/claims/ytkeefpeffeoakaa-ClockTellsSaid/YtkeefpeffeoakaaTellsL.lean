/- Clocks: the plain law of 'ClockTells'. -/
import Derived.Test.YtkeefpeffeoakaaClockP
import Derived.Test.YtkeefpeffeoakaaClockJ
namespace Go.Proofs.Ytkeefpeffeoakaa
set_option linter.unusedVariables false
set_option linter.unusedSimpArgs false

/-- One event leads to another by one step. -/
def TellStep (es : List Ev) (i k : Nat) : Prop := ∃ x y, es[i]? = some x ∧ es[k]? = some y ∧ (y.who = x.who ∨ (x.kind = 3 ∧ x.of' = k))
inductive Way (es : List Ev) : Nat → Nat → Prop
  | one {i k : Nat} : k < i → TellStep es i k → Way es i k
  | more {i k j : Nat} : k < i → TellStep es i k → Way es k j → Way es i j
theorem Way.lt {es : List Ev} {i k : Nat} (h : Way es i k) : k < i := by
  induction h with
  | one h _ => exact h
  | more h _ _ ih => omega
/-- What each site's clock is: nothing yet, or that of the site's last event. -/
def NowInv (n : Nat) (l : List Ev) (s : List (List Int) × List (List Int)) : Prop :=
  ∀ a c, s.1[a]? = some c → (c = List.replicate n 0 ∧ ∀ (m : Nat) (x : Ev), l[m]? = some x → x.who.toNat ≠ a) ∨
    ∃ (m : Nat) (x : Ev), l[m]? = some x ∧ x.who.toNat = a ∧ s.2[m]? = some c ∧ ∀ (m' : Nat) (x' : Ev), l[m']? = some x' → x'.who.toNat = a → m' ≤ m
theorem NowInv.start (n : Nat) : NowInv n [] (ckStart n) := by
  intro a c h
  refine .inl ⟨?_, fun m x hx => by simp at hx⟩
  simp only [ckStart] at h
  rw [List.getElem?_replicate] at h
  split at h
  · exact (Option.some.inj h).symm
  · cases h
theorem NowInv.step {n : Nat} {l : List Ev} {s : List (List Int) × List (List Int)} (h : NowInv n l s) (hl : s.2.length = l.length) (x : Ev) : NowInv n (l ++ [x]) (ckStep s x) := by
  intro a c hc
  simp only [ckStep] at hc ⊢
  by_cases e : x.who.toNat = a
  · have hlt : a < s.1.length := by
      have := (List.getElem?_eq_some_iff.1 hc).1; simpa using this
    rw [e, List.getElem?_set_self hlt] at hc
    have hc := Option.some.inj hc
    refine .inr ⟨l.length, x, by simp, e, ?_, fun m' x' hm' _ => ?_⟩
    · rw [← hl, List.getElem?_append_right (Nat.le_refl _), Nat.sub_self]; simp [hc]
    · have := (List.getElem?_eq_some_iff.1 hm').1
      simp at this; omega
  · rw [List.getElem?_set_ne e] at hc
    rcases h a c hc with ⟨h1, h2⟩ | ⟨m, y, h1, h2, h3, h4⟩
    · refine .inl ⟨h1, fun m y hy => ?_⟩
      by_cases hm : m < l.length
      · rw [List.getElem?_append_left hm] at hy; exact h2 m y hy
      · have hm2 : m = l.length := by have := (List.getElem?_eq_some_iff.1 hy).1; simp at this; omega
        subst hm2
        simp at hy
        subst hy; exact e
    · have hml := (List.getElem?_eq_some_iff.1 h1).1
      refine .inr ⟨m, y, by rw [List.getElem?_append_left hml]; exact h1, h2, by rw [List.getElem?_append_left (by omega)]; exact h3, fun m' x' hm' hx' => ?_⟩
      by_cases hm : m' < l.length
      · rw [List.getElem?_append_left hm] at hm'; exact h4 m' x' hm' hx'
      · have hm2 : m' = l.length := by have := (List.getElem?_eq_some_iff.1 hm').1; simp at this; omega
        subst hm2
        simp at hm'
        subst hm'; exact absurd hx' e
theorem ckFold_len (l : List Ev) : ∀ s : List (List Int) × List (List Int), (l.foldl ckStep s).2.length = s.2.length + l.length := by
  induction l with
  | nil => intro s; simp
  | cons a t ih => intro s; simp only [List.foldl_cons, List.length_cons]; rw [ih]; simp [ckStep]; omega
theorem nowInv_take (n : Nat) (es : List Ev) : ∀ i, i ≤ es.length → NowInv n (es.take i) ((es.take i).foldl ckStep (ckStart n))
  | 0, _ => NowInv.start n
  | i + 1, h => by
    have ih := nowInv_take n es i (by omega)
    have e1 : es.take (i + 1) = es.take i ++ [es[i]] := by rw [List.take_succ_eq_append_getElem (by omega)]
    rw [foldl_take _ _ _ _ (by omega), e1]
    exact ih.step (by rw [ckFold_len]; simp [ckStart]) _
theorem ckOut_prefix (l : List Ev) : ∀ s : List (List Int) × List (List Int), ∃ r, (l.foldl ckStep s).2 = s.2 ++ r := by
  induction l with
  | nil => intro s; exact ⟨[], by simp⟩
  | cons a t ih =>
    intro s
    obtain ⟨r, hr⟩ := ih (ckStep s a)
    exact ⟨[ckEv s.1 s.2 a] ++ r, by rw [List.foldl_cons, hr]; simp [ckStep]⟩
/-- What stood behind i events stands at the end. -/
theorem ckPlay_old (n : Nat) (es : List Ev) (i m : Nat) (hi : i ≤ es.length) (hm : m < i) : ((es.take i).foldl ckStep (ckStart n)).2[m]? = (ckPlay n es)[m]? := by
  obtain ⟨r, hr⟩ := ckOut_prefix (es.drop i) ((es.take i).foldl ckStep (ckStart n))
  have e : ckPlay n es = ((es.drop i).foldl ckStep ((es.take i).foldl ckStep (ckStart n))).2 := by
    unfold ckPlay
    rw [← List.foldl_append, List.take_append_drop]
  rw [e, hr, List.getElem?_append_left]
  rw [ckFold_len]; simp [ckStart]; omega
theorem ckPlay_at (n : Nat) (es : List Ev) (i : Nat) (hi : i < es.length) :
    (ckPlay n es)[i]? = some (ckEv ((es.take i).foldl ckStep (ckStart n)).1 ((es.take i).foldl ckStep (ckStart n)).2 es[i]) := by
  have e1 : ((es.take (i + 1)).foldl ckStep (ckStart n)).2 = ((es.take i).foldl ckStep (ckStart n)).2 ++ [ckEv ((es.take i).foldl ckStep (ckStart n)).1 ((es.take i).foldl ckStep (ckStart n)).2 es[i]] := by
    rw [foldl_take _ _ _ _ hi]; rfl
  have hl : ((es.take i).foldl ckStep (ckStart n)).2.length = i := by rw [ckFold_len]; simp [ckStart]; omega
  rw [← ckPlay_old n es (i + 1) i (by omega) (by omega), e1, List.getElem?_append_right (by omega), hl, Nat.sub_self]
  rfl
theorem ckJoin_same (a : List Int) : ckJoin a a = a := by
  unfold ckJoin
  induction a with
  | nil => rfl
  | cons x t ih => simp only [List.zipWith_cons_cons, ih]; congr 1; omega
/-- A clock, by the last one of its site and what was heard. -/
theorem ck_rec {n : Nat} {es : List Ev} (hok : EvsOk es) (hn : ∀ x ∈ es, x.who < n) (i : Nat) (hi : i < es.length) : ∃ b h : List Int,
    ((b = List.replicate n 0 ∧ ∀ (m : Nat) (x : Ev), m < i → es[m]? = some x → x.who.toNat ≠ es[i].who.toNat) ∨
      ∃ (m : Nat) (x : Ev), m < i ∧ es[m]? = some x ∧ x.who.toNat = es[i].who.toNat ∧ (ckPlay n es)[m]? = some b ∧ ∀ (m' : Nat) (x' : Ev), m' < i → es[m']? = some x' → x'.who.toNat = es[i].who.toNat → m' ≤ m) ∧
    (h = b ∨ es[i].kind = 3) ∧ (es[i].kind = 3 → es[i].of'.toNat < i ∧ (ckPlay n es)[es[i].of'.toNat]? = some h) ∧ b.length = n ∧ h.length = n ∧
    (ckPlay n es)[i]? = some ((ckJoin b h).set es[i].who.toNat ((ckJoin b h).getD es[i].who.toNat 0 + 1)) := by
  have hI := ckFold_ok n es hok hn i (by omega)
  have hN := nowInv_take n es i (by omega)
  have hold := fun m hm => ckPlay_old n es i m (by omega) hm
  have hat := ckPlay_at n es i hi
  have hx := hok i _ (List.getElem?_eq_getElem hi)
  have hw := hn _ (List.getElem_mem hi)
  generalize (es.take i).foldl ckStep (ckStart n) = s at *
  have hwl : es[i].who.toNat < s.1.length := by rw [hI.nows]; have := hx.2.2.1; omega
  have hb := List.getElem?_eq_getElem hwl
  have hg : s.1.getD es[i].who.toNat [] = s.1[es[i].who.toNat] := by simp [List.getD_eq_getElem?_getD, hb]
  have htk : ∀ m x, (es.take i)[m]? = some x ↔ m < i ∧ es[m]? = some x := fun m x => by
    rw [List.getElem?_take]
    by_cases h : m < i
    · rw [if_pos h]; exact ⟨fun e => ⟨h, e⟩, fun e => e.2⟩
    · rw [if_neg h]; exact ⟨fun e => (by cases e), fun e => absurd e.1 h⟩
  have hB : (s.1[es[i].who.toNat] = List.replicate n 0 ∧ ∀ (m : Nat) (x : Ev), m < i → es[m]? = some x → x.who.toNat ≠ es[i].who.toNat) ∨
      ∃ (m : Nat) (x : Ev), m < i ∧ es[m]? = some x ∧ x.who.toNat = es[i].who.toNat ∧ (ckPlay n es)[m]? = some s.1[es[i].who.toNat] ∧ ∀ (m' : Nat) (x' : Ev), m' < i → es[m']? = some x' → x'.who.toNat = es[i].who.toNat → m' ≤ m := by
    rcases hN _ _ hb with ⟨h1, h2⟩ | ⟨m, x, h1, h2, h3, h4⟩
    · exact .inl ⟨h1, fun m x hm hx => h2 m x ((htk m x).2 ⟨hm, hx⟩)⟩
    · obtain ⟨hm, hmx⟩ := (htk m x).1 h1
      exact .inr ⟨m, x, hm, hmx, h2, by rw [← hold m hm]; exact h3, fun m' x' hm' hx' => h4 m' x' ((htk m' x').2 ⟨hm', hx'⟩)⟩
  have hbl := (hI.now _ _ hb).1.1
  by_cases h3 : es[i].kind = 3
  · obtain ⟨f1, f2, -⟩ := hx.2.2.2.2 h3
    have hoi : es[i].of'.toNat < i := by simp at f2; omega
    have hol : es[i].of'.toNat < s.2.length := by rw [hI.outs]; simp; omega
    have ho := List.getElem?_eq_getElem hol
    have hog : s.2.getD es[i].of'.toNat [] = s.2[es[i].of'.toNat] := by simp [List.getD_eq_getElem?_getD, ho]
    have hyl : es[i].of'.toNat < (es.take i).length := by simp; omega
    have hhl := (hI.out _ _ _ ho (List.getElem?_eq_getElem hyl)).1.1
    refine ⟨_, s.2[es[i].of'.toNat], hB, .inr h3, fun _ => ⟨hoi, by rw [← hold _ hoi]; exact ho⟩, hbl, hhl, ?_⟩
    rw [hat]
    unfold ckEv
    simp only [if_pos h3, hg, hog]
  · refine ⟨_, s.1[es[i].who.toNat], hB, .inl rfl, fun h => absurd h h3, hbl, hbl, ?_⟩
    rw [hat, ckJoin_same]
    unfold ckEv
    simp only [if_neg h3, hg]
/-- No number of the first is above that of the second. -/
def CkLe (a b : List Int) : Prop := ∀ k, a.getD k 0 ≤ b.getD k 0
theorem ckLess_iff : ∀ (a b : List Int), a.length = b.length → (ckLess b a = false ↔ CkLe a b)
  | [], [], _ => by simp [CkLe]
  | x :: a, y :: b, h => by
    have ih := ckLess_iff a b (by simpa using h)
    simp only [ckLess_cons, Bool.or_eq_false_iff, decide_eq_false_iff_not, Int.not_lt, ih]
    constructor
    · rintro ⟨h1, h2⟩ k
      cases k with
      | zero => simpa using h1
      | succ k => simpa using h2 k
    · intro h1
      exact ⟨by simpa using h1 0, fun k => by simpa using h1 (k + 1)⟩
  | [], _ :: _, h => by simp at h
  | _ :: _, [], h => by simp at h
theorem ckJoin_getD (a b : List Int) (h : a.length = b.length) (k : Nat) : (ckJoin a b).getD k 0 = max (a.getD k 0) (b.getD k 0) := by
  unfold ckJoin
  by_cases hk : k < a.length
  · have hk2 : k < b.length := by omega
    simp [List.getD_eq_getElem?_getD, List.getElem?_zipWith, hk, hk2]
  · have hk2 : ¬ k < b.length := by omega
    simp [List.getD_eq_getElem?_getD, List.getElem?_zipWith, hk, hk2]
theorem set_getD (a : List Int) (i : Nat) (z : Int) (k : Nat) : (a.set i z).getD k 0 = if i = k ∧ i < a.length then z else a.getD k 0 := by
  simp only [List.getD_eq_getElem?_getD, List.getElem?_set]
  by_cases h : i = k
  · subst h
    by_cases h2 : i < a.length
    · simp [h2]
    · simp [h2]
  · simp [h]
theorem evCount_take_le (es : List Ev) (w : Nat) {a b : Nat} (h : a ≤ b) : evCount (es.take a) w ≤ evCount (es.take b) w := by
  have e : es.take b = es.take a ++ (es.take b).drop a := by
    have := (List.take_append_drop a (es.take b)).symm
    rwa [List.take_take, Nat.min_eq_left h] at this
  rw [e]
  unfold evCount
  rw [List.countP_append]; omega
theorem evCount_take_succ (es : List Ev) (k : Nat) (hk : k < es.length) (w : Nat) : evCount (es.take (k + 1)) w = evCount (es.take k) w + if es[k].who.toNat = w then 1 else 0 := by
  rw [List.take_succ_eq_append_getElem hk, evCount_snoc]
/-- The clock of an event. -/
def clk (n : Nat) (es : List Ev) (i : Nat) : List Int := (ckPlay n es).getD i []
theorem clk_at {n : Nat} {es : List Ev} {i : Nat} {c : List Int} (h : (ckPlay n es)[i]? = some c) : clk n es i = c := by simp [clk, List.getD_eq_getElem?_getD, h]
section
variable {n : Nat} {es : List Ev} (hok : EvsOk es) (hn : ∀ x ∈ es, x.who < n)
include hok hn
theorem clk_own (i : Nat) (hi : i < es.length) : (ckPlay n es)[i]? = some (clk n es i) ∧ (clk n es i).length = n ∧ (∀ k, 0 ≤ (clk n es i).getD k 0 ∧ (clk n es i).getD k 0 ≤ evCount (es.take (i + 1)) k) ∧ (clk n es i).getD es[i].who.toNat 0 = evCount (es.take (i + 1)) es[i].who.toNat := by
  have hI := ckFold_ok n es hok hn es.length (Nat.le_refl _)
  rw [List.take_length] at hI
  have hl : i < (ckPlay n es).length := by rw [show (ckPlay n es).length = es.length from hI.outs]; exact hi
  have hg := List.getElem?_eq_getElem hl
  obtain ⟨h1, h2⟩ := hI.out i _ es[i] hg (List.getElem?_eq_getElem hi)
  have e := clk_at hg
  rw [e]
  refine ⟨hg, h1.1, fun k => ?_, h2⟩
  by_cases hk : k < ((ckPlay n es)[i]).length
  · have := h1.2 k hk
    simp only [List.getD_eq_getElem?_getD, List.getElem?_eq_getElem hk, Option.getD_some]
    exact this
  · have := (evCount_le (es.take (i + 1)) k).1
    simp only [List.getD_eq_getElem?_getD, List.getElem?_eq_none (Nat.le_of_not_lt hk), Option.getD_none]
    omega
/-- A clock, by the last one of its site and what was heard, number by number. -/
theorem clk_rec (i : Nat) (hi : i < es.length) : ∃ b h : List Int,
    ((∀ k, b.getD k 0 = 0) ∧ (∀ (m : Nat) (x : Ev), m < i → es[m]? = some x → x.who.toNat ≠ es[i].who.toNat) ∨
      ∃ (m : Nat) (x : Ev), m < i ∧ es[m]? = some x ∧ x.who.toNat = es[i].who.toNat ∧ clk n es m = b ∧ ∀ (m' : Nat) (x' : Ev), m' < i → es[m']? = some x' → x'.who.toNat = es[i].who.toNat → m' ≤ m) ∧
    (h = b ∨ es[i].kind = 3) ∧ (es[i].kind = 3 → es[i].of'.toNat < i ∧ clk n es es[i].of'.toNat = h) ∧
    ∀ k, (clk n es i).getD k 0 = max (b.getD k 0) (h.getD k 0) + if es[i].who.toNat = k then 1 else 0 := by
  obtain ⟨b, h, h1, h2, h3, h4, h5, h6⟩ := ck_rec hok hn i hi
  have hw : es[i].who.toNat < n := by have := hn _ (List.getElem_mem hi); have := (hok i _ (List.getElem?_eq_getElem hi)).2.2.1; omega
  refine ⟨b, h, ?_, h2, fun e => ⟨(h3 e).1, clk_at (h3 e).2⟩, fun k => ?_⟩
  · rcases h1 with ⟨rfl, h⟩ | ⟨m, x, q1, q2, q3, q4, q5⟩
    · exact .inl ⟨fun k => by simp only [List.getD_eq_getElem?_getD, List.getElem?_replicate]; split <;> rfl, h⟩
    · exact .inr ⟨m, x, q1, q2, q3, clk_at q4, q5⟩
  · rw [clk_at h6, set_getD, ckJoin_length]
    have hl : es[i].who.toNat < min b.length h.length := by omega
    by_cases e : es[i].who.toNat = k
    · rw [if_pos ⟨e, hl⟩, if_pos e, e, ckJoin_getD _ _ (by omega)]
    · rw [if_neg (fun h => e h.1), if_neg e, ckJoin_getD _ _ (by omega)]; omega
/-- By a step a clock does not fall. -/
theorem step_le : ∀ (i : Nat) (hi : i < es.length) (k : Nat), k < i → TellStep es i k → CkLe (clk n es k) (clk n es i) := by
  intro i
  induction i using Nat.strongRecOn with
  | ind i ih =>
    intro hi k hk ⟨x, y, hx, hy, hs⟩
    obtain rfl : es[i] = x := by rw [List.getElem?_eq_getElem hi] at hx; exact Option.some.inj hx
    obtain ⟨b, h, h1, h2, h3, h4⟩ := clk_rec hok hn i hi
    have hup : ∀ a : List Int, (CkLe a b ∨ CkLe a h) → CkLe a (clk n es i) := fun a ha j => by
      rw [h4 j]
      rcases ha with ha | ha
      · have := ha j; split <;> omega
      · have := ha j; split <;> omega
    rcases hs with hs | ⟨hs, hs2⟩
    · rcases h1 with ⟨-, h1⟩ | ⟨m, z, q1, q2, q3, q4, q5⟩
      · exact absurd (by rw [hs]) (h1 k y hk hy)
      · have hkm := q5 k y hk hy (by rw [hs])
        by_cases e : k = m
        · subst e; exact hup _ (.inl (by rw [q4]; exact fun _ => Int.le_refl _))
        · refine hup _ (.inl ?_)
          rw [← q4]
          have hm : m < es.length := by omega
          refine ih m q1 hm k (by omega) ⟨z, y, q2, hy, .inl ?_⟩
          have hz := (hok m z q2).2.2.1
          have hw := (hok i _ (List.getElem?_eq_getElem hi)).2.2.1
          rw [hs]; omega
    · obtain ⟨r1, r2⟩ := h3 hs
      have e : es[i].of'.toNat = k := by omega
      rw [e] at r2
      exact hup _ (.inr (by rw [r2]; exact fun _ => Int.le_refl _))
theorem way_le {i k : Nat} (h : Way es i k) (hi : i < es.length) : CkLe (clk n es k) (clk n es i) := by
  induction h with
  | one h1 h2 => exact step_le hok hn _ hi _ h1 h2
  | more h1 h2 h3 ih => exact fun j => Int.le_trans (ih (by omega) j) (step_le hok hn _ hi _ h1 h2 j)
/-- Whose count a clock has, of that it knows by a way. -/
theorem way_of : ∀ (i : Nat) (hi : i < es.length) (k : Nat) (hk : k < i), (clk n es k).getD (es[k]'(by omega)).who.toNat 0 ≤ (clk n es i).getD (es[k]'(by omega)).who.toNat 0 → Way es i k := by
  intro i
  induction i using Nat.strongRecOn with
  | ind i ih =>
    intro hi k hk hle
    have hkl : k < es.length := by omega
    have hx := List.getElem?_eq_getElem hi
    have hy := List.getElem?_eq_getElem hkl
    have hwi := (hok i _ hx).2.2.1
    have hwk := (hok k _ hy).2.2.1
    by_cases hw : es[i].who.toNat = es[k].who.toNat
    · exact .one hk ⟨_, _, hx, hy, .inl (by omega)⟩
    · obtain ⟨b, h, h1, h2, h3, h4⟩ := clk_rec hok hn i hi
      obtain ⟨-, -, -, hown⟩ := clk_own hok hn k hkl
      have hc : 1 ≤ evCount (es.take (k + 1)) es[k].who.toNat := by
        rw [evCount_take_succ es k hkl, if_pos rfl]; have := (evCount_le (es.take k) es[k].who.toNat).1; omega
      rw [h4, if_neg hw] at hle
      -- whatever earlier clock has the count knows it by a way
      have key : ∀ m, m < i → TellStep es i m → (clk n es k).getD es[k].who.toNat 0 ≤ (clk n es m).getD es[k].who.toNat 0 → Way es i k := fun m hm hst hl => by
        have hml : m < es.length := by omega
        rcases Nat.lt_trichotomy k m with hlt | rfl | hgt
        · exact .more hm hst (ih m hm hml k hlt hl)
        · exact .one hk hst
        · have := ((clk_own hok hn m hml).2.2.1 es[k].who.toNat).2
          have h7 := evCount_take_le es es[k].who.toNat (show m + 1 ≤ k by omega)
          rw [hown, evCount_take_succ es k hkl, if_pos rfl] at hl
          omega
      have hb : (clk n es k).getD es[k].who.toNat 0 ≤ b.getD es[k].who.toNat 0 → Way es i k := fun hl => by
        rcases h1 with ⟨h1, -⟩ | ⟨m, z, q1, q2, q3, q4, q5⟩
        · rw [h1, hown] at hl; omega
        · rw [← q4] at hl
          have hz := (hok m z q2).2.2.1
          exact key m q1 ⟨_, z, hx, q2, .inl (by omega)⟩ hl
      by_cases hmax : (clk n es k).getD es[k].who.toNat 0 ≤ b.getD es[k].who.toNat 0
      · exact hb hmax
      · have hl : (clk n es k).getD es[k].who.toNat 0 ≤ h.getD es[k].who.toNat 0 := by omega
        rcases h2 with rfl | h2
        · exact absurd hl hmax
        · obtain ⟨r1, r2⟩ := h3 h2
          rw [← r2] at hl
          have hml : es[i].of'.toNat < es.length := by omega
          have hof := ((hok i _ hx).2.2.2.2 h2).1
          exact key _ r1 ⟨_, _, hx, List.getElem?_eq_getElem hml, .inr ⟨h2, by omega⟩⟩ hl
/-- THE PLAIN LAW: one clock is ahead of another just if there is a way; else neither is. -/
theorem tells (i : Nat) (hi : i < es.length) (k : Nat) (hk : k < i) : ckOrd (clk n es k) (clk n es i) = (open Classical in if Way es i k then -1 else 2) := by
  have hkl : k < es.length := by omega
  obtain ⟨-, hl1, -, -⟩ := clk_own hok hn k hkl
  obtain ⟨-, hl2, hu, hown⟩ := clk_own hok hn i hi
  have hless : ckLess (clk n es k) (clk n es i) = true := by
    cases h : ckLess (clk n es k) (clk n es i) with
    | true => rfl
    | false =>
      have := (ckLess_iff _ _ (by omega)).1 h es[i].who.toNat
      have h3 := ((clk_own hok hn k hkl).2.2.1 es[i].who.toNat).2
      have h4 := evCount_take_le es es[i].who.toNat (show k + 1 ≤ i by omega)
      rw [hown, evCount_take_succ es i hi, if_pos rfl] at this
      omega
  have hiff : ckLess (clk n es i) (clk n es k) = false ↔ Way es i k := by
    rw [ckLess_iff _ _ (by omega)]
    exact ⟨fun h => way_of hok hn i hi k hk (h _), fun h => way_le hok hn h hi⟩
  unfold ckOrd
  rw [if_pos hless]
  cases h : ckLess (clk n es i) (clk n es k) with
  | true => rw [if_pos rfl, if_neg (fun hw => by rw [hiff.2 hw] at h; cases h)]
  | false => rw [if_neg (by simp), if_pos (hiff.1 h)]
end
/-- What is known of the ways of i behind m of its steps. -/
def WayUp (es : List Ev) (i m j : Nat) : Prop := ∃ k, k < m ∧ TellStep es i k ∧ (k = j ∨ Way es k j)
theorem wayUp_all {es : List Ev} {i j : Nat} : WayUp es i i j ↔ Way es i j := by
  constructor
  · rintro ⟨k, h1, h2, rfl | h3⟩
    · exact .one h1 h2
    · exact .more h1 h2 h3
  · intro h
    cases h with
    | one h1 h2 => exact ⟨j, h1, h2, .inl rfl⟩
    | more h1 h2 h3 => exact ⟨_, h1, h2, .inr h3⟩
theorem wayUp_skip {es : List Ev} {i m j : Nat} (h : ¬ TellStep es i m) : WayUp es i (m + 1) j ↔ WayUp es i m j := by
  constructor
  · rintro ⟨k, h1, h2, h3⟩
    by_cases e : k = m
    · subst e; exact absurd h2 h
    · exact ⟨k, by omega, h2, h3⟩
  · rintro ⟨k, h1, h2, h3⟩; exact ⟨k, by omega, h2, h3⟩
theorem wayUp_step {es : List Ev} {i m j : Nat} (h : TellStep es i m) : WayUp es i (m + 1) j ↔ WayUp es i m j ∨ m = j ∨ Way es m j := by
  constructor
  · rintro ⟨k, h1, h2, h3⟩
    by_cases e : k = m
    · subst e; exact .inr h3
    · exact .inl ⟨k, by omega, h2, h3⟩
  · rintro (⟨k, h1, h2, h3⟩ | h3)
    · exact ⟨k, by omega, h2, h3⟩
    · exact ⟨m, by omega, h, h3⟩
end Go.Proofs.Ytkeefpeffeoakaa
