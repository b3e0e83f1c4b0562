/- Package reg: what merging comes to, in plain Lean. -/
import Derived.Test.YtgmichaconnhaaaReg
namespace Go.Proofs.Ytgmichaconnhaaa
set_option linter.unusedVariables false
set_option linter.unusedSimpArgs false

structure Ent.Ok (e : Ent) : Prop where
  k : 0 ≤ e.k ∧ e.k ≤ 1048576
  v : 0 ≤ e.v ∧ e.v ≤ 1048576
  t : 0 ≤ e.t ∧ e.t ≤ 1048576
  h : 0 ≤ e.h ∧ e.h ≤ 7
  g : e.g = true → e.v = 0
structure MayL (l : List Ent) : Prop where
  ok : ∀ e ∈ l, e.Ok
  sorted : l.Pairwise (fun a b => a.k < b.k)
/-- How many stand ahead of a key. -/
def posK : List Ent → Int → Nat
  | [], _ => 0
  | a :: t, k => if a.k < k then posK t k + 1 else 0
theorem posK_le : ∀ (l : List Ent) (k : Int), posK l k ≤ l.length
  | [], _ => Nat.le_refl _
  | a :: t, k => by
    unfold posK
    have := posK_le t k
    split <;> simp <;> omega
theorem posK_eq : ∀ (l : List Ent) (k : Int) (i : Nat), i ≤ l.length → (∀ x (hx : x < l.length), x < i → l[x].k < k) → (∀ hx : i < l.length, ¬ l[i].k < k) → posK l k = i
  | [], k, i, hi, _, _ => by simp at hi; simp [posK, hi]
  | a :: t, k, 0, hi, h1, h2 => by
    have := h2 (by simp)
    simp only [List.getElem_cons_zero] at this
    simp [posK, this]
  | a :: t, k, i + 1, hi, h1, h2 => by
    have h0 := h1 0 (by simp) (by omega)
    simp only [List.getElem_cons_zero] at h0
    have ih := posK_eq t k i (by simpa using hi) (fun x hx hxi => by have := h1 (x + 1) (by simpa using hx) (by omega); simpa using this) (fun hx => by have := h2 (by simpa using hx); simpa using this)
    simp [posK, h0, ih]
/-- One entry is merged. -/
def mergeOne : List Ent → Ent → List Ent
  | [], e => [e]
  | a :: t, e => if a.k < e.k then a :: mergeOne t e else if a.k = e.k then (if newer e a = true then e :: t else a :: t) else e :: a :: t
def mergeL (a b : List Ent) : List Ent := b.foldl mergeOne a
theorem mergeOne_none : ∀ (l : List Ent) (e : Ent), (∀ hx : posK l e.k < l.length, l[posK l e.k].k ≠ e.k) → mergeOne l e = l.take (posK l e.k) ++ [e] ++ l.drop (posK l e.k)
  | [], e, _ => rfl
  | a :: t, e, h => by
    by_cases c : a.k < e.k
    · have hp : posK (a :: t) e.k = posK t e.k + 1 := by simp [posK, c]
      have ih := mergeOne_none t e fun hx => by have := h (by rw [hp]; simpa using hx); simpa [hp] using this
      simp [mergeOne, c, hp, ih]
    · have hp : posK (a :: t) e.k = 0 := by simp [posK, c]
      have h0 := h (by rw [hp]; simp)
      simp only [hp, List.getElem_cons_zero] at h0
      simp [mergeOne, c, hp, h0]
theorem mergeOne_some : ∀ (l : List Ent) (e : Ent) (hx : posK l e.k < l.length), l[posK l e.k].k = e.k → mergeOne l e = if newer e l[posK l e.k] = true then l.set (posK l e.k) e else l
  | [], e, hx, _ => by simp at hx
  | a :: t, e, hx, h => by
    by_cases c : a.k < e.k
    · have hp : posK (a :: t) e.k = posK t e.k + 1 := by simp [posK, c]
      have hx' : posK t e.k < t.length := by rw [hp] at hx; simpa using hx
      have ih := mergeOne_some t e hx' (by simpa [hp] using h)
      simp only [mergeOne, c, hp, if_true, List.getElem_cons_succ, List.set_cons_succ]
      rw [ih]
      split <;> rfl
    · have hp : posK (a :: t) e.k = 0 := by simp [posK, c]
      simp only [hp, List.getElem_cons_zero] at h
      have c2 : ¬ a.k < e.k := c
      simp only [mergeOne, if_neg c2, if_pos h, hp, List.getElem_cons_zero, List.set_cons_zero]
theorem mergeOne_mem : ∀ (l : List Ent) (e x : Ent), x ∈ mergeOne l e → x = e ∨ x ∈ l
  | [], e, x, h => by simp [mergeOne] at h; exact .inl h
  | a :: t, e, x, h => by
    unfold mergeOne at h
    split at h
    · rcases List.mem_cons.1 h with h | h
      · exact .inr (by rw [h]; exact List.mem_cons_self)
      · rcases mergeOne_mem t e x h with h | h
        · exact .inl h
        · exact .inr (List.mem_cons_of_mem _ h)
    · split at h
      · split at h
        · rcases List.mem_cons.1 h with h | h
          · exact .inl h
          · exact .inr (List.mem_cons_of_mem _ h)
        · exact .inr h
      · rcases List.mem_cons.1 h with h | h
        · exact .inl h
        · exact .inr h
theorem mergeOne_may {l : List Ent} {e : Ent} (h : MayL l) (he : e.Ok) : MayL (mergeOne l e) := by
  refine ⟨fun x hx => ?_, ?_⟩
  · rcases mergeOne_mem l e x hx with rfl | hx
    · exact he
    · exact h.ok x hx
  · have hs := h.sorted
    clear h
    induction l with
    | nil => simp [mergeOne]
    | cons a t ih =>
      rw [List.pairwise_cons] at hs
      unfold mergeOne
      split
      · next c =>
        rw [List.pairwise_cons]
        refine ⟨fun x hx => ?_, ih hs.2⟩
        rcases mergeOne_mem t e x hx with rfl | hx
        · exact c
        · exact hs.1 x hx
      · next c =>
        split
        · next c2 =>
          split
          · rw [List.pairwise_cons]
            exact ⟨fun x hx => by have := hs.1 x hx; omega, hs.2⟩
          · rw [List.pairwise_cons]; exact hs
        · next c2 =>
          rw [List.pairwise_cons, List.pairwise_cons]
          exact ⟨fun x hx => by
            rcases List.mem_cons.1 hx with rfl | hx
            · omega
            · have := hs.1 x hx; omega, hs⟩
theorem mergeL_may {a b : List Ent} (ha : MayL a) (hb : ∀ e ∈ b, e.Ok) : MayL (mergeL a b) := by
  induction b generalizing a with
  | nil => exact ha
  | cons e t ih => exact ih (mergeOne_may ha (hb e List.mem_cons_self)) fun x hx => hb x (List.mem_cons_of_mem _ hx)
theorem mergeOne_len (l : List Ent) (e : Ent) : l.length ≤ (mergeOne l e).length ∧ (mergeOne l e).length ≤ l.length + 1 := by
  induction l with
  | nil => simp [mergeOne]
  | cons a t ih =>
    unfold mergeOne
    split
    · simp; omega
    · split
      · split <;> simp
      · simp
theorem mergeL_len (a b : List Ent) : a.length ≤ (mergeL a b).length ∧ (mergeL a b).length ≤ a.length + b.length := by
  induction b generalizing a with
  | nil => simp [mergeL]
  | cons e t ih =>
    have h1 := ih (mergeOne a e)
    have h2 := mergeOne_len a e
    unfold mergeL at *
    simp only [List.foldl_cons, List.length_cons]
    omega
theorem mergeL_snoc (a b : List Ent) (e : Ent) : mergeL a (b ++ [e]) = mergeOne (mergeL a b) e := by unfold mergeL; rw [List.foldl_append]; rfl
/-- What stands under a key. -/
def look (l : List Ent) (k : Int) : Option Ent := l.find? (fun x => x.k == k)
def newest (o : Option Ent) (e : Ent) : Ent := match o with | none => e | some x => if newer e x = true then e else x
theorem look_none {l : List Ent} {k : Int} (h : ∀ x ∈ l, x.k ≠ k) : look l k = none := by
  unfold look; rw [List.find?_eq_none]; intro x hx; simpa using h x hx
theorem look_some {l : List Ent} {k : Int} {e : Ent} (h : look l k = some e) : e ∈ l ∧ e.k = k := by
  unfold look at h
  exact ⟨List.mem_of_find?_eq_some h, by have := List.find?_some h; simpa using this⟩
theorem look_cons (a : Ent) (t : List Ent) (k : Int) : look (a :: t) k = if a.k = k then some a else look t k := by
  unfold look
  rw [List.find?_cons]
  by_cases c : a.k = k
  · rw [if_pos c]; simp [c]
  · rw [if_neg c]
    have : (a.k == k) = false := by rw [beq_eq_false_iff_ne]; exact c
    rw [this]
theorem look_merge (l : List Ent) (e : Ent) (hs : l.Pairwise (fun a b => a.k < b.k)) (k : Int) : look (mergeOne l e) k = if k = e.k then some (newest (look l k) e) else look l k := by
  induction l with
  | nil =>
    rw [show mergeOne [] e = [e] from rfl, look_cons]
    by_cases c : k = e.k
    · rw [if_pos c.symm, if_pos c]; rfl
    · rw [if_neg (fun h => c h.symm), if_neg c]
  | cons a t ih =>
    rw [List.pairwise_cons] at hs
    unfold mergeOne
    by_cases c1 : a.k < e.k
    · rw [if_pos c1, look_cons, look_cons, ih hs.2]
      by_cases c2 : a.k = k
      · rw [if_pos c2, if_pos c2, if_neg (by omega)]
      · rw [if_neg c2, if_neg c2]
    · rw [if_neg c1]
      by_cases c2 : a.k = e.k
      · rw [if_pos c2]
        by_cases c3 : k = e.k
        · rw [if_pos c3, look_cons a t k, if_pos (show a.k = k by omega)]
          simp only [newest]
          by_cases c4 : newer e a = true
          · rw [if_pos c4, if_pos c4, look_cons, if_pos c3.symm]
          · rw [if_neg c4, if_neg c4, look_cons, if_pos (show a.k = k by omega)]
        · rw [if_neg c3]
          by_cases c4 : newer e a = true
          · rw [if_pos c4, look_cons, look_cons, if_neg (fun h => c3 h.symm), if_neg (by omega)]
          · rw [if_neg c4]
      · rw [if_neg c2, look_cons]
        by_cases c3 : k = e.k
        · have e0 : look (a :: t) k = none := look_none fun x hx => by
            rcases List.mem_cons.1 hx with h0 | h0
            · rw [h0]; omega
            · have := hs.1 x h0; omega
          rw [if_pos c3.symm, if_pos c3, e0]; rfl
        · rw [if_neg (fun h => c3 h.symm), if_neg c3]
/-- Lists that look the same are the same. -/
theorem look_ext : ∀ (l m : List Ent), l.Pairwise (fun a b => a.k < b.k) → m.Pairwise (fun a b => a.k < b.k) → (∀ k, look l k = look m k) → l = m
  | [], [], _, _, _ => rfl
  | [], b :: m, _, _, h => by have := h b.k; rw [look_cons, if_pos rfl] at this; simp [look] at this
  | a :: l, [], _, _, h => by have := h a.k; rw [look_cons, if_pos rfl] at this; simp [look] at this
  | a :: l, b :: m, h1, h2, h => by
    rw [List.pairwise_cons] at h1 h2
    have e1 : a.k = b.k := by
      have ha := h a.k
      have hb := h b.k
      rw [look_cons, if_pos rfl, look_cons] at ha
      rw [look_cons b, if_pos rfl, look_cons] at hb
      apply Classical.byContradiction
      intro hne
      rw [if_neg (fun hh => hne hh.symm)] at ha
      rw [if_neg hne] at hb
      have q1 := h2.1 _ (look_some ha.symm).1
      have q2 := h1.1 _ (look_some hb).1
      omega
    have e2 : a = b := by
      have ha := h a.k
      rw [look_cons, if_pos rfl, look_cons, if_pos e1.symm] at ha
      simpa using ha
    subst e2
    rw [look_ext l m h1.2 h2.2 fun k => by
      have hk := h k
      rw [look_cons, look_cons] at hk
      by_cases c : a.k = k
      · rw [look_none, look_none]
        · intro x hx; have := h2.1 x hx; omega
        · intro x hx; have := h1.1 x hx; omega
      · rwa [if_neg c, if_neg c] at hk]
end Go.Proofs.Ytgmichaconnhaaa
