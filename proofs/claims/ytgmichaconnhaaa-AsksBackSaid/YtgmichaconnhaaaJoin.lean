/- Merging is a join: plain. -/
import Derived.Test.YtgmichaconnhaaaMergeL
namespace Go.Proofs.Ytgmichaconnhaaa
set_option linter.unusedVariables false
set_option linter.unusedSimpArgs false

theorem nw_iff (a b : Ent) : newer a b = true ↔ (b.t < a.t ∨ (a.t = b.t ∧ (b.h < a.h ∨ (a.h = b.h ∧ (flagI a.g < flagI b.g ∨ (flagI a.g = flagI b.g ∧ b.v < a.v)))))) := by
  simp only [newer, orI, cmpI]
  repeat' split
  all_goals first | omega | (simp_all; try omega)
theorem nw_irrefl (a : Ent) : newer a a = false := by
  rw [Bool.eq_false_iff, ne_eq, nw_iff]; omega
theorem nw_asymm {a b : Ent} (h : newer a b = true) : newer b a = false := by
  rw [Bool.eq_false_iff, ne_eq, nw_iff]; rw [nw_iff] at h; omega
theorem nw_trans {a b c : Ent} (h : newer a b = true) (k : newer b c = true) : newer a c = true := by
  rw [nw_iff] at *; omega
theorem nw_flag (a b : Bool) : flagI a = flagI b ↔ a = b := by cases a <;> cases b <;> simp [flagI]
theorem nw_total {a b : Ent} (hk : a.k = b.k) (h1 : newer a b = false) (h2 : newer b a = false) : a = b := by
  rw [Bool.eq_false_iff, ne_eq, nw_iff] at h1 h2
  have hg := nw_flag a.g b.g
  have h3 : a.t = b.t := by omega
  have h4 : a.h = b.h := by omega
  have h5 : a.v = b.v := by omega
  have h6 : a.g = b.g := hg.1 (by omega)
  cases a; cases b; simp_all
/-- The newer of two. -/
def mx (x y : Ent) : Ent := if newer y x = true then y else x
theorem mx_k {x y : Ent} (h : x.k = y.k) : (mx x y).k = x.k := by unfold mx; split <;> simp [h]
theorem mx_comm {x y : Ent} (h : x.k = y.k) : mx x y = mx y x := by
  unfold mx
  by_cases c1 : newer y x = true
  · rw [if_pos c1, if_neg (by rw [nw_asymm c1]; simp)]
  · rw [if_neg c1]
    by_cases c2 : newer x y = true
    · rw [if_pos c2]
    · rw [if_neg c2]; exact nw_total h (by simpa using c2) (by simpa using c1)
theorem mx_idem (x : Ent) : mx x x = x := by unfold mx; split <;> rfl
theorem mx_assoc {x y z : Ent} (h1 : x.k = y.k) (h2 : y.k = z.k) : mx (mx x y) z = mx x (mx y z) := by
  unfold mx
  by_cases c1 : newer y x = true
  · rw [if_pos c1]
    by_cases c2 : newer z y = true
    · rw [if_pos c2, if_pos (nw_trans c2 c1)]
    · rw [if_neg c2, if_pos c1]
  · rw [if_neg c1]
    by_cases c2 : newer z y = true
    · rw [if_pos c2]
    · rw [if_neg c2, if_neg c1]
      by_cases c3 : newer z x = true
      · exfalso
        by_cases c4 : newer x y = true
        · exact c2 (nw_trans c3 c4)
        · have := nw_total h1 (by simpa using c4) (by simpa using c1)
          rw [← this] at c2; exact c2 c3
      · rw [if_neg c3]
def jn : Option Ent → Option Ent → Option Ent
  | none, y => y
  | some x, none => some x
  | some x, some y => some (mx x y)
/-- An option of this key. -/
def Of (k : Int) (o : Option Ent) : Prop := ∀ x, o = some x → x.k = k
theorem jn_comm {k : Int} {a b : Option Ent} (ha : Of k a) (hb : Of k b) : jn a b = jn b a := by
  cases a with
  | none => cases b <;> rfl
  | some x => cases b with
    | none => rfl
    | some y => simp only [jn]; rw [mx_comm (by rw [ha x rfl, hb y rfl])]
theorem jn_idem (a : Option Ent) : jn a a = a := by cases a with
  | none => rfl
  | some x => simp only [jn, mx_idem]
theorem jn_assoc {k : Int} {a b c : Option Ent} (ha : Of k a) (hb : Of k b) (hc : Of k c) : jn (jn a b) c = jn a (jn b c) := by
  cases a with
  | none => rfl
  | some x => cases b with
    | none => rfl
    | some y => cases c with
      | none => rfl
      | some z => simp only [jn]; rw [mx_assoc (by rw [ha x rfl, hb y rfl]) (by rw [hb y rfl, hc z rfl])]
theorem look_of (l : List Ent) (k : Int) : Of k (look l k) := fun x hx => (look_some hx).2
theorem jn_of {k : Int} {a b : Option Ent} (ha : Of k a) (hb : Of k b) : Of k (jn a b) := by
  intro x hx
  cases a with
  | none => exact hb x hx
  | some y => cases b with
    | none => exact ha x hx
    | some z =>
      simp only [jn, Option.some.injEq] at hx
      rw [← hx, mx_k (by rw [ha y rfl, hb z rfl])]; exact ha y rfl
theorem newest_jn (o : Option Ent) (e : Ent) : some (newest o e) = jn o (some e) := by
  cases o with
  | none => rfl
  | some x => rfl
theorem look_mergeL {a : List Ent} (ha : MayL a) : ∀ (b : List Ent), MayL b → ∀ k, look (mergeL a b) k = jn (look a k) (look b k) := by
  intro b
  induction b generalizing a with
  | nil => intro _ k; show look a k = jn (look a k) none; cases look a k <;> rfl
  | cons e t ih =>
    intro hb k
    have hbs := hb.sorted
    rw [List.pairwise_cons] at hbs
    have hbt : MayL t := ⟨fun x hx => hb.ok x (List.mem_cons_of_mem _ hx), hbs.2⟩
    have h1 := ih (mergeOne_may ha (hb.ok e List.mem_cons_self)) hbt k
    have e0 : mergeL a (e :: t) = mergeL (mergeOne a e) t := rfl
    rw [e0, h1, look_merge a e ha.sorted, look_cons]
    by_cases c : k = e.k
    · rw [if_pos c, if_pos c.symm, newest_jn, look_none (l := t) fun x hx => by have := hbs.1 x hx; omega]
      cases look a k <;> rfl
    · rw [if_neg c, if_neg (fun h => c h.symm)]
theorem mergeL_comm {a b : List Ent} (ha : MayL a) (hb : MayL b) : mergeL a b = mergeL b a :=
  look_ext _ _ (mergeL_may ha hb.ok).sorted (mergeL_may hb ha.ok).sorted fun k => by
    rw [look_mergeL ha b hb, look_mergeL hb a ha, jn_comm (look_of a k) (look_of b k)]
theorem mergeL_assoc {a b c : List Ent} (ha : MayL a) (hb : MayL b) (hc : MayL c) : mergeL (mergeL a b) c = mergeL a (mergeL b c) :=
  have hab := mergeL_may ha hb.ok
  have hbc := mergeL_may hb hc.ok
  look_ext _ _ (mergeL_may hab hc.ok).sorted (mergeL_may ha hbc.ok).sorted fun k => by
    rw [look_mergeL hab c hc, look_mergeL ha b hb, look_mergeL ha _ hbc, look_mergeL hb c hc, jn_assoc (look_of a k) (look_of b k) (look_of c k)]
theorem mergeL_idem {a : List Ent} (ha : MayL a) : mergeL a a = a :=
  look_ext _ _ (mergeL_may ha ha.ok).sorted ha.sorted fun k => by rw [look_mergeL ha a ha, jn_idem]
theorem mergeL_absorb {a b : List Ent} (ha : MayL a) (hb : MayL b) : mergeL (mergeL a b) b = mergeL a b := by
  rw [mergeL_assoc ha hb hb, mergeL_idem hb]
/-- Few keys, few entries. -/
theorem sorted_len : ∀ (l : List Ent) (lo hi : Int), l.Pairwise (fun a b => a.k < b.k) → (∀ e ∈ l, lo ≤ e.k ∧ e.k < hi) → lo ≤ hi → (l.length : Int) ≤ hi - lo
  | [], lo, hi, _, _, h => by simp; omega
  | a :: t, lo, hi, hs, hb, h => by
    rw [List.pairwise_cons] at hs
    have h0 := hb a List.mem_cons_self
    have := sorted_len t (a.k + 1) hi hs.2 (fun e he => ⟨by have := hs.1 e he; omega, (hb e (List.mem_cons_of_mem _ he)).2⟩) (by omega)
    simp only [List.length_cons]; omega
/-- Entries of the laws: keys below 6. -/
structure SixL (l : List Ent) : Prop where
  may : MayL l
  six : ∀ e ∈ l, 0 ≤ e.k ∧ e.k < 6
theorem SixL.len {l : List Ent} (h : SixL l) : l.length ≤ 6 := by
  have := sorted_len l 0 6 h.may.sorted h.six (by omega); omega
theorem SixL.nil : SixL [] := ⟨⟨fun e he => by simp at he, List.Pairwise.nil⟩, fun e he => by simp at he⟩
theorem mergeL_mem {a b : List Ent} {x : Ent} (h : x ∈ mergeL a b) : x ∈ a ∨ x ∈ b := by
  induction b generalizing a with
  | nil => exact .inl h
  | cons e t ih =>
    rcases ih (a := mergeOne a e) h with h | h
    · rcases mergeOne_mem a e x h with rfl | h
      · exact .inr List.mem_cons_self
      · exact .inl h
    · exact .inr (List.mem_cons_of_mem _ h)
theorem SixL.merge {a b : List Ent} (ha : SixL a) (hb : SixL b) : SixL (mergeL a b) :=
  ⟨mergeL_may ha.may hb.may.ok, fun x hx => by
    rcases mergeL_mem hx with h | h
    · exact ha.six x h
    · exact hb.six x h⟩
end Go.Proofs.Ytgmichaconnhaaa
