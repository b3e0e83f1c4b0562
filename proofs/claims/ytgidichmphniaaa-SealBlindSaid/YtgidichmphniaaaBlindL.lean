/- Package seal: the plain law of 'SealBlind'. -/
import Derived.Test.YtgidichmphniaaaSealL
namespace Go.Proofs.Ytgidichmphniaaa
set_option linter.unusedVariables false
set_option linter.unusedSimpArgs false

/-- The same move but for what stands in a letter to another one than w. -/
structure MvSame (w : Int) (x y : Mv) : Prop where
  kind : x.kind = y.kind
  f : x.f = y.f
  t : x.t = y.t
  id : x.id = y.id
  len : x.d.length = y.d.length
  d : x.kind = 1 → x.t = w → x.d = y.d
structure LtrSame (w : Int) (x y : Ltr) : Prop where
  f : x.f = y.f
  t : x.t = y.t
  len : x.d.length = y.d.length
  d : x.t = w → x.d = y.d
structure OffSame (w : Int) (o o' : Off) : Prop where
  len : o.ls.length = o'.ls.length
  ls : ∀ (i : Nat) (x y : Ltr), o.ls[i]? = some x → o'.ls[i]? = some y → LtrSame w x y
  op : o.op = o'.op
theorem at_sameL {w : Int} {o o' : Off} (h : OffSame w o o') {id : Int} (h0 : ¬ (id < 0 ∨ (o.ls.length : Int) ≤ id)) : LtrSame w (o.at' id) (o'.at' id) := by
  have h1 : id.toNat < o.ls.length := by omega
  have h2 : id.toNat < o'.ls.length := by have := h.len; omega
  have e1 : o.at' id = o.ls[id.toNat] := by simp [Off.at', List.getD_eq_getElem?_getD, h1]
  have e2 : o'.at' id = o'.ls[id.toNat] := by simp [Off.at', List.getD_eq_getElem?_getD, h2]
  rw [e1, e2]
  exact h.ls _ _ _ (List.getElem?_eq_getElem h1) (List.getElem?_eq_getElem h2)
/-- What is told is the same. -/
structure OutSame (w : Int) (x : Mv) (a b : Out) : Prop where
  code : a.code = b.code
  id : a.id = b.id
  size : a.size = b.size
  len : a.d.length = b.d.length
  d : (x.kind = 1 ∨ x.t = w) → a.d = b.d
theorem same_step {w : Int} {o o' : Off} (h : OffSame w o o') {x y : Mv} (hx : MvSame w x y) : OutSame w x (o.out x) (o'.out y) ∧ OffSame w (o.next x) (o'.next y) := by
  have hk := hx.kind
  have hid := hx.id
  have ht := hx.t
  have hlen := h.len
  have hop := h.op
  unfold Off.out Off.next
  rw [← hk, ← hid, ← ht, ← hlen, ← hop]
  by_cases c1 : x.kind = 1
  · simp only [if_pos c1]
    refine ⟨⟨rfl, rfl, by have := hx.len; simp only; omega, rfl, fun _ => rfl⟩, by simp [hlen], fun i a b ha hb => ?_, rfl⟩
    simp only at ha hb
    by_cases hi : i < o.ls.length
    · rw [List.getElem?_append_left hi] at ha
      rw [List.getElem?_append_left (by omega)] at hb
      exact h.ls i a b ha hb
    · have : i = o.ls.length := by have := (List.getElem?_eq_some_iff.1 ha).1; simp at this; omega
      subst this
      rw [List.getElem?_append_right (Nat.le_refl _), Nat.sub_self] at ha
      rw [List.getElem?_append_right (by omega), hlen, Nat.sub_self] at hb
      simp at ha hb
      subst ha; subst hb
      exact ⟨hx.f, hx.t, hx.len, fun h => hx.d c1 h⟩
  · simp only [if_neg c1]
    by_cases c2 : x.id < 0 ∨ (o.ls.length : Int) ≤ x.id
    · simp only [if_pos c2]
      exact ⟨⟨rfl, rfl, rfl, rfl, fun _ => rfl⟩, h⟩
    · simp only [if_neg c2]
      have hs := at_sameL h c2
      rw [← hs.t, ← hs.f]
      by_cases c3 : (o.at' x.id).t ≠ x.t
      · simp only [if_pos c3]
        exact ⟨⟨rfl, rfl, rfl, rfl, fun _ => rfl⟩, h⟩
      · simp only [if_neg c3]
        have c5 : (o.at' x.id).t = x.t := Classical.byContradiction fun h => c3 h
        by_cases c4 : x.id < o.op (o.at' x.id).f (o.at' x.id).t
        · simp only [if_pos c4]
          exact ⟨⟨rfl, rfl, rfl, rfl, fun _ => rfl⟩, h⟩
        · simp only [if_neg c4]
          refine ⟨⟨rfl, rfl, by have := hs.len; simp only; omega, hs.len, fun hh => ?_⟩, hlen, h.ls, rfl⟩
          rcases hh with hh | hh
          · exact absurd hh c1
          · exact hs.d (by rw [c5]; exact hh)
theorem same_fold {w : Int} {l m : List Mv} (hl : l.length = m.length) (h : ∀ (i : Nat) (x y : Mv), l[i]? = some x → m[i]? = some y → MvSame w x y) : ∀ k, k ≤ l.length → OffSame w (offFold (l.take k)).1 (offFold (m.take k)).1
  | 0, _ => ⟨rfl, fun i x y h => by simp [offFold, off0] at h, rfl⟩
  | k + 1, hk => by
    rw [offFold_take l k (by omega), offFold_take m k (by omega)]
    exact (same_step (same_fold hl h k (by omega)) (h k _ _ (List.getElem?_eq_getElem (by omega)) (List.getElem?_eq_getElem (by omega)))).2
/-- THE PLAIN LAW. -/
theorem blind {w : Int} {l m : List Mv} (hl : l.length = m.length) (h : ∀ (i : Nat) (x y : Mv), l[i]? = some x → m[i]? = some y → MvSame w x y) (i : Nat) (hi : i < l.length) (h1 : i < (sOuts l).length) (h2 : i < (sOuts m).length) : OutSame w l[i] (sOuts l)[i] (sOuts m)[i] := by
  have e1 := sOuts_get l i hi
  have e2 := sOuts_get m i (by omega)
  rw [List.getElem?_eq_getElem h1] at e1
  rw [List.getElem?_eq_getElem h2] at e2
  rw [Option.some.inj e1, Option.some.inj e2]
  exact (same_step (same_fold hl h i (by omega)) (h i _ _ (List.getElem?_eq_getElem hi) (List.getElem?_eq_getElem (by omega)))).1
end Go.Proofs.Ytgidichmphniaaa
