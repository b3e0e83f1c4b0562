/- Arguments opened: rows of whatever reads element by element. -/
import Derived.Test.YtkodpijedinanaaOpen
import Derived.Test.YtkodpijedinanaaTag
namespace Go.Proofs.Ytkodpijedinanaa
open Go.ChangeShapes Go.WideShapes Go.ChangeAt Go.RowKit Go.Joins Go.Deep
set_option linter.unusedVariables false
theorem list_of {α : Type} (Q : Nat → α → Prop) : ∀ n, (∀ i, i < n → ∃ a, Q i a) → ∃ l : List α, l.length = n ∧ ∀ i a, l[i]? = some a → Q i a
  | 0, _ => ⟨[], rfl, fun i a h => by simp at h⟩
  | n + 1, h => by
    obtain ⟨l, hl, hq⟩ := list_of Q n fun i hi => h i (by omega)
    obtain ⟨a, ha⟩ := h n (by omega)
    refine ⟨l ++ [a], by simp [hl], fun i b hb => ?_⟩
    by_cases hi : i < l.length
    · rw [List.getElem?_append_left hi] at hb; exact hq i b hb
    · have : i = l.length := by have := (List.getElem?_eq_some_iff.1 hb).1; simp at this; omega
      subst this
      simp at hb
      subst hb; rw [hl]; exact ha
section
variable {H : Type} {enc : TypeId × Value → H} {P : Program} {W : World} {sp : Nat → Bool}
/-- The fields of a struct of one-cell fields. -/
theorem struct_fields {t : TypeId} {fs : Array Field} {n : Nat} {cs : List Value} {x : DataW H × List MemPlace} (hs : P.underlying t = some (.struct fs)) (hone : oneCellFields P fs = true) (hC : P.cellsOf t = fs.size)
    (h : DataW.trod enc P W 0 sp true n t cs = some x) : cs.length = fs.size ∧ ∃ n', ∀ (j : Nat) (f : Field) (c : Value), fs[j]? = some f → cs[j]? = some c → ∃ y, DataW.trod enc P W 0 sp true n' f.type [c] = some y := by
  obtain ⟨xs, n', _, _, hl, hlen, hg⟩ := DataW.trod_struct hs h
  refine ⟨hl.trans hC, n', fun j f c hj hc => ?_⟩
  obtain ⟨ho, hk⟩ := hone_of hone j f hj
  have h1 := hg j f hj
  have hjl : j < cs.length := (List.getElem?_eq_some_iff.1 hc).1
  have e1 : (cs.drop j).take 1 = [c] := by
    rw [List.drop_eq_getElem_cons hjl, List.take_succ_cons, List.take_zero, (List.getElem?_eq_some_iff.1 hc).2]
  rw [ho, hk, e1] at h1
  have hx : j < xs.length := by have := (Array.getElem?_eq_some_iff.1 hj).1; omega
  exact ⟨_, h1.trans (List.getElem?_eq_getElem hx)⟩
/-- A row whose elements read, out of one cell (a slice in a cell). -/
theorem open_cells {α : Type} (f : α → List Value) (R : α → Prop) (m : Nat) (hf : ∀ a, (f a).length = m) (hm0 : 0 < m) {t e : TypeId} (ht : P.underlying t = some (.slice e)) (hC : P.cellsOf e = m)
    (hread : ∀ n cs y, cs.length = m → DataW.trod enc P W 0 sp true n e cs = some y → ∃ a, cs = f a ∧ R a) {n : Nat} {v : Value} {y : DataW H × List MemPlace} (h : DataW.trod enc P W 0 sp true n t [v] = some y) :
    ∃ l : List α, Has W m v l.length (l.flatMap f) ∧ ∀ a ∈ l, R a := by
  rcases open_slice ht h with ⟨hcs, hx⟩ | ⟨a, len, cap, k, n', D, Pl, hcs, _, hl, hm, hk, hx, hi⟩
  · simp only [List.cons.injEq, and_true] at hcs
    subst hcs
    exact ⟨[], ⟨⟨by simp, fun n cap h => by simp at h; exact ⟨h.1.symm, h.2.symm⟩⟩, none, 0, rfl, Nat.le_refl _, Nat.zero_le _, fun h => by simp at h⟩, by simp⟩
  · simp only [List.cons.injEq, and_true] at hcs
    subst hcs
    have hlk : len ≤ k := by rw [hk]; split <;> omega
    obtain ⟨l, hll, hq⟩ := list_of (fun i b => (∀ j u, (f b)[j]? = some u → W.cell? (a.add (i * m + j)) = some u) ∧ R b) len fun i hil => by
      obtain ⟨cs', hc, ht'⟩ := hi i (by omega)
      rw [hC] at hc
      obtain ⟨_, hcl, hat⟩ := World.cells?_some hc
      obtain ⟨b, rfl, hR⟩ := hread _ _ _ hcl ht'
      refine ⟨b, fun j u hu => ?_, hR⟩
      have hj : j < m := by have := (List.getElem?_eq_some_iff.1 hu).1; omega
      rw [← Go.Deep.add_add, hat j hj]
      exact hu
    subst hll
    refine ⟨l, ⟨⟨flat_length f m hf l, fun n cap h => by simp at h⟩, some a, cap, rfl, hl, hm, fun hp => ?_⟩, fun b hb => ?_⟩
    · have hcell : ∀ j u, (l.flatMap f)[j]? = some u → W.cell? (a.add j) = some u := fun j u hu => by
        have hjl : j < l.length * m := by have := (List.getElem?_eq_some_iff.1 hu).1; rwa [flat_length f m hf l] at this
        have hd : j / m < l.length := (Nat.div_lt_iff_lt_mul hm0).2 hjl
        have hr := Nat.mod_lt j hm0
        have e := Nat.div_add_mod' j m
        have h1 := flat_get f m hf l (j / m) hd (j % m) hr
        rw [e, hu] at h1
        have := (hq (j / m) _ (List.getElem?_eq_getElem hd)).1 (j % m) u h1.symm
        rwa [e] at this
      have hsp : a.spot = none := by
        have h0 := hcell 0 ((l.flatMap f)[0]) (List.getElem?_eq_getElem hp)
        rw [show a.add 0 = a by simp [Addr.add]] at h0
        cases hs : a.spot with
        | none => rfl
        | some s => simp [World.cell?, hs] at h0; split at h0 <;> simp at h0
      refine ⟨a.block, a.off, by cases a; simp_all, fun j u hu => ?_⟩
      have := hcell j u hu
      rwa [addr_add _ _ hsp] at this
    · obtain ⟨i, hi', rfl⟩ := List.mem_iff_getElem.1 hb
      exact (hq i _ (List.getElem?_eq_getElem hi')).2
/-- An argument that is such a row. -/
theorem open_row {α : Type} (f : α → List Value) (R : α → Prop) (m : Nat) (hf : ∀ a, (f a).length = m) (hm0 : 0 < m) {t e : TypeId} {base : Nat} {v : Value} {d : DataW H} {ps : List MemPlace} (ht : P.underlying t = some (.slice e)) (hC : P.cellsOf e = m)
    (hread : ∀ n cs y, cs.length = m → DataW.trod enc P W 0 sp true n e cs = some y → ∃ a, cs = f a ∧ R a)
    (hval : Value.okWide P W .any base t v) (h : DataW.Trod enc P W 0 sp true t v d ps) : ∃ l : List α, Has W m v l.length (l.flatMap f) ∧ ∀ a ∈ l, R a := by
  obtain ⟨a0, len, cap, rfl⟩ := okWide_slice ht hval
  obtain ⟨fuel, hf'⟩ := h
  exact open_cells f R m hf hm0 ht hC hread (n := fuel) (v := .slice a0 len cap) (by simpa [Value.cells] using hf')
end
end Go.Proofs.Ytkodpijedinanaa
