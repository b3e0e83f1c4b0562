/- Package frame: Heard, plain and in memory. -/
import Derived.Test.YtngedkfljpkoiaaFrmE
import Derived.Test.YtngedkfljpkoiaaUnp
import Derived.Test.YtngedkfljpkoiaaPackBackL
import Derived.Test.YtngedkfljpkoiaaRepeat
namespace Go.Proofs.Ytngedkfljpkoiaa
open Go.ChangeShapes Go.WideShapes Go.ChangeAt Go.RowKit
set_option linter.unusedVariables false
set_option linter.unusedSimpArgs false

/-- Entries with keys less than r. -/
def upTo (es : List Ent) (r : Nat) : List Ent := es.filter fun e => decide (e.k < r)
theorem upTo_zero {es : List Ent} (h : EightL es) : upTo es 0 = [] := by
  unfold upTo
  rw [List.filter_eq_nil_iff]
  intro e he
  have := (h.eight e he).1
  simp; omega
theorem upTo_all {es : List Ent} (h : EightL es) : upTo es 8 = es := by
  unfold upTo
  rw [List.filter_eq_self]
  intro e he
  have := (h.eight e he).2
  simp; omega
theorem upTo_succ : ∀ {es : List Ent}, es.Pairwise (fun a b => a.k < b.k) → ∀ r : Nat, upTo es (r + 1) = upTo es r ++ (match look es r with | some e => [e] | none => [])
  | [], _, r => by simp [upTo, look]
  | a :: t, h, r => by
    obtain ⟨ha, ht⟩ := List.pairwise_cons.1 h
    have ih := upTo_succ ht r
    rw [look_cons]
    have f0 : ∀ (m : Nat), (m : Int) ≤ a.k → upTo t m = [] := fun m hm => by
      unfold upTo
      rw [List.filter_eq_nil_iff]
      intro e he
      have := ha e he
      simp; omega
    rcases Int.lt_trichotomy a.k r with hl | he | hg
    · rw [if_neg (by omega)]
      have c1 : upTo (a :: t) (r + 1) = a :: upTo t (r + 1) := by unfold upTo; rw [List.filter_cons_of_pos (by simp; omega)]
      have c2 : upTo (a :: t) r = a :: upTo t r := by unfold upTo; rw [List.filter_cons_of_pos (by simp; omega)]
      rw [c1, c2, ih, List.cons_append]
    · rw [if_pos he]
      have c1 : upTo (a :: t) (r + 1) = a :: upTo t (r + 1) := by unfold upTo; rw [List.filter_cons_of_pos (by simp; omega)]
      have c2 : upTo (a :: t) r = upTo t r := by unfold upTo; rw [List.filter_cons_of_neg (by simp; omega)]
      have c3 : upTo t (r + 1) = [] := by
        unfold upTo
        rw [List.filter_eq_nil_iff]
        intro e hem
        have := ha e hem
        simp; omega
      rw [c1, c2, c3, f0 r (by omega)]; rfl
    · rw [if_neg (by omega)]
      have c1 : upTo (a :: t) (r + 1) = upTo t (r + 1) := by unfold upTo; rw [List.filter_cons_of_neg (by simp; omega)]
      have c2 : upTo (a :: t) r = upTo t r := by unfold upTo; rw [List.filter_cons_of_neg (by simp; omega)]
      rw [c1, c2, ih]
/-- What is heard behind a labels and r keys. -/
def heardP (ix : List Nat) (l : Nat → List Ent) (a r : Nat) (j : Nat) : List Ent := if j ∈ ix.take a then l j else if ix[a]? = some j then upTo (l j) r else []
theorem heardP_zero {ix : List Nat} {l : Nat → List Ent} (j : Nat) (h : ∀ i ∈ ix, EightL (l i)) : heardP ix l 0 0 j = [] := by
  unfold heardP
  rw [if_neg (by simp)]
  split
  · next hh => exact upTo_zero (h j (List.mem_of_getElem? hh))
  · rfl
theorem heardP_end (ix : List Nat) (l : Nat → List Ent) (j : Nat) : heardP ix l ix.length 0 j = if j ∈ ix then l j else [] := by
  unfold heardP
  rw [List.take_length]
  split
  · rfl
  · rw [if_neg (by simp)]
theorem heardP_next {ix : List Nat} {l : Nat → List Ent} (hs : ix.Pairwise (· < ·)) (h : ∀ i ∈ ix, EightL (l i)) (a : Nat) (ha : a < ix.length) (j : Nat) : heardP ix l a 8 j = heardP ix l (a + 1) 0 j := by
  unfold heardP
  have e : (j ∈ ix.take (a + 1)) ↔ (j ∈ ix.take a ∨ ix[a] = j) := by
    rw [take_snoc ix a ha, List.mem_append, List.mem_singleton]
    constructor
    · rintro (h | h)
      · exact .inl h
      · exact .inr h.symm
    · rintro (h | h)
      · exact .inl h
      · exact .inr h.symm
  by_cases h1 : j ∈ ix.take a
  · rw [if_pos h1, if_pos (e.2 (.inl h1))]
  · rw [if_neg h1, List.getElem?_eq_getElem ha]
    by_cases h2 : ix[a] = j
    · rw [if_pos (by rw [h2]), if_pos (e.2 (.inr h2)), upTo_all (h j (by rw [← h2]; exact List.getElem_mem ha))]
    · rw [if_neg (by simpa using h2), if_neg (fun hh => (e.1 hh).elim h1 h2)]
      split
      · next hh => exact (upTo_zero (h j (List.mem_of_getElem? hh))).symm
      · rfl
theorem idx_notin {ix : List Nat} (hs : ix.Pairwise (· < ·)) (a : Nat) (ha : a < ix.length) : ix[a] ∉ ix.take a := by
  intro h
  obtain ⟨i, hi, he⟩ := List.mem_take_iff_getElem.1 h
  have := List.pairwise_iff_getElem.1 hs i a (by omega) ha (by omega)
  omega
theorem heardP_step {ix : List Nat} {l : Nat → List Ent} (hs : ix.Pairwise (· < ·)) (a r : Nat) (ha : a < ix.length) (h : EightL (l ix[a])) (j : Nat) :
    heardP ix l a (r + 1) j = match look (l ix[a]) r with | some e => updF (heardP ix l a r) ix[a] (heardP ix l a r ix[a] ++ [e]) j | none => heardP ix l a r j := by
  have hn := idx_notin hs a ha
  have e1 : ∀ m, heardP ix l a m ix[a] = upTo (l ix[a]) m := fun m => by unfold heardP; rw [if_neg hn, List.getElem?_eq_getElem ha, if_pos rfl]
  have e2 : ∀ m, j ≠ ix[a] → heardP ix l a m j = heardP ix l a r j := fun m hj => by
    unfold heardP
    have hne : ¬ some ix[a] = some j := by simpa using (fun h => hj h.symm)
    rw [List.getElem?_eq_getElem ha, if_neg hne, if_neg hne]
  have hu := upTo_succ h.may.sorted r
  by_cases hj : j = ix[a]
  · subst hj
    rw [e1, hu]
    cases look (l ix[a]) r with
    | none => simp [e1]
    | some e => simp only; rw [updF_same, e1]
  · rw [e2 _ hj]
    cases look (l ix[a]) r with
    | none => rfl
    | some e => simp only; rw [updF_ne _ _ hj]
structure HAt (w : World) (g B m cur : Nat) (vs : Nat → Value) (L : Nat → List Ent) : Prop where
  cells : w.heap[g]? = some (.cells ((List.range m).map vs).toArray 33 (0, 0))
  rows : ∀ j, j < m → Has w 5 (vs j) (L j).length (ents (L j))
  nil : ∀ j, L j = [] → vs j = .slice none 0 0
  low : ∀ j, j < m → j ≠ cur → ∀ b o n c, vs j = .slice (some ⟨b, o, none⟩) n c → g < b ∧ b < B
  own : w.ownsRow B 41 5 (vs cur) (L cur).length (ents (L cur))
  gB : g < B
  BS : B ≤ w.heap.size
section
variable {w w' : World} {g B m cur : Nat} {vs : Nat → Value} {L : Nat → List Ent}
theorem HAt.on (h : HAt w g B m cur vs L) (hb : Below w.heap.size w w') : HAt w' g B m cur vs L :=
  ⟨by rw [hb.block _ (Array.getElem?_eq_some_iff.1 h.cells).1]; exact h.cells, fun j hj => (h.rows j hj).below hb, h.nil, h.low, owns_below h.own hb, h.gB, Nat.le_trans h.BS hb.size⟩
theorem ents_nil_iff (l : List Ent) : 0 < l.length ∨ l = [] := by cases l <;> simp
theorem HAt.fresh (h : HAt w g B m cur vs L) (new : Nat) (hn : L new = []) : HAt w g w.heap.size m new vs L := by
  refine ⟨h.cells, h.rows, h.nil, fun j hj hne b o n c hv => ?_, ?_, Nat.lt_of_lt_of_le h.gB h.BS, Nat.le_refl _⟩
  · have hgB := h.gB
    have hBS := h.BS
    by_cases e : j = cur
    · subst e
      rcases ents_nil_iff (L j) with hl | hl
      · obtain ⟨g', c', he, h1, h2, _⟩ := owns_some h.own hl
        rw [hv] at he
        simp only [Value.slice.injEq, Option.some.injEq, Addr.mk.injEq] at he
        omega
      · rw [h.nil j hl] at hv; simp at hv
    · have := h.low j hj e b o n c hv
      omega
  · rw [h.nil new hn, hn]; exact World.ownsRow_nil _ _ _ _
theorem HAt.app {w2 : World} {v' : Value} {e : Ent} (h : HAt w g B m cur vs L) (hcur : cur < m) (hb : Below B w w2) (ho : w2.ownsRow B 41 5 v' ((L cur).length + 1) (ents (L cur) ++ e.cells)) :
    HAt (w2.setCell ⟨g, cur, none⟩ v') g B m cur (updF vs cur v') (updF L cur (L cur ++ [e])) := by
  have hgB := h.gB
  have hc2 : w2.heap[g]? = some (.cells ((List.range m).map vs).toArray 33 (0, 0)) := by rw [hb.block g hgB]; exact h.cells
  have hl : (L cur ++ [e]).length = (L cur).length + 1 := by simp
  have hents : ents (L cur ++ [e]) = ents (L cur) ++ e.cells := by simp [ents]
  have ho' : w2.ownsRow B 41 5 v' (L cur ++ [e]).length (ents (L cur ++ [e])) := by rw [hl, hents]; exact ho
  have ho2 : (w2.setCell ⟨g, cur, none⟩ v').ownsRow B 41 5 v' (L cur ++ [e]).length (ents (L cur ++ [e])) := ownsRow_setCell_below ho' (a := ⟨g, cur, none⟩) hgB v'
  refine ⟨?_, fun j hj => ?_, fun j hj => ?_, fun j hj hne b o n c hv => ?_, ?_, hgB, ?_⟩
  · rw [heap_setCell_same w2 g cur _ _ v' hc2]
    congr 2
    apply Array.ext'
    rw [Array.toList_setIfInBounds, List.toList_toArray, range_set]
  · by_cases e1 : j = cur
    · subst e1; rw [updF_same, updF_same]; exact Has.of_owns ho2
    · rw [updF_ne _ _ e1, updF_ne _ _ e1]
      refine (h.rows j hj).at fun _ b off n' cap hv => ?_
      have hlo := h.low j hj e1 b off n' cap hv
      rw [Below.heap_setCell _ _ _ _ (show b ≠ g by omega)]
      exact hb.block b hlo.2
  · by_cases e1 : j = cur
    · subst e1; rw [updF_same] at hj; simp at hj
    · rw [updF_ne _ _ e1] at hj ⊢; exact h.nil j hj
  · rw [updF_ne _ _ hne] at hv; exact h.low j hj hne b o n c hv
  · rw [updF_same, updF_same]; exact ho2
  · simp only [World.setCell]
    have := hb.size
    have := h.BS
    simp; omega
theorem HAt.cell (h : HAt w g B m cur vs L) (j : Nat) (hj : j < m) : w.cell? ⟨g, j, none⟩ = some (vs j) ∧ w.frozen? ⟨g, j, none⟩ = false := by
  refine ⟨?_, by simp [World.frozen?, h.cells]⟩
  rw [cell_of_row w _ _ _ _ _ h.cells]
  simp [hj]
theorem HAt.same {L' : Nat → List Ent} (h : HAt w g B m cur vs L) (he : ∀ j, L' j = L j) : HAt w g B m cur vs L' := by
  have : L' = L := funext he
  rw [this]; exact h
end
end Go.Proofs.Ytngedkfljpkoiaa
