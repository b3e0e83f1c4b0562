/- Package frame: Rumour. -/
import Derived.Test.YtngedkfljpkoiaaFrmC
import Derived.Test.YtngedkfljpkoiaaWireD
namespace Go.Proofs.Ytngedkfljpkoiaa
open Go.ChangeShapes Go.WideShapes Go.ChangeAt Go.RowKit
set_option linter.unusedVariables false
set_option linter.unusedSimpArgs false

theorem look_snoc {l : List Ent} {e : Ent} (h : (l ++ [e]).Pairwise (fun a b => a.k < b.k)) (k : Int) : look (l ++ [e]) k = if k = e.k then some e else look l k := by
  unfold look
  rw [List.find?_append]
  by_cases hk : k = e.k
  · rw [if_pos hk]
    have hn : l.find? (fun x => x.k == k) = none := by
      rw [List.find?_eq_none]
      intro x hx
      have := (List.pairwise_append.1 h).2.2 x hx e (by simp)
      simp only [beq_iff_eq]; omega
    rw [hn]; simp [hk]
  · rw [if_neg hk]
    have : [e].find? (fun x => x.k == k) = none := by simp; omega
    rw [this]; simp
theorem slots_snoc {es : List Ent} (h : EightL es) (j : Nat) (hj : j < es.length) (k : Nat) : slotAt (es.take (j + 1)) k = if (k : Int) = es[j].k then slotOf es[j] else slotAt (es.take j) k := by
  have hp : (es.take j ++ [es[j]]).Pairwise (fun a b => a.k < b.k) := by rw [← take_snoc es j hj]; exact h.may.sorted.sublist (List.take_sublist _ _)
  unfold slotAt
  rw [take_snoc es j hj, look_snoc hp]
  by_cases e : (k : Int) = es[j].k
  · rw [if_pos e, if_pos e]
  · rw [if_neg e, if_neg e]
/-- The block of slots. -/
def slotCells (es : List Ent) : List Value := (List.range 8).map fun k => .int .i64 (slotAt es k)
theorem slotCells_set {es : List Ent} (h : EightL es) (j : Nat) (hj : j < es.length) (k : Nat) (hk : es[j].k = k) : (slotCells (es.take j)).set k (.int .i64 (slotOf es[j])) = slotCells (es.take (j + 1)) := by
  apply List.ext_getElem (by simp [slotCells])
  intro i h1 h2
  rw [List.getElem_set]
  simp only [slotCells, List.getElem_map, List.getElem_range]
  rw [slots_snoc h j hj, hk]
  by_cases e : k = i
  · subst e; rw [if_pos rfl, if_pos rfl]
  · rw [if_neg e, if_neg (by omega)]
theorem slotCells_nil : slotCells [] = List.replicate 8 (.int .i64 0) := by rfl
theorem slotCells_len (es : List Ent) : (slotCells es).length = 8 := by simp [slotCells]
structure SlotsAt (w : World) (S : Nat) (es : List Ent) : Prop where
  cells : w.heap[S]? = some (.cells (slotCells es).toArray 70 (0, 0))
theorem SlotsAt.cell {w : World} {S : Nat} {es : List Ent} (h : SlotsAt w S es) (k : Nat) (hk : k < 8) : w.cell? ⟨S, k, none⟩ = some (.int .i64 (slotAt es k)) ∧ w.frozen? ⟨S, k, none⟩ = false := by
  refine ⟨?_, by simp [World.frozen?, h.cells]⟩
  rw [cell_of_row w _ _ _ _ _ h.cells]
  simp [slotCells, hk]
theorem SlotsAt.on {w w' : World} {S : Nat} {es : List Ent} (h : SlotsAt w S es) (hb : Below w.heap.size w w') : SlotsAt w' S es := ⟨by rw [hb.block _ (Array.getElem?_eq_some_iff.1 h.cells).1]; exact h.cells⟩
theorem SlotsAt.set {w : World} {S : Nat} {es : List Ent} {j k : Nat} (h : SlotsAt w S (es.take j)) (he : EightL es) (hj : j < es.length) (hk : es[j].k = k) : SlotsAt (w.setCell ⟨S, k, none⟩ (.int .i64 (slotOf es[j]))) S (es.take (j + 1)) := by
  constructor
  rw [heap_setCell_same _ S k _ _ _ h.cells, ← slotCells_set he j hj k hk]
  congr 2
  apply Array.ext'
  rw [Array.toList_setIfInBounds, List.toList_toArray]
/-- Behind some of the labels. -/
def rumK (ix : List Nat) (l : Nat → List Ent) (k r : Nat) : List (Int × Int) := ((ix.take k).flatMap fun i => slotsOf (l i)) ++ (match ix[k]? with | some i => (slotsOf (l i)).take r | none => [])
theorem rumK_zero (ix : List Nat) (l : Nat → List Ent) (k : Nat) : rumK ix l k 0 = (ix.take k).flatMap fun i => slotsOf (l i) := by
  unfold rumK; cases ix[k]? <;> simp
theorem rumK_snoc (ix : List Nat) (l : Nat → List Ent) (k r : Nat) (hk : k < ix.length) (hr : r < 8) : rumK ix l k (r + 1) = rumK ix l k r ++ [(34, slotAt (l ix[k]) r)] := by
  unfold rumK
  rw [List.getElem?_eq_getElem hk]
  simp only
  rw [take_snoc _ r (by rw [slotsOf_length]; exact hr), ← List.append_assoc]
  congr 1
  simp [slotsOf]
theorem rumK_next (ix : List Nat) (l : Nat → List Ent) (k : Nat) (hk : k < ix.length) : rumK ix l k 8 = rumK ix l (k + 1) 0 := by
  rw [rumK_zero, take_snoc _ k hk, List.flatMap_append]
  unfold rumK
  rw [List.getElem?_eq_getElem hk]
  simp only [List.flatMap_cons, List.flatMap_nil, List.append_nil]
  rw [show (slotsOf (l ix[k])).take 8 = slotsOf (l ix[k]) from List.take_of_length_le (by rw [slotsOf_length]; omega)]
theorem flat8 (ix : List Nat) (l : Nat → List Ent) : (ix.flatMap fun i => slotsOf (l i)).length = ix.length * 8 := by
  induction ix with
  | nil => rfl
  | cons a t ih => rw [List.flatMap_cons, List.length_append, ih, slotsOf_length, List.length_cons]; omega
theorem rumK_len (ix : List Nat) (l : Nat → List Ent) (k r : Nat) (hk : k ≤ ix.length) (hr : r ≤ 8) : (rumK ix l k r).length ≤ k * 8 + r := by
  unfold rumK
  rw [List.length_append, flat8, List.length_take]
  cases ix[k]? with
  | none => simp; omega
  | some i => simp only [List.length_take, slotsOf_length]; omega
theorem rumF_ok {labs : List Nat} {f t : Nat} {l : Nat → List Ent} (h4 : labs.length ≤ 4) (h : ∀ j, j < labs.length → EightL (l j) ∧ ∀ e ∈ l j, e.v ≤ 255) : FieldsOk (rumF labs f t l) := by
  constructor
  · unfold rumF; rw [flat8]; have := shr_len labs f t labs.length; omega
  · intro p hp
    simp only [rumF, List.mem_flatMap] at hp
    obtain ⟨i, hi, hp⟩ := hp
    have hi' := ((shr_mem labs f t labs.length i).1 hi).1
    simp only [slotsOf, List.mem_map, List.mem_range] at hp
    obtain ⟨k, hk, rfl⟩ := hp
    have := slotAt_bd (h i hi').1 (h i hi').2 k
    exact ⟨by simp, by simp, this.1, by simp only [Int.reduceToNat]; omega⟩
end Go.Proofs.Ytngedkfljpkoiaa
