/- Package gossip: a store in memory; next, Learn, Put. -/
import Derived.Test.YtngedkfljpkoiaaSameE
namespace Go.Proofs.Ytngedkfljpkoiaa
open Go.ChangeShapes Go.WideShapes Go.ChangeAt Go.RowKit
set_option linter.unusedVariables false
set_option linter.unusedSimpArgs false

/-- Entries with keys that may be, each label's list. -/
structure EightL (l : List Ent) : Prop where
  may : MayL l
  eight : ∀ e ∈ l, 0 ≤ e.k ∧ e.k < 8
theorem EightL.len {l : List Ent} (h : EightL l) : l.length ≤ 8 := by
  have := sorted_len l 0 8 h.may.sorted h.eight (by omega); omega
theorem EightL.nil : EightL [] := ⟨⟨fun e he => by simp at he, List.Pairwise.nil⟩, fun e he => by simp at he⟩
theorem EightL.merge {a b : List Ent} (ha : EightL a) (hb : EightL b) : EightL (mergeL a b) :=
  ⟨mergeL_may ha.may hb.may.ok, fun x hx => by
    rcases mergeL_mem hx with h | h
    · exact ha.eight x h
    · exact hb.eight x h⟩
theorem EightL.one {e : Ent} (h : e.Ok) (h0 : 0 ≤ e.k ∧ e.k < 8) : EightL [e] := ⟨⟨fun x hx => by simp at hx; subst hx; exact h, by simp⟩, fun x hx => by simp at hx; subst hx; exact h0⟩
/-- The latest time. -/
def maxT : List Ent → Int
  | [] => 0
  | a :: t => max a.t (maxT t)
theorem maxT_nonneg : ∀ l : List Ent, 0 ≤ maxT l
  | [] => Int.le_refl _
  | a :: t => by have := maxT_nonneg t; simp only [maxT]; omega
theorem maxT_snoc : ∀ (l : List Ent) (e : Ent), maxT (l ++ [e]) = max (maxT l) e.t
  | [], e => by simp only [List.nil_append, maxT]; omega
  | a :: t, e => by simp only [List.cons_append, maxT, maxT_snoc t e]; omega
theorem maxT_le {l : List Ent} {n : Int} (h0 : 0 ≤ n) (h : ∀ e ∈ l, e.t ≤ n) : maxT l ≤ n := by
  induction l with
  | nil => exact h0
  | cons a t ih =>
    have h1 := h a List.mem_cons_self
    have h2 := ih fun e he => h e (List.mem_cons_of_mem _ he)
    simp only [maxT]; omega
theorem le_maxT {l : List Ent} {e : Ent} (h : e ∈ l) : e.t ≤ maxT l := by
  induction l with
  | nil => simp at h
  | cons a t ih =>
    simp only [maxT]
    rcases List.mem_cons.1 h with rfl | h
    · omega
    · have := ih h; omega
theorem infoEnts : (Try.prog.info? 33).map (fun i => (i.zero, i.size, i.bytes)) = some (some (.slice none 0 0), 1, 24) := by kernel_rfl
/-- A store: block g, m labels, what stands under each. -/
structure StoreAt (w : World) (g m : Nat) (vs : Nat → Value) (l : Nat → List Ent) : Prop where
  cells : w.heap[g]? = some (.cells ((List.range m).map vs).toArray 33 (0, 0))
  rows : ∀ j, j < m → HasT w 41 5 (vs j) (l j).length (ents (l j))
  ok : ∀ j, j < m → EightL (l j)
theorem grown_chc {w w' : World} {g : Nat} {cs : Array Value} {e : TypeId} {r : Nat × Nat} (hg : w.heap[g]? = some (.cells cs e r)) (h : w.grownBy w' (some g)) : Chc [e] w w' :=
  ⟨h.size, fun k cs' e' r' hk he => by
    rw [h.block k (Array.getElem?_eq_some_iff.1 hk).1 (fun hh => by
      simp only [Option.some.injEq] at hh
      subst hh
      rw [hg] at hk
      simp only [Option.some.injEq, Obj.cells.injEq] at hk
      exact he (by rw [hk.2.1]; simp))]; exact hk⟩
section
variable {w w' : World} {g m : Nat} {vs : Nat → Value} {l : Nat → List Ent}
theorem StoreAt.on (h : StoreAt w g m vs l) (hb : Below w.heap.size w w') : StoreAt w' g m vs l :=
  ⟨by rw [hb.block _ (Array.getElem?_eq_some_iff.1 h.cells).1]; exact h.cells, fun j hj => (h.rows j hj).below hb, h.ok⟩
/-- Another store is written. -/
theorem StoreAt.other {g' : Nat} {vs' : Nat → Value} {l' : Nat → List Ent} {m' : Nat} (h : StoreAt w g m vs l) (h' : StoreAt w g' m' vs' l') (hg : w.grownBy w' (some g')) (hne : g ≠ g') : StoreAt w' g m vs l := by
  have hc := grown_chc h'.cells hg
  exact ⟨by rw [hg.block g (Array.getElem?_eq_some_iff.1 h.cells).1 (by simpa using hne)]; exact h.cells, fun j hj => (h.rows j hj).chc hc (by decide), h.ok⟩
theorem StoreAt.cell (h : StoreAt w g m vs l) (j : Nat) (hj : j < m) : w.cell? ⟨g, j, none⟩ = some (vs j) ∧ w.frozen? ⟨g, j, none⟩ = false := by
  refine ⟨?_, by simp [World.frozen?, h.cells]⟩
  rw [cell_of_row w _ _ _ _ _ h.cells]
  simp [hj]
theorem StoreAt.lt (h : StoreAt w g m vs l) : g < w.heap.size := (Array.getElem?_eq_some_iff.1 h.cells).1
end
def updF {α : Type} (f : Nat → α) (j : Nat) (v : α) : Nat → α := fun i => if i = j then v else f i
theorem updF_same {α : Type} (f : Nat → α) (j : Nat) (v : α) : updF f j v j = v := by simp [updF]
theorem updF_ne {α : Type} (f : Nat → α) {i j : Nat} (v : α) (h : i ≠ j) : updF f j v i = f i := by simp [updF, h]
theorem range_set (vs : Nat → Value) (m j : Nat) (v : Value) : ((List.range m).map vs).set j v = (List.range m).map (updF vs j v) := by
  apply List.ext_getElem
  · simp
  · intro i h1 h2
    simp at h1
    rw [List.getElem_set]
    by_cases e : j = i
    · subst e; simp [updF]
    · simp [e, updF]; intro hh; exact absurd hh.symm e
/-- A label's list is exchanged. -/
theorem StoreAt.put {w w1 : World} {g m j : Nat} {vs : Nat → Value} {l : Nat → List Ent} {v' : Value} {b : List Ent} (h : StoreAt w g m vs l) (hb : Below w.heap.size w w1) (hv : HasT w1 41 5 v' b.length (ents b)) (hok : EightL b) :
    StoreAt (w1.setCell ⟨g, j, none⟩ v') g m (updF vs j v') (updF l j b) ∧ w.grownBy (w1.setCell ⟨g, j, none⟩ v') (some g) := by
  have h1 := h.on hb
  have hc := Chc.setCell (T := [33]) (p := ⟨g, j, none⟩) h1.cells (by simp) v'
  refine ⟨⟨?_, fun i hi => ?_, fun i hi => ?_⟩, ⟨hb.os, hb.tape, hb.output, by simpa [World.setCell] using hb.size, fun k hk hne => ?_⟩⟩
  · have h2 := heap_setCell_same w1 g j _ _ v' h1.cells
    rw [h2]
    congr 2
    apply Array.ext'
    rw [Array.toList_setIfInBounds, List.toList_toArray, range_set]
  · by_cases e : i = j
    · subst e; rw [updF_same, updF_same]; exact hv.chc hc (by decide)
    · rw [updF_ne _ _ e, updF_ne _ _ e]; exact (h1.rows i hi).chc hc (by decide)
  · by_cases e : i = j
    · subst e; rw [updF_same]; exact hok
    · rw [updF_ne _ _ e]; exact h.ok i hi
  · rw [Below.heap_setCell _ _ _ _ (show k ≠ g by simpa using hne)]
    exact hb.block k hk
set_option maxRecDepth 100000 in
set_option maxHeartbeats 4000000 in
theorem cLearn {w : World} {g m : Nat} {vs : Nat → Value} {l : Nat → List Ent} (h : StoreAt w g m vs l) (j : Nat) (hj : j < m) (hm : m ≤ 4) (v : Value) (b : List Ent) (hv : Has w 5 v b.length (ents b)) (hb : EightL b) :
    Calls Try.prog 64 #[.slice (some ⟨g, 0, none⟩) m m, .int .i64 j, v] w fun e w' => e = .returned (.tuple #[]) ∧ ∃ v', StoreAt w' g m (updF vs j v') (updF l j (mergeL (l j) b)) ∧ w.grownBy w' (some g) := by
  have H := Lib.hid h
  obtain ⟨c0, f0⟩ := h.cell j hj
  have ha := h.ok j hj
  have hmg := ha.merge hb
  have CM := Lib.hid (cmerge (vs j) v (l j) b w (h.rows j hj).has hv ha.may hb.may ha.len hb.len hmg.len)
  have Hmg := Lib.hid hmg
  have hjz : (j : Int) < (m : Int) := by omega
  obtain ⟨_, aj, cj, hvj, _⟩ := (h.rows j hj).has
  rw [hvj] at c0 CM
  obtain ⟨_, av, cv, rfl, _⟩ := hv
  clear h ha hmg hb hvj
  go_enter Try.func64, Try.ntmps64
  go_wp2_with fail
  refine CM.out.mono ?_
  rintro e w1 ⟨v1, rfl, hown, hb1⟩
  obtain ⟨a1, c1, rfl⟩ := owns_slice hown
  have hT := HasT.of_owns hown
  have hfin := H.out.put (j := j) hb1 hT Hmg.out
  have Hfin := Lib.hid hfin
  obtain ⟨k0, kf⟩ := (H.out.on hb1).cell j hj
  obtain ⟨_, aj', cj', hvj, _⟩ := (H.out.rows j hj).has
  clear hown hT hfin CM c0 f0 hb1
  go_wp2_with fail
  go_end0
  exact ⟨rfl, _, Hfin.out⟩
end Go.Proofs.Ytngedkfljpkoiaa
