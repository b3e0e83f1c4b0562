/- Books in memory. -/
import Derived.Test.YtgmichaconnhaaaBook
namespace Go.Proofs.Ytgmichaconnhaaa
open Go.ChangeShapes Go.WideShapes Go.ChangeAt Go.RowKit
set_option linter.unusedVariables false
set_option linter.unusedSimpArgs false

/-- A book of n branches: its block S, and the blocks of its three rows. -/
structure BookAt (w : World) (S gw gg gq cq n : Nat) (b : Bk) : Prop where
  c0 : w.cell? ⟨S, 0, none⟩ = some (.int .i64 b.most)
  c1 : w.cell? ⟨S, 1, none⟩ = some (.int .i64 b.ticks)
  c2 : w.cell? ⟨S, 2, none⟩ = some (.int .i64 b.round)
  c3 : w.cell? ⟨S, 3, none⟩ = some (.int .i64 b.res)
  c4 : w.cell? ⟨S, 4, none⟩ = some (.int .i64 b.all)
  c5 : w.cell? ⟨S, 5, none⟩ = some (.slice (some ⟨gw, 0, none⟩) n n)
  c6 : w.cell? ⟨S, 6, none⟩ = some (.slice (some ⟨gg, 0, none⟩) n n)
  c7 : w.cell? ⟨S, 7, none⟩ = some (.slice (some ⟨gq, 0, none⟩) n cq)
  fz : ∀ j, w.frozen? ⟨S, j, none⟩ = false
  rw : w.ownsRow 0 3 1 (.slice (some ⟨gw, 0, none⟩) n n) n (ints b.wants)
  rg : w.ownsRow 0 3 1 (.slice (some ⟨gg, 0, none⟩) n n) n (ints b.granted)
  rq : w.ownsRow 0 3 1 (.slice (some ⟨gq, 0, none⟩) n cq) n (ints b.quota)
  d1 : gw ≠ S
  d2 : gg ≠ S
  d3 : gq ≠ S
  d4 : gw ≠ gg
  d5 : gw ≠ gq
  d6 : gg ≠ gq
theorem owns_at {w w' : World} {base e sz n g cap : Nat} {xs : List Value} (hown : w.ownsRow base e sz (.slice (some ⟨g, 0, none⟩) n cap) n xs) (hb : w'.heap[g]? = w.heap[g]?) : w'.ownsRow base e sz (.slice (some ⟨g, 0, none⟩) n cap) n xs := by
  obtain ⟨hl, h⟩ := hown
  refine ⟨hl, ?_⟩
  rcases h with h | ⟨g', cap', cur, he, hg', hh, hn, hm, hs, ht⟩
  · exact .inl h
  · simp only [Value.slice.injEq, Option.some.injEq, Addr.mk.injEq, and_true, true_and] at he
    obtain ⟨rfl, rfl⟩ := he
    exact .inr ⟨g, cap, cur, rfl, hg', by rw [hb]; exact hh, hn, hm, hs, ht⟩
theorem owns_lt {w : World} {base e sz n g cap : Nat} {xs : List Value} (hown : w.ownsRow base e sz (.slice (some ⟨g, 0, none⟩) n cap) n xs) : g < w.heap.size := by
  obtain ⟨hl, h⟩ := hown
  rcases h with ⟨h, _⟩ | ⟨g', cap', cur, he, hg', hh, _⟩
  · cases h
  · simp only [Value.slice.injEq, Option.some.injEq, Addr.mk.injEq, and_true, true_and] at he
    obtain ⟨rfl, rfl⟩ := he
    exact (Array.getElem?_eq_some_iff.1 hh).1
theorem owns_ne {w : World} {base e sz n g cap : Nat} {xs : List Value} (hown : w.ownsRow base e sz (.slice (some ⟨g, 0, none⟩) n cap) n xs) {p : Addr} (hp : g ≠ p.block) (u : Value) : (w.setCell p u).ownsRow base e sz (.slice (some ⟨g, 0, none⟩) n cap) n xs :=
  owns_at hown (Below.heap_setCell _ _ _ _ hp)
section
variable {w w' : World} {S gw gg gq cq n : Nat} {b : Bk}
theorem BookAt.lt (h : BookAt w S gw gg gq cq n b) : S < w.heap.size ∧ gw < w.heap.size ∧ gg < w.heap.size ∧ gq < w.heap.size :=
  ⟨World.block_lt_of_cell? w _ h.c0, owns_lt h.rw, owns_lt h.rg, owns_lt h.rq⟩
/-- Kept where none of its blocks has changed. -/
theorem BookAt.kept (h : BookAt w S gw gg gq cq n b) (hs : w'.heap[S]? = w.heap[S]?) (h1 : w'.heap[gw]? = w.heap[gw]?) (h2 : w'.heap[gg]? = w.heap[gg]?) (h3 : w'.heap[gq]? = w.heap[gq]?) : BookAt w' S gw gg gq cq n b := by
  have e : ∀ j, w'.cell? ⟨S, j, none⟩ = w.cell? ⟨S, j, none⟩ := fun j => World.cell?_of_block (w := w) (a := ⟨S, j, none⟩) hs
  exact ⟨by rw [e]; exact h.c0, by rw [e]; exact h.c1, by rw [e]; exact h.c2, by rw [e]; exact h.c3, by rw [e]; exact h.c4, by rw [e]; exact h.c5, by rw [e]; exact h.c6, by rw [e]; exact h.c7,
    fun j => by rw [World.frozen?_of_block (w := w) (a := ⟨S, j, none⟩) hs]; exact h.fz j, owns_at h.rw h1, owns_at h.rg h2, owns_at h.rq h3, h.d1, h.d2, h.d3, h.d4, h.d5, h.d6⟩
theorem BookAt.on (h : BookAt w S gw gg gq cq n b) (hb : Below w.heap.size w w') : BookAt w' S gw gg gq cq n b := by
  obtain ⟨l1, l2, l3, l4⟩ := h.lt
  exact h.kept (hb.block _ l1) (hb.block _ l2) (hb.block _ l3) (hb.block _ l4)
theorem BookAt.wrote {F : Nat → Prop} (h : BookAt w S gw gg gq cq n b) (hw : Wrote F w w') (f1 : ¬ F S) (f2 : ¬ F gw) (f3 : ¬ F gg) (f4 : ¬ F gq) : BookAt w' S gw gg gq cq n b := by
  obtain ⟨l1, l2, l3, l4⟩ := h.lt
  exact h.kept (hw.block _ l1 f1) (hw.block _ l2 f2) (hw.block _ l3 f3) (hw.block _ l4 f4)
theorem BookAt.setRound (h : BookAt w S gw gg gq cq n b) (x : Int) : BookAt (w.setCell ⟨S, 2, none⟩ (.int .i64 x)) S gw gg gq cq n { b with round := x } := by
  refine ⟨?_, ?_, World.cell?_setCell_same _ _ _ h.c2, ?_, ?_, ?_, ?_, ?_, fun j => by rw [World.frozen?_setCell]; exact h.fz j, owns_ne h.rw h.d1 _, owns_ne h.rg h.d2 _, owns_ne h.rq h.d3 _, h.d1, h.d2, h.d3, h.d4, h.d5, h.d6⟩ <;> rw [World.cell?_setCell_other _ _ _ _ (by simp)]
  · exact h.c0
  · exact h.c1
  · exact h.c3
  · exact h.c4
  · exact h.c5
  · exact h.c6
  · exact h.c7
theorem BookAt.setRes (h : BookAt w S gw gg gq cq n b) (x : Int) : BookAt (w.setCell ⟨S, 3, none⟩ (.int .i64 x)) S gw gg gq cq n { b with res := x } := by
  refine ⟨?_, ?_, ?_, World.cell?_setCell_same _ _ _ h.c3, ?_, ?_, ?_, ?_, fun j => by rw [World.frozen?_setCell]; exact h.fz j, owns_ne h.rw h.d1 _, owns_ne h.rg h.d2 _, owns_ne h.rq h.d3 _, h.d1, h.d2, h.d3, h.d4, h.d5, h.d6⟩ <;> rw [World.cell?_setCell_other _ _ _ _ (by simp)]
  · exact h.c0
  · exact h.c1
  · exact h.c2
  · exact h.c4
  · exact h.c5
  · exact h.c6
  · exact h.c7
theorem BookAt.setAll (h : BookAt w S gw gg gq cq n b) (x : Int) : BookAt (w.setCell ⟨S, 4, none⟩ (.int .i64 x)) S gw gg gq cq n { b with all := x } := by
  refine ⟨?_, ?_, ?_, ?_, World.cell?_setCell_same _ _ _ h.c4, ?_, ?_, ?_, fun j => by rw [World.frozen?_setCell]; exact h.fz j, owns_ne h.rw h.d1 _, owns_ne h.rg h.d2 _, owns_ne h.rq h.d3 _, h.d1, h.d2, h.d3, h.d4, h.d5, h.d6⟩ <;> rw [World.cell?_setCell_other _ _ _ _ (by simp)]
  · exact h.c0
  · exact h.c1
  · exact h.c2
  · exact h.c3
  · exact h.c5
  · exact h.c6
  · exact h.c7
theorem BookAt.cellO (h : BookAt w S gw gg gq cq n b) {g k : Nat} (u : Value) (hg : g ≠ S) (j : Nat) : (w.setCell ⟨g, k, none⟩ u).cell? ⟨S, j, none⟩ = w.cell? ⟨S, j, none⟩ :=
  World.cell?_setCell_other _ _ _ _ (by simp [hg, Ne.symm hg])
theorem BookAt.setWant (h : BookAt w S gw gg gq cq n b) (k : Nat) (x : Int) : BookAt (w.setCell ⟨gw, k, none⟩ (.int .i64 x)) S gw gg gq cq n { b with wants := b.wants.set k x } := by
  have e := h.cellO (k := k) (.int .i64 x) h.d1
  refine ⟨?_, ?_, ?_, ?_, ?_, ?_, ?_, ?_, fun j => by rw [World.frozen?_setCell]; exact h.fz j, by rw [← ints_set]; exact owns_set h.rw k _, owns_ne h.rg (Ne.symm h.d4) _, owns_ne h.rq (Ne.symm h.d5) _, h.d1, h.d2, h.d3, h.d4, h.d5, h.d6⟩ <;> rw [e]
  · exact h.c0
  · exact h.c1
  · exact h.c2
  · exact h.c3
  · exact h.c4
  · exact h.c5
  · exact h.c6
  · exact h.c7
theorem BookAt.setGranted (h : BookAt w S gw gg gq cq n b) (k : Nat) (x : Int) : BookAt (w.setCell ⟨gg, k, none⟩ (.int .i64 x)) S gw gg gq cq n { b with granted := b.granted.set k x } := by
  have e := h.cellO (k := k) (.int .i64 x) h.d2
  refine ⟨?_, ?_, ?_, ?_, ?_, ?_, ?_, ?_, fun j => by rw [World.frozen?_setCell]; exact h.fz j, owns_ne h.rw h.d4 _, by rw [← ints_set]; exact owns_set h.rg k _, owns_ne h.rq (Ne.symm h.d6) _, h.d1, h.d2, h.d3, h.d4, h.d5, h.d6⟩ <;> rw [e]
  · exact h.c0
  · exact h.c1
  · exact h.c2
  · exact h.c3
  · exact h.c4
  · exact h.c5
  · exact h.c6
  · exact h.c7
theorem BookAt.setQuota (h : BookAt w S gw gg gq cq n b) (k : Nat) (x : Int) : BookAt (w.setCell ⟨gq, k, none⟩ (.int .i64 x)) S gw gg gq cq n { b with quota := b.quota.set k x } := by
  have e := h.cellO (k := k) (.int .i64 x) h.d3
  refine ⟨?_, ?_, ?_, ?_, ?_, ?_, ?_, ?_, fun j => by rw [World.frozen?_setCell]; exact h.fz j, owns_ne h.rw h.d5 _, owns_ne h.rg h.d6 _, by rw [← ints_set]; exact owns_set h.rq k _, h.d1, h.d2, h.d3, h.d4, h.d5, h.d6⟩ <;> rw [e]
  · exact h.c0
  · exact h.c1
  · exact h.c2
  · exact h.c3
  · exact h.c4
  · exact h.c5
  · exact h.c6
  · exact h.c7
/-- A new row of quotas. -/
theorem BookAt.newQuota (h : BookAt w S gw gg gq cq n b) (hb : Below w.heap.size w w') {g c : Nat} {q : List Int} (hq : w'.ownsRow w.heap.size 3 1 (.slice (some ⟨g, 0, none⟩) n c) n (ints q)) : BookAt (w'.setCell ⟨S, 7, none⟩ (.slice (some ⟨g, 0, none⟩) n c)) S gw gg g c n { b with quota := q } := by
  have h' := h.on hb
  obtain ⟨l1, l2, l3, l4⟩ := h.lt
  have hg : w.heap.size ≤ g := by
    obtain ⟨_, hq⟩ := hq
    rcases hq with ⟨hq, _⟩ | ⟨g', cap', cur, he, hg', hh, _⟩
    · cases hq
    · simp only [Value.slice.injEq, Option.some.injEq, Addr.mk.injEq, and_true, true_and] at he
      obtain ⟨rfl, rfl⟩ := he
      exact hg'
  have hq0 : w'.ownsRow 0 3 1 (.slice (some ⟨g, 0, none⟩) n c) n (ints q) := owns_mono hq (Nat.zero_le _)
  refine ⟨?_, ?_, ?_, ?_, ?_, ?_, ?_, World.cell?_setCell_same _ _ _ h'.c7, fun j => by rw [World.frozen?_setCell]; exact h'.fz j, owns_ne h'.rw h.d1 _, owns_ne h'.rg h.d2 _, owns_ne hq0 (show g ≠ S by omega) _, h.d1, h.d2, by omega, h.d4, by omega, by omega⟩ <;> rw [World.cell?_setCell_other _ _ _ _ (by simp)]
  · exact h'.c0
  · exact h'.c1
  · exact h'.c2
  · exact h'.c3
  · exact h'.c4
  · exact h'.c5
  · exact h'.c6
end
end Go.Proofs.Ytgmichaconnhaaa
