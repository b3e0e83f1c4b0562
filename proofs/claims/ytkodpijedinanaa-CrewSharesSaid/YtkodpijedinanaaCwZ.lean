/- Digging in a function's text; what a piece leaves of memory. -/
import Derived.Test.YtkodpijedinanaaKaf
import Derived.Test.YtkodpijedinanaaShareK
namespace Go.Proofs.Ytkodpijedinanaa.Sim
open Go Go.Conc Go.ChangeShapes Go.WideShapes Go.ChangeAt Go.RowKit
set_option linter.unusedVariables false
set_option linter.unusedSimpArgs false

def hd : Code → Code
  | .seq a _ | .block _ a | .loop a | .cond _ a _ => a
  | c => c
def tl : Code → Code
  | .seq _ b | .cond _ _ b => b
  | c => c
/-- The older blocks are as they were. -/
structure KeptA (h h' : Array Obj) : Prop where
  size : h.size ≤ h'.size
  block : ∀ k, k < h.size → h'[k]? = h[k]?
def Kept (w w' : World) : Prop := KeptA w.heap w'.heap
theorem Kept.size {w w' : World} (h : Kept w w') : w.heap.size ≤ w'.heap.size := KeptA.size h
theorem Kept.block {w w' : World} (h : Kept w w') : ∀ k, k < w.heap.size → w'.heap[k]? = w.heap[k]? := KeptA.block h
theorem Kept.refl (w : World) : Kept w w := ⟨Nat.le_refl _, fun _ _ => rfl⟩
theorem Kept.trans {a b c : World} (h : Kept a b) (k : Kept b c) : Kept a c := ⟨Nat.le_trans h.size k.size, fun i hi => (k.block i (Nat.lt_of_lt_of_le hi h.size)).trans (h.block i hi)⟩
theorem Kept.of_heap {w w' : World} (h : w'.heap = w.heap) : Kept w w' := ⟨by rw [h]; exact Nat.le_refl _, fun k _ => by rw [h]⟩
theorem Kept.of_below {w w' : World} (h : Below w.heap.size w w') : Kept w w' := ⟨h.size, h.block⟩
theorem Kept.cell {w w' : World} (h : Kept w w') {a : Addr} {v : Value} (hc : w.cell? a = some v) : w'.cell? a = some v := by
  have hlt : a.block < w.heap.size := by
    unfold World.cell? at hc
    cases hb : w.heap[a.block]? with
    | none => rw [hb] at hc; cases hc
    | some o => exact (Array.getElem?_eq_some_iff.1 hb).1
  unfold World.cell? at hc ⊢
  rw [h.block _ hlt]; exact hc
theorem info1 {P : Program} {e : TypeId} {z : Value} {b : Nat} (h : (P.info? e).map (fun i => (i.zero, i.size, i.bytes)) = some (some z, 1, b)) : ∃ i : TypeInfo, P.info? e = some i ∧ i.zero = some z ∧ i.size = 1 ∧ i.bytes = b := by
  obtain ⟨i, hi, hb⟩ := Option.map_eq_some_iff.1 h
  simp only [Prod.mk.injEq] at hb
  exact ⟨i, hi, hb.1, hb.2.1, hb.2.2⟩
theorem mkRow {P : Program} {t e : TypeId} {z : Value} {b : Nat} (ht : P.underlying t = some (.slice e)) (h : (P.info? e).map (fun i => (i.zero, i.size, i.bytes)) = some (some z, 1, b)) (hz : z.cells = #[z]) (n : Nat) (hn : n ≤ 200) (hb : b ≤ 1000) (X : World) :
    (Instr.makeSlice t (.int .i64 n) (.int .i64 n)).run P X = .ok (.slice (some ⟨X.heap.size, 0, none⟩) n n) (X.alloc (.cells (Array.replicate n z) e)) := by
  obtain ⟨i, hi, h1, h2, h3⟩ := info1 h
  rw [run_make X t e i z ht hi h1 .i64 .i64 n n (by omega) (by omega) (by rw [h3]; have : ((b * n : Nat) : Int) ≤ 281474976710656 := by have := Nat.mul_le_mul hb hn; omega
                                                                          simpa using this) (by omega)]
  simp only [Int.toNat_natCast, h2]
  congr 3
  rw [hz]
  apply Array.ext
  · simp [madeCells]
  · intro j h1 h2
    have : j % 1 = 0 := Nat.mod_one j
    simp [madeCells, this]
theorem set_row {w : World} {g i : Nat} {r : Array Value} {e : TypeId} {z : Nat × Nat} (v : Value) (h : w.heap[g]? = some (.cells r e z)) : (w.setCell ⟨g, i, none⟩ v).heap[g]? = some (.cells (r.setIfInBounds i v) e z) := by
  rw [setCell_at w ⟨g, i, none⟩ v h]; simp
theorem set_two {w : World} {g h i : Nat} {r s : Array Value} {e f : TypeId} {z y : Nat × Nat} (v u : Value) (hr : w.heap[g]? = some (.cells r e z)) (hs : w.heap[h]? = some (.cells s f y)) (hne : g ≠ h) (W : World) (hW : W.heap = ((w.setCell ⟨g, i, none⟩ v).setCell ⟨h, i, none⟩ u).heap) :
    W.heap[g]? = some (.cells (r.setIfInBounds i v) e z) ∧ W.heap[h]? = some (.cells (s.setIfInBounds i u) f y) ∧ W.heap.size = w.heap.size ∧ ∀ b, b ≠ g → b ≠ h → W.heap[b]? = w.heap[b]? := by
  have h1 := set_row (i := i) v hr
  have hs' : (w.setCell ⟨g, i, none⟩ v).heap[h]? = some (.cells s f y) := by rw [setCell_other w _ v (k := h) (fun e => hne e.symm)]; exact hs
  have h2 := set_row (i := i) u hs'
  rw [hW]
  refine ⟨?_, h2, by rw [setCell_size, setCell_size], fun b hb hb' => ?_⟩
  · rw [setCell_other _ ⟨h, i, none⟩ u (k := g) hne]; exact h1
  · rw [setCell_other _ ⟨h, i, none⟩ u (k := b) hb', setCell_other _ ⟨g, i, none⟩ v (k := b) hb]
end Go.Proofs.Ytkodpijedinanaa.Sim
