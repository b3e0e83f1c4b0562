/- Lines: the words' table in memory, the box of a step. -/
import Derived.Test.YtjnjecednkiakaaDoorDeskF
import Derived.Test.YtjnjecednkiakaaDoorDeskP
import Derived.Lib.OthersKept
namespace Go.Proofs.YtjnjecednkiakaaDoor
open Go.ChangeShapes Go.WideShapes Go.ChangeAt Go.RowKit
set_option linter.unusedVariables false
set_option linter.unusedSimpArgs false

def wordOf (i : Nat) : List UInt8 := (wordsP.getD i ([], [])).1
def offsOf (i : Nat) : List Nat := (wordsP.getD i ([], [])).2
/-- The letter of a field. -/
def ltr (o : Nat) : UInt8 := [0, 119, 105, 99, 108, 100, 98, 107].getD o 0
def ltrsOf (i : Nat) : List UInt8 := (offsOf i).map ltr
/-- The table of words, as it lies in memory. -/
def WordsVar (W : World) : Prop := ∀ i, i < 11 → W.cell? ⟨0, i * 2, none⟩ = some (.string ⟨(wordOf i).toArray⟩) ∧ W.cell? ⟨0, i * 2 + 1, none⟩ = some (.string ⟨(ltrsOf i).toArray⟩)
theorem WordsVar.below {w w' : World} (h : WordsVar w) (hb : Below w.heap.size w w') : WordsVar w' := fun i hi => ⟨cell_on hb (h i hi).1, cell_on hb (h i hi).2⟩
theorem offs_ok : ∀ i, i < 11 → (∀ o ∈ offsOf i, 1 ≤ o ∧ o ≤ 7) ∧ (offsOf i).Nodup ∧ (offsOf i).length ≤ 4 := by decide
theorem ltr_lt : ∀ o, o < 8 → (ltr o).toNat < 128 := by decide
theorem ltr_key {o : Nat} (h1 : 1 ≤ o) (h7 : o ≤ 7) : FF true true true true true true true (((ltr o).toNat : Nat) : Int) = (o : Int) + 1 := by
  have : o = 1 ∨ o = 2 ∨ o = 3 ∨ o = 4 ∨ o = 5 ∨ o = 6 ∨ o = 7 := by omega
  rcases this with rfl | rfl | rfl | rfl | rfl | rfl | rfl <;> rfl
theorem word_ok : ∀ i, i < 11 → (∀ c ∈ wordOf i, c ≠ 32) ∧ 3 ≤ (wordOf i).length ∧ (wordOf i).length ≤ 7 := by decide
theorem words_inj : ∀ i, i < 11 → ∀ j, j < 11 → wordOf i = wordOf j → i = j := by decide
/-- A step, boxed. -/
def stepV (f : Nat → Int) : Value := .agg #[.int .i64 (f 0), .int .i64 (f 1), .int .i64 (f 2), .int .i64 (f 3), .int .i64 (f 4), .int .i64 (f 5), .int .i64 (f 6), .int .i64 (f 7)]
def box8 (f : Nat → Int) : Array Value := #[.int .i64 (f 0), .int .i64 (f 1), .int .i64 (f 2), .int .i64 (f 3), .int .i64 (f 4), .int .i64 (f 5), .int .i64 (f 6), .int .i64 (f 7)]
def Box (w : World) (b : Nat) (f : Nat → Int) : Prop := w.heap[b]? = some (.cells (box8 f) 32 (0, 0))
theorem Box.cell {w : World} {b : Nat} {f : Nat → Int} (h : Box w b f) (o : Nat) (ho : o < 8) : w.cell? ⟨b, o, none⟩ = some (.int .i64 (f o)) ∧ w.frozen? ⟨b, o, none⟩ = false := by
  refine ⟨?_, frozen_of_row w b o _ _ h⟩
  rw [cell_of_row w b o _ _ _ h]
  have : o = 0 ∨ o = 1 ∨ o = 2 ∨ o = 3 ∨ o = 4 ∨ o = 5 ∨ o = 6 ∨ o = 7 := by omega
  rcases this with rfl | rfl | rfl | rfl | rfl | rfl | rfl | rfl <;> rfl
theorem box8_set (f : Nat → Int) (o : Nat) (ho : o < 8) (n : Int) : (box8 f).setIfInBounds o (.int .i64 n) = box8 (setP f o n) := by
  have : o = 0 ∨ o = 1 ∨ o = 2 ∨ o = 3 ∨ o = 4 ∨ o = 5 ∨ o = 6 ∨ o = 7 := by omega
  rcases this with rfl | rfl | rfl | rfl | rfl | rfl | rfl | rfl <;> rfl
theorem Box.put {w : World} {b : Nat} {f : Nat → Int} (h : Box w b f) (o : Nat) (ho : o < 8) (n : Int) : Box (w.setCell ⟨b, o, none⟩ (.int .i64 n)) b (setP f o n) := by
  have hb : b < w.heap.size := (Array.getElem?_eq_some_iff.1 h).1
  unfold Box at *
  rw [← box8_set f o ho n]
  exact heap_setCell_same w b o _ _ _ h
theorem Box.kept {w w' : World} {b : Nat} {f : Nat → Int} (h : Box w b f) (hb : w'.heap[b]? = w.heap[b]?) : Box w' b f := hb.trans h
theorem Box.lt {w : World} {b : Nat} {f : Nat → Int} (h : Box w b f) : b < w.heap.size := (Array.getElem?_eq_some_iff.1 h).1
theorem box8_congr {f g : Nat → Int} (h : ∀ o, o < 8 → f o = g o) : box8 f = box8 g := by
  simp only [box8, h 0 (by omega), h 1 (by omega), h 2 (by omega), h 3 (by omega), h 4 (by omega), h 5 (by omega), h 6 (by omega), h 7 (by omega)]
theorem stepV_congr {f g : Nat → Int} (h : ∀ o, o < 8 → f o = g o) : stepV f = stepV g := by
  simp only [stepV, h 0 (by omega), h 1 (by omega), h 2 (by omega), h 3 (by omega), h 4 (by omega), h 5 (by omega), h 6 (by omega), h 7 (by omega)]
theorem Box.congr {w : World} {b : Nat} {f g : Nat → Int} (h : Box w b f) (e : ∀ o, o < 8 → f o = g o) : Box w b g := by unfold Box at *; rw [← box8_congr e]; exact h
theorem elStr : Elem Tryd.prog 9 1 16 (.string ⟨#[]⟩) := .of (by kernel_rfl) rfl (by decide)
/-- Strings as cells. -/
def strs (l : List (List UInt8)) : List Value := l.map fun x => .string ⟨x.toArray⟩
theorem strs_len (l : List (List UInt8)) : (strs l).length = l.length := by simp [strs]
theorem strs_snoc (l : List (List UInt8)) (x : List UInt8) : strs (l ++ [x]) = strs l ++ [.string ⟨x.toArray⟩] := by simp [strs]
theorem strs_one (l : List (List UInt8)) : (strs l).all Value.oneCell' = true := by
  rw [List.all_eq_true]; intro v hv; obtain ⟨z, _, rfl⟩ := List.mem_map.1 hv; rfl
theorem iterPos_of {w : World} {k : Nat} {s : ByteArray} {p : Nat} (h : w.heap[k]? = some (.stringIter s p)) : w.iterPos k = p := by simp [World.iterPos, h]
theorem ownsRow_iterAt {w : World} {base : Nat} {e : TypeId} {size : Nat} {v : Value} {n : Nat} {xs : List Value} (h : w.ownsRow base e size v n xs) {k : Nat} (hk : v.ownBlock ≠ some k) (s : ByteArray) (p : Nat) : (w.iterAt k s p).ownsRow base e size v n xs := by
  obtain ⟨h1, h2⟩ := h
  refine ⟨h1, ?_⟩
  rcases h2 with h2 | ⟨g, cap, cur, rfl, b, c, d⟩
  · exact .inl h2
  · exact .inr ⟨g, cap, cur, rfl, b, by rw [Lib.iterAt_other _ _ _ _ _ (fun e => hk (by subst e; rfl))]; exact c, d⟩
end Go.Proofs.YtjnjecednkiakaaDoor
