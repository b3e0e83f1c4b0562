/- Lines: the map of a step's fields, in memory. -/
import Derived.Test.YtjnjecednkiakaaDoorMem
import Derived.Maps.OwnSet
import Derived.Maps.Keyed
namespace Go.Proofs.YtjnjecednkiakaaDoor
open Go.ChangeShapes Go.WideShapes Go.ChangeAt Go.RowKit
set_option linter.unusedVariables false
set_option linter.unusedSimpArgs false

/-- How a pointer into block b reads: its offset and one; nil: 0. -/
def ptrR (b : Nat) (v : Value) : Option (DataW Unit × List MemPlace) := match v with
  | .pointer (some ⟨b', j, none⟩) => if b' = b then some (.lit (.int .i64 ((j : Int) + 1)), []) else none
  | .pointer none => some (.lit (.int .i64 0), [])
  | _ => none
theorem ptrR_inv {b j : Nat} {v : Value} {ps : List MemPlace} (h : ptrR b v = some (.lit (.int .i64 ((j : Int) + 1)), ps)) : v = .pointer (some ⟨b, j, none⟩) := by
  unfold ptrR at h
  split at h
  · rename_i b' j'
    split at h
    · rename_i e
      simp only [Option.some.injEq, Prod.mk.injEq, DataW.lit.injEq, Lit.int.injEq, true_and] at h
      have : j' = j := by omega
      subst this; subst e; rfl
    · cases h
  · simp only [Option.some.injEq, Prod.mk.injEq, DataW.lit.injEq, Lit.int.injEq, true_and] at h
    omega
  · cases h
theorem runeKeyed : Maps.Keyed Tryd.prog 21 := Maps.int_keyed Tryd.underlying21
/-- Block m is a map of at most n runes; those of f stand at the fields of block b. -/
def FMap (w : World) (m n b : Nat) (f : Int → Int) : Prop :=
  ∃ D : DataW Unit, w.ownsMap Tryd.prog 21 (ptrR b) m n D ∧ Maps.IsMap D ∧ ∀ k, (Lit.int .i32 k).wf = true → D.atKey (.int .i32 k) (.lit (.int .i64 0)) = .lit (.int .i64 (f k))
theorem FMap.made (w : World) (b : Nat) : FMap (w.alloc (.map #[] 0)) w.heap.size 0 b fun _ => 0 :=
  ⟨.map [], World.ownsMap_made _ _ _ _, Maps.isMap_empty, fun _ _ => rfl⟩
theorem FMap.kept {w w' : World} {m n b : Nat} {f : Int → Int} (h : FMap w m n b f) (hb : w'.heap[m]? = w.heap[m]?) : FMap w' m n b f := by
  obtain ⟨D, ⟨es, c, h1, h2, h3, h4⟩, hm, hD⟩ := h
  exact ⟨D, ⟨es, c, by rw [hb]; exact h1, h2, h3, h4⟩, hm, hD⟩
theorem FMap.lt {w : World} {m n b : Nat} {f : Int → Int} (h : FMap w m n b f) : m < w.heap.size := by
  obtain ⟨D, ⟨es, c, h1, _⟩, _⟩ := h
  exact (Array.getElem?_eq_some_iff.1 h1).1
theorem rune_key {k : Int} (hk : (Lit.int .i32 k).wf = true) : keyOf Tryd.prog 21 (.int .i32 k) = some (.int .i32 k) := by
  simp [keyOf, mapKey, Tryd.underlying21, hk]
theorem FMap.look {w : World} {m n b : Nat} {f : Int → Int} (h : FMap w m n b f) {k : Int} (hk : (Lit.int .i32 k).wf = true) {j : Nat} (hj : f k = (j : Int) + 1) :
    (Instr.lookup 46 (.map (some m)) (.int .i32 k) false).run Tryd.prog w = .ok (.pointer (some ⟨b, j, none⟩)) w := by
  obtain ⟨D, h1, hm, hD⟩ := h
  obtain ⟨v, ps, hr, hv⟩ := h1.lookup runeKeyed Tryd.underlying46 (z := .pointer none) (by kernel_rfl) (zd := .lit (.int .i64 0)) (zp := []) rfl (rune_key hk)
  rw [hD k hk, hj] at hv
  rw [hr, ptrR_inv hv]
theorem FMap.store {w : World} {m n b : Nat} {f : Int → Int} (h : FMap w m n b f) (hn : n < maxLen) {k : Int} (hk : (Lit.int .i32 k).wf = true) (j : Nat) :
    ∃ w', (Instr.mapUpdate 46 (.map (some m)) (.int .i32 k) (.pointer (some ⟨b, j, none⟩))).run Tryd.prog w = .ok () w' ∧ FMap w' m (n + 1) b (fun x => if x = k then (j : Int) + 1 else f x) ∧ w.grownBy w' (some m) := by
  obtain ⟨D, h1, hm, hD⟩ := h
  obtain ⟨w', hr, ho, hg⟩ := h1.update runeKeyed Tryd.underlying46 hn (rune_key hk) (val := .pointer (some ⟨b, j, none⟩)) (d := .lit (.int .i64 ((j : Int) + 1))) (ps := []) (by simp [ptrR])
  refine ⟨w', hr, ⟨_, ho, hm.put _ _, fun x hx => ?_⟩, hg⟩
  by_cases e : x = k
  · subst e
    simp only [if_pos rfl]
    rw [Maps.atKey_put_same hm (runeKeyed.key (rune_key hk))]; simp
  · simp only [if_neg e]
    rw [Maps.atKey_put_other (fun hh => e (by simpa using hh)), hD x hx]
end Go.Proofs.YtjnjecednkiakaaDoor
