/- Gossip: the laws' one write: it is there. -/
import Derived.Test.YtngedkfljpkoiaaGosK
import Derived.Test.YtngedkfljpkoiaaGosE
namespace Go.Proofs.Ytngedkfljpkoiaa
open Go.ChangeShapes Go.WideShapes Go.ChangeAt Go.RowKit
set_option linter.unusedVariables false
set_option linter.unusedSimpArgs false

def oneTurn : Trn := ⟨1, 0, 0, 0, 0, 5⟩
theorem one_st : stAfter [1] noSt [oneTurn] 0 0 = [⟨0, 5, 1, 0, false⟩] := by rfl
/-- The world in which the one write is told to gossiped. -/
def oneW (X : World) : World := (X.alloc (.cells #[.int .i64 1] 3)).alloc (.cells #[.int .i64 1, .int .i64 0, .int .i64 0, .int .i64 0, .int .i64 0, .int .i64 5] 38)
theorem cOne (X : World) :
    Calls Try.prog 12 #[.slice (some ⟨X.heap.size, 0, none⟩) 1 1, .slice (some ⟨X.heap.size + 1, 0, none⟩) 1 1] (oneW X) fun e w' => ∃ vc gs cs g b o c, e = .returned (.tuple #[vc, .slice (some ⟨gs, 0, none⟩) 4 cs, .bool true]) ∧ Below X.heap.size X w' ∧ (∃ ac cc, vc = .slice ac 1 cc) ∧ (4 ≤ cs ∧ cs ≤ maxLen) ∧ (1 ≤ c ∧ c ≤ maxLen) ∧
      w'.cell? ⟨gs, 0, none⟩ = some (.slice (some ⟨g, 0, none⟩) 1 1) ∧ w'.cell? ⟨g, 0, none⟩ = some (.slice (some ⟨b, o, none⟩) 1 c) ∧ w'.cell? ⟨b, o + 1, none⟩ = some (.int .i64 5) := by
  have hb1 : Below X.heap.size X (X.alloc (.cells #[.int .i64 1] 3)) := (Below.refl _ _).alloc (Nat.le_refl _) _
  have hb2 : Below (X.alloc (.cells #[.int .i64 1] 3)).heap.size (X.alloc (.cells #[.int .i64 1] 3)) (oneW X) := (Below.refl _ _).alloc (Nat.le_refl _) _
  have hbX : Below X.heap.size X (oneW X) := hb1.trans (hb2.mono hb1.size)
  have es : (X.alloc (.cells #[.int .i64 1] 3)).heap.size = X.heap.size + 1 := by simp
  have hl : Has (oneW X) 1 (.slice (some ⟨X.heap.size, 0, none⟩) 1 1) 1 (ints (labInts [1])) :=
    (has_block (wp := X) (cs := ints (labInts [1])) (heap_alloc_new X _) rfl rfl (by decide)).below hb2
  have ht : Has (oneW X) 6 (.slice (some ⟨X.heap.size + 1, 0, none⟩) 1 1) 1 (trns [oneTurn]) := by
    rw [← es]
    exact has_block (wp := X.alloc (.cells #[.int .i64 1] 3)) (cs := trns [oneTurn]) (heap_alloc_new _ _) rfl rfl (by decide)
  refine (cgossiped (labs := [1]) (ts := [oneTurn]) hl ht (by simp) (by simp) (by simp) (by intro t h; simp at h; subst h; exact ⟨by decide, by decide, by decide, by decide, by decide, by decide⟩)).mono ?_
  rintro e w' ⟨vc, vs, rfl, hP⟩
  obtain ⟨gs, cs, g, rfl, hS⟩ := hP.stores
  obtain ⟨a, c, d1, E1⟩ := hS.ent 0 0 (by omega) (by simp)
  have r1 := hS.row 0 (by omega)
  rw [one_st] at d1 E1
  obtain ⟨b, o, c', he, ⟨hc1, hc2⟩, -, x1, -⟩ := ent_get E1 0 (by simp)
  simp only [Value.slice.injEq] at he
  obtain ⟨rfl, -, rfl⟩ := he
  obtain ⟨ac, cc, hac⟩ := owns_slice hP.codes
  refine ⟨vc, gs, cs, g 0, b, o, c, rfl, hbX.trans (hP.hb.mono hbX.size), ⟨ac, cc, hac⟩, hS.c1, ⟨hc1, hc2⟩, r1, d1, ?_⟩
  simpa using x1
theorem or_bit (a b : Nat) (ha : a < 16) (hb : b < 4) : bits BinOp.or IntKind.i64 (a : Int) (wrap64 (2 ^ b)) = ((a ||| 2 ^ b : Nat) : Int) := by
  have h : ∀ x : Fin 16, ∀ y : Fin 4, bits BinOp.or IntKind.i64 ((x.1 : Nat) : Int) (wrap64 (2 ^ y.1)) = ((x.1 ||| 2 ^ y.1 : Nat) : Int) := by decide +kernel
  exact h ⟨a, ha⟩ ⟨b, hb⟩
/-- Labels to the first of which a branch is added. -/
def addTo (labs : List Nat) (b : Nat) : List Nat := labs.set 0 (labs.getD 0 0 ||| 2 ^ b)
theorem addTo_len (labs : List Nat) (b : Nat) : (addTo labs b).length = labs.length := by simp [addTo]
theorem addTo_lt {labs : List Nat} {b : Nat} (hb : b < 4) (h : ∀ x ∈ labs, x < 16) (h0 : 0 < labs.length) : ∀ x ∈ addTo labs b, x < 16 := fun x hx => by
  rcases List.mem_or_eq_of_mem_set hx with hh | hh
  · exact h x hh
  · subst hh
    rw [List.getD_eq_getElem?_getD, List.getElem?_eq_getElem h0]
    have h1 := h _ (List.getElem_mem h0)
    have h2 : 2 ^ b < 2 ^ 4 := Nat.pow_lt_pow_right (by omega) hb
    exact Nat.or_lt_two_pow (n := 4) h1 h2
theorem addTo_in {labs : List Nat} {b : Nat} (h0 : 0 < labs.length) : lb (addTo labs b) 0 b = true := by
  have h : 0 < (addTo labs b).length := by rw [addTo_len]; exact h0
  have e : (addTo labs b)[0] = labs.getD 0 0 ||| 2 ^ b := by simp [addTo]
  rw [lb_at h, e]
  unfold inL
  rw [Nat.testBit_or, Nat.testBit_two_pow_self, Bool.or_true]
theorem own_add {w : World} {base gl cl b : Nat} {labs : List Nat} (h : w.ownsRow base 3 1 (.slice (some ⟨gl, 0, none⟩) 3 cl) 3 (ints (labInts labs))) (hlen : labs.length = 3) (hl : ∀ x ∈ labs, x < 16) (hb : b < 4) (h0 : 0 < labs.length) :
    (w.setCell ⟨gl, 0, none⟩ (.int .i64 (bits BinOp.or IntKind.i64 (labs[0] : Nat) (wrap64 (2 ^ b))))).drew.ownsRow base 3 1 (.slice (some ⟨gl, 0, none⟩) 3 cl) 3 (ints (labInts (addTo labs b))) ∧ Below base w (w.setCell ⟨gl, 0, none⟩ (.int .i64 (bits BinOp.or IntKind.i64 (labs[0] : Nat) (wrap64 (2 ^ b))))).drew := by
  have e : labs.getD 0 0 = labs[0] := by rw [List.getD_eq_getElem?_getD, List.getElem?_eq_getElem h0]; rfl
  rw [or_bit _ _ (hl _ (List.getElem_mem h0)) hb]
  obtain ⟨g, c, he, hge, _, hf, _⟩ := owns_some h (by omega)
  simp only [Value.slice.injEq, Option.some.injEq, Addr.mk.injEq, and_true, true_and] at he
  obtain ⟨rfl, rfl⟩ := he
  refine ⟨owns_below ?_ (Below.drew (Below.refl _ _)), ((Below.refl _ _).setCell hge _).drew⟩
  unfold addTo
  rw [e, ← labInts_set, ← ints_set]
  have := owns_set h 0 (.int .i64 ((labs[0] ||| 2 ^ b : Nat) : Int))
  simpa using this
end Go.Proofs.Ytngedkfljpkoiaa
