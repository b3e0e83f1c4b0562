/- Gossip: what the laws read of a play. -/
import Derived.Test.YtngedkfljpkoiaaGosS
import Derived.Test.YtngedkfljpkoiaaGosL
namespace Go.Proofs.Ytngedkfljpkoiaa
open Go.ChangeShapes Go.WideShapes Go.ChangeAt Go.RowKit
set_option linter.unusedVariables false
set_option linter.unusedSimpArgs false

structure StoresAt (w : World) (gs cs : Nat) (g : Nat → Nat) (m : Nat) (st : St) : Prop where
  c1 : 4 ≤ cs ∧ cs ≤ maxLen
  row : ∀ i, i < 4 → w.cell? ⟨gs, i, none⟩ = some (.slice (some ⟨g i, 0, none⟩) m m)
  ent : ∀ i j, i < 4 → j < m → ∃ a c, w.cell? ⟨g i, j, none⟩ = some (.slice a (st i j).length c) ∧ Has w 5 (.slice a (st i j).length c) (st i j).length (ents (st i j))
  eight : ∀ i j, i < 4 → j < m → EightL (st i j)
theorem StoresAt.on {w w' : World} {gs cs m : Nat} {g : Nat → Nat} {st : St} (h : StoresAt w gs cs g m st) (hb : Below w.heap.size w w') : StoresAt w' gs cs g m st :=
  ⟨h.c1, fun i hi => cell_on hb (h.row i hi), fun i j hi hj => by
    obtain ⟨a, c, h1, h2⟩ := h.ent i j hi hj
    exact ⟨a, c, cell_on hb h1, h2.below hb⟩, h.eight⟩
theorem Played.stores {w w' : World} {labs : List Nat} {ts : List Trn} {vc vs : Value} (h : Played w w' labs ts vc vs) : ∃ gs cs g, vs = .slice (some ⟨gs, 0, none⟩) 4 cs ∧ StoresAt w' gs cs g labs.length (stAfter labs noSt ts) := by
  obtain ⟨g, vv, ho, hst⟩ := h.all
  obtain ⟨gs, cs, rfl, -, -, -, hcc⟩ := owns_some ho (by omega)
  refine ⟨gs, cs, g, rfl, ?_, fun i hi => hcc i _ (by simp [hi]), fun i j hi hj => ?_, fun i j hi hj => (hst i hi).ok j hj⟩
  · obtain ⟨_, _, _, he, h1, h2, _⟩ := Has.of_owns ho
    simp only [Value.slice.injEq] at he
    obtain ⟨-, -, rfl⟩ := he
    exact ⟨h1, h2⟩
  · have hh := ((hst i hi).rows j hj).has
    have hc := ((hst i hi).cell j hj).1
    obtain ⟨_, a, c, he, _⟩ := hh
    rw [he] at hc
    exact ⟨a, c, hc, he ▸ ((hst i hi).rows j hj).has⟩
/-- The bit of a branch in a label, as the laws ask for it. -/
theorem bit_in (label who : Nat) (hl : label < 256) : (bits BinOp.and IntKind.i64 ((label : Int) / 2 ^ who) 1 == 1) = inL label who := by
  have hlt : label / 2 ^ who < 9223372036854775808 := Nat.lt_of_le_of_lt (Nat.div_le_self _ _) (by omega)
  have hc : (label : Int) / 2 ^ who = ((label / 2 ^ who : Nat) : Int) := by push_cast; rfl
  rw [hc, andOne _ hlt, inL, Nat.testBit_eq_decide_div_mod_eq]
  rw [Bool.eq_iff_iff]
  simp only [beq_iff_eq, decide_eq_true_eq]
  omega
theorem bit_out (label who : Nat) (hl : label < 256) : (bits BinOp.and IntKind.i64 ((label : Int) / 2 ^ who) 1 == 0) = !inL label who := by
  have hlt : label / 2 ^ who < 9223372036854775808 := Nat.lt_of_le_of_lt (Nat.div_le_self _ _) (by omega)
  have hc : (label : Int) / 2 ^ who = ((label / 2 ^ who : Nat) : Int) := by push_cast; rfl
  rw [hc, andOne _ hlt, inL, Nat.testBit_eq_decide_div_mod_eq]
  rw [Bool.eq_iff_iff]
  simp only [beq_iff_eq, Bool.not_eq_true', decide_eq_false_iff_not]
  omega
/-- A label's number in the laws' row. -/
theorem lab_cell {w : World} {g : Nat} {m cap : Nat} {labs : List Nat} (h : Has w 1 (.slice (some ⟨g, 0, none⟩) m cap) m (ints (labInts labs))) (j : Nat) (hj : j < labs.length) : w.cell? ⟨g, j, none⟩ = some (.int .i64 labs[j]) := by
  obtain ⟨⟨hl, _⟩, a, c, he, h1, h2, hc⟩ := h
  simp only [Value.slice.injEq] at he
  obtain ⟨rfl, -, rfl⟩ := he
  obtain ⟨b, o, he, hcc⟩ := hc (by rw [ints_length, labInts_length]; omega)
  simp only [Option.some.injEq, Addr.mk.injEq, and_true] at he
  obtain ⟨rfl, rfl⟩ := he
  have := hcc j (.int .i64 labs[j]) (by rw [ints_get _ j (by rw [labInts_length]; exact hj)]; simp [labInts])
  simpa using this
theorem labsOf_len (l : List Int) : (labsOf l).length = 3 := labsK_len l 3
theorem labsOf_lt (l : List Int) : ∀ x ∈ labsOf l, x < 16 := labsK_lt l 3
theorem turns_plus (l : List Tk) (n r : Nat) : ∀ t ∈ turnsOf l n ++ roundL r, t.Ok 3 := fun t ht => by
  rcases List.mem_append.1 ht with h | h
  · exact turnsOf_ok l n t h
  · exact roundL_ok (by omega) t h
theorem trns_append (a b : List Trn) : trns (a ++ b) = trns a ++ trns b := by simp [trns]
/-- Rounds behind turns. -/
theorem meets {labs : List Nat} {ts : List Trn} (hok : ∀ t ∈ ts, t.Ok labs.length) (hn : ts.length ≤ 900) (n : Nat) : stAfter labs noSt (ts ++ roundL (n + 1)) = stAfter labs (stAfter labs noSt ts) (tells 16) := by
  rw [stAfter_append, rounds_eq (play_good hok hn).may]
end Go.Proofs.Ytngedkfljpkoiaa
