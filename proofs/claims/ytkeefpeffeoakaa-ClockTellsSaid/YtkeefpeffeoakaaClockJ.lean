/- Clocks: Join; a clock in memory; the plain law of 'ClockLeast'. -/
import Derived.Test.YtkeefpeffeoakaaClockB
import Derived.Test.YtkeefpeffeoakaaClockC
import Derived.Test.YtkeefpeffeoakaaClockQ
namespace Go.Proofs.Ytkeefpeffeoakaa
open Go.ChangeShapes Go.WideShapes Go.ChangeAt Go.RowKit
set_option linter.unusedVariables false

theorem ckOrd_le (a b : List Int) : ckOrd a b ≤ 0 ↔ ckLess b a = false := by
  unfold ckOrd
  cases h1 : ckLess a b <;> cases h2 : ckLess b a <;> simp
theorem ckLess_join : ∀ (a b c : List Int), a.length = b.length → b.length = c.length → ckLess c (ckJoin a b) = (ckLess c a || ckLess c b)
  | [], [], [], _, _ => rfl
  | x :: a, y :: b, z :: c, h1, h2 => by
    have ih := ckLess_join a b c (by simpa using h1) (by simpa using h2)
    show (decide (z < max x y) || ckLess c (ckJoin a b)) = ((decide (z < x) || ckLess c a) || (decide (z < y) || ckLess c b))
    rw [ih]
    have e : decide (z < max x y) = (decide (z < x) || decide (z < y)) := by
      rw [← Bool.decide_or, decide_eq_decide]; omega
    rw [e]
    cases decide (z < x) <;> cases decide (z < y) <;> cases ckLess c a <;> cases ckLess c b <;> rfl
  | [], _ :: _, _, h, _ => by simp at h
  | _ :: _, [], _, h, _ => by simp at h
  | _, [], _ :: _, _, h => by simp at h
  | _, _ :: _, [], _, h => by simp at h
theorem ckLess_joinl : ∀ (a b : List Int), a.length = b.length → ckLess (ckJoin a b) a = false
  | [], [], _ => rfl
  | x :: a, y :: b, h => by
    have ih := ckLess_joinl a b (by simpa using h)
    show (decide (max x y < x) || ckLess (ckJoin a b) a) = false
    rw [ih]
    have : decide (max x y < x) = false := by simp; omega
    rw [this]; rfl
  | [], _ :: _, h => by simp at h
  | _ :: _, [], h => by simp at h
theorem ckJoin_comm (a b : List Int) : ckJoin a b = ckJoin b a := by
  unfold ckJoin
  apply List.ext_getElem
  · simp; omega
  · intro i h1 h2; simp [Int.max_comm]
theorem ckJoin_assoc (a b c : List Int) : ckJoin (ckJoin a b) c = ckJoin a (ckJoin b c) := by
  unfold ckJoin
  apply List.ext_getElem
  · simp <;> omega
  · intro i h1 h2; simp [Int.max_assoc]
theorem ckJoin_self (a : List Int) : ckJoin a a = a := by
  unfold ckJoin
  apply List.ext_getElem
  · simp
  · intro i h1 h2; rw [List.getElem_zipWith]; omega
theorem ckOrd_joinl (a b : List Int) (h : a.length = b.length) : ckOrd a (ckJoin a b) ≤ 0 := by rw [ckOrd_le]; exact ckLess_joinl a b h
theorem ckOrd_joinr (a b : List Int) (h : a.length = b.length) : ckOrd b (ckJoin a b) ≤ 0 := by rw [ckJoin_comm]; exact ckOrd_joinl b a h.symm
theorem ckOrd_join (a b c : List Int) (h1 : a.length = b.length) (h2 : b.length = c.length) : ckOrd (ckJoin a b) c ≤ 0 ↔ ckOrd a c ≤ 0 ∧ ckOrd b c ≤ 0 := by
  rw [ckOrd_le, ckOrd_le, ckOrd_le, ckLess_join a b c h1 h2, Bool.or_eq_false_iff]
/-- A clock of four numbers in memory. -/
structure Ck (w : World) (a : Option Addr) (cap : Nat) (c : List Int) : Prop where
  has : Has w 1 (.slice a 4 cap) c.length (ints c)
  len : c.length = 4
  ok : ckOk c
theorem Ck.on {w w' : World} {a : Option Addr} {cap : Nat} {c : List Int} (h : Ck w a cap c) (hb : Below w.heap.size w w') : Ck w' a cap c := ⟨h.has.below hb, h.len, h.ok⟩
theorem ckJoin_ok {a b : List Int} (ha : ckOk a) (hb : ckOk b) : ckOk (ckJoin a b) := by
  intro x hx
  obtain ⟨i, hi, rfl⟩ := List.mem_iff_getElem.1 hx
  simp only [ckJoin_length] at hi
  have h1 := ha a[i] (List.getElem_mem _)
  have h2 := hb b[i] (List.getElem_mem _)
  simp only [ckJoin, List.getElem_zipWith]; omega
set_option maxRecDepth 100000 in
set_option maxHeartbeats 1000000 in
theorem cckJoin {w : World} {a1 a2 : Option Addr} {p1 p2 : Nat} {x y : List Int} (h1 : Ck w a1 p1 x) (h2 : Ck w a2 p2 y) :
    Calls Try.prog 11 #[.slice a1 4 p1, .slice a2 4 p2] w fun e w' => ∃ a p, e = .returned (.tuple #[.slice a 4 p, .int .i64 0]) ∧ Ck w' a p (ckJoin x y) ∧ Below w.heap.size w w' := by
  have F := Lib.hid (cckFault _ _ x y w h1.has h2.has h1.ok h2.ok (by rw [h1.len, h2.len]) (by rw [h1.len]; omega) (by rw [h1.len]; omega))
  have J := Lib.hid (cjoined _ _ x y w h1.has h2.has (by rw [h1.len, h2.len]) (by rw [h1.len]; omega) (by rw [h1.len]; omega))
  go_enter Try.func11, Try.ntmps11
  go_wp2_with fail
  refine F.out.mono ?_
  rintro e w' ⟨rfl, rfl⟩
  go_wp2_with fail
  refine J.out.mono ?_
  rintro e w2 ⟨v, rfl, hown, hb⟩
  have hl : (ckJoin x y).length = 4 := by rw [ckJoin_length, h1.len, h2.len]; rfl
  have hown' := hown
  rw [hl] at hown'
  obtain ⟨a, p, rfl⟩ := owns_slice hown'
  have HH : Hid (Ck w2 a p (ckJoin x y)) := ⟨Has.of_owns hown, hl, ckJoin_ok h1.ok h2.ok⟩
  have Hb := Lib.hid hb
  clear hl hown hown' hb
  go_wp2_with fail
  go_ret2
  exact ⟨a, p, rfl, HH.out, Hb.out⟩
theorem cckOf (v : Value) (zs : List Int) (w : World) (h : Has w 1 v zs.length (ints zs)) :
    Calls Try.prog 10 #[v] w fun e w' => ∃ a p c, e = .returned (.slice a 4 p) ∧ Ck w' a p c ∧ Below w.heap.size w w' :=
  (cclockOf v zs w h).mono fun e w' ⟨v', c, he, hl, hb, hown, hB⟩ => by
    obtain ⟨a, p, rfl⟩ := owns_slice hown
    exact ⟨a, p, c, he, ⟨by rw [hl]; exact Has.of_owns hown, hl, fun x hx => by have := hb x hx; omega⟩, hB⟩
theorem ckOrder {w : World} {a1 a2 : Option Addr} {p1 p2 : Nat} {x y : List Int} (h1 : Ck w a1 p1 x) (h2 : Ck w a2 p2 y) :
    Calls Try.prog 13 #[.slice a1 4 p1, .slice a2 4 p2] w fun e w' => e = .returned (.int .i64 (ckOrd x y)) ∧ Below w.heap.size w w' :=
  corder _ _ x y w h1.has h2.has h1.ok h2.ok (by rw [h1.len, h2.len]) (by rw [h1.len]; omega) (by rw [h1.len]; omega)
end Go.Proofs.Ytkeefpeffeoakaa
