/- CrewShares in company: the second call, and the end. Written by tools/gen_crewL.py. -/
import Derived.Test.YtkodpijedinanaaCwK
namespace Go.Proofs.Ytkodpijedinanaa.Sim
open Go Go.Conc Go.ChangeShapes Go.WideShapes Go.ChangeAt Go.RowKit
set_option linter.unusedVariables false
set_option linter.unusedSimpArgs false

noncomputable def opsA : Array Oper := opsOf (hd (tl (tl (tl (tl c3)))))
noncomputable def opsB : Array Oper := opsOf (hd (tl (tl (tl (tl (tl (tl (tl c3))))))))
theorem one_of_three (L : Int) (h : Lev 1 [3] L) : give L (1 - least [3] L) [3] = [1] := by
  obtain ⟨h0, h1, h2, h3⟩ := h
  have e : ∀ l : Int, least [3] l = min 3 l := fun l => by simp [least]
  rw [e] at h2
  by_cases hL : L < 1048576
  · have h4 := h3 hL
    rw [e] at h4
    have : L = 1 := by omega
    subst this
    rw [e]
    decide
  · omega
theorem put_sz (a : Act) (d : Option Tmp) (v : Value) : (a.put d v).tmps.size = a.tmps.size := by unfold Act.put; cases d <;> simp
theorem put_df (a : Act) (d : Option Tmp) (v : Value) : (a.put d v).defers = a.defers := by unfold Act.put; cases d <;> rfl
theorem put_at {a : Act} {d : Tmp} (h : d < a.tmps.size) (v : Value) : (a.put (some d) v).tmps.getD d undef = v := by simp [Act.put, Array.getD_eq_getD_getElem?, h]
theorem ev_put_at {a : Act} {d : Tmp} (h : d < a.tmps.size) (v : Value) : (a.put (some d) v).tmps[d]?.getD undef = v := by rw [← Array.getD_eq_getD_getElem?]; exact put_at h v
theorem ev_put_ne {a : Act} {d t : Tmp} (v : Value) (h : t ≠ d) : (a.put (some d) v).tmps[t]?.getD undef = a.tmps[t]?.getD undef := by rw [← Array.getD_eq_getD_getElem?, ← Array.getD_eq_getD_getElem?]; exact put_ne v h
theorem ev_of {a : Act} {t : Tmp} {v : Value} (h : a.tmps[t]?.getD undef = v) : a.eval (.tmp t) = v := by rw [← h]; exact Array.getD_eq_getD_getElem?
theorem cons_of {l : List Value} {n : Nat} (h : l.length = n + 1) : ∃ x t, l = x :: t := by
  cases l with
  | nil => simp at h
  | cons x t => exact ⟨x, t, rfl⟩
theorem tail_len {x : Value} {t : List Value} {n : Nat} (h : (x :: t).length = n + 1) : t.length = n := by simpa using h
set_option maxRecDepth 100000 in
set_option maxHeartbeats 4000000 in
theorem lit112 (a : Array Value) (h : a.size = 112) : a = #[a.getD 0 undef, a.getD 1 undef, a.getD 2 undef, a.getD 3 undef, a.getD 4 undef, a.getD 5 undef, a.getD 6 undef, a.getD 7 undef, a.getD 8 undef, a.getD 9 undef, a.getD 10 undef, a.getD 11 undef, a.getD 12 undef, a.getD 13 undef, a.getD 14 undef, a.getD 15 undef, a.getD 16 undef, a.getD 17 undef, a.getD 18 undef, a.getD 19 undef, a.getD 20 undef, a.getD 21 undef, a.getD 22 undef, a.getD 23 undef, a.getD 24 undef, a.getD 25 undef, a.getD 26 undef, a.getD 27 undef, a.getD 28 undef, a.getD 29 undef, a.getD 30 undef, a.getD 31 undef, a.getD 32 undef, a.getD 33 undef, a.getD 34 undef, a.getD 35 undef, a.getD 36 undef, a.getD 37 undef, a.getD 38 undef, a.getD 39 undef, a.getD 40 undef, a.getD 41 undef, a.getD 42 undef, a.getD 43 undef, a.getD 44 undef, a.getD 45 undef, a.getD 46 undef, a.getD 47 undef, a.getD 48 undef, a.getD 49 undef, a.getD 50 undef, a.getD 51 undef, a.getD 52 undef, a.getD 53 undef, a.getD 54 undef, a.getD 55 undef, a.getD 56 undef, a.getD 57 undef, a.getD 58 undef, a.getD 59 undef, a.getD 60 undef, a.getD 61 undef, a.getD 62 undef, a.getD 63 undef, a.getD 64 undef, a.getD 65 undef, a.getD 66 undef, a.getD 67 undef, a.getD 68 undef, a.getD 69 undef, a.getD 70 undef, a.getD 71 undef, a.getD 72 undef, a.getD 73 undef, a.getD 74 undef, a.getD 75 undef, a.getD 76 undef, a.getD 77 undef, a.getD 78 undef, a.getD 79 undef, a.getD 80 undef, a.getD 81 undef, a.getD 82 undef, a.getD 83 undef, a.getD 84 undef, a.getD 85 undef, a.getD 86 undef, a.getD 87 undef, a.getD 88 undef, a.getD 89 undef, a.getD 90 undef, a.getD 91 undef, a.getD 92 undef, a.getD 93 undef, a.getD 94 undef, a.getD 95 undef, a.getD 96 undef, a.getD 97 undef, a.getD 98 undef, a.getD 99 undef, a.getD 100 undef, a.getD 101 undef, a.getD 102 undef, a.getD 103 undef, a.getD 104 undef, a.getD 105 undef, a.getD 106 undef, a.getD 107 undef, a.getD 108 undef, a.getD 109 undef, a.getD 110 undef, a.getD 111 undef] := by
  obtain ⟨l⟩ := a
  have h : l.length = 112 := h
  obtain ⟨x0, l, rfl⟩ := cons_of h
  replace h := tail_len h
  obtain ⟨x1, l, rfl⟩ := cons_of h
  replace h := tail_len h
  obtain ⟨x2, l, rfl⟩ := cons_of h
  replace h := tail_len h
  obtain ⟨x3, l, rfl⟩ := cons_of h
  replace h := tail_len h
  obtain ⟨x4, l, rfl⟩ := cons_of h
  replace h := tail_len h
  obtain ⟨x5, l, rfl⟩ := cons_of h
  replace h := tail_len h
  obtain ⟨x6, l, rfl⟩ := cons_of h
  replace h := tail_len h
  obtain ⟨x7, l, rfl⟩ := cons_of h
  replace h := tail_len h
  obtain ⟨x8, l, rfl⟩ := cons_of h
  replace h := tail_len h
  obtain ⟨x9, l, rfl⟩ := cons_of h
  replace h := tail_len h
  obtain ⟨x10, l, rfl⟩ := cons_of h
  replace h := tail_len h
  obtain ⟨x11, l, rfl⟩ := cons_of h
  replace h := tail_len h
  obtain ⟨x12, l, rfl⟩ := cons_of h
  replace h := tail_len h
  obtain ⟨x13, l, rfl⟩ := cons_of h
  replace h := tail_len h
  obtain ⟨x14, l, rfl⟩ := cons_of h
  replace h := tail_len h
  obtain ⟨x15, l, rfl⟩ := cons_of h
  replace h := tail_len h
  obtain ⟨x16, l, rfl⟩ := cons_of h
  replace h := tail_len h
  obtain ⟨x17, l, rfl⟩ := cons_of h
  replace h := tail_len h
  obtain ⟨x18, l, rfl⟩ := cons_of h
  replace h := tail_len h
  obtain ⟨x19, l, rfl⟩ := cons_of h
  replace h := tail_len h
  obtain ⟨x20, l, rfl⟩ := cons_of h
  replace h := tail_len h
  obtain ⟨x21, l, rfl⟩ := cons_of h
  replace h := tail_len h
  obtain ⟨x22, l, rfl⟩ := cons_of h
  replace h := tail_len h
  obtain ⟨x23, l, rfl⟩ := cons_of h
  replace h := tail_len h
  obtain ⟨x24, l, rfl⟩ := cons_of h
  replace h := tail_len h
  obtain ⟨x25, l, rfl⟩ := cons_of h
  replace h := tail_len h
  obtain ⟨x26, l, rfl⟩ := cons_of h
  replace h := tail_len h
  obtain ⟨x27, l, rfl⟩ := cons_of h
  replace h := tail_len h
  obtain ⟨x28, l, rfl⟩ := cons_of h
  replace h := tail_len h
  obtain ⟨x29, l, rfl⟩ := cons_of h
  replace h := tail_len h
  obtain ⟨x30, l, rfl⟩ := cons_of h
  replace h := tail_len h
  obtain ⟨x31, l, rfl⟩ := cons_of h
  replace h := tail_len h
  obtain ⟨x32, l, rfl⟩ := cons_of h
  replace h := tail_len h
  obtain ⟨x33, l, rfl⟩ := cons_of h
  replace h := tail_len h
  obtain ⟨x34, l, rfl⟩ := cons_of h
  replace h := tail_len h
  obtain ⟨x35, l, rfl⟩ := cons_of h
  replace h := tail_len h
  obtain ⟨x36, l, rfl⟩ := cons_of h
  replace h := tail_len h
  obtain ⟨x37, l, rfl⟩ := cons_of h
  replace h := tail_len h
  obtain ⟨x38, l, rfl⟩ := cons_of h
  replace h := tail_len h
  obtain ⟨x39, l, rfl⟩ := cons_of h
  replace h := tail_len h
  obtain ⟨x40, l, rfl⟩ := cons_of h
  replace h := tail_len h
  obtain ⟨x41, l, rfl⟩ := cons_of h
  replace h := tail_len h
  obtain ⟨x42, l, rfl⟩ := cons_of h
  replace h := tail_len h
  obtain ⟨x43, l, rfl⟩ := cons_of h
  replace h := tail_len h
  obtain ⟨x44, l, rfl⟩ := cons_of h
  replace h := tail_len h
  obtain ⟨x45, l, rfl⟩ := cons_of h
  replace h := tail_len h
  obtain ⟨x46, l, rfl⟩ := cons_of h
  replace h := tail_len h
  obtain ⟨x47, l, rfl⟩ := cons_of h
  replace h := tail_len h
  obtain ⟨x48, l, rfl⟩ := cons_of h
  replace h := tail_len h
  obtain ⟨x49, l, rfl⟩ := cons_of h
  replace h := tail_len h
  obtain ⟨x50, l, rfl⟩ := cons_of h
  replace h := tail_len h
  obtain ⟨x51, l, rfl⟩ := cons_of h
  replace h := tail_len h
  obtain ⟨x52, l, rfl⟩ := cons_of h
  replace h := tail_len h
  obtain ⟨x53, l, rfl⟩ := cons_of h
  replace h := tail_len h
  obtain ⟨x54, l, rfl⟩ := cons_of h
  replace h := tail_len h
  obtain ⟨x55, l, rfl⟩ := cons_of h
  replace h := tail_len h
  obtain ⟨x56, l, rfl⟩ := cons_of h
  replace h := tail_len h
  obtain ⟨x57, l, rfl⟩ := cons_of h
  replace h := tail_len h
  obtain ⟨x58, l, rfl⟩ := cons_of h
  replace h := tail_len h
  obtain ⟨x59, l, rfl⟩ := cons_of h
  replace h := tail_len h
  obtain ⟨x60, l, rfl⟩ := cons_of h
  replace h := tail_len h
  obtain ⟨x61, l, rfl⟩ := cons_of h
  replace h := tail_len h
  obtain ⟨x62, l, rfl⟩ := cons_of h
  replace h := tail_len h
  obtain ⟨x63, l, rfl⟩ := cons_of h
  replace h := tail_len h
  obtain ⟨x64, l, rfl⟩ := cons_of h
  replace h := tail_len h
  obtain ⟨x65, l, rfl⟩ := cons_of h
  replace h := tail_len h
  obtain ⟨x66, l, rfl⟩ := cons_of h
  replace h := tail_len h
  obtain ⟨x67, l, rfl⟩ := cons_of h
  replace h := tail_len h
  obtain ⟨x68, l, rfl⟩ := cons_of h
  replace h := tail_len h
  obtain ⟨x69, l, rfl⟩ := cons_of h
  replace h := tail_len h
  obtain ⟨x70, l, rfl⟩ := cons_of h
  replace h := tail_len h
  obtain ⟨x71, l, rfl⟩ := cons_of h
  replace h := tail_len h
  obtain ⟨x72, l, rfl⟩ := cons_of h
  replace h := tail_len h
  obtain ⟨x73, l, rfl⟩ := cons_of h
  replace h := tail_len h
  obtain ⟨x74, l, rfl⟩ := cons_of h
  replace h := tail_len h
  obtain ⟨x75, l, rfl⟩ := cons_of h
  replace h := tail_len h
  obtain ⟨x76, l, rfl⟩ := cons_of h
  replace h := tail_len h
  obtain ⟨x77, l, rfl⟩ := cons_of h
  replace h := tail_len h
  obtain ⟨x78, l, rfl⟩ := cons_of h
  replace h := tail_len h
  obtain ⟨x79, l, rfl⟩ := cons_of h
  replace h := tail_len h
  obtain ⟨x80, l, rfl⟩ := cons_of h
  replace h := tail_len h
  obtain ⟨x81, l, rfl⟩ := cons_of h
  replace h := tail_len h
  obtain ⟨x82, l, rfl⟩ := cons_of h
  replace h := tail_len h
  obtain ⟨x83, l, rfl⟩ := cons_of h
  replace h := tail_len h
  obtain ⟨x84, l, rfl⟩ := cons_of h
  replace h := tail_len h
  obtain ⟨x85, l, rfl⟩ := cons_of h
  replace h := tail_len h
  obtain ⟨x86, l, rfl⟩ := cons_of h
  replace h := tail_len h
  obtain ⟨x87, l, rfl⟩ := cons_of h
  replace h := tail_len h
  obtain ⟨x88, l, rfl⟩ := cons_of h
  replace h := tail_len h
  obtain ⟨x89, l, rfl⟩ := cons_of h
  replace h := tail_len h
  obtain ⟨x90, l, rfl⟩ := cons_of h
  replace h := tail_len h
  obtain ⟨x91, l, rfl⟩ := cons_of h
  replace h := tail_len h
  obtain ⟨x92, l, rfl⟩ := cons_of h
  replace h := tail_len h
  obtain ⟨x93, l, rfl⟩ := cons_of h
  replace h := tail_len h
  obtain ⟨x94, l, rfl⟩ := cons_of h
  replace h := tail_len h
  obtain ⟨x95, l, rfl⟩ := cons_of h
  replace h := tail_len h
  obtain ⟨x96, l, rfl⟩ := cons_of h
  replace h := tail_len h
  obtain ⟨x97, l, rfl⟩ := cons_of h
  replace h := tail_len h
  obtain ⟨x98, l, rfl⟩ := cons_of h
  replace h := tail_len h
  obtain ⟨x99, l, rfl⟩ := cons_of h
  replace h := tail_len h
  obtain ⟨x100, l, rfl⟩ := cons_of h
  replace h := tail_len h
  obtain ⟨x101, l, rfl⟩ := cons_of h
  replace h := tail_len h
  obtain ⟨x102, l, rfl⟩ := cons_of h
  replace h := tail_len h
  obtain ⟨x103, l, rfl⟩ := cons_of h
  replace h := tail_len h
  obtain ⟨x104, l, rfl⟩ := cons_of h
  replace h := tail_len h
  obtain ⟨x105, l, rfl⟩ := cons_of h
  replace h := tail_len h
  obtain ⟨x106, l, rfl⟩ := cons_of h
  replace h := tail_len h
  obtain ⟨x107, l, rfl⟩ := cons_of h
  replace h := tail_len h
  obtain ⟨x108, l, rfl⟩ := cons_of h
  replace h := tail_len h
  obtain ⟨x109, l, rfl⟩ := cons_of h
  replace h := tail_len h
  obtain ⟨x110, l, rfl⟩ := cons_of h
  replace h := tail_len h
  obtain ⟨x111, l, rfl⟩ := cons_of h
  replace h := tail_len h
  obtain rfl : l = [] := List.eq_nil_of_length_eq_zero h
  rfl
set_option maxRecDepth 100000 in
set_option maxHeartbeats 4000000 in
theorem lit67 (a : Array Value) (h : a.size = 67) : a = #[a.getD 0 undef, a.getD 1 undef, a.getD 2 undef, a.getD 3 undef, a.getD 4 undef, a.getD 5 undef, a.getD 6 undef, a.getD 7 undef, a.getD 8 undef, a.getD 9 undef, a.getD 10 undef, a.getD 11 undef, a.getD 12 undef, a.getD 13 undef, a.getD 14 undef, a.getD 15 undef, a.getD 16 undef, a.getD 17 undef, a.getD 18 undef, a.getD 19 undef, a.getD 20 undef, a.getD 21 undef, a.getD 22 undef, a.getD 23 undef, a.getD 24 undef, a.getD 25 undef, a.getD 26 undef, a.getD 27 undef, a.getD 28 undef, a.getD 29 undef, a.getD 30 undef, a.getD 31 undef, a.getD 32 undef, a.getD 33 undef, a.getD 34 undef, a.getD 35 undef, a.getD 36 undef, a.getD 37 undef, a.getD 38 undef, a.getD 39 undef, a.getD 40 undef, a.getD 41 undef, a.getD 42 undef, a.getD 43 undef, a.getD 44 undef, a.getD 45 undef, a.getD 46 undef, a.getD 47 undef, a.getD 48 undef, a.getD 49 undef, a.getD 50 undef, a.getD 51 undef, a.getD 52 undef, a.getD 53 undef, a.getD 54 undef, a.getD 55 undef, a.getD 56 undef, a.getD 57 undef, a.getD 58 undef, a.getD 59 undef, a.getD 60 undef, a.getD 61 undef, a.getD 62 undef, a.getD 63 undef, a.getD 64 undef, a.getD 65 undef, a.getD 66 undef] := by
  obtain ⟨l⟩ := a
  have h : l.length = 67 := h
  obtain ⟨x0, l, rfl⟩ := cons_of h
  replace h := tail_len h
  obtain ⟨x1, l, rfl⟩ := cons_of h
  replace h := tail_len h
  obtain ⟨x2, l, rfl⟩ := cons_of h
  replace h := tail_len h
  obtain ⟨x3, l, rfl⟩ := cons_of h
  replace h := tail_len h
  obtain ⟨x4, l, rfl⟩ := cons_of h
  replace h := tail_len h
  obtain ⟨x5, l, rfl⟩ := cons_of h
  replace h := tail_len h
  obtain ⟨x6, l, rfl⟩ := cons_of h
  replace h := tail_len h
  obtain ⟨x7, l, rfl⟩ := cons_of h
  replace h := tail_len h
  obtain ⟨x8, l, rfl⟩ := cons_of h
  replace h := tail_len h
  obtain ⟨x9, l, rfl⟩ := cons_of h
  replace h := tail_len h
  obtain ⟨x10, l, rfl⟩ := cons_of h
  replace h := tail_len h
  obtain ⟨x11, l, rfl⟩ := cons_of h
  replace h := tail_len h
  obtain ⟨x12, l, rfl⟩ := cons_of h
  replace h := tail_len h
  obtain ⟨x13, l, rfl⟩ := cons_of h
  replace h := tail_len h
  obtain ⟨x14, l, rfl⟩ := cons_of h
  replace h := tail_len h
  obtain ⟨x15, l, rfl⟩ := cons_of h
  replace h := tail_len h
  obtain ⟨x16, l, rfl⟩ := cons_of h
  replace h := tail_len h
  obtain ⟨x17, l, rfl⟩ := cons_of h
  replace h := tail_len h
  obtain ⟨x18, l, rfl⟩ := cons_of h
  replace h := tail_len h
  obtain ⟨x19, l, rfl⟩ := cons_of h
  replace h := tail_len h
  obtain ⟨x20, l, rfl⟩ := cons_of h
  replace h := tail_len h
  obtain ⟨x21, l, rfl⟩ := cons_of h
  replace h := tail_len h
  obtain ⟨x22, l, rfl⟩ := cons_of h
  replace h := tail_len h
  obtain ⟨x23, l, rfl⟩ := cons_of h
  replace h := tail_len h
  obtain ⟨x24, l, rfl⟩ := cons_of h
  replace h := tail_len h
  obtain ⟨x25, l, rfl⟩ := cons_of h
  replace h := tail_len h
  obtain ⟨x26, l, rfl⟩ := cons_of h
  replace h := tail_len h
  obtain ⟨x27, l, rfl⟩ := cons_of h
  replace h := tail_len h
  obtain ⟨x28, l, rfl⟩ := cons_of h
  replace h := tail_len h
  obtain ⟨x29, l, rfl⟩ := cons_of h
  replace h := tail_len h
  obtain ⟨x30, l, rfl⟩ := cons_of h
  replace h := tail_len h
  obtain ⟨x31, l, rfl⟩ := cons_of h
  replace h := tail_len h
  obtain ⟨x32, l, rfl⟩ := cons_of h
  replace h := tail_len h
  obtain ⟨x33, l, rfl⟩ := cons_of h
  replace h := tail_len h
  obtain ⟨x34, l, rfl⟩ := cons_of h
  replace h := tail_len h
  obtain ⟨x35, l, rfl⟩ := cons_of h
  replace h := tail_len h
  obtain ⟨x36, l, rfl⟩ := cons_of h
  replace h := tail_len h
  obtain ⟨x37, l, rfl⟩ := cons_of h
  replace h := tail_len h
  obtain ⟨x38, l, rfl⟩ := cons_of h
  replace h := tail_len h
  obtain ⟨x39, l, rfl⟩ := cons_of h
  replace h := tail_len h
  obtain ⟨x40, l, rfl⟩ := cons_of h
  replace h := tail_len h
  obtain ⟨x41, l, rfl⟩ := cons_of h
  replace h := tail_len h
  obtain ⟨x42, l, rfl⟩ := cons_of h
  replace h := tail_len h
  obtain ⟨x43, l, rfl⟩ := cons_of h
  replace h := tail_len h
  obtain ⟨x44, l, rfl⟩ := cons_of h
  replace h := tail_len h
  obtain ⟨x45, l, rfl⟩ := cons_of h
  replace h := tail_len h
  obtain ⟨x46, l, rfl⟩ := cons_of h
  replace h := tail_len h
  obtain ⟨x47, l, rfl⟩ := cons_of h
  replace h := tail_len h
  obtain ⟨x48, l, rfl⟩ := cons_of h
  replace h := tail_len h
  obtain ⟨x49, l, rfl⟩ := cons_of h
  replace h := tail_len h
  obtain ⟨x50, l, rfl⟩ := cons_of h
  replace h := tail_len h
  obtain ⟨x51, l, rfl⟩ := cons_of h
  replace h := tail_len h
  obtain ⟨x52, l, rfl⟩ := cons_of h
  replace h := tail_len h
  obtain ⟨x53, l, rfl⟩ := cons_of h
  replace h := tail_len h
  obtain ⟨x54, l, rfl⟩ := cons_of h
  replace h := tail_len h
  obtain ⟨x55, l, rfl⟩ := cons_of h
  replace h := tail_len h
  obtain ⟨x56, l, rfl⟩ := cons_of h
  replace h := tail_len h
  obtain ⟨x57, l, rfl⟩ := cons_of h
  replace h := tail_len h
  obtain ⟨x58, l, rfl⟩ := cons_of h
  replace h := tail_len h
  obtain ⟨x59, l, rfl⟩ := cons_of h
  replace h := tail_len h
  obtain ⟨x60, l, rfl⟩ := cons_of h
  replace h := tail_len h
  obtain ⟨x61, l, rfl⟩ := cons_of h
  replace h := tail_len h
  obtain ⟨x62, l, rfl⟩ := cons_of h
  replace h := tail_len h
  obtain ⟨x63, l, rfl⟩ := cons_of h
  replace h := tail_len h
  obtain ⟨x64, l, rfl⟩ := cons_of h
  replace h := tail_len h
  obtain ⟨x65, l, rfl⟩ := cons_of h
  replace h := tail_len h
  obtain ⟨x66, l, rfl⟩ := cons_of h
  replace h := tail_len h
  obtain rfl : l = [] := List.eq_nil_of_length_eq_zero h
  rfl
theorem act_lit {a : Act} {c : Array Value} (h : a.tmps = c) (hd : a.defers = []) : a = ⟨c, []⟩ := by cases a; simp_all
set_option maxRecDepth 100000 in
set_option maxHeartbeats 8000000 in
/-- The end. -/
theorem shares_end {W0 : World} {lo M : Nat} {F Sh Own : Blk} {ρ : Ren} {a A : Act} {w : World} {g : Nat} {sv : Value} (hsz : a.tmps.size = 112) (hdf : a.defers = []) (h13 : a.tmps[13]?.getD undef = .slice (some ⟨g, 0, none⟩) 1 1) (h14 : a.tmps[14]?.getD undef = .int .i64 0)
    (hcell : w.cell? ⟨g, 0, none⟩ = some sv) (hsvH : Has w 1 sv 1 (ints [1])) : Pt Try.prog F Sh (MGo Try.prog W0 lo (fun v W1 => v = .bool true ∧ BaseOk W0 lo W1) M (fun _ => none) Sh) [] (base 3) [.code (tl (tl (tl (tl (tl (tl (tl (tl c3))))))))] Own ρ a A w := by
  have hB : (base 3).kind ≠ .early := by simp [base]
  have hJ := jud_mgo Try.prog W0 lo (fun v W1 => v = .bool true ∧ BaseOk W0 lo W1) M (fun _ => none) Sh
  have e := act_lit (lit112 a.tmps hsz) hdf
  have g13 : a.tmps.getD 13 undef = .slice (some ⟨g, 0, none⟩) 1 1 := ev_of h13
  have g14 : a.tmps.getD 14 undef = .int .i64 0 := ev_of h14
  rw [g13, g14] at e
  rw [e]
  refine pt_seqE hJ (x := hd (tl (tl (tl (tl (tl (tl (tl (tl c3))))))))) (y := .ret) (by rfl) ?_
  refine q8' hJ hB rfl hcell hsvH fun ρ11 A11 w11 Own11 s0 s1 s2 s3 s5 s6 s7 s8 s9 s10 s11 s12 s13 s14 s15 s16 s17 s18 s19 s20 s21 s22 s23 s24 s25 s26 s27 s28 s29 s30 s31 s32 s33 s34 s35 s36 s37 s38 s39 s40 s41 s42 s43 s44 s45 s46 s47 s48 s49 s50 s51 s52 s53 s54 s55 s56 s57 s58 s59 s60 s61 s62 s63 s64 s65 s66 s67 s68 s69 s70 s71 s72 s73 s74 s75 s76 s77 s78 s79 s80 s81 s82 s83 s84 s85 s86 s87 s88 s89 s90 s91 s92 s93 s94 s95 s96 s97 s98 s99 s100 s101 s102 s103 s104 s105 s106 s107 s108 s109 s110 s111 hl11 ho11 hr11 => ?_
  refine pt_ret hJ fun W' m' todo' => ?_
  have hv := m'.row.getD 4
  have hv' : A11.tmps.getD 4 undef = .bool true := by
    rw [show (⟨#[s0, s1, s2, s3, .bool true, s5, s6, s7, s8, s9, s10, s11, s12, s13, s14, s15, s16, s17, s18, s19, s20, s21, s22, s23, s24, s25, s26, s27, s28, s29, s30, s31, s32, s33, s34, s35, s36, s37, s38, s39, s40, s41, s42, s43, s44, s45, s46, s47, s48, s49, s50, s51, s52, s53, s54, s55, s56, s57, s58, s59, s60, s61, s62, s63, s64, s65, s66, s67, s68, s69, s70, s71, s72, s73, s74, s75, s76, s77, s78, s79, s80, s81, s82, s83, s84, s85, s86, s87, s88, s89, s90, s91, s92, s93, s94, s95, s96, s97, s98, s99, s100, s101, s102, s103, s104, s105, s106, s107, s108, s109, s110, s111], []⟩ : Act).tmps.getD 4 undef = .bool true from rfl] at hv
    generalize A11.tmps.getD 4 undef = z at hv
    cases hv
    rfl
  exact mgo_ret (B := base 3) (by kernel_rfl) rfl Try.func3 (t := 4) (by kernel_rfl) hv' m'.D (fun _ => rfl) (fun _ hb => ⟨rfl, hb⟩)
set_option maxRecDepth 100000 in
set_option maxHeartbeats 8000000 in
/-- Behind the second call. -/
theorem shares_back {W0 : World} {lo M : Nat} {F Sh Own : Blk} {ρ : Ren} {a A : Act} {w : World} {g : Nat} {sv : Value} (hsz : a.tmps.size = 112) (hdf : a.defers = []) (h95 : a.tmps[95]?.getD undef = .tuple #[.slice (some ⟨g, 0, none⟩) 1 1, .int .i64 0])
    (hcell : w.cell? ⟨g, 0, none⟩ = some sv) (hsvH : Has w 1 sv 1 (ints [1])) : Pt Try.prog F Sh (MGo Try.prog W0 lo (fun v W1 => v = .bool true ∧ BaseOk W0 lo W1) M (fun _ => none) Sh) [] (base 3) [.inRegion opsB [4, 5, 6, 7, 8], .code (tl (tl (tl (tl (tl (tl (tl (tl c3))))))))] Own ρ a A w := by
  have hB : (base 3).kind ≠ .early := by simp [base]
  have hJ := jud_mgo Try.prog W0 lo (fun v W1 => v = .bool true ∧ BaseOk W0 lo W1) M (fun _ => none) Sh
  have e1 : (opsB[4]!).op = .move (.tmp 95) := by rfl
  refine pt_op0 fns_ok hJ hB (o := opsB[4]!) (by rfl) (by kernel_rfl) (by rfl) (.tuple #[.slice (some ⟨g, 0, none⟩) 1 1, .int .i64 0]) w (fun τ d => ?_) fun ρ1 x1 Own1 hl1 ho1 hv1 => ?_
  · unfold execOp
    rw [e1]
    simp [h95, go_sem]
  clear e1 ho1 hv1
  rw [show (opsB[4]!).dst = some 91 from by rfl]
  have h91 := ev_put_at (a := a) (show 91 < a.tmps.size by rw [hsz]; decide) (.tuple #[.slice (some ⟨g, 0, none⟩) 1 1, .int .i64 0])
  replace hsz := (put_sz a (some 91) (.tuple #[.slice (some ⟨g, 0, none⟩) 1 1, .int .i64 0])).trans hsz
  replace hdf := (put_df a (some 91) (.tuple #[.slice (some ⟨g, 0, none⟩) 1 1, .int .i64 0])).trans hdf
  generalize a.put (some 91) (.tuple #[.slice (some ⟨g, 0, none⟩) 1 1, .int .i64 0]) = a_1 at *
  have e2 : (opsB[5]!).op = .extract (.tmp 91) 0 := by rfl
  refine pt_op0 fns_ok hJ hB (o := opsB[5]!) (by rfl) (by kernel_rfl) (by rfl) (.slice (some ⟨g, 0, none⟩) 1 1) w (fun τ d => ?_) fun ρ2 x2 Own2 hl2 ho2 hv2 => ?_
  · unfold execOp
    rw [e2]
    simp [h91, go_sem]
  clear e2 ho2 hv2
  rw [show (opsB[5]!).dst = some 96 from by rfl]
  replace h91 := (ev_put_ne (.slice (some ⟨g, 0, none⟩) 1 1) (show 91 ≠ 96 by decide)).trans h91
  have h96 := ev_put_at (a := a_1) (show 96 < a_1.tmps.size by rw [hsz]; decide) (.slice (some ⟨g, 0, none⟩) 1 1)
  replace hsz := (put_sz a_1 (some 96) (.slice (some ⟨g, 0, none⟩) 1 1)).trans hsz
  replace hdf := (put_df a_1 (some 96) (.slice (some ⟨g, 0, none⟩) 1 1)).trans hdf
  generalize a_1.put (some 96) (.slice (some ⟨g, 0, none⟩) 1 1) = a_2 at *
  have e3 : (opsB[6]!).op = .extract (.tmp 91) 1 := by rfl
  refine pt_op0 fns_ok hJ hB (o := opsB[6]!) (by rfl) (by kernel_rfl) (by rfl) (.int .i64 0) w (fun τ d => ?_) fun ρ3 x3 Own3 hl3 ho3 hv3 => ?_
  · unfold execOp
    rw [e3]
    simp [h91, go_sem]
  clear e3 ho3 hv3
  rw [show (opsB[6]!).dst = some 97 from by rfl]
  replace h96 := (ev_put_ne (.int .i64 0) (show 96 ≠ 97 by decide)).trans h96
  have h97 := ev_put_at (a := a_2) (show 97 < a_2.tmps.size by rw [hsz]; decide) (.int .i64 0)
  replace hsz := (put_sz a_2 (some 97) (.int .i64 0)).trans hsz
  replace hdf := (put_df a_2 (some 97) (.int .i64 0)).trans hdf
  generalize a_2.put (some 97) (.int .i64 0) = a_3 at *
  have e4 : (opsB[7]!).op = .assign (.tmp 96) := by rfl
  refine pt_op0 fns_ok hJ hB (o := opsB[7]!) (by rfl) (by kernel_rfl) (by rfl) (.slice (some ⟨g, 0, none⟩) 1 1) w (fun τ d => ?_) fun ρ4 x4 Own4 hl4 ho4 hv4 => ?_
  · unfold execOp
    rw [e4]
    simp [h96, go_sem]
  clear e4 ho4 hv4
  rw [show (opsB[7]!).dst = some 13 from by rfl]
  replace h97 := (ev_put_ne (.slice (some ⟨g, 0, none⟩) 1 1) (show 97 ≠ 13 by decide)).trans h97
  have h13 := ev_put_at (a := a_3) (show 13 < a_3.tmps.size by rw [hsz]; decide) (.slice (some ⟨g, 0, none⟩) 1 1)
  replace hsz := (put_sz a_3 (some 13) (.slice (some ⟨g, 0, none⟩) 1 1)).trans hsz
  replace hdf := (put_df a_3 (some 13) (.slice (some ⟨g, 0, none⟩) 1 1)).trans hdf
  generalize a_3.put (some 13) (.slice (some ⟨g, 0, none⟩) 1 1) = a_4 at *
  have e5 : (opsB[8]!).op = .assign (.tmp 97) := by rfl
  refine pt_op0 fns_ok hJ hB (o := opsB[8]!) (by rfl) (by kernel_rfl) (by rfl) (.int .i64 0) w (fun τ d => ?_) fun ρ5 x5 Own5 hl5 ho5 hv5 => ?_
  · unfold execOp
    rw [e5]
    simp [h97, go_sem]
  clear e5 ho5 hv5
  rw [show (opsB[8]!).dst = some 14 from by rfl]
  replace h13 := (ev_put_ne (.int .i64 0) (show 13 ≠ 14 by decide)).trans h13
  have h14 := ev_put_at (a := a_4) (show 14 < a_4.tmps.size by rw [hsz]; decide) (.int .i64 0)
  replace hsz := (put_sz a_4 (some 14) (.int .i64 0)).trans hsz
  replace hdf := (put_df a_4 (some 14) (.int .i64 0)).trans hdf
  generalize a_4.put (some 14) (.int .i64 0) = a_5 at *
  exact pt_region_end hJ (shares_end hsz hdf h13 h14 hcell hsvH)
set_option maxRecDepth 100000 in
set_option maxHeartbeats 8000000 in
/-- The second call. -/
theorem shares_two {W0 : World} {lo M : Nat} {F Sh Own : Blk} {ρ : Ren} {a A : Act} {w2 : World} (hsz : a.tmps.size = 112) (hdf : a.defers = []) : Pt Try.prog F Sh (MGo Try.prog W0 lo (fun v W1 => v = .bool true ∧ BaseOk W0 lo W1) M (fun _ => none) Sh) [] (base 3) [.code (tl (tl (tl (tl (tl (tl (tl c3)))))))] Own ρ a A w2 := by
  have hB : (base 3).kind ≠ .early := by simp [base]
  have hJ := jud_mgo Try.prog W0 lo (fun v W1 => v = .bool true ∧ BaseOk W0 lo W1) M (fun _ => none) Sh
  refine pt_seqE hJ (x := hd (tl (tl (tl (tl (tl (tl (tl c3)))))))) (y := (tl (tl (tl (tl (tl (tl (tl (tl c3))))))))) (by rfl) ?_
  refine pt_regionE hJ (ops := opsB) (reg_eta (c := hd (tl (tl (tl (tl (tl (tl (tl c3)))))))) (by rfl)) (l := [0, 1, 2, 3, 4, 5, 6, 7, 8]) (by rfl) ?_
  have e3 : (opsB[0]!).op = .buildSlice 22 1 #[(0, .const (.int .i64 1))] := by rfl
  refine pt_op0 fns_ok hJ hB (o := opsB[0]!) (by rfl) (by kernel_rfl) (by rfl) (.slice (some ⟨w2.heap.size, 0, none⟩) 1 1) (w2.alloc (.cells #[.int .i64 1] 3)) (fun τ d => ?_) fun ρ3 x3 Own3 hl3 ho3 hv3 => ?_
  · unfold execOp
    rw [e3]
    simp [go_sem]
    exact ⟨rfl, rfl⟩
  clear e3 ho3 hv3
  rw [show (opsB[0]!).dst = some 92 from by rfl]
  have h92 := ev_put_at (a := a) (show 92 < a.tmps.size by rw [hsz]; decide) (.slice (some ⟨w2.heap.size, 0, none⟩) 1 1)
  replace hsz := (put_sz a (some 92) (.slice (some ⟨w2.heap.size, 0, none⟩) 1 1)).trans hsz
  replace hdf := (put_df a (some 92) (.slice (some ⟨w2.heap.size, 0, none⟩) 1 1)).trans hdf
  generalize a.put (some 92) (.slice (some ⟨w2.heap.size, 0, none⟩) 1 1) = a_1 at *
  have b3 : (w2.alloc (.cells #[.int .i64 1] 3)).heap[w2.heap.size]? = some (.cells #[.int .i64 1] 3 (0, 0)) := heap_alloc_new _ _
  generalize (w2.alloc (.cells #[.int .i64 1] 3)) = w3 at *
  generalize w2.heap.size = s0 at *
  have e4 : (opsB[1]!).op = .buildSlice 22 1 #[(0, .const (.int .i64 3))] := by rfl
  refine pt_op0 fns_ok hJ hB (o := opsB[1]!) (by rfl) (by kernel_rfl) (by rfl) (.slice (some ⟨w3.heap.size, 0, none⟩) 1 1) (w3.alloc (.cells #[.int .i64 3] 3)) (fun τ d => ?_) fun ρ4 x4 Own4 hl4 ho4 hv4 => ?_
  · unfold execOp
    rw [e4]
    simp [go_sem]
    exact ⟨rfl, rfl⟩
  clear e4 ho4 hv4
  rw [show (opsB[1]!).dst = some 93 from by rfl]
  replace h92 := (ev_put_ne (.slice (some ⟨w3.heap.size, 0, none⟩) 1 1) (show 92 ≠ 93 by decide)).trans h92
  have h93 := ev_put_at (a := a_1) (show 93 < a_1.tmps.size by rw [hsz]; decide) (.slice (some ⟨w3.heap.size, 0, none⟩) 1 1)
  replace hsz := (put_sz a_1 (some 93) (.slice (some ⟨w3.heap.size, 0, none⟩) 1 1)).trans hsz
  replace hdf := (put_df a_1 (some 93) (.slice (some ⟨w3.heap.size, 0, none⟩) 1 1)).trans hdf
  generalize a_1.put (some 93) (.slice (some ⟨w3.heap.size, 0, none⟩) 1 1) = a_2 at *
  have b4 : (w3.alloc (.cells #[.int .i64 3] 3)).heap[w3.heap.size]? = some (.cells #[.int .i64 3] 3 (0, 0)) := heap_alloc_new _ _
  have k4 : Kept w3 (w3.alloc (.cells #[.int .i64 3] 3)) := Kept.of_below ((Below.refl _ _).alloc (Nat.le_refl _) _)
  have c3' := (k4.block _ (Array.getElem?_eq_some_iff.1 b3).1).trans b3
  clear b3 k4
  generalize (w3.alloc (.cells #[.int .i64 3] 3)) = w4 at *
  generalize w3.heap.size = s1 at *
  have e5 : (opsB[2]!).op = .buildSlice 23 1 #[(0, .tmp 93)] := by rfl
  refine pt_op0 fns_ok hJ hB (o := opsB[2]!) (by rfl) (by kernel_rfl) (by rfl) (.slice (some ⟨w4.heap.size, 0, none⟩) 1 1) (w4.alloc (.cells #[.slice (some ⟨s1, 0, none⟩) 1 1] 22)) (fun τ d => ?_) fun ρ5 x5 Own5 hl5 ho5 hv5 => ?_
  · unfold execOp
    rw [e5]
    simp [h93, go_sem]
    exact ⟨rfl, rfl⟩
  clear e5 ho5 hv5
  rw [show (opsB[2]!).dst = some 94 from by rfl]
  replace h92 := (ev_put_ne (.slice (some ⟨w4.heap.size, 0, none⟩) 1 1) (show 92 ≠ 94 by decide)).trans h92
  replace h93 := (ev_put_ne (.slice (some ⟨w4.heap.size, 0, none⟩) 1 1) (show 93 ≠ 94 by decide)).trans h93
  have h94 := ev_put_at (a := a_2) (show 94 < a_2.tmps.size by rw [hsz]; decide) (.slice (some ⟨w4.heap.size, 0, none⟩) 1 1)
  replace hsz := (put_sz a_2 (some 94) (.slice (some ⟨w4.heap.size, 0, none⟩) 1 1)).trans hsz
  replace hdf := (put_df a_2 (some 94) (.slice (some ⟨w4.heap.size, 0, none⟩) 1 1)).trans hdf
  generalize a_2.put (some 94) (.slice (some ⟨w4.heap.size, 0, none⟩) 1 1) = a_3 at *
  have b5 : (w4.alloc (.cells #[.slice (some ⟨s1, 0, none⟩) 1 1] 22)).heap[w4.heap.size]? = some (.cells #[.slice (some ⟨s1, 0, none⟩) 1 1] 22 (0, 0)) := heap_alloc_new _ _
  have k5 : Kept w4 (w4.alloc (.cells #[.slice (some ⟨s1, 0, none⟩) 1 1] 22)) := Kept.of_below ((Below.refl _ _).alloc (Nat.le_refl _) _)
  have d3 := (k5.block _ (Array.getElem?_eq_some_iff.1 c3').1).trans c3'
  have d4 := (k5.block _ (Array.getElem?_eq_some_iff.1 b4).1).trans b4
  clear b4 c3' k5
  generalize (w4.alloc (.cells #[.slice (some ⟨s1, 0, none⟩) 1 1] 22)) = w5 at *
  generalize w4.heap.size = s2 at *
  have hrow : ∀ (s : Nat) (v : Value) (e : TypeId), w5.heap[s]? = some (.cells #[v] e (0, 0)) → HasP w5 (.slice (some ⟨s, 0, none⟩) 1 1) 1 [v] := fun s v e h =>
    ⟨⟨⟨rfl, fun n c h => by cases h⟩, _, 1, rfl, Nat.le_refl _, by unfold maxLen; omega, fun _ => ⟨s, 0, rfl, fun j u hu => by rw [cell_of_row w5 _ _ _ _ _ h]; simpa using hu⟩⟩, .inr ⟨_, _, rfl, .inl ⟨_, _, _, h⟩⟩⟩
  obtain ⟨K, hK⟩ : ∃ K : Job, K = { n := 1, v0 := .slice (some ⟨s0, 0, none⟩) 1 1, v1 := .slice (some ⟨s2, 0, none⟩) 1 1, zs := [1], us := [.slice (some ⟨s1, 0, none⟩) 1 1], ws := fun _ => [3] } := ⟨_, rfl⟩
  have hKo : K.Ok := by
    subst hK
    exact ⟨by show 1 ≤ 200; omega, rfl, by simp, fun i => by simp, fun i => by simp⟩
  have hKa : K.At w5 := by
    subst hK
    refine ⟨hrow s0 _ _ d3, hrow s2 _ _ b5, fun i hi => ?_⟩
    have : i = 0 := by have : i < 1 := hi; omega
    subst this
    exact ⟨_, rfl, hrow s1 _ _ d4⟩
  have h0K : K.v0 = .slice (some ⟨s0, 0, none⟩) 1 1 := by subst hK; rfl
  have h1K : K.v1 = .slice (some ⟨s2, 0, none⟩) 1 1 := by subst hK; rfl
  have hnK : K.n = 1 := by subst hK; rfl
  have htK : ∀ {w : World} {b : Nat} {rO : Array Value}, Told K w b rO 0 → ∃ sv, rO[0]? = some sv ∧ Has w 1 sv 1 (ints [1]) := fun {w b rO} ⟨sv, L, h1, h2, h3⟩ => by
    subst hK
    refine ⟨sv, h1, ?_⟩
    have h2' : Lev 1 [3] L := h2
    have h3' : RowS w b sv (give L (1 - least [3] L) [3]) := h3
    rw [one_of_three L h2'] at h3'
    exact h3'.hasP.has
  clear hK d3 d4 b5 hrow
  refine pt_mat fun ⟨Wx, mx⟩ => ?_
  have hD := mx.D
  have hrel := mx.row
  clear mx
  refine pt_call hJ hB (o := opsB[3]!) (by rfl) (by rfl) (f := 7) (args := #[.tmp 92, .tmp 94]) (by rfl) (by kernel_rfl) Try.func7 (by kernel_rfl) (c := c7) (by rfl) fun A' => ?_
  have hnt : Try.f7.ntmps - (#[.tmp 92, .tmp 94] : Array Operand).size = 65 := by kernel_rfl
  have e1 : (#[.tmp 92, .tmp 94] : Array Operand).map a_3.eval ++ Array.replicate 65 undef = #[.slice (some ⟨s0, 0, none⟩) 1 1, .slice (some ⟨s2, 0, none⟩) 1 1, undef, undef, undef, undef, undef, undef, undef, undef, undef, undef, undef, undef, undef, undef, undef, undef, undef, undef, undef, undef, undef, undef, undef, undef, undef, undef, undef, undef, undef, undef, undef, undef, undef, undef, undef, undef, undef, undef, undef, undef, undef, undef, undef, undef, undef, undef, undef, undef, undef, undef, undef, undef, undef, undef, undef, undef, undef, undef, undef, undef, undef, undef, undef, undef, undef] := by
    simp only [List.map_toArray, List.map_cons, List.map_nil, ev_of h92, ev_of h94]
    kernel_rfl
  rw [hnt, e1]
  refine splits (J := K) hKo hnK h0K h1K (fun ρ' w' => Ren.le ρ5 ρ') (fun ρ ρ' w w' h1 _ h2 => h2.trans h1) ?_ hKa (Ren.le.refl _)
  intro F Sh Own ρ a1 A1 w W g b rO hg hO hs hT ha4 ha5 m todo
  have hJ := jud_mgo Try.prog W0 lo (fun v W1 => v = .bool true ∧ BaseOk W0 lo W1) (M + 1) (fun _ => none) Sh
  refine leave2 hJ (b := 7) Try.func7 (t := 4) (u := 5) (by kernel_rfl) (o := opsB[3]!) (by rfl) m (hrel.mono hg) hdf hD ?_
  rw [ha4, ha5, show (opsB[3]!).dst = some 95 from by rfl]
  clear ha4 ha5 m hrel hD hg
  obtain ⟨sv, hsv, hsvH⟩ := htK (hT 0 (by omega))
  have hcell : w.cell? ⟨g, 0, none⟩ = some sv := by
    have := cell_of_row w g 0 _ _ _ hO
    rw [hsv] at this
    exact this
  exact shares_back ((put_sz _ _ _).trans hsz) ((put_df _ _ _).trans hdf) (ev_put_at (by rw [hsz]; decide) _) hcell hsvH
end Go.Proofs.Ytkodpijedinanaa.Sim
