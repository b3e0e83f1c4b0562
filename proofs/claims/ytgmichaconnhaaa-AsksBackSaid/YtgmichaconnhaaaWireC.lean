/- Package wire: the contract of (*strip).put. -/
import Derived.Test.YtgmichaconnhaaaWireB
import Derived.Test.YtgmichaconnhaaaBits
namespace Go.Proofs.Ytgmichaconnhaaa
open Go.ChangeShapes Go.WideShapes Go.ChangeAt Go.RowKit
set_option linter.unusedVariables false

/-- A strip in memory: its block S, its bytes in block g (n of them), the bits that were put. -/
structure Strip (w : World) (S g n : Nat) (bs : List Nat) : Prop where
  c0 : w.cell? ⟨S, 0, none⟩ = some (.slice (some ⟨g, 0, none⟩) n n)
  c1 : w.cell? ⟨S, 1, none⟩ = some (.int .i64 bs.length)
  f0 : w.frozen? ⟨S, 0, none⟩ = false
  f1 : w.frozen? ⟨S, 1, none⟩ = false
  ne : S ≠ g
  row : w.heap[g]? = some (.cells ((List.range n).map fun j => Value.int .u8 (byteOf bs j)).toArray 5 (0, 0))
  bits : Bits bs
theorem Strip.cell {w : World} {S g n : Nat} {bs : List Nat} (h : Strip w S g n bs) (j : Nat) (hj : j < n) : w.cell? ⟨g, j, none⟩ = some (.int .u8 (byteOf bs j)) := by
  rw [cell_of_row w g j _ _ _ h.row]; simp [hj]
set_option maxRecDepth 100000 in
set_option maxHeartbeats 1000000 in
theorem cput (S g n : Nat) (bs : List Nat) (b : Nat) (w : World) (h : Strip w S g n bs) (hb : b ≤ 1) (hn : bs.length < 8 * n) (hn' : n ≤ 1000000) :
    Calls Try.prog 54 #[.pointer (some ⟨S, 0, none⟩), .int .i64 b] w fun e w' => e = .returned (.tuple #[]) ∧ ∃ m, w' = (((w.setCell ⟨g, bs.length / 8, none⟩ (.int .u8 (byteOf (bs ++ [b]) (bs.length / 8))))).setCell ⟨S, 1, none⟩ (.int .i64 (bs.length + 1))).drewN m := by
  have hc0 := h.c0
  have hc1 := h.c1
  have hf1 := h.f1
  have hcell := h.cell (bs.length / 8) (by omega)
  have hne := h.ne
  have hfg : w.frozen? ⟨g, bs.length / 8, none⟩ = false := by simp [World.frozen?, h.row]
  have HH := Lib.hid (byteOf_here bs b h.bits hb)
  have hlt := byteOf_lt bs h.bits (bs.length / 8)
  generalize hL : bs.length = L at *
  generalize byteOf bs (L / 8) = B at *
  generalize byteOf (bs ++ [b]) (L / 8) = B2 at *
  obtain ⟨q, r, hq, hr, e1, e2⟩ : ∃ q r : Nat, q = L / 8 ∧ r = L % 8 ∧ r < 8 ∧ q < n := ⟨L / 8, L % 8, rfl, rfl, by omega, by omega⟩
  rw [← hr] at HH
  rw [← hq] at hcell hfg ⊢
  have hB2 : B2 < 256 := by
    rw [← HH.out]
    refine Nat.or_lt_two_pow (n := 8) hlt ?_
    rw [Nat.shiftLeft_eq]
    have := Nat.pow_le_pow_right (n := 2) (by decide) (show 7 - r ≤ 7 by omega)
    have : b * 2 ^ (7 - r) ≤ 1 * 2 ^ (7 - r) := Nat.mul_le_mul_right _ hb
    omega
  obtain ⟨sh, hs⟩ : ∃ sh, b <<< (7 - r) = sh := ⟨_, rfl⟩
  have hsh : (b : Int) * 2 ^ (7 - r) = (sh : Int) := by rw [← hs, Nat.shiftLeft_eq]; simp
  have hshl : sh < 256 := by
    rw [← hs, Nat.shiftLeft_eq]
    have := Nat.pow_le_pow_right (n := 2) (by decide) (show 7 - r ≤ 7 by omega)
    have : b * 2 ^ (7 - r) ≤ 1 * 2 ^ (7 - r) := Nat.mul_le_mul_right _ hb
    omega
  rw [hs] at HH
  have hor := u8_or_nat B sh hlt hshl
  rw [HH.out] at hor
  have w1 : IntKind.i64.wrap (↑L / 8) = ↑q := by rw [IntWalk.i64_in _ (by omega)]; omega
  have w2' : (L : Int).tmod 8 = ↑r := by rw [Int.tmod_eq_emod_of_nonneg (by omega)]; omega
  have w3 : IntKind.i64.wrap (7 - ↑r) = ((7 - r : Nat) : Int) := by rw [IntWalk.i64_in _ (by omega)]; omega
  have w4 : IntKind.i64.wrap ((b : Int) * 2 ^ (7 - r)) = (sh : Int) := by rw [hsh, IntWalk.i64_in _ (by omega)]
  have w5 : IntKind.u8.wrap (sh : Int) = (sh : Int) := IntWalk.u8_in _ (by omega)
  have w6 : min (7 - r) 64 = 7 - r := by omega
  clear hsh hq hr hs
  go_enter Try.func54, Try.ntmps54
  go_wp2
  refine wp_still_tail 22 (by kernel_rfl) (by kernel_rfl) ?_
  simp only [List.take_succ_cons, List.take_zero, List.drop_succ_cons, List.drop_zero]
  repeat still_step
  refine wpStill_nil ?_
  clear w1 w2' w3 w4 w5 w6 hor HH
  go_wp2
  go_end0
  exact ⟨rfl, 1, rfl⟩
/-- .. and what that means: one bit more stands in the strip, and nothing else has changed. -/
theorem cput' (S g n : Nat) (bs : List Nat) (b : Nat) (w : World) (h : Strip w S g n bs) (hb : b ≤ 1) (hn : bs.length < 8 * n) (hn' : n ≤ 1000000) :
    Calls Try.prog 54 #[.pointer (some ⟨S, 0, none⟩), .int .i64 b] w fun e w' => e = .returned (.tuple #[]) ∧ Strip w' S g n (bs ++ [b]) ∧ Wrote (fun k => k = S ∨ k = g) w w' := by
  refine (cput S g n bs b w h hb hn hn').mono ?_
  rintro e w' ⟨rfl, m, rfl⟩
  refine ⟨rfl, ?_, (((Wrote.refl _ _).setCell (Or.inr rfl) _).setCell (Or.inl rfl) _).drewN _⟩
  have hne := h.ne
  have h0 := h.c0
  have h1 := h.c1
  have hrow := h.row
  have h1' : ((w.setCell ⟨g, bs.length / 8, none⟩ (.int .u8 (byteOf (bs ++ [b]) (bs.length / 8)))).cell? ⟨S, 1, none⟩) = some (.int .i64 bs.length) := by
    rw [World.cell?_setCell_other _ _ _ _ (by simp)]; exact h1
  refine ⟨?_, ?_, ?_, ?_, hne, ?_, h.bits.snoc hb⟩
  · rw [World.cell?_drewN, World.cell?_setCell_other _ _ _ _ (by simp), World.cell?_setCell_other _ _ _ _ (by simp)]; exact h0
  · rw [World.cell?_drewN, World.cell?_setCell_same _ _ _ h1']; simp
  · rw [World.frozen?_drewN, World.frozen?_setCell, World.frozen?_setCell]; exact h.f0
  · rw [World.frozen?_drewN, World.frozen?_setCell, World.frozen?_setCell]; exact h.f1
  · rw [World.heap_drewN, heap_setCell_other _ _ _ _ (Ne.symm hne), heap_setCell_same _ _ _ _ _ _ hrow]
    congr 2
    apply Array.ext
    · simp
    · intro j hj1 hj2
      by_cases e : bs.length / 8 = j
      · subst e; simp
      · rw [Array.getElem_setIfInBounds_ne (by simpa using hj2) e]
        simp [byteOf_other _ _ _ (Ne.symm e)]
end Go.Proofs.Ytgmichaconnhaaa
