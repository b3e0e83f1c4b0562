/- ShareFair: the walk. -/
import Derived.Test.YtjinbcbpaoophaaShareK
namespace Go.Proofs.Ytjinbcbpaoophaa.shareFair
open Go.ChangeShapes Go.WideShapes Go.ChangeAt Go.RowKit
set_option linter.unusedVariables false

theorem sum_bd (l : List Int) (c : Int) (h : ∀ x ∈ l, 0 ≤ x ∧ x ≤ c) : 0 ≤ l.sum ∧ l.sum ≤ c * l.length := by
  induction l with
  | nil => simp
  | cons a t ih =>
    have h1 := h a (by simp)
    have h2 := ih (fun x hx => h x (by simp [hx]))
    simp only [List.sum_cons, List.length_cons]
    rw [Int.natCast_add, Int.mul_add]
    simp only [Int.natCast_one, Int.mul_one]
    omega
theorem give_ok (L r : Int) (ws : List Int) (hL : 0 ≤ L) (hw : ∀ x ∈ ws, 0 ≤ x ∧ x ≤ 39) (i : Nat) (h : i < ws.length) (h' : i < (give L r ws).length) : 0 ≤ (give L r ws)[i] ∧ (give L r ws)[i] ≤ ws[i] ∧ min ws[i] L ≤ (give L r ws)[i] ∧ (give L r ws)[i] ≤ L + 1 := by
  obtain ⟨r', e⟩ := give_get L r ws i h h'
  have h1 := hw _ (List.getElem_mem h)
  have h2 := give1_bd L r' ws[i] hL h1.1
  rw [e]; omega
theorem sum_take (l : List Int) (k : Nat) (h : k < l.length) : (l.take (k + 1)).sum = (l.take k).sum + l[k] := by
  rw [take_snoc _ _ h, List.sum_append]; simp
theorem one_share (L : Int) (h : Lev 1 [5] L) : give L (1 - least [5] L) [5] = [1] := by
  obtain ⟨h0, h1, h2, h3⟩ := h
  simp only [least, List.map_cons, List.map_nil, List.sum_cons, List.sum_nil] at *
  simp only [give, give1, List.cons.injEq, and_true]
  by_cases hl : L = 1
  · subst hl; rfl
  · have : L = 0 := by
      rcases Int.lt_or_le L 1048576 with h | h
      · have := h3 h; omega
      · omega
    subst this
    have := h3 (by omega)
    omega
set_option maxRecDepth 100000 in
set_option maxHeartbeats 4000000 in
theorem walk (w : World) (a0 : Int) (v1 : Value) (z : List Int) (A1 : Has w 1 v1 z.length (ints z) ∧ ∀ x ∈ z, -9223372036854775808 ≤ x ∧ x ≤ 9223372036854775807)
    (w0 : (Lit.int .i64 a0).wf = true) :
    Calls Try.prog 11 #[.int .i64 a0, v1] w fun e w' => e = .returned (.bool true) ∧ Below w.heap.size w w' := by
  have hA1 := A1.1
  have hok := wantsOf_ok z
  have hlen := wantsOf_le z
  have C := cwantsOf v1 z w hA1
  generalize wantsOf z = ws at *
  have hok' : ∀ x ∈ ws, 0 ≤ x ∧ x ≤ 1048576 := fun x hx => by have := hok x hx; omega
  have Hok := Lib.hid hok
  have Hok' := Lib.hid hok'
  have HCC := Lib.hid C
  obtain ⟨p0, p1⟩ := pick_bd a0 200 (by omega)
  have P200 := Lib.hid fun w => picked a0 200 (by omega) (by omega) w
  generalize pick a0 200 = n at *
  clear hok hok' w0 A1 C hA1
  go_enter Try.func11, Try.ntmps11
  go_wp2_with fail
  refine HCC.out.mono ?_
  rintro e w3 ⟨vw, rfl, hown, hb1⟩
  obtain ⟨aw, capw, rfl⟩ := owns_slice hown
  have Hw := Lib.hid (Has.of_owns hown)
  have Hb3 := Lib.hid hb1
  clear hown hb1 HCC
  go_wp2_with (go_at_call 17; with_reducible refine (P200.out _).mono ?_; rintro e w' ⟨rfl, rfl⟩)
  refine (cshares _ ws n w3 Hw.out Hok'.out (by omega) p0 (by omega)).mono ?_
  rintro e w4 ⟨va, L, rfl, hL, hown, hb4⟩
  obtain ⟨aa, capa, rfl⟩ := owns_slice hown
  have HL := Lib.hid hL
  have Ha := Lib.hid (Has.of_owns hown)
  have Hw4 := Lib.hid (Hw.out.below hb4)
  have Hb4 : Hid (Below w.heap.size w w4) := Hb3.out.trans (hb4.mono Hb3.out.size)
  clear hL hown hb4 Hw Hb3
  go_wp2_with fail
  refine (cshares _ [5] 1 _ (has_block (by first | exact heap_alloc_new _ _ | (simp only [heap_drew, heap_drewN]; exact heap_alloc_new _ _)) rfl (by simp) (by unfold maxLen; simp)) (by simp) (by simp) (by omega) (by omega)).mono ?_
  rintro e w5 ⟨vb, M, rfl, hM, hown, hb5'⟩
  rw [one_share M hM] at hown
  have hb5 : Below w4.heap.size w4 w5 := Below.trans (by repeat (first | exact Below.refl _ _ | refine Below.drew ?_ | refine Below.alloc ?_ (by first | (simp; done) | (simp; omega)) _ | refine Below.setCell ?_ (by first | (simp; done) | (simp; omega)) _)) (hb5'.mono (by simp))
  obtain ⟨ab, capb, rfl⟩ := owns_slice hown
  have Hav := Lib.hid (Ha.out.below hb5)
  have Hwv := Lib.hid (Hw4.out.below hb5)
  have Hb5 : Hid (Below w.heap.size w w5) := Hb4.out.trans (hb5.mono Hb4.out.size)
  obtain ⟨_, a', cap', he, _, _, hcb⟩ := Has.of_owns hown
  simp only [Value.slice.injEq] at he
  obtain ⟨rfl, -, rfl⟩ := he
  obtain ⟨bb, ob, rfl, hcb'⟩ := hcb (by simp)
  have gone := hcb' 0 _ rfl
  rw [Nat.add_zero] at gone
  clear hM hown hb5 hb5' Ha Hw4 Hb4 hcb hcb'
  have Hsum := Lib.hid (share_sum Hok'.out HL.out)
  have Hgive := Lib.hid (give_ok L (n - least ws L) ws HL.out.1 Hok.out)
  have hla := give_length L (n - least ws L) ws
  generalize give L (n - least ws L) ws = A at *
  have Hla := Lib.hid hla
  obtain ⟨_, a', cap', he, _, _, hca⟩ := Hav.out
  simp only [Value.slice.injEq] at he
  obtain ⟨rfl, -, rfl⟩ := he
  obtain ⟨_, a', cap', he, _, _, hcw⟩ := Hwv.out
  simp only [Value.slice.injEq] at he
  obtain ⟨rfl, -, rfl⟩ := he
  have Hca := Lib.hid hca
  have Hcw := Lib.hid hcw
  clear hca hcw hla Hav Hwv
  go_wp2_with fail
  clear gone
  go_loopw [11, 12, 13, 14] (fun s t i _ wr => ∃ k : Nat, k ≤ ws.length ∧ i = .int .i64 k ∧ s = .int .i64 (A.take k).sum ∧ t = .int .i64 (ws.take k).sum ∧ Below w5.heap.size w5 wr) (fun _ _ i _ _ => ws.length - (intOf i).toNat)
  case atStart => exact ⟨0, by omega, rfl, rfl, rfl, Below.refl _ _⟩
  case round =>
    obtain ⟨k, hk, rfl, rfl, rfl, hb⟩ := hrel
    have Hb := Lib.hid hb
    clear hb
    by_cases hlt : k < ws.length
    · have k1 : k < A.length := by have := Hla.out; omega
      obtain ⟨b1, o1, rfl, hc1⟩ := Hca.out (by simp; omega)
      obtain ⟨b2, o2, rfl, hc2⟩ := Hcw.out (by simp; omega)
      have HC1 := Lib.hid hc1
      have HC2 := Lib.hid hc2
      have Hg1 := Lib.hid (hc1 _ _ (ints_get A k k1))
      have Hg2 := Lib.hid (hc2 _ _ (ints_get ws k hlt))
      have g1 := cell_on Hb.out Hg1.out
      have g2 := cell_on Hb.out Hg2.out
      obtain ⟨x0, x1, x2, x3⟩ := Hgive.out k hlt k1
      obtain ⟨y0, y1⟩ := Hok.out _ (List.getElem_mem hlt)
      have Hs := Lib.hid (sum_take A k k1)
      have Ht := Lib.hid (sum_take ws k hlt)
      obtain ⟨s0, s1⟩ := sum_bd (A.take k) 39 (fun x hx => by
        obtain ⟨i, hi, rfl⟩ := List.mem_iff_getElem.1 (List.mem_of_mem_take hx)
        have hi' : i < ws.length := by have := Hla.out; omega
        have := Hgive.out i hi' hi
        have := Hok.out _ (List.getElem_mem hi')
        omega)
      obtain ⟨t0, t1⟩ := sum_bd (ws.take k) 39 (fun x hx => Hok.out x (List.mem_of_mem_take hx))
      rw [List.length_take] at s1 t1
      have s2 : (A.take k).sum ≤ 1000 := by omega
      have t2 : (ws.take k).sum ≤ 1000 := by omega
      generalize hA : A[k] = x at *
      generalize hW : ws[k] = y at *
      clear s1 t1 hc1 hc2 Hca Hcw hA hW
      have d1 : decide (x < 0) = false := by simp; omega
      have d2 : decide (y < x) = false := by simp; omega
      go_wp2
      go_quiet (fail)
      go_wp2_with fail
      clear d1 d2 g1 g2
      have Hbw : Hid (Below w5.heap.size w5 (wr.drewN nq)) := below_drewN Hb.out nq
      clear Hb
      go_loopw [14] (fun j wz => ∃ m : Nat, m ≤ ws.length ∧ j = .int .i64 m ∧ Below w5.heap.size w5 wz) (fun j _ => ws.length - (intOf j).toNat)
      case atStart => exact ⟨0, by omega, rfl, Hbw.out⟩
      case round =>
        obtain ⟨m, hm, rfl, hbz⟩ := hrel
        have Hbz := Lib.hid hbz
        clear hbz Hbw
        by_cases hmt : m < ws.length
        · have m1 : m < A.length := by have := Hla.out; omega
          have g1 := cell_on Hbz.out Hg1.out
          have g2 := cell_on Hbz.out Hg2.out
          have g3 := cell_on Hbz.out (HC1.out _ _ (ints_get A m m1))
          obtain ⟨q0, q1, q2, q3⟩ := Hgive.out m hmt m1
          have q4 := Hok.out _ (List.getElem_mem hmt)
          generalize hQ : A[m] = q at *
          have q5 : q ≤ 40 := by omega
          clear hQ q1 q2 q4
          by_cases hxy : x < y
          · have d1 : decide (x < y) = true := by simp; omega
            have d2 : decide (x + 1 < q) = false := by simp; omega
            have d3 : IntKind.i64.wrap (x + 1) = x + 1 := IntWalk.i64_in _ (by omega)
            go_wp2
            go_quiet (fail)
            go_wp2
            go_roundw
            case rel => exact ⟨m + 1, by omega, by go_num, below_drewN Hbz.out _⟩
            case measure => simp [intOf]; omega
          · have d1 : decide (x < y) = false := by simp; omega
            go_wp2
            go_quiet (fail)
            go_wp2
            go_roundw
            case rel => exact ⟨m + 1, by omega, by go_num, below_drewN Hbz.out _⟩
            case measure => simp [intOf]; omega
        · go_wp2
          go_roundw
          case rel => exact ⟨k + 1, by omega, by go_num, by rw [Hs.out], by rw [Ht.out], Hbz.out⟩
          case measure => simp [intOf]; omega
    · obtain rfl : k = ws.length := by omega
      have ht : A.take ws.length = A := List.take_of_length_le (by have := Hla.out; omega)
      have ht2 : ws.take ws.length = ws := List.take_length
      have Hfin : Hid (Below w.heap.size w wr) := Hb5.out.trans (Hb.out.mono Hb5.out.size)
      rw [ht, ht2]
      have hs := Hsum.out
      have hmin : (A.sum == (if ws.sum < n then ws.sum else n)) = true := by rw [beq_iff_eq, hs]; split <;> omega
      have hmin2 : (A.sum == (if n < ws.sum then n else ws.sum)) = true := by rw [beq_iff_eq, hs]; split <;> omega
      clear Hca Hcw ht ht2 hs
      generalize A.sum = SA at *
      generalize ws.sum = SW at *
      go_wp2
      all_goals go_ret
      all_goals exact ⟨rfl, Hfin.out⟩
end Go.Proofs.Ytjinbcbpaoophaa.shareFair
