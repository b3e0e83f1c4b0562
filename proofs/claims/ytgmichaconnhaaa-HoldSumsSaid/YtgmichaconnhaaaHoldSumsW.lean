/- HoldSums: the walk. -/
import Derived.Test.YtgmichaconnhaaaHoldSumsL
import Derived.Test.YtgmichaconnhaaaOpenWish
namespace Go.Proofs.Ytgmichaconnhaaa.holdSums
open Go.ChangeShapes Go.WideShapes Go.ChangeAt Go.RowKit
set_option linter.unusedVariables false
set_option linter.unusedSimpArgs false

/-- What is checked of the k-th. -/
theorem round_ok (l : List Ord) (k : Nat) (hk : k < l.length) : (0 ≤ ((shfFold (l.take k)).1.out l[k]).free ∧ 0 ≤ ((shfFold (l.take k)).1.out l[k]).held ∧ 0 ≤ ((shfFold (l.take k)).1.out l[k]).used) ∧ ((shfFold (l.take k)).1.out l[k]).free + ((shfFold (l.take k)).1.out l[k]).held + ((shfFold (l.take k)).1.out l[k]).used = gains l (k + 1) ∧ gains l (k + 1) ≤ 1048576 ∧
    gains l (k + 1) = gains l k + (if l[k].kind = 1 ∧ ((shfFold (l.take k)).1.out l[k]).code = 0 then l[k].count else 0) ∧ 0 ≤ gains l k ∧ gains l k ≤ 1048576 := by
  have h1 := fold_ok l (k + 1) (by omega)
  have h2 := all_gains l (k + 1) (by omega)
  have h3 := fold_ok l k (by omega)
  have h4 := all_gains l k (by omega)
  rw [shfFold_take l k hk] at h1 h2
  simp only [shfStep] at h1 h2
  have e : gains l (k + 1) = gains l k + (if l[k].kind = 1 ∧ ((shfFold (l.take k)).1.out l[k]).code = 0 then l[k].count else 0) := by
    simp only [gains, List.getElem?_eq_getElem hk, gain]
  have a1 := h1.free
  have a2 := h1.nonneg
  have a3 := h1.used
  have a4 := h1.sum
  have b1 := h3.free
  have b2 := h3.nonneg
  have b3 := h3.used
  have b4 := h3.sum
  unfold Shf.all at h2 h4
  refine ⟨⟨a1, a2, a3⟩, h2, by omega, e, by omega, by omega⟩
set_option maxRecDepth 100000 in
set_option maxHeartbeats 8000000 in
theorem walk (w : World) (v0 : Value) (ll : List Ord) (A1 : Has w 4 v0 ll.length (ords ll)) :
    Calls Try.prog 3 #[v0] w fun e w' => e = .returned (.bool true) ∧ Below w.heap.size w w' := by
  have CL := Lib.hid (cordersOf v0 ll 150 w A1 (by omega))
  have hok := ordersOf_ok ll 150
  have hl60 := ordersOf_len ll 150
  generalize ordersOf ll 150 = l at *
  have Hok := Lib.hid hok
  clear A1 hok
  go_enter Try.func3, Try.ntmps3
  go_wp2_with fail
  refine CL.out.mono ?_
  rintro e w1 ⟨vl, rfl, hown, hb1⟩
  obtain ⟨al, cl, rfl⟩ := owns_slice hown
  have HL := Lib.hid (Has.of_owns hown)
  have Hb1 := Lib.hid hb1
  clear hown hb1 CL
  have CM := Lib.hid (cstocked _ l w1 HL.out Hok.out (by omega))
  go_wp2_with fail
  refine CM.out.mono ?_
  rintro e w2 ⟨va, rfl, hown, hb2⟩
  have HO := Lib.hid hown
  have HL2 := Lib.hid (HL.out.below hb2)
  have Hw2 : Hid (Below w.heap.size w w2) := Hb1.out.trans (hb2.mono Hb1.out.size)
  obtain ⟨aS, cS, rfl⟩ := owns_slice hown
  clear hown hb2 CM HL Hb1
  go_wp2_with fail
  refine (cshelfSure w2).mono ?_
  rintro e w5 ⟨rfl, hb5⟩
  have HO5 := Lib.hid (owns_below HO.out hb5)
  have HL5 := Lib.hid (HL2.out.below hb5)
  have Hw5 : Hid (Below w.heap.size w w5) := Hw2.out.trans (hb5.mono Hw2.out.size)
  clear hb5 HO HL2 Hw2
  go_wp2_with fail
  go_loopw [6, 7] (fun ga i wr => ∃ k : Nat, k ≤ l.length ∧ i = .int .i64 k ∧ ga = .int .i64 (gains l k) ∧ Hid (Below w5.heap.size w5 wr)) (fun _ i _ => l.length - (intOf i).toNat)
  case atStart => exact ⟨0, by omega, rfl, rfl, Below.refl _ _⟩
  case round =>
    obtain ⟨k, hk, rfl, rfl, HB⟩ := hrel
    by_cases hlt : k < l.length
    · obtain ⟨b, off, cap, he, -, x0, x1, x2, x3⟩ := ord_get HL5.out k hlt
      simp only [Value.slice.injEq] at he
      obtain ⟨rfl, -, rfl⟩ := he
      obtain ⟨g, cap', he, -, y0, y1, y2, y3, y4⟩ := stk_at HO5.out k hlt
      simp only [Value.slice.injEq] at he
      obtain ⟨rfl, -, rfl⟩ := he
      replace x0 := cell_on HB.out x0
      replace x1 := cell_on HB.out x1
      replace y0 := cell_on HB.out y0
      replace y2 := cell_on HB.out y2
      replace y3 := cell_on HB.out y3
      replace y4 := cell_on HB.out y4
      have hxc := (Hok.out _ (List.getElem_mem hlt)).count
      obtain ⟨⟨r0, r1, r2⟩, r3, r4, r5, r6, r7⟩ := round_ok l k hlt
      generalize ((shfFold (l.take k)).1.out l[k]).code = co at *
      generalize ((shfFold (l.take k)).1.out l[k]).free = fr at *
      generalize ((shfFold (l.take k)).1.out l[k]).held = hd at *
      generalize ((shfFold (l.take k)).1.out l[k]).used = us at *
      generalize l[k].kind = kd at *
      generalize l[k].count = ct at *
      generalize hg1 : gains l (k + 1) = g1 at *
      have Hg1 := Lib.hid hg1
      generalize gains l k = g0 at *
      have hltz : (k : Int) < (l.length : Int) := by omega
      have d0 : decide (fr < 0) = false := by simp; omega
      have d1 : decide (hd < 0) = false := by simp; omega
      have d2 : decide (us < 0) = false := by simp; omega
      have w0 : IntKind.i64.wrap (fr + hd) = fr + hd := IntWalk.i64_in _ (by omega)
      have w1 : IntKind.i64.wrap (fr + hd + us) = fr + hd + us := IntWalk.i64_in _ (by omega)
      have w2 : IntKind.i64.wrap (g0 + ct) = g0 + ct := IntWalk.i64_in _ (by omega)
      clear x2 x3 y1 hg1
      by_cases hk1 : kd = 1
      · by_cases hc0 : co = 0
        · rw [if_pos ⟨hk1, hc0⟩] at r5
          subst hk1; subst hc0
          have d3 : decide (g0 + ct < fr) = false := by simp; omega
          have d4 : decide (g0 + ct < hd) = false := by simp; omega
          have d5 : decide (g0 + ct < us) = false := by simp; omega
          have d6 : (fr + hd + us != g0 + ct) = false := by simp; omega
          clear r0 r1 r2 r3 r4 r6 r7
          go_upto_region 11 with (fail)
          go_quiet (fail)
          go_wp2_with fail
          go_roundw
          case rel => exact ⟨k + 1, by omega, by go_num, by rw [Hg1.out, r5], below_drewN HB.out _⟩
          case measure => first | (simp [intOf]; done) | (simp [intOf]; omega)
        · rw [if_neg (fun h => hc0 h.2), Int.add_zero] at r5
          subst hk1
          have hcb : (co == 0) = false := by rw [beq_eq_false_iff_ne]; exact hc0
          have d3 : decide (g0 < fr) = false := by simp; omega
          have d4 : decide (g0 < hd) = false := by simp; omega
          have d5 : decide (g0 < us) = false := by simp; omega
          have d6 : (fr + hd + us != g0) = false := by simp; omega
          clear r0 r1 r2 r3 r4 r6 r7
          go_upto_region 11 with (fail)
          go_quiet (fail)
          go_wp2_with fail
          go_roundw
          case rel => exact ⟨k + 1, by omega, by go_num, by rw [Hg1.out, r5], below_drewN HB.out _⟩
          case measure => first | (simp [intOf]; done) | (simp [intOf]; omega)
      · rw [if_neg (fun h => hk1 h.1), Int.add_zero] at r5
        have hkb : (kd == 1) = false := by rw [beq_eq_false_iff_ne]; exact hk1
        have d3 : decide (g0 < fr) = false := by simp; omega
        have d4 : decide (g0 < hd) = false := by simp; omega
        have d5 : decide (g0 < us) = false := by simp; omega
        have d6 : (fr + hd + us != g0) = false := by simp; omega
        clear r0 r1 r2 r3 r4 r6 r7
        go_upto_region 11 with (fail)
        go_quiet (fail)
        go_wp2_with fail
        go_roundw
        case rel => exact ⟨k + 1, by omega, by go_num, by rw [Hg1.out, r5], below_drewN HB.out _⟩
        case measure => first | (simp [intOf]; done) | (simp [intOf]; omega)
    · obtain rfl : k = l.length := by omega
      go_wp2_with fail
      go_ret
      exact ⟨rfl, Hw5.out.trans (HB.out.mono Hw5.out.size)⟩
end Go.Proofs.Ytgmichaconnhaaa.holdSums
