/- ShareGrows: the walk. -/
import Derived.Test.YtjinbcbpaoophaaShareK
namespace Go.Proofs.Ytjinbcbpaoophaa.shareGrows
open Go.ChangeShapes Go.WideShapes Go.ChangeAt Go.RowKit
set_option linter.unusedVariables false

theorem sum_bd (l : List Int) (c : Int) (h : ∀ x ∈ l, 0 ≤ x ∧ x ≤ c) : 0 ≤ l.sum ∧ l.sum ≤ c * l.length := by
  induction l with
  | nil => simp
  | cons a t ih =>
    have h1 := h a (by simp)
    have h2 := ih (fun x hx => h x (by simp [hx]))
    simp only [List.sum_cons, List.length_cons]
    rw [Int.natCast_add, Int.mul_add]
    simp only [Int.natCast_one, Int.mul_one]
    omega
theorem give_mem (L r : Int) (ws : List Int) (hL : 0 ≤ L) (c : Int) (hw : ∀ x ∈ ws, 0 ≤ x ∧ x ≤ c) : ∀ x ∈ give L r ws, 0 ≤ x ∧ x ≤ c := by
  intro x hx
  obtain ⟨i, hi, rfl⟩ := List.mem_iff_getElem.1 hx
  have hi' : i < ws.length := by rw [give_length] at hi; exact hi
  obtain ⟨r', e⟩ := give_get L r ws i hi' hi
  have h1 := hw _ (List.getElem_mem hi')
  have h2 := give1_bd L r' ws[i] hL h1.1
  rw [e]; omega
theorem sum_take (l : List Int) (k : Nat) (h : k < l.length) : (l.take (k + 1)).sum = (l.take k).sum + l[k] := by
  rw [take_snoc _ _ h, List.sum_append]; simp
set_option maxRecDepth 100000 in
set_option maxHeartbeats 2000000 in
theorem walk (w : World) (a0 : Int) (v1 : Value) (z : List Int) (A1 : Has w 1 v1 z.length (ints z) ∧ ∀ x ∈ z, -9223372036854775808 ≤ x ∧ x ≤ 9223372036854775807) (a2 : Int)
    (w0 : (Lit.int .i64 a0).wf = true) (w2 : (Lit.int .i64 a2).wf = true) :
    Calls Try.prog 13 #[.int .i64 a0, v1, .int .i64 a2] w fun e w' => e = .returned (.bool true) ∧ Below w.heap.size w w' := by
  have hA1 := A1.1
  obtain ⟨ws, hws⟩ : ∃ ws, ws = wantsOf z ++ [9] := ⟨_, rfl⟩
  have hl10 := wantsOf_le z
  have hwl : ws.length = (wantsOf z).length + 1 := by rw [hws]; simp
  have hok : ∀ x ∈ ws, 0 ≤ x ∧ x ≤ 39 := fun x hx => by
    rw [hws] at hx
    rcases List.mem_append.1 hx with h | h
    · exact wantsOf_ok z x h
    · simp at h; omega
  have hok' : ∀ x ∈ ws, 0 ≤ x ∧ x ≤ 1048576 := fun x hx => by have := hok x hx; omega
  have hsum : 9 ≤ ws.sum := by
    rw [hws, List.sum_append]
    have := (sum_bd (wantsOf z) 39 (wantsOf_ok z)).1
    simp; omega
  have Hok := Lib.hid hok
  have Hok' := Lib.hid hok'
  have Hws := Lib.hid hws
  have Hwl := Lib.hid hwl
  have hlen : ws.length ≤ 11 := by omega
  obtain ⟨p0, p1⟩ := pick_bd a0 200 (by omega)
  obtain ⟨q0, q1⟩ := pick_bd a2 30 (by omega)
  have P200 := Lib.hid fun w => picked a0 200 (by omega) (by omega) w
  have P30 := Lib.hid fun w => picked a2 30 (by omega) (by omega) w
  generalize pick a0 200 = n at *
  generalize pick a2 30 = m at *
  clear hok hok' hws hwl w0 w2 A1
  go_enter Try.func13, Try.ntmps13
  go_wp2_with fail
  refine (cwantsOf v1 z w hA1).mono ?_
  rintro e w1 ⟨vw, rfl, hown, hb1⟩
  have Hown := Lib.hid hown
  have Hb1 := Lib.hid hb1
  have hsz := hb1.size
  clear hown hb1
  go_wp2_with (at_builtin; refine wp_app1 (w0 := w1) 29 3 1 8 _ elInt Try.underlying29 w.heap.size _ _ _ Hown.out (by repeat (first | exact Below.refl _ _ | refine Below.drew ?_ | refine Below.alloc ?_ (by first | (simp; done) | (simp; omega)) _ | refine Below.setCell ?_ (by first | (simp; done) | (simp; omega)) _)) [.int .i64 9] rfl _ _ rfl rfl rfl (by first | exact heap_alloc_new _ _ | (simp only [heap_drew, heap_drewN]; exact heap_alloc_new _ _)) (by simp) rfl rfl (by omega) (by omega) hsz ?_; intro v3 w3 hown3 hgrow3 hb3)
  rw [ints_snoc, ← Hws.out, ← Hwl.out] at hown3
  obtain ⟨aw, capw, rfl⟩ := owns_slice hown3
  have Hw := Lib.hid (Has.of_owns hown3)
  have Hb3 := Lib.hid (Hb1.out.trans hb3)
  clear Hown hown3 hgrow3 hb3 Hb1 hsz
  go_wp2_with (go_at_call 17; with_reducible refine (P200.out _).mono ?_; rintro e w' ⟨rfl, rfl⟩)
  refine (cshares _ ws n w3 Hw.out Hok'.out (by omega) p0 (by omega)).mono ?_
  rintro e w4 ⟨va, L, rfl, hL, hown, hb4⟩
  obtain ⟨aa, capa, rfl⟩ := owns_slice hown
  have HL := Lib.hid hL
  have Ha := Lib.hid (Has.of_owns hown)
  have Hw4 := Lib.hid (Hw.out.below hb4)
  have Hb4 : Hid (Below w.heap.size w w4) := Hb3.out.trans (hb4.mono Hb3.out.size)
  clear hL hown hb4 Hw Hb3
  go_wp2_with (go_at_call 17; with_reducible refine (P30.out _).mono ?_; rintro e w' ⟨rfl, rfl⟩)
  refine (cshares _ ws (n + 1 + m) w4 Hw4.out Hok'.out (by omega) (by omega) (by omega)).mono ?_
  rintro e w5 ⟨vb, M, rfl, hM, hown, hb5⟩
  obtain ⟨ab, capb, rfl⟩ := owns_slice hown
  have HM := Lib.hid hM
  have Hbv := Lib.hid (Has.of_owns hown)
  have Hav := Lib.hid (Ha.out.below hb5)
  have Hb5 : Hid (Below w.heap.size w w5) := Hb4.out.trans (hb5.mono Hb4.out.size)
  clear hM hown hb5 Ha Hw4 Hb4
  have Hle := Lib.hid (share_grows Hok'.out HL.out HM.out (by omega))
  have Hsum := Lib.hid (share_sum Hok'.out HM.out)
  have Hmem := Lib.hid (give_mem M (n + 1 + m - least ws M) ws HM.out.1 39 Hok.out)
  have hla := give_length L (n - least ws L) ws
  have hlb := give_length M (n + 1 + m - least ws M) ws
  generalize give L (n - least ws L) ws = A at *
  generalize give M (n + 1 + m - least ws M) ws = B at *
  have Hla := Lib.hid hla
  have Hlb := Lib.hid hlb
  obtain ⟨_, a', cap', he, _, _, hca⟩ := Hav.out
  simp only [Value.slice.injEq] at he
  obtain ⟨rfl, -, rfl⟩ := he
  obtain ⟨_, a', cap', he, _, _, hcb⟩ := Hbv.out
  simp only [Value.slice.injEq] at he
  obtain ⟨rfl, -, rfl⟩ := he
  have Hca := Lib.hid hca
  have Hcb := Lib.hid hcb
  clear hca hcb hla hlb Hav Hbv
  go_wp2_with fail
  go_loopw [13, 14] (fun s i wr => ∃ k : Nat, k ≤ ws.length ∧ i = .int .i64 k ∧ s = .int .i64 (B.take k).sum ∧ Below w5.heap.size w5 wr) (fun _ i _ => ws.length - (intOf i).toNat)
  case atStart => exact ⟨0, by omega, rfl, rfl, Below.refl _ _⟩
  case round =>
    obtain ⟨k, hk, rfl, rfl, hb⟩ := hrel
    have Hb := Lib.hid hb
    clear hb
    by_cases hlt : k < ws.length
    · have k1 : k < A.length := by have := Hla.out; omega
      have k2 : k < B.length := by have := Hlb.out; omega
      obtain ⟨b1, o1, rfl, hc1⟩ := Hca.out (by simp; omega)
      obtain ⟨b2, o2, rfl, hc2⟩ := Hcb.out (by simp; omega)
      have g1 := cell_on Hb.out (hc1 _ _ (ints_get A k k1))
      have g2 := cell_on Hb.out (hc2 _ _ (ints_get B k k2))
      have hxy := Hle.out k k1 k2
      obtain ⟨y0, y1⟩ := Hmem.out _ (List.getElem_mem k2)
      have Hs := Lib.hid (sum_take B k k2)
      obtain ⟨s0, s1⟩ := sum_bd (B.take k) 39 (fun x hx => Hmem.out x (List.mem_of_mem_take hx))
      rw [List.length_take] at s1
      have s2 : (B.take k).sum ≤ 1000 := by omega
      generalize A[k] = x at *
      generalize B[k] = y at *
      have d1 : decide (y < x) = false := by simp; omega
      clear s1 hc1 hc2 Hca Hcb
      go_wp2
      go_quiet (fail)
      go_wp2
      go_roundw
      case rel => exact ⟨k + 1, by omega, by go_num, by rw [Hs.out], below_drewN Hb.out _⟩
      case measure => simp [intOf]; omega
    · obtain rfl : k = ws.length := by omega
      have ht : B.take ws.length = B := List.take_of_length_le (by have := Hlb.out; omega)
      have hpos : 0 < B.sum := by have := Hsum.out; omega
      have Hfin : Hid (Below w.heap.size w wr) := Hb5.out.trans (Hb.out.mono Hb5.out.size)
      rw [ht]
      clear Hca Hcb ht
      go_wp2
      go_ret
      exact ⟨rfl, Hfin.out⟩
end Go.Proofs.Ytjinbcbpaoophaa.shareGrows
