/- ShareTurn: the walk. -/
import Derived.Test.YtjinbcbpaoophaaShareLawB
namespace Go.Proofs.Ytjinbcbpaoophaa.shareTurn
open Go.ChangeShapes Go.WideShapes Go.ChangeAt Go.RowKit
set_option linter.unusedVariables false

theorem swap_least (ws : List Int) (l : Int) (i k : Nat) (hi : i < ws.length) (hk : k < ws.length) : least ((ws.set i ws[k]).set k ws[i]) l = least ws l := by
  rw [least_set _ _ _ (by simpa using hk), least_set _ _ _ hi]
  by_cases h : i = k
  · subst h; simp
  · rw [List.getElem_set_ne h]; omega
/-- Where position j stands behind the exchange of i and k. -/
def turned (i k j : Nat) : Nat := if j = i then k else if j = k then i else j
theorem turned_get (ws : List Int) (i k j : Nat) (hi : i < ws.length) (hk : k < ws.length) (hj : j < ws.length) (h : turned i k j < ((ws.set i ws[k]).set k ws[i]).length) : ((ws.set i ws[k]).set k ws[i])[turned i k j] = ws[j] := by
  unfold turned at *
  by_cases h1 : j = i
  · subst h1; simp
  · by_cases h2 : j = k
    · subst h2
      simp only [h1, if_false, if_true]
      rw [List.getElem_set_ne (by omega), List.getElem_set_self]
    · simp only [h1, h2, if_false]
      rw [List.getElem_set_ne (by omega), List.getElem_set_ne (by omega)]
theorem near (t : Int) (ws : List Int) (L M : Int) (i k j : Nat) (hi : i < ws.length) (hk : k < ws.length) (hj : j < ws.length) (h0 : ∀ x ∈ ws, 0 ≤ x) (h : Lev t ws L) (h' : Lev t ((ws.set i ws[k]).set k ws[i]) M)
    (h1 : j < (give L (t - least ws L) ws).length) (h2 : turned i k j < (give M (t - least ((ws.set i ws[k]).set k ws[i]) M) ((ws.set i ws[k]).set k ws[i])).length) :
    (give L (t - least ws L) ws)[j] - (give M (t - least ((ws.set i ws[k]).set k ws[i]) M) ((ws.set i ws[k]).set k ws[i]))[turned i k j] ≤ 1 ∧
    (give M (t - least ((ws.set i ws[k]).set k ws[i]) M) ((ws.set i ws[k]).set k ws[i]))[turned i k j] - (give L (t - least ws L) ws)[j] ≤ 1 := by
  have hL : L = M := by
    refine Lev.unique (t := t) (ws := ws) h ?_
    obtain ⟨a, b, c, d⟩ := h'
    refine ⟨a, b, ?_, fun hl => ?_⟩
    · rw [swap_least _ _ _ _ hi hk] at c; exact c
    · have := d hl; rw [swap_least _ _ _ _ hi hk] at this; exact this
  subst hL
  have h3 : turned i k j < ((ws.set i ws[k]).set k ws[i]).length := by rw [give_length] at h2; exact h2
  obtain ⟨r1, e1⟩ := give_get L (t - least ws L) ws j hj h1
  obtain ⟨r2, e2⟩ := give_get L (t - least ((ws.set i ws[k]).set k ws[i]) L) ((ws.set i ws[k]).set k ws[i]) (turned i k j) h3 h2
  rw [e1, e2, turned_get ws i k j hi hk hj h3]
  have := h0 _ (List.getElem_mem hj)
  have b1 := give1_bd L r1 ws[j] h.1 this
  have b2 := give1_bd L r2 ws[j] h.1 this
  omega
theorem sum_bd (l : List Int) (c : Int) (h : ∀ x ∈ l, 0 ≤ x ∧ x ≤ c) : 0 ≤ l.sum ∧ l.sum ≤ c * l.length := by
  induction l with
  | nil => simp
  | cons a t ih =>
    have h1 := h a (by simp)
    have h2 := ih (fun x hx => h x (by simp [hx]))
    simp only [List.sum_cons, List.length_cons]
    rw [Int.natCast_add, Int.mul_add]
    simp only [Int.natCast_one, Int.mul_one]
    omega
theorem sum_take (l : List Int) (k : Nat) (h : k < l.length) : (l.take (k + 1)).sum = (l.take k).sum + l[k] := by
  rw [take_snoc _ _ h, List.sum_append]; simp
theorem give_le (L r : Int) (ws : List Int) (hL : 0 ≤ L) (hw : ∀ x ∈ ws, 0 ≤ x ∧ x ≤ 39) : ∀ x ∈ give L r ws, 0 ≤ x ∧ x ≤ 39 := by
  intro x hx
  obtain ⟨i, hi, rfl⟩ := List.mem_iff_getElem.1 hx
  have hi' : i < ws.length := by rw [give_length] at hi; exact hi
  obtain ⟨r', e⟩ := give_get L r ws i hi' hi
  have h1 := hw _ (List.getElem_mem hi')
  have h2 := give1_bd L r' ws[i] hL h1.1
  rw [e]; omega
set_option maxRecDepth 100000 in
set_option maxHeartbeats 4000000 in
theorem walk (w : World) (a0 : Int) (v1 : Value) (z : List Int) (A1 : Has w 1 v1 z.length (ints z) ∧ ∀ x ∈ z, -9223372036854775808 ≤ x ∧ x ≤ 9223372036854775807) (a2 : Int) (a3 : Int)
    (w0 : (Lit.int .i64 a0).wf = true) (w2 : (Lit.int .i64 a2).wf = true) (w3 : (Lit.int .i64 a3).wf = true) :
    Calls Try.prog 14 #[.int .i64 a0, v1, .int .i64 a2, .int .i64 a3] w fun e w' => e = .returned (.bool true) ∧ Below w.heap.size w w' := by
  have hA1 := A1.1
  obtain ⟨ws, hws⟩ : ∃ ws, ws = wantsOf z ++ [6] := ⟨_, rfl⟩
  have hl10 := wantsOf_le z
  have hwl : ws.length = (wantsOf z).length + 1 := by rw [hws]; simp
  have hok : ∀ x ∈ ws, 0 ≤ x ∧ x ≤ 39 := fun x hx => by
    rw [hws] at hx
    rcases List.mem_append.1 hx with h | h
    · exact wantsOf_ok z x h
    · simp at h; omega
  have hok' : ∀ x ∈ ws, 0 ≤ x ∧ x ≤ 1048576 := fun x hx => by have := hok x hx; omega
  have hsum : 6 ≤ ws.sum := by
    rw [hws, List.sum_append]
    have := (sum_bd (wantsOf z) 39 (wantsOf_ok z)).1
    simp; omega
  have Hok := Lib.hid hok
  have Hok' := Lib.hid hok'
  have Hws := Lib.hid hws
  have Hwl := Lib.hid hwl
  have hlen : ws.length ≤ 11 := by omega
  have hlen1 : 1 ≤ ws.length := by omega
  obtain ⟨p0, p1⟩ := pick_bd a0 200 (by omega)
  obtain ⟨q0, q1⟩ := pick_bd a3 (ws.length : Int) (by omega)
  obtain ⟨r0, r1⟩ := pick_bd a2 (ws.length : Int) (by omega)
  have Pk := Lib.hid fun (a n : Int) (h0 : 0 < n) (h1 : n ≤ 1152921504606846976) w => picked a n h0 h1 w
  have e2 := Lib.hid (Int.toNat_of_nonneg r0)
  have e3 := Lib.hid (Int.toNat_of_nonneg q0)
  have P0 := Lib.hid fun w => picked a0 200 (by omega) (by omega) w
  have P2 := Lib.hid fun w => picked a2 (ws.length : Int) (by omega) (by omega) w
  have P3 := Lib.hid fun w => picked a3 (ws.length : Int) (by omega) (by omega) w
  generalize pick a0 200 = n at *
  generalize pick a2 (ws.length : Int) = i' at *
  generalize pick a3 (ws.length : Int) = k' at *
  obtain ⟨i, rfl⟩ := Int.eq_ofNat_of_zero_le r0
  obtain ⟨k, rfl⟩ := Int.eq_ofNat_of_zero_le q0
  have hi : i < ws.length := by omega
  have hk : k < ws.length := by omega
  clear hok hok' hws hwl w0 w2 w3 A1 r0 r1 q0 q1 e2 e3 Pk
  go_enter Try.func14, Try.ntmps14
  go_wp2_with fail
  refine (cwantsOf v1 z w hA1).mono ?_
  rintro e w1 ⟨vw, rfl, hown, hb1⟩
  have Hown := Lib.hid hown
  have Hb1 := Lib.hid hb1
  have hsz := hb1.size
  clear hown hb1
  go_wp2_with (at_builtin; refine wp_app1 (w0 := w1) 29 3 1 8 _ elInt Try.underlying29 w.heap.size _ _ _ Hown.out (by repeat (first | exact Below.refl _ _ | refine Below.drew ?_ | refine Below.alloc ?_ (by first | (simp; done) | (simp; omega)) _ | refine Below.setCell ?_ (by first | (simp; done) | (simp; omega)) _)) [.int .i64 6] rfl _ _ rfl rfl rfl (by first | exact heap_alloc_new _ _ | (simp only [heap_drew, heap_drewN]; exact heap_alloc_new _ _)) (by simp) rfl rfl (by omega) (by omega) hsz ?_; intro v3 w3 hown3 hgrow3 hb3)
  rw [ints_snoc, ← Hws.out, ← Hwl.out] at hown3
  obtain ⟨g, capw, rfl, hg0, hg1, hgf, hgc⟩ := owns_some hown3 (by omega)
  have Hw := Lib.hid hown3
  have Hgf := Lib.hid hgf
  have Hgc := Lib.hid hgc
  have Hb3 := Lib.hid (Hb1.out.trans hb3)
  clear Hown hown3 hgrow3 hb3 Hb1 hsz hgf hgc
  go_wp2_with fail
  with_reducible refine (P0.out _).mono ?_
  rintro e w' ⟨rfl, rfl⟩
  go_wp2_with fail
  with_reducible refine (P2.out _).mono ?_
  rintro e w' ⟨rfl, rfl⟩
  go_wp2_with fail
  with_reducible refine (P3.out _).mono ?_
  rintro e w' ⟨rfl, rfl⟩
  go_wp2_with fail
  refine (cshares _ ws n w3 (Has.of_owns Hw.out) Hok'.out (by omega) p0 (by omega)).mono ?_
  rintro e w4 ⟨va, L, rfl, hL, hown, hb4⟩
  obtain ⟨ga, capa, rfl, hga0, hga1, hgaf, hgac⟩ := owns_some hown (by omega)
  have HL := Lib.hid hL
  have Ha := Lib.hid hown
  have Hw4 := Lib.hid (owns_below Hw.out hb4)
  have Hb4 : Hid (Below w.heap.size w w4) := Hb3.out.trans (hb4.mono Hb3.out.size)
  have ci := cell_on hb4 (Hgc.out i _ (ints_get ws i hi))
  have ck := cell_on hb4 (Hgc.out k _ (ints_get ws k hk))
  have fi : w4.frozen? ⟨g, i, none⟩ = false := by rw [hb4.frozen (p := ⟨g, i, none⟩) hg1]; exact Hgf.out i
  have fk : w4.frozen? ⟨g, k, none⟩ = false := by rw [hb4.frozen (p := ⟨g, k, none⟩) hg1]; exact Hgf.out k
  obtain ⟨x, hx⟩ : ∃ x, ws[i] = x := ⟨_, rfl⟩
  obtain ⟨y, hy⟩ : ∃ y, ws[k] = y := ⟨_, rfl⟩
  rw [hx] at ci
  rw [hy] at ck
  have Hx := Lib.hid hx
  have Hy := Lib.hid hy
  have hlt4 : g < w4.heap.size := Nat.lt_of_lt_of_le hg1 hb4.size
  clear hL hown hb4 Hw Hb3 hgaf hgac hx hy Hgc Hgf
  go_wp2_with fail
  obtain ⟨u, hu⟩ := cell?_setCell_some (w := w4) (p := ⟨g, i, none⟩) (x := .int .i64 y) (q := ⟨g, k, none⟩) (v := .int .i64 y) (by go_simp)
  go_region
  all_goals (go_wp2_with fail)
  clear hu ci ck fi fk
  have hown5 : (((w4.setCell ⟨g, i, none⟩ (.int .i64 y)).setCell ⟨g, k, none⟩ (.int .i64 x)).drew).ownsRow w.heap.size 3 1 (.slice (some ⟨g, 0, none⟩) ws.length capw) ws.length (ints ((ws.set i y).set k x)) := by
    rw [← ints_set, ← ints_set]; exact owns_below (owns_set (owns_set Hw4.out i _) k _) (Below.drew (Below.refl _ _))
  have hown6 : (((w4.setCell ⟨g, i, none⟩ (.int .i64 y)).setCell ⟨g, k, none⟩ (.int .i64 x)).drew).ownsRow w3.heap.size 3 1 (.slice (some ⟨ga, 0, none⟩) ws.length capa) ws.length (ints (give L (n - least ws L) ws)) :=
    owns_below (owns_set_other (owns_set_other Ha.out hg1 i _) hg1 k _) (Below.drew (Below.refl _ _))
  have Hb5 : Hid (Below w.heap.size w (((w4.setCell ⟨g, i, none⟩ (.int .i64 y)).setCell ⟨g, k, none⟩ (.int .i64 x)).drew)) := ((Hb4.out.setCell hg0 _).setCell hg0 _).drew
  have Hw5 := Lib.hid hown5
  have Ha5 := Lib.hid hown6
  generalize ((w4.setCell ⟨g, i, none⟩ (.int .i64 y)).setCell ⟨g, k, none⟩ (.int .i64 x)).drew = w5 at *
  clear hown5 hown6 Hw4 Ha Hb4 hlt4
  obtain ⟨us, hus⟩ : ∃ us, us = (ws.set i y).set k x := ⟨_, rfl⟩
  rw [← hus] at Hw5
  have hlen' : us.length = ws.length := by rw [hus]; simp
  have Hus : Hid (us = (ws.set i ws[k]).set k ws[i]) := by rw [Hx.out, Hy.out]; exact hus
  have Hok2 : Hid (∀ v ∈ us, 0 ≤ v ∧ v ≤ 1048576) := fun v hv => by
    rw [hus] at hv
    have bx := Hok'.out _ (List.getElem_mem hi)
    have by' := Hok'.out _ (List.getElem_mem hk)
    rw [Hx.out] at bx
    rw [Hy.out] at by'
    rcases List.mem_or_eq_of_mem_set hv with h | rfl
    · rcases List.mem_or_eq_of_mem_set h with h | rfl
      · exact Hok'.out v h
      · exact by'
    · exact bx
  clear hus
  have C := cshares (.slice (some ⟨g, 0, none⟩) ws.length capw) us n w5 (by rw [hlen']; exact Has.of_owns Hw5.out) Hok2.out (by omega) p0 (by omega)
  rw [hlen'] at C
  refine C.mono ?_
  clear C
  rintro e w6 ⟨vb, M, rfl, hM, hown, hb6⟩
  obtain ⟨gb, capb, rfl, hgb0, hgb1, hgbf, hgbc⟩ := owns_some hown (by omega)
  have Hb6 : Hid (Below w.heap.size w w6) := Hb5.out.trans (hb6.mono Hb5.out.size)
  have Ha6 := Lib.hid (owns_below Ha5.out hb6)
  obtain ⟨_, _, he, _, _, _, hgca⟩ := owns_some Ha6.out (by omega)
  simp only [Value.slice.injEq, Option.some.injEq, Addr.mk.injEq, and_true, true_and] at he
  obtain ⟨rfl, rfl⟩ := he
  have HCA := Lib.hid hgca
  have HCB := Lib.hid hgbc
  have HMM := Lib.hid hM
  have Hnear : Hid (∀ j (hj : j < ws.length) (h1 : j < (give L (n - least ws L) ws).length) (h2 : turned i k j < (give M (n - least us M) us).length),
    (give L (n - least ws L) ws)[j] - (give M (n - least us M) us)[turned i k j] ≤ 1 ∧ (give M (n - least us M) us)[turned i k j] - (give L (n - least ws L) ws)[j] ≤ 1) := by
    intro j hj h1 h2
    have hus := Hus.out
    subst hus
    exact near n ws L M i k j hi hk hj (fun v hv => (Hok.out v hv).1) HL.out HMM.out h1 h2
  have Hsum := Lib.hid (share_sum Hok'.out HL.out)
  have Hm1 := Lib.hid (give_le L (n - least ws L) ws HL.out.1 Hok.out)
  have Hm2 : Hid (∀ v ∈ give M (n - least us M) us, 0 ≤ v ∧ v ≤ 39) := give_le M (n - least us M) us HMM.out.1 (fun v hv => by
    have hus := Hus.out
    rw [hus] at hv
    rcases List.mem_or_eq_of_mem_set hv with h | rfl
    · rcases List.mem_or_eq_of_mem_set h with h | rfl
      · exact Hok.out v h
      · exact Hok.out _ (List.getElem_mem hk)
    · exact Hok.out _ (List.getElem_mem hi))
  have HLA := Lib.hid (give_length L (n - least ws L) ws)
  have HLB := Lib.hid ((give_length M (n - least us M) us).trans hlen')
  generalize give L (n - least ws L) ws = A at *
  generalize give M (n - least us M) us = B at *
  clear hM hown hb6 hgbf hgbc hgca hlen' Hb5 Ha5 Hw5 Ha6
  go_wp2_with fail
  go_loopw [17, 18] (fun j _ wz => ∃ m : Nat, m ≤ ws.length ∧ j = .int .i64 m ∧ Below w6.heap.size w6 wz) (fun j _ _ => ws.length - (intOf j).toNat)
  case atStart => exact ⟨0, by omega, rfl, Below.refl _ _⟩
  case round =>
    obtain ⟨j, hjl, rfl, hbz⟩ := hrel
    have Hbz := Lib.hid hbz
    clear hbz
    by_cases hj : j < ws.length
    · have hjA : j < A.length := by have := HLA.out; omega
      have hjB : turned i k j < B.length := by have := HLB.out; unfold turned; split <;> (try split) <;> omega
      by_cases c1 : j = i
      · have ht : turned i k j = k := by simp [turned, c1]
        have e1 : ((j : Int) == (i : Int)) = true := by rw [beq_iff_eq]; omega
        have e1' : (j == i) = true := by rw [beq_iff_eq]; omega
        clear c1
        obtain ⟨n1, n2⟩ := Hnear.out j hj hjA hjB
        have g1 := cell_on Hbz.out (HCA.out j _ (ints_get A j hjA))
        have g2 := cell_on Hbz.out (HCB.out _ _ (ints_get B _ hjB))
        obtain ⟨x0, x1⟩ := Hm1.out _ (List.getElem_mem hjA)
        obtain ⟨y0, y1⟩ := Hm2.out _ (List.getElem_mem hjB)
        generalize A[j] = p at *
        generalize B[turned i k j] = q at *
        rw [ht] at g2
        have d1 : decide (1 < p - q) = false := by simp; omega
        have d2 : decide (1 < q - p) = false := by simp; omega
        have d3 : IntKind.i64.wrap (p - q) = p - q := IntWalk.i64_in _ (by omega)
        have d4 : IntKind.i64.wrap (q - p) = q - p := IntWalk.i64_in _ (by omega)
        clear ht hjB
        go_wp2
        go_quiet (fail)
        go_wp2
        go_roundw
        case rel => exact ⟨j + 1, by omega, by go_num, below_drewN Hbz.out _⟩
        case measure => simp [intOf]; omega
      · by_cases c2 : j = k
        · have ht : turned i k j = i := by unfold turned; rw [if_neg c1, if_pos c2]
          have e1 : ((j : Int) == (i : Int)) = false := by rw [beq_eq_false_iff_ne]; omega
          have e1' : (j == i) = false := by rw [beq_eq_false_iff_ne]; omega
          have e2 : ((j : Int) == (k : Int)) = true := by rw [beq_iff_eq]; omega
          have e2' : (j == k) = true := by rw [beq_iff_eq]; omega
          clear c1 c2
          obtain ⟨n1, n2⟩ := Hnear.out j hj hjA hjB
          have g1 := cell_on Hbz.out (HCA.out j _ (ints_get A j hjA))
          have g2 := cell_on Hbz.out (HCB.out _ _ (ints_get B _ hjB))
          obtain ⟨x0, x1⟩ := Hm1.out _ (List.getElem_mem hjA)
          obtain ⟨y0, y1⟩ := Hm2.out _ (List.getElem_mem hjB)
          generalize A[j] = p at *
          generalize B[turned i k j] = q at *
          rw [ht] at g2
          have d1 : decide (1 < p - q) = false := by simp; omega
          have d2 : decide (1 < q - p) = false := by simp; omega
          have d3 : IntKind.i64.wrap (p - q) = p - q := IntWalk.i64_in _ (by omega)
          have d4 : IntKind.i64.wrap (q - p) = q - p := IntWalk.i64_in _ (by omega)
          clear ht hjB
          go_wp2
          go_quiet (fail)
          go_wp2
          go_roundw
          case rel => exact ⟨j + 1, by omega, by go_num, below_drewN Hbz.out _⟩
          case measure => simp [intOf]; omega
        · have ht : turned i k j = j := by unfold turned; rw [if_neg c1, if_neg c2]
          have e1 : ((j : Int) == (i : Int)) = false := by rw [beq_eq_false_iff_ne]; omega
          have e1' : (j == i) = false := by rw [beq_eq_false_iff_ne]; omega
          have e2 : ((j : Int) == (k : Int)) = false := by rw [beq_eq_false_iff_ne]; omega
          have e2' : (j == k) = false := by rw [beq_eq_false_iff_ne]; omega
          clear c1 c2
          obtain ⟨n1, n2⟩ := Hnear.out j hj hjA hjB
          have g1 := cell_on Hbz.out (HCA.out j _ (ints_get A j hjA))
          have g2 := cell_on Hbz.out (HCB.out _ _ (ints_get B _ hjB))
          obtain ⟨x0, x1⟩ := Hm1.out _ (List.getElem_mem hjA)
          obtain ⟨y0, y1⟩ := Hm2.out _ (List.getElem_mem hjB)
          generalize A[j] = p at *
          generalize B[turned i k j] = q at *
          rw [ht] at g2
          have d1 : decide (1 < p - q) = false := by simp; omega
          have d2 : decide (1 < q - p) = false := by simp; omega
          have d3 : IntKind.i64.wrap (p - q) = p - q := IntWalk.i64_in _ (by omega)
          have d4 : IntKind.i64.wrap (q - p) = q - p := IntWalk.i64_in _ (by omega)
          clear ht hjB
          go_wp2
          go_quiet (fail)
          go_wp2
          go_roundw
          case rel => exact ⟨j + 1, by omega, by go_num, below_drewN Hbz.out _⟩
          case measure => simp [intOf]; omega
    · obtain rfl : j = ws.length := by omega
      rename World => w7
      go_wp2_with fail
      go_loopw [19, 20] (fun s j wz => ∃ m : Nat, m ≤ ws.length ∧ j = .int .i64 m ∧ s = .int .i64 (A.take m).sum ∧ wz = w7) (fun _ j _ => ws.length - (intOf j).toNat)
      case atStart => exact ⟨0, by omega, rfl, rfl, rfl⟩
      case round =>
        obtain ⟨m, hm, rfl, rfl, hwz⟩ := hrel
        have Hwz := Lib.hid hwz
        clear hwz
        by_cases hlt : m < ws.length
        · have k1 : m < A.length := by have := HLA.out; omega
          have Hbw : Hid (Below w6.heap.size w6 wr) := by rw [Hwz.out]; exact Hbz.out
          have g1 := cell_on Hbw.out (HCA.out m _ (ints_get A m k1))
          obtain ⟨y0, y1⟩ := Hm1.out _ (List.getElem_mem k1)
          have Hs := Lib.hid (sum_take A m k1)
          obtain ⟨s0, s1⟩ := sum_bd (A.take m) 39 (fun x hx => Hm1.out x (List.mem_of_mem_take hx))
          rw [List.length_take] at s1
          have s2 : (A.take m).sum ≤ 1000 := by omega
          generalize A[m] = p at *
          clear s1
          go_wp2
          go_roundw
          case rel => exact ⟨m + 1, by omega, by go_num, by rw [Hs.out], Hwz.out⟩
          case measure => simp [intOf]; omega
        · obtain rfl : m = ws.length := by omega
          have ht : A.take ws.length = A := List.take_of_length_le (by have := HLA.out; omega)
          have hs := Hsum.out
          have Hfin : Hid (Below w.heap.size w wr) := by rw [Hwz.out]; exact Hb6.out.trans (Hbz.out.mono Hb6.out.size)
          rw [ht]
          clear ht
          generalize A.sum = SA at *
          by_cases hn : n = 0
          · have d1 : (n == 0) = true := by rw [beq_iff_eq]; exact hn
            clear hn hs
            go_wp2
            go_ret
            exact ⟨rfl, Hfin.out⟩
          · have d1 : (n == 0) = false := by rw [beq_eq_false_iff_ne]; exact hn
            have d2 : 0 < SA := by omega
            clear hn hs
            go_wp2
            go_ret
            exact ⟨rfl, Hfin.out⟩
end Go.Proofs.Ytjinbcbpaoophaa.shareTurn
