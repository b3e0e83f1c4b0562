/- ShareWants: the walk. -/
import Derived.Test.YtjinbcbpaoophaaShareLawB
import Derived.Test.YtjinbcbpaoophaaSameI
namespace Go.Proofs.Ytjinbcbpaoophaa.shareWants
open Go.ChangeShapes Go.WideShapes Go.ChangeAt Go.RowKit
set_option linter.unusedVariables false

set_option maxRecDepth 100000 in
set_option maxHeartbeats 4000000 in
theorem walk (w : World) (a0 : Int) (v1 : Value) (z : List Int) (A1 : Has w 1 v1 z.length (ints z) ∧ ∀ x ∈ z, -9223372036854775808 ≤ x ∧ x ≤ 9223372036854775807) (a2 : Int) (a3 : Int)
    (w0 : (Lit.int .i64 a0).wf = true) (w2 : (Lit.int .i64 a2).wf = true) (w3 : (Lit.int .i64 a3).wf = true) :
    Calls Try.prog 12 #[.int .i64 a0, v1, .int .i64 a2, .int .i64 a3] w fun e w' => e = .returned (.bool true) ∧ Below w.heap.size w w' := by
  have hA1 := A1.1
  obtain ⟨ws, hws⟩ : ∃ ws, ws = wantsOf z ++ [7] := ⟨_, rfl⟩
  have hl10 := wantsOf_le z
  have hwl : ws.length = (wantsOf z).length + 1 := by rw [hws]; simp
  have hok : ∀ x ∈ ws, 0 ≤ x ∧ x ≤ 39 := fun x hx => by
    rw [hws] at hx
    rcases List.mem_append.1 hx with h | h
    · exact wantsOf_ok z x h
    · simp at h; omega
  have hok' : ∀ x ∈ ws, 0 ≤ x ∧ x ≤ 1048576 := fun x hx => by have := hok x hx; omega
  have Hok := Lib.hid hok
  have Hok' := Lib.hid hok'
  have Hws := Lib.hid hws
  have Hwl := Lib.hid hwl
  have hlen : ws.length ≤ 11 := by omega
  have hlen1 : 1 ≤ ws.length := by omega
  obtain ⟨p0, p1⟩ := pick_bd a0 200 (by omega)
  obtain ⟨q0, q1⟩ := pick_bd a3 50 (by omega)
  obtain ⟨r0, r1⟩ := pick_bd a2 (ws.length : Int) (by omega)
  have P200 := Lib.hid fun w => picked a0 200 (by omega) (by omega) w
  have P50 := Lib.hid fun w => picked a3 50 (by omega) (by omega) w
  have Plen := Lib.hid fun w => picked a2 (ws.length : Int) (by omega) (by omega) w
  generalize pick a0 200 = n at *
  generalize pick a3 50 = m at *
  generalize pick a2 (ws.length : Int) = i' at *
  obtain ⟨i, rfl⟩ := Int.eq_ofNat_of_zero_le r0
  have hi : i < ws.length := by omega
  clear hok hok' hws hwl w0 w2 w3 A1 r0 r1
  go_enter Try.func12, Try.ntmps12
  go_wp2_with fail
  refine (cwantsOf v1 z w hA1).mono ?_
  rintro e w1 ⟨vw, rfl, hown, hb1⟩
  have Hown := Lib.hid hown
  have Hb1 := Lib.hid hb1
  have hsz := hb1.size
  clear hown hb1
  go_wp2_with (at_builtin; refine wp_app1 (w0 := w1) 29 3 1 8 _ elInt Try.underlying29 w.heap.size _ _ _ Hown.out (by repeat (first | exact Below.refl _ _ | refine Below.drew ?_ | refine Below.alloc ?_ (by first | (simp; done) | (simp; omega)) _ | refine Below.setCell ?_ (by first | (simp; done) | (simp; omega)) _)) [.int .i64 7] rfl _ _ rfl rfl rfl (by first | exact heap_alloc_new _ _ | (simp only [heap_drew, heap_drewN]; exact heap_alloc_new _ _)) (by simp) rfl rfl (by omega) (by omega) hsz ?_; intro v3 w3 hown3 hgrow3 hb3)
  rw [ints_snoc, ← Hws.out, ← Hwl.out] at hown3
  obtain ⟨g, capw, rfl, hg0, hg1, hgf, hgc⟩ := owns_some hown3 (by omega)
  have Hw := Lib.hid hown3
  have Hgf := Lib.hid hgf
  have Hgc := Lib.hid hgc
  have Hb3 := Lib.hid (Hb1.out.trans hb3)
  clear Hown hown3 hgrow3 hb3 Hb1 hsz hgf hgc
  go_wp2_with (first | (go_at_call_of 17 (Value.int .i64 a0); with_reducible refine (P200.out _).mono ?_; rintro e w' ⟨rfl, rfl⟩) | (go_at_call_of 17 (Value.int .i64 a2); with_reducible refine (Plen.out _).mono ?_; rintro e w' ⟨rfl, rfl⟩))
  refine (cshares _ ws n w3 (Has.of_owns Hw.out) Hok'.out (by omega) p0 (by omega)).mono ?_
  rintro e w4 ⟨va, L, rfl, hL, hown, hb4⟩
  obtain ⟨ga, capa, rfl, hga0, hga1, hgaf, hgac⟩ := owns_some hown (by omega)
  have HL := Lib.hid hL
  have Ha := Lib.hid hown
  have Hw4 := Lib.hid (owns_below Hw.out hb4)
  have Hb4 : Hid (Below w.heap.size w w4) := Hb3.out.trans (hb4.mono Hb3.out.size)
  have gcell := cell_on hb4 (Hgc.out i _ (ints_get ws i hi))
  have gfroz : w4.frozen? ⟨g, i, none⟩ = false := by rw [hb4.frozen (p := ⟨g, i, none⟩) hg1]; exact Hgf.out i
  obtain ⟨x0, x1⟩ := Hok.out _ (List.getElem_mem hi)
  obtain ⟨x, hx⟩ : ∃ x, ws[i] = x := ⟨_, rfl⟩
  rw [hx] at gcell x0 x1
  have Hx := Lib.hid hx
  have hlt4 : g < w4.heap.size := Nat.lt_of_lt_of_le hg1 hb4.size
  clear hL hown hb4 Hw Hb3 hgaf hgac hx Hgc Hgf
  have wa1 : IntKind.i64.wrap (1 + m) = 1 + m := IntWalk.i64_in _ (by omega)
  have wa2 : IntKind.i64.wrap (x + (1 + m)) = x + (1 + m) := IntWalk.i64_in _ (by omega)
  have Pq := Lib.hid fun X => (P50.out X).mono fun _ _ h => same_symm h
  go_wp2_with fail
  refine wp_still_tail 9 (by kernel_rfl) (by kernel_rfl) ?_
  simp only [List.take_succ_cons, List.take_zero, List.drop_succ_cons, List.drop_zero]
  repeat (first | still_step | still_call (Pq.out _))
  refine wpStill_nil ?_
  clear wa1 wa2
  go_wp2_with fail
  have hown5 : ((w4.setCell ⟨g, i, none⟩ (.int .i64 (x + (1 + m)))).drew).ownsRow w.heap.size 3 1 (.slice (some ⟨g, 0, none⟩) ws.length capw) ws.length (ints (ws.set i (x + (1 + m)))) := by
    rw [← ints_set]; exact owns_below (owns_set Hw4.out i _) (Below.drew (Below.refl _ _))
  have hown6 : ((w4.setCell ⟨g, i, none⟩ (.int .i64 (x + (1 + m)))).drew).ownsRow w3.heap.size 3 1 (.slice (some ⟨ga, 0, none⟩) ws.length capa) ws.length (ints (give L (n - least ws L) ws)) :=
    owns_below (owns_set_other Ha.out hg1 i _) (Below.drew (Below.refl _ _))
  have Hb5 : Hid (Below w.heap.size w ((w4.setCell ⟨g, i, none⟩ (.int .i64 (x + (1 + m)))).drew)) := (Hb4.out.setCell hg0 _).drew
  have Hw5 := Lib.hid hown5
  have Ha5 := Lib.hid hown6
  generalize (w4.setCell ⟨g, i, none⟩ (.int .i64 (x + (1 + m)))).drew = w5 at *
  clear hown5 hown6 gcell gfroz Hw4 Ha Hb4 hlt4
  have hlen' : (ws.set i (x + (1 + m))).length = ws.length := by simp
  have Hok2 : Hid (∀ y ∈ ws.set i (x + (1 + m)), 0 ≤ y ∧ y ≤ 1048576) := fun y hy => by
    rcases List.mem_or_eq_of_mem_set hy with h | rfl
    · exact Hok'.out y h
    · omega
  have C := cshares (.slice (some ⟨g, 0, none⟩) ws.length capw) (ws.set i (x + (1 + m))) n w5 (by rw [hlen']; exact Has.of_owns Hw5.out) Hok2.out (by omega) p0 (by omega)
  rw [hlen'] at C
  refine C.mono ?_
  clear C
  rintro e w6 ⟨vb, M, rfl, hM, hown, hb6⟩
  obtain ⟨gb, capb, rfl, hgb0, hgb1, hgbf, hgbc⟩ := owns_some hown (by omega)
  have Hb6 : Hid (Below w.heap.size w w6) := Hb5.out.trans (hb6.mono Hb5.out.size)
  have Ha6 := Lib.hid (owns_below Ha5.out hb6)
  have Hw6 := Lib.hid (owns_below Hw5.out hb6)
  have HB6 := Lib.hid hown
  have ha1 : i < (give L (n - least ws L) ws).length := by rw [give_length]; exact hi
  have hb1 : i < (give M (n - least (ws.set i (x + (1 + m))) M) (ws.set i (x + (1 + m)))).length := by rw [give_length, hlen']; exact hi
  have hsw := share_wants i hi (x + (1 + m)) (by rw [Hx.out]; omega) (by rw [Hx.out]; omega) HL.out hM ha1 hb1
  rw [Hx.out] at hsw
  have hga := give_at L HL.out.1 (n - least ws L) ws i hi ha1 (by rw [Hx.out]; omega)
  rw [Hx.out] at hga
  obtain ⟨_, _, _, _, hgc⟩ := owns_some Ha6.out (by omega)
  obtain ⟨_, _, he, _, _, _, hgca⟩ := owns_some Ha6.out (by omega)
  simp only [Value.slice.injEq, Option.some.injEq, Addr.mk.injEq, and_true, true_and] at he
  obtain ⟨rfl, rfl⟩ := he
  obtain ⟨_, _, he, _, _, _, hgcw⟩ := owns_some Hw6.out (by omega)
  simp only [Value.slice.injEq, Option.some.injEq, Addr.mk.injEq, and_true, true_and] at he
  obtain ⟨rfl, rfl⟩ := he
  have ca := hgca i _ (ints_get _ i ha1)
  have cb := hgbc i _ (ints_get _ i hb1)
  have cw := hgcw i _ (ints_get (ws.set i (x + (1 + m))) i (by rw [hlen']; exact hi))
  rw [List.getElem_set_self] at cw
  have HLA := Lib.hid (give_length L (n - least ws L) ws)
  have HLB := Lib.hid ((give_length M (n - least (ws.set i (x + (1 + m))) M) (ws.set i (x + (1 + m)))).trans hlen')
  generalize give L (n - least ws L) ws = A at *
  generalize give M (n - least (ws.set i (x + (1 + m))) M) (ws.set i (x + (1 + m))) = B at *
  obtain ⟨y, hy⟩ : ∃ y, A[i] = y := ⟨_, rfl⟩
  obtain ⟨b, hb⟩ : ∃ b, B[i] = b := ⟨_, rfl⟩
  rw [hy] at ca hsw hga
  rw [hb] at cb hsw
  obtain ⟨hs1, hs2⟩ := hsw
  have Hs2 := Lib.hid hs2
  have d1 : decide (b < y) = false := by simp; omega
  clear hgc hgca hgcw hgbc hgbf hs2 hy hb hM hown hb6 hlen'
  go_wp2_with fail
  go_quiet (fail)
  go_wp2_with fail
  clear d1
  have wb1 : IntKind.i64.wrap (x + (1 + m) - 1) = x + (1 + m) - 1 := IntWalk.i64_in _ (by omega)
  have wb2 : IntKind.i64.wrap (x + (1 + m) - 1 - m) = x := by rw [IntWalk.i64_in _ (by omega)]; omega
  have ca7 : (w6.drewN nq).cell? ⟨ga, i, none⟩ = some (.int .i64 y) := ca
  have cw7 : (w6.drewN nq).cell? ⟨g, i, none⟩ = some (.int .i64 (x + (1 + m))) := cw
  have Hb7 : Hid (Below w.heap.size w (w6.drewN nq)) := below_drewN Hb6.out _
  have HA7 : Hid (Has (w6.drewN nq) 1 (.slice (some ⟨ga, 0, none⟩) ws.length capa) A.length (ints A)) := by
    rw [HLA.out]; exact (Has.of_owns Ha6.out).below (below_drewN (Below.refl _ _) _)
  have HB7 : Hid (Has (w6.drewN nq) 1 (.slice (some ⟨gb, 0, none⟩) ws.length capb) B.length (ints B)) := by
    rw [HLB.out]; exact (Has.of_owns HB6.out).below (below_drewN (Below.refl _ _) _)
  generalize w6.drewN nq = w7 at *
  clear ca cb cw Hb6 Ha6 HB6 Hw6
  by_cases he : y = x
  · have d2 : (y == x) = true := by rw [beq_iff_eq]; exact he
    clear he
    go_quiet ((go_at_call 17; exact Calls.quiet_of_same (Pq.out _)))
    go_wp2
    go_ret
    exact ⟨rfl, below_drewN Hb7.out _⟩
  · have d2 : (y == x) = false := by rw [beq_eq_false_iff_ne]; exact he
    have HAB := Lib.hid (Hs2.out he)
    clear he
    go_quiet ((go_at_call 17; exact Calls.quiet_of_same (Pq.out _)))
    clear wb1 wb2 d2 ca7 cw7
    have HA8 := Lib.hid (HA7.out.below (below_drewN (Below.refl _ _) nq))
    have HB8 := Lib.hid (HB7.out.below (below_drewN (Below.refl _ _) nq))
    have Hb8 : Hid (Below w.heap.size w (w7.drewN nq)) := below_drewN Hb7.out _
    generalize w7.drewN nq = w8 at *
    go_wp2_with fail
    refine (csameInts _ _ A B w8 HA8.out HB8.out).mono ?_
    rintro e w9 ⟨rfl, hb9⟩
    rw [show decide (A = B) = true from decide_eq_true HAB.out]
    have Hb9 : Hid (Below w.heap.size w w9) := Hb8.out.trans (hb9.mono Hb8.out.size)
    clear hb9
    go_wp2
    go_ret
    exact ⟨rfl, Hb9.out⟩
end Go.Proofs.Ytjinbcbpaoophaa.shareWants
