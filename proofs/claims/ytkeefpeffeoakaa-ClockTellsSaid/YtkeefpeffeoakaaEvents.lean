/- Clocks: the laws' Events. -/
import Derived.Test.YtkeefpeffeoakaaClockPlay
namespace Go.Proofs.Ytkeefpeffeoakaa
open Go.ChangeShapes Go.WideShapes Go.ChangeAt Go.RowKit
set_option linter.unusedVariables false

theorem elEvent : Elem Try.prog 69 3 24 (.agg #[.int .i64 0, .int .i64 0, .int .i64 0]) := .of (by kernel_rfl) rfl (by decide)
theorem evs_snoc (l : List Ev) (x : Ev) : evs l ++ x.cells = evs (l ++ [x]) := flat_snoc _ _ _
structure EvAt (w wr : World) (l : List Ev) (k : Nat) (out sent : Value) : Prop where
  ho : wr.ownsRow w.heap.size 69 3 out k (evs ((l.take k).foldl evStep ([], [])).1)
  hs : wr.ownsRow w.heap.size 3 1 sent ((l.take k).foldl evStep ([], [])).2.length (ints ((l.take k).foldl evStep ([], [])).2)
  hb : Below w.heap.size w wr
theorem EvAt.below {w wr w' : World} {l : List Ev} {k : Nat} {out sent : Value} (h : EvAt w wr l k out sent) (hb : Below wr.heap.size wr w') : EvAt w w' l k out sent :=
  ⟨owns_below h.ho hb, owns_below h.hs hb, h.hb.trans (hb.mono h.hb.size)⟩
theorem ev_cells {w : World} {px : Nat} {a b c : Value} {e : TypeId} (h : w.heap[px]? = some (.cells #[a, b, c] e (0, 0))) : w.cell? ⟨px, 0, none⟩ = some a ∧ w.cell? ⟨px, 1, none⟩ = some b ∧ w.cell? ⟨px, 2, none⟩ = some c := by
  refine ⟨?_, ?_, ?_⟩ <;> (rw [cell_of_row w px _ _ _ _ h]; rfl)
theorem ev_grown {w w' : World} {base n px : Nat} {v : Value} {xs : List Value} {a b c : Value} (hown : w.ownsRow base 3 1 v n xs) (hg : w.grownBy w' v.ownBlock) (h : w.heap[px]? = some (.cells #[a, b, c] 69 (0, 0))) :
    w'.heap[px]? = some (.cells #[a, b, c] 69 (0, 0)) :=
  (Chg.grown (T := [3]) hown hg (by simp)).block _ _ h fun cs e r heq => by
    simp only [Obj.cells.injEq] at heq
    obtain ⟨-, rfl, -⟩ := heq
    decide
theorem ev_next {w wr w3 : World} {l : List Ev} {k : Nat} {out sent out' : Value} {st : List Ev × List Int} {x y : Ev} (hP : EvAt w wr l k out sent) (hst : (l.take k).foldl evStep ([], []) = st)
    (hstep : (l.take (k + 1)).foldl evStep ([], []) = evStep st x) (hx : evOf st.2 x = y) (hes : evStep st x = (st.1 ++ [evOf st.2 x], if (evOf st.2 x).kind = 2 then st.2 ++ [(st.1.length : Int)] else st.2)) (hy : y.kind ≠ 2)
    (hown : w3.ownsRow w.heap.size 69 3 out' (k + 1) (evs ((l.take k).foldl evStep ([], [])).1 ++ y.cells)) (hg : wr.grownBy w3 out.ownBlock) (hb : Below w.heap.size wr w3) : EvAt w w3 l (k + 1) out' sent := by
  obtain ⟨h1, h2, h3⟩ := hP
  have hc := Chg.grown (T := [69]) h1 hg (by simp)
  have h2' := owns_chg h2 hc (by decide)
  refine ⟨?_, ?_, h3.trans hb⟩
  · rw [hstep, hes, hx]
    simp only
    rw [evs_snoc, hst] at hown
    exact hown
  · rw [hstep, hes, hx, if_neg hy]
    rw [hst] at h2'
    exact h2'
theorem ev_next2 {w wr w2 w3 : World} {l : List Ev} {k : Nat} {out sent out' sent' : Value} {st : List Ev × List Int} {x y : Ev} (hP : EvAt w wr l k out sent) (hst : (l.take k).foldl evStep ([], []) = st) (hl : st.1.length = k)
    (hstep : (l.take (k + 1)).foldl evStep ([], []) = evStep st x) (hx : evOf st.2 x = y) (hes : evStep st x = (st.1 ++ [evOf st.2 x], if (evOf st.2 x).kind = 2 then st.2 ++ [(st.1.length : Int)] else st.2)) (hy : y.kind = 2)
    (hs : w2.ownsRow w.heap.size 3 1 sent' (((l.take k).foldl evStep ([], [])).2.length + 1) (ints ((l.take k).foldl evStep ([], [])).2 ++ [.int .i64 k])) (hb2 : Below w.heap.size wr w2)
    (ho : w2.ownsRow w.heap.size 69 3 out k (evs ((l.take k).foldl evStep ([], [])).1))
    (hown : w3.ownsRow w.heap.size 69 3 out' (k + 1) (evs ((l.take k).foldl evStep ([], [])).1 ++ y.cells)) (hg : w2.grownBy w3 out.ownBlock) (hb : Below w.heap.size w2 w3) : EvAt w w3 l (k + 1) out' sent' := by
  obtain ⟨h1, h2, h3⟩ := hP
  have hc := Chg.grown (T := [69]) ho hg (by simp)
  have h2' := owns_chg hs hc (by decide)
  refine ⟨?_, ?_, (h3.trans hb2).trans hb⟩
  · rw [hstep, hes, hx]
    simp only
    rw [evs_snoc, hst] at hown
    exact hown
  · rw [hstep, hes, hx, if_pos hy]
    rw [hst, ints_snoc] at h2'
    rw [hl]
    simp only [List.length_append, List.length_singleton]
    exact h2'
set_option maxRecDepth 100000 in
set_option maxHeartbeats 4000000 in
theorem cevents (v : Value) (l : List Ev) (n : Nat) (w : World) (h : Has w 3 v l.length (evs l)) (hn : n ≤ 1000) :
    Calls Try.prog 28 #[v, .int .i64 n] w fun e w' => ∃ v', e = .returned v' ∧ w'.ownsRow w.heap.size 69 3 v' (events l n).length (evs (events l n)) ∧ Below w.heap.size w w' := by
  obtain ⟨⟨hl2, hnil⟩, ad, cap, rfl, hcn, hcm, hc⟩ := h
  have Hc := Lib.hid hc
  have P := Lib.hid fun (a : Int) (n : Int) (h1 : 0 < n) (h2 : n ≤ 1152921504606846976) w => picked a n h1 h2 w
  unfold maxLen at hcm
  clear hc hl2 hnil
  go_enter Try.func28, Try.ntmps28
  go_wp2_with fail
  go_loopw [5, 6, 7, 8] (fun out sent i _ wr => ∃ k : Nat, k ≤ l.length ∧ k ≤ n ∧ i = .int .i64 k ∧ EvAt w wr l k out sent) (fun _ _ i _ _ => l.length - (intOf i).toNat)
  case atStart => exact ⟨0, by omega, by omega, rfl, World.ownsRow_nil _ _ _ _, World.ownsRow_nil _ _ _ _, Below.refl _ _⟩
  case round =>
    obtain ⟨k, hk, hkn, rfl, hP⟩ := hrel
    have HP := Lib.hid hP
    clear hP
    by_cases h1 : k < l.length
    · by_cases h2 : k < n
      · obtain ⟨b, off, rfl, hcc⟩ := Hc.out (by simp [evs, flat_length Ev.cells 3 Ev.cells_length]; omega)
        have x0 := cell_on HP.out.hb (hcc (k * 3 + 0) (.int .i64 l[k].kind) (by unfold evs; rw [flat_get Ev.cells 3 Ev.cells_length l k h1 0 (by omega)]; rfl))
        have x1 := cell_on HP.out.hb (hcc (k * 3 + 1) (.int .i64 l[k].who) (by unfold evs; rw [flat_get Ev.cells 3 Ev.cells_length l k h1 1 (by omega)]; rfl))
        have x2 := cell_on HP.out.hb (hcc (k * 3 + 2) (.int .i64 l[k].of') (by unfold evs; rw [flat_get Ev.cells 3 Ev.cells_length l k h1 2 (by omega)]; rfl))
        rw [Nat.add_zero] at x0
        rw [← Nat.add_assoc] at x1 x2
        have hbl := World.block_lt_of_cell? wr _ x0
        have Hstep := Lib.hid (foldl_take evStep ([], []) l k h1)
        have hlen := evFold_length (l.take k) ([], [])
        obtain ⟨st, hst⟩ : ∃ st, (l.take k).foldl evStep ([], []) = st := ⟨_, rfl⟩
        rw [hst] at hlen Hstep
        have hl1 : st.1.length = k := by rw [hlen.1]; simp; omega
        have hl2 : st.2.length ≤ 1000 := by have := hlen.2; simp at this; omega
        have Hl1 := Lib.hid hl1
        have Hst := Lib.hid hst
        generalize l[k] = x at *
        obtain ⟨kd, wh, of'⟩ := x
        simp only at *
        obtain ⟨q0, q1⟩ := pick_bd wh 4 (by omega)
        obtain ⟨p0, p1⟩ := pick_bd kd 3 (by omega)
        have Hev : Hid (evOf st.2 ⟨kd, wh, of'⟩ = if 1 + pick kd 3 = 3 then (if st.2.length = 0 then ⟨1, pick wh 4, 0⟩ else ⟨3, pick wh 4, st.2.getD (pick of' st.2.length).toNat 0⟩) else ⟨1 + pick kd 3, pick wh 4, 0⟩) := rfl
        have Hes : Hid (evStep st ⟨kd, wh, of'⟩ = (st.1 ++ [evOf st.2 ⟨kd, wh, of'⟩], if (evOf st.2 ⟨kd, wh, of'⟩).kind = 2 then st.2 ++ [(st.1.length : Int)] else st.2)) := rfl
        have Hof := Lib.hid fun (m : Nat) (hm : 0 < m) (hm2 : m ≤ 1000) X => P.out of' m (by omega) (by omega) X
        have wr1 : IntKind.i64.wrap (1 + pick kd 3) = 1 + pick kd 3 := IntWalk.i64_in _ (by omega)
        clear hcc hlen hl1 hst
        go_wp2_with fail
        go_region_held3 (fun X => X.cell? ⟨b, off + k * 3, none⟩ = some (.int .i64 kd) ∧ X.cell? ⟨b, off + k * 3 + 1, none⟩ = some (.int .i64 wh) ∧ X.cell? ⟨b, off + k * 3 + 2, none⟩ = some (.int .i64 of'))
          (go_keep)
          ((go_at_call 24; refine (picked _ _ (by omega) (by omega) _).mono ?_; rintro e w' ⟨rfl, rfl⟩))
        all_goals
          generalize hp : pick kd 3 = p at *
          generalize hq : pick wh 4 = q at *
          clear wr1 hp hq
          have hszw := HP.out.hb.size
          rcases (show p = 0 ∨ p = 1 ∨ p = 2 by omega) with rfl | rfl | rfl
          · rw [if_neg (by omega)] at Hev
            clear Hof P
            go_wp2_with (at_builtin; refine wp_app1 (w0 := wr) 62 69 3 24 _ elEvent Try.underlying62 w.heap.size _ _ _ HP.out.ho (by repeat (first | exact Below.refl _ _ | refine Below.drew ?_ | refine Below.alloc ?_ (by first | (simp; done) | (simp; omega)) _ | refine Below.setCell ?_ (by first | (simp; done) | (simp; omega)) _)) [.int .i64 1, .int .i64 q, .int .i64 0] rfl _ _ rfl rfl rfl (by first | exact heap_alloc_new _ _ | (simp only [heap_drew, heap_drewN]; exact heap_alloc_new _ _)) (by simp) rfl rfl (by omega) (by omega) hszw ?_; intro v3 w3 hown3 hgrow3 hb3)
            go_roundw
            case rel => exact ⟨k + 1, by omega, by omega, by go_num, ev_next HP.out Hst.out Hstep.out Hev.out Hes.out (by simp) hown3 hgrow3 hb3⟩
            case measure => simp [intOf]; omega
          · rw [if_neg (by omega)] at Hev
            clear Hof P
            go_upto_region 12 with (fail)
            have hbx : Below wr.heap.size wr (wr.alloc (.cells #[.int .i64 2, .int .i64 q, .int .i64 0] 69)).drew := Below.drew ((Below.refl _ _).alloc (Nat.le_refl _) _)
            have hnx : (wr.alloc (.cells #[.int .i64 2, .int .i64 q, .int .i64 0] 69)).drew.heap[wr.heap.size]? = some (.cells #[.int .i64 2, .int .i64 q, .int .i64 0] 69 (0, 0)) := heap_alloc_new _ _
            have HP2 := Lib.hid (HP.out.below hbx)
            have Hbx := Lib.hid (hbx.mono hszw)
            have Hnx := Lib.hid hnx
            have hs2 := HP2.out.hb.size
            have hll : st.2.length = ((l.take k).foldl evStep ([], [])).2.length := by rw [Hst.out]
            rw [hll] at hl2
            clear hbx hnx
            generalize (wr.alloc (.cells #[.int .i64 2, .int .i64 q, .int .i64 0] 69)).drew = W2 at *
            generalize wr.heap.size = px at *
            go_wp2_with (first | ((at_builtin; refine wp_app1 (w0 := W2) 22 3 1 8 _ elInt Try.underlying22 w.heap.size _ _ _ HP2.out.hs (by repeat (first | exact Below.refl _ _ | refine Below.drew ?_ | refine Below.alloc ?_ (by first | (simp; done) | (simp; omega)) _ | refine Below.setCell ?_ (by first | (simp; done) | (simp; omega)) _)) [.int .i64 k] rfl _ _ rfl rfl rfl (by first | exact heap_alloc_new _ _ | (simp only [heap_drew, heap_drewN]; exact heap_alloc_new _ _)) (by simp) rfl rfl (by omega) (by omega) hs2 ?_; intro v3 w3 hown3 hgrow3 hb3); obtain ⟨y0, y1, y2⟩ := ev_cells (ev_grown HP2.out.hs hgrow3 Hnx.out); have hs3 := hb3.size; have ho3 := Lib.hid (owns_chg HP2.out.ho (Chg.grown (T := [3]) HP2.out.hs hgrow3 (by simp)) (by decide))) | ((at_builtin; refine wp_app1 (w0 := w3) 62 69 3 24 _ elEvent Try.underlying62 w.heap.size _ _ _ ho3.out (by repeat (first | exact Below.refl _ _ | refine Below.drew ?_ | refine Below.alloc ?_ (by first | (simp; done) | (simp; omega)) _ | refine Below.setCell ?_ (by first | (simp; done) | (simp; omega)) _)) [.int .i64 2, .int .i64 q, .int .i64 0] rfl _ _ rfl rfl rfl (by first | exact heap_alloc_new _ _ | (simp only [heap_drew, heap_drewN]; exact heap_alloc_new _ _)) (by simp) rfl rfl (by omega) (by omega) (Nat.le_trans hs2 hs3) ?_; intro v4 w4 hown4 hgrow4 hb4)) | fail)
            go_roundw
            case rel => exact ⟨k + 1, by omega, by omega, by go_num, ev_next2 HP.out Hst.out Hl1.out Hstep.out Hev.out Hes.out (by simp) hown3 (Hbx.out.trans hb3) ho3.out hown4 hgrow4 hb4⟩
            case measure => simp [intOf]; omega
          · rw [if_pos (by omega)] at Hev
            by_cases hs0 : st.2.length = 0
            · rw [if_pos hs0] at Hev
              have HS : wr.ownsRow w.heap.size 3 1 u6 st.2.length (ints st.2) := by have h := HP.out.hs; rw [Hst.out] at h; exact h
              rw [hs0] at HS
              obtain ⟨as0, cs0, rfl⟩ := owns_slice HS
              clear Hof P HS hs0
              go_wp2_with (at_builtin; refine wp_app1 (w0 := wr) 62 69 3 24 _ elEvent Try.underlying62 w.heap.size _ _ _ HP.out.ho (by repeat (first | exact Below.refl _ _ | refine Below.drew ?_ | refine Below.alloc ?_ (by first | (simp; done) | (simp; omega)) _ | refine Below.setCell ?_ (by first | (simp; done) | (simp; omega)) _)) [.int .i64 1, .int .i64 q, .int .i64 0] rfl _ _ rfl rfl rfl (by first | exact heap_alloc_new _ _ | (simp only [heap_drew, heap_drewN]; exact heap_alloc_new _ _)) (by simp) rfl rfl (by omega) (by omega) hszw ?_; intro v3 w3 hown3 hgrow3 hb3)
              go_roundw
              case rel => exact ⟨k + 1, by omega, by omega, by go_num, ev_next HP.out Hst.out Hstep.out Hev.out Hes.out (by simp) hown3 hgrow3 hb3⟩
              case measure => simp [intOf]; omega
            · rw [if_neg hs0] at Hev
              have HS : wr.ownsRow w.heap.size 3 1 u6 st.2.length (ints st.2) := by have h := HP.out.hs; rw [Hst.out] at h; exact h
              obtain ⟨gs, cs, rfl, -, hgs, -, hgc⟩ := owns_some HS (by omega)
              have hpos : 0 < st.2.length := by omega
              have Hpk := Lib.hid (Hof.out st.2.length hpos hl2)
              obtain ⟨r0, r1⟩ := pick_bd of' st.2.length (by omega)
              obtain ⟨j, hj⟩ : ∃ j : Nat, pick of' st.2.length = j := ⟨(pick of' st.2.length).toNat, by omega⟩
              rw [hj] at r1 Hpk Hev
              have hjl : j < st.2.length := by omega
              have s1 := hgc j _ (ints_get st.2 j hjl)
              have hgd : st.2.getD (j : Int).toNat 0 = st.2[j] := by simp [List.getD_eq_getElem?_getD, hjl]
              rw [hgd] at Hev
              generalize st.2[j] = sj at *
              have hne0 : (((st.2.length : Nat) : Int) == 0) = false := by rw [beq_eq_false_iff_ne]; omega
              clear Hof P HS hs0 hgc hj hgd r0
              go_wp2_with (first | (go_at_call 24; with_reducible refine (Hpk.out _).mono ?_; rintro e w' ⟨rfl, rfl⟩) | (at_builtin; refine wp_app1 (w0 := wr) 62 69 3 24 _ elEvent Try.underlying62 w.heap.size _ _ _ HP.out.ho (by repeat (first | exact Below.refl _ _ | refine Below.drew ?_ | refine Below.alloc ?_ (by first | (simp; done) | (simp; omega)) _ | refine Below.setCell ?_ (by first | (simp; done) | (simp; omega)) _)) [.int .i64 3, .int .i64 q, .int .i64 sj] rfl _ _ rfl rfl rfl (by first | exact heap_alloc_new _ _ | (simp only [heap_drew, heap_drewN]; exact heap_alloc_new _ _)) (by simp) rfl rfl (by omega) (by omega) hszw ?_; intro v3 w3 hown3 hgrow3 hb3) | fail)
              go_roundw
              case rel => exact ⟨k + 1, by omega, by omega, by go_num, ev_next HP.out Hst.out Hstep.out Hev.out Hes.out (by simp) hown3 hgrow3 hb3⟩
              case measure => simp [intOf]; omega
      · obtain rfl : k = n := by omega
        have e : (l.take k).foldl evStep ([], []) = ((l.take k).foldl evStep ([], [])) := rfl
        have hl := (events_ok l k).2
        have he : events l k = ((l.take k).foldl evStep ([], [])).1 := rfl
        have HO : Hid (wr.ownsRow w.heap.size 69 3 u5 (events l k).length (evs (events l k))) := by
          rw [show (events l k).length = k by omega, he]; exact HP.out.ho
        have HB := Lib.hid HP.out.hb
        clear HP e hl he P
        go_wp2
        go_ret
        exact ⟨_, rfl, HO.out, HB.out⟩
    · obtain rfl : k = l.length := by omega
      have hl := (events_ok l n).2
      have he : events l n = ((l.take l.length).foldl evStep ([], [])).1 := by
        unfold events
        rw [List.take_of_length_le (i := n) (by omega), List.take_length]
      have HO : Hid (wr.ownsRow w.heap.size 69 3 u5 (events l n).length (evs (events l n))) := by
        rw [show (events l n).length = l.length by omega, he]; exact HP.out.ho
      have HB := Lib.hid HP.out.hb
      clear HP hl he P
      go_wp2
      go_ret
      exact ⟨_, rfl, HO.out, HB.out⟩
end Go.Proofs.Ytkeefpeffeoakaa
