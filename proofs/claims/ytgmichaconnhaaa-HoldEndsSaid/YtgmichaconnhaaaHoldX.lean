/- Package hold: order: tick. -/
import Derived.Test.YtgmichaconnhaaaHoldT
namespace Go.Proofs.Ytgmichaconnhaaa
open Go.ChangeShapes Go.WideShapes Go.ChangeAt Go.RowKit
set_option linter.unusedVariables false
set_option linter.unusedSimpArgs false

theorem hcs_set2 : ∀ (l : List Hd) (k : Nat) (hk : k < l.length) (v : Int), (hcs l).set (k * 3 + 2) (.int .i64 v) = hcs (l.set k ⟨l[k].id, l[k].count, v⟩)
  | a :: t, 0, _, v => rfl
  | a :: t, k + 1, hk, v => by
    have hk' : k < t.length := by simpa using hk
    have ih := hcs_set2 t k hk' v
    show (a.cells ++ hcs t).set ((k + 1) * 3 + 2) (.int .i64 v) = a.cells ++ hcs (t.set k ⟨t[k].id, t[k].count, v⟩)
    rw [List.set_append_right _ _ (by rw [Hd.cells_length]; omega), Hd.cells_length, show (k + 1) * 3 + 2 - 3 = k * 3 + 2 by omega, ih]
theorem owns_set3 {w : World} {base e n cap g : Nat} {xs : List Value} (h : w.ownsRow base e 3 (.slice (some ⟨g, 0, none⟩) n cap) n xs) (i : Nat) (hi : i < n * 3) (u : Value) :
    (w.setCell ⟨g, i, none⟩ u).ownsRow base e 3 (.slice (some ⟨g, 0, none⟩) n cap) n (xs.set i u) := by
  have h1 := owns_write h i [u] (by simp; omega)
  rw [set_split _ _ _ (by rw [h.1]; exact hi)]
  exact h1
/-- The holds, k of them a tick on. -/
def decTo (l : List Hd) (k : Nat) : List Hd := (l.take k).map Hd.dec ++ l.drop k
theorem decTo_zero (l : List Hd) : decTo l 0 = l := by simp [decTo]
theorem decTo_all (l : List Hd) : decTo l l.length = l.map Hd.dec := by simp [decTo]
theorem decTo_length (l : List Hd) (k : Nat) : (decTo l k).length = l.length := by simp [decTo]; omega
theorem decTo_get (l : List Hd) (k : Nat) (hk : k < l.length) (hk' : k < (decTo l k).length) : (decTo l k)[k] = l[k] := by
  have : (decTo l k)[k]? = some l[k] := by
    unfold decTo
    rw [List.getElem?_append_right (by simp; omega)]
    simp only [List.length_map, List.length_take, List.getElem?_drop]
    rw [show k + (k - min k l.length) = k by omega, List.getElem?_eq_getElem hk]
  rw [List.getElem?_eq_getElem hk'] at this
  simpa using this
theorem decTo_succ (l : List Hd) (k : Nat) (hk : k < l.length) : (decTo l k).set k l[k].dec = decTo l (k + 1) := by
  unfold decTo
  have e1 : ((l.take k).map Hd.dec).length = k := by simp; omega
  rw [List.set_append_right _ _ (by omega), e1, Nat.sub_self, take_snoc l k hk, List.map_append, List.drop_eq_getElem_cons hk, List.set_cons_zero]
  simp
theorem overL_take (l : List Hd) (k : Nat) (hk : k < l.length) : overL (l.take (k + 1)) = overL (l.take k) + (if l[k].over = true then l[k].count else 0) := by
  unfold overL
  rw [take_snoc l k hk, List.filter_append, heldL_append]
  by_cases c : l[k].over = true
  · rw [if_pos c, List.filter_cons_of_pos c, List.filter_nil, heldL_cons, heldL_nil]; omega
  · rw [if_neg c, List.filter_cons_of_neg c, List.filter_nil, heldL_nil]
theorem overL_le {l : List Hd} (h : ∀ x ∈ l, 0 ≤ x.count) (k : Nat) : 0 ≤ overL (l.take k) ∧ overL (l.take k) ≤ heldL l := by
  have h1 := heldL_split (l.take k)
  have h2 := heldL_nonneg (l := (l.take k).filter (fun h => !h.over)) fun x hx => h x (List.mem_of_mem_take (List.mem_filter.1 hx).1)
  have h3 := heldL_nonneg (l := (l.take k).filter Hd.over) fun x hx => h x (List.mem_of_mem_take (List.mem_filter.1 hx).1)
  have h4 := (heldL_take_le h k).2
  unfold overL at *
  omega
theorem tick_order {s : Shf} {o : Ord} (hk : o.kind = 7) : s.order o = (0, 0, s.ticked) := by
  unfold Shf.order
  rw [if_neg (by omega), if_neg (by omega), if_neg (by omega), if_neg (by omega), if_neg (by omega), if_neg (by omega), if_pos hk]
set_option maxRecDepth 100000 in
set_option maxHeartbeats 2000000 in
theorem cOver (X : World) (x : Hd) :
    Calls Try.prog 77 #[.agg #[.int .i64 x.id, .int .i64 x.count, .int .i64 x.life]] X fun e w' => e = .returned (.bool x.over) ∧ Below X.heap.size X w' := by
  obtain ⟨x0, x1, x2⟩ := three_cells (heap_alloc_new X (.cells #[.int .i64 x.id, .int .i64 x.count, .int .i64 x.life] 146))
  go_enter Try.func77, Try.ntmps77
  go_wp2_with fail
  go_ret
  exact ⟨rfl, hold_box x⟩
theorem over_eg : ∀ args w, (callFunc 77 args).run Try.prog w = .ok (.enter 77 args) w := enters_of Try.func77 (by kernel_rfl) rfl
/-- Within a tick. -/
structure TickAt (w wr : World) (base S : Nat) (f u m : Int) (v : Value) (l : List Hd) : Prop where
  sh : wr.heap[S]? = some (.cells #[.int .i64 f, .int .i64 u, .int .i64 m, v] 103 (0, 0))
  own : wr.ownsRow base 146 3 v l.length (hcs l)
  hb : Below base w wr
  hc : Chc [103, 146] w wr
theorem TickAt.on {w wr w' : World} {base S : Nat} {f u m : Int} {v : Value} {l : List Hd} (h : TickAt w wr base S f u m v l) (hb : Below wr.heap.size wr w') (hbs : base ≤ w.heap.size) : TickAt w w' base S f u m v l :=
  ⟨by rw [hb.block _ (Array.getElem?_eq_some_iff.1 h.sh).1]; exact h.sh, owns_below h.own hb, h.hb.trans (hb.mono (Nat.le_trans hbs h.hb.size)), h.hc.trans (Chc.of_below hb)⟩
theorem TickAt.dec {w wr : World} {base S n cap g k : Nat} {f u m : Int} {l : List Hd} (h : TickAt w wr base S f u m (.slice (some ⟨g, 0, none⟩) n cap) (decTo l k)) (hn : n = l.length) (hk : k < l.length) :
    TickAt w (wr.setCell ⟨g, k * 3 + 2, none⟩ (.int .i64 (l[k].life - 1))) base S f u m (.slice (some ⟨g, 0, none⟩) n cap) (decTo l (k + 1)) := by
  subst hn
  have ho := h.own
  rw [decTo_length] at ho
  have h1 := owns_set3 ho (k * 3 + 2) (by omega) (.int .i64 (l[k].life - 1))
  rw [hcs_set2 _ k (by rw [decTo_length]; exact hk), decTo_get l k hk (by rw [decTo_length]; exact hk)] at h1
  rw [show (⟨l[k].id, l[k].count, l[k].life - 1⟩ : Hd) = l[k].dec from rfl, decTo_succ l k hk] at h1
  have hw := owns_chc_write ho (k * 3 + 2) [.int .i64 (l[k].life - 1)]
  exact ⟨hw.1.block _ _ _ _ h.sh (by decide), by rw [decTo_length]; exact h1, h.hb.trans hw.2, h.hc.trans (hw.1.mono (by simp))⟩
theorem TickAt.free {w wr : World} {base S : Nat} {f u m f' : Int} {v : Value} {l : List Hd} (h : TickAt w wr base S f u m v l) (hl : base ≤ S) :
    TickAt w (wr.setCell ⟨S, 0, none⟩ (.int .i64 f')) base S f' u m v l := by
  have hc := Chc.setCell (T := [103]) (p := ⟨S, 0, none⟩) h.sh (by simp) (.int .i64 f')
  exact ⟨(shelf_set h.sh _).1, owns_chc h.own hc (by decide), h.hb.setCell hl _, h.hc.trans (hc.mono (by simp))⟩
set_option maxRecDepth 100000 in
set_option maxHeartbeats 4000000 in
theorem cOrder7 {w : World} {base S : Nat} {s : Shf} (h : ShfAt w base S s) (o : Ord) (ho : o.Ok) (hk : o.kind = 7) :
    Calls Try.prog 63 #[.pointer (some ⟨S, 0, none⟩), o.val] w fun e w' => e = .returned (.tuple #[.int .i64 (s.order o).1, .int .i64 (s.order o).2.1]) ∧ Ordered base S s (s.next o) w w' := by
  have hok := Lib.hid (ticked_ok h.ok)
  unfold Shf.next
  rw [tick_order hk]
  simp only
  have Hl := Lib.hid h.lo
  have hfr := h.ok.free
  have hsum := h.ok.sum
  have hus := h.ok.used
  have hS := h.lt
  have hlen := h.ok.few
  have Hhs := Lib.hid h.ok.hs
  obtain ⟨v, q1, q2⟩ := h.ex
  obtain ⟨av, cv, rfl⟩ := owns_slice q2
  obtain ⟨k, c, l, id⟩ := o
  obtain ⟨k0, k1⟩ := ho.count
  simp only at hk k0 k1
  subst hk
  unfold Ord.val
  simp only
  have hbs : base ≤ w.heap.size := by have := Hl.out; omega
  have hb : Below w.heap.size w (w.alloc (.cells #[.int .i64 7, .int .i64 c, .int .i64 l, .int .i64 id] 30)) := (Below.refl _ _).alloc (Nat.le_refl _) _
  obtain ⟨⟨x0, x1, x2, x3⟩, -⟩ := four_cells (heap_alloc_new w (.cells #[.int .i64 7, .int .i64 c, .int .i64 l, .int .i64 id] 30))
  obtain ⟨fr, us, md, hs⟩ := s
  simp only [Shf.held] at *
  have T0 : Hid (TickAt w (w.alloc (.cells #[.int .i64 7, .int .i64 c, .int .i64 l, .int .i64 id] 30)) base S fr us md (.slice av hs.length cv) (decTo hs 0)) := by
    rw [decTo_zero]
    exact TickAt.on ⟨q1, q2, Below.refl _ _, Chc.refl _ _⟩ hb hbs
  have hcm : c ≤ 1048576 := by omega
  have hLE := Lib.hid (fun k => overL_le (l := hs.map Hd.dec) (fun x hx => by obtain ⟨y, hy, rfl⟩ := List.mem_map.1 hx; have := (Hhs.out y hy).2.2.1; simp only [Hd.dec]; omega) k)
  rw [heldL_dec] at hLE
  simp only [Shf.ticked] at hok
  have hmlen : (hs.map Hd.dec).length = hs.length := by simp
  generalize hml : hs.map Hd.dec = ml at *
  have Hml := Lib.hid hml
  clear hml
  clear h ho hb q1 q2
  go_enter Try.func63, Try.ntmps63
  go_upto_region 1 with (fail)
  generalize w.alloc (.cells #[.int .i64 7, .int .i64 c, .int .i64 l, .int .i64 id] 30) = W at *
  obtain ⟨⟨-, -, -, s3⟩, -⟩ := four_cells T0.out.sh
  rcases (show decide (1 ≤ c) = false ∨ 1 ≤ c from (by by_cases hh : 1 ≤ c; exact .inr hh; exact .inl (decide_eq_false hh))) with hd | hd
  all_goals
    go_wp2_with fail
    clear x0 x1 x2 x3 s3
    go_loopw [7, 113] (fun _ i wr => ∃ k : Nat, k ≤ hs.length ∧ i = .int .i64 k ∧ Hid (TickAt w wr base S fr us md (.slice av hs.length cv) (decTo hs k))) (fun _ i _ => hs.length - (intOf i).toNat)
    case atStart => exact ⟨0, by omega, rfl, T0⟩
    case round =>
      clear T0
      obtain ⟨k, hk, rfl, HT⟩ := hrel
      obtain ⟨⟨y0, -, -, y3⟩, hfz⟩ := four_cells HT.out.sh
      by_cases hlt : k < hs.length
      · have hdl := decTo_length hs k
        have hown := HT.out.own
        rw [hdl] at hown
        obtain ⟨g, cap, he, ⟨c1, c2⟩, ⟨-, -, z2⟩, gfz⟩ := hd_get hown k (by rw [hdl]; exact hlt)
        simp only [Value.slice.injEq] at he
        obtain ⟨rfl, -, rfl⟩ := he
        rw [decTo_get hs k hlt (by rw [hdl]; exact hlt)] at z2
        have Hst := Lib.hid (HT.out.dec rfl hlt)
        have gf := gfz (k * 3 + 2)
        obtain ⟨-, -, -, l0, l1⟩ := Hhs.out _ (List.getElem_mem hlt)
        generalize hs[k].life = lf at *
        have hwrap : IntKind.i64.wrap (lf - 1) = lf - 1 := IntWalk.i64_in _ (by omega)
        have hltz : (k : Int) < (hs.length : Int) := by omega
        unfold maxLen at c2
        clear hfz gfz hown HT
        go_wp2_with fail
        go_roundw
        case rel => exact ⟨k + 1, by omega, by go_num, Hst⟩
        case measure => first | (simp [intOf]; done) | (simp [intOf]; omega)
      · obtain rfl : k = hs.length := by omega
        have T1 : Hid (TickAt w wr base S (fr + overL (ml.take 0)) us md (.slice av hs.length cv) ml) := by
          have := HT.out
          rw [decTo_all, Hml.out] at this
          rw [show overL (ml.take 0) = 0 from rfl, Int.add_zero]
          exact this
        clear HT hfz
        go_wp2_with fail
        clear y0 y3
        obtain ⟨wq, hwq⟩ : ∃ x, x = wr := ⟨_, rfl⟩
        rw [← hwq] at T1
        rw [← hwq]
        clear hwq
        go_loopw [10, 133] (fun _ i wr => ∃ k : Nat, k ≤ hs.length ∧ i = .int .i64 k ∧ Hid (TickAt w wr base S (fr + overL (ml.take k)) us md (.slice av hs.length cv) ml)) (fun _ i _ => hs.length - (intOf i).toNat)
        case atStart => exact ⟨0, by omega, rfl, T1⟩
        case round =>
          clear T1
          obtain ⟨k, hk, rfl, HT⟩ := hrel
          by_cases hlt' : k < hs.length
          · have hlt : k < ml.length := by omega
            obtain ⟨g, cap, he, ⟨c1, c2⟩, ⟨z0, z1, z2⟩, -⟩ := hd_get HT.out.own k hlt
            simp only [Value.slice.injEq] at he
            obtain ⟨rfl, -, rfl⟩ := he
            have b0 := hLE.out k
            have b1 := hLE.out (k + 1)
            have hst := overL_take ml k hlt
            have Hst := Lib.hid hst
            obtain ⟨y, hy⟩ : ∃ y, Hid (y = ml[k]) := ⟨ml[k], (rfl : ml[k] = ml[k])⟩
            rw [← hy.out] at z0 z1 z2 hst Hst
            have hltz : (k : Int) < (hs.length : Int) := by omega
            have hbx := hold_box (w := wr) y
            have HT2 := Lib.hid (HT.out.on hbx hbs)
            obtain ⟨⟨y0, -, -, -⟩, hfz⟩ := four_cells HT2.out.sh
            have hbl := World.block_lt_of_cell? wr _ z0
            have CO := Lib.hid (cOver (wr.alloc (.cells #[.int .i64 y.id, .int .i64 y.count, .int .i64 y.life] 146)) y)
            obtain ⟨p0, p1, p2⟩ := three_cells (heap_alloc_new wr (.cells #[.int .i64 y.id, .int .i64 y.count, .int .i64 y.life] 146))
            generalize hm0 : overL (ml.take k) = m0 at *
            generalize hm1 : overL (ml.take (k + 1)) = m1 at *
            have Hm1 := Lib.hid hm1
            clear hm0 hm1 hbx
            have Step := Lib.hid fun w5 h5 => HT2.out.on (w' := w5) h5 hbs
            clear HT2 hfz y0
            cases hq : y.over with
            | true =>
              rw [hq] at CO hst Hst
              simp only [if_true] at hst Hst
              go_wp2_with fail
              refine CO.out.mono ?_
              rintro e w5 ⟨rfl, hb5⟩
              have HT5 := Lib.hid (Step.out w5 hb5)
              obtain ⟨⟨r0, -, -, -⟩, hfz⟩ := four_cells HT5.out.sh
              have f0 := hfz 0
              replace p1 := cell_on hb5 p1
              have hwrap : IntKind.i64.wrap (fr + m0 + y.count) = fr + m0 + y.count := IntWalk.i64_in _ (by omega)
              have HT6 := Lib.hid ((HT5.out.free (f' := fr + m0 + y.count) Hl.out).on (Below.drew (Below.refl _ _)) hbs)
              clear hb5 CO Step p0 p2 z0 z1 z2 hfz HT
              go_upto_region 36 with (fail)
              go_region
              go_wp2_with fail
              go_roundw
              case rel => exact ⟨k + 1, by omega, by go_num, by rw [Hm1.out, hst, ← Int.add_assoc]; exact HT6⟩
              case measure => first | (simp [intOf]; done) | (simp [intOf]; omega)
            | false =>
              rw [hq] at CO hst Hst
              simp only [Bool.false_eq_true, if_false, Int.add_zero] at hst Hst
              go_wp2_with fail
              refine CO.out.mono ?_
              rintro e w5 ⟨rfl, hb5⟩
              have HT5 := Lib.hid (Step.out w5 hb5)
              clear hb5 CO Step p0 p1 p2 z0 z1 z2 HT
              go_wp2_with fail
              go_roundw
              case rel => exact ⟨k + 1, by omega, by go_num, by rw [Hm1.out, hst]; exact HT5⟩
              case measure => first | (simp [intOf]; done) | (simp [intOf]; omega)
          · obtain rfl : k = hs.length := by omega
            have e0 : ml.take hs.length = ml := List.take_of_length_le (by omega)
            rw [e0] at HT
            obtain ⟨⟨-, -, -, y3⟩, -⟩ := four_cells HT.out.sh
            have CD := Lib.hid (cDeleteFunc Hd.over 77 #[] over_eg (fun X x => cOver X x) HT.out.own (Nat.le_trans hbs HT.out.hc.size))
            clear e0
            go_wp2_with fail
            refine CD.out.mono ?_
            rintro e w7 ⟨v7, rfl, hown7, hb7, hc7⟩
            obtain ⟨a7, cap7, rfl⟩ := owns_slice hown7
            obtain ⟨⟨g3, gf⟩, hfin⟩ := close_step (w := w) (s' := ⟨fr + overL ml, us, md, ml.filter (fun h => !h.over)⟩) Hl.out (HT.out.hb.trans hb7) (HT.out.hc.trans (hc7.mono (by simp))) (hc7.block _ _ _ _ HT.out.sh (by decide)) hown7 hok.out
            have Hfin := Lib.hid hfin
            clear hown7 hb7 hc7 hfin CD HT y3
            go_wp2_with fail
            go_ret2
            simp only [Shf.ticked]
            rw [Hml.out]
            exact ⟨rfl, Hfin.out.1, Hfin.out.2.1, Hfin.out.2.2⟩
end Go.Proofs.Ytgmichaconnhaaa
