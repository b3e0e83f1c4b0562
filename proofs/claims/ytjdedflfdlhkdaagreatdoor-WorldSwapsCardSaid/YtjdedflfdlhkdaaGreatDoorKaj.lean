/- Texts that the claim imports, laid together: WHoldX WHoldY BookM Clone BookW BookR. No statement of their own. -/
import Derived.Test.YtjdedflfdlhkdaaGreatDoorKaa
import Derived.Test.YtjdedflfdlhkdaaGreatDoorKab
import Derived.Test.YtjdedflfdlhkdaaGreatDoorKac
import Derived.Test.YtjdedflfdlhkdaaGreatDoorKaf
import Derived.Test.YtjdedflfdlhkdaaGreatDoorKai
namespace Go.Proofs.YtjdedflfdlhkdaaGreatDoor
open Go.ChangeShapes Go.WideShapes Go.ChangeAt Go.RowKit
set_option linter.unusedVariables false
set_option linter.unusedSimpArgs false

theorem hcs_set2 : ∀ (l : List Hd) (k : Nat) (hk : k < l.length) (v : Int), (hcs l).set (k * 3 + 2) (.int .i64 v) = hcs (l.set k ⟨l[k].id, l[k].count, v⟩)
  | a :: t, 0, _, v => rfl
  | a :: t, k + 1, hk, v => by
    have hk' : k < t.length := by simpa using hk
    have ih := hcs_set2 t k hk' v
    show (a.cells ++ hcs t).set ((k + 1) * 3 + 2) (.int .i64 v) = a.cells ++ hcs (t.set k ⟨t[k].id, t[k].count, v⟩)
    rw [List.set_append_right _ _ (by rw [Hd.cells_length]; omega), Hd.cells_length, show (k + 1) * 3 + 2 - 3 = k * 3 + 2 by omega, ih]
theorem owns_set3 {w : World} {base e n cap g : Nat} {xs : List Value} (h : w.ownsRow base e 3 (.slice (some ⟨g, 0, none⟩) n cap) n xs) (i : Nat) (hi : i < n * 3) (u : Value) :
    (w.setCell ⟨g, i, none⟩ u).ownsRow base e 3 (.slice (some ⟨g, 0, none⟩) n cap) n (xs.set i u) := by
  have h1 := owns_write h i [u] (by simp; omega)
  rw [set_split _ _ _ (by rw [h.1]; exact hi)]
  exact h1
/-- The holds, k of them a tick on. -/
def decTo (l : List Hd) (k : Nat) : List Hd := (l.take k).map Hd.dec ++ l.drop k
theorem decTo_zero (l : List Hd) : decTo l 0 = l := by simp [decTo]
theorem decTo_all (l : List Hd) : decTo l l.length = l.map Hd.dec := by simp [decTo]
theorem decTo_length (l : List Hd) (k : Nat) : (decTo l k).length = l.length := by simp [decTo]; omega
theorem decTo_get (l : List Hd) (k : Nat) (hk : k < l.length) (hk' : k < (decTo l k).length) : (decTo l k)[k] = l[k] := by
  have : (decTo l k)[k]? = some l[k] := by
    unfold decTo
    rw [List.getElem?_append_right (by simp; omega)]
    simp only [List.length_map, List.length_take, List.getElem?_drop]
    rw [show k + (k - min k l.length) = k by omega, List.getElem?_eq_getElem hk]
  rw [List.getElem?_eq_getElem hk'] at this
  simpa using this
theorem decTo_succ (l : List Hd) (k : Nat) (hk : k < l.length) : (decTo l k).set k l[k].dec = decTo l (k + 1) := by
  unfold decTo
  have e1 : ((l.take k).map Hd.dec).length = k := by simp; omega
  rw [List.set_append_right _ _ (by omega), e1, Nat.sub_self, take_snoc l k hk, List.map_append, List.drop_eq_getElem_cons hk, List.set_cons_zero]
  simp
theorem overL_take (l : List Hd) (k : Nat) (hk : k < l.length) : overL (l.take (k + 1)) = overL (l.take k) + (if l[k].over = true then l[k].count else 0) := by
  unfold overL
  rw [take_snoc l k hk, List.filter_append, heldL_append]
  by_cases c : l[k].over = true
  · rw [if_pos c, List.filter_cons_of_pos c, List.filter_nil, heldL_cons, heldL_nil]; omega
  · rw [if_neg c, List.filter_cons_of_neg c, List.filter_nil, heldL_nil]
theorem overL_le {l : List Hd} (h : ∀ x ∈ l, 0 ≤ x.count) (k : Nat) : 0 ≤ overL (l.take k) ∧ overL (l.take k) ≤ heldL l := by
  have h1 := heldL_split (l.take k)
  have h2 := heldL_nonneg (l := (l.take k).filter (fun h => !h.over)) fun x hx => h x (List.mem_of_mem_take (List.mem_filter.1 hx).1)
  have h3 := heldL_nonneg (l := (l.take k).filter Hd.over) fun x hx => h x (List.mem_of_mem_take (List.mem_filter.1 hx).1)
  have h4 := (heldL_take_le h k).2
  unfold overL at *
  omega
theorem tick_order {s : Shf} {o : Ord} (hk : o.kind = 7) : s.order o = (0, 0, s.ticked) := by
  unfold Shf.order
  rw [if_neg (by omega), if_neg (by omega), if_neg (by omega), if_neg (by omega), if_neg (by omega), if_neg (by omega), if_pos hk]
set_option maxRecDepth 100000 in
set_option maxHeartbeats 2000000 in
theorem cOver (X : World) (x : Hd) :
    Calls Tryz.prog 94 #[.agg #[.int .i64 x.id, .int .i64 x.count, .int .i64 x.life]] X fun e w' => e = .returned (.bool x.over) ∧ Below X.heap.size X w' := by
  obtain ⟨x0, x1, x2⟩ := three_cells (heap_alloc_new X (.cells #[.int .i64 x.id, .int .i64 x.count, .int .i64 x.life] 126))
  go_enter Tryz.func94, Tryz.ntmps94
  go_wp2_with fail
  go_ret
  exact ⟨rfl, hold_box x⟩
theorem over_eg : ∀ args w, (callFunc 94 args).run Tryz.prog w = .ok (.enter 94 args) w := enters_of Tryz.func94 (by kernel_rfl) rfl
/-- Within a tick. -/
structure TickAt (w wr : World) (F : Nat → Prop) (S p : Nat) (f u m : Int) (v : Value) (l : List Hd) : Prop where
  sh : Slf wr S p (.int .i64 f) (.int .i64 u) (.int .i64 m) v
  own : wr.ownsRow 0 126 3 v l.length (hcs l)
  inF : ∀ g, v.ownBlock = some g → F g
  hb : ShW F S p w wr
  hc : Chc [106, 126] w wr
theorem TickAt.on {w wr w' : World} {F : Nat → Prop} {S p : Nat} {f u m : Int} {v : Value} {l : List Hd} (h : TickAt w wr F S p f u m v l) (hb : Below wr.heap.size wr w') : TickAt w w' F S p f u m v l :=
  ⟨h.sh.on hb, owns_below h.own hb, h.inF, h.hb.trans (ShW.of_below hb), h.hc.trans (Chc.of_below hb)⟩
theorem TickAt.dec {w wr : World} {F : Nat → Prop} {S p n cap g k : Nat} {f u m : Int} {l : List Hd} (h : TickAt w wr F S p f u m (.slice (some ⟨g, 0, none⟩) n cap) (decTo l k)) (hn : n = l.length) (hk : k < l.length) :
    TickAt w (wr.setCell ⟨g, k * 3 + 2, none⟩ (.int .i64 (l[k].life - 1))) F S p f u m (.slice (some ⟨g, 0, none⟩) n cap) (decTo l (k + 1)) := by
  subst hn
  have ho := h.own
  rw [decTo_length] at ho
  have h1 := owns_set3 ho (k * 3 + 2) (by omega) (.int .i64 (l[k].life - 1))
  rw [hcs_set2 _ k (by rw [decTo_length]; exact hk), decTo_get l k hk (by rw [decTo_length]; exact hk)] at h1
  rw [show (⟨l[k].id, l[k].count, l[k].life - 1⟩ : Hd) = l[k].dec from rfl, decTo_succ l k hk] at h1
  have hw := owns_wr_write ho (k * 3 + 2) [.int .i64 (l[k].life - 1)]
  have hw2 : ShW F S p wr (wr.setCell ⟨g, k * 3 + 2, none⟩ (.int .i64 (l[k].life - 1))) := ShW.row (G := fun b => b = g) (e := 126) hw.2 (fun b hb => h.inF b (by rw [hb]; rfl)) (fun b hb => (owns_block_of ho (by rw [hb]; rfl)).2.2) (by decide)
  exact ⟨h.sh.keep hw.1 (by decide), by rw [decTo_length]; exact h1, h.inF, h.hb.trans hw2, h.hc.trans (hw.1.mono (by simp))⟩
theorem TickAt.free {w wr : World} {F : Nat → Prop} {S p : Nat} {f u m f' : Int} {v : Value} {l : List Hd} (h : TickAt w wr F S p f u m v l) (hl : F S) :
    TickAt w (wr.setCell ⟨S, p, none⟩ (.int .i64 f')) F S p f' u m v l := by
  have hc := slf_chc h.sh p (.int .i64 f')
  exact ⟨(slf_set h.sh _).1, owns_chc h.own hc (by decide), h.inF, h.hb.setCell hl p (by omega) _, h.hc.trans (hc.mono (by simp))⟩
set_option maxRecDepth 100000 in
set_option maxHeartbeats 4000000 in
theorem cOrder7 {w : World} {F : Nat → Prop} {S p : Nat} {s : Shf} (h : ShfAt w F S p s) (o : Ord) (hk : o.kind = 7) :
    Calls Tryz.prog 76 #[.pointer (some ⟨S, p, none⟩), o.val] w fun e w' => e = .returned (.tuple #[.int .i64 (s.order o).1, .int .i64 (s.order o).2.1]) ∧ Ordered F S p s (s.next o) w w' := by
  have hok := Lib.hid (ticked_ok h.ok)
  unfold Shf.next
  rw [tick_order hk]
  simp only
  have Hl := Lib.hid h.lo
  have hfr := h.ok.free
  have hsum := h.ok.sum
  have hus := h.ok.used
  have hS := h.lt
  have hlen := h.ok.few
  have Hhs := Lib.hid h.ok.hs
  obtain ⟨v, q1, q2, q3⟩ := h.ex
  obtain ⟨av, cv, rfl⟩ := owns_slice q2
  obtain ⟨k, c, l, id⟩ := o
  simp only at hk
  subst hk
  unfold Ord.val
  simp only
  have hb : Below w.heap.size w (w.alloc (.cells #[.int .i64 7, .int .i64 c, .int .i64 l, .int .i64 id] 135)) := (Below.refl _ _).alloc (Nat.le_refl _) _
  obtain ⟨⟨x0, x1, x2, x3⟩, -⟩ := four_cells (heap_alloc_new w (.cells #[.int .i64 7, .int .i64 c, .int .i64 l, .int .i64 id] 135))
  obtain ⟨fr, us, md, hs⟩ := s
  simp only [Shf.held] at *
  have T0 : Hid (TickAt w (w.alloc (.cells #[.int .i64 7, .int .i64 c, .int .i64 l, .int .i64 id] 135)) F S p fr us md (.slice av hs.length cv) (decTo hs 0)) := by
    rw [decTo_zero]
    exact TickAt.on ⟨q1, q2, q3, ShW.refl _ _ _ _, Chc.refl _ _⟩ hb
  have hLE := Lib.hid (fun k => overL_le (l := hs.map Hd.dec) (fun x hx => by obtain ⟨y, hy, rfl⟩ := List.mem_map.1 hx; have := (Hhs.out y hy).2.2.1; simp only [Hd.dec]; omega) k)
  rw [heldL_dec] at hLE
  simp only [Shf.ticked] at hok
  have hmlen : (hs.map Hd.dec).length = hs.length := by simp
  generalize hml : hs.map Hd.dec = ml at *
  have Hml := Lib.hid hml
  clear hml
  clear h hb q1 q2 q3
  go_enter Tryz.func76, Tryz.ntmps76
  go_upto_region 1 with (fail)
  generalize w.alloc (.cells #[.int .i64 7, .int .i64 c, .int .i64 l, .int .i64 id] 135) = W at *
  obtain ⟨⟨-, -, -, s3⟩, -⟩ := slf_cells T0.out.sh
  rcases count_three c with hd | ⟨hd, hd2⟩ | ⟨hd, hd2⟩
  all_goals
    go_wp2_with fail
    clear x0 x1 x2 x3 s3
    go_loopw [7, 113] (fun _ i wr => ∃ k : Nat, k ≤ hs.length ∧ i = .int .i64 k ∧ Hid (TickAt w wr F S p fr us md (.slice av hs.length cv) (decTo hs k))) (fun _ i _ => hs.length - (intOf i).toNat)
    case atStart => exact ⟨0, by omega, rfl, T0⟩
    case round =>
      clear T0
      obtain ⟨k, hk, rfl, HT⟩ := hrel
      obtain ⟨⟨y0, -, -, y3⟩, hfz⟩ := slf_cells HT.out.sh
      by_cases hlt : k < hs.length
      · have hdl := decTo_length hs k
        have hown := HT.out.own
        rw [hdl] at hown
        obtain ⟨g, cap, he, ⟨c1, c2⟩, ⟨-, -, z2⟩, gfz⟩ := hd_get hown k (by rw [hdl]; exact hlt)
        simp only [Value.slice.injEq] at he
        obtain ⟨rfl, -, rfl⟩ := he
        rw [decTo_get hs k hlt (by rw [hdl]; exact hlt)] at z2
        have Hst := Lib.hid (HT.out.dec rfl hlt)
        have gf := gfz (k * 3 + 2)
        obtain ⟨-, -, -, l0, l1⟩ := Hhs.out _ (List.getElem_mem hlt)
        generalize hs[k].life = lf at *
        have hwrap : IntKind.i64.wrap (lf - 1) = lf - 1 := IntWalk.i64_in _ (by omega)
        have hltz : (k : Int) < (hs.length : Int) := by omega
        unfold maxLen at c2
        clear hfz gfz hown HT
        go_wp2_with fail
        go_roundw
        case rel => exact ⟨k + 1, by omega, by go_num, Hst⟩
        case measure => first | (simp [intOf]; done) | (simp [intOf]; omega)
      · obtain rfl : k = hs.length := by omega
        have T1 : Hid (TickAt w wr F S p (fr + overL (ml.take 0)) us md (.slice av hs.length cv) ml) := by
          have := HT.out
          rw [decTo_all, Hml.out] at this
          rw [show overL (ml.take 0) = 0 from rfl, Int.add_zero]
          exact this
        clear HT hfz
        go_wp2_with fail
        clear y0 y3
        obtain ⟨wq, hwq⟩ : ∃ x, x = wr := ⟨_, rfl⟩
        rw [← hwq] at T1
        rw [← hwq]
        clear hwq
        go_loopw [10, 133] (fun _ i wr => ∃ k : Nat, k ≤ hs.length ∧ i = .int .i64 k ∧ Hid (TickAt w wr F S p (fr + overL (ml.take k)) us md (.slice av hs.length cv) ml)) (fun _ i _ => hs.length - (intOf i).toNat)
        case atStart => exact ⟨0, by omega, rfl, T1⟩
        case round =>
          clear T1
          obtain ⟨k, hk, rfl, HT⟩ := hrel
          by_cases hlt' : k < hs.length
          · have hlt : k < ml.length := by omega
            obtain ⟨g, cap, he, ⟨c1, c2⟩, ⟨z0, z1, z2⟩, -⟩ := hd_get HT.out.own k hlt
            simp only [Value.slice.injEq] at he
            obtain ⟨rfl, -, rfl⟩ := he
            have b0 := hLE.out k
            have b1 := hLE.out (k + 1)
            have hst := overL_take ml k hlt
            have Hst := Lib.hid hst
            obtain ⟨y, hy⟩ : ∃ y, Hid (y = ml[k]) := ⟨ml[k], (rfl : ml[k] = ml[k])⟩
            rw [← hy.out] at z0 z1 z2 hst Hst
            have hltz : (k : Int) < (hs.length : Int) := by omega
            have hbx := hold_box (w := wr) y
            have HT2 := Lib.hid (HT.out.on hbx)
            obtain ⟨⟨y0, -, -, -⟩, hfz⟩ := slf_cells HT2.out.sh
            have hbl := World.block_lt_of_cell? wr _ z0
            have CO := Lib.hid (cOver (wr.alloc (.cells #[.int .i64 y.id, .int .i64 y.count, .int .i64 y.life] 126)) y)
            obtain ⟨p0, p1, p2⟩ := three_cells (heap_alloc_new wr (.cells #[.int .i64 y.id, .int .i64 y.count, .int .i64 y.life] 126))
            generalize hm0 : overL (ml.take k) = m0 at *
            generalize hm1 : overL (ml.take (k + 1)) = m1 at *
            have Hm1 := Lib.hid hm1
            clear hm0 hm1 hbx
            have Step := Lib.hid fun w5 h5 => HT2.out.on (w' := w5) h5
            clear HT2 hfz y0
            cases hq : y.over with
            | true =>
              rw [hq] at CO hst Hst
              simp only [if_true] at hst Hst
              go_wp2_with fail
              refine CO.out.mono ?_
              rintro e w5 ⟨rfl, hb5⟩
              have HT5 := Lib.hid (Step.out w5 hb5)
              obtain ⟨⟨r0, -, -, -⟩, hfz⟩ := slf_cells HT5.out.sh
              have f0 := hfz p
              replace p1 := cell_on hb5 p1
              have hwrap : IntKind.i64.wrap (fr + m0 + y.count) = fr + m0 + y.count := IntWalk.i64_in _ (by omega)
              have HT6 := Lib.hid ((HT5.out.free (f' := fr + m0 + y.count) Hl.out).on (Below.drew (Below.refl _ _)))
              clear hb5 CO Step p0 p2 z0 z1 z2 hfz HT
              go_upto_region 36 with (fail)
              go_region
              go_wp2_with fail
              go_roundw
              case rel => exact ⟨k + 1, by omega, by go_num, by rw [Hm1.out, hst, ← Int.add_assoc]; exact HT6⟩
              case measure => first | (simp [intOf]; done) | (simp [intOf]; omega)
            | false =>
              rw [hq] at CO hst Hst
              simp only [Bool.false_eq_true, if_false, Int.add_zero] at hst Hst
              go_wp2_with fail
              refine CO.out.mono ?_
              rintro e w5 ⟨rfl, hb5⟩
              have HT5 := Lib.hid (Step.out w5 hb5)
              clear hb5 CO Step p0 p1 p2 z0 z1 z2 HT
              go_wp2_with fail
              go_roundw
              case rel => exact ⟨k + 1, by omega, by go_num, by rw [Hm1.out, hst]; exact HT5⟩
              case measure => first | (simp [intOf]; done) | (simp [intOf]; omega)
          · obtain rfl : k = hs.length := by omega
            have e0 : ml.take hs.length = ml := List.take_of_length_le (by omega)
            rw [e0] at HT
            obtain ⟨⟨-, -, -, y3⟩, -⟩ := slf_cells HT.out.sh
            have CD := Lib.hid (cDeleteFuncW Hd.over 94 #[] over_eg (fun X x => cOver X x) HT.out.own)
            clear e0
            go_wp2_with fail
            refine CD.out.mono ?_
            rintro e w7 ⟨v7, rfl, hown7, hat7, hb7, hc7⟩
            obtain ⟨a7, cap7, rfl⟩ := owns_slice hown7
            obtain ⟨⟨g3, gf⟩, hfin⟩ := close_step (w := w) (s' := ⟨fr + overL ml, us, md, ml.filter (fun h => !h.over)⟩) Hl.out HT.out.hb HT.out.hc HT.out.sh HT.out.own HT.out.inF hown7 hat7 hb7 hc7 hok.out
            have Hfin := Lib.hid hfin
            clear hown7 hat7 hb7 hc7 hfin CD HT y3
            go_wp2_with fail
            go_ret2
            simp only [Shf.ticked]
            rw [Hml.out]
            exact ⟨rfl, Hfin.out.1, Hfin.out.2.1, Hfin.out.2.2⟩
end Go.Proofs.YtjdedflfdlhkdaaGreatDoor

namespace Go.Proofs.YtjdedflfdlhkdaaGreatDoor
open Go.ChangeShapes Go.WideShapes Go.ChangeAt Go.RowKit
set_option linter.unusedVariables false
set_option linter.unusedSimpArgs false

theorem cOrder {w : World} {F : Nat → Prop} {S p : Nat} {s : Shf} (h : ShfAt w F S p s) (o : Ord) (hk : 1 ≤ o.kind ∧ o.kind ≤ 7) (hm : s.made ≤ 1000) (HN : ∀ b, w.heap.size ≤ b → F b) :
    Calls Tryz.prog 76 #[.pointer (some ⟨S, p, none⟩), o.val] w fun e w' => e = .returned (.tuple #[.int .i64 (s.order o).1, .int .i64 (s.order o).2.1]) ∧ Ordered F S p s (s.next o) w w' := by
  by_cases hC : o.Counted
  · rcases (show o.kind = 1 ∨ o.kind = 2 ∨ o.kind = 3 ∨ o.kind = 4 ∨ o.kind = 5 ∨ o.kind = 6 ∨ o.kind = 7 by omega) with h1 | h1 | h1 | h1 | h1 | h1 | h1
    · exact cOrder1 h o hC h1
    · exact cOrder2 h o hC h1
    · exact cOrder3 h o hC h1 hm HN
    · exact cOrder4 h o h1
    · exact cOrder5 h o h1
    · exact cOrder6 h o hC h1
    · exact cOrder7 h o h1
  · by_cases hb : o.kind = 1 ∨ o.kind = 2 ∨ o.kind = 3 ∨ o.kind = 6
    · exact cOrderBad h o hC hb
    · rcases (show o.kind = 4 ∨ o.kind = 5 ∨ o.kind = 7 by omega) with h1 | h1 | h1
      · exact cOrder4 h o h1
      · exact cOrder5 h o h1
      · exact cOrder7 h o h1
def Stk.val (x : Stk) : Value := .agg #[.int .i64 x.code, .int .i64 x.id, .int .i64 x.free, .int .i64 x.held, .int .i64 x.used]
theorem Ordered.sets {F : Nat → Prop} {S p R : Nat} {s s' : Shf} {w W : World} {cs : Array Value} (h : Ordered F S p s s' w W) (hR : w.heap.size ≤ R) (HN : ∀ b, w.heap.size ≤ b → F b) (hh : W.heap[R]? = some (.cells cs 37 (0, 0))) (j : Nat) (x : Value) : Ordered F S p s s' w (W.setCell ⟨R, j, none⟩ x) := by
  have hc := Chc.setCell (T := [37]) (p := ⟨R, j, none⟩) hh (by simp) x
  refine ⟨h.sh.chc hc (by decide) (by decide), h.hb.trans (ShW.row (G := fun b => b = R) (e := 37) ((Wrote.refl (fun b => b = R) W).setCell (p := ⟨R, j, none⟩) rfl x) (fun b hb => HN b (by omega)) (fun b hb => ⟨cs, by rw [hb]; exact hh⟩) (by decide)), ⟨Nat.le_trans h.hc.size hc.size, fun k cs' e r hk he => ?_⟩⟩
  have hlt := (Array.getElem?_eq_some_iff.1 hk).1
  rw [Below.heap_setCell _ _ _ _ (show k ≠ R by omega)]
  exact h.hc.block k cs' e r hk he
theorem Ordered.on {F : Nat → Prop} {S p : Nat} {s s' : Shf} {w W W' : World} (h : Ordered F S p s s' w W) (hb : Below W.heap.size W W') : Ordered F S p s s' w W' :=
  ⟨h.sh.on hb, h.hb.trans (ShW.of_below hb), h.hc.trans (Chc.of_below hb)⟩
theorem Ordered.from {F : Nat → Prop} {S p : Nat} {s s' : Shf} {w W W' : World} (hb : Below w.heap.size w W) (h : Ordered F S p s s' W W') : Ordered F S p s s' w W' :=
  ⟨h.sh, (ShW.of_below hb).trans h.hb, (Chc.of_below hb).trans h.hc⟩
theorem five_set1 {w : World} {S : Nat} {a0 a1 a2 a3 a4 : Value} {e : TypeId} (h : w.heap[S]? = some (.cells #[a0, a1, a2, a3, a4] e (0, 0))) (x y : Value) : ((w.setCell ⟨S, 1, none⟩ x).setCell ⟨S, 0, none⟩ y).heap[S]? = some (.cells #[y, x, a2, a3, a4] e (0, 0)) :=
  heap_setCell_same _ S 0 _ _ y (heap_setCell_same _ S 1 _ _ x h)
set_option maxRecDepth 100000 in
set_option maxHeartbeats 4000000 in
theorem cDo {w : World} {F : Nat → Prop} {S p : Nat} {s : Shf} (h : ShfAt w F S p s) (o : Ord) (hk : 1 ≤ o.kind ∧ o.kind ≤ 7) (hm : s.made ≤ 1000) (HN : ∀ b, w.heap.size ≤ b → F b) :
    Calls Tryz.prog 62 #[.pointer (some ⟨S, p, none⟩), o.val] w fun e w' => e = .returned (s.out o).val ∧ Ordered F S p s (s.next o) w w' := by
  have H := Lib.hid h
  have Ho := Lib.hid hk
  have HNN := Lib.hid HN
  have hS := h.lt
  obtain ⟨k, c, l, id⟩ := o
  have hb : Below w.heap.size w ((w.alloc (.cells #[.int .i64 k, .int .i64 c, .int .i64 l, .int .i64 id] 135)).alloc (.cells #[.int .i64 0, .int .i64 0, .int .i64 0, .int .i64 0, .int .i64 0] 37)) :=
    ((Below.refl _ _).alloc (Nat.le_refl _) _).alloc (by simp) _
  have hR : ((w.alloc (.cells #[.int .i64 k, .int .i64 c, .int .i64 l, .int .i64 id] 135)).alloc (.cells #[.int .i64 0, .int .i64 0, .int .i64 0, .int .i64 0, .int .i64 0] 37)).heap[w.heap.size + 1]? = some (.cells #[.int .i64 0, .int .i64 0, .int .i64 0, .int .i64 0, .int .i64 0] 37 (0, 0)) := by
    have := heap_alloc_new (w.alloc (.cells #[.int .i64 k, .int .i64 c, .int .i64 l, .int .i64 id] 135)) (.cells #[.int .i64 0, .int .i64 0, .int .i64 0, .int .i64 0, .int .i64 0] 37)
    simpa using this
  have hO : ((w.alloc (.cells #[.int .i64 k, .int .i64 c, .int .i64 l, .int .i64 id] 135)).alloc (.cells #[.int .i64 0, .int .i64 0, .int .i64 0, .int .i64 0, .int .i64 0] 37)).heap[w.heap.size]? = some (.cells #[.int .i64 k, .int .i64 c, .int .i64 l, .int .i64 id] 135 (0, 0)) := by
    rw [((Below.refl _ _).alloc (Nat.le_refl _) _).block _ (by simp)]
    exact heap_alloc_new _ _
  obtain ⟨⟨x0, x1, x2, x3⟩, -⟩ := four_cells hO
  have Hb := Lib.hid hb
  have HR := Lib.hid hR
  clear h hk hb hR hO HN
  unfold Ord.val
  simp only
  go_enter Tryz.func62, Tryz.ntmps62
  go_upto_region 1 with (fail)
  generalize ((w.alloc (.cells #[.int .i64 k, .int .i64 c, .int .i64 l, .int .i64 id] 135)).alloc (.cells #[.int .i64 0, .int .i64 0, .int .i64 0, .int .i64 0, .int .i64 0] 37)) = W at *
  have CO := Lib.hid (cOrder (H.out.on Hb.out) ⟨k, c, l, id⟩ Ho.out hm (fun b hb => HNN.out b (Nat.le_trans Hb.out.size hb)))
  go_wp2_with fail
  refine CO.out.mono ?_
  rintro e w1 ⟨rfl, h1⟩
  have HR1 := h1.hc.block _ _ _ _ HR.out (by decide)
  have HO1 : Hid (Ordered F S p s (s.next ⟨k, c, l, id⟩) w w1) := Ordered.from Hb.out h1
  have CS := Lib.hid (cStock h1.sh)
  have hout : s.out ⟨k, c, l, id⟩ = ⟨(s.order ⟨k, c, l, id⟩).2.1, (s.order ⟨k, c, l, id⟩).1, (s.next ⟨k, c, l, id⟩).free, (s.next ⟨k, c, l, id⟩).held, (s.next ⟨k, c, l, id⟩).used⟩ := rfl
  have Hout := Lib.hid hout
  generalize (s.order ⟨k, c, l, id⟩).2.1 = code at *
  generalize (s.order ⟨k, c, l, id⟩).1 = nid at *
  generalize (s.next ⟨k, c, l, id⟩).free = fr at *
  generalize (s.next ⟨k, c, l, id⟩).held = hd at *
  generalize (s.next ⟨k, c, l, id⟩).used = us at *
  have HRR := Lib.hid HR1
  clear x0 x1 x2 x3 HR1 h1 CO HR Hb hout
  go_wp2_with fail
  refine CS.out.mono ?_
  rintro e w2 ⟨rfl, hb2⟩
  have HO2 := Lib.hid (HO1.out.on hb2)
  have hlt2 : w.heap.size + 1 < w1.heap.size := (Array.getElem?_eq_some_iff.1 HRR.out).1
  have hR2 : w2.heap[w.heap.size + 1]? = some (.cells #[.int .i64 0, .int .i64 0, .int .i64 0, .int .i64 0, .int .i64 0] 37 (0, 0)) := by rw [hb2.block _ hlt2]; exact HRR.out
  have hlt3 : w.heap.size + 1 < w2.heap.size := (Array.getElem?_eq_some_iff.1 hR2).1
  clear CS HRR HO1 hb2
  have hB := heap_alloc_new w2 (.cells #[.int .i64 0, .int .i64 0, .int .i64 fr, .int .i64 hd, .int .i64 us] 37)
  have hR3 : (w2.alloc (.cells #[.int .i64 0, .int .i64 0, .int .i64 fr, .int .i64 hd, .int .i64 us] 37)).heap[w.heap.size + 1]? = some (.cells #[.int .i64 0, .int .i64 0, .int .i64 0, .int .i64 0, .int .i64 0] 37 (0, 0)) := by rw [((Below.refl _ _).alloc (Nat.le_refl _) _).block _ hlt3]; exact hR2
  have HO3 := Lib.hid (HO2.out.on ((Below.refl w2.heap.size w2).alloc (Nat.le_refl _) (.cells #[.int .i64 0, .int .i64 0, .int .i64 fr, .int .i64 hd, .int .i64 us] 37)))
  have HB := Lib.hid hB
  have HR3 := Lib.hid hR3
  obtain ⟨⟨b0, b1, b2, b3, b4⟩, bf⟩ := five_cells hB
  have bf0 := bf 0
  have bf1 := bf 1
  clear hB hR3 HO2 bf hR2
  go_upto_region 3 with (fail)
  generalize w2.alloc (.cells #[.int .i64 0, .int .i64 0, .int .i64 fr, .int .i64 hd, .int .i64 us] 37) = W3 at *
  go_upto_region 4 with (fail)
  have hB4 := five_set1 HB.out (.int .i64 nid) (.int .i64 code)
  have e1 : ((W3.setCell ⟨w2.heap.size, 1, none⟩ (.int .i64 nid)).setCell ⟨w2.heap.size, 0, none⟩ (.int .i64 code)).heap[w.heap.size + 1]? = some (.cells #[.int .i64 0, .int .i64 0, .int .i64 0, .int .i64 0, .int .i64 0] 37 (0, 0)) := by
    rw [Below.heap_setCell _ _ _ _ (by simp; omega), Below.heap_setCell _ _ _ _ (by simp; omega)]; exact HR3.out
  have HO4 := Lib.hid ((HO3.out.sets (show w.heap.size ≤ w2.heap.size by omega) HNN.out HB.out 1 (.int .i64 nid)).sets (show w.heap.size ≤ w2.heap.size by omega) HNN.out (heap_setCell_same _ w2.heap.size 1 _ _ (.int .i64 nid) HB.out) 0 (.int .i64 code))
  obtain ⟨⟨b0', b1', b2', b3', b4'⟩, -⟩ := five_cells hB4
  obtain ⟨⟨r0, r1, r2, r3, r4⟩, rf⟩ := five_cells e1
  have rf0 := rf 0
  have rf1 := rf 1
  have rf2 := rf 2
  have rf3 := rf 3
  have rf4 := rf 4
  have E1 := Lib.hid e1
  clear b0 b1 b2 b3 b4 bf0 bf1 hB4 e1 rf HB HR3 HO3
  generalize ((W3.setCell ⟨w2.heap.size, 1, none⟩ (.int .i64 nid)).setCell ⟨w2.heap.size, 0, none⟩ (.int .i64 code)) = W4 at *
  go_wp2_with fail
  have i0 := heap_setCell_same _ (w.heap.size + 1) 0 _ _ (.int .i64 code) E1.out
  have i1 := heap_setCell_same _ (w.heap.size + 1) 1 _ _ (.int .i64 nid) i0
  have i2 := heap_setCell_same _ (w.heap.size + 1) 2 _ _ (.int .i64 fr) i1
  have i3 := heap_setCell_same _ (w.heap.size + 1) 3 _ _ (.int .i64 hd) i2
  have o1 := HO4.out.sets (show w.heap.size ≤ w.heap.size + 1 by omega) HNN.out E1.out 0 (.int .i64 code)
  have o2 := o1.sets (show w.heap.size ≤ w.heap.size + 1 by omega) HNN.out i0 1 (.int .i64 nid)
  have o3 := o2.sets (show w.heap.size ≤ w.heap.size + 1 by omega) HNN.out i1 2 (.int .i64 fr)
  have o4 := o3.sets (show w.heap.size ≤ w.heap.size + 1 by omega) HNN.out i2 3 (.int .i64 hd)
  have o5 := o4.sets (show w.heap.size ≤ w.heap.size + 1 by omega) HNN.out i3 4 (.int .i64 us)
  obtain ⟨⟨t0, t1, t2, t3, t4⟩, -⟩ := five_cells (five_set E1.out (.int .i64 code) (.int .i64 nid) (.int .i64 fr) (.int .i64 hd) (.int .i64 us))
  clear i0 i1 i2 i3 o1 o2 o3 o4 r0 r1 r2 r3 r4 rf0 rf1 rf2 rf3 rf4 b0' b1' b2' b3' b4'
  generalize (((((W4.setCell ⟨w.heap.size + 1, 0, none⟩ (.int .i64 code)).setCell ⟨w.heap.size + 1, 1, none⟩ (.int .i64 nid)).setCell ⟨w.heap.size + 1, 2, none⟩ (.int .i64 fr)).setCell ⟨w.heap.size + 1, 3, none⟩ (.int .i64 hd)).setCell ⟨w.heap.size + 1, 4, none⟩ (.int .i64 us)) = w6 at *
  refine bodyPost_ret (v := (s.out ⟨k, c, l, id⟩).val) (by rw [Hout.out]; simp [results, Tryz.results62, go_sem, t0, t1, t2, t3, t4, Stk.val]) rfl ⟨rfl, o5⟩
end Go.Proofs.YtjdedflfdlhkdaaGreatDoor

namespace Go.Proofs.YtjdedflfdlhkdaaGreatDoor
open Go.ChangeShapes Go.WideShapes Go.ChangeAt Go.RowKit
set_option linter.unusedVariables false
set_option linter.unusedSimpArgs false

/-- A book of n branches: its block S, and the blocks of its three rows. -/
structure BookAt (w : World) (S gw gg gq cq n : Nat) (b : Bk) : Prop where
  c0 : w.cell? ⟨S, 0, none⟩ = some (.int .i64 b.most)
  c1 : w.cell? ⟨S, 1, none⟩ = some (.int .i64 b.ticks)
  c2 : w.cell? ⟨S, 2, none⟩ = some (.int .i64 b.round)
  c3 : w.cell? ⟨S, 3, none⟩ = some (.int .i64 b.res)
  c4 : w.cell? ⟨S, 4, none⟩ = some (.int .i64 b.all)
  c5 : w.cell? ⟨S, 5, none⟩ = some (.slice (some ⟨gw, 0, none⟩) n n)
  c6 : w.cell? ⟨S, 6, none⟩ = some (.slice (some ⟨gg, 0, none⟩) n n)
  c7 : w.cell? ⟨S, 7, none⟩ = some (.slice (some ⟨gq, 0, none⟩) n cq)
  fz : ∀ j, w.frozen? ⟨S, j, none⟩ = false
  rw : w.ownsRow 0 3 1 (.slice (some ⟨gw, 0, none⟩) n n) n (ints b.wants)
  rg : w.ownsRow 0 3 1 (.slice (some ⟨gg, 0, none⟩) n n) n (ints b.granted)
  rq : w.ownsRow 0 3 1 (.slice (some ⟨gq, 0, none⟩) n cq) n (ints b.quota)
  d1 : gw ≠ S
  d2 : gg ≠ S
  d3 : gq ≠ S
  d4 : gw ≠ gg
  d5 : gw ≠ gq
  d6 : gg ≠ gq
theorem owns_at {w w' : World} {base e sz n g cap : Nat} {xs : List Value} (hown : w.ownsRow base e sz (.slice (some ⟨g, 0, none⟩) n cap) n xs) (hb : w'.heap[g]? = w.heap[g]?) : w'.ownsRow base e sz (.slice (some ⟨g, 0, none⟩) n cap) n xs := by
  obtain ⟨hl, h⟩ := hown
  refine ⟨hl, ?_⟩
  rcases h with h | ⟨g', cap', cur, he, hg', hh, hn, hm, hs, ht⟩
  · exact .inl h
  · simp only [Value.slice.injEq, Option.some.injEq, Addr.mk.injEq, and_true, true_and] at he
    obtain ⟨rfl, rfl⟩ := he
    exact .inr ⟨g, cap, cur, rfl, hg', by rw [hb]; exact hh, hn, hm, hs, ht⟩
theorem owns_lt {w : World} {base e sz n g cap : Nat} {xs : List Value} (hown : w.ownsRow base e sz (.slice (some ⟨g, 0, none⟩) n cap) n xs) : g < w.heap.size := by
  obtain ⟨hl, h⟩ := hown
  rcases h with ⟨h, _⟩ | ⟨g', cap', cur, he, hg', hh, _⟩
  · cases h
  · simp only [Value.slice.injEq, Option.some.injEq, Addr.mk.injEq, and_true, true_and] at he
    obtain ⟨rfl, rfl⟩ := he
    exact (Array.getElem?_eq_some_iff.1 hh).1
theorem owns_ne {w : World} {base e sz n g cap : Nat} {xs : List Value} (hown : w.ownsRow base e sz (.slice (some ⟨g, 0, none⟩) n cap) n xs) {p : Addr} (hp : g ≠ p.block) (u : Value) : (w.setCell p u).ownsRow base e sz (.slice (some ⟨g, 0, none⟩) n cap) n xs :=
  owns_at hown (Below.heap_setCell _ _ _ _ hp)
section
variable {w w' : World} {S gw gg gq cq n : Nat} {b : Bk}
theorem BookAt.lt (h : BookAt w S gw gg gq cq n b) : S < w.heap.size ∧ gw < w.heap.size ∧ gg < w.heap.size ∧ gq < w.heap.size :=
  ⟨World.block_lt_of_cell? w _ h.c0, owns_lt h.rw, owns_lt h.rg, owns_lt h.rq⟩
/-- Kept where none of its blocks has changed. -/
theorem BookAt.kept (h : BookAt w S gw gg gq cq n b) (hs : w'.heap[S]? = w.heap[S]?) (h1 : w'.heap[gw]? = w.heap[gw]?) (h2 : w'.heap[gg]? = w.heap[gg]?) (h3 : w'.heap[gq]? = w.heap[gq]?) : BookAt w' S gw gg gq cq n b := by
  have e : ∀ j, w'.cell? ⟨S, j, none⟩ = w.cell? ⟨S, j, none⟩ := fun j => World.cell?_of_block (w := w) (a := ⟨S, j, none⟩) hs
  exact ⟨by rw [e]; exact h.c0, by rw [e]; exact h.c1, by rw [e]; exact h.c2, by rw [e]; exact h.c3, by rw [e]; exact h.c4, by rw [e]; exact h.c5, by rw [e]; exact h.c6, by rw [e]; exact h.c7,
    fun j => by rw [World.frozen?_of_block (w := w) (a := ⟨S, j, none⟩) hs]; exact h.fz j, owns_at h.rw h1, owns_at h.rg h2, owns_at h.rq h3, h.d1, h.d2, h.d3, h.d4, h.d5, h.d6⟩
theorem BookAt.on (h : BookAt w S gw gg gq cq n b) (hb : Below w.heap.size w w') : BookAt w' S gw gg gq cq n b := by
  obtain ⟨l1, l2, l3, l4⟩ := h.lt
  exact h.kept (hb.block _ l1) (hb.block _ l2) (hb.block _ l3) (hb.block _ l4)
theorem BookAt.wrote {F : Nat → Prop} (h : BookAt w S gw gg gq cq n b) (hw : Wrote F w w') (f1 : ¬ F S) (f2 : ¬ F gw) (f3 : ¬ F gg) (f4 : ¬ F gq) : BookAt w' S gw gg gq cq n b := by
  obtain ⟨l1, l2, l3, l4⟩ := h.lt
  exact h.kept (hw.block _ l1 f1) (hw.block _ l2 f2) (hw.block _ l3 f3) (hw.block _ l4 f4)
theorem BookAt.setRound (h : BookAt w S gw gg gq cq n b) (x : Int) : BookAt (w.setCell ⟨S, 2, none⟩ (.int .i64 x)) S gw gg gq cq n { b with round := x } := by
  refine ⟨?_, ?_, World.cell?_setCell_same _ _ _ h.c2, ?_, ?_, ?_, ?_, ?_, fun j => by rw [World.frozen?_setCell]; exact h.fz j, owns_ne h.rw h.d1 _, owns_ne h.rg h.d2 _, owns_ne h.rq h.d3 _, h.d1, h.d2, h.d3, h.d4, h.d5, h.d6⟩ <;> rw [World.cell?_setCell_other _ _ _ _ (by simp)]
  · exact h.c0
  · exact h.c1
  · exact h.c3
  · exact h.c4
  · exact h.c5
  · exact h.c6
  · exact h.c7
theorem BookAt.setRes (h : BookAt w S gw gg gq cq n b) (x : Int) : BookAt (w.setCell ⟨S, 3, none⟩ (.int .i64 x)) S gw gg gq cq n { b with res := x } := by
  refine ⟨?_, ?_, ?_, World.cell?_setCell_same _ _ _ h.c3, ?_, ?_, ?_, ?_, fun j => by rw [World.frozen?_setCell]; exact h.fz j, owns_ne h.rw h.d1 _, owns_ne h.rg h.d2 _, owns_ne h.rq h.d3 _, h.d1, h.d2, h.d3, h.d4, h.d5, h.d6⟩ <;> rw [World.cell?_setCell_other _ _ _ _ (by simp)]
  · exact h.c0
  · exact h.c1
  · exact h.c2
  · exact h.c4
  · exact h.c5
  · exact h.c6
  · exact h.c7
theorem BookAt.setAll (h : BookAt w S gw gg gq cq n b) (x : Int) : BookAt (w.setCell ⟨S, 4, none⟩ (.int .i64 x)) S gw gg gq cq n { b with all := x } := by
  refine ⟨?_, ?_, ?_, ?_, World.cell?_setCell_same _ _ _ h.c4, ?_, ?_, ?_, fun j => by rw [World.frozen?_setCell]; exact h.fz j, owns_ne h.rw h.d1 _, owns_ne h.rg h.d2 _, owns_ne h.rq h.d3 _, h.d1, h.d2, h.d3, h.d4, h.d5, h.d6⟩ <;> rw [World.cell?_setCell_other _ _ _ _ (by simp)]
  · exact h.c0
  · exact h.c1
  · exact h.c2
  · exact h.c3
  · exact h.c5
  · exact h.c6
  · exact h.c7
theorem BookAt.cellO (h : BookAt w S gw gg gq cq n b) {g k : Nat} (u : Value) (hg : g ≠ S) (j : Nat) : (w.setCell ⟨g, k, none⟩ u).cell? ⟨S, j, none⟩ = w.cell? ⟨S, j, none⟩ :=
  World.cell?_setCell_other _ _ _ _ (by simp [hg, Ne.symm hg])
theorem BookAt.setWant (h : BookAt w S gw gg gq cq n b) (k : Nat) (x : Int) : BookAt (w.setCell ⟨gw, k, none⟩ (.int .i64 x)) S gw gg gq cq n { b with wants := b.wants.set k x } := by
  have e := h.cellO (k := k) (.int .i64 x) h.d1
  refine ⟨?_, ?_, ?_, ?_, ?_, ?_, ?_, ?_, fun j => by rw [World.frozen?_setCell]; exact h.fz j, by rw [← ints_set]; exact owns_set h.rw k _, owns_ne h.rg (Ne.symm h.d4) _, owns_ne h.rq (Ne.symm h.d5) _, h.d1, h.d2, h.d3, h.d4, h.d5, h.d6⟩ <;> rw [e]
  · exact h.c0
  · exact h.c1
  · exact h.c2
  · exact h.c3
  · exact h.c4
  · exact h.c5
  · exact h.c6
  · exact h.c7
theorem BookAt.setGranted (h : BookAt w S gw gg gq cq n b) (k : Nat) (x : Int) : BookAt (w.setCell ⟨gg, k, none⟩ (.int .i64 x)) S gw gg gq cq n { b with granted := b.granted.set k x } := by
  have e := h.cellO (k := k) (.int .i64 x) h.d2
  refine ⟨?_, ?_, ?_, ?_, ?_, ?_, ?_, ?_, fun j => by rw [World.frozen?_setCell]; exact h.fz j, owns_ne h.rw h.d4 _, by rw [← ints_set]; exact owns_set h.rg k _, owns_ne h.rq (Ne.symm h.d6) _, h.d1, h.d2, h.d3, h.d4, h.d5, h.d6⟩ <;> rw [e]
  · exact h.c0
  · exact h.c1
  · exact h.c2
  · exact h.c3
  · exact h.c4
  · exact h.c5
  · exact h.c6
  · exact h.c7
theorem BookAt.setQuota (h : BookAt w S gw gg gq cq n b) (k : Nat) (x : Int) : BookAt (w.setCell ⟨gq, k, none⟩ (.int .i64 x)) S gw gg gq cq n { b with quota := b.quota.set k x } := by
  have e := h.cellO (k := k) (.int .i64 x) h.d3
  refine ⟨?_, ?_, ?_, ?_, ?_, ?_, ?_, ?_, fun j => by rw [World.frozen?_setCell]; exact h.fz j, owns_ne h.rw h.d5 _, owns_ne h.rg h.d6 _, by rw [← ints_set]; exact owns_set h.rq k _, h.d1, h.d2, h.d3, h.d4, h.d5, h.d6⟩ <;> rw [e]
  · exact h.c0
  · exact h.c1
  · exact h.c2
  · exact h.c3
  · exact h.c4
  · exact h.c5
  · exact h.c6
  · exact h.c7
/-- A new row of quotas. -/
theorem BookAt.newQuota (h : BookAt w S gw gg gq cq n b) (hb : Below w.heap.size w w') {g c : Nat} {q : List Int} (hq : w'.ownsRow w.heap.size 3 1 (.slice (some ⟨g, 0, none⟩) n c) n (ints q)) : BookAt (w'.setCell ⟨S, 7, none⟩ (.slice (some ⟨g, 0, none⟩) n c)) S gw gg g c n { b with quota := q } := by
  have h' := h.on hb
  obtain ⟨l1, l2, l3, l4⟩ := h.lt
  have hg : w.heap.size ≤ g := by
    obtain ⟨_, hq⟩ := hq
    rcases hq with ⟨hq, _⟩ | ⟨g', cap', cur, he, hg', hh, _⟩
    · cases hq
    · simp only [Value.slice.injEq, Option.some.injEq, Addr.mk.injEq, and_true, true_and] at he
      obtain ⟨rfl, rfl⟩ := he
      exact hg'
  have hq0 : w'.ownsRow 0 3 1 (.slice (some ⟨g, 0, none⟩) n c) n (ints q) := owns_mono hq (Nat.zero_le _)
  refine ⟨?_, ?_, ?_, ?_, ?_, ?_, ?_, World.cell?_setCell_same _ _ _ h'.c7, fun j => by rw [World.frozen?_setCell]; exact h'.fz j, owns_ne h'.rw h.d1 _, owns_ne h'.rg h.d2 _, owns_ne hq0 (show g ≠ S by omega) _, h.d1, h.d2, by omega, h.d4, by omega, by omega⟩ <;> rw [World.cell?_setCell_other _ _ _ _ (by simp)]
  · exact h'.c0
  · exact h'.c1
  · exact h'.c2
  · exact h'.c3
  · exact h'.c4
  · exact h'.c5
  · exact h'.c6
end
end Go.Proofs.YtjdedflfdlhkdaaGreatDoor

namespace Go.Proofs.YtjdedflfdlhkdaaGreatDoor
open Go.ChangeShapes Go.WideShapes Go.ChangeAt Go.RowKit
set_option linter.unusedVariables false

set_option maxRecDepth 100000 in
set_option maxHeartbeats 1000000 in
theorem cclone_int (v : Value) (n : Nat) (xs : List Value) (w : World) (h : Has w 1 v n xs) (h1 : xs.all Value.oneCell' = true) (hbytes : n * 8 ≤ 140737488355328) :
    Calls Tryz.prog 37 #[v] w fun e w' => ∃ v', e = .returned v' ∧ w'.ownsRow w.heap.size 3 1 v' n xs ∧ Below w.heap.size w w' := by
  obtain ⟨⟨hl, hnil⟩, a, cap, rfl, hn, hm, hc⟩ := h
  have q := fun w a n c n' c' => eql_nil Tryz.underlying22 w a n c n' c'
  have H1 := Lib.hid h1
  cases a with
  | none =>
    obtain ⟨rfl, rfl⟩ := hnil _ _ rfl
    obtain rfl : xs = [] := List.eq_nil_of_length_eq_zero (by simpa using hl)
    clear hc hnil hl h1
    go_enter Tryz.func37, Tryz.ntmps37
    go_wp2
    go_ret
    exact ⟨_, rfl, World.ownsRow_nil _ _ _ _, Below.refl _ _⟩
  | some a =>
    have Hs : Hid (∀ X, Below w.heap.size w X → Has X 1 (.slice (some a) n cap) n xs) := fun X hX => Has.below ⟨⟨hl, hnil⟩, some a, cap, rfl, hn, hm, hc⟩ hX
    have hn' : 0 + n ≤ maxLen := by omega
    have Hl := Lib.hid hl
    clear hc hnil hl h1
    go_enter Tryz.func37, Tryz.ntmps37
    go_wp2_with (at_builtin; refine wp_appN (w0 := w.alloc (.cells #[] 3)) 22 3 1 8 _ elInt Tryz.underlying22 w.heap.size _ _ _ (World.ownsRow_made w #[] 0 (Nat.le_refl _) (Nat.zero_le _) rfl) (by repeat (first | exact Below.refl _ _ | refine Below.drew ?_ | refine Below.alloc ?_ (by first | (simp; done) | (simp; omega)) _ | refine Below.setCell ?_ (by first | (simp; done) | (simp; omega)) _)) _ _ _ (Hs.out _ ((Below.refl _ _).alloc (Nat.le_refl _) _)) rfl _ _ rfl rfl rfl H1.out (by omega) hn' (by simp) ?_; intro v3 w3 hown3 hgrow3 hb3)
    go_wp2
    go_ret
    exact ⟨_, rfl, by simpa using hown3, ((Below.refl _ w).alloc (Nat.le_refl _) _).trans hb3⟩

end Go.Proofs.YtjdedflfdlhkdaaGreatDoor

namespace Go.Proofs.YtjdedflfdlhkdaaGreatDoor
open Go.ChangeShapes Go.WideShapes Go.ChangeAt Go.RowKit
set_option linter.unusedVariables false
set_option linter.unusedSimpArgs false

/-- The blocks of a book. -/
def bkF (S gw gg gq : Nat) : Nat → Prop := fun k => k = S ∨ k = gw ∨ k = gg ∨ k = gq
theorem book_lit (W : World) (g1 g2 g3 n : Nat) (T : TypeId) (most ticks : Int) (h1 : W.heap[g1]? = some (.cells (ints (List.replicate n 0)).toArray 3 (0, 0))) (h2 : W.heap[g2]? = some (.cells (ints (List.replicate n 0)).toArray 3 (0, 0)))
    (h3 : W.heap[g3]? = some (.cells (ints (List.replicate n 0)).toArray 3 (0, 0))) (d12 : g1 ≠ g2) (d13 : g1 ≠ g3) (d23 : g2 ≠ g3) (hn : n ≤ maxLen) :
    BookAt (W.alloc (.cells #[.int .i64 most, .int .i64 ticks, .int .i64 0, .int .i64 0, .int .i64 0, .slice (some ⟨g1, 0, none⟩) n n, .slice (some ⟨g2, 0, none⟩) n n, .slice (some ⟨g3, 0, none⟩) n n] T)) W.heap.size g1 g2 g3 n n (Bk.new n most ticks) := by
  have row : ∀ g : Nat, W.heap[g]? = some (.cells (ints (List.replicate n 0)).toArray 3 (0, 0)) → g < W.heap.size ∧ W.ownsRow 0 3 1 (.slice (some ⟨g, 0, none⟩) n n) n (ints (zerosI n)) := fun g hg =>
    ⟨(Array.getElem?_eq_some_iff.1 hg).1, by simp [zerosI], .inr ⟨g, n, _, rfl, Nat.zero_le _, hg, Nat.le_refl _, hn, by simp, by simp [ints, zerosI]⟩⟩
  have keep : ∀ {g : Nat} {xs : List Value} (o : Obj), W.ownsRow 0 3 1 (.slice (some ⟨g, 0, none⟩) n n) n xs → (W.alloc o).ownsRow 0 3 1 (.slice (some ⟨g, 0, none⟩) n n) n xs := fun o h => owns_below h ((Below.refl _ _).alloc (Nat.le_refl _) _)
  obtain ⟨l1, r1⟩ := row g1 h1
  obtain ⟨l2, r2⟩ := row g2 h2
  obtain ⟨l3, r3⟩ := row g3 h3
  refine ⟨?_, ?_, ?_, ?_, ?_, ?_, ?_, ?_, fun j => World.frozen?_alloc_at _ _ _ _ rfl, keep _ r1, keep _ r2, keep _ r3, by omega, by omega, by omega, d12, d13, d23⟩ <;> (rw [World.cell?_alloc_at _ _ _ _ rfl]; rfl)
theorem heap3 (w : World) (o : Obj) : (((w.alloc o).alloc o).alloc o).heap[w.heap.size]? = some o ∧ (((w.alloc o).alloc o).alloc o).heap[w.heap.size + 1]? = some o ∧ (((w.alloc o).alloc o).alloc o).heap[w.heap.size + 1 + 1]? = some o ∧ (((w.alloc o).alloc o).alloc o).heap.size = w.heap.size + 1 + 1 + 1 := by
  refine ⟨?_, ?_, ?_, ?_⟩
  · rw [Below.heap_alloc _ _ _ (by simp; omega), Below.heap_alloc _ _ _ (by simp), heap_alloc_new]
  · rw [Below.heap_alloc _ _ _ (by simp)]
    have := heap_alloc_new (w.alloc o) o
    simpa using this
  · have := heap_alloc_new ((w.alloc o).alloc o) o
    simpa using this
  · simp
set_option maxRecDepth 100000 in
set_option maxHeartbeats 4000000 in
theorem cnewBook (n : Nat) (most ticks : Int) (w : World) (h1 : 1 ≤ n) (h8 : n ≤ 8) :
    Calls Tryz.prog 52 #[.int .i64 n, .int .i64 most, .int .i64 ticks] w fun e w' => ∃ S gw gg gq, e = .returned (.pointer (some ⟨S, 0, none⟩)) ∧ BookAt w' S gw gg gq n n (Bk.new n most ticks) ∧ (w.heap.size ≤ S ∧ w.heap.size ≤ gw ∧ w.heap.size ≤ gg ∧ w.heap.size ≤ gq) ∧ Below w.heap.size w w' := by
  have mk := fun X => run_mk infoInt Tryz.underlying22 rfl X n (by omega) (by omega)
  rw [zeros_ints] at mk
  go_enter Tryz.func52, Tryz.ntmps52
  go_wp2
  go_region
  all_goals (go_wp2; go_ret)
  all_goals
    obtain ⟨e1, e2, e3, e4⟩ := heap3 w (.cells (ints (List.replicate n 0)).toArray 3)
    have hs : ((w.alloc (.cells (ints (List.replicate n 0)).toArray 3)).alloc (.cells (ints (List.replicate n 0)).toArray 3)).alloc (.cells (ints (List.replicate n 0)).toArray 3) = _ := rfl
    refine ⟨w.heap.size + 1 + 1 + 1, _, _, _, rfl, BookAt.kept (w := World.alloc (((w.alloc (.cells (ints (List.replicate n 0)).toArray 3)).alloc (.cells (ints (List.replicate n 0)).toArray 3)).alloc (.cells (ints (List.replicate n 0)).toArray 3)) _) (e4 ▸ book_lit _ _ _ _ n _ most ticks (by assumption) (by assumption) (by assumption) (by omega) (by omega) (by omega) (by unfold maxLen; omega)) rfl rfl rfl rfl, ⟨by omega, by omega, by omega, by omega⟩, ?_⟩
    exact Below.drew ((((Below.refl _ _).alloc (Nat.le_refl _) _).alloc (by simp) _ |>.alloc (by simp; omega) _).alloc (by simp; omega) _)
set_option maxRecDepth 100000 in
set_option maxHeartbeats 1000000 in
theorem cstockBook {w : World} {S gw gg gq cq n : Nat} {b : Bk} (h : BookAt w S gw gg gq cq n b) (c : Int) (h0 : 0 ≤ b.res + c ∧ b.res + c ≤ 2097152) (h1 : 0 ≤ b.all + c ∧ b.all + c ≤ 2097152) :
    Calls Tryz.prog 53 #[.pointer (some ⟨S, 0, none⟩), .int .i64 c] w fun e w' => e = .returned (.tuple #[]) ∧ BookAt w' S gw gg gq cq n (b.stock c) ∧ Wrote (bkF S gw gg gq) w w' := by
  have c3 := h.c3
  have c4 := h.c4
  have f3 := h.fz 3
  have f4 := h.fz 4
  have H : Hid (BookAt ((w.setCell ⟨S, 3, none⟩ (.int .i64 (b.res + c))).setCell ⟨S, 4, none⟩ (.int .i64 (b.all + c))) S gw gg gq cq n (b.stock c)) := (h.setRes (b.res + c)).setAll (b.all + c)
  generalize b.res = r at *
  generalize b.all = a at *
  clear h
  go_enter Tryz.func53, Tryz.ntmps53
  go_wp2_with fail
  go_end0
  exact ⟨rfl, H.out, ((Wrote.refl _ _).setCell (p := ⟨S, 3, none⟩) (Or.inl rfl) _).setCell (p := ⟨S, 4, none⟩) (Or.inl rfl) _⟩
set_option maxRecDepth 100000 in
set_option maxHeartbeats 1000000 in
theorem cwantBook {w : World} {S gw gg gq cq n : Nat} {b : Bk} (h : BookAt w S gw gg gq cq n b) (who : Nat) (c : Int) (hw : who < n) (hl : b.wants.length = n) (hn : n ≤ 8) :
    Calls Tryz.prog 70 #[.pointer (some ⟨S, 0, none⟩), .int .i64 who, .int .i64 c] w fun e w' => e = .returned (.tuple #[]) ∧ BookAt w' S gw gg gq cq n (b.want who c) ∧ Wrote (bkF S gw gg gq) w w' := by
  have c5 := h.c5
  obtain ⟨g', cp', he, -, -, hgf, hgc⟩ := owns_some h.rw (by omega)
  simp only [Value.slice.injEq, Option.some.injEq, Addr.mk.injEq, and_true, true_and] at he
  obtain ⟨rfl, rfl⟩ := he
  have hwl : who < b.wants.length := by omega
  have g1 := hgc who _ (ints_get b.wants who hwl)
  have f1 := hgf who
  have hx : b.wants.getD who 0 = b.wants[who] := by simp [List.getD_eq_getElem?_getD, hwl]
  have hm : max b.wants[who] c = if b.wants[who] < c then c else b.wants[who] := by split <;> omega
  have H : Hid (∀ X : World, BookAt X S gw gg gq cq n b → BookAt (X.setCell ⟨gw, who, none⟩ (.int .i64 (if b.wants[who] < c then c else b.wants[who]))) S gw gg gq cq n (b.want who c)) := fun X hX => by
    have := hX.setWant who (max (b.wants.getD who 0) c)
    rw [hx, hm] at this
    unfold Bk.want
    rw [hx, hm]; exact this
  have Hh := Lib.hid h
  generalize b.wants[who] = x at *
  clear h hgf hgc hx hm hl hwl
  by_cases hxc : x < c
  case' pos => rw [if_pos hxc] at H
  case' neg => rw [if_neg hxc] at H
  all_goals
    go_enter Tryz.func70, Tryz.ntmps70
    go_wp2_with fail
    refine wp_still_tail 15 (by kernel_rfl) (by kernel_rfl) ?_
    simp only [List.take_succ_cons, List.take_zero, List.drop_succ_cons, List.drop_zero]
    repeat still_step
    refine wpStill_nil ?_
    go_wp2_with fail
    go_end0
    exact ⟨rfl, (H.out _ Hh.out).kept rfl rfl rfl rfl, ((Wrote.refl _ _).setCell (p := ⟨gw, who, none⟩) (Or.inr (Or.inl rfl)) _).drew⟩
end Go.Proofs.YtjdedflfdlhkdaaGreatDoor

namespace Go.Proofs.YtjdedflfdlhkdaaGreatDoor
open Go.ChangeShapes Go.WideShapes Go.ChangeAt Go.RowKit
set_option linter.unusedVariables false
set_option linter.unusedSimpArgs false

/-- What the epoch's statement reads of the book, and its cell of quotas. -/
theorem five_on {w w' : World} {S : Nat} {a b c d : Value} (hb : Below w.heap.size w w') (h3 : w.cell? ⟨S, 3, none⟩ = some a) (h0 : w.cell? ⟨S, 0, none⟩ = some b) (h5 : w.cell? ⟨S, 5, none⟩ = some c) (h7 : w.cell? ⟨S, 7, none⟩ = some d) (f7 : w.frozen? ⟨S, 7, none⟩ = false) :
    w'.cell? ⟨S, 3, none⟩ = some a ∧ w'.cell? ⟨S, 0, none⟩ = some b ∧ w'.cell? ⟨S, 5, none⟩ = some c ∧ w'.cell? ⟨S, 7, none⟩ = some d ∧ w'.frozen? ⟨S, 7, none⟩ = false :=
  ⟨cell_on hb h3, cell_on hb h0, cell_on hb h5, cell_on hb h7, by rw [hb.frozen (p := ⟨S, 7, none⟩) (World.block_lt_of_cell? w _ h7)]; exact f7⟩
theorem pay_due (b : Bk) (k : Nat) : b.due k = min (b.wants.getD k 0 - b.granted.getD k 0) (b.quota.getD k 0) := rfl
theorem row_get {w : World} {b n g c k : Nat} {l : List Int} (h : w.ownsRow b 3 1 (.slice (some ⟨g, 0, none⟩) n c) n (ints l)) (hk : k < n) : w.cell? ⟨g, k, none⟩ = some (.int .i64 (l.getD k 0)) ∧ w.frozen? ⟨g, k, none⟩ = false := by
  have hl : l.length = n := by have := h.1; simpa using this
  obtain ⟨g', cp', he, -, -, hgf, hgc⟩ := owns_some h (by omega)
  simp only [Value.slice.injEq, Option.some.injEq, Addr.mk.injEq, and_true, true_and] at he
  obtain ⟨rfl, rfl⟩ := he
  refine ⟨?_, hgf k⟩
  rw [hgc k _ (ints_get l k (by omega))]
  simp [List.getD_eq_getElem?_getD, hl, hk]
theorem wrote_fresh {F : Nat → Prop} {a w : World} (h : Wrote F a w) {p : Addr} (hp : F p.block ∨ a.heap.size ≤ p.block) (u : Value) : Wrote F a (w.setCell p u) := by
  rcases hp with hp | hp
  · exact h.setCell hp u
  · exact ⟨h.os, h.tape, h.output, by have := h.size; simpa [World.setCell] using this, fun k hk hf => by
      rw [Below.heap_setCell _ _ _ _ (by omega)]; exact h.block k hk hf⟩
theorem three_on {w w' : World} {S : Nat} {a b c : Value} (hb : Below w.heap.size w w') (h3 : w.cell? ⟨S, 3, none⟩ = some a) (h0 : w.cell? ⟨S, 0, none⟩ = some b) (h5 : w.cell? ⟨S, 5, none⟩ = some c) :
    w'.cell? ⟨S, 3, none⟩ = some a ∧ w'.cell? ⟨S, 0, none⟩ = some b ∧ w'.cell? ⟨S, 5, none⟩ = some c := ⟨cell_on hb h3, cell_on hb h0, cell_on hb h5⟩
theorem three_set {w : World} {S : Nat} {a b c : Value} (u : Value) (h3 : w.cell? ⟨S, 3, none⟩ = some a) (h0 : w.cell? ⟨S, 0, none⟩ = some b) (h5 : w.cell? ⟨S, 5, none⟩ = some c) :
    (w.setCell ⟨S, 7, none⟩ u).cell? ⟨S, 3, none⟩ = some a ∧ (w.setCell ⟨S, 7, none⟩ u).cell? ⟨S, 0, none⟩ = some b ∧ (w.setCell ⟨S, 7, none⟩ u).cell? ⟨S, 5, none⟩ = some c := by
  refine ⟨?_, ?_, ?_⟩ <;> rw [World.cell?_setCell_other _ _ _ _ (by simp)] <;> assumption
set_option maxRecDepth 100000 in
set_option maxHeartbeats 4000000 in
theorem cround {w : World} {S gw gg gq cq n : Nat} {b : Bk} (h : BookAt w S gw gg gq cq n b) (hok : BkOk n b) (h1 : 1 ≤ n) (h8 : n ≤ 8) (hr : b.round ≤ 1000) :
    Calls Tryz.prog 65 #[.pointer (some ⟨S, 0, none⟩)] w fun e w' => ∃ v' gq' cq', e = .returned (.tuple #[v', .int .i64 b.report]) ∧ w'.ownsRow w.heap.size 3 1 v' n (ints b.rounded.granted) ∧ BookAt w' S gw gg gq' cq' n b.rounded ∧ (gq' = gq ∨ w.heap.size ≤ gq') ∧ Wrote (bkF S gw gg gq) w w' ∧ (∀ bk off m c, v' = .slice (some ⟨bk, off, none⟩) m c → bk ≠ gq') := by
  have c1 := h.c1
  have c2 := h.c2
  have c3 := h.c3
  have c0 := h.c0
  have c5 := h.c5
  have f2 := h.fz 2
  have hrd := hok.round
  obtain ⟨t1, t2⟩ := hok.ticks
  have H := Lib.hid h
  have Hok := Lib.hid hok
  have hlt := h.lt.1
  have hbg : Hid (b.begins = (b.round % b.ticks == 0)) := rfl
  have hne0 : ¬ b.ticks = 0 := by omega
  have htm : b.round.tmod b.ticks = b.round % b.ticks := Int.tmod_eq_emod_of_nonneg hrd
  have hrep : Hid (b.report = if b.begins = true then b.res else -1) := rfl
  have hnx : Hid (b.next = { (if b.begins = true then { b with quota := shareV b.res (List.replicate b.wants.length b.most) } else b) with round := b.round + 1 }) := rfl
  cases hbb : b.begins
  case' true =>
    have hm0 : (b.round % b.ticks == 0) = true := by rw [← hbg.out]; exact hbb
    rw [hbb] at hrep hnx
    clear h hok hbb hbg
    go_enter Tryz.func65, Tryz.ntmps65
    go_wp2_with fail
    go_quiet (fail)
    go_upto_region 4 with (fail)
    have hbW : Below w.heap.size w (w.drewN nq) := below_drewN (Below.refl _ _) _
    have HW : Hid (BookAt (w.drewN nq) S gw gg gq cq n b) := H.out.kept rfl rfl rfl rfl
    clear c1 c2 c3 c0 c5 f2
    generalize hWW : w.drewN nq = W1 at *
    have HWW := Lib.hid hWW
    clear hWW
    have HbW := Lib.hid hbW
    have hltW := HW.out.lt.1
    have r3 := Lib.hid HW.out.c3
    have r0 := Lib.hid HW.out.c0
    have r5 := Lib.hid HW.out.c5
    have r7 := Lib.hid HW.out.c7
    have g7 := Lib.hid (HW.out.fz 7)
    have c3 := r3.out
    have c0 := r0.out
    have c5 := r5.out
    have c7 := r7.out
    have f7 := g7.out
    have hres := Hok.out.res
    have hmost := Hok.out.most
    generalize hmo : b.most = mo at *
    generalize hre : b.res = re at *
    have Hmo := Lib.hid hmo
    have Hre := Lib.hid hre
    clear hmo hre hbW
    have hbA : Hid (Below W1.heap.size W1 (W1.alloc (.cells #[.int .i64 mo] 3))) := (Below.refl _ _).alloc (Nat.le_refl _) _
    have hbD : Hid (Below W1.heap.size W1 (W1.alloc (.cells #[.int .i64 mo] 3)).drew) := Below.drew hbA.out
    go_region_held3 (fun X => X.cell? ⟨S, 3, none⟩ = some (.int .i64 re) ∧ X.cell? ⟨S, 0, none⟩ = some (.int .i64 mo) ∧ X.cell? ⟨S, 5, none⟩ = some (.slice (some ⟨gw, 0, none⟩) n n))
      (first | exact three_set _ k3 k0 k5 | exact three_on (w := W1) (Below.drew (Below.refl _ _)) r3.out r0.out r5.out | exact three_on (w := W1) hbD.out r3.out r0.out r5.out | exact three_on (hbD.out.trans (hb5.mono hbD.out.size)) r3.out r0.out r5.out | exact ⟨k3, k0, k5⟩ | (go_keep; done))
      ((first | (go_at_call 84; refine (crepeat _ mo n _ (has_block (by first | exact heap_alloc_new _ _ | (simp only [heap_drew, heap_drewN]; exact heap_alloc_new _ _)) rfl (by rfl) (by decide)) h1 (by omega)).mono ?_; rintro e w5 ⟨v5, rfl, hown5, hb5⟩) | (go_at_call 83; refine (csplit v5 (List.replicate n mo) re w5 (by simpa using Has.of_owns hown5) (fun x hx => by rw [List.mem_replicate] at hx; omega) (by simp; omega) (by omega) (by omega)).mono ?_; rintro e w6 ⟨v6, L, rfl, hL, hown6, hb6⟩; rw [List.length_replicate] at hown6; obtain ⟨g6, c6, rfl, -⟩ := owns_some hown6 (by omega); obtain ⟨k3, k0, k5, k7, kf⟩ := five_on ((hbD.out.trans (hb5.mono hbD.out.size)).trans (hb6.mono (hbD.out.trans (hb5.mono hbD.out.size)).size)) r3.out r0.out r5.out r7.out g7.out) | fail))
    have hb16 : Below W1.heap.size W1 w6 := (hbD.out.trans (hb5.mono hbD.out.size)).trans (hb6.mono (hbD.out.trans (hb5.mono hbD.out.size)).size)
    have hsq : give L (re - least (List.replicate n mo) L) (List.replicate n mo) = shareV re (List.replicate n mo) := shareV_eq (fun x hx => by rw [List.mem_replicate] at hx; omega) (by omega) hL
    rw [hsq] at hown6
    have hlw := Hok.out.lw
    have HB6 : Hid (BookAt (w6.setCell ⟨S, 7, none⟩ (.slice (some ⟨g6, 0, none⟩) n c6)) S gw gg g6 c6 n { b with quota := shareV re (List.replicate n mo) }) := HW.out.newQuota hb16 (owns_mono hown6 (hbD.out.trans (hb5.mono hbD.out.size)).size)
    have HB7 : Hid (BookAt ((w6.setCell ⟨S, 7, none⟩ (.slice (some ⟨g6, 0, none⟩) n c6)).setCell ⟨S, 2, none⟩ (.int .i64 (b.round + 1))) S gw gg g6 c6 n b.next) := by
      have h := HB6.out.setRound (b.round + 1)
      have e := hnx.out
      simp only [if_true] at e
      rw [hlw] at e
      have hm := Hmo.out
      have hr' := Hre.out
      rw [e]
      subst hm; subst hr'
      exact h
    have hg6 : W1.heap.size ≤ g6 := by
      obtain ⟨g', cp', he, hgg, -⟩ := owns_some hown6 (by omega)
      simp only [Value.slice.injEq, Option.some.injEq, Addr.mk.injEq, and_true, true_and] at he
      obtain ⟨rfl, rfl⟩ := he
      exact Nat.le_trans (hbD.out.trans (hb5.mono hbD.out.size)).size hgg
    have Hgq : Hid (g6 = gq ∨ w.heap.size ≤ g6) := Or.inr (Nat.le_trans HbW.out.size hg6)
    have hbw6 : Below w.heap.size w w6 := HbW.out.trans (hb16.mono HbW.out.size)
    have Hwr : Hid (Wrote (bkF S gw gg gq) w ((w6.setCell ⟨S, 7, none⟩ (.slice (some ⟨g6, 0, none⟩) n c6)).setCell ⟨S, 2, none⟩ (.int .i64 (b.round + 1)))) :=
      ((Wrote.of_below hbw6 (fun k h1 h2 => by omega)).setCell (p := ⟨S, 7, none⟩) (Or.inl rfl) _).setCell (p := ⟨S, 2, none⟩) (Or.inl rfl) _
    have k2 := HB6.out.c2
    have kf2 := HB6.out.fz 2
    have Hrep := Lib.hid (show b.report = re by have e := hrep.out; simpa using e)
    clear c3 c0 c5 c7 f7 hnx hrep hlw hown6 hown5 hb5 hb6 hb16 hbw6 hg6 hsq hL k3 k0 k5 k7 kf r3 r0 r5 r7 g7 HB6 HW HbW hbA hbD hm0 htm
    generalize hW6 : w6.setCell ⟨S, 7, none⟩ (.slice (some ⟨g6, 0, none⟩) n c6) = W6 at *
    go_upto_region 6 with (fail)
    generalize W6.setCell ⟨S, 2, none⟩ (.int .i64 (b.round + 1)) = W7 at *
  case' false =>
    have hm0 : (b.round % b.ticks == 0) = false := by rw [← hbg.out]; exact hbb
    rw [hbb] at hrep hnx
    have HB7 : Hid (∀ nq, BookAt ((w.drewN nq).setCell ⟨S, 2, none⟩ (.int .i64 (b.round + 1))) S gw gg gq cq n b.next) := fun nq => by
      have h := (H.out.kept rfl rfl rfl rfl : BookAt (w.drewN nq) S gw gg gq cq n b).setRound (b.round + 1)
      have e := hnx.out
      simp only [Bool.false_eq_true, if_false] at e
      rw [e]; exact h
    have Hwr : Hid (∀ nq, Wrote (bkF S gw gg gq) w ((w.drewN nq).setCell ⟨S, 2, none⟩ (.int .i64 (b.round + 1)))) := fun nq => ((Wrote.refl _ _).drewN nq).setCell (p := ⟨S, 2, none⟩) (Or.inl rfl) _
    have Hrep := Lib.hid (show b.report = -1 by have e := hrep.out; simpa using e)
    clear h hok hbb hbg hnx hrep
    go_enter Tryz.func65, Tryz.ntmps65
    go_wp2_with fail
    go_quiet (fail)
    go_upto_region 6 with (fail)
    have HB7 := Lib.hid (HB7.out nq)
    have Hwr := Lib.hid (Hwr.out nq)
    clear c1 c2 c3 c0 c5 f2 hm0 htm
    generalize (w.drewN nq).setCell ⟨S, 2, none⟩ (.int .i64 (b.round + 1)) = W7 at *
    obtain ⟨g6, hg6⟩ : ∃ x, x = gq := ⟨_, rfl⟩
    obtain ⟨c6, hc6⟩ : ∃ x, x = cq := ⟨_, rfl⟩
    have HB7 : Hid (BookAt W7 S gw gg g6 c6 n b.next) := by rw [hg6, hc6]; exact HB7.out
    have Hgq : Hid (g6 = gq ∨ w.heap.size ≤ g6) := Or.inl hg6
    clear hg6 hc6
  all_goals
    have hsz7 := Hwr.out.size
    have k5 := HB7.out.c5
    have Hnx := Lib.hid Hok.out.next
    have Hlw := Lib.hid Hok.out.lw
    clear hlt
    go_wp2_with fail
    go_loopw [5, 6, 7, 56] (fun _ _ _ i wr => ∃ k : Nat, k ≤ n ∧ i = .int .i64 k ∧ BookAt wr S gw gg g6 c6 n (b.next.payTo k) ∧ Wrote (bkF S gw gg gq) w wr) (fun _ _ _ i _ => n - (intOf i).toNat)
    case atStart => exact ⟨0, by omega, rfl, HB7.out, Hwr.out⟩
    case round =>
      clear HB7 Hwr k5
      obtain ⟨k, hk, rfl, hB, hwr⟩ := hrel
      have HB := Lib.hid hB
      have Hwr := Lib.hid hwr
      clear hB hwr
      by_cases hlt : k < n
      · have hko := Hnx.out.payTo k (by omega)
        have hP : Hid (b.next.payTo (k + 1) = (b.next.payTo k).pay k) := Bk.payTo_succ _ _
        generalize b.next.payTo k = x at *
        obtain ⟨d0, d1, d2, d3⟩ := due_bd hko k
        obtain ⟨w0, w1, w2⟩ := hko.want k
        have hq0 := hko.quota k
        have hrs := hko.res
        have hqs := hko.sum
        have hql := (le_sum x.quota k hko.quota).2
        have hdue : Hid (x.due k = min (x.wants.getD k 0 - x.granted.getD k 0) (x.quota.getD k 0)) := rfl
        obtain ⟨a1, -⟩ := row_get HB.out.rw hlt
        obtain ⟨a2, b2⟩ := row_get HB.out.rg hlt
        obtain ⟨a3, b3⟩ := row_get HB.out.rq hlt
        have k3 := HB.out.c3
        have k6 := HB.out.c6
        have k7 := HB.out.c7
        have kf3 := HB.out.fz 3
        have e1 := HB.out.d1
        have e2 := HB.out.d2
        have e3 := HB.out.d3
        have e4 := HB.out.d4
        have e5 := HB.out.d5
        have e6 := HB.out.d6
        have hpay : Hid (x.pay k = { x with granted := x.granted.set k (x.granted.getD k 0 + x.due k), quota := x.quota.set k (x.quota.getD k 0 - x.due k), res := x.res - x.due k }) := rfl
        have hst : Hid (∀ X, BookAt X S gw gg g6 c6 n x → BookAt (((X.setCell ⟨gg, k, none⟩ (.int .i64 (x.granted.getD k 0 + x.due k))).setCell ⟨g6, k, none⟩ (.int .i64 (x.quota.getD k 0 - x.due k))).setCell ⟨S, 3, none⟩ (.int .i64 (x.res - x.due k))) S gw gg g6 c6 n (x.pay k)) := fun X hX => by
          rw [hpay.out]
          exact ((hX.setGranted k _).setQuota k _).setRes _
        have hmin : (if x.quota.getD k 0 < x.wants.getD k 0 - x.granted.getD k 0 then x.quota.getD k 0 else x.wants.getD k 0 - x.granted.getD k 0) = x.due k := by rw [hdue.out]; split <;> omega
        generalize x.due k = d at *
        generalize x.wants.getD k 0 = wk at *
        generalize x.granted.getD k 0 = gk at *
        generalize x.quota.getD k 0 = qk at *
        generalize x.res = re' at *
        have ws1 : IntKind.i64.wrap (wk - gk) = wk - gk := IntWalk.i64_in _ (by omega)
        have hqk : qk ≤ 1048576 := by omega
        clear hdue hpay hko hqs hql
        go_wp2_with fail
        go_quiet (fail)
        go_wp2_with fail
        go_roundw
        case rel => exact ⟨k + 1, by omega, by go_num, by rw [hP.out]; exact (hst.out _ HB.out).kept rfl rfl rfl rfl, (((Hwr.out.setCell (p := ⟨gg, k, none⟩) (Or.inr (Or.inr (Or.inl rfl))) _ |> fun h => wrote_fresh (p := ⟨g6, k, none⟩) h (by
            rcases Hgq.out with h | h
            · exact Or.inl (Or.inr (Or.inr (Or.inr h)))
            · exact Or.inr h) _).setCell (p := ⟨S, 3, none⟩) (Or.inl rfl) _).drewN _)⟩
        case measure => simp [intOf]; omega
      · obtain rfl : k = n := by omega
        have hrd : Hid (BookAt wr S gw gg g6 c6 k b.rounded) := by
          have h := HB.out
          unfold Bk.rounded
          rw [Hlw.out]; exact h
        have HC := Lib.hid (cclone_int _ k (ints b.rounded.granted) wr (Has.of_owns hrd.out.rg) (ints_one _) (by omega))
        have k6 := hrd.out.c6
        have Hrd := hrd
        clear HB
        go_wp2_with fail
        refine HC.out.mono ?_
        rintro e w9 ⟨v9, rfl, hown, hb⟩
        have Hown := Lib.hid (owns_mono hown Hwr.out.size)
        have Hrd9 := Lib.hid (Hrd.out.on hb)
        have Hwr9 := Lib.hid (Hwr.out.trans ((Wrote.of_below (F := bkF S gw gg gq) hb (fun j h1 h2 => by omega))))
        have Haw : Hid (∀ bk off m c, v9 = .slice (some ⟨bk, off, none⟩) m c → bk ≠ g6) := fun bk off m c hv => by
          have hg := Hrd.out.lt.2.2.2
          obtain ⟨_, ho⟩ := hown
          rcases ho with ⟨rfl, _⟩ | ⟨g, cap, cur, rfl, hgg, _⟩
          · simp at hv
          · simp only [Value.slice.injEq, Option.some.injEq, Addr.mk.injEq] at hv
            obtain ⟨⟨rfl, -, -⟩, -, -⟩ := hv
            omega
        clear hown hb HC k6 hrd Hrd Hwr
        go_wp2_with fail
        go_ret2
        exact ⟨_, g6, c6, by rw [Hrep.out]; rfl, Hown.out, Hrd9.out, Hgq.out, Hwr9.out, Haw.out⟩
end Go.Proofs.YtjdedflfdlhkdaaGreatDoor
