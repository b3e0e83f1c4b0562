/- Package hold: Do, Play. -/
import Derived.Test.YtgmichaconnhaaaHoldU
import Derived.Test.YtgmichaconnhaaaHoldV
import Derived.Test.YtgmichaconnhaaaHoldX
namespace Go.Proofs.Ytgmichaconnhaaa
open Go.ChangeShapes Go.WideShapes Go.ChangeAt Go.RowKit
set_option linter.unusedVariables false
set_option linter.unusedSimpArgs false

theorem cOrder {w : World} {base S : Nat} {s : Shf} (h : ShfAt w base S s) (o : Ord) (ho : o.Ok) (hm : s.made ≤ 1000) :
    Calls Try.prog 63 #[.pointer (some ⟨S, 0, none⟩), o.val] w fun e w' => e = .returned (.tuple #[.int .i64 (s.order o).1, .int .i64 (s.order o).2.1]) ∧ Ordered base S s (s.next o) w w' := by
  have hk := ho.kind
  rcases (show o.kind = 1 ∨ o.kind = 2 ∨ o.kind = 3 ∨ o.kind = 4 ∨ o.kind = 5 ∨ o.kind = 6 ∨ o.kind = 7 by omega) with h1 | h1 | h1 | h1 | h1 | h1 | h1
  · exact cOrder1 h o ho h1
  · exact cOrder2 h o ho h1
  · exact cOrder3 h o ho h1 hm
  · exact cOrder4 h o ho h1
  · exact cOrder5 h o ho h1
  · exact cOrder6 h o ho h1
  · exact cOrder7 h o ho h1
def Stk.val (x : Stk) : Value := .agg #[.int .i64 x.code, .int .i64 x.id, .int .i64 x.free, .int .i64 x.held, .int .i64 x.used]
theorem Ordered.sets {base S R : Nat} {s s' : Shf} {w W : World} {cs : Array Value} (h : Ordered base S s s' w W) (hR : w.heap.size ≤ R) (hb : base ≤ w.heap.size) (hh : W.heap[R]? = some (.cells cs 33 (0, 0))) (j : Nat) (x : Value) : Ordered base S s s' w (W.setCell ⟨R, j, none⟩ x) := by
  have hc := Chc.setCell (T := [33]) (p := ⟨R, j, none⟩) hh (by simp) x
  refine ⟨h.sh.chc hc (by decide) (by decide), h.hb.setCell (Nat.le_trans hb hR) _, ⟨Nat.le_trans h.hc.size hc.size, fun k cs' e r hk he => ?_⟩⟩
  have hlt := (Array.getElem?_eq_some_iff.1 hk).1
  rw [Below.heap_setCell _ _ _ _ (show k ≠ R by omega)]
  exact h.hc.block k cs' e r hk he
theorem Ordered.on {base S : Nat} {s s' : Shf} {w W W' : World} (h : Ordered base S s s' w W) (hb : Below W.heap.size W W') (hbs : base ≤ w.heap.size) : Ordered base S s s' w W' :=
  ⟨h.sh.on hb, h.hb.trans (hb.mono (Nat.le_trans hbs h.hc.size)), h.hc.trans (Chc.of_below hb)⟩
theorem Ordered.from {base S : Nat} {s s' : Shf} {w W W' : World} (hb : Below w.heap.size w W) (h : Ordered base S s s' W W') (hbs : base ≤ w.heap.size) : Ordered base S s s' w W' :=
  ⟨h.sh, (hb.mono hbs).trans h.hb, (Chc.of_below hb).trans h.hc⟩
theorem five_set1 {w : World} {S : Nat} {a0 a1 a2 a3 a4 : Value} {e : TypeId} (h : w.heap[S]? = some (.cells #[a0, a1, a2, a3, a4] e (0, 0))) (x y : Value) : ((w.setCell ⟨S, 1, none⟩ x).setCell ⟨S, 0, none⟩ y).heap[S]? = some (.cells #[y, x, a2, a3, a4] e (0, 0)) :=
  heap_setCell_same _ S 0 _ _ y (heap_setCell_same _ S 1 _ _ x h)
set_option maxRecDepth 100000 in
set_option maxHeartbeats 4000000 in
theorem cDo {w : World} {base S : Nat} {s : Shf} (h : ShfAt w base S s) (o : Ord) (ho : o.Ok) (hm : s.made ≤ 1000) :
    Calls Try.prog 46 #[.pointer (some ⟨S, 0, none⟩), o.val] w fun e w' => e = .returned (s.out o).val ∧ Ordered base S s (s.next o) w w' := by
  have H := Lib.hid h
  have Ho := Lib.hid ho
  have hS := h.lt
  have hbs : base ≤ w.heap.size := by have := h.lo; omega
  obtain ⟨k, c, l, id⟩ := o
  have hb : Below w.heap.size w ((w.alloc (.cells #[.int .i64 k, .int .i64 c, .int .i64 l, .int .i64 id] 30)).alloc (.cells #[.int .i64 0, .int .i64 0, .int .i64 0, .int .i64 0, .int .i64 0] 33)) :=
    ((Below.refl _ _).alloc (Nat.le_refl _) _).alloc (by simp) _
  have hR : ((w.alloc (.cells #[.int .i64 k, .int .i64 c, .int .i64 l, .int .i64 id] 30)).alloc (.cells #[.int .i64 0, .int .i64 0, .int .i64 0, .int .i64 0, .int .i64 0] 33)).heap[w.heap.size + 1]? = some (.cells #[.int .i64 0, .int .i64 0, .int .i64 0, .int .i64 0, .int .i64 0] 33 (0, 0)) := by
    have := heap_alloc_new (w.alloc (.cells #[.int .i64 k, .int .i64 c, .int .i64 l, .int .i64 id] 30)) (.cells #[.int .i64 0, .int .i64 0, .int .i64 0, .int .i64 0, .int .i64 0] 33)
    simpa using this
  have hO : ((w.alloc (.cells #[.int .i64 k, .int .i64 c, .int .i64 l, .int .i64 id] 30)).alloc (.cells #[.int .i64 0, .int .i64 0, .int .i64 0, .int .i64 0, .int .i64 0] 33)).heap[w.heap.size]? = some (.cells #[.int .i64 k, .int .i64 c, .int .i64 l, .int .i64 id] 30 (0, 0)) := by
    rw [((Below.refl _ _).alloc (Nat.le_refl _) _).block _ (by simp)]
    exact heap_alloc_new _ _
  obtain ⟨⟨x0, x1, x2, x3⟩, -⟩ := four_cells hO
  have Hb := Lib.hid hb
  have HR := Lib.hid hR
  clear h ho hb hR hO
  unfold Ord.val
  simp only
  go_enter Try.func46, Try.ntmps46
  go_upto_region 1 with (fail)
  generalize ((w.alloc (.cells #[.int .i64 k, .int .i64 c, .int .i64 l, .int .i64 id] 30)).alloc (.cells #[.int .i64 0, .int .i64 0, .int .i64 0, .int .i64 0, .int .i64 0] 33)) = W at *
  have CO := Lib.hid (cOrder (H.out.on Hb.out) ⟨k, c, l, id⟩ Ho.out hm)
  go_wp2_with fail
  refine CO.out.mono ?_
  rintro e w1 ⟨rfl, h1⟩
  have HR1 := h1.hc.block _ _ _ _ HR.out (by decide)
  have HO1 : Hid (Ordered base S s (s.next ⟨k, c, l, id⟩) w w1) := Ordered.from Hb.out h1 hbs
  have CS := Lib.hid (cStock h1.sh)
  have hout : s.out ⟨k, c, l, id⟩ = ⟨(s.order ⟨k, c, l, id⟩).2.1, (s.order ⟨k, c, l, id⟩).1, (s.next ⟨k, c, l, id⟩).free, (s.next ⟨k, c, l, id⟩).held, (s.next ⟨k, c, l, id⟩).used⟩ := rfl
  have Hout := Lib.hid hout
  generalize (s.order ⟨k, c, l, id⟩).2.1 = code at *
  generalize (s.order ⟨k, c, l, id⟩).1 = nid at *
  generalize (s.next ⟨k, c, l, id⟩).free = fr at *
  generalize (s.next ⟨k, c, l, id⟩).held = hd at *
  generalize (s.next ⟨k, c, l, id⟩).used = us at *
  have HRR := Lib.hid HR1
  clear x0 x1 x2 x3 HR1 h1 CO HR Hb hout
  go_wp2_with fail
  refine CS.out.mono ?_
  rintro e w2 ⟨rfl, hb2⟩
  have HO2 := Lib.hid (HO1.out.on hb2 hbs)
  have hlt2 : w.heap.size + 1 < w1.heap.size := (Array.getElem?_eq_some_iff.1 HRR.out).1
  have hR2 : w2.heap[w.heap.size + 1]? = some (.cells #[.int .i64 0, .int .i64 0, .int .i64 0, .int .i64 0, .int .i64 0] 33 (0, 0)) := by rw [hb2.block _ hlt2]; exact HRR.out
  have hlt3 : w.heap.size + 1 < w2.heap.size := (Array.getElem?_eq_some_iff.1 hR2).1
  clear CS HRR HO1 hb2
  have hB := heap_alloc_new w2 (.cells #[.int .i64 0, .int .i64 0, .int .i64 fr, .int .i64 hd, .int .i64 us] 33)
  have hR3 : (w2.alloc (.cells #[.int .i64 0, .int .i64 0, .int .i64 fr, .int .i64 hd, .int .i64 us] 33)).heap[w.heap.size + 1]? = some (.cells #[.int .i64 0, .int .i64 0, .int .i64 0, .int .i64 0, .int .i64 0] 33 (0, 0)) := by rw [((Below.refl _ _).alloc (Nat.le_refl _) _).block _ hlt3]; exact hR2
  have HO3 := Lib.hid (HO2.out.on ((Below.refl w2.heap.size w2).alloc (Nat.le_refl _) (.cells #[.int .i64 0, .int .i64 0, .int .i64 fr, .int .i64 hd, .int .i64 us] 33)) hbs)
  have HB := Lib.hid hB
  have HR3 := Lib.hid hR3
  obtain ⟨⟨b0, b1, b2, b3, b4⟩, bf⟩ := five_cells hB
  have bf0 := bf 0
  have bf1 := bf 1
  clear hB hR3 HO2 bf hR2
  go_upto_region 3 with (fail)
  generalize w2.alloc (.cells #[.int .i64 0, .int .i64 0, .int .i64 fr, .int .i64 hd, .int .i64 us] 33) = W3 at *
  go_upto_region 4 with (fail)
  have hB4 := five_set1 HB.out (.int .i64 nid) (.int .i64 code)
  have e1 : ((W3.setCell ⟨w2.heap.size, 1, none⟩ (.int .i64 nid)).setCell ⟨w2.heap.size, 0, none⟩ (.int .i64 code)).heap[w.heap.size + 1]? = some (.cells #[.int .i64 0, .int .i64 0, .int .i64 0, .int .i64 0, .int .i64 0] 33 (0, 0)) := by
    rw [Below.heap_setCell _ _ _ _ (by simp; omega), Below.heap_setCell _ _ _ _ (by simp; omega)]; exact HR3.out
  have HO4 := Lib.hid ((HO3.out.sets (show w.heap.size ≤ w2.heap.size by omega) hbs HB.out 1 (.int .i64 nid)).sets (show w.heap.size ≤ w2.heap.size by omega) hbs (heap_setCell_same _ w2.heap.size 1 _ _ (.int .i64 nid) HB.out) 0 (.int .i64 code))
  obtain ⟨⟨b0', b1', b2', b3', b4'⟩, -⟩ := five_cells hB4
  obtain ⟨⟨r0, r1, r2, r3, r4⟩, rf⟩ := five_cells e1
  have rf0 := rf 0
  have rf1 := rf 1
  have rf2 := rf 2
  have rf3 := rf 3
  have rf4 := rf 4
  have E1 := Lib.hid e1
  clear b0 b1 b2 b3 b4 bf0 bf1 hB4 e1 rf HB HR3 HO3
  generalize ((W3.setCell ⟨w2.heap.size, 1, none⟩ (.int .i64 nid)).setCell ⟨w2.heap.size, 0, none⟩ (.int .i64 code)) = W4 at *
  go_wp2_with fail
  have i0 := heap_setCell_same _ (w.heap.size + 1) 0 _ _ (.int .i64 code) E1.out
  have i1 := heap_setCell_same _ (w.heap.size + 1) 1 _ _ (.int .i64 nid) i0
  have i2 := heap_setCell_same _ (w.heap.size + 1) 2 _ _ (.int .i64 fr) i1
  have i3 := heap_setCell_same _ (w.heap.size + 1) 3 _ _ (.int .i64 hd) i2
  have o1 := HO4.out.sets (show w.heap.size ≤ w.heap.size + 1 by omega) hbs E1.out 0 (.int .i64 code)
  have o2 := o1.sets (show w.heap.size ≤ w.heap.size + 1 by omega) hbs i0 1 (.int .i64 nid)
  have o3 := o2.sets (show w.heap.size ≤ w.heap.size + 1 by omega) hbs i1 2 (.int .i64 fr)
  have o4 := o3.sets (show w.heap.size ≤ w.heap.size + 1 by omega) hbs i2 3 (.int .i64 hd)
  have o5 := o4.sets (show w.heap.size ≤ w.heap.size + 1 by omega) hbs i3 4 (.int .i64 us)
  obtain ⟨⟨t0, t1, t2, t3, t4⟩, -⟩ := five_cells (five_set E1.out (.int .i64 code) (.int .i64 nid) (.int .i64 fr) (.int .i64 hd) (.int .i64 us))
  clear i0 i1 i2 i3 o1 o2 o3 o4 r0 r1 r2 r3 r4 rf0 rf1 rf2 rf3 rf4 b0' b1' b2' b3' b4'
  generalize (((((W4.setCell ⟨w.heap.size + 1, 0, none⟩ (.int .i64 code)).setCell ⟨w.heap.size + 1, 1, none⟩ (.int .i64 nid)).setCell ⟨w.heap.size + 1, 2, none⟩ (.int .i64 fr)).setCell ⟨w.heap.size + 1, 3, none⟩ (.int .i64 hd)).setCell ⟨w.heap.size + 1, 4, none⟩ (.int .i64 us)) = w6 at *
  refine bodyPost_ret (v := (s.out ⟨k, c, l, id⟩).val) (by rw [Hout.out]; simp [results, Try.results46, go_sem, t0, t1, t2, t3, t4, Stk.val]) rfl ⟨rfl, o5⟩
end Go.Proofs.Ytgmichaconnhaaa
