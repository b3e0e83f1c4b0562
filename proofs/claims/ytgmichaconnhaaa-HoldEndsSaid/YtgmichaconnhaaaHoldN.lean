/- Package hold: the library's DeleteFunc and Delete on rows of holds. -/
import Derived.Test.YtgmichaconnhaaaHoldM
namespace Go.Proofs.Ytgmichaconnhaaa
open Go.ChangeShapes Go.WideShapes Go.ChangeAt Go.RowKit
set_option linter.unusedVariables false
set_option linter.unusedSimpArgs false

/-- What a row holds behind j of its elements: the kept ones in front, the others as they were. -/
structure Kept (p : Hd → Bool) (l lst : List Hd) (i j : Nat) : Prop where
  len : lst.length = l.length
  lt : i < j
  le : j ≤ l.length
  front : lst.take i = (l.take j).filter (fun x => !p x)
  back : lst.drop j = l.drop j
theorem Kept.get {p : Hd → Bool} {l lst : List Hd} {i j : Nat} (h : Kept p l lst i j) (hj : j < l.length) (hj' : j < lst.length) : lst[j] = l[j] := by
  have := congrArg (fun x => x[0]?) h.back
  simp only [List.getElem?_drop, Nat.add_zero] at this
  rw [List.getElem?_eq_getElem hj, List.getElem?_eq_getElem hj'] at this
  simpa using this
theorem Kept.skip {p : Hd → Bool} {l lst : List Hd} {i j : Nat} (h : Kept p l lst i j) (hj : j < l.length) (hp : p l[j] = true) : Kept p l lst i (j + 1) :=
  ⟨h.len, by have := h.lt; omega, by omega, by rw [h.front, take_snoc l j hj, List.filter_append]; simp [hp], by
    have := congrArg (fun x => x.drop 1) h.back
    simpa [List.drop_drop] using this⟩
theorem Kept.keep {p : Hd → Bool} {l lst : List Hd} {i j : Nat} (h : Kept p l lst i j) (hj : j < l.length) (hp : p l[j] = false) : Kept p l (lst.set i l[j]) (i + 1) (j + 1) := by
  have hlt := h.lt
  have hl := h.len
  refine ⟨by simp [h.len], by omega, by omega, ?_, ?_⟩
  · rw [take_snoc l j hj, List.filter_append, ← h.front, set_split _ _ _ (by omega), List.take_append_of_le_length (by simp; omega), List.take_of_length_le (by simp; omega)]
    simp [hp]
  · have := congrArg (fun x => x.drop 1) h.back
    rw [List.drop_set_of_lt (by omega)]
    simpa [List.drop_drop] using this
theorem Kept.start {p : Hd → Bool} {l : List Hd} {i : Nat} (hi : l.findIdx? p = some i) : Kept p l l i (i + 1) := by
  obtain ⟨h1, h2, h3⟩ := List.findIdx?_eq_some_iff_getElem.1 hi
  refine ⟨rfl, by omega, by omega, ?_, rfl⟩
  rw [take_snoc l i h1, List.filter_append]
  simp only [h2, List.filter_cons, List.filter_nil, Bool.not_true, Bool.false_eq_true, if_false, List.append_nil]
  rw [List.filter_eq_self.2]
  intro x hx
  obtain ⟨j, hj, rfl⟩ := List.mem_iff_getElem.1 hx
  simp only [List.length_take] at hj
  rw [List.getElem_take]
  have := h3 j (by omega)
  simpa using this
theorem none_over {p : Hd → Bool} {l : List Hd} (h : l.findIdx? p = none) : l.filter (fun x => !p x) = l := by
  rw [List.filter_eq_self]
  intro x hx
  have := List.findIdx?_eq_none_iff.1 h x hx
  simp [this]
theorem Kept.count {p : Hd → Bool} {l lst : List Hd} {i : Nat} (h : Kept p l lst i l.length) : (l.filter (fun x => !p x)).length = i := by
  have := congrArg List.length h.front
  rw [List.take_of_length_le (Nat.le_refl l.length)] at this
  rw [← this, List.length_take]
  have := h.lt
  have := h.len
  omega
/-- Behind the loop and the clearing. -/
theorem Kept.done {p : Hd → Bool} {l lst : List Hd} {i base g cap : Nat} {w : World} (h : Kept p l lst i l.length) (hown : w.ownsRow base 146 3 (.slice (some ⟨g, 0, none⟩) l.length cap) l.length (hcs lst)) (zs : List Value) (hz : zs.length = (l.length - i) * 3) :
    (w.setCells g (i * 3) zs).ownsRow base 146 3 (.slice (some ⟨g, 0, none⟩) i cap) (l.filter (fun x => !p x)).length (hcs (l.filter (fun x => !p x))) := by
  have hlt := h.lt
  have hl := h.len
  have h1 := owns_write hown (i * 3) zs (by rw [hz]; omega)
  have h2 := owns_cut h1 (show i ≤ l.length by omega)
  rw [h.count]
  have e : ((hcs lst).take (i * 3) ++ zs ++ (hcs lst).drop (i * 3 + zs.length)).take (i * 3) = hcs (l.filter (fun x => !p x)) := by
    have e1 : ((hcs lst).take (i * 3)).length = i * 3 := by rw [List.length_take, hcs_length]; omega
    rw [List.append_assoc, List.take_append_of_le_length (by rw [e1]; exact Nat.le_refl _), List.take_of_length_le (by rw [e1]; exact Nat.le_refl _), hcs_take, h.front, List.take_of_length_le (Nat.le_refl _)]
  rw [e] at h2
  exact h2
set_option maxRecDepth 100000 in
set_option maxHeartbeats 4000000 in
theorem cDeleteFunc {w : World} {base : Nat} {v : Value} {l : List Hd} (p : Hd → Bool) (g : Nat) (lb : Array Value) (eg : ∀ args w, (callFunc g args).run Try.prog w = .ok (.enter g args) w)
    (hp : ∀ (X : World) (x : Hd), Calls Try.prog g (#[.agg #[.int .i64 x.id, .int .i64 x.count, .int .i64 x.life]] ++ lb) X fun e w' => e = .returned (.bool (p x)) ∧ Below X.heap.size X w')
    (h : w.ownsRow base 146 3 v l.length (hcs l)) (hbs : base ≤ w.heap.size) :
    Calls Try.prog 78 #[v, .func (.func g) #[] lb] w fun e w' => ∃ v', e = .returned v' ∧ w'.ownsRow base 146 3 v' (l.filter (fun x => !p x)).length (hcs (l.filter (fun x => !p x))) ∧ Below base w w' ∧ Chc [146] w w' := by
  have CI := Lib.hid (cIndexFunc p g lb eg (fun X x _ => hp X x) h)
  have H := Lib.hid h
  have HP := Lib.hid hp
  cases hi : l.findIdx? p with
  | none =>
    rw [ixOf_none hi] at CI
    have hn := Lib.hid (none_over hi)
    obtain ⟨a, cap, rfl⟩ := owns_slice h
    clear h hp hi
    go_enter Try.func78, Try.ntmps78
    go_wp2_with fail
    refine CI.out.mono ?_
    rintro e w1 ⟨rfl, hb1⟩
    have HB := Lib.hid hb1
    clear hb1 CI
    go_wp2_with fail
    go_ret
    rw [hn.out]
    exact ⟨_, rfl, owns_below H.out HB.out, HB.out.mono hbs, Chc.of_below HB.out⟩
  | some i0 =>
    rw [ixOf_some hi] at CI
    have K0 := Lib.hid (Kept.start hi)
    have hi0 : i0 < l.length := by have := K0.out.le; omega
    obtain ⟨gg, cap, rfl, ⟨c1, c2⟩, -, -⟩ := hd_get h i0 hi0
    have hne : ((i0 : Int) == -1) = false := beq_eq_false_iff_ne.2 (by omega)
    unfold maxLen at c2
    clear h hp hi
    go_enter Try.func78, Try.ntmps78
    go_wp2_with fail
    refine CI.out.mono ?_
    rintro e w1 ⟨rfl, hb1⟩
    have hO1 := owns_below H.out hb1
    have HO1 := Lib.hid hO1
    have HB1 : Hid (Below base w w1 ∧ Chc [146] w w1) := ⟨hb1.mono hbs, Chc.of_below hb1⟩
    clear hb1 CI hO1 H
    go_wp2_with fail
    go_loopw [5, 6, 7] (fun s5 s6 _ wr => ∃ (i j : Nat) (lst : List Hd), s5 = .int .i64 i ∧ s6 = .int .i64 j ∧ i < j ∧ j ≤ l.length ∧ Hid (Kept p l lst i j) ∧ Hid (wr.ownsRow base 146 3 (.slice (some ⟨gg, 0, none⟩) l.length cap) l.length (hcs lst)) ∧ Hid (Below base w wr ∧ Chc [146] w wr)) (fun _ s6 _ _ => l.length - (intOf s6).toNat)
    case atStart => exact ⟨i0, i0 + 1, l, rfl, by go_num, by omega, by omega, K0, HO1, HB1⟩
    case round =>
      clear HO1 HB1 K0
      obtain ⟨i, j, lst, rfl, rfl, hij, hjl, HK, HO, HB⟩ := hrel
      have hll := HK.out.len
      by_cases hlt : j < l.length
      · have hltz : (j : Int) < (l.length : Int) := by omega
        obtain ⟨g1, cap1, he, -, ⟨x0, x1, x2⟩, -⟩ := hd_get HO.out j (by omega)
        simp only [Value.slice.injEq, Option.some.injEq, Addr.mk.injEq, and_true, true_and] at he
        obtain ⟨rfl, rfl⟩ := he
        obtain ⟨g2, cap2, he, -, ⟨y0, y1, y2⟩, hfz⟩ := hd_get HO.out i (by omega)
        simp only [Value.slice.injEq, Option.some.injEq, Addr.mk.injEq, and_true, true_and] at he
        obtain ⟨rfl, rfl⟩ := he
        have hf0 := hfz (i * 3)
        have hf1 := hfz (i * 3 + 1)
        have hf2 := hfz (i * 3 + 2)
        have hg := World.block_lt_of_cell? wr _ x0
        rw [HK.out.get hlt (by omega)] at x0 x1 x2
        obtain ⟨y, hy⟩ : ∃ y, Hid (y = l[j]) := ⟨l[j], (rfl : l[j] = l[j])⟩
        rw [← hy.out] at x0 x1 x2
        generalize lst[i] = old at y0 y1 y2
        have CC := Lib.hid (fun X => HP.out X y)
        clear hfz
        cases hq : p y with
        | true =>
          rw [hq] at CC
          go_wp2_with (go_at_fn g; refine (CC.out _).mono ?_; rintro e w' ⟨rfl, hb'⟩)
          have hb2 : Below wr.heap.size wr w' := ((by repeat (first | exact Below.refl _ _ | refine Below.drew ?_ | refine Below.alloc ?_ (by first | (simp; done) | (simp; omega)) _ | refine Below.setCell ?_ (by first | (simp; done) | (simp; omega)) _)) : Below wr.heap.size wr (wr.alloc (.cells #[.int .i64 y.id, .int .i64 y.count, .int .i64 y.life] 146))).trans (hb'.mono (by simp))
          go_roundw
          case rel => exact ⟨i, j + 1, lst, rfl, by go_num, by omega, by omega, HK.out.skip hlt (by rw [← hy.out]; exact hq), owns_below HO.out hb2, HB.out.1.trans (hb2.mono (Nat.le_trans hbs HB.out.2.size)), HB.out.2.trans (Chc.of_below hb2)⟩
          case measure => simp [intOf]; omega
        | false =>
          rw [hq] at CC
          go_wp2_with fail
          refine (CC.out _).mono ?_
          rintro e w' ⟨rfl, hb'⟩
          have hb2 : Below wr.heap.size wr w' := ((by repeat (first | exact Below.refl _ _ | refine Below.drew ?_ | refine Below.alloc ?_ (by first | (simp; done) | (simp; omega)) _ | refine Below.setCell ?_ (by first | (simp; done) | (simp; omega)) _)) : Below wr.heap.size wr (wr.alloc (.cells #[.int .i64 y.id, .int .i64 y.count, .int .i64 y.life] 146))).trans (hb'.mono (by simp))
          replace y0 := cell_on hb2 y0
          replace y1 := cell_on hb2 y1
          replace y2 := cell_on hb2 y2
          obtain ⟨_, _, he, -, -, hfz⟩ := hd_get (owns_below HO.out hb2) i (by omega)
          simp only [Value.slice.injEq, Option.some.injEq, Addr.mk.injEq, and_true, true_and] at he
          obtain ⟨rfl, rfl⟩ := he
          have f0 := hfz (i * 3)
          have f1 := hfz (i * 3 + 1)
          have f2 := hfz (i * 3 + 2)
          obtain ⟨z0, z1, z2⟩ := three_cells (heap_alloc_new wr (.cells #[.int .i64 y.id, .int .i64 y.count, .int .i64 y.life] 146))
          replace z0 := cell_on hb' z0
          replace z1 := cell_on hb' z1
          replace z2 := cell_on hb' z2
          have HO2 := Lib.hid (owns_below HO.out hb2)
          have HB2 : Hid (Below base w w' ∧ Chc [146] w w') := ⟨HB.out.1.trans (hb2.mono (Nat.le_trans hbs HB.out.2.size)), HB.out.2.trans (Chc.of_below hb2)⟩
          clear hfz hb' hb2 x0 x1 x2 hf0 hf1 hf2 HB HO CC
          go_wp2_with fail
          go_roundw
          case rel => 
            have hw := owns_chc_write HO2.out (i * 3) y.cells
            refine ⟨i + 1, j + 1, lst.set i y, by go_num, by go_num, by omega, by omega, ?_, hd_set HO2.out i (by omega) y, HB2.out.1.trans hw.2, HB2.out.2.trans hw.1⟩
            have := HK.out.keep hlt (by rw [← hy.out]; exact hq)
            rw [← hy.out] at this
            exact this
          case measure => simp [intOf]; omega
      · obtain rfl : j = l.length := by omega
        obtain ⟨zs, hz, hcl⟩ := run_clear_hold HO.out i (by omega) (cap - i)
        have HK2 := Lib.hid (HK.out.done HO.out zs hz)
        have hw := Lib.hid (owns_chc_write HO.out (i * 3) zs)
        clear hz
        go_wp2_with fail
        go_ret
        exact ⟨_, rfl, HK2.out, HB.out.1.trans hw.out.2, HB.out.2.trans hw.out.1⟩
end Go.Proofs.Ytgmichaconnhaaa
