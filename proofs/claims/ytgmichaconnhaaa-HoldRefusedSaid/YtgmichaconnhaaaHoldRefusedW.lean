/- HoldRefused: the walk. -/
import Derived.Test.YtgmichaconnhaaaRefusedL
import Derived.Test.YtgmichaconnhaaaOpenWish
namespace Go.Proofs.Ytgmichaconnhaaa.holdRefused
open Go.ChangeShapes Go.WideShapes Go.ChangeAt Go.RowKit
set_option linter.unusedVariables false
set_option linter.unusedSimpArgs false

theorem few_len (l : List Ord) : ∀ k, (fewTo l k).1.length = (fewTo l k).2.length ∧ (fewTo l k).1.length ≤ k ∧ ∀ x ∈ (fewTo l k).1, x ∈ l
  | 0 => ⟨rfl, Nat.le_refl _, fun x hx => by simp [fewTo] at hx⟩
  | k + 1 => by
    obtain ⟨h1, h2, h3⟩ := few_len l k
    unfold fewTo
    cases hk : l[k]? with
    | none => exact ⟨h1, by simp only; omega, h3⟩
    | some o =>
      simp only
      split
      · refine ⟨by simp [h1], by simp; omega, fun x hx => ?_⟩
        rcases List.mem_append.1 hx with hx | hx
        · exact h3 x hx
        · simp at hx; subst hx; exact List.mem_of_getElem? hk
      · exact ⟨h1, by omega, h3⟩
theorem few_yes (l : List Ord) (k : Nat) (hk : k < l.length) (hc : ((shfFold (l.take k)).1.out l[k]).code = 0) : fewTo l (k + 1) = ((fewTo l k).1 ++ [l[k]], (fewTo l k).2 ++ [(shfFold (l.take k)).1.out l[k]]) := by
  simp only [fewTo, List.getElem?_eq_getElem hk, if_pos hc]
theorem few_no (l : List Ord) (k : Nat) (hk : k < l.length) (hc : ¬ ((shfFold (l.take k)).1.out l[k]).code = 0) : fewTo l (k + 1) = fewTo l k := by
  simp only [fewTo, List.getElem?_eq_getElem hk, if_neg hc]
/-- What stands behind k orders. -/
structure FewAt (w5 wr : World) (l : List Ord) (k : Nat) (vf vw : Value) : Prop where
  f : wr.ownsRow w5.heap.size 30 4 vf (fewTo l k).1.length (ords (fewTo l k).1)
  w : wr.ownsRow w5.heap.size 33 5 vw (fewTo l k).2.length (stks (fewTo l k).2)
  hb : Below w5.heap.size w5 wr
theorem few_step {w5 wr w6 w7 : World} {l : List Ord} {k : Nat} {vf vw vf' vw' : Value} (h : FewAt w5 wr l k vf vw) (hk : k < l.length) (hc : ((shfFold (l.take k)).1.out l[k]).code = 0)
    (h6 : w6.ownsRow w5.heap.size 30 4 vf' ((fewTo l k).1.length + 1) (ords (fewTo l k).1 ++ l[k].cells)) (hb6 : Below w5.heap.size wr w6)
    (h7 : w7.ownsRow w5.heap.size 33 5 vw' ((fewTo l k).2.length + 1) (stks (fewTo l k).2 ++ ((shfFold (l.take k)).1.out l[k]).cells)) (hw : w6.ownsRow w5.heap.size 33 5 vw (fewTo l k).2.length (stks (fewTo l k).2)) (hg7 : w6.grownBy w7 vw.ownBlock) (hb7 : Below w5.heap.size w6 w7) : FewAt w5 w7 l (k + 1) vf' vw' := by
  have hch := Chc.grown (T := [33]) hw hg7 (by simp)
  have e1 := flat_snoc Ord.cells (fewTo l k).1 l[k]
  have e2 := flat_snoc Stk.cells (fewTo l k).2 ((shfFold (l.take k)).1.out l[k])
  refine ⟨?_, ?_, (h.hb.trans hb6).trans hb7⟩
  · rw [few_yes l k hk hc]
    simp only [List.length_append, List.length_cons, List.length_nil]
    unfold ords at h6 ⊢
    rw [← e1]
    exact owns_chc h6 hch (by decide)
  · rw [few_yes l k hk hc]
    simp only [List.length_append, List.length_cons, List.length_nil]
    unfold stks at h7 ⊢
    rw [← e2]
    exact h7
theorem FewAt.wants {w5 wr w6 : World} {l : List Ord} {k : Nat} {vf vw : Value} (h : FewAt w5 wr l k vf vw) (hg : wr.grownBy w6 vf.ownBlock) : w6.ownsRow w5.heap.size 33 5 vw (fewTo l k).2.length (stks (fewTo l k).2) :=
  owns_chc h.w (Chc.grown (T := [30]) h.f hg (by simp)) (by decide)
set_option maxRecDepth 100000 in
set_option maxHeartbeats 8000000 in
theorem walk (w : World) (v0 : Value) (ll : List Ord) (A1 : Has w 4 v0 ll.length (ords ll)) :
    Calls Try.prog 6 #[v0] w fun e w' => e = .returned (.bool true) ∧ Below w.heap.size w w' := by
  have CL := Lib.hid (cordersOf v0 ll 100 w A1 (by omega))
  have hok := ordersOf_ok ll 100
  have hl60 := ordersOf_len ll 100
  generalize ordersOf ll 100 = l at *
  have Hok := Lib.hid hok
  clear A1 hok
  go_enter Try.func6, Try.ntmps6
  go_wp2_with fail
  refine CL.out.mono ?_
  rintro e w1 ⟨vl, rfl, hown, hb1⟩
  obtain ⟨al, cl, rfl⟩ := owns_slice hown
  have HL := Lib.hid (Has.of_owns hown)
  have Hb1 := Lib.hid hb1
  clear hown hb1 CL
  have CM := Lib.hid (cstocked _ l w1 HL.out Hok.out (by omega))
  go_wp2_with fail
  refine CM.out.mono ?_
  rintro e w2 ⟨va, rfl, hown, hb2⟩
  have HO := Lib.hid hown
  have HL2 := Lib.hid (HL.out.below hb2)
  have Hw2 : Hid (Below w.heap.size w w2) := Hb1.out.trans (hb2.mono Hb1.out.size)
  obtain ⟨aS, cS, rfl⟩ := owns_slice hown
  clear hown hb2 CM HL Hb1
  go_wp2_with fail
  refine (cshelfSure w2).mono ?_
  rintro e w5 ⟨rfl, hb5⟩
  have HO5 := Lib.hid (owns_below HO.out hb5)
  have HL5 := Lib.hid (HL2.out.below hb5)
  have Hw5 : Hid (Below w.heap.size w w5) := Hw2.out.trans (hb5.mono Hw2.out.size)
  clear hb5 HO HL2 Hw2
  go_wp2_with fail
  go_loopw [6, 7, 8] (fun vf vw i wr => ∃ k : Nat, k ≤ l.length ∧ i = .int .i64 k ∧ Hid (FewAt w5 wr l k vf vw)) (fun _ _ i _ => l.length - (intOf i).toNat)
  case atStart => exact ⟨0, by omega, rfl, ⟨World.ownsRow_nil _ _ _ _, World.ownsRow_nil _ _ _ _, Below.refl _ _⟩⟩
  case round =>
    obtain ⟨k, hk, rfl, HF⟩ := hrel
    obtain ⟨fl1, fl2, fl3⟩ := few_len l k
    have Fl3 := Lib.hid fl3
    have Fl1 := Lib.hid fl1
    have fl4 : (fewTo l k).2.length ≤ k := by omega
    clear fl3 fl1
    by_cases hlt : k < l.length
    · obtain ⟨b, off, cap, he, -, x0, x1, x2, x3⟩ := ord_get HL5.out k hlt
      simp only [Value.slice.injEq] at he
      obtain ⟨rfl, -, rfl⟩ := he
      obtain ⟨g, cap', he, -, y0, y1, y2, y3, y4⟩ := stk_at HO5.out k hlt
      simp only [Value.slice.injEq] at he
      obtain ⟨rfl, -, rfl⟩ := he
      have Y0 := Lib.hid y0
      have Y1 := Lib.hid y1
      have Y2 := Lib.hid y2
      have Y3 := Lib.hid y3
      have Y4 := Lib.hid y4
      replace x0 := cell_on HF.out.hb x0
      replace x1 := cell_on HF.out.hb x1
      replace x2 := cell_on HF.out.hb x2
      replace x3 := cell_on HF.out.hb x3
      replace y0 := cell_on HF.out.hb y0
      have hltz : (k : Int) < (l.length : Int) := by omega
      have hbl := World.block_lt_of_cell? wr _ x0
      have hszw := HF.out.hb.size
      clear y1 y2 y3 y4
      by_cases hc : ((shfFold (l.take k)).1.out l[k]).code = 0
      · have Hst := Lib.hid (fun w6 w7 vf' vw' h6 hb6 h7 hw hg7 hb7 => few_step (w6 := w6) (w7 := w7) (vf' := vf') (vw' := vw') HF.out hlt hc h6 hb6 h7 hw hg7 hb7)
        rw [hc] at y0 Y0
        unfold Stk.cells Ord.cells at Hst
        rw [hc] at Hst
        have HFf := Lib.hid HF.out.f
        have HFW := Lib.hid (fun (w6 : World) hg => HF.out.wants (w6 := w6) hg)
        have HFb := Lib.hid HF.out.hb
        generalize ((shfFold (l.take k)).1.out l[k]).id = r1 at *
        generalize ((shfFold (l.take k)).1.out l[k]).free = r2 at *
        generalize ((shfFold (l.take k)).1.out l[k]).held = r3 at *
        generalize ((shfFold (l.take k)).1.out l[k]).used = r4 at *
        generalize l[k].kind = o0 at *
        generalize l[k].count = o1 at *
        generalize l[k].life = o2 at *
        generalize l[k].id = o3 at *
        clear hc
        go_upto_region 11 with (fail)
        go_upto_region 12 with (at_builtin; refine wp_app1 (w0 := wr) 23 30 4 32 _ elOrder Try.underlying23 w5.heap.size _ _ _ HFf.out (by repeat (first | exact Below.refl _ _ | refine Below.drew ?_ | refine Below.alloc ?_ (by first | (simp; done) | (simp; omega)) _ | refine Below.setCell ?_ (by first | (simp; done) | (simp; omega)) _)) [.int .i64 o0, .int .i64 o1, .int .i64 o2, .int .i64 o3] rfl _ _ rfl rfl rfl (by first | exact heap_alloc_new _ _ | (simp only [heap_drew, heap_drewN]; exact heap_alloc_new _ _)) (by simp) rfl rfl (by omega) (by omega) hszw ?_; intro v6 w6 hown6 hgrow6 hb6)
        have HB6 : Hid (Below w5.heap.size w5 w6) := HFb.out.trans hb6
        have HW6 := Lib.hid (HFW.out w6 hgrow6)
        have Hst6 := Lib.hid (fun w7 vw' h7 hg7 hb7 => Hst.out w6 w7 _ vw' hown6 hb6 h7 HW6.out hg7 hb7)
        replace Y0 := cell_on HB6.out Y0.out
        replace Y1 := cell_on HB6.out Y1.out
        replace Y2 := cell_on HB6.out Y2.out
        replace Y3 := cell_on HB6.out Y3.out
        replace Y4 := cell_on HB6.out Y4.out
        have hbl6 := World.block_lt_of_cell? w6 _ Y0
        have hszw6 : w5.heap.size ≤ w6.heap.size := HB6.out.size
        obtain ⟨a6, c6, rfl⟩ := owns_slice hown6
        clear hown6 hgrow6 hb6 x0 x1 x2 x3 y0 Hst HFf HFW HF
        go_wp2_with (at_builtin; refine wp_app1 (w0 := w6) 25 33 5 40 _ elStock Try.underlying25 w5.heap.size _ _ _ HW6.out (by repeat (first | exact Below.refl _ _ | refine Below.drew ?_ | refine Below.alloc ?_ (by first | (simp; done) | (simp; omega)) _ | refine Below.setCell ?_ (by first | (simp; done) | (simp; omega)) _)) [.int .i64 0, .int .i64 r1, .int .i64 r2, .int .i64 r3, .int .i64 r4] rfl _ _ rfl rfl rfl (by first | exact heap_alloc_new _ _ | (simp only [heap_drew, heap_drewN]; exact heap_alloc_new _ _)) (by simp) rfl rfl (by omega) (by omega) hszw6 ?_; intro v7 w7 hown7 hgrow7 hb7)
        have hfin := Hst6.out _ _ hown7 hgrow7 hb7
        go_roundw
        case rel => exact ⟨k + 1, by omega, by go_num, hfin⟩
        case measure => first | (simp [intOf]; done) | (simp [intOf]; omega)
      · have hcb : (((shfFold (l.take k)).1.out l[k]).code == 0) = false := by rw [beq_eq_false_iff_ne]; exact hc
        have hfin : Hid (FewAt w5 wr l (k + 1) u6 u7) := ⟨by rw [few_no l k hlt hc]; exact HF.out.f, by rw [few_no l k hlt hc]; exact HF.out.w, HF.out.hb⟩
        generalize ((shfFold (l.take k)).1.out l[k]).code = r0 at *
        clear hc x0 x1 x2 x3
        go_wp2_with fail
        go_roundw
        case rel => exact ⟨k + 1, by omega, by go_num, hfin⟩
        case measure => first | (simp [intOf]; done) | (simp [intOf]; omega)
    · obtain rfl : k = l.length := by omega
      have hsame := (few_same l l.length (Nat.le_refl _)).2
      have HFf := Lib.hid HF.out.f
      have HFw := Lib.hid HF.out.w
      have HFb := Lib.hid HF.out.hb
      have hfok : ∀ x ∈ (fewTo l l.length).1, x.Ok := fun x hx => Hok.out x (Fl3.out x hx)
      have fl1 := Fl1.out
      rw [← hsame] at HFw fl1 fl4
      generalize (fewTo l l.length).1 = f at *
      obtain ⟨af, cf, rfl⟩ := owns_slice HFf.out
      obtain ⟨aw, cw, rfl⟩ := owns_slice HFw.out
      have CM := Lib.hid (cstocked _ f wr (Has.of_owns HFf.out) hfok (by omega))
      have hl2 : f.length ≤ 100 := by omega
      have Fl5 := Lib.hid fl1
      clear HF hfok hsame Fl3 fl1 fl2 Fl1 fl4
      go_wp2_with fail
      refine CM.out.mono ?_
      rintro e w8 ⟨vu, rfl, hown, hb8⟩
      obtain ⟨au, cu, rfl⟩ := owns_slice hown
      have HU := Lib.hid hown
      have HW8 := Lib.hid (owns_below HFw.out hb8)
      have HB8 : Hid (Below w5.heap.size w5 w8) := HFb.out.trans (hb8.mono HFb.out.size)
      clear hown hb8 CM HFf HFw HFb
      go_wp2_with fail
      rw [← Fl5.out] at HW8
      go_loopw [11] (fun i wr => ∃ k : Nat, k ≤ f.length ∧ i = .int .i64 k ∧ Hid (Below w8.heap.size w8 wr)) (fun i _ => f.length - (intOf i).toNat)
      case atStart => exact ⟨0, by omega, rfl, Below.refl _ _⟩
      case round =>
        obtain ⟨k, hk, rfl, HB⟩ := hrel
        by_cases hlt : k < f.length
        · have hlt' : k < (hOuts f).length := by rw [hOuts_length]; exact hlt
          obtain ⟨g1, c1, he, -, y0, y1, y2, y3, y4⟩ := stk_get HU.out k hlt'
          simp only [Value.slice.injEq] at he
          obtain ⟨rfl, -, rfl⟩ := he
          obtain ⟨g2, c2, he, -, z0, z1, z2, z3, z4⟩ := stk_get HW8.out k hlt'
          simp only [Value.slice.injEq] at he
          obtain ⟨rfl, -, rfl⟩ := he
          replace y0 := cell_on HB.out y0
          replace y1 := cell_on HB.out y1
          replace y2 := cell_on HB.out y2
          replace y3 := cell_on HB.out y3
          replace y4 := cell_on HB.out y4
          replace z0 := cell_on HB.out z0
          replace z1 := cell_on HB.out z1
          replace z2 := cell_on HB.out z2
          replace z3 := cell_on HB.out z3
          replace z4 := cell_on HB.out z4
          have hltz : (k : Int) < (f.length : Int) := by omega
          generalize (hOuts f)[k].code = r0 at *
          generalize (hOuts f)[k].id = r1 at *
          generalize (hOuts f)[k].free = r2 at *
          generalize (hOuts f)[k].held = r3 at *
          generalize (hOuts f)[k].used = r4 at *
          go_upto_region 19 with (fail)
          go_quiet (fail)
          go_wp2_with fail
          go_roundw
          case rel => exact ⟨k + 1, by omega, by go_num, below_drewN HB.out _⟩
          case measure => first | (simp [intOf]; done) | (simp [intOf]; omega)
        · obtain rfl : k = f.length := by omega
          go_wp2_with fail
          go_ret
          exact ⟨rfl, Hw5.out.trans ((HB8.out.trans (HB.out.mono HB8.out.size)).mono Hw5.out.size)⟩
end Go.Proofs.Ytgmichaconnhaaa.holdRefused
