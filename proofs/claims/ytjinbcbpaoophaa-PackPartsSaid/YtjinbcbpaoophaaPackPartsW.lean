/- PackParts: the walk. -/
import Derived.Test.YtjinbcbpaoophaaPackPartsL
import Derived.Test.YtjinbcbpaoophaaApp
namespace Go.Proofs.Ytjinbcbpaoophaa.packParts
open Go.ChangeShapes Go.WideShapes Go.ChangeAt Go.RowKit
set_option linter.unusedVariables false

theorem elU8 : Elem Try.prog 5 1 1 (.int .u8 0) := .of (by kernel_rfl) rfl (by decide)
theorem flds_one (fs : List (Int × Int)) : (flds fs).all Value.oneCell' = true := by
  rw [List.all_eq_true]; intro v hv
  simp only [flds, List.mem_flatMap] at hv
  obtain ⟨p, _, h⟩ := hv
  simp at h
  rcases h with rfl | rfl <;> rfl
theorem u8s_one (l : List Nat) : (u8s l).all Value.oneCell' = true := by
  rw [List.all_eq_true]; intro v hv; obtain ⟨z, _, rfl⟩ := List.mem_map.1 hv; rfl
/-- 'us[:min(len(us), 18)]', in both forms of a row. -/
def UsOk (w : World) (v : Value) (us : List Int) : Prop := Has w 1 v us.length (ints us)
theorem us_cut {w : World} {g n cap : Nat} {us : List Int} (h : Has w 1 (.slice (some ⟨g, 0, none⟩) n cap) us.length (ints us)) (m : Nat) (hm : m ≤ us.length) : UsOk w (.slice (some ⟨g, 0, none⟩) m cap) (us.take m) := by
  obtain ⟨_, a, cap', he, h1, h2, _⟩ := id h
  simp only [Value.slice.injEq] at he
  obtain ⟨rfl, rfl, rfl⟩ := he
  have := h.cut 0 m cap 0 rfl (by omega) (by omega) h2
  unfold UsOk
  have e : (us.take m).length = m := by simp; omega
  rw [e]
  simpa using this
theorem take_ok {zs : List Int} {m : Nat} (h : ∀ x ∈ zs, 1 ≤ x ∧ x ≤ 60) : ∀ x ∈ zs.take m, 1 ≤ x ∧ x ≤ 60 := fun x hx => h x (List.mem_of_mem_take hx)
set_option maxRecDepth 100000 in
set_option maxHeartbeats 4000000 in
theorem walk (w : World) (v0 : Value) (z0 : List Int) (A0 : Has w 1 v0 z0.length (ints z0) ∧ ∀ z ∈ z0, -9223372036854775808 ≤ z ∧ z ≤ 9223372036854775807)
    (v1 : Value) (z1 : List Int) (A1 : Has w 1 v1 z1.length (ints z1) ∧ ∀ z ∈ z1, -9223372036854775808 ≤ z ∧ z ≤ 9223372036854775807)
    (v2 : Value) (z2 : List Int) (A2 : Has w 1 v2 z2.length (ints z2) ∧ ∀ z ∈ z2, -9223372036854775808 ≤ z ∧ z ≤ 9223372036854775807)
    (v3 : Value) (z3 : List Int) (A3 : Has w 1 v3 z3.length (ints z3) ∧ ∀ z ∈ z3, -9223372036854775808 ≤ z ∧ z ≤ 9223372036854775807) :
    Calls Try.prog 8 #[v0, v1, v2, v3] w fun e w' => e = .returned (.bool true) ∧ Below w.heap.size w w' := by
  have hA0 := Lib.hid A0.1; have hA1 := Lib.hid A1.1; have hA2 := Lib.hid A2.1; have hA3 := Lib.hid A3.1
  clear A0 A1 A2 A3
  have Hok := Lib.hid (widths_ok z0)
  have hle := widths_le z0
  have Hok2 := Lib.hid (widths_ok z2)
  have hle2 := widths_le z2
  have Hpk := Lib.hid (padW_ok (widths z0) Hok.out)
  have hpl := padW_length (widths z0)
  have hpl1 : (padW (widths z0)).length ≤ 21 := by omega
  have hpl2 : 1 ≤ (padW (widths z0)).length := by omega
  have Hf1 := Lib.hid (fields_ok (padW (widths z0)) z1 (by omega) Hpk.out)
  have Hpl := Lib.hid hpl
  clear hpl
  go_enter Try.func8, Try.ntmps8
  go_wp2_with fail
  refine (cwidths v0 z0 w hA0.out).mono ?_
  rintro e w1 ⟨vw, rfl, hown, hb1⟩
  obtain ⟨aw, capw, rfl⟩ := owns_slice hown
  have hH := Lib.hid (Has.of_owns hown)
  have Hown := Lib.hid hown
  have Hb1 := Lib.hid hb1
  have hsz := hb1.size
  clear hown hb1
  obtain ⟨hl, a, cap, he, hn, hm, hc⟩ := hH.out
  simp only [Value.slice.injEq] at he
  obtain ⟨rfl, -, rfl⟩ := he
  clear hl
  unfold maxLen at hm
  have Hc := Lib.hid hc
  clear hc
  go_wp2_with fail
  go_loop [10, 11] (fun n i => ∃ k : Nat, k ≤ (widths z0).length ∧ i = .int .i64 k ∧ n = .int .i64 (wsum ((widths z0).take k))) (fun _ i => (widths z0).length - (intOf i).toNat)
  case atStart => exact ⟨0, by omega, rfl, rfl⟩
  case round =>
    obtain ⟨k, hk, rfl, rfl⟩ := hrel
    by_cases h1 : k < (widths z0).length
    · obtain ⟨b, off, rfl, hcc⟩ := Hc.out (by simp; omega)
      have hcell := hcc k _ (ints_get (widths z0) k h1)
      have Hs := Lib.hid (wsum_take (widths z0) k h1)
      obtain ⟨hx1, hx2⟩ := Hok.out _ (List.getElem_mem h1)
      obtain ⟨hb1, hb2, hb3⟩ := wsum_bd ((widths z0).take k) (take_ok Hok.out)
      have hb4 : wsum ((widths z0).take k) ≤ 1200 := by rw [List.length_take] at hb2; omega
      clear hb2 hb3 hcc Hc
      go_wp2_with fail
      go_round
      case rel => exact ⟨k + 1, by omega, by go_num, by rw [Hs.out]⟩
      case measure => simp [intOf]; omega
    · obtain rfl : k = (widths z0).length := by omega
      obtain ⟨hb1, hb2, hb3⟩ := wsum_bd (widths z0) Hok.out
      have hb4 : wsum (widths z0) ≤ 1200 := by omega
      rw [List.take_length]
      have Hpad : Hid (padW (widths z0) = widths z0 ++ [8 + -(wsum (widths z0) % 8) % 8]) := rfl
      have Hal := Lib.hid (padW_bits (widths z0) z1 Hok.out)
      clear hb2 hb3 Hc hH h1 hk
      go_wp2_with (at_builtin; refine wp_app1 (w0 := w1) 29 3 1 8 _ elInt Try.underlying29 w.heap.size _ _ _ Hown.out (by repeat (first | exact Below.refl _ _ | refine Below.drew ?_ | refine Below.alloc ?_ (by first | (simp; done) | (simp; omega)) _ | refine Below.setCell ?_ (by first | (simp; done) | (simp; omega)) _)) [.int .i64 (8 + -(wsum (widths z0) % 8) % 8)] rfl _ _ rfl rfl rfl (by first | exact heap_alloc_new _ _ | (simp only [heap_drew, heap_drewN]; exact heap_alloc_new _ _)) (by simp) rfl rfl (by omega) (by omega) hsz ?_; intro v3 w3 hown3 hgrow3 hb3)
      rw [ints_snoc, ← Hpad.out, ← Hpl.out] at hown3
      generalize padW (widths z0) = ws at *
      generalize wsum (widths z0) = sm at *
      obtain ⟨aw, capw, rfl⟩ := owns_slice hown3
      have Hw := Lib.hid (Has.of_owns hown3)
      have Hb3 := Lib.hid (Hb1.out.trans hb3)
      clear Hown hown3 hgrow3 hb3 Hb1 hsz Hpl Hpad
      go_wp2_with fail
      refine (cwidths v2 z2 w3 (hA2.out.below Hb3.out)).mono ?_
      rintro e w4 ⟨vu, rfl, hown, hb2⟩
      have Hb4 := Lib.hid (Hb3.out.trans (hb2.mono Hb3.out.size))
      have Hw4 := Lib.hid (Hw.out.below hb2)
      have Hu := Lib.hid (Has.of_owns hown)
      clear hb2 Hb3 Hw
      generalize hus : widths z2 = us0 at *
      have Hus0 := Lib.hid hus
      clear hus
      obtain ⟨us, hus⟩ : ∃ us, us = us0.take 18 := ⟨_, rfl⟩
      have husl : us.length ≤ 18 := by rw [hus]; simp; omega
      have Husok : Hid (∀ x ∈ us, 1 ≤ x ∧ x ≤ 60) := by rw [hus]; exact take_ok Hok2.out
      have Hus := Lib.hid hus
      clear hus
      obtain ⟨hl, hf⟩ := hown
      obtain ⟨hul, hform⟩ : True ∧ ((vu = .slice none 0 0 ∧ us0.length = 0) ∨ ∃ g cap, vu = .slice (some ⟨g, 0, none⟩) us0.length cap ∧ us0.length ≤ cap ∧ cap ≤ 9223372036854775807) := by
        refine ⟨trivial, ?_⟩
        rcases hf with h | ⟨g, cap, cur, h1, h2, h3, h4, h5, h6⟩
        · exact Or.inl h
        · unfold maxLen at h5
          exact Or.inr ⟨g, cap, h1, h4, h5⟩
      clear hl hf hul
      have hshape : (us0.length = 0 ∧ vu = .slice none 0 0) ∨ (∃ g cap, vu = .slice (some ⟨g, 0, none⟩) us0.length cap ∧ us0.length ≤ cap ∧ cap ≤ 9223372036854775807 ∧ us0.length ≤ 18) ∨ (∃ g cap, vu = .slice (some ⟨g, 0, none⟩) us0.length cap ∧ us0.length ≤ cap ∧ cap ≤ 9223372036854775807 ∧ 18 < us0.length) := by
        rcases hform with ⟨h1, h2⟩ | ⟨g, cap, h1, h2, h3⟩
        · exact Or.inl ⟨h2, h1⟩
        · by_cases h : us0.length ≤ 18
          · exact Or.inr (Or.inl ⟨g, cap, h1, h2, h3, h⟩)
          · exact Or.inr (Or.inr ⟨g, cap, h1, h2, h3, by omega⟩)
      clear hform
      have Hf2 := Lib.hid (fields_ok us z3 (by omega) Husok.out)
      rcases hshape with ⟨hu0, rfl⟩ | ⟨g, capu, rfl, hcu, hcm, hu18⟩ | ⟨g, capu, rfl, hcu, hcm, hu18⟩
      case' inl =>
        have Hu0 : us0 = [] := List.eq_nil_of_length_eq_zero hu0
        subst Hu0
        have e : us = [] := by rw [Hus.out]; rfl
        have Hu9 : Hid (UsOk w4 (.slice none 0 0) us) := by rw [e]; exact ⟨⟨rfl, fun _ _ h => by simp at h; exact ⟨h.1.symm, h.2.symm⟩⟩, none, 0, rfl, Nat.le_refl _, Nat.zero_le _, fun hp => by simp at hp⟩
        clear hu0 hle2 e Hu Hok2
        go_wp2_with fail
      case' inr.inl =>
        have Hu9 : Hid (UsOk w4 (.slice (some ⟨g, 0, none⟩) us0.length capu) us) := by
          rw [Hus.out]; exact us_cut Hu.out us0.length (Nat.le_refl _) |> fun h => by
            have e : us0.take 18 = us0.take us0.length := by rw [List.take_length, List.take_of_length_le hu18]
            rw [e]; exact h
        have hmin : min (us0.length : Int) 18 = us0.length := by omega
        clear Hu Hok2 hle2
        go_wp2_with fail
      case' inr.inr =>
        have Hu9 : Hid (UsOk w4 (.slice (some ⟨g, 0, none⟩) 18 capu) us) := by
          rw [Hus.out]; exact us_cut Hu.out 18 (by omega)
        have hmin : min (us0.length : Int) 18 = 18 := by omega
        clear Hu Hok2 hle2
        go_wp2_with fail
      all_goals
        refine (cfieldsOf _ v1 ws z1 w4 Hw4.out (hA1.out.below Hb4.out) Hpk.out (by omega)).mono ?_
        rintro e w5 ⟨vf, rfl, hown, hb2⟩
        obtain ⟨af, capf, rfl⟩ := owns_slice hown
        have Hf := Lib.hid (Has.of_owns hown)
        have Hb5 := Lib.hid (Hb4.out.trans (hb2.mono Hb4.out.size))
        have Hu5 := Lib.hid (Has.below Hu9.out hb2)
        clear hown hb2 Hu9 Hw4
        go_wp2_with fail
        refine (cfieldsOf _ v3 us z3 w5 Hu5.out (hA3.out.below Hb5.out) Husok.out (by omega)).mono ?_
        rintro e w6 ⟨vg, rfl, hown, hb2⟩
        obtain ⟨ag, capg, rfl⟩ := owns_slice hown
        have Hg6 := Lib.hid (Has.of_owns hown)
        have Hb6 := Lib.hid (Hb5.out.trans (hb2.mono Hb5.out.size))
        have Hf6 := Lib.hid (Hf.out.below hb2)
        clear hown hb2 Hu5 Hf Hb5
        go_wp2_with fail
        refine (cpack _ _ w6 Hf6.out Hf1.out).mono ?_
        rintro e w7 ⟨vp, rfl, hown, hb2⟩
        obtain ⟨a1, cap1, rfl⟩ := owns_slice hown
        have Hp7 := Lib.hid (Has.of_owns hown)
        have Hb7 := Lib.hid (Hb6.out.trans (hb2.mono Hb6.out.size))
        have Hf7 := Lib.hid (Hf6.out.below hb2)
        have Hg7 := Lib.hid (Hg6.out.below hb2)
        clear hown hb2 Hf6 Hg6 Hb6
        go_wp2_with fail
        refine (cpack _ _ w7 Hg7.out Hf2.out).mono ?_
        rintro e w8 ⟨vq, rfl, hown, hb2⟩
        obtain ⟨a2, cap2, rfl⟩ := owns_slice hown
        have Hq8 := Lib.hid (Has.of_owns hown)
        have Hb8 := Lib.hid (Hb7.out.trans (hb2.mono Hb7.out.size))
        have Hf8 := Lib.hid (Hf7.out.below hb2)
        have Hg8 := Lib.hid (Hg7.out.below hb2)
        have Hp8 := Lib.hid (Hp7.out.below hb2)
        clear hown hb2 Hf7 Hg7 Hp7 Hb7
        have hsz8 := Hb8.out.size
        have hlx := fieldsOf_length ws z1
        have hly := fieldsOf_length us z3
        have hlx2 : (fieldsOf ws z1).length ≤ 21 := by omega
        have hly2 : (fieldsOf us z3).length ≤ 18 := by omega
        have hsum : (fieldsOf ws z1).length + (fieldsOf us z3).length ≤ 40 := by omega
        have Hf12 := Lib.hid (FieldsOk.append Hf1.out Hf2.out hsum)
        have HB := Lib.hid (recB_append (fieldsOf ws z1) (fieldsOf us z3) Hal.out)
        have hz0 := size_zero ws z1 Hpk.out
        have hrx : 1 ≤ recSize (fieldsOf ws z1) := by omega
        have hrx2 := recSize_le _ Hf1.out
        have hry2 := recSize_le _ Hf2.out
        clear hlx hly hz0
        generalize fieldsOf ws z1 = x at *
        generalize fieldsOf us z3 = y at *
        clear Hal Husok Hpk hpl1 hpl2 husl Hus
        have hsz9 : w8.heap.size ≤ w8.heap.size := Nat.le_refl _
        go_wp2_with (first | ((refine wp_appN (w0 := w8) 34 39 2 16 _ elField Try.underlying34 w8.heap.size _ _ _ (World.ownsRow_nil _ _ _ _) (by repeat (first | exact Below.refl _ _ | refine Below.drew ?_ | refine Below.alloc ?_ (by first | (simp; done) | (simp; omega)) _ | refine Below.setCell ?_ (by first | (simp; done) | (simp; omega)) _)) _ _ _ Hf8.out rfl _ _ rfl rfl rfl (flds_one _) (by omega) (by unfold maxLen; omega) hsz9 ?_; intro v9 w9 hown9 hgrow9 hb9); have hsz10 := hb9.size) | (refine wp_appN (w0 := w9) 34 39 2 16 _ elField Try.underlying34 w8.heap.size _ _ _ hown9 (by repeat (first | exact Below.refl _ _ | refine Below.drew ?_ | refine Below.alloc ?_ (by first | (simp; done) | (simp; omega)) _ | refine Below.setCell ?_ (by first | (simp; done) | (simp; omega)) _)) _ _ _ (Hg8.out.below hb9) rfl _ _ rfl rfl rfl (flds_one _) (by omega) (by unfold maxLen; omega) hsz10 ?_; intro v10 w10 hown10 hgrow10 hb10) | fail)
        rw [List.nil_append, ← flds_append] at hown10
        have hxl : 0 + x.length + y.length = (x ++ y).length := by simp
        rw [hxl] at hown10
        have Hxy := Lib.hid (Has.of_owns hown10)
        have hb810 : Below w8.heap.size w8 w10 := hb9.trans hb10
        have Hb10 := Lib.hid (Hb8.out.trans (hb810.mono Hb8.out.size))
        have Hp10 := Lib.hid (Hp8.out.below hb810)
        have Hq10 := Lib.hid (Hq8.out.below hb810)
        clear hxl hb810 hown9 hown10 hgrow9 hgrow10 hb9 hb10 hsz9 hsz10 Hf8 Hg8 Hp8 Hq8 Hb8 hsz8
        refine (cpack _ _ w10 Hxy.out Hf12.out).mono ?_
        rintro e w11 ⟨vr, rfl, hown, hb2⟩
        obtain ⟨a3, cap3, rfl⟩ := owns_slice hown
        have hrl : recSize (x ++ y) = (recB x ++ recB y).length := by rw [← HB.out, recB_length]
        have Hr11 : Hid (Has w11 1 (.slice a3 (recSize (x ++ y)) cap3) (recB x ++ recB y).length (u8s (recB x ++ recB y))) := by
          have h := Has.of_owns hown
          rw [hrl] at h ⊢
          rw [← HB.out] at h ⊢
          exact h
        have Hb11 := Lib.hid (Hb10.out.trans (hb2.mono Hb10.out.size))
        have Hp11 := Lib.hid (Hp10.out.below hb2)
        have Hq11 := Lib.hid (Hq10.out.below hb2)
        have hsz11 : w11.heap.size ≤ w11.heap.size := Nat.le_refl _
        have hxl := recB_length x
        have hyl := recB_length y
        clear hrl hown hb2 Hp10 Hq10 Hb10 HB Hxy
        have HX : Hid (recBytes x = u8s (recB x)) := rfl
        have HY : Hid (recBytes y = u8s (recB y)) := rfl
        rw [HX.out] at Hp11
        rw [HY.out] at Hq11
        generalize recB x = bx at *
        generalize recB y = by' at *
        have Hxl := Lib.hid hxl
        have Hyl := Lib.hid hyl
        clear hxl hyl HX HY
        go_wp2_with (first | ((refine wp_appNg (w0 := w11) 31 5 1 1 _ elU8 Try.underlying31 w11.heap.size _ _ _ (World.ownsRow_nil _ _ _ _) (by repeat (first | exact Below.refl _ _ | refine Below.drew ?_ | refine Below.alloc ?_ (by first | (simp; done) | (simp; omega)) _ | refine Below.setCell ?_ (by first | (simp; done) | (simp; omega)) _)) _ _ _ Hp11.out (by first | rfl | simp [Region.wanted, yielded]) _ _ rfl rfl rfl (u8s_one _) (by omega) (by unfold maxLen; omega) hsz11 ?_; intro v12 w12 hown12 hgrow12 hb12); have hsz12 := hb12.size) | (refine wp_appNg (w0 := w12) 31 5 1 1 _ elU8 Try.underlying31 w11.heap.size _ _ _ hown12 (by repeat (first | exact Below.refl _ _ | refine Below.drew ?_ | refine Below.alloc ?_ (by first | (simp; done) | (simp; omega)) _ | refine Below.setCell ?_ (by first | (simp; done) | (simp; omega)) _)) _ _ _ (Hq11.out.below hb12) (by first | rfl | simp [Region.wanted, yielded]) _ _ rfl rfl rfl (u8s_one _) (by omega) (by unfold maxLen; omega) hsz12 ?_; intro v13 w13 hown13 hgrow13 hb13) | fail)
        rw [List.nil_append, ← u8s_append] at hown13
        have hxl : 0 + recSize x + recSize y = (bx ++ by').length := by simp [Hxl.out, Hyl.out]
        rw [hxl] at hown13
        have Hs := Lib.hid (Has.of_owns hown13)
        have hb13' : Below w11.heap.size w11 w13 := hb12.trans hb13
        have Hb13 := Lib.hid (Hb11.out.trans (hb13'.mono Hb11.out.size))
        have Hr13 := Lib.hid (Hr11.out.below hb13')
        clear hxl hb13' hown12 hown13 hgrow12 hgrow13 hb12 hb13 hsz11 hsz12 Hp11 Hq11 Hb11 Hr11 Hxl Hyl
        refine (csameBytes _ _ _ _ w13 Hr13.out Hs.out).mono ?_
        rintro e w14 ⟨rfl, hb2⟩
        have Hb14 := Lib.hid (Hb13.out.trans (hb2.mono Hb13.out.size))
        clear hb2 Hb13 Hr13 Hs
        go_wp2
        go_ret
        exact ⟨by simp, Hb14.out⟩
end Go.Proofs.Ytjinbcbpaoophaa.packParts
