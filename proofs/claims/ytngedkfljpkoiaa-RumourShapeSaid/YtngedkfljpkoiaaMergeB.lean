/- Package reg: the library's BinarySearchFunc on entries. -/
import Derived.Test.YtngedkfljpkoiaaMergeM
namespace Go.Proofs.Ytngedkfljpkoiaa
open Go.ChangeShapes Go.WideShapes Go.ChangeAt Go.RowKit
set_option linter.unusedVariables false
set_option linter.unusedSimpArgs false

def foundK (l : List Ent) (k : Int) : Bool := match l[posK l k]? with | some x => x.k == k | none => false
set_option maxRecDepth 100000 in
set_option maxHeartbeats 2000000 in
theorem cKeyDiff (x : Ent) (key : Int) (h0 : 0 ≤ x.k ∧ x.k ≤ 1048576) (h1 : 0 ≤ key ∧ key ≤ 1048576) (X : World) :
    Calls Try.prog 59 #[.agg #[.int .i64 x.k, .int .i64 x.v, .int .i64 x.t, .int .i64 x.h, .bool x.g], .int .i64 key] X fun e w' => e = .returned (.int .i64 (x.k - key)) ∧ Below X.heap.size X w' := by
  have hb := ent_box (w := X) x
  obtain ⟨⟨x0, x1, x2, x3, x4⟩, -⟩ := five_at (heap_alloc_new X (.cells #[.int .i64 x.k, .int .i64 x.v, .int .i64 x.t, .int .i64 x.h, .bool x.g] 41))
  have hw : IntKind.i64.wrap (x.k - key) = x.k - key := IntWalk.i64_in _ (by omega)
  go_enter Try.func59, Try.ntmps59
  go_wp2_with fail
  go_ret
  exact ⟨rfl, hb⟩
theorem diff_eg : ∀ args w, (callFunc 59 args).run Try.prog w = .ok (.enter 59 args) w := enters_of Try.func59 (by kernel_rfl) rfl
set_option maxRecDepth 100000 in
set_option maxHeartbeats 4000000 in
theorem cSearch {w : World} {v : Value} {l : List Ent} (h : Has w 5 v l.length (ents l)) (hm : MayL l) (hlen : l.length ≤ 1000) (key : Int) (hk : 0 ≤ key ∧ key ≤ 1048576) :
    Calls Try.prog 58 #[v, .int .i64 key, .func (.func 59) #[] #[]] w fun e w' => e = .returned (.tuple #[.int .i64 (posK l key), .bool (foundK l key)]) ∧ Below w.heap.size w w' := by
  have H := Lib.hid h
  have HM := Lib.hid hm
  have HP := Lib.hid (fun i hi h1 h2 => posK_eq l key i hi h1 h2)
  obtain ⟨_, a, cap, rfl, hcn, hcm, _⟩ := h
  unfold maxLen at hcm
  clear hm
  go_enter Try.func58, Try.ntmps58
  go_wp2_with fail
  go_loopw [9, 10, 11] (fun s9 s10 _ wr => ∃ i j : Nat, s9 = .int .i64 i ∧ s10 = .int .i64 j ∧ i ≤ j ∧ j ≤ l.length ∧ Hid (∀ x (hx : x < l.length), x < i → l[x].k < key) ∧ Hid (∀ x (hx : x < l.length), j ≤ x → key ≤ l[x].k) ∧ Hid (Below w.heap.size w wr)) (fun s9 s10 _ _ => (intOf s10).toNat - (intOf s9).toNat)
  case atStart => exact ⟨0, l.length, rfl, rfl, by omega, by omega, fun x _ h => absurd h (by omega), fun x hx h => absurd h (by omega), Below.refl _ _⟩
  case round =>
    obtain ⟨i, j, rfl, rfl, hij, hjl, HI, HJ, HB⟩ := hrel
    by_cases hlt : i < j
    · have hltz : (i : Int) < (j : Int) := by omega
      have hw0 : IntKind.i64.wrap ((i : Int) + (j : Int)) = (i : Int) + (j : Int) := IntWalk.i64_in _ (by omega)
      obtain ⟨b, off, cap', he, -, x0, x1, x2, x3, x4⟩ := ent_get H.out ((i + j) / 2) (by omega)
      simp only [Value.slice.injEq] at he
      obtain ⟨rfl, -, rfl⟩ := he
      replace x0 := cell_on HB.out x0
      replace x1 := cell_on HB.out x1
      replace x2 := cell_on HB.out x2
      replace x3 := cell_on HB.out x3
      replace x4 := cell_on HB.out x4
      have hxok := HM.out.ok _ (List.getElem_mem (show (i + j) / 2 < l.length by omega))
      have CD := Lib.hid fun X => cKeyDiff l[(i + j) / 2] key hxok.k hk X
      obtain ⟨y, hy⟩ : ∃ y, Hid (y = l[(i + j) / 2]) := ⟨l[(i + j) / 2], (rfl : l[(i + j) / 2] = l[(i + j) / 2])⟩
      rw [← hy.out] at x0 x1 x2 x3 x4 CD
      obtain ⟨m, hm⟩ : ∃ m, m = (i + j) / 2 := ⟨_, rfl⟩
      have hm1 : i ≤ m := by omega
      have hm2 : m < j := by omega
      have hmlz : (m : Int) < (l.length : Int) := by omega
      clear hxok
      go_upto_region 5 with (fail)
      rw [show ((i : Int) + (j : Int)) / 2 = ((m : Nat) : Int) by omega]
      have hyk : Hid (∀ hm' : m < l.length, l[m].k = y.k) := fun hm' => by rw [hy.out]; subst hm; rfl
      rw [← hm] at x0 x1 x2 x3 x4
      clear hm
      have hw1 : IntKind.i64.wrap ((m : Int) + 1) = (m : Int) + 1 := IntWalk.i64_in _ (by omega)
      by_cases hc : y.k < key
      · have hd : decide (y.k - key < 0) = true := by simp; omega
        have hfin : Hid (∀ x (hx : x < l.length), x < m + 1 → l[x].k < key) := fun x hx hxm => by
          by_cases e : x = m
          · subst e; rw [hyk.out hx]; exact hc
          · have := HM.out.lt x m hx (by omega) (by omega); rw [hyk.out (by omega)] at this; omega
        clear hc
        go_wp2_with fail
        refine (CD.out _).mono ?_
        rintro e w5 ⟨rfl, hb5⟩
        have HB5 : Hid (Below w.heap.size w w5) := HB.out.trans (hb5.mono HB.out.size)
        clear hb5 x0 x1 x2 x3 x4 CD
        go_wp2_with fail
        go_roundw
        case rel => exact ⟨m + 1, j, by go_num, rfl, by omega, by omega, hfin, HJ, HB5⟩
        case measure => first | (simp [intOf]; done) | (simp [intOf]; omega)
      · have hd : decide (y.k - key < 0) = false := by simp; omega
        have hfin : Hid (∀ x (hx : x < l.length), m ≤ x → key ≤ l[x].k) := fun x hx hxm => by
          by_cases e : x = m
          · subst e; rw [hyk.out hx]; omega
          · have := HM.out.lt m x (by omega) hx (by omega); rw [hyk.out (by omega)] at this; omega
        clear hc
        go_wp2_with fail
        refine (CD.out _).mono ?_
        rintro e w5 ⟨rfl, hb5⟩
        have HB5 : Hid (Below w.heap.size w w5) := HB.out.trans (hb5.mono HB.out.size)
        clear hb5 x0 x1 x2 x3 x4 CD
        go_wp2_with fail
        go_roundw
        case rel => exact ⟨i, m, rfl, by go_num, by omega, by omega, HI, hfin, HB5⟩
        case measure => first | (simp [intOf]; done) | (simp [intOf]; omega)
    · obtain rfl : i = j := by omega
      have hpos := Lib.hid (HP.out i hjl (fun x hx hxi => HI.out x hx hxi) (fun hx => by have := HJ.out i hx (Nat.le_refl _); omega))
      clear HP HI HJ
      by_cases hin : i < l.length
      · have hinz : (i : Int) < (l.length : Int) := by omega
        obtain ⟨b, off, cap', he, -, x0, x1, x2, x3, x4⟩ := ent_get H.out i hin
        simp only [Value.slice.injEq] at he
        obtain ⟨rfl, -, rfl⟩ := he
        replace x0 := cell_on HB.out x0
        replace x1 := cell_on HB.out x1
        replace x2 := cell_on HB.out x2
        replace x3 := cell_on HB.out x3
        replace x4 := cell_on HB.out x4
        have hxok := HM.out.ok _ (List.getElem_mem hin)
        have CD := Lib.hid fun X => cKeyDiff l[i] key hxok.k hk X
        have hfound : Hid (foundK l key = (l[i].k == key)) := by
          show _ = _
          unfold foundK; rw [hpos.out, List.getElem?_eq_getElem hin]
        generalize l[i] = y at *
        clear hxok
        go_wp2_with fail
        refine (CD.out _).mono ?_
        rintro e w5 ⟨rfl, hb5⟩
        have HB5 : Hid (Below w.heap.size w w5) := HB.out.trans (hb5.mono HB.out.size)
        have hfe : Hid ((y.k - key == 0) = (y.k == key)) := by
          show _ = _
          rw [Bool.eq_iff_iff, beq_iff_eq, beq_iff_eq]; omega
        clear hb5 x0 x1 x2 x3 x4 CD
        go_wp2_with fail
        go_ret2
        rw [hpos.out, hfound.out, ← hfe.out]
        exact ⟨rfl, HB5.out⟩
      · obtain rfl : i = l.length := by omega
        have hfound : Hid (foundK l key = false) := by
          show _ = _
          unfold foundK; rw [hpos.out, List.getElem?_eq_none (Nat.le_refl _)]
        go_wp2_with fail
        go_ret2
        rw [hpos.out, hfound.out]
        exact ⟨rfl, HB.out⟩
end Go.Proofs.Ytngedkfljpkoiaa
