/- TopBlind: the law's reports, seen. -/
import Derived.BigQuiet
import Derived.Deep.RegionHeld3
import Derived.Test.YtjdedflfdlhkdaaGreatDoorKaa
import Derived.Test.YtjdedflfdlhkdaaGreatDoorSameT
import Derived.Test.YtjdedflfdlhkdaaGreatDoorViewOf
import Derived.Test.YtjdedflfdlhkdaaGreatDoorWBd
namespace Go.Proofs.YtjdedflfdlhkdaaGreatDoor
open Go.ChangeShapes Go.WideShapes Go.ChangeAt Go.RowKit
set_option linter.unusedVariables false

def repS (l m : List Tld) (n : Nat) : Prop := ∀ (i : Nat) (t u : Tld), i < n → l[i]? = some t → m[i]? = some u → t.report = u.report
set_option maxRecDepth 100000 in
set_option maxHeartbeats 8000000 in
theorem creports {w : World} {o1 o2 : Value} {l m : List Tld} {s1 f1 r1 s2 f2 r2 : Nat → Value} (h1 : TldsH w o1 l s1 f1 r1) (h2 : TldsH w o2 m s2 f2 r2) (hlm : l.length = m.length) (hl : l.length ≤ 300) :
    Calls Tryz.prog 28 #[o1, o2] w fun e w' => ∃ b : Bool, e = .returned (.bool b) ∧ (b = true → repS l m l.length) ∧ Below w.heap.size w w' := by
  have H1 := Lib.hid h1
  have H2 := Lib.hid h2
  obtain ⟨_, a1, c1, rfl, hn1, hm1, _⟩ := h1.row
  obtain ⟨_, a2, c2, rfl, hn2, hm2, _⟩ := h2.row
  rw [← hlm] at hn2 ⊢
  unfold maxLen at hm1 hm2
  have HLM := Lib.hid hlm
  clear h1 h2 hlm
  go_enter Tryz.func28, Tryz.ntmps28
  go_wp2_with fail
  go_loopw [5] (fun i wr => ∃ k : Nat, k ≤ l.length ∧ i = .int .i64 (k : Int) ∧ Hid (repS l m k) ∧ Hid (Below w.heap.size w wr)) (fun i _ => l.length - (intOf i).toNat)
  case atStart => exact ⟨0, by omega, rfl, fun i t u h => absurd h (by omega), Below.refl _ _⟩
  case round =>
    obtain ⟨k, hk, rfl, HP, HB⟩ := hrel
    by_cases hlt : k < l.length
    · have hltz : (k : Int) < (l.length : Int) := by omega
      have hk2 : k < m.length := by have := HLM.out; omega
      obtain ⟨tb, td, tcap, he, -, -, hct⟩ := H1.out.at k hlt
      simp only [Value.slice.injEq] at he
      obtain ⟨rfl, -, rfl⟩ := he
      obtain ⟨ub, ud, ucap, he, -, -, hcu⟩ := H2.out.at k hk2
      simp only [Value.slice.injEq] at he
      obtain ⟨rfl, -, rfl⟩ := he
      have tr := ext_cell (cell_on HB.out (hct 10 _ (by omega) rfl))
      have ur := ext_cell (cell_on HB.out (hcu 10 _ (by omega) rfl))
      have q1 := H1.out.r k hlt
      have q2 := H2.out.r k hk2
      have CI : Hid (∀ X : Ext wr, Calls Tryz.prog 41 #[r1 k, r2 k] X.1 fun e w' => e = .returned (.bool (decide ((l[k]'hlt).report = (m[k]'hk2).report))) ∧ Below X.1.heap.size X.1 w') := fun X => ctopInts _ _ _ _ X.1 (q1.below (HB.out.trans (X.2.mono HB.out.size))) (q2.below (HB.out.trans (X.2.mono HB.out.size)))
      have HK := Lib.hid hlt
      have HNX : Hid ((l[k]'hlt).report = (m[k]'hk2).report → repS l m (k + 1)) := fun e i t u hi ht hu => by
        by_cases q : i = k
        · subst q
          rw [List.getElem?_eq_getElem hlt, Option.some.injEq] at ht
          rw [List.getElem?_eq_getElem hk2, Option.some.injEq] at hu
          subst ht hu
          exact e
        · exact HP.out i t u (by omega) ht hu
      clear hct hcu q1 q2
      by_cases hq : (l[k]'hlt).report = (m[k]'hk2).report
      · have HN2 := Lib.hid (HNX.out hq)
        have hqd : decide ((l[k]'hlt).report = (m[k]'hk2).report) = true := by simpa using hq
        rw [hqd] at CI
        clear hq hqd HNX hlt hk
        go_upto_region 4 with (fail)
        refine wp_region_grow (by kernel_rfl) (by kernel_rfl) ?_
        repeat (go_big_quiet_step ((go_at_call 41; with_reducible exact grow_of (CI.out _))))
        refine wpQuiet_nil ?_
        intro w5 hb5
        have HB5 := Lib.hid (HB.out.trans (hb5.mono HB.out.size))
        clear hb5 CI tr ur
        go_wp2_with fail
        go_roundw
        case rel => exact ⟨k + 1, HK.out, by go_num, HN2, HB5⟩
        case measure => have := HK.out; first | (simp [intOf]; done) | (simp [intOf]; omega)
      · have hqd : decide ((l[k]'hlt).report = (m[k]'hk2).report) = false := by simpa using hq
        rw [hqd] at CI
        clear hq hqd HNX hlt hk
        go_upto_region 4 with (fail)
        refine wp_region_grow (by kernel_rfl) (by kernel_rfl) ?_
        repeat (go_big_quiet_step ((go_at_call 41; with_reducible exact grow_of (CI.out _))))
        refine wpQuiet_nil ?_
        intro w5 hb5
        have HB5 := Lib.hid (HB.out.trans (hb5.mono HB.out.size))
        clear hb5 CI tr ur
        go_wp2_with fail
        go_ret
        exact ⟨_, rfl, fun h => (by simp at h), HB5.out⟩
    · obtain rfl : k = l.length := by omega
      go_wp2_with fail
      go_ret
      exact ⟨true, by first | rfl | simp, fun _ => HP.out, HB.out⟩
end Go.Proofs.YtjdedflfdlhkdaaGreatDoor
