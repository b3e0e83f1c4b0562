/- Package reg: the laws' sameEntries. -/
import Derived.Test.YtjdedflfdlhkdaaGreatDoorKac
namespace Go.Proofs.YtjdedflfdlhkdaaGreatDoor
open Go.ChangeShapes Go.WideShapes Go.ChangeAt Go.RowKit
set_option linter.unusedVariables false
set_option linter.unusedSimpArgs false

set_option maxRecDepth 100000 in
set_option maxHeartbeats 4000000 in
theorem csameEntries (v1 v2 : Value) (l : List Ent) (w : World) (h1 : Has w 5 v1 l.length (ents l)) (h2 : Has w 5 v2 l.length (ents l)) :
    Calls Tryz.prog 17 #[v1, v2] w fun e w' => e = .returned (.bool true) ∧ Below w.heap.size w w' := by
  have H1 := Lib.hid h1
  have H2 := Lib.hid h2
  obtain ⟨_, a1, c1, rfl, _, hm1, _⟩ := h1
  obtain ⟨_, a2, c2, rfl, _, hm2, _⟩ := h2
  unfold maxLen at hm1 hm2
  have hnn : ((l.length : Int) != (l.length : Int)) = false := by simp
  go_enter Tryz.func17, Tryz.ntmps17
  go_wp2_with fail
  go_loopw [5] (fun i wr => ∃ k : Nat, k ≤ l.length ∧ i = .int .i64 k ∧ Hid (Below w.heap.size w wr)) (fun i _ => l.length - (intOf i).toNat)
  case atStart => exact ⟨0, by omega, rfl, Below.refl _ _⟩
  case round =>
    obtain ⟨k, hk, rfl, HB⟩ := hrel
    by_cases hlt : k < l.length
    · obtain ⟨g1, o1, cc1, he, -, y0, y1, y2, y3, y4⟩ := ent_get H1.out k hlt
      simp only [Value.slice.injEq] at he
      obtain ⟨rfl, -, rfl⟩ := he
      obtain ⟨g2, o2, cc2, he, -, z0, z1, z2, z3, z4⟩ := ent_get H2.out k hlt
      simp only [Value.slice.injEq] at he
      obtain ⟨rfl, -, rfl⟩ := he
      replace y0 := cell_on HB.out y0
      replace y1 := cell_on HB.out y1
      replace y2 := cell_on HB.out y2
      replace y3 := cell_on HB.out y3
      replace y4 := cell_on HB.out y4
      replace z0 := cell_on HB.out z0
      replace z1 := cell_on HB.out z1
      replace z2 := cell_on HB.out z2
      replace z3 := cell_on HB.out z3
      replace z4 := cell_on HB.out z4
      have hltz : (k : Int) < (l.length : Int) := by omega
      generalize l[k] = x at *
      obtain ⟨xk, xv, xt, xh, xg⟩ := x
      simp only at y0 y1 y2 y3 y4 z0 z1 z2 z3 z4
      go_upto_region 6 with (fail)
      go_quiet (fail)
      go_wp2_with fail
      go_roundw
      case rel => exact ⟨k + 1, by omega, by go_num, below_drewN HB.out _⟩
      case measure => first | (simp [intOf]; done) | (simp [intOf]; omega)
    · obtain rfl : k = l.length := by omega
      go_wp2_with fail
      go_ret
      exact ⟨rfl, HB.out⟩
end Go.Proofs.YtjdedflfdlhkdaaGreatDoor
