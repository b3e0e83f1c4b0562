/- Clocks: the laws' ClockOf. -/
import Derived.Test.YtkeefpeffeoakaaClock
namespace Go.Proofs.Ytkeefpeffeoakaa
open Go.ChangeShapes Go.WideShapes Go.ChangeAt Go.RowKit
set_option linter.unusedVariables false

set_option maxRecDepth 100000 in
set_option maxHeartbeats 2000000 in
theorem cclockOf (v : Value) (zs : List Int) (w : World) (h : Has w 1 v zs.length (ints zs)) :
    Calls Try.prog 10 #[v] w fun e w' => ∃ v' c, e = .returned v' ∧ c.length = 4 ∧ (∀ x ∈ c, 0 ≤ x ∧ x ≤ 4) ∧ w'.ownsRow w.heap.size 3 1 v' 4 (ints c) ∧ Below w.heap.size w w' := by
  obtain ⟨hl, a, cap, rfl, hn, hm, hc⟩ := h
  unfold maxLen at hm
  have P := Lib.hid fun (a : Int) w => picked a 5 (by omega) (by omega) w
  have hmk : ∀ w, (Instr.makeSlice 22 (.int .i64 4) (.int .i64 4)).run Try.prog w = .ok (.slice (some ⟨w.heap.size, 0, none⟩) 4 4) (w.alloc (.cells #[.int .i64 0, .int .i64 0, .int .i64 0, .int .i64 0] 3)) := fun _ => by kernel_rfl
  go_enter Try.func10, Try.ntmps10
  go_wp2_with fail
  go_loopw [4] (fun i wr => ∃ (k : Nat) (c : List Int), k ≤ 4 ∧ k ≤ zs.length ∧ i = .int .i64 k ∧ c.length = 4 ∧ (∀ x ∈ c, 0 ≤ x ∧ x ≤ 4) ∧ wr.ownsRow w.heap.size 3 1 (.slice (some ⟨w.heap.size, 0, none⟩) 4 4) 4 (ints c) ∧ Below w.heap.size w wr) (fun i _ => 4 - (intOf i).toNat)
  case atStart => exact ⟨0, [0, 0, 0, 0], by omega, by omega, rfl, rfl, by simp, owns_block (by first | exact heap_alloc_new _ _ | (simp only [heap_drew, heap_drewN]; exact heap_alloc_new _ _)) rfl (by simp) (by unfold maxLen; omega) (Nat.le_refl _), (by repeat (first | exact Below.refl _ _ | refine Below.drew ?_ | refine Below.alloc ?_ (by first | (simp; done) | (simp; omega)) _ | refine Below.setCell ?_ (by first | (simp; done) | (simp; omega)) _))⟩
  case round =>
    obtain ⟨k, c, hk4, hk, rfl, hcl, hcb, hown, hb⟩ := hrel
    have Hb := Lib.hid hb
    have Hown := Lib.hid hown
    have Hcb := Lib.hid hcb
    obtain ⟨g, cp, he, hg0, hg1, hgf, hgc⟩ := owns_some hown (by omega)
    simp only [Value.slice.injEq, Option.some.injEq, Addr.mk.injEq, and_true, true_and] at he
    obtain ⟨rfl, rfl⟩ := he
    clear hb hown hcb
    by_cases h1 : k < 4
    · by_cases h2 : k < zs.length
      · obtain ⟨b, off, rfl, hcc⟩ := hc (by simp; omega)
        have g1 := cell_on Hb.out (hcc _ _ (ints_get zs k h2))
        have g2 := hgc k _ (ints_get c k (by omega))
        have fr := hgf k
        obtain ⟨p0, p1⟩ := pick_bd zs[k] 5 (by omega)
        generalize zs[k] = z at *
        clear hc hcc hgc hgf
        go_wp2_with (go_at_call 24; with_reducible refine (P.out _ _).mono ?_; rintro e w' ⟨rfl, rfl⟩)
        go_roundw
        case rel => exact ⟨k + 1, c.set k (pick z 5), by omega, by omega, by go_num, by simpa using hcl, fun x hx => by
          rcases List.mem_or_eq_of_mem_set hx with h | rfl
          · exact Hcb.out x h
          · omega, by rw [← ints_set]; exact owns_set Hown.out k _, Hb.out.setCell (Nat.le_refl _) _⟩
        case measure => simp [intOf]; omega
      · clear hc hgc hgf
        go_wp2
        go_ret
        first | exact ⟨_, c, rfl, hcl, Hcb.out, Hown.out, Hb.out⟩ | exact ⟨_, rfl, c, hcl, Hcb.out, Hown.out, Hb.out⟩
    · clear hc hgc hgf
      go_wp2
      go_ret
      first | exact ⟨_, c, rfl, hcl, Hcb.out, Hown.out, Hb.out⟩ | exact ⟨_, rfl, c, hcl, Hcb.out, Hown.out, Hb.out⟩
end Go.Proofs.Ytkeefpeffeoakaa
