/- The laws' helpers over shares: WantsOf, shares. -/
import Derived.Test.YtkodpijedinanaaShareLaw
namespace Go.Proofs.Ytkodpijedinanaa
open Go.ChangeShapes Go.WideShapes Go.ChangeAt Go.RowKit
set_option linter.unusedVariables false

def wantsOf (zs : List Int) : List Int := (zs.take 10).map fun z => pick z 40
theorem wantsOf_get (zs : List Int) (k : Nat) (h : k < zs.length) (h' : k < 10) : (wantsOf zs).take (k + 1) = (wantsOf zs).take k ++ [pick zs[k] 40] := by
  have hl : k < (wantsOf zs).length := by simp [wantsOf]; omega
  rw [take_snoc _ _ hl]
  simp [wantsOf]
theorem wantsOf_le (zs : List Int) : (wantsOf zs).length ≤ 10 := by simp [wantsOf]; omega
theorem wantsOf_ok (zs : List Int) : ∀ x ∈ wantsOf zs, 0 ≤ x ∧ x ≤ 39 := by
  intro x hx
  simp only [wantsOf, List.mem_map] at hx
  obtain ⟨z, _, rfl⟩ := hx
  have := pick_bd z 40 (by omega); omega
set_option maxRecDepth 100000 in
set_option maxHeartbeats 1000000 in
theorem cwantsOf (v : Value) (zs : List Int) (w : World) (h : Has w 1 v zs.length (ints zs)) :
    Calls Try.prog 6 #[v] w fun e w' => ∃ v', e = .returned v' ∧ w'.ownsRow w.heap.size 3 1 v' (wantsOf zs).length (ints (wantsOf zs)) ∧ Below w.heap.size w w' := by
  obtain ⟨hl, a, cap, rfl, hn, hm, hc⟩ := h
  unfold maxLen at hm
  have P := Lib.hid fun (a : Int) w => picked a 40 (by omega) (by omega) w
  go_enter Try.func6, Try.ntmps6
  go_wp2_with fail
  go_loopw [3, 4] (fun v i wr => ∃ k : Nat, k ≤ zs.length ∧ k ≤ 10 ∧ i = .int .i64 k ∧ wr.ownsRow w.heap.size 3 1 v ((wantsOf zs).take k).length (ints ((wantsOf zs).take k)) ∧ Below w.heap.size w wr) (fun _ i _ => zs.length - (intOf i).toNat)
  case atStart => exact ⟨0, by omega, by omega, rfl, World.ownsRow_nil _ _ _ _, Below.refl _ _⟩
  case round =>
    obtain ⟨k, hk, hk', rfl, hown, hb⟩ := hrel
    have hsz := hb.size
    have hwl : ((wantsOf zs).take k).length = k := by simp [wantsOf]; omega
    rw [hwl] at hown
    by_cases h1 : k < zs.length
    · obtain ⟨b, off, rfl, hcc⟩ := hc (by simp; omega)
      have hcell := cell_on hb (hcc k _ (ints_get zs k h1))
      by_cases h2 : k < 10
      · have Hsnoc := Lib.hid (wantsOf_get zs k h1 h2)
        obtain ⟨hp0, hp1⟩ := pick_bd zs[k] 40 (by omega)
        have Hb := Lib.hid hb
        have Hown := Lib.hid hown
        clear hb hown hwl hc hcc
        go_wp2_with (first | (go_at_call 5; with_reducible refine (P.out _ _).mono ?_; rintro e w' ⟨rfl, rfl⟩) | (at_builtin; refine wp_app1 (w0 := wr) 22 3 1 8 _ elInt Try.underlying22 w.heap.size _ _ _ Hown.out (by repeat (first | exact Below.refl _ _ | refine Below.drew ?_ | refine Below.alloc ?_ (by first | (simp; done) | (simp; omega)) _ | refine Below.setCell ?_ (by first | (simp; done) | (simp; omega)) _)) [.int .i64 (pick zs[k] 40)] rfl _ _ rfl rfl rfl (by first | exact heap_alloc_new _ _ | (simp only [heap_drew, heap_drewN]; exact heap_alloc_new _ _)) (by simp) rfl rfl (by omega) (by omega) hsz ?_; intro v3 w3 hown3 hgrow3 hb3))
        go_roundw
        case rel =>
          refine ⟨k + 1, by omega, by omega, by go_num, ?_, Hb.out.trans hb3⟩
          rw [Hsnoc.out, ← ints_snoc, List.length_append, show ((wantsOf zs).take k).length = k by simp [wantsOf]; omega]
          exact hown3
        case measure => simp [intOf]; omega
      · have hfin : (wantsOf zs).take k = wantsOf zs := List.take_of_length_le (by simp [wantsOf]; omega)
        rw [hfin] at hown
        have Hown := Lib.hid hown
        have hwl2 := Lib.hid (hwl.symm.trans (congrArg List.length hfin))
        clear hown hwl hfin hc hcc
        go_wp2
        go_ret
        exact ⟨_, rfl, hwl2.out ▸ Hown.out, hb⟩
    · have hfin : (wantsOf zs).take k = wantsOf zs := List.take_of_length_le (by simp [wantsOf]; omega)
      rw [hfin] at hown
      have Hown := Lib.hid hown
      have hwl2 := Lib.hid (hwl.symm.trans (congrArg List.length hfin))
      clear hown hwl hfin hc
      go_wp2
      go_ret
      exact ⟨_, rfl, hwl2.out ▸ Hown.out, hb⟩
set_option maxRecDepth 100000 in
set_option maxHeartbeats 1000000 in
theorem cshares (v : Value) (ws : List Int) (total : Int) (w : World) (h : Has w 1 v ws.length (ints ws)) (hw : ∀ x ∈ ws, 0 ≤ x ∧ x ≤ 1048576) (hlen : ws.length ≤ 16) (h0 : 0 ≤ total) (h1 : total ≤ 1048576) :
    Calls Try.prog 8 #[.int .i64 total, v] w fun e w' => ∃ v' L, e = .returned (.tuple #[v', .bool true]) ∧ Lev total ws L ∧ w'.ownsRow w.heap.size 3 1 v' ws.length (ints (give L (total - least ws L) ws)) ∧ Below w.heap.size w w' := by
  have Hh := Lib.hid h
  have HW := Lib.hid hw
  obtain ⟨_, a, cap, rfl, _, _, _⟩ := h
  clear hw
  go_enter Try.func8, Try.ntmps8
  go_wp2_with (at_builtin; refine wp_appN (w0 := w) 22 3 1 8 _ elInt Try.underlying22 w.heap.size _ 0 [] (World.ownsRow_nil _ _ _ _) (Below.refl _ _) (.slice a ws.length cap) ws.length (ints ws) Hh.out rfl _ _ rfl rfl rfl (ints_one ws) (by omega) (by unfold maxLen; omega) (Nat.le_refl _) ?_; intro v3 w3 hown3 hgrow3 hb3)
  rw [Nat.zero_add, List.nil_append] at hown3
  refine (csplit v3 ws total w3 (Has.of_owns hown3) HW.out hlen h0 h1).mono ?_
  rintro e w4 ⟨v4, L, rfl, hL, hown4, hb4⟩
  obtain ⟨a4, cap4, rfl⟩ := owns_slice hown4
  have HL := Lib.hid hL
  have Hown4 := Lib.hid (owns_mono hown4 hb3.size)
  have Hb4 : Hid (Below w.heap.size w w4) := hb3.trans (hb4.mono hb3.size)
  clear hown3 hgrow3 hb3 hb4 hown4 hL
  go_wp2
  go_ret2
  exact ⟨_, L, rfl, HL.out, Hown4.out, Hb4.out⟩
end Go.Proofs.Ytkodpijedinanaa
