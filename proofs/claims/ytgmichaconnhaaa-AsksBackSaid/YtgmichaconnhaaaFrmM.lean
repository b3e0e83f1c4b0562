/- Package frame: Asked. -/
import Derived.Test.YtgmichaconnhaaaFrmK
namespace Go.Proofs.Ytgmichaconnhaaa
open Go.ChangeShapes Go.WideShapes Go.ChangeAt Go.RowKit
set_option linter.unusedVariables false
set_option linter.unusedSimpArgs false

set_option maxRecDepth 100000 in
set_option maxHeartbeats 4000000 in
theorem cAsked {w : World} {c : Cfg} {vl vm : Value} (hc : c.Ok) (h : CfgAt w c vl vm) (v : Value) (l : List Int) (hv : Has w 1 v (recSize (askF l)) (u8s (recB (askF l)))) (hl : ∀ x ∈ l, 0 ≤ x ∧ x ≤ 1048576) (hlen : l.length = c.minted.length) :
    Calls Try.prog 23 #[.agg (c.cells vl vm), v] w fun e w' => ∃ v', e = .returned (.tuple #[v', .int .i64 0]) ∧ w'.ownsRow w.heap.size 3 1 v' l.length (ints l) ∧ Below w.heap.size w w' := by
  have hb := cfg_box w c vl vm
  obtain ⟨y0, y1, y2, x3, y4⟩ := cfg_at (heap_alloc_new w (.cells (c.cells vl vm) 55))
  have H := Lib.hid (h.on hb)
  have V := Lib.hid (hv.below hb)
  have Hb := Lib.hid hb
  have hi := hc.items
  have KM := Lib.hid (fun (X : World) (hX : CfgAt X c vl vm) => cFMay hc hX)
  have HL := Lib.hid hl
  have Hok := Lib.hid (askF_ok hl (by omega))
  obtain ⟨_, la, cl, rfl, hcl1, hcl2, _⟩ := h.hl
  obtain ⟨_, ma, cm, rfl, hcm1, hcm2, _⟩ := h.hm
  obtain ⟨_, va, cv, rfl, hv1, hv2, _⟩ := hv
  unfold maxLen at hcl2 hcm2 hv2
  rw [← hlen] at x3 hcm1 hi
  unfold Cfg.cells at x3 y0 y1 y2 y4 Hb H V hb KM ⊢
  rw [← hlen] at Hb H V hb KM y0 y1 y2 y4 ⊢
  have ef1 : (askF l).map (·.1) = List.replicate l.length 21 := by
    unfold askF; rw [List.map_map]
    exact List.map_eq_replicate_iff.2 fun x _ => rfl
  have ef2 : (askF l).map (·.2) = l := by unfold askF; rw [List.map_map]; exact List.map_id' l
  have EF1 := Lib.hid ef1
  have EF2 := Lib.hid ef2
  clear hb hc h hl ef1 ef2 hlen
  go_enter Try.func23, Try.ntmps23
  go_upto_region 1 with (fail)
  generalize (w.alloc (.cells #[.int .i64 c.n, .slice la c.labs.length cl, .int .i64 c.ticks, .slice ma l.length cm, .int .i64 c.cap] 55)) = W at *
  go_wp2_with fail
  refine (KM.out _ H.out).mono ?_
  rintro e w1 ⟨rfl, hb1⟩
  replace x3 := cell_on hb1 x3
  have V1 := Lib.hid (V.out.below hb1)
  have Hb1 := Lib.hid (Hb.out.trans (hb1.mono Hb.out.size))
  clear hb1 KM H V y0 y1 y2 y4
  have hWs := World.block_lt_of_cell? w1 _ x3
  have CR := Lib.hid (crepeatE (.slice (some ⟨w1.heap.size, 0, none⟩) 1 1) 21 l.length (w1.alloc (.cells #[.int .i64 21] 3)) (has_block (wp := w1) (cs := ints [21]) (heap_alloc_new _ _) rfl rfl (by decide)) (by omega))
  go_wp2_with fail
  have hbA : Below w1.heap.size w1 (w1.alloc (.cells #[.int .i64 21] 3)) := (Below.refl _ _).alloc (Nat.le_refl _) _
  refine CR.out.mono ?_
  rintro e w2 ⟨v2, rfl, hown2, hb2⟩
  obtain ⟨a2, c2, rfl⟩ := owns_slice hown2
  have hb12 := hbA.trans (hb2.mono hbA.size)
  have V2 := Lib.hid (V1.out.below hb12)
  have Hb2 := Lib.hid (Hb1.out.trans (hb12.mono Hb1.out.size))
  have hh2 := Has.of_owns hown2
  rw [← EF1.out] at hh2
  have CU := Lib.hid (cunpackF (.slice a2 l.length c2) _ (askF l) w2 Hok.out (by rw [askF_len]; exact hh2) V2.out)
  clear hown2 hb2 hbA hb12 hh2 V1 Hb1 x3 CR
  go_wp2_with fail
  refine CU.out.mono ?_
  rintro e w3 ⟨v3, rfl, hown3, hb3⟩
  rw [EF2.out, askF_len] at hown3
  obtain ⟨a3, c3, rfl⟩ := owns_slice hown3
  have CX := Lib.hid (cMax _ l w3 (Has.of_owns hown3) (by omega) HL.out)
  have Hb3 := Lib.hid (Hb2.out.trans (hb3.mono Hb2.out.size))
  have HO3 : Hid (w3.ownsRow w.heap.size 3 1 (.slice a3 l.length c3) l.length (ints l)) := owns_base hown3 Hb2.out.size
  clear hown3 hb3 CU V2 Hb2
  go_wp2_with fail
  refine CX.out.mono ?_
  rintro e w4 ⟨x, ⟨rfl, hx⟩, hb4⟩
  have hxd : decide (1048576 < x) = false := by simp; omega
  have Hfin : Hid (w4.ownsRow w.heap.size 3 1 (.slice a3 l.length c3) l.length (ints l) ∧ Below w.heap.size w w4) := ⟨owns_below HO3.out hb4, Hb3.out.trans (hb4.mono Hb3.out.size)⟩
  clear hb4 CX HO3 Hb3
  go_wp2_with fail
  go_ret2
  exact ⟨_, rfl, Hfin.out⟩
end Go.Proofs.Ytgmichaconnhaaa
