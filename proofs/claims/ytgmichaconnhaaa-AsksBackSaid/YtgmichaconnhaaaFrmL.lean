/- Package frame: Asks. -/
import Derived.Test.YtgmichaconnhaaaFrmK
namespace Go.Proofs.Ytgmichaconnhaaa
open Go.ChangeShapes Go.WideShapes Go.ChangeAt Go.RowKit
set_option linter.unusedVariables false
set_option linter.unusedSimpArgs false

set_option maxRecDepth 100000 in
set_option maxHeartbeats 4000000 in
theorem cAsks {w : World} {c : Cfg} {vl vm : Value} (hc : c.Ok) (h : CfgAt w c vl vm) (v : Value) (l : List Int) (hv : Has w 1 v l.length (ints l)) (hl : ∀ x ∈ l, 0 ≤ x ∧ x ≤ 1048576) (hlen : l.length = c.minted.length) :
    Calls Try.prog 22 #[.agg (c.cells vl vm), v] w fun e w' => ∃ v', e = .returned (.tuple #[v', .int .i64 0]) ∧ w'.ownsRow w.heap.size 5 1 v' (recSize (askF l)) (recBytes (askF l)) ∧ Below w.heap.size w w' := by
  have hb := cfg_box w c vl vm
  obtain ⟨-, -, -, x3, -⟩ := cfg_at (heap_alloc_new w (.cells (c.cells vl vm) 55))
  obtain ⟨y0, y1, y2, -, y4⟩ := cfg_at (heap_alloc_new w (.cells (c.cells vl vm) 55))
  have H := Lib.hid (h.on hb)
  have V := Lib.hid (hv.below hb)
  have Hb := Lib.hid hb
  have hi := hc.items
  have KM := Lib.hid (fun (X : World) (hX : CfgAt X c vl vm) => cFMay hc hX)
  have HL := Lib.hid hl
  have Hok := Lib.hid (askF_ok hl (by omega))
  obtain ⟨_, la, cl, rfl, hcl1, hcl2, _⟩ := h.hl
  obtain ⟨_, ma, cm, rfl, hcm1, hcm2, _⟩ := h.hm
  obtain ⟨_, va, cv, rfl, hv1, hv2, _⟩ := hv
  unfold maxLen at hcl2 hcm2 hv2
  rw [← hlen] at x3 hcm1 hi
  have hnn : ((l.length : Int) != (l.length : Int)) = false := by simp
  unfold Cfg.cells at x3 y0 y1 y2 y4 Hb H V hb KM ⊢
  rw [← hlen] at Hb H V hb KM y0 y1 y2 y4 ⊢
  clear hb hc h hl hlen
  go_enter Try.func22, Try.ntmps22
  go_upto_region 1 with (fail)
  generalize (w.alloc (.cells #[.int .i64 c.n, .slice la c.labs.length cl, .int .i64 c.ticks, .slice ma l.length cm, .int .i64 c.cap] 55)) = W at *
  go_wp2_with fail
  refine (KM.out _ H.out).mono ?_
  rintro e w1 ⟨rfl, hb1⟩
  replace x3 := cell_on hb1 x3
  have V1 := Lib.hid (V.out.below hb1)
  have Hb1 := Lib.hid (Hb.out.trans (hb1.mono Hb.out.size))
  clear hb1 KM H V y0 y1 y2 y4
  go_wp2_with fail
  clear x3
  go_loopw [6, 8, 20] (fun out _ i wr => ∃ k : Nat, k ≤ l.length ∧ i = .int .i64 k ∧ Hid (wr.ownsRow w1.heap.size 90 2 out k (flds (askF (l.take k)))) ∧ Hid (Below w1.heap.size w1 wr)) (fun _ _ i _ => l.length - (intOf i).toNat)
  case atStart => exact ⟨0, by omega, rfl, World.ownsRow_nil _ _ _ _, Below.refl _ _⟩
  case round =>
    obtain ⟨k, hk, rfl, HO, HB⟩ := hrel
    by_cases hlt : k < l.length
    · have hltz : (k : Int) < (l.length : Int) := by omega
      obtain ⟨⟨hl0, _⟩, _, _, he, _, _, hcc⟩ := V1.out
      simp only [Value.slice.injEq] at he
      obtain ⟨rfl, -, rfl⟩ := he
      obtain ⟨b, o, rfl, hcell⟩ := hcc (by simp; omega)
      have z0 := cell_on HB.out (hcell k _ (ints_get l k hlt))
      have hy := HL.out _ (List.getElem_mem hlt)
      have hsn := askF_snoc l k hlt
      have Hsn := Lib.hid hsn
      generalize l[k] = y at *
      obtain ⟨aw, cw, rfl⟩ := owns_slice HO.out
      have hsz : w1.heap.size ≤ wr.heap.size := HB.out.size
      have CI := Lib.hid fun X => cfin y 0 1048576 hy.1 hy.2 X
      clear hl0 hcc hcell hsn
      go_wp2_with (first | (go_at_call 36; refine (CI.out _).mono ?_; rintro e w' ⟨rfl, rfl⟩) | (at_builtin; refine wp_app1 (w0 := wr) 87 90 2 16 _ elField Try.underlying87 w1.heap.size _ _ _ HO.out (by repeat (first | exact Below.refl _ _ | refine Below.drew ?_ | refine Below.alloc ?_ (by first | (simp; done) | (simp; omega)) _ | refine Below.setCell ?_ (by first | (simp; done) | (simp; omega)) _)) [.int .i64 21, .int .i64 y] rfl _ _ rfl rfl rfl (by first | exact heap_alloc_new _ _ | (simp only [heap_drew, heap_drewN]; exact heap_alloc_new _ _)) (by simp) rfl rfl (by omega) (by omega) hsz ?_; intro v3 w3 hown3 hgrow3 hb3))
      go_roundw
      case rel =>
        refine ⟨k + 1, by omega, by go_num, ?_, HB.out.trans hb3⟩
        rw [Hsn.out, ← flds_snoc]
        exact hown3
      case measure => first | (simp [intOf]; done) | (simp [intOf]; omega)
    · obtain rfl : k = l.length := by omega
      rw [List.take_of_length_le (Nat.le_refl _)] at HO
      obtain ⟨aw, cw, rfl⟩ := owns_slice HO.out
      have CP := Lib.hid (cpack _ (askF l) wr (by rw [askF_len]; exact Has.of_owns HO.out) Hok.out)
      have HBw : Hid (Below w.heap.size w wr) := Hb1.out.trans (HB.out.mono Hb1.out.size)
      clear HO HB
      go_wp2_with fail
      refine CP.out.mono ?_
      rintro e w5 ⟨v5, rfl, hown5, hb5⟩
      obtain ⟨a5, c5, rfl⟩ := owns_slice hown5
      have hfin : w5.ownsRow w.heap.size 5 1 (.slice a5 (recSize (askF l)) c5) (recSize (askF l)) (recBytes (askF l)) ∧ Below w.heap.size w w5 := ⟨owns_base hown5 HBw.out.size, HBw.out.trans (hb5.mono HBw.out.size)⟩
      have Hfin := Lib.hid hfin
      clear hown5 hb5 hfin CP
      go_wp2_with fail
      go_ret2
      exact ⟨_, rfl, Hfin.out⟩
end Go.Proofs.Ytgmichaconnhaaa
