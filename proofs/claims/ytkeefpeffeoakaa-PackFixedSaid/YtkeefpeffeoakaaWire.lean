/- Package wire: contracts. -/
import Derived.Test.YtkeefpeffeoakaaMem
namespace Go.Proofs.Ytkeefpeffeoakaa
open Go.ChangeShapes Go.WideShapes Go.ChangeAt Go.RowKit
set_option linter.unusedVariables false

/-- 'Widths'. -/
def widths (zs : List Int) : List Int := (zs.take 20).map fun z => 1 + pick z 60
theorem widths_get (zs : List Int) (k : Nat) (h : k < zs.length) (h' : k < 20) : (widths zs).take (k + 1) = (widths zs).take k ++ [1 + pick zs[k] 60] := by
  have hl : k < (widths zs).length := by simp [widths]; omega
  rw [take_snoc _ _ hl]
  simp [widths]
set_option maxHeartbeats 1000000 in
theorem cwidths (v : Value) (zs : List Int) (w : World) (h : Has w 1 v zs.length (ints zs)) :
    Calls Try.prog 14 #[v] w fun e w' => ∃ v', e = .returned v' ∧ w'.ownsRow w.heap.size 3 1 v' (widths zs).length (ints (widths zs)) ∧ Below w.heap.size w w' := by
  obtain ⟨hl, a, cap, rfl, hn, hm, hc⟩ := h
  unfold maxLen at hm
  have P := Lib.hid fun (a : Int) w => picked a 60 (by omega) (by omega) w
  go_enter Try.func14, Try.ntmps14
  go_wp2_with fail
  go_loopw [3, 4] (fun v i wr => ∃ k : Nat, k ≤ zs.length ∧ k ≤ 20 ∧ i = .int .i64 k ∧ wr.ownsRow w.heap.size 3 1 v ((widths zs).take k).length (ints ((widths zs).take k)) ∧ Below w.heap.size w wr) (fun _ i _ => zs.length - (intOf i).toNat)
  case atStart => exact ⟨0, by omega, by omega, rfl, World.ownsRow_nil _ _ _ _, Below.refl _ _⟩
  case round =>
    obtain ⟨k, hk, hk', rfl, hown, hb⟩ := hrel
    have hsz := hb.size
    have hwl : ((widths zs).take k).length = k := by simp [widths]; omega
    rw [hwl] at hown
    by_cases h1 : k < zs.length
    · obtain ⟨b, off, rfl, hcc⟩ := hc (by simp; omega)
      have hcell : wr.cell? ⟨b, off + k, none⟩ = some (.int .i64 zs[k]) := by
        have h0 := hcc k _ (ints_get zs k h1)
        rw [← h0]; exact hb.cell (p := ⟨b, off + k, none⟩) (World.block_lt_of_cell? w _ h0)
      by_cases h2 : k < 20
      · have Hsnoc := Lib.hid (widths_get zs k h1 h2)
        have hpb := pick_bd zs[k] 60 (by omega)
        obtain ⟨hp0, hp1⟩ := hpb
        have Hb := Lib.hid hb
        have Hown := Lib.hid hown
        clear hb hown hwl hc hcc
        go_wp2_with (first | (go_at_call 24; with_reducible refine (P.out _ _).mono ?_; rintro e w' ⟨rfl, rfl⟩) | (at_builtin; refine wp_app1 22 3 1 8 _ elInt Try.underlying22 w.heap.size _ _ _ Hown.out (by repeat (first | exact Below.refl _ _ | refine Below.drew ?_ | refine Below.alloc ?_ (by first | (simp; done) | (simp; omega)) _ | refine Below.setCell ?_ (by first | (simp; done) | (simp; omega)) _)) [.int .i64 (1 + pick zs[k] 60)] rfl _ _ rfl rfl rfl (by first | exact heap_alloc_new _ _ | (simp only [heap_drew, heap_drewN]; exact heap_alloc_new _ _)) (by simp) rfl rfl (by omega) (by omega) hsz ?_; intro v' w3 hown' hgrow3 hb3))
        go_roundw
        case rel =>
          refine ⟨k + 1, by omega, by omega, by go_num, ?_, Hb.out.trans hb3⟩
          rw [Hsnoc.out, ← ints_snoc, List.length_append, show ((widths zs).take k).length = k by simp [widths]; omega]
          exact hown'
        case measure => simp [intOf]; omega
      · have hfin : (widths zs).take k = widths zs := List.take_of_length_le (by simp [widths]; omega)
        rw [hfin] at hown
        have Hown := Lib.hid hown
        have hwl2 := Lib.hid (hwl.symm.trans (congrArg List.length hfin))
        clear hown hwl hfin hc hcc
        go_wp2
        go_ret
        exact ⟨_, rfl, hwl2.out ▸ Hown.out, hb⟩
    · have hfin : (widths zs).take k = widths zs := List.take_of_length_le (by simp [widths]; omega)
      rw [hfin] at hown
      have Hown := Lib.hid hown
      have hwl2 := Lib.hid (hwl.symm.trans (congrArg List.length hfin))
      clear hown hwl hfin hc
      go_wp2
      go_ret
      exact ⟨_, rfl, hwl2.out ▸ Hown.out, hb⟩

/-- Cells of fields. -/
def flds (fs : List (Int × Int)) : List Value := fs.flatMap fun p => [.int .i64 p.1, .int .i64 p.2]
@[simp] theorem flds_length (fs : List (Int × Int)) : (flds fs).length = fs.length * 2 := by induction fs <;> simp_all [flds]; omega
theorem flds_snoc (fs : List (Int × Int)) (p : Int × Int) : flds fs ++ [.int .i64 p.1, .int .i64 p.2] = flds (fs ++ [p]) := by simp [flds]
/-- 'FieldsOf'. -/
def fieldAt (ws vs : List Int) (i : Nat) : Int × Int := (ws.getD i 0, if i < vs.length then pick (vs.getD i 0) (2 ^ (ws.getD i 0).toNat) else 0)
def fieldsOf (ws vs : List Int) : List (Int × Int) := (List.range ws.length).map (fieldAt ws vs)
theorem elField : Elem Try.prog 37 2 16 (.agg #[.int .i64 0, .int .i64 0]) := .of (by kernel_rfl) rfl (by decide)
theorem fieldsOf_get (ws vs : List Int) (k : Nat) (h : k < ws.length) : (fieldsOf ws vs).take (k + 1) = (fieldsOf ws vs).take k ++ [fieldAt ws vs k] := by
  rw [take_snoc _ _ (by simpa [fieldsOf] using h)]
  simp [fieldsOf]
theorem fieldsOf_length (ws vs : List Int) : (fieldsOf ws vs).length = ws.length := by simp [fieldsOf]
theorem pow_le_60 (n : Nat) (h : n ≤ 60) : (2 : Int) ^ n ≤ 1152921504606846976 := by
  have h1 : 2 ^ n ≤ 2 ^ 60 := Nat.pow_le_pow_right (by decide) h
  rw [show (2 : Nat) ^ 60 = 1152921504606846976 from by decide] at h1
  have h2 : ((2 ^ n : Nat) : Int) = (2 : Int) ^ n := by simp
  rw [← h2]; exact Int.ofNat_le.2 h1
set_option maxRecDepth 100000 in
set_option maxHeartbeats 1000000 in
theorem cfieldsOf (v1 v2 : Value) (ws vs : List Int) (w : World) (h1 : Has w 1 v1 ws.length (ints ws)) (h2 : Has w 1 v2 vs.length (ints vs)) (hw : ∀ x ∈ ws, 1 ≤ x ∧ x ≤ 60) (hlen : ws.length ≤ 1000000) :
    Calls Try.prog 15 #[v1, v2] w fun e w' => ∃ v', e = .returned v' ∧ w'.ownsRow w.heap.size 37 2 v' (fieldsOf ws vs).length (flds (fieldsOf ws vs)) ∧ Below w.heap.size w w' := by
  obtain ⟨hl1, a1, cap1, rfl, hn1, hm1, hc1⟩ := h1
  obtain ⟨hl2, a2, cap2, rfl, hn2, hm2, hc2⟩ := h2
  unfold maxLen at hm1 hm2
  have HW := Lib.hid hw
  clear hw
  go_enter Try.func15, Try.ntmps15
  go_wp2_with fail
  go_loopw [5, 6] (fun v i wr => ∃ k : Nat, k ≤ ws.length ∧ i = .int .i64 k ∧ wr.ownsRow w.heap.size 37 2 v k (flds ((fieldsOf ws vs).take k)) ∧ Below w.heap.size w wr) (fun _ i _ => ws.length - (intOf i).toNat)
  case atStart => exact ⟨0, by omega, rfl, World.ownsRow_nil _ _ _ _, Below.refl _ _⟩
  case round =>
    obtain ⟨k, hk, rfl, hown, hb⟩ := hrel
    have hsz := hb.size
    by_cases h1 : k < ws.length
    · obtain ⟨b, off, rfl, hcc⟩ := hc1 (by simp; omega)
      have hcell : wr.cell? ⟨b, off + k, none⟩ = some (.int .i64 ws[k]) := by
        have h0 := hcc k _ (ints_get ws k h1)
        rw [← h0]; exact hb.cell (p := ⟨b, off + k, none⟩) (World.block_lt_of_cell? w _ h0)
      have hbl := World.block_lt_of_cell? wr _ hcell
      obtain ⟨hx1, hx2⟩ := HW.out _ (List.getElem_mem h1)
      have Hsnoc := Lib.hid (fieldsOf_get ws vs k h1)
      have Hb := Lib.hid hb
      have Hown := Lib.hid hown
      clear hb hown hcc hc1
      by_cases h2 : k < vs.length
      · obtain ⟨b2, off2, rfl, hcc⟩ := hc2 (by simp; omega)
        have hcell2 : wr.cell? ⟨b2, off2 + k, none⟩ = some (.int .i64 vs[k]) := by
          have h0 := hcc k _ (ints_get vs k h2)
          rw [← h0]; exact Hb.out.cell (p := ⟨b2, off2 + k, none⟩) (World.block_lt_of_cell? w _ h0)
        have hbl2 := World.block_lt_of_cell? wr _ hcell2
        clear hcc hc2
        go_wp2_with fail
        have hf : fieldAt ws vs k = (ws[k], pick vs[k] (2 ^ ws[k].toNat)) := by simp [fieldAt, h1, h2]
        rw [hf] at Hsnoc
        have hp2 : (2 : Int) ^ ws[k].toNat ≤ 1152921504606846976 := pow_le_60 _ (by omega)
        have hp1 : (0 : Int) < 2 ^ ws[k].toNat := Int.pow_pos (by decide)
        have Hpk := Lib.hid (show ∀ X, Calls Try.prog 24 #[.int .i64 vs[k], .int .i64 (IntKind.i64.wrap (2 ^ ws[k].toNat))] X fun e w'' => e = .returned (.int .i64 (pick vs[k] (2 ^ ws[k].toNat))) ∧ w'' = X from fun X => by
          rw [IntWalk.i64_in _ (by omega)]
          exact (picked _ _ hp1 hp2 X).mono fun _ _ h => same_symm h)
        clear hp1 hp2 hf
        refine wp_still_tail 10 (by kernel_rfl) (by kernel_rfl) ?_
        simp only [List.take_succ_cons, List.take_zero, List.drop_succ_cons, List.drop_zero]
        repeat still_step
        refine wpStill_step (fun K hK => ?_)
        go_simp
        refine ⟨_, Hpk.out _, hK _ ?_⟩
        clear hK K
        refine wpStill_nil ?_
        go_wp2_with (at_builtin; refine wp_app1 (w0 := wr) 30 37 2 16 _ elField Try.underlying30 w.heap.size _ _ _ Hown.out (by repeat (first | exact Below.refl _ _ | refine Below.drew ?_ | refine Below.alloc ?_ (by first | (simp; done) | (simp; omega)) _ | refine Below.setCell ?_ (by first | (simp; done) | (simp; omega)) _)) [.int .i64 ws[k], .int .i64 (pick vs[k] (2 ^ ws[k].toNat))] rfl _ _ rfl rfl rfl (by first | exact heap_alloc_new _ _ | (simp only [heap_drew, heap_drewN]; exact heap_alloc_new _ _)) (by simp) rfl rfl (by omega) (by omega) hsz ?_; intro v' w3 hown' hgrow3 hb3)
        go_roundw
        case rel =>
          refine ⟨k + 1, by omega, by go_num, ?_, Hb.out.trans hb3⟩
          rw [Hsnoc.out, ← flds_snoc]
          exact hown'
        case measure => simp [intOf]; omega
      · clear hc2
        have hf : fieldAt ws vs k = (ws[k], 0) := by simp [fieldAt, h1, h2]
        rw [hf] at Hsnoc
        clear hf
        go_wp2_with (at_builtin; refine wp_app1 (w0 := wr) 30 37 2 16 _ elField Try.underlying30 w.heap.size _ _ _ Hown.out (by repeat (first | exact Below.refl _ _ | refine Below.drew ?_ | refine Below.alloc ?_ (by first | (simp; done) | (simp; omega)) _ | refine Below.setCell ?_ (by first | (simp; done) | (simp; omega)) _)) [.int .i64 ws[k], .int .i64 0] rfl _ _ rfl rfl rfl (by first | exact heap_alloc_new _ _ | (simp only [heap_drew, heap_drewN]; exact heap_alloc_new _ _)) (by simp) rfl rfl (by omega) (by omega) hsz ?_; intro v' w3 hown' hgrow3 hb3)
        go_roundw
        case rel =>
          refine ⟨k + 1, by omega, by go_num, ?_, Hb.out.trans hb3⟩
          rw [Hsnoc.out, ← flds_snoc]
          exact hown'
        case measure => simp [intOf]; omega
    · have hfin : (fieldsOf ws vs).take k = fieldsOf ws vs := List.take_of_length_le (by rw [fieldsOf_length]; omega)
      obtain rfl : k = ws.length := by omega
      rw [hfin] at hown
      have Hown := Lib.hid hown
      have hwl2 := Lib.hid (fieldsOf_length ws vs)
      clear hown hfin hc1 hc2
      go_wp2
      go_ret
      exact ⟨_, rfl, hwl2.out.symm ▸ Hown.out, hb⟩

end Go.Proofs.Ytkeefpeffeoakaa
