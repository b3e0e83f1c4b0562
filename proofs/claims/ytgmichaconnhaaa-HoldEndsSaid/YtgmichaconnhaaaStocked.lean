/- Package hold: the laws' stocked, shelfSure, OrderOf, ordersOf. -/
import Derived.Test.YtgmichaconnhaaaHoldZ
import Derived.Deep.RegionHeld3
namespace Go.Proofs.Ytgmichaconnhaaa
open Go.ChangeShapes Go.WideShapes Go.ChangeAt Go.RowKit
set_option linter.unusedVariables false
set_option linter.unusedSimpArgs false

set_option maxRecDepth 100000 in
set_option maxHeartbeats 4000000 in
theorem cstocked (v : Value) (l : List Ord) (w : World) (h : Has w 4 v l.length (ords l)) (hok : ∀ x ∈ l, x.Ok) (hlen : l.length ≤ 300) :
    Calls Try.prog 15 #[v] w fun e w' => ∃ v', e = .returned (.tuple #[v', .bool true]) ∧ w'.ownsRow w.heap.size 33 5 v' l.length (stks (hOuts l)) ∧ Below w.heap.size w w' := by
  have H := Lib.hid h
  have Hok := Lib.hid hok
  have H1 := Lib.hid (ords_one l)
  obtain ⟨_, ad, cap, rfl, _, _, _⟩ := h
  clear hok
  go_enter Try.func15, Try.ntmps15
  go_wp2_with (refine wp_appN (w0 := w) 23 30 4 32 _ elOrder Try.underlying23 w.heap.size _ _ _ (World.ownsRow_nil _ _ _ _) (by repeat (first | exact Below.refl _ _ | refine Below.drew ?_ | refine Below.alloc ?_ (by first | (simp; done) | (simp; omega)) _ | refine Below.setCell ?_ (by first | (simp; done) | (simp; omega)) _)) _ _ _ H.out rfl _ _ rfl rfl rfl H1.out (by omega) (by unfold maxLen; omega) (Nat.le_refl _) ?_; intro v2 w2 hown2 hgrow2 hb2)
  rw [List.nil_append, Nat.zero_add] at hown2
  refine (chPlay v2 l w2 (Has.of_owns hown2) Hok.out hlen).mono ?_
  rintro e w3 ⟨v', rfl, hown, hb3⟩
  obtain ⟨a3, c3, rfl⟩ := owns_slice hown
  have hO := Lib.hid (owns_base hown hb2.size)
  have hb := Lib.hid (hb2.trans (hb3.mono hb2.size))
  have hnn : ((l.length : Int) == (l.length : Int)) = true := by simp
  clear hown hb3 hb2 hown2 hgrow2
  go_wp2_with fail
  go_ret2
  exact ⟨_, rfl, hO.out, hb.out⟩
def sureO : List Ord := [⟨1, 5, 0, 0⟩, ⟨3, 2, 1, 0⟩]
theorem sureO_outs : hOuts sureO = [⟨0, 0, 5, 0, 0⟩, ⟨0, 1, 3, 2, 0⟩] := by
  simp [hOuts, shfFold, shfStep, sureO, Shf.out, Shf.next, Shf.order, shf0, Shf.held, heldL]
theorem sureO_ok : ∀ x ∈ sureO, x.Ok := by
  intro x hx
  simp only [sureO, List.mem_cons, List.not_mem_nil, or_false] at hx
  rcases hx with rfl | rfl <;> exact ⟨by decide, by decide, by decide, by decide, by decide, by decide, by decide⟩
set_option maxRecDepth 100000 in
set_option maxHeartbeats 4000000 in
theorem cshelfSure (w : World) : Calls Try.prog 16 #[] w fun e w' => e = .returned (.bool true) ∧ Below w.heap.size w w' := by
  have hb0 : Below w.heap.size w (w.alloc (.cells #[.int .i64 1, .int .i64 5, .int .i64 0, .int .i64 0, .int .i64 3, .int .i64 2, .int .i64 1, .int .i64 0] 30)) := (Below.refl _ _).alloc (Nat.le_refl _) _
  have CS := Lib.hid (cstocked (.slice (some ⟨w.heap.size, 0, none⟩) 2 2) sureO _ (has_block (wp := w) (cs := ords sureO) (heap_alloc_new w (.cells #[.int .i64 1, .int .i64 5, .int .i64 0, .int .i64 0, .int .i64 3, .int .i64 2, .int .i64 1, .int .i64 0] 30)) rfl rfl (by decide)) sureO_ok (by decide))
  have Hb0 := Lib.hid hb0
  clear hb0
  go_enter Try.func16, Try.ntmps16
  go_wp2_with fail
  refine CS.out.mono ?_
  rintro e w3 ⟨v', rfl, hown, hb3⟩
  rw [sureO_outs] at hown
  obtain ⟨g, cap, rfl, ⟨c1, c2⟩, -, q1, q2, q3, -⟩ := stk_get hown 1 (by decide)
  have hb := Lib.hid (Hb0.out.trans (hb3.mono Hb0.out.size))
  have q1' : w3.cell? ⟨g, 6, none⟩ = some (.int .i64 1) := q1
  have q2' : w3.cell? ⟨g, 7, none⟩ = some (.int .i64 3) := q2
  have q3' : w3.cell? ⟨g, 8, none⟩ = some (.int .i64 2) := q3
  clear hown hb3 CS Hb0 q1 q2 q3
  go_wp2_with fail
  go_ret
  exact ⟨rfl, hb.out⟩
/-- What the laws make of a wish. -/
def orderOf (x : Ord) : Ord := ⟨1 + pick x.kind 7, 1 + pick x.count 9, 1 + pick x.life 5, 1 + pick x.id 9⟩
theorem orderOf_ok (x : Ord) : (orderOf x).Ok := by
  have h1 := pick_bd x.kind 7 (by omega)
  have h2 := pick_bd x.count 9 (by omega)
  have h3 := pick_bd x.life 5 (by omega)
  have h4 := pick_bd x.id 9 (by omega)
  unfold orderOf
  exact ⟨by simp only; omega, by simp only; omega, fun _ => by simp only; omega, by simp only; omega, fun _ => by simp only; omega, by simp only; omega, fun _ => by simp only; omega⟩
set_option maxRecDepth 100000 in
set_option maxHeartbeats 4000000 in
theorem corderOf (x : Ord) (w : World) : Calls Try.prog 31 #[.agg #[.int .i64 x.kind, .int .i64 x.count, .int .i64 x.life, .int .i64 x.id]] w fun e w' => e = .returned (orderOf x).val ∧ Below w.heap.size w w' := by
  obtain ⟨kd, ct, lf, id⟩ := x
  simp only
  unfold orderOf Ord.val
  simp only
  obtain ⟨p0, p1⟩ := pick_bd kd 7 (by omega)
  obtain ⟨q0, q1⟩ := pick_bd ct 9 (by omega)
  obtain ⟨r0, r1⟩ := pick_bd lf 5 (by omega)
  obtain ⟨s0, s1⟩ := pick_bd id 9 (by omega)
  have e1 : IntKind.i64.wrap (1 + pick kd 7) = 1 + pick kd 7 := IntWalk.i64_in _ (by omega)
  have e2 : IntKind.i64.wrap (1 + pick ct 9) = 1 + pick ct 9 := IntWalk.i64_in _ (by omega)
  have e3 : IntKind.i64.wrap (1 + pick lf 5) = 1 + pick lf 5 := IntWalk.i64_in _ (by omega)
  have e4 : IntKind.i64.wrap (1 + pick id 9) = 1 + pick id 9 := IntWalk.i64_in _ (by omega)
  have Pk := Lib.hid fun (a n : Int) (h0 : 0 < n) (h1 : n ≤ 1152921504606846976) X => (picked a n h0 h1 X).mono fun _ _ h => same_symm h
  go_enter Try.func31, Try.ntmps31
  go_upto_region 1 with (fail)
  refine wp_still_tail 17 (by kernel_rfl) (by kernel_rfl) ?_
  simp only [List.take_succ_cons, List.take_zero, List.drop_succ_cons, List.drop_zero]
  repeat (first | still_step | still_call (Pk.out _ _ (by omega) (by omega) _))
  refine wpStill_nil ?_
  go_wp2_with fail
  refine bodyPost_ret (v := .agg #[.int .i64 (1 + pick kd 7), .int .i64 (1 + pick ct 9), .int .i64 (1 + pick lf 5), .int .i64 (1 + pick id 9)]) (by simp [results, Try.results31, go_sem]) rfl ⟨rfl, (((Below.refl _ _).alloc (Nat.le_refl _) _).alloc (by simp) _).drew⟩
def ordersOf (l : List Ord) (n : Nat) : List Ord := (l.take n).map orderOf
theorem ordersOf_ok (l : List Ord) (n : Nat) : ∀ x ∈ ordersOf l n, x.Ok := fun x hx => by
  simp only [ordersOf, List.mem_map] at hx
  obtain ⟨y, _, rfl⟩ := hx
  exact orderOf_ok y
theorem ordersOf_len (l : List Ord) (n : Nat) : (ordersOf l n).length ≤ n := by simp [ordersOf]; omega
theorem ordersOf_small (l : List Ord) (n : Nat) : ∀ x ∈ ordersOf l n, x.life ≤ 5 ∧ x.count ≤ 9 ∧ x.id ≤ 9 := fun x hx => by
  simp only [ordersOf, List.mem_map] at hx
  obtain ⟨y, _, rfl⟩ := hx
  have h2 := pick_bd y.count 9 (by omega)
  have h3 := pick_bd y.life 5 (by omega)
  have h4 := pick_bd y.id 9 (by omega)
  unfold orderOf
  simp only; omega
theorem orders_next {w : World} {base : Nat} {v : Value} (l : List Ord) (k : Nat) (h : k < l.length) (hown : w.ownsRow base 30 4 v (k + 1) (ords ((l.take k).map orderOf) ++ (orderOf l[k]).cells)) :
    w.ownsRow base 30 4 v (k + 1) (ords ((l.take (k + 1)).map orderOf)) := by
  rw [take_snoc _ _ h, List.map_append, List.map_cons, List.map_nil]
  have := flat_snoc Ord.cells ((l.take k).map orderOf) (orderOf l[k])
  unfold ords at hown ⊢
  rw [← this]; exact hown
set_option maxRecDepth 100000 in
set_option maxHeartbeats 4000000 in
theorem cordersOf (v : Value) (l : List Ord) (n : Nat) (w : World) (h : Has w 4 v l.length (ords l)) (hn : n ≤ 1000) :
    Calls Try.prog 14 #[v, .int .i64 n] w fun e w' => ∃ v', e = .returned v' ∧ w'.ownsRow w.heap.size 30 4 v' (ordersOf l n).length (ords (ordersOf l n)) ∧ Below w.heap.size w w' := by
  have H := Lib.hid h
  obtain ⟨_, ad, cap, rfl, _, hcm, _⟩ := h
  unfold maxLen at hcm
  go_enter Try.func14, Try.ntmps14
  go_wp2_with fail
  go_loopw [5, 6] (fun out i wr => ∃ k : Nat, k ≤ l.length ∧ k ≤ n ∧ i = .int .i64 k ∧ wr.ownsRow w.heap.size 30 4 out k (ords ((l.take k).map orderOf)) ∧ Below w.heap.size w wr) (fun _ i _ => l.length - (intOf i).toNat)
  case atStart => exact ⟨0, by omega, by omega, rfl, World.ownsRow_nil _ _ _ _, Below.refl _ _⟩
  case round =>
    obtain ⟨k, hk, hkn, rfl, ho, hb⟩ := hrel
    have Ho := Lib.hid ho
    have Hb := Lib.hid hb
    have hszw := hb.size
    clear ho hb
    by_cases h1 : k < l.length
    · by_cases h2 : k < n
      · obtain ⟨b, off, cap', he, -, x0, x1, x2, x3⟩ := ord_get H.out k h1
        simp only [Value.slice.injEq] at he
        obtain ⟨rfl, -, rfl⟩ := he
        replace x0 := cell_on Hb.out x0
        replace x1 := cell_on Hb.out x1
        replace x2 := cell_on Hb.out x2
        replace x3 := cell_on Hb.out x3
        have hbl := World.block_lt_of_cell? wr _ x0
        have Hnx := Lib.hid fun X base v => orders_next (w := X) (base := base) (v := v) l k h1
        have CO := Lib.hid (corderOf l[k] wr)
        generalize l[k] = x at *
        unfold Ord.cells at Hnx
        have e1 : (k : Int) < (l.length : Int) := by omega
        have e2 : (k : Int) < (n : Int) := by omega
        go_wp2_with fail
        refine CO.out.mono ?_
        rintro e w5 ⟨rfl, hb5⟩
        have Hb5 := Lib.hid (Hb.out.trans (hb5.mono Hb.out.size))
        have ho5 := Lib.hid (owns_below Ho.out hb5)
        have hsz5 := Hb5.out.size
        unfold Ord.val
        generalize (orderOf x).kind = r0 at *
        generalize (orderOf x).count = r1 at *
        generalize (orderOf x).life = r2 at *
        generalize (orderOf x).id = r3 at *
        clear hb5 CO x0 x1 x2 x3
        go_wp2_with (at_builtin; refine wp_app1 (w0 := w5) 23 30 4 32 _ elOrder Try.underlying23 w.heap.size _ _ _ ho5.out (by repeat (first | exact Below.refl _ _ | refine Below.drew ?_ | refine Below.alloc ?_ (by first | (simp; done) | (simp; omega)) _ | refine Below.setCell ?_ (by first | (simp; done) | (simp; omega)) _)) [.int .i64 r0, .int .i64 r1, .int .i64 r2, .int .i64 r3] rfl _ _ rfl rfl rfl (by first | exact heap_alloc_new _ _ | (simp only [heap_drew, heap_drewN]; exact heap_alloc_new _ _)) (by simp) rfl rfl (by omega) (by omega) hsz5 ?_; intro v6 w6 hown6 hgrow6 hb6)
        go_roundw
        case rel => exact ⟨k + 1, by omega, by omega, by go_num, Hnx.out _ _ _ hown6, Hb5.out.trans hb6⟩
        case measure => simp [intOf]; omega
      · obtain rfl : k = n := by omega
        have e1 : (k : Int) < (l.length : Int) := by omega
        have hO : Hid (wr.ownsRow w.heap.size 30 4 u5 (ordersOf l k).length (ords (ordersOf l k))) := by
          rw [show (ordersOf l k).length = k by simp [ordersOf]; omega]; exact Ho.out
        clear Ho
        go_wp2_with fail
        go_ret
        exact ⟨_, rfl, hO.out, Hb.out⟩
    · obtain rfl : k = l.length := by omega
      have hO : Hid (wr.ownsRow w.heap.size 30 4 u5 (ordersOf l n).length (ords (ordersOf l n))) := by
        have e : ordersOf l n = (l.take l.length).map orderOf := by unfold ordersOf; rw [List.take_of_length_le hkn, List.take_of_length_le (Nat.le_refl _)]
        rw [e, show ((l.take l.length).map orderOf).length = l.length by simp]; exact Ho.out
      clear Ho
      go_wp2_with fail
      go_ret
      exact ⟨_, rfl, hO.out, Hb.out⟩
end Go.Proofs.Ytgmichaconnhaaa
