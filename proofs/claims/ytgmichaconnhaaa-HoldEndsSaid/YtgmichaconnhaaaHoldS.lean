/- Package hold: close. (Printed by wip/tools/gen_hold.py.) -/
import Derived.Test.YtgmichaconnhaaaHoldQ
namespace Go.Proofs.Ytgmichaconnhaaa
open Go.ChangeShapes Go.WideShapes Go.ChangeAt Go.RowKit
set_option linter.unusedVariables false
set_option linter.unusedSimpArgs false

theorem hold_box {w : World} (x : Hd) : Below w.heap.size w (w.alloc (.cells #[.int .i64 x.id, .int .i64 x.count, .int .i64 x.life] 146)) := (Below.refl _ _).alloc (Nat.le_refl _) _
set_option maxRecDepth 100000 in
set_option maxHeartbeats 2000000 in
theorem cCloseF (id : Int) (B : Nat) (X : World) (x : Hd) (hB : X.cell? ⟨B, 0, none⟩ = some (.int .i64 id)) :
    Calls Try.prog 83 #[.agg #[.int .i64 x.id, .int .i64 x.count, .int .i64 x.life], .pointer (some ⟨B, 0, none⟩)] X fun e w' => e = .returned (.bool (x.id == id)) ∧ Below X.heap.size X w' := by
  have hlt := World.block_lt_of_cell? X _ hB
  obtain ⟨x0, x1, x2⟩ := three_cells (heap_alloc_new X (.cells #[.int .i64 x.id, .int .i64 x.count, .int .i64 x.life] 146))
  go_enter Try.func83, Try.ntmps83
  go_wp2_with fail
  go_ret
  exact ⟨rfl, hold_box x⟩
/-- Behind the deletion. -/
theorem close_step {w w6 : World} {base S : Nat} {s' : Shf} {v v6 : Value} (hl : base ≤ S) (hb6 : Below base w w6) (hc6 : Chc [103, 146] w w6)
    (hS6 : w6.heap[S]? = some (.cells #[.int .i64 s'.free, .int .i64 s'.used, .int .i64 s'.made, v] 103 (0, 0))) (h6 : w6.ownsRow base 146 3 v6 s'.hs.length (hcs s'.hs)) (hok : s'.Ok) :
    (w6.cell? ⟨S, 3, none⟩ = some v ∧ w6.frozen? ⟨S, 3, none⟩ = false) ∧ ShfAt (w6.setCell ⟨S, 3, none⟩ v6) base S s' ∧ Below base w (w6.setCell ⟨S, 3, none⟩ v6) ∧ Chc [103, 146] w (w6.setCell ⟨S, 3, none⟩ v6) := by
  obtain ⟨⟨-, -, -, c3⟩, hfz⟩ := four_cells hS6
  have hS7 := (shelf_set hS6 v6).2.2.2
  have hc7 := Chc.setCell (T := [103]) (p := ⟨S, 3, none⟩) hS6 (by simp) v6
  exact ⟨⟨c3, hfz 3⟩, ⟨⟨v6, hS7, owns_chc h6 hc7 (by decide)⟩, hok, hl⟩, hb6.setCell hl _, hc6.trans (hc7.mono (by simp))⟩
theorem at_get {s : Shf} {i : Nat} (hi : i < s.hs.length) : s.at' i = s.hs[i].count := by
  unfold Shf.at'
  rw [List.getD_eq_getElem?_getD, List.getElem?_map, List.getElem?_eq_getElem hi]; rfl
theorem close_eg : ∀ args w, (callFunc 83 args).run Try.prog w = .ok (.enter 83 args) w := enters_of Try.func83 (by kernel_rfl) rfl
set_option maxRecDepth 100000 in
set_option maxHeartbeats 2000000 in
theorem cCloseNone1 {w : World} {base S : Nat} {s : Shf} (h : ShfAt w base S s) (id : Int) (h1 : 1 ≤ id) (hn : s.made < id) :
    Calls Try.prog 76 #[.pointer (some ⟨S, 0, none⟩), .int .i64 id, .pointer (some ⟨S, 1, none⟩)] w fun e w' => e = .returned (.int .i64 6) ∧ Below w.heap.size w w' := by
  obtain ⟨v, q1, q2⟩ := h.ex
  obtain ⟨⟨-, -, s2, -⟩, -⟩ := four_cells q1
  have hS := h.lt
  have d1 : decide (id < 1) = false := by simp; omega
  have d2 : decide (s.made < id) = true := by simp; omega
  have hb : Below w.heap.size w (w.alloc (.cells #[.int .i64 id] 3)) := (Below.refl _ _).alloc (Nat.le_refl _) _
  replace s2 := cell_on hb s2
  have x0 : (w.alloc (.cells #[.int .i64 id] 3)).cell? ⟨w.heap.size, 0, none⟩ = some (.int .i64 id) := cell_of_row _ _ _ _ _ _ (heap_alloc_new _ _)
  have Hb := Lib.hid hb
  clear h q1 q2 hb
  go_enter Try.func76, Try.ntmps76
  go_upto_region 1 with (fail)
  generalize w.alloc (.cells #[.int .i64 id] 3) = W at *
  go_quiet (fail)
  go_wp2_with fail
  go_ret
  exact ⟨rfl, below_drewN Hb.out _⟩
set_option maxRecDepth 100000 in
set_option maxHeartbeats 4000000 in
theorem cCloseOld1 {w : World} {base S : Nat} {s : Shf} (h : ShfAt w base S s) (id : Int) (h1 : 1 ≤ id) (hn : ¬ s.made < id) (hp : s.place id = none) :
    Calls Try.prog 76 #[.pointer (some ⟨S, 0, none⟩), .int .i64 id, .pointer (some ⟨S, 1, none⟩)] w fun e w' => e = .returned (.int .i64 10) ∧ Below w.heap.size w w' := by
  obtain ⟨v, q1, q2⟩ := h.ex
  obtain ⟨⟨-, -, s2, s3⟩, -⟩ := four_cells q1
  have hS := h.lt
  have d1 : decide (id < 1) = false := by simp; omega
  have d2 : decide (s.made < id) = false := by simp; omega
  have hix : ixOf (fun x => x.id == id) s.hs = -1 := ixOf_none hp
  have hb : Below w.heap.size w (w.alloc (.cells #[.int .i64 id] 3)) := (Below.refl _ _).alloc (Nat.le_refl _) _
  replace s2 := cell_on hb s2
  replace s3 := cell_on hb s3
  have x0 : (w.alloc (.cells #[.int .i64 id] 3)).cell? ⟨w.heap.size, 0, none⟩ = some (.int .i64 id) := cell_of_row _ _ _ _ _ _ (heap_alloc_new _ _)
  have Hb := Lib.hid hb
  have H2 := Lib.hid q2
  obtain ⟨a, cap, rfl⟩ := owns_slice q2
  clear h q1 q2 hb hp
  go_enter Try.func76, Try.ntmps76
  go_upto_region 1 with (fail)
  generalize w.alloc (.cells #[.int .i64 id] 3) = W at *
  go_quiet (fail)
  go_upto_region 3 with (fail)
  obtain ⟨W3, hW3⟩ : ∃ X, X = W.drewN nq := ⟨_, rfl⟩
  have HB3 : Hid (Below w.heap.size w W3) := by rw [hW3]; exact below_drewN Hb.out _
  have y0 : W3.cell? ⟨w.heap.size, 0, none⟩ = some (.int .i64 id) := by rw [hW3]; exact x0
  have y3 : W3.cell? ⟨S, 3, none⟩ = some (.slice a s.hs.length cap) := by rw [hW3]; exact s3
  rw [← hW3]
  have CI := Lib.hid (cIndexFunc (fun x => x.id == id) 83 #[.pointer (some ⟨w.heap.size, 0, none⟩)] close_eg (fun X x hX => cCloseF id w.heap.size X x (cell_on hX y0)) (owns_below H2.out HB3.out))
  rw [hix] at CI
  clear x0 s2 s3 hW3 Hb
  go_wp2_with fail
  refine CI.out.mono ?_
  rintro e w5 ⟨rfl, hb5⟩
  have HB5 : Hid (Below w.heap.size w w5) := HB3.out.trans (hb5.mono HB3.out.size)
  clear hb5 CI y0 y3 HB3
  go_wp2_with fail
  go_ret
  exact ⟨rfl, HB5.out⟩
set_option maxRecDepth 100000 in
set_option maxHeartbeats 4000000 in
theorem cClose1 {w : World} {base S : Nat} {s : Shf} (h : ShfAt w base S s) (o : Ord) (hk : o.kind = 4) (h1 : 1 ≤ o.id) (hn : ¬ s.made < o.id) (i : Nat) (hp : s.place o.id = some i) :
    Calls Try.prog 76 #[.pointer (some ⟨S, 0, none⟩), .int .i64 o.id, .pointer (some ⟨S, 1, none⟩)] w fun e w' => e = .returned (.int .i64 0) ∧ ShfAt w' base S (s.next o) ∧ Below base w w' ∧ Chc [103, 146] w w' := by
  have hi : i < s.hs.length := (List.findIdx?_eq_some_iff_getElem.1 hp).1
  have hok := Lib.hid (next_ok h.ok o)
  have hnx : s.next o = ⟨s.free, s.used + s.hs[i].count, s.made, s.hs.eraseIdx i⟩ := by
    unfold Shf.next Shf.order
    rw [if_neg (by omega), if_neg (by omega), if_neg (by omega), if_neg (by omega), if_neg (by omega), if_pos (by omega), if_neg (by omega), hp]
    simp only [hk]
    rw [at_get hi]
    simp
  rw [hnx] at hok ⊢
  have hsum := hok.out.sum
  have hfr := h.ok.free
  have hus := h.ok.used
  have hfr' := hok.out.free
  have hus' := hok.out.used
  have hnn' := hok.out.nonneg
  simp only at hfr' hus' hsum
  have Hl := Lib.hid h.lo
  obtain ⟨v, q1, q2⟩ := h.ex
  obtain ⟨⟨-, -, s2, s3⟩, -⟩ := four_cells q1
  have hS := h.lt
  have d1 : decide (o.id < 1) = false := by simp; omega
  have d2 : decide (s.made < o.id) = false := by simp; omega
  have hix : ixOf (fun x => x.id == o.id) s.hs = i := ixOf_some hp
  generalize o.id = id at *
  have hb : Below w.heap.size w (w.alloc (.cells #[.int .i64 id] 3)) := (Below.refl _ _).alloc (Nat.le_refl _) _
  replace s2 := cell_on hb s2
  replace s3 := cell_on hb s3
  have x0 : (w.alloc (.cells #[.int .i64 id] 3)).cell? ⟨w.heap.size, 0, none⟩ = some (.int .i64 id) := cell_of_row _ _ _ _ _ _ (heap_alloc_new _ _)
  have Hb := Lib.hid hb
  have H1 := Lib.hid q1
  have H2 := Lib.hid q2
  obtain ⟨gg, cap, rfl, ⟨c1, c2⟩, -, -⟩ := hd_get q2 i hi
  have hbs : base ≤ w.heap.size := by have := Hl.out; omega
  have hw0 : IntKind.i64.wrap (s.used + s.hs[i].count) = s.used + s.hs[i].count := IntWalk.i64_in _ (by simp only [Shf.held] at hnn'; simp only [Shf.held] at hsum; omega)
  have hiz : (i : Int) < (s.hs.length : Int) := by omega
  have hix0 : decide ((i : Int) < 0) = false := by simp
  have hw1 : IntKind.i64.wrap ((i : Int) + 1) = (i : Int) + 1 := IntWalk.i64_in _ (by have := h.ok.few; omega)
  unfold maxLen at c2
  clear h q1 q2 hb hp hnx hk hsum hnn' hfr' hus'
  go_enter Try.func76, Try.ntmps76
  go_upto_region 1 with (fail)
  generalize w.alloc (.cells #[.int .i64 id] 3) = W at *
  go_quiet (fail)
  go_upto_region 3 with (fail)
  obtain ⟨W3, hW3⟩ : ∃ X, X = W.drewN nq := ⟨_, rfl⟩
  have HB3 : Hid (Below w.heap.size w W3) := by rw [hW3]; exact below_drewN Hb.out _
  have y0 : W3.cell? ⟨w.heap.size, 0, none⟩ = some (.int .i64 id) := by rw [hW3]; exact x0
  have y3 : W3.cell? ⟨S, 3, none⟩ = some (.slice (some ⟨gg, 0, none⟩) s.hs.length cap) := by rw [hW3]; exact s3
  rw [← hW3]
  have CI := Lib.hid (cIndexFunc (fun x => x.id == id) 83 #[.pointer (some ⟨w.heap.size, 0, none⟩)] close_eg (fun X x hX => cCloseF id w.heap.size X x (cell_on hX y0)) (owns_below H2.out HB3.out))
  rw [hix] at CI
  clear x0 s2 s3 hW3 Hb
  go_upto_region 4 with (refine CI.out.mono ?_; rintro e w5 ⟨rfl, hb5⟩)
  have HB5 : Hid (Below w.heap.size w w5) := HB3.out.trans (hb5.mono HB3.out.size)
  have hS5 : w5.heap[S]? = some (.cells #[.int .i64 s.free, .int .i64 s.used, .int .i64 s.made, .slice (some ⟨gg, 0, none⟩) s.hs.length cap] 103 (0, 0)) := by rw [HB5.out.block S hS]; exact H1.out
  have HS5 := Lib.hid hS5
  obtain ⟨⟨p0, p1, -, p3⟩, hfz⟩ := four_cells hS5
  have HO5 := Lib.hid (owns_below H2.out HB5.out)
  obtain ⟨g', cap', he, -, ⟨-, z1, -⟩, -⟩ := hd_get HO5.out i hi
  simp only [Value.slice.injEq, Option.some.injEq, Addr.mk.injEq, and_true, true_and] at he
  obtain ⟨rfl, rfl⟩ := he
  have hSg : S ≠ gg := by
    intro hh
    obtain ⟨_, hh'⟩ := HO5.out
    rcases hh' with ⟨e, _⟩ | ⟨g2, cap2, cur, he, _, hcur, _⟩
    · cases e
    · simp only [Value.slice.injEq, Option.some.injEq, Addr.mk.injEq, and_true, true_and] at he
      obtain ⟨rfl, rfl⟩ := he
      rw [← hh, hS5] at hcur
      simp at hcur
  have f1 := hfz 1
  have hT := Lib.hid (shelf_set hS5 (.int .i64 (s.used + s.hs[i].count))).2.1
  have hcT := Lib.hid (Chc.setCell (T := [103]) (p := ⟨S, 1, none⟩) hS5 (by simp) (.int .i64 (s.used + s.hs[i].count)))
  clear hb5 CI y0 y3 HB3 hfz hS5
  generalize hcn : s.hs[i].count = cn at *
  have Hcn := Lib.hid hcn
  clear hcn
  go_upto_region 6 with (fail)
  go_region
  go_upto_region 7 with (fail)
  obtain ⟨W6, hW6⟩ : ∃ X, X = (w5.setCell ⟨S, 1, none⟩ (.int .i64 (s.used + cn))).drew := ⟨_, rfl⟩
  have hS6 : W6.heap[S]? = some (.cells #[.int .i64 (s.free), .int .i64 (s.used + cn), .int .i64 s.made, .slice (some ⟨gg, 0, none⟩) s.hs.length cap] 103 (0, 0)) := by rw [hW6]; exact hT.out
  have hc6 : Chc [103] w5 W6 := by rw [hW6]; exact hcT.out.drew
  have hb6 : Below base w W6 := by rw [hW6]; exact ((HB5.out.mono hbs).setCell Hl.out _).drew
  rw [← hW6]
  have hO6 := owns_chc HO5.out hc6 (by decide)
  have HS6 := Lib.hid hS6
  have HC6 : Hid (Chc [103, 146] w W6) := (Chc.of_below HB5.out).trans (hc6.mono (by simp))
  have HB6 := Lib.hid hb6
  have CD := Lib.hid (cDelete i hi hO6)
  obtain ⟨⟨-, -, -, r3⟩, -⟩ := four_cells hS6
  have hSW := World.block_lt_of_cell? W6 _ r3
  clear hO6 hS6 hc6 hb6 hW6 hT hcT HS5 HO5 HB5 p0 p1 p3 z1 f1
  go_wp2_with fail
  refine CD.out.mono ?_
  rintro e w7 ⟨v7, rfl, hown7, hb7, hc7⟩
  obtain ⟨a7, cap7, rfl⟩ := owns_slice hown7
  obtain ⟨⟨g3, gf⟩, hfin⟩ := close_step (s' := ⟨s.free, s.used + cn, s.made, s.hs.eraseIdx i⟩) Hl.out (HB6.out.trans hb7) (HC6.out.trans (hc7.mono (by simp))) (hc7.block _ _ _ _ HS6.out (by decide)) hown7 hok.out
  have Hfin := Lib.hid hfin
  clear hown7 hb7 hc7 hfin CD HS6 HC6 HB6 r3
  go_wp2_with fail
  go_ret
  rw [Hcn.out]
  exact ⟨rfl, Hfin.out⟩
set_option maxRecDepth 100000 in
set_option maxHeartbeats 2000000 in
theorem cCloseNone0 {w : World} {base S : Nat} {s : Shf} (h : ShfAt w base S s) (id : Int) (h1 : 1 ≤ id) (hn : s.made < id) :
    Calls Try.prog 76 #[.pointer (some ⟨S, 0, none⟩), .int .i64 id, .pointer (some ⟨S, 0, none⟩)] w fun e w' => e = .returned (.int .i64 6) ∧ Below w.heap.size w w' := by
  obtain ⟨v, q1, q2⟩ := h.ex
  obtain ⟨⟨-, -, s2, -⟩, -⟩ := four_cells q1
  have hS := h.lt
  have d1 : decide (id < 1) = false := by simp; omega
  have d2 : decide (s.made < id) = true := by simp; omega
  have hb : Below w.heap.size w (w.alloc (.cells #[.int .i64 id] 3)) := (Below.refl _ _).alloc (Nat.le_refl _) _
  replace s2 := cell_on hb s2
  have x0 : (w.alloc (.cells #[.int .i64 id] 3)).cell? ⟨w.heap.size, 0, none⟩ = some (.int .i64 id) := cell_of_row _ _ _ _ _ _ (heap_alloc_new _ _)
  have Hb := Lib.hid hb
  clear h q1 q2 hb
  go_enter Try.func76, Try.ntmps76
  go_upto_region 1 with (fail)
  generalize w.alloc (.cells #[.int .i64 id] 3) = W at *
  go_quiet (fail)
  go_wp2_with fail
  go_ret
  exact ⟨rfl, below_drewN Hb.out _⟩
set_option maxRecDepth 100000 in
set_option maxHeartbeats 4000000 in
theorem cCloseOld0 {w : World} {base S : Nat} {s : Shf} (h : ShfAt w base S s) (id : Int) (h1 : 1 ≤ id) (hn : ¬ s.made < id) (hp : s.place id = none) :
    Calls Try.prog 76 #[.pointer (some ⟨S, 0, none⟩), .int .i64 id, .pointer (some ⟨S, 0, none⟩)] w fun e w' => e = .returned (.int .i64 10) ∧ Below w.heap.size w w' := by
  obtain ⟨v, q1, q2⟩ := h.ex
  obtain ⟨⟨-, -, s2, s3⟩, -⟩ := four_cells q1
  have hS := h.lt
  have d1 : decide (id < 1) = false := by simp; omega
  have d2 : decide (s.made < id) = false := by simp; omega
  have hix : ixOf (fun x => x.id == id) s.hs = -1 := ixOf_none hp
  have hb : Below w.heap.size w (w.alloc (.cells #[.int .i64 id] 3)) := (Below.refl _ _).alloc (Nat.le_refl _) _
  replace s2 := cell_on hb s2
  replace s3 := cell_on hb s3
  have x0 : (w.alloc (.cells #[.int .i64 id] 3)).cell? ⟨w.heap.size, 0, none⟩ = some (.int .i64 id) := cell_of_row _ _ _ _ _ _ (heap_alloc_new _ _)
  have Hb := Lib.hid hb
  have H2 := Lib.hid q2
  obtain ⟨a, cap, rfl⟩ := owns_slice q2
  clear h q1 q2 hb hp
  go_enter Try.func76, Try.ntmps76
  go_upto_region 1 with (fail)
  generalize w.alloc (.cells #[.int .i64 id] 3) = W at *
  go_quiet (fail)
  go_upto_region 3 with (fail)
  obtain ⟨W3, hW3⟩ : ∃ X, X = W.drewN nq := ⟨_, rfl⟩
  have HB3 : Hid (Below w.heap.size w W3) := by rw [hW3]; exact below_drewN Hb.out _
  have y0 : W3.cell? ⟨w.heap.size, 0, none⟩ = some (.int .i64 id) := by rw [hW3]; exact x0
  have y3 : W3.cell? ⟨S, 3, none⟩ = some (.slice a s.hs.length cap) := by rw [hW3]; exact s3
  rw [← hW3]
  have CI := Lib.hid (cIndexFunc (fun x => x.id == id) 83 #[.pointer (some ⟨w.heap.size, 0, none⟩)] close_eg (fun X x hX => cCloseF id w.heap.size X x (cell_on hX y0)) (owns_below H2.out HB3.out))
  rw [hix] at CI
  clear x0 s2 s3 hW3 Hb
  go_wp2_with fail
  refine CI.out.mono ?_
  rintro e w5 ⟨rfl, hb5⟩
  have HB5 : Hid (Below w.heap.size w w5) := HB3.out.trans (hb5.mono HB3.out.size)
  clear hb5 CI y0 y3 HB3
  go_wp2_with fail
  go_ret
  exact ⟨rfl, HB5.out⟩
set_option maxRecDepth 100000 in
set_option maxHeartbeats 4000000 in
theorem cClose0 {w : World} {base S : Nat} {s : Shf} (h : ShfAt w base S s) (o : Ord) (hk : o.kind = 5) (h1 : 1 ≤ o.id) (hn : ¬ s.made < o.id) (i : Nat) (hp : s.place o.id = some i) :
    Calls Try.prog 76 #[.pointer (some ⟨S, 0, none⟩), .int .i64 o.id, .pointer (some ⟨S, 0, none⟩)] w fun e w' => e = .returned (.int .i64 0) ∧ ShfAt w' base S (s.next o) ∧ Below base w w' ∧ Chc [103, 146] w w' := by
  have hi : i < s.hs.length := (List.findIdx?_eq_some_iff_getElem.1 hp).1
  have hok := Lib.hid (next_ok h.ok o)
  have hnx : s.next o = ⟨s.free + s.hs[i].count, s.used, s.made, s.hs.eraseIdx i⟩ := by
    unfold Shf.next Shf.order
    rw [if_neg (by omega), if_neg (by omega), if_neg (by omega), if_neg (by omega), if_neg (by omega), if_pos (by omega), if_neg (by omega), hp]
    simp only [hk]
    rw [at_get hi]
    simp
  rw [hnx] at hok ⊢
  have hsum := hok.out.sum
  have hfr := h.ok.free
  have hus := h.ok.used
  have hfr' := hok.out.free
  have hus' := hok.out.used
  have hnn' := hok.out.nonneg
  simp only at hfr' hus' hsum
  have Hl := Lib.hid h.lo
  obtain ⟨v, q1, q2⟩ := h.ex
  obtain ⟨⟨-, -, s2, s3⟩, -⟩ := four_cells q1
  have hS := h.lt
  have d1 : decide (o.id < 1) = false := by simp; omega
  have d2 : decide (s.made < o.id) = false := by simp; omega
  have hix : ixOf (fun x => x.id == o.id) s.hs = i := ixOf_some hp
  generalize o.id = id at *
  have hb : Below w.heap.size w (w.alloc (.cells #[.int .i64 id] 3)) := (Below.refl _ _).alloc (Nat.le_refl _) _
  replace s2 := cell_on hb s2
  replace s3 := cell_on hb s3
  have x0 : (w.alloc (.cells #[.int .i64 id] 3)).cell? ⟨w.heap.size, 0, none⟩ = some (.int .i64 id) := cell_of_row _ _ _ _ _ _ (heap_alloc_new _ _)
  have Hb := Lib.hid hb
  have H1 := Lib.hid q1
  have H2 := Lib.hid q2
  obtain ⟨gg, cap, rfl, ⟨c1, c2⟩, -, -⟩ := hd_get q2 i hi
  have hbs : base ≤ w.heap.size := by have := Hl.out; omega
  have hw0 : IntKind.i64.wrap (s.free + s.hs[i].count) = s.free + s.hs[i].count := IntWalk.i64_in _ (by simp only [Shf.held] at hnn'; simp only [Shf.held] at hsum; omega)
  have hiz : (i : Int) < (s.hs.length : Int) := by omega
  have hix0 : decide ((i : Int) < 0) = false := by simp
  have hw1 : IntKind.i64.wrap ((i : Int) + 1) = (i : Int) + 1 := IntWalk.i64_in _ (by have := h.ok.few; omega)
  unfold maxLen at c2
  clear h q1 q2 hb hp hnx hk hsum hnn' hfr' hus'
  go_enter Try.func76, Try.ntmps76
  go_upto_region 1 with (fail)
  generalize w.alloc (.cells #[.int .i64 id] 3) = W at *
  go_quiet (fail)
  go_upto_region 3 with (fail)
  obtain ⟨W3, hW3⟩ : ∃ X, X = W.drewN nq := ⟨_, rfl⟩
  have HB3 : Hid (Below w.heap.size w W3) := by rw [hW3]; exact below_drewN Hb.out _
  have y0 : W3.cell? ⟨w.heap.size, 0, none⟩ = some (.int .i64 id) := by rw [hW3]; exact x0
  have y3 : W3.cell? ⟨S, 3, none⟩ = some (.slice (some ⟨gg, 0, none⟩) s.hs.length cap) := by rw [hW3]; exact s3
  rw [← hW3]
  have CI := Lib.hid (cIndexFunc (fun x => x.id == id) 83 #[.pointer (some ⟨w.heap.size, 0, none⟩)] close_eg (fun X x hX => cCloseF id w.heap.size X x (cell_on hX y0)) (owns_below H2.out HB3.out))
  rw [hix] at CI
  clear x0 s2 s3 hW3 Hb
  go_upto_region 4 with (refine CI.out.mono ?_; rintro e w5 ⟨rfl, hb5⟩)
  have HB5 : Hid (Below w.heap.size w w5) := HB3.out.trans (hb5.mono HB3.out.size)
  have hS5 : w5.heap[S]? = some (.cells #[.int .i64 s.free, .int .i64 s.used, .int .i64 s.made, .slice (some ⟨gg, 0, none⟩) s.hs.length cap] 103 (0, 0)) := by rw [HB5.out.block S hS]; exact H1.out
  have HS5 := Lib.hid hS5
  obtain ⟨⟨p0, p1, -, p3⟩, hfz⟩ := four_cells hS5
  have HO5 := Lib.hid (owns_below H2.out HB5.out)
  obtain ⟨g', cap', he, -, ⟨-, z1, -⟩, -⟩ := hd_get HO5.out i hi
  simp only [Value.slice.injEq, Option.some.injEq, Addr.mk.injEq, and_true, true_and] at he
  obtain ⟨rfl, rfl⟩ := he
  have hSg : S ≠ gg := by
    intro hh
    obtain ⟨_, hh'⟩ := HO5.out
    rcases hh' with ⟨e, _⟩ | ⟨g2, cap2, cur, he, _, hcur, _⟩
    · cases e
    · simp only [Value.slice.injEq, Option.some.injEq, Addr.mk.injEq, and_true, true_and] at he
      obtain ⟨rfl, rfl⟩ := he
      rw [← hh, hS5] at hcur
      simp at hcur
  have f0 := hfz 0
  have hT := Lib.hid (shelf_set hS5 (.int .i64 (s.free + s.hs[i].count))).1
  have hcT := Lib.hid (Chc.setCell (T := [103]) (p := ⟨S, 0, none⟩) hS5 (by simp) (.int .i64 (s.free + s.hs[i].count)))
  clear hb5 CI y0 y3 HB3 hfz hS5
  generalize hcn : s.hs[i].count = cn at *
  have Hcn := Lib.hid hcn
  clear hcn
  go_upto_region 6 with (fail)
  go_region
  go_upto_region 7 with (fail)
  obtain ⟨W6, hW6⟩ : ∃ X, X = (w5.setCell ⟨S, 0, none⟩ (.int .i64 (s.free + cn))).drew := ⟨_, rfl⟩
  have hS6 : W6.heap[S]? = some (.cells #[.int .i64 (s.free + cn), .int .i64 (s.used), .int .i64 s.made, .slice (some ⟨gg, 0, none⟩) s.hs.length cap] 103 (0, 0)) := by rw [hW6]; exact hT.out
  have hc6 : Chc [103] w5 W6 := by rw [hW6]; exact hcT.out.drew
  have hb6 : Below base w W6 := by rw [hW6]; exact ((HB5.out.mono hbs).setCell Hl.out _).drew
  rw [← hW6]
  have hO6 := owns_chc HO5.out hc6 (by decide)
  have HS6 := Lib.hid hS6
  have HC6 : Hid (Chc [103, 146] w W6) := (Chc.of_below HB5.out).trans (hc6.mono (by simp))
  have HB6 := Lib.hid hb6
  have CD := Lib.hid (cDelete i hi hO6)
  obtain ⟨⟨-, -, -, r3⟩, -⟩ := four_cells hS6
  have hSW := World.block_lt_of_cell? W6 _ r3
  clear hO6 hS6 hc6 hb6 hW6 hT hcT HS5 HO5 HB5 p0 p1 p3 z1 f0
  go_wp2_with fail
  refine CD.out.mono ?_
  rintro e w7 ⟨v7, rfl, hown7, hb7, hc7⟩
  obtain ⟨a7, cap7, rfl⟩ := owns_slice hown7
  obtain ⟨⟨g3, gf⟩, hfin⟩ := close_step (s' := ⟨s.free + cn, s.used, s.made, s.hs.eraseIdx i⟩) Hl.out (HB6.out.trans hb7) (HC6.out.trans (hc7.mono (by simp))) (hc7.block _ _ _ _ HS6.out (by decide)) hown7 hok.out
  have Hfin := Lib.hid hfin
  clear hown7 hb7 hc7 hfin CD HS6 HC6 HB6 r3
  go_wp2_with fail
  go_ret
  rw [Hcn.out]
  exact ⟨rfl, Hfin.out⟩
end Go.Proofs.Ytgmichaconnhaaa
