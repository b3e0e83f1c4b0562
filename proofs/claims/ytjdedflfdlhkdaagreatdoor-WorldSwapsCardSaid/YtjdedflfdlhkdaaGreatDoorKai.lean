/- Texts that the claim imports, laid together: WHoldQ WHoldR WHoldS WHoldT WHoldU WHoldV. No statement of their own. -/
import Derived.BigQuiet
import Derived.Test.YtjdedflfdlhkdaaGreatDoorKah
namespace Go.Proofs.YtjdedflfdlhkdaaGreatDoor
open Go.ChangeShapes Go.WideShapes Go.ChangeAt Go.RowKit
set_option linter.unusedVariables false
set_option linter.unusedSimpArgs false

set_option maxRecDepth 100000 in
set_option maxHeartbeats 2000000 in
theorem cShiftLess0 {w : World} {S p : Nat} {f u c : Int} {m v : Value} (h : Slf w S p (.int .i64 f) (.int .i64 u) m v) (hc : f < c) :
    Calls Tryz.prog 91 #[.pointer (some ⟨S, p, none⟩), .pointer (some ⟨S, p, none⟩), .pointer (some ⟨S, p + 1, none⟩), .int .i64 c] w fun e w' => e = .returned (.int .i64 9) ∧ w = w' := by
  obtain ⟨⟨s0, s1, -, -⟩, -⟩ := slf_cells h
  clear h
  go_enter Tryz.func91, Tryz.ntmps91
  go_wp2_with fail
  go_ret
  exact ⟨rfl, rfl⟩
set_option maxRecDepth 100000 in
set_option maxHeartbeats 2000000 in
theorem cShift0 {w : World} {S p : Nat} {f u c : Int} {m v : Value} (h : Slf w S p (.int .i64 f) (.int .i64 u) m v) (hc : ¬ f < c) (hf : 0 ≤ f ∧ f ≤ 1048576) (hu : 0 ≤ u ∧ u ≤ 1048576) (h0 : 1 ≤ c) :
    Calls Tryz.prog 91 #[.pointer (some ⟨S, p, none⟩), .pointer (some ⟨S, p, none⟩), .pointer (some ⟨S, p + 1, none⟩), .int .i64 c] w fun e w' => e = .returned (.int .i64 0) ∧ w' = (w.setCell ⟨S, p, none⟩ (.int .i64 (f - c))).setCell ⟨S, p + 1, none⟩ (.int .i64 (u + c)) := by
  obtain ⟨⟨s0, s1, -, -⟩, hfz⟩ := slf_cells h
  have f0 := hfz p
  have f1 := hfz (p + 1)
  have w0 : IntKind.i64.wrap (f - c) = f - c := IntWalk.i64_in _ (by omega)
  have w1 : IntKind.i64.wrap (u + c) = u + c := IntWalk.i64_in _ (by omega)
  clear h hfz
  go_enter Tryz.func91, Tryz.ntmps91
  go_wp2_with fail
  go_ret
  exact ⟨rfl, rfl⟩
set_option maxRecDepth 100000 in
set_option maxHeartbeats 2000000 in
theorem cShiftLess1 {w : World} {S p : Nat} {f u c : Int} {m v : Value} (h : Slf w S p (.int .i64 f) (.int .i64 u) m v) (hc : u < c) :
    Calls Tryz.prog 91 #[.pointer (some ⟨S, p, none⟩), .pointer (some ⟨S, p + 1, none⟩), .pointer (some ⟨S, p, none⟩), .int .i64 c] w fun e w' => e = .returned (.int .i64 9) ∧ w = w' := by
  obtain ⟨⟨s0, s1, -, -⟩, -⟩ := slf_cells h
  clear h
  go_enter Tryz.func91, Tryz.ntmps91
  go_wp2_with fail
  go_ret
  exact ⟨rfl, rfl⟩
set_option maxRecDepth 100000 in
set_option maxHeartbeats 2000000 in
theorem cShift1 {w : World} {S p : Nat} {f u c : Int} {m v : Value} (h : Slf w S p (.int .i64 f) (.int .i64 u) m v) (hc : ¬ u < c) (hf : 0 ≤ f ∧ f ≤ 1048576) (hu : 0 ≤ u ∧ u ≤ 1048576) (h0 : 1 ≤ c) :
    Calls Tryz.prog 91 #[.pointer (some ⟨S, p, none⟩), .pointer (some ⟨S, p + 1, none⟩), .pointer (some ⟨S, p, none⟩), .int .i64 c] w fun e w' => e = .returned (.int .i64 0) ∧ w' = (w.setCell ⟨S, p + 1, none⟩ (.int .i64 (u - c))).setCell ⟨S, p, none⟩ (.int .i64 (f + c)) := by
  obtain ⟨⟨s0, s1, -, -⟩, hfz⟩ := slf_cells h
  have f0 := hfz p
  have f1 := hfz (p + 1)
  have w0 : IntKind.i64.wrap (u - c) = u - c := IntWalk.i64_in _ (by omega)
  have w1 : IntKind.i64.wrap (f + c) = f + c := IntWalk.i64_in _ (by omega)
  clear h hfz
  go_enter Tryz.func91, Tryz.ntmps91
  go_wp2_with fail
  go_ret
  exact ⟨rfl, rfl⟩
def Ord.val (o : Ord) : Value := .agg #[.int .i64 o.kind, .int .i64 o.count, .int .i64 o.life, .int .i64 o.id]
def Ord.Counted (o : Ord) : Prop := 1 ≤ o.count ∧ o.count ≤ 1048576
def Ord.Lives (o : Ord) : Prop := 1 ≤ o.life ∧ o.life ≤ 20
theorem order_box (w : World) (o : Ord) : Below w.heap.size w (w.alloc (.cells #[.int .i64 o.kind, .int .i64 o.count, .int .i64 o.life, .int .i64 o.id] 135)) := (Below.refl _ _).alloc (Nat.le_refl _) _
set_option maxRecDepth 100000 in
set_option maxHeartbeats 2000000 in
theorem cHoldFull {w : World} {F : Nat → Prop} {S p : Nat} {s : Shf} (h : ShfAt w F S p s) (o : Ord) (hl : o.Lives) (hfull : s.hs.length = 4) :
    Calls Tryz.prog 92 #[.pointer (some ⟨S, p, none⟩), o.val] w fun e w' => e = .returned (.tuple #[.int .i64 0, .int .i64 8]) ∧ Below w.heap.size w w' := by
  obtain ⟨v, h1, h2, -⟩ := h.ex
  obtain ⟨a, cap, rfl⟩ := owns_slice h2
  obtain ⟨⟨s0, s1, s2, s3⟩, -⟩ := slf_cells h1
  have hS := h.lt
  obtain ⟨k, c, l, id⟩ := o
  obtain ⟨l2, l1⟩ := hl
  simp only at l1 l2
  unfold Ord.val
  rw [hfull] at s3
  clear h h1 h2 
  go_enter Tryz.func92, Tryz.ntmps92
  go_wp2_with fail
  go_ret2
  exact ⟨rfl, (by repeat (first | exact Below.refl _ _ | refine Below.drew ?_ | refine Below.alloc ?_ (by first | (simp; done) | (simp; omega)) _ | refine Below.setCell ?_ (by first | (simp; done) | (simp; omega)) _))⟩
set_option maxRecDepth 100000 in
set_option maxHeartbeats 2000000 in
theorem cHoldLess {w : World} {F : Nat → Prop} {S p : Nat} {s : Shf} (h : ShfAt w F S p s) (o : Ord) (hl : o.Lives) (hfull : ¬ s.hs.length = 4) (hless : s.free < o.count) :
    Calls Tryz.prog 92 #[.pointer (some ⟨S, p, none⟩), o.val] w fun e w' => e = .returned (.tuple #[.int .i64 0, .int .i64 9]) ∧ Below w.heap.size w w' := by
  obtain ⟨v, h1, h2, -⟩ := h.ex
  obtain ⟨a, cap, rfl⟩ := owns_slice h2
  obtain ⟨⟨s0, s1, s2, s3⟩, -⟩ := slf_cells h1
  have hS := h.lt
  obtain ⟨k, c, l, id⟩ := o
  obtain ⟨l2, l1⟩ := hl
  simp only at l1 l2 hless
  unfold Ord.val
  have hne : ((s.hs.length : Int) == 4) = false := by rw [beq_eq_false_iff_ne]; omega
  obtain ⟨⟨x0, x1, x2, x3⟩, -⟩ := four_cells (heap_alloc_new w (.cells #[.int .i64 k, .int .i64 c, .int .i64 l, .int .i64 id] 135))
  have hb : Below w.heap.size w (w.alloc (.cells #[.int .i64 k, .int .i64 c, .int .i64 l, .int .i64 id] 135)) := (Below.refl _ _).alloc (Nat.le_refl _) _
  replace s0 := cell_on hb s0
  replace s3 := cell_on hb s3
  have Hb := Lib.hid hb
  clear h h1 h2  hb s1 s2
  go_enter Tryz.func92, Tryz.ntmps92
  go_upto_region 1 with (fail)
  generalize w.alloc (.cells #[.int .i64 k, .int .i64 c, .int .i64 l, .int .i64 id] 135) = W at *
  go_upto_region 5 with (fail)
  go_quiet (fail)
  go_wp2_with fail
  go_ret2
  exact ⟨rfl, below_drewN Hb.out _⟩
set_option maxRecDepth 100000 in
set_option maxHeartbeats 2000000 in
theorem cHoldLife {w : World} {S p : Nat} (o : Ord) (hl : ¬ o.Lives) :
    Calls Tryz.prog 92 #[.pointer (some ⟨S, p, none⟩), o.val] w fun e w' => e = .returned (.tuple #[.int .i64 0, .int .i64 2]) ∧ Below w.heap.size w w' := by
  obtain ⟨k, c, l, id⟩ := o
  unfold Ord.Lives at hl
  simp only at hl
  unfold Ord.val
  obtain ⟨⟨x0, x1, x2, x3⟩, -⟩ := four_cells (heap_alloc_new w (.cells #[.int .i64 k, .int .i64 c, .int .i64 l, .int .i64 id] 135))
  have hb : Below w.heap.size w (w.alloc (.cells #[.int .i64 k, .int .i64 c, .int .i64 l, .int .i64 id] 135)) := (Below.refl _ _).alloc (Nat.le_refl _) _
  have Hb := Lib.hid hb
  by_cases h0 : l < 1
  · clear hl hb
    go_enter Tryz.func92, Tryz.ntmps92
    go_wp2_with fail
    go_ret2
    exact ⟨rfl, Hb.out⟩
  · have h1 : 20 < l := by omega
    clear hl hb
    go_enter Tryz.func92, Tryz.ntmps92
    go_wp2_with fail
    go_ret2
    exact ⟨rfl, Hb.out⟩
end Go.Proofs.YtjdedflfdlhkdaaGreatDoor

namespace Go.Proofs.YtjdedflfdlhkdaaGreatDoor
open Go.ChangeShapes Go.WideShapes Go.ChangeAt Go.RowKit
set_option linter.unusedVariables false
set_option linter.unusedSimpArgs false

theorem hold_order {s : Shf} {o : Ord} (hc : o.Counted) (hv : o.Lives) (hk : o.kind = 3) (hfull : ¬ s.hs.length = 4) (hless : ¬ s.free < o.count) :
    s.order o = (s.made + 1, 0, ⟨s.free - o.count, s.used, s.made + 1, s.hs ++ [⟨s.made + 1, o.count, o.life⟩]⟩) := by
  unfold Ord.Counted at hc
  unfold Ord.Lives at hv
  unfold Shf.order
  rw [if_neg (by omega), if_neg (by omega), if_neg (by omega), if_neg (by omega), if_pos hk, if_neg (by omega), if_neg hfull, if_neg hless]
theorem hold_step {F : Nat → Prop} {w W4 w6 : World} {S p : Nat} {s s' : Shf} {v v6 : Value} {x : Hd} (hl : F S) (hb4 : ShW F S p w W4) (hc4 : Chc [106, 126] w W4)
    (hS4 : Slf W4 S p (.int .i64 s'.free) (.int .i64 s'.used) (.int .i64 s'.made) v) (hown4 : W4.ownsRow 0 126 3 v s.hs.length (hcs s.hs)) (hF : ∀ g, v.ownBlock = some g → F g) (HN : ∀ b, w.heap.size ≤ b → F b)
    (h6 : w6.ownsRow 0 126 3 v6 (s.hs.length + 1) (hcs s.hs ++ x.cells)) (hat : AtOr W4 v v6) (hg : W4.grownBy w6 v.ownBlock) (hs' : s'.hs = s.hs ++ [x]) (hok : s'.Ok) :
    (w6.cell? ⟨S, p + 3, none⟩ = some v ∧ w6.frozen? ⟨S, p + 3, none⟩ = false) ∧ ShfAt (w6.setCell ⟨S, p + 3, none⟩ v6) F S p s' ∧ ShW F S p w (w6.setCell ⟨S, p + 3, none⟩ v6) ∧ Chc [106, 126] w (w6.setCell ⟨S, p + 3, none⟩ v6) ∧ (w6.setCell ⟨S, p + 3, none⟩ v6).cell? ⟨S, p + 2, none⟩ = some (.int .i64 s'.made) := by
  have hc6 := Chc.grown (T := [126]) hown4 hg (by simp)
  have hS6 := hS4.keep hc6 (by decide)
  obtain ⟨⟨-, -, -, c3⟩, hfz⟩ := slf_cells hS6
  have hS7 := (slf_set hS6 v6).2.2.2
  have hc7 := slf_chc hS6 (p + 3) v6
  obtain ⟨⟨-, -, d2, -⟩, -⟩ := slf_cells hS7
  have e : hcs s.hs ++ x.cells = hcs s'.hs := by rw [hs', hcs_append]; simp [hcs]
  have e2 : s.hs.length + 1 = s'.hs.length := by rw [hs']; simp
  rw [e, e2] at h6
  have hw6 : ShW F S p W4 w6 := ShW.row (G := fun b => v.ownBlock = some b) (e := 126) (Wrote.grown hg fun g h => h) hF (fun b hb => (owns_block_of hown4 hb).2.2) (by decide)
  exact ⟨⟨c3, hfz (p + 3)⟩, ⟨⟨v6, hS7, owns_chc h6 hc7 (by decide), fun g h => (hat g h).elim (hF g) fun hh => HN g (Nat.le_trans hb4.size hh)⟩, hok, hl⟩, (hb4.trans hw6).setCell hl (p + 3) (by omega) _, (hc4.trans (hc6.mono (by simp))).trans (hc7.mono (by simp)), d2⟩
set_option maxRecDepth 100000 in
set_option maxHeartbeats 4000000 in
theorem cHold {w : World} {F : Nat → Prop} {S p : Nat} {s : Shf} (h : ShfAt w F S p s) (o : Ord) (hC : o.Counted) (hV : o.Lives) (hk : o.kind = 3) (hfull : ¬ s.hs.length = 4) (hless : ¬ s.free < o.count) (hm : s.made ≤ 1000) (HN : ∀ b, w.heap.size ≤ b → F b) :
    Calls Tryz.prog 92 #[.pointer (some ⟨S, p, none⟩), o.val] w fun e w' => e = .returned (.tuple #[.int .i64 (s.made + 1), .int .i64 0]) ∧ ShfAt w' F S p (s.next o) ∧ ShW F S p w w' ∧ Chc [106, 126] w w' := by
  have hok := Lib.hid (next_ok h.ok o)
  have hnx : s.next o = ⟨s.free - o.count, s.used, s.made + 1, s.hs ++ [⟨s.made + 1, o.count, o.life⟩]⟩ := by unfold Shf.next; rw [hold_order hC hV hk hfull hless]
  rw [hnx] at hok ⊢
  have Hl := Lib.hid h.lo
  have hfr := h.ok.free
  have hsum := h.ok.sum
  have hus := h.ok.used
  have hnn := h.ok.nonneg
  have hm0 := h.ok.made
  have hfew := h.ok.few
  obtain ⟨v, h1, h2, h3⟩ := h.ex
  obtain ⟨a, cap, rfl⟩ := owns_slice h2
  have hS := h.lt
  obtain ⟨k, c, l, id⟩ := o
  obtain ⟨l2, l1⟩ := hV
  obtain ⟨k2, k1⟩ := hC
  simp only at l1 l2 hless k1 k2
  unfold Ord.val
  simp only at hok ⊢
  have hne : ((s.hs.length : Int) == 4) = false := by rw [beq_eq_false_iff_ne]; omega
  have hlt : decide (s.free < c) = false := by simp; omega
  obtain ⟨⟨x0, x1, x2, x3⟩, -⟩ := four_cells (heap_alloc_new w (.cells #[.int .i64 k, .int .i64 c, .int .i64 l, .int .i64 id] 135))
  have hb : Below w.heap.size w (w.alloc (.cells #[.int .i64 k, .int .i64 c, .int .i64 l, .int .i64 id] 135)) := (Below.refl _ _).alloc (Nat.le_refl _) _
  have hnew := heap_alloc_new w (.cells #[.int .i64 k, .int .i64 c, .int .i64 l, .int .i64 id] 135)
  have Hb := Lib.hid hb
  have H1 := Lib.hid h1
  have H2 := Lib.hid h2
  have H3 := Lib.hid h3
  have HNN := Lib.hid HN
  have hw0 : IntKind.i64.wrap (s.free - c) = s.free - c := IntWalk.i64_in _ (by omega)
  have hw1 : IntKind.i64.wrap (s.made + 1) = s.made + 1 := IntWalk.i64_in _ (by omega)
  obtain ⟨⟨s0, s1, s2, s3⟩, hfz⟩ := slf_cells (show Slf (w.alloc (.cells #[.int .i64 k, .int .i64 c, .int .i64 l, .int .i64 id] 135)) S p (.int .i64 s.free) (.int .i64 s.used) (.int .i64 s.made) (.slice a s.hs.length cap) from h1.on hb)
  clear h h1 h2 h3 HN hk hb hnx s1
  go_enter Tryz.func92, Tryz.ntmps92
  go_upto_region 1 with (fail)
  generalize w.alloc (.cells #[.int .i64 k, .int .i64 c, .int .i64 l, .int .i64 id] 135) = W at *
  have HN := Lib.hid hnew
  clear hnew
  go_upto_region 5 with (fail)
  go_quiet (fail)
  go_upto_region 7 with (fail)
  obtain ⟨W2, hW2⟩ : ∃ X, X = W.drewN nq := ⟨_, rfl⟩
  have HB2 : Hid (Below w.heap.size w W2) := by rw [hW2]; exact below_drewN Hb.out _
  have q0 : W2.cell? ⟨S, p, none⟩ = some (.int .i64 s.free) := by rw [hW2]; exact s0
  have q2 : W2.cell? ⟨S, p + 2, none⟩ = some (.int .i64 s.made) := by rw [hW2]; exact s2
  have q3 : W2.cell? ⟨S, p + 3, none⟩ = some (.slice a s.hs.length cap) := by rw [hW2]; exact s3
  have y1 : W2.cell? ⟨w.heap.size, 1, none⟩ = some (.int .i64 c) := by rw [hW2]; exact x1
  have y2 : W2.cell? ⟨w.heap.size, 2, none⟩ = some (.int .i64 l) := by rw [hW2]; exact x2
  have f0 : W2.frozen? ⟨S, p, none⟩ = false := by rw [hW2]; exact hfz p
  have f2 : W2.frozen? ⟨S, p + 2, none⟩ = false := by rw [hW2]; exact hfz (p + 2)
  have HN2 : Hid (W2.heap[w.heap.size]? = some (.cells #[.int .i64 k, .int .i64 c, .int .i64 l, .int .i64 id] 135 (0, 0))) := by rw [hW2]; exact HN.out
  rw [← hW2]
  clear s0 s2 s3 x0 x1 x2 x3 hW2 hfz HN
  go_region
  go_upto_region 9 with (fail)
  obtain ⟨W4, hW4⟩ : ∃ X, X = ((W2.setCell ⟨S, p, none⟩ (.int .i64 (s.free - c))).setCell ⟨S, p + 2, none⟩ (.int .i64 (s.made + 1))).drew := ⟨_, rfl⟩
  have hS2 : Slf W2 S p (.int .i64 s.free) (.int .i64 s.used) (.int .i64 s.made) (.slice a s.hs.length cap) := H1.out.on HB2.out
  have hS3 := (slf_set hS2 (.int .i64 (s.free - c))).1
  have hS4 : Slf (((W2.setCell ⟨S, p, none⟩ (.int .i64 (s.free - c))).setCell ⟨S, p + 2, none⟩ (.int .i64 (s.made + 1))).drew) S p (.int .i64 (s.free - c)) (.int .i64 s.used) (.int .i64 (s.made + 1)) (.slice a s.hs.length cap) := (slf_set hS3 (.int .i64 (s.made + 1))).2.2.1
  have hc3 : Chc [106] W2 (W2.setCell ⟨S, p, none⟩ (.int .i64 (s.free - c))) := slf_chc hS2 p _
  have hc4 := (hc3.trans (slf_chc hS3 (p + 2) (.int .i64 (s.made + 1)))).drew
  have hb4 : ShW F S p w (((W2.setCell ⟨S, p, none⟩ (.int .i64 (s.free - c))).setCell ⟨S, p + 2, none⟩ (.int .i64 (s.made + 1))).drew) := (((ShW.of_below HB2.out).setCell Hl.out p (by omega) _).setCell Hl.out (p + 2) (by omega) _).drew
  have ho4 := owns_chc (owns_below H2.out HB2.out) hc4 (by decide)
  have hn4 := hc4.block _ _ _ _ HN2.out (by decide)
  rw [← hW4] at hS4 hc4 hb4 ho4 hn4
  rw [← hW4]
  obtain ⟨⟨-, z1, z2, -⟩, -⟩ := four_cells hn4
  obtain ⟨⟨-, -, r2, r3⟩, -⟩ := slf_cells hS4
  have HS4 := Lib.hid hS4
  have HO4 := Lib.hid ho4
  have HB4 := Lib.hid hb4
  have HC4 : Hid (Chc [106, 126] w W4) := (Chc.of_below HB2.out).trans (hc4.mono (by simp))
  have hn4' : s.hs.length + 1 ≤ 4 := by omega
  have hSW := World.block_lt_of_cell? W4 _ r3
  have hNW := World.block_lt_of_cell? W4 _ z1
  clear hS2 hS3 hS4 hc3 hc4 hb4 ho4 hn4 q0 q2 q3 y1 y2 f0 f2 hW4 HB2 HN2 hw0 hw1
  go_region_law (refine step_appF (w0 := W4) (wanted_of_none (by rfl)) 104 126 3 24 _ elHold Tryz.underlying104 (.slice a s.hs.length cap) s.hs.length (hcs s.hs) HO4.out (by repeat (first | exact Below.refl _ _ | refine Below.drew ?_ | refine Below.alloc ?_ (by first | (simp; done) | (simp; omega)) _ | refine Below.setCell ?_ (by first | (simp; done) | (simp; omega)) _)) _ 1 [.int .i64 (s.made + 1), .int .i64 c, .int .i64 l] (has_block (wp := W4) (by first | exact heap_alloc_new _ _ | (simp only [heap_drew, heap_drewN]; exact heap_alloc_new _ _)) (by rfl) (by rfl) (by decide)) _ _ (by rfl) (by rfl) (by rfl) (by simp [Value.oneCell']) (by omega) (by unfold maxLen; omega) ?_; intro v6 w6 hown6 hat6 hgrow6; obtain ⟨a6, c6, rfl⟩ := owns_slice hown6; obtain ⟨⟨g3, gf⟩, hfin⟩ := hold_step (x := ⟨s.made + 1, c, l⟩) (s := s) (s' := ⟨s.free - c, s.used, s.made + 1, s.hs ++ [⟨s.made + 1, c, l⟩]⟩) Hl.out HB4.out HC4.out HS4.out HO4.out H3.out HNN.out hown6 hat6 hgrow6 rfl hok.out)
  all_goals
    have Hfin := Lib.hid hfin
    have t2 := hfin.2.2.2
    clear hown6 hat6 hgrow6 hfin g3 gf
    go_wp2_with fail
    go_ret2
    exact ⟨rfl, Hfin.out.1, Hfin.out.2.1, Hfin.out.2.2.1⟩
end Go.Proofs.YtjdedflfdlhkdaaGreatDoor

namespace Go.Proofs.YtjdedflfdlhkdaaGreatDoor
open Go.ChangeShapes Go.WideShapes Go.ChangeAt Go.RowKit
set_option linter.unusedVariables false
set_option linter.unusedSimpArgs false

theorem hold_box {w : World} (x : Hd) : Below w.heap.size w (w.alloc (.cells #[.int .i64 x.id, .int .i64 x.count, .int .i64 x.life] 126)) := (Below.refl _ _).alloc (Nat.le_refl _) _
set_option maxRecDepth 100000 in
set_option maxHeartbeats 2000000 in
theorem cCloseF (id : Int) (B : Nat) (X : World) (x : Hd) (hB : X.cell? ⟨B, 0, none⟩ = some (.int .i64 id)) :
    Calls Tryz.prog 112 #[.agg #[.int .i64 x.id, .int .i64 x.count, .int .i64 x.life], .pointer (some ⟨B, 0, none⟩)] X fun e w' => e = .returned (.bool (x.id == id)) ∧ Below X.heap.size X w' := by
  have hlt := World.block_lt_of_cell? X _ hB
  obtain ⟨x0, x1, x2⟩ := three_cells (heap_alloc_new X (.cells #[.int .i64 x.id, .int .i64 x.count, .int .i64 x.life] 126))
  go_enter Tryz.func112, Tryz.ntmps112
  go_wp2_with fail
  go_ret
  exact ⟨rfl, hold_box x⟩
/-- Behind the deletion. -/
theorem close_step {F : Nat → Prop} {w w6 w7 : World} {S p : Nat} {s' : Shf} {v v7 : Value} {n : Nat} {xs : List Value} (hl : F S) (hb6 : ShW F S p w w6) (hc6 : Chc [106, 126] w w6)
    (hS6 : Slf w6 S p (.int .i64 s'.free) (.int .i64 s'.used) (.int .i64 s'.made) v) (ho6 : w6.ownsRow 0 126 3 v n xs) (hF : ∀ g, v.ownBlock = some g → F g)
    (h7 : w7.ownsRow 0 126 3 v7 s'.hs.length (hcs s'.hs)) (hat : ∀ b, v7.ownBlock = some b → v.ownBlock = some b) (hw : Wrote (fun b => v.ownBlock = some b) w6 w7) (hc7 : Chc [126] w6 w7) (hok : s'.Ok) :
    (w7.cell? ⟨S, p + 3, none⟩ = some v ∧ w7.frozen? ⟨S, p + 3, none⟩ = false) ∧ ShfAt (w7.setCell ⟨S, p + 3, none⟩ v7) F S p s' ∧ ShW F S p w (w7.setCell ⟨S, p + 3, none⟩ v7) ∧ Chc [106, 126] w (w7.setCell ⟨S, p + 3, none⟩ v7) := by
  have hS7 := hS6.keep hc7 (by decide)
  obtain ⟨⟨-, -, -, c3⟩, hfz⟩ := slf_cells hS7
  have hS8 := (slf_set hS7 v7).2.2.2
  have hc8 := slf_chc hS7 (p + 3) v7
  have hw7 : ShW F S p w6 w7 := ShW.row (G := fun b => v.ownBlock = some b) (e := 126) hw hF (fun b hb => (owns_block_of ho6 hb).2.2) (by decide)
  exact ⟨⟨c3, hfz (p + 3)⟩, ⟨⟨v7, hS8, owns_chc h7 hc8 (by decide), fun g h => hF g (hat g h)⟩, hok, hl⟩, (hb6.trans hw7).setCell hl (p + 3) (by omega) _, (hc6.trans (hc7.mono (by simp))).trans (hc8.mono (by simp))⟩
theorem at_get {s : Shf} {i : Nat} (hi : i < s.hs.length) : s.at' i = s.hs[i].count := by
  unfold Shf.at'
  rw [List.getD_eq_getElem?_getD, List.getElem?_map, List.getElem?_eq_getElem hi]; rfl
theorem close_eg : ∀ args w, (callFunc 112 args).run Tryz.prog w = .ok (.enter 112 args) w := enters_of Tryz.func112 (by kernel_rfl) rfl
set_option maxRecDepth 100000 in
set_option maxHeartbeats 2000000 in
theorem cCloseNone1 {w : World} {F : Nat → Prop} {S p : Nat} {s : Shf} (h : ShfAt w F S p s) (id : Int) (h1 : 1 ≤ id) (hn : s.made < id) :
    Calls Tryz.prog 93 #[.pointer (some ⟨S, p, none⟩), .int .i64 id, .pointer (some ⟨S, p + 1, none⟩)] w fun e w' => e = .returned (.int .i64 6) ∧ Below w.heap.size w w' := by
  obtain ⟨v, q1, q2, q3⟩ := h.ex
  obtain ⟨⟨-, -, s2, -⟩, -⟩ := slf_cells q1
  have hS := h.lt
  have d1 : decide (id < 1) = false := by simp; omega
  have d2 : decide (s.made < id) = true := by simp; omega
  have hb : Below w.heap.size w (w.alloc (.cells #[.int .i64 id] 3)) := (Below.refl _ _).alloc (Nat.le_refl _) _
  replace s2 := cell_on hb s2
  have x0 : (w.alloc (.cells #[.int .i64 id] 3)).cell? ⟨w.heap.size, 0, none⟩ = some (.int .i64 id) := cell_of_row _ _ _ _ _ _ (heap_alloc_new _ _)
  have Hb := Lib.hid hb
  clear h q1 q2 q3 hb
  go_enter Tryz.func93, Tryz.ntmps93
  go_upto_region 1 with (fail)
  generalize w.alloc (.cells #[.int .i64 id] 3) = W at *
  go_quiet (fail)
  go_wp2_with fail
  go_ret
  exact ⟨rfl, below_drewN Hb.out _⟩
set_option maxRecDepth 100000 in
set_option maxHeartbeats 4000000 in
theorem cCloseOld1 {w : World} {F : Nat → Prop} {S p : Nat} {s : Shf} (h : ShfAt w F S p s) (id : Int) (h1 : 1 ≤ id) (hn : ¬ s.made < id) (hp : s.place id = none) :
    Calls Tryz.prog 93 #[.pointer (some ⟨S, p, none⟩), .int .i64 id, .pointer (some ⟨S, p + 1, none⟩)] w fun e w' => e = .returned (.int .i64 10) ∧ Below w.heap.size w w' := by
  obtain ⟨v, q1, q2, q3⟩ := h.ex
  obtain ⟨⟨-, -, s2, s3⟩, -⟩ := slf_cells q1
  have hS := h.lt
  have d1 : decide (id < 1) = false := by simp; omega
  have d2 : decide (s.made < id) = false := by simp; omega
  have hix : ixOf (fun x => x.id == id) s.hs = -1 := ixOf_none hp
  have hb : Below w.heap.size w (w.alloc (.cells #[.int .i64 id] 3)) := (Below.refl _ _).alloc (Nat.le_refl _) _
  replace s2 := cell_on hb s2
  replace s3 := cell_on hb s3
  have x0 : (w.alloc (.cells #[.int .i64 id] 3)).cell? ⟨w.heap.size, 0, none⟩ = some (.int .i64 id) := cell_of_row _ _ _ _ _ _ (heap_alloc_new _ _)
  have Hb := Lib.hid hb
  have H2 := Lib.hid q2
  obtain ⟨a, cap, rfl⟩ := owns_slice q2
  clear h q1 q2 q3 hb hp
  go_enter Tryz.func93, Tryz.ntmps93
  go_upto_region 1 with (fail)
  generalize w.alloc (.cells #[.int .i64 id] 3) = W at *
  go_quiet (fail)
  go_upto_region 3 with (fail)
  obtain ⟨W3, hW3⟩ : ∃ X, X = W.drewN nq := ⟨_, rfl⟩
  have HB3 : Hid (Below w.heap.size w W3) := by rw [hW3]; exact below_drewN Hb.out _
  have y0 : W3.cell? ⟨w.heap.size, 0, none⟩ = some (.int .i64 id) := by rw [hW3]; exact x0
  have y3 : W3.cell? ⟨S, p + 3, none⟩ = some (.slice a s.hs.length cap) := by rw [hW3]; exact s3
  rw [← hW3]
  have CI := Lib.hid (cIndexFunc (fun x => x.id == id) 112 #[.pointer (some ⟨w.heap.size, 0, none⟩)] close_eg (fun X x hX => cCloseF id w.heap.size X x (cell_on hX y0)) (owns_below H2.out HB3.out))
  rw [hix] at CI
  clear x0 s2 s3 hW3 Hb
  go_wp2_with fail
  refine CI.out.mono ?_
  rintro e w5 ⟨rfl, hb5⟩
  have HB5 : Hid (Below w.heap.size w w5) := HB3.out.trans (hb5.mono HB3.out.size)
  clear hb5 CI y0 y3 HB3
  go_wp2_with fail
  go_ret
  exact ⟨rfl, HB5.out⟩
set_option maxRecDepth 100000 in
set_option maxHeartbeats 4000000 in
theorem cClose1 {w : World} {F : Nat → Prop} {S p : Nat} {s : Shf} (h : ShfAt w F S p s) (o : Ord) (hk : o.kind = 4) (h1 : 1 ≤ o.id) (hn : ¬ s.made < o.id) (i : Nat) (hp : s.place o.id = some i) :
    Calls Tryz.prog 93 #[.pointer (some ⟨S, p, none⟩), .int .i64 o.id, .pointer (some ⟨S, p + 1, none⟩)] w fun e w' => e = .returned (.int .i64 0) ∧ ShfAt w' F S p (s.next o) ∧ ShW F S p w w' ∧ Chc [106, 126] w w' := by
  have hi : i < s.hs.length := (List.findIdx?_eq_some_iff_getElem.1 hp).1
  have hok := Lib.hid (next_ok h.ok o)
  have hnx : s.next o = ⟨s.free, s.used + s.hs[i].count, s.made, s.hs.eraseIdx i⟩ := by
    unfold Shf.next Shf.order
    rw [if_neg (by omega), if_neg (by omega), if_neg (by omega), if_neg (by omega), if_neg (by omega), if_pos (by omega), if_neg (by omega), hp]
    simp only [hk]
    rw [at_get hi]
    simp
  rw [hnx] at hok ⊢
  have hsum := hok.out.sum
  have hfr := h.ok.free
  have hus := h.ok.used
  have hfr' := hok.out.free
  have hus' := hok.out.used
  have hnn' := hok.out.nonneg
  simp only at hfr' hus' hsum
  have Hl := Lib.hid h.lo
  obtain ⟨v, q1, q2, q3⟩ := h.ex
  obtain ⟨⟨-, -, s2, s3⟩, -⟩ := slf_cells q1
  have hS := h.lt
  have d1 : decide (o.id < 1) = false := by simp; omega
  have d2 : decide (s.made < o.id) = false := by simp; omega
  have hix : ixOf (fun x => x.id == o.id) s.hs = i := ixOf_some hp
  generalize o.id = id at *
  have hb : Below w.heap.size w (w.alloc (.cells #[.int .i64 id] 3)) := (Below.refl _ _).alloc (Nat.le_refl _) _
  replace s2 := cell_on hb s2
  replace s3 := cell_on hb s3
  have x0 : (w.alloc (.cells #[.int .i64 id] 3)).cell? ⟨w.heap.size, 0, none⟩ = some (.int .i64 id) := cell_of_row _ _ _ _ _ _ (heap_alloc_new _ _)
  have Hb := Lib.hid hb
  have H1 := Lib.hid q1
  have H2 := Lib.hid q2
  have H3 := Lib.hid q3
  obtain ⟨gg, cap, rfl, ⟨c1, c2⟩, -, -⟩ := hd_get q2 i hi
  have hw0 : IntKind.i64.wrap (s.used + s.hs[i].count) = s.used + s.hs[i].count := IntWalk.i64_in _ (by simp only [Shf.held] at hnn'; simp only [Shf.held] at hsum; omega)
  have hiz : (i : Int) < (s.hs.length : Int) := by omega
  have hix0 : decide ((i : Int) < 0) = false := by simp
  have hw1 : IntKind.i64.wrap ((i : Int) + 1) = (i : Int) + 1 := IntWalk.i64_in _ (by have := h.ok.few; omega)
  unfold maxLen at c2
  clear h q1 q2 q3 hb hp hnx hk hsum hnn' hfr' hus'
  go_enter Tryz.func93, Tryz.ntmps93
  go_upto_region 1 with (fail)
  generalize w.alloc (.cells #[.int .i64 id] 3) = W at *
  go_quiet (fail)
  go_upto_region 3 with (fail)
  obtain ⟨W3, hW3⟩ : ∃ X, X = W.drewN nq := ⟨_, rfl⟩
  have HB3 : Hid (Below w.heap.size w W3) := by rw [hW3]; exact below_drewN Hb.out _
  have y0 : W3.cell? ⟨w.heap.size, 0, none⟩ = some (.int .i64 id) := by rw [hW3]; exact x0
  have y3 : W3.cell? ⟨S, p + 3, none⟩ = some (.slice (some ⟨gg, 0, none⟩) s.hs.length cap) := by rw [hW3]; exact s3
  rw [← hW3]
  have CI := Lib.hid (cIndexFunc (fun x => x.id == id) 112 #[.pointer (some ⟨w.heap.size, 0, none⟩)] close_eg (fun X x hX => cCloseF id w.heap.size X x (cell_on hX y0)) (owns_below H2.out HB3.out))
  rw [hix] at CI
  clear x0 s2 s3 hW3 Hb
  go_upto_region 4 with (refine CI.out.mono ?_; rintro e w5 ⟨rfl, hb5⟩)
  have HB5 : Hid (Below w.heap.size w w5) := HB3.out.trans (hb5.mono HB3.out.size)
  have hS5 : Slf w5 S p (.int .i64 s.free) (.int .i64 s.used) (.int .i64 s.made) (.slice (some ⟨gg, 0, none⟩) s.hs.length cap) := H1.out.on HB5.out
  have HS5 := Lib.hid hS5
  obtain ⟨⟨p0, p1, -, p3⟩, hfz⟩ := slf_cells hS5
  have HO5 := Lib.hid (owns_below H2.out HB5.out)
  obtain ⟨g', cap', he, -, ⟨-, z1, -⟩, -⟩ := hd_get HO5.out i hi
  simp only [Value.slice.injEq, Option.some.injEq, Addr.mk.injEq, and_true, true_and] at he
  obtain ⟨rfl, rfl⟩ := he
  have f1 := hfz (p + 1)
  have hT := Lib.hid (slf_set hS5 (.int .i64 (s.used + s.hs[i].count))).2.1
  have hcT := Lib.hid (slf_chc hS5 (p + 1) (.int .i64 (s.used + s.hs[i].count)))
  clear hb5 CI y0 y3 HB3 hfz hS5
  generalize hcn : s.hs[i].count = cn at *
  have Hcn := Lib.hid hcn
  clear hcn
  go_upto_region 6 with (fail)
  go_region
  go_upto_region 7 with (fail)
  obtain ⟨W6, hW6⟩ : ∃ X, X = (w5.setCell ⟨S, p + 1, none⟩ (.int .i64 (s.used + cn))).drew := ⟨_, rfl⟩
  have hS6 : Slf W6 S p (.int .i64 (s.free)) (.int .i64 (s.used + cn)) (.int .i64 s.made) (.slice (some ⟨gg, 0, none⟩) s.hs.length cap) := by rw [hW6]; exact hT.out
  have hc6 : Chc [106] w5 W6 := by rw [hW6]; exact hcT.out.drew
  have hb6 : ShW F S p w W6 := by rw [hW6]; exact ((ShW.of_below HB5.out).setCell Hl.out _ (by omega) _).drew
  rw [← hW6]
  have hO6 := owns_chc HO5.out hc6 (by decide)
  have HS6 := Lib.hid hS6
  have HO6 := Lib.hid hO6
  have HC6 : Hid (Chc [106, 126] w W6) := (Chc.of_below HB5.out).trans (hc6.mono (by simp))
  have HB6 := Lib.hid hb6
  have CD := Lib.hid (cDeleteW i hi hO6)
  obtain ⟨⟨-, -, -, r3⟩, -⟩ := slf_cells hS6
  have hSW := World.block_lt_of_cell? W6 _ r3
  clear hO6 hS6 hc6 hb6 hW6 hT hcT HS5 HO5 HB5 p0 p1 p3 z1 f1
  go_wp2_with fail
  refine CD.out.mono ?_
  rintro e w7 ⟨v7, rfl, hown7, hat7, hb7, hc7⟩
  obtain ⟨a7, cap7, rfl⟩ := owns_slice hown7
  obtain ⟨⟨g3, gf⟩, hfin⟩ := close_step (s' := ⟨s.free, s.used + cn, s.made, s.hs.eraseIdx i⟩) Hl.out HB6.out HC6.out HS6.out HO6.out H3.out hown7 hat7 hb7 hc7 hok.out
  have Hfin := Lib.hid hfin
  clear hown7 hat7 hb7 hc7 hfin CD HS6 HC6 HB6 r3
  go_wp2_with fail
  go_ret
  rw [Hcn.out]
  exact ⟨rfl, Hfin.out⟩
set_option maxRecDepth 100000 in
set_option maxHeartbeats 2000000 in
theorem cCloseNone0 {w : World} {F : Nat → Prop} {S p : Nat} {s : Shf} (h : ShfAt w F S p s) (id : Int) (h1 : 1 ≤ id) (hn : s.made < id) :
    Calls Tryz.prog 93 #[.pointer (some ⟨S, p, none⟩), .int .i64 id, .pointer (some ⟨S, p, none⟩)] w fun e w' => e = .returned (.int .i64 6) ∧ Below w.heap.size w w' := by
  obtain ⟨v, q1, q2, q3⟩ := h.ex
  obtain ⟨⟨-, -, s2, -⟩, -⟩ := slf_cells q1
  have hS := h.lt
  have d1 : decide (id < 1) = false := by simp; omega
  have d2 : decide (s.made < id) = true := by simp; omega
  have hb : Below w.heap.size w (w.alloc (.cells #[.int .i64 id] 3)) := (Below.refl _ _).alloc (Nat.le_refl _) _
  replace s2 := cell_on hb s2
  have x0 : (w.alloc (.cells #[.int .i64 id] 3)).cell? ⟨w.heap.size, 0, none⟩ = some (.int .i64 id) := cell_of_row _ _ _ _ _ _ (heap_alloc_new _ _)
  have Hb := Lib.hid hb
  clear h q1 q2 q3 hb
  go_enter Tryz.func93, Tryz.ntmps93
  go_upto_region 1 with (fail)
  generalize w.alloc (.cells #[.int .i64 id] 3) = W at *
  go_quiet (fail)
  go_wp2_with fail
  go_ret
  exact ⟨rfl, below_drewN Hb.out _⟩
set_option maxRecDepth 100000 in
set_option maxHeartbeats 4000000 in
theorem cCloseOld0 {w : World} {F : Nat → Prop} {S p : Nat} {s : Shf} (h : ShfAt w F S p s) (id : Int) (h1 : 1 ≤ id) (hn : ¬ s.made < id) (hp : s.place id = none) :
    Calls Tryz.prog 93 #[.pointer (some ⟨S, p, none⟩), .int .i64 id, .pointer (some ⟨S, p, none⟩)] w fun e w' => e = .returned (.int .i64 10) ∧ Below w.heap.size w w' := by
  obtain ⟨v, q1, q2, q3⟩ := h.ex
  obtain ⟨⟨-, -, s2, s3⟩, -⟩ := slf_cells q1
  have hS := h.lt
  have d1 : decide (id < 1) = false := by simp; omega
  have d2 : decide (s.made < id) = false := by simp; omega
  have hix : ixOf (fun x => x.id == id) s.hs = -1 := ixOf_none hp
  have hb : Below w.heap.size w (w.alloc (.cells #[.int .i64 id] 3)) := (Below.refl _ _).alloc (Nat.le_refl _) _
  replace s2 := cell_on hb s2
  replace s3 := cell_on hb s3
  have x0 : (w.alloc (.cells #[.int .i64 id] 3)).cell? ⟨w.heap.size, 0, none⟩ = some (.int .i64 id) := cell_of_row _ _ _ _ _ _ (heap_alloc_new _ _)
  have Hb := Lib.hid hb
  have H2 := Lib.hid q2
  obtain ⟨a, cap, rfl⟩ := owns_slice q2
  clear h q1 q2 q3 hb hp
  go_enter Tryz.func93, Tryz.ntmps93
  go_upto_region 1 with (fail)
  generalize w.alloc (.cells #[.int .i64 id] 3) = W at *
  go_quiet (fail)
  go_upto_region 3 with (fail)
  obtain ⟨W3, hW3⟩ : ∃ X, X = W.drewN nq := ⟨_, rfl⟩
  have HB3 : Hid (Below w.heap.size w W3) := by rw [hW3]; exact below_drewN Hb.out _
  have y0 : W3.cell? ⟨w.heap.size, 0, none⟩ = some (.int .i64 id) := by rw [hW3]; exact x0
  have y3 : W3.cell? ⟨S, p + 3, none⟩ = some (.slice a s.hs.length cap) := by rw [hW3]; exact s3
  rw [← hW3]
  have CI := Lib.hid (cIndexFunc (fun x => x.id == id) 112 #[.pointer (some ⟨w.heap.size, 0, none⟩)] close_eg (fun X x hX => cCloseF id w.heap.size X x (cell_on hX y0)) (owns_below H2.out HB3.out))
  rw [hix] at CI
  clear x0 s2 s3 hW3 Hb
  go_wp2_with fail
  refine CI.out.mono ?_
  rintro e w5 ⟨rfl, hb5⟩
  have HB5 : Hid (Below w.heap.size w w5) := HB3.out.trans (hb5.mono HB3.out.size)
  clear hb5 CI y0 y3 HB3
  go_wp2_with fail
  go_ret
  exact ⟨rfl, HB5.out⟩
set_option maxRecDepth 100000 in
set_option maxHeartbeats 4000000 in
theorem cClose0 {w : World} {F : Nat → Prop} {S p : Nat} {s : Shf} (h : ShfAt w F S p s) (o : Ord) (hk : o.kind = 5) (h1 : 1 ≤ o.id) (hn : ¬ s.made < o.id) (i : Nat) (hp : s.place o.id = some i) :
    Calls Tryz.prog 93 #[.pointer (some ⟨S, p, none⟩), .int .i64 o.id, .pointer (some ⟨S, p, none⟩)] w fun e w' => e = .returned (.int .i64 0) ∧ ShfAt w' F S p (s.next o) ∧ ShW F S p w w' ∧ Chc [106, 126] w w' := by
  have hi : i < s.hs.length := (List.findIdx?_eq_some_iff_getElem.1 hp).1
  have hok := Lib.hid (next_ok h.ok o)
  have hnx : s.next o = ⟨s.free + s.hs[i].count, s.used, s.made, s.hs.eraseIdx i⟩ := by
    unfold Shf.next Shf.order
    rw [if_neg (by omega), if_neg (by omega), if_neg (by omega), if_neg (by omega), if_neg (by omega), if_pos (by omega), if_neg (by omega), hp]
    simp only [hk]
    rw [at_get hi]
    simp
  rw [hnx] at hok ⊢
  have hsum := hok.out.sum
  have hfr := h.ok.free
  have hus := h.ok.used
  have hfr' := hok.out.free
  have hus' := hok.out.used
  have hnn' := hok.out.nonneg
  simp only at hfr' hus' hsum
  have Hl := Lib.hid h.lo
  obtain ⟨v, q1, q2, q3⟩ := h.ex
  obtain ⟨⟨-, -, s2, s3⟩, -⟩ := slf_cells q1
  have hS := h.lt
  have d1 : decide (o.id < 1) = false := by simp; omega
  have d2 : decide (s.made < o.id) = false := by simp; omega
  have hix : ixOf (fun x => x.id == o.id) s.hs = i := ixOf_some hp
  generalize o.id = id at *
  have hb : Below w.heap.size w (w.alloc (.cells #[.int .i64 id] 3)) := (Below.refl _ _).alloc (Nat.le_refl _) _
  replace s2 := cell_on hb s2
  replace s3 := cell_on hb s3
  have x0 : (w.alloc (.cells #[.int .i64 id] 3)).cell? ⟨w.heap.size, 0, none⟩ = some (.int .i64 id) := cell_of_row _ _ _ _ _ _ (heap_alloc_new _ _)
  have Hb := Lib.hid hb
  have H1 := Lib.hid q1
  have H2 := Lib.hid q2
  have H3 := Lib.hid q3
  obtain ⟨gg, cap, rfl, ⟨c1, c2⟩, -, -⟩ := hd_get q2 i hi
  have hw0 : IntKind.i64.wrap (s.free + s.hs[i].count) = s.free + s.hs[i].count := IntWalk.i64_in _ (by simp only [Shf.held] at hnn'; simp only [Shf.held] at hsum; omega)
  have hiz : (i : Int) < (s.hs.length : Int) := by omega
  have hix0 : decide ((i : Int) < 0) = false := by simp
  have hw1 : IntKind.i64.wrap ((i : Int) + 1) = (i : Int) + 1 := IntWalk.i64_in _ (by have := h.ok.few; omega)
  unfold maxLen at c2
  clear h q1 q2 q3 hb hp hnx hk hsum hnn' hfr' hus'
  go_enter Tryz.func93, Tryz.ntmps93
  go_upto_region 1 with (fail)
  generalize w.alloc (.cells #[.int .i64 id] 3) = W at *
  go_quiet (fail)
  go_upto_region 3 with (fail)
  obtain ⟨W3, hW3⟩ : ∃ X, X = W.drewN nq := ⟨_, rfl⟩
  have HB3 : Hid (Below w.heap.size w W3) := by rw [hW3]; exact below_drewN Hb.out _
  have y0 : W3.cell? ⟨w.heap.size, 0, none⟩ = some (.int .i64 id) := by rw [hW3]; exact x0
  have y3 : W3.cell? ⟨S, p + 3, none⟩ = some (.slice (some ⟨gg, 0, none⟩) s.hs.length cap) := by rw [hW3]; exact s3
  rw [← hW3]
  have CI := Lib.hid (cIndexFunc (fun x => x.id == id) 112 #[.pointer (some ⟨w.heap.size, 0, none⟩)] close_eg (fun X x hX => cCloseF id w.heap.size X x (cell_on hX y0)) (owns_below H2.out HB3.out))
  rw [hix] at CI
  clear x0 s2 s3 hW3 Hb
  go_upto_region 4 with (refine CI.out.mono ?_; rintro e w5 ⟨rfl, hb5⟩)
  have HB5 : Hid (Below w.heap.size w w5) := HB3.out.trans (hb5.mono HB3.out.size)
  have hS5 : Slf w5 S p (.int .i64 s.free) (.int .i64 s.used) (.int .i64 s.made) (.slice (some ⟨gg, 0, none⟩) s.hs.length cap) := H1.out.on HB5.out
  have HS5 := Lib.hid hS5
  obtain ⟨⟨p0, p1, -, p3⟩, hfz⟩ := slf_cells hS5
  have HO5 := Lib.hid (owns_below H2.out HB5.out)
  obtain ⟨g', cap', he, -, ⟨-, z1, -⟩, -⟩ := hd_get HO5.out i hi
  simp only [Value.slice.injEq, Option.some.injEq, Addr.mk.injEq, and_true, true_and] at he
  obtain ⟨rfl, rfl⟩ := he
  have f0 := hfz p
  have hT := Lib.hid (slf_set hS5 (.int .i64 (s.free + s.hs[i].count))).1
  have hcT := Lib.hid (slf_chc hS5 (p) (.int .i64 (s.free + s.hs[i].count)))
  clear hb5 CI y0 y3 HB3 hfz hS5
  generalize hcn : s.hs[i].count = cn at *
  have Hcn := Lib.hid hcn
  clear hcn
  go_upto_region 6 with (fail)
  go_region
  go_upto_region 7 with (fail)
  obtain ⟨W6, hW6⟩ : ∃ X, X = (w5.setCell ⟨S, p, none⟩ (.int .i64 (s.free + cn))).drew := ⟨_, rfl⟩
  have hS6 : Slf W6 S p (.int .i64 (s.free + cn)) (.int .i64 (s.used)) (.int .i64 s.made) (.slice (some ⟨gg, 0, none⟩) s.hs.length cap) := by rw [hW6]; exact hT.out
  have hc6 : Chc [106] w5 W6 := by rw [hW6]; exact hcT.out.drew
  have hb6 : ShW F S p w W6 := by rw [hW6]; exact ((ShW.of_below HB5.out).setCell Hl.out _ (by omega) _).drew
  rw [← hW6]
  have hO6 := owns_chc HO5.out hc6 (by decide)
  have HS6 := Lib.hid hS6
  have HO6 := Lib.hid hO6
  have HC6 : Hid (Chc [106, 126] w W6) := (Chc.of_below HB5.out).trans (hc6.mono (by simp))
  have HB6 := Lib.hid hb6
  have CD := Lib.hid (cDeleteW i hi hO6)
  obtain ⟨⟨-, -, -, r3⟩, -⟩ := slf_cells hS6
  have hSW := World.block_lt_of_cell? W6 _ r3
  clear hO6 hS6 hc6 hb6 hW6 hT hcT HS5 HO5 HB5 p0 p1 p3 z1 f0
  go_wp2_with fail
  refine CD.out.mono ?_
  rintro e w7 ⟨v7, rfl, hown7, hat7, hb7, hc7⟩
  obtain ⟨a7, cap7, rfl⟩ := owns_slice hown7
  obtain ⟨⟨g3, gf⟩, hfin⟩ := close_step (s' := ⟨s.free + cn, s.used, s.made, s.hs.eraseIdx i⟩) Hl.out HB6.out HC6.out HS6.out HO6.out H3.out hown7 hat7 hb7 hc7 hok.out
  have Hfin := Lib.hid hfin
  clear hown7 hat7 hb7 hc7 hfin CD HS6 HC6 HB6 r3
  go_wp2_with fail
  go_ret
  rw [Hcn.out]
  exact ⟨rfl, Hfin.out⟩
set_option maxRecDepth 100000 in
set_option maxHeartbeats 2000000 in
theorem cCloseLow {w : World} {S p q : Nat} (id : Int) (h1 : id < 1) :
    Calls Tryz.prog 93 #[.pointer (some ⟨S, p, none⟩), .int .i64 id, .pointer (some ⟨S, q, none⟩)] w fun e w' => e = .returned (.int .i64 6) ∧ Below w.heap.size w w' := by
  have hb : Below w.heap.size w (w.alloc (.cells #[.int .i64 id] 3)) := (Below.refl _ _).alloc (Nat.le_refl _) _
  have x0 : (w.alloc (.cells #[.int .i64 id] 3)).cell? ⟨w.heap.size, 0, none⟩ = some (.int .i64 id) := cell_of_row _ _ _ _ _ _ (heap_alloc_new _ _)
  have Hb := Lib.hid hb
  have d1 : decide (id < 1) = true := by simp; omega
  clear hb
  go_enter Tryz.func93, Tryz.ntmps93
  go_upto_region 1 with (fail)
  generalize w.alloc (.cells #[.int .i64 id] 3) = W at *
  go_quiet (fail)
  go_wp2_with fail
  go_ret
  exact ⟨rfl, below_drewN Hb.out _⟩
end Go.Proofs.YtjdedflfdlhkdaaGreatDoor

namespace Go.Proofs.YtjdedflfdlhkdaaGreatDoor
open Go.ChangeShapes Go.WideShapes Go.ChangeAt Go.RowKit
set_option linter.unusedVariables false
set_option linter.unusedSimpArgs false

/-- What an order leaves. -/
structure Ordered (F : Nat → Prop) (S p : Nat) (s s' : Shf) (w w' : World) : Prop where
  sh : ShfAt w' F S p s'
  hb : ShW F S p w w'
  hc : Chc [106, 126] w w'
theorem Ordered.same {F : Nat → Prop} {S p : Nat} {s : Shf} {w w' : World} (h : ShfAt w F S p s) (hb : Below w.heap.size w w') : Ordered F S p s s w w' :=
  ⟨h.on hb, ShW.of_below hb, Chc.of_below hb⟩
/-- One store, behind some growth. -/
theorem Ordered.put {F : Nat → Prop} {S p : Nat} {s s' : Shf} {w W W' : World} (h : ShfAt w F S p s) (hb : Below w.heap.size w W) (hW : ∀ v, Slf W S p (.int .i64 s.free) (.int .i64 s.used) (.int .i64 s.made) v → Slf W' S p (.int .i64 s'.free) (.int .i64 s'.used) (.int .i64 s'.made) v ∧ Chc [106] W W')
    (hbb : ShW F S p W W') (hhs : s'.hs = s.hs) (hok : s'.Ok) : Ordered F S p s s' w W' := by
  obtain ⟨v, q1, q2, q3⟩ := (h.on hb).ex
  obtain ⟨h1, h2⟩ := hW v q1
  refine ⟨⟨⟨v, h1, ?_, q3⟩, hok, h.lo⟩, (ShW.of_below hb).trans hbb, (Chc.of_below hb).trans (h2.mono (by simp))⟩
  rw [hhs]; exact owns_chc q2 h2 (by decide)
/-- The shelf's cells. -/
theorem ShfAt.cells {w : World} {F : Nat → Prop} {S p : Nat} {s : Shf} (h : ShfAt w F S p s) : (w.cell? ⟨S, p, none⟩ = some (.int .i64 s.free) ∧ w.cell? ⟨S, p + 1, none⟩ = some (.int .i64 s.used) ∧ w.cell? ⟨S, p + 2, none⟩ = some (.int .i64 s.made)) ∧ ∀ j, w.frozen? ⟨S, j, none⟩ = false := by
  obtain ⟨v, q1, q2⟩ := h.ex
  obtain ⟨⟨a, b, c, -⟩, d⟩ := slf_cells q1
  exact ⟨⟨a, b, c⟩, d⟩
theorem gain_over {s : Shf} {o : Ord} (hc : o.Counted) (hk : o.kind = 1) (h : 1048576 < s.free + s.held + s.used + o.count) : s.order o = (0, 12, s) := by
  unfold Ord.Counted at hc
  unfold Shf.order
  rw [if_neg (by omega), if_pos hk, if_pos h]
theorem gain_ok {s : Shf} {o : Ord} (hc : o.Counted) (hk : o.kind = 1) (h : ¬ 1048576 < s.free + s.held + s.used + o.count) : s.order o = (0, 0, { s with free := s.free + o.count }) := by
  unfold Ord.Counted at hc
  unfold Shf.order
  rw [if_neg (by omega), if_pos hk, if_neg h]
theorem order_bad {s : Shf} {o : Ord} (hc : ¬ o.Counted) (hk : o.kind = 1 ∨ o.kind = 2 ∨ o.kind = 3 ∨ o.kind = 6) : s.order o = (0, 2, s) := by
  unfold Ord.Counted at hc
  unfold Shf.order
  rw [if_pos ⟨hk, hc⟩]
set_option maxRecDepth 100000 in
set_option maxHeartbeats 4000000 in
theorem cOrderBad {w : World} {F : Nat → Prop} {S p : Nat} {s : Shf} (h : ShfAt w F S p s) (o : Ord) (hC : ¬ o.Counted) (hk : o.kind = 1 ∨ o.kind = 2 ∨ o.kind = 3 ∨ o.kind = 6) :
    Calls Tryz.prog 76 #[.pointer (some ⟨S, p, none⟩), o.val] w fun e w' => e = .returned (.tuple #[.int .i64 (s.order o).1, .int .i64 (s.order o).2.1]) ∧ Ordered F S p s (s.next o) w w' := by
  have H := Lib.hid h
  unfold Shf.next
  rw [order_bad hC hk]
  simp only
  obtain ⟨k, c, l, id⟩ := o
  unfold Ord.Counted at hC
  simp only at hk hC
  unfold Ord.val
  simp only
  have hb : Below w.heap.size w (w.alloc (.cells #[.int .i64 k, .int .i64 c, .int .i64 l, .int .i64 id] 135)) := (Below.refl _ _).alloc (Nat.le_refl _) _
  have Hb := Lib.hid hb
  obtain ⟨⟨x0, x1, x2, x3⟩, -⟩ := four_cells (heap_alloc_new w (.cells #[.int .i64 k, .int .i64 c, .int .i64 l, .int .i64 id] 135))
  clear h hb
  rcases (show decide (1 ≤ c) = false ∨ 1 ≤ c ∧ decide (c ≤ 1048576) = false from (by by_cases hh : 1 ≤ c; exact .inr ⟨hh, decide_eq_false (by omega)⟩; exact .inl (decide_eq_false hh))) with hd | ⟨hd, hd2⟩
  all_goals
    clear hC
    rcases hk with rfl | rfl | rfl | rfl
    all_goals
      go_enter Tryz.func76, Tryz.ntmps76
      go_wp2_with fail
      go_ret2
      exact ⟨rfl, .same H.out Hb.out⟩
set_option maxRecDepth 100000 in
set_option maxHeartbeats 4000000 in
theorem cOrder1 {w : World} {F : Nat → Prop} {S p : Nat} {s : Shf} (h : ShfAt w F S p s) (o : Ord) (hC : o.Counted) (hk : o.kind = 1) :
    Calls Tryz.prog 76 #[.pointer (some ⟨S, p, none⟩), o.val] w fun e w' => e = .returned (.tuple #[.int .i64 (s.order o).1, .int .i64 (s.order o).2.1]) ∧ Ordered F S p s (s.next o) w w' := by
  have hok := Lib.hid (next_ok h.ok o)
  have H := Lib.hid h
  have hfr := h.ok.free
  have hsum := h.ok.sum
  have hus := h.ok.used
  have hnn := h.ok.nonneg
  have hS := h.lt
  have Hov := Lib.hid (fun hh => gain_over (s := s) hC hk hh)
  have Hgk := Lib.hid (fun hh => gain_ok (s := s) hC hk hh)
  obtain ⟨k, c, l, id⟩ := o
  obtain ⟨k2, k1⟩ := hC
  simp only at hk k1 k2 hok Hov Hgk
  subst hk
  unfold Ord.val
  simp only
  obtain ⟨⟨x0, x1, x2, x3⟩, -⟩ := four_cells (heap_alloc_new w (.cells #[.int .i64 1, .int .i64 c, .int .i64 l, .int .i64 id] 135))
  have hb : Below w.heap.size w (w.alloc (.cells #[.int .i64 1, .int .i64 c, .int .i64 l, .int .i64 id] 135)) := (Below.refl _ _).alloc (Nat.le_refl _) _
  have Hb := Lib.hid hb
  obtain ⟨⟨s0, s1, -⟩, hfz⟩ := (h.on hb).cells
  have CH := Lib.hid fun X (hX : Below w.heap.size w X) => cHeld (H.out.on hX)
  have hw0 : IntKind.i64.wrap (s.free + s.held) = s.free + s.held := IntWalk.i64_in _ (by omega)
  have hw1 : IntKind.i64.wrap (s.free + s.held + s.used) = s.free + s.held + s.used := IntWalk.i64_in _ (by omega)
  have hw2 : IntKind.i64.wrap (s.free + s.held + s.used + c) = s.free + s.held + s.used + c := IntWalk.i64_in _ (by omega)
  have hw3 : IntKind.i64.wrap (s.free + c) = s.free + c := IntWalk.i64_in _ (by omega)
  have hcm : c ≤ 1048576 := by omega
  clear h hb hfz x0 x2 x3
  go_enter Tryz.func76, Tryz.ntmps76
  go_upto_region 1 with (fail)
  have HN := Lib.hid (heap_alloc_new w (.cells #[.int .i64 1, .int .i64 c, .int .i64 l, .int .i64 id] 135))
  obtain ⟨⟨x0, -, -, -⟩, -⟩ := four_cells HN.out
  generalize w.alloc (.cells #[.int .i64 1, .int .i64 c, .int .i64 l, .int .i64 id] 135) = W at *
  go_upto_region 12 with (fail)
  have CS : Hid (∀ X : Ext W, Calls Tryz.prog 50 #[.pointer (some ⟨S, p, none⟩)] X.1 fun e w' => e = .returned (.int .i64 s.held) ∧ Below X.1.heap.size X.1 w') := fun X => CH.out X.1 (Hb.out.trans (X.2.mono Hb.out.size))
  have p0 := ext_cell s0
  have p1 := ext_cell s1
  have p2 := ext_cell x1
  clear s0 s1 x0 x1
  refine wp_region_grow (by kernel_rfl) (by kernel_rfl) ?_
  repeat (go_big_quiet_step ((go_at_call 50; with_reducible exact grow_of (CS.out _))))
  refine wpQuiet_nil ?_
  intro w8 hb8
  have Hb8 : Hid (Below w.heap.size w w8) := Hb.out.trans (hb8.mono Hb.out.size)
  have q0 := p0 ⟨w8, hb8⟩
  have q1 := p2 ⟨w8, hb8⟩
  simp only at q0 q1
  obtain ⟨-, hfz⟩ := (H.out.on Hb8.out).cells
  have f0 := hfz p
  clear p0 p1 p2 hb8 CS CH hw0 hw1 hw2 hfz
  by_cases hov : 1048576 < s.free + s.held + s.used + c
  · have hd : decide (1048576 < s.free + s.held + s.used + c) = true := decide_eq_true hov
    go_wp2_with fail
    go_ret2
    unfold Shf.next
    rw [Hov.out hov]
    exact ⟨rfl, .same H.out Hb8.out⟩
  · have hd : decide (1048576 < s.free + s.held + s.used + c) = false := decide_eq_false hov
    go_upto_region 14 with (fail)
    go_region
    go_wp2_with fail
    go_ret2
    unfold Shf.next at hok ⊢
    rw [Hgk.out hov] at hok ⊢
    exact ⟨rfl, .put H.out Hb8.out (fun v hv => ⟨(slf_set hv (.int .i64 (s.free + c))).1, (slf_chc hv p _).drew⟩) (((ShW.refl _ _ _ _).setCell H.out.lo p (by omega) _).drew) rfl hok.out⟩
end Go.Proofs.YtjdedflfdlhkdaaGreatDoor

namespace Go.Proofs.YtjdedflfdlhkdaaGreatDoor
open Go.ChangeShapes Go.WideShapes Go.ChangeAt Go.RowKit
set_option linter.unusedVariables false
set_option linter.unusedSimpArgs false

theorem slf_inj {w : World} {S p : Nat} {a b c d a' b' c' d' : Value} (h : Slf w S p a b c d) (h' : Slf w S p a' b' c' d') : d = d' := by
  have h1 := (slf_cells h).1.2.2.2
  have h2 := (slf_cells h').1.2.2.2
  rw [h1] at h2; exact Option.some.inj h2
theorem shift_less2 {s : Shf} {o : Ord} (hC : o.Counted) (hk : o.kind = 2) (h : s.free < o.count) : s.order o = (0, 9, s) := by
  unfold Ord.Counted at hC
  unfold Shf.order
  rw [if_neg (by omega), if_neg (by omega), if_pos hk, if_pos h]
theorem shift_ok2 {s : Shf} {o : Ord} (hC : o.Counted) (hk : o.kind = 2) (h : ¬ s.free < o.count) : s.order o = (0, 0, { s with free := s.free - o.count, used := s.used + o.count }) := by
  unfold Ord.Counted at hC
  unfold Shf.order
  rw [if_neg (by omega), if_neg (by omega), if_pos hk, if_neg h]
set_option maxRecDepth 100000 in
set_option maxHeartbeats 4000000 in
theorem cOrder2 {w : World} {F : Nat → Prop} {S p : Nat} {s : Shf} (h : ShfAt w F S p s) (o : Ord) (hC : o.Counted) (hk : o.kind = 2) :
    Calls Tryz.prog 76 #[.pointer (some ⟨S, p, none⟩), o.val] w fun e w' => e = .returned (.tuple #[.int .i64 (s.order o).1, .int .i64 (s.order o).2.1]) ∧ Ordered F S p s (s.next o) w w' := by
  have hok := Lib.hid (next_ok h.ok o)
  have H := Lib.hid h
  have hfr := h.ok.free
  have hsum := h.ok.sum
  have hus := h.ok.used
  have hnn := h.ok.nonneg
  have hmade := h.ok.made
  have hS := h.lt
  have Hle := Lib.hid (fun hh => shift_less2 (s := s) hC hk hh)
  have Hgk := Lib.hid (fun hh => shift_ok2 (s := s) hC hk hh)
  obtain ⟨k, c, l, id⟩ := o
  obtain ⟨k2, k1⟩ := hC
  simp only at hk k1 k2 hok Hle Hgk
  subst hk
  unfold Ord.val
  simp only
  obtain ⟨⟨x0, x1, x2, x3⟩, -⟩ := four_cells (heap_alloc_new w (.cells #[.int .i64 2, .int .i64 c, .int .i64 l, .int .i64 id] 135))
  have hb : Below w.heap.size w (w.alloc (.cells #[.int .i64 2, .int .i64 c, .int .i64 l, .int .i64 id] 135)) := (Below.refl _ _).alloc (Nat.le_refl _) _
  have Hb := Lib.hid hb
  have hcm : c ≤ 1048576 := by omega
  clear h hb
  go_enter Tryz.func76, Tryz.ntmps76
  go_upto_region 1 with (fail)
  generalize w.alloc (.cells #[.int .i64 2, .int .i64 c, .int .i64 l, .int .i64 id] 135) = W at *
  go_upto_region 16 with (fail)
  obtain ⟨v, hv, -⟩ := (H.out.on Hb.out).ex
  have hvd : Slf W.drew S p (.int .i64 s.free) (.int .i64 s.used) (.int .i64 s.made) v := hv
  refine wp_still_tail 9 (by kernel_rfl) (by kernel_rfl) ?_
  simp only [List.take_succ_cons, List.take_zero, List.drop_succ_cons, List.drop_zero]
  repeat still_step
  refine wpStill_nil ?_
  clear x0 x1 x2 x3
  by_cases hle : s.free < c
  · go_wp2_with fail
    refine (cShiftLess0 hvd hle).mono ?_
    rintro e w' ⟨rfl, rfl⟩
    go_wp2_with fail
    go_ret2
    unfold Shf.next
    rw [Hle.out hle]
    exact ⟨rfl, .same H.out Hb.out.drew⟩
  · have Hn := Lib.hid hle
    go_wp2_with fail
    refine (cShift0 hvd (by have := Hn.out; omega) (by omega) (by omega) (by omega)).mono ?_
    rintro e w' ⟨rfl, rfl⟩
    go_wp2_with fail
    go_ret2
    unfold Shf.next at hok ⊢
    rw [Hgk.out (by have := Hn.out; omega)] at hok ⊢
    have e1 := (slf_set hvd (.int .i64 (s.free - c))).1
    have e2 := (slf_set e1 (.int .i64 (s.used + c))).2.1
    exact ⟨rfl, .put H.out Hb.out.drew (fun v' hv' => by
      obtain rfl : v' = v := slf_inj hv' hvd
      exact ⟨e2, (slf_chc hvd p _).trans (slf_chc e1 (p + 1) _)⟩) (((ShW.refl _ _ _ _).setCell H.out.lo _ (by omega) _).setCell H.out.lo _ (by omega) _) rfl hok.out⟩
theorem shift_less6 {s : Shf} {o : Ord} (hC : o.Counted) (hk : o.kind = 6) (h : s.used < o.count) : s.order o = (0, 9, s) := by
  unfold Ord.Counted at hC
  unfold Shf.order
  rw [if_neg (by omega), if_neg (by omega), if_neg (by omega), if_pos hk, if_pos h]
theorem shift_ok6 {s : Shf} {o : Ord} (hC : o.Counted) (hk : o.kind = 6) (h : ¬ s.used < o.count) : s.order o = (0, 0, { s with free := s.free + o.count, used := s.used - o.count }) := by
  unfold Ord.Counted at hC
  unfold Shf.order
  rw [if_neg (by omega), if_neg (by omega), if_neg (by omega), if_pos hk, if_neg h]
set_option maxRecDepth 100000 in
set_option maxHeartbeats 4000000 in
theorem cOrder6 {w : World} {F : Nat → Prop} {S p : Nat} {s : Shf} (h : ShfAt w F S p s) (o : Ord) (hC : o.Counted) (hk : o.kind = 6) :
    Calls Tryz.prog 76 #[.pointer (some ⟨S, p, none⟩), o.val] w fun e w' => e = .returned (.tuple #[.int .i64 (s.order o).1, .int .i64 (s.order o).2.1]) ∧ Ordered F S p s (s.next o) w w' := by
  have hok := Lib.hid (next_ok h.ok o)
  have H := Lib.hid h
  have hfr := h.ok.free
  have hsum := h.ok.sum
  have hus := h.ok.used
  have hnn := h.ok.nonneg
  have hmade := h.ok.made
  have hS := h.lt
  have Hle := Lib.hid (fun hh => shift_less6 (s := s) hC hk hh)
  have Hgk := Lib.hid (fun hh => shift_ok6 (s := s) hC hk hh)
  obtain ⟨k, c, l, id⟩ := o
  obtain ⟨k2, k1⟩ := hC
  simp only at hk k1 k2 hok Hle Hgk
  subst hk
  unfold Ord.val
  simp only
  obtain ⟨⟨x0, x1, x2, x3⟩, -⟩ := four_cells (heap_alloc_new w (.cells #[.int .i64 6, .int .i64 c, .int .i64 l, .int .i64 id] 135))
  have hb : Below w.heap.size w (w.alloc (.cells #[.int .i64 6, .int .i64 c, .int .i64 l, .int .i64 id] 135)) := (Below.refl _ _).alloc (Nat.le_refl _) _
  have Hb := Lib.hid hb
  have hcm : c ≤ 1048576 := by omega
  clear h hb
  go_enter Tryz.func76, Tryz.ntmps76
  go_upto_region 1 with (fail)
  generalize w.alloc (.cells #[.int .i64 6, .int .i64 c, .int .i64 l, .int .i64 id] 135) = W at *
  go_upto_region 18 with (fail)
  obtain ⟨v, hv, -⟩ := (H.out.on Hb.out).ex
  have hvd : Slf W.drew S p (.int .i64 s.free) (.int .i64 s.used) (.int .i64 s.made) v := hv
  refine wp_still_tail 9 (by kernel_rfl) (by kernel_rfl) ?_
  simp only [List.take_succ_cons, List.take_zero, List.drop_succ_cons, List.drop_zero]
  repeat still_step
  refine wpStill_nil ?_
  clear x0 x1 x2 x3
  by_cases hle : s.used < c
  · go_wp2_with fail
    refine (cShiftLess1 hvd hle).mono ?_
    rintro e w' ⟨rfl, rfl⟩
    go_wp2_with fail
    go_ret2
    unfold Shf.next
    rw [Hle.out hle]
    exact ⟨rfl, .same H.out Hb.out.drew⟩
  · have Hn := Lib.hid hle
    go_wp2_with fail
    refine (cShift1 hvd (by have := Hn.out; omega) (by omega) (by omega) (by omega)).mono ?_
    rintro e w' ⟨rfl, rfl⟩
    go_wp2_with fail
    go_ret2
    unfold Shf.next at hok ⊢
    rw [Hgk.out (by have := Hn.out; omega)] at hok ⊢
    have e1 := (slf_set hvd (.int .i64 (s.used - c))).2.1
    have e2 := (slf_set e1 (.int .i64 (s.free + c))).1
    exact ⟨rfl, .put H.out Hb.out.drew (fun v' hv' => by
      obtain rfl : v' = v := slf_inj hv' hvd
      exact ⟨e2, (slf_chc hvd (p + 1) _).trans (slf_chc e1 p _)⟩) (((ShW.refl _ _ _ _).setCell H.out.lo _ (by omega) _).setCell H.out.lo _ (by omega) _) rfl hok.out⟩
theorem hold_life {s : Shf} {o : Ord} (hC : o.Counted) (hV : ¬ o.Lives) (hk : o.kind = 3) : s.order o = (0, 2, s) := by
  unfold Ord.Counted at hC
  unfold Ord.Lives at hV
  unfold Shf.order
  rw [if_neg (by omega), if_neg (by omega), if_neg (by omega), if_neg (by omega), if_pos hk, if_pos (by omega)]
theorem hold_full {s : Shf} {o : Ord} (hC : o.Counted) (hV : o.Lives) (hk : o.kind = 3) (h : s.hs.length = 4) : s.order o = (0, 8, s) := by
  unfold Ord.Counted at hC
  unfold Ord.Lives at hV
  unfold Shf.order
  rw [if_neg (by omega), if_neg (by omega), if_neg (by omega), if_neg (by omega), if_pos hk, if_neg (by omega), if_pos h]
theorem hold_less {s : Shf} {o : Ord} (hC : o.Counted) (hV : o.Lives) (hk : o.kind = 3) (h : ¬ s.hs.length = 4) (hl : s.free < o.count) : s.order o = (0, 9, s) := by
  unfold Ord.Counted at hC
  unfold Ord.Lives at hV
  unfold Shf.order
  rw [if_neg (by omega), if_neg (by omega), if_neg (by omega), if_neg (by omega), if_pos hk, if_neg (by omega), if_neg h, if_pos hl]
set_option maxRecDepth 100000 in
set_option maxHeartbeats 4000000 in
theorem cOrder3 {w : World} {F : Nat → Prop} {S p : Nat} {s : Shf} (h : ShfAt w F S p s) (o : Ord) (hC : o.Counted) (hk : o.kind = 3) (hm : s.made ≤ 1000) (HN : ∀ b, w.heap.size ≤ b → F b) :
    Calls Tryz.prog 76 #[.pointer (some ⟨S, p, none⟩), o.val] w fun e w' => e = .returned (.tuple #[.int .i64 (s.order o).1, .int .i64 (s.order o).2.1]) ∧ Ordered F S p s (s.next o) w w' := by
  have hok := Lib.hid (next_ok h.ok o)
  have H := Lib.hid h
  have hfr := h.ok.free
  have hsum := h.ok.sum
  have hus := h.ok.used
  have hnn := h.ok.nonneg
  have hmade := h.ok.made
  have hS := h.lt
  have Hli := Lib.hid (fun hh => hold_life (s := s) hC hh hk)
  have HC := Lib.hid hC
  have HNN := Lib.hid HN
  have Hfu := Lib.hid (fun hv hh => hold_full (s := s) hC hv hk hh)
  have Hle := Lib.hid (fun hv hh hl => hold_less (s := s) hC hv hk hh hl)
  have Hgk := Lib.hid (fun hv hh hl => hold_order (s := s) hC hv hk hh hl)
  obtain ⟨k, c, l, id⟩ := o
  obtain ⟨k2, k1⟩ := hC
  simp only at hk k1 k2 hok Hli Hfu Hle Hgk
  subst hk
  unfold Ord.val
  simp only
  obtain ⟨⟨x0, x1, x2, x3⟩, -⟩ := four_cells (heap_alloc_new w (.cells #[.int .i64 3, .int .i64 c, .int .i64 l, .int .i64 id] 135))
  have hb : Below w.heap.size w (w.alloc (.cells #[.int .i64 3, .int .i64 c, .int .i64 l, .int .i64 id] 135)) := (Below.refl _ _).alloc (Nat.le_refl _) _
  have Hb := Lib.hid hb
  have hcm : c ≤ 1048576 := by omega
  clear h hb HN
  go_enter Tryz.func76, Tryz.ntmps76
  go_upto_region 1 with (fail)
  generalize w.alloc (.cells #[.int .i64 3, .int .i64 c, .int .i64 l, .int .i64 id] 135) = W at *
  have HW := Lib.hid (H.out.on Hb.out)
  go_upto_region 20 with (fail)
  by_cases hv' : Ord.Lives ⟨3, c, l, id⟩
  case neg =>
    go_wp2_with fail
    refine (cHoldLife ⟨3, c, l, id⟩ hv').mono ?_
    rintro e w' ⟨rfl, hb'⟩
    have HB' : Hid (Below w.heap.size w w') := Hb.out.trans (hb'.mono Hb.out.size)
    clear x0 x1 x2 x3 hb'
    go_wp2_with fail
    go_ret2
    unfold Shf.next
    rw [Hli.out hv']
    exact ⟨rfl, .same H.out HB'.out⟩
  have HV := Lib.hid hv'
  clear hv'
  by_cases hfu : s.hs.length = 4
  · go_wp2_with fail
    refine (cHoldFull HW.out ⟨3, c, l, id⟩ HV.out hfu).mono ?_
    rintro e w' ⟨rfl, hb'⟩
    have HB' : Hid (Below w.heap.size w w') := Hb.out.trans (hb'.mono Hb.out.size)
    clear x0 x1 x2 x3 hb'
    go_wp2_with fail
    go_ret2
    unfold Shf.next
    rw [Hfu.out HV.out hfu]
    exact ⟨rfl, .same H.out HB'.out⟩
  by_cases hle : s.free < c
  · go_wp2_with fail
    refine (cHoldLess HW.out ⟨3, c, l, id⟩ HV.out hfu hle).mono ?_
    rintro e w' ⟨rfl, hb'⟩
    have HB' : Hid (Below w.heap.size w w') := Hb.out.trans (hb'.mono Hb.out.size)
    clear x0 x1 x2 x3 hb'
    go_wp2_with fail
    go_ret2
    unfold Shf.next
    rw [Hle.out HV.out hfu hle]
    exact ⟨rfl, .same H.out HB'.out⟩
  · have Hn := Lib.hid hle
    go_wp2_with fail
    refine (cHold HW.out ⟨3, c, l, id⟩ HC.out HV.out rfl hfu (Int.not_lt.2 Hn.out) hm (fun b hb => HNN.out b (Nat.le_trans Hb.out.size hb))).mono ?_
    rintro e w' ⟨rfl, h1, h2, h3⟩
    have HB' : Hid (Ordered F S p s (s.next ⟨3, c, l, id⟩) w w') := ⟨h1, (ShW.of_below Hb.out).trans h2, (Chc.of_below Hb.out).trans h3⟩
    clear x0 x1 x2 x3 h1 h2 h3
    go_wp2_with fail
    go_ret2
    rw [Hgk.out HV.out hfu (by have := Hn.out; omega)]
    exact ⟨rfl, HB'.out⟩
end Go.Proofs.YtjdedflfdlhkdaaGreatDoor

namespace Go.Proofs.YtjdedflfdlhkdaaGreatDoor
open Go.ChangeShapes Go.WideShapes Go.ChangeAt Go.RowKit
set_option linter.unusedVariables false
set_option linter.unusedSimpArgs false

theorem count_three (c : Int) : decide (1 ≤ c) = false ∨ (1 ≤ c ∧ c ≤ 1048576) ∨ (1 ≤ c ∧ decide (c ≤ 1048576) = false) := by
  by_cases h : 1 ≤ c
  · by_cases h2 : c ≤ 1048576
    · exact .inr (.inl ⟨h, h2⟩)
    · exact .inr (.inr ⟨h, decide_eq_false h2⟩)
  · exact .inl (decide_eq_false h)
theorem close_none4 {s : Shf} {o : Ord} (hk : o.kind = 4) (h : o.id < 1 ∨ s.made < o.id) : s.order o = (0, 6, s) := by
  unfold Shf.order
  rw [if_neg (by omega), if_neg (by omega), if_neg (by omega), if_neg (by omega), if_neg (by omega), if_pos (by omega), if_pos (by omega)]
theorem close_old4 {s : Shf} {o : Ord} (h1 : 1 ≤ o.id) (hk : o.kind = 4) (h : ¬ s.made < o.id) (hp : s.place o.id = none) : s.order o = (0, 10, s) := by
  unfold Shf.order
  rw [if_neg (by omega), if_neg (by omega), if_neg (by omega), if_neg (by omega), if_neg (by omega), if_pos (by omega), if_neg (by omega), hp]
theorem close_code4 {s : Shf} {o : Ord} (h1 : 1 ≤ o.id) (hk : o.kind = 4) (h : ¬ s.made < o.id) (i : Nat) (hp : s.place o.id = some i) : (s.order o).1 = 0 ∧ (s.order o).2.1 = 0 := by
  unfold Shf.order
  rw [if_neg (by omega), if_neg (by omega), if_neg (by omega), if_neg (by omega), if_neg (by omega), if_pos (by omega), if_neg (by omega), hp]
  simp only [hk]
  simp
set_option maxRecDepth 100000 in
set_option maxHeartbeats 4000000 in
theorem cOrder4 {w : World} {F : Nat → Prop} {S p : Nat} {s : Shf} (h : ShfAt w F S p s) (o : Ord) (hk : o.kind = 4) :
    Calls Tryz.prog 76 #[.pointer (some ⟨S, p, none⟩), o.val] w fun e w' => e = .returned (.tuple #[.int .i64 (s.order o).1, .int .i64 (s.order o).2.1]) ∧ Ordered F S p s (s.next o) w w' := by
  have hok := Lib.hid (next_ok h.ok o)
  have H := Lib.hid h
  have hfr := h.ok.free
  have hsum := h.ok.sum
  have hus := h.ok.used
  have hnn := h.ok.nonneg
  have hmade := h.ok.made
  have hS := h.lt
  have Hno := Lib.hid (fun hh => close_none4 (s := s) hk hh)
  have Hol := Lib.hid (fun h1 hh hp => close_old4 (s := s) h1 hk hh hp)
  have Hgk := Lib.hid (fun h1 hh i hp => close_code4 (s := s) h1 hk hh i hp)
  obtain ⟨k, c, l, id⟩ := o
  simp only at hk hok Hno Hol Hgk
  subst hk
  unfold Ord.val
  simp only
  obtain ⟨⟨x0, x1, x2, x3⟩, -⟩ := four_cells (heap_alloc_new w (.cells #[.int .i64 4, .int .i64 c, .int .i64 l, .int .i64 id] 135))
  have hb : Below w.heap.size w (w.alloc (.cells #[.int .i64 4, .int .i64 c, .int .i64 l, .int .i64 id] 135)) := (Below.refl _ _).alloc (Nat.le_refl _) _
  have Hb := Lib.hid hb
  clear h hb
  go_enter Tryz.func76, Tryz.ntmps76
  go_upto_region 1 with (fail)
  generalize w.alloc (.cells #[.int .i64 4, .int .i64 c, .int .i64 l, .int .i64 id] 135) = W at *
  have HW : Hid (ShfAt W.drew F S p s) := H.out.on Hb.out.drew
  have HBd : Hid (Below w.heap.size w W.drew) := Hb.out.drew
  rcases count_three c with hd | ⟨hd, hd2⟩ | ⟨hd, hd2⟩
  all_goals
    go_upto_region 22 with (fail)
    refine wp_still_tail 6 (by kernel_rfl) (by kernel_rfl) ?_
    simp only [List.take_succ_cons, List.take_zero, List.drop_succ_cons, List.drop_zero]
    repeat still_step
    refine wpStill_nil ?_
    clear x0 x1 x2 x3
    by_cases hlow : id < 1
    case pos =>
      go_wp2_with fail
      refine (cCloseLow id hlow).mono ?_
      rintro e w' ⟨rfl, hb'⟩
      have HB' : Hid (Below w.heap.size w w') := HBd.out.trans (hb'.mono HBd.out.size)
      clear hb'
      go_wp2_with fail
      go_ret2
      unfold Shf.next
      rw [Hno.out (Or.inl hlow)]
      exact ⟨rfl, .same H.out HB'.out⟩
    have d0 : 1 ≤ id := by omega
    have D0 := Lib.hid d0
    clear hlow
    by_cases hno : s.made < id
    · go_wp2_with fail
      refine (cCloseNone1 HW.out id D0.out hno).mono ?_
      rintro e w' ⟨rfl, hb'⟩
      have HB' : Hid (Below w.heap.size w w') := HBd.out.trans (hb'.mono HBd.out.size)
      clear hb'
      go_wp2_with fail
      go_ret2
      unfold Shf.next
      rw [Hno.out (Or.inr hno)]
      exact ⟨rfl, .same H.out HB'.out⟩
    have Hn := Lib.hid hno
    cases hp : s.place id with
    | none =>
      go_wp2_with fail
      refine (cCloseOld1 HW.out id D0.out (by have := Hn.out; omega) hp).mono ?_
      rintro e w' ⟨rfl, hb'⟩
      have HB' : Hid (Below w.heap.size w w') := HBd.out.trans (hb'.mono HBd.out.size)
      clear hb'
      go_wp2_with fail
      go_ret2
      unfold Shf.next
      rw [Hol.out D0.out (by have := Hn.out; omega) hp]
      exact ⟨rfl, .same H.out HB'.out⟩
    | some i =>
      go_wp2_with fail
      refine (cClose1 HW.out ⟨4, c, l, id⟩ rfl D0.out (Int.not_lt.2 Hn.out) i hp).mono ?_
      rintro e w' ⟨rfl, h1, h2, h3⟩
      have HB' : Hid (Ordered F S p s (s.next ⟨4, c, l, id⟩) w w') := ⟨h1, (ShW.of_below HBd.out).trans h2, (Chc.of_below HBd.out).trans h3⟩
      clear h1 h2 h3
      go_wp2_with fail
      go_ret2
      rw [(Hgk.out D0.out (by have := Hn.out; omega) i hp).1, (Hgk.out D0.out (by have := Hn.out; omega) i hp).2]
      exact ⟨rfl, HB'.out⟩
theorem close_none5 {s : Shf} {o : Ord} (hk : o.kind = 5) (h : o.id < 1 ∨ s.made < o.id) : s.order o = (0, 6, s) := by
  unfold Shf.order
  rw [if_neg (by omega), if_neg (by omega), if_neg (by omega), if_neg (by omega), if_neg (by omega), if_pos (by omega), if_pos (by omega)]
theorem close_old5 {s : Shf} {o : Ord} (h1 : 1 ≤ o.id) (hk : o.kind = 5) (h : ¬ s.made < o.id) (hp : s.place o.id = none) : s.order o = (0, 10, s) := by
  unfold Shf.order
  rw [if_neg (by omega), if_neg (by omega), if_neg (by omega), if_neg (by omega), if_neg (by omega), if_pos (by omega), if_neg (by omega), hp]
theorem close_code5 {s : Shf} {o : Ord} (h1 : 1 ≤ o.id) (hk : o.kind = 5) (h : ¬ s.made < o.id) (i : Nat) (hp : s.place o.id = some i) : (s.order o).1 = 0 ∧ (s.order o).2.1 = 0 := by
  unfold Shf.order
  rw [if_neg (by omega), if_neg (by omega), if_neg (by omega), if_neg (by omega), if_neg (by omega), if_pos (by omega), if_neg (by omega), hp]
  simp only [hk]
  simp
set_option maxRecDepth 100000 in
set_option maxHeartbeats 4000000 in
theorem cOrder5 {w : World} {F : Nat → Prop} {S p : Nat} {s : Shf} (h : ShfAt w F S p s) (o : Ord) (hk : o.kind = 5) :
    Calls Tryz.prog 76 #[.pointer (some ⟨S, p, none⟩), o.val] w fun e w' => e = .returned (.tuple #[.int .i64 (s.order o).1, .int .i64 (s.order o).2.1]) ∧ Ordered F S p s (s.next o) w w' := by
  have hok := Lib.hid (next_ok h.ok o)
  have H := Lib.hid h
  have hfr := h.ok.free
  have hsum := h.ok.sum
  have hus := h.ok.used
  have hnn := h.ok.nonneg
  have hmade := h.ok.made
  have hS := h.lt
  have Hno := Lib.hid (fun hh => close_none5 (s := s) hk hh)
  have Hol := Lib.hid (fun h1 hh hp => close_old5 (s := s) h1 hk hh hp)
  have Hgk := Lib.hid (fun h1 hh i hp => close_code5 (s := s) h1 hk hh i hp)
  obtain ⟨k, c, l, id⟩ := o
  simp only at hk hok Hno Hol Hgk
  subst hk
  unfold Ord.val
  simp only
  obtain ⟨⟨x0, x1, x2, x3⟩, -⟩ := four_cells (heap_alloc_new w (.cells #[.int .i64 5, .int .i64 c, .int .i64 l, .int .i64 id] 135))
  have hb : Below w.heap.size w (w.alloc (.cells #[.int .i64 5, .int .i64 c, .int .i64 l, .int .i64 id] 135)) := (Below.refl _ _).alloc (Nat.le_refl _) _
  have Hb := Lib.hid hb
  clear h hb
  go_enter Tryz.func76, Tryz.ntmps76
  go_upto_region 1 with (fail)
  generalize w.alloc (.cells #[.int .i64 5, .int .i64 c, .int .i64 l, .int .i64 id] 135) = W at *
  have HW : Hid (ShfAt W.drew F S p s) := H.out.on Hb.out.drew
  have HBd : Hid (Below w.heap.size w W.drew) := Hb.out.drew
  rcases count_three c with hd | ⟨hd, hd2⟩ | ⟨hd, hd2⟩
  all_goals
    go_upto_region 24 with (fail)
    refine wp_still_tail 6 (by kernel_rfl) (by kernel_rfl) ?_
    simp only [List.take_succ_cons, List.take_zero, List.drop_succ_cons, List.drop_zero]
    repeat still_step
    refine wpStill_nil ?_
    clear x0 x1 x2 x3
    by_cases hlow : id < 1
    case pos =>
      go_wp2_with fail
      refine (cCloseLow id hlow).mono ?_
      rintro e w' ⟨rfl, hb'⟩
      have HB' : Hid (Below w.heap.size w w') := HBd.out.trans (hb'.mono HBd.out.size)
      clear hb'
      go_wp2_with fail
      go_ret2
      unfold Shf.next
      rw [Hno.out (Or.inl hlow)]
      exact ⟨rfl, .same H.out HB'.out⟩
    have d0 : 1 ≤ id := by omega
    have D0 := Lib.hid d0
    clear hlow
    by_cases hno : s.made < id
    · go_wp2_with fail
      refine (cCloseNone0 HW.out id D0.out hno).mono ?_
      rintro e w' ⟨rfl, hb'⟩
      have HB' : Hid (Below w.heap.size w w') := HBd.out.trans (hb'.mono HBd.out.size)
      clear hb'
      go_wp2_with fail
      go_ret2
      unfold Shf.next
      rw [Hno.out (Or.inr hno)]
      exact ⟨rfl, .same H.out HB'.out⟩
    have Hn := Lib.hid hno
    cases hp : s.place id with
    | none =>
      go_wp2_with fail
      refine (cCloseOld0 HW.out id D0.out (by have := Hn.out; omega) hp).mono ?_
      rintro e w' ⟨rfl, hb'⟩
      have HB' : Hid (Below w.heap.size w w') := HBd.out.trans (hb'.mono HBd.out.size)
      clear hb'
      go_wp2_with fail
      go_ret2
      unfold Shf.next
      rw [Hol.out D0.out (by have := Hn.out; omega) hp]
      exact ⟨rfl, .same H.out HB'.out⟩
    | some i =>
      go_wp2_with fail
      refine (cClose0 HW.out ⟨5, c, l, id⟩ rfl D0.out (Int.not_lt.2 Hn.out) i hp).mono ?_
      rintro e w' ⟨rfl, h1, h2, h3⟩
      have HB' : Hid (Ordered F S p s (s.next ⟨5, c, l, id⟩) w w') := ⟨h1, (ShW.of_below HBd.out).trans h2, (Chc.of_below HBd.out).trans h3⟩
      clear h1 h2 h3
      go_wp2_with fail
      go_ret2
      rw [(Hgk.out D0.out (by have := Hn.out; omega) i hp).1, (Hgk.out D0.out (by have := Hn.out; omega) i hp).2]
      exact ⟨rfl, HB'.out⟩
end Go.Proofs.YtjdedflfdlhkdaaGreatDoor
