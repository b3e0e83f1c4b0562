/- Package hold: hold. -/
import Derived.Test.YtgmichaconnhaaaHoldQ
namespace Go.Proofs.Ytgmichaconnhaaa
open Go.ChangeShapes Go.WideShapes Go.ChangeAt Go.RowKit
set_option linter.unusedVariables false
set_option linter.unusedSimpArgs false

theorem hold_order {s : Shf} {o : Ord} (ho : o.Ok) (hk : o.kind = 3) (hfull : ¬ s.hs.length = 4) (hless : ¬ s.free < o.count) :
    s.order o = (s.made + 1, 0, ⟨s.free - o.count, s.used, s.made + 1, s.hs ++ [⟨s.made + 1, o.count, o.life⟩]⟩) := by
  have h1 := ho.counts (by omega)
  have h2 := ho.count
  have h3 := ho.lives hk
  have h4 := ho.life
  unfold Shf.order
  rw [if_neg (by omega), if_neg (by omega), if_neg (by omega), if_neg (by omega), if_pos hk, if_neg (by omega), if_neg hfull, if_neg hless]
theorem hold_step {w W4 w6 : World} {base S : Nat} {s s' : Shf} {v v6 : Value} {x : Hd} (hl : base ≤ S) (hb4 : Below base w W4) (hc4 : Chc [103, 146] w W4)
    (hS4 : W4.heap[S]? = some (.cells #[.int .i64 s'.free, .int .i64 s'.used, .int .i64 s'.made, v] 103 (0, 0))) (hown4 : W4.ownsRow base 146 3 v s.hs.length (hcs s.hs))
    (h6 : w6.ownsRow base 146 3 v6 (s.hs.length + 1) (hcs s.hs ++ x.cells)) (hg : W4.grownBy w6 v.ownBlock) (hb6 : Below base W4 w6) (hs' : s'.hs = s.hs ++ [x]) (hok : s'.Ok) :
    (w6.cell? ⟨S, 3, none⟩ = some v ∧ w6.frozen? ⟨S, 3, none⟩ = false) ∧ ShfAt (w6.setCell ⟨S, 3, none⟩ v6) base S s' ∧ Below base w (w6.setCell ⟨S, 3, none⟩ v6) ∧ Chc [103, 146] w (w6.setCell ⟨S, 3, none⟩ v6) ∧ (w6.setCell ⟨S, 3, none⟩ v6).cell? ⟨S, 2, none⟩ = some (.int .i64 s'.made) := by
  have hc6 := Chc.grown (T := [146]) hown4 hg (by simp)
  have hS6 := hc6.block _ _ _ _ hS4 (by decide)
  obtain ⟨⟨-, -, -, c3⟩, hfz⟩ := four_cells hS6
  have hS7 := (shelf_set hS6 v6).2.2.2
  have hc7 := Chc.setCell (T := [103]) (p := ⟨S, 3, none⟩) hS6 (by simp) v6
  obtain ⟨⟨-, -, d2, -⟩, -⟩ := four_cells hS7
  have e : hcs s.hs ++ x.cells = hcs s'.hs := by rw [hs', hcs_append]; simp [hcs]
  have e2 : s.hs.length + 1 = s'.hs.length := by rw [hs']; simp
  rw [e, e2] at h6
  exact ⟨⟨c3, hfz 3⟩, ⟨⟨v6, hS7, owns_chc h6 hc7 (by decide)⟩, hok, hl⟩, (hb4.trans hb6).setCell hl _, (hc4.trans (hc6.mono (by simp))).trans (hc7.mono (by simp)), d2⟩
set_option maxRecDepth 100000 in
set_option maxHeartbeats 4000000 in
theorem cHold {w : World} {base S : Nat} {s : Shf} (h : ShfAt w base S s) (o : Ord) (ho : o.Ok) (hk : o.kind = 3) (hfull : ¬ s.hs.length = 4) (hless : ¬ s.free < o.count) (hm : s.made ≤ 1000) :
    Calls Try.prog 75 #[.pointer (some ⟨S, 0, none⟩), o.val] w fun e w' => e = .returned (.tuple #[.int .i64 (s.made + 1), .int .i64 0]) ∧ ShfAt w' base S (s.next o) ∧ Below base w w' ∧ Chc [103, 146] w w' := by
  have hok := Lib.hid (next_ok h.ok o)
  have hnx : s.next o = ⟨s.free - o.count, s.used, s.made + 1, s.hs ++ [⟨s.made + 1, o.count, o.life⟩]⟩ := by unfold Shf.next; rw [hold_order ho hk hfull hless]
  rw [hnx] at hok ⊢
  have Hl := Lib.hid h.lo
  have hfr := h.ok.free
  have hsum := h.ok.sum
  have hus := h.ok.used
  have hnn := h.ok.nonneg
  have hm0 := h.ok.made
  have hfew := h.ok.few
  obtain ⟨v, h1, h2⟩ := h.ex
  obtain ⟨a, cap, rfl⟩ := owns_slice h2
  have hS := h.lt
  obtain ⟨k, c, l, id⟩ := o
  obtain ⟨l0, l1⟩ := ho.life
  have l2 := ho.lives hk
  obtain ⟨k0, k1⟩ := ho.count
  have k2 := ho.counts (by omega)
  simp only at l0 l1 l2 hless k0 k1 k2
  unfold Ord.val
  simp only at hok ⊢
  have hne : ((s.hs.length : Int) == 4) = false := by rw [beq_eq_false_iff_ne]; omega
  have hlt : decide (s.free < c) = false := by simp; omega
  obtain ⟨⟨x0, x1, x2, x3⟩, -⟩ := four_cells (heap_alloc_new w (.cells #[.int .i64 k, .int .i64 c, .int .i64 l, .int .i64 id] 30))
  have hb : Below w.heap.size w (w.alloc (.cells #[.int .i64 k, .int .i64 c, .int .i64 l, .int .i64 id] 30)) := (Below.refl _ _).alloc (Nat.le_refl _) _
  have hnew := heap_alloc_new w (.cells #[.int .i64 k, .int .i64 c, .int .i64 l, .int .i64 id] 30)
  have Hb := Lib.hid hb
  have H1 := Lib.hid h1
  have H2 := Lib.hid h2
  have hbs : base ≤ w.heap.size := by have := Hl.out; omega
  have hw0 : IntKind.i64.wrap (s.free - c) = s.free - c := IntWalk.i64_in _ (by omega)
  have hw1 : IntKind.i64.wrap (s.made + 1) = s.made + 1 := IntWalk.i64_in _ (by omega)
  obtain ⟨⟨s0, s1, s2, s3⟩, hfz⟩ := four_cells (show (w.alloc (.cells #[.int .i64 k, .int .i64 c, .int .i64 l, .int .i64 id] 30)).heap[S]? = some (.cells #[.int .i64 s.free, .int .i64 s.used, .int .i64 s.made, .slice a s.hs.length cap] 103 (0, 0)) by rw [hb.block S hS]; exact h1)
  clear h h1 h2 ho hk hb hnx s1
  go_enter Try.func75, Try.ntmps75
  go_upto_region 1 with (fail)
  generalize w.alloc (.cells #[.int .i64 k, .int .i64 c, .int .i64 l, .int .i64 id] 30) = W at *
  have HN := Lib.hid hnew
  clear hnew
  go_upto_region 5 with (fail)
  go_quiet (fail)
  go_upto_region 7 with (fail)
  obtain ⟨W2, hW2⟩ : ∃ X, X = W.drewN nq := ⟨_, rfl⟩
  have HB2 : Hid (Below w.heap.size w W2) := by rw [hW2]; exact below_drewN Hb.out _
  have q0 : W2.cell? ⟨S, 0, none⟩ = some (.int .i64 s.free) := by rw [hW2]; exact s0
  have q2 : W2.cell? ⟨S, 2, none⟩ = some (.int .i64 s.made) := by rw [hW2]; exact s2
  have q3 : W2.cell? ⟨S, 3, none⟩ = some (.slice a s.hs.length cap) := by rw [hW2]; exact s3
  have y1 : W2.cell? ⟨w.heap.size, 1, none⟩ = some (.int .i64 c) := by rw [hW2]; exact x1
  have y2 : W2.cell? ⟨w.heap.size, 2, none⟩ = some (.int .i64 l) := by rw [hW2]; exact x2
  have f0 : W2.frozen? ⟨S, 0, none⟩ = false := by rw [hW2]; exact hfz 0
  have f2 : W2.frozen? ⟨S, 2, none⟩ = false := by rw [hW2]; exact hfz 2
  have HN2 : Hid (W2.heap[w.heap.size]? = some (.cells #[.int .i64 k, .int .i64 c, .int .i64 l, .int .i64 id] 30 (0, 0))) := by rw [hW2]; exact HN.out
  rw [← hW2]
  clear s0 s2 s3 x0 x1 x2 x3 hW2 hfz HN
  go_region
  go_upto_region 9 with (fail)
  obtain ⟨W4, hW4⟩ : ∃ X, X = ((W2.setCell ⟨S, 0, none⟩ (.int .i64 (s.free - c))).setCell ⟨S, 2, none⟩ (.int .i64 (s.made + 1))).drew := ⟨_, rfl⟩
  have hS2 : W2.heap[S]? = some (.cells #[.int .i64 s.free, .int .i64 s.used, .int .i64 s.made, .slice a s.hs.length cap] 103 (0, 0)) := by rw [HB2.out.block S hS]; exact H1.out
  have hS3 := (shelf_set hS2 (.int .i64 (s.free - c))).1
  have hS4 : (((W2.setCell ⟨S, 0, none⟩ (.int .i64 (s.free - c))).setCell ⟨S, 2, none⟩ (.int .i64 (s.made + 1))).drew).heap[S]? = some (.cells #[.int .i64 (s.free - c), .int .i64 s.used, .int .i64 (s.made + 1), .slice a s.hs.length cap] 103 (0, 0)) := (shelf_set hS3 (.int .i64 (s.made + 1))).2.2.1
  have hc3 : Chc [103] W2 (W2.setCell ⟨S, 0, none⟩ (.int .i64 (s.free - c))) := Chc.setCell (p := ⟨S, 0, none⟩) hS2 (by simp) _
  have hc4 := (hc3.trans (Chc.setCell (p := ⟨S, 2, none⟩) hS3 (by simp) (.int .i64 (s.made + 1)))).drew
  have hb4 : Below base w (((W2.setCell ⟨S, 0, none⟩ (.int .i64 (s.free - c))).setCell ⟨S, 2, none⟩ (.int .i64 (s.made + 1))).drew) := (((HB2.out.mono hbs).setCell Hl.out _).setCell Hl.out _).drew
  have ho4 := owns_chc (owns_below H2.out HB2.out) hc4 (by decide)
  have hn4 := hc4.block _ _ _ _ HN2.out (by decide)
  rw [← hW4] at hS4 hc4 hb4 ho4 hn4
  rw [← hW4]
  obtain ⟨⟨-, z1, z2, -⟩, -⟩ := four_cells hn4
  obtain ⟨⟨-, -, r2, r3⟩, -⟩ := four_cells hS4
  have HS4 := Lib.hid hS4
  have HO4 := Lib.hid ho4
  have HB4 := Lib.hid hb4
  have HC4 : Hid (Chc [103, 146] w W4) := (Chc.of_below HB2.out).trans (hc4.mono (by simp))
  have hsz4 : base ≤ W4.heap.size := Nat.le_trans hbs hb4.size
  have hn4' : s.hs.length + 1 ≤ 4 := by omega
  have hSW := World.block_lt_of_cell? W4 _ r3
  have hNW := World.block_lt_of_cell? W4 _ z1
  clear hS2 hS3 hS4 hc3 hc4 hb4 ho4 hn4 q0 q2 q3 y1 y2 f0 f2 hW4 HB2 HN2 hw0 hw1
  go_region_law (refine step_appN (w0 := W4) (wanted_of_none (by rfl)) 101 146 3 24 _ elHold Try.underlying101 base (.slice a s.hs.length cap) s.hs.length (hcs s.hs) HO4.out (by repeat (first | exact Below.refl _ _ | refine Below.drew ?_ | refine Below.alloc ?_ (by first | (simp; done) | (simp; omega)) _ | refine Below.setCell ?_ (by first | (simp; done) | (simp; omega)) _)) _ 1 [.int .i64 (s.made + 1), .int .i64 c, .int .i64 l] (has_block (wp := W4) (by first | exact heap_alloc_new _ _ | (simp only [heap_drew, heap_drewN]; exact heap_alloc_new _ _)) (by rfl) (by rfl) (by decide)) _ _ (by rfl) (by rfl) (by rfl) (by simp [Value.oneCell']) (by omega) (by unfold maxLen; omega) hsz4 ?_; intro v6 w6 hown6 hgrow6 hb6; obtain ⟨a6, c6, rfl⟩ := owns_slice hown6; obtain ⟨⟨g3, gf⟩, hfin⟩ := hold_step (x := ⟨s.made + 1, c, l⟩) (s := s) (s' := ⟨s.free - c, s.used, s.made + 1, s.hs ++ [⟨s.made + 1, c, l⟩]⟩) Hl.out HB4.out HC4.out HS4.out HO4.out hown6 hgrow6 hb6 rfl hok.out)
  all_goals
    have Hfin := Lib.hid hfin
    have t2 := hfin.2.2.2
    clear hown6 hgrow6 hb6 hfin g3 gf
    go_wp2_with fail
    go_ret2
    exact ⟨rfl, Hfin.out.1, Hfin.out.2.1, Hfin.out.2.2.1⟩
end Go.Proofs.Ytgmichaconnhaaa
