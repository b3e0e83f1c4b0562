/- WorldServes: the walk. -/
import Derived.BigQuiet
import Derived.Test.YtjdedflfdlhkdaaDoorKaa
import Derived.Test.YtjdedflfdlhkdaaDoorKac
import Derived.Test.YtjdedflfdlhkdaaDoorWEnded
import Derived.Test.YtjdedflfdlhkdaaDoorServesL
import Derived.Test.YtjdedflfdlhkdaaDoorPurGet
namespace Go.Proofs.YtjdedflfdlhkdaaDoor.worldServes
open Go.ChangeShapes Go.WideShapes Go.ChangeAt Go.RowKit
set_option linter.unusedVariables false
set_option linter.unusedSimpArgs false

theorem srv_cfg (c0 : Cfg) (h0 : c0.Ok) (hn : c0.n = 4) (t m : Nat) (x y M : Int) (ht : t = 1 ∨ t = 2) (hm : 1 ≤ m ∧ m ≤ 9) (hx : 1 ≤ x ∧ x ≤ 4) (hy : 1 ≤ y ∧ y ≤ 4) (hM : M = 3 * (x + y)) :
    SrvC ⟨c0.n, c0.labs, t, [M, 5], m⟩ x y := by
  subst hM
  refine ⟨⟨h0.n, h0.len, h0.labs, by simp only; omega, by simp, fun z hz => ?_, by simp only; omega⟩, hn, rfl, hm, ht, hx, hy⟩
  simp only [List.mem_cons, List.not_mem_nil, or_false] at hz
  rcases hz with rfl | rfl <;> omega
set_option maxRecDepth 100000 in
set_option maxHeartbeats 16000000 in
theorem walk (w : World) (hL : OrdVar w) (v0 : Value) (ls : List Int) (A0 : Has w 1 v0 ls.length (ints ls) ∧ ∀ x ∈ ls, -9223372036854775808 ≤ x ∧ x ≤ 9223372036854775807) (a1 a2 a3 a4 : Int)
    (wf1 : (Lit.int .i64 a1).wf = true) (wf2 : (Lit.int .i64 a2).wf = true) (wf3 : (Lit.int .i64 a3).wf = true) (wf4 : (Lit.int .i64 a4).wf = true) :
    Calls Tryd.prog 4 #[v0, .int .i64 a1, .int .i64 a2, .int .i64 a3, .int .i64 a4] w fun e w' => e = .returned (.bool true) ∧ Below w.heap.size w w' := by
  have C0 := Lib.hid (cConfigR hL (a1.tmod 3) 0 a2 A0.1 (by rfl))
  have Hok := Lib.hid (cfgOf_ok ls (a1.tmod 3) 0 a2)
  have hn4 : Hid ((cfgOf ls (a1.tmod 3) 0 a2).n = 4) := (rfl : _ = _)
  have hlb : Hid ((cfgOf ls (a1.tmod 3) 0 a2).labs.length = 3) := (labsK_len ls 3 : _ = _)
  generalize cfgOf ls (a1.tmod 3) 0 a2 = c0 at *
  have P1 := Lib.hid fun X => picked a1 2 (by omega) (by omega) X
  rw [← (pn_eq a1 2 (by omega)).1] at P1
  have b1 := (pn_eq a1 2 (by omega)).2
  have P2 := Lib.hid fun X => picked a2 9 (by omega) (by omega) X
  rw [← (pn_eq a2 9 (by omega)).1] at P2
  have b2 := (pn_eq a2 9 (by omega)).2
  have P3 := Lib.hid fun X => picked a3 4 (by omega) (by omega) X
  rw [← (pn_eq a3 4 (by omega)).1] at P3
  have b3 := (pn_eq a3 4 (by omega)).2
  have P4 := Lib.hid fun X => picked a4 4 (by omega) (by omega) X
  rw [← (pn_eq a4 4 (by omega)).1] at P4
  have b4 := (pn_eq a4 4 (by omega)).2
  generalize pn a1 2 = t at *
  generalize pn a2 9 = m at *
  generalize pn a3 4 = x at *
  generalize pn a4 4 = y at *
  obtain ⟨tt, htt⟩ : ∃ z, z = 1 + t := ⟨_, rfl⟩
  obtain ⟨mm, hmm⟩ : ∃ z, z = 1 + m := ⟨_, rfl⟩
  obtain ⟨X1, hX1⟩ : ∃ z : Int, z = 1 + (x : Int) := ⟨_, rfl⟩
  obtain ⟨Y1, hY1⟩ : ∃ z : Int, z = 1 + (y : Int) := ⟨_, rfl⟩
  obtain ⟨M1, hM1⟩ : ∃ z : Int, z = 3 * (X1 + Y1) := ⟨_, rfl⟩
  obtain ⟨XY, hXY⟩ : ∃ z : Int, z = X1 + Y1 := ⟨_, rfl⟩
  have HC := Lib.hid (srv_cfg c0 Hok.out hn4.out tt mm X1 Y1 M1 (by omega) (by omega) (by omega) (by omega) hM1)
  have e1 : IntKind.i64.wrap (1 + (t : Int)) = (tt : Int) := by rw [IntWalk.i64_in _ (by omega)]; omega
  have e2 : IntKind.i64.wrap (1 + (m : Int)) = (mm : Int) := by rw [IntWalk.i64_in _ (by omega)]; omega
  have e3 : IntKind.i64.wrap (1 + (x : Int)) = X1 := by rw [IntWalk.i64_in _ (by omega)]; omega
  have e4 : IntKind.i64.wrap (1 + (y : Int)) = Y1 := by rw [IntWalk.i64_in _ (by omega)]; omega
  have e5 : IntKind.i64.wrap (X1 + Y1) = XY := by rw [IntWalk.i64_in _ (by omega)]; omega
  have e6 : IntKind.i64.wrap (3 * XY) = M1 := by rw [IntWalk.i64_in _ (by omega)]; omega
  clear A0 wf1 wf2 wf3 wf4 hL b1 b2 b3 b4 htt hmm hX1 hY1 hM1 hXY
  unfold Cfg.cells at C0
  go_enter Tryd.func4, Tryd.ntmps4
  go_wp2_with fail
  refine C0.out.mono ?_
  rintro e w1 ⟨gl, cl, gm, rfl, hR, hb1⟩
  have h0 := heap_alloc_new w1 (.cells (c0.cells (.slice (some ⟨gl, 0, none⟩) 3 cl) (.slice (some ⟨gm, 0, none⟩) 2 2)) 25)
  have hbx := cfg_box w1 c0 (.slice (some ⟨gl, 0, none⟩) 3 cl) (.slice (some ⟨gm, 0, none⟩) 2 2)
  have HR := Lib.hid hR
  have Hb1 := Lib.hid hb1
  unfold Cfg.cells at h0 hbx
  clear C0 hR hb1
  go_upto_region 2 with (fail)
  generalize (w1.alloc (.cells #[.int .i64 c0.n, .slice (some ⟨gl, 0, none⟩) 3 cl, .int .i64 c0.ticks, .slice (some ⟨gm, 0, none⟩) 2 2, .int .i64 c0.cap] 25)) = W1 at *
  obtain ⟨B, hB⟩ : ∃ z, z = w1.heap.size := ⟨_, rfl⟩
  have HBW1 : Hid (Below B w1 W1) := by rw [hB]; exact hbx
  have HBeq := Lib.hid hB
  rw [← hB] at h0 ⊢
  clear hB hbx
  obtain ⟨⟨x0, x1, x2, x3, x4⟩, -⟩ := five_at h0
  have fz := (five_at h0).2 2
  go_upto_region 3 with (go_at_call 9; refine (P1.out _).mono ?_; rintro e w' ⟨rfl, rfl⟩)
  have h2 : (W1.setCell ⟨B, 2, none⟩ (.int .i64 (tt : Int))).heap[B]? = some (.cells #[.int .i64 c0.n, .slice (some ⟨gl, 0, none⟩) 3 cl, .int .i64 (tt : Int), .slice (some ⟨gm, 0, none⟩) 2 2, .int .i64 c0.cap] 25 (0, 0)) := heap_setCell_same _ B 2 _ _ (.int .i64 (tt : Int)) h0
  have hbs : Below B W1 (W1.setCell ⟨B, 2, none⟩ (.int .i64 (tt : Int))) := (Below.refl B W1).setCell (p := ⟨B, 2, none⟩) (Nat.le_refl B) _
  generalize (W1.setCell ⟨B, 2, none⟩ (.int .i64 (tt : Int))) = W2 at *
  have HBW2 := Lib.hid (HBW1.out.trans hbs)
  clear hbs fz
  clear h0 x0 x1 x2 x3 x4
  obtain ⟨⟨x0, x1, x2, x3, x4⟩, -⟩ := five_at h2
  have fz := (five_at h2).2 4
  go_upto_region 4 with (go_at_call 9; refine (P2.out _).mono ?_; rintro e w' ⟨rfl, rfl⟩)
  have h3 : (W2.setCell ⟨B, 4, none⟩ (.int .i64 (mm : Int))).heap[B]? = some (.cells #[.int .i64 c0.n, .slice (some ⟨gl, 0, none⟩) 3 cl, .int .i64 (tt : Int), .slice (some ⟨gm, 0, none⟩) 2 2, .int .i64 (mm : Int)] 25 (0, 0)) := heap_setCell_same _ B 4 _ _ (.int .i64 (mm : Int)) h2
  have hbs : Below B W2 (W2.setCell ⟨B, 4, none⟩ (.int .i64 (mm : Int))) := (Below.refl B W2).setCell (p := ⟨B, 4, none⟩) (Nat.le_refl B) _
  generalize (W2.setCell ⟨B, 4, none⟩ (.int .i64 (mm : Int))) = W3 at *
  have HBW3 := Lib.hid (HBW2.out.trans hbs)
  clear hbs fz
  clear h2 x0 x1 x2 x3 x4
  obtain ⟨⟨x0, x1, x2, x3, x4⟩, -⟩ := five_at h3
  go_upto_region 5 with (go_at_call 9; refine (P3.out _).mono ?_; rintro e w' ⟨rfl, rfl⟩)
  go_upto_region 6 with (go_at_call 9; refine (P4.out _).mono ?_; rintro e w' ⟨rfl, rfl⟩)
  have hlt3 : B < W3.heap.size := World.block_lt_of_cell? W3 _ x0
  have fz4 := (five_at h3).2 3
  have h4 : (W3.setCell ⟨B, 3, none⟩ (.slice (some ⟨W3.heap.size, 0, none⟩) 2 2)).heap[B]? = some (.cells #[.int .i64 c0.n, .slice (some ⟨gl, 0, none⟩) 3 cl, .int .i64 (tt : Int), .slice (some ⟨W3.heap.size, 0, none⟩) 2 2, .int .i64 (mm : Int)] 25 (0, 0)) := heap_setCell_same _ B 3 _ _ (.slice (some ⟨W3.heap.size, 0, none⟩) 2 2) h3
  have hb4 : Below B W3 (W3.setCell ⟨B, 3, none⟩ (.slice (some ⟨W3.heap.size, 0, none⟩) 2 2)) := (Below.refl B W3).setCell (p := ⟨B, 3, none⟩) (Nat.le_refl B) _
  have hs4 : (W3.setCell ⟨B, 3, none⟩ (.slice (some ⟨W3.heap.size, 0, none⟩) 2 2)).heap.size = W3.heap.size := by simp [World.setCell]
  go_upto_region 7 with (fail)
  generalize (W3.setCell ⟨B, 3, none⟩ (.slice (some ⟨W3.heap.size, 0, none⟩) 2 2)) = W4 at *
  have h5 : (W4.alloc (.cells #[.int .i64 M1, .int .i64 5] 3)).heap[B]? = some (.cells #[.int .i64 c0.n, .slice (some ⟨gl, 0, none⟩) 3 cl, .int .i64 (tt : Int), .slice (some ⟨W3.heap.size, 0, none⟩) 2 2, .int .i64 (mm : Int)] 25 (0, 0)) := by rw [Below.heap_alloc _ _ _ (by rw [hs4]; exact hlt3)]; exact h4
  have hg5 : (W4.alloc (.cells #[.int .i64 M1, .int .i64 5] 3)).heap[W3.heap.size]? = some (.cells #[.int .i64 M1, .int .i64 5] 3 (0, 0)) := by rw [← hs4]; exact heap_alloc_new _ _
  have hb5 : Below B W4 (W4.alloc (.cells #[.int .i64 M1, .int .i64 5] 3)) := (Below.refl B W4).alloc (by omega) _
  generalize (W4.alloc (.cells #[.int .i64 M1, .int .i64 5] 3)) = W5 at *
  obtain ⟨GM, hGM⟩ : ∃ z, z = W3.heap.size := ⟨_, rfl⟩
  rw [← hGM] at hg5 h5 ⊢
  have HBW5 := Lib.hid ((HBW3.out.trans hb4).trans hb5)
  clear hGM h4 fz4 hb4 hb5 hs4 h3 x0 x1 x2 x3 x4 hlt3
  obtain ⟨⟨x0, x1, x2, x3, x4⟩, -⟩ := five_at h5
  have hMint : Has W5 1 (.slice (some ⟨GM, 0, none⟩) 2 2) 2 (ints [M1, 5]) := ⟨⟨rfl, fun n cap h => by simp at h⟩, some ⟨GM, 0, none⟩, 2, rfl, Nat.le_refl _, by decide, fun _ => ⟨GM, 0, rfl, fun j u hu => by rw [cell_of_row W5 _ _ _ _ _ hg5]; simpa [ints] using hu⟩⟩
  have hGlt : GM < W5.heap.size := (Array.getElem?_eq_some_iff.1 hg5).1
  have hbl : Below w1.heap.size w1 W5 := by rw [← HBeq.out]; exact HBW5.out
  have hRd : Rdy W5 ⟨c0.n, c0.labs, tt, [M1, 5], mm⟩ (.slice (some ⟨gl, 0, none⟩) 3 cl) (.slice (some ⟨GM, 0, none⟩) 2 2) :=
    ⟨⟨HR.out.cf.hl.below hbl, hMint⟩, HR.out.il.mono (fun b hb => Nat.lt_of_lt_of_le hb hbl.size), fun b off n c h => by simp only [Value.slice.injEq, Option.some.injEq, Addr.mk.injEq] at h; obtain ⟨⟨rfl, -, -⟩, -⟩ := h; exact hGlt, HR.out.od.on hbl HR.out.od.pos⟩
  have HRd := Lib.hid hRd
  have HFB := Lib.hid (Hb1.out.trans (hbl.mono Hb1.out.size))
  clear h5 hg5 hMint hGlt hbl hRd HR HBW1 HBW2 HBW3 HBW5 Hb1
  have h8 : Has (W5.alloc (.cells #[.int .i64 1, .int .i64 1, .int .i64 0, .int .i64 X1, .int .i64 0, .int .i64 0, .int .i64 0, .int .i64 0, .int .i64 1, .int .i64 3, .int .i64 0, .int .i64 Y1, .int .i64 0, .int .i64 0, .int .i64 0, .int .i64 0] 30)) 8 (.slice (some ⟨W5.heap.size, 0, none⟩) 2 2) 2 (stps (srvS X1 Y1)) := has_block (wp := W5) (cs := stps (srvS X1 Y1)) (heap_alloc_new _ _) rfl rfl (by decide)
  have hb8 : Below W5.heap.size W5 (W5.alloc (.cells #[.int .i64 1, .int .i64 1, .int .i64 0, .int .i64 X1, .int .i64 0, .int .i64 0, .int .i64 0, .int .i64 0, .int .i64 1, .int .i64 3, .int .i64 0, .int .i64 Y1, .int .i64 0, .int .i64 0, .int .i64 0, .int .i64 0] 30)) := (Below.refl _ _).alloc (Nat.le_refl _) _
  go_upto_region 9 with (fail)
  generalize (W5.alloc (.cells #[.int .i64 1, .int .i64 1, .int .i64 0, .int .i64 X1, .int .i64 0, .int .i64 0, .int .i64 0, .int .i64 0, .int .i64 1, .int .i64 3, .int .i64 0, .int .i64 Y1, .int .i64 0, .int .i64 0, .int .i64 0, .int .i64 0] 30)) = W6 at *
  generalize (Value.slice (some ⟨W5.heap.size, 0, none⟩) 2 2) = sv0 at *
  have H8 := Lib.hid h8
  have HX : Hid (∀ Y, Below W6.heap.size W6 Y → (Y.cell? ⟨B, 0, none⟩ = some (.int .i64 c0.n) ∧ Y.cell? ⟨B, 1, none⟩ = some (.slice (some ⟨gl, 0, none⟩) 3 cl) ∧ Y.cell? ⟨B, 2, none⟩ = some (.int .i64 tt) ∧ Y.cell? ⟨B, 3, none⟩ = some (.slice (some ⟨GM, 0, none⟩) 2 2) ∧ Y.cell? ⟨B, 4, none⟩ = some (.int .i64 mm))) := fun Y q =>
    ⟨cell_on q (cell_on hb8 x0), cell_on q (cell_on hb8 x1), cell_on q (cell_on hb8 x2), cell_on q (cell_on hb8 x3), cell_on q (cell_on hb8 x4)⟩
  have HR6 := Lib.hid (HRd.out.on hb8)
  have HF6 := Lib.hid (HFB.out.trans (hb8.mono HFB.out.size))
  clear h8 hb8 x0 x1 x2 x3 x4 HRd HFB
  have HLN : Hid (∀ j, (fullN (srvS X1 Y1) j).length = 2 + 21 * j) := fun j => by rw [fullN_len]; rfl
  go_loopw [14, 15] (fun v i wr => ∃ k : Nat, k ≤ 10 ∧ i = .int .i64 (k : Int) ∧ Hid (Has wr 8 v (fullN (srvS X1 Y1) k).length (stps (fullN (srvS X1 Y1) k))) ∧ Hid (Below W6.heap.size W6 wr)) (fun _ i _ => 10 - (intOf i).toNat)
  case atStart => exact ⟨0, by omega, rfl, H8.out, Below.refl _ _⟩
  case round =>
    clear H8
    obtain ⟨k, hk, rfl, HO, HB⟩ := hrel
    by_cases hlt : k < 10
    · have hltz : (k : Int) < 10 := by omega
      have HK := Lib.hid hlt
      have hlk := HLN.out k
      have CF := Lib.hid (cFull _ (fullN (srvS X1 Y1) k) wr HO.out (by omega))
      clear hlk hlt hk HO
      go_wp2_with fail
      refine CF.out.mono ?_
      rintro e w7 ⟨v7, rfl, hown7, hb7⟩
      have H7 : Hid (Has w7 8 v7 (fullN (srvS X1 Y1) (k + 1)).length (stps (fullN (srvS X1 Y1) (k + 1)))) := Has.of_owns hown7
      have HB7 := Lib.hid (HB.out.trans (hb7.mono HB.out.size))
      clear hown7 hb7 CF HB
      go_wp2_with fail
      go_roundw
      case rel => exact ⟨k + 1, HK.out, by go_num, H7, HB7⟩
      case measure => have := HK.out; first | (simp [intOf]; done) | (simp [intOf]; omega)
    · obtain rfl : k = 10 := by omega
      have hl10 := HLN.out 10
      have CE := Lib.hid (cended HC.out.ok HC.out.n rfl (by show c0.labs.length = 3; exact hlb.out) (HR6.out.on HB.out) _ (fullN (srvS X1 Y1) 10) HO.out (by omega))
      have HOKs : Hid (SrvOk (wFold ⟨c0.n, c0.labs, tt, [M1, 5], mm⟩ (fullN (srvS X1 Y1) 10)).1 X1 Y1) := srv_ok HC.out
      obtain ⟨y0, y1, y2, y3, y4⟩ := HX.out wr HB.out
      have HFr := Lib.hid (HF6.out.trans (HB.out.mono HF6.out.size))
      unfold Cfg.cells at CE
      generalize (wFold ⟨c0.n, c0.labs, tt, [M1, 5], mm⟩ (fullN (srvS X1 Y1) 10)).1 = s at *
      clear hl10 HO hlt hk
      go_wp2_with fail
      refine CE.out.mono ?_
      rintro e w9 ⟨r, p, tv', pv, tv, ev, rfl, hE, hb9⟩
      obtain ⟨pb, po, pc, rfl, ⟨hpc1, hpc2⟩, hpa⟩ := hE.pcell HC.out.n rfl
      obtain ⟨p0, b0, o0, c0', hv0, ⟨k0, k0'⟩, hc0⟩ := hpa 0 (by omega)
      obtain ⟨p1, b1, o1, c1', hv1, ⟨k1, k1'⟩, hc1⟩ := hpa 1 (by omega)
      obtain ⟨p3, b3, o3, c3', hv3, ⟨k3, k3'⟩, hc3⟩ := hpa 3 (by omega)
      rw [hv0] at p0
      rw [hv1] at p1
      rw [hv3] at p3
      have f0 := hc0 0 (by omega) 3 _ (by omega) rfl
      have f1 := hc1 0 (by omega) 3 _ (by omega) rfl
      have f3 := hc3 0 (by omega) 3 _ (by omega) rfl
      have g1 := hc1 0 (by omega) 0 _ (by omega) rfl
      rw [HOKs.out.c] at f0
      rw [HOKs.out.a] at f1
      rw [HOKs.out.b] at f3
      rw [HOKs.out.d] at g1
      simp only [Nat.zero_mul, Nat.add_zero] at f0 f1 f3 g1 p0
      have HF9 := Lib.hid (HFr.out.trans (hb9.mono HFr.out.size))
      clear CE hE hb9 hpa hc0 hc1 hc3 y0 y1 y2 y3 y4 hv0 hv1 hv3
      go_wp2_with fail
      go_ret
      exact ⟨rfl, HF9.out⟩
end Go.Proofs.YtjdedflfdlhkdaaDoor.worldServes
