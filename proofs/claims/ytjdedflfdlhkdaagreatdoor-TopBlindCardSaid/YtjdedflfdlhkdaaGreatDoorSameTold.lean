/- The laws' SameTold, sameViews. -/
import Derived.Test.YtjdedflfdlhkdaaGreatDoorKav
import Derived.Test.YtjdedflfdlhkdaaGreatDoorSame
import Derived.Test.YtjdedflfdlhkdaaGreatDoorSameI
namespace Go.Proofs.YtjdedflfdlhkdaaGreatDoor
open Go.ChangeShapes Go.WideShapes Go.ChangeAt Go.RowKit
set_option linter.unusedVariables false

structure RdT (w : World) (t : Tld) (s f r : Value) : Prop where
  s : Has w 4 s t.sent.length (envC t.sent)
  f : Has w 1 f t.frame.length (u8s t.frame)
  r : Has w 1 r t.report.length (ints t.report)
theorem RdT.on {w w' : World} {t : Tld} {s f r : Value} (h : RdT w t s f r) (hb : Below w.heap.size w w') : RdT w' t s f r := ⟨h.s.below hb, h.f.below hb, h.r.below hb⟩
set_option maxRecDepth 100000 in
set_option maxHeartbeats 8000000 in
theorem cSameTold {w : World} (t : Tld) {s f r s' f' r' : Value} (h : RdT w t s f r) (h' : RdT w t s' f' r') :
    Calls Tryz.prog 25 #[t.val s f r, t.val s' f' r'] w fun e w' => e = .returned (.bool true) ∧ Below w.heap.size w w' := by
  obtain ⟨tc, tw, ⟨kc, ki, kf, kh, ku⟩, tv, ts, tf, tr⟩ := t
  have H := Lib.hid h
  have H' := Lib.hid h'
  obtain ⟨⟨_, sa, sc, rfl, _, hs2, _⟩, ⟨_, fa, fc, rfl, _, _, _⟩, ⟨_, ra, rc, rfl, _, _, _⟩⟩ := h
  obtain ⟨⟨_, sa', sc', rfl, _, hs2', _⟩, ⟨_, fa', fc', rfl, _, _, _⟩, ⟨_, ra', rc', rfl, _, _, _⟩⟩ := h'
  unfold maxLen at hs2 hs2'
  simp only at *
  have hb1 : Below w.heap.size w ((w.alloc (.cells #[.int .i64 tc, .int .i64 tw, .int .i64 kc, .int .i64 ki, .int .i64 kf, .int .i64 kh, .int .i64 ku, .int .i64 tv, .slice sa ts.length sc, .slice fa tf.length fc, .slice ra tr.length rc] 57)).alloc (.cells #[.int .i64 tc, .int .i64 tw, .int .i64 kc, .int .i64 ki, .int .i64 kf, .int .i64 kh, .int .i64 ku, .int .i64 tv, .slice sa' ts.length sc', .slice fa' tf.length fc', .slice ra' tr.length rc'] 57)) := ((Below.refl _ _).alloc (Nat.le_refl _) _).alloc (by simp) _
  have hx : ((w.alloc (.cells #[.int .i64 tc, .int .i64 tw, .int .i64 kc, .int .i64 ki, .int .i64 kf, .int .i64 kh, .int .i64 ku, .int .i64 tv, .slice sa ts.length sc, .slice fa tf.length fc, .slice ra tr.length rc] 57)).alloc (.cells #[.int .i64 tc, .int .i64 tw, .int .i64 kc, .int .i64 ki, .int .i64 kf, .int .i64 kh, .int .i64 ku, .int .i64 tv, .slice sa' ts.length sc', .slice fa' tf.length fc', .slice ra' tr.length rc'] 57)).heap[w.heap.size]? = some (.cells #[.int .i64 tc, .int .i64 tw, .int .i64 kc, .int .i64 ki, .int .i64 kf, .int .i64 kh, .int .i64 ku, .int .i64 tv, .slice sa ts.length sc, .slice fa tf.length fc, .slice ra tr.length rc] 57) := by rw [Below.heap_alloc _ _ _ (by simp), heap_alloc_new]
  have hy : ((w.alloc (.cells #[.int .i64 tc, .int .i64 tw, .int .i64 kc, .int .i64 ki, .int .i64 kf, .int .i64 kh, .int .i64 ku, .int .i64 tv, .slice sa ts.length sc, .slice fa tf.length fc, .slice ra tr.length rc] 57)).alloc (.cells #[.int .i64 tc, .int .i64 tw, .int .i64 kc, .int .i64 ki, .int .i64 kf, .int .i64 kh, .int .i64 ku, .int .i64 tv, .slice sa' ts.length sc', .slice fa' tf.length fc', .slice ra' tr.length rc'] 57)).heap[w.heap.size + 1]? = some (.cells #[.int .i64 tc, .int .i64 tw, .int .i64 kc, .int .i64 ki, .int .i64 kf, .int .i64 kh, .int .i64 ku, .int .i64 tv, .slice sa' ts.length sc', .slice fa' tf.length fc', .slice ra' tr.length rc'] 57) := by
    have := heap_alloc_new (w.alloc (.cells #[.int .i64 tc, .int .i64 tw, .int .i64 kc, .int .i64 ki, .int .i64 kf, .int .i64 kh, .int .i64 ku, .int .i64 tv, .slice sa ts.length sc, .slice fa tf.length fc, .slice ra tr.length rc] 57)) (.cells #[.int .i64 tc, .int .i64 tw, .int .i64 kc, .int .i64 ki, .int .i64 kf, .int .i64 kh, .int .i64 ku, .int .i64 tv, .slice sa' ts.length sc', .slice fa' tf.length fc', .slice ra' tr.length rc'] 57)
    simpa using this
  obtain ⟨⟨x0, x1, x2, x3, x4, x5, x6, x7, x8, x9, x10⟩, -⟩ := eleven_at hx
  obtain ⟨⟨y0, y1, y2, y3, y4, y5, y6, y7, y8, y9, y10⟩, -⟩ := eleven_at hy
  have H1 := Lib.hid (H.out.on hb1)
  have H1' := Lib.hid (H'.out.on hb1)
  have Hb1 := Lib.hid hb1
  unfold Tld.val tldC
  simp only
  clear hx hy hb1 H H'
  go_enter Tryz.func25, Tryz.ntmps25
  go_upto_region 1 with (fail)
  generalize ((w.alloc (.cells #[.int .i64 tc, .int .i64 tw, .int .i64 kc, .int .i64 ki, .int .i64 kf, .int .i64 kh, .int .i64 ku, .int .i64 tv, .slice sa ts.length sc, .slice fa tf.length fc, .slice ra tr.length rc] 57)).alloc (.cells #[.int .i64 tc, .int .i64 tw, .int .i64 kc, .int .i64 ki, .int .i64 kf, .int .i64 kh, .int .i64 ku, .int .i64 tv, .slice sa' ts.length sc', .slice fa' tf.length fc', .slice ra' tr.length rc'] 57)) = W1 at *
  generalize w.heap.size + 1 = B2 at *
  obtain ⟨B1, hB1⟩ : ∃ x, x = w.heap.size := ⟨_, rfl⟩
  rw [← hB1] at x0 x1 x2 x3 x4 x5 x6 x7 x8 x9 x10 ⊢
  have HB1 := Lib.hid hB1
  have CB := Lib.hid (csameBytes (.slice fa tf.length fc) (.slice fa' tf.length fc') tf tf W1 H1.out.f H1'.out.f)
  have CI := Lib.hid (fun (Y : World) (hY : Below W1.heap.size W1 Y) => csameInts (.slice ra tr.length rc) (.slice ra' tr.length rc') tr tr Y (H1.out.r.below hY) (H1'.out.r.below hY))
  have d1 : (decide (tf = tf)) = true := by simp
  have d2 : (decide (tr = tr)) = true := by simp
  rw [d1] at CB
  rw [d2] at CI
  have hll : ((ts.length : Int) != (ts.length : Int)) = false := by simp
  clear hB1 d1 d2
  go_wp2_with fail
  refine CB.out.mono ?_
  rintro e w2 ⟨rfl, hb2⟩
  replace x8 := cell_on hb2 x8
  replace x10 := cell_on hb2 x10
  replace y8 := cell_on hb2 y8
  replace y10 := cell_on hb2 y10
  have CI2 := Lib.hid (CI.out w2 hb2)
  have HB2 := Lib.hid hb2
  clear x0 x1 x2 x3 x4 x5 x6 x7 x9 y0 y1 y2 y3 y4 y5 y6 y7 y9 CB CI hb2
  go_wp2_with fail
  refine CI2.out.mono ?_
  rintro e w3 ⟨rfl, hb3⟩
  replace x8 := cell_on hb3 x8
  replace y8 := cell_on hb3 y8
  have HB3 := Lib.hid (HB2.out.trans (hb3.mono HB2.out.size))
  clear x10 y10 CI2 HB2
  have X8 := Lib.hid x8
  have Y8 := Lib.hid y8
  clear hb3
  go_wp2_with fail
  clear x8 y8
  go_loopw [5] (fun i wr => ∃ k : Nat, k ≤ ts.length ∧ i = .int .i64 k ∧ Hid (Below w3.heap.size w3 wr)) (fun i _ => ts.length - (intOf i).toNat)
  case atStart => exact ⟨0, by omega, rfl, Below.refl _ _⟩
  case round =>
    obtain ⟨k, hk, rfl, HB⟩ := hrel
    have x8 := cell_on HB.out X8.out
    have y8 := cell_on HB.out Y8.out
    by_cases hlt : k < ts.length
    · have hltz : (k : Int) < (ts.length : Int) := by omega
      obtain ⟨eb, eo, ec, he, -, -, e0, e1, e2, e3⟩ := env_get H1.out.s k hlt
      simp only [Value.slice.injEq] at he
      obtain ⟨rfl, -, rfl⟩ := he
      obtain ⟨gb, gof, gc, he, -, -, g0, g1, g2, g3⟩ := env_get H1'.out.s k hlt
      simp only [Value.slice.injEq] at he
      obtain ⟨rfl, -, rfl⟩ := he
      have hbb := HB3.out.trans (HB.out.mono HB3.out.size)
      replace e0 := cell_on hbb e0
      replace e1 := cell_on hbb e1
      replace e2 := cell_on hbb e2
      replace e3 := cell_on hbb e3
      replace g0 := cell_on hbb g0
      replace g1 := cell_on hbb g1
      replace g2 := cell_on hbb g2
      replace g3 := cell_on hbb g3
      simp only at e0 e1 e2 e3 g0 g1 g2 g3
      generalize (ts[k]'hlt) = x at *
      obtain ⟨q0, q1, q2, q3⟩ := x
      simp only at e0 e1 e2 e3 g0 g1 g2 g3
      have HLT := Lib.hid hlt
      clear hbb hlt
      go_upto_region 6 with (fail)
      go_quiet (fail)
      go_wp2_with fail
      go_roundw
      case rel => exact ⟨k + 1, HLT.out, by go_num, below_drewN HB.out _⟩
      case measure => have := HLT.out; first | (simp [intOf]; done) | (simp [intOf]; omega)
    · obtain rfl : k = ts.length := by omega
      go_wp2_with fail
      go_ret
      exact ⟨rfl, Hb1.out.trans ((HB3.out.trans (HB.out.mono HB3.out.size)).mono Hb1.out.size)⟩
end Go.Proofs.YtjdedflfdlhkdaaGreatDoor
