/- Tallies of three branches: left, Left; copies. -/
import Derived.Test.YtkeefpeffeoakaaTallyM
import Derived.Test.YtkeefpeffeoakaaClockPlay
namespace Go.Proofs.Ytkeefpeffeoakaa
open Go.ChangeShapes Go.WideShapes Go.ChangeAt Go.RowKit
set_option linter.unusedVariables false

theorem tlPart_bd (t : Tl) (hin : TlIn t 1048576) (w : Nat) (hw : w < 3) : ∀ k, k ≤ 3 → -(1048576 * (k + 1)) ≤ tlPart t w k ∧ tlPart t w k ≤ 1048576 * (k + 1)
  | 0, _ => by have a := hin.1 w w hw hw; have b := hin.2 w hw; simp only [tlPart]; omega
  | k + 1, hk => by
    have ih := tlPart_bd t hin w hw k (by omega)
    have a := hin.1 k w (by omega) hw
    have b := hin.1 w k hw (by omega)
    simp only [tlPart]
    split <;> omega
theorem tlLeft_bd (t : Tl) (hin : TlIn t 1048576) (w : Nat) (hw : w < 3) : -4194304 ≤ tlLeft t w ∧ tlLeft t w ≤ 4194304 := by
  have := tlPart_bd t hin w hw 3 (by omega)
  unfold tlLeft; omega
theorem ctThere (bm om cm bu ou cu : Nat) (x : Nat) (w : World) (hx : x < 3) :
    Calls Try.prog 35 #[tlV bm om cm bu ou cu, .int .i64 x] w fun e w' => e = .returned (.bool true) ∧ Below w.heap.size w w' := by
  have hx' : (x : Int) < 3 := by omega
  go_enter Try.func35, Try.ntmps35
  go_wp2
  go_ret
  exact ⟨rfl, (by repeat (first | exact Below.refl _ _ | refine Below.drew ?_ | refine Below.alloc ?_ (by first | (simp; done) | (simp; omega)) _ | refine Below.setCell ?_ (by first | (simp; done) | (simp; omega)) _))⟩
set_option maxRecDepth 100000 in
set_option maxHeartbeats 2000000 in
theorem ctleft (bm om cm bu ou cu : Nat) (t : Tl) (x : Nat) (w : World) (h : TlAt w bm om cm bu ou cu t) (hin : TlIn t 1048576) (hx : x < 3) :
    Calls Try.prog 36 #[tlV bm om cm bu ou cu, .int .i64 x] w fun e w' => e = .returned (.int .i64 (tlLeft t x)) ∧ Below w.heap.size w w' := by
  have H := Lib.hid h
  have Hin := Lib.hid hin
  obtain ⟨c1, c2⟩ := h.cm
  obtain ⟨c3, c4⟩ := h.cu
  unfold maxLen at c2 c4
  have hb : Below w.heap.size w (w.alloc (.cells #[.slice (some ⟨bm, om, none⟩) 3 cm, .slice (some ⟨bu, ou, none⟩) 3 cu] 48)) := (by repeat (first | exact Below.refl _ _ | refine Below.drew ?_ | refine Below.alloc ?_ (by first | (simp; done) | (simp; omega)) _ | refine Below.setCell ?_ (by first | (simp; done) | (simp; omega)) _))
  obtain ⟨b1, o1, k1, g1, ⟨g2, g3⟩, g4⟩ := (H.out.m.on hb).c x hx
  have g5 := g4.c x hx
  have g6 := (H.out.u.on hb).c x hx
  have a1 := hin.1 x x hx hx
  have a2 := hin.2 x hx
  have Hb := Lib.hid hb
  unfold maxLen at g3
  have e0 : Hid (t.m x x - t.u x = tlPart t x 0) := rfl
  have t0 : (w.alloc (.cells #[.slice (some ⟨bm, om, none⟩) 3 cm, .slice (some ⟨bu, ou, none⟩) 3 cu] 48)).cell? ⟨w.heap.size, 0, none⟩ = some (.slice (some ⟨bm, om, none⟩) 3 cm) := by rw [World.cell?_alloc_at _ _ _ _ rfl]; rfl
  have t1 : (w.alloc (.cells #[.slice (some ⟨bm, om, none⟩) 3 cm, .slice (some ⟨bu, ou, none⟩) 3 cu] 48)).cell? ⟨w.heap.size, 1, none⟩ = some (.slice (some ⟨bu, ou, none⟩) 3 cu) := by rw [World.cell?_alloc_at _ _ _ _ rfl]; rfl
  have T0 := Lib.hid t0
  have T1 := Lib.hid t1
  have G4 := Lib.hid g4
  have G1 := Lib.hid g1
  clear h hin g4 hb
  go_enter Try.func36, Try.ntmps36
  go_upto_region 1 with (fail)
  generalize hW1 : w.alloc (.cells #[.slice (some ⟨bm, om, none⟩) 3 cm, .slice (some ⟨bu, ou, none⟩) 3 cu] 48) = W1 at *
  have HW1 := Lib.hid hW1
  clear hW1
  go_quiet (fail)
  go_wp2_with fail
  go_loopw [5, 6, 24] (fun n _ i wr => ∃ k : Nat, k ≤ 3 ∧ i = .int .i64 k ∧ n = .int .i64 (tlPart t x k) ∧ Below W1.heap.size W1 wr) (fun _ _ i _ => 3 - (intOf i).toNat)
  case atStart => exact ⟨0, by omega, rfl, by rw [e0.out], below_drewN (Below.refl _ _) _⟩
  case round =>
    clear g1 g5 g6 t0 t1 a1 a2
    obtain ⟨k, hk, rfl, rfl, hbr⟩ := hrel
    have Hbr := Lib.hid hbr
    by_cases h1 : k < 3
    · have t0 := cell_on hbr T0.out
      have t1 := cell_on hbr T1.out
      obtain ⟨q1, q2⟩ := tlPart_bd t Hin.out x hx k hk
      by_cases e : k = x
      · subst e
        have hn : ((k : Int) != (k : Int)) = false := by simp
        have hs : Hid (tlPart t k k = tlPart t k (k + 1)) := by simp [Hid, tlPart]
        generalize tlPart t k k = z at *
        clear hbr
        go_wp2_with fail
        go_roundw
        case rel => exact ⟨k + 1, by omega, by go_num, by rw [hs.out], Hbr.out⟩
        case measure => simp [intOf]; omega
      · have hn : ((k : Int) != (x : Int)) = true := by simp; omega
        have hs : Hid (tlPart t x k + (t.m k x - t.m x k) = tlPart t x (k + 1)) := by simp [Hid, tlPart, e]
        obtain ⟨b2, o2, k2, f1, ⟨f2, f3⟩, f4⟩ := (H.out.m.on (Hb.out.trans (Hbr.out.mono Hb.out.size))).c k h1
        have f5 := f4.c x hx
        have f6 := cell_on hbr (G4.out.c k h1)
        have f7 := cell_on hbr G1.out
        unfold maxLen at f3
        have a1 := Hin.out.1 k x h1 hx
        have a2 := Hin.out.1 x k hx h1
        generalize tlPart t x k = z at *
        generalize t.m k x = z1 at *
        generalize t.m x k = z2 at *
        clear hbr f4 e
        go_wp2_with fail
        go_quiet (fail)
        go_wp2_with fail
        go_roundw
        case rel => exact ⟨k + 1, by omega, by go_num, by rw [hs.out], below_drewN Hbr.out _⟩
        case measure => simp [intOf]; omega
    · obtain rfl : k = 3 := by omega
      go_wp2
      go_ret
      exact ⟨rfl, Hb.out.trans (Hbr.out.mono Hb.out.size)⟩
set_option maxRecDepth 100000 in
set_option maxHeartbeats 2000000 in
theorem ctLeft (bm om cm bu ou cu : Nat) (t : Tl) (x : Nat) (w : World) (h : TlAt w bm om cm bu ou cu t) (hin : TlIn t 1048576) (hx : x < 3) :
    Calls Try.prog 22 #[tlV bm om cm bu ou cu, .int .i64 x] w fun e w' => e = .returned (.tuple #[.int .i64 (tlLeft t x), .int .i64 0]) ∧ Below w.heap.size w w' := by
  have H := Lib.hid h
  have Hin := Lib.hid hin
  have hb : Below w.heap.size w (w.alloc (.cells #[.slice (some ⟨bm, om, none⟩) 3 cm, .slice (some ⟨bu, ou, none⟩) 3 cu] 48)) := (by repeat (first | exact Below.refl _ _ | refine Below.drew ?_ | refine Below.alloc ?_ (by first | (simp; done) | (simp; omega)) _ | refine Below.setCell ?_ (by first | (simp; done) | (simp; omega)) _))
  have C := Lib.hid (ctMay bm om cm bu ou cu t _ (h.on hb) hin)
  clear h hin
  go_enter Try.func22, Try.ntmps22
  go_wp2_with fail
  refine C.out.mono ?_
  rintro e w1 ⟨rfl, hb1⟩
  have hb1' : Below w.heap.size w w1 := hb.trans (hb1.mono hb.size)
  have t0 := cell_on hb1 (show (w.alloc (.cells #[.slice (some ⟨bm, om, none⟩) 3 cm, .slice (some ⟨bu, ou, none⟩) 3 cu] 48)).cell? ⟨w.heap.size, 0, none⟩ = some (.slice (some ⟨bm, om, none⟩) 3 cm) by rw [World.cell?_alloc_at _ _ _ _ rfl]; rfl)
  have t1 := cell_on hb1 (show (w.alloc (.cells #[.slice (some ⟨bm, om, none⟩) 3 cm, .slice (some ⟨bu, ou, none⟩) 3 cu] 48)).cell? ⟨w.heap.size, 1, none⟩ = some (.slice (some ⟨bu, ou, none⟩) 3 cu) by rw [World.cell?_alloc_at _ _ _ _ rfl]; rfl)
  have Hb1 := Lib.hid hb1'
  clear hb hb1 hb1' C
  go_wp2_with fail
  refine (ctThere bm om cm bu ou cu x w1 hx).mono ?_
  rintro e w2 ⟨rfl, hb2⟩
  replace t0 := cell_on hb2 t0
  replace t1 := cell_on hb2 t1
  have Hb2 : Hid (Below w.heap.size w w2) := Hb1.out.trans (hb2.mono Hb1.out.size)
  clear hb2 Hb1
  go_wp2_with fail
  refine (ctleft bm om cm bu ou cu t x w2 (H.out.on Hb2.out) Hin.out hx).mono ?_
  rintro e w3 ⟨rfl, hb3⟩
  have Hb3 : Hid (Below w.heap.size w w3) := Hb2.out.trans (hb3.mono Hb2.out.size)
  clear hb3 Hb2 t0 t1
  go_wp2_with fail
  go_ret2
  exact ⟨rfl, Hb3.out⟩
/-- A tally of the call's own. -/
structure TlOwn (w : World) (base gm cm gu cu : Nat) (g c : Nat → Nat) (t : Tl) : Prop where
  m : w.ownsRow base 22 1 (.slice (some ⟨gm, 0, none⟩) 3 cm) 3 [.slice (some ⟨g 0, 0, none⟩) 3 (c 0), .slice (some ⟨g 1, 0, none⟩) 3 (c 1), .slice (some ⟨g 2, 0, none⟩) 3 (c 2)]
  r : ∀ i, i < 3 → w.ownsRow base 3 1 (.slice (some ⟨g i, 0, none⟩) 3 (c i)) 3 (ints (row3 (t.m i)))
  u : w.ownsRow base 3 1 (.slice (some ⟨gu, 0, none⟩) 3 cu) 3 (ints (row3 t.u))
  d : ∀ i j, i < 3 → j < 3 → i ≠ j → g i ≠ g j
  du : ∀ i, i < 3 → g i ≠ gu
theorem owns_caps {w : World} {base e sz n : Nat} {g cap : Nat} {xs : List Value} (h : w.ownsRow base e sz (.slice (some ⟨g, 0, none⟩) n cap) n xs) : n ≤ cap ∧ cap ≤ maxLen := by
  obtain ⟨_, a, c, he, h1, h2, _⟩ := Has.of_owns h
  simp only [Value.slice.injEq] at he
  obtain ⟨-, -, rfl⟩ := he
  exact ⟨h1, h2⟩
theorem Row3.of_owns {w : World} {base g cap : Nat} {f : Nat → Int} (h : w.ownsRow base 3 1 (.slice (some ⟨g, 0, none⟩) 3 cap) 3 (ints (row3 f))) : Row3 w g 0 f := by
  obtain ⟨g', cp', he, _, _, _, hgc⟩ := owns_some h (by omega)
  simp only [Value.slice.injEq, Option.some.injEq, Addr.mk.injEq, and_true, true_and] at he
  obtain ⟨rfl, rfl⟩ := he
  refine ⟨fun j hj => ?_, ?_⟩
  · rw [Nat.zero_add]
    refine hgc j _ ?_
    unfold ints
    rw [List.getElem?_map, row3_get f j hj]; rfl
  · obtain ⟨cs, hcs⟩ := owns_block_at h
    exact ⟨cs, _, hcs⟩
theorem TlOwn.at {w : World} {base gm cm gu cu : Nat} {g c : Nat → Nat} {t : Tl} (h : TlOwn w base gm cm gu cu g c t) : TlAt w gm 0 cm gu 0 cu t := by
  obtain ⟨cs, hcs⟩ := owns_block_at h.m
  refine ⟨⟨fun i hi => ⟨g i, 0, c i, ?_, owns_caps (h.r i hi), Row3.of_owns (h.r i hi)⟩, cs, _, hcs⟩, Row3.of_owns h.u, owns_caps h.m, owns_caps h.u⟩
  obtain ⟨g', cp', he, _, _, _, hgc⟩ := owns_some h.m (by omega)
  simp only [Value.slice.injEq, Option.some.injEq, Addr.mk.injEq, and_true, true_and] at he
  obtain ⟨rfl, rfl⟩ := he
  rw [Nat.zero_add]
  revert i
  exact three _ (hgc 0 _ rfl) (hgc 1 _ rfl) (hgc 2 _ rfl)
theorem TlOwn.on {w w' : World} {base gm cm gu cu : Nat} {g c : Nat → Nat} {t : Tl} (h : TlOwn w base gm cm gu cu g c t) (hb : Below w.heap.size w w') : TlOwn w' base gm cm gu cu g c t :=
  ⟨owns_below h.m hb, fun i hi => owns_below (h.r i hi) hb, owns_below h.u hb, h.d, h.du⟩
theorem owns_type_ne {w : World} {b1 b2 e1 e2 n1 n2 s1 s2 g1 g2 c1 c2 : Nat} {x1 x2 : List Value} (h1 : w.ownsRow b1 e1 s1 (.slice (some ⟨g1, 0, none⟩) n1 c1) n1 x1) (h2 : w.ownsRow b2 e2 s2 (.slice (some ⟨g2, 0, none⟩) n2 c2) n2 x2) (he : e1 ≠ e2) : g1 ≠ g2 := by
  rintro rfl
  obtain ⟨cs1, k1⟩ := owns_block_at h1
  obtain ⟨cs2, k2⟩ := owns_block_at h2
  rw [k1] at k2
  simp only [Option.some.injEq, Obj.cells.injEq] at k2
  exact he k2.2.1
theorem owns_ne' {w : World} {base e sz n g cap : Nat} {xs : List Value} (hown : w.ownsRow base e sz (.slice (some ⟨g, 0, none⟩) n cap) n xs) {w' : World} (hw : w'.heap[g]? = w.heap[g]?) : w'.ownsRow base e sz (.slice (some ⟨g, 0, none⟩) n cap) n xs := by
  obtain ⟨hl, h⟩ := hown
  refine ⟨hl, ?_⟩
  rcases h with h | ⟨g', cap', cur, he, hg', hh, hn, hm, hs, ht⟩
  · exact .inl h
  · simp only [Value.slice.injEq, Option.some.injEq, Addr.mk.injEq, and_true, true_and] at he
    obtain ⟨rfl, rfl⟩ := he
    exact .inr ⟨g, cap, cur, rfl, hg', by rw [hw]; exact hh, hn, hm, hs, ht⟩
theorem owns_lt' {w : World} {base e sz n g cap : Nat} {xs : List Value} (hown : w.ownsRow base e sz (.slice (some ⟨g, 0, none⟩) n cap) n xs) : g < w.heap.size := by
  obtain ⟨cs, h⟩ := owns_block_at hown
  exact (Array.getElem?_eq_some_iff.1 h).1
/-- A row of the tally written anew. -/
theorem TlOwn.row {w w' : World} {base gm cm gu cu : Nat} {g c : Nat → Nat} {t : Tl} (h : TlOwn w base gm cm gu cu g c t) (i : Nat) (hi : i < 3) (f : Nat → Int) (hw : Wrote (fun k => k = g i) w w') (hr : w'.ownsRow base 3 1 (.slice (some ⟨g i, 0, none⟩) 3 (c i)) 3 (ints (row3 f))) :
    TlOwn w' base gm cm gu cu g c ⟨fun a => if a = i then f else t.m a, t.u⟩ := by
  refine ⟨owns_ne' h.m (hw.block _ (owns_lt' h.m) ?_), fun k hk => ?_, owns_ne' h.u (hw.block _ (owns_lt' h.u) fun e => h.du i hi e.symm), h.d, h.du⟩
  · exact owns_type_ne h.m (h.r i hi) (by decide)
  · by_cases e : k = i
    · subst e; simp only [if_true]; exact hr
    · simp only [if_neg e]; exact owns_ne' (h.r k hk) (hw.block _ (owns_lt' (h.r k hk)) (h.d k i hk hi e))
theorem TlOwn.used {w w' : World} {base gm cm gu cu : Nat} {g c : Nat → Nat} {t : Tl} (h : TlOwn w base gm cm gu cu g c t) (f : Nat → Int) (hw : Wrote (fun k => k = gu) w w') (hr : w'.ownsRow base 3 1 (.slice (some ⟨gu, 0, none⟩) 3 cu) 3 (ints (row3 f))) :
    TlOwn w' base gm cm gu cu g c ⟨t.m, f⟩ :=
  ⟨owns_ne' h.m (hw.block _ (owns_lt' h.m) (owns_type_ne h.m h.u (by decide))), fun k hk => owns_ne' (h.r k hk) (hw.block _ (owns_lt' (h.r k hk)) (h.du k hk)), hr, h.d, h.du⟩
end Go.Proofs.Ytkeefpeffeoakaa
