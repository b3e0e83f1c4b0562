/- Tallies of three branches: a tally in a place; the laws' sameTally. -/
import Derived.Test.YtkeefpeffeoakaaTallyK
import Derived.Test.YtkeefpeffeoakaaSameI
namespace Go.Proofs.Ytkeefpeffeoakaa
open Go.ChangeShapes Go.WideShapes Go.ChangeAt Go.RowKit
set_option linter.unusedVariables false

/-- A tally in a place. -/
def TlBox (w : World) (N : Nat) (t : Tl) : Prop := ∃ bm om cm bu ou cu, w.heap[N]? = some (.cells #[.slice (some ⟨bm, om, none⟩) 3 cm, .slice (some ⟨bu, ou, none⟩) 3 cu] 48 (0, 0)) ∧ TlAt w bm om cm bu ou cu t
theorem TlBox.on {w w' : World} {N : Nat} {t : Tl} (h : TlBox w N t) (hb : Below w.heap.size w w') : TlBox w' N t := by
  obtain ⟨bm, om, cm, bu, ou, cu, h1, h2⟩ := h
  exact ⟨bm, om, cm, bu, ou, cu, by rw [hb.block _ (Array.getElem?_eq_some_iff.1 h1).1]; exact h1, h2.on hb⟩
theorem TlBox.lt {w : World} {N : Nat} {t : Tl} (h : TlBox w N t) : N < w.heap.size := by
  obtain ⟨bm, om, cm, bu, ou, cu, h1, h2⟩ := h
  exact (Array.getElem?_eq_some_iff.1 h1).1
theorem TlBox.made {w6 : World} {gm cm gu cu : Nat} {t : Tl} (h : TlAt w6 gm 0 cm gu 0 cu t) : TlBox (w6.alloc (.cells #[.slice (some ⟨gm, 0, none⟩) 3 cm, .slice (some ⟨gu, 0, none⟩) 3 cu] 48)) w6.heap.size t :=
  ⟨_, _, _, _, _, _, heap_alloc_new _ _, h.on ((Below.refl _ _).alloc (Nat.le_refl _) _)⟩
theorem TlBox.set {w6 : World} {N gm cm gu cu : Nat} {t : Tl} {p q : Value} (h : TlAt w6 gm 0 cm gu 0 cu t) (hN : w6.heap[N]? = some (.cells #[p, q] 48 (0, 0))) :
    TlBox ((w6.setCell ⟨N, 0, none⟩ (.slice (some ⟨gm, 0, none⟩) 3 cm)).setCell ⟨N, 1, none⟩ (.slice (some ⟨gu, 0, none⟩) 3 cu)) N t :=
  ⟨_, _, _, _, _, _, two_set hN _ _, h.chg (do_chg hN _ _) (by decide) (by decide)⟩
/-- Behind a region that merges into a new place: the place first, or behind the call. -/
theorem box1 {W w6 : World} {gm cm gu cu : Nat} {t : Tl} (hb6 : Below W.heap.size W w6) (h : TlAt w6 gm 0 cm gu 0 cu t) :
    TlBox (w6.alloc (.cells #[.slice (some ⟨gm, 0, none⟩) 3 cm, .slice (some ⟨gu, 0, none⟩) 3 cu] 48)) w6.heap.size t ∧ Below W.heap.size W (w6.alloc (.cells #[.slice (some ⟨gm, 0, none⟩) 3 cm, .slice (some ⟨gu, 0, none⟩) 3 cu] 48)) := ⟨.made h, hb6.alloc hb6.size _⟩
theorem box2 {W w6 : World} {gm cm gu cu : Nat} {t : Tl} {p q : Value} (hb6 : Below W.heap.size W w6) (h : TlAt w6 gm 0 cm gu 0 cu t) (hN : w6.heap[W.heap.size]? = some (.cells #[p, q] 48 (0, 0))) :
    TlBox ((w6.setCell ⟨W.heap.size, 0, none⟩ (.slice (some ⟨gm, 0, none⟩) 3 cm)).setCell ⟨W.heap.size, 1, none⟩ (.slice (some ⟨gu, 0, none⟩) 3 cu)) W.heap.size t ∧ Below W.heap.size W ((w6.setCell ⟨W.heap.size, 0, none⟩ (.slice (some ⟨gm, 0, none⟩) 3 cm)).setCell ⟨W.heap.size, 1, none⟩ (.slice (some ⟨gu, 0, none⟩) 3 cu)) := ⟨.set h hN, (hb6.setCell (Nat.le_refl _) _).setCell (Nat.le_refl _) _⟩
theorem pair_on {W W' : World} {b c o p : Nat} {s t u v : Value} (hb : Below W.heap.size W W') (h : (W.cell? ⟨b, o, none⟩ = some s ∧ W.cell? ⟨b, o + 1, none⟩ = some t) ∧ (W.cell? ⟨c, p, none⟩ = some u ∧ W.cell? ⟨c, p + 1, none⟩ = some v)) :
    (W'.cell? ⟨b, o, none⟩ = some s ∧ W'.cell? ⟨b, o + 1, none⟩ = some t) ∧ (W'.cell? ⟨c, p, none⟩ = some u ∧ W'.cell? ⟨c, p + 1, none⟩ = some v) :=
  ⟨⟨cell_on hb h.1.1, cell_on hb h.1.2⟩, cell_on hb h.2.1, cell_on hb h.2.2⟩
set_option maxRecDepth 100000 in
set_option maxHeartbeats 2000000 in
theorem ctSame (bm om cm bu ou cu bm2 om2 cm2 bu2 ou2 cu2 : Nat) (t : Tl) (w : World) (h : TlAt w bm om cm bu ou cu t) (h2 : TlAt w bm2 om2 cm2 bu2 ou2 cu2 t) :
    Calls Try.prog 26 #[tlV bm om cm bu ou cu, tlV bm2 om2 cm2 bu2 ou2 cu2] w fun e w' => e = .returned (.bool true) ∧ Below w.heap.size w w' := by
  have H := Lib.hid h
  have H2 := Lib.hid h2
  have SAME : Hid (∀ (W : World) (b o c b' o' c' : Nat) (f : Nat → Int), Row3 W b o f → Row3 W b' o' f → (3 ≤ c ∧ c ≤ maxLen) → (3 ≤ c' ∧ c' ≤ maxLen) → Calls Try.prog 12 #[.slice (some ⟨b, o, none⟩) 3 c, .slice (some ⟨b', o', none⟩) 3 c'] W fun e w' => e = .returned (.bool true) ∧ Below W.heap.size W w') := fun W b o c b' o' c' f h1 h2 hc hc' =>
    (csameInts _ _ (row3 f) (row3 f) W (h1.has hc.1 hc.2) (h2.has hc'.1 hc'.2)).mono fun _ _ h => by simpa using h
  have hb0 : Below w.heap.size w ((w.alloc (.cells #[.slice (some ⟨bm, om, none⟩) 3 cm, .slice (some ⟨bu, ou, none⟩) 3 cu] 48)).alloc (.cells #[.slice (some ⟨bm2, om2, none⟩) 3 cm2, .slice (some ⟨bu2, ou2, none⟩) 3 cu2] 48)) := (by repeat (first | exact Below.refl _ _ | refine Below.drew ?_ | refine Below.alloc ?_ (by first | (simp; done) | (simp; omega)) _ | refine Below.setCell ?_ (by first | (simp; done) | (simp; omega)) _))
  have hx : ((w.alloc (.cells #[.slice (some ⟨bm, om, none⟩) 3 cm, .slice (some ⟨bu, ou, none⟩) 3 cu] 48)).alloc (.cells #[.slice (some ⟨bm2, om2, none⟩) 3 cm2, .slice (some ⟨bu2, ou2, none⟩) 3 cu2] 48)).heap[w.heap.size]? = some (.cells #[.slice (some ⟨bm, om, none⟩) 3 cm, .slice (some ⟨bu, ou, none⟩) 3 cu] 48 (0, 0)) := by rw [((Below.refl _ _).alloc (Nat.le_refl _) _).block _ (by simp)]; exact heap_alloc_new _ _
  have hy : ((w.alloc (.cells #[.slice (some ⟨bm, om, none⟩) 3 cm, .slice (some ⟨bu, ou, none⟩) 3 cu] 48)).alloc (.cells #[.slice (some ⟨bm2, om2, none⟩) 3 cm2, .slice (some ⟨bu2, ou2, none⟩) 3 cu2] 48)).heap[w.heap.size + 1]? = some (.cells #[.slice (some ⟨bm2, om2, none⟩) 3 cm2, .slice (some ⟨bu2, ou2, none⟩) 3 cu2] 48 (0, 0)) := by
    have := heap_alloc_new (w.alloc (.cells #[.slice (some ⟨bm, om, none⟩) 3 cm, .slice (some ⟨bu, ou, none⟩) 3 cu] 48)) (.cells #[.slice (some ⟨bm2, om2, none⟩) 3 cm2, .slice (some ⟨bu2, ou2, none⟩) 3 cu2] 48)
    simpa using this
  have Hb0 := Lib.hid hb0
  obtain ⟨x0, x1, -, -⟩ := two_cells hx
  obtain ⟨y0, y1, -, -⟩ := two_cells hy
  have X0 := Lib.hid x0
  have Y0 := Lib.hid y0
  clear h h2 hb0 hx hy x0 x1 y0 y1
  go_enter Try.func26, Try.ntmps26
  go_wp2_with fail
  refine (SAME.out _ bu ou cu bu2 ou2 cu2 t.u (H.out.u.on Hb0.out) (H2.out.u.on Hb0.out) H.out.cu H2.out.cu).mono ?_
  rintro e w1 ⟨rfl, hb1⟩
  have Hb1 : Hid (Below w.heap.size w w1) := Hb0.out.trans (hb1.mono Hb0.out.size)
  replace X0 := Lib.hid (cell_on hb1 X0.out)
  replace Y0 := Lib.hid (cell_on hb1 Y0.out)
  clear hb1 Hb0
  have x0 := X0.out
  have y0 := Y0.out
  go_wp2_with fail
  go_loopw [5] (fun i wr => ∃ k : Nat, k ≤ 3 ∧ i = .int .i64 k ∧ Below w1.heap.size w1 wr) (fun i _ => 3 - (intOf i).toNat)
  case atStart => exact ⟨0, by omega, rfl, Below.refl _ _⟩
  case round =>
    clear x0 y0
    obtain ⟨k, hk, rfl, hb⟩ := hrel
    have x0 := cell_on hb X0.out
    have y0 := cell_on hb Y0.out
    have Hb := Lib.hid hb
    have Hwr : Hid (Below w.heap.size w wr) := Hb1.out.trans (hb.mono Hb1.out.size)
    clear hb
    by_cases hlt : k < 3
    · obtain ⟨b', o', c', q1, q2, q3⟩ := (H.out.m.on Hwr.out).c k hlt
      obtain ⟨b2', o2', c2', r1, r2, r3⟩ := (H2.out.m.on Hwr.out).c k hlt
      have hm1 := H.out.cm
      have hm2 := H2.out.cm
      have CS : Hid (∀ X : Ext wr, Calls Try.prog 12 #[.slice (some ⟨b', o', none⟩) 3 c', .slice (some ⟨b2', o2', none⟩) 3 c2'] X.1 fun e w' => e = .returned (.bool true) ∧ Below X.1.heap.size X.1 w') := fun X => SAME.out X.1 b' o' c' b2' o2' c2' (t.m k) (q3.on X.2) (r3.on X.2) q2 r2
      clear q2 q3 r2 r3
      go_upto_region 6 with (fail)
      have p0 := ext_cell x0
      have p1 := ext_cell y0
      have p2 := ext_cell q1
      have p3 := ext_cell r1
      clear x0 y0 q1 r1
      refine wp_region_grow (by kernel_rfl) (by kernel_rfl) ?_
      repeat (go_big_quiet_step ((go_at_call 12; with_reducible exact grow_of (CS.out _))))
      refine wpQuiet_nil ?_
      intro w4 hb4
      clear p0 p1 p2 p3
      have Hb4 : Hid (Below w1.heap.size w1 w4) := Hb.out.trans (hb4.mono Hb.out.size)
      clear hb4
      go_wp2_with fail
      go_roundw
      case rel => exact ⟨k + 1, by omega, by go_num, Hb4.out⟩
      case measure => simp [intOf]; omega
    · obtain rfl : k = 3 := by omega
      go_wp2_with fail
      go_ret
      exact ⟨rfl, Hwr.out⟩
end Go.Proofs.Ytkeefpeffeoakaa
