/- Tallies of three branches: most, Merge. -/
import Derived.Test.YtkeefpeffeoakaaTallyE
namespace Go.Proofs.Ytkeefpeffeoakaa
open Go.ChangeShapes Go.WideShapes Go.ChangeAt Go.RowKit
set_option linter.unusedVariables false

def mxUp (f f' : Nat → Int) (k : Nat) : Nat → Int := fun j => if j < k then max (f j) (f' j) else f j
theorem row3_set (f : Nat → Int) (k : Nat) (hk : k < 3) (z : Int) : (row3 f).set k z = row3 fun j => if j = k then z else f j := by
  match k, hk with
  | 0, _ => rfl
  | 1, _ => rfl
  | 2, _ => rfl
theorem mxUp_set (f f' : Nat → Int) (k : Nat) (hk : k < 3) : (row3 (mxUp f f' k)).set k (if f k < f' k then f' k else f k) = row3 (mxUp f f' (k + 1)) := by
  rw [row3_set _ _ hk]
  have e : (fun j => if j = k then (if f k < f' k then f' k else f k) else mxUp f f' k j) = mxUp f f' (k + 1) := by
    funext j
    unfold mxUp
    by_cases h : j = k
    · subst h; simp only [if_true, if_pos (Nat.lt_succ_self j)]; split <;> omega
    · rw [if_neg h]
      by_cases h2 : j < k
      · rw [if_pos h2, if_pos (by omega)]
      · rw [if_neg h2, if_neg (by omega)]
  rw [e]
theorem mxUp_zero (f f' : Nat → Int) : mxUp f f' 0 = f := by funext j; simp [mxUp]
theorem mxUp_all (f f' : Nat → Int) : row3 (mxUp f f' 3) = row3 fun j => max (f j) (f' j) := rfl
theorem mxUp_at (f f' : Nat → Int) (k : Nat) : mxUp f f' k k = f k := by simp [mxUp]
theorem row3_cell {w : World} {base g cap k : Nat} {f : Nat → Int} (h : w.ownsRow base 3 1 (.slice (some ⟨g, 0, none⟩) 3 cap) 3 (ints (row3 f))) (hk : k < 3) : w.cell? ⟨g, k, none⟩ = some (.int .i64 (f k)) ∧ w.frozen? ⟨g, k, none⟩ = false := by
  have h2 := (Row3.of_owns h).c k hk
  rw [Nat.zero_add] at h2
  obtain ⟨cs, hcs⟩ := owns_block_at h
  exact ⟨h2, by simp [World.frozen?, hcs]⟩
set_option maxRecDepth 100000 in
set_option maxHeartbeats 2000000 in
theorem ctmost (base g cg b o c : Nat) (f f' : Nat → Int) (w : World) (ho : w.ownsRow base 3 1 (.slice (some ⟨g, 0, none⟩) 3 cg) 3 (ints (row3 f))) (hr : Row3 w b o f') (hc : 3 ≤ c ∧ c ≤ maxLen) (hne : b ≠ g) :
    Calls Try.prog 38 #[.slice (some ⟨g, 0, none⟩) 3 cg, .slice (some ⟨b, o, none⟩) 3 c] w fun e w' => e = .returned (.tuple #[]) ∧ w'.ownsRow base 3 1 (.slice (some ⟨g, 0, none⟩) 3 cg) 3 (ints (row3 fun j => max (f j) (f' j))) ∧ Wrote (fun k => k = g) w w' := by
  obtain ⟨hc1, hc2⟩ := hc
  obtain ⟨hg1, hg2⟩ := owns_caps ho
  unfold maxLen at hc2 hg2
  have Hr := Lib.hid hr
  have H0 : Hid (w.ownsRow base 3 1 (.slice (some ⟨g, 0, none⟩) 3 cg) 3 (ints (row3 (mxUp f f' 0)))) := by rw [mxUp_zero]; exact ho
  have Hne := Lib.hid hne
  clear ho hr hne
  go_enter Try.func38, Try.ntmps38
  go_wp2_with fail
  go_loopw [4, 5, 8] (fun _ _ i wr => ∃ k : Nat, k ≤ 3 ∧ i = .int .i64 k ∧ wr.ownsRow base 3 1 (.slice (some ⟨g, 0, none⟩) 3 cg) 3 (ints (row3 (mxUp f f' k))) ∧ Wrote (fun k => k = g) w wr) (fun _ _ i _ => 3 - (intOf i).toNat)
  case atStart => exact ⟨0, by omega, rfl, H0.out, Wrote.refl _ _⟩
  case round =>
    clear H0
    obtain ⟨k, hk, rfl, hown, hW⟩ := hrel
    have Hown := Lib.hid hown
    have HW := Lib.hid hW
    by_cases hlt : k < 3
    · have g1 := hW.cell (Hr.out.c k hlt) (fun e => Hne.out e)
      obtain ⟨g2, fr⟩ := row3_cell hown hlt
      rw [mxUp_at] at g2
      have Hset := Lib.hid (mxUp_set f f' k hlt)
      generalize f k = x at *
      generalize f' k = y at *
      clear hown hW
      go_wp2_with fail
      go_roundw
      case rel => exact ⟨k + 1, by omega, by go_num, by rw [← Hset.out, ← ints_set]; exact owns_set Hown.out k _, HW.out.setCell rfl _⟩
      case measure => simp [intOf]; omega
    · obtain rfl : k = 3 := by omega
      rw [mxUp_all] at Hown
      clear hown hW
      go_wp2_with fail
      go_end0
      exact ⟨rfl, Hown.out, HW.out⟩
/-- What Merge has come to behind k rows. -/
def tlMg (a b : Tl) (k : Nat) : Tl := ⟨fun i j => if i < k then max (a.m i j) (b.m i j) else a.m i j, fun i => max (a.u i) (b.u i)⟩
structure MgAt (w wr : World) (X gm cm gu cu : Nat) (g c : Nat → Nat) (a b : Tl) (k : Nat) : Prop where
  own : TlOwn wr w.heap.size gm cm gu cu g c (tlMg a b k)
  x0 : wr.cell? ⟨X, 0, none⟩ = some (.slice (some ⟨gm, 0, none⟩) 3 cm)
  x1 : wr.cell? ⟨X, 1, none⟩ = some (.slice (some ⟨gu, 0, none⟩) 3 cu)
  xt : ∃ cs, wr.heap[X]? = some (.cells cs 48 (0, 0))
  hb : Below w.heap.size w wr
theorem owns_not {w : World} {base e sz n g cap X : Nat} {xs : List Value} {cs : Array Value} {e' : TypeId} {r : Nat × Nat} (h : w.ownsRow base e sz (.slice (some ⟨g, 0, none⟩) n cap) n xs) (hx : w.heap[X]? = some (.cells cs e' r)) (he : e ≠ e') : X ≠ g := by
  rintro rfl
  obtain ⟨cs1, k1⟩ := owns_block_at h
  rw [k1] at hx
  simp only [Option.some.injEq, Obj.cells.injEq] at hx
  exact he hx.2.1
theorem owns_ge {w : World} {base e sz n g cap : Nat} {xs : List Value} (h : w.ownsRow base e sz (.slice (some ⟨g, 0, none⟩) n cap) n xs) : base ≤ g := by
  obtain ⟨hl, h⟩ := h
  rcases h with ⟨h, _⟩ | ⟨g', cap', cur, he, hg', hh, _⟩
  · cases h
  · simp only [Value.slice.injEq, Option.some.injEq, Addr.mk.injEq, and_true, true_and] at he
    obtain ⟨rfl, rfl⟩ := he
    exact hg'
theorem mg_step {w wr w' : World} {X gm cm gu cu k : Nat} {g c : Nat → Nat} {a b : Tl} (h : MgAt w wr X gm cm gu cu g c a b k) (hk : k < 3)
    (hr : w'.ownsRow w.heap.size 3 1 (.slice (some ⟨g k, 0, none⟩) 3 (c k)) 3 (ints (row3 fun j => max (a.m k j) (b.m k j)))) (hW : Wrote (fun j => j = g k) wr w') : MgAt w w' X gm cm gu cu g c a b (k + 1) := by
  obtain ⟨cs, hcs⟩ := h.xt
  have hne := owns_not (h.own.r k hk) hcs (by decide)
  have hX := hW.block X (Array.getElem?_eq_some_iff.1 hcs).1 hne
  have h2 := h.own.row k hk _ hW hr
  refine ⟨⟨h2.m, fun i hi => ?_, h2.u, h2.d, h2.du⟩, hW.cell h.x0 hne, hW.cell h.x1 hne, ⟨cs, by rw [hX]; exact hcs⟩, h.hb.trans (hW.below h.hb.size fun j hj => by subst hj; exact owns_ge (h.own.r k hk))⟩
  have h3 := h2.r i hi
  by_cases e : i = k
  · subst e
    simp only [if_true] at h3
    have : (tlMg a b (i + 1)).m i = fun j => max (a.m i j) (b.m i j) := by funext j; simp [tlMg]
    rw [this]; exact h3
  · simp only [if_neg e] at h3
    have : (tlMg a b (k + 1)).m i = (tlMg a b k).m i := by
      funext j
      simp only [tlMg]
      by_cases h4 : i < k
      · rw [if_pos h4, if_pos (by omega)]
      · rw [if_neg h4, if_neg (by omega)]
    rw [this]; exact h3
theorem TlOwn.chg {w w' : World} {base gm cm gu cu : Nat} {g c : Nat → Nat} {t : Tl} (h : TlOwn w base gm cm gu cu g c t) (hc : Chg [48] w w') : TlOwn w' base gm cm gu cu g c t :=
  ⟨owns_chg h.m hc (by decide), fun i hi => owns_chg (h.r i hi) hc (by decide), owns_chg h.u hc (by decide), h.d, h.du⟩
theorem mg_done {w wr w' : World} {X gm cm gu cu : Nat} {g c : Nat → Nat} {a b : Tl} (h : MgAt w wr X gm cm gu cu g c a b 3) (hc : Chg [48] wr w') : TlAt w' gm 0 cm gu 0 cu (tlMax a b) := by
  obtain ⟨h1, h2, h3, h4⟩ := (h.own.chg hc).at
  refine ⟨⟨fun i hi => ?_, h1.t⟩, h2, h3, h4⟩
  obtain ⟨b', o', c', q1, q2, q3⟩ := h1.c i hi
  refine ⟨b', o', c', q1, q2, fun j hj => ?_, q3.t⟩
  have := q3.c j hj
  simp only [tlMg, if_pos hi] at this
  exact this
/-- The head of a call of two tallies: both, and the result's place. -/
structure Head2 (W : World) (S : Nat) (a0 a1 b0 b1 : Value) : Prop where
  a : W.heap[S]? = some (.cells #[a0, a1] 48 (0, 0))
  b : W.heap[S + 1]? = some (.cells #[b0, b1] 48 (0, 0))
  r : W.heap[S + 1 + 1]? = some (.cells #[.slice none 0 0, .slice none 0 0] 48 (0, 0))
theorem Head2.on {W W' : World} {S : Nat} {a0 a1 b0 b1 : Value} (h : Head2 W S a0 a1 b0 b1) {B : Nat} (hb : Below B W W') (hB : S + 1 + 1 < B) : Head2 W' S a0 a1 b0 b1 :=
  ⟨by rw [hb.block _ (by omega)]; exact h.a, by rw [hb.block _ (by omega)]; exact h.b, by rw [hb.block _ (by omega)]; exact h.r⟩
theorem two_cells {W : World} {b : Nat} {a0 a1 : Value} {e : TypeId} (h : W.heap[b]? = some (.cells #[a0, a1] e (0, 0))) : W.cell? ⟨b, 0, none⟩ = some a0 ∧ W.cell? ⟨b, 1, none⟩ = some a1 ∧ W.frozen? ⟨b, 0, none⟩ = false ∧ W.frozen? ⟨b, 1, none⟩ = false :=
  ⟨by rw [cell_of_row W _ _ _ _ _ h]; rfl, by rw [cell_of_row W _ _ _ _ _ h]; rfl, by simp [World.frozen?, h], by simp [World.frozen?, h]⟩
theorem row_at {w : World} {base gm cm k : Nat} {g c : Nat → Nat} (h : w.ownsRow base 22 1 (.slice (some ⟨gm, 0, none⟩) 3 cm) 3 (rowVs g c 3)) (hk : k < 3) : w.cell? ⟨gm, k, none⟩ = some (.slice (some ⟨g k, 0, none⟩) 3 (c k)) := by
  obtain ⟨g', cp', he, _, _, _, hgc⟩ := owns_some h (by omega)
  simp only [Value.slice.injEq, Option.some.injEq, Addr.mk.injEq, and_true, true_and] at he
  obtain ⟨rfl, rfl⟩ := he
  exact three (fun k => w.cell? ⟨gm, k, none⟩ = some (.slice (some ⟨g k, 0, none⟩) 3 (c k))) (hgc 0 _ rfl) (hgc 1 _ rfl) (hgc 2 _ rfl) k hk
theorem Row3.lt {w : World} {b o : Nat} {f : Nat → Int} (h : Row3 w b o f) : b < w.heap.size := World.block_lt_of_cell? w _ (h.c 0 (by omega))
set_option maxRecDepth 100000 in
set_option maxHeartbeats 4000000 in
theorem ctMerge (bm om cm bu ou cu bm2 om2 cm2 bu2 ou2 cu2 : Nat) (s t : Tl) (w : World) (h : TlAt w bm om cm bu ou cu s) (h2 : TlAt w bm2 om2 cm2 bu2 ou2 cu2 t) (hin : TlIn s 1048576) (hin2 : TlIn t 1048576) :
    Calls Try.prog 23 #[tlV bm om cm bu ou cu, tlV bm2 om2 cm2 bu2 ou2 cu2] w fun e w' => ∃ gm cm' gu cu', e = .returned (.tuple #[tlV gm 0 cm' gu 0 cu', .int .i64 0]) ∧ TlAt w' gm 0 cm' gu 0 cu' (tlMax s t) ∧ Below w.heap.size w w' := by
  have H := Lib.hid h
  have H2 := Lib.hid h2
  have Hin := Lib.hid hin
  have Hin2 := Lib.hid hin2
  clear h h2 hin hin2
  have hbW : Below w.heap.size w (((w.alloc (.cells #[.slice (some ⟨bm, om, none⟩) 3 cm, .slice (some ⟨bu, ou, none⟩) 3 cu] 48)).alloc (.cells #[.slice (some ⟨bm2, om2, none⟩) 3 cm2, .slice (some ⟨bu2, ou2, none⟩) 3 cu2] 48)).alloc (.cells #[.slice none 0 0, .slice none 0 0] 48)) := (by repeat (first | exact Below.refl _ _ | refine Below.drew ?_ | refine Below.alloc ?_ (by first | (simp; done) | (simp; omega)) _ | refine Below.setCell ?_ (by first | (simp; done) | (simp; omega)) _))
  have hh : Head2 (((w.alloc (.cells #[.slice (some ⟨bm, om, none⟩) 3 cm, .slice (some ⟨bu, ou, none⟩) 3 cu] 48)).alloc (.cells #[.slice (some ⟨bm2, om2, none⟩) 3 cm2, .slice (some ⟨bu2, ou2, none⟩) 3 cu2] 48)).alloc (.cells #[.slice none 0 0, .slice none 0 0] 48)) w.heap.size (.slice (some ⟨bm, om, none⟩) 3 cm) (.slice (some ⟨bu, ou, none⟩) 3 cu) (.slice (some ⟨bm2, om2, none⟩) 3 cm2) (.slice (some ⟨bu2, ou2, none⟩) 3 cu2) :=
    ⟨by rw [((Below.refl _ _).alloc (Nat.le_refl _) _).block _ (by simp; omega), ((Below.refl _ _).alloc (Nat.le_refl _) _).block _ (by simp)]; exact heap_alloc_new _ _, by rw [((Below.refl _ _).alloc (Nat.le_refl _) _).block _ (by simp)]; have := heap_alloc_new (w.alloc (.cells #[.slice (some ⟨bm, om, none⟩) 3 cm, .slice (some ⟨bu, ou, none⟩) 3 cu] 48)) (.cells #[.slice (some ⟨bm2, om2, none⟩) 3 cm2, .slice (some ⟨bu2, ou2, none⟩) 3 cu2] 48); simpa using this,
      by have := heap_alloc_new ((w.alloc (.cells #[.slice (some ⟨bm, om, none⟩) 3 cm, .slice (some ⟨bu, ou, none⟩) 3 cu] 48)).alloc (.cells #[.slice (some ⟨bm2, om2, none⟩) 3 cm2, .slice (some ⟨bu2, ou2, none⟩) 3 cu2] 48)) (.cells #[.slice none 0 0, .slice none 0 0] 48); simpa using this⟩
  have hsW : (((w.alloc (.cells #[.slice (some ⟨bm, om, none⟩) 3 cm, .slice (some ⟨bu, ou, none⟩) 3 cu] 48)).alloc (.cells #[.slice (some ⟨bm2, om2, none⟩) 3 cm2, .slice (some ⟨bu2, ou2, none⟩) 3 cu2] 48)).alloc (.cells #[.slice none 0 0, .slice none 0 0] 48)).heap.size = w.heap.size + 3 := by simp
  have HbW := Lib.hid hbW
  have Hh := Lib.hid hh
  have HsW := Lib.hid hsW
  clear hbW hh hsW
  have CM := Lib.hid (ctMay bm om cm bu ou cu s _ (H.out.on HbW.out) Hin.out)
  go_enter Try.func23, Try.ntmps23
  go_wp2_with fail
  refine CM.out.mono ?_
  rintro e w1 ⟨rfl, hb1⟩
  have Hb1 : Hid (Below w.heap.size w w1) := HbW.out.trans (hb1.mono HbW.out.size)
  have Hh1 := Lib.hid (Hh.out.on hb1 (by rw [HsW.out]; omega))
  have Hs1 : Hid (w.heap.size + 3 ≤ w1.heap.size) := by have := hb1.size; rw [HsW.out] at this; exact this
  clear hb1 CM HbW Hh HsW
  obtain ⟨b0, b1, -, -⟩ := two_cells Hh1.out.b
  go_wp2_with fail
  refine (ctMay bm2 om2 cm2 bu2 ou2 cu2 t w1 (H2.out.on Hb1.out) Hin2.out).mono ?_
  rintro e w2 ⟨rfl, hb2⟩
  have Hb2 : Hid (Below w.heap.size w w2) := Hb1.out.trans (hb2.mono Hb1.out.size)
  have Hh2 := Lib.hid (Hh1.out.on hb2 (by have := Hs1.out; omega))
  have Hs2 : Hid (w.heap.size + 3 ≤ w2.heap.size) := Nat.le_trans Hs1.out hb2.size
  clear hb2 Hb1 Hh1 Hs1 b0 b1
  obtain ⟨a0, a1, -, -⟩ := two_cells Hh2.out.a
  obtain ⟨b0, b1, -, -⟩ := two_cells Hh2.out.b
  go_wp2_with fail
  refine (ctcopied bm om cm bu ou cu s w2 (H.out.on Hb2.out)).mono ?_
  rintro e w3 ⟨gm, cm', gu, cu', g, c, rfl, hown, hb3⟩
  have HO := Lib.hid hown
  have Hb3 := Lib.hid hb3
  have Hs3 : Hid (w2.heap.size ≤ w3.heap.size) := hb3.size
  have Hh3 := Lib.hid (Hh2.out.on hb3 (by have := Hs2.out; omega))
  clear hown hb3 a0 a1 b0 b1
  obtain ⟨b0, b1, -, -⟩ := two_cells Hh3.out.b
  have hS3 : w.heap.size + 1 < w3.heap.size := by have := Hs2.out; have := Hs3.out; omega
  have ha : Below w3.heap.size w3 (w3.alloc (.cells #[.slice (some ⟨gm, 0, none⟩) 3 cm', .slice (some ⟨gu, 0, none⟩) 3 cu'] 48)) := (Below.refl _ _).alloc (Nat.le_refl _) _
  have hu := H2.out.u
  have CU := Lib.hid (ctmost w2.heap.size gu cu' bu2 ou2 cu2 s.u t.u _ (HO.out.on ha).u (((hu.on Hb2.out).on Hb3.out).on ha) H2.out.cu (by have := hu.lt; have := owns_ge HO.out.u; have := Hb2.out.size; omega))
  have Hnew : Hid ((w3.alloc (.cells #[.slice (some ⟨gm, 0, none⟩) 3 cm', .slice (some ⟨gu, 0, none⟩) 3 cu'] 48)).heap[w3.heap.size]? = some (.cells #[.slice (some ⟨gm, 0, none⟩) 3 cm', .slice (some ⟨gu, 0, none⟩) 3 cu'] 48 (0, 0))) := heap_alloc_new _ _
  have Ha := Lib.hid ha
  clear ha hu
  go_wp2_with fail
  refine CU.out.mono ?_
  rintro e w5 ⟨rfl, hown, hW⟩
  have hXu : w3.heap.size ≠ gu := by have := owns_lt' HO.out.u; omega
  have HM : Hid (MgAt w2 w5 w3.heap.size gm cm' gu cu' g c s t 0) := by
    obtain ⟨x0, x1, -, -⟩ := two_cells Hnew.out
    have h1 := ((HO.out.on Ha.out).used _ hW hown)
    refine ⟨?_, hW.cell x0 hXu, hW.cell x1 hXu, ⟨_, by rw [hW.block _ (Array.getElem?_eq_some_iff.1 Hnew.out).1 hXu]; exact Hnew.out⟩, (Hb3.out.trans (Ha.out.mono Hb3.out.size)).trans (hW.below (Nat.le_trans Hb3.out.size Ha.out.size) fun j hj => by subst hj; exact owns_ge HO.out.u)⟩
    have : tlMg s t 0 = ⟨s.m, fun i => max (s.u i) (t.u i)⟩ := by unfold tlMg; congr 1
    rw [this]; exact h1
  have Hh5 := Lib.hid (Hh2.out.on HM.out.hb (by have := Hs2.out; omega))
  generalize hX : w3.heap.size = X at *
  clear hown hW hXu Hnew Ha CU HO Hh3 b0 b1 hX
  obtain ⟨b0, b1, -, -⟩ := two_cells Hh5.out.b
  go_wp2_with fail
  go_loopw [7, 8, 36] (fun _ _ i wr => ∃ k : Nat, k ≤ 3 ∧ i = .int .i64 k ∧ MgAt w2 wr X gm cm' gu cu' g c s t k) (fun _ _ i _ => 3 - (intOf i).toNat)
  case atStart => exact ⟨0, by omega, rfl, HM.out⟩
  case round =>
    clear HM b0 b1 Hh5
    obtain ⟨k, hk, rfl, hM⟩ := hrel
    have HM := Lib.hid hM
    clear hM
    have hbr := Hb2.out.trans (HM.out.hb.mono Hb2.out.size)
    by_cases hlt : k < 3
    · obtain ⟨b', o', c', q1, q2, q3⟩ := (H2.out.m.on hbr).c k hlt
      obtain ⟨b'', o'', c'', q1', -, q3'⟩ := H2.out.m.c k hlt
      have q1'' := cell_on hbr q1'
      rw [q1] at q1''
      simp only [Option.some.injEq, Value.slice.injEq, Addr.mk.injEq, and_true, true_and] at q1''
      obtain ⟨⟨rfl, rfl⟩, rfl⟩ := q1''
      have x0 := HM.out.x0
      have m1 := row_at HM.out.own.m hlt
      have Q := Lib.hid (ctmost w2.heap.size (g k) (c k) b' o' c' (s.m k) (t.m k) wr (by have h := HM.out.own.r k hlt; have e : (tlMg s t k).m k = s.m k := by funext j; simp [tlMg]
                                                                                         rw [e] at h; exact h) q3 q2 (by have := q3'.lt; have := owns_ge (HM.out.own.r k hlt); have := Hb2.out.size; omega))
      have hmc := owns_caps HM.out.own.m
      clear q2 q3 q3' q1' hbr
      go_wp2_with fail
      refine Q.out.mono ?_
      rintro e w6 ⟨rfl, hown, hW⟩
      have HM2 := Lib.hid (mg_step HM.out hlt hown hW)
      clear hown hW Q HM x0 m1 q1
      go_wp2_with fail
      go_roundw
      case rel => exact ⟨k + 1, by omega, by go_num, HM2.out⟩
      case measure => simp [intOf]; omega
    · obtain rfl : k = 3 := by omega
      have x0 := HM.out.x0
      have x1 := HM.out.x1
      have hH := Hh2.out.on HM.out.hb (by have := Hs2.out; omega)
      obtain ⟨r0, r1, f0, f1⟩ := two_cells hH.r
      have k1 := Chg.setCell (T := [48]) (p := ⟨w.heap.size + 1 + 1, 0, none⟩) hH.r (by simp) (.slice (some ⟨gm, 0, none⟩) 3 cm')
      have k2 := Chg.setCell (T := [48]) (p := ⟨w.heap.size + 1 + 1, 1, none⟩) (heap_setCell_same wr (w.heap.size + 1 + 1) 0 _ _ (.slice (some ⟨gm, 0, none⟩) 3 cm') hH.r) (by simp) (.slice (some ⟨gu, 0, none⟩) 3 cu')
      have HA := Lib.hid (mg_done HM.out (k1.trans k2))
      clear k1 k2
      have Hbr := Lib.hid hbr
      clear hbr
      go_wp2_with fail
      refine bodyPost_ret (v := .tuple #[tlV gm 0 cm' gu 0 cu', .int .i64 0]) (by simp [results, Try.results23, go_sem, r0, r1]) rfl ?_
      exact ⟨_, _, _, _, rfl, HA.out, (Hbr.out.setCell (by simp; omega) _).setCell (by simp; omega) _⟩
end Go.Proofs.Ytkeefpeffeoakaa
