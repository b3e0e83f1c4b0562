/- Tallies of three branches: the walk of Do (written by wip/tools/gen_tallydo.py). -/
import Derived.Test.YtkeefpeffeoakaaTallyF
namespace Go.Proofs.Ytkeefpeffeoakaa
open Go.ChangeShapes Go.WideShapes Go.ChangeAt Go.RowKit
set_option linter.unusedVariables false

/-- The head of a call of a tally and a deed. -/
structure HeadD (W : World) (S : Nat) (a0 a1 : Value) (k x y c : Int) : Prop where
  a : W.heap[S]? = some (.cells #[a0, a1] 48 (0, 0))
  d : W.heap[S + 1]? = some (.cells #[.int .i64 k, .int .i64 x, .int .i64 y, .int .i64 c] 59 (0, 0))
  r : W.heap[S + 1 + 1]? = some (.cells #[.slice none 0 0, .slice none 0 0] 48 (0, 0))
  sz : S + 1 + 1 < W.heap.size
theorem HeadD.on {W W' : World} {S : Nat} {a0 a1 : Value} {k x y c : Int} (h : HeadD W S a0 a1 k x y c) (hb : Below W.heap.size W W') : HeadD W' S a0 a1 k x y c := by
  have := h.sz
  exact ⟨by rw [hb.block _ (by omega)]; exact h.a, by rw [hb.block _ (by omega)]; exact h.d, by rw [hb.block _ (by omega)]; exact h.r, Nat.lt_of_lt_of_le h.sz hb.size⟩
theorem HeadD.cells {W : World} {S : Nat} {a0 a1 : Value} {k x y c : Int} (h : HeadD W S a0 a1 k x y c) : (W.cell? ⟨S, 0, none⟩ = some a0 ∧ W.cell? ⟨S, 1, none⟩ = some a1) ∧ W.cell? ⟨S + 1, 0, none⟩ = some (.int .i64 k) ∧ W.cell? ⟨S + 1, 1, none⟩ = some (.int .i64 x) ∧ W.cell? ⟨S + 1, 2, none⟩ = some (.int .i64 y) ∧ W.cell? ⟨S + 1, 3, none⟩ = some (.int .i64 c) :=
  ⟨⟨by rw [cell_of_row W _ _ _ _ _ h.a]; rfl, by rw [cell_of_row W _ _ _ _ _ h.a]; rfl⟩, by rw [cell_of_row W _ _ _ _ _ h.d]; rfl, by rw [cell_of_row W _ _ _ _ _ h.d]; rfl, by rw [cell_of_row W _ _ _ _ _ h.d]; rfl, by rw [cell_of_row W _ _ _ _ _ h.d]; rfl⟩
theorem HeadD.start (w : World) (a0 a1 : Value) (k x y c : Int) : HeadD (((w.alloc (.cells #[a0, a1] 48)).alloc (.cells #[.int .i64 k, .int .i64 x, .int .i64 y, .int .i64 c] 59)).alloc (.cells #[.slice none 0 0, .slice none 0 0] 48)) w.heap.size a0 a1 k x y c :=
  ⟨by rw [((Below.refl _ _).alloc (Nat.le_refl _) _).block _ (by simp; omega), ((Below.refl _ _).alloc (Nat.le_refl _) _).block _ (by simp)]; exact heap_alloc_new _ _, by rw [((Below.refl _ _).alloc (Nat.le_refl _) _).block _ (by simp)]; have := heap_alloc_new (w.alloc (.cells #[a0, a1] 48)) (.cells #[.int .i64 k, .int .i64 x, .int .i64 y, .int .i64 c] 59); simpa using this,
      by have := heap_alloc_new ((w.alloc (.cells #[a0, a1] 48)).alloc (.cells #[.int .i64 k, .int .i64 x, .int .i64 y, .int .i64 c] 59)) (.cells #[.slice none 0 0, .slice none 0 0] 48); simpa using this, by simp⟩
theorem row_move (t : Tl) (w o : Nat) (c : Int) : (⟨fun a => if a = w then (fun j => if j = o then t.m w o + c else t.m w j) else t.m a, t.u⟩ : Tl) = tlMove t w o c := by
  unfold tlMove
  congr 1
  funext i j
  by_cases h1 : i = w <;> by_cases h2 : j = o <;> simp [h1, h2]
theorem used_use (t : Tl) (w : Nat) (c : Int) : (⟨t.m, fun j => if j = w then t.u w + c else t.u j⟩ : Tl) = tlUse t w c := by
  unfold tlUse
  congr 1
  funext j
  by_cases h2 : j = w <;> simp [h2]
/-- Two stores into a place of the call's own that is no row of numbers. -/
theorem do_chg {w : World} {R : Nat} {cs : Array Value} (h : w.heap[R]? = some (.cells cs 48 (0, 0))) (a b : Value) : Chg [48] w ((w.setCell ⟨R, 0, none⟩ a).setCell ⟨R, 1, none⟩ b) :=
  (Chg.setCell (p := ⟨R, 0, none⟩) h (by simp) a).trans (Chg.setCell (p := ⟨R, 1, none⟩) (heap_setCell_same w R 0 _ _ a h) (by simp) b)
theorem do_move {w : World} {base gm cm gu cu R : Nat} {g c : Nat → Nat} {t : Tl} {cs : Array Value} (h : TlOwn w base gm cm gu cu g c t) (x o : Nat) (hx : x < 3) (ho : o < 3) (z : Int) (hR : w.heap[R]? = some (.cells cs 48 (0, 0))) (a b : Value) :
    TlAt (((w.setCell ⟨g x, o, none⟩ (.int .i64 (t.m x o + z))).setCell ⟨R, 0, none⟩ a).setCell ⟨R, 1, none⟩ b) gm 0 cm gu 0 cu (tlMove t x o z) := by
  have h1 := owns_set (h.r x hx) o (.int .i64 (t.m x o + z))
  rw [ints_set, row3_set _ _ ho] at h1
  have h2 := h.row x hx _ ((Wrote.refl (fun k => k = g x) w).setCell (p := ⟨g x, o, none⟩) rfl (.int .i64 (t.m x o + z))) h1
  rw [row_move] at h2
  have hne := owns_not (h.r x hx) hR (by decide)
  exact (h2.chg (do_chg (by rw [Below.heap_setCell _ _ _ _ hne]; exact hR) a b)).at
theorem do_use {w : World} {base gm cm gu cu R : Nat} {g c : Nat → Nat} {t : Tl} {cs : Array Value} (h : TlOwn w base gm cm gu cu g c t) (x : Nat) (hx : x < 3) (z : Int) (hR : w.heap[R]? = some (.cells cs 48 (0, 0))) (a b : Value) :
    TlAt (((w.setCell ⟨gu, x, none⟩ (.int .i64 (t.u x + z))).setCell ⟨R, 0, none⟩ a).setCell ⟨R, 1, none⟩ b) gm 0 cm gu 0 cu (tlUse t x z) := by
  have h1 := owns_set h.u x (.int .i64 (t.u x + z))
  rw [ints_set, row3_set _ _ hx] at h1
  have h2 := h.used _ ((Wrote.refl (fun k => k = gu) w).setCell (p := ⟨gu, x, none⟩) rfl (.int .i64 (t.u x + z))) h1
  rw [used_use] at h2
  have hne := owns_not h.u hR (by decide)
  exact (h2.chg (do_chg (by rw [Below.heap_setCell _ _ _ _ hne]; exact hR) a b)).at
theorem HeadD.frozen {W : World} {S : Nat} {a0 a1 : Value} {k x y c : Int} (h : HeadD W S a0 a1 k x y c) : (W.cell? ⟨S + 1 + 1, 0, none⟩ = some (.slice none 0 0) ∧ W.cell? ⟨S + 1 + 1, 1, none⟩ = some (.slice none 0 0)) ∧ W.frozen? ⟨S + 1 + 1, 0, none⟩ = false ∧ W.frozen? ⟨S + 1 + 1, 1, none⟩ = false :=
  ⟨⟨by rw [cell_of_row W _ _ _ _ _ h.r]; rfl, by rw [cell_of_row W _ _ _ _ _ h.r]; rfl⟩, by simp [World.frozen?, h.r], by simp [World.frozen?, h.r]⟩
set_option maxRecDepth 100000 in
set_option maxHeartbeats 4000000 in
theorem ctDoMint (bm om cm bu ou cu : Nat) (t : Tl) (x : Nat) (y : Int) (c : Int) (w : World) (h : TlAt w bm om cm bu ou cu t) (hin : TlIn t 1000) (hx : x < 3) (c1 : 1 ≤ c) (c2 : c ≤ 1000) :
    Calls Try.prog 27 #[tlV bm om cm bu ou cu, .agg #[.int .i64 1, .int .i64 x, .int .i64 y, .int .i64 c]] w fun e w' => ∃ gm cm' gu cu', e = .returned (.tuple #[tlV gm 0 cm' gu 0 cu', .int .i64 0]) ∧ TlAt w' gm 0 cm' gu 0 cu' (tlMove t x x c) ∧ Below w.heap.size w w' := by
  have H := Lib.hid h
  have Hin := Lib.hid (hin.mono (show (1000 : Int) ≤ 1048576 by decide))
  have hbW : Below w.heap.size w (((w.alloc (.cells #[.slice (some ⟨bm, om, none⟩) 3 cm, .slice (some ⟨bu, ou, none⟩) 3 cu] 48)).alloc (.cells #[.int .i64 1, .int .i64 x, .int .i64 y, .int .i64 c] 59)).alloc (.cells #[.slice none 0 0, .slice none 0 0] 48)) := (by repeat (first | exact Below.refl _ _ | refine Below.drew ?_ | refine Below.alloc ?_ (by first | (simp; done) | (simp; omega)) _ | refine Below.setCell ?_ (by first | (simp; done) | (simp; omega)) _))
  have HbW := Lib.hid hbW
  have Hh := Lib.hid (HeadD.start w (.slice (some ⟨bm, om, none⟩) 3 cm) (.slice (some ⟨bu, ou, none⟩) 3 cu) 1 x y c)
  have CM := Lib.hid (ctMay bm om cm bu ou cu t _ (H.out.on HbW.out) Hin.out)
  have Hb := Lib.hid hin
  have hx' : (x : Int) < 3 := by omega
  clear hbW h hin
  go_enter Try.func27, Try.ntmps27
  go_wp2_with fail
  refine CM.out.mono ?_
  rintro e w1 ⟨rfl, hb1⟩
  have Hb1 : Hid (Below w.heap.size w w1) := HbW.out.trans (hb1.mono HbW.out.size)
  have Hh1 := Lib.hid (Hh.out.on hb1)
  clear hb1 CM HbW Hh
  obtain ⟨⟨a0, a1⟩, d0, d1, d2, d3⟩ := Hh1.out.cells
  go_wp2_with fail
  refine (ctThere bm om cm bu ou cu x w1 hx).mono ?_
  rintro e w2 ⟨rfl, hb2⟩
  have Hb2 : Hid (Below w.heap.size w w2) := Hb1.out.trans (hb2.mono Hb1.out.size)
  have Hh2 := Lib.hid (Hh1.out.on hb2)
  clear hb2 Hb1 Hh1 a0 a1 d0 d1 d2 d3
  obtain ⟨⟨a0, a1⟩, d0, d1, d2, d3⟩ := Hh2.out.cells
  go_upto_region 9 with (fail)
  go_quiet (fail)
  have Hb3 : Hid (Below w.heap.size w (w2.drewN nq)) := below_drewN Hb2.out _
  have Hh3 : Hid (HeadD (w2.drewN nq) w.heap.size (.slice (some ⟨bm, om, none⟩) 3 cm) (.slice (some ⟨bu, ou, none⟩) 3 cu) 1 x y c) := Hh2.out.on (below_drewN (Below.refl _ _) _)
  clear Hb2 Hh2 a0 a1 d0 d1 d2 d3
  generalize w2.drewN nq = w4 at *
  obtain ⟨⟨a0, a1⟩, d0, d1, d2, d3⟩ := Hh3.out.cells
  go_wp2_with fail
  refine (ctcopied bm om cm bu ou cu t w4 (H.out.on Hb3.out)).mono ?_
  rintro e w5 ⟨gm, cm', gu, cu', g, cc, rfl, hown, hb5⟩
  have hdd : w.heap.size + 1 < w5.heap.size := by have := Hh3.out.sz; have := hb5.size; omega
  have hdr : w.heap.size + 1 + 1 < w5.heap.size := by have := Hh3.out.sz; have := hb5.size; omega
  have ha : Below w5.heap.size w5 (w5.alloc (.cells #[.slice (some ⟨gm, 0, none⟩) 3 cm', .slice (some ⟨gu, 0, none⟩) 3 cu'] 48)) := (Below.refl _ _).alloc (Nat.le_refl _) _
  have HO := Lib.hid (hown.on ha)
  have hx0 : (w5.alloc (.cells #[.slice (some ⟨gm, 0, none⟩) 3 cm', .slice (some ⟨gu, 0, none⟩) 3 cu'] 48)).heap[w5.heap.size]? = some (.cells #[.slice (some ⟨gm, 0, none⟩) 3 cm', .slice (some ⟨gu, 0, none⟩) 3 cu'] 48 (0, 0)) := heap_alloc_new _ _
  have Hx0 := Lib.hid hx0
  have Hb5 : Hid (Below w.heap.size w (w5.alloc (.cells #[.slice (some ⟨gm, 0, none⟩) 3 cm', .slice (some ⟨gu, 0, none⟩) 3 cu'] 48))) := (Hb3.out.trans (hb5.mono Hb3.out.size)).trans (ha.mono (Nat.le_trans Hb3.out.size hb5.size))
  have Hh5 := Lib.hid ((Hh3.out.on hb5).on ha)
  have hlo : Hid (w.heap.size ≤ w4.heap.size) := Hb3.out.size
  have hcu := owns_caps hown.u
  clear hown hb5 ha hx0 Hb3 Hh3 a0 a1 d0 d1 d2 d3
  obtain ⟨⟨a0, a1⟩, d0, d1, d2, d3⟩ := Hh5.out.cells
  have G0 : Hid (∀ i, i < 3 → g i ≠ w5.heap.size) := fun i hi e => (owns_not (HO.out.r i hi) Hx0.out (by decide)) e.symm
  have hguX : gu ≠ w5.heap.size := fun e => (owns_not HO.out.u Hx0.out (by decide)) e.symm
  obtain ⟨u1, u2⟩ := row3_cell (HO.out.r x hx) hx
  have hcm := owns_caps HO.out.m
  have hcx := owns_caps (HO.out.r x hx)
  have gx := G0.out x hx
  have rm := row_at HO.out.m hx
  obtain ⟨x0, x1, -, -⟩ := two_cells Hx0.out
  go_upto_region 15 with (fail)
  go_quiet (fail)
  go_upto_region 18 with (fail)
  clear u1 u2 rm x0 x1 a0 a1 d0 d1 d2 d3
  have hbn : Below (w5.alloc (.cells #[.slice (some ⟨gm, 0, none⟩) 3 cm', .slice (some ⟨gu, 0, none⟩) 3 cu'] 48)).heap.size (w5.alloc (.cells #[.slice (some ⟨gm, 0, none⟩) 3 cm', .slice (some ⟨gu, 0, none⟩) 3 cu'] 48)) ((w5.alloc (.cells #[.slice (some ⟨gm, 0, none⟩) 3 cm', .slice (some ⟨gu, 0, none⟩) 3 cu'] 48)).drewN nq) := below_drewN (Below.refl _ _) _
  have HO6 := Lib.hid (HO.out.on hbn)
  have Hb6 : Hid (Below w.heap.size w ((w5.alloc (.cells #[.slice (some ⟨gm, 0, none⟩) 3 cm', .slice (some ⟨gu, 0, none⟩) 3 cu'] 48)).drewN nq)) := below_drewN Hb5.out _
  have Hh6 := Lib.hid (Hh5.out.on hbn)
  have hx6 : ((w5.alloc (.cells #[.slice (some ⟨gm, 0, none⟩) 3 cm', .slice (some ⟨gu, 0, none⟩) 3 cu'] 48)).drewN nq).heap[w5.heap.size]? = some (.cells #[.slice (some ⟨gm, 0, none⟩) 3 cm', .slice (some ⟨gu, 0, none⟩) 3 cu'] 48 (0, 0)) := Hx0.out
  clear hbn HO Hb5 Hh5 Hx0 G0
  generalize ((w5.alloc (.cells #[.slice (some ⟨gm, 0, none⟩) 3 cm', .slice (some ⟨gu, 0, none⟩) 3 cu'] 48)).drewN nq) = W6 at *
  obtain ⟨u1, u2⟩ := row3_cell (HO6.out.r x hx) hx
  obtain ⟨b1, b2⟩ := Hb.out.1 x x hx hx
  obtain ⟨x0, x1, -, -⟩ := two_cells hx6
  obtain ⟨-, -, -, -, d3⟩ := Hh6.out.cells
  obtain ⟨⟨r0, r1⟩, f0, f1⟩ := Hh6.out.frozen
  have hsz := Hh6.out.sz
  have hge := owns_ge (HO6.out.r x hx)
  have hrg : w.heap.size + 1 + 1 ≠ g x := owns_not (HO6.out.r x hx) Hh6.out.r (by decide)
  have hdg : w.heap.size + 1 ≠ g x := owns_not (HO6.out.r x hx) Hh6.out.d (by decide)
  have hXg : w5.heap.size ≠ g x := owns_not (HO6.out.r x hx) hx6 (by decide)
  have hwr : IntKind.i64.wrap (t.m x x + c) = t.m x x + c := IntWalk.i64_in _ (by omega)
  have HA := Lib.hid (fun a b => do_move HO6.out x x hx hx c Hh6.out.r a b)
  have hlo2 : w.heap.size ≤ g x := Nat.le_trans hlo.out hge
  clear hge
  generalize t.m x x = z at *
  have Hu1 := Lib.hid u1
  go_region
  all_goals
    clear u1 d3 hdg hwr
    have u1 : (W6.setCell ⟨g x, x, none⟩ (.int .i64 (z + c))).cell? ⟨g x, x, none⟩ = some (.int .i64 (z + c)) := World.cell?_setCell_same _ _ _ Hu1.out
    have hwr2 : ¬ (1048576 < z + c) := by omega
    go_wp2_with fail
    refine bodyPost_ret (v := .tuple #[tlV gm 0 cm' gu 0 cu', .int .i64 0]) (by simp [results, Try.results27, go_sem, r0, r1]) rfl ?_
    exact ⟨_, _, _, _, rfl, (HA.out _ _).on (Below.drew (Below.refl _ _)), Below.drew (((Hb6.out.setCell hlo2 _).setCell (by simp; omega) _).setCell (by simp; omega) _)⟩
set_option maxRecDepth 100000 in
set_option maxHeartbeats 4000000 in
theorem ctDoMove (bm om cm bu ou cu : Nat) (t : Tl) (x : Nat) (y : Nat) (hy : y < 3) (hxy : x ≠ y) (c : Int) (w : World) (h : TlAt w bm om cm bu ou cu t) (hin : TlIn t 1000) (hx : x < 3) (hl : c ≤ tlLeft t x) (c1 : 1 ≤ c) (c2 : c ≤ 1000) :
    Calls Try.prog 27 #[tlV bm om cm bu ou cu, .agg #[.int .i64 2, .int .i64 x, .int .i64 (y : Int), .int .i64 c]] w fun e w' => ∃ gm cm' gu cu', e = .returned (.tuple #[tlV gm 0 cm' gu 0 cu', .int .i64 0]) ∧ TlAt w' gm 0 cm' gu 0 cu' (tlMove t x y c) ∧ Below w.heap.size w w' := by
  have H := Lib.hid h
  have Hin := Lib.hid (hin.mono (show (1000 : Int) ≤ 1048576 by decide))
  have hbW : Below w.heap.size w (((w.alloc (.cells #[.slice (some ⟨bm, om, none⟩) 3 cm, .slice (some ⟨bu, ou, none⟩) 3 cu] 48)).alloc (.cells #[.int .i64 2, .int .i64 x, .int .i64 (y : Int), .int .i64 c] 59)).alloc (.cells #[.slice none 0 0, .slice none 0 0] 48)) := (by repeat (first | exact Below.refl _ _ | refine Below.drew ?_ | refine Below.alloc ?_ (by first | (simp; done) | (simp; omega)) _ | refine Below.setCell ?_ (by first | (simp; done) | (simp; omega)) _))
  have HbW := Lib.hid hbW
  have Hh := Lib.hid (HeadD.start w (.slice (some ⟨bm, om, none⟩) 3 cm) (.slice (some ⟨bu, ou, none⟩) 3 cu) 2 x (y : Int) c)
  have CM := Lib.hid (ctMay bm om cm bu ou cu t _ (H.out.on HbW.out) Hin.out)
  have Hb := Lib.hid hin
  have hx' : (x : Int) < 3 := by omega
  clear hbW h hin
  have hxy' : ((y : Int) == (x : Int)) = false := by rw [beq_eq_false_iff_ne]; omega
  go_enter Try.func27, Try.ntmps27
  go_wp2_with fail
  refine CM.out.mono ?_
  rintro e w1 ⟨rfl, hb1⟩
  have Hb1 : Hid (Below w.heap.size w w1) := HbW.out.trans (hb1.mono HbW.out.size)
  have Hh1 := Lib.hid (Hh.out.on hb1)
  clear hb1 CM HbW Hh
  obtain ⟨⟨a0, a1⟩, d0, d1, d2, d3⟩ := Hh1.out.cells
  go_wp2_with fail
  refine (ctThere bm om cm bu ou cu x w1 hx).mono ?_
  rintro e w2 ⟨rfl, hb2⟩
  have Hb2 : Hid (Below w.heap.size w w2) := Hb1.out.trans (hb2.mono Hb1.out.size)
  have Hh2 := Lib.hid (Hh1.out.on hb2)
  clear hb2 Hb1 Hh1 a0 a1 d0 d1 d2 d3
  obtain ⟨⟨a0, a1⟩, d0, d1, d2, d3⟩ := Hh2.out.cells
  go_wp2_with fail
  refine (ctThere bm om cm bu ou cu y w2 hy).mono ?_
  rintro e w3 ⟨rfl, hb2⟩
  replace Hb2 : Hid (Below w.heap.size w w3) := Hb2.out.trans (hb2.mono Hb2.out.size)
  replace Hh2 := Lib.hid (Hh2.out.on hb2)
  clear hb2 a0 a1 d0 d1 d2 d3
  clear w2
  rename World => w2
  obtain ⟨⟨a0, a1⟩, d0, d1, d2, d3⟩ := Hh2.out.cells
  go_upto_region 9 with (fail)
  have CL : Hid (∀ X : Ext w2, Calls Try.prog 36 #[tlV bm om cm bu ou cu, .int .i64 x] X.1 fun e w' => e = .returned (.int .i64 (tlLeft t x)) ∧ Below X.1.heap.size X.1 w') := fun X => ctleft bm om cm bu ou cu t x X.1 (H.out.on (Hb2.out.trans (X.2.mono Hb2.out.size))) Hin.out hx
  have p0 := ext_cell a0
  have p1 := ext_cell a1
  have q0 := ext_cell d0
  have q1 := ext_cell d1
  have q2 := ext_cell d2
  have q3 := ext_cell d3
  have hlb := tlLeft_bd t Hin.out x hx
  clear a0 a1 d0 d1 d2 d3
  refine wp_region_grow (by kernel_rfl) (by kernel_rfl) ?_
  repeat (go_big_quiet_step ((go_at_call 36; with_reducible exact grow_of (CL.out _))))
  refine wpQuiet_nil ?_
  intro w4 hb4
  clear p0 p1 q0 q1 q2 q3
  have Hb3 : Hid (Below w.heap.size w w4) := Hb2.out.trans (hb4.mono Hb2.out.size)
  have Hh3 := Lib.hid (Hh2.out.on hb4)
  clear hb4 Hb2 Hh2 CL
  obtain ⟨⟨a0, a1⟩, d0, d1, d2, d3⟩ := Hh3.out.cells
  go_wp2_with fail
  refine (ctcopied bm om cm bu ou cu t w4 (H.out.on Hb3.out)).mono ?_
  rintro e w5 ⟨gm, cm', gu, cu', g, cc, rfl, hown, hb5⟩
  have hdd : w.heap.size + 1 < w5.heap.size := by have := Hh3.out.sz; have := hb5.size; omega
  have hdr : w.heap.size + 1 + 1 < w5.heap.size := by have := Hh3.out.sz; have := hb5.size; omega
  have ha : Below w5.heap.size w5 (w5.alloc (.cells #[.slice (some ⟨gm, 0, none⟩) 3 cm', .slice (some ⟨gu, 0, none⟩) 3 cu'] 48)) := (Below.refl _ _).alloc (Nat.le_refl _) _
  have HO := Lib.hid (hown.on ha)
  have hx0 : (w5.alloc (.cells #[.slice (some ⟨gm, 0, none⟩) 3 cm', .slice (some ⟨gu, 0, none⟩) 3 cu'] 48)).heap[w5.heap.size]? = some (.cells #[.slice (some ⟨gm, 0, none⟩) 3 cm', .slice (some ⟨gu, 0, none⟩) 3 cu'] 48 (0, 0)) := heap_alloc_new _ _
  have Hx0 := Lib.hid hx0
  have Hb5 : Hid (Below w.heap.size w (w5.alloc (.cells #[.slice (some ⟨gm, 0, none⟩) 3 cm', .slice (some ⟨gu, 0, none⟩) 3 cu'] 48))) := (Hb3.out.trans (hb5.mono Hb3.out.size)).trans (ha.mono (Nat.le_trans Hb3.out.size hb5.size))
  have Hh5 := Lib.hid ((Hh3.out.on hb5).on ha)
  have hlo : Hid (w.heap.size ≤ w4.heap.size) := Hb3.out.size
  have hcu := owns_caps hown.u
  clear hown hb5 ha hx0 Hb3 Hh3 a0 a1 d0 d1 d2 d3
  obtain ⟨⟨a0, a1⟩, d0, d1, d2, d3⟩ := Hh5.out.cells
  have G0 : Hid (∀ i, i < 3 → g i ≠ w5.heap.size) := fun i hi e => (owns_not (HO.out.r i hi) Hx0.out (by decide)) e.symm
  have hguX : gu ≠ w5.heap.size := fun e => (owns_not HO.out.u Hx0.out (by decide)) e.symm
  obtain ⟨u1, u2⟩ := row3_cell (HO.out.r x hx) hy
  have hcm := owns_caps HO.out.m
  have hcx := owns_caps (HO.out.r x hx)
  have gx := G0.out x hx
  have rm := row_at HO.out.m hx
  obtain ⟨x0, x1, -, -⟩ := two_cells Hx0.out
  go_upto_region 17 with (fail)
  go_quiet (fail)
  go_upto_region 18 with (fail)
  clear u1 u2 rm x0 x1 a0 a1 d0 d1 d2 d3
  have hbn : Below (w5.alloc (.cells #[.slice (some ⟨gm, 0, none⟩) 3 cm', .slice (some ⟨gu, 0, none⟩) 3 cu'] 48)).heap.size (w5.alloc (.cells #[.slice (some ⟨gm, 0, none⟩) 3 cm', .slice (some ⟨gu, 0, none⟩) 3 cu'] 48)) ((w5.alloc (.cells #[.slice (some ⟨gm, 0, none⟩) 3 cm', .slice (some ⟨gu, 0, none⟩) 3 cu'] 48)).drewN nq) := below_drewN (Below.refl _ _) _
  have HO6 := Lib.hid (HO.out.on hbn)
  have Hb6 : Hid (Below w.heap.size w ((w5.alloc (.cells #[.slice (some ⟨gm, 0, none⟩) 3 cm', .slice (some ⟨gu, 0, none⟩) 3 cu'] 48)).drewN nq)) := below_drewN Hb5.out _
  have Hh6 := Lib.hid (Hh5.out.on hbn)
  have hx6 : ((w5.alloc (.cells #[.slice (some ⟨gm, 0, none⟩) 3 cm', .slice (some ⟨gu, 0, none⟩) 3 cu'] 48)).drewN nq).heap[w5.heap.size]? = some (.cells #[.slice (some ⟨gm, 0, none⟩) 3 cm', .slice (some ⟨gu, 0, none⟩) 3 cu'] 48 (0, 0)) := Hx0.out
  clear hbn HO Hb5 Hh5 Hx0 G0
  generalize ((w5.alloc (.cells #[.slice (some ⟨gm, 0, none⟩) 3 cm', .slice (some ⟨gu, 0, none⟩) 3 cu'] 48)).drewN nq) = W6 at *
  obtain ⟨u1, u2⟩ := row3_cell (HO6.out.r x hx) hy
  obtain ⟨b1, b2⟩ := Hb.out.1 x y hx hy
  obtain ⟨x0, x1, -, -⟩ := two_cells hx6
  obtain ⟨-, -, -, -, d3⟩ := Hh6.out.cells
  obtain ⟨⟨r0, r1⟩, f0, f1⟩ := Hh6.out.frozen
  have hsz := Hh6.out.sz
  have hge := owns_ge (HO6.out.r x hx)
  have hrg : w.heap.size + 1 + 1 ≠ g x := owns_not (HO6.out.r x hx) Hh6.out.r (by decide)
  have hdg : w.heap.size + 1 ≠ g x := owns_not (HO6.out.r x hx) Hh6.out.d (by decide)
  have hXg : w5.heap.size ≠ g x := owns_not (HO6.out.r x hx) hx6 (by decide)
  have hwr : IntKind.i64.wrap (t.m x y + c) = t.m x y + c := IntWalk.i64_in _ (by omega)
  have HA := Lib.hid (fun a b => do_move HO6.out x y hx hy c Hh6.out.r a b)
  have hlo2 : w.heap.size ≤ g x := Nat.le_trans hlo.out hge
  clear hge
  generalize t.m x y = z at *
  have Hu1 := Lib.hid u1
  go_region
  all_goals
    clear u1 d3 hdg hwr
    have u1 : (W6.setCell ⟨g x, y, none⟩ (.int .i64 (z + c))).cell? ⟨g x, y, none⟩ = some (.int .i64 (z + c)) := World.cell?_setCell_same _ _ _ Hu1.out
    have hwr2 : ¬ (1048576 < z + c) := by omega
    go_wp2_with fail
    refine bodyPost_ret (v := .tuple #[tlV gm 0 cm' gu 0 cu', .int .i64 0]) (by simp [results, Try.results27, go_sem, r0, r1]) rfl ?_
    exact ⟨_, _, _, _, rfl, (HA.out _ _).on (Below.drew (Below.refl _ _)), Below.drew (((Hb6.out.setCell hlo2 _).setCell (by simp; omega) _).setCell (by simp; omega) _)⟩
set_option maxRecDepth 100000 in
set_option maxHeartbeats 4000000 in
theorem ctDoUse (bm om cm bu ou cu : Nat) (t : Tl) (x : Nat) (y : Int) (c : Int) (w : World) (h : TlAt w bm om cm bu ou cu t) (hin : TlIn t 1000) (hx : x < 3) (hl : c ≤ tlLeft t x) (c1 : 1 ≤ c) (c2 : c ≤ 1000) :
    Calls Try.prog 27 #[tlV bm om cm bu ou cu, .agg #[.int .i64 3, .int .i64 x, .int .i64 y, .int .i64 c]] w fun e w' => ∃ gm cm' gu cu', e = .returned (.tuple #[tlV gm 0 cm' gu 0 cu', .int .i64 0]) ∧ TlAt w' gm 0 cm' gu 0 cu' (tlUse t x c) ∧ Below w.heap.size w w' := by
  have H := Lib.hid h
  have Hin := Lib.hid (hin.mono (show (1000 : Int) ≤ 1048576 by decide))
  have hbW : Below w.heap.size w (((w.alloc (.cells #[.slice (some ⟨bm, om, none⟩) 3 cm, .slice (some ⟨bu, ou, none⟩) 3 cu] 48)).alloc (.cells #[.int .i64 3, .int .i64 x, .int .i64 y, .int .i64 c] 59)).alloc (.cells #[.slice none 0 0, .slice none 0 0] 48)) := (by repeat (first | exact Below.refl _ _ | refine Below.drew ?_ | refine Below.alloc ?_ (by first | (simp; done) | (simp; omega)) _ | refine Below.setCell ?_ (by first | (simp; done) | (simp; omega)) _))
  have HbW := Lib.hid hbW
  have Hh := Lib.hid (HeadD.start w (.slice (some ⟨bm, om, none⟩) 3 cm) (.slice (some ⟨bu, ou, none⟩) 3 cu) 3 x y c)
  have CM := Lib.hid (ctMay bm om cm bu ou cu t _ (H.out.on HbW.out) Hin.out)
  have Hb := Lib.hid hin
  have hx' : (x : Int) < 3 := by omega
  clear hbW h hin
  go_enter Try.func27, Try.ntmps27
  go_wp2_with fail
  refine CM.out.mono ?_
  rintro e w1 ⟨rfl, hb1⟩
  have Hb1 : Hid (Below w.heap.size w w1) := HbW.out.trans (hb1.mono HbW.out.size)
  have Hh1 := Lib.hid (Hh.out.on hb1)
  clear hb1 CM HbW Hh
  obtain ⟨⟨a0, a1⟩, d0, d1, d2, d3⟩ := Hh1.out.cells
  go_wp2_with fail
  refine (ctThere bm om cm bu ou cu x w1 hx).mono ?_
  rintro e w2 ⟨rfl, hb2⟩
  have Hb2 : Hid (Below w.heap.size w w2) := Hb1.out.trans (hb2.mono Hb1.out.size)
  have Hh2 := Lib.hid (Hh1.out.on hb2)
  clear hb2 Hb1 Hh1 a0 a1 d0 d1 d2 d3
  obtain ⟨⟨a0, a1⟩, d0, d1, d2, d3⟩ := Hh2.out.cells
  go_upto_region 9 with (fail)
  have CL : Hid (∀ X : Ext w2, Calls Try.prog 36 #[tlV bm om cm bu ou cu, .int .i64 x] X.1 fun e w' => e = .returned (.int .i64 (tlLeft t x)) ∧ Below X.1.heap.size X.1 w') := fun X => ctleft bm om cm bu ou cu t x X.1 (H.out.on (Hb2.out.trans (X.2.mono Hb2.out.size))) Hin.out hx
  have p0 := ext_cell a0
  have p1 := ext_cell a1
  have q0 := ext_cell d0
  have q1 := ext_cell d1
  have q2 := ext_cell d2
  have q3 := ext_cell d3
  have hlb := tlLeft_bd t Hin.out x hx
  clear a0 a1 d0 d1 d2 d3
  refine wp_region_grow (by kernel_rfl) (by kernel_rfl) ?_
  repeat (go_big_quiet_step ((go_at_call 36; with_reducible exact grow_of (CL.out _))))
  refine wpQuiet_nil ?_
  intro w4 hb4
  clear p0 p1 q0 q1 q2 q3
  have Hb3 : Hid (Below w.heap.size w w4) := Hb2.out.trans (hb4.mono Hb2.out.size)
  have Hh3 := Lib.hid (Hh2.out.on hb4)
  clear hb4 Hb2 Hh2 CL
  obtain ⟨⟨a0, a1⟩, d0, d1, d2, d3⟩ := Hh3.out.cells
  go_wp2_with fail
  refine (ctcopied bm om cm bu ou cu t w4 (H.out.on Hb3.out)).mono ?_
  rintro e w5 ⟨gm, cm', gu, cu', g, cc, rfl, hown, hb5⟩
  have hdd : w.heap.size + 1 < w5.heap.size := by have := Hh3.out.sz; have := hb5.size; omega
  have hdr : w.heap.size + 1 + 1 < w5.heap.size := by have := Hh3.out.sz; have := hb5.size; omega
  have ha : Below w5.heap.size w5 (w5.alloc (.cells #[.slice (some ⟨gm, 0, none⟩) 3 cm', .slice (some ⟨gu, 0, none⟩) 3 cu'] 48)) := (Below.refl _ _).alloc (Nat.le_refl _) _
  have HO := Lib.hid (hown.on ha)
  have hx0 : (w5.alloc (.cells #[.slice (some ⟨gm, 0, none⟩) 3 cm', .slice (some ⟨gu, 0, none⟩) 3 cu'] 48)).heap[w5.heap.size]? = some (.cells #[.slice (some ⟨gm, 0, none⟩) 3 cm', .slice (some ⟨gu, 0, none⟩) 3 cu'] 48 (0, 0)) := heap_alloc_new _ _
  have Hx0 := Lib.hid hx0
  have Hb5 : Hid (Below w.heap.size w (w5.alloc (.cells #[.slice (some ⟨gm, 0, none⟩) 3 cm', .slice (some ⟨gu, 0, none⟩) 3 cu'] 48))) := (Hb3.out.trans (hb5.mono Hb3.out.size)).trans (ha.mono (Nat.le_trans Hb3.out.size hb5.size))
  have Hh5 := Lib.hid ((Hh3.out.on hb5).on ha)
  have hlo : Hid (w.heap.size ≤ w4.heap.size) := Hb3.out.size
  have hcu := owns_caps hown.u
  clear hown hb5 ha hx0 Hb3 Hh3 a0 a1 d0 d1 d2 d3
  obtain ⟨⟨a0, a1⟩, d0, d1, d2, d3⟩ := Hh5.out.cells
  have G0 : Hid (∀ i, i < 3 → g i ≠ w5.heap.size) := fun i hi e => (owns_not (HO.out.r i hi) Hx0.out (by decide)) e.symm
  have hguX : gu ≠ w5.heap.size := fun e => (owns_not HO.out.u Hx0.out (by decide)) e.symm
  go_upto_region 18 with (fail)
  have hx6 := Hx0.out
  have HO6 := HO
  have Hb6 := Hb5
  have Hh6 := Hh5
  clear HO Hb5 Hh5 Hx0 G0 a0 a1 d0 d1 d2 d3
  generalize (w5.alloc (.cells #[.slice (some ⟨gm, 0, none⟩) 3 cm', .slice (some ⟨gu, 0, none⟩) 3 cu'] 48)) = W6 at *
  obtain ⟨u1, u2⟩ := row3_cell HO6.out.u hx
  obtain ⟨b1, b2⟩ := Hb.out.2 x hx
  obtain ⟨x0, x1, -, -⟩ := two_cells hx6
  obtain ⟨-, -, -, -, d3⟩ := Hh6.out.cells
  obtain ⟨⟨r0, r1⟩, f0, f1⟩ := Hh6.out.frozen
  have hsz := Hh6.out.sz
  have hge := owns_ge HO6.out.u
  have hrg : w.heap.size + 1 + 1 ≠ gu := owns_not HO6.out.u Hh6.out.r (by decide)
  have hdg : w.heap.size + 1 ≠ gu := owns_not HO6.out.u Hh6.out.d (by decide)
  have hXg : w5.heap.size ≠ gu := owns_not HO6.out.u hx6 (by decide)
  have hwr : IntKind.i64.wrap (t.u x + c) = t.u x + c := IntWalk.i64_in _ (by omega)
  have HA := Lib.hid (fun a b => do_use HO6.out x hx c Hh6.out.r a b)
  have hlo2 : w.heap.size ≤ gu := Nat.le_trans hlo.out hge
  clear hge
  generalize t.u x = z at *
  have Hu1 := Lib.hid u1
  go_region
  all_goals
    clear u1 d3 hdg hwr
    have u1 : (W6.setCell ⟨gu, x, none⟩ (.int .i64 (z + c))).cell? ⟨gu, x, none⟩ = some (.int .i64 (z + c)) := World.cell?_setCell_same _ _ _ Hu1.out
    have hwr2 : ¬ (1048576 < z + c) := by omega
    go_wp2_with fail
    refine bodyPost_ret (v := .tuple #[tlV gm 0 cm' gu 0 cu', .int .i64 0]) (by simp [results, Try.results27, go_sem, r0, r1]) rfl ?_
    exact ⟨_, _, _, _, rfl, (HA.out _ _).on (Below.drew (Below.refl _ _)), Below.drew (((Hb6.out.setCell hlo2 _).setCell (by simp; omega) _).setCell (by simp; omega) _)⟩
set_option maxRecDepth 100000 in
set_option maxHeartbeats 4000000 in
theorem ctDoMoveLess (bm om cm bu ou cu : Nat) (t : Tl) (x : Nat) (y : Nat) (hy : y < 3) (hxy : x ≠ y) (c : Int) (w : World) (h : TlAt w bm om cm bu ou cu t) (hin : TlIn t 1000) (hx : x < 3) (hl : tlLeft t x < c) (c1 : 1 ≤ c) (c2 : c ≤ 1000) :
    Calls Try.prog 27 #[tlV bm om cm bu ou cu, .agg #[.int .i64 2, .int .i64 x, .int .i64 (y : Int), .int .i64 c]] w fun e w' => e = .returned (.tuple #[.agg #[.slice none 0 0, .slice none 0 0], .int .i64 9]) ∧ Below w.heap.size w w' := by
  have H := Lib.hid h
  have Hin := Lib.hid (hin.mono (show (1000 : Int) ≤ 1048576 by decide))
  have hbW : Below w.heap.size w (((w.alloc (.cells #[.slice (some ⟨bm, om, none⟩) 3 cm, .slice (some ⟨bu, ou, none⟩) 3 cu] 48)).alloc (.cells #[.int .i64 2, .int .i64 x, .int .i64 (y : Int), .int .i64 c] 59)).alloc (.cells #[.slice none 0 0, .slice none 0 0] 48)) := (by repeat (first | exact Below.refl _ _ | refine Below.drew ?_ | refine Below.alloc ?_ (by first | (simp; done) | (simp; omega)) _ | refine Below.setCell ?_ (by first | (simp; done) | (simp; omega)) _))
  have HbW := Lib.hid hbW
  have Hh := Lib.hid (HeadD.start w (.slice (some ⟨bm, om, none⟩) 3 cm) (.slice (some ⟨bu, ou, none⟩) 3 cu) 2 x (y : Int) c)
  have CM := Lib.hid (ctMay bm om cm bu ou cu t _ (H.out.on HbW.out) Hin.out)
  have Hb := Lib.hid hin
  have hx' : (x : Int) < 3 := by omega
  clear hbW h hin
  have hxy' : ((y : Int) == (x : Int)) = false := by rw [beq_eq_false_iff_ne]; omega
  go_enter Try.func27, Try.ntmps27
  go_wp2_with fail
  refine CM.out.mono ?_
  rintro e w1 ⟨rfl, hb1⟩
  have Hb1 : Hid (Below w.heap.size w w1) := HbW.out.trans (hb1.mono HbW.out.size)
  have Hh1 := Lib.hid (Hh.out.on hb1)
  clear hb1 CM HbW Hh
  obtain ⟨⟨a0, a1⟩, d0, d1, d2, d3⟩ := Hh1.out.cells
  go_wp2_with fail
  refine (ctThere bm om cm bu ou cu x w1 hx).mono ?_
  rintro e w2 ⟨rfl, hb2⟩
  have Hb2 : Hid (Below w.heap.size w w2) := Hb1.out.trans (hb2.mono Hb1.out.size)
  have Hh2 := Lib.hid (Hh1.out.on hb2)
  clear hb2 Hb1 Hh1 a0 a1 d0 d1 d2 d3
  obtain ⟨⟨a0, a1⟩, d0, d1, d2, d3⟩ := Hh2.out.cells
  go_wp2_with fail
  refine (ctThere bm om cm bu ou cu y w2 hy).mono ?_
  rintro e w3 ⟨rfl, hb2⟩
  replace Hb2 : Hid (Below w.heap.size w w3) := Hb2.out.trans (hb2.mono Hb2.out.size)
  replace Hh2 := Lib.hid (Hh2.out.on hb2)
  clear hb2 a0 a1 d0 d1 d2 d3
  clear w2
  rename World => w2
  obtain ⟨⟨a0, a1⟩, d0, d1, d2, d3⟩ := Hh2.out.cells
  go_upto_region 9 with (fail)
  have CL : Hid (∀ X : Ext w2, Calls Try.prog 36 #[tlV bm om cm bu ou cu, .int .i64 x] X.1 fun e w' => e = .returned (.int .i64 (tlLeft t x)) ∧ Below X.1.heap.size X.1 w') := fun X => ctleft bm om cm bu ou cu t x X.1 (H.out.on (Hb2.out.trans (X.2.mono Hb2.out.size))) Hin.out hx
  have p0 := ext_cell a0
  have p1 := ext_cell a1
  have q0 := ext_cell d0
  have q1 := ext_cell d1
  have q2 := ext_cell d2
  have q3 := ext_cell d3
  have hlb := tlLeft_bd t Hin.out x hx
  clear a0 a1 d0 d1 d2 d3
  refine wp_region_grow (by kernel_rfl) (by kernel_rfl) ?_
  repeat (go_big_quiet_step ((go_at_call 36; with_reducible exact grow_of (CL.out _))))
  refine wpQuiet_nil ?_
  intro w4 hb4
  clear p0 p1 q0 q1 q2 q3
  have Hb3 : Hid (Below w.heap.size w w4) := Hb2.out.trans (hb4.mono Hb2.out.size)
  have Hh3 := Lib.hid (Hh2.out.on hb4)
  clear hb4 Hb2 Hh2 CL
  have r := Hh3.out.frozen
  obtain ⟨⟨r0, r1⟩, f0, f1⟩ := r
  go_wp2_with fail
  refine bodyPost_ret (v := .tuple #[.agg #[.slice none 0 0, .slice none 0 0], .int .i64 9]) (by simp [results, Try.results27, go_sem, r0, r1]) rfl ?_
  exact ⟨rfl, (Hb3.out.setCell (by simp; omega) _).setCell (by simp; omega) _⟩
set_option maxRecDepth 100000 in
set_option maxHeartbeats 4000000 in
theorem ctDoUseLess (bm om cm bu ou cu : Nat) (t : Tl) (x : Nat) (y : Int) (c : Int) (w : World) (h : TlAt w bm om cm bu ou cu t) (hin : TlIn t 1000) (hx : x < 3) (hl : tlLeft t x < c) (c1 : 1 ≤ c) (c2 : c ≤ 1000) :
    Calls Try.prog 27 #[tlV bm om cm bu ou cu, .agg #[.int .i64 3, .int .i64 x, .int .i64 y, .int .i64 c]] w fun e w' => e = .returned (.tuple #[.agg #[.slice none 0 0, .slice none 0 0], .int .i64 9]) ∧ Below w.heap.size w w' := by
  have H := Lib.hid h
  have Hin := Lib.hid (hin.mono (show (1000 : Int) ≤ 1048576 by decide))
  have hbW : Below w.heap.size w (((w.alloc (.cells #[.slice (some ⟨bm, om, none⟩) 3 cm, .slice (some ⟨bu, ou, none⟩) 3 cu] 48)).alloc (.cells #[.int .i64 3, .int .i64 x, .int .i64 y, .int .i64 c] 59)).alloc (.cells #[.slice none 0 0, .slice none 0 0] 48)) := (by repeat (first | exact Below.refl _ _ | refine Below.drew ?_ | refine Below.alloc ?_ (by first | (simp; done) | (simp; omega)) _ | refine Below.setCell ?_ (by first | (simp; done) | (simp; omega)) _))
  have HbW := Lib.hid hbW
  have Hh := Lib.hid (HeadD.start w (.slice (some ⟨bm, om, none⟩) 3 cm) (.slice (some ⟨bu, ou, none⟩) 3 cu) 3 x y c)
  have CM := Lib.hid (ctMay bm om cm bu ou cu t _ (H.out.on HbW.out) Hin.out)
  have Hb := Lib.hid hin
  have hx' : (x : Int) < 3 := by omega
  clear hbW h hin
  go_enter Try.func27, Try.ntmps27
  go_wp2_with fail
  refine CM.out.mono ?_
  rintro e w1 ⟨rfl, hb1⟩
  have Hb1 : Hid (Below w.heap.size w w1) := HbW.out.trans (hb1.mono HbW.out.size)
  have Hh1 := Lib.hid (Hh.out.on hb1)
  clear hb1 CM HbW Hh
  obtain ⟨⟨a0, a1⟩, d0, d1, d2, d3⟩ := Hh1.out.cells
  go_wp2_with fail
  refine (ctThere bm om cm bu ou cu x w1 hx).mono ?_
  rintro e w2 ⟨rfl, hb2⟩
  have Hb2 : Hid (Below w.heap.size w w2) := Hb1.out.trans (hb2.mono Hb1.out.size)
  have Hh2 := Lib.hid (Hh1.out.on hb2)
  clear hb2 Hb1 Hh1 a0 a1 d0 d1 d2 d3
  obtain ⟨⟨a0, a1⟩, d0, d1, d2, d3⟩ := Hh2.out.cells
  go_upto_region 9 with (fail)
  have CL : Hid (∀ X : Ext w2, Calls Try.prog 36 #[tlV bm om cm bu ou cu, .int .i64 x] X.1 fun e w' => e = .returned (.int .i64 (tlLeft t x)) ∧ Below X.1.heap.size X.1 w') := fun X => ctleft bm om cm bu ou cu t x X.1 (H.out.on (Hb2.out.trans (X.2.mono Hb2.out.size))) Hin.out hx
  have p0 := ext_cell a0
  have p1 := ext_cell a1
  have q0 := ext_cell d0
  have q1 := ext_cell d1
  have q2 := ext_cell d2
  have q3 := ext_cell d3
  have hlb := tlLeft_bd t Hin.out x hx
  clear a0 a1 d0 d1 d2 d3
  refine wp_region_grow (by kernel_rfl) (by kernel_rfl) ?_
  repeat (go_big_quiet_step ((go_at_call 36; with_reducible exact grow_of (CL.out _))))
  refine wpQuiet_nil ?_
  intro w4 hb4
  clear p0 p1 q0 q1 q2 q3
  have Hb3 : Hid (Below w.heap.size w w4) := Hb2.out.trans (hb4.mono Hb2.out.size)
  have Hh3 := Lib.hid (Hh2.out.on hb4)
  clear hb4 Hb2 Hh2 CL
  have r := Hh3.out.frozen
  obtain ⟨⟨r0, r1⟩, f0, f1⟩ := r
  go_wp2_with fail
  refine bodyPost_ret (v := .tuple #[.agg #[.slice none 0 0, .slice none 0 0], .int .i64 9]) (by simp [results, Try.results27, go_sem, r0, r1]) rfl ?_
  exact ⟨rfl, (Hb3.out.setCell (by simp; omega) _).setCell (by simp; omega) _⟩
end Go.Proofs.Ytkeefpeffeoakaa
