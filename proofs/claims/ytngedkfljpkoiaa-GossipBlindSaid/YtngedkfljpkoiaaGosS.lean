/- The laws' Turns. -/
import Derived.Test.YtngedkfljpkoiaaGosR
import Derived.Deep.RegionHeld3
namespace Go.Proofs.Ytngedkfljpkoiaa
open Go.ChangeShapes Go.WideShapes Go.ChangeAt Go.RowKit
set_option linter.unusedVariables false
set_option linter.unusedSimpArgs false

structure Tk where
  kind : Int
  who : Int
  dest : Int
  label : Int
  key : Int
  value : Int
def Tk.cells (t : Tk) : List Value := [.int .i64 t.kind, .int .i64 t.who, .int .i64 t.dest, .int .i64 t.label, .int .i64 t.key, .int .i64 t.value]
theorem Tk.cells_length (t : Tk) : t.cells.length = 6 := rfl
def tks (l : List Tk) : List Value := l.flatMap Tk.cells
theorem tks_length (l : List Tk) : (tks l).length = l.length * 6 := flat_length Tk.cells 6 Tk.cells_length l
theorem tk_get {w : World} {v : Value} {l : List Tk} {n : Nat} (h : Has w 6 v n (tks l)) (k : Nat) (hk : k < l.length) :
    ∃ b off cap, v = .slice (some ⟨b, off, none⟩) n cap ∧ (n ≤ cap ∧ cap ≤ maxLen) ∧ (w.cell? ⟨b, off + k * 6, none⟩ = some (.int .i64 l[k].kind) ∧ w.cell? ⟨b, off + k * 6 + 1, none⟩ = some (.int .i64 l[k].who) ∧ w.cell? ⟨b, off + k * 6 + 2, none⟩ = some (.int .i64 l[k].dest) ∧ w.cell? ⟨b, off + k * 6 + 3, none⟩ = some (.int .i64 l[k].label) ∧ w.cell? ⟨b, off + k * 6 + 4, none⟩ = some (.int .i64 l[k].key) ∧ w.cell? ⟨b, off + k * 6 + 5, none⟩ = some (.int .i64 l[k].value)) := by
  obtain ⟨⟨hl, _⟩, a, cap, rfl, h1, h2, hc⟩ := h
  obtain ⟨b, off, rfl, hcc⟩ := hc (by rw [tks_length]; omega)
  have g := fun j (hj : j < 6) u (hu : (l[k].cells)[j]? = some u) => hcc (k * 6 + j) u (by unfold tks; rw [flat_get Tk.cells 6 Tk.cells_length l k hk j hj]; exact hu)
  have g0 := g 0 (by omega) _ rfl
  have g1 := g 1 (by omega) _ rfl
  have g2 := g 2 (by omega) _ rfl
  have g3 := g 3 (by omega) _ rfl
  have g4 := g 4 (by omega) _ rfl
  have g5 := g 5 (by omega) _ rfl
  rw [Nat.add_zero] at g0
  rw [← Nat.add_assoc] at g1 g2 g3 g4 g5
  exact ⟨b, off, cap, rfl, ⟨h1, h2⟩, g0, g1, g2, g3, g4, g5⟩
def pn (a n : Int) : Nat := (pick a n).toNat
theorem pn_eq (a n : Int) (hn : 0 < n) : ((pn a n : Nat) : Int) = pick a n ∧ (pn a n : Int) < n := by
  have := pick_bd a n hn
  unfold pn; omega
/-- What the laws make of a talk. -/
def turnTk (x : Tk) : Trn :=
  if pn x.kind 5 ≤ 1 then ⟨1, pn x.who 4, 0, pn x.label 3, pn x.key 5, pn x.value 9⟩
  else if pn x.kind 5 = 2 then ⟨2, pn x.who 4, 0, pn x.label 3, pn x.key 5, 0⟩
  else ⟨3, pn x.who 4, pn x.dest 4, 0, 0, 0⟩
theorem turnTk_ok (x : Tk) : (turnTk x).Ok 3 ∧ (turnTk x).key < 5 ∧ (turnTk x).value < 9 := by
  have h1 := (pn_eq x.who 4 (by omega)).2
  have h2 := (pn_eq x.dest 4 (by omega)).2
  have h3 := (pn_eq x.label 3 (by omega)).2
  have h4 := (pn_eq x.key 5 (by omega)).2
  have h5 := (pn_eq x.value 9 (by omega)).2
  unfold turnTk
  split
  · exact ⟨⟨by simp, by simp only; omega, by simp, by simp only; omega, by simp only; omega, by simp only; omega⟩, by simp only; omega, by simp only; omega⟩
  · split
    · exact ⟨⟨by simp, by simp only; omega, by simp, by simp only; omega, by simp only; omega, by simp⟩, by simp only; omega, by simp⟩
    · exact ⟨⟨by simp, by simp only; omega, by simp only; omega, by simp, by simp, by simp⟩, by simp, by simp⟩
def turnsOf (l : List Tk) (n : Nat) : List Trn := (l.take n).map turnTk
theorem turnsOf_ok (l : List Tk) (n : Nat) : ∀ t ∈ turnsOf l n, t.Ok 3 := fun t ht => by
  simp only [turnsOf, List.mem_map] at ht
  obtain ⟨x, _, rfl⟩ := ht
  exact (turnTk_ok x).1
theorem turnsOf_len (l : List Tk) (n : Nat) : (turnsOf l n).length ≤ n := by simp [turnsOf]; omega
theorem turns_next {w : World} {base : Nat} {v : Value} (l : List Tk) (k : Nat) (h : k < l.length) (t : Trn) (ht : turnTk l[k] = t) (hown : w.ownsRow base 38 6 v (k + 1) (trns ((l.take k).map turnTk) ++ [.int .i64 t.kind, .int .i64 t.who, .int .i64 t.dest, .int .i64 t.label, .int .i64 t.key, .int .i64 t.value])) :
    w.ownsRow base 38 6 v (k + 1) (trns ((l.take (k + 1)).map turnTk)) := by
  rw [take_snoc _ _ h, List.map_append, List.map_cons, List.map_nil, ht]
  have := flat_snoc Trn.cells ((l.take k).map turnTk) t
  unfold trns at hown ⊢
  rw [← this]; exact hown
theorem six_put {w : World} {S : Nat} {a0 a1 a2 a3 a4 a5 : Value} {e : TypeId} (h : w.heap[S]? = some (.cells #[a0, a1, a2, a3, a4, a5] e (0, 0))) (x0 x1 x2 x3 x4 x5 : Value) :
    ((((((w.setCell ⟨S, 0, none⟩ x0).setCell ⟨S, 1, none⟩ x1).setCell ⟨S, 2, none⟩ x2).setCell ⟨S, 3, none⟩ x3).setCell ⟨S, 4, none⟩ x4).setCell ⟨S, 5, none⟩ x5).heap[S]? = some (.cells #[x0, x1, x2, x3, x4, x5] e (0, 0)) :=
  heap_setCell_same _ S 5 _ _ x5 (heap_setCell_same _ S 4 _ _ x4 (heap_setCell_same _ S 3 _ _ x3 (heap_setCell_same _ S 2 _ _ x2 (heap_setCell_same _ S 1 _ _ x1 (heap_setCell_same _ S 0 _ _ x0 h)))))
theorem six_soft {w : World} {S : Nat} {cs : Array Value} {e : TypeId} (h : w.heap[S]? = some (.cells cs e (0, 0))) (j : Nat) : w.frozen? ⟨S, j, none⟩ = false := by simp [World.frozen?, h]
theorem below_six {B : Nat} {w W : World} {S : Nat} (hb : Below B w W) (hS : B ≤ S) (x0 x1 x2 x3 x4 x5 : Value) : Below B w ((((((W.setCell ⟨S, 0, none⟩ x0).setCell ⟨S, 1, none⟩ x1).setCell ⟨S, 2, none⟩ x2).setCell ⟨S, 3, none⟩ x3).setCell ⟨S, 4, none⟩ x4).setCell ⟨S, 5, none⟩ x5) :=
  (((((hb.setCell hS _).setCell hS _).setCell hS _).setCell hS _).setCell hS _).setCell hS _
set_option maxRecDepth 100000 in
set_option maxHeartbeats 8000000 in
theorem cTurns {w : World} {v : Value} {l : List Tk} (n : Nat) (h : Has w 6 v l.length (tks l)) (hn : n ≤ 1000) :
    Calls Try.prog 11 #[v, .int .i64 n] w fun e w' => ∃ v', e = .returned v' ∧ w'.ownsRow w.heap.size 38 6 v' (turnsOf l n).length (trns (turnsOf l n)) ∧ Below w.heap.size w w' := by
  have H := Lib.hid h
  obtain ⟨_, ad, cap, rfl, _, hcm, _⟩ := h
  unfold maxLen at hcm
  go_enter Try.func11, Try.ntmps11
  go_wp2_with fail
  go_loopw [5, 6, 7] (fun out i _ wr => ∃ k : Nat, k ≤ l.length ∧ k ≤ n ∧ i = .int .i64 k ∧ wr.ownsRow w.heap.size 38 6 out k (trns ((l.take k).map turnTk)) ∧ Below w.heap.size w wr) (fun _ i _ _ => l.length - (intOf i).toNat)
  case atStart => exact ⟨0, by omega, by omega, rfl, World.ownsRow_nil _ _ _ _, Below.refl _ _⟩
  case round =>
    obtain ⟨k, hk, hkn, rfl, ho, hb⟩ := hrel
    have HO := Lib.hid ho
    have HB := Lib.hid hb
    clear ho hb
    by_cases h1 : k < l.length
    · by_cases h2 : k < n
      · have h1z : (k : Int) < (l.length : Int) := by omega
        have h2z : (k : Int) < (n : Int) := by omega
        obtain ⟨b, off, cap', he, -, x0, x1, x2, x3, x4, x5⟩ := tk_get H.out k h1
        simp only [Value.slice.injEq] at he
        obtain ⟨rfl, -, rfl⟩ := he
        replace x0 := cell_on HB.out x0
        replace x1 := cell_on HB.out x1
        replace x2 := cell_on HB.out x2
        replace x3 := cell_on HB.out x3
        replace x4 := cell_on HB.out x4
        replace x5 := cell_on HB.out x5
        have hbl := World.block_lt_of_cell? wr _ x0
        have hszw := HB.out.size
        have Hnx := Lib.hid (fun (W : World) (v : Value) (t : Trn) (ht : turnTk l[k] = t) ho => turns_next (w := W) (base := w.heap.size) (v := v) l k h1 t ht ho)
        generalize l[k] = x at *
        have hdef : Hid (turnTk x = if pn x.kind 5 ≤ 1 then ⟨1, pn x.who 4, 0, pn x.label 3, pn x.key 5, pn x.value 9⟩ else if pn x.kind 5 = 2 then ⟨2, pn x.who 4, 0, pn x.label 3, pn x.key 5, 0⟩ else ⟨3, pn x.who 4, pn x.dest 4, 0, 0, 0⟩) := rfl
        have P0 := Lib.hid fun X => picked x.kind 5 (by omega) (by omega) X
        have P1 := Lib.hid fun X => picked x.who 4 (by omega) (by omega) X
        have P2 := Lib.hid fun X => picked x.dest 4 (by omega) (by omega) X
        have P3 := Lib.hid fun X => picked x.label 3 (by omega) (by omega) X
        have P4 := Lib.hid fun X => picked x.key 5 (by omega) (by omega) X
        have P5 := Lib.hid fun X => picked x.value 9 (by omega) (by omega) X
        have hk5 := (pn_eq x.kind 5 (by omega)).2
        rw [← (pn_eq x.kind 5 (by omega)).1] at P0
        rw [← (pn_eq x.who 4 (by omega)).1] at P1
        rw [← (pn_eq x.dest 4 (by omega)).1] at P2
        rw [← (pn_eq x.label 3 (by omega)).1] at P3
        rw [← (pn_eq x.key 5 (by omega)).1] at P4
        rw [← (pn_eq x.value 9 (by omega)).1] at P5
        have Q3 := Lib.hid fun X => (P3.out X).mono fun _ _ h => same_symm h
        have Q4 := Lib.hid fun X => (P4.out X).mono fun _ _ h => same_symm h
        have Q5 := Lib.hid fun X => (P5.out X).mono fun _ _ h => same_symm h
        clear P3 P4 P5
        generalize pn x.kind 5 = d0 at *
        generalize pn x.who 4 = d1 at *
        generalize pn x.dest 4 = d2 at *
        generalize pn x.label 3 = d3 at *
        generalize pn x.key 5 = d4 at *
        generalize pn x.value 9 = d5 at *
        obtain ⟨y0, y1, y2, y3, y4, y5⟩ := x
        simp only at *
        go_upto_region 5 with (fail)
        go_region_held3 (fun X => X.cell? ⟨b, off + k * 6, none⟩ = some (.int .i64 y0) ∧ X.cell? ⟨b, off + k * 6 + 1, none⟩ = some (.int .i64 y1) ∧ X.cell? ⟨b, off + k * 6 + 2, none⟩ = some (.int .i64 y2))
          (go_keep)
          (first | (go_at_call 16; with_reducible refine (P1.out _).mono ?_; rintro e w' ⟨rfl, rfl⟩) | (go_at_call 16; with_reducible refine (P2.out _).mono ?_; rintro e w' ⟨rfl, rfl⟩) | fail)
        all_goals
          have hb2 : Below wr.heap.size wr (wr.alloc (.cells #[.int .i64 3, .int .i64 d1, .int .i64 d2, .int .i64 0, .int .i64 0, .int .i64 0] 38)).drew := (by repeat (first | exact Below.refl _ _ | refine Below.drew ?_ | refine Below.alloc ?_ (by first | (simp; done) | (simp; omega)) _ | refine Below.setCell ?_ (by first | (simp; done) | (simp; omega)) _))
          have hN : (wr.alloc (.cells #[.int .i64 3, .int .i64 d1, .int .i64 d2, .int .i64 0, .int .i64 0, .int .i64 0] 38)).drew.heap[wr.heap.size]? = some (.cells #[.int .i64 3, .int .i64 d1, .int .i64 d2, .int .i64 0, .int .i64 0, .int .i64 0] 38 (0, 0)) := heap_alloc_new _ _
          have HB1 := Lib.hid hb2
          have HB2 := Lib.hid (HB.out.trans (hb2.mono hszw))
          have HO1 := Lib.hid HO.out
          have HO2 := Lib.hid (owns_below HO.out hb2)
          replace x0 := cell_on hb2 x0
          replace x1 := cell_on hb2 x1
          replace x2 := cell_on hb2 x2
          replace x3 := cell_on hb2 x3
          replace x4 := cell_on hb2 x4
          replace x5 := cell_on hb2 x5
          have hNw : w.heap.size ≤ wr.heap.size := hszw
          have HN : Hid (wr.heap.size ≤ wr.heap.size) := Nat.le_refl _
          clear P1 P2 HB HO hb2
          generalize (wr.alloc (.cells #[.int .i64 3, .int .i64 d1, .int .i64 d2, .int .i64 0, .int .i64 0, .int .i64 0] 38)).drew = W2 at *
          obtain ⟨z0, z1, z2, z3, z4, z5⟩ := six_at hN
          have hNz := (Array.getElem?_eq_some_iff.1 hN).1
          obtain ⟨N, hNe⟩ : ∃ N, N = wr.heap.size := ⟨_, rfl⟩
          have HN2 : Hid (N = wr.heap.size) := hNe
          rw [← hNe] at hN z0 z1 z2 z3 z4 z5 hNw hNz ⊢
          clear hNe HN
          have HN := HN2
          have hsz2 := HB2.out.size
          rcases (show (d0 = 0 ∨ d0 = 1) ∨ d0 = 2 ∨ d0 = 3 ∨ d0 = 4 by omega) with h0 | rfl | h0
          · -- write
            rcases h0 with rfl | rfl
            all_goals
              have hb6 := below_six HB2.out hNw (.int .i64 1) (.int .i64 d1) (.int .i64 0) (.int .i64 d3) (.int .i64 d4) (.int .i64 d5)
              have h6 := six_put hN (.int .i64 1) (.int .i64 d1) (.int .i64 0) (.int .i64 d3) (.int .i64 d4) (.int .i64 d5)
              have hb6w : Below wr.heap.size wr ((((((W2.setCell ⟨N, 0, none⟩ (.int .i64 1)).setCell ⟨N, 1, none⟩ (.int .i64 d1)).setCell ⟨N, 2, none⟩ (.int .i64 0)).setCell ⟨N, 3, none⟩ (.int .i64 d3)).setCell ⟨N, 4, none⟩ (.int .i64 d4)).setCell ⟨N, 5, none⟩ (.int .i64 d5)) := by have := HN.out; subst this; exact below_six HB1.out (Nat.le_refl _) (.int .i64 1) (.int .i64 d1) (.int .i64 0) (.int .i64 d3) (.int .i64 d4) (.int .i64 d5)
              have ho6 := owns_below HO1.out hb6w
              clear hb6w
              obtain ⟨q0, q1, q2, q3, q4, q5⟩ := six_at h6
              have f0 := six_soft hN 0
              have f1 := six_soft hN 1
              have f2 := six_soft hN 2
              have f3 := six_soft hN 3
              have f4 := six_soft hN 4
              have f5 := six_soft hN 5
              have hs6 : w.heap.size ≤ ((((((W2.setCell ⟨N, 0, none⟩ (.int .i64 1)).setCell ⟨N, 1, none⟩ (.int .i64 d1)).setCell ⟨N, 2, none⟩ (.int .i64 0)).setCell ⟨N, 3, none⟩ (.int .i64 d3)).setCell ⟨N, 4, none⟩ (.int .i64 d4)).setCell ⟨N, 5, none⟩ (.int .i64 d5)).heap.size := hb6.size
              have R0 := Lib.hid q0
              have R1 := Lib.hid q1
              have R2 := Lib.hid q2
              have R3 := Lib.hid q3
              have R4 := Lib.hid q4
              have R5 := Lib.hid q5
              have HB6 := Lib.hid hb6
              have HO6 := Lib.hid ho6
              have HS6 := Lib.hid hs6
              clear h6 hb6 ho6 hs6 hN q0 q1 q2 q3 q4 q5 HO1 HO2
              go_upto_region 9 with (go_at_call 16; with_reducible refine (P0.out _).mono ?_; rintro e w' ⟨rfl, rfl⟩)
              refine wp_still_tail 21 (by kernel_rfl) (by kernel_rfl) ?_
              simp only [List.take_succ_cons, List.take_zero, List.drop_succ_cons, List.drop_zero]
              repeat still_step
              still_call (Q3.out _)
              repeat still_step
              still_call (Q4.out _)
              repeat still_step
              still_call (Q5.out _)
              repeat still_step
              refine wpStill_nil ?_
              go_upto_region 12 with (fail)
              clear f0 f1 f2 f3 f4 f5 z0 z1 z2 z3 z4 z5 x0 x1 x2 x3 x4 x5 P0 Q3 Q4 Q5
              generalize ((((((W2.setCell ⟨N, 0, none⟩ (.int .i64 1)).setCell ⟨N, 1, none⟩ (.int .i64 d1)).setCell ⟨N, 2, none⟩ (.int .i64 0)).setCell ⟨N, 3, none⟩ (.int .i64 d3)).setCell ⟨N, 4, none⟩ (.int .i64 d4)).setCell ⟨N, 5, none⟩ (.int .i64 d5)) = X6 at *
              have q0 : X6.drew.cell? _ = _ := R0.out
              have q1 : X6.drew.cell? _ = _ := R1.out
              have q2 : X6.drew.cell? _ = _ := R2.out
              have q3 : X6.drew.cell? _ = _ := R3.out
              have q4 : X6.drew.cell? _ = _ := R4.out
              have q5 : X6.drew.cell? _ = _ := R5.out
              have hsz2 : w.heap.size ≤ X6.drew.heap.size := HS6.out
              replace HB6 := Lib.hid (HB6.out.drew)
              replace HO6 := Lib.hid (owns_below HO6.out (Below.drew (Below.refl _ _)))
              clear R0 R1 R2 R3 R4 R5 HS6
              generalize X6.drew = W6 at *
              go_wp2_with (at_builtin; refine wp_app1 (w0 := W6) 25 38 6 48 _ elTurn Try.underlying25 w.heap.size _ _ _ HO6.out (by repeat (first | exact Below.refl _ _ | refine Below.drew ?_ | refine Below.alloc ?_ (by first | (simp; done) | (simp; omega)) _ | refine Below.setCell ?_ (by first | (simp; done) | (simp; omega)) _)) [.int .i64 1, .int .i64 d1, .int .i64 0, .int .i64 d3, .int .i64 d4, .int .i64 d5] rfl _ _ rfl rfl rfl (by first | exact heap_alloc_new _ _ | (simp only [heap_drew, heap_drewN]; exact heap_alloc_new _ _)) (by simp) rfl rfl (by omega) (by omega) hsz2 ?_; intro v6 w6 hown6 hgrow6 hb6)
              have hfin := Hnx.out _ _ ⟨1, d1, 0, d3, d4, d5⟩ (by rw [hdef.out]; rfl) hown6
              have hb7 := HB6.out.trans hb6
              go_roundw
              case rel => first | exact ⟨k + 1, by omega, by omega, by go_num, hfin, hb7⟩ | ((repeat apply Exists.intro); exact ⟨⟨k + 1, by omega, by omega, by go_num, hfin, hb7⟩, rfl⟩)
              case measure => simp [intOf]; omega
          · -- erase
            have hb6 := below_six HB2.out hNw (.int .i64 2) (.int .i64 d1) (.int .i64 0) (.int .i64 d3) (.int .i64 d4) (.int .i64 0)
            have h6 := six_put hN (.int .i64 2) (.int .i64 d1) (.int .i64 0) (.int .i64 d3) (.int .i64 d4) (.int .i64 0)
            have hb6w : Below wr.heap.size wr ((((((W2.setCell ⟨N, 0, none⟩ (.int .i64 2)).setCell ⟨N, 1, none⟩ (.int .i64 d1)).setCell ⟨N, 2, none⟩ (.int .i64 0)).setCell ⟨N, 3, none⟩ (.int .i64 d3)).setCell ⟨N, 4, none⟩ (.int .i64 d4)).setCell ⟨N, 5, none⟩ (.int .i64 0)) := by have := HN.out; subst this; exact below_six HB1.out (Nat.le_refl _) (.int .i64 2) (.int .i64 d1) (.int .i64 0) (.int .i64 d3) (.int .i64 d4) (.int .i64 0)
            have ho6 := owns_below HO1.out hb6w
            clear hb6w
            obtain ⟨q0, q1, q2, q3, q4, q5⟩ := six_at h6
            have f0 := six_soft hN 0
            have f1 := six_soft hN 1
            have f2 := six_soft hN 2
            have f3 := six_soft hN 3
            have f4 := six_soft hN 4
            have f5 := six_soft hN 5
            have hs6 : w.heap.size ≤ ((((((W2.setCell ⟨N, 0, none⟩ (.int .i64 2)).setCell ⟨N, 1, none⟩ (.int .i64 d1)).setCell ⟨N, 2, none⟩ (.int .i64 0)).setCell ⟨N, 3, none⟩ (.int .i64 d3)).setCell ⟨N, 4, none⟩ (.int .i64 d4)).setCell ⟨N, 5, none⟩ (.int .i64 0)).heap.size := hb6.size
            have R0 := Lib.hid q0
            have R1 := Lib.hid q1
            have R2 := Lib.hid q2
            have R3 := Lib.hid q3
            have R4 := Lib.hid q4
            have R5 := Lib.hid q5
            have HB6 := Lib.hid hb6
            have HO6 := Lib.hid ho6
            have HS6 := Lib.hid hs6
            clear h6 hb6 ho6 hs6 hN q0 q1 q2 q3 q4 q5 HO1 HO2
            go_upto_region 11 with (go_at_call 16; with_reducible refine (P0.out _).mono ?_; rintro e w' ⟨rfl, rfl⟩)
            refine wp_still_tail 15 (by kernel_rfl) (by kernel_rfl) ?_
            simp only [List.take_succ_cons, List.take_zero, List.drop_succ_cons, List.drop_zero]
            repeat still_step
            still_call (Q3.out _)
            repeat still_step
            still_call (Q4.out _)
            repeat still_step
            refine wpStill_nil ?_
            go_upto_region 12 with (fail)
            clear f0 f1 f2 f3 f4 f5 z0 z1 z2 z3 z4 z5 x0 x1 x2 x3 x4 x5 P0 Q3 Q4 Q5
            generalize ((((((W2.setCell ⟨N, 0, none⟩ (.int .i64 2)).setCell ⟨N, 1, none⟩ (.int .i64 d1)).setCell ⟨N, 2, none⟩ (.int .i64 0)).setCell ⟨N, 3, none⟩ (.int .i64 d3)).setCell ⟨N, 4, none⟩ (.int .i64 d4)).setCell ⟨N, 5, none⟩ (.int .i64 0)) = X6 at *
            have q0 : X6.drew.cell? _ = _ := R0.out
            have q1 : X6.drew.cell? _ = _ := R1.out
            have q2 : X6.drew.cell? _ = _ := R2.out
            have q3 : X6.drew.cell? _ = _ := R3.out
            have q4 : X6.drew.cell? _ = _ := R4.out
            have q5 : X6.drew.cell? _ = _ := R5.out
            have hsz2 : w.heap.size ≤ X6.drew.heap.size := HS6.out
            replace HB6 := Lib.hid (HB6.out.drew)
            replace HO6 := Lib.hid (owns_below HO6.out (Below.drew (Below.refl _ _)))
            clear R0 R1 R2 R3 R4 R5 HS6
            generalize X6.drew = W6 at *
            go_wp2_with (at_builtin; refine wp_app1 (w0 := W6) 25 38 6 48 _ elTurn Try.underlying25 w.heap.size _ _ _ HO6.out (by repeat (first | exact Below.refl _ _ | refine Below.drew ?_ | refine Below.alloc ?_ (by first | (simp; done) | (simp; omega)) _ | refine Below.setCell ?_ (by first | (simp; done) | (simp; omega)) _)) [.int .i64 2, .int .i64 d1, .int .i64 0, .int .i64 d3, .int .i64 d4, .int .i64 0] rfl _ _ rfl rfl rfl (by first | exact heap_alloc_new _ _ | (simp only [heap_drew, heap_drewN]; exact heap_alloc_new _ _)) (by simp) rfl rfl (by omega) (by omega) hsz2 ?_; intro v6 w6 hown6 hgrow6 hb6)
            have hfin := Hnx.out _ _ ⟨2, d1, 0, d3, d4, 0⟩ (by rw [hdef.out]; rfl) hown6
            have hb7 := HB6.out.trans hb6
            go_roundw
            case rel => first | exact ⟨k + 1, by omega, by omega, by go_num, hfin, hb7⟩ | ((repeat apply Exists.intro); exact ⟨⟨k + 1, by omega, by omega, by go_num, hfin, hb7⟩, rfl⟩)
            case measure => simp [intOf]; omega
          · -- tell
            rcases h0 with rfl | rfl
            all_goals
              go_upto_region 12 with (go_at_call 16; with_reducible refine (P0.out _).mono ?_; rintro e w' ⟨rfl, rfl⟩)
              go_wp2_with (at_builtin; refine wp_app1 (w0 := W2) 25 38 6 48 _ elTurn Try.underlying25 w.heap.size _ _ _ HO2.out (by repeat (first | exact Below.refl _ _ | refine Below.drew ?_ | refine Below.alloc ?_ (by first | (simp; done) | (simp; omega)) _ | refine Below.setCell ?_ (by first | (simp; done) | (simp; omega)) _)) [.int .i64 3, .int .i64 d1, .int .i64 d2, .int .i64 0, .int .i64 0, .int .i64 0] rfl _ _ rfl rfl rfl (by first | exact heap_alloc_new _ _ | (simp only [heap_drew, heap_drewN]; exact heap_alloc_new _ _)) (by simp) rfl rfl (by omega) (by omega) hsz2 ?_; intro v6 w6 hown6 hgrow6 hb6)
              have hfin := Hnx.out _ _ ⟨3, d1, d2, 0, 0, 0⟩ (by rw [hdef.out]; rfl) hown6
              have hb7 := HB2.out.trans hb6
              go_roundw
              case rel => first | exact ⟨k + 1, by omega, by omega, by go_num, hfin, hb7⟩ | ((repeat apply Exists.intro); exact ⟨⟨k + 1, by omega, by omega, by go_num, hfin, hb7⟩, rfl⟩)
              case measure => simp [intOf]; omega
      · obtain rfl : k = n := by omega
        have hfin : Hid (wr.ownsRow w.heap.size 38 6 u5 (turnsOf l k).length (trns (turnsOf l k)) ∧ Below w.heap.size w wr) := by
          have e : (turnsOf l k).length = k := by simp [turnsOf]; omega
          rw [e]; exact ⟨HO.out, HB.out⟩
        obtain ⟨ao, co, hao⟩ := owns_slice HO.out
        subst hao
        have h1z : (k : Int) < (l.length : Int) := by omega
        clear HO HB
        go_wp2_with fail
        go_ret
        exact ⟨_, rfl, hfin.out⟩
    · obtain rfl : k = l.length := by omega
      have hfin : Hid (wr.ownsRow w.heap.size 38 6 u5 (turnsOf l n).length (trns (turnsOf l n)) ∧ Below w.heap.size w wr) := by
        have e : turnsOf l n = (l.take l.length).map turnTk := by unfold turnsOf; rw [List.take_of_length_le (Nat.le_refl _), List.take_of_length_le hkn]
        have e1 : (turnsOf l n).length = l.length := by rw [e]; simp
        rw [e1, e]; exact ⟨HO.out, HB.out⟩
      obtain ⟨ao, co, hao⟩ := owns_slice HO.out
      subst hao
      clear HO HB
      go_wp2_with fail
      go_ret
      exact ⟨_, rfl, hfin.out⟩
end Go.Proofs.Ytngedkfljpkoiaa
