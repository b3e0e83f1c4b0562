/- Package reg: May, the library's BinarySearchFunc on entries. -/
import Derived.Test.YtngedkfljpkoiaaMergeL
import Derived.Test.YtngedkfljpkoiaaInsG
import Derived.Test.YtngedkfljpkoiaaEql
import Derived.Test.YtngedkfljpkoiaaFive
import Derived.BigQuiet
import Derived.Shelf.Abstract
namespace Go.Proofs.Ytngedkfljpkoiaa
open Go.ChangeShapes Go.WideShapes Go.ChangeAt Go.RowKit
set_option linter.unusedVariables false
set_option linter.unusedSimpArgs false

set_option maxRecDepth 100000 in
set_option maxHeartbeats 1000000 in
theorem cclone_ent (v : Value) (n : Nat) (xs : List Value) (w : World) (h : Has w 5 v n xs) (h1 : xs.all Value.oneCell' = true) (hbytes : n * 40 ≤ 140737488355328) :
    Calls Try.prog 57 #[v] w fun e w' => ∃ v', e = .returned v' ∧ w'.ownsRow w.heap.size 41 5 v' n xs ∧ Below w.heap.size w w' := by
  obtain ⟨⟨hl, hnil⟩, a, cap, rfl, hn, hm, hc⟩ := h
  have q := fun w a n c n' c' => eql_nil Try.underlying33 w a n c n' c'
  have H1 := Lib.hid h1
  cases a with
  | none =>
    obtain ⟨rfl, rfl⟩ := hnil _ _ rfl
    obtain rfl : xs = [] := List.eq_nil_of_length_eq_zero (by simpa using hl)
    clear hc hnil hl h1
    go_enter Try.func57, Try.ntmps57
    go_wp2
    go_ret
    exact ⟨_, rfl, World.ownsRow_nil _ _ _ _, Below.refl _ _⟩
  | some a =>
    have Hs : Hid (∀ X, Below w.heap.size w X → Has X 5 (.slice (some a) n cap) n xs) := fun X hX => Has.below ⟨⟨hl, hnil⟩, some a, cap, rfl, hn, hm, hc⟩ hX
    have hn' : 0 + n ≤ maxLen := by omega
    have Hl := Lib.hid hl
    clear hc hnil hl h1
    go_enter Try.func57, Try.ntmps57
    go_wp2_with (at_builtin; refine wp_appN (w0 := w.alloc (.cells #[] 41)) 33 41 5 40 _ elEntry Try.underlying33 w.heap.size _ _ _ (World.ownsRow_made w #[] 0 (Nat.le_refl _) (Nat.zero_le _) rfl) (by repeat (first | exact Below.refl _ _ | refine Below.drew ?_ | refine Below.alloc ?_ (by first | (simp; done) | (simp; omega)) _ | refine Below.setCell ?_ (by first | (simp; done) | (simp; omega)) _)) _ _ _ (Hs.out _ ((Below.refl _ _).alloc (Nat.le_refl _) _)) rfl _ _ rfl rfl rfl H1.out (by omega) hn' (by simp) ?_; intro v3 w3 hown3 hgrow3 hb3)
    go_wp2
    go_ret
    exact ⟨_, rfl, by simpa using hown3, ((Below.refl _ w).alloc (Nat.le_refl _) _).trans hb3⟩

theorem ents_all (l : List Ent) : (ents l).all Value.oneCell' = true := List.all_eq_true.2 (ents_one l)
/-- What entry k of a row reads. -/
theorem ent_get {w : World} {v : Value} {l : List Ent} {n : Nat} (h : Has w 5 v n (ents l)) (k : Nat) (hk : k < l.length) :
    ∃ b off cap, v = .slice (some ⟨b, off, none⟩) n cap ∧ (n ≤ cap ∧ cap ≤ maxLen) ∧ (w.cell? ⟨b, off + k * 5, none⟩ = some (.int .i64 l[k].k) ∧ w.cell? ⟨b, off + k * 5 + 1, none⟩ = some (.int .i64 l[k].v) ∧ w.cell? ⟨b, off + k * 5 + 2, none⟩ = some (.int .i64 l[k].t) ∧ w.cell? ⟨b, off + k * 5 + 3, none⟩ = some (.int .i64 l[k].h) ∧ w.cell? ⟨b, off + k * 5 + 4, none⟩ = some (.bool l[k].g)) := by
  obtain ⟨⟨hl, _⟩, a, cap, rfl, h1, h2, hc⟩ := h
  obtain ⟨b, off, rfl, hcc⟩ := hc (by rw [ents_length]; omega)
  have g := fun j (hj : j < 5) u (hu : (l[k].cells)[j]? = some u) => hcc (k * 5 + j) u (by unfold ents; rw [flat_get Ent.cells 5 Ent.cells_length l k hk j hj]; exact hu)
  have g0 := g 0 (by omega) _ rfl
  have g1 := g 1 (by omega) _ rfl
  have g2 := g 2 (by omega) _ rfl
  have g3 := g 3 (by omega) _ rfl
  have g4 := g 4 (by omega) _ rfl
  rw [Nat.add_zero] at g0
  rw [← Nat.add_assoc] at g1 g2 g3 g4
  exact ⟨b, off, cap, rfl, ⟨h1, h2⟩, g0, g1, g2, g3, g4⟩
theorem ent_box {w : World} (x : Ent) : Below w.heap.size w (w.alloc (.cells #[.int .i64 x.k, .int .i64 x.v, .int .i64 x.t, .int .i64 x.h, .bool x.g] 41)) := (Below.refl _ _).alloc (Nat.le_refl _) _
theorem cin (n m : Int) (h0 : 0 ≤ n) (h1 : n ≤ m) (w : World) : Calls Try.prog 42 #[.int .i64 n, .int .i64 m] w fun e w' => e = .returned (.bool true) ∧ w = w' := by
  go_enter Try.func42, Try.ntmps42
  go_wp2_with fail
  go_ret
  exact ⟨rfl, rfl⟩
set_option maxRecDepth 100000 in
set_option maxHeartbeats 2000000 in
theorem cone (x : Ent) (hx : x.Ok) (w : World) : Calls Try.prog 24 #[.agg #[.int .i64 x.k, .int .i64 x.v, .int .i64 x.t, .int .i64 x.h, .bool x.g]] w fun e w' => e = .returned (.bool true) ∧ Below w.heap.size w w' := by
  have hb := ent_box (w := w) x
  obtain ⟨⟨x0, x1, x2, x3, x4⟩, -⟩ := five_at (heap_alloc_new w (.cells #[.int .i64 x.k, .int .i64 x.v, .int .i64 x.t, .int .i64 x.h, .bool x.g] 41))
  have Ck := Lib.hid fun X => cin x.k 1048576 hx.k.1 hx.k.2 X
  have Cv := Lib.hid fun X => cin x.v 1048576 hx.v.1 hx.v.2 X
  have Ct := Lib.hid fun X => cin x.t 1048576 hx.t.1 hx.t.2 X
  have Ch := Lib.hid fun X => cin x.h 7 hx.h.1 hx.h.2 X
  have hg := hx.g
  obtain ⟨k, v, t, h, g⟩ := x
  simp only at *
  cases g with
  | false =>
    clear hg hx
    go_enter Try.func24, Try.ntmps24
    go_wp2_with fail
    refine (Ck.out _).mono ?_
    rintro e w' ⟨rfl, rfl⟩
    go_wp2_with fail
    refine (Cv.out _).mono ?_
    rintro e w' ⟨rfl, rfl⟩
    go_wp2_with fail
    refine (Ct.out _).mono ?_
    rintro e w' ⟨rfl, rfl⟩
    go_wp2_with fail
    refine (Ch.out _).mono ?_
    rintro e w' ⟨rfl, rfl⟩
    go_wp2_with fail
    go_ret
    exact ⟨rfl, hb⟩
  | true =>
    obtain rfl := hg rfl
    clear hg hx
    go_enter Try.func24, Try.ntmps24
    go_wp2_with fail
    refine (Ck.out _).mono ?_
    rintro e w' ⟨rfl, rfl⟩
    go_wp2_with fail
    refine (Cv.out _).mono ?_
    rintro e w' ⟨rfl, rfl⟩
    go_wp2_with fail
    refine (Ct.out _).mono ?_
    rintro e w' ⟨rfl, rfl⟩
    go_wp2_with fail
    refine (Ch.out _).mono ?_
    rintro e w' ⟨rfl, rfl⟩
    go_wp2_with fail
    go_ret
    exact ⟨rfl, hb⟩
theorem MayL.lt {l : List Ent} (h : MayL l) (i j : Nat) (hi : i < l.length) (hj : j < l.length) (hij : i < j) : l[i].k < l[j].k := List.pairwise_iff_getElem.1 h.sorted i j hi hj hij
set_option maxRecDepth 100000 in
set_option maxHeartbeats 4000000 in
theorem cmay (v : Value) (l : List Ent) (w : World) (h : Has w 5 v l.length (ents l)) (hm : MayL l) (hlen : l.length ≤ 8) :
    Calls Try.prog 15 #[v] w fun e w' => e = .returned (.bool true) ∧ Below w.heap.size w w' := by
  have H := Lib.hid h
  have HM := Lib.hid hm
  obtain ⟨_, a, cap, rfl, hcn, hcm, _⟩ := h
  unfold maxLen at hcm
  clear hm
  go_enter Try.func15, Try.ntmps15
  go_wp2_with fail
  go_loopw [3, 7] (fun _ i wr => ∃ k : Nat, k ≤ l.length ∧ i = .int .i64 k ∧ Hid (Below w.heap.size w wr)) (fun _ i _ => l.length - (intOf i).toNat)
  case atStart => exact ⟨0, by omega, rfl, Below.refl _ _⟩
  case round =>
    obtain ⟨k, hk, rfl, HB⟩ := hrel
    by_cases hlt : k < l.length
    · obtain ⟨b, off, cap', he, -, x0, x1, x2, x3, x4⟩ := ent_get H.out k hlt
      simp only [Value.slice.injEq] at he
      obtain ⟨rfl, -, rfl⟩ := he
      replace x0 := cell_on HB.out x0
      replace x1 := cell_on HB.out x1
      replace x2 := cell_on HB.out x2
      replace x3 := cell_on HB.out x3
      replace x4 := cell_on HB.out x4
      have hbl := World.block_lt_of_cell? wr _ x0
      have hltz : (k : Int) < (l.length : Int) := by omega
      have hxok := HM.out.ok _ (List.getElem_mem hlt)
      have hb := ent_box (w := wr) l[k]
      have hprev : 0 < k → ∃ p : Int, wr.cell? ⟨b, off + (k - 1) * 5, none⟩ = some (.int .i64 p) ∧ p < l[k].k := fun hk0 => by
        obtain ⟨b', off', cap'', he, -, y0, -⟩ := ent_get H.out (k - 1) (by omega)
        simp only [Value.slice.injEq, Option.some.injEq, Addr.mk.injEq, and_true, true_and] at he
        obtain ⟨⟨rfl, rfl⟩, rfl⟩ := he
        exact ⟨_, cell_on HB.out y0, HM.out.lt (k - 1) k (by omega) hlt (by omega)⟩
      have hE := heap_alloc_new wr (.cells #[.int .i64 l[k].k, .int .i64 l[k].v, .int .i64 l[k].t, .int .i64 l[k].h, .bool l[k].g] 41)
      have CO := Lib.hid fun X => cone l[k] hxok X
      generalize l[k] = x at *
      obtain ⟨⟨z0, z1, z2, z3, z4⟩, -⟩ := five_at hE
      have Hb := Lib.hid hb
      have Hprev := Lib.hid hprev
      clear hE hb hxok hprev
      go_upto_region 4 with (fail)
      generalize hW : wr.alloc (.cells #[.int .i64 x.k, .int .i64 x.v, .int .i64 x.t, .int .i64 x.h, .bool x.g] 41) = W at *
      have CS : Hid (∀ X : Ext W, Calls Try.prog 24 #[.agg #[.int .i64 x.k, .int .i64 x.v, .int .i64 x.t, .int .i64 x.h, .bool x.g]] X.1 fun e w' => e = .returned (.bool true) ∧ Below X.1.heap.size X.1 w') := fun X => CO.out X.1
      have p0 := ext_cell z0
      have p1 := ext_cell z1
      have p2 := ext_cell z2
      have p3 := ext_cell z3
      have p4 := ext_cell z4
      clear x0 x1 x2 x3 x4 z0 z1 z2 z3 z4 hW
      by_cases hk0 : 0 < k
      · obtain ⟨p, hp, hpx⟩ := Hprev.out hk0
        have p5 := ext_cell (cell_on Hb.out hp)
        have hz0 : (0 : Int) < (k : Int) := by omega
        have hw : IntKind.i64.wrap ((k : Int) - 1) = ((k - 1 : Nat) : Int) := by rw [show (k : Int) - 1 = ((k - 1 : Nat) : Int) by omega]; exact IntWalk.i64_in _ (by omega)
        have hk1 : ((k - 1 : Nat) : Int) < (l.length : Int) := by omega
        have hd : decide (x.k ≤ p) = false := by simp; omega
        refine wp_region_grow (by kernel_rfl) (by kernel_rfl) ?_
        repeat (go_big_quiet_step ((go_at_call 24; with_reducible exact grow_of (CS.out _))))
        refine wpQuiet_nil ?_
        intro w8 hb8
        have Hb8 : Hid (Below w.heap.size w w8) := (HB.out.trans (Hb.out.mono HB.out.size)).trans (hb8.mono (Nat.le_trans HB.out.size Hb.out.size))
        clear p0 p1 p2 p3 p4 p5 hb8 CS
        go_wp2_with fail
        go_roundw
        case rel => exact ⟨k + 1, by omega, by go_num, Hb8⟩
        case measure => first | (simp [intOf]; done) | (simp [intOf]; omega)
      · obtain rfl : k = 0 := by omega
        refine wp_region_grow (by kernel_rfl) (by kernel_rfl) ?_
        repeat (go_big_quiet_step ((go_at_call 24; with_reducible exact grow_of (CS.out _))))
        refine wpQuiet_nil ?_
        intro w8 hb8
        have Hb8 : Hid (Below w.heap.size w w8) := (HB.out.trans (Hb.out.mono HB.out.size)).trans (hb8.mono (Nat.le_trans HB.out.size Hb.out.size))
        clear p0 p1 p2 p3 p4 hb8 CS
        go_wp2_with fail
        go_roundw
        case rel => exact ⟨0 + 1, by omega, by go_num, Hb8⟩
        case measure => first | (simp [intOf]; done) | (simp [intOf]; omega)
    · obtain rfl : k = l.length := by omega
      go_wp2_with fail
      go_ret
      exact ⟨ret_bool (by simp; omega), HB.out⟩
end Go.Proofs.Ytngedkfljpkoiaa
