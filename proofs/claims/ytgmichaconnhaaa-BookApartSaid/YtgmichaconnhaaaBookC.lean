/- Books: calls, and the walk of call. -/
import Derived.Test.YtgmichaconnhaaaBookR
namespace Go.Proofs.Ytgmichaconnhaaa
open Go.ChangeShapes Go.WideShapes Go.ChangeAt Go.RowKit
set_option linter.unusedVariables false
set_option linter.unusedSimpArgs false

structure Cal where
  kind : Int
  who : Int
  count : Int
def Cal.cells (c : Cal) : List Value := [.int .i64 c.kind, .int .i64 c.who, .int .i64 c.count]
theorem Cal.cells_length (c : Cal) : c.cells.length = 3 := rfl
def cals (l : List Cal) : List Value := l.flatMap Cal.cells
def CalOk (n : Nat) (c : Cal) : Prop := (c.kind = 1 ∧ 1 ≤ c.count ∧ c.count ≤ 1000) ∨ (c.kind = 2 ∧ 0 ≤ c.who ∧ c.who < n ∧ 0 ≤ c.count ∧ c.count ≤ 1000) ∨ c.kind = 3
/-- What a call does, and what it comes to. -/
def Bk.step (b : Bk) (c : Cal) : Bk := if c.kind = 1 then b.stock c.count else if c.kind = 2 then b.want c.who.toNat c.count else b.rounded
def Bk.out (b : Bk) (c : Cal) : List Int × Int := if c.kind = 3 then (b.rounded.granted, b.report) else ([], -1)
/-- A ruling, with the slice of its grants. -/
structure Rul where
  gv : Value
  g : List Int
  report : Int
def Rul.cells (r : Rul) : List Value := [.int .i64 0, r.gv, .int .i64 r.report]
theorem Rul.cells_length (r : Rul) : r.cells.length = 3 := rfl
def ruls (l : List Rul) : List Value := l.flatMap Rul.cells
def Rul.erase (r : Rul) : List Int × Int := (r.g, r.report)
/-- The slice lies in no block of F. -/
def Away (F : Nat → Prop) (v : Value) : Prop := ∀ b off n c, v = .slice (some ⟨b, off, none⟩) n c → ¬ F b
structure RulAt (w : World) (r : Rul) : Prop where
  has : HasT w 3 1 r.gv r.g.length (ints r.g)
  sl : ∃ a c, r.gv = .slice a r.g.length c
theorem RulAt.below {w w' : World} {r : Rul} (h : RulAt w r) (hb : Below w.heap.size w w') : RulAt w' r := ⟨h.has.below hb, h.sl⟩
theorem RulAt.chg {w w' : World} {r : Rul} (h : RulAt w r) (hc : Chg [48] w w') : RulAt w' r := ⟨h.has.chg hc (by decide), h.sl⟩
theorem HasT.wrote {F : Nat → Prop} {w w' : World} {e : TypeId} {sz n : Nat} {v : Value} {xs : List Value} (h : HasT w e sz v n xs) (hw : Wrote F w w') (ha : Away F v) : HasT w' e sz v n xs := by
  obtain ⟨⟨hl, a, cap, rfl, h1, h2, h3⟩, ht⟩ := h
  have hblk : ∀ b off n' cap', Value.slice a n cap = .slice (some ⟨b, off, none⟩) n' cap' → ∃ cs r, w.heap[b]? = some (.cells cs e r) ∧ w'.heap[b]? = some (.cells cs e r) := fun b off n' cap' hv => by
    obtain ⟨cs, r, hh⟩ := ht b off n' cap' hv
    exact ⟨cs, r, hh, by rw [hw.block b (Array.getElem?_eq_some_iff.1 hh).1 (ha b off n' cap' hv)]; exact hh⟩
  refine ⟨⟨hl, a, cap, rfl, h1, h2, fun hp => ?_⟩, fun b off n' cap' hv => ?_⟩
  · obtain ⟨b, off, rfl, hcc⟩ := h3 hp
    refine ⟨b, off, rfl, fun j u hu => ?_⟩
    obtain ⟨cs, r, q1, q2⟩ := hblk b off n cap rfl
    rw [World.cell?_of_block (w := w) (a := ⟨b, off + j, none⟩) (by rw [q2, q1])]
    exact hcc j u hu
  · obtain ⟨cs, r, q1, q2⟩ := hblk b off n' cap' hv
    exact ⟨cs, r, q2⟩
theorem RulAt.wrote {F : Nat → Prop} {w w' : World} {r : Rul} (h : RulAt w r) (hw : Wrote F w w') (ha : Away F r.gv) : RulAt w' r := ⟨h.has.wrote hw ha, h.sl⟩
theorem owns_away {w : World} {base e sz n : Nat} {v : Value} {xs : List Value} (h : w.ownsRow base e sz v n xs) {F : Nat → Prop} (hF : ∀ k, F k → k < base) : Away F v := by
  intro b off n' c hv hf
  obtain ⟨_, h⟩ := h
  rcases h with ⟨rfl, _⟩ | ⟨g, cap, cur, rfl, hg, _⟩
  · simp at hv
  · simp only [Value.slice.injEq, Option.some.injEq, Addr.mk.injEq] at hv
    obtain ⟨⟨rfl, -, -⟩, -, -⟩ := hv
    have := hF _ hf; omega
def none0 : Value := .slice none 0 0
theorem RulAt.nothing (w : World) : RulAt w ⟨none0, [], -1⟩ :=
  ⟨⟨⟨⟨rfl, fun n cap h => by simp [none0] at h; exact ⟨h.1.symm, h.2.symm⟩⟩, none, 0, rfl, Nat.le_refl _, Nat.zero_le _, fun h => by simp [ints] at h⟩, fun b off n' cap h => by simp [none0] at h⟩, none, 0, rfl⟩
theorem BkOk.step {n : Nat} {b : Bk} (h : BkOk n b) (c : Cal) (hc : CalOk n c) (ha : b.all + 1000 ≤ 1048576) : BkOk n (b.step c) ∧ (b.step c).all ≤ b.all + 1000 ∧ (b.step c).round ≤ b.round + 1 := by
  unfold Bk.step
  have hpay : ∀ (x : Bk) k, (x.payTo k).all = x.all ∧ (x.payTo k).round = x.round := fun x k => by
    induction k with
    | zero => exact ⟨rfl, rfl⟩
    | succ k ih => rw [Bk.payTo_succ]; exact ih
  have hnx : b.next.all = b.all ∧ b.next.round = b.round + 1 := by unfold Bk.next Bk.epoch; split <;> exact ⟨rfl, rfl⟩
  have hr := hpay b.next b.wants.length
  rcases hc with ⟨e, h1, h2⟩ | ⟨e, h1, h2, h3, h4⟩ | e
  · rw [if_pos e]
    exact ⟨h.stock _ (by omega) (by omega), by simp only [Bk.stock]; omega, by simp only [Bk.stock]; omega⟩
  · rw [if_neg (by omega), if_pos e]
    exact ⟨h.want' _ _ (by omega) (by omega), by simp only [Bk.want]; omega, by simp only [Bk.want]; omega⟩
  · rw [if_neg (by omega), if_neg (by omega)]
    unfold Bk.rounded
    exact ⟨h.rounded, by omega, by omega⟩
theorem three_cells {w : World} {p : Nat} {a b c : Value} {e : TypeId} (h : w.heap[p]? = some (.cells #[a, b, c] e (0, 0))) : w.cell? ⟨p, 0, none⟩ = some a ∧ w.cell? ⟨p, 1, none⟩ = some b ∧ w.cell? ⟨p, 2, none⟩ = some c ∧ w.frozen? ⟨p, 0, none⟩ = false ∧ w.frozen? ⟨p, 1, none⟩ = false ∧ w.frozen? ⟨p, 2, none⟩ = false := by
  refine ⟨?_, ?_, ?_, ?_, ?_, ?_⟩
  all_goals first | (rw [cell_of_row w p _ _ _ _ h]; rfl) | simp [World.frozen?, h]
/-- The three blocks that a call makes: the call, the result, the ruling. -/
theorem call_blocks (w : World) (a1 a2 a3 b1 b2 b3 c1 c2 c3 : Value) (T U : TypeId) :
    let W := ((w.alloc (.cells #[a1, a2, a3] T)).alloc (.cells #[b1, b2, b3] U)).alloc (.cells #[c1, c2, c3] U)
    W.heap[w.heap.size]? = some (.cells #[a1, a2, a3] T (0, 0)) ∧ W.heap[w.heap.size + 1]? = some (.cells #[b1, b2, b3] U (0, 0)) ∧ W.heap[w.heap.size + 1 + 1]? = some (.cells #[c1, c2, c3] U (0, 0)) ∧ Below w.heap.size w W := by
  refine ⟨?_, ?_, ?_, ?_⟩
  · rw [Below.heap_alloc _ _ _ (by simp; omega), Below.heap_alloc _ _ _ (by simp), heap_alloc_new]
  · rw [Below.heap_alloc _ _ _ (by simp)]
    have := heap_alloc_new (w.alloc (.cells #[a1, a2, a3] T)) (.cells #[b1, b2, b3] U)
    simpa using this
  · have := heap_alloc_new ((w.alloc (.cells #[a1, a2, a3] T)).alloc (.cells #[b1, b2, b3] U)) (.cells #[c1, c2, c3] U)
    simpa using this
  · exact (((Below.refl _ _).alloc (Nat.le_refl _) _).alloc (by simp) _).alloc (by simp; omega) _
theorem call_end {w w4 : World} {S gw gg gq gq' cq n p : Nat} {b : Bk} (hB : BookAt w4 S gw gg gq' cq n b) (hW : Wrote (bkF S gw gg gq) w w4) (hp : w.heap.size ≤ p) (h1 : S ≠ p) (h2 : gw ≠ p) (h3 : gg ≠ p) (h4 : gq' ≠ p) (a c d : Value) :
    BookAt (((w4.setCell ⟨p, 0, none⟩ a).setCell ⟨p, 1, none⟩ c).setCell ⟨p, 2, none⟩ d) S gw gg gq' cq n b ∧ Wrote (bkF S gw gg gq) w (((w4.setCell ⟨p, 0, none⟩ a).setCell ⟨p, 1, none⟩ c).setCell ⟨p, 2, none⟩ d) := by
  refine ⟨hB.wrote (F := fun k => k = p) (((Wrote.refl (fun k => k = p) w4).setCell (p := ⟨p, 0, none⟩) rfl _ |>.setCell (p := ⟨p, 1, none⟩) rfl _).setCell (p := ⟨p, 2, none⟩) rfl _) h1 h2 h3 h4, ?_⟩
  exact wrote_fresh (p := ⟨p, 2, none⟩) (wrote_fresh (p := ⟨p, 1, none⟩) (wrote_fresh (p := ⟨p, 0, none⟩) hW (Or.inr hp) _) (Or.inr hp) _) (Or.inr hp) _
theorem call_end5 {w W3 w4 : World} {S gw gg gq gq' cq n p q : Nat} {b : Bk} {v : Value} {g : List Int} (hB : BookAt w4 S gw gg gq' cq n b) (hW : Wrote (bkF S gw gg gq) w w4) (hp : w.heap.size ≤ p) (hq : w.heap.size ≤ q) (h1 : S < w.heap.size) (h2 : gw < w.heap.size) (h3 : gg < w.heap.size) (h4 : gq' ≠ p ∧ gq' ≠ q)
    (hp3 : p < W3.heap.size) (hq3 : q < W3.heap.size) (hv : w4.ownsRow W3.heap.size 3 1 v n (ints g)) (hg : g.length = n) (rp : Int) (a c d x y : Value) :
    let X := ((((w4.setCell ⟨q, 1, none⟩ x).setCell ⟨q, 2, none⟩ y).setCell ⟨p, 0, none⟩ a).setCell ⟨p, 1, none⟩ c).setCell ⟨p, 2, none⟩ d
    BookAt X S gw gg gq' cq n b ∧ Wrote (bkF S gw gg gq) w X ∧ RulAt X ⟨v, g, rp⟩ := by
  have hpq : Wrote (fun k => k = p ∨ k = q) w4 (((((w4.setCell ⟨q, 1, none⟩ x).setCell ⟨q, 2, none⟩ y).setCell ⟨p, 0, none⟩ a).setCell ⟨p, 1, none⟩ c).setCell ⟨p, 2, none⟩ d) :=
    (((((Wrote.refl (fun k => k = p ∨ k = q) w4).setCell (p := ⟨q, 1, none⟩) (Or.inr rfl) _).setCell (p := ⟨q, 2, none⟩) (Or.inr rfl) _).setCell (p := ⟨p, 0, none⟩) (Or.inl rfl) _).setCell (p := ⟨p, 1, none⟩) (Or.inl rfl) _).setCell (p := ⟨p, 2, none⟩) (Or.inl rfl) _
  refine ⟨hB.wrote hpq (by omega) (by omega) (by omega) (by omega), ?_, ?_, ?_⟩
  · exact wrote_fresh (p := ⟨p, 2, none⟩) (wrote_fresh (p := ⟨p, 1, none⟩) (wrote_fresh (p := ⟨p, 0, none⟩) (wrote_fresh (p := ⟨q, 2, none⟩) (wrote_fresh (p := ⟨q, 1, none⟩) hW (Or.inr hq) _) (Or.inr hq) _) (Or.inr hp) _) (Or.inr hp) _) (Or.inr hp) _
  · have h := HasT.of_owns hv
    rw [← hg] at h
    exact h.wrote hpq (owns_away hv fun k hk => by rcases hk with rfl | rfl <;> assumption)
  · obtain ⟨a', c', rfl⟩ := owns_slice hv
    exact ⟨a', c', by rw [hg]⟩
/-- What a call leaves. -/
def CallPost (w : World) (S gw gg gq cq n : Nat) (b : Bk) (c : Cal) (e : Ending) (w' : World) : Prop :=
  ∃ r gq' cq', e = .returned (.agg #[.int .i64 0, r.gv, .int .i64 r.report]) ∧ RulAt w' r ∧ r.erase = b.out c ∧ BookAt w' S gw gg gq' cq' n (b.step c) ∧ (gq' = gq ∨ w.heap.size ≤ gq') ∧ Wrote (bkF S gw gg gq) w w' ∧ Away (fun k => k < w.heap.size ∨ k = gq') r.gv
set_option maxRecDepth 100000 in
set_option maxHeartbeats 4000000 in
theorem ccall {w : World} {S gw gg gq cq n : Nat} {b : Bk} (h : BookAt w S gw gg gq cq n b) (hok : BkOk n b) (h1 : 1 ≤ n) (h8 : n ≤ 8) (hr : b.round ≤ 1000) (ha : b.all + 1000 ≤ 1048576) (c : Cal) (hc : CalOk n c) :
    Calls Try.prog 48 #[.pointer (some ⟨S, 0, none⟩), .agg #[.int .i64 c.kind, .int .i64 c.who, .int .i64 c.count]] w (CallPost w S gw gg gq cq n b c) := by
  obtain ⟨kd, wh, ct⟩ := c
  have H := Lib.hid h
  have Hok := Lib.hid hok
  have hlt := h.lt.1
  have hres := hok.res
  have c4 := h.c4
  have c5 := h.c5
  rcases hc with ⟨e, q1, q2⟩ | ⟨e, q1, q2, q3, q4⟩ | e
  · simp only at e q1 q2 ⊢
    subst e
    have Hc := Lib.hid fun X (hX : Below w.heap.size w X) => cstockBook (h.on hX) ct (by omega) (by omega)
    generalize b.all = al at *
    clear h hok
    have ws : IntKind.i64.wrap (al + ct) = al + ct := IntWalk.i64_in _ (by omega)
    have dd : decide (1048576 < al + ct) = false := by simp; omega
    go_enter Try.func48, Try.ntmps48
    go_upto_region 8 with (fail)
    obtain ⟨x0, x1, x2, hbx⟩ := call_blocks w (.int .i64 1) (.int .i64 wh) (.int .i64 ct) (.int .i64 0) (.slice none 0 0) (.int .i64 0) (.int .i64 0) (.slice none 0 0) (.int .i64 (-1)) 46 48
    have X1 := Lib.hid x1
    have X2 := Lib.hid x2
    have Hbx := Lib.hid hbx
    obtain ⟨t0, t1, t2, -, -, -⟩ := three_cells x0
    have c4' := cell_on hbx c4
    have hl := H.out.lt
    have hnF := Lib.hid fun (k : Nat) (hk : w.heap.size ≤ k) => show ¬ bkF S gw gg gq k from fun hf => by
      rcases hf with rfl | rfl | rfl | rfl <;> omega
    have hsx : w.heap.size + 1 + 1 < (((w.alloc (Obj.cells #[.int .i64 1, .int .i64 wh, .int .i64 ct] 46)).alloc (Obj.cells #[.int .i64 0, .slice none 0 0, .int .i64 0] 48)).alloc (Obj.cells #[.int .i64 0, .slice none 0 0, .int .i64 (-1)] 48)).heap.size := by simp
    clear x0 x1 x2 hbx c4
    generalize ((w.alloc (Obj.cells #[.int .i64 1, .int .i64 wh, .int .i64 ct] 46)).alloc (Obj.cells #[.int .i64 0, .slice none 0 0, .int .i64 0] 48)).alloc (Obj.cells #[.int .i64 0, .slice none 0 0, .int .i64 (-1)] 48) = W3 at *
    go_quiet (fail)
    go_wp2_with fail
    refine (Hc.out _ (below_drewN Hbx.out _)).mono ?_
    rintro e w4 ⟨rfl, hB, hW⟩
    have y1 := hW.block (w.heap.size + 1) (show w.heap.size + 1 < W3.heap.size by omega) (hnF.out _ (by omega))
    have y2 := hW.block (w.heap.size + 1 + 1) hsx (hnF.out _ (by omega))
    rw [World.heap_drewN, X1.out] at y1
    rw [World.heap_drewN, X2.out] at y2
    obtain ⟨z0, z1, z2, z3, z4, z5⟩ := three_cells y1
    obtain ⟨u0, u1, u2, -, -, -⟩ := three_cells y2
    have HB := Lib.hid hB
    have HW : Hid (Wrote (bkF S gw gg gq) w w4) := (Wrote.of_below (below_drewN Hbx.out _) (fun k h1 h2 => by omega)).trans hW
    clear y1 y2 hB hW c5 ws dd t0 t1 t2 c4'
    go_wp2_with fail
    obtain ⟨f1, f2⟩ := call_end (p := w.heap.size + 1) HB.out HW.out (by omega) (by omega) (by omega) (by omega) (by omega) (.int .i64 0) (.slice none 0 0) (.int .i64 (-1))
    have F1 := Lib.hid f1
    have F2 := Lib.hid f2
    clear f1 f2
    refine bodyPost_ret (v := .agg #[.int .i64 0, .slice none 0 0, .int .i64 (-1)]) (by simp [results, Try.results48, go_sem, z0, z1, z2]) rfl ?_
    exact ⟨⟨none0, [], -1⟩, gq, cq, rfl, RulAt.nothing _, rfl, F1.out, Or.inl rfl, F2.out, fun b off n c h => by simp [none0] at h⟩
  · simp only at e q1 q2 q3 q4 ⊢
    subst e
    obtain ⟨who, rfl⟩ := Int.eq_ofNat_of_zero_le q1
    have Hc := Lib.hid fun X (hX : Below w.heap.size w X) => cwantBook (h.on hX) who ct (by omega) hok.lw h8
    clear h hok
    go_enter Try.func48, Try.ntmps48
    go_upto_region 11 with (fail)
    obtain ⟨x0, x1, x2, hbx⟩ := call_blocks w (.int .i64 2) (.int .i64 who) (.int .i64 ct) (.int .i64 0) (.slice none 0 0) (.int .i64 0) (.int .i64 0) (.slice none 0 0) (.int .i64 (-1)) 46 48
    have X1 := Lib.hid x1
    have X2 := Lib.hid x2
    have Hbx := Lib.hid hbx
    obtain ⟨t0, t1, t2, -, -, -⟩ := three_cells x0
    have c5' := cell_on hbx c5
    have hl := H.out.lt
    have hnF := Lib.hid fun (k : Nat) (hk : w.heap.size ≤ k) => show ¬ bkF S gw gg gq k from fun hf => by
      rcases hf with rfl | rfl | rfl | rfl <;> omega
    have hsx : w.heap.size + 1 + 1 < (((w.alloc (Obj.cells #[.int .i64 2, .int .i64 who, .int .i64 ct] 46)).alloc (Obj.cells #[.int .i64 0, .slice none 0 0, .int .i64 0] 48)).alloc (Obj.cells #[.int .i64 0, .slice none 0 0, .int .i64 (-1)] 48)).heap.size := by simp
    clear x0 x1 x2 hbx c4 c5
    generalize ((w.alloc (Obj.cells #[.int .i64 2, .int .i64 who, .int .i64 ct] 46)).alloc (Obj.cells #[.int .i64 0, .slice none 0 0, .int .i64 0] 48)).alloc (Obj.cells #[.int .i64 0, .slice none 0 0, .int .i64 (-1)] 48) = W3 at *
    have hwn : decide (n ≤ who) = false := by simp; omega
    have dd1 : decide (ct < 0) = false := by simp; omega
    have dd2 : decide (1048576 < ct) = false := by simp; omega
    go_quiet (fail)
    go_wp2_with fail
    refine (Hc.out _ (below_drewN Hbx.out _)).mono ?_
    rintro e w4 ⟨rfl, hB, hW⟩
    have y1 := hW.block (w.heap.size + 1) (show w.heap.size + 1 < W3.heap.size by omega) (hnF.out _ (by omega))
    have y2 := hW.block (w.heap.size + 1 + 1) hsx (hnF.out _ (by omega))
    rw [World.heap_drewN, X1.out] at y1
    rw [World.heap_drewN, X2.out] at y2
    obtain ⟨z0, z1, z2, z3, z4, z5⟩ := three_cells y1
    obtain ⟨u0, u1, u2, -, -, -⟩ := three_cells y2
    have HB := Lib.hid hB
    have HW : Hid (Wrote (bkF S gw gg gq) w w4) := (Wrote.of_below (below_drewN Hbx.out _) (fun k h1 h2 => by omega)).trans hW
    clear y1 y2 hB hW dd1 dd2 hwn t0 t1 t2 c5'
    go_wp2_with fail
    obtain ⟨f1, f2⟩ := call_end (p := w.heap.size + 1) HB.out HW.out (by omega) (by omega) (by omega) (by omega) (by omega) (.int .i64 0) (.slice none 0 0) (.int .i64 (-1))
    have F1 := Lib.hid f1
    have F2 := Lib.hid f2
    clear f1 f2
    refine bodyPost_ret (v := .agg #[.int .i64 0, .slice none 0 0, .int .i64 (-1)]) (by simp [results, Try.results48, go_sem, z0, z1, z2]) rfl ?_
    exact ⟨⟨none0, [], -1⟩, gq, cq, rfl, RulAt.nothing _, rfl, F1.out, Or.inl rfl, F2.out, fun b off n c h => by simp [none0] at h⟩
  · simp only at e ⊢
    subst e
    have Hc := Lib.hid fun X (hX : Below w.heap.size w X) => cround (h.on hX) hok h1 h8 hr
    clear h hok
    go_enter Try.func48, Try.ntmps48
    go_upto_region 15 with (fail)
    obtain ⟨x0, x1, x2, hbx⟩ := call_blocks w (.int .i64 3) (.int .i64 wh) (.int .i64 ct) (.int .i64 0) (.slice none 0 0) (.int .i64 0) (.int .i64 0) (.slice none 0 0) (.int .i64 (-1)) 46 48
    have X1 := Lib.hid x1
    have X2 := Lib.hid x2
    have Hbx := Lib.hid hbx
    have hl := H.out.lt
    have hnF := Lib.hid fun (k : Nat) (hk : w.heap.size ≤ k) => show ¬ bkF S gw gg gq k from fun hf => by
      rcases hf with rfl | rfl | rfl | rfl <;> omega
    have hsx : w.heap.size + 1 + 1 < (((w.alloc (Obj.cells #[.int .i64 3, .int .i64 wh, .int .i64 ct] 46)).alloc (Obj.cells #[.int .i64 0, .slice none 0 0, .int .i64 0] 48)).alloc (Obj.cells #[.int .i64 0, .slice none 0 0, .int .i64 (-1)] 48)).heap.size := by simp
    clear x0 x1 x2 hbx c4 c5
    generalize ((w.alloc (Obj.cells #[.int .i64 3, .int .i64 wh, .int .i64 ct] 46)).alloc (Obj.cells #[.int .i64 0, .slice none 0 0, .int .i64 0] 48)).alloc (Obj.cells #[.int .i64 0, .slice none 0 0, .int .i64 (-1)] 48) = W3 at *
    go_wp2_with fail
    refine (Hc.out _ Hbx.out).mono ?_
    rintro e w4 ⟨v9, gq', cq', rfl, hown, hB, hgq, hW, haw⟩
    have y1 := hW.block (w.heap.size + 1) (show w.heap.size + 1 < W3.heap.size by omega) (hnF.out _ (by omega))
    have y2 := hW.block (w.heap.size + 1 + 1) hsx (hnF.out _ (by omega))
    rw [X1.out] at y1
    rw [X2.out] at y2
    obtain ⟨z0, z1, z2, z3, z4, z5⟩ := three_cells y1
    obtain ⟨u0, u1, u2, u3, u4, u5⟩ := three_cells y2
    have hgl : b.rounded.granted.length = n := Hok.out.rounded.lg
    obtain ⟨a9, c9, rfl⟩ := owns_slice hown
    obtain ⟨f1, f2, f3⟩ := call_end5 (W3 := W3) (p := w.heap.size + 1) (q := w.heap.size + 1 + 1) (w := w) hB ((Wrote.of_below Hbx.out (fun k h1 h2 => by omega)).trans hW) (by omega) (by omega) (by omega) (by omega) (by omega) (by rcases hgq with rfl | h <;> omega) (by omega) hsx hown hgl b.report (.int .i64 0) (.slice a9 n c9) (.int .i64 b.report) (.slice a9 n c9) (.int .i64 b.report)
    have F1 := Lib.hid f1
    have F2 := Lib.hid f2
    have F3 := Lib.hid f3
    have F4 : Hid (Away (fun k => k < w.heap.size ∨ k = gq') (.slice a9 n c9)) := fun bk off m c hv hf => by
      rcases hf with hf | hf
      · exact owns_away hown (F := fun k => k < w.heap.size) (fun k hk => by omega) bk off m c hv hf
      · exact haw bk off m c hv hf
    have Hgq : Hid (gq' = gq ∨ w.heap.size ≤ gq') := by
      rcases hgq with h | h
      · exact Or.inl h
      · exact Or.inr (by omega)
    have ho : Hid (Rul.erase ⟨.slice a9 n c9, b.rounded.granted, b.report⟩ = b.out ⟨3, wh, ct⟩) := rfl
    generalize b.report = rp at *
    clear f1 f2 f3 y1 y2 hB hW hown hgq hgl haw
    go_wp2_with fail
    refine bodyPost_ret (v := .agg #[.int .i64 0, .slice a9 n c9, .int .i64 rp]) (by simp [results, Try.results48, go_sem, z0, z1, z2]) rfl ?_
    exact ⟨⟨.slice a9 n c9, b.rounded.granted, rp⟩, gq', cq', rfl, F3.out, ho.out, F1.out, Hgq.out, F2.out, F4.out⟩
end Go.Proofs.Ytgmichaconnhaaa
