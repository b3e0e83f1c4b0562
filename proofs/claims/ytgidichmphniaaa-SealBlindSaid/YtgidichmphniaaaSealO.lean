/- Package seal: the office in memory; New, To, Open, Post. -/
import Derived.Test.YtgidichmphniaaaSealM
import Derived.Test.YtgidichmphniaaaCloneB
import Derived.Test.YtgidichmphniaaaApp
import Derived.Test.YtgidichmphniaaaGrow
import Derived.Deep.RegionLaw
namespace Go.Proofs.Ytgidichmphniaaa
open Go.ChangeShapes Go.WideShapes Go.ChangeAt Go.RowKit
set_option linter.unusedVariables false
set_option linter.unusedSimpArgs false

structure Ltr where
  f : Int
  t : Int
  d : List Nat
structure LV where
  f : Int
  t : Int
  v : Value
def LV.cells (x : LV) : List Value := [.int .i64 x.f, .int .i64 x.t, x.v]
theorem LV.cells_length (x : LV) : x.cells.length = 3 := rfl
def lvs (l : List LV) : List Value := l.flatMap LV.cells
structure LtrAt (w : World) (x : LV) (y : Ltr) : Prop where
  f : x.f = y.f
  t : x.t = y.t
  d : HasT w 5 1 x.v y.d.length (u8s y.d)
structure Ltr.Ok (y : Ltr) : Prop where
  f : 0 ≤ y.f ∧ y.f ≤ 8
  t : 0 ≤ y.t ∧ y.t ≤ 8
  d : y.d.length ≤ 256
structure Off where
  ls : List Ltr
  op : Int → Int → Int
/-- An office: its block, its map, its letters. -/
structure OffAt (w : World) (base S B N : Nat) (o : Off) : Prop where
  ex : ∃ v lv n, w.heap[S]? = some (.cells #[v, .map (some B)] 52 (0, 0)) ∧ w.ownsRow base 59 3 v o.ls.length (lvs lv) ∧ Both (LtrAt w) lv o.ls ∧ Ways w B n o.op ∧ n ≤ N
  ok : ∀ y ∈ o.ls, y.Ok
  len : o.ls.length ≤ N
  lo : base ≤ S ∧ base ≤ B
theorem OffAt.on {w w' : World} {base S B N : Nat} {o : Off} (h : OffAt w base S B N o) (hb : Below w.heap.size w w') : OffAt w' base S B N o := by
  obtain ⟨v, lv, n, h1, h2, h3, h4, h5⟩ := h.ex
  exact ⟨⟨v, lv, n, by rw [hb.block _ (Array.getElem?_eq_some_iff.1 h1).1]; exact h1, owns_below h2 hb, h3.mono fun a b _ _ h => ⟨h.f, h.t, h.d.below hb⟩, h4.kept (hb.block _ h4.lt), h5⟩, h.ok, h.len, h.lo⟩
theorem OffAt.mono {w : World} {base S B N M : Nat} {o : Off} (h : OffAt w base S B N o) (hM : N ≤ M) : OffAt w base S B M o := by
  obtain ⟨v, lv, n, h1, h2, h3, h4, h5⟩ := h.ex
  exact ⟨⟨v, lv, n, h1, h2, h3, h4, Nat.le_trans h5 hM⟩, h.ok, Nat.le_trans h.len hM, h.lo⟩
/-- Kept where neither its cells nor its map changes. -/
theorem OffAt.chc {T : List TypeId} {w w' : World} {base S B N : Nat} {o : Off} (h : OffAt w base S B N o) (hc : Chc T w w') (hB : w'.heap[B]? = w.heap[B]?) (h1 : 52 ∉ T) (h2 : 59 ∉ T) (h3 : 5 ∉ T) : OffAt w' base S B N o := by
  obtain ⟨v, lv, n, q1, q2, q3, q4, q5⟩ := h.ex
  exact ⟨⟨v, lv, n, hc.block _ _ _ _ q1 h1, owns_chc q2 hc h2, q3.mono fun a b _ _ h => ⟨h.f, h.t, h.d.chc hc h3⟩, q4.kept hB, q5⟩, h.ok, h.len, h.lo⟩
/-- What letter i reads. -/
theorem OffAt.letter {w : World} {base S B N : Nat} {o : Off} (h : OffAt w base S B N o) (i : Nat) (hi : i < o.ls.length) : ∃ g cap ad cd, w.cell? ⟨S, 0, none⟩ = some (.slice (some ⟨g, 0, none⟩) o.ls.length cap) ∧ (o.ls.length ≤ cap ∧ cap ≤ maxLen) ∧ w.cell? ⟨S, 1, none⟩ = some (.map (some B)) ∧
    (w.cell? ⟨g, i * 3, none⟩ = some (.int .i64 o.ls[i].f) ∧ w.cell? ⟨g, i * 3 + 1, none⟩ = some (.int .i64 o.ls[i].t) ∧ w.cell? ⟨g, i * 3 + 2, none⟩ = some (.slice ad o.ls[i].d.length cd)) ∧ HasT w 5 1 (.slice ad o.ls[i].d.length cd) o.ls[i].d.length (u8s o.ls[i].d) := by
  obtain ⟨v, lv, n, q1, q2, q3, q4, q5⟩ := h.ex
  obtain ⟨g, cap, rfl, _, _, _, hc⟩ := owns_some q2 (by omega)
  obtain ⟨_, _, _, he, h1, h2, _⟩ := Has.of_owns q2
  simp only [Value.slice.injEq] at he
  obtain ⟨-, -, rfl⟩ := he
  obtain ⟨x, hx, hr⟩ := q3.get i hi
  have hil : i < lv.length := (List.getElem?_eq_some_iff.1 hx).1
  have hxe : lv[i] = x := (List.getElem?_eq_some_iff.1 hx).2
  obtain ⟨xf, xt, xv⟩ := x
  obtain ⟨_, ad, cd, hxv, _⟩ := hr.d.has
  simp only at hxv
  subst hxv
  refine ⟨g, cap, ad, cd, by rw [cell_of_row w _ _ _ _ _ q1]; rfl, ⟨h1, h2⟩, by rw [cell_of_row w _ _ _ _ _ q1]; rfl, ⟨?_, ?_, ?_⟩, hr.d⟩
  · have := hc (i * 3 + 0) (.int .i64 xf) (by unfold lvs; rw [flat_get LV.cells 3 LV.cells_length lv i hil 0 (by omega), hxe]; rfl)
    rw [Nat.add_zero] at this
    have e := hr.f
    simp only at e
    rw [← e]; exact this
  · have := hc (i * 3 + 1) (.int .i64 xt) (by unfold lvs; rw [flat_get LV.cells 3 LV.cells_length lv i hil 1 (by omega), hxe]; rfl)
    have e := hr.t
    simp only at e
    rw [← e]; exact this
  · exact hc (i * 3 + 2) (.slice ad o.ls[i].d.length cd) (by unfold lvs; rw [flat_get LV.cells 3 LV.cells_length lv i hil 2 (by omega), hxe]; rfl)
theorem OffAt.head {w : World} {base S B N : Nat} {o : Off} (h : OffAt w base S B N o) : ∃ a cap, w.cell? ⟨S, 0, none⟩ = some (.slice a o.ls.length cap) := by
  obtain ⟨v, lv, n, q1, q2, q3, q4, q5⟩ := h.ex
  obtain ⟨a, c, rfl⟩ := owns_slice q2
  exact ⟨a, c, by rw [cell_of_row w _ _ _ _ _ q1]; rfl⟩
theorem two_cells {W : World} {b : Nat} {a0 a1 : Value} {e : TypeId} (h : W.heap[b]? = some (.cells #[a0, a1] e (0, 0))) : W.cell? ⟨b, 0, none⟩ = some a0 ∧ W.cell? ⟨b, 1, none⟩ = some a1 ∧ W.frozen? ⟨b, 0, none⟩ = false ∧ W.frozen? ⟨b, 1, none⟩ = false :=
  ⟨by rw [cell_of_row W _ _ _ _ _ h]; rfl, by rw [cell_of_row W _ _ _ _ _ h]; rfl, by simp [World.frozen?, h], by simp [World.frozen?, h]⟩
set_option maxRecDepth 100000 in
set_option maxHeartbeats 2000000 in
theorem cNew (w : World) : Calls Try.prog 12 #[] w fun e w' => ∃ S B, e = .returned (.pointer (some ⟨S, 0, none⟩)) ∧ OffAt w' w.heap.size S B 0 ⟨[], fun _ _ => 0⟩ ∧ Below w.heap.size w w' := by
  have hmm := @run_makeMap Try.prog
  go_enter Try.func12, Try.ntmps12
  go_wp2_with fail
  go_ret
  have h0 := Ways.made w
  have ha : Below (w.alloc (.map #[] 0)).heap.size (w.alloc (.map #[] 0)) ((w.alloc (.map #[] 0)).alloc (.cells #[.slice none 0 0, .map (some w.heap.size)] 52)) := (Below.refl _ _).alloc (Nat.le_refl _) _
  refine ⟨_, _, rfl, ⟨⟨_, [], 0, ?_, World.ownsRow_nil _ _ _ _, Both.nil _, h0.kept (ha.block _ h0.lt), Nat.le_refl _⟩, fun y hy => by simp at hy, Nat.le_refl _, ⟨Nat.le_succ _, Nat.le_refl _⟩⟩, (by repeat (first | exact Below.refl _ _ | refine Below.drew ?_ | refine Below.alloc ?_ (by first | (simp; done) | (simp; omega)) _ | refine Below.setCell ?_ (by first | (simp; done) | (simp; omega)) _))⟩
  have := heap_alloc_new (w.alloc (.map #[] 0)) (.cells #[.slice none 0 0, .map (some w.heap.size)] 52)
  simpa using this
set_option maxRecDepth 100000 in
set_option maxHeartbeats 2000000 in
theorem cTo {w : World} {base S B N : Nat} {o : Off} (h : OffAt w base S B N o) (i : Nat) (hi : i < o.ls.length) :
    Calls Try.prog 17 #[.pointer (some ⟨S, 0, none⟩), .int .i64 i] w fun e w' => e = .returned (.int .i64 o.ls[i].t) ∧ w = w' := by
  obtain ⟨g, cap, ad, cd, s0, ⟨c1, c2⟩, s1, ⟨l0, l1, l2⟩, hd⟩ := h.letter i hi
  unfold maxLen at c2
  have hi' : (i : Int) < o.ls.length := by omega
  clear hd
  go_enter Try.func17, Try.ntmps17
  go_wp2_with fail
  go_ret
  exact ⟨rfl, rfl⟩
set_option maxRecDepth 100000 in
set_option maxHeartbeats 2000000 in
theorem cToNone {w : World} {base S B N : Nat} {o : Off} (h : OffAt w base S B N o) (id : Int) (hi : id < 0 ∨ o.ls.length ≤ id) :
    Calls Try.prog 17 #[.pointer (some ⟨S, 0, none⟩), .int .i64 id] w fun e w' => e = .returned (.int .i64 (-1)) ∧ w = w' := by
  obtain ⟨a, cap, s0⟩ := h.head
  by_cases h0 : id < 0
  · go_enter Try.func17, Try.ntmps17
    go_wp2_with fail
    go_ret
    exact ⟨rfl, rfl⟩
  · have h1 : (o.ls.length : Int) ≤ id := by omega
    go_enter Try.func17, Try.ntmps17
    go_wp2_with fail
    go_ret
    exact ⟨rfl, rfl⟩
set_option maxRecDepth 100000 in
set_option maxHeartbeats 2000000 in
theorem cOpenNone {w : World} {base S B N : Nat} {o : Off} (h : OffAt w base S B N o) (who id : Int) (hi : id < 0 ∨ o.ls.length ≤ id) :
    Calls Try.prog 15 #[.pointer (some ⟨S, 0, none⟩), .int .i64 who, .int .i64 id] w fun e w' => e = .returned (.tuple #[.slice none 0 0, .int .i64 6]) ∧ w = w' := by
  have C := Lib.hid (cToNone h id hi)
  clear h hi
  go_enter Try.func15, Try.ntmps15
  go_wp2_with (go_at_call 17; refine C.out.mono ?_; rintro e w' ⟨rfl, rfl⟩)
  go_ret2
  exact ⟨rfl, rfl⟩
set_option maxRecDepth 100000 in
set_option maxHeartbeats 2000000 in
theorem cOpenDenied {w : World} {base S B N : Nat} {o : Off} (h : OffAt w base S B N o) (who : Int) (i : Nat) (hi : i < o.ls.length) (hne : o.ls[i].t ≠ who) :
    Calls Try.prog 15 #[.pointer (some ⟨S, 0, none⟩), .int .i64 who, .int .i64 i] w fun e w' => e = .returned (.tuple #[.slice none 0 0, .int .i64 11]) ∧ w = w' := by
  have C := Lib.hid (cTo h i hi)
  obtain ⟨t0, t1⟩ := (h.ok _ (List.getElem_mem hi)).t
  generalize o.ls[i].t = t at *
  have hne' : (t != who) = true := by simpa using hne
  clear h hne
  go_enter Try.func15, Try.ntmps15
  go_wp2_with (go_at_call 17; refine C.out.mono ?_; rintro e w' ⟨rfl, rfl⟩)
  go_ret2
  exact ⟨rfl, rfl⟩
set_option maxRecDepth 100000 in
set_option maxHeartbeats 4000000 in
theorem cOpenOld {w : World} {base S B N : Nat} {o : Off} (h : OffAt w base S B N o) (i : Nat) (hi : i < o.ls.length) (hold : (i : Int) < o.op o.ls[i].f o.ls[i].t) :
    Calls Try.prog 15 #[.pointer (some ⟨S, 0, none⟩), .int .i64 o.ls[i].t, .int .i64 i] w fun e w' => e = .returned (.tuple #[.slice none 0 0, .int .i64 10]) ∧ Below w.heap.size w w' := by
  have C := Lib.hid (cTo h i hi)
  obtain ⟨v, lv, n, _, _, _, hw, _⟩ := h.ex
  obtain ⟨g, cap, ad, cd, s0, ⟨c1, c2⟩, s1, ⟨l0, l1, l2⟩, hd⟩ := h.letter i hi
  obtain ⟨t0, t1⟩ := (h.ok _ (List.getElem_mem hi)).t
  obtain ⟨f0, f1⟩ := (h.ok _ (List.getElem_mem hi)).f
  have hi' : (i : Int) < o.ls.length := by omega
  have hSs := World.block_lt_of_cell? w _ s0
  have hgs := World.block_lt_of_cell? w _ l0
  have hlk : ∀ X : World, X.heap[B]? = w.heap[B]? → (Instr.lookup 49 (.map (some B)) (.agg #[.int .i64 o.ls[i].f, .int .i64 o.ls[i].t]) false).run Try.prog X = .ok (.int .i64 (o.op o.ls[i].f o.ls[i].t)) X := fun X hX => (hw.kept hX).look (wf64_iff.2 (by omega)) (wf64_iff.2 (by omega))
  have Hlk := Lib.hid hlk
  have hBs := hw.lt
  unfold maxLen at c2
  generalize o.op o.ls[i].f o.ls[i].t = z at *
  generalize o.ls[i].f = f at *
  generalize o.ls[i].t = t at *
  generalize o.ls[i].d.length = dl at *
  clear h hw hlk hd
  go_enter Try.func15, Try.ntmps15
  go_wp2_with (go_at_call 17; refine C.out.mono ?_; rintro e w' ⟨rfl, rfl⟩)
  have hb : Below w.heap.size w ((w.alloc (.cells #[.int .i64 f, .int .i64 t, .slice ad dl cd] 59)).alloc (.cells #[.int .i64 f, .int .i64 t] 60)) := (by repeat (first | exact Below.refl _ _ | refine Below.drew ?_ | refine Below.alloc ?_ (by first | (simp; done) | (simp; omega)) _ | refine Below.setCell ?_ (by first | (simp; done) | (simp; omega)) _))
  have p1 := cell_on hb s1
  obtain ⟨k0, k1, -, -⟩ := two_cells (heap_alloc_new (w.alloc (.cells #[.int .i64 f, .int .i64 t, .slice ad dl cd] 59)) (.cells #[.int .i64 f, .int .i64 t] 60))
  have hB2 := hb.block B hBs
  have e1 : (w.alloc (.cells #[.int .i64 f, .int .i64 t, .slice ad dl cd] 59)).heap.size = w.heap.size + 1 := by simp
  rw [e1] at k0 k1
  have Hb := Lib.hid hb
  clear hb e1 s0 s1 l0 l1 l2 C
  generalize ((w.alloc (.cells #[.int .i64 f, .int .i64 t, .slice ad dl cd] 59)).alloc (.cells #[.int .i64 f, .int .i64 t] 60)) = W at *
  have hl0 := fun m => Hlk.out (W.drewN m) hB2
  go_quiet (fail)
  go_wp2_with fail
  go_ret2
  exact ⟨rfl, below_drewN Hb.out _⟩
theorem OffAt.opened {w w' : World} {base S B N m : Nat} {o : Off} {op' : Int → Int → Int} (h : OffAt w base S B N o) (hg : w.grownBy w' (some B)) (hm : m ≤ N + 1) (hW : Ways w' B m op') : OffAt w' base S B (N + 1) ⟨o.ls, op'⟩ ∧ Chc [] w w' := by
  obtain ⟨v, lv, n, q1, q2, q3, q4, q5⟩ := h.ex
  obtain ⟨es, c, hB⟩ := q4.block
  have hc : Chc [] w w' := Chc.map hB hg
  exact ⟨⟨⟨v, lv, m, hc.block _ _ _ _ q1 (by simp), owns_chc q2 hc (by simp), q3.mono fun a b _ _ h => ⟨h.f, h.t, h.d.chc hc (by simp)⟩, hW, hm⟩, h.ok, Nat.le_succ_of_le h.len, h.lo⟩, hc⟩
theorem grown_below {w w' : World} {b base : Nat} (hg : w.grownBy w' (some b)) (hb : base ≤ b) (hs : base ≤ w.heap.size) : Below base w w' :=
  ⟨hg.os, hg.tape, hg.output, hg.size, fun k hk => hg.block k (by omega) (by simp; omega)⟩
set_option maxRecDepth 100000 in
set_option maxHeartbeats 4000000 in
theorem cOpenOk {w : World} {base S B N : Nat} {o : Off} (h : OffAt w base S B N o) (i : Nat) (hi : i < o.ls.length) (hnew : o.op o.ls[i].f o.ls[i].t ≤ i) (hN : N ≤ 1000000) :
    Calls Try.prog 15 #[.pointer (some ⟨S, 0, none⟩), .int .i64 o.ls[i].t, .int .i64 i] w fun e w' => ∃ a c, e = .returned (.tuple #[.slice a o.ls[i].d.length c, .int .i64 0]) ∧ HasT w' 5 1 (.slice a o.ls[i].d.length c) o.ls[i].d.length (u8s o.ls[i].d) ∧
      OffAt w' base S B (N + 1) { o with op := updW o.op o.ls[i].f o.ls[i].t (i + 1) } ∧ Below base w w' ∧ Chc [] w w' := by
  have C := Lib.hid (cTo h i hi)
  have H := Lib.hid h
  obtain ⟨v, lv, n, _, _, _, hw, hnN⟩ := h.ex
  obtain ⟨g, cap, ad, cd, s0, ⟨c1, c2⟩, s1, ⟨l0, l1, l2⟩, hd⟩ := h.letter i hi
  obtain ⟨t0, t1⟩ := (h.ok _ (List.getElem_mem hi)).t
  obtain ⟨f0, f1⟩ := (h.ok _ (List.getElem_mem hi)).f
  have hdl := (h.ok _ (List.getElem_mem hi)).d
  have hi' : (i : Int) < o.ls.length := by omega
  have hSs := World.block_lt_of_cell? w _ s0
  have hgs := World.block_lt_of_cell? w _ l0
  have hlk : ∀ X : World, X.heap[B]? = w.heap[B]? → (Instr.lookup 49 (.map (some B)) (.agg #[.int .i64 o.ls[i].f, .int .i64 o.ls[i].t]) false).run Try.prog X = .ok (.int .i64 (o.op o.ls[i].f o.ls[i].t)) X := fun X hX => (hw.kept hX).look (wf64_iff.2 (by omega)) (wf64_iff.2 (by omega))
  have Hlk := Lib.hid hlk
  have hBs := hw.lt
  have hin : i < 1000000 := by have := h.len; omega
  unfold maxLen at c2
  have HW := Lib.hid hw
  have Hd := Lib.hid hd
  have hold : decide ((i : Int) < o.op o.ls[i].f o.ls[i].t) = false := by simp; omega
  generalize hz : o.op o.ls[i].f o.ls[i].t = z at *
  have Hz := Lib.hid hz
  generalize o.ls[i].f = f at *
  generalize o.ls[i].t = t at *
  generalize o.ls[i].d = d at *
  clear h hw hlk hd hz hnew
  go_enter Try.func15, Try.ntmps15
  go_wp2_with (go_at_call 17; refine C.out.mono ?_; rintro e w' ⟨rfl, rfl⟩)
  have hb : Below w.heap.size w ((w.alloc (.cells #[.int .i64 f, .int .i64 t, .slice ad d.length cd] 59)).alloc (.cells #[.int .i64 f, .int .i64 t] 60)) := (by repeat (first | exact Below.refl _ _ | refine Below.drew ?_ | refine Below.alloc ?_ (by first | (simp; done) | (simp; omega)) _ | refine Below.setCell ?_ (by first | (simp; done) | (simp; omega)) _))
  have p1 := cell_on hb s1
  obtain ⟨k0, k1, -, -⟩ := two_cells (heap_alloc_new (w.alloc (.cells #[.int .i64 f, .int .i64 t, .slice ad d.length cd] 59)) (.cells #[.int .i64 f, .int .i64 t] 60))
  have hB2 := hb.block B hBs
  have e1 : (w.alloc (.cells #[.int .i64 f, .int .i64 t, .slice ad d.length cd] 59)).heap.size = w.heap.size + 1 := by simp
  have hL : ((w.alloc (.cells #[.int .i64 f, .int .i64 t, .slice ad d.length cd] 59)).alloc (.cells #[.int .i64 f, .int .i64 t] 60)).heap[w.heap.size]? = some (.cells #[.int .i64 f, .int .i64 t, .slice ad d.length cd] 59 (0, 0)) := by
    rw [((Below.refl _ _).alloc (Nat.le_refl _) _).block _ (by simp)]; exact heap_alloc_new _ _
  rw [e1] at k0 k1
  have Hb := Lib.hid hb
  clear hb e1 s0 s1 l0 l1 l2 C
  generalize ((w.alloc (.cells #[.int .i64 f, .int .i64 t, .slice ad d.length cd] 59)).alloc (.cells #[.int .i64 f, .int .i64 t] 60)) = W at *
  have hl0 := fun m => Hlk.out (W.drewN m) hB2
  go_quiet (fail)
  clear hl0
  go_upto_region 10 with (fail)
  have p1' : (W.drewN nq).cell? ⟨S, 1, none⟩ = some (.map (some B)) := p1
  have k0' : (W.drewN nq).cell? ⟨w.heap.size + 1, 0, none⟩ = some (.int .i64 f) := k0
  have k1' : (W.drewN nq).cell? ⟨w.heap.size + 1, 1, none⟩ = some (.int .i64 t) := k1
  have hB3 : (W.drewN nq).heap[B]? = w.heap[B]? := hB2
  have hL3 : (W.drewN nq).heap[w.heap.size]? = some (.cells #[.int .i64 f, .int .i64 t, .slice ad d.length cd] 59 (0, 0)) := hL
  have Hb3 : Hid (Below w.heap.size w (W.drewN nq)) := below_drewN Hb.out _
  clear p1 k0 k1 hB2 hL Hb
  generalize W.drewN nq = W2 at *
  have hw3 := HW.out.kept hB3
  obtain ⟨w9, hr, hW9, hg9⟩ := Ways.store (w := W2.drew) (hw3.kept rfl) (show n < maxLen by unfold maxLen; omega) (wf64_iff.2 (show -9223372036854775808 ≤ f ∧ f ≤ 9223372036854775807 by omega)) (wf64_iff.2 (show -9223372036854775808 ≤ t ∧ t ≤ 9223372036854775807 by omega)) (wf64_iff.2 (show -9223372036854775808 ≤ (i : Int) + 1 ∧ (i : Int) + 1 ≤ 9223372036854775807 by omega))
  have hwrap : IntKind.i64.wrap ((i : Int) + 1) = (i : Int) + 1 := IntWalk.i64_in _ (by omega)
  have HW9 := Lib.hid hW9
  have Hg9 := Lib.hid hg9
  have HB3 := Lib.hid hB3
  have HL3 := Lib.hid hL3
  clear hw3 hW9 hg9 hB3 hL3
  go_region
  have hg9 : W2.grownBy w9 (some B) := ⟨Hg9.out.os, Hg9.out.tape, Hg9.out.output, Hg9.out.size, Hg9.out.block⟩
  obtain ⟨hO9, hc9⟩ := (H.out.on Hb3.out).opened hg9 (show n + 1 ≤ N + 1 by omega) HW9.out
  have hL9 := hc9.block _ _ _ _ HL3.out (by simp)
  have l9 : w9.cell? ⟨w.heap.size, 2, none⟩ = some (.slice ad d.length cd) := by rw [cell_of_row w9 _ _ _ _ _ hL9]; rfl
  have hD9 := (Hd.out.below Hb3.out).chc hc9 (by simp)
  have CL := Lib.hid (cclone_u8 _ d.length (u8s d) w9 hD9.has (u8s_all d) (by omega))
  have HO9 := Lib.hid hO9
  have Hc9 : Hid (Chc [] w w9) := (Chc.of_below Hb3.out).trans hc9
  have hbs : base ≤ w.heap.size := by have := H.out.lo; omega
  have HB9 : Hid (Below base w w9) := (Hb3.out.mono hbs).trans (grown_below hg9 H.out.lo.2 (Nat.le_trans hbs Hb3.out.size))
  clear hg9 hO9 hc9 hL9 hD9 Hg9 HW9 HL3 HB3 hr p1' k0' k1' hwrap
  go_wp2_with fail
  refine CL.out.mono ?_
  rintro e w10 ⟨v', rfl, hown, hb10⟩
  obtain ⟨a', c', rfl⟩ := owns_slice hown
  have hT := HasT.of_owns hown
  have hfin : HasT w10 5 1 (.slice a' d.length c') d.length (u8s d) ∧ OffAt w10 base S B (N + 1) ⟨o.ls, updW o.op f t (i + 1)⟩ ∧ Below base w w10 ∧ Chc [] w w10 :=
    ⟨hT, HO9.out.on hb10, HB9.out.trans (hb10.mono (Nat.le_trans hbs HB9.out.size)), Hc9.out.trans (Chc.of_below hb10)⟩
  have Hfin := Lib.hid hfin
  clear hown hT hb10 hfin CL HO9 Hc9 HB9 l9
  go_wp2_with fail
  go_ret2
  exact ⟨a', c', rfl, Hfin.out⟩
theorem elLetter : Elem Try.prog 59 3 40 (.agg #[.int .i64 0, .int .i64 0, .slice none 0 0]) := .of (by kernel_rfl) rfl (by decide)
/-- The office's block behind an append to its letters. -/
theorem post_x {w w2 w3 : World} {base S B N : Nat} {o : Off} {av : Option Addr} {cv : Nat} (h : OffAt w base S B N o) (hb : Below w.heap.size w w2) (hg : w2.grownBy w3 (Value.slice av o.ls.length cv).ownBlock) (s0 : w.cell? ⟨S, 0, none⟩ = some (.slice av o.ls.length cv)) :
    w3.cell? ⟨S, 0, none⟩ = some (.slice av o.ls.length cv) ∧ w3.frozen? ⟨S, 0, none⟩ = false := by
  obtain ⟨v, lv, n, h1, h2, h3, h4, h5⟩ := (h.on hb).ex
  have e : v = .slice av o.ls.length cv := by
    have := cell_on hb s0
    rw [cell_of_row w2 _ _ _ _ _ h1] at this
    simpa using this
  subst e
  have hc := Chc.grown (T := [59]) h2 hg (by simp)
  have h6 := hc.block _ _ _ _ h1 (by decide)
  exact ⟨by rw [cell_of_row w3 _ _ _ _ _ h6]; rfl, by simp [World.frozen?, h6]⟩
theorem post_step {w w5 w6 : World} {base S B N c5 c6 : Nat} {o : Off} {av a5 a6 : Option Addr} {cv : Nat} {lv : List LV} {y : Ltr} (h : OffAt w base S B N o) (hy : y.Ok)
    (hv : w.cell? ⟨S, 0, none⟩ = some (.slice av o.ls.length cv)) (hl : w.ownsRow base 59 3 (.slice av o.ls.length cv) o.ls.length (lvs lv)) (hB : Both (LtrAt w) lv o.ls)
    (hb5 : Below w.heap.size w w5) (h5 : w5.ownsRow w.heap.size 5 1 (.slice a5 y.d.length c5) y.d.length (u8s y.d))
    (h6 : w6.ownsRow base 59 3 (.slice a6 (o.ls.length + 1) c6) (o.ls.length + 1) (lvs lv ++ [.int .i64 y.f, .int .i64 y.t, .slice a5 y.d.length c5])) (hg : w5.grownBy w6 (Value.slice av o.ls.length cv).ownBlock) (hb6 : Below base w5 w6) :
    OffAt (w6.setCell ⟨S, 0, none⟩ (.slice a6 (o.ls.length + 1) c6)) base S B (N + 1) { o with ls := o.ls ++ [y] } ∧ Below base w (w6.setCell ⟨S, 0, none⟩ (.slice a6 (o.ls.length + 1) c6)) ∧ Chc [52, 59] w (w6.setCell ⟨S, 0, none⟩ (.slice a6 (o.ls.length + 1) c6)) := by
  obtain ⟨v, lv', n, q1, q2, q3, q4, q5⟩ := h.ex
  have e : v = .slice av o.ls.length cv := by rw [cell_of_row w _ _ _ _ _ q1] at hv; simpa using hv
  subst e
  have hbs : base ≤ w.heap.size := by have := h.lo; have := q4.lt; omega
  have q1' : w5.heap[S]? = some (.cells #[.slice av o.ls.length cv, .map (some B)] 52 (0, 0)) := by rw [hb5.block _ (Array.getElem?_eq_some_iff.1 q1).1]; exact q1
  have hc6 := Chc.grown (T := [59]) (owns_below hl hb5) hg (by simp)
  have q6 := hc6.block _ _ _ _ q1' (by decide)
  have hc7 := Chc.setCell (T := [52]) (p := ⟨S, 0, none⟩) q6 (by simp) (.slice a6 (o.ls.length + 1) c6)
  have q7 := heap_setCell_same w6 S 0 _ _ (.slice a6 (o.ls.length + 1) c6) q6
  have hT5 := (HasT.of_owns h5).chc hc6 (by decide) |>.chc hc7 (by decide)
  have hBB : w6.heap[B]? = w5.heap[B]? := by
    refine hg.block B (Nat.lt_of_lt_of_le q4.lt hb5.size) fun hh => ?_
    obtain ⟨es, c, hm⟩ := q4.block
    obtain ⟨a, g, hv', hcs⟩ : ∃ a g, av = some a ∧ a.block = g ∧ ∃ cs, w.heap[g]? = some (.cells cs 59 (0, 0)) := by
      obtain ⟨_, hl'⟩ := hl
      rcases hl' with ⟨e1, _⟩ | ⟨g, cap, cur, e1, _, hh', _⟩
      · simp only [Value.slice.injEq] at e1
        rw [e1.1] at hh
        simp [Value.ownBlock] at hh
      · simp only [Value.slice.injEq] at e1
        exact ⟨_, g, e1.1, rfl, cur, hh'⟩
    obtain ⟨hg1, cs, hcs⟩ := hcs
    subst hv'
    simp only [Value.ownBlock, Option.some.injEq] at hh
    rw [← hh] at hg1
    rw [← hg1, hm] at hcs
    cases hcs
  have hBS : B ≠ S := by
    rintro rfl
    obtain ⟨es, c, hm⟩ := q4.block
    rw [q1] at hm; cases hm
  have hsz : o.ls.length + 1 = (o.ls ++ [y]).length := by simp
  refine ⟨⟨⟨.slice a6 (o.ls.length + 1) c6, lv ++ [⟨y.f, y.t, .slice a5 y.d.length c5⟩], n, ?_, ?_, ?_, ?_, by omega⟩, fun z hz => ?_, by have := h.len; simp; omega, h.lo⟩, ((hb5.mono hbs).trans hb6).setCell h.lo.1 _, ?_⟩
  · rw [q7]; rfl
  · have : lvs lv ++ [.int .i64 y.f, .int .i64 y.t, .slice a5 y.d.length c5] = lvs (lv ++ [⟨y.f, y.t, .slice a5 y.d.length c5⟩]) := flat_snoc LV.cells lv ⟨y.f, y.t, .slice a5 y.d.length c5⟩
    rw [this] at h6
    simp only [← hsz]
    exact owns_chc h6 hc7 (by decide)
  · exact Both.snoc (hB.mono fun a b _ _ r => ⟨r.f, r.t, ((r.d.below hb5).chc hc6 (by decide)).chc hc7 (by decide)⟩) ⟨rfl, rfl, hT5⟩
  · exact (q4.kept (hb5.block _ q4.lt)).kept (by rw [Below.heap_setCell _ _ _ _ hBS]; exact hBB)
  · rcases List.mem_append.1 hz with hz | hz
    · exact h.ok z hz
    · simp at hz; subst hz; exact hy
  · exact ((Chc.of_below hb5).trans (hc6.mono (by simp))).trans (hc7.mono (by simp))
set_option maxRecDepth 100000 in
set_option maxHeartbeats 4000000 in
theorem cPost {w : World} {base S B N : Nat} {o : Off} (h : OffAt w base S B N o) (y : Ltr) (hy : y.Ok) (ad : Option Addr) (cd : Nat) (hd : HasT w 5 1 (.slice ad y.d.length cd) y.d.length (u8s y.d)) (hN : N ≤ 1000000) :
    Calls Try.prog 16 #[.pointer (some ⟨S, 0, none⟩), .int .i64 y.f, .int .i64 y.t, .slice ad y.d.length cd] w fun e w' => e = .returned (.int .i64 o.ls.length) ∧
      OffAt w' base S B (N + 1) { o with ls := o.ls ++ [y] } ∧ Below base w w' ∧ Chc [52, 59] w w' := by
  have H := Lib.hid h
  have HY := Lib.hid hy
  obtain ⟨v, lv, n, h1, h2, h3, h4, h5⟩ := h.ex
  have H3 := Lib.hid h3
  have hlen := h.len
  obtain ⟨y0, y1, y2⟩ := hy
  have Hd := Lib.hid hd
  have hbs : base ≤ w.heap.size := by have := h.lo; have := h4.lt; omega
  have s0 : w.cell? ⟨S, 0, none⟩ = some v := by rw [cell_of_row w _ _ _ _ _ h1]; rfl
  obtain ⟨av, cv, rfl⟩ := owns_slice h2
  have CC : Hid (∀ X, Below w.heap.size w X → Calls Try.prog 18 #[.slice ad y.d.length cd] X fun e w' => ∃ v', e = .returned v' ∧ w'.ownsRow X.heap.size 5 1 v' y.d.length (u8s y.d) ∧ Below X.heap.size X w') := fun X hX => cclone_u8 _ y.d.length (u8s y.d) X (Hd.out.below hX).has (u8s_all _) (by omega)
  have H2 := Lib.hid h2
  clear h hd h2
  go_enter Try.func16, Try.ntmps16
  go_upto_region 1 with (fail)
  go_region_law (first
    | (go_simp; go_at_call 18; refine (CC.out _ (by repeat (first | exact Below.refl _ _ | refine Below.drew ?_ | refine Below.alloc ?_ (by first | (simp; done) | (simp; omega)) _ | refine Below.setCell ?_ (by first | (simp; done) | (simp; omega)) _))).mono ?_; rintro e w5 ⟨v5, rfl, hown5, hb5'⟩; have hb5 : Below w.heap.size w w5 := (Below.drew (Below.refl _ _)).trans hb5'; obtain ⟨a5, c5, rfl⟩ := owns_slice hown5; have x05 := cell_on hb5 s0; have hX5 := block_on hb5 s0; clear hb5')
    | (refine step_appN (w0 := w5) (wanted_of_none (by rfl)) 50 59 3 40 _ elLetter Try.underlying50 base (.slice av o.ls.length cv) o.ls.length (lvs lv) (owns_below H2.out hb5) (by repeat (first | exact Below.refl _ _ | refine Below.drew ?_ | refine Below.alloc ?_ (by first | (simp; done) | (simp; omega)) _ | refine Below.setCell ?_ (by first | (simp; done) | (simp; omega)) _)) _ 1 [.int .i64 y.f, .int .i64 y.t, .slice a5 y.d.length c5] (has_block (wp := w5) (by first | exact heap_alloc_new _ _ | (simp only [heap_drew, heap_drewN]; exact heap_alloc_new _ _)) rfl (by rfl) (by decide)) _ _ (by rfl) (by rfl) (by rfl) (by simp [Value.oneCell']) (by omega) (by unfold maxLen; omega) (Nat.le_trans hbs hb5.size) ?_; intro v6 w6 hown6 hgrow6 hb6; obtain ⟨a6, c6, rfl⟩ := owns_slice hown6; obtain ⟨x06, f06⟩ := post_x H.out hb5 hgrow6 s0))
  all_goals
    have hst := post_step H.out HY.out s0 H2.out H3.out hb5 hown5 hown6 hgrow6 hb6
    have Hst := Lib.hid hst
    have s7 : (w6.setCell ⟨S, 0, none⟩ (.slice a6 (o.ls.length + 1) c6)).cell? ⟨S, 0, none⟩ = some (.slice a6 (o.ls.length + 1) c6) := World.cell?_setCell_same _ _ _ x06
    clear hst hown5 hown6 hgrow6 hb6 hb5 x05 x06
    go_wp2_with fail
    go_ret
    exact ⟨rfl, Hst.out⟩
end Go.Proofs.Ytgidichmphniaaa
