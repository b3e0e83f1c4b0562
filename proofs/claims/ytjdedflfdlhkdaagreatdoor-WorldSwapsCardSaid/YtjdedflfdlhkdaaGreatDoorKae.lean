/- Texts that the claim imports, laid together: WSealO WGos Fld WireB WireC. No statement of their own. -/
import Derived.Deep.RegionLaw
import Derived.Test.YtjdedflfdlhkdaaGreatDoorKaa
import Derived.Test.YtjdedflfdlhkdaaGreatDoorKad
namespace Go.Proofs.YtjdedflfdlhkdaaGreatDoor
open Go.ChangeShapes Go.WideShapes Go.ChangeAt Go.RowKit
set_option linter.unusedVariables false
set_option linter.unusedSimpArgs false

structure Ltr where
  f : Int
  t : Int
  d : List Nat
structure LV where
  f : Int
  t : Int
  v : Value
def LV.cells (x : LV) : List Value := [.int .i64 x.f, .int .i64 x.t, x.v]
theorem LV.cells_length (x : LV) : x.cells.length = 3 := rfl
def lvs (l : List LV) : List Value := l.flatMap LV.cells
/-- The slice lies in blocks of F. -/
def InF (F : Nat → Prop) (v : Value) : Prop := ∀ b off n c, v = .slice (some ⟨b, off, none⟩) n c → F b
theorem HasT.onF {F G : Nat → Prop} {w w' : World} {e : TypeId} {sz n : Nat} {v : Value} {xs : List Value} (h : HasT w e sz v n xs) (hw : Wrote G w w') (hi : InF F v) (hd : ∀ b, F b → ¬ G b) : HasT w' e sz v n xs := by
  obtain ⟨⟨hl, a, cap, rfl, h1, h2, h3⟩, ht⟩ := h
  have hblk : ∀ b off n' cap', Value.slice a n cap = .slice (some ⟨b, off, none⟩) n' cap' → ∃ cs r, w.heap[b]? = some (.cells cs e r) ∧ w'.heap[b]? = some (.cells cs e r) := fun b off n' cap' hv => by
    obtain ⟨cs, r, hh⟩ := ht b off n' cap' hv
    exact ⟨cs, r, hh, by rw [hw.block b (Array.getElem?_eq_some_iff.1 hh).1 (hd b (hi b off n' cap' hv))]; exact hh⟩
  refine ⟨⟨hl, a, cap, rfl, h1, h2, fun hp => ?_⟩, fun b off n' cap' hv => ?_⟩
  · obtain ⟨b, off, rfl, hcc⟩ := h3 hp
    refine ⟨b, off, rfl, fun j u hu => ?_⟩
    obtain ⟨cs, r, q1, q2⟩ := hblk b off n cap rfl
    rw [World.cell?_of_block (w := w) (a := ⟨b, off + j, none⟩) (by rw [q2, q1])]
    exact hcc j u hu
  · obtain ⟨cs, r, q1, q2⟩ := hblk b off n' cap' hv
    exact ⟨cs, r, q2⟩
theorem InF.mono {F G : Nat → Prop} {v : Value} (h : InF F v) (hg : ∀ b, F b → G b) : InF G v := fun b off n c e => hg b (h b off n c e)
theorem InF.of_owns {F : Nat → Prop} {w : World} {base e sz n : Nat} {v : Value} {xs : List Value} (h : w.ownsRow base e sz v n xs) (hF : ∀ b, base ≤ b → F b) : InF F v := fun b off n' c hv => by
  obtain ⟨_, h⟩ := h
  rcases h with ⟨rfl, _⟩ | ⟨g, cap, cur, rfl, hg, _⟩
  · simp at hv
  · simp only [Value.slice.injEq, Option.some.injEq, Addr.mk.injEq] at hv
    obtain ⟨⟨rfl, -, -⟩, -, -⟩ := hv
    exact hF _ hg
structure LtrAt (w : World) (F : Nat → Prop) (x : LV) (y : Ltr) : Prop where
  f : x.f = y.f
  t : x.t = y.t
  d : HasT w 5 1 x.v y.d.length (u8s y.d)
  i : InF F x.v
structure Ltr.Ok (y : Ltr) : Prop where
  f : 0 ≤ y.f ∧ y.f ≤ 8
  t : 0 ≤ y.t ∧ y.t ≤ 8
  d : y.d.length ≤ 256
structure Off where
  ls : List Ltr
  op : Int → Int → Int
/-- An office: its block, its map, its letters. -/
structure OffAt (w : World) (F : Nat → Prop) (S B N : Nat) (o : Off) : Prop where
  ex : ∃ v lv n, w.heap[S]? = some (.cells #[v, .map (some B)] 130 (0, 0)) ∧ w.ownsRow 0 153 3 v o.ls.length (lvs lv) ∧ Both (LtrAt w F) lv o.ls ∧ Ways w B n o.op ∧ n ≤ N ∧ ∀ g, v.ownBlock = some g → F g
  ok : ∀ y ∈ o.ls, y.Ok
  len : o.ls.length ≤ N
  lo : F S ∧ F B
theorem OffAt.on {w w' : World} {F : Nat → Prop} {S B N : Nat} {o : Off} (h : OffAt w F S B N o) (hb : Below w.heap.size w w') : OffAt w' F S B N o := by
  obtain ⟨v, lv, n, h1, h2, h3, h4, h5⟩ := h.ex
  exact ⟨⟨v, lv, n, by rw [hb.block _ (Array.getElem?_eq_some_iff.1 h1).1]; exact h1, owns_below h2 hb, h3.mono fun a b _ _ h => ⟨h.f, h.t, h.d.below hb, h.i⟩, h4.kept (hb.block _ h4.lt), h5⟩, h.ok, h.len, h.lo⟩
theorem OffAt.mono {w : World} {F : Nat → Prop} {S B N M : Nat} {o : Off} (h : OffAt w F S B N o) (hM : N ≤ M) : OffAt w F S B M o := by
  obtain ⟨v, lv, n, h1, h2, h3, h4, h5, h6⟩ := h.ex
  exact ⟨⟨v, lv, n, h1, h2, h3, h4, Nat.le_trans h5 hM, h6⟩, h.ok, Nat.le_trans h.len hM, h.lo⟩
/-- Kept where none of its blocks changes. -/
theorem OffAt.wrote {w w' : World} {F G : Nat → Prop} {S B N : Nat} {o : Off} (h : OffAt w F S B N o) (hw : Wrote G w w') (hd : ∀ b, F b → ¬ G b) : OffAt w' F S B N o := by
  obtain ⟨v, lv, n, h1, h2, h3, h4, h5, h6⟩ := h.ex
  exact ⟨⟨v, lv, n, by rw [hw.block _ (Array.getElem?_eq_some_iff.1 h1).1 (hd _ h.lo.1)]; exact h1, owns_wroteF h2 hw fun g hg => hd g (h6 g hg), h3.mono fun a b _ _ r => ⟨r.f, r.t, r.d.onF hw r.i hd, r.i⟩, h4.kept (hw.block _ h4.lt (hd _ h.lo.2)), h5, h6⟩, h.ok, h.len, h.lo⟩
/-- What letter i reads. -/
theorem OffAt.letter {w : World} {F : Nat → Prop} {S B N : Nat} {o : Off} (h : OffAt w F S B N o) (i : Nat) (hi : i < o.ls.length) : ∃ g cap ad cd, w.cell? ⟨S, 0, none⟩ = some (.slice (some ⟨g, 0, none⟩) o.ls.length cap) ∧ (o.ls.length ≤ cap ∧ cap ≤ maxLen) ∧ w.cell? ⟨S, 1, none⟩ = some (.map (some B)) ∧
    (w.cell? ⟨g, i * 3, none⟩ = some (.int .i64 o.ls[i].f) ∧ w.cell? ⟨g, i * 3 + 1, none⟩ = some (.int .i64 o.ls[i].t) ∧ w.cell? ⟨g, i * 3 + 2, none⟩ = some (.slice ad o.ls[i].d.length cd)) ∧ HasT w 5 1 (.slice ad o.ls[i].d.length cd) o.ls[i].d.length (u8s o.ls[i].d) := by
  obtain ⟨v, lv, n, q1, q2, q3, q4, q5⟩ := h.ex
  obtain ⟨g, cap, rfl, _, _, _, hc⟩ := owns_some q2 (by omega)
  obtain ⟨_, _, _, he, h1, h2, _⟩ := Has.of_owns q2
  simp only [Value.slice.injEq] at he
  obtain ⟨-, -, rfl⟩ := he
  obtain ⟨x, hx, hr⟩ := q3.get i hi
  have hil : i < lv.length := (List.getElem?_eq_some_iff.1 hx).1
  have hxe : lv[i] = x := (List.getElem?_eq_some_iff.1 hx).2
  obtain ⟨xf, xt, xv⟩ := x
  obtain ⟨_, ad, cd, hxv, _⟩ := hr.d.has
  simp only at hxv
  subst hxv
  refine ⟨g, cap, ad, cd, by rw [cell_of_row w _ _ _ _ _ q1]; rfl, ⟨h1, h2⟩, by rw [cell_of_row w _ _ _ _ _ q1]; rfl, ⟨?_, ?_, ?_⟩, hr.d⟩
  · have := hc (i * 3 + 0) (.int .i64 xf) (by unfold lvs; rw [flat_get LV.cells 3 LV.cells_length lv i hil 0 (by omega), hxe]; rfl)
    rw [Nat.add_zero] at this
    have e := hr.f
    simp only at e
    rw [← e]; exact this
  · have := hc (i * 3 + 1) (.int .i64 xt) (by unfold lvs; rw [flat_get LV.cells 3 LV.cells_length lv i hil 1 (by omega), hxe]; rfl)
    have e := hr.t
    simp only at e
    rw [← e]; exact this
  · exact hc (i * 3 + 2) (.slice ad o.ls[i].d.length cd) (by unfold lvs; rw [flat_get LV.cells 3 LV.cells_length lv i hil 2 (by omega), hxe]; rfl)
theorem OffAt.head {w : World} {F : Nat → Prop} {S B N : Nat} {o : Off} (h : OffAt w F S B N o) : ∃ a cap, w.cell? ⟨S, 0, none⟩ = some (.slice a o.ls.length cap) := by
  obtain ⟨v, lv, n, q1, q2, q3, q4, q5⟩ := h.ex
  obtain ⟨a, c, rfl⟩ := owns_slice q2
  exact ⟨a, c, by rw [cell_of_row w _ _ _ _ _ q1]; rfl⟩
theorem two_cells {W : World} {b : Nat} {a0 a1 : Value} {e : TypeId} (h : W.heap[b]? = some (.cells #[a0, a1] e (0, 0))) : W.cell? ⟨b, 0, none⟩ = some a0 ∧ W.cell? ⟨b, 1, none⟩ = some a1 ∧ W.frozen? ⟨b, 0, none⟩ = false ∧ W.frozen? ⟨b, 1, none⟩ = false :=
  ⟨by rw [cell_of_row W _ _ _ _ _ h]; rfl, by rw [cell_of_row W _ _ _ _ _ h]; rfl, by simp [World.frozen?, h], by simp [World.frozen?, h]⟩
set_option maxRecDepth 100000 in
set_option maxHeartbeats 2000000 in
theorem cNew (w : World) : Calls Tryz.prog 51 #[] w fun e w' => ∃ S B, e = .returned (.pointer (some ⟨S, 0, none⟩)) ∧ OffAt w' (fun b => w.heap.size ≤ b) S B 0 ⟨[], fun _ _ => 0⟩ ∧ Below w.heap.size w w' := by
  have hmm := @run_makeMap Tryz.prog
  go_enter Tryz.func51, Tryz.ntmps51
  go_wp2_with fail
  go_ret
  have h0 := Ways.made w
  have ha : Below (w.alloc (.map #[] 0)).heap.size (w.alloc (.map #[] 0)) ((w.alloc (.map #[] 0)).alloc (.cells #[.slice none 0 0, .map (some w.heap.size)] 130)) := (Below.refl _ _).alloc (Nat.le_refl _) _
  refine ⟨_, _, rfl, ⟨⟨_, [], 0, ?_, World.ownsRow_nil _ _ _ _, Both.nil _, h0.kept (ha.block _ h0.lt), Nat.le_refl _, fun g hg => by cases hg⟩, fun y hy => by simp at hy, Nat.le_refl _, ⟨Nat.le_succ _, Nat.le_refl _⟩⟩, (by repeat (first | exact Below.refl _ _ | refine Below.drew ?_ | refine Below.alloc ?_ (by first | (simp; done) | (simp; omega)) _ | refine Below.setCell ?_ (by first | (simp; done) | (simp; omega)) _))⟩
  have := heap_alloc_new (w.alloc (.map #[] 0)) (.cells #[.slice none 0 0, .map (some w.heap.size)] 130)
  simpa using this
set_option maxRecDepth 100000 in
set_option maxHeartbeats 2000000 in
theorem cTo {w : World} {F : Nat → Prop} {S B N : Nat} {o : Off} (h : OffAt w F S B N o) (i : Nat) (hi : i < o.ls.length) :
    Calls Tryz.prog 66 #[.pointer (some ⟨S, 0, none⟩), .int .i64 i] w fun e w' => e = .returned (.int .i64 o.ls[i].t) ∧ w = w' := by
  obtain ⟨g, cap, ad, cd, s0, ⟨c1, c2⟩, s1, ⟨l0, l1, l2⟩, hd⟩ := h.letter i hi
  unfold maxLen at c2
  have hi' : (i : Int) < o.ls.length := by omega
  clear hd
  go_enter Tryz.func66, Tryz.ntmps66
  go_wp2_with fail
  go_ret
  exact ⟨rfl, rfl⟩
set_option maxRecDepth 100000 in
set_option maxHeartbeats 2000000 in
theorem cToNone {w : World} {F : Nat → Prop} {S B N : Nat} {o : Off} (h : OffAt w F S B N o) (id : Int) (hi : id < 0 ∨ o.ls.length ≤ id) :
    Calls Tryz.prog 66 #[.pointer (some ⟨S, 0, none⟩), .int .i64 id] w fun e w' => e = .returned (.int .i64 (-1)) ∧ w = w' := by
  obtain ⟨a, cap, s0⟩ := h.head
  by_cases h0 : id < 0
  · go_enter Tryz.func66, Tryz.ntmps66
    go_wp2_with fail
    go_ret
    exact ⟨rfl, rfl⟩
  · have h1 : (o.ls.length : Int) ≤ id := by omega
    go_enter Tryz.func66, Tryz.ntmps66
    go_wp2_with fail
    go_ret
    exact ⟨rfl, rfl⟩
set_option maxRecDepth 100000 in
set_option maxHeartbeats 2000000 in
theorem cOpenNone {w : World} {F : Nat → Prop} {S B N : Nat} {o : Off} (h : OffAt w F S B N o) (who id : Int) (hi : id < 0 ∨ o.ls.length ≤ id) :
    Calls Tryz.prog 67 #[.pointer (some ⟨S, 0, none⟩), .int .i64 who, .int .i64 id] w fun e w' => e = .returned (.tuple #[.slice none 0 0, .int .i64 6]) ∧ w = w' := by
  have C := Lib.hid (cToNone h id hi)
  clear h hi
  go_enter Tryz.func67, Tryz.ntmps67
  go_wp2_with (go_at_call 66; refine C.out.mono ?_; rintro e w' ⟨rfl, rfl⟩)
  go_ret2
  exact ⟨rfl, rfl⟩
set_option maxRecDepth 100000 in
set_option maxHeartbeats 2000000 in
theorem cOpenDenied {w : World} {F : Nat → Prop} {S B N : Nat} {o : Off} (h : OffAt w F S B N o) (who : Int) (i : Nat) (hi : i < o.ls.length) (hne : o.ls[i].t ≠ who) :
    Calls Tryz.prog 67 #[.pointer (some ⟨S, 0, none⟩), .int .i64 who, .int .i64 i] w fun e w' => e = .returned (.tuple #[.slice none 0 0, .int .i64 11]) ∧ w = w' := by
  have C := Lib.hid (cTo h i hi)
  obtain ⟨t0, t1⟩ := (h.ok _ (List.getElem_mem hi)).t
  generalize o.ls[i].t = t at *
  have hne' : (t != who) = true := by simpa using hne
  clear h hne
  go_enter Tryz.func67, Tryz.ntmps67
  go_wp2_with (go_at_call 66; refine C.out.mono ?_; rintro e w' ⟨rfl, rfl⟩)
  go_ret2
  exact ⟨rfl, rfl⟩
set_option maxRecDepth 100000 in
set_option maxHeartbeats 4000000 in
theorem cOpenOld {w : World} {F : Nat → Prop} {S B N : Nat} {o : Off} (h : OffAt w F S B N o) (i : Nat) (hi : i < o.ls.length) (hold : (i : Int) < o.op o.ls[i].f o.ls[i].t) :
    Calls Tryz.prog 67 #[.pointer (some ⟨S, 0, none⟩), .int .i64 o.ls[i].t, .int .i64 i] w fun e w' => e = .returned (.tuple #[.slice none 0 0, .int .i64 10]) ∧ Below w.heap.size w w' := by
  have C := Lib.hid (cTo h i hi)
  obtain ⟨v, lv, n, _, _, _, hw, _⟩ := h.ex
  obtain ⟨g, cap, ad, cd, s0, ⟨c1, c2⟩, s1, ⟨l0, l1, l2⟩, hd⟩ := h.letter i hi
  obtain ⟨t0, t1⟩ := (h.ok _ (List.getElem_mem hi)).t
  obtain ⟨f0, f1⟩ := (h.ok _ (List.getElem_mem hi)).f
  have hi' : (i : Int) < o.ls.length := by omega
  have hSs := World.block_lt_of_cell? w _ s0
  have hgs := World.block_lt_of_cell? w _ l0
  have hlk : ∀ X : World, X.heap[B]? = w.heap[B]? → (Instr.lookup 127 (.map (some B)) (.agg #[.int .i64 o.ls[i].f, .int .i64 o.ls[i].t]) false).run Tryz.prog X = .ok (.int .i64 (o.op o.ls[i].f o.ls[i].t)) X := fun X hX => (hw.kept hX).look (wf64_iff.2 (by omega)) (wf64_iff.2 (by omega))
  have Hlk := Lib.hid hlk
  have hBs := hw.lt
  unfold maxLen at c2
  generalize o.op o.ls[i].f o.ls[i].t = z at *
  generalize o.ls[i].f = f at *
  generalize o.ls[i].t = t at *
  generalize o.ls[i].d.length = dl at *
  clear h hw hlk hd
  go_enter Tryz.func67, Tryz.ntmps67
  go_wp2_with (go_at_call 66; refine C.out.mono ?_; rintro e w' ⟨rfl, rfl⟩)
  have hb : Below w.heap.size w ((w.alloc (.cells #[.int .i64 f, .int .i64 t, .slice ad dl cd] 153)).alloc (.cells #[.int .i64 f, .int .i64 t] 167)) := (by repeat (first | exact Below.refl _ _ | refine Below.drew ?_ | refine Below.alloc ?_ (by first | (simp; done) | (simp; omega)) _ | refine Below.setCell ?_ (by first | (simp; done) | (simp; omega)) _))
  have p1 := cell_on hb s1
  obtain ⟨k0, k1, -, -⟩ := two_cells (heap_alloc_new (w.alloc (.cells #[.int .i64 f, .int .i64 t, .slice ad dl cd] 153)) (.cells #[.int .i64 f, .int .i64 t] 167))
  have hB2 := hb.block B hBs
  have e1 : (w.alloc (.cells #[.int .i64 f, .int .i64 t, .slice ad dl cd] 153)).heap.size = w.heap.size + 1 := by simp
  rw [e1] at k0 k1
  have Hb := Lib.hid hb
  clear hb e1 s0 s1 l0 l1 l2 C
  generalize ((w.alloc (.cells #[.int .i64 f, .int .i64 t, .slice ad dl cd] 153)).alloc (.cells #[.int .i64 f, .int .i64 t] 167)) = W at *
  have hl0 := fun m => Hlk.out (W.drewN m) hB2
  go_quiet (fail)
  go_wp2_with fail
  go_ret2
  exact ⟨rfl, below_drewN Hb.out _⟩
theorem OffAt.opened {w w' : World} {F : Nat → Prop} {S B N m : Nat} {o : Off} {op' : Int → Int → Int} (h : OffAt w F S B N o) (hg : w.grownBy w' (some B)) (hm : m ≤ N + 1) (hW : Ways w' B m op') : OffAt w' F S B (N + 1) ⟨o.ls, op'⟩ ∧ Chc [] w w' := by
  obtain ⟨v, lv, n, q1, q2, q3, q4, q5, q6⟩ := h.ex
  obtain ⟨es, c, hB⟩ := q4.block
  have hc : Chc [] w w' := Chc.map hB hg
  exact ⟨⟨⟨v, lv, m, hc.block _ _ _ _ q1 (by simp), owns_chc q2 hc (by simp), q3.mono fun a b _ _ h => ⟨h.f, h.t, h.d.chc hc (by simp), h.i⟩, hW, hm, q6⟩, h.ok, Nat.le_succ_of_le h.len, h.lo⟩, hc⟩
theorem grown_wrote {F : Nat → Prop} {w w' : World} {b : Nat} (hg : w.grownBy w' (some b)) (hb : F b) : Wrote F w w' :=
  ⟨hg.os, hg.tape, hg.output, hg.size, fun k hk hf => hg.block k hk fun e => hf (by simp only [Option.some.injEq] at e; rw [e]; exact hb)⟩
set_option maxRecDepth 100000 in
set_option maxHeartbeats 4000000 in
theorem cOpenOk {w : World} {F : Nat → Prop} {S B N : Nat} {o : Off} (h : OffAt w F S B N o) (i : Nat) (hi : i < o.ls.length) (hnew : o.op o.ls[i].f o.ls[i].t ≤ i) (hN : N ≤ 1000000) :
    Calls Tryz.prog 67 #[.pointer (some ⟨S, 0, none⟩), .int .i64 o.ls[i].t, .int .i64 i] w fun e w' => ∃ a c, e = .returned (.tuple #[.slice a o.ls[i].d.length c, .int .i64 0]) ∧ HasT w' 5 1 (.slice a o.ls[i].d.length c) o.ls[i].d.length (u8s o.ls[i].d) ∧
      OffAt w' F S B (N + 1) { o with op := updW o.op o.ls[i].f o.ls[i].t (i + 1) } ∧ InF (fun b => w.heap.size ≤ b) (.slice a o.ls[i].d.length c) ∧ Wrote F w w' := by
  have C := Lib.hid (cTo h i hi)
  have H := Lib.hid h
  obtain ⟨v, lv, n, _, _, _, hw, hnN, _⟩ := h.ex
  obtain ⟨g, cap, ad, cd, s0, ⟨c1, c2⟩, s1, ⟨l0, l1, l2⟩, hd⟩ := h.letter i hi
  obtain ⟨t0, t1⟩ := (h.ok _ (List.getElem_mem hi)).t
  obtain ⟨f0, f1⟩ := (h.ok _ (List.getElem_mem hi)).f
  have hdl := (h.ok _ (List.getElem_mem hi)).d
  have hi' : (i : Int) < o.ls.length := by omega
  have hSs := World.block_lt_of_cell? w _ s0
  have hgs := World.block_lt_of_cell? w _ l0
  have hlk : ∀ X : World, X.heap[B]? = w.heap[B]? → (Instr.lookup 127 (.map (some B)) (.agg #[.int .i64 o.ls[i].f, .int .i64 o.ls[i].t]) false).run Tryz.prog X = .ok (.int .i64 (o.op o.ls[i].f o.ls[i].t)) X := fun X hX => (hw.kept hX).look (wf64_iff.2 (by omega)) (wf64_iff.2 (by omega))
  have Hlk := Lib.hid hlk
  have hBs := hw.lt
  have hin : i < 1000000 := by have := h.len; omega
  unfold maxLen at c2
  have HW := Lib.hid hw
  have Hd := Lib.hid hd
  have hold : decide ((i : Int) < o.op o.ls[i].f o.ls[i].t) = false := by simp; omega
  generalize hz : o.op o.ls[i].f o.ls[i].t = z at *
  have Hz := Lib.hid hz
  generalize o.ls[i].f = f at *
  generalize o.ls[i].t = t at *
  generalize o.ls[i].d = d at *
  clear h hw hlk hd hz hnew
  go_enter Tryz.func67, Tryz.ntmps67
  go_wp2_with (go_at_call 66; refine C.out.mono ?_; rintro e w' ⟨rfl, rfl⟩)
  have hb : Below w.heap.size w ((w.alloc (.cells #[.int .i64 f, .int .i64 t, .slice ad d.length cd] 153)).alloc (.cells #[.int .i64 f, .int .i64 t] 167)) := (by repeat (first | exact Below.refl _ _ | refine Below.drew ?_ | refine Below.alloc ?_ (by first | (simp; done) | (simp; omega)) _ | refine Below.setCell ?_ (by first | (simp; done) | (simp; omega)) _))
  have p1 := cell_on hb s1
  obtain ⟨k0, k1, -, -⟩ := two_cells (heap_alloc_new (w.alloc (.cells #[.int .i64 f, .int .i64 t, .slice ad d.length cd] 153)) (.cells #[.int .i64 f, .int .i64 t] 167))
  have hB2 := hb.block B hBs
  have e1 : (w.alloc (.cells #[.int .i64 f, .int .i64 t, .slice ad d.length cd] 153)).heap.size = w.heap.size + 1 := by simp
  have hL : ((w.alloc (.cells #[.int .i64 f, .int .i64 t, .slice ad d.length cd] 153)).alloc (.cells #[.int .i64 f, .int .i64 t] 167)).heap[w.heap.size]? = some (.cells #[.int .i64 f, .int .i64 t, .slice ad d.length cd] 153 (0, 0)) := by
    rw [((Below.refl _ _).alloc (Nat.le_refl _) _).block _ (by simp)]; exact heap_alloc_new _ _
  rw [e1] at k0 k1
  have Hb := Lib.hid hb
  clear hb e1 s0 s1 l0 l1 l2 C
  generalize ((w.alloc (.cells #[.int .i64 f, .int .i64 t, .slice ad d.length cd] 153)).alloc (.cells #[.int .i64 f, .int .i64 t] 167)) = W at *
  have hl0 := fun m => Hlk.out (W.drewN m) hB2
  go_quiet (fail)
  clear hl0
  go_upto_region 10 with (fail)
  have p1' : (W.drewN nq).cell? ⟨S, 1, none⟩ = some (.map (some B)) := p1
  have k0' : (W.drewN nq).cell? ⟨w.heap.size + 1, 0, none⟩ = some (.int .i64 f) := k0
  have k1' : (W.drewN nq).cell? ⟨w.heap.size + 1, 1, none⟩ = some (.int .i64 t) := k1
  have hB3 : (W.drewN nq).heap[B]? = w.heap[B]? := hB2
  have hL3 : (W.drewN nq).heap[w.heap.size]? = some (.cells #[.int .i64 f, .int .i64 t, .slice ad d.length cd] 153 (0, 0)) := hL
  have Hb3 : Hid (Below w.heap.size w (W.drewN nq)) := below_drewN Hb.out _
  clear p1 k0 k1 hB2 hL Hb
  generalize W.drewN nq = W2 at *
  have hw3 := HW.out.kept hB3
  obtain ⟨w9, hr, hW9, hg9⟩ := Ways.store (w := W2.drew) (hw3.kept rfl) (show n < maxLen by unfold maxLen; omega) (wf64_iff.2 (show -9223372036854775808 ≤ f ∧ f ≤ 9223372036854775807 by omega)) (wf64_iff.2 (show -9223372036854775808 ≤ t ∧ t ≤ 9223372036854775807 by omega)) (wf64_iff.2 (show -9223372036854775808 ≤ (i : Int) + 1 ∧ (i : Int) + 1 ≤ 9223372036854775807 by omega))
  have hwrap : IntKind.i64.wrap ((i : Int) + 1) = (i : Int) + 1 := IntWalk.i64_in _ (by omega)
  have HW9 := Lib.hid hW9
  have Hg9 := Lib.hid hg9
  have HB3 := Lib.hid hB3
  have HL3 := Lib.hid hL3
  clear hw3 hW9 hg9 hB3 hL3
  go_region
  have hg9 : W2.grownBy w9 (some B) := ⟨Hg9.out.os, Hg9.out.tape, Hg9.out.output, Hg9.out.size, Hg9.out.block⟩
  obtain ⟨hO9, hc9⟩ := (H.out.on Hb3.out).opened hg9 (show n + 1 ≤ N + 1 by omega) HW9.out
  have hL9 := hc9.block _ _ _ _ HL3.out (by simp)
  have l9 : w9.cell? ⟨w.heap.size, 2, none⟩ = some (.slice ad d.length cd) := by rw [cell_of_row w9 _ _ _ _ _ hL9]; rfl
  have hD9 := (Hd.out.below Hb3.out).chc hc9 (by simp)
  have CL := Lib.hid (cclone_u8 _ d.length (u8s d) w9 hD9.has (u8s_all d) (by omega))
  have HO9 := Lib.hid hO9
  have Hc9 : Hid (Chc [] w w9) := (Chc.of_below Hb3.out).trans hc9
  have HB9 : Hid (Wrote F w w9) := (wof Hb3.out).trans (grown_wrote hg9 H.out.lo.2)
  clear hg9 hO9 hc9 hL9 hD9 Hg9 HW9 HL3 HB3 hr p1' k0' k1' hwrap
  go_wp2_with fail
  refine CL.out.mono ?_
  rintro e w10 ⟨v', rfl, hown, hb10⟩
  obtain ⟨a', c', rfl⟩ := owns_slice hown
  have hT := HasT.of_owns hown
  have hfin : HasT w10 5 1 (.slice a' d.length c') d.length (u8s d) ∧ OffAt w10 F S B (N + 1) ⟨o.ls, updW o.op f t (i + 1)⟩ ∧ InF (fun b => w.heap.size ≤ b) (.slice a' d.length c') ∧ Wrote F w w10 :=
    ⟨hT, HO9.out.on hb10, InF.of_owns hown fun b hb => Nat.le_trans HB9.out.size hb, HB9.out.trans (wof hb10)⟩
  have Hfin := Lib.hid hfin
  clear hown hT hb10 hfin CL HO9 Hc9 HB9 l9
  go_wp2_with fail
  go_ret2
  exact ⟨a', c', rfl, Hfin.out⟩
theorem elLetter : Elem Tryz.prog 153 3 40 (.agg #[.int .i64 0, .int .i64 0, .slice none 0 0]) := .of (by kernel_rfl) rfl (by decide)
/-- The office's block behind an append to its letters. -/
theorem post_x {w w2 w3 : World} {F : Nat → Prop} {S B N : Nat} {o : Off} {av : Option Addr} {cv : Nat} (h : OffAt w F S B N o) (hb : Below w.heap.size w w2) (hg : w2.grownBy w3 (Value.slice av o.ls.length cv).ownBlock) (s0 : w.cell? ⟨S, 0, none⟩ = some (.slice av o.ls.length cv)) :
    w3.cell? ⟨S, 0, none⟩ = some (.slice av o.ls.length cv) ∧ w3.frozen? ⟨S, 0, none⟩ = false := by
  obtain ⟨v, lv, n, h1, h2, h3, h4, h5, h6'⟩ := (h.on hb).ex
  have e : v = .slice av o.ls.length cv := by
    have := cell_on hb s0
    rw [cell_of_row w2 _ _ _ _ _ h1] at this
    simpa using this
  subst e
  have hc := Chc.grown (T := [153]) h2 hg (by simp)
  have h6 := hc.block _ _ _ _ h1 (by decide)
  exact ⟨by rw [cell_of_row w3 _ _ _ _ _ h6]; rfl, by simp [World.frozen?, h6]⟩
theorem post_step {w w5 w6 : World} {F : Nat → Prop} {S B N c5 c6 : Nat} {o : Off} {av a5 a6 : Option Addr} {cv : Nat} {lv : List LV} {y : Ltr} (h : OffAt w F S B N o) (hy : y.Ok)
    (hv : w.cell? ⟨S, 0, none⟩ = some (.slice av o.ls.length cv)) (hl : w.ownsRow 0 153 3 (.slice av o.ls.length cv) o.ls.length (lvs lv)) (hB : Both (LtrAt w F) lv o.ls)
    (hb5 : Below w.heap.size w w5) (h5 : w5.ownsRow w.heap.size 5 1 (.slice a5 y.d.length c5) y.d.length (u8s y.d))
    (h6 : w6.ownsRow 0 153 3 (.slice a6 (o.ls.length + 1) c6) (o.ls.length + 1) (lvs lv ++ [.int .i64 y.f, .int .i64 y.t, .slice a5 y.d.length c5])) (hg : w5.grownBy w6 (Value.slice av o.ls.length cv).ownBlock) (hat : AtOr w5 (Value.slice av o.ls.length cv) (Value.slice a6 (o.ls.length + 1) c6)) (HN : ∀ b, w.heap.size ≤ b → F b) :
    OffAt (w6.setCell ⟨S, 0, none⟩ (.slice a6 (o.ls.length + 1) c6)) F S B (N + 1) { o with ls := o.ls ++ [y] } ∧ Wrote F w (w6.setCell ⟨S, 0, none⟩ (.slice a6 (o.ls.length + 1) c6)) := by
  obtain ⟨v, lv', n, q1, q2, q3, q4, q5, q8⟩ := h.ex
  have e : v = .slice av o.ls.length cv := by rw [cell_of_row w _ _ _ _ _ q1] at hv; simpa using hv
  subst e
  have q1' : w5.heap[S]? = some (.cells #[.slice av o.ls.length cv, .map (some B)] 130 (0, 0)) := by rw [hb5.block _ (Array.getElem?_eq_some_iff.1 q1).1]; exact q1
  have hc6 := Chc.grown (T := [153]) (owns_below hl hb5) hg (by simp)
  have q6 := hc6.block _ _ _ _ q1' (by decide)
  have hc7 := Chc.setCell (T := [130]) (p := ⟨S, 0, none⟩) q6 (by simp) (.slice a6 (o.ls.length + 1) c6)
  have q7 := heap_setCell_same w6 S 0 _ _ (.slice a6 (o.ls.length + 1) c6) q6
  have hT5 := (HasT.of_owns h5).chc hc6 (by decide) |>.chc hc7 (by decide)
  have hBB : w6.heap[B]? = w5.heap[B]? := by
    refine hg.block B (Nat.lt_of_lt_of_le q4.lt hb5.size) fun hh => ?_
    obtain ⟨es, c, hm⟩ := q4.block
    obtain ⟨a, g, hv', hcs⟩ : ∃ a g, av = some a ∧ a.block = g ∧ ∃ cs, w.heap[g]? = some (.cells cs 153 (0, 0)) := by
      obtain ⟨_, hl'⟩ := hl
      rcases hl' with ⟨e1, _⟩ | ⟨g, cap, cur, e1, _, hh', _⟩
      · simp only [Value.slice.injEq] at e1
        rw [e1.1] at hh
        simp [Value.ownBlock] at hh
      · simp only [Value.slice.injEq] at e1
        exact ⟨_, g, e1.1, rfl, cur, hh'⟩
    obtain ⟨hg1, cs, hcs⟩ := hcs
    subst hv'
    simp only [Value.ownBlock, Option.some.injEq] at hh
    rw [← hh] at hg1
    rw [← hg1, hm] at hcs
    cases hcs
  have hBS : B ≠ S := by
    rintro rfl
    obtain ⟨es, c, hm⟩ := q4.block
    rw [q1] at hm; cases hm
  have hsz : o.ls.length + 1 = (o.ls ++ [y]).length := by simp
  refine ⟨⟨⟨.slice a6 (o.ls.length + 1) c6, lv ++ [⟨y.f, y.t, .slice a5 y.d.length c5⟩], n, ?_, ?_, ?_, ?_, by omega, fun g hg' => (hat g hg').elim (q8 g) fun hh => HN g (Nat.le_trans hb5.size hh)⟩, fun z hz => ?_, by have := h.len; simp; omega, h.lo⟩, ((wof hb5).trans (Wrote.grown hg q8)).setCell (p := ⟨S, 0, none⟩) h.lo.1 _⟩
  · rw [q7]; rfl
  · have : lvs lv ++ [.int .i64 y.f, .int .i64 y.t, .slice a5 y.d.length c5] = lvs (lv ++ [⟨y.f, y.t, .slice a5 y.d.length c5⟩]) := flat_snoc LV.cells lv ⟨y.f, y.t, .slice a5 y.d.length c5⟩
    rw [this] at h6
    simp only [← hsz]
    exact owns_chc h6 hc7 (by decide)
  · exact Both.snoc (hB.mono fun a b _ _ r => ⟨r.f, r.t, ((r.d.below hb5).chc hc6 (by decide)).chc hc7 (by decide), r.i⟩) ⟨rfl, rfl, hT5, InF.of_owns h5 HN⟩
  · exact (q4.kept (hb5.block _ q4.lt)).kept (by rw [Below.heap_setCell _ _ _ _ hBS]; exact hBB)
  · rcases List.mem_append.1 hz with hz | hz
    · exact h.ok z hz
    · simp at hz; subst hz; exact hy
set_option maxRecDepth 100000 in
set_option maxHeartbeats 4000000 in
theorem cPost {w : World} {F : Nat → Prop} {S B N : Nat} {o : Off} (h : OffAt w F S B N o) (y : Ltr) (hy : y.Ok) (ad : Option Addr) (cd : Nat) (hd : HasT w 5 1 (.slice ad y.d.length cd) y.d.length (u8s y.d)) (hN : N ≤ 1000000) (HN : ∀ b, w.heap.size ≤ b → F b) :
    Calls Tryz.prog 61 #[.pointer (some ⟨S, 0, none⟩), .int .i64 y.f, .int .i64 y.t, .slice ad y.d.length cd] w fun e w' => e = .returned (.int .i64 o.ls.length) ∧
      OffAt w' F S B (N + 1) { o with ls := o.ls ++ [y] } ∧ Wrote F w w' := by
  have H := Lib.hid h
  have HY := Lib.hid hy
  have HNN := Lib.hid HN
  obtain ⟨v, lv, n, h1, h2, h3, h4, h5, h6⟩ := h.ex
  have H3 := Lib.hid h3
  have hlen := h.len
  obtain ⟨y0, y1, y2⟩ := hy
  have Hd := Lib.hid hd
  have s0 : w.cell? ⟨S, 0, none⟩ = some v := by rw [cell_of_row w _ _ _ _ _ h1]; rfl
  obtain ⟨av, cv, rfl⟩ := owns_slice h2
  have CC : Hid (∀ X, Below w.heap.size w X → Calls Tryz.prog 39 #[.slice ad y.d.length cd] X fun e w' => ∃ v', e = .returned v' ∧ w'.ownsRow X.heap.size 5 1 v' y.d.length (u8s y.d) ∧ Below X.heap.size X w') := fun X hX => cclone_u8 _ y.d.length (u8s y.d) X (Hd.out.below hX).has (u8s_all _) (by omega)
  have H2 := Lib.hid h2
  clear h hd h2 HN
  go_enter Tryz.func61, Tryz.ntmps61
  go_upto_region 1 with (fail)
  go_region_law (first
    | (go_simp; go_at_call 39; refine (CC.out _ (by repeat (first | exact Below.refl _ _ | refine Below.drew ?_ | refine Below.alloc ?_ (by first | (simp; done) | (simp; omega)) _ | refine Below.setCell ?_ (by first | (simp; done) | (simp; omega)) _))).mono ?_; rintro e w5 ⟨v5, rfl, hown5, hb5'⟩; have hb5 : Below w.heap.size w w5 := (Below.drew (Below.refl _ _)).trans hb5'; obtain ⟨a5, c5, rfl⟩ := owns_slice hown5; have x05 := cell_on hb5 s0; have hX5 := block_on hb5 s0; clear hb5')
    | (refine step_appF (w0 := w5) (wanted_of_none (by rfl)) 128 153 3 40 _ elLetter Tryz.underlying128 (.slice av o.ls.length cv) o.ls.length (lvs lv) (owns_below H2.out hb5) (by repeat (first | exact Below.refl _ _ | refine Below.drew ?_ | refine Below.alloc ?_ (by first | (simp; done) | (simp; omega)) _ | refine Below.setCell ?_ (by first | (simp; done) | (simp; omega)) _)) _ 1 [.int .i64 y.f, .int .i64 y.t, .slice a5 y.d.length c5] (has_block (wp := w5) (by first | exact heap_alloc_new _ _ | (simp only [heap_drew, heap_drewN]; exact heap_alloc_new _ _)) rfl (by rfl) (by decide)) _ _ (by rfl) (by rfl) (by rfl) (by simp [Value.oneCell']) (by omega) (by unfold maxLen; omega) ?_; intro v6 w6 hown6 hat6 hgrow6; obtain ⟨a6, c6, rfl⟩ := owns_slice hown6; obtain ⟨x06, f06⟩ := post_x H.out hb5 hgrow6 s0))
  all_goals
    have hst := post_step H.out HY.out s0 H2.out H3.out hb5 hown5 hown6 hgrow6 hat6 HNN.out
    have Hst := Lib.hid hst
    have s7 : (w6.setCell ⟨S, 0, none⟩ (.slice a6 (o.ls.length + 1) c6)).cell? ⟨S, 0, none⟩ = some (.slice a6 (o.ls.length + 1) c6) := World.cell?_setCell_same _ _ _ x06
    clear hst hown5 hown6 hgrow6 hat6 hb5 x05 x06
    go_wp2_with fail
    go_ret
    exact ⟨rfl, Hst.out⟩
theorem three_at {W : World} {b : Nat} {a0 a1 a2 : Value} {e : TypeId} (h : W.heap[b]? = some (.cells #[a0, a1, a2] e (0, 0))) : W.cell? ⟨b, 0, none⟩ = some a0 ∧ W.cell? ⟨b, 1, none⟩ = some a1 ∧ W.cell? ⟨b, 2, none⟩ = some a2 :=
  ⟨by rw [cell_of_row W _ _ _ _ _ h]; rfl, by rw [cell_of_row W _ _ _ _ _ h]; rfl, by rw [cell_of_row W _ _ _ _ _ h]; rfl⟩
set_option maxRecDepth 100000 in
set_option maxHeartbeats 2000000 in
theorem cFrom {w : World} {F : Nat → Prop} {S B N : Nat} {o : Off} (h : OffAt w F S B N o) (i : Nat) (hi : i < o.ls.length) :
    Calls Tryz.prog 68 #[.pointer (some ⟨S, 0, none⟩), .int .i64 i] w fun e w' => e = .returned (.int .i64 o.ls[i].f) ∧ w = w' := by
  obtain ⟨g, cap, ad, cd, s0, ⟨c1, c2⟩, s1, ⟨l0, l1, l2⟩, hd⟩ := h.letter i hi
  unfold maxLen at c2
  have hi' : (i : Int) < o.ls.length := by omega
  clear hd
  go_enter Tryz.func68, Tryz.ntmps68
  go_wp2_with fail
  go_ret
  exact ⟨rfl, rfl⟩
set_option maxRecDepth 100000 in
set_option maxHeartbeats 4000000 in
theorem cOld {w : World} {F : Nat → Prop} {S B N : Nat} {o : Off} (h : OffAt w F S B N o) (i : Nat) (hi : i < o.ls.length) :
    Calls Tryz.prog 74 #[.pointer (some ⟨S, 0, none⟩), .int .i64 i] w fun e w' => e = .returned (.bool (decide ((i : Int) < o.op o.ls[i].f o.ls[i].t))) ∧ Below w.heap.size w w' := by
  obtain ⟨v, lv, n, _, _, _, hw, _⟩ := h.ex
  obtain ⟨g, cap, ad, cd, s0, ⟨c1, c2⟩, s1, ⟨l0, l1, l2⟩, hd⟩ := h.letter i hi
  obtain ⟨t0, t1⟩ := (h.ok _ (List.getElem_mem hi)).t
  obtain ⟨f0, f1⟩ := (h.ok _ (List.getElem_mem hi)).f
  have hi' : (i : Int) < o.ls.length := by omega
  have hSs := World.block_lt_of_cell? w _ s0
  have hgs := World.block_lt_of_cell? w _ l0
  have hlk : ∀ X : World, X.heap[B]? = w.heap[B]? → (Instr.lookup 127 (.map (some B)) (.agg #[.int .i64 o.ls[i].f, .int .i64 o.ls[i].t]) false).run Tryz.prog X = .ok (.int .i64 (o.op o.ls[i].f o.ls[i].t)) X := fun X hX => (hw.kept hX).look (wf64_iff.2 (by omega)) (wf64_iff.2 (by omega))
  have Hlk := Lib.hid hlk
  have hBs := hw.lt
  unfold maxLen at c2
  generalize o.op o.ls[i].f o.ls[i].t = z at *
  generalize o.ls[i].f = f at *
  generalize o.ls[i].t = t at *
  generalize o.ls[i].d.length = dl at *
  clear h hw hlk hd
  go_enter Tryz.func74, Tryz.ntmps74
  go_upto_region 2 with (fail)
  have hb : Below w.heap.size w (w.alloc (.cells #[.int .i64 f, .int .i64 t, .slice ad dl cd] 153)) := (by repeat (first | exact Below.refl _ _ | refine Below.drew ?_ | refine Below.alloc ?_ (by first | (simp; done) | (simp; omega)) _ | refine Below.setCell ?_ (by first | (simp; done) | (simp; omega)) _))
  have p1 := cell_on hb s1
  obtain ⟨k0, k1, -⟩ := three_at (heap_alloc_new w (.cells #[.int .i64 f, .int .i64 t, .slice ad dl cd] 153))
  have hB2 := hb.block B hBs
  have Hb := Lib.hid hb
  clear hb s0 s1 l0 l1 l2
  generalize (w.alloc (.cells #[.int .i64 f, .int .i64 t, .slice ad dl cd] 153)) = W at *
  have hl0 := fun m => Hlk.out (W.drewN m) hB2
  go_quiet (fail)
  go_wp2_with fail
  go_ret
  exact ⟨rfl, below_drewN Hb.out _⟩
end Go.Proofs.YtjdedflfdlhkdaaGreatDoor

namespace Go.Proofs.YtjdedflfdlhkdaaGreatDoor
open Go.ChangeShapes Go.WideShapes Go.ChangeAt Go.RowKit
set_option linter.unusedVariables false
set_option linter.unusedSimpArgs false

def valK (l : List Ent) (k : Int) : Int := match look l k with | some e => e.v | none => 0
set_option maxRecDepth 100000 in
set_option maxHeartbeats 4000000 in
theorem cFindV {w : World} {g m : Nat} {vs : Nat → Value} {l : Nat → List Ent} (h : StoreAt w g m vs l) (j : Nat) (hj : j < m) (hm : m ≤ 4) (key : Int) :
    Calls Tryz.prog 90 #[.slice (some ⟨g, 0, none⟩) m m, .int .i64 j, .int .i64 key] w fun e w' => ∃ x : Ent, (e = .returned (.tuple #[.agg #[.int .i64 x.k, .int .i64 x.v, .int .i64 x.t, .int .i64 x.h, .bool x.g], .bool (liveK (l j) key)]) ∧ x.v = valK (l j) key) ∧ Below w.heap.size w w' := by
  obtain ⟨c0, f0⟩ := h.cell j hj
  have HR := Lib.hid (h.rows j hj).has
  have HM := Lib.hid (h.ok j hj).may
  have hgl := h.lt
  have hjz : (j : Int) < (m : Int) := by omega
  obtain ⟨_, aj, cj, hvj, _, hcm, _⟩ := (h.rows j hj).has
  unfold maxLen at hcm
  rw [hvj] at c0 HR
  generalize l j = a at *
  have hb0 : Below w.heap.size w (w.alloc (.cells #[.int .i64 0, .int .i64 0, .int .i64 0, .int .i64 0, .bool false] 77)) := (Below.refl _ _).alloc (Nat.le_refl _) _
  have hF := heap_alloc_new w (.cells #[.int .i64 0, .int .i64 0, .int .i64 0, .int .i64 0, .bool false] 77)
  have hs0 : w.heap.size < (w.alloc (.cells #[.int .i64 0, .int .i64 0, .int .i64 0, .int .i64 0, .bool false] 77)).heap.size := by simp
  replace c0 := cell_on hb0 c0
  have HF := Lib.hid hF
  have HB0 := Lib.hid hb0
  clear h hvj f0 hb0 hF
  go_enter Tryz.func90, Tryz.ntmps90
  go_upto_region 1 with (fail)
  generalize w.alloc (.cells #[.int .i64 0, .int .i64 0, .int .i64 0, .int .i64 0, .bool false] 77) = W at *
  go_wp2_with fail
  go_loopw [9, 15] (fun _ i wr => ∃ k : Nat, k ≤ a.length ∧ i = .int .i64 k ∧ Hid (∀ x (hx : x < a.length), x < k → a[x].k ≠ key) ∧ Hid (Below W.heap.size W wr)) (fun _ i _ => a.length - (intOf i).toNat)
  case atStart => exact ⟨0, by omega, rfl, fun x _ hx => absurd hx (by omega), Below.refl _ _⟩
  case round =>
    clear c0
    obtain ⟨k, hk, rfl, HH, HB⟩ := hrel
    have hFr : wr.heap[w.heap.size]? = some (.cells #[.int .i64 0, .int .i64 0, .int .i64 0, .int .i64 0, .bool false] 77 (0, 0)) := by rw [HB.out.block _ hs0]; exact HF.out
    have hFlt := (Array.getElem?_eq_some_iff.1 hFr).1
    have HBw : Hid (Below w.heap.size w wr) := HB0.out.trans (HB.out.mono HB0.out.size)
    by_cases hlt : k < a.length
    · have hltz : (k : Int) < (a.length : Int) := by omega
      obtain ⟨b, off, cap, he, -, x0, x1, x2, x3, x4⟩ := ent_get (HR.out.below HBw.out) k hlt
      simp only [Value.slice.injEq] at he
      obtain ⟨rfl, -, rfl⟩ := he
      have hbl := World.block_lt_of_cell? wr _ x0
      have hlook := Lib.hid (look_at HM.out k hlt)
      have hfin0 : Hid (a[k].k ≠ key → ∀ x (hx : x < a.length), x < k + 1 → a[x].k ≠ key) := fun hne x hx hxk => by
        by_cases e : x = k
        · subst e; exact hne
        · exact HH.out x hx (by omega)
      generalize a[k] = x at *
      have hbx := ent_box (w := wr) x
      obtain ⟨⟨z0, z1, z2, z3, z4⟩, -⟩ := five_at (heap_alloc_new wr (.cells #[.int .i64 x.k, .int .i64 x.v, .int .i64 x.t, .int .i64 x.h, .bool x.g] 77))
      have hFw : (wr.alloc (.cells #[.int .i64 x.k, .int .i64 x.v, .int .i64 x.t, .int .i64 x.h, .bool x.g] 77)).heap[w.heap.size]? = some (.cells #[.int .i64 0, .int .i64 0, .int .i64 0, .int .i64 0, .bool false] 77 (0, 0)) := by rw [hbx.block _ (Array.getElem?_eq_some_iff.1 hFr).1]; exact hFr
      have HB2 : Hid (Below W.heap.size W (wr.alloc (.cells #[.int .i64 x.k, .int .i64 x.v, .int .i64 x.t, .int .i64 x.h, .bool x.g] 77))) := HB.out.trans (hbx.mono HB.out.size)
      have HBw2 : Hid (Below w.heap.size w (wr.alloc (.cells #[.int .i64 x.k, .int .i64 x.v, .int .i64 x.t, .int .i64 x.h, .bool x.g] 77))) := HBw.out.trans (hbx.mono HBw.out.size)
      have HFw := Lib.hid hFw
      clear hbx hFr HB HBw hFw
      by_cases hc : x.k = key
      · have hcb : (x.k == key) = true := by simpa using hc
        have hlv : Hid (liveK a key = !x.g) := by
          show _ = _
          unfold liveK; rw [← hc, hlook.out]
        have hvk : Hid (x.v = valK a key) := by
          show _ = _
          unfold valK; rw [← hc, hlook.out]
        clear hc hfin0 hlook HH
        obtain ⟨⟨y0, y1, y2, y3, y4⟩, yf⟩ := five_at HFw.out
        have yf0 := yf 0
        have yf1 := yf 1
        have yf2 := yf 2
        have yf3 := yf 3
        have yf4 := yf 4
        clear yf
        go_upto_region 5 with (fail)
        generalize wr.alloc (.cells #[.int .i64 x.k, .int .i64 x.v, .int .i64 x.t, .int .i64 x.h, .bool x.g] 77) = W2 at *
        obtain ⟨⟨t0, t1, t2, t3, t4⟩, -⟩ := five_at (five_put HFw.out (.int .i64 x.k) (.int .i64 x.v) (.int .i64 x.t) (.int .i64 x.h) (.bool x.g))
        have hb6 : Below w.heap.size w (((((W2.setCell ⟨w.heap.size, 0, none⟩ (.int .i64 x.k)).setCell ⟨w.heap.size, 1, none⟩ (.int .i64 x.v)).setCell ⟨w.heap.size, 2, none⟩ (.int .i64 x.t)).setCell ⟨w.heap.size, 3, none⟩ (.int .i64 x.h)).setCell ⟨w.heap.size, 4, none⟩ (.bool x.g)) :=
          ((((HBw2.out.setCell (Nat.le_refl _) _).setCell (Nat.le_refl _) _).setCell (Nat.le_refl _) _).setCell (Nat.le_refl _) _).setCell (Nat.le_refl _) _
        go_region
        all_goals
          clear y0 y1 y2 y3 y4 yf0 yf1 yf2 yf3 yf4 z0 z1 z2 z3 z4 x0 x1 x2 x3 x4
          generalize (((((W2.setCell ⟨w.heap.size, 0, none⟩ (.int .i64 x.k)).setCell ⟨w.heap.size, 1, none⟩ (.int .i64 x.v)).setCell ⟨w.heap.size, 2, none⟩ (.int .i64 x.t)).setCell ⟨w.heap.size, 3, none⟩ (.int .i64 x.h)).setCell ⟨w.heap.size, 4, none⟩ (.bool x.g)) = w6 at *
          have u0 : w6.drew.cell? ⟨w.heap.size, 0, none⟩ = some (.int .i64 x.k) := t0
          have u1 : w6.drew.cell? ⟨w.heap.size, 1, none⟩ = some (.int .i64 x.v) := t1
          have u2 : w6.drew.cell? ⟨w.heap.size, 2, none⟩ = some (.int .i64 x.t) := t2
          have u3 : w6.drew.cell? ⟨w.heap.size, 3, none⟩ = some (.int .i64 x.h) := t3
          have u4 : w6.drew.cell? ⟨w.heap.size, 4, none⟩ = some (.bool x.g) := t4
          have Hb6 : Hid (Below w.heap.size w w6.drew) := hb6.drew
          generalize w6.drew = w7 at *
          clear t0 t1 t2 t3 t4 hb6
          go_wp2_with fail
          refine bodyPost_ret (v := .tuple #[.agg #[.int .i64 x.k, .int .i64 x.v, .int .i64 x.t, .int .i64 x.h, .bool x.g], .bool (!x.g)]) (by simp [results, Tryz.results90, go_sem, u0, u1, u2, u3, u4]) rfl ?_
          rw [hlv.out]
          first | exact ⟨⟨x, rfl, hvk.out⟩, Hb6.out⟩ | exact ⟨x, ⟨rfl, hvk.out⟩, Hb6.out⟩
      · have hcb : (x.k == key) = false := by rw [beq_eq_false_iff_ne]; exact hc
        have hfin := Lib.hid (hfin0.out hc)
        clear hc hfin0 hlook HH
        go_wp2_with fail
        go_roundw
        case rel => exact ⟨k + 1, by omega, by go_num, hfin, HB2⟩
        case measure => first | (simp [intOf]; done) | (simp [intOf]; omega)
    · obtain rfl : k = a.length := by omega
      have hlv : Hid (liveK a key = false) := by
        show _ = _
        unfold liveK
        rw [look_none fun x hx => by obtain ⟨i, hi, rfl⟩ := List.mem_iff_getElem.1 hx; exact HH.out i hi hi]
      have hvk : Hid (0 = valK a key) := by
        show _ = _
        unfold valK
        rw [look_none fun x hx => by obtain ⟨i, hi, rfl⟩ := List.mem_iff_getElem.1 hx; exact HH.out i hi hi]
      obtain ⟨⟨y0, y1, y2, y3, y4⟩, yf⟩ := five_at hFr
      have yf0 := yf 0
      have yf1 := yf 1
      have yf2 := yf 2
      have yf3 := yf 3
      have yf4 := yf 4
      obtain ⟨⟨t0, t1, t2, t3, t4⟩, -⟩ := five_at (five_put hFr (.int .i64 0) (.int .i64 0) (.int .i64 0) (.int .i64 0) (.bool false))
      have hb6 : Below w.heap.size w (((((wr.setCell ⟨w.heap.size, 0, none⟩ (.int .i64 0)).setCell ⟨w.heap.size, 1, none⟩ (.int .i64 0)).setCell ⟨w.heap.size, 2, none⟩ (.int .i64 0)).setCell ⟨w.heap.size, 3, none⟩ (.int .i64 0)).setCell ⟨w.heap.size, 4, none⟩ (.bool false)) :=
        ((((HBw.out.setCell (Nat.le_refl _) _).setCell (Nat.le_refl _) _).setCell (Nat.le_refl _) _).setCell (Nat.le_refl _) _).setCell (Nat.le_refl _) _
      clear yf HH hFr
      go_wp2_with fail
      clear y0 y1 y2 y3 y4 yf0 yf1 yf2 yf3 yf4
      generalize (((((wr.setCell ⟨w.heap.size, 0, none⟩ (.int .i64 0)).setCell ⟨w.heap.size, 1, none⟩ (.int .i64 0)).setCell ⟨w.heap.size, 2, none⟩ (.int .i64 0)).setCell ⟨w.heap.size, 3, none⟩ (.int .i64 0)).setCell ⟨w.heap.size, 4, none⟩ (.bool false)) = w6 at *
      refine bodyPost_ret (v := .tuple #[.agg #[.int .i64 0, .int .i64 0, .int .i64 0, .int .i64 0, .bool false], .bool false]) (by simp [results, Tryz.results90, go_sem, t0, t1, t2, t3, t4]) rfl ?_
      rw [hlv.out]
      first | exact ⟨⟨⟨0, 0, 0, 0, false⟩, rfl, hvk.out⟩, hb6⟩ | exact ⟨⟨0, 0, 0, 0, false⟩, ⟨rfl, hvk.out⟩, hb6⟩
set_option maxRecDepth 100000 in
set_option maxHeartbeats 4000000 in
theorem cLearnF {w : World} {g m : Nat} {vs : Nat → Value} {l : Nat → List Ent} (h : StoreAt w g m vs l) (j : Nat) (hj : j < m) (hm : m ≤ 4) (v : Value) (b : List Ent) (hv : Has w 5 v b.length (ents b)) (hb : EightL b) :
    Calls Tryz.prog 73 #[.slice (some ⟨g, 0, none⟩) m m, .int .i64 j, v] w fun e w' => e = .returned (.tuple #[]) ∧ ∃ v', InF (fun b => w.heap.size ≤ b) v' ∧ StoreAt w' g m (updF vs j v') (updF l j (mergeL (l j) b)) ∧ w.grownBy w' (some g) := by
  have H := Lib.hid h
  obtain ⟨c0, f0⟩ := h.cell j hj
  have ha := h.ok j hj
  have hmg := ha.merge hb
  have CM := Lib.hid (cmerge (vs j) v (l j) b w (h.rows j hj).has hv ha.may hb.may ha.len hb.len hmg.len)
  have Hmg := Lib.hid hmg
  have hjz : (j : Int) < (m : Int) := by omega
  obtain ⟨_, aj, cj, hvj, _⟩ := (h.rows j hj).has
  rw [hvj] at c0 CM
  obtain ⟨_, av, cv, rfl, _⟩ := hv
  clear h ha hmg hb hvj
  go_enter Tryz.func73, Tryz.ntmps73
  go_wp2_with fail
  refine CM.out.mono ?_
  rintro e w1 ⟨v1, rfl, hown, hb1⟩
  obtain ⟨a1, c1, rfl⟩ := owns_slice hown
  have hT := HasT.of_owns hown
  have hIn := Lib.hid (InF.of_owns (F := fun b => w.heap.size ≤ b) hown fun b hb => hb)
  have hfin := H.out.put (j := j) hb1 hT Hmg.out
  have Hfin := Lib.hid hfin
  obtain ⟨k0, kf⟩ := (H.out.on hb1).cell j hj
  obtain ⟨_, aj', cj', hvj, _⟩ := (H.out.rows j hj).has
  clear hown hT hfin CM c0 f0 hb1
  go_wp2_with fail
  go_end0
  exact ⟨rfl, _, hIn.out, Hfin.out⟩
set_option maxRecDepth 100000 in
set_option maxHeartbeats 4000000 in
theorem cPutF {w : World} {g m : Nat} {vs : Nat → Value} {l : Nat → List Ent} (h : StoreAt w g m vs l) (j : Nat) (hj : j < m) (hm : m ≤ 4) (who key value : Int) (gone : Bool) (hok : Ent.Ok ⟨key, value, maxT (l j) + 1, who, gone⟩) (hk : 0 ≤ key ∧ key < 8) :
    Calls Tryz.prog 89 #[.slice (some ⟨g, 0, none⟩) m m, .int .i64 j, .int .i64 who, .int .i64 key, .int .i64 value, .bool gone] w fun e w' => e = .returned (.tuple #[]) ∧ ∃ v', InF (fun b => w.heap.size ≤ b) v' ∧ StoreAt w' g m (updF vs j v') (updF l j (mergeL (l j) [⟨key, value, maxT (l j) + 1, who, gone⟩])) ∧ w.grownBy w' (some g) := by
  have H := Lib.hid h
  have CN := Lib.hid (cNext h j hj hm)
  have h8 := Lib.hid (EightL.one hok hk)
  generalize maxT (l j) + 1 = t at *
  clear h hok
  go_enter Tryz.func89, Tryz.ntmps89
  go_wp2_with fail
  refine CN.out.mono ?_
  rintro e w1 ⟨rfl, hb1⟩
  have Hb1 := Lib.hid hb1
  have hb2 := ent_box (w := w1) ⟨key, value, t, who, gone⟩
  have hb3 := ent_box (w := w1.alloc (.cells #[.int .i64 key, .int .i64 value, .int .i64 t, .int .i64 who, .bool gone] 77)) ⟨key, value, t, who, gone⟩
  simp only at hb2 hb3
  obtain ⟨⟨z0, z1, z2, z3, z4⟩, -⟩ := five_at (heap_alloc_new w1 (.cells #[.int .i64 key, .int .i64 value, .int .i64 t, .int .i64 who, .bool gone] 77))
  have hnew := heap_alloc_new (w1.alloc (.cells #[.int .i64 key, .int .i64 value, .int .i64 t, .int .i64 who, .bool gone] 77)) (.cells #[.int .i64 key, .int .i64 value, .int .i64 t, .int .i64 who, .bool gone] 77)
  have hB : Below w.heap.size w ((w1.alloc (.cells #[.int .i64 key, .int .i64 value, .int .i64 t, .int .i64 who, .bool gone] 77)).alloc (.cells #[.int .i64 key, .int .i64 value, .int .i64 t, .int .i64 who, .bool gone] 77)) :=
    (hb1.trans (hb2.mono hb1.size)).trans (hb3.mono (hb1.trans (hb2.mono hb1.size)).size)
  have CL := Lib.hid (cLearnF (H.out.on hB) j hj hm (.slice (some ⟨(w1.alloc (.cells #[.int .i64 key, .int .i64 value, .int .i64 t, .int .i64 who, .bool gone] 77)).heap.size, 0, none⟩) 1 1) [⟨key, value, t, who, gone⟩] (has_block (wp := w1.alloc (.cells #[.int .i64 key, .int .i64 value, .int .i64 t, .int .i64 who, .bool gone] 77)) (cs := ents [⟨key, value, t, who, gone⟩]) hnew rfl rfl (by decide)) h8.out)
  have HB := Lib.hid hB
  clear hb1 hb2 hb3 hnew hB CN
  go_wp2_with fail
  have es : (w1.alloc (.cells #[.int .i64 key, .int .i64 value, .int .i64 t, .int .i64 who, .bool gone] 77)).heap.size = w1.heap.size + 1 := by simp
  rw [es] at CL
  refine CL.out.mono ?_
  rintro e w2 ⟨rfl, v', hin, hs, hg⟩
  have hIn : Hid (InF (fun b => w.heap.size ≤ b) v') := hin.mono fun b hb => Nat.le_trans HB.out.size hb
  have hfin : StoreAt w2 g m (updF vs j v') (updF l j (mergeL (l j) [⟨key, value, t, who, gone⟩])) ∧ w.grownBy w2 (some g) := by
    refine ⟨hs, ⟨hg.os.trans HB.out.os, hg.tape.trans HB.out.tape, hg.output.trans HB.out.output, Nat.le_trans HB.out.size hg.size, fun k hk hne => ?_⟩⟩
    rw [hg.block k (Nat.lt_of_lt_of_le hk HB.out.size) hne]; exact HB.out.block k hk
  have Hfin := Lib.hid hfin
  clear hs hg hfin CL hin
  go_wp2_with fail
  go_end0
  exact ⟨rfl, _, hIn.out, Hfin.out⟩
end Go.Proofs.YtjdedflfdlhkdaaGreatDoor

namespace Go.Proofs.YtjdedflfdlhkdaaGreatDoor
open Go.ChangeShapes Go.WideShapes Go.ChangeAt Go.RowKit
set_option linter.unusedVariables false

def flds (fs : List (Int × Int)) : List Value := fs.flatMap fun p => [.int .i64 p.1, .int .i64 p.2]
@[simp] theorem flds_length (fs : List (Int × Int)) : (flds fs).length = fs.length * 2 := by induction fs <;> simp_all [flds]; omega
theorem flds_snoc (fs : List (Int × Int)) (p : Int × Int) : flds fs ++ [.int .i64 p.1, .int .i64 p.2] = flds (fs ++ [p]) := by simp [flds]
theorem elField : Elem Tryz.prog 158 2 16 (.agg #[.int .i64 0, .int .i64 0]) := .of (by kernel_rfl) rfl (by decide)
end Go.Proofs.YtjdedflfdlhkdaaGreatDoor

namespace Go.Proofs.YtjdedflfdlhkdaaGreatDoor
open Go.ChangeShapes Go.WideShapes Go.ChangeAt Go.RowKit
set_option linter.unusedVariables false

/-- 'Size'. -/
def wsum (ws : List Int) : Int := ws.sum
theorem wsum_take (ws : List Int) (k : Nat) (h : k < ws.length) : wsum (ws.take (k + 1)) = wsum (ws.take k) + ws[k] := by
  rw [take_snoc _ _ h, wsum, wsum, List.sum_append, List.sum_cons, List.sum_nil]; omega
theorem wsum_bd (ws : List Int) (hw : ∀ x ∈ ws, 1 ≤ x ∧ x ≤ 60) : 0 ≤ wsum ws ∧ wsum ws ≤ 60 * ws.length ∧ ws.length ≤ wsum ws := by
  induction ws with
  | nil => simp [wsum]
  | cons a l ih =>
    have h1 := hw a (by simp)
    have h2 := ih (fun x hx => hw x (by simp [hx]))
    simp only [wsum, List.sum_cons, List.length_cons] at *
    omega
set_option maxRecDepth 100000 in
set_option maxHeartbeats 1000000 in
theorem csize (v : Value) (ws : List Int) (w : World) (h : Has w 1 v ws.length (ints ws)) (hw : ∀ x ∈ ws, 1 ≤ x ∧ x ≤ 60) (hlen : ws.length ≤ 40) :
    Calls Tryz.prog 96 #[v] w fun e w' => e = .returned (.tuple #[.int .i64 ((wsum ws + 7) / 8), .int .i64 0]) ∧ w = w' := by
  obtain ⟨hl, a, cap, rfl, hn, hm, hc⟩ := h
  unfold maxLen at hm
  have HW := Lib.hid hw
  have HB := Lib.hid (wsum_bd ws hw)
  clear hw
  go_enter Tryz.func96, Tryz.ntmps96
  go_wp2_with fail
  go_loop [4, 6, 12] (fun n x i => ∃ k : Nat, k ≤ ws.length ∧ i = .int .i64 k ∧ n = .int .i64 (wsum (ws.take k))) (fun _ _ i => ws.length - (intOf i).toNat)
  case atStart => exact ⟨0, by omega, rfl, rfl⟩
  case round =>
    obtain ⟨k, hk, rfl, rfl⟩ := hrel
    by_cases h1 : k < ws.length
    · obtain ⟨b, off, rfl, hcc⟩ := hc (by simp; omega)
      have hcell := hcc k _ (ints_get ws k h1)
      have hbl := World.block_lt_of_cell? w _ hcell
      obtain ⟨hx1, hx2⟩ := HW.out _ (List.getElem_mem h1)
      have Hs := Lib.hid (wsum_take ws k h1)
      obtain ⟨hb1, hb2, hb3⟩ := wsum_bd (ws.take k) (fun x hx => HW.out x (List.mem_of_mem_take hx))
      have hb4 : wsum (ws.take k) ≤ 2400 := by rw [List.length_take] at hb2; omega
      clear hb2 hb3 hcc hc
      go_wp2_with fail
      go_round
      case rel => exact ⟨k + 1, by omega, by go_num, by rw [Hs.out]⟩
      case measure => simp [intOf]; omega
    · obtain rfl : k = ws.length := by omega
      obtain ⟨hb1, hb2, hb3⟩ := HB.out
      have ht := List.take_length (l := ws)
      have hb4 : wsum ws ≤ 2400 := by omega
      clear hc hb2 hb3
      go_wp2
      go_ret2
      exact ⟨rfl, rfl⟩
end Go.Proofs.YtjdedflfdlhkdaaGreatDoor

namespace Go.Proofs.YtjdedflfdlhkdaaGreatDoor
open Go.ChangeShapes Go.WideShapes Go.ChangeAt Go.RowKit
set_option linter.unusedVariables false

/-- A strip in memory: its block S, its bytes in block g (n of them), the bits that were put. -/
structure Strip (w : World) (S g n : Nat) (bs : List Nat) : Prop where
  c0 : w.cell? ⟨S, 0, none⟩ = some (.slice (some ⟨g, 0, none⟩) n n)
  c1 : w.cell? ⟨S, 1, none⟩ = some (.int .i64 bs.length)
  f0 : w.frozen? ⟨S, 0, none⟩ = false
  f1 : w.frozen? ⟨S, 1, none⟩ = false
  ne : S ≠ g
  row : w.heap[g]? = some (.cells ((List.range n).map fun j => Value.int .u8 (byteOf bs j)).toArray 5 (0, 0))
  bits : Bits bs
theorem Strip.cell {w : World} {S g n : Nat} {bs : List Nat} (h : Strip w S g n bs) (j : Nat) (hj : j < n) : w.cell? ⟨g, j, none⟩ = some (.int .u8 (byteOf bs j)) := by
  rw [cell_of_row w g j _ _ _ h.row]; simp [hj]
set_option maxRecDepth 100000 in
set_option maxHeartbeats 1000000 in
theorem cput (S g n : Nat) (bs : List Nat) (b : Nat) (w : World) (h : Strip w S g n bs) (hb : b ≤ 1) (hn : bs.length < 8 * n) (hn' : n ≤ 1000000) :
    Calls Tryz.prog 97 #[.pointer (some ⟨S, 0, none⟩), .int .i64 b] w fun e w' => e = .returned (.tuple #[]) ∧ ∃ m, w' = (((w.setCell ⟨g, bs.length / 8, none⟩ (.int .u8 (byteOf (bs ++ [b]) (bs.length / 8))))).setCell ⟨S, 1, none⟩ (.int .i64 (bs.length + 1))).drewN m := by
  have hc0 := h.c0
  have hc1 := h.c1
  have hf1 := h.f1
  have hcell := h.cell (bs.length / 8) (by omega)
  have hne := h.ne
  have hfg : w.frozen? ⟨g, bs.length / 8, none⟩ = false := by simp [World.frozen?, h.row]
  have HH := Lib.hid (byteOf_here bs b h.bits hb)
  have hlt := byteOf_lt bs h.bits (bs.length / 8)
  generalize hL : bs.length = L at *
  generalize byteOf bs (L / 8) = B at *
  generalize byteOf (bs ++ [b]) (L / 8) = B2 at *
  obtain ⟨q, r, hq, hr, e1, e2⟩ : ∃ q r : Nat, q = L / 8 ∧ r = L % 8 ∧ r < 8 ∧ q < n := ⟨L / 8, L % 8, rfl, rfl, by omega, by omega⟩
  rw [← hr] at HH
  rw [← hq] at hcell hfg ⊢
  have hB2 : B2 < 256 := by
    rw [← HH.out]
    refine Nat.or_lt_two_pow (n := 8) hlt ?_
    rw [Nat.shiftLeft_eq]
    have := Nat.pow_le_pow_right (n := 2) (by decide) (show 7 - r ≤ 7 by omega)
    have : b * 2 ^ (7 - r) ≤ 1 * 2 ^ (7 - r) := Nat.mul_le_mul_right _ hb
    omega
  obtain ⟨sh, hs⟩ : ∃ sh, b <<< (7 - r) = sh := ⟨_, rfl⟩
  have hsh : (b : Int) * 2 ^ (7 - r) = (sh : Int) := by rw [← hs, Nat.shiftLeft_eq]; simp
  have hshl : sh < 256 := by
    rw [← hs, Nat.shiftLeft_eq]
    have := Nat.pow_le_pow_right (n := 2) (by decide) (show 7 - r ≤ 7 by omega)
    have : b * 2 ^ (7 - r) ≤ 1 * 2 ^ (7 - r) := Nat.mul_le_mul_right _ hb
    omega
  rw [hs] at HH
  have hor := u8_or_nat B sh hlt hshl
  rw [HH.out] at hor
  have w1 : IntKind.i64.wrap (↑L / 8) = ↑q := by rw [IntWalk.i64_in _ (by omega)]; omega
  have w2' : (L : Int).tmod 8 = ↑r := by rw [Int.tmod_eq_emod_of_nonneg (by omega)]; omega
  have w3 : IntKind.i64.wrap (7 - ↑r) = ((7 - r : Nat) : Int) := by rw [IntWalk.i64_in _ (by omega)]; omega
  have w4 : IntKind.i64.wrap ((b : Int) * 2 ^ (7 - r)) = (sh : Int) := by rw [hsh, IntWalk.i64_in _ (by omega)]
  have w5 : IntKind.u8.wrap (sh : Int) = (sh : Int) := IntWalk.u8_in _ (by omega)
  have w6 : min (7 - r) 64 = 7 - r := by omega
  clear hsh hq hr hs
  go_enter Tryz.func97, Tryz.ntmps97
  go_wp2
  refine wp_still_tail 22 (by kernel_rfl) (by kernel_rfl) ?_
  simp only [List.take_succ_cons, List.take_zero, List.drop_succ_cons, List.drop_zero]
  repeat still_step
  refine wpStill_nil ?_
  clear w1 w2' w3 w4 w5 w6 hor HH
  go_wp2
  go_end0
  exact ⟨rfl, 1, rfl⟩
/-- .. and what that means: one bit more stands in the strip, and nothing else has changed. -/
theorem cput' (S g n : Nat) (bs : List Nat) (b : Nat) (w : World) (h : Strip w S g n bs) (hb : b ≤ 1) (hn : bs.length < 8 * n) (hn' : n ≤ 1000000) :
    Calls Tryz.prog 97 #[.pointer (some ⟨S, 0, none⟩), .int .i64 b] w fun e w' => e = .returned (.tuple #[]) ∧ Strip w' S g n (bs ++ [b]) ∧ Wrote (fun k => k = S ∨ k = g) w w' := by
  refine (cput S g n bs b w h hb hn hn').mono ?_
  rintro e w' ⟨rfl, m, rfl⟩
  refine ⟨rfl, ?_, (((Wrote.refl _ _).setCell (Or.inr rfl) _).setCell (Or.inl rfl) _).drewN _⟩
  have hne := h.ne
  have h0 := h.c0
  have h1 := h.c1
  have hrow := h.row
  have h1' : ((w.setCell ⟨g, bs.length / 8, none⟩ (.int .u8 (byteOf (bs ++ [b]) (bs.length / 8)))).cell? ⟨S, 1, none⟩) = some (.int .i64 bs.length) := by
    rw [World.cell?_setCell_other _ _ _ _ (by simp)]; exact h1
  refine ⟨?_, ?_, ?_, ?_, hne, ?_, h.bits.snoc hb⟩
  · rw [World.cell?_drewN, World.cell?_setCell_other _ _ _ _ (by simp), World.cell?_setCell_other _ _ _ _ (by simp)]; exact h0
  · rw [World.cell?_drewN, World.cell?_setCell_same _ _ _ h1']; simp
  · rw [World.frozen?_drewN, World.frozen?_setCell, World.frozen?_setCell]; exact h.f0
  · rw [World.frozen?_drewN, World.frozen?_setCell, World.frozen?_setCell]; exact h.f1
  · rw [World.heap_drewN, heap_setCell_other _ _ _ _ (Ne.symm hne), heap_setCell_same _ _ _ _ _ _ hrow]
    congr 2
    apply Array.ext
    · simp
    · intro j hj1 hj2
      by_cases e : bs.length / 8 = j
      · subst e; simp
      · rw [Array.getElem_setIfInBounds_ne (by simpa using hj2) e]
        simp [byteOf_other _ _ _ (Ne.symm e)]
end Go.Proofs.YtjdedflfdlhkdaaGreatDoor
