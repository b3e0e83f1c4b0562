/- Package seal: move, Play. -/
import Derived.Test.YtgidichmphniaaaSealL
namespace Go.Proofs.Ytgidichmphniaaa
open Go.ChangeShapes Go.WideShapes Go.ChangeAt Go.RowKit
set_option linter.unusedVariables false
set_option linter.unusedSimpArgs false

structure MV where
  kind : Int
  f : Int
  t : Int
  id : Int
  v : Value
def MV.cells (x : MV) : List Value := [.int .i64 x.kind, .int .i64 x.f, .int .i64 x.t, .int .i64 x.id, x.v]
theorem MV.cells_length (x : MV) : x.cells.length = 5 := rfl
def mvs (l : List MV) : List Value := l.flatMap MV.cells
structure MvAt (w : World) (x : MV) (y : Mv) : Prop where
  kind : x.kind = y.kind
  f : x.f = y.f
  t : x.t = y.t
  id : x.id = y.id
  d : HasT w 5 1 x.v y.d.length (u8s y.d)
structure OV where
  code : Int
  id : Int
  size : Int
  v : Value
def OV.cells (x : OV) : List Value := [.int .i64 x.code, .int .i64 x.id, .int .i64 x.size, x.v]
theorem OV.cells_length (x : OV) : x.cells.length = 4 := rfl
def ovs (l : List OV) : List Value := l.flatMap OV.cells
structure OutAt (w : World) (x : OV) (y : Out) : Prop where
  code : x.code = y.code
  id : x.id = y.id
  size : x.size = y.size
  d : HasT w 5 1 x.v y.d.length (u8s y.d)
theorem cparty (x : Int) (h0 : 0 ≤ x) (h1 : x ≤ 8) (w : World) : Calls Try.prog 14 #[.int .i64 x] w fun e w' => e = .returned (.bool true) ∧ w = w' := by
  have d1 : decide (x ≤ 8) = true := by simpa using h1
  go_enter Try.func14, Try.ntmps14
  go_wp2
  go_ret
  exact ⟨rfl, rfl⟩
theorem nilT (w : World) : HasT w 5 1 (.slice none 0 0) 0 (u8s []) :=
  ⟨⟨⟨rfl, fun n cap h => by simp only [Value.slice.injEq] at h; exact ⟨h.2.1.symm, h.2.2.symm⟩⟩, none, 0, rfl, Nat.le_refl _, Nat.zero_le _, fun h => by simp at h⟩, fun b off n' cap h => by simp at h⟩
theorem cells5 {W : World} {b : Nat} {a0 a1 a2 a3 a4 : Value} {e : TypeId} (h : W.heap[b]? = some (.cells #[a0, a1, a2, a3, a4] e (0, 0))) : (W.cell? ⟨b, 0, none⟩ = some a0 ∧ W.cell? ⟨b, 1, none⟩ = some a1) ∧ (W.cell? ⟨b, 2, none⟩ = some a2 ∧ W.cell? ⟨b, 3, none⟩ = some a3) ∧ W.cell? ⟨b, 4, none⟩ = some a4 :=
  ⟨⟨by rw [cell_of_row W _ _ _ _ _ h]; rfl, by rw [cell_of_row W _ _ _ _ _ h]; rfl⟩, ⟨by rw [cell_of_row W _ _ _ _ _ h]; rfl, by rw [cell_of_row W _ _ _ _ _ h]; rfl⟩, by rw [cell_of_row W _ _ _ _ _ h]; rfl⟩
theorem cells4 {W : World} {b : Nat} {a0 a1 a2 a3 : Value} {e : TypeId} (h : W.heap[b]? = some (.cells #[a0, a1, a2, a3] e (0, 0))) : ((W.cell? ⟨b, 0, none⟩ = some a0 ∧ W.cell? ⟨b, 1, none⟩ = some a1) ∧ (W.cell? ⟨b, 2, none⟩ = some a2 ∧ W.cell? ⟨b, 3, none⟩ = some a3)) ∧ ((W.frozen? ⟨b, 0, none⟩ = false ∧ W.frozen? ⟨b, 1, none⟩ = false) ∧ (W.frozen? ⟨b, 2, none⟩ = false ∧ W.frozen? ⟨b, 3, none⟩ = false)) :=
  ⟨⟨⟨by rw [cell_of_row W _ _ _ _ _ h]; rfl, by rw [cell_of_row W _ _ _ _ _ h]; rfl⟩, ⟨by rw [cell_of_row W _ _ _ _ _ h]; rfl, by rw [cell_of_row W _ _ _ _ _ h]; rfl⟩⟩, ⟨by simp [World.frozen?, h], by simp [World.frozen?, h]⟩, by simp [World.frozen?, h], by simp [World.frozen?, h]⟩
/-- What 'move' leaves. -/
def Moved (base S B N : Nat) (o : Off) (x : Mv) (w : World) (e : Ending) (w' : World) : Prop :=
  ∃ a c, e = .returned (.agg #[.int .i64 (o.out x).code, .int .i64 (o.out x).id, .int .i64 (o.out x).size, .slice a (o.out x).d.length c]) ∧ HasT w' 5 1 (.slice a (o.out x).d.length c) (o.out x).d.length (u8s (o.out x).d) ∧
    OffAt w' base S B (N + 1) (o.next x) ∧ Below base w w' ∧ Chc [52, 59] w w'
/-- The head of a call of move: the letter's box, and the result's place. -/
theorem move_head (w : World) (a0 a1 a2 a3 a4 : Value) :
    ((w.alloc (.cells #[a0, a1, a2, a3, a4] 32)).alloc (.cells #[.int .i64 0, .int .i64 0, .int .i64 0, .slice none 0 0] 35)).heap[w.heap.size]? = some (.cells #[a0, a1, a2, a3, a4] 32 (0, 0)) ∧
    ((w.alloc (.cells #[a0, a1, a2, a3, a4] 32)).alloc (.cells #[.int .i64 0, .int .i64 0, .int .i64 0, .slice none 0 0] 35)).heap[w.heap.size + 1]? = some (.cells #[.int .i64 0, .int .i64 0, .int .i64 0, .slice none 0 0] 35 (0, 0)) ∧
    Below w.heap.size w ((w.alloc (.cells #[a0, a1, a2, a3, a4] 32)).alloc (.cells #[.int .i64 0, .int .i64 0, .int .i64 0, .slice none 0 0] 35)) := by
  refine ⟨?_, ?_, (by repeat (first | exact Below.refl _ _ | refine Below.drew ?_ | refine Below.alloc ?_ (by first | (simp; done) | (simp; omega)) _ | refine Below.setCell ?_ (by first | (simp; done) | (simp; omega)) _))⟩
  · rw [((Below.refl _ _).alloc (Nat.le_refl _) _).block _ (by simp)]; exact heap_alloc_new _ _
  · have := heap_alloc_new (w.alloc (.cells #[a0, a1, a2, a3, a4] 32)) (.cells #[.int .i64 0, .int .i64 0, .int .i64 0, .slice none 0 0] 35)
    simpa using this
/-- The result is written. -/
theorem move_done {base S B N : Nat} {o : Off} {x : Mv} {w W : World} {R : Nat} {a : Option Addr} {c : Nat} {cs : Array Value} (hR : W.heap[R]? = some (.cells cs 35 (0, 0))) (hw : w.heap.size ≤ R) (hbase : base ≤ w.heap.size)
    (hd : HasT W 5 1 (.slice a (o.out x).d.length c) (o.out x).d.length (u8s (o.out x).d)) (hO : OffAt W base S B (N + 1) (o.next x)) (hb : Below base w W) (hc : Chc [52, 59] w W) (v0 v1 v2 v3 : Value) :
    HasT ((((W.setCell ⟨R, 0, none⟩ v0).setCell ⟨R, 1, none⟩ v1).setCell ⟨R, 2, none⟩ v2).setCell ⟨R, 3, none⟩ v3) 5 1 (.slice a (o.out x).d.length c) (o.out x).d.length (u8s (o.out x).d) ∧
    OffAt ((((W.setCell ⟨R, 0, none⟩ v0).setCell ⟨R, 1, none⟩ v1).setCell ⟨R, 2, none⟩ v2).setCell ⟨R, 3, none⟩ v3) base S B (N + 1) (o.next x) ∧
    Below base w ((((W.setCell ⟨R, 0, none⟩ v0).setCell ⟨R, 1, none⟩ v1).setCell ⟨R, 2, none⟩ v2).setCell ⟨R, 3, none⟩ v3) ∧
    Chc [52, 59] w ((((W.setCell ⟨R, 0, none⟩ v0).setCell ⟨R, 1, none⟩ v1).setCell ⟨R, 2, none⟩ v2).setCell ⟨R, 3, none⟩ v3) := by
  have h1 := heap_setCell_same W R 0 _ _ v0 hR
  have h2 := heap_setCell_same _ R 1 _ _ v1 h1
  have h3 := heap_setCell_same _ R 2 _ _ v2 h2
  have k : Chc [35] W ((((W.setCell ⟨R, 0, none⟩ v0).setCell ⟨R, 1, none⟩ v1).setCell ⟨R, 2, none⟩ v2).setCell ⟨R, 3, none⟩ v3) :=
    (((Chc.setCell (p := ⟨R, 0, none⟩) hR (by simp) v0).trans (Chc.setCell (p := ⟨R, 1, none⟩) h1 (by simp) v1)).trans (Chc.setCell (p := ⟨R, 2, none⟩) h2 (by simp) v2)).trans (Chc.setCell (p := ⟨R, 3, none⟩) h3 (by simp) v3)
  obtain ⟨v, lv, n, _, _, _, hW, _⟩ := hO.ex
  obtain ⟨es, cc, hm⟩ := hW.block
  have hBR : B ≠ R := by rintro rfl; rw [hR] at hm; cases hm
  have hbr : base ≤ R := Nat.le_trans hbase hw
  refine ⟨hd.chc k (by decide), hO.chc k (by rw [Below.heap_setCell _ _ _ _ hBR, Below.heap_setCell _ _ _ _ hBR, Below.heap_setCell _ _ _ _ hBR, Below.heap_setCell _ _ _ _ hBR]) (by decide) (by decide) (by decide), (((hb.setCell hbr _).setCell hbr _).setCell hbr _).setCell hbr _, ⟨Nat.le_trans hc.size k.size, fun j cs' e r hj he => ?_⟩⟩
  have hj2 := hc.block j cs' e r hj he
  have hne : j ≠ R := by
    have := (Array.getElem?_eq_some_iff.1 hj).1
    omega
  rw [Below.heap_setCell _ _ _ _ hne, Below.heap_setCell _ _ _ _ hne, Below.heap_setCell _ _ _ _ hne, Below.heap_setCell _ _ _ _ hne]
  exact hj2
theorem set4 {W : World} {R : Nat} {a0 a1 a2 a3 : Value} {e : TypeId} (hR : W.heap[R]? = some (.cells #[a0, a1, a2, a3] e (0, 0))) (v0 v1 v2 v3 : Value) : ((((W.setCell ⟨R, 0, none⟩ v0).setCell ⟨R, 1, none⟩ v1).setCell ⟨R, 2, none⟩ v2).setCell ⟨R, 3, none⟩ v3).heap[R]? = some (.cells #[v0, v1, v2, v3] e (0, 0)) := by
  have h1 := heap_setCell_same W R 0 _ _ v0 hR
  have h2 := heap_setCell_same _ R 1 _ _ v1 h1
  have h3 := heap_setCell_same _ R 2 _ _ v2 h2
  have h4 := heap_setCell_same _ R 3 _ _ v3 h3
  rw [h4]; rfl
theorem keep4 {W : World} {R K : Nat} {o : Obj} {cs : Array Value} {e : TypeId} (hK : W.heap[K]? = some o) (hR : W.heap[R]? = some (.cells cs e (0, 0))) (v0 v1 v2 v3 : Value) (hne : K ≠ R := by simp) : ((((W.setCell ⟨R, 0, none⟩ v0).setCell ⟨R, 1, none⟩ v1).setCell ⟨R, 2, none⟩ v2).setCell ⟨R, 3, none⟩ v3).heap[K]? = some o := by
  rw [Below.heap_setCell _ _ _ _ hne, Below.heap_setCell _ _ _ _ hne, Below.heap_setCell _ _ _ _ hne, Below.heap_setCell _ _ _ _ hne]; exact hK
theorem OffAt.base {w : World} {base S B N : Nat} {o : Off} (h : OffAt w base S B N o) : base ≤ w.heap.size := by
  obtain ⟨v, lv, n, h1, h2, h3, h4, h5⟩ := h.ex
  have := h.lo; have := h4.lt; omega
theorem OffAt.at_eq {o : Off} {id : Int} (h0 : ¬ (id < 0 ∨ (o.ls.length : Int) ≤ id)) : ∃ (i : Nat) (hi : i < o.ls.length), id = i ∧ o.at' id = o.ls[i] := by
  have hi : id.toNat < o.ls.length := by omega
  exact ⟨id.toNat, hi, by omega, by simp [Off.at', List.getD_eq_getElem?_getD, hi]⟩
set_option maxRecDepth 100000 in
set_option maxHeartbeats 4000000 in
theorem cMove {w : World} {base S B N : Nat} {o : Off} (h : OffAt w base S B N o) (x : Mv) (hx : x.Ok) (ad : Option Addr) (cd : Nat) (hd : HasT w 5 1 (.slice ad x.d.length cd) x.d.length (u8s x.d)) (hN : N ≤ 100000) :
    Calls Try.prog 13 #[.pointer (some ⟨S, 0, none⟩), .agg #[.int .i64 x.kind, .int .i64 x.f, .int .i64 x.t, .int .i64 x.id, .slice ad x.d.length cd]] w (Moved base S B N o x w) := by
  have H := Lib.hid h
  have HX := Lib.hid hx
  obtain ⟨hk, t0, t1, d1⟩ := hx
  obtain ⟨m1, m2, m3⟩ := move_head w (.int .i64 x.kind) (.int .i64 x.f) (.int .i64 x.t) (.int .i64 x.id) (.slice ad x.d.length cd)
  have hbase := h.base
  obtain ⟨r, hr⟩ := cells4 m2
  obtain ⟨⟨x0, x1⟩, ⟨x2, x3⟩, x4⟩ := cells5 m1
  have M1 := Lib.hid m1
  have M2 := Lib.hid m2
  have M3 := Lib.hid m3
  have Hd := Lib.hid hd
  clear h hd m1 m2
  obtain ⟨kd, f, t, id, d⟩ := x
  simp only at *
  rcases hk with ⟨rfl, f0, f1⟩ | rfl
  · have e1 : o.out ⟨1, f, t, id, d⟩ = ⟨0, o.ls.length, d.length, []⟩ := by unfold Off.out; simp
    have e2 : o.next ⟨1, f, t, id, d⟩ = ⟨o.ls ++ [⟨f, t, d⟩], o.op⟩ := by unfold Off.next Mv.ltr; simp
    have E1 := Lib.hid e1
    have E2 := Lib.hid e2
    have hlen := H.out.len
    have C : Hid (∀ X, Below w.heap.size w X → Calls Try.prog 16 #[.pointer (some ⟨S, 0, none⟩), .int .i64 f, .int .i64 t, .slice ad d.length cd] X fun e w' => e = .returned (.int .i64 o.ls.length) ∧ OffAt w' base S B (N + 1) ⟨o.ls ++ [⟨f, t, d⟩], o.op⟩ ∧ Below base X w' ∧ Chc [52, 59] X w') := fun X hX =>
      cPost (H.out.on hX) ⟨f, t, d⟩ ⟨⟨f0, f1⟩, ⟨t0, t1⟩, d1⟩ ad cd (Hd.out.below hX) (by omega)
    have K : Hid (∀ (X : World), X.heap[w.heap.size]? = some (.cells #[.int .i64 1, .int .i64 f, .int .i64 t, .int .i64 id, .slice ad d.length cd] 32 (0, 0)) → X.cell? ⟨w.heap.size, 1, none⟩ = some (.int .i64 f) ∧ X.cell? ⟨w.heap.size, 2, none⟩ = some (.int .i64 t) ∧ X.cell? ⟨w.heap.size, 4, none⟩ = some (.slice ad d.length cd)) := fun X hX => by
      obtain ⟨⟨x0, x1⟩, ⟨x2, x3⟩, x4⟩ := cells5 hX
      exact ⟨x1, x2, x4⟩
    clear e1 e2 r hr
    go_enter Try.func13, Try.ntmps13
    go_wp2_with (first | (go_at_call 14; refine (cparty _ t0 t1 _).mono ?_; rintro e w' ⟨rfl, rfl⟩) | (go_at_call 14; refine (cparty _ f0 f1 _).mono ?_; rintro e w' ⟨rfl, rfl⟩))
    generalize (w.alloc (.cells #[.int .i64 1, .int .i64 f, .int .i64 t, .int .i64 id, .slice ad d.length cd] 32)).alloc (.cells #[.int .i64 0, .int .i64 0, .int .i64 0, .slice none 0 0] 35) = W at *
    clear x0 x1 x2 x3 x4
    go_region_held3 (fun Z => Z.cell? ⟨w.heap.size, 1, none⟩ = some (.int .i64 f) ∧ Z.cell? ⟨w.heap.size, 2, none⟩ = some (.int .i64 t) ∧ Z.cell? ⟨w.heap.size, 4, none⟩ = some (.slice ad d.length cd))
      (first | exact K.out _ M1.out | exact K.out _ hK5 | exact K.out _ (keep4 hK5 hR5 _ _ _ _) | (go_keep; done))
      ((go_at_call 16; refine (C.out _ (Below.drew M3.out)).mono ?_; rintro e w5 ⟨rfl, hO5, hb5', hc5'⟩; have hb5 : Below base W w5 := (Below.drew (Below.refl _ _)).trans hb5'; have hc5 : Chc [52, 59] W w5 := (Chc.drew (Chc.refl _ _)).trans hc5'; have hK5 := hc5.block _ _ _ _ M1.out (by decide); have hR5 := hc5.block _ _ _ _ M2.out (by decide); obtain ⟨⟨⟨r0, r1⟩, r2, r3⟩, ⟨rf0, rf1⟩, rf2, rf3⟩ := cells4 hR5))
    all_goals
      have hb : Below base w w5 := (M3.out.mono hbase).trans hb5
      have hc : Chc [52, 59] w w5 := (Chc.of_below M3.out).trans hc5
      have hdone := move_done (o := o) (x := ⟨1, f, t, id, d⟩) (a := none) (c := 0) hR5 (Nat.le_succ _) hbase (by rw [E1.out]; exact nilT _) (by rw [E2.out]; exact hO5) hb hc (.int .i64 0) (.int .i64 o.ls.length) (.int .i64 d.length) (.slice none 0 0)
      have Hdone := Lib.hid hdone
      obtain ⟨z, hz⟩ := cells4 (set4 hR5 (.int .i64 0) (.int .i64 o.ls.length) (.int .i64 d.length) (.slice none 0 0))
      obtain ⟨⟨z0, z1⟩, z2, z3⟩ := z
      clear hdone hb hc hz
      go_wp2_with fail
      refine bodyPost_ret (v := .agg #[.int .i64 0, .int .i64 o.ls.length, .int .i64 d.length, .slice none 0 0]) (by simp [results, Try.results13, go_sem, z0, z1, z2, z3]) rfl ?_
      unfold Moved
      rw [E1.out] at Hdone ⊢
      exact ⟨none, 0, rfl, Hdone.out⟩
  · by_cases hnone : id < 0 ∨ (o.ls.length : Int) ≤ id
    · have C := Lib.hid (cOpenNone (H.out.on M3.out) t id hnone)
      have e1 : o.out ⟨2, f, t, id, d⟩ = ⟨6, 0, 0, []⟩ := by unfold Off.out; simp only; rw [if_neg (by omega), if_pos hnone]
      have e2 : o.next ⟨2, f, t, id, d⟩ = o := by unfold Off.next; simp only; rw [if_neg (by omega), if_pos hnone]
      have E1 := Lib.hid e1
      have E2 := Lib.hid e2
      clear e1 e2 hnone
      go_enter Try.func13, Try.ntmps13
      go_wp2_with (first | (go_at_call 14; refine (cparty _ t0 t1 _).mono ?_; rintro e w' ⟨rfl, rfl⟩) | (go_at_call 15; refine C.out.mono ?_; rintro e w' ⟨rfl, rfl⟩))
      refine bodyPost_ret (v := .agg #[.int .i64 6, .int .i64 0, .int .i64 0, .slice none 0 0]) (by simp [results, Try.results13, go_sem]) rfl ?_
      have hb : Below w.heap.size w ((w.alloc (.cells #[.int .i64 2, .int .i64 f, .int .i64 t, .int .i64 id, .slice ad d.length cd] 32)).alloc (.cells #[.int .i64 6, .int .i64 0, .int .i64 0, .slice none 0 0] 35)) := (by repeat (first | exact Below.refl _ _ | refine Below.drew ?_ | refine Below.alloc ?_ (by first | (simp; done) | (simp; omega)) _ | refine Below.setCell ?_ (by first | (simp; done) | (simp; omega)) _))
      unfold Moved
      rw [E1.out, E2.out]
      exact ⟨none, 0, rfl, nilT _, (H.out.on hb).mono (Nat.le_succ _), hb.mono hbase, Chc.of_below hb⟩
    · obtain ⟨i, hi, rfl, hat⟩ := OffAt.at_eq hnone
      by_cases hne : o.ls[i].t ≠ t
      · have C := Lib.hid (cOpenDenied (H.out.on M3.out) t i hi hne)
        have e1 : o.out ⟨2, f, t, i, d⟩ = ⟨11, 0, 0, []⟩ := by unfold Off.out; simp only; rw [if_neg (by omega), if_neg hnone, hat, if_pos hne]
        have e2 : o.next ⟨2, f, t, i, d⟩ = o := by unfold Off.next; simp only; rw [if_neg (by omega), if_neg hnone, hat, if_pos hne]
        have E1 := Lib.hid e1
        have E2 := Lib.hid e2
        clear e1 e2 hnone hat hne
        go_enter Try.func13, Try.ntmps13
        go_wp2_with (first | (go_at_call 14; refine (cparty _ t0 t1 _).mono ?_; rintro e w' ⟨rfl, rfl⟩) | (go_at_call 15; refine C.out.mono ?_; rintro e w' ⟨rfl, rfl⟩))
        refine bodyPost_ret (v := .agg #[.int .i64 11, .int .i64 0, .int .i64 0, .slice none 0 0]) (by simp [results, Try.results13, go_sem]) rfl ?_
        have hb : Below w.heap.size w ((w.alloc (.cells #[.int .i64 2, .int .i64 f, .int .i64 t, .int .i64 i, .slice ad d.length cd] 32)).alloc (.cells #[.int .i64 11, .int .i64 0, .int .i64 0, .slice none 0 0] 35)) := (by repeat (first | exact Below.refl _ _ | refine Below.drew ?_ | refine Below.alloc ?_ (by first | (simp; done) | (simp; omega)) _ | refine Below.setCell ?_ (by first | (simp; done) | (simp; omega)) _))
        unfold Moved
        rw [E1.out, E2.out]
        exact ⟨none, 0, rfl, nilT _, (H.out.on hb).mono (Nat.le_succ _), hb.mono hbase, Chc.of_below hb⟩
      · obtain rfl : o.ls[i].t = t := by simpa using hne
        by_cases hold : (i : Int) < o.op o.ls[i].f o.ls[i].t
        · have C := Lib.hid (cOpenOld (H.out.on M3.out) i hi hold)
          have e1 : o.out ⟨2, f, o.ls[i].t, i, d⟩ = ⟨10, 0, 0, []⟩ := by unfold Off.out; simp only; rw [if_neg (by omega), if_neg hnone, hat, if_neg (by simp), if_pos hold]
          have e2 : o.next ⟨2, f, o.ls[i].t, i, d⟩ = o := by unfold Off.next; simp only; rw [if_neg (by omega), if_neg hnone, hat, if_neg (by simp), if_pos hold]
          have E1 := Lib.hid e1
          have E2 := Lib.hid e2
          generalize o.ls[i].t = t at *
          clear e1 e2 hnone hat hne hold
          go_enter Try.func13, Try.ntmps13
          go_wp2_with (first | (go_at_call 14; refine (cparty _ t0 t1 _).mono ?_; rintro e w' ⟨rfl, rfl⟩))
          refine C.out.mono ?_
          rintro e w5 ⟨rfl, hb5⟩
          have hR5 : w5.heap[w.heap.size + 1]? = some (.cells #[.int .i64 0, .int .i64 0, .int .i64 0, .slice none 0 0] 35 (0, 0)) := by rw [hb5.block _ (Array.getElem?_eq_some_iff.1 M2.out).1]; exact M2.out
          obtain ⟨⟨⟨r0, r1⟩, r2, r3⟩, ⟨rf0, rf1⟩, rf2, rf3⟩ := cells4 hR5
          have hb : Below w.heap.size w w5 := M3.out.trans (hb5.mono M3.out.size)
          have hdone := move_done (o := o) (x := ⟨2, f, t, i, d⟩) (a := none) (c := 0) hR5 (Nat.le_succ _) hbase (by rw [E1.out]; exact nilT _) (by rw [E2.out]; exact (H.out.on hb).mono (Nat.le_succ _)) (hb.mono hbase) (Chc.of_below hb) (.int .i64 10) (.int .i64 0) (.int .i64 0) (.slice none 0 0)
          have Hdone := Lib.hid hdone
          obtain ⟨⟨⟨z0, z1⟩, z2, z3⟩, -⟩ := cells4 (set4 hR5 (.int .i64 10) (.int .i64 0) (.int .i64 0) (.slice none 0 0))
          clear hdone hb hb5 C x0 x1 x2 x3 x4 r hr
          go_wp2_with fail
          refine bodyPost_ret (v := .agg #[.int .i64 10, .int .i64 0, .int .i64 0, .slice none 0 0]) (by simp [results, Try.results13, go_sem, z0, z1, z2, z3]) rfl ?_
          unfold Moved
          rw [E1.out] at Hdone ⊢
          exact ⟨none, 0, rfl, Hdone.out⟩
        · have C := Lib.hid (cOpenOk (H.out.on M3.out) i hi (by omega) (by omega))
          have e1 : o.out ⟨2, f, o.ls[i].t, i, d⟩ = ⟨0, i, o.ls[i].d.length, o.ls[i].d⟩ := by unfold Off.out; simp only; rw [if_neg (by omega), if_neg hnone, hat, if_neg (by simp), if_neg hold]
          have e2 : o.next ⟨2, f, o.ls[i].t, i, d⟩ = ⟨o.ls, updW o.op o.ls[i].f o.ls[i].t (i + 1)⟩ := by unfold Off.next; simp only; rw [if_neg (by omega), if_neg hnone, hat, if_neg (by simp), if_neg hold]
          have E1 := Lib.hid e1
          have E2 := Lib.hid e2
          generalize o.ls[i].t = t at *
          generalize o.ls[i].d = dd at *
          clear e1 e2 hnone hat hne hold
          go_enter Try.func13, Try.ntmps13
          go_wp2_with (first | (go_at_call 14; refine (cparty _ t0 t1 _).mono ?_; rintro e w' ⟨rfl, rfl⟩))
          refine C.out.mono ?_
          rintro e w5 ⟨a5, c5, rfl, hT5, hO5, hb5, hc5⟩
          have hR5 := hc5.block _ _ _ _ M2.out (by simp)
          have hK5 := hc5.block _ _ _ _ M1.out (by simp)
          obtain ⟨⟨⟨r0, r1⟩, r2, r3⟩, ⟨rf0, rf1⟩, rf2, rf3⟩ := cells4 hR5
          obtain ⟨⟨k0, k1⟩, ⟨k2, k3⟩, k4⟩ := cells5 hK5
          have hb : Below base w w5 := (M3.out.mono hbase).trans hb5
          have hc : Chc [52, 59] w w5 := (Chc.of_below M3.out).trans (hc5.mono (by simp))
          have hdone := move_done (o := o) (x := ⟨2, f, t, i, d⟩) (a := a5) (c := c5) hR5 (Nat.le_succ _) hbase (by rw [E1.out]; exact hT5) (by rw [E2.out]; exact hO5) hb hc (.int .i64 0) (.int .i64 i) (.int .i64 dd.length) (.slice a5 dd.length c5)
          have Hdone := Lib.hid hdone
          obtain ⟨⟨⟨z0, z1⟩, z2, z3⟩, -⟩ := cells4 (set4 hR5 (.int .i64 0) (.int .i64 i) (.int .i64 dd.length) (.slice a5 dd.length c5))
          clear hdone hb hc hb5 hc5 hT5 hO5 hK5 C x0 x1 x2 x3 x4 r hr
          go_wp2_with fail
          refine bodyPost_ret (v := .agg #[.int .i64 0, .int .i64 i, .int .i64 dd.length, .slice a5 dd.length c5]) (by simp [results, Try.results13, go_sem, z0, z1, z2, z3]) rfl ?_
          unfold Moved
          rw [E1.out] at Hdone ⊢
          exact ⟨a5, c5, rfl, Hdone.out⟩
end Go.Proofs.Ytgidichmphniaaa
