/- Package gossip: a turn. -/
import Derived.Test.YtngedkfljpkoiaaGosF
import Derived.BigQuiet
namespace Go.Proofs.Ytngedkfljpkoiaa
open Go.ChangeShapes Go.WideShapes Go.ChangeAt Go.RowKit
set_option linter.unusedVariables false
set_option linter.unusedSimpArgs false

structure Trn where
  kind : Nat
  who : Nat
  dest : Nat
  label : Nat
  key : Nat
  value : Nat
structure Trn.Ok (t : Trn) (m : Nat) : Prop where
  kind : 1 ≤ t.kind ∧ t.kind ≤ 3
  who : t.who < 4
  dest : t.dest < 4
  label : t.label < m
  key : t.key < 8
  value : t.value ≤ 255
def Trn.cells (t : Trn) : List Value := [.int .i64 t.kind, .int .i64 t.who, .int .i64 t.dest, .int .i64 t.label, .int .i64 t.key, .int .i64 t.value]
/-- What is written. -/
def putE (st : Nat → Nat → List Ent) (t : Trn) (gone : Bool) : Ent := ⟨t.key, if gone then 0 else t.value, maxT (st t.who t.label) + 1, t.who, gone⟩
def putSt (st : Nat → Nat → List Ent) (t : Trn) (gone : Bool) : Nat → Nat → List Ent := updF st t.who (updF (st t.who) t.label (mergeL (st t.who t.label) [putE st t gone]))
def turnOf (labs : List Nat) (st : Nat → Nat → List Ent) (t : Trn) : Int × (Nat → Nat → List Ent) :=
  if t.kind = 3 then (0, tellN labs t.who t.dest st labs.length)
  else if inL (labs.getD t.label 0) t.who = true then
    (if t.kind = 1 then (0, putSt st t false)
     else if liveK (st t.who t.label) t.key = true then (0, putSt st t true) else (6, st))
  else (11, st)
theorem six_at {W : World} {b : Nat} {a0 a1 a2 a3 a4 a5 : Value} {e : TypeId} (h : W.heap[b]? = some (.cells #[a0, a1, a2, a3, a4, a5] e (0, 0))) : W.cell? ⟨b, 0, none⟩ = some a0 ∧ W.cell? ⟨b, 1, none⟩ = some a1 ∧ W.cell? ⟨b, 2, none⟩ = some a2 ∧ W.cell? ⟨b, 3, none⟩ = some a3 ∧ W.cell? ⟨b, 4, none⟩ = some a4 ∧ W.cell? ⟨b, 5, none⟩ = some a5 :=
  ⟨by rw [cell_of_row W _ _ _ _ _ h]; rfl, by rw [cell_of_row W _ _ _ _ _ h]; rfl, by rw [cell_of_row W _ _ _ _ _ h]; rfl, by rw [cell_of_row W _ _ _ _ _ h]; rfl, by rw [cell_of_row W _ _ _ _ _ h]; rfl, by rw [cell_of_row W _ _ _ _ _ h]; rfl⟩
/-- What a turn leaves. -/
structure Turned (w w' : World) (base H : Nat) (hs : Hs) (labs : List Nat) (st : Nat → Nat → List Ent) : Prop where
  at' : ∃ vs', HouseAt w' base H hs labs vs' st
  hb : Below base w w'
  hc : Chc [33] w w'
theorem Turned.from {w W w' : World} {base H : Nat} {hs : Hs} {labs : List Nat} {st : Nat → Nat → List Ent} (hb : Below w.heap.size w W) (hbs : base ≤ w.heap.size) (h : Turned W w' base H hs labs st) : Turned w w' base H hs labs st :=
  ⟨h.at', (hb.mono hbs).trans h.hb, (Chc.of_below hb).trans h.hc⟩
theorem Turned.on {w w' w'' : World} {base H : Nat} {hs : Hs} {labs : List Nat} {st : Nat → Nat → List Ent} (h : Turned w w' base H hs labs st) (hbs : base ≤ w.heap.size) (hb : Below w'.heap.size w' w'') : Turned w w'' base H hs labs st := by
  obtain ⟨vs, ha⟩ := h.at'
  exact ⟨⟨vs, ha.on hb⟩, h.hb.trans (hb.mono (Nat.le_trans hbs h.hc.size)), h.hc.trans (Chc.of_below hb)⟩
theorem turn_box (w : World) (t : Trn) : Below w.heap.size w (w.alloc (.cells #[.int .i64 t.kind, .int .i64 t.who, .int .i64 t.dest, .int .i64 t.label, .int .i64 t.key, .int .i64 t.value] 38)) := (Below.refl _ _).alloc (Nat.le_refl _) _
set_option maxRecDepth 100000 in
set_option maxHeartbeats 4000000 in
theorem cTurn3 {w : World} {base H : Nat} {hs : Hs} {labs : List Nat} {vs : Nat → Nat → Value} {st : Nat → Nat → List Ent} (h : HouseAt w base H hs labs vs st) (hbs : base ≤ w.heap.size) (t : Trn) (ht : t.Ok labs.length) (hk : t.kind = 3) :
    Calls Try.prog 41 #[.pointer (some ⟨H, 0, none⟩), .agg #[.int .i64 t.kind, .int .i64 t.who, .int .i64 t.dest, .int .i64 t.label, .int .i64 t.key, .int .i64 t.value]] w fun e w' => e = .returned (.int .i64 (turnOf labs st t).1) ∧ Turned w w' base H hs labs (turnOf labs st t).2 := by
  have hto : turnOf labs st t = (0, tellN labs t.who t.dest st labs.length) := if_pos hk
  rw [hto]
  simp only
  have hb := turn_box w t
  obtain ⟨x0, x1, x2, x3, x4, x5⟩ := six_at (heap_alloc_new w (.cells #[.int .i64 t.kind, .int .i64 t.who, .int .i64 t.dest, .int .i64 t.label, .int .i64 t.key, .int .i64 t.value] 38))
  have H1 := Lib.hid (h.on hb)
  have Hb := Lib.hid hb
  have hw := ht.who
  have hd := ht.dest
  obtain ⟨kind, who, dest, label, key, value⟩ := t
  simp only at *
  subst hk
  clear h ht hb hto
  go_enter Try.func41, Try.ntmps41
  go_upto_region 1 with (fail)
  generalize hWW : w.alloc (.cells #[.int .i64 ((3 : Nat) : Int), .int .i64 who, .int .i64 dest, .int .i64 label, .int .i64 key, .int .i64 value] 38) = W at *
  clear hWW
  have C1 := Lib.hid (cThere H1.out who hw)
  have C2 := Lib.hid (cThere H1.out dest hd)
  have CT := Lib.hid (cTell H1.out (Nat.le_trans hbs Hb.out.size) who dest hw hd)
  go_wp2_with fail
  refine C1.out.mono ?_
  rintro e w' ⟨rfl, rfl⟩
  go_wp2_with fail
  refine C2.out.mono ?_
  rintro e w' ⟨rfl, rfl⟩
  go_wp2_with fail
  refine CT.out.mono ?_
  rintro e w5 ⟨rfl, vs', h5, hb5, hc5⟩
  have hfin : Hid (Turned w w5 base H hs labs (tellN labs who dest st labs.length)) := Turned.from Hb.out hbs ⟨⟨vs', h5⟩, hb5, hc5⟩
  clear h5 hb5 hc5 CT C1 C2 x0 x1 x2 x3 x4 x5
  go_wp2_with fail
  go_ret
  exact ⟨rfl, hfin.out⟩
end Go.Proofs.Ytngedkfljpkoiaa
