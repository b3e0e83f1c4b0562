/- Package gossip: turns that write or erase. (Printed by wip/tools/gen_gos.py.) -/
import Derived.Test.YtngedkfljpkoiaaGosT
namespace Go.Proofs.Ytngedkfljpkoiaa
open Go.ChangeShapes Go.WideShapes Go.ChangeAt Go.RowKit
set_option linter.unusedVariables false
set_option linter.unusedSimpArgs false

theorem turnOf_in {labs : List Nat} {st : Nat → Nat → List Ent} {t : Trn} (hk : t.kind ≠ 3) (hl : t.label < labs.length) : turnOf labs st t = if inL labs[t.label] t.who = true then (if t.kind = 1 then (0, putSt st t false) else if liveK (st t.who t.label) t.key = true then (0, putSt st t true) else (6, st)) else (11, st) := by
  unfold turnOf
  rw [if_neg hk, List.getD_eq_getElem?_getD, List.getElem?_eq_getElem hl]; rfl
theorem putE_ok {st : Nat → Nat → List Ent} {t : Trn} {m : Nat} (ht : t.Ok m) (hT : ∀ i j, maxT (st i j) ≤ 1000) (gone : Bool) : (putE st t gone).Ok := by
  have h1 := ht.key
  have h2 := ht.value
  have h3 := ht.who
  have h4 := hT t.who t.label
  have h5 := maxT_nonneg (st t.who t.label)
  unfold putE
  exact ⟨by simp only; omega, by simp only; split <;> omega, by simp only; omega, by simp only; omega, fun hg => by simp only at hg ⊢; rw [if_pos hg]⟩
set_option maxRecDepth 100000 in
set_option maxHeartbeats 8000000 in
theorem cTurn1 {w : World} {base H : Nat} {hs : Hs} {labs : List Nat} {vs : Nat → Nat → Value} {st : Nat → Nat → List Ent} (h : HouseAt w base H hs labs vs st) (hbs : base ≤ w.heap.size) (t : Trn) (ht : t.Ok labs.length) (hk : t.kind = 1) (hT : ∀ i j, maxT (st i j) ≤ 1000) :
    Calls Try.prog 41 #[.pointer (some ⟨H, 0, none⟩), .agg #[.int .i64 t.kind, .int .i64 t.who, .int .i64 t.dest, .int .i64 t.label, .int .i64 t.key, .int .i64 t.value]] w fun e w' => e = .returned (.int .i64 (turnOf labs st t).1) ∧ Turned w w' base H hs labs (turnOf labs st t).2 := by
  have hto := turnOf_in (labs := labs) (st := st) (t := t) (by omega) ht.label
  have Hout := Lib.hid (fun (hi : inL (labs[t.label]'ht.label) t.who = false) => show turnOf labs st t = (11, st) by rw [hto, if_neg (by rw [hi]; simp)])
  have Hin := Lib.hid (fun (hi : inL (labs[t.label]'ht.label) t.who = true) => show turnOf labs st t = (0, putSt st t false) by rw [hto, if_pos hi, if_pos hk])
  generalize turnOf labs st t = R at *
  have hb := turn_box w t
  obtain ⟨x0, x1, x2, x3, x4, x5⟩ := six_at (heap_alloc_new w (.cells #[.int .i64 t.kind, .int .i64 t.who, .int .i64 t.dest, .int .i64 t.label, .int .i64 t.key, .int .i64 t.value] 38))
  have H1 := Lib.hid (h.on hb)
  have Hb := Lib.hid hb
  have hw := ht.who
  have hl := ht.label
  have hkey := ht.key
  have hval := ht.value
  have hlen := h.len
  have HE := Lib.hid (putE_ok ht hT false)
  unfold putE at HE
  unfold putSt putE at Hin
  obtain ⟨kind, who, dest, label, key, value⟩ := t
  simp only at *
  subst hk
  have hlz : (label : Int) < (labs.length : Int) := by omega
  have hlz2 : decide ((labs.length : Int) ≤ (label : Int)) = false := by simp; omega
  have hkz : decide ((8 : Int) ≤ (key : Int)) = false := by simp; omega
  have hvz : decide ((255 : Int) < (value : Int)) = false := by simp; omega
  simp only [if_true, Bool.false_eq_true, if_false] at HE Hin
  have HIN := Lib.hid Hin
  clear h hb hto
  go_enter Try.func41, Try.ntmps41
  go_upto_region 1 with (fail)
  generalize hWW : w.alloc (.cells #[.int .i64 ((1 : Nat) : Int), .int .i64 who, .int .i64 dest, .int .i64 label, .int .i64 key, .int .i64 value] 38) = W at *
  clear hWW
  have C1 := Lib.hid (cThere H1.out who hw)
  obtain ⟨d0, d1, cc0, cc1⟩ := H1.out.head
  obtain ⟨lb, lo, hla, l0, hl16⟩ := H1.out.lc label hl
  have s0 := H1.out.sc who hw
  rw [hla] at d0
  have CI := Lib.hid fun X => (cIn labs[label] who (by omega) (by omega) X)
  unfold maxLen at cc1
  generalize labs[label] = lab at *
  have HLA := Lib.hid hla
  clear hla
  go_wp2_with fail
  refine C1.out.mono ?_
  rintro e w' ⟨rfl, rfl⟩
  rename World => W
  go_upto_region 10 with (fail)
  go_quiet (fail)
  go_upto_region 12 with (fail)
  obtain ⟨W2, hW2⟩ : ∃ X, X = W.drewN nq := ⟨_, rfl⟩
  have hb2 : Below W.heap.size W W2 := by rw [hW2]; exact below_drewN (Below.refl _ _) _
  rw [← hW2]
  have H2 := Lib.hid (H1.out.on hb2)
  have Hb2 : Hid (Below w.heap.size w W2) := Hb.out.trans (hb2.mono Hb.out.size)
  replace x0 := cell_on hb2 x0
  replace x1 := cell_on hb2 x1
  replace x3 := cell_on hb2 x3
  replace x4 := cell_on hb2 x4
  replace x5 := cell_on hb2 x5
  replace d0 := cell_on hb2 d0
  replace d1 := cell_on hb2 d1
  replace l0 := cell_on hb2 l0
  replace s0 := cell_on hb2 s0
  clear hW2 hb2 H1 Hb C1 x2
  have CIx : Hid (∀ X : Ext W2, Calls Try.prog 54 #[.int .i64 lab, .int .i64 who] X.1 fun e w' => e = .returned (.bool (inL lab who)) ∧ X.1 = w') := fun X => CI.out X.1
  have p0 := ext_cell x0
  have p1 := ext_cell x1
  have p3 := ext_cell x3
  have q0 := ext_cell d0
  have q1 := ext_cell l0
  refine wp_region_grow (by kernel_rfl) (by kernel_rfl) ?_
  repeat (go_big_quiet_step ((go_at_call 54; with_reducible exact grow_same (CIx.out _))))
  refine wpQuiet_nil ?_
  intro W3 hb3
  have H3 := Lib.hid (H2.out.on hb3)
  have Hb3 : Hid (Below w.heap.size w W3) := Hb2.out.trans (hb3.mono Hb2.out.size)
  replace x0 := cell_on hb3 x0
  replace x1 := cell_on hb3 x1
  replace x3 := cell_on hb3 x3
  replace x4 := cell_on hb3 x4
  replace x5 := cell_on hb3 x5
  replace d1 := cell_on hb3 d1
  replace s0 := cell_on hb3 s0
  clear p0 p1 p3 q0 q1 hb3 H2 Hb2 CI CIx d0 l0
  have hwz : (who : Int) < 4 := by omega
  cases hin : inL lab who with
  | false =>
    go_wp2_with fail
    go_ret
    rw [Hout.out hin]
    exact ⟨rfl, ⟨vs, H3.out⟩, Hb3.out.mono hbs, Chc.of_below Hb3.out⟩
  | true =>
    go_upto_region 14 with (fail)
    go_quiet (fail)
    go_upto_region 15 with (fail)
    obtain ⟨W4, hW4⟩ : ∃ X, X = W3.drewN nq := ⟨_, rfl⟩
    have hb4 : Below W3.heap.size W3 W4 := by rw [hW4]; exact below_drewN (Below.refl _ _) _
    rw [← hW4]
    have H4 := Lib.hid (H3.out.on hb4)
    have Hb4 : Hid (Below w.heap.size w W4) := Hb3.out.trans (hb4.mono Hb3.out.size)
    replace x0 := cell_on hb4 x0
    replace x1 := cell_on hb4 x1
    replace x3 := cell_on hb4 x3
    replace x4 := cell_on hb4 x4
    replace x5 := cell_on hb4 x5
    clear hW4 hb4 H3 Hb3 d1 s0
    have CP := Lib.hid (cPut (H4.out.store who hw) label hl hlen who key value false HE.out (by omega))
    go_wp2_with fail
    refine CP.out.mono ?_
    rintro e w5 ⟨rfl, v', hs5, hg5⟩
    obtain ⟨h5, hb5, hc5⟩ := H4.out.put who hw hs5 hg5
    have hfin : Hid (Turned w w5 base H hs labs (updF st who (updF (st who) label (mergeL (st who label) [⟨key, value, maxT (st who label) + 1, who, false⟩])))) := Turned.from Hb4.out hbs ⟨⟨_, h5⟩, hb5, hc5⟩
    clear hs5 hg5 h5 hb5 hc5 CP x0 x1 x3 x4 x5
    go_wp2_with fail
    go_ret
    rw [HIN.out.out hin]
    exact ⟨rfl, hfin.out⟩
end Go.Proofs.Ytngedkfljpkoiaa
