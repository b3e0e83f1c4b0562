/- GossipBlind: the walk. -/
import Derived.Test.YtngedkfljpkoiaaGosO
namespace Go.Proofs.Ytngedkfljpkoiaa.gossipBlind
open Go.ChangeShapes Go.WideShapes Go.ChangeAt Go.RowKit
set_option linter.unusedVariables false
set_option linter.unusedSimpArgs false

/-- A turn that others take. -/
def otherOf (labs : List Nat) (c : Nat) (t : Trn) (x : Tk) : Trn :=
  if t.kind ≠ 3 ∧ labs.getD t.label 0 &&& c = 0 then ⟨1 + pn x.kind 2, t.who, t.dest, t.label, pn x.key 5, if pn x.kind 2 = 0 then pn x.value 9 else 0⟩ else t
/-- The turns, k of them looked at. -/
def othersK (labs : List Nat) (c : Nat) (ts : List Trn) (ot : List Tk) (k : Nat) : List Trn := (List.range ts.length).map fun i => match ts[i]?, ot[i]? with
  | some t, some x => if i < k then otherOf labs c t x else t
  | some t, none => t
  | none, _ => ⟨1, 0, 0, 0, 0, 0⟩
theorem othersK_length (labs : List Nat) (c : Nat) (ts : List Trn) (ot : List Tk) (k : Nat) : (othersK labs c ts ot k).length = ts.length := by simp [othersK]
theorem othersK_get (labs : List Nat) (c : Nat) (ts : List Trn) (ot : List Tk) (k i : Nat) (h : i < ts.length) (h' : i < (othersK labs c ts ot k).length) : (othersK labs c ts ot k)[i] = match ot[i]? with | some x => if i < k then otherOf labs c ts[i] x else ts[i] | none => ts[i] := by
  simp only [othersK, List.getElem_map, List.getElem_range, List.getElem?_eq_getElem h]
  cases ot[i]? <;> rfl
theorem othersK_zero (labs : List Nat) (c : Nat) (ts : List Trn) (ot : List Tk) : othersK labs c ts ot 0 = ts := by
  apply List.ext_getElem (othersK_length _ _ _ _ _)
  intro i h1 h2
  rw [othersK_get _ _ _ _ _ _ h2]
  cases ot[i]? <;> simp
theorem othersK_succ (labs : List Nat) (c : Nat) (ts : List Trn) (ot : List Tk) (k : Nat) (h : k < ts.length) (h' : k < ot.length) : othersK labs c ts ot (k + 1) = (othersK labs c ts ot k).set k (otherOf labs c ts[k] ot[k]) := by
  apply List.ext_getElem (by simp [othersK_length])
  intro i h1 h2
  rw [othersK_length] at h1
  rw [othersK_get _ _ _ _ _ _ h1, List.getElem_set]
  by_cases e : k = i
  · subst e
    rw [if_pos rfl, List.getElem?_eq_getElem h']
    simp
  · rw [if_neg e, othersK_get _ _ _ _ _ _ h1]
    cases ot[i]? with
    | none => rfl
    | some x =>
      simp only
      by_cases e2 : i < k
      · rw [if_pos e2, if_pos (by omega)]
      · rw [if_neg e2, if_neg (by omega)]
theorem otherOf_ok {labs : List Nat} {c : Nat} {t : Trn} (x : Tk) {m : Nat} (h : t.Ok m) : (otherOf labs c t x).Ok m := by
  have h1 := (pn_eq x.kind 2 (by omega)).2
  have h2 := (pn_eq x.key 5 (by omega)).2
  have h3 := (pn_eq x.value 9 (by omega)).2
  unfold otherOf
  split
  · exact ⟨by simp only; omega, h.who, h.dest, h.label, by simp only; omega, by simp only; split <;> omega⟩
  · exact h
theorem otherOf_alike {labs : List Nat} {c : Nat} {t : Trn} (x : Tk) : Alike labs c t (otherOf labs c t x) := by
  have h1 := (pn_eq x.kind 2 (by omega)).2
  unfold otherOf
  split
  · next hh =>
    refine .inr ⟨hh.1, by simp only; omega, rfl, rfl, fun i _ hc => ?_⟩
    unfold lb inL
    have := congrArg (fun n => n.testBit i) hh.2
    simpa [Nat.testBit_and, hc] using this
  · exact .inl rfl
theorem othersK_ok {labs : List Nat} {c m : Nat} {ts : List Trn} {ot : List Tk} {k : Nat} (h : ∀ t ∈ ts, t.Ok m) : ∀ t ∈ othersK labs c ts ot k, t.Ok m := fun t ht => by
  obtain ⟨i, hi, rfl⟩ := List.mem_iff_getElem.1 ht
  have hi' := hi
  rw [othersK_length] at hi'
  rw [othersK_get _ _ _ _ _ _ hi']
  have h0 := h _ (List.getElem_mem hi')
  cases ot[i]? with
  | none => exact h0
  | some x => simp only; split; exact otherOf_ok x h0; exact h0
theorem othersK_alike {labs : List Nat} {c : Nat} {ts : List Trn} {ot : List Tk} {k : Nat} (i : Nat) (h : i < ts.length) (h' : i < (othersK labs c ts ot k).length) : Alike labs c ts[i] (othersK labs c ts ot k)[i] := by
  rw [othersK_get _ _ _ _ _ _ h]
  cases ot[i]? with
  | none => exact .inl rfl
  | some x => simp only; split; exact otherOf_alike x; exact .inl rfl
theorem and_lab (a b : Nat) (ha : a < 16) (hb : b < 16) : (bits BinOp.and IntKind.i64 (a : Int) (b : Int) == 0) = decide (a &&& b = 0) := by
  have h : ∀ x : Fin 16, ∀ y : Fin 16, (bits BinOp.and IntKind.i64 ((x.1 : Nat) : Int) ((y.1 : Nat) : Int) == 0) = decide (x.1 &&& y.1 = 0) := by decide +kernel
  exact h ⟨a, ha⟩ ⟨b, hb⟩
theorem bit_some (c who : Nat) (hl : c < 256) : (bits BinOp.and IntKind.i64 ((c : Int) / 2 ^ who) 1 == 1) = c.testBit who := bit_in c who hl
theorem owns_set6 {w : World} {base e n cap g : Nat} {xs : List Value} (h : w.ownsRow base e 6 (.slice (some ⟨g, 0, none⟩) n cap) n xs) (i : Nat) (hi : i < n * 6) (u : Value) :
    (w.setCell ⟨g, i, none⟩ u).ownsRow base e 6 (.slice (some ⟨g, 0, none⟩) n cap) n (xs.set i u) := by
  have h1 := owns_write h i [u] (by simp; omega)
  rw [set_split _ _ _ (by rw [h.1]; exact hi)]
  exact h1
structure BK (w3 W : World) (v : Value) (n : Nat) (xs : List Value) : Prop where
  own : W.ownsRow w3.heap.size 38 6 v n xs
  hb : Below w3.heap.size w3 W
theorem BK.set {w3 W : World} {n cap g : Nat} {xs : List Value} (h : BK w3 W (.slice (some ⟨g, 0, none⟩) n cap) n xs) (i : Nat) (hi : i < n * 6) (u : Value) : BK w3 (W.setCell ⟨g, i, none⟩ u) (.slice (some ⟨g, 0, none⟩) n cap) n (xs.set i u) := by
  have hge : w3.heap.size ≤ g := by
    obtain ⟨g', c', he, h1, _⟩ := owns_some h.own (by omega)
    simp only [Value.slice.injEq, Option.some.injEq, Addr.mk.injEq, and_true, true_and] at he
    obtain ⟨rfl, rfl⟩ := he
    exact h1
  exact ⟨owns_set6 h.own i hi u, h.hb.setCell hge _⟩
theorem BK.cell {w3 W : World} {n cap g : Nat} {xs : List Value} (h : BK w3 W (.slice (some ⟨g, 0, none⟩) n cap) n xs) (i : Nat) (hi : i < xs.length) (hn : 0 < n) : W.cell? ⟨g, i, none⟩ = some xs[i] ∧ W.frozen? ⟨g, i, none⟩ = false := by
  obtain ⟨g', c', he, _, _, hf, hc⟩ := owns_some h.own hn
  simp only [Value.slice.injEq, Option.some.injEq, Addr.mk.injEq, and_true, true_and] at he
  obtain ⟨rfl, rfl⟩ := he
  exact ⟨hc i _ (List.getElem?_eq_getElem hi), hf i⟩
theorem trns_split (l : List Trn) (k : Nat) (hk : k < l.length) : trns l = trns (l.take k) ++ (l[k].cells ++ trns (l.drop (k + 1))) := by
  have e : l = l.take k ++ (l[k] :: l.drop (k + 1)) := by rw [← List.drop_eq_getElem_cons hk, List.take_append_drop]
  conv => lhs; rw [e]
  rw [trns_append]; rfl
theorem trns_set (l : List Trn) (k : Nat) (hk : k < l.length) (u : Trn) : trns (l.set k u) = trns (l.take k) ++ (u.cells ++ trns (l.drop (k + 1))) := by
  rw [List.set_eq_take_append_cons_drop, if_pos hk, trns_append]; rfl
theorem trns_at (l : List Trn) (k : Nat) (hk : k < l.length) (j : Nat) (hj : j < 6) (h : k * 6 + j < (trns l).length) : (trns l)[k * 6 + j] = (l[k].cells)[j]'(by rw [Trn.cells_length]; exact hj) := by
  have := flat_get Trn.cells 6 Trn.cells_length l k hk j hj
  unfold trns at h ⊢
  rw [List.getElem?_eq_getElem h, List.getElem?_eq_getElem (by rw [Trn.cells_length]; exact hj)] at this
  simpa using this
/-- A turn's key, kind and value are exchanged. -/
theorem trns_upd (l : List Trn) (k : Nat) (hk : k < l.length) (u : Trn) (h1 : u.who = l[k].who) (h2 : u.dest = l[k].dest) (h3 : u.label = l[k].label) :
    (((trns l).set (k * 6 + 4) (.int .i64 u.key)).set (k * 6) (.int .i64 u.kind)).set (k * 6 + 5) (.int .i64 u.value) = trns (l.set k u) := by
  have hl : (trns (l.take k)).length = k * 6 := by rw [trns_length, List.length_take]; omega
  rw [trns_set l k hk, trns_split l k hk]
  rw [List.set_append_right _ _ (by omega), List.set_append_right _ _ (by omega), List.set_append_right _ _ (by omega), hl, show k * 6 + 4 - k * 6 = 4 by omega, show k * 6 - k * 6 = 0 by omega, show k * 6 + 5 - k * 6 = 5 by omega]
  congr 1
  simp only [Trn.cells, List.cons_append, List.nil_append, List.set_cons_succ, List.set_cons_zero, h1, h2, h3]
theorem picked2 (x : Int) : ((pn x 2 : Nat) : Int) = 0 ∨ ((pn x 2 : Nat) : Int) = 1 := by
  have h := (pn_eq x 2 (by omega)).2
  omega
set_option maxRecDepth 100000 in
set_option maxHeartbeats 8000000 in
theorem walk (w : World) (v0 : Value) (ls : List Int) (A0 : Has w 1 v0 ls.length (ints ls) ∧ ∀ x ∈ ls, -9223372036854775808 ≤ x ∧ x ≤ 9223372036854775807) (v1 : Value) (l : List Tk) (A1 : Has w 6 v1 l.length (tks l))
    (a2 : Int) (v3 : Value) (ot : List Tk) (A3 : Has w 6 v3 ot.length (tks ot)) (wf2 : (Lit.int .i64 a2).wf = true) :
    Calls Try.prog 5 #[v0, v1, .int .i64 a2, v3] w fun e w' => e = .returned (.bool true) ∧ Below w.heap.size w w' := by
  have C0 := Lib.hid (cLabelsOf A0.1)
  have H1 := Lib.hid A1
  have H3 := Lib.hid A3
  have hlen := labsOf_len ls
  have Hlab := Lib.hid (labsOf_lt ls)
  have P2 := Lib.hid fun X => picked a2 16 (by omega) (by omega) X
  have hd2 := (pn_eq a2 16 (by omega)).2
  rw [← (pn_eq a2 16 (by omega)).1] at P2
  generalize pn a2 16 = c at *
  generalize labsOf ls = labs at *
  obtain ⟨_, ao, co, rfl, hco1, hco2, _⟩ := A3
  unfold maxLen at hco2
  clear A0 A1 wf2
  go_enter Try.func5, Try.ntmps5
  go_wp2_with fail
  refine C0.out.mono ?_
  rintro e w2 ⟨gl, cl, rfl, hownL, hb2⟩
  go_wp2_with fail
  refine (P2.out _).mono ?_
  rintro e w' ⟨rfl, rfl⟩
  rename World => w2
  have HL2 := Lib.hid (Has.of_owns hownL)
  have C1 := Lib.hid (cTurns 60 (H1.out.below hb2) (by omega))
  have Hb2 := Lib.hid hb2
  clear C0 H1 hownL hb2 P2
  go_wp2_with fail
  refine C1.out.mono ?_
  rintro e w3 ⟨vt, rfl, hownT, hb3⟩
  obtain ⟨at', ct, rfl⟩ := owns_slice hownT
  have HL3 := Lib.hid (HL2.out.below hb3)
  have HT3 := Lib.hid (Has.of_owns hownT)
  have Hb3 := Lib.hid (Hb2.out.trans (hb3.mono Hb2.out.size))
  have HO3 := Lib.hid (H3.out.below Hb3.out)
  have hT := turnsOf_len l 60
  have HokT := Lib.hid (turnsOf_ok l 60)
  generalize turnsOf l 60 = ts at *
  have Hone := Lib.hid (trns_one ts)
  have hct : ts.length ≤ ct ∧ ct ≤ maxLen := by
    obtain ⟨_, _, _, he, h1, h2, _⟩ := HT3.out
    simp only [Value.slice.injEq] at he
    obtain ⟨-, -, rfl⟩ := he
    exact ⟨h1, h2⟩
  obtain ⟨hct1, hct2⟩ := hct
  unfold maxLen at hct2
  have hcl : cl ≤ maxLen := by
    obtain ⟨_, _, _, he, h1, h2, _⟩ := HL3.out
    simp only [Value.slice.injEq] at he
    obtain ⟨-, -, rfl⟩ := he
    exact h2
  unfold maxLen at hcl
  clear C1 hownT hb3 HL2 Hb2 H3
  go_wp2_with (refine wp_appN (w0 := w3) 25 38 6 48 _ elTurn Try.underlying25 w3.heap.size _ _ _ (World.ownsRow_nil _ _ _ _) (by repeat (first | exact Below.refl _ _ | refine Below.drew ?_ | refine Below.alloc ?_ (by first | (simp; done) | (simp; omega)) _ | refine Below.setCell ?_ (by first | (simp; done) | (simp; omega)) _)) _ _ _ HT3.out rfl _ _ rfl rfl rfl Hone.out (by omega) (by unfold maxLen; omega) (Nat.le_refl _) ?_; intro v4 w4 hown4 hgrow4 hb4)
  rw [List.nil_append, Nat.zero_add] at hown4
  obtain ⟨ab, cb, rfl⟩ := owns_slice hown4
  have hB0 : Hid (BK w3 w4 (.slice ab ts.length cb) ts.length (trns (othersK labs c ts ot 0))) := by
    rw [othersK_zero]; exact ⟨hown4, hb4⟩
  clear hown4 hb4 hgrow4 Hone
  go_loopw [13] (fun i wr => ∃ k : Nat, k ≤ ts.length ∧ k ≤ ot.length ∧ i = .int .i64 k ∧ BK w3 wr (.slice ab ts.length cb) ts.length (trns (othersK labs c ts ot k))) (fun i _ => ts.length - (intOf i).toNat)
  case atStart => exact ⟨0, by omega, by omega, rfl, hB0.out⟩
  case round =>
    clear hB0
    obtain ⟨k, hk, hko, rfl, hBK⟩ := hrel
    have HK := Lib.hid hBK
    clear hBK
    by_cases hin : k < ts.length ∧ k < ot.length
    · obtain ⟨hlt, hlo⟩ := hin
      have hltz : (k : Int) < (ts.length : Int) := by omega
      have hloz : (k : Int) < (ot.length : Int) := by omega
      obtain ⟨gb, cb', he, hge, hsz, hf, hcc⟩ := owns_some HK.out.own (by omega)
      simp only [Value.slice.injEq] at he
      obtain ⟨rfl, -, rfl⟩ := he
      have hcbb : ts.length ≤ cb ∧ cb ≤ maxLen := by
        obtain ⟨_, _, _, he, h1, h2, _⟩ := Has.of_owns HK.out.own
        simp only [Value.slice.injEq] at he
        obtain ⟨-, -, rfl⟩ := he
        exact ⟨h1, h2⟩
      obtain ⟨hcb1, hcb2⟩ := hcbb
      unfold maxLen at hcb2
      clear hcc hf
      have hlk : k < (othersK labs c ts ot k).length := by rw [othersK_length]; exact hlt
      have htk : (othersK labs c ts ot k)[k] = ts[k] := by
        rw [othersK_get _ _ _ _ _ _ hlt]; cases ot[k]? <;> simp
      have hlen6 : (trns (othersK labs c ts ot k)).length = ts.length * 6 := by rw [trns_length, othersK_length]
      have cellOf := fun j (hj : j < 6) => HK.out.cell (k * 6 + j) (by rw [hlen6]; omega) (by omega)
      have e0 := trns_at (othersK labs c ts ot k) k hlk 0 (by omega) (by rw [hlen6]; omega)
      have e3 := trns_at (othersK labs c ts ot k) k hlk 3 (by omega) (by rw [hlen6]; omega)
      have e4 := trns_at (othersK labs c ts ot k) k hlk 4 (by omega) (by rw [hlen6]; omega)
      have e5 := trns_at (othersK labs c ts ot k) k hlk 5 (by omega) (by rw [hlen6]; omega)
      obtain ⟨x0, f0⟩ := cellOf 0 (by omega)
      obtain ⟨x3, f3⟩ := cellOf 3 (by omega)
      obtain ⟨x4, f4⟩ := cellOf 4 (by omega)
      obtain ⟨x5, f5⟩ := cellOf 5 (by omega)
      rw [e0, htk] at x0
      rw [e3, htk] at x3
      rw [e4, htk] at x4
      rw [e5, htk] at x5
      simp only [Trn.cells, List.getElem_cons_zero, List.getElem_cons_succ, Nat.add_zero] at x0 x3 x4 x5 f0
      have hok := HokT.out _ (List.getElem_mem hlt)
      have hlab3 := hok.label
      have hkind := hok.kind
      have y0 := cell_on HK.out.hb (lab_cell (labs := labs) HL3.out ts[k].label (by omega))
      have hl16 := Hlab.out _ (List.getElem_mem (show ts[k].label < labs.length by omega))
      have hand := and_lab (labs[ts[k].label]'(by omega)) c hl16 (by omega)
      have hget : labs.getD ts[k].label 0 = labs[ts[k].label]'(by omega) := by rw [List.getD_eq_getElem?_getD, List.getElem?_eq_getElem (by omega)]; rfl
      have Hsucc := Lib.hid (othersK_succ labs c ts ot k hlt hlo)
      have hother : otherOf labs c ts[k] ot[k] = if ts[k].kind ≠ 3 ∧ (labs[ts[k].label]'(by omega)) &&& c = 0 then ⟨1 + pn ot[k].kind 2, ts[k].who, ts[k].dest, ts[k].label, pn ot[k].key 5, if pn ot[k].kind 2 = 0 then pn ot[k].value 9 else 0⟩ else ts[k] := by unfold otherOf; rw [hget]
      have hsame : otherOf labs c ts[k] ot[k] = ts[k] → Hid (BK w3 wr (.slice (some ⟨gb, 0, none⟩) ts.length cb) ts.length (trns (othersK labs c ts ot (k + 1)))) := fun h => by
        rw [Hsucc.out, h, ← htk, List.set_getElem_self]; exact HK.out
      have Hsame := Lib.hid hsame
      have hupd := fun (u : Trn) (h1 : u.who = ts[k].who) (h2 : u.dest = ts[k].dest) (h3 : u.label = ts[k].label) => trns_upd (othersK labs c ts ot k) k hlk u (by rw [htk]; exact h1) (by rw [htk]; exact h2) (by rw [htk]; exact h3)
      have Hupd := Lib.hid hupd
      have Hother := Lib.hid hother
      clear hother hupd hsame e0 e3 e4 e5 hget cellOf htk hlk
      generalize labs[ts[k].label]'(by omega) = lab at *
      by_cases h3 : ts[k].kind = 3
      · have hk3 : ((ts[k].kind : Int) != 3) = false := by rw [h3]; rfl
        have hfin := Hsame.out (by rw [Hother.out, if_neg (by rw [h3]; simp)])
        clear Hsame Hother Hupd Hsucc
        go_wp2_with fail
        go_roundw
        case rel => exact ⟨k + 1, by omega, by omega, by go_num, hfin.out⟩
        case measure => first | (simp [intOf]; done) | (simp [intOf]; omega)
      · have hk3 : ((ts[k].kind : Int) != 3) = true := by rw [bne_iff_ne]; omega
        by_cases hz : lab &&& c = 0
        · rw [decide_eq_true hz] at hand
          obtain ⟨b3, off3, cap3, he, -, z0, z1, z2, z3, z4, z5⟩ := tk_get (HO3.out) k hlo
          simp only [Value.slice.injEq] at he
          obtain ⟨rfl, -, rfl⟩ := he
          have Z0 := Lib.hid z0
          have Z4 := Lib.hid z4
          have Z5 := Lib.hid z5
          have hot := Hother.out
          rw [if_pos ⟨h3, hz⟩] at hot
          have P4 := Lib.hid fun X => picked ot[k].key 5 (by omega) (by omega) X
          have P0 := Lib.hid fun X => picked ot[k].kind 2 (by omega) (by omega) X
          have P5 := Lib.hid fun X => picked ot[k].value 9 (by omega) (by omega) X
          rw [← (pn_eq ot[k].key 5 (by omega)).1] at P4
          rw [← (pn_eq ot[k].kind 2 (by omega)).1] at P0
          rw [← (pn_eq ot[k].value 9 (by omega)).1] at P5
          have hp0 := (pn_eq ot[k].kind 2 (by omega)).2
          have hres : Hid (∀ W (u : Trn), u = ⟨1 + pn ot[k].kind 2, ts[k].who, ts[k].dest, ts[k].label, pn ot[k].key 5, if pn ot[k].kind 2 = 0 then pn ot[k].value 9 else 0⟩ → BK w3 W (.slice (some ⟨gb, 0, none⟩) ts.length cb) ts.length ((((trns (othersK labs c ts ot k)).set (k * 6 + 4) (.int .i64 u.key)).set (k * 6) (.int .i64 u.kind)).set (k * 6 + 5) (.int .i64 u.value)) → BK w3 W (.slice (some ⟨gb, 0, none⟩) ts.length cb) ts.length (trns (othersK labs c ts ot (k + 1)))) := fun W u hu hW => by
            rw [Hsucc.out, hot, ← hu, ← Hupd.out u (by rw [hu]) (by rw [hu]) (by rw [hu])]; exact hW
          have hlt6 : k * 6 + 5 < ts.length * 6 := by omega
          clear Hsame Hother Hupd Hsucc hot z0 z1 z2 z3 z4 z5
          generalize pn ot[k].key 5 = p4 at *
          generalize pn ot[k].kind 2 = p0 at *
          generalize pn ot[k].value 9 = p5 at *
          generalize ot[k] = x at *
          generalize ts[k] = t at *
          obtain ⟨tkind, twho, tdest, tlabel, tkey, tvalue⟩ := t
          obtain ⟨xk, xw, xd, xl, xy, xv⟩ := x
          simp only at *
          generalize trns (othersK labs c ts ot k) = xs at *
          have hw1 : IntKind.i64.wrap (1 + (p0 : Int)) = 1 + (p0 : Int) := IntWalk.i64_in _ (by omega)
          go_upto_region 9 with (fail)
          have s4 := cell_on HK.out.hb Z4.out
          go_upto_region 10 with (go_at_call 16; with_reducible refine (P4.out _).mono ?_; rintro e w' ⟨rfl, rfl⟩)
          rename World => wr
          have K1 := Lib.hid (HK.out.set (k * 6 + 4) (by omega) (.int .i64 p4))
          clear x0 x3 x4 y0 s4 f3 f4 f5 x5 f0
          obtain ⟨x0, f0⟩ := K1.out.cell (k * 6) (by simp only [List.length_set]; omega) (by omega)
          have s0 := cell_on K1.out.hb Z0.out
          generalize wr.setCell ⟨gb, k * 6 + 4, none⟩ (.int .i64 p4) = W1 at *
          go_upto_region 11 with (go_at_call 16; with_reducible refine (P0.out _).mono ?_; rintro e w' ⟨rfl, rfl⟩)
          rename World => W1
          have K2 := Lib.hid (K1.out.set (k * 6) (by omega) (.int .i64 (1 + (p0 : Int))))
          clear x0 f0 s0 K1
          obtain ⟨x5, f5⟩ := K2.out.cell (k * 6 + 5) (by simp only [List.length_set]; omega) (by omega)
          generalize W1.setCell ⟨gb, k * 6, none⟩ (.int .i64 (1 + (p0 : Int))) = W2 at *
          go_upto_region 12 with (fail)
          have K3 := Lib.hid (K2.out.set (k * 6 + 5) (by omega) (.int .i64 0))
          clear x5 f5 K2
          obtain ⟨x0, f0⟩ := K3.out.cell (k * 6) (by simp only [List.length_set]; omega) (by omega)
          rw [List.getElem_set_ne (by omega), List.getElem_set_self] at x0
          obtain ⟨x5, f5⟩ := K3.out.cell (k * 6 + 5) (by simp only [List.length_set]; omega) (by omega)
          have s5 := cell_on K3.out.hb Z5.out
          generalize W2.setCell ⟨gb, k * 6 + 5, none⟩ (.int .i64 0) = W3 at *
          rcases (show p0 = 0 ∨ p0 = 1 by omega) with rfl | rfl
          · rw [show (1 : Int) + ((0 : Nat) : Int) = 1 from rfl] at x0 K3
            go_upto_region 13 with (fail)
            go_wp2_with (go_at_call 16; with_reducible refine (P5.out _).mono ?_; rintro e w' ⟨rfl, rfl⟩)
            rename World => W3
            have K4 := K3.out.set (k * 6 + 5) (by omega) (.int .i64 p5)
            rw [List.set_set] at K4
            have hfin := Lib.hid (hres.out _ _ rfl K4)
            clear K3 K4 x0 f0 x5 f5 s5 hres
            go_roundw
            case rel => exact ⟨k + 1, by omega, by omega, by go_num, hfin.out⟩
            case measure => first | (simp [intOf]; done) | (simp [intOf]; omega)
          · rw [show (1 : Int) + ((1 : Nat) : Int) = 2 from rfl] at x0 K3
            have hfin := Lib.hid (hres.out _ _ rfl K3.out)
            clear K3 f0 x5 f5 s5 hres
            go_wp2_with fail
            go_roundw
            case rel => exact ⟨k + 1, by omega, by omega, by go_num, hfin.out⟩
            case measure => first | (simp [intOf]; done) | (simp [intOf]; omega)
        · rw [decide_eq_false hz] at hand
          have hfin := Hsame.out (by rw [Hother.out, if_neg (fun h => hz h.2)])
          clear Hsame Hother Hupd Hsucc
          go_wp2_with fail
          go_roundw
          case rel => exact ⟨k + 1, by omega, by omega, by go_num, hfin.out⟩
          case measure => first | (simp [intOf]; done) | (simp [intOf]; omega)
    · have Hok2 := Lib.hid (othersK_ok (labs := labs) (c := c) (ot := ot) (k := k) HokT.out)
      have Hlen2 := Lib.hid (othersK_length labs c ts ot k)
      have Hali := Lib.hid (fun i h h' => othersK_alike (labs := labs) (c := c) (ts := ts) (ot := ot) (k := k) i h h')
      have HL4 := Lib.hid (HL3.out.below HK.out.hb)
      have HT4 := Lib.hid (HT3.out.below HK.out.hb)
      have HU4 := Lib.hid (Has.of_owns HK.out.own)
      have Hb4 := Lib.hid (Hb3.out.trans (HK.out.hb.mono Hb3.out.size))
      have hcbb : ts.length ≤ cb ∧ cb ≤ maxLen := by
        obtain ⟨_, _, _, he, h1, h2, _⟩ := HU4.out
        simp only [Value.slice.injEq] at he
        obtain ⟨-, -, rfl⟩ := he
        exact ⟨h1, h2⟩
      obtain ⟨hcb1, hcb2⟩ := hcbb
      unfold maxLen at hcb2
      obtain ⟨us, hus⟩ : ∃ us, us = othersK labs c ts ot k := ⟨_, rfl⟩
      rw [← hus] at Hok2 Hlen2 HU4
      have Hali2 : Hid (∀ i (h : i < ts.length) (h' : i < us.length), Alike labs c ts[i] us[i]) := by rw [hus]; exact Hali.out
      clear Hali HL3 HT3 Hb3 HO3 HK hus
      rcases (show (k = ot.length ∧ ot.length < ts.length) ∨ k = ts.length by omega) with ⟨rfl, hq⟩ | rfl
      all_goals
        try have hqz : ((ot.length : Nat) : Int) < (ts.length : Int) := by omega
        go_upto_region 14 with (fail)
        have C4 := Lib.hid (cgossiped (labs := labs) (ts := ts) (by rw [hlen]; exact HL4.out) HT4.out (by omega) Hlab.out (by omega) (by rw [hlen]; exact HokT.out))
        go_wp2_with fail
        refine C4.out.mono ?_
        rintro e w5 ⟨vc5, vs5, rfl, hP5⟩
        obtain ⟨gs5, cs5, g5, rfl, hS5⟩ := hP5.stores
        obtain ⟨ac5, cc5, rfl⟩ := owns_slice hP5.codes
        have HS5 := Lib.hid hS5
        have HL5 := Lib.hid (HL4.out.below hP5.hb)
        have HU5 := Lib.hid (HU4.out.below hP5.hb)
        have Hb5 := Lib.hid (Hb4.out.trans (hP5.hb.mono Hb4.out.size))
        have C5 := Lib.hid (cgossiped (labs := labs) (ts := us) (by rw [hlen]; exact HL5.out) (by rw [Hlen2.out]; exact HU5.out) (by omega) Hlab.out (by rw [Hlen2.out]; omega) (by rw [hlen]; exact Hok2.out))
        clear hP5 hS5 C4 HL4 HU4 HT4 Hb4
        go_wp2_with fail
        refine C5.out.mono ?_
        rintro e w6 ⟨vc6, vs6, rfl, hP6⟩
        obtain ⟨gs6, cs6, g6, rfl, hS6⟩ := hP6.stores
        obtain ⟨ac6, cc6, rfl⟩ := owns_slice hP6.codes
        have HS6 := Lib.hid hS6
        have HS56 := Lib.hid (HS5.out.on hP6.hb)
        have Hb6 := Lib.hid (Hb5.out.trans (hP6.hb.mono Hb5.out.size))
        have C6 := Lib.hid (cOne w6)
        clear hP6 hS6 C5 HL5 HU5 Hb5 HS5
        go_wp2_with fail
        refine C6.out.mono ?_
        rintro e w7 ⟨vc1, gs1, cs1, g1, b1, o1, c1, rfl, hb7, hc11, ⟨hc12, hc13⟩, ⟨hc14, hc15⟩, y0, y1, y2⟩
        obtain ⟨ac1, cc1, rfl⟩ := hc11
        unfold maxLen at hc13 hc15
        have SA := Lib.hid (HS56.out.on hb7)
        have SB := Lib.hid (HS6.out.on hb7)
        have Hb7 := Lib.hid (Hb6.out.trans (hb7.mono Hb6.out.size))
        have Hsame := Lib.hid (fun i j hi hc => blind_says (labs := labs) (c := c) (by rw [hlen]; exact HokT.out) (by rw [hlen]; exact Hok2.out) (by omega) Hlen2.out.symm Hali2.out i j hi hc)
        generalize stAfter labs noSt ts = st at *
        generalize stAfter labs noSt us = st2 at *
        obtain ⟨k1, k2⟩ := SA.out.c1
        obtain ⟨k3, k4⟩ := SB.out.c1
        unfold maxLen at k2 k4
        rw [hlen] at SA SB
        clear hb7 C6 HS56 HS6 Hb6
        go_wp2_with fail
        clear y0 y1 y2
        go_loopw [23, 24] (fun i _ wr => ∃ k : Nat, k ≤ 4 ∧ i = .int .i64 k ∧ Hid (Below w7.heap.size w7 wr)) (fun i _ _ => 4 - (intOf i).toNat)
        case atStart => exact ⟨0, by omega, rfl, Below.refl _ _⟩
        case round =>
          obtain ⟨i, hi, rfl, HB⟩ := hrel
          by_cases hlt : i < 4
          · have hltz : (i : Int) < 4 := by omega
            go_wp2_with fail
            go_loopw [24] (fun j wr => ∃ k : Nat, k ≤ 3 ∧ j = .int .i64 k ∧ Hid (Below w7.heap.size w7 wr)) (fun j _ => 3 - (intOf j).toNat)
            case atStart => exact ⟨0, by omega, rfl, HB⟩
            case round =>
              clear HB
              obtain ⟨j, hj, rfl, HB⟩ := hrel
              by_cases hjl : j < 3
              · have hjz : (j : Int) < 3 := by omega
                have S1 := SA.out.on HB.out
                have S2 := SB.out.on HB.out
                obtain ⟨a1, c1, d1, E1⟩ := S1.ent i j hlt hjl
                obtain ⟨a2, c2, d2, E2⟩ := S2.ent i j hlt hjl
                have r1 := S1.row i hlt
                have r2 := S2.row i hlt
                have hbi := bit_some c i (by omega)
                have Hsm := Lib.hid (Hsame.out i j hlt)
                have E1' := Lib.hid E1
                have E2' := Lib.hid E2
                have Fin : Hid (∀ w8, Below wr.heap.size wr w8 → Hid (Below w7.heap.size w7 w8)) := fun w8 hb8 => HB.out.trans (hb8.mono HB.out.size)
                clear E1 E2 S1 S2
                cases hi1 : c.testBit i with
                | false =>
                  rw [hi1] at hbi
                  clear Hsm E1' E2' r1 r2 d1 d2
                  go_upto_region 25 with (fail)
                  refine wp_region_grow (by kernel_rfl) (by kernel_rfl) ?_
                  repeat (go_big_quiet_step (fail))
                  refine wpQuiet_nil ?_
                  intro w8 hb8
                  have HB8 := Fin.out _ hb8
                  clear hb8 Fin
                  go_wp2_with fail
                  go_roundw
                  case rel => exact ⟨j + 1, by omega, by go_num, HB8⟩
                  case measure => first | (simp [intOf]; done) | (simp [intOf]; omega)
                | true =>
                  rw [hi1] at hbi
                  have hes := Hsm.out hi1
                  have CS : Hid (∀ X : Ext wr, Calls Try.prog 14 #[.slice a1 (st i j).length c1, .slice a2 (st2 i j).length c2] X.1 fun e w' => e = .returned (.bool true) ∧ Below X.1.heap.size X.1 w') := fun X => by
                    rw [← hes] at E2' ⊢
                    exact csameEntries _ _ _ X.1 (E1'.out.below X.2) (E2'.out.below X.2)
                  have p1 := ext_cell r1
                  have p2 := ext_cell r2
                  have p3 := ext_cell d1
                  have p4 := ext_cell d2
                  clear Hsm E1' E2' r1 r2 d1 d2 hes
                  go_upto_region 25 with (fail)
                  refine wp_region_grow (by kernel_rfl) (by kernel_rfl) ?_
                  repeat (go_big_quiet_step ((go_at_call 14; with_reducible exact grow_of (CS.out _))))
                  refine wpQuiet_nil ?_
                  intro w8 hb8
                  have HB8 := Fin.out _ hb8
                  clear hb8 Fin CS p1 p2 p3 p4
                  go_wp2_with fail
                  go_roundw
                  case rel => exact ⟨j + 1, by omega, by go_num, HB8⟩
                  case measure => first | (simp [intOf]; done) | (simp [intOf]; omega)
              · obtain rfl : j = 3 := by omega
                go_wp2_with fail
                go_roundw
                case rel => exact ⟨i + 1, by omega, by go_num, HB⟩
                case measure => first | (simp [intOf]; done) | (simp [intOf]; omega)
          · obtain rfl : i = 4 := by omega
            have hfin : Hid (Below w.heap.size w wr) := Hb7.out.trans (HB.out.mono Hb7.out.size)
            clear HB
            go_wp2_with fail
            go_ret
            exact ⟨rfl, hfin.out⟩
end Go.Proofs.Ytngedkfljpkoiaa.gossipBlind
