/- ClockTells: the walk. -/
import Derived.Test.YtkeefpeffeoakaaTellsL
import Derived.Test.YtkeefpeffeoakaaClockPlay
import Derived.Test.YtkeefpeffeoakaaEvents
import Derived.Test.YtkeefpeffeoakaaApp
namespace Go.Proofs.Ytkeefpeffeoakaa.clockTells
open Go.ChangeShapes Go.WideShapes Go.ChangeAt Go.RowKit
set_option linter.unusedVariables false
set_option linter.unusedSimpArgs false

theorem evs_one (l : List Ev) : (evs l).all Value.oneCell' = true := by
  rw [List.all_eq_true]; intro v hv
  simp only [evs, List.mem_flatMap] at hv
  obtain ⟨p, _, h⟩ := hv
  simp [Ev.cells] at h
  rcases h with rfl | rfl | rfl <;> rfl
theorem ev_who {l : List Ev} (h : EvsOk l) : ∀ x ∈ l, x.who < (4 : Nat) := fun x hx => by
  obtain ⟨i, hi, rfl⟩ := List.mem_iff_getElem.1 hx
  have := (h i _ (List.getElem?_eq_getElem hi)).2.2.2.1
  omega
theorem one_ok : EvsOk [⟨1, 0, 0⟩] := fun i x hx => by
  have : i = 0 := by have := (List.getElem?_eq_some_iff.1 hx).1; simp at this; omega
  subst this
  simp at hx
  subst hx
  exact ⟨by simp, by simp, by simp, by simp, fun e => by simp at e⟩
theorem one_play : ckPlay 1 [⟨1, 0, 0⟩] = [[1]] := rfl
theorem csame1 (v1 v2 : Value) (E : List Int) (w : World) (h1 : Has w 1 v1 E.length (ints E)) (h2 : Has w 1 v2 E.length (ints E)) :
    Calls Try.prog 12 #[v1, v2] w fun e w' => e = .returned (.bool true) ∧ Below w.heap.size w w' :=
  (csameInts v1 v2 E E w h1 h2).mono fun _ _ h => by simpa using h
/-- A row of booleans. -/
def bools (n : Nat) (f : Nat → Bool) : List Value := (List.range n).map fun j => .bool (f j)
@[simp] theorem bools_length (n : Nat) (f : Nat → Bool) : (bools n f).length = n := by simp [bools]
theorem bools_get (n : Nat) (f : Nat → Bool) (j : Nat) (h : j < n) : (bools n f)[j]? = some (.bool (f j)) := by simp [bools, h]
theorem bools_set (n : Nat) (f : Nat → Bool) (j : Nat) (b : Bool) : (bools n f).set j (.bool b) = bools n fun x => if x = j then b else f x := by
  unfold bools
  apply List.ext_getElem
  · simp
  · intro i h1 h2
    rw [List.getElem_set]
    by_cases e : j = i
    · subst e; simp
    · have : ¬ i = j := fun h => e h.symm
      simp [e, this]
theorem bools_congr {n : Nat} {f g : Nat → Bool} (h : ∀ j, j < n → f j = g j) : bools n f = bools n g := by
  unfold bools
  apply List.map_congr_left
  intro j hj
  rw [h j (by simpa using hj)]
theorem bools_none (n : Nat) : List.replicate n (Value.bool false) = bools n fun _ => false := by
  unfold bools
  apply List.ext_getElem
  · simp
  · intro i h1 h2; simp
open Classical in
noncomputable def wayB (es : List Ev) (i j : Nat) : Bool := decide (Way es i j)
open Classical in
noncomputable def upB (es : List Ev) (i m j : Nat) : Bool := decide (WayUp es i m j)
/-- Behind the step to m, and m's ways to what is below j. -/
noncomputable def midB (es : List Ev) (i m j x : Nat) : Bool := upB es i m x || x == m || (decide (x < j) && wayB es m x)
theorem upB_zero (es : List Ev) (i : Nat) : (fun _ => false) = upB es i 0 := by
  funext j; unfold upB; symm; rw [decide_eq_false_iff_not]; rintro ⟨k, h, _⟩; omega
theorem upB_all (es : List Ev) (i : Nat) : upB es i i = wayB es i := by
  funext j; unfold upB wayB; rw [decide_eq_decide]; exact wayUp_all
theorem upB_skip {es : List Ev} {i m : Nat} (h : ¬ TellStep es i m) : upB es i m = upB es i (m + 1) := by
  funext j; unfold upB; rw [decide_eq_decide]; exact (wayUp_skip h).symm
theorem midB_zero (es : List Ev) (i m : Nat) : (fun x => if x = m then true else upB es i m x) = midB es i m 0 := by
  funext x; unfold midB
  by_cases e : x = m
  · simp [e]
  · simp [e]
theorem midB_step (es : List Ev) (i m j : Nat) : (fun x => if x = j then (midB es i m j j || wayB es m j) else midB es i m j x) = midB es i m (j + 1) := by
  funext x; unfold midB
  by_cases e : x = j
  · subst e; simp
  · by_cases h : x < j
    · have : x < j + 1 := by omega
      simp [e, h, this]
    · have : ¬ x < j + 1 := by omega
      simp [e, h, this]
theorem midB_all {es : List Ev} {i m : Nat} (h : TellStep es i m) : midB es i m m = upB es i (m + 1) := by
  funext x; unfold midB upB wayB
  rw [Bool.eq_iff_iff]
  simp only [Bool.or_eq_true, decide_eq_true_eq, beq_iff_eq, Bool.and_eq_true]
  rw [wayUp_step h]
  constructor
  · rintro ((h1 | h1) | ⟨h1, h2⟩)
    · exact .inl h1
    · exact .inr (.inl h1.symm)
    · exact .inr (.inr h2)
  · rintro (h1 | h1 | h1)
    · exact .inl (.inl h1)
    · exact .inl (.inr h1.symm)
    · exact .inr ⟨h1.lt, h1⟩
/-- The step of two events, as it is tested. -/
theorem tellStep_iff {es : List Ev} {i k : Nat} (hi : i < es.length) (hk : k < es.length) : TellStep es i k ↔ es[k].who = es[i].who ∨ (es[i].kind = 3 ∧ es[i].of' = k) := by
  constructor
  · rintro ⟨x, y, hx, hy, h⟩
    rw [List.getElem?_eq_getElem hi] at hx
    rw [List.getElem?_eq_getElem hk] at hy
    obtain rfl := Option.some.inj hx
    obtain rfl := Option.some.inj hy
    exact h
  · intro h
    exact ⟨_, _, List.getElem?_eq_getElem hi, List.getElem?_eq_getElem hk, h⟩
theorem elBools : Elem Try.prog 67 1 24 (.slice none 0 0) := .of (by kernel_rfl) rfl (by decide)
theorem infoBool : (Try.prog.info? 4).map (fun i => (i.zero, i.size, i.bytes)) = some (some (.bool false), 1, 1) := by kernel_rfl
/-- The rows of ways, so far. -/
structure WayAt (w3 wr : World) (es : List Ev) (i : Nat) (v : Value) (rs : List Value) : Prop where
  own : wr.ownsRow w3.heap.size 67 1 v i rs
  row : Each (fun v r => ∃ g, v = .slice (some ⟨g, 0, none⟩) es.length es.length ∧ HasT wr 4 1 v es.length (bools es.length (wayB es r))) rs (List.range i)
  hb : Below w3.heap.size w3 wr
theorem WayAt.on {w3 wr w' : World} {es : List Ev} {i : Nat} {v : Value} {rs : List Value} (h : WayAt w3 wr es i v rs) (hb : Below wr.heap.size wr w') : WayAt w3 w' es i v rs :=
  ⟨owns_below h.own hb, Each.mono h.row fun v a _ ⟨g, e, h⟩ => ⟨g, e, h.below hb⟩, h.hb.trans (hb.mono h.hb.size)⟩
theorem way_next {w3 wr w2 w4 : World} {es : List Ev} {i : Nat} {v v' : Value} {rs : List Value} (h : WayAt w3 wr es i v rs) (hb : Below wr.heap.size wr w2) {g : Nat}
    (hr : w2.ownsRow wr.heap.size 4 1 (.slice (some ⟨g, 0, none⟩) es.length es.length) es.length (bools es.length (wayB es i)))
    (ho : w4.ownsRow w3.heap.size 67 1 v' (i + 1) (rs ++ [.slice (some ⟨g, 0, none⟩) es.length es.length])) (hg : w2.grownBy w4 v.ownBlock) (hb4 : Below w3.heap.size w2 w4) :
    WayAt w3 w4 es (i + 1) v' (rs ++ [.slice (some ⟨g, 0, none⟩) es.length es.length]) := by
  have h2 := h.on hb
  have hc := Chg.grown (T := [67]) h2.own hg (by simp)
  refine ⟨ho, ?_, h2.hb.trans (hb4.mono (Nat.le_refl _))⟩
  rw [List.range_succ]
  exact Each.snoc (Each.mono h2.row fun v a _ ⟨g, e, h⟩ => ⟨g, e, h.chg hc (by decide)⟩) ⟨g, rfl, (HasT.of_owns hr).chg hc (by decide)⟩
theorem way_get {w3 wr : World} {es : List Ev} {i : Nat} {v : Value} {rs : List Value} (h : WayAt w3 wr es i v rs) (k : Nat) (hk : k < i) : ∃ gv cv g, v = .slice (some ⟨gv, 0, none⟩) i cv ∧ i ≤ cv ∧ cv ≤ maxLen ∧ wr.cell? ⟨gv, k, none⟩ = some (.slice (some ⟨g, 0, none⟩) es.length es.length) ∧ ∀ j, j < es.length → wr.cell? ⟨g, j, none⟩ = some (.bool (wayB es k j)) := by
  obtain ⟨gv, cv, rfl, _, _, _, hc⟩ := owns_some h.own (by omega)
  obtain ⟨_, _, _, he, h1, h2, _⟩ := Has.of_owns h.own
  simp only [Value.slice.injEq] at he
  obtain ⟨-, -, rfl⟩ := he
  obtain ⟨vk, hvk, g, rfl, hT⟩ := h.row.get k (by simpa using hk)
  rw [List.getElem_range] at hT
  refine ⟨gv, cv, g, rfl, h1, h2, hc k _ hvk, fun j hj => ?_⟩
  obtain ⟨_, a, cap, he, _, _, hcc⟩ := hT.has
  simp only [Value.slice.injEq] at he
  obtain ⟨rfl, -, -⟩ := he
  obtain ⟨b, off, e, hcc⟩ := hcc (by simp; omega)
  simp only [Option.some.injEq, Addr.mk.injEq, and_true] at e
  obtain ⟨rfl, rfl⟩ := e
  have := hcc j _ (bools_get es.length (wayB es k) j hj)
  rwa [Nat.zero_add] at this
theorem clk_ok {es : List Ev} (hok : EvsOk es) (h60 : es.length ≤ 60) (k : Nat) (hk : k < es.length) : ckOk (clk 4 es k) := by
  obtain ⟨-, hl, hb, -⟩ := clk_own hok (ev_who hok) k hk
  intro x hx
  obtain ⟨j, hj, rfl⟩ := List.mem_iff_getElem.1 hx
  have h := hb j
  have h2 := (evCount_le (es.take (k + 1)) j).2
  have h3 : (es.take (k + 1)).length ≤ 60 := by simp; omega
  simp only [List.getD_eq_getElem?_getD, List.getElem?_eq_getElem hj, Option.getD_some] at h
  omega
set_option maxRecDepth 100000 in
set_option maxHeartbeats 8000000 in
theorem walk (w : World) (v0 : Value) (l : List Ev) (A0 : Has w 3 v0 l.length (evs l) ∧ ∀ a ∈ l, True) :
    Calls Try.prog 9 #[v0] w fun e w' => e = .returned (.bool true) ∧ Below w.heap.size w w' := by
  have h0 := Lib.hid A0.1
  clear A0
  go_enter Try.func9, Try.ntmps9
  go_wp2_with fail
  refine (cevents v0 l 60 w h0.out (by omega)).mono ?_
  rintro e w1 ⟨ve, rfl, hown, hb1⟩
  have hes := events_ok l 60
  generalize events l 60 = es at *
  obtain ⟨hok, hel⟩ := hes
  have hel60 : es.length ≤ 60 := by omega
  have Hok := Lib.hid hok
  obtain ⟨ae, ce, rfl⟩ := owns_slice hown
  have He := Lib.hid (Has.of_owns hown)
  have Hb1 := Lib.hid hb1
  have hsz1 := hb1.size
  clear hok hel hown hb1
  go_wp2_with (refine wp_appN (w0 := w1) 62 69 3 24 _ elEvent Try.underlying62 w1.heap.size _ _ _ (World.ownsRow_nil _ _ _ _) (by repeat (first | exact Below.refl _ _ | refine Below.drew ?_ | refine Below.alloc ?_ (by first | (simp; done) | (simp; omega)) _ | refine Below.setCell ?_ (by first | (simp; done) | (simp; omega)) _)) _ _ _ He.out rfl _ _ rfl rfl rfl (evs_one _) (by omega) (by unfold maxLen; omega) (Nat.le_refl _) ?_; intro v2 w2 hown2 hgrow2 hb2)
  rw [List.nil_append, Nat.zero_add] at hown2
  have Hp := Lib.hid (Has.of_owns hown2)
  have He2 := Lib.hid (He.out.below hb2)
  have Hb2 := Lib.hid (Hb1.out.trans (hb2.mono hsz1))
  clear hown2 hgrow2 hb2 He Hb1 hsz1
  refine (cckPlay 4 v2 es w2 Hp.out Hok.out (ev_who Hok.out) (by omega) (by omega) (by omega)).mono ?_
  rintro e w3 ⟨vc, vs, rfl, hown, hr, hb3⟩
  obtain ⟨ac, cc, rfl⟩ := owns_slice hown
  have HC3 := Lib.hid (Has.of_owns hown)
  have HR3 := Lib.hid hr
  have He3 := Lib.hid (He2.out.below hb3)
  have Hb3 : Hid (Below w.heap.size w w3) := Hb2.out.trans (hb3.mono Hb2.out.size)
  clear hown hr hb3 He2 Hp Hb2 h0
  have EV : Hid (∀ X, Below w3.heap.size w3 X → ∀ i (hi : i < es.length), ∃ be oe, ae = some ⟨be, oe, none⟩ ∧ (X.cell? ⟨be, oe + i * 3, none⟩ = some (.int .i64 es[i].kind) ∧ X.cell? ⟨be, oe + i * 3 + 1, none⟩ = some (.int .i64 es[i].who) ∧ X.cell? ⟨be, oe + i * 3 + 2, none⟩ = some (.int .i64 es[i].of')) ∧ es.length ≤ ce ∧ ce ≤ maxLen) := fun X hX i hi => by
    obtain ⟨⟨_, _⟩, ad, cap, he, h1, h2, hec⟩ := He3.out
    simp only [Value.slice.injEq] at he
    obtain ⟨rfl, -, rfl⟩ := he
    obtain ⟨be, oe, rfl, hecc⟩ := hec (by simp [evs, flat_length Ev.cells 3 Ev.cells_length]; omega)
    have e0 := hecc (i * 3 + 0) (.int .i64 es[i].kind) (by unfold evs; rw [flat_get Ev.cells 3 Ev.cells_length es i hi 0 (by omega)]; rfl)
    have e1 := hecc (i * 3 + 1) (.int .i64 es[i].who) (by unfold evs; rw [flat_get Ev.cells 3 Ev.cells_length es i hi 1 (by omega)]; rfl)
    have e2 := hecc (i * 3 + 2) (.int .i64 es[i].of') (by unfold evs; rw [flat_get Ev.cells 3 Ev.cells_length es i hi 2 (by omega)]; rfl)
    rw [Nat.add_zero] at e0
    rw [← Nat.add_assoc] at e1 e2
    exact ⟨be, oe, rfl, ⟨cell_on hX e0, cell_on hX e1, cell_on hX e2⟩, h1, h2⟩
  have hcen : es.length ≤ ce ∧ ce ≤ maxLen := by
    obtain ⟨⟨_, _⟩, ad, cap, he, h1, h2, hec⟩ := He3.out
    simp only [Value.slice.injEq] at he
    obtain ⟨rfl, -, rfl⟩ := he
    exact ⟨h1, h2⟩
  have mk := fun X => run_mk infoBool Try.underlying67 rfl X es.length (by omega) (by omega)
  have hnn : ((es.length : Int) != (es.length : Int)) = false := by simp
  clear He3
  go_wp2_with fail
  go_loopw [6, 7] (fun v i wr => ∃ (m : Nat) (rs : List Value), m ≤ es.length ∧ i = .int .i64 m ∧ WayAt w3 wr es m v rs) (fun _ i _ => es.length - (intOf i).toNat)
  case atStart => exact ⟨0, [], by omega, rfl, World.ownsRow_nil _ _ _ _, Each.nil _, Below.refl _ _⟩
  case round =>
    obtain ⟨i, rs, hi, rfl, hA⟩ := hrel
    have HA := Lib.hid hA
    clear hA
    by_cases hlt : i < es.length
    · obtain ⟨w9, rfl⟩ : ∃ x, x = wr := ⟨_, rfl⟩
      obtain ⟨va, rfl⟩ : ∃ x, x = u6 := ⟨_, rfl⟩
      have hto : (w9.alloc (.cells (List.replicate es.length (Value.bool false)).toArray 4)).ownsRow w9.heap.size 4 1 (.slice (some ⟨w9.heap.size, 0, none⟩) es.length es.length) es.length (bools es.length (upB es i 0)) := by
        rw [← upB_zero, ← bools_none]
        exact owns_block (wp := w9) (heap_alloc_new _ _) rfl (by simp) (by unfold maxLen; omega) (Nat.le_refl _)
      have Hto := Lib.hid hto
      clear hto
      go_wp2_with fail
      go_loopw [9] (fun k wr => ∃ m : Nat, m ≤ i ∧ k = .int .i64 m ∧ wr.ownsRow w9.heap.size 4 1 (.slice (some ⟨w9.heap.size, 0, none⟩) es.length es.length) es.length (bools es.length (upB es i m)) ∧ Below w9.heap.size w9 wr) (fun k _ => i - (intOf k).toNat)
      case atStart => exact ⟨0, by omega, rfl, Hto.out, (Below.refl _ _).alloc (Nat.le_refl _) _⟩
      case round =>
        clear Hto
        obtain ⟨k, hk, rfl, hown, hb⟩ := hrel
        have Hown := Lib.hid hown
        have Hb := Lib.hid hb
        by_cases hki : k < i
        · have hkl : k < es.length := by omega
          have hbx := HA.out.hb.trans (hb.mono HA.out.hb.size)
          obtain ⟨be, oe, rfl, ⟨-, x1, -⟩, -⟩ := EV.out wr hbx k hkl
          obtain ⟨be', oe', he, ⟨y0, y1, y2⟩, -⟩ := EV.out wr hbx i hlt
          simp only [Option.some.injEq, Addr.mk.injEq, and_true] at he
          obtain ⟨rfl, rfl⟩ := he
          have hst := tellStep_iff hlt hkl
          generalize es[k].who = wk at *
          generalize es[i].who = wi at *
          generalize es[i].kind = ki at *
          generalize es[i].of' = oi at *
          have Hst := Lib.hid hst
          clear hst hown hb hbx
          by_cases c1 : wk = wi
          case' pos =>
            have hS : Hid (TellStep es i k) := Hst.out.2 (.inl c1)
            have d1 : (wk == wi) = true := by simpa using c1
            clear Hst c1
            go_upto_region 13 with (fail)
            go_quiet (fail)
            clear d1
          case' neg =>
            have d1 : (wk == wi) = false := by simpa using c1
            by_cases c2 : ki = 3 ∧ oi = k
            case' pos =>
              have hS : Hid (TellStep es i k) := Hst.out.2 (.inr c2)
              obtain ⟨rfl, rfl⟩ := c2
              have d3 : ((k : Int) == (k : Int)) = true := by simp
              clear Hst c1
              go_upto_region 13 with (fail)
              go_quiet (fail)
              clear d1 d3
            case' neg =>
              have hS : Hid (¬ TellStep es i k) := fun h => by
                rcases Hst.out.1 h with h | h
                · exact c1 h
                · exact c2 h
              have hrel' : Hid ((wr.ownsRow w9.heap.size 4 1 (.slice (some ⟨w9.heap.size, 0, none⟩) es.length es.length) es.length (bools es.length (upB es i (k + 1))))) := by rw [← upB_skip hS.out]; exact Hown.out
              by_cases c3 : ki = 3
              · have c4 : ¬ oi = k := fun h => c2 ⟨c3, h⟩
                subst c3
                have d3 : (oi == (k : Int)) = false := by simpa using c4
                clear Hst c1 c2 c4
                go_upto_region 13 with (fail)
                go_quiet (fail)
                go_wp2_with fail
                go_roundw
                case rel => exact ⟨k + 1, by omega, by go_num, owns_below hrel'.out (below_drewN (Below.refl _ _) _), below_drewN Hb.out _⟩
                case measure => simp [intOf]; omega
              · have d2 : (ki == 3) = false := by simpa using c3
                clear Hst c1 c2 c3
                go_upto_region 13 with (fail)
                go_quiet (fail)
                go_wp2_with fail
                go_roundw
                case rel => exact ⟨k + 1, by omega, by go_num, owns_below hrel'.out (below_drewN (Below.refl _ _) _), below_drewN Hb.out _⟩
                case measure => simp [intOf]; omega
          all_goals
            have hbn : Below wr.heap.size wr (wr.drewN nq) := below_drewN (Below.refl _ _) _
            have Hown2 := Lib.hid (owns_below Hown.out hbn)
            have Hb2 : Hid (Below w9.heap.size w9 (wr.drewN nq)) := below_drewN Hb.out _
            clear x1 y0 y1 y2 hbn
            generalize wr.drewN nq = w8 at *
            obtain ⟨g', cp', he, hgg, hg3, hgf, hgc⟩ := owns_some Hown2.out (by omega)
            simp only [Value.slice.injEq, Option.some.injEq, Addr.mk.injEq, and_true, true_and] at he
            obtain ⟨rfl, rfl⟩ := he
            have t1 := hgc k _ (bools_get _ _ k hkl)
            have tf := hgf k
            have Hm0 : Hid ((w8.setCell ⟨w9.heap.size, k, none⟩ (.bool true)).ownsRow w9.heap.size 4 1 (.slice (some ⟨w9.heap.size, 0, none⟩) es.length es.length) es.length (bools es.length (midB es i k 0))) := by
              have h := owns_set Hown2.out k (.bool true)
              rw [bools_set, midB_zero] at h
              exact h
            have Hbm : Hid (Below w9.heap.size w9 (w8.setCell ⟨w9.heap.size, k, none⟩ (.bool true))) := Hb2.out.setCell (Nat.le_refl _) _
            clear hgf hgc hgg hg3 Hown2 Hb2
            go_wp2_with fail
            generalize w8.setCell ⟨w9.heap.size, k, none⟩ (.bool true) = w7 at *
            go_loopw [11] (fun j wr => ∃ m : Nat, m ≤ k ∧ j = .int .i64 m ∧ wr.ownsRow w9.heap.size 4 1 (.slice (some ⟨w9.heap.size, 0, none⟩) es.length es.length) es.length (bools es.length (midB es i k m)) ∧ Below w9.heap.size w9 wr) (fun j _ => k - (intOf j).toNat)
            case atStart => exact ⟨0, by omega, rfl, Hm0.out, Hbm.out⟩
            case round =>
              clear Hm0 Hbm t1 tf
              obtain ⟨j, hj, rfl, hown, hb⟩ := hrel
              have Hown := Lib.hid hown
              have Hb := Lib.hid hb
              by_cases hjk : j < k
              · have hjl : j < es.length := by omega
                obtain ⟨gv, cv, g, rfl, hcv, hcm, r1, r2⟩ := way_get (HA.out.on hb) k hki
                have r3 := r2 j hjl
                obtain ⟨g', cp', he, hgg, hg3, hgf, hgc⟩ := owns_some hown (by omega)
                simp only [Value.slice.injEq, Option.some.injEq, Addr.mk.injEq, and_true, true_and] at he
                obtain ⟨rfl, rfl⟩ := he
                have t1 := hgc j _ (bools_get _ _ j hjl)
                have tf := hgf j
                have Hstep : Hid (∀ b, b = (midB es i k j j || wayB es k j) → (wr.setCell ⟨w9.heap.size, j, none⟩ (.bool b)).ownsRow w9.heap.size 4 1 (.slice (some ⟨w9.heap.size, 0, none⟩) es.length es.length) es.length (bools es.length (midB es i k (j + 1)))) := fun b hb => by
                  subst hb
                  have h := owns_set Hown.out j (.bool (midB es i k j j || wayB es k j))
                  rw [bools_set, midB_step] at h
                  exact h
                clear hgf hgc hgg r2 hown hb
                unfold maxLen at hcm
                generalize hwb : wayB es k j = b2 at *
                cases hmb : midB es i k j j
                · rw [hmb] at t1 Hstep
                  clear hmb hwb
                  go_wp2_with fail
                  go_roundw
                  case rel => exact ⟨j + 1, by omega, by go_num, Hstep.out _ (by simp), Hb.out.setCell (Nat.le_refl _) _⟩
                  case measure => simp [intOf]; omega
                · rw [hmb] at t1 Hstep
                  clear hmb hwb r1 r3
                  go_wp2_with fail
                  go_roundw
                  case rel => exact ⟨j + 1, by omega, by go_num, Hstep.out _ (by simp), Hb.out.setCell (Nat.le_refl _) _⟩
                  case measure => simp [intOf]; omega
              · obtain rfl : j = k := by omega
                rw [midB_all hS.out] at Hown
                clear hown hb
                go_wp2_with fail
                go_roundw
                case rel => exact ⟨j + 1, by omega, by go_num, Hown.out, Hb.out⟩
                case measure => simp [intOf]; omega
        · obtain rfl : k = i := by omega
          rw [upB_all] at Hown
          have HA2 := Lib.hid (HA.out.on hb)
          have hsz := Hb.out.size
          clear hown hb
          go_wp2_with (at_builtin; refine wp_app1 (w0 := wr) 66 67 1 24 _ elBools Try.underlying66 w3.heap.size _ _ _ HA2.out.own (by repeat (first | exact Below.refl _ _ | refine Below.drew ?_ | refine Below.alloc ?_ (by first | (simp; done) | (simp; omega)) _ | refine Below.setCell ?_ (by first | (simp; done) | (simp; omega)) _)) [.slice (some ⟨w9.heap.size, 0, none⟩) es.length es.length] rfl _ _ rfl rfl rfl (by first | exact heap_alloc_new _ _ | (simp only [heap_drew, heap_drewN]; exact heap_alloc_new _ _)) (by simp) rfl rfl (by omega) (by omega) HA2.out.hb.size ?_; intro v3 w3 hown3 hgrow3 hb3)
          go_roundw
          case rel => exact ⟨k + 1, _, by omega, by go_num, way_next HA.out Hb.out Hown.out hown3 hgrow3 hb3⟩
          case measure => simp [intOf]; omega
    · obtain rfl : i = es.length := by omega
      clear mk EV
      obtain ⟨w9, rfl⟩ : ∃ x, x = wr := ⟨_, rfl⟩
      have CKA : Hid (∀ (X : World), Below w3.heap.size w3 X → ∀ k, k < es.length → ∃ bo oo ak pk, ac = some ⟨bo, oo, none⟩ ∧ es.length ≤ cc ∧ cc ≤ maxLen ∧ X.cell? ⟨bo, oo + k, none⟩ = some (.slice ak 4 pk) ∧ Ck X ak pk (clk 4 es k)) := fun X hX k hk => by
        obtain ⟨q1, q2, -, -⟩ := clk_own Hok.out (ev_who Hok.out) k hk
        obtain ⟨⟨hvl, _⟩, ad, cap, he, hc1, hc2, hoc⟩ := HC3.out
        simp only [Value.slice.injEq] at he
        obtain ⟨rfl, -, rfl⟩ := he
        have hkp : k < (ckPlay 4 es).length := (List.getElem?_eq_some_iff.1 q1).1
        obtain ⟨vk, hvk, hkr⟩ := Each.get HR3.out k hkp
        have hcc : (ckPlay 4 es)[k] = clk 4 es k := (List.getElem?_eq_some_iff.1 q1).2
        rw [hcc] at hkr
        have hvkl := (List.getElem?_eq_some_iff.1 hvk).1
        obtain ⟨bo, oo, rfl, hocc⟩ := hoc (by omega)
        have o1 := cell_on hX (hocc k _ hvk)
        obtain ⟨hl, a, p, rfl, r1, r2, r3⟩ := hkr.has.below hX
        rw [q2] at o1 r1
        exact ⟨bo, oo, a, p, rfl, hc1, hc2, o1, ⟨⟨⟨by simp, by have h := hl.2; rwa [q2] at h⟩, a, p, by rw [q2], by rw [q2]; exact r1, r2, r3⟩, q2, clk_ok Hok.out hel60 k hk⟩⟩
      have Htell := Lib.hid (fun (i : Nat) (hi : i < es.length) (k : Nat) (hk : k < i) => tells Hok.out (ev_who Hok.out) i hi k hk)
      go_wp2_with fail
      go_loopw [12] (fun i wr => ∃ m : Nat, m ≤ es.length ∧ i = .int .i64 m ∧ Below w9.heap.size w9 wr) (fun i _ => es.length - (intOf i).toNat)
      case atStart => exact ⟨0, by omega, rfl, Below.refl _ _⟩
      case round =>
        obtain ⟨i, hi, rfl, hb⟩ := hrel
        have Hbi := Lib.hid hb
        clear hb
        by_cases hii : i < es.length
        · go_wp2_with fail
          obtain ⟨w8, rfl⟩ : ∃ x, x = wr := ⟨_, rfl⟩
          go_loopw [13] (fun k wr => ∃ m : Nat, m ≤ i ∧ k = .int .i64 m ∧ Below w9.heap.size w9 wr) (fun k _ => i - (intOf k).toNat)
          case atStart => exact ⟨0, by omega, rfl, Hbi.out⟩
          case round =>
            obtain ⟨k, hk, rfl, hb⟩ := hrel
            have Hb := Lib.hid hb
            by_cases hki : k < i
            · have hkl : k < es.length := by omega
              have hb3 : Below w3.heap.size w3 wr := HA.out.hb.trans (hb.mono HA.out.hb.size)
              obtain ⟨bo, oo, ak, pk, rfl, hc1, hc2, o1, h1⟩ := CKA.out wr hb3 k hkl
              obtain ⟨bo', oo', ai, pi, he, -, -, o2, h2⟩ := CKA.out wr hb3 i hii
              simp only [Option.some.injEq, Addr.mk.injEq, and_true] at he
              obtain ⟨rfl, rfl⟩ := he
              have CO : Hid (∀ X : Ext wr, Calls Try.prog 13 #[.slice ak 4 pk, .slice ai 4 pi] X.1 fun e w' => e = .returned (.int .i64 (ckOrd (clk 4 es k) (clk 4 es i))) ∧ Below X.1.heap.size X.1 w') := fun X => ckOrder (h1.on X.2) (h2.on X.2)
              have ht := Htell.out i hii k hki
              unfold maxLen at hc2
              have p1 := ext_cell o1
              have p2 := ext_cell o2
              clear h1 h2 o1 o2
              go_upto_region 27 with (fail)
              refine wp_region_grow (by kernel_rfl) (by kernel_rfl) ?_
              repeat (go_big_quiet_step ((go_at_call 13; with_reducible exact grow_of (CO.out _))))
              refine wpQuiet_nil ?_
              intro w4 hb4
              have Hb4 : Hid (Below w9.heap.size w9 w4) := Hb.out.trans (hb4.mono Hb.out.size)
              obtain ⟨gv, cv, g, rfl, hcv, hcm, r1, r2⟩ := way_get (HA.out.on Hb4.out) i hii
              have r3 := r2 k hkl
              unfold maxLen at hcm
              clear p1 p2 hb4 r2 CO hb
              by_cases hw : Way es i k
              · rw [if_pos hw] at ht
                have hwb : wayB es i k = true := by unfold wayB; simpa using hw
                rw [hwb] at r3
                rw [ht]
                clear ht hw hwb
                go_wp2_with fail
                go_roundw
                case rel => exact ⟨k + 1, by omega, by go_num, Hb4.out⟩
                case measure => simp [intOf]; omega
              · rw [if_neg hw] at ht
                have hwb : wayB es i k = false := by unfold wayB; simpa using hw
                rw [hwb] at r3
                rw [ht]
                clear ht hw hwb
                go_wp2_with fail
                go_roundw
                case rel => exact ⟨k + 1, by omega, by go_num, Hb4.out⟩
                case measure => simp [intOf]; omega
            · obtain rfl : k = i := by omega
              go_wp2_with fail
              go_roundw
              case rel => exact ⟨k + 1, by omega, by go_num, Hb.out⟩
              case measure => simp [intOf]; omega
        · obtain rfl : i = es.length := by omega
          have HB : Hid (Below w.heap.size w wr) := (Hb3.out.trans (HA.out.hb.mono Hb3.out.size)).trans (Hbi.out.mono (Nat.le_trans Hb3.out.size HA.out.hb.size))
          clear Htell CKA Hbi HA
          go_wp2_with fail
          refine (cckPlay 1 _ [⟨1, 0, 0⟩] _ (has_block (by first | exact heap_alloc_new _ _ | (simp only [heap_drew, heap_drewN]; exact heap_alloc_new _ _)) rfl (by rfl) (by decide)) one_ok (fun x hx => by simp at hx; subst hx; decide) (by omega) (by omega) (by decide)).mono ?_
          rintro e w4 ⟨vo, vs1, rfl, hown, hr, hb4⟩
          have hb34 : Below wr.heap.size wr w4 := ((Below.refl _ _).alloc (Nat.le_refl _) _).trans (hb4.mono (by simp))
          obtain ⟨go, co, rfl, -, hgo, -, hgc⟩ := owns_some hown (by decide)
          rw [one_play] at hr
          obtain ⟨vi, hvi, hir⟩ := Each.get hr 0 (by decide)
          have o1 := hgc 0 _ hvi
          have Hi := Lib.hid hir.has
          have Hb4 : Hid (Below w.heap.size w w4) := HB.out.trans (hb34.mono HB.out.size)
          clear hgc hvi hir hr hown hb4 hb34 HB
          go_wp2_with (go_at_call 12; refine (csame1 _ _ [1] _ (Has.below Hi.out ((Below.refl _ _).alloc (Nat.le_refl _) _)) (has_block (by first | exact heap_alloc_new _ _ | (simp only [heap_drew, heap_drewN]; exact heap_alloc_new _ _)) rfl (by rfl) (by decide))).mono ?_; rintro e w5 ⟨rfl, hb5⟩)
          have hb45 : Below w4.heap.size w4 w5 := ((Below.refl _ _).alloc (Nat.le_refl _) _).trans (hb5.mono (by simp))
          go_ret
          exact ⟨rfl, Hb4.out.trans (hb45.mono Hb4.out.size)⟩
end Go.Proofs.Ytkeefpeffeoakaa.clockTells
