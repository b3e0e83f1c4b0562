/- ClockOwn: the walk. -/
import Derived.Test.YtjinbcbpaoophaaEvents
import Derived.Test.YtjinbcbpaoophaaSameI
import Derived.Test.YtjinbcbpaoophaaApp
namespace Go.Proofs.Ytjinbcbpaoophaa.clockOwn
open Go.ChangeShapes Go.WideShapes Go.ChangeAt Go.RowKit
set_option linter.unusedVariables false

theorem evs_one (l : List Ev) : (evs l).all Value.oneCell' = true := by
  rw [List.all_eq_true]; intro v hv
  simp only [evs, List.mem_flatMap] at hv
  obtain ⟨p, _, h⟩ := hv
  simp [Ev.cells] at h
  rcases h with rfl | rfl | rfl <;> rfl
theorem ev_who {l : List Ev} (h : EvsOk l) : ∀ x ∈ l, x.who < (4 : Nat) := fun x hx => by
  obtain ⟨i, hi, rfl⟩ := List.mem_iff_getElem.1 hx
  have := (h i _ (List.getElem?_eq_getElem hi)).2.2.2.1
  omega
theorem one_ok : EvsOk [⟨1, 0, 0⟩] := fun i x hx => by
  have : i = 0 := by have := (List.getElem?_eq_some_iff.1 hx).1; simp at this; omega
  subst this
  simp at hx
  subst hx
  exact ⟨by simp, by simp, by simp, by simp, fun e => by simp at e⟩
theorem one_play : ckPlay 1 [⟨1, 0, 0⟩] = [[1]] := rfl
/-- What holds of the clock of event i. -/
theorem own_at {es : List Ev} (h : EvsOk es) (i : Nat) (hi : i < es.length) : ∃ c, (ckPlay 4 es)[i]? = some c ∧ c.length = 4 ∧ (∀ k (hk : k < c.length), 0 ≤ c[k] ∧ c[k] ≤ evCount (es.take (i + 1)) k) ∧ c.getD es[i].who.toNat 0 = evCount (es.take (i + 1)) es[i].who.toNat := by
  have hI := ckFold_ok 4 es h (ev_who h) es.length (Nat.le_refl _)
  rw [List.take_length] at hI
  have hl : i < (ckPlay 4 es).length := by rw [show (ckPlay 4 es).length = es.length from hI.outs]; exact hi
  obtain ⟨h1, h2⟩ := hI.out i _ es[i] (List.getElem?_eq_getElem hl) (List.getElem?_eq_getElem hi)
  exact ⟨_, List.getElem?_eq_getElem hl, h1.1, h1.2, h2⟩
/-- Counts of the events so far. -/
def CntAt (es : List Ev) (k : Nat) (cl : List Int) : Prop := cl.length = 4 ∧ ∀ j (h : j < cl.length), cl[j] = evCount (es.take k) j
theorem CntAt.next {es : List Ev} {k : Nat} {cl : List Int} (h : CntAt es k cl) (hk : k < es.length) (who : Nat) (hw : es[k].who.toNat = who) (hw4 : who < cl.length) : CntAt es (k + 1) (cl.set who (cl[who] + 1)) := by
  refine ⟨by simpa using h.1, fun j hj => ?_⟩
  have hj' : j < cl.length := by simpa using hj
  rw [take_snoc _ _ hk, evCount_snoc, hw, List.getElem_set]
  by_cases e : who = j
  · subst e; rw [if_pos rfl, if_pos rfl, h.2 who hw4]
  · rw [if_neg e, if_neg e, h.2 j hj']; omega
theorem csame1 (v1 v2 : Value) (E : List Int) (w : World) (h1 : Has w 1 v1 E.length (ints E)) (h2 : Has w 1 v2 E.length (ints E)) :
    Calls Try.prog 32 #[v1, v2] w fun e w' => e = .returned (.bool true) ∧ Below w.heap.size w w' :=
  (csameInts v1 v2 E E w h1 h2).mono fun _ _ h => by simpa using h
set_option maxRecDepth 100000 in
set_option maxHeartbeats 4000000 in
theorem walk (w : World) (v0 : Value) (l : List Ev) (A0 : Has w 3 v0 l.length (evs l) ∧ ∀ a ∈ l, True) :
    Calls Try.prog 16 #[v0] w fun e w' => e = .returned (.bool true) ∧ Below w.heap.size w w' := by
  have h0 := Lib.hid A0.1
  clear A0
  have hmk : ∀ w, (Instr.makeSlice 29 (.int .i64 4) (.int .i64 4)).run Try.prog w = .ok (.slice (some ⟨w.heap.size, 0, none⟩) 4 4) (w.alloc (.cells #[.int .i64 0, .int .i64 0, .int .i64 0, .int .i64 0] 3)) := fun _ => by kernel_rfl
  go_enter Try.func16, Try.ntmps16
  go_wp2_with fail
  refine (cevents v0 l 60 w h0.out (by omega)).mono ?_
  rintro e w1 ⟨ve, rfl, hown, hb1⟩
  have hes := events_ok l 60
  generalize events l 60 = es at *
  obtain ⟨hok, hel⟩ := hes
  have hel60 : es.length ≤ 60 := by omega
  have Hok := Lib.hid hok
  obtain ⟨ae, ce, rfl⟩ := owns_slice hown
  have He := Lib.hid (Has.of_owns hown)
  have Hb1 := Lib.hid hb1
  have hsz1 := hb1.size
  clear hok hel hown hb1
  go_wp2_with (refine wp_appN (w0 := w1) 57 63 3 24 _ elEvent Try.underlying57 w1.heap.size _ _ _ (World.ownsRow_nil _ _ _ _) (by repeat (first | exact Below.refl _ _ | refine Below.drew ?_ | refine Below.alloc ?_ (by first | (simp; done) | (simp; omega)) _ | refine Below.setCell ?_ (by first | (simp; done) | (simp; omega)) _)) _ _ _ He.out rfl _ _ rfl rfl rfl (evs_one _) (by omega) (by unfold maxLen; omega) (Nat.le_refl _) ?_; intro v2 w2 hown2 hgrow2 hb2)
  rw [List.nil_append, Nat.zero_add] at hown2
  have Hp := Lib.hid (Has.of_owns hown2)
  have He2 := Lib.hid (He.out.below hb2)
  have Hb2 := Lib.hid (Hb1.out.trans (hb2.mono hsz1))
  clear hown2 hgrow2 hb2 He Hb1 hsz1
  refine (cckPlay 4 v2 es w2 Hp.out Hok.out (ev_who Hok.out) (by omega) (by omega) (by omega)).mono ?_
  rintro e w3 ⟨vc, vs, rfl, hown, hr, hb3⟩
  obtain ⟨ac, cc, rfl⟩ := owns_slice hown
  have HC3 := Lib.hid (Has.of_owns hown)
  have HR3 := Lib.hid hr
  have He3 := Lib.hid (He2.out.below hb3)
  have Hb3 : Hid (Below w.heap.size w w3) := Hb2.out.trans (hb3.mono Hb2.out.size)
  clear hown hr hb3 He2 Hp Hb2
  go_wp2_with fail
  refine (cckPlay 1 _ [⟨1, 0, 0⟩] _ (has_block (by first | exact heap_alloc_new _ _ | (simp only [heap_drew, heap_drewN]; exact heap_alloc_new _ _)) rfl (by rfl) (by decide)) one_ok (fun x hx => by simp at hx; subst hx; decide) (by omega) (by omega) (by decide)).mono ?_
  rintro e w4 ⟨vo, vs1, rfl, hown, hr, hb4⟩
  have hb34 : Below w3.heap.size w3 w4 := ((Below.refl _ _).alloc (Nat.le_refl _) _).trans (hb4.mono (by simp))
  obtain ⟨go, co, rfl, -, hgo, -, hgc⟩ := owns_some hown (by decide)
  rw [one_play] at hr
  obtain ⟨vi, hvi, hir⟩ := Each.get hr 0 (by decide)
  have o1 := hgc 0 _ hvi
  have Hi := Lib.hid hir.has
  have HC4 := Lib.hid (HC3.out.below hb34)
  have HR4 := Lib.hid (HR3.out.below hb34)
  have He4 := Lib.hid (He3.out.below hb34)
  have Hb4 : Hid (Below w.heap.size w w4) := Hb3.out.trans (hb34.mono Hb3.out.size)
  clear hgc hvi hir hr hown hb4 hb34 HC3 HR3 He3 Hb3 h0
  go_wp2_with (go_at_call 32; refine (csame1 _ _ [1] _ (Has.below Hi.out ((Below.refl _ _).alloc (Nat.le_refl _) _)) (has_block (by first | exact heap_alloc_new _ _ | (simp only [heap_drew, heap_drewN]; exact heap_alloc_new _ _)) rfl (by rfl) (by decide))).mono ?_; rintro e w5 ⟨rfl, hb5⟩)
  have hb45 : Below w4.heap.size w4 w5 := ((Below.refl _ _).alloc (Nat.le_refl _) _).trans (hb5.mono (by simp))
  have HC5 := Lib.hid (HC4.out.below hb45)
  have HR5 := Lib.hid (HR4.out.below hb45)
  have He5 := Lib.hid (He4.out.below hb45)
  have Hb5 : Hid (Below w.heap.size w w5) := Hb4.out.trans (hb45.mono Hb4.out.size)
  clear hb5 hb45 HC4 HR4 He4 Hb4 Hi o1 hgo
  go_loopw [9, 10] (fun i _ wr => ∃ (k : Nat) (cl : List Int), k ≤ es.length ∧ i = .int .i64 k ∧ CntAt es k cl ∧ wr.ownsRow w5.heap.size 3 1 (.slice (some ⟨w5.heap.size, 0, none⟩) 4 4) 4 (ints cl) ∧ Below w5.heap.size w5 wr) (fun i _ _ => es.length - (intOf i).toNat)
  case atStart => exact ⟨0, [0, 0, 0, 0], by omega, rfl, ⟨rfl, fun j hj => by
    have : evCount (es.take 0) j = 0 := rfl
    rw [this]
    match j, hj with
    | 0, _ => rfl
    | 1, _ => rfl
    | 2, _ => rfl
    | 3, _ => rfl⟩, owns_block (by first | exact heap_alloc_new _ _ | (simp only [heap_drew, heap_drewN]; exact heap_alloc_new _ _)) rfl (by simp) (by decide) (Nat.le_refl _), (by repeat (first | exact Below.refl _ _ | refine Below.drew ?_ | refine Below.alloc ?_ (by first | (simp; done) | (simp; omega)) _ | refine Below.setCell ?_ (by first | (simp; done) | (simp; omega)) _))⟩
  case round =>
    obtain ⟨k, cl, hk, rfl, hcl, hown, hb⟩ := hrel
    have Hcl := Lib.hid hcl
    have Hown := Lib.hid hown
    have Hb := Lib.hid hb
    clear hmk
    by_cases hlt : k < es.length
    · obtain ⟨c, hci, hc4, hcu, hcw⟩ := own_at Hok.out k hlt
      obtain ⟨vk, hvk, hkr⟩ := Each.get HR5.out k (by have := (List.getElem?_eq_some_iff.1 hci).1; exact this)
      have hcc : (ckPlay 4 es)[k]'(List.getElem?_eq_some_iff.1 hci).1 = c := (List.getElem?_eq_some_iff.1 hci).2
      rw [hcc] at hkr
      obtain ⟨h1, h2, h3, h4, h5⟩ := Hok.out k _ (List.getElem?_eq_getElem hlt)
      obtain ⟨who, hwho⟩ := Int.eq_ofNat_of_zero_le h3
      obtain ⟨⟨_, _⟩, ad, cap, he, _, _, hec⟩ := He5.out
      simp only [Value.slice.injEq] at he
      obtain ⟨rfl, -, -⟩ := he
      obtain ⟨be, offe, rfl, hecc⟩ := hec (by simp [evs, flat_length Ev.cells 3 Ev.cells_length]; omega)
      have e1 := hecc (k * 3 + 1) (.int .i64 es[k].who) (by unfold evs; rw [flat_get Ev.cells 3 Ev.cells_length es k hlt 1 (by omega)]; rfl)
      rw [← Nat.add_assoc] at e1
      obtain ⟨⟨hvl, _⟩, ad, cap, he, _, _, hoc⟩ := HC5.out
      simp only [Value.slice.injEq] at he
      obtain ⟨rfl, -, -⟩ := he
      obtain ⟨bo, offo, rfl, hocc⟩ := hoc (by omega)
      have o1 := hocc k _ hvk
      obtain ⟨⟨_, _⟩, ai, capi, rfl, _, _, hic⟩ := hkr.has
      obtain ⟨bi, offi, rfl, hicc⟩ := hic (by simp; omega)
      have hw4 : who < 4 := by omega
      have hwc : who < cl.length := by rw [hcl.1]; omega
      have hwcc : who < c.length := by omega
      obtain ⟨g', cp', he, hgg, hg3, hgf, hgc⟩ := owns_some hown (by omega)
      simp only [Value.slice.injEq, Option.some.injEq, Addr.mk.injEq, and_true, true_and] at he
      obtain ⟨rfl, rfl⟩ := he
      have c1 := hgc who _ (ints_get cl who hwc)
      have cf := hgf who
      have e1r := cell_on (hb.mono (Nat.le_refl _)) e1
      have hne : be ≠ w5.heap.size := by have := World.block_lt_of_cell? w5 _ e1; simp only at this; omega
      have Hnx := Lib.hid (hcl.next hlt who (by rw [hwho]; rfl) hwc)
      have hcnt : 0 ≤ cl[who] ∧ cl[who] ≤ 60 := by
        rw [hcl.2 who hwc]
        have := evCount_le (es.take k) who
        have : (es.take k).length ≤ 60 := by simp; omega
        omega
      have hceq : c[who] = cl[who] + 1 := by
        have hx := Hnx.out.2 who (by simpa using hwc)
        rw [List.getElem_set_self] at hx
        rw [hx]
        rw [hwho] at hcw
        have e : c.getD who 0 = c[who] := by simp [List.getD_eq_getElem?_getD, hwcc]
        rw [← e]
        exact hcw
      have Hcu := Lib.hid <| show ∀ j (hj : j < c.length) (hj2 : j < (cl.set who (cl[who] + 1)).length), 0 ≤ c[j] ∧ c[j] ≤ (cl.set who (cl[who] + 1))[j] from fun j hj hj2 => by
        have hx := Hnx.out.2 j hj2
        rw [hx]
        exact hcu j hj
      have hnl := Lib.hid Hnx.out.1
      rw [hwho] at e1 e1r
      have Hec1 := Lib.hid e1
      have Ho1 := Lib.hid o1
      have Hic := Lib.hid hicc
      rw [hc4] at Ho1
      have Hc4 := Lib.hid hc4
      clear hgf hgc hecc hec hocc hoc hic hicc hcu hcw hci hvk hkr hcc hown hb hgg hvl h5 hwho hcl e1 o1
      clear hc4
      go_upto_region 11 with (fail)
      have hown2 := owns_set Hown.out who (.int .i64 (cl[who] + 1))
      rw [ints_set] at hown2
      have hb2 : Below w5.heap.size w5 (wr.setCell ⟨w5.heap.size, who, none⟩ (.int .i64 (cl[who] + 1))) := Hb.out.setCell (Nat.le_refl _) _
      have hset : (cl.set who (cl[who] + 1))[who]? = some (cl[who] + 1) := by simp [hwc]
      generalize wr.setCell ⟨w5.heap.size, who, none⟩ (.int .i64 (cl[who] + 1)) = W2 at *
      generalize cl.set who (cl[who] + 1) = cl2 at *
      generalize cl[who] + 1 = z at *
      obtain ⟨g', cp', he, hgg, hg3', hgf, hgc⟩ := owns_some hown2 (by omega)
      simp only [Value.slice.injEq, Option.some.injEq, Addr.mk.injEq, and_true, true_and] at he
      obtain ⟨rfl, rfl⟩ := he
      have f1 := cell_on (hb2.mono (Nat.le_refl _)) Hec1.out
      have f2 := cell_on (hb2.mono (Nat.le_refl _)) Ho1.out
      have f3 := cell_on (hb2.mono (Nat.le_refl _)) (Hic.out who _ (ints_get c who hwcc))
      rw [hceq] at f3
      have f4 := hgc who (.int .i64 z) (by simp [ints, hset])
      have Hown2 := Lib.hid hown2
      have Hb2 := Lib.hid hb2
      have Hgc := Lib.hid hgc
      clear c1 cf e1r hne hcnt hceq hset hown2 hb2 hgg hgf hgc Hown Hb Hcl hg3 hwcc
      go_quiet (fail)
      clear f1 f3 f4 f2
      have Hf2 := Lib.hid Ho1.out
      go_wp2_with fail
      go_loopw [10] (fun i wq => ∃ m : Nat, m ≤ 4 ∧ i = .int .i64 m ∧ Below W2.heap.size W2 wq) (fun i _ => 4 - (intOf i).toNat)
      case atStart => exact ⟨0, by omega, rfl, below_drewN (Below.refl _ _) _⟩
      case round =>
        obtain ⟨m, hm, rfl, hbq⟩ := hrel
        have Hbq := Lib.hid hbq
        clear hbq
        by_cases hm4 : m < 4
        · have hmc : m < c.length := by have := Hc4.out; omega
          have hmc2 : m < cl2.length := by have := hnl.out; omega
          have q2 := cell_on Hbq.out (cell_on (Hb2.out.mono (Nat.le_refl _)) Hf2.out)
          have q3 := cell_on Hbq.out (cell_on (Hb2.out.mono (Nat.le_refl _)) (Hic.out m _ (ints_get c m hmc)))
          have q4 := cell_on Hbq.out (Hgc.out m _ (ints_get cl2 m hmc2))
          obtain ⟨z1, z2⟩ := Hcu.out m hmc hmc2
          generalize c[m] = x at *
          generalize cl2[m] = y at *
          have d1 : decide (x < 0) = false := by simp; omega
          have d2 : decide (y < x) = false := by simp; omega
          clear hmc hmc2
          go_wp2_with fail
          go_quiet (fail)
          go_wp2_with fail
          go_roundw
          case rel => exact ⟨m + 1, by omega, by go_num, below_drewN Hbq.out _⟩
          case measure => simp [intOf]; omega
        · go_wp2_with fail
          go_roundw
          case rel => exact ⟨k + 1, cl2, by omega, by go_num, Hnx.out, owns_below Hown2.out Hbq.out, Hb2.out.trans (Hbq.out.mono Hb2.out.size)⟩
          case measure => simp [intOf]; omega
    · clear Hok
      go_wp2
      go_ret
      exact ⟨rfl, Hb5.out.trans (Hb.out.mono Hb5.out.size)⟩
end Go.Proofs.Ytjinbcbpaoophaa.clockOwn
