/- Package seal: the laws' mailed, sealSure. -/
import Derived.Test.YtgidichmphniaaaSealQ
import Derived.Test.YtgidichmphniaaaSame
namespace Go.Proofs.Ytgidichmphniaaa
open Go.ChangeShapes Go.WideShapes Go.ChangeAt Go.RowKit
set_option linter.unusedVariables false
set_option linter.unusedSimpArgs false

theorem mvs_one {w : World} {lv : List MV} {l : List Mv} (h : Both (MvAt w) lv l) : (mvs lv).all Value.oneCell' = true := by
  rw [List.all_eq_true]; intro v hv
  simp only [mvs, List.mem_flatMap] at hv
  obtain ⟨p, hp, hv⟩ := hv
  obtain ⟨i, hi, rfl⟩ := List.mem_iff_getElem.1 hp
  obtain ⟨b, _, r⟩ := h.get' i hi
  obtain ⟨_, a, c, hx, _⟩ := r.d.has
  simp only [MV.cells, List.mem_cons, List.not_mem_nil, or_false] at hv
  rcases hv with rfl | rfl | rfl | rfl | rfl
  · rfl
  · rfl
  · rfl
  · rfl
  · rw [hx]; rfl
theorem both_on {w w' : World} {lv : List MV} {l : List Mv} (h : Both (MvAt w) lv l) (hb : Below w.heap.size w w') : Both (MvAt w') lv l := h.mono fun a b _ _ r => ⟨r.kind, r.f, r.t, r.id, r.d.below hb⟩
theorem outs_on {w w' : World} {ov : List OV} {l : List Out} (h : Both (OutAt w) ov l) (hb : Below w.heap.size w w') : Both (OutAt w') ov l := h.mono fun a b _ _ r => ⟨r.code, r.id, r.size, r.d.below hb⟩
set_option maxRecDepth 100000 in
set_option maxHeartbeats 4000000 in
theorem cmailed (v : Value) (lv : List MV) (l : List Mv) (w : World) (h : Has w 5 v l.length (mvs lv)) (hB : Both (MvAt w) lv l) (hok : ∀ x ∈ l, x.Ok) (hlen : l.length ≤ 300) :
    Calls Try.prog 7 #[v] w fun e w' => ∃ v' ov, e = .returned (.tuple #[v', .bool true]) ∧ w'.ownsRow w.heap.size 35 4 v' l.length (ovs ov) ∧ Both (OutAt w') ov (sOuts l) ∧ Below w.heap.size w w' := by
  have H := Lib.hid h
  have HB := Lib.hid hB
  have Hok := Lib.hid hok
  have H1 := Lib.hid (mvs_one hB)
  obtain ⟨_, ad, cap, rfl, _, _, _⟩ := h
  clear hok hB
  go_enter Try.func7, Try.ntmps7
  go_wp2_with (refine wp_appN (w0 := w) 23 32 5 56 _ elLetterA Try.underlying23 w.heap.size _ _ _ (World.ownsRow_nil _ _ _ _) (by repeat (first | exact Below.refl _ _ | refine Below.drew ?_ | refine Below.alloc ?_ (by first | (simp; done) | (simp; omega)) _ | refine Below.setCell ?_ (by first | (simp; done) | (simp; omega)) _)) _ _ _ H.out rfl _ _ rfl rfl rfl H1.out (by omega) (by unfold maxLen; omega) (Nat.le_refl _) ?_; intro v2 w2 hown2 hgrow2 hb2)
  rw [List.nil_append, Nat.zero_add] at hown2
  refine (csPlay v2 lv l w2 (Has.of_owns hown2) (both_on HB.out hb2) Hok.out hlen).mono ?_
  rintro e w3 ⟨v', ov, rfl, hown, hr, hb3⟩
  obtain ⟨a3, c3, rfl⟩ := owns_slice hown
  have hO := Lib.hid (owns_base hown hb2.size)
  have hR := Lib.hid hr
  have hb := Lib.hid (hb2.trans (hb3.mono hb2.size))
  have hnn : ((l.length : Int) == (l.length : Int)) = true := by simp
  clear hown hr hb3 hb2 hown2 hgrow2
  go_wp2_with fail
  go_ret2
  exact ⟨_, ov, rfl, hO.out, hR.out, hb.out⟩
/-- What answer k reads. -/
theorem ov_get {w : World} {base n : Nat} {v : Value} {ov : List OV} {l : List Out} (ho : w.ownsRow base 35 4 v n (ovs ov)) (hB : Both (OutAt w) ov l) (hn : l.length = n) (k : Nat) (hk : k < l.length) :
    ∃ g cap a c, v = .slice (some ⟨g, 0, none⟩) n cap ∧ (n ≤ cap ∧ cap ≤ maxLen) ∧ ((w.cell? ⟨g, k * 4, none⟩ = some (.int .i64 l[k].code) ∧ w.cell? ⟨g, k * 4 + 1, none⟩ = some (.int .i64 l[k].id)) ∧ w.cell? ⟨g, k * 4 + 2, none⟩ = some (.int .i64 l[k].size) ∧ w.cell? ⟨g, k * 4 + 3, none⟩ = some (.slice a l[k].d.length c)) ∧
      HasT w 5 1 (.slice a l[k].d.length c) l[k].d.length (u8s l[k].d) := by
  obtain ⟨_, _, _, he0, hc1, hc2, _⟩ := Has.of_owns ho
  obtain ⟨g, cap, rfl, _, _, _, hcc⟩ := owns_some ho (by omega)
  simp only [Value.slice.injEq] at he0
  obtain ⟨-, -, rfl⟩ := he0
  obtain ⟨x, hx, r⟩ := hB.get k hk
  have hkl : k < ov.length := (List.getElem?_eq_some_iff.1 hx).1
  have hxe : ov[k] = x := (List.getElem?_eq_some_iff.1 hx).2
  obtain ⟨xk, xf, xt, xv⟩ := x
  obtain ⟨_, ad, cd, hxv, _⟩ := r.d.has
  simp only at hxv
  subst hxv
  have gg := fun j (hj : j < 4) u (hu : OV.cells ⟨xk, xf, xt, .slice ad l[k].d.length cd⟩ = u) => hcc (k * 4 + j) ((u)[j]?.getD undef) (by unfold ovs; rw [flat_get OV.cells 4 OV.cells_length ov k hkl j hj, hxe, hu]; subst hu; match j, hj with
    | 0, _ => rfl
    | 1, _ => rfl
    | 2, _ => rfl
    | 3, _ => rfl)
  have e1 := r.code
  have e2 := r.id
  have e3 := r.size
  simp only at e1 e2 e3
  have g0 := gg 0 (by omega) _ rfl
  have g1 := gg 1 (by omega) _ rfl
  have g2 := gg 2 (by omega) _ rfl
  have g3 := gg 3 (by omega) _ rfl
  rw [Nat.add_zero] at g0
  exact ⟨g, cap, ad, cd, rfl, ⟨hc1, hc2⟩, ⟨⟨by rw [← e1]; exact g0, by rw [← e2]; exact g1⟩, by rw [← e3]; exact g2, g3⟩, r.d⟩
theorem csame7 (v1 v2 : Value) (w : World) (h1 : Has w 1 v1 1 (u8s [7])) (h2 : Has w 1 v2 1 (u8s [7])) :
    Calls Try.prog 9 #[v1, v2] w fun e w' => e = .returned (.bool true) ∧ Below w.heap.size w w' :=
  (csameBytes v1 v2 [7] [7] w h1 h2).mono fun _ _ h => by simpa using h
def sureL : List Mv := [⟨1, 0, 0, 0, [7]⟩, ⟨2, 0, 0, 0, []⟩]
theorem sure_outs : sOuts sureL = [⟨0, 0, 1, []⟩, ⟨0, 0, 1, [7]⟩] := by
  simp [sOuts, offFold, offStep, sureL, Off.out, Off.next, off0, Mv.ltr, Off.at', updW]
theorem sure_ok : ∀ x ∈ sureL, x.Ok := by
  intro x hx
  simp only [sureL, List.mem_cons, List.not_mem_nil, or_false] at hx
  rcases hx with rfl | rfl <;> simp [Mv.Ok]
set_option maxRecDepth 100000 in
set_option maxHeartbeats 4000000 in
theorem csealSure (w : World) : Calls Try.prog 8 #[] w fun e w' => e = .returned (.bool true) ∧ Below w.heap.size w w' := by
  go_enter Try.func8, Try.ntmps8
  go_wp2_with fail
  have ha : Below w.heap.size w ((w.alloc (.cells #[.int .u8 7] 5)).alloc (.cells #[.int .i64 1, .int .i64 0, .int .i64 0, .int .i64 0, .slice (some ⟨w.heap.size, 0, none⟩) 1 1, .int .i64 2, .int .i64 0, .int .i64 0, .int .i64 0, .slice none 0 0] 32)) := (by repeat (first | exact Below.refl _ _ | refine Below.drew ?_ | refine Below.alloc ?_ (by first | (simp; done) | (simp; omega)) _ | refine Below.setCell ?_ (by first | (simp; done) | (simp; omega)) _))
  have hd0 : (w.alloc (.cells #[.int .u8 7] 5)).ownsRow w.heap.size 5 1 (.slice (some ⟨w.heap.size, 0, none⟩) 1 1) 1 (u8s [7]) := owns_block (wp := w) (cs := u8s [7]) (heap_alloc_new _ _) rfl rfl (by decide) (Nat.le_refl _)
  have hd1 := (HasT.of_owns hd0).below ((Below.refl _ _).alloc (Nat.le_refl _) (.cells #[.int .i64 1, .int .i64 0, .int .i64 0, .int .i64 0, .slice (some ⟨w.heap.size, 0, none⟩) 1 1, .int .i64 2, .int .i64 0, .int .i64 0, .int .i64 0, .slice none 0 0] 32))
  have CM := Lib.hid (cmailed (.slice (some ⟨w.heap.size + 1, 0, none⟩) 2 2) [⟨1, 0, 0, 0, .slice (some ⟨w.heap.size, 0, none⟩) 1 1⟩, ⟨2, 0, 0, 0, .slice none 0 0⟩] sureL _
    (has_block (wp := w.alloc (.cells #[.int .u8 7] 5)) (cs := mvs [⟨1, 0, 0, 0, .slice (some ⟨w.heap.size, 0, none⟩) 1 1⟩, ⟨2, 0, 0, 0, .slice none 0 0⟩]) (heap_alloc_new _ _) (by simp) rfl (by decide))
    ⟨rfl, fun i a b h1 h2 => by
      match i with
      | 0 =>
        simp only [sureL, List.getElem?_cons_zero, Option.some.injEq] at h1 h2
        subst h1; subst h2
        exact ⟨rfl, rfl, rfl, rfl, hd1⟩
      | 1 =>
        simp only [sureL, List.getElem?_cons_succ, List.getElem?_cons_zero, Option.some.injEq] at h1 h2
        subst h1; subst h2
        exact ⟨rfl, rfl, rfl, rfl, nilT _⟩
      | i + 2 => simp at h1⟩ sure_ok (by decide))
  refine CM.out.mono ?_
  rintro e w3 ⟨v', ov, rfl, hown, hr, hb3⟩
  rw [sure_outs] at hr
  obtain ⟨g, cap, a0, c0, rfl, hcap, ⟨⟨q0, q1⟩, q2, q3⟩, hd⟩ := ov_get hown hr rfl 0 (by decide)
  obtain ⟨g', cap', a1, c1, he, -, ⟨⟨r0, r1⟩, r2, r3⟩, hd'⟩ := ov_get hown hr rfl 1 (by decide)
  simp only [Value.slice.injEq, Option.some.injEq, Addr.mk.injEq, and_true, true_and] at he
  obtain ⟨rfl, rfl⟩ := he
  have hb := Lib.hid (ha.trans (hb3.mono ha.size))
  have HD := Lib.hid hd'.has
  have hc1 : 2 ≤ cap := hcap.1
  have hc2 : cap ≤ 9223372036854775807 := hcap.2
  simp only [List.getElem_cons_zero, List.getElem_cons_succ, List.length_cons, List.length_nil] at q2 r3
  have q2' : w3.cell? ⟨g, 2, none⟩ = some (.int .i64 1) := q2
  have r3' : w3.cell? ⟨g, 7, none⟩ = some (.slice a1 1 c1) := r3
  clear hown hr hb3 CM ha hd0 hd1 hd hd' q0 q1 q3 r0 r1 r2 q2 r3 hcap
  go_wp2_with (go_at_call 9; refine (csame7 _ _ _ (Has.below HD.out ((Below.refl _ _).alloc (Nat.le_refl _) _)) (has_block (wp := w3) (by first | exact heap_alloc_new _ _ | (simp only [heap_drew, heap_drewN]; exact heap_alloc_new _ _)) rfl (by rfl) (by decide))).mono ?_; rintro e w5 ⟨rfl, hb5⟩)
  have hb45 : Below w3.heap.size w3 w5 := ((Below.refl _ _).alloc (Nat.le_refl _) _).trans (hb5.mono (by simp))
  go_ret
  exact ⟨rfl, hb.out.trans (hb45.mono hb.out.size)⟩
end Go.Proofs.Ytgidichmphniaaa
