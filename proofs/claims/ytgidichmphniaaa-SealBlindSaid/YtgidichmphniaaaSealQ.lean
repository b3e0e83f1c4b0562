/- Package seal: Play; the laws' mailed. -/
import Derived.Test.YtgidichmphniaaaSealP
namespace Go.Proofs.Ytgidichmphniaaa
open Go.ChangeShapes Go.WideShapes Go.ChangeAt Go.RowKit
set_option linter.unusedVariables false
set_option linter.unusedSimpArgs false

theorem elOpened : Elem Try.prog 35 4 48 (.agg #[.int .i64 0, .int .i64 0, .int .i64 0, .slice none 0 0]) := .of (by kernel_rfl) rfl (by decide)
theorem elLetterA : Elem Try.prog 32 5 56 (.agg #[.int .i64 0, .int .i64 0, .int .i64 0, .int .i64 0, .slice none 0 0]) := .of (by kernel_rfl) rfl (by decide)
/-- A map is as it was behind an append. -/
theorem map_grown {w w' : World} {base e sz n B : Nat} {v : Value} {xs : List Value} {es : Array MapEntry} {c : Nat} (hl : w.ownsRow base e sz v n xs) (hg : w.grownBy w' v.ownBlock) (hm : w.heap[B]? = some (.map es c)) : w'.heap[B]? = w.heap[B]? := by
  refine hg.block B (Array.getElem?_eq_some_iff.1 hm).1 fun hh => ?_
  obtain ⟨_, hl'⟩ := hl
  rcases hl' with ⟨rfl, _⟩ | ⟨g, cap, cur, rfl, _, hh', _⟩
  · simp [Value.ownBlock] at hh
  · simp only [Value.ownBlock, Option.some.injEq] at hh
    subst hh
    rw [hm] at hh'; cases hh'
/-- What stands behind k moves. -/
structure PlayS (w wr : World) (S B k : Nat) (l : List Mv) (out : Value) (ov : List OV) : Prop where
  off : OffAt wr w.heap.size S B k (offFold (l.take k)).1
  out : wr.ownsRow w.heap.size 35 4 out k (ovs ov)
  both : Both (OutAt wr) ov (offFold (l.take k)).2
  hb : Below w.heap.size w wr
theorem PlayS.on {w wr w' : World} {S B k : Nat} {l : List Mv} {out : Value} {ov : List OV} (h : PlayS w wr S B k l out ov) (hb : Below wr.heap.size wr w') : PlayS w w' S B k l out ov :=
  ⟨h.off.on hb, owns_below h.out hb, h.both.mono fun a b _ _ r => ⟨r.code, r.id, r.size, r.d.below hb⟩, h.hb.trans (hb.mono h.hb.size)⟩
theorem playS_step {w wr w5 w6 : World} {S B k : Nat} {l : List Mv} {out out' : Value} {ov : List OV} {a : Option Addr} {c : Nat} (h : PlayS w wr S B k l out ov) (hk : k < l.length)
    (hd : HasT w5 5 1 (.slice a ((offFold (l.take k)).1.out l[k]).d.length c) ((offFold (l.take k)).1.out l[k]).d.length (u8s ((offFold (l.take k)).1.out l[k]).d)) (hO : OffAt w5 w.heap.size S B (k + 1) ((offFold (l.take k)).1.next l[k]))
    (hb : Below w.heap.size wr w5) (hc : Chc [52, 59] wr w5)
    (ho : w6.ownsRow w.heap.size 35 4 out' (k + 1) (ovs ov ++ [.int .i64 ((offFold (l.take k)).1.out l[k]).code, .int .i64 ((offFold (l.take k)).1.out l[k]).id, .int .i64 ((offFold (l.take k)).1.out l[k]).size, .slice a ((offFold (l.take k)).1.out l[k]).d.length c])) (hg : w5.grownBy w6 out.ownBlock) (hb6 : Below w.heap.size w5 w6) :
    ∃ ov', PlayS w w6 S B (k + 1) l out' ov' := by
  have ho5 := owns_chc h.out hc (by decide)
  have hch := Chc.grown (T := [35]) ho5 hg (by simp)
  obtain ⟨v, lv, n, _, _, _, hW, _⟩ := hO.ex
  obtain ⟨es, cc, hm⟩ := hW.block
  refine ⟨ov ++ [⟨((offFold (l.take k)).1.out l[k]).code, ((offFold (l.take k)).1.out l[k]).id, ((offFold (l.take k)).1.out l[k]).size, .slice a ((offFold (l.take k)).1.out l[k]).d.length c⟩], ?_, ?_, ?_, (h.hb.trans hb).trans hb6⟩
  · rw [offFold_take l k hk]
    exact hO.chc hch (map_grown ho5 hg hm) (by decide) (by decide) (by decide)
  · have := flat_snoc OV.cells ov ⟨((offFold (l.take k)).1.out l[k]).code, ((offFold (l.take k)).1.out l[k]).id, ((offFold (l.take k)).1.out l[k]).size, .slice a ((offFold (l.take k)).1.out l[k]).d.length c⟩
    unfold ovs at ho ⊢
    rw [← this]; exact ho
  · rw [offFold_take l k hk]
    exact Both.snoc (h.both.mono fun a b _ _ r => ⟨r.code, r.id, r.size, (r.d.chc hc (by decide)).chc hch (by decide)⟩) ⟨rfl, rfl, rfl, hd.chc hch (by decide)⟩
/-- What letter k reads. -/
theorem mv_get {w : World} {a : Option Addr} {cap : Nat} {lv : List MV} {l : List Mv} (h : Has w 5 (.slice a l.length cap) l.length (mvs lv)) (hB : Both (MvAt w) lv l) (k : Nat) (hk : k < l.length) :
    ∃ b off ad cd, a = some ⟨b, off, none⟩ ∧ ((w.cell? ⟨b, off + k * 5, none⟩ = some (.int .i64 l[k].kind) ∧ w.cell? ⟨b, off + k * 5 + 1, none⟩ = some (.int .i64 l[k].f)) ∧ (w.cell? ⟨b, off + k * 5 + 2, none⟩ = some (.int .i64 l[k].t) ∧ w.cell? ⟨b, off + k * 5 + 3, none⟩ = some (.int .i64 l[k].id)) ∧ w.cell? ⟨b, off + k * 5 + 4, none⟩ = some (.slice ad l[k].d.length cd)) ∧
      HasT w 5 1 (.slice ad l[k].d.length cd) l[k].d.length (u8s l[k].d) := by
  obtain ⟨⟨hl, hnil⟩, ad, cap', he, h1, h2, hc⟩ := h
  simp only [Value.slice.injEq] at he
  obtain ⟨rfl, -, rfl⟩ := he
  obtain ⟨x, hx, r⟩ := hB.get k hk
  have hkl : k < lv.length := (List.getElem?_eq_some_iff.1 hx).1
  have hxe : lv[k] = x := (List.getElem?_eq_some_iff.1 hx).2
  obtain ⟨b, off, rfl, hcc⟩ := hc (by unfold mvs; rw [flat_length MV.cells 5 MV.cells_length]; omega)
  obtain ⟨xk, xf, xt, xi, xv⟩ := x
  obtain ⟨_, ad, cd, hxv, _⟩ := r.d.has
  simp only at hxv
  subst hxv
  have g := fun j (hj : j < 5) u (hu : MV.cells ⟨xk, xf, xt, xi, .slice ad l[k].d.length cd⟩ = u) => hcc (k * 5 + j) ((u)[j]?.getD undef) (by unfold mvs; rw [flat_get MV.cells 5 MV.cells_length lv k hkl j hj, hxe, hu]; subst hu; match j, hj with
    | 0, _ => rfl
    | 1, _ => rfl
    | 2, _ => rfl
    | 3, _ => rfl
    | 4, _ => rfl)
  have e1 := r.kind
  have e2 := r.f
  have e3 := r.t
  have e4 := r.id
  simp only at e1 e2 e3 e4
  have g0 := g 0 (by omega) _ rfl
  have g1 := g 1 (by omega) _ rfl
  have g2 := g 2 (by omega) _ rfl
  have g3 := g 3 (by omega) _ rfl
  have g4 := g 4 (by omega) _ rfl
  rw [Nat.add_zero] at g0
  rw [← Nat.add_assoc] at g1 g2 g3 g4
  exact ⟨b, off, ad, cd, rfl, ⟨⟨by rw [← e1]; exact g0, by rw [← e2]; exact g1⟩, ⟨by rw [← e3]; exact g2, by rw [← e4]; exact g3⟩, g4⟩, r.d⟩
set_option maxRecDepth 100000 in
set_option maxHeartbeats 4000000 in
theorem csPlay (v : Value) (lv : List MV) (l : List Mv) (w : World) (h : Has w 5 v l.length (mvs lv)) (hB : Both (MvAt w) lv l) (hok : ∀ x ∈ l, x.Ok) (hlen : l.length ≤ 300) :
    Calls Try.prog 11 #[v] w fun e w' => ∃ v' ov, e = .returned (.tuple #[v', .int .i64 0]) ∧ w'.ownsRow w.heap.size 35 4 v' l.length (ovs ov) ∧ Both (OutAt w') ov (sOuts l) ∧ Below w.heap.size w w' := by
  have H := Lib.hid h
  have HB := Lib.hid hB
  have Hok := Lib.hid hok
  obtain ⟨⟨hl2, hnil⟩, ad, cap, rfl, hcn, hcm, hc⟩ := h
  unfold maxLen at hcm
  clear hok hc hl2 hnil hB
  go_enter Try.func11, Try.ntmps11
  go_wp2_with fail
  refine (cNew w).mono ?_
  rintro e w1 ⟨S, B, rfl, hO, hb1⟩
  have H0 : Hid (PlayS w w1 S B 0 l (.slice none 0 0) []) := ⟨hO, World.ownsRow_nil _ _ _ _, Both.nil _, hb1⟩
  clear hO hb1
  go_wp2_with fail
  go_loopw [5, 14] (fun out i wr => ∃ (k : Nat) (ov : List OV), k ≤ l.length ∧ i = .int .i64 k ∧ PlayS w wr S B k l out ov) (fun _ i _ => l.length - (intOf i).toNat)
  case atStart => exact ⟨0, [], by omega, rfl, H0.out⟩
  case round =>
    clear H0
    obtain ⟨k, ov, hk, rfl, hP⟩ := hrel
    have HP := Lib.hid hP
    clear hP
    by_cases hlt : k < l.length
    · obtain ⟨b, off, xa, xc, rfl, ⟨⟨x0, x1⟩, ⟨x2, x3⟩, x4⟩, hxd⟩ := mv_get H.out HB.out k hlt
      replace x0 := cell_on HP.out.hb x0
      replace x1 := cell_on HP.out.hb x1
      replace x2 := cell_on HP.out.hb x2
      replace x3 := cell_on HP.out.hb x3
      replace x4 := cell_on HP.out.hb x4
      have hbl := World.block_lt_of_cell? wr _ x0
      have hxok := Hok.out _ (List.getElem_mem hlt)
      have ha : Below wr.heap.size wr (wr.alloc (.cells #[.int .i64 l[k].kind, .int .i64 l[k].f, .int .i64 l[k].t, .int .i64 l[k].id, .slice xa l[k].d.length xc] 32)) := (Below.refl _ _).alloc (Nat.le_refl _) _
      have CM := Lib.hid (cMove (HP.out.on ha).off l[k] hxok xa xc ((hxd.below HP.out.hb).below ha) (by omega))
      have hdl : ((offFold (l.take k)).1.out l[k]).d.length ≤ 256 := out_data_le (fun y hy => (HP.out.off.ok y hy).d) _
      have Hst := Lib.hid (fun w5 w6 a c out' hd hO hb hc ho hg hb6 => playS_step (w5 := w5) (w6 := w6) (a := a) (c := c) (out' := out') HP.out hlt hd hO hb hc ho hg hb6)
      have hsz := HP.out.hb.size
      generalize (offFold (l.take k)).1 = o at *
      generalize l[k] = x at *
      have Ha := Lib.hid ha
      clear hxd hxok ha
      go_wp2_with fail
      refine CM.out.mono ?_
      rintro e w5 ⟨a5, c5, rfl, hd5, hO5, hb5, hc5⟩
      have ho5 := Lib.hid (owns_chc (HP.out.on Ha.out).out hc5 (by decide))
      have hB5 : Below w.heap.size wr w5 := (Ha.out.mono hsz).trans hb5
      have hC5 : Chc [52, 59] wr w5 := (Chc.of_below Ha.out).trans hc5
      have HT5 := Lib.hid hd5
      have HO5 := Lib.hid hO5
      have HB5 := Lib.hid hB5
      have HC5 := Lib.hid hC5
      have hsz5 : w.heap.size ≤ w5.heap.size := Nat.le_trans hsz hC5.size
      generalize (o.out x).code = q1 at *
      generalize (o.out x).id = q2 at *
      generalize (o.out x).size = q3 at *
      generalize (o.out x).d = q4 at *
      clear hd5 hO5 hb5 hc5 hB5 hC5 CM x0 x1 x2 x3 x4
      go_wp2_with (at_builtin; refine wp_app1 (w0 := w5) 25 35 4 48 _ elOpened Try.underlying25 w.heap.size _ _ _ ho5.out (by repeat (first | exact Below.refl _ _ | refine Below.drew ?_ | refine Below.alloc ?_ (by first | (simp; done) | (simp; omega)) _ | refine Below.setCell ?_ (by first | (simp; done) | (simp; omega)) _)) [.int .i64 q1, .int .i64 q2, .int .i64 q3, .slice a5 q4.length c5] rfl _ _ rfl rfl rfl (by first | exact heap_alloc_new _ _ | (simp only [heap_drew, heap_drewN]; exact heap_alloc_new _ _)) (by simp) rfl rfl (by omega) (by omega) hsz5 ?_; intro v6 w6 hown6 hgrow6 hb6)
      obtain ⟨ov', hP'⟩ := Hst.out _ _ _ _ _ HT5.out HO5.out HB5.out HC5.out hown6 hgrow6 hb6
      go_roundw
      case rel => exact ⟨k + 1, ov', by omega, by go_num, hP'⟩
      case measure => simp [intOf]; omega
    · obtain rfl : k = l.length := by omega
      have ho := Lib.hid HP.out.out
      have hr : Hid (Both (OutAt wr) ov (sOuts l)) := by have := HP.out.both; rwa [List.take_length] at this
      have hb := Lib.hid HP.out.hb
      clear HP
      go_wp2
      go_ret2
      exact ⟨_, ov, rfl, ho.out, hr.out, hb.out⟩
end Go.Proofs.Ytgidichmphniaaa
