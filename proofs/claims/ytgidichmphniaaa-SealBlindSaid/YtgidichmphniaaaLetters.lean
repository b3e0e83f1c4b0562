/- Package seal: the laws' Letters. -/
import Derived.Test.YtgidichmphniaaaSealR
import Derived.Test.YtgidichmphniaaaRow
import Derived.Deep.RegionHeld3
import Derived.Deep.RegionLaw
namespace Go.Proofs.Ytgidichmphniaaa
open Go.ChangeShapes Go.WideShapes Go.ChangeAt Go.RowKit
set_option linter.unusedVariables false
set_option linter.unusedSimpArgs false

structure Ml where
  o : Bool
  f : Int
  t : Int
  id : Int
  d : List Nat
structure ML where
  o : Bool
  f : Int
  t : Int
  id : Int
  v : Value
def ML.cells (x : ML) : List Value := [.bool x.o, .int .i64 x.f, .int .i64 x.t, .int .i64 x.id, x.v]
theorem ML.cells_length (x : ML) : x.cells.length = 5 := rfl
def mls (l : List ML) : List Value := l.flatMap ML.cells
structure MlAt (w : World) (x : ML) (y : Ml) : Prop where
  o : x.o = y.o
  f : x.f = y.f
  t : x.t = y.t
  id : x.id = y.id
  d : Has w 1 x.v y.d.length (u8s y.d)
/-- 'Letters', of at most 60. -/
def mlMv (x : Ml) : Mv := if x.o = true then ⟨2, pick x.f 4, pick x.t 4, pick x.id 31, []⟩ else ⟨1, pick x.f 4, pick x.t 4, 0, x.d.take 20⟩
def lettersOf (l : List Ml) : List Mv := (l.take 60).map mlMv
theorem lettersOf_len (l : List Ml) : (lettersOf l).length ≤ 60 := by simp [lettersOf]; omega
theorem mlMv_ok (x : Ml) : (mlMv x).Ok := by
  have h1 := pick_bd x.f 4 (by omega)
  have h2 := pick_bd x.t 4 (by omega)
  unfold mlMv Mv.Ok
  split
  · exact ⟨.inr rfl, by simp only; omega, by simp only; omega, by simp⟩
  · exact ⟨.inl ⟨rfl, by simp only; omega, by simp only; omega⟩, by simp only; omega, by simp only; omega, by simp; omega⟩
theorem lettersOf_ok (l : List Ml) : ∀ x ∈ lettersOf l, x.Ok := by
  intro x hx
  obtain ⟨y, _, rfl⟩ := List.mem_map.1 hx
  exact mlMv_ok y
/-- What mail k reads. -/
theorem ml_get {w : World} {a : Option Addr} {cap : Nat} {lv : List ML} {l : List Ml} (h : Has w 5 (.slice a l.length cap) l.length (mls lv)) (hB : Both (MlAt w) lv l) (k : Nat) (hk : k < l.length) :
    ∃ b off ad cd, a = some ⟨b, off, none⟩ ∧ ((w.cell? ⟨b, off + k * 5, none⟩ = some (.bool l[k].o) ∧ w.cell? ⟨b, off + k * 5 + 1, none⟩ = some (.int .i64 l[k].f)) ∧ (w.cell? ⟨b, off + k * 5 + 2, none⟩ = some (.int .i64 l[k].t) ∧ w.cell? ⟨b, off + k * 5 + 3, none⟩ = some (.int .i64 l[k].id)) ∧ w.cell? ⟨b, off + k * 5 + 4, none⟩ = some (.slice ad l[k].d.length cd)) ∧
      Has w 1 (.slice ad l[k].d.length cd) l[k].d.length (u8s l[k].d) := by
  obtain ⟨⟨hl, hnil⟩, ad, cap', he, h1, h2, hc⟩ := h
  simp only [Value.slice.injEq] at he
  obtain ⟨rfl, -, rfl⟩ := he
  obtain ⟨x, hx, r⟩ := hB.get k hk
  have hkl : k < lv.length := (List.getElem?_eq_some_iff.1 hx).1
  have hxe : lv[k] = x := (List.getElem?_eq_some_iff.1 hx).2
  obtain ⟨b, off, rfl, hcc⟩ := hc (by unfold mls; rw [flat_length ML.cells 5 ML.cells_length]; omega)
  obtain ⟨xk, xf, xt, xi, xv⟩ := x
  obtain ⟨_, ad, cd, hxv, _⟩ := r.d
  simp only at hxv
  subst hxv
  have g := fun j (hj : j < 5) u (hu : ML.cells ⟨xk, xf, xt, xi, .slice ad l[k].d.length cd⟩ = u) => hcc (k * 5 + j) ((u)[j]?.getD undef) (by unfold mls; rw [flat_get ML.cells 5 ML.cells_length lv k hkl j hj, hxe, hu]; subst hu; match j, hj with
    | 0, _ => rfl
    | 1, _ => rfl
    | 2, _ => rfl
    | 3, _ => rfl
    | 4, _ => rfl)
  have e1 := r.o
  have e2 := r.f
  have e3 := r.t
  have e4 := r.id
  simp only at e1 e2 e3 e4
  have g0 := g 0 (by omega) _ rfl
  have g1 := g 1 (by omega) _ rfl
  have g2 := g 2 (by omega) _ rfl
  have g3 := g 3 (by omega) _ rfl
  have g4 := g 4 (by omega) _ rfl
  rw [Nat.add_zero] at g0
  rw [← Nat.add_assoc] at g1 g2 g3 g4
  exact ⟨b, off, ad, cd, rfl, ⟨⟨by rw [← e1]; exact g0, by rw [← e2]; exact g1⟩, ⟨by rw [← e3]; exact g2, by rw [← e4]; exact g3⟩, g4⟩, r.d⟩
/-- What stands behind k letters. -/
structure LetAt (w wr : World) (k : Nat) (l : List Ml) (out : Value) (lv : List MV) : Prop where
  out : wr.ownsRow w.heap.size 32 5 out k (mvs lv)
  both : Both (MvAt wr) lv ((l.take k).map mlMv)
  hb : Below w.heap.size w wr
theorem LetAt.on {w wr w' : World} {k : Nat} {l : List Ml} {out : Value} {lv : List MV} (h : LetAt w wr k l out lv) (hb : Below wr.heap.size wr w') : LetAt w w' k l out lv :=
  ⟨owns_below h.out hb, both_on h.both hb, h.hb.trans (hb.mono h.hb.size)⟩
theorem letAt_step {w wr w6 : World} {k : Nat} {l : List Ml} {out out' : Value} {lv : List MV} (h : LetAt w wr k l out lv) (hk : k < l.length) {x : MV} (hx : MvAt wr x (mlMv l[k]))
    (ho : w6.ownsRow w.heap.size 32 5 out' (k + 1) (mvs lv ++ x.cells)) (hg : wr.grownBy w6 out.ownBlock) (hb6 : Below w.heap.size wr w6) : LetAt w w6 (k + 1) l out' (lv ++ [x]) := by
  have hch := Chc.grown (T := [32]) h.out hg (by simp)
  refine ⟨?_, ?_, h.hb.trans hb6⟩
  · have := flat_snoc MV.cells lv x
    unfold mvs at ho ⊢
    rw [← this]; exact ho
  · rw [take_snoc _ _ hk, List.map_append]
    exact Both.snoc (h.both.mono fun a b _ _ r => ⟨r.kind, r.f, r.t, r.id, r.d.chc hch (by decide)⟩) ⟨hx.kind, hx.f, hx.t, hx.id, hx.d.chc hch (by decide)⟩
set_option maxRecDepth 100000 in
set_option maxHeartbeats 4000000 in
theorem cLetters (v : Value) (ml : List ML) (l : List Ml) (w : World) (h : Has w 5 v l.length (mls ml)) (hB : Both (MlAt w) ml l) :
    Calls Try.prog 6 #[v, .int .i64 60] w fun e w' => ∃ v' lv, e = .returned v' ∧ w'.ownsRow w.heap.size 32 5 v' (lettersOf l).length (mvs lv) ∧ Both (MvAt w') lv (lettersOf l) ∧ Below w.heap.size w w' := by
  have H := Lib.hid h
  have HB := Lib.hid hB
  obtain ⟨_, ad, cap, rfl, hcn, hcm, _⟩ := h
  unfold maxLen at hcm
  clear hB
  go_enter Try.func6, Try.ntmps6
  go_wp2_with fail
  go_loopw [5, 6] (fun out i wr => ∃ (k : Nat) (lv : List MV), k ≤ l.length ∧ k ≤ 60 ∧ i = .int .i64 k ∧ LetAt w wr k l out lv) (fun _ i _ => l.length - (intOf i).toNat)
  case atStart => exact ⟨0, [], by omega, by omega, rfl, World.ownsRow_nil _ _ _ _, Both.nil _, Below.refl _ _⟩
  case round =>
    obtain ⟨k, lv, hk, hk6, rfl, hL⟩ := hrel
    have HL := Lib.hid hL
    clear hL
    by_cases hlt : k < l.length
    · by_cases hl6 : k < 60
      · obtain ⟨b, off, xa, xc, rfl, ⟨⟨x0, x1⟩, ⟨x2, x3⟩, x4⟩, hxd⟩ := ml_get H.out HB.out k hlt
        replace x0 := cell_on HL.out.hb x0
        replace x1 := cell_on HL.out.hb x1
        replace x2 := cell_on HL.out.hb x2
        replace x3 := cell_on HL.out.hb x3
        replace x4 := cell_on HL.out.hb x4
        have hbl := World.block_lt_of_cell? wr _ x0
        have Hxd := Lib.hid (hxd.below HL.out.hb)
        have hmv : Hid (mlMv l[k] = if l[k].o = true then ⟨2, pick l[k].f 4, pick l[k].t 4, pick l[k].id 31, []⟩ else ⟨1, pick l[k].f 4, pick l[k].t 4, 0, l[k].d.take 20⟩) := rfl
        have Hst := Lib.hid (fun wr' w6 out' x (hL : LetAt w wr' k l u5 lv) hx ho hg hb6 => letAt_step (w6 := w6) (out' := out') (x := x) hL hlt hx ho hg hb6)
        generalize mlMv l[k] = m at *
        generalize l[k] = x at *
        obtain ⟨xo, xf, xt, xi, xd⟩ := x
        simp only at *
        obtain ⟨f0, f1⟩ := pick_bd xf 4 (by omega)
        obtain ⟨t0, t1⟩ := pick_bd xt 4 (by omega)
        obtain ⟨i0, i1⟩ := pick_bd xi 31 (by omega)
        have PF := Lib.hid (fun X => picked xf 4 (by omega) (by omega) X)
        have PT := Lib.hid (fun X => picked xt 4 (by omega) (by omega) X)
        have PI := Lib.hid (fun X => picked xi 31 (by omega) (by omega) X)
        generalize pick xf 4 = pf at *
        generalize pick xt 4 = pt at *
        generalize pick xi 31 = pi at *
        clear hxd
        go_upto_region 5 with (fail)
        go_region_held3 (fun X => X.cell? ⟨b, off + k * 5 + 1, none⟩ = some (.int .i64 xf) ∧ X.cell? ⟨b, off + k * 5 + 2, none⟩ = some (.int .i64 xt))
          (go_keep)
          ((first | (go_at_call 10; with_reducible refine (PF.out _).mono ?_; rintro e w' ⟨rfl, rfl⟩) | (go_at_call 10; with_reducible refine (PT.out _).mono ?_; rintro e w' ⟨rfl, rfl⟩) | fail))
        all_goals
          cases xo
          case true =>
            have hm : m = ⟨2, pf, pt, pi, []⟩ := by rw [hmv.out, if_pos rfl]
            have hX : MvAt wr ⟨2, pf, pt, pi, .slice none 0 0⟩ m := by rw [hm]; exact ⟨rfl, rfl, rfl, rfl, nilT _⟩
            have HX := Lib.hid hX
            have hszw := HL.out.hb.size
            clear hm hX hmv x1 x2 x4 Hxd PF PT
            go_wp2_with (first | (go_at_call 10; with_reducible refine (PI.out _).mono ?_; rintro e w' ⟨rfl, rfl⟩) | (at_builtin; refine wp_app1 (w0 := wr) 23 32 5 56 _ elLetterA Try.underlying23 w.heap.size _ _ _ HL.out.out (by repeat (first | exact Below.refl _ _ | refine Below.drew ?_ | refine Below.alloc ?_ (by first | (simp; done) | (simp; omega)) _ | refine Below.setCell ?_ (by first | (simp; done) | (simp; omega)) _)) [.int .i64 2, .int .i64 pf, .int .i64 pt, .int .i64 pi, .slice none 0 0] rfl _ _ rfl rfl rfl (by first | exact heap_alloc_new _ _ | (simp only [heap_drew, heap_drewN]; exact heap_alloc_new _ _)) (by simp) rfl rfl (by omega) (by omega) hszw ?_; intro v6 w6 hown6 hgrow6 hb6))
            go_roundw
            case rel => exact ⟨k + 1, _, by omega, by omega, by go_num, Hst.out _ _ _ ⟨2, pf, pt, pi, .slice none 0 0⟩ HL.out HX.out hown6 hgrow6 hb6⟩
            case measure => simp [intOf]; omega
          case false =>
            have hm : m = ⟨1, pf, pt, 0, xd.take 20⟩ := by rw [hmv.out]; rfl
            subst hm
            have hszw := HL.out.hb.size
            clear hmv x1 x2 x3 PF PT PI
            obtain ⟨m, hm20, hmd⟩ : ∃ m : Nat, m = min xd.length 20 ∧ (xd.take 20).length = m := ⟨_, rfl, by simp; omega⟩
            have hmin : (if (20 : Int) < (xd.length : Int) then (20 : Int) else (xd.length : Int)) = (m : Int) := by split <;> omega
            have hmx : (m : Int) ≤ xd.length := by omega
            obtain ⟨⟨hxl, hxnil⟩, xa0, xc0, he, hx1, hx2, hx3⟩ := Hxd.out
            simp only [Value.slice.injEq] at he
            obtain ⟨rfl, -, rfl⟩ := he
            unfold maxLen at hx2
            have hmc : (m : Int) ≤ xc := by omega
            have hm0 : (0 : Int) ≤ m := by omega
            have hSR : Hid (∀ X, Below wr.heap.size wr X → Has X 1 (.slice xa m xc) m (u8s (xd.take 20))) := fun X hX => by
              have h := Hxd.out.below hX
              cases xa with
              | none =>
                obtain ⟨q1, q2⟩ := hxnil _ _ rfl
                have hm0 : m = 0 := by omega
                subst hm0
                have : xd = [] := List.eq_nil_of_length_eq_zero q1
                subst this
                simpa [q1] using h
              | some aa =>
                have h2 := h.pre m (by omega) (by simp)
                rw [Nat.mul_one] at h2
                have e : (u8s xd).take m = u8s (xd.take 20) := by
                  unfold u8s
                  rw [← List.map_take]
                  congr 1
                  rw [hm20]
                  by_cases hle : xd.length ≤ 20
                  · rw [Nat.min_eq_left hle, List.take_length, List.take_of_length_le hle]
                  · rw [Nat.min_eq_right (by omega)]
                rw [e] at h2; exact h2
            clear hxl hxnil hx3 Hxd hm20
            have HMD := Lib.hid hmd
            clear hmd
            go_upto_region 9 with (fail)
            have hm20 : m ≤ 20 := by omega
            go_region_law (first
              | (refine step_appN (w0 := (wr.alloc (.cells #[.int .i64 1, .int .i64 pf, .int .i64 pt, .int .i64 0, .slice none 0 0] 32))) (wanted_of_none (by rfl)) 30 5 1 1 _ elByte Try.underlying30 wr.heap.size (.slice none 0 0) 0 [] (World.ownsRow_nil _ _ _ _) (by repeat (first | exact Below.refl _ _ | refine Below.drew ?_ | refine Below.alloc ?_ (by first | (simp; done) | (simp; omega)) _ | refine Below.setCell ?_ (by first | (simp; done) | (simp; omega)) _)) (.slice xa m xc) m (u8s (xd.take 20)) (hSR.out _ (by repeat (first | exact Below.refl _ _ | refine Below.drew ?_ | refine Below.alloc ?_ (by first | (simp; done) | (simp; omega)) _ | refine Below.setCell ?_ (by first | (simp; done) | (simp; omega)) _))) _ _ (by rfl) (by rfl) (by rfl) (u8s_all _) (by omega) (by unfold maxLen; omega) (by simp) ?_; intro v5 w5 hown5 hgrow5 hb5; rw [Nat.zero_add, List.nil_append] at hown5; obtain ⟨a5, c5, rfl⟩ := owns_slice hown5; have hX5 : w5.heap[wr.heap.size]? = some (.cells #[.int .i64 1, .int .i64 pf, .int .i64 pt, .int .i64 0, .slice none 0 0] 32 (0, 0)) := (hgrow5.block _ (by simp) (by simp [Value.ownBlock])).trans (heap_alloc_new _ _); obtain ⟨-, -, y4⟩ := cells5 hX5; have yf : w5.frozen? ⟨wr.heap.size, 4, none⟩ = false := by simp [World.frozen?, hX5]))
            all_goals
              have hW : Below wr.heap.size wr (w5.setCell ⟨wr.heap.size, 4, none⟩ (.slice a5 m c5)) := (((Below.refl _ _).alloc (Nat.le_refl _) _).trans hb5).setCell (Nat.le_refl _) _
              have hch := Chc.setCell (T := [32]) (p := ⟨wr.heap.size, 4, none⟩) hX5 (by simp) (.slice a5 m c5)
              have hdT := (HasT.of_owns hown5).chc hch (by decide)
              have hXs := heap_setCell_same w5 wr.heap.size 4 _ _ (.slice a5 m c5) hX5
              obtain ⟨⟨z0, z1⟩, ⟨z2, z3⟩, z4⟩ := cells5 (a0 := .int .i64 1) (a1 := .int .i64 pf) (a2 := .int .i64 pt) (a3 := .int .i64 0) (a4 := .slice a5 m c5) hXs
              have HX : Hid (MvAt (w5.setCell ⟨wr.heap.size, 4, none⟩ (.slice a5 m c5)) ⟨1, pf, pt, 0, .slice a5 m c5⟩ ⟨1, pf, pt, 0, xd.take 20⟩) := ⟨rfl, rfl, rfl, rfl, by simp only; rw [HMD.out]; exact hdT⟩
              have HW := Lib.hid (HL.out.on hW)
              have hszW : w.heap.size ≤ (w5.setCell ⟨wr.heap.size, 4, none⟩ (.slice a5 m c5)).heap.size := Nat.le_trans hszw hW.size
              clear hX5 y4 yf hown5 hgrow5 hb5 hch hdT hXs hW x0 x4
              generalize w5.setCell ⟨wr.heap.size, 4, none⟩ (.slice a5 m c5) = W at *
              go_wp2_with (at_builtin; refine wp_app1 (w0 := W) 23 32 5 56 _ elLetterA Try.underlying23 w.heap.size _ _ _ HW.out.out (by repeat (first | exact Below.refl _ _ | refine Below.drew ?_ | refine Below.alloc ?_ (by first | (simp; done) | (simp; omega)) _ | refine Below.setCell ?_ (by first | (simp; done) | (simp; omega)) _)) [.int .i64 1, .int .i64 pf, .int .i64 pt, .int .i64 0, .slice a5 m c5] rfl _ _ rfl rfl rfl (by first | exact heap_alloc_new _ _ | (simp only [heap_drew, heap_drewN]; exact heap_alloc_new _ _)) (by simp) rfl rfl (by omega) (by omega) hszW ?_; intro v6 w6 hown6 hgrow6 hb6)
              go_roundw
              case rel => exact ⟨k + 1, _, by omega, by omega, by go_num, Hst.out _ _ _ ⟨1, pf, pt, 0, .slice a5 m c5⟩ HW.out HX.out hown6 hgrow6 hb6⟩
              case measure => simp [intOf]; omega
      · obtain rfl : k = 60 := by omega
        have hfin : Hid (wr.ownsRow w.heap.size 32 5 u5 (lettersOf l).length (mvs lv) ∧ Both (MvAt wr) lv (lettersOf l)) := by
          have e : (lettersOf l).length = 60 := by simp [lettersOf]; omega
          rw [e]
          exact ⟨HL.out.out, HL.out.both⟩
        have hb := Lib.hid HL.out.hb
        clear HL
        go_wp2_with fail
        go_ret
        exact ⟨_, lv, rfl, hfin.out.1, hfin.out.2, hb.out⟩
    · obtain rfl : k = l.length := by omega
      have hfin : Hid (wr.ownsRow w.heap.size 32 5 u5 (lettersOf l).length (mvs lv) ∧ Both (MvAt wr) lv (lettersOf l)) := by
        have e : (lettersOf l).length = l.length := by simp [lettersOf]; omega
        rw [e]
        refine ⟨HL.out.out, ?_⟩
        have h := HL.out.both
        rw [List.take_length] at h
        unfold lettersOf
        rw [List.take_of_length_le (by omega)]; exact h
      have hb := Lib.hid HL.out.hb
      clear HL
      go_wp2_with fail
      go_ret
      exact ⟨_, lv, rfl, hfin.out.1, hfin.out.2, hb.out⟩
end Go.Proofs.Ytgidichmphniaaa
