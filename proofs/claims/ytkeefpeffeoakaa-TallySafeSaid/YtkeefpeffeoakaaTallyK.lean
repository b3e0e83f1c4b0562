/- Tallies of three branches: the laws' known. -/
import Derived.Test.YtkeefpeffeoakaaTallyH
import Derived.Deep.RegionHeld3
namespace Go.Proofs.Ytkeefpeffeoakaa
open Go.ChangeShapes Go.WideShapes Go.ChangeAt Go.RowKit
set_option linter.unusedVariables false

/-- Where a tally's parts lie. -/
structure TA where
  bm : Nat
  om : Nat
  cm : Nat
  bu : Nat
  ou : Nat
  cu : Nat
def TA.c0 (a : TA) : Value := .slice (some ⟨a.bm, a.om, none⟩) 3 a.cm
def TA.c1 (a : TA) : Value := .slice (some ⟨a.bu, a.ou, none⟩) 3 a.cu
def tsCells (A : Nat → TA) : List Value := [(A 0).c0, (A 0).c1, (A 1).c0, (A 1).c1, (A 2).c0, (A 2).c1]
def updA (A : Nat → TA) (w : Nat) (t : TA) : Nat → TA := fun v => if v = w then t else A v
theorem tsCells_set (A : Nat → TA) (x : Nat) (hx : x < 3) (a : TA) : ((tsCells A).set (x * 2) a.c0).set (x * 2 + 1) a.c1 = tsCells (updA A x a) := by
  match x, hx with
  | 0, _ => rfl
  | 1, _ => rfl
  | 2, _ => rfl
theorem tsCells_get (A : Nat → TA) (x : Nat) (hx : x < 3) : (tsCells A)[x * 2]? = some (A x).c0 ∧ (tsCells A)[x * 2 + 1]? = some (A x).c1 := by
  match x, hx with
  | 0, _ => exact ⟨rfl, rfl⟩
  | 1, _ => exact ⟨rfl, rfl⟩
  | 2, _ => exact ⟨rfl, rfl⟩
/-- Three tallies in a row. -/
structure TsAt (w wr : World) (B : Nat) (A : Nat → TA) (ts : Nat → Tl) : Prop where
  b : wr.heap[B]? = some (.cells (tsCells A).toArray 48 (0, 0))
  at' : ∀ v, v < 3 → TlAt wr (A v).bm (A v).om (A v).cm (A v).bu (A v).ou (A v).cu (ts v)
  hb : Below w.heap.size w wr
  lo : w.heap.size ≤ B
theorem TsAt.on {w wr w' : World} {B : Nat} {A : Nat → TA} {ts : Nat → Tl} (h : TsAt w wr B A ts) (hb : Below wr.heap.size wr w') : TsAt w w' B A ts :=
  ⟨by rw [hb.block _ (Array.getElem?_eq_some_iff.1 h.b).1]; exact h.b, fun v hv => (h.at' v hv).on hb, h.hb.trans (hb.mono h.hb.size), h.lo⟩
theorem TsAt.cells {w wr : World} {B : Nat} {A : Nat → TA} {ts : Nat → Tl} (h : TsAt w wr B A ts) (x : Nat) (hx : x < 3) : (wr.cell? ⟨B, x * 2, none⟩ = some (A x).c0 ∧ wr.cell? ⟨B, x * 2 + 1, none⟩ = some (A x).c1) ∧ wr.frozen? ⟨B, x * 2, none⟩ = false ∧ wr.frozen? ⟨B, x * 2 + 1, none⟩ = false := by
  obtain ⟨g0, g1⟩ := tsCells_get A x hx
  exact ⟨⟨by rw [cell_of_row wr _ _ _ _ _ h.b]; simpa using g0, by rw [cell_of_row wr _ _ _ _ _ h.b]; simpa using g1⟩, by simp [World.frozen?, h.b], by simp [World.frozen?, h.b]⟩
theorem TsAt.store {w wr w2 : World} {B : Nat} {A : Nat → TA} {ts : Nat → Tl} (h : TsAt w wr B A ts) (hb : Below wr.heap.size wr w2) (x : Nat) (hx : x < 3) (a : TA) (t : Tl) (ht : TlAt w2 a.bm a.om a.cm a.bu a.ou a.cu t) :
    TsAt w ((w2.setCell ⟨B, x * 2, none⟩ a.c0).setCell ⟨B, x * 2 + 1, none⟩ a.c1) B (updA A x a) (upd ts x t) := by
  have h2 := h.on hb
  have k1 := Chg.setCell (T := [48]) (p := ⟨B, x * 2, none⟩) h2.b (by simp) a.c0
  have hs1 := heap_setCell_same w2 B (x * 2) _ _ a.c0 h2.b
  have k2 := Chg.setCell (T := [48]) (p := ⟨B, x * 2 + 1, none⟩) hs1 (by simp) a.c1
  have hs2 := heap_setCell_same _ B (x * 2 + 1) _ _ a.c1 hs1
  have hk := k1.trans k2
  refine ⟨?_, fun v hv => ?_, (h2.hb.setCell h.lo _).setCell h.lo _, h.lo⟩
  · rw [hs2]
    congr 2
    rw [← tsCells_set A x hx a]
    simp
  · unfold updA upd
    by_cases e : v = x
    · simp only [if_pos e]; exact ht.chg hk (by decide) (by decide)
    · simp only [if_neg e]; exact (h2.at' v hv).chg hk (by decide) (by decide)
theorem next_kept {W w6 : World} {o : Obj} (hb : Below (W.alloc o).drew.heap.size (W.alloc o).drew w6) : w6.heap[W.heap.size]? = some o := by
  rw [hb.block W.heap.size (by simp [heap_drew])]; exact heap_alloc_new _ _
theorem two_set {w : World} {N : Nat} {p q : Value} {e : TypeId} (h : w.heap[N]? = some (.cells #[p, q] e (0, 0))) (a b : Value) : ((w.setCell ⟨N, 0, none⟩ a).setCell ⟨N, 1, none⟩ b).heap[N]? = some (.cells #[a, b] e (0, 0)) := by
  have h1 := heap_setCell_same w N 0 _ _ a h
  have h2 := heap_setCell_same _ N 1 _ _ b h1
  rw [h2]; rfl
theorem six_on {W W' : World} {B D x : Nat} {a b c d e f : Value} (hb : Below W.heap.size W W') (h : (W.cell? ⟨B, x * 2, none⟩ = some a ∧ W.cell? ⟨B, x * 2 + 1, none⟩ = some b) ∧ (W.cell? ⟨D, 0, none⟩ = some c ∧ W.cell? ⟨D, 1, none⟩ = some d) ∧ (W.cell? ⟨D, 2, none⟩ = some e ∧ W.cell? ⟨D, 3, none⟩ = some f)) :
    (W'.cell? ⟨B, x * 2, none⟩ = some a ∧ W'.cell? ⟨B, x * 2 + 1, none⟩ = some b) ∧ (W'.cell? ⟨D, 0, none⟩ = some c ∧ W'.cell? ⟨D, 1, none⟩ = some d) ∧ (W'.cell? ⟨D, 2, none⟩ = some e ∧ W'.cell? ⟨D, 3, none⟩ = some f) :=
  ⟨⟨cell_on hb h.1.1, cell_on hb h.1.2⟩, ⟨cell_on hb h.2.1.1, cell_on hb h.2.1.2⟩, cell_on hb h.2.2.1, cell_on hb h.2.2.2⟩
theorem four_on {W W' : World} {B x y : Nat} {a b c d : Value} (hb : Below W.heap.size W W') (h : (W.cell? ⟨B, x * 2, none⟩ = some a ∧ W.cell? ⟨B, x * 2 + 1, none⟩ = some b) ∧ (W.cell? ⟨B, y * 2, none⟩ = some c ∧ W.cell? ⟨B, y * 2 + 1, none⟩ = some d)) :
    (W'.cell? ⟨B, x * 2, none⟩ = some a ∧ W'.cell? ⟨B, x * 2 + 1, none⟩ = some b) ∧ (W'.cell? ⟨B, y * 2, none⟩ = some c ∧ W'.cell? ⟨B, y * 2 + 1, none⟩ = some d) :=
  ⟨⟨cell_on hb h.1.1, cell_on hb h.1.2⟩, cell_on hb h.2.1, cell_on hb h.2.2⟩
set_option maxRecDepth 100000 in
set_option maxHeartbeats 8000000 in
theorem cknown (v : Value) (l : List Aff) (n : Nat) (first : Int) (w : World) (h : Has w 4 v l.length (affs l)) (hn : n ≤ 60) :
    Calls Try.prog 20 #[v, .int .i64 n, .int .i64 first] w fun e w' => ∃ B A, e = .returned (.tuple #[.slice (some ⟨B, 0, none⟩) 3 3, .bool true]) ∧ TsAt w w' B A (tlKnown (1 + pick first 50) l n) := by
  obtain ⟨⟨hl2, hnil⟩, ad, cap, rfl, hcn, hcm, hc⟩ := h
  have Hc := Lib.hid hc
  unfold maxLen at hcm
  obtain ⟨p0, p1⟩ := pick_bd first 50 (by omega)
  have P := Lib.hid (picked first 50 (by omega) (by omega))
  have HI := Lib.hid (tlKnown_inv (1 + pick first 50) (by omega) (by omega) l)
  generalize pick first 50 = q at *
  clear hc hl2 hnil
  go_enter Try.func20, Try.ntmps20
  go_wp2_with fail
  refine (cBlank w).mono ?_
  rintro e w1 ⟨gm, cm, gu, cu, rfl, hT, hb1⟩
  have HT1 := Lib.hid hT
  have Hb1 := Lib.hid hb1
  clear hT hb1
  go_wp2_with fail
  refine (P.out w1).mono ?_
  rintro e w1 ⟨rfl, rfl⟩
  have hin : TlIn tlBlank 1000 := ⟨fun i j _ _ => by simp [tlBlank], fun i _ => by simp [tlBlank]⟩
  have CD := Lib.hid (ctDoMint gm 0 cm gu 0 cu tlBlank 0 0 (1 + q) w1 HT1.out hin (by omega) (by omega) (by omega))
  clear hin
  go_wp2_with fail
  refine CD.out.mono ?_
  rintro e w2 ⟨gm2, cm2, gu2, cu2, rfl, hT, hb2⟩
  have HT2 := Lib.hid hT
  have Hb2 : Hid (Below w.heap.size w w2) := Hb1.out.trans (hb2.mono Hb1.out.size)
  clear hT hb2 CD HT1 Hb1
  go_wp2_with fail
  have ha : Below w2.heap.size w2 (w2.alloc (.cells #[.slice (some ⟨gm2, 0, none⟩) 3 cm2, .slice (some ⟨gu2, 0, none⟩) 3 cu2] 48)) := (Below.refl _ _).alloc (Nat.le_refl _) _
  obtain ⟨x0, x1, -, -⟩ := two_cells (heap_alloc_new w2 (.cells #[.slice (some ⟨gm2, 0, none⟩) 3 cm2, .slice (some ⟨gu2, 0, none⟩) 3 cu2] 48))
  have HT3 := Lib.hid (HT2.out.on ha)
  have Hb3 : Hid (Below w.heap.size w (w2.alloc (.cells #[.slice (some ⟨gm2, 0, none⟩) 3 cm2, .slice (some ⟨gu2, 0, none⟩) 3 cu2] 48))) := Hb2.out.trans (ha.mono Hb2.out.size)
  clear ha HT2 Hb2
  generalize hX : w2.heap.size = X at *
  generalize w2.alloc (.cells #[.slice (some ⟨gm2, 0, none⟩) 3 cm2, .slice (some ⟨gu2, 0, none⟩) 3 cu2] 48) = w3 at *
  clear hX
  have X0 := Lib.hid x0
  have X1 := Lib.hid x1
  go_region_held3 (fun Z => Z.cell? ⟨X, 0, none⟩ = some (.slice (some ⟨gm2, 0, none⟩) 3 cm2) ∧ Z.cell? ⟨X, 1, none⟩ = some (.slice (some ⟨gu2, 0, none⟩) 3 cu2))
    (first | exact ⟨cell_on (w := w3) hb5 X0.out, cell_on (w := w3) hb5 X1.out⟩ | exact ⟨cell_on (w := w3) hb4 X0.out, cell_on (w := w3) hb4 X1.out⟩ | (go_keep; done))
    ((first | (go_at_call 21; have hb4' := hb4; refine (cBlank _).mono ?_; rintro e w5 ⟨gm5, cm5, gu5, cu5, rfl, hT5, hb5'⟩; have hb5 : Below w3.heap.size w3 w5 := hb4.trans (hb5'.mono hb4.size); have hT54 := hT4.on hb5') | (go_at_call 21; refine (cBlank _).mono ?_; rintro e w4 ⟨gm4, cm4, gu4, cu4, rfl, hT4, hb4'⟩; have hb4 : Below w3.heap.size w3 w4 := (Below.drew (Below.refl _ _)).trans hb4') | fail))
  obtain ⟨A0, hA0⟩ : ∃ A0 : Nat → TA, A0 = fun v => if v = 0 then ⟨gm2, 0, cm2, gu2, 0, cu2⟩ else if v = 1 then ⟨gm4, 0, cm4, gu4, 0, cu4⟩ else ⟨gm5, 0, cm5, gu5, 0, cu5⟩ := ⟨_, rfl⟩
  have H0 : Hid (TsAt w (w5.alloc (.cells #[.slice (some ⟨gm2, 0, none⟩) 3 cm2, .slice (some ⟨gu2, 0, none⟩) 3 cu2, .slice (some ⟨gm4, 0, none⟩) 3 cm4, .slice (some ⟨gu4, 0, none⟩) 3 cu4, .slice (some ⟨gm5, 0, none⟩) 3 cm5, .slice (some ⟨gu5, 0, none⟩) 3 cu5] 48)) w5.heap.size A0 (tlKnown (1 + q) l 0)) := by
    have ha : Below w5.heap.size w5 (w5.alloc (.cells #[.slice (some ⟨gm2, 0, none⟩) 3 cm2, .slice (some ⟨gu2, 0, none⟩) 3 cu2, .slice (some ⟨gm4, 0, none⟩) 3 cm4, .slice (some ⟨gu4, 0, none⟩) 3 cu4, .slice (some ⟨gm5, 0, none⟩) 3 cm5, .slice (some ⟨gu5, 0, none⟩) 3 cu5] 48)) := (Below.refl _ _).alloc (Nat.le_refl _) _
    have hb35 : Below w.heap.size w w5 := Hb3.out.trans (hb5.mono Hb3.out.size)
    subst hA0
    refine ⟨heap_alloc_new _ _, three _ ?_ ?_ ?_, hb35.trans (ha.mono hb35.size), hb35.size⟩
    · exact (HT3.out.on hb5).on ha
    · exact hT54.on ha
    · exact hT5.on ha
  generalize hB : w5.heap.size = B at *
  clear hA0 hB X0 X1 x0 x1 hT4 hT5 hT54 hb4 hb5 hb4' hb5' HT3 Hb3
  go_wp2_with fail
  go_loopw [11] (fun i wr => ∃ (k : Nat) (A : Nat → TA), k ≤ l.length ∧ k ≤ n ∧ i = .int .i64 k ∧ TsAt w wr B A (tlKnown (1 + q) l k)) (fun i _ => l.length - (intOf i).toNat)
  case atStart => exact ⟨0, A0, by omega, by omega, rfl, H0.out⟩
  case round =>
    clear H0
    obtain ⟨k, A, hk, hkn, rfl, hT⟩ := hrel
    have HT := Lib.hid hT
    clear hT
    by_cases hlt : k < l.length
    · by_cases hln : k < n
      · obtain ⟨b, off, rfl, hcc⟩ := Hc.out (by simp [affs, flat_length Aff.cells 4 Aff.cells_length]; omega)
        have e0 := cell_on HT.out.hb (hcc (k * 4 + 0) (.int .i64 l[k].kind) (by unfold affs; rw [flat_get Aff.cells 4 Aff.cells_length l k hlt 0 (by omega)]; rfl))
        have e1 := cell_on HT.out.hb (hcc (k * 4 + 1) (.int .i64 l[k].who) (by unfold affs; rw [flat_get Aff.cells 4 Aff.cells_length l k hlt 1 (by omega)]; rfl))
        have e2 := cell_on HT.out.hb (hcc (k * 4 + 2) (.int .i64 l[k].dest) (by unfold affs; rw [flat_get Aff.cells 4 Aff.cells_length l k hlt 2 (by omega)]; rfl))
        have e3 := cell_on HT.out.hb (hcc (k * 4 + 3) (.int .i64 l[k].count) (by unfold affs; rw [flat_get Aff.cells 4 Aff.cells_length l k hlt 3 (by omega)]; rfl))
        rw [Nat.add_zero] at e0
        rw [← Nat.add_assoc] at e1 e2 e3
        have hbl := World.block_lt_of_cell? wr _ e0
        have hIk := HI.out k
        have Hnx : Hid (tlKnown (1 + q) l (k + 1) = affStep (tlKnown (1 + q) l k) l[k]) := foldl_take _ _ _ _ hlt
        generalize tlKnown (1 + q) l k = ts at *
        have HIk := Lib.hid hIk
        generalize l[k] = a at *
        have hx3 := affWho_lt a
        have hy3 := affTo_lt a
        have hxy := affTo_ne a
        have hcb := affCount_bd a
        obtain ⟨k0, k1⟩ := pick_bd a.kind 5 (by omega)
        have P3 : Hid (∀ X, Calls Try.prog 24 #[.int .i64 a.who, .int .i64 3] X fun e w' => e = .returned (.int .i64 (affWho a)) ∧ X = w') := fun X => by
          have := picked a.who 3 (by omega) (by omega) X
          have hp := pick_bd a.who 3 (by omega)
          rwa [show pick a.who 3 = (affWho a : Int) by unfold affWho; omega] at this
        obtain ⟨y, hy⟩ : ∃ y : Nat, y = (pick a.dest 2).toNat := ⟨_, rfl⟩
        have hy2 : y < 2 := by have := pick_bd a.dest 2 (by omega); omega
        have P2 : Hid (∀ X, Calls Try.prog 24 #[.int .i64 a.dest, .int .i64 2] X fun e w' => e = .returned (.int .i64 y) ∧ X = w') := fun X => by
          have := picked a.dest 2 (by omega) (by omega) X
          have hp := pick_bd a.dest 2 (by omega)
          rwa [show pick a.dest 2 = (y : Int) by omega] at this
        have hyo : Hid (((affWho a : Int) + 1 + (y : Int)) % 3 = (affTo a : Int)) := by unfold Hid affTo; rw [← hy]; omega
        have P9 := Lib.hid (fun X => picked a.count 9 (by omega) (by omega) X)
        have P5 := Lib.hid (fun X => picked a.kind 5 (by omega) (by omega) X)
        have hc9 : Hid (affCount a = 1 + pick a.count 9) := rfl
        have Hst : Hid (affStep ts a = if pick a.kind 5 = 0 then (if affCount a ≤ tlLeft (ts (affWho a)) (affWho a) then upd ts (affWho a) (tlMove (ts (affWho a)) (affWho a) (affTo a) (affCount a)) else ts)
          else if pick a.kind 5 ≤ 2 then (if affCount a ≤ tlLeft (ts (affWho a)) (affWho a) then upd ts (affWho a) (tlUse (ts (affWho a)) (affWho a) (affCount a)) else ts)
          else upd ts (affWho a) (tlMax (ts (affWho a)) (ts (affTo a)))) := rfl
        generalize affStep ts a = ts2 at *
        obtain ⟨kd, wh, ds, ct⟩ := a
        simp only at *
        generalize pick ct 9 = z at *
        generalize affWho ⟨kd, wh, ds, ct⟩ = x at *
        generalize affTo ⟨kd, wh, ds, ct⟩ = o at *
        generalize affCount ⟨kd, wh, ds, ct⟩ = c at *
        obtain rfl : c = 1 + z := hc9.out
        generalize pick kd 5 = p at *
        clear hcc hIk hc9 hy
        rcases (show p = 0 ∨ (p = 1 ∨ p = 2) ∨ (p = 3 ∨ p = 4) by omega) with rfl | (rfl | rfl) | (rfl | rfl)
        · rw [if_pos rfl] at Hst
          go_wp2_with (first | (go_at_call 24; with_reducible refine (P3.out _).mono ?_; rintro e w' ⟨rfl, rfl⟩) | (go_at_call 24; with_reducible refine (P2.out _).mono ?_; rintro e w' ⟨rfl, rfl⟩) | (go_at_call 24; with_reducible refine (P9.out _).mono ?_; rintro e w' ⟨rfl, rfl⟩) | (go_at_call 24; with_reducible refine (P5.out _).mono ?_; rintro e w' ⟨rfl, rfl⟩))
          clear e0 e1 e2 e3 P3 P2 P9 P5 Hc hbl
          generalize hre : ((x : Int) + 1 + (y : Int)) % 3 = r at *
          obtain rfl : r = (o : Int) := hyo.out
          clear hre
          have hbW : Below wr.heap.size wr ((wr.alloc (.cells #[.int .i64 kd, .int .i64 wh, .int .i64 ds, .int .i64 ct] 80)).alloc (.cells #[.int .i64 2, .int .i64 x, .int .i64 o, .int .i64 (1 + z)] 59)) := (by repeat (first | exact Below.refl _ _ | refine Below.drew ?_ | refine Below.alloc ?_ (by first | (simp; done) | (simp; omega)) _ | refine Below.setCell ?_ (by first | (simp; done) | (simp; omega)) _))
          have hD : ((wr.alloc (.cells #[.int .i64 kd, .int .i64 wh, .int .i64 ds, .int .i64 ct] 80)).alloc (.cells #[.int .i64 2, .int .i64 x, .int .i64 o, .int .i64 (1 + z)] 59)).heap[wr.heap.size + 1]? = some (.cells #[.int .i64 2, .int .i64 x, .int .i64 o, .int .i64 (1 + z)] 59 (0, 0)) := by
            have := heap_alloc_new (wr.alloc (.cells #[.int .i64 kd, .int .i64 wh, .int .i64 ds, .int .i64 ct] 80)) (.cells #[.int .i64 2, .int .i64 x, .int .i64 o, .int .i64 (1 + z)] 59)
            simpa using this
          have HW := Lib.hid (HT.out.on hbW)
          generalize ((wr.alloc (.cells #[.int .i64 kd, .int .i64 wh, .int .i64 ds, .int .i64 ct] 80)).alloc (.cells #[.int .i64 2, .int .i64 x, .int .i64 o, .int .i64 (1 + z)] 59)) = W at *
          generalize wr.heap.size + 1 = D at *
          clear hbW HT
          obtain ⟨⟨g0, g1⟩, -, -⟩ := HW.out.cells x hx3
          have HA := Lib.hid (HW.out.at' x hx3)
          obtain ⟨ax, hax⟩ : ∃ ax, ax = A x := ⟨_, rfl⟩
          rw [← hax] at g0 g1 HA
          obtain ⟨bm, om, cm', bu, ou, cu'⟩ := ax
          simp only [TA.c0, TA.c1] at g0 g1
          have d0 : W.cell? ⟨D, 0, none⟩ = some (.int .i64 2) := by rw [cell_of_row W _ _ _ _ _ hD]; rfl
          have d1 : W.cell? ⟨D, 1, none⟩ = some (.int .i64 x) := by rw [cell_of_row W _ _ _ _ _ hD]; rfl
          have d2 : W.cell? ⟨D, 2, none⟩ = some (.int .i64 o) := by rw [cell_of_row W _ _ _ _ _ hD]; rfl
          have d3 : W.cell? ⟨D, 3, none⟩ = some (.int .i64 (1 + z)) := by rw [cell_of_row W _ _ _ _ _ hD]; rfl
          have hS : Hid ((W.cell? ⟨B, x * 2, none⟩ = some (.slice (some ⟨bm, om, none⟩) 3 cm') ∧ W.cell? ⟨B, x * 2 + 1, none⟩ = some (.slice (some ⟨bu, ou, none⟩) 3 cu')) ∧ (W.cell? ⟨D, 0, none⟩ = some (.int .i64 2) ∧ W.cell? ⟨D, 1, none⟩ = some (.int .i64 x)) ∧ (W.cell? ⟨D, 2, none⟩ = some (.int .i64 o) ∧ W.cell? ⟨D, 3, none⟩ = some (.int .i64 (1 + z)))) := ⟨⟨g0, g1⟩, ⟨d0, d1⟩, d2, d3⟩
          have hin : TlIn (ts x) 1000 := (HIk.out.bd x hx3).mono (by omega)
          have hlb := tlLeft_bd (ts x) (hin.mono (by omega)) x hx3
          have Hax := Lib.hid hax
          have Hin := Lib.hid hin
          clear hin hax hD g0 g1 d0 d1 d2 d3
          by_cases hlc : 1 + z ≤ tlLeft (ts x) x
          · rw [if_pos hlc] at Hst
            have CD : Hid (∀ Z, Below W.heap.size W Z → _) := fun Z hZ => ctDoMove bm om cm' bu ou cu' (ts x) x o hy3 hxy (1 + z) Z (HA.out.on hZ) Hin.out hx3 hlc (by omega) (by omega)
            have hx3' : (x : Int) < 3 := by omega
            go_region_held3 (fun Z => (Z.cell? ⟨B, x * 2, none⟩ = some (.slice (some ⟨bm, om, none⟩) 3 cm') ∧ Z.cell? ⟨B, x * 2 + 1, none⟩ = some (.slice (some ⟨bu, ou, none⟩) 3 cu')) ∧ (Z.cell? ⟨D, 0, none⟩ = some (.int .i64 2) ∧ Z.cell? ⟨D, 1, none⟩ = some (.int .i64 x)) ∧ (Z.cell? ⟨D, 2, none⟩ = some (.int .i64 o) ∧ Z.cell? ⟨D, 3, none⟩ = some (.int .i64 (1 + z))))
              (first | exact hS.out | exact six_on (by repeat (first | exact hb6 | exact Below.refl _ _ | refine Below.drew ?_ | refine Below.alloc ?_ (by first | exact hb6.size | (simp; done) | (simp; omega)) _ | refine Below.setCell ?_ (by first | (simp; done) | (simp; omega)) _)) hS.out | (go_keep; done))
              ((go_at_call 27; refine (CD.out _ (by repeat (first | exact Below.refl _ _ | refine Below.drew ?_ | refine Below.alloc ?_ (by first | (simp; done) | (simp; omega)) _ | refine Below.setCell ?_ (by first | (simp; done) | (simp; omega)) _))).mono ?_; rintro e w6 ⟨gm6, cm6, gu6, cu6, rfl, hT6, hb6'⟩; have hb6 : Below W.heap.size W w6 := Below.trans (b := _) (by repeat (first | exact Below.refl _ _ | refine Below.drew ?_ | refine Below.alloc ?_ (by first | (simp; done) | (simp; omega)) _ | refine Below.setCell ?_ (by first | (simp; done) | (simp; omega)) _)) (hb6'.mono (by first | exact Nat.le_refl _ | (simp [heap_drew]; done) | (simp [heap_drew]; omega))); try (have hN := next_kept hb6'; obtain ⟨z0, z1, z2, z3⟩ := two_cells hN)))
            · have ha : Below W.heap.size W (w6.alloc (.cells #[.slice (some ⟨gm6, 0, none⟩) 3 cm6, .slice (some ⟨gu6, 0, none⟩) 3 cu6] 48)) := hb6.alloc hb6.size _
              obtain ⟨n0, n1, -, -⟩ := two_cells (heap_alloc_new w6 (.cells #[.slice (some ⟨gm6, 0, none⟩) 3 cm6, .slice (some ⟨gu6, 0, none⟩) 3 cu6] 48))
              have HT7 := Lib.hid (hT6.on ((Below.refl _ _).alloc (Nat.le_refl _) (.cells #[.slice (some ⟨gm6, 0, none⟩) 3 cm6, .slice (some ⟨gu6, 0, none⟩) 3 cu6] 48)))
              have HW7 := Lib.hid (HW.out.on ha)
              have HbW7 := Lib.hid ha
              generalize w6.alloc (.cells #[.slice (some ⟨gm6, 0, none⟩) 3 cm6, .slice (some ⟨gu6, 0, none⟩) 3 cu6] 48) = W7 at *
              obtain ⟨⟨g0, g1⟩, f0, f1⟩ := HW7.out.cells x hx3
              rw [← Hax.out] at g0 g1
              simp only [TA.c0, TA.c1] at g0 g1
              have CL := Lib.hid (ctLeft bm om cm' bu ou cu' (ts x) x W7 (HA.out.on HbW7.out) (Hin.out.mono (by omega)) hx3)
              clear ha hb6 hb6' CD hS hT6
              generalize hlf : tlLeft (ts x) x = lf at *
              have Hlf := Lib.hid hlf
              clear hlf
              go_wp2_with fail
              refine CL.out.mono ?_
              rintro e w8 ⟨rfl, hb8⟩
              have HW8 := Lib.hid (HW7.out.on hb8)
              replace n0 := cell_on hb8 n0
              replace n1 := cell_on hb8 n1
              have HS := Lib.hid (HW7.out.store hb8 x hx3 ⟨gm6, 0, cm6, gu6, 0, cu6⟩ _ (HT7.out.on hb8))
              clear hb8 g0 g1 f0 f1
              obtain ⟨⟨g0, g1⟩, f0, f1⟩ := HW8.out.cells x hx3
              go_wp2_with fail
              go_roundw
              case rel => exact ⟨k + 1, _, by omega, by omega, by go_num, by rw [Hnx.out, Hst.out]; exact HS.out⟩
              case measure => simp [intOf]; omega
            · have ha : Below W.heap.size W ((w6.setCell ⟨W.heap.size, 0, none⟩ (.slice (some ⟨gm6, 0, none⟩) 3 cm6)).setCell ⟨W.heap.size, 1, none⟩ (.slice (some ⟨gu6, 0, none⟩) 3 cu6)) := (hb6.setCell (Nat.le_refl _) _).setCell (Nat.le_refl _) _
              obtain ⟨n0, n1, -, -⟩ := two_cells (two_set hN (.slice (some ⟨gm6, 0, none⟩) 3 cm6) (.slice (some ⟨gu6, 0, none⟩) 3 cu6))
              have HT7 := Lib.hid (hT6.chg (do_chg hN (.slice (some ⟨gm6, 0, none⟩) 3 cm6) (.slice (some ⟨gu6, 0, none⟩) 3 cu6)) (by decide) (by decide))
              clear hN z0 z1 z2 z3
              have HW7 := Lib.hid (HW.out.on ha)
              have HbW7 := Lib.hid ha
              generalize (w6.setCell ⟨W.heap.size, 0, none⟩ (.slice (some ⟨gm6, 0, none⟩) 3 cm6)).setCell ⟨W.heap.size, 1, none⟩ (.slice (some ⟨gu6, 0, none⟩) 3 cu6) = W7 at *
              obtain ⟨⟨g0, g1⟩, f0, f1⟩ := HW7.out.cells x hx3
              rw [← Hax.out] at g0 g1
              simp only [TA.c0, TA.c1] at g0 g1
              have CL := Lib.hid (ctLeft bm om cm' bu ou cu' (ts x) x W7 (HA.out.on HbW7.out) (Hin.out.mono (by omega)) hx3)
              clear ha hb6 hb6' CD hS hT6
              generalize hlf : tlLeft (ts x) x = lf at *
              have Hlf := Lib.hid hlf
              clear hlf
              go_wp2_with fail
              refine CL.out.mono ?_
              rintro e w8 ⟨rfl, hb8⟩
              have HW8 := Lib.hid (HW7.out.on hb8)
              replace n0 := cell_on hb8 n0
              replace n1 := cell_on hb8 n1
              have HS := Lib.hid (HW7.out.store hb8 x hx3 ⟨gm6, 0, cm6, gu6, 0, cu6⟩ _ (HT7.out.on hb8))
              clear hb8 g0 g1 f0 f1
              obtain ⟨⟨g0, g1⟩, f0, f1⟩ := HW8.out.cells x hx3
              go_wp2_with fail
              go_roundw
              case rel => exact ⟨k + 1, _, by omega, by omega, by go_num, by rw [Hnx.out, Hst.out]; exact HS.out⟩
              case measure => simp [intOf]; omega
          · rw [if_neg hlc] at Hst
            have CD : Hid (∀ Z, Below W.heap.size W Z → _) := fun Z hZ => ctDoMoveLess bm om cm' bu ou cu' (ts x) x o hy3 hxy (1 + z) Z (HA.out.on hZ) Hin.out hx3 (by omega) (by omega) (by omega)
            have hx3' : (x : Int) < 3 := by omega
            go_region_held3 (fun Z => (Z.cell? ⟨B, x * 2, none⟩ = some (.slice (some ⟨bm, om, none⟩) 3 cm') ∧ Z.cell? ⟨B, x * 2 + 1, none⟩ = some (.slice (some ⟨bu, ou, none⟩) 3 cu')) ∧ (Z.cell? ⟨D, 0, none⟩ = some (.int .i64 2) ∧ Z.cell? ⟨D, 1, none⟩ = some (.int .i64 x)) ∧ (Z.cell? ⟨D, 2, none⟩ = some (.int .i64 o) ∧ Z.cell? ⟨D, 3, none⟩ = some (.int .i64 (1 + z))))
              (first | exact hS.out | exact six_on (by repeat (first | exact hb6 | exact Below.refl _ _ | refine Below.drew ?_ | refine Below.alloc ?_ (by first | exact hb6.size | (simp; done) | (simp; omega)) _ | refine Below.setCell ?_ (by first | (simp; done) | (simp; omega)) _)) hS.out | (go_keep; done))
              ((go_at_call 27; refine (CD.out _ (by repeat (first | exact Below.refl _ _ | refine Below.drew ?_ | refine Below.alloc ?_ (by first | (simp; done) | (simp; omega)) _ | refine Below.setCell ?_ (by first | (simp; done) | (simp; omega)) _))).mono ?_; rintro e w6 ⟨rfl, hb6'⟩; have hb6 : Below W.heap.size W w6 := Below.trans (b := _) (by repeat (first | exact Below.refl _ _ | refine Below.drew ?_ | refine Below.alloc ?_ (by first | (simp; done) | (simp; omega)) _ | refine Below.setCell ?_ (by first | (simp; done) | (simp; omega)) _)) (hb6'.mono (by first | exact Nat.le_refl _ | (simp [heap_drew]; done) | (simp [heap_drew]; omega))); try (have hN := next_kept hb6'; obtain ⟨z0, z1, z2, z3⟩ := two_cells hN)))
            · have ha : Below W.heap.size W (w6.alloc (.cells #[.slice none 0 0, .slice none 0 0] 48)) := hb6.alloc hb6.size _
              have HW7 := Lib.hid (HW.out.on ha)
              have HbW7 := Lib.hid ha
              generalize w6.alloc (.cells #[.slice none 0 0, .slice none 0 0] 48) = W7 at *
              obtain ⟨⟨g0, g1⟩, f0, f1⟩ := HW7.out.cells x hx3
              rw [← Hax.out] at g0 g1
              simp only [TA.c0, TA.c1] at g0 g1
              have CL := Lib.hid (ctLeft bm om cm' bu ou cu' (ts x) x W7 (HA.out.on HbW7.out) (Hin.out.mono (by omega)) hx3)
              clear ha hb6 hb6' CD hS 
              generalize hlf : tlLeft (ts x) x = lf at *
              have Hlf := Lib.hid hlf
              clear hlf
              go_wp2_with fail
              refine CL.out.mono ?_
              rintro e w8 ⟨rfl, hb8⟩
              have HW8 := Lib.hid (HW7.out.on hb8)
              have hlc2 : lf < 1 + z := by omega
              clear hb8 g0 g1 f0 f1
              go_wp2_with fail
              go_roundw
              case rel => exact ⟨k + 1, A, by omega, by omega, by go_num, by rw [Hnx.out, Hst.out]; exact HW8.out⟩
              case measure => simp [intOf]; omega
            · have ha : Below W.heap.size W ((w6.setCell ⟨W.heap.size, 0, none⟩ (.slice none 0 0)).setCell ⟨W.heap.size, 1, none⟩ (.slice none 0 0)) := (hb6.setCell (Nat.le_refl _) _).setCell (Nat.le_refl _) _
              clear hN z0 z1 z2 z3
              have HW7 := Lib.hid (HW.out.on ha)
              have HbW7 := Lib.hid ha
              generalize (w6.setCell ⟨W.heap.size, 0, none⟩ (.slice none 0 0)).setCell ⟨W.heap.size, 1, none⟩ (.slice none 0 0) = W7 at *
              obtain ⟨⟨g0, g1⟩, f0, f1⟩ := HW7.out.cells x hx3
              rw [← Hax.out] at g0 g1
              simp only [TA.c0, TA.c1] at g0 g1
              have CL := Lib.hid (ctLeft bm om cm' bu ou cu' (ts x) x W7 (HA.out.on HbW7.out) (Hin.out.mono (by omega)) hx3)
              clear ha hb6 hb6' CD hS 
              generalize hlf : tlLeft (ts x) x = lf at *
              have Hlf := Lib.hid hlf
              clear hlf
              go_wp2_with fail
              refine CL.out.mono ?_
              rintro e w8 ⟨rfl, hb8⟩
              have HW8 := Lib.hid (HW7.out.on hb8)
              have hlc2 : lf < 1 + z := by omega
              clear hb8 g0 g1 f0 f1
              go_wp2_with fail
              go_roundw
              case rel => exact ⟨k + 1, A, by omega, by omega, by go_num, by rw [Hnx.out, Hst.out]; exact HW8.out⟩
              case measure => simp [intOf]; omega
        · rw [if_neg (by omega), if_pos (by omega)] at Hst
          go_wp2_with (first | (go_at_call 24; with_reducible refine (P3.out _).mono ?_; rintro e w' ⟨rfl, rfl⟩) | (go_at_call 24; with_reducible refine (P2.out _).mono ?_; rintro e w' ⟨rfl, rfl⟩) | (go_at_call 24; with_reducible refine (P9.out _).mono ?_; rintro e w' ⟨rfl, rfl⟩) | (go_at_call 24; with_reducible refine (P5.out _).mono ?_; rintro e w' ⟨rfl, rfl⟩))
          clear e0 e1 e2 e3 P3 P2 P9 P5 Hc hbl
          generalize hre : ((x : Int) + 1 + (y : Int)) % 3 = r at *
          obtain rfl : r = (o : Int) := hyo.out
          clear hre
          have hbW : Below wr.heap.size wr ((wr.alloc (.cells #[.int .i64 kd, .int .i64 wh, .int .i64 ds, .int .i64 ct] 80)).alloc (.cells #[.int .i64 3, .int .i64 x, .int .i64 0, .int .i64 (1 + z)] 59)) := (by repeat (first | exact Below.refl _ _ | refine Below.drew ?_ | refine Below.alloc ?_ (by first | (simp; done) | (simp; omega)) _ | refine Below.setCell ?_ (by first | (simp; done) | (simp; omega)) _))
          have hD : ((wr.alloc (.cells #[.int .i64 kd, .int .i64 wh, .int .i64 ds, .int .i64 ct] 80)).alloc (.cells #[.int .i64 3, .int .i64 x, .int .i64 0, .int .i64 (1 + z)] 59)).heap[wr.heap.size + 1]? = some (.cells #[.int .i64 3, .int .i64 x, .int .i64 0, .int .i64 (1 + z)] 59 (0, 0)) := by
            have := heap_alloc_new (wr.alloc (.cells #[.int .i64 kd, .int .i64 wh, .int .i64 ds, .int .i64 ct] 80)) (.cells #[.int .i64 3, .int .i64 x, .int .i64 0, .int .i64 (1 + z)] 59)
            simpa using this
          have HW := Lib.hid (HT.out.on hbW)
          generalize ((wr.alloc (.cells #[.int .i64 kd, .int .i64 wh, .int .i64 ds, .int .i64 ct] 80)).alloc (.cells #[.int .i64 3, .int .i64 x, .int .i64 0, .int .i64 (1 + z)] 59)) = W at *
          generalize wr.heap.size + 1 = D at *
          clear hbW HT
          obtain ⟨⟨g0, g1⟩, -, -⟩ := HW.out.cells x hx3
          have HA := Lib.hid (HW.out.at' x hx3)
          obtain ⟨ax, hax⟩ : ∃ ax, ax = A x := ⟨_, rfl⟩
          rw [← hax] at g0 g1 HA
          obtain ⟨bm, om, cm', bu, ou, cu'⟩ := ax
          simp only [TA.c0, TA.c1] at g0 g1
          have d0 : W.cell? ⟨D, 0, none⟩ = some (.int .i64 3) := by rw [cell_of_row W _ _ _ _ _ hD]; rfl
          have d1 : W.cell? ⟨D, 1, none⟩ = some (.int .i64 x) := by rw [cell_of_row W _ _ _ _ _ hD]; rfl
          have d2 : W.cell? ⟨D, 2, none⟩ = some (.int .i64 0) := by rw [cell_of_row W _ _ _ _ _ hD]; rfl
          have d3 : W.cell? ⟨D, 3, none⟩ = some (.int .i64 (1 + z)) := by rw [cell_of_row W _ _ _ _ _ hD]; rfl
          have hS : Hid ((W.cell? ⟨B, x * 2, none⟩ = some (.slice (some ⟨bm, om, none⟩) 3 cm') ∧ W.cell? ⟨B, x * 2 + 1, none⟩ = some (.slice (some ⟨bu, ou, none⟩) 3 cu')) ∧ (W.cell? ⟨D, 0, none⟩ = some (.int .i64 3) ∧ W.cell? ⟨D, 1, none⟩ = some (.int .i64 x)) ∧ (W.cell? ⟨D, 2, none⟩ = some (.int .i64 0) ∧ W.cell? ⟨D, 3, none⟩ = some (.int .i64 (1 + z)))) := ⟨⟨g0, g1⟩, ⟨d0, d1⟩, d2, d3⟩
          have hin : TlIn (ts x) 1000 := (HIk.out.bd x hx3).mono (by omega)
          have hlb := tlLeft_bd (ts x) (hin.mono (by omega)) x hx3
          have Hax := Lib.hid hax
          have Hin := Lib.hid hin
          clear hin hax hD g0 g1 d0 d1 d2 d3
          by_cases hlc : 1 + z ≤ tlLeft (ts x) x
          · rw [if_pos hlc] at Hst
            have CD : Hid (∀ Z, Below W.heap.size W Z → _) := fun Z hZ => ctDoUse bm om cm' bu ou cu' (ts x) x 0 (1 + z) Z (HA.out.on hZ) Hin.out hx3 hlc (by omega) (by omega)
            have hx3' : (x : Int) < 3 := by omega
            go_region_held3 (fun Z => (Z.cell? ⟨B, x * 2, none⟩ = some (.slice (some ⟨bm, om, none⟩) 3 cm') ∧ Z.cell? ⟨B, x * 2 + 1, none⟩ = some (.slice (some ⟨bu, ou, none⟩) 3 cu')) ∧ (Z.cell? ⟨D, 0, none⟩ = some (.int .i64 3) ∧ Z.cell? ⟨D, 1, none⟩ = some (.int .i64 x)) ∧ (Z.cell? ⟨D, 2, none⟩ = some (.int .i64 0) ∧ Z.cell? ⟨D, 3, none⟩ = some (.int .i64 (1 + z))))
              (first | exact hS.out | exact six_on (by repeat (first | exact hb6 | exact Below.refl _ _ | refine Below.drew ?_ | refine Below.alloc ?_ (by first | exact hb6.size | (simp; done) | (simp; omega)) _ | refine Below.setCell ?_ (by first | (simp; done) | (simp; omega)) _)) hS.out | (go_keep; done))
              ((go_at_call 27; refine (CD.out _ (by repeat (first | exact Below.refl _ _ | refine Below.drew ?_ | refine Below.alloc ?_ (by first | (simp; done) | (simp; omega)) _ | refine Below.setCell ?_ (by first | (simp; done) | (simp; omega)) _))).mono ?_; rintro e w6 ⟨gm6, cm6, gu6, cu6, rfl, hT6, hb6'⟩; have hb6 : Below W.heap.size W w6 := Below.trans (b := _) (by repeat (first | exact Below.refl _ _ | refine Below.drew ?_ | refine Below.alloc ?_ (by first | (simp; done) | (simp; omega)) _ | refine Below.setCell ?_ (by first | (simp; done) | (simp; omega)) _)) (hb6'.mono (by first | exact Nat.le_refl _ | (simp [heap_drew]; done) | (simp [heap_drew]; omega))); try (have hN := next_kept hb6'; obtain ⟨z0, z1, z2, z3⟩ := two_cells hN)))
            · have ha : Below W.heap.size W (w6.alloc (.cells #[.slice (some ⟨gm6, 0, none⟩) 3 cm6, .slice (some ⟨gu6, 0, none⟩) 3 cu6] 48)) := hb6.alloc hb6.size _
              obtain ⟨n0, n1, -, -⟩ := two_cells (heap_alloc_new w6 (.cells #[.slice (some ⟨gm6, 0, none⟩) 3 cm6, .slice (some ⟨gu6, 0, none⟩) 3 cu6] 48))
              have HT7 := Lib.hid (hT6.on ((Below.refl _ _).alloc (Nat.le_refl _) (.cells #[.slice (some ⟨gm6, 0, none⟩) 3 cm6, .slice (some ⟨gu6, 0, none⟩) 3 cu6] 48)))
              have HW7 := Lib.hid (HW.out.on ha)
              have HbW7 := Lib.hid ha
              generalize w6.alloc (.cells #[.slice (some ⟨gm6, 0, none⟩) 3 cm6, .slice (some ⟨gu6, 0, none⟩) 3 cu6] 48) = W7 at *
              obtain ⟨⟨g0, g1⟩, f0, f1⟩ := HW7.out.cells x hx3
              rw [← Hax.out] at g0 g1
              simp only [TA.c0, TA.c1] at g0 g1
              have CL := Lib.hid (ctLeft bm om cm' bu ou cu' (ts x) x W7 (HA.out.on HbW7.out) (Hin.out.mono (by omega)) hx3)
              clear ha hb6 hb6' CD hS hT6
              generalize hlf : tlLeft (ts x) x = lf at *
              have Hlf := Lib.hid hlf
              clear hlf
              go_wp2_with fail
              refine CL.out.mono ?_
              rintro e w8 ⟨rfl, hb8⟩
              have HW8 := Lib.hid (HW7.out.on hb8)
              replace n0 := cell_on hb8 n0
              replace n1 := cell_on hb8 n1
              have HS := Lib.hid (HW7.out.store hb8 x hx3 ⟨gm6, 0, cm6, gu6, 0, cu6⟩ _ (HT7.out.on hb8))
              clear hb8 g0 g1 f0 f1
              obtain ⟨⟨g0, g1⟩, f0, f1⟩ := HW8.out.cells x hx3
              go_wp2_with fail
              go_roundw
              case rel => exact ⟨k + 1, _, by omega, by omega, by go_num, by rw [Hnx.out, Hst.out]; exact HS.out⟩
              case measure => simp [intOf]; omega
            · have ha : Below W.heap.size W ((w6.setCell ⟨W.heap.size, 0, none⟩ (.slice (some ⟨gm6, 0, none⟩) 3 cm6)).setCell ⟨W.heap.size, 1, none⟩ (.slice (some ⟨gu6, 0, none⟩) 3 cu6)) := (hb6.setCell (Nat.le_refl _) _).setCell (Nat.le_refl _) _
              obtain ⟨n0, n1, -, -⟩ := two_cells (two_set hN (.slice (some ⟨gm6, 0, none⟩) 3 cm6) (.slice (some ⟨gu6, 0, none⟩) 3 cu6))
              have HT7 := Lib.hid (hT6.chg (do_chg hN (.slice (some ⟨gm6, 0, none⟩) 3 cm6) (.slice (some ⟨gu6, 0, none⟩) 3 cu6)) (by decide) (by decide))
              clear hN z0 z1 z2 z3
              have HW7 := Lib.hid (HW.out.on ha)
              have HbW7 := Lib.hid ha
              generalize (w6.setCell ⟨W.heap.size, 0, none⟩ (.slice (some ⟨gm6, 0, none⟩) 3 cm6)).setCell ⟨W.heap.size, 1, none⟩ (.slice (some ⟨gu6, 0, none⟩) 3 cu6) = W7 at *
              obtain ⟨⟨g0, g1⟩, f0, f1⟩ := HW7.out.cells x hx3
              rw [← Hax.out] at g0 g1
              simp only [TA.c0, TA.c1] at g0 g1
              have CL := Lib.hid (ctLeft bm om cm' bu ou cu' (ts x) x W7 (HA.out.on HbW7.out) (Hin.out.mono (by omega)) hx3)
              clear ha hb6 hb6' CD hS hT6
              generalize hlf : tlLeft (ts x) x = lf at *
              have Hlf := Lib.hid hlf
              clear hlf
              go_wp2_with fail
              refine CL.out.mono ?_
              rintro e w8 ⟨rfl, hb8⟩
              have HW8 := Lib.hid (HW7.out.on hb8)
              replace n0 := cell_on hb8 n0
              replace n1 := cell_on hb8 n1
              have HS := Lib.hid (HW7.out.store hb8 x hx3 ⟨gm6, 0, cm6, gu6, 0, cu6⟩ _ (HT7.out.on hb8))
              clear hb8 g0 g1 f0 f1
              obtain ⟨⟨g0, g1⟩, f0, f1⟩ := HW8.out.cells x hx3
              go_wp2_with fail
              go_roundw
              case rel => exact ⟨k + 1, _, by omega, by omega, by go_num, by rw [Hnx.out, Hst.out]; exact HS.out⟩
              case measure => simp [intOf]; omega
          · rw [if_neg hlc] at Hst
            have CD : Hid (∀ Z, Below W.heap.size W Z → _) := fun Z hZ => ctDoUseLess bm om cm' bu ou cu' (ts x) x 0 (1 + z) Z (HA.out.on hZ) Hin.out hx3 (by omega) (by omega) (by omega)
            have hx3' : (x : Int) < 3 := by omega
            go_region_held3 (fun Z => (Z.cell? ⟨B, x * 2, none⟩ = some (.slice (some ⟨bm, om, none⟩) 3 cm') ∧ Z.cell? ⟨B, x * 2 + 1, none⟩ = some (.slice (some ⟨bu, ou, none⟩) 3 cu')) ∧ (Z.cell? ⟨D, 0, none⟩ = some (.int .i64 3) ∧ Z.cell? ⟨D, 1, none⟩ = some (.int .i64 x)) ∧ (Z.cell? ⟨D, 2, none⟩ = some (.int .i64 0) ∧ Z.cell? ⟨D, 3, none⟩ = some (.int .i64 (1 + z))))
              (first | exact hS.out | exact six_on (by repeat (first | exact hb6 | exact Below.refl _ _ | refine Below.drew ?_ | refine Below.alloc ?_ (by first | exact hb6.size | (simp; done) | (simp; omega)) _ | refine Below.setCell ?_ (by first | (simp; done) | (simp; omega)) _)) hS.out | (go_keep; done))
              ((go_at_call 27; refine (CD.out _ (by repeat (first | exact Below.refl _ _ | refine Below.drew ?_ | refine Below.alloc ?_ (by first | (simp; done) | (simp; omega)) _ | refine Below.setCell ?_ (by first | (simp; done) | (simp; omega)) _))).mono ?_; rintro e w6 ⟨rfl, hb6'⟩; have hb6 : Below W.heap.size W w6 := Below.trans (b := _) (by repeat (first | exact Below.refl _ _ | refine Below.drew ?_ | refine Below.alloc ?_ (by first | (simp; done) | (simp; omega)) _ | refine Below.setCell ?_ (by first | (simp; done) | (simp; omega)) _)) (hb6'.mono (by first | exact Nat.le_refl _ | (simp [heap_drew]; done) | (simp [heap_drew]; omega))); try (have hN := next_kept hb6'; obtain ⟨z0, z1, z2, z3⟩ := two_cells hN)))
            · have ha : Below W.heap.size W (w6.alloc (.cells #[.slice none 0 0, .slice none 0 0] 48)) := hb6.alloc hb6.size _
              have HW7 := Lib.hid (HW.out.on ha)
              have HbW7 := Lib.hid ha
              generalize w6.alloc (.cells #[.slice none 0 0, .slice none 0 0] 48) = W7 at *
              obtain ⟨⟨g0, g1⟩, f0, f1⟩ := HW7.out.cells x hx3
              rw [← Hax.out] at g0 g1
              simp only [TA.c0, TA.c1] at g0 g1
              have CL := Lib.hid (ctLeft bm om cm' bu ou cu' (ts x) x W7 (HA.out.on HbW7.out) (Hin.out.mono (by omega)) hx3)
              clear ha hb6 hb6' CD hS 
              generalize hlf : tlLeft (ts x) x = lf at *
              have Hlf := Lib.hid hlf
              clear hlf
              go_wp2_with fail
              refine CL.out.mono ?_
              rintro e w8 ⟨rfl, hb8⟩
              have HW8 := Lib.hid (HW7.out.on hb8)
              have hlc2 : lf < 1 + z := by omega
              clear hb8 g0 g1 f0 f1
              go_wp2_with fail
              go_roundw
              case rel => exact ⟨k + 1, A, by omega, by omega, by go_num, by rw [Hnx.out, Hst.out]; exact HW8.out⟩
              case measure => simp [intOf]; omega
            · have ha : Below W.heap.size W ((w6.setCell ⟨W.heap.size, 0, none⟩ (.slice none 0 0)).setCell ⟨W.heap.size, 1, none⟩ (.slice none 0 0)) := (hb6.setCell (Nat.le_refl _) _).setCell (Nat.le_refl _) _
              clear hN z0 z1 z2 z3
              have HW7 := Lib.hid (HW.out.on ha)
              have HbW7 := Lib.hid ha
              generalize (w6.setCell ⟨W.heap.size, 0, none⟩ (.slice none 0 0)).setCell ⟨W.heap.size, 1, none⟩ (.slice none 0 0) = W7 at *
              obtain ⟨⟨g0, g1⟩, f0, f1⟩ := HW7.out.cells x hx3
              rw [← Hax.out] at g0 g1
              simp only [TA.c0, TA.c1] at g0 g1
              have CL := Lib.hid (ctLeft bm om cm' bu ou cu' (ts x) x W7 (HA.out.on HbW7.out) (Hin.out.mono (by omega)) hx3)
              clear ha hb6 hb6' CD hS 
              generalize hlf : tlLeft (ts x) x = lf at *
              have Hlf := Lib.hid hlf
              clear hlf
              go_wp2_with fail
              refine CL.out.mono ?_
              rintro e w8 ⟨rfl, hb8⟩
              have HW8 := Lib.hid (HW7.out.on hb8)
              have hlc2 : lf < 1 + z := by omega
              clear hb8 g0 g1 f0 f1
              go_wp2_with fail
              go_roundw
              case rel => exact ⟨k + 1, A, by omega, by omega, by go_num, by rw [Hnx.out, Hst.out]; exact HW8.out⟩
              case measure => simp [intOf]; omega
        · rw [if_neg (by omega), if_pos (by omega)] at Hst
          go_wp2_with (first | (go_at_call 24; with_reducible refine (P3.out _).mono ?_; rintro e w' ⟨rfl, rfl⟩) | (go_at_call 24; with_reducible refine (P2.out _).mono ?_; rintro e w' ⟨rfl, rfl⟩) | (go_at_call 24; with_reducible refine (P9.out _).mono ?_; rintro e w' ⟨rfl, rfl⟩) | (go_at_call 24; with_reducible refine (P5.out _).mono ?_; rintro e w' ⟨rfl, rfl⟩))
          clear e0 e1 e2 e3 P3 P2 P9 P5 Hc hbl
          generalize hre : ((x : Int) + 1 + (y : Int)) % 3 = r at *
          obtain rfl : r = (o : Int) := hyo.out
          clear hre
          have hbW : Below wr.heap.size wr ((wr.alloc (.cells #[.int .i64 kd, .int .i64 wh, .int .i64 ds, .int .i64 ct] 80)).alloc (.cells #[.int .i64 3, .int .i64 x, .int .i64 0, .int .i64 (1 + z)] 59)) := (by repeat (first | exact Below.refl _ _ | refine Below.drew ?_ | refine Below.alloc ?_ (by first | (simp; done) | (simp; omega)) _ | refine Below.setCell ?_ (by first | (simp; done) | (simp; omega)) _))
          have hD : ((wr.alloc (.cells #[.int .i64 kd, .int .i64 wh, .int .i64 ds, .int .i64 ct] 80)).alloc (.cells #[.int .i64 3, .int .i64 x, .int .i64 0, .int .i64 (1 + z)] 59)).heap[wr.heap.size + 1]? = some (.cells #[.int .i64 3, .int .i64 x, .int .i64 0, .int .i64 (1 + z)] 59 (0, 0)) := by
            have := heap_alloc_new (wr.alloc (.cells #[.int .i64 kd, .int .i64 wh, .int .i64 ds, .int .i64 ct] 80)) (.cells #[.int .i64 3, .int .i64 x, .int .i64 0, .int .i64 (1 + z)] 59)
            simpa using this
          have HW := Lib.hid (HT.out.on hbW)
          generalize ((wr.alloc (.cells #[.int .i64 kd, .int .i64 wh, .int .i64 ds, .int .i64 ct] 80)).alloc (.cells #[.int .i64 3, .int .i64 x, .int .i64 0, .int .i64 (1 + z)] 59)) = W at *
          generalize wr.heap.size + 1 = D at *
          clear hbW HT
          obtain ⟨⟨g0, g1⟩, -, -⟩ := HW.out.cells x hx3
          have HA := Lib.hid (HW.out.at' x hx3)
          obtain ⟨ax, hax⟩ : ∃ ax, ax = A x := ⟨_, rfl⟩
          rw [← hax] at g0 g1 HA
          obtain ⟨bm, om, cm', bu, ou, cu'⟩ := ax
          simp only [TA.c0, TA.c1] at g0 g1
          have d0 : W.cell? ⟨D, 0, none⟩ = some (.int .i64 3) := by rw [cell_of_row W _ _ _ _ _ hD]; rfl
          have d1 : W.cell? ⟨D, 1, none⟩ = some (.int .i64 x) := by rw [cell_of_row W _ _ _ _ _ hD]; rfl
          have d2 : W.cell? ⟨D, 2, none⟩ = some (.int .i64 0) := by rw [cell_of_row W _ _ _ _ _ hD]; rfl
          have d3 : W.cell? ⟨D, 3, none⟩ = some (.int .i64 (1 + z)) := by rw [cell_of_row W _ _ _ _ _ hD]; rfl
          have hS : Hid ((W.cell? ⟨B, x * 2, none⟩ = some (.slice (some ⟨bm, om, none⟩) 3 cm') ∧ W.cell? ⟨B, x * 2 + 1, none⟩ = some (.slice (some ⟨bu, ou, none⟩) 3 cu')) ∧ (W.cell? ⟨D, 0, none⟩ = some (.int .i64 3) ∧ W.cell? ⟨D, 1, none⟩ = some (.int .i64 x)) ∧ (W.cell? ⟨D, 2, none⟩ = some (.int .i64 0) ∧ W.cell? ⟨D, 3, none⟩ = some (.int .i64 (1 + z)))) := ⟨⟨g0, g1⟩, ⟨d0, d1⟩, d2, d3⟩
          have hin : TlIn (ts x) 1000 := (HIk.out.bd x hx3).mono (by omega)
          have hlb := tlLeft_bd (ts x) (hin.mono (by omega)) x hx3
          have Hax := Lib.hid hax
          have Hin := Lib.hid hin
          clear hin hax hD g0 g1 d0 d1 d2 d3
          by_cases hlc : 1 + z ≤ tlLeft (ts x) x
          · rw [if_pos hlc] at Hst
            have CD : Hid (∀ Z, Below W.heap.size W Z → _) := fun Z hZ => ctDoUse bm om cm' bu ou cu' (ts x) x 0 (1 + z) Z (HA.out.on hZ) Hin.out hx3 hlc (by omega) (by omega)
            have hx3' : (x : Int) < 3 := by omega
            go_region_held3 (fun Z => (Z.cell? ⟨B, x * 2, none⟩ = some (.slice (some ⟨bm, om, none⟩) 3 cm') ∧ Z.cell? ⟨B, x * 2 + 1, none⟩ = some (.slice (some ⟨bu, ou, none⟩) 3 cu')) ∧ (Z.cell? ⟨D, 0, none⟩ = some (.int .i64 3) ∧ Z.cell? ⟨D, 1, none⟩ = some (.int .i64 x)) ∧ (Z.cell? ⟨D, 2, none⟩ = some (.int .i64 0) ∧ Z.cell? ⟨D, 3, none⟩ = some (.int .i64 (1 + z))))
              (first | exact hS.out | exact six_on (by repeat (first | exact hb6 | exact Below.refl _ _ | refine Below.drew ?_ | refine Below.alloc ?_ (by first | exact hb6.size | (simp; done) | (simp; omega)) _ | refine Below.setCell ?_ (by first | (simp; done) | (simp; omega)) _)) hS.out | (go_keep; done))
              ((go_at_call 27; refine (CD.out _ (by repeat (first | exact Below.refl _ _ | refine Below.drew ?_ | refine Below.alloc ?_ (by first | (simp; done) | (simp; omega)) _ | refine Below.setCell ?_ (by first | (simp; done) | (simp; omega)) _))).mono ?_; rintro e w6 ⟨gm6, cm6, gu6, cu6, rfl, hT6, hb6'⟩; have hb6 : Below W.heap.size W w6 := Below.trans (b := _) (by repeat (first | exact Below.refl _ _ | refine Below.drew ?_ | refine Below.alloc ?_ (by first | (simp; done) | (simp; omega)) _ | refine Below.setCell ?_ (by first | (simp; done) | (simp; omega)) _)) (hb6'.mono (by first | exact Nat.le_refl _ | (simp [heap_drew]; done) | (simp [heap_drew]; omega))); try (have hN := next_kept hb6'; obtain ⟨z0, z1, z2, z3⟩ := two_cells hN)))
            · have ha : Below W.heap.size W (w6.alloc (.cells #[.slice (some ⟨gm6, 0, none⟩) 3 cm6, .slice (some ⟨gu6, 0, none⟩) 3 cu6] 48)) := hb6.alloc hb6.size _
              obtain ⟨n0, n1, -, -⟩ := two_cells (heap_alloc_new w6 (.cells #[.slice (some ⟨gm6, 0, none⟩) 3 cm6, .slice (some ⟨gu6, 0, none⟩) 3 cu6] 48))
              have HT7 := Lib.hid (hT6.on ((Below.refl _ _).alloc (Nat.le_refl _) (.cells #[.slice (some ⟨gm6, 0, none⟩) 3 cm6, .slice (some ⟨gu6, 0, none⟩) 3 cu6] 48)))
              have HW7 := Lib.hid (HW.out.on ha)
              have HbW7 := Lib.hid ha
              generalize w6.alloc (.cells #[.slice (some ⟨gm6, 0, none⟩) 3 cm6, .slice (some ⟨gu6, 0, none⟩) 3 cu6] 48) = W7 at *
              obtain ⟨⟨g0, g1⟩, f0, f1⟩ := HW7.out.cells x hx3
              rw [← Hax.out] at g0 g1
              simp only [TA.c0, TA.c1] at g0 g1
              have CL := Lib.hid (ctLeft bm om cm' bu ou cu' (ts x) x W7 (HA.out.on HbW7.out) (Hin.out.mono (by omega)) hx3)
              clear ha hb6 hb6' CD hS hT6
              generalize hlf : tlLeft (ts x) x = lf at *
              have Hlf := Lib.hid hlf
              clear hlf
              go_wp2_with fail
              refine CL.out.mono ?_
              rintro e w8 ⟨rfl, hb8⟩
              have HW8 := Lib.hid (HW7.out.on hb8)
              replace n0 := cell_on hb8 n0
              replace n1 := cell_on hb8 n1
              have HS := Lib.hid (HW7.out.store hb8 x hx3 ⟨gm6, 0, cm6, gu6, 0, cu6⟩ _ (HT7.out.on hb8))
              clear hb8 g0 g1 f0 f1
              obtain ⟨⟨g0, g1⟩, f0, f1⟩ := HW8.out.cells x hx3
              go_wp2_with fail
              go_roundw
              case rel => exact ⟨k + 1, _, by omega, by omega, by go_num, by rw [Hnx.out, Hst.out]; exact HS.out⟩
              case measure => simp [intOf]; omega
            · have ha : Below W.heap.size W ((w6.setCell ⟨W.heap.size, 0, none⟩ (.slice (some ⟨gm6, 0, none⟩) 3 cm6)).setCell ⟨W.heap.size, 1, none⟩ (.slice (some ⟨gu6, 0, none⟩) 3 cu6)) := (hb6.setCell (Nat.le_refl _) _).setCell (Nat.le_refl _) _
              obtain ⟨n0, n1, -, -⟩ := two_cells (two_set hN (.slice (some ⟨gm6, 0, none⟩) 3 cm6) (.slice (some ⟨gu6, 0, none⟩) 3 cu6))
              have HT7 := Lib.hid (hT6.chg (do_chg hN (.slice (some ⟨gm6, 0, none⟩) 3 cm6) (.slice (some ⟨gu6, 0, none⟩) 3 cu6)) (by decide) (by decide))
              clear hN z0 z1 z2 z3
              have HW7 := Lib.hid (HW.out.on ha)
              have HbW7 := Lib.hid ha
              generalize (w6.setCell ⟨W.heap.size, 0, none⟩ (.slice (some ⟨gm6, 0, none⟩) 3 cm6)).setCell ⟨W.heap.size, 1, none⟩ (.slice (some ⟨gu6, 0, none⟩) 3 cu6) = W7 at *
              obtain ⟨⟨g0, g1⟩, f0, f1⟩ := HW7.out.cells x hx3
              rw [← Hax.out] at g0 g1
              simp only [TA.c0, TA.c1] at g0 g1
              have CL := Lib.hid (ctLeft bm om cm' bu ou cu' (ts x) x W7 (HA.out.on HbW7.out) (Hin.out.mono (by omega)) hx3)
              clear ha hb6 hb6' CD hS hT6
              generalize hlf : tlLeft (ts x) x = lf at *
              have Hlf := Lib.hid hlf
              clear hlf
              go_wp2_with fail
              refine CL.out.mono ?_
              rintro e w8 ⟨rfl, hb8⟩
              have HW8 := Lib.hid (HW7.out.on hb8)
              replace n0 := cell_on hb8 n0
              replace n1 := cell_on hb8 n1
              have HS := Lib.hid (HW7.out.store hb8 x hx3 ⟨gm6, 0, cm6, gu6, 0, cu6⟩ _ (HT7.out.on hb8))
              clear hb8 g0 g1 f0 f1
              obtain ⟨⟨g0, g1⟩, f0, f1⟩ := HW8.out.cells x hx3
              go_wp2_with fail
              go_roundw
              case rel => exact ⟨k + 1, _, by omega, by omega, by go_num, by rw [Hnx.out, Hst.out]; exact HS.out⟩
              case measure => simp [intOf]; omega
          · rw [if_neg hlc] at Hst
            have CD : Hid (∀ Z, Below W.heap.size W Z → _) := fun Z hZ => ctDoUseLess bm om cm' bu ou cu' (ts x) x 0 (1 + z) Z (HA.out.on hZ) Hin.out hx3 (by omega) (by omega) (by omega)
            have hx3' : (x : Int) < 3 := by omega
            go_region_held3 (fun Z => (Z.cell? ⟨B, x * 2, none⟩ = some (.slice (some ⟨bm, om, none⟩) 3 cm') ∧ Z.cell? ⟨B, x * 2 + 1, none⟩ = some (.slice (some ⟨bu, ou, none⟩) 3 cu')) ∧ (Z.cell? ⟨D, 0, none⟩ = some (.int .i64 3) ∧ Z.cell? ⟨D, 1, none⟩ = some (.int .i64 x)) ∧ (Z.cell? ⟨D, 2, none⟩ = some (.int .i64 0) ∧ Z.cell? ⟨D, 3, none⟩ = some (.int .i64 (1 + z))))
              (first | exact hS.out | exact six_on (by repeat (first | exact hb6 | exact Below.refl _ _ | refine Below.drew ?_ | refine Below.alloc ?_ (by first | exact hb6.size | (simp; done) | (simp; omega)) _ | refine Below.setCell ?_ (by first | (simp; done) | (simp; omega)) _)) hS.out | (go_keep; done))
              ((go_at_call 27; refine (CD.out _ (by repeat (first | exact Below.refl _ _ | refine Below.drew ?_ | refine Below.alloc ?_ (by first | (simp; done) | (simp; omega)) _ | refine Below.setCell ?_ (by first | (simp; done) | (simp; omega)) _))).mono ?_; rintro e w6 ⟨rfl, hb6'⟩; have hb6 : Below W.heap.size W w6 := Below.trans (b := _) (by repeat (first | exact Below.refl _ _ | refine Below.drew ?_ | refine Below.alloc ?_ (by first | (simp; done) | (simp; omega)) _ | refine Below.setCell ?_ (by first | (simp; done) | (simp; omega)) _)) (hb6'.mono (by first | exact Nat.le_refl _ | (simp [heap_drew]; done) | (simp [heap_drew]; omega))); try (have hN := next_kept hb6'; obtain ⟨z0, z1, z2, z3⟩ := two_cells hN)))
            · have ha : Below W.heap.size W (w6.alloc (.cells #[.slice none 0 0, .slice none 0 0] 48)) := hb6.alloc hb6.size _
              have HW7 := Lib.hid (HW.out.on ha)
              have HbW7 := Lib.hid ha
              generalize w6.alloc (.cells #[.slice none 0 0, .slice none 0 0] 48) = W7 at *
              obtain ⟨⟨g0, g1⟩, f0, f1⟩ := HW7.out.cells x hx3
              rw [← Hax.out] at g0 g1
              simp only [TA.c0, TA.c1] at g0 g1
              have CL := Lib.hid (ctLeft bm om cm' bu ou cu' (ts x) x W7 (HA.out.on HbW7.out) (Hin.out.mono (by omega)) hx3)
              clear ha hb6 hb6' CD hS 
              generalize hlf : tlLeft (ts x) x = lf at *
              have Hlf := Lib.hid hlf
              clear hlf
              go_wp2_with fail
              refine CL.out.mono ?_
              rintro e w8 ⟨rfl, hb8⟩
              have HW8 := Lib.hid (HW7.out.on hb8)
              have hlc2 : lf < 1 + z := by omega
              clear hb8 g0 g1 f0 f1
              go_wp2_with fail
              go_roundw
              case rel => exact ⟨k + 1, A, by omega, by omega, by go_num, by rw [Hnx.out, Hst.out]; exact HW8.out⟩
              case measure => simp [intOf]; omega
            · have ha : Below W.heap.size W ((w6.setCell ⟨W.heap.size, 0, none⟩ (.slice none 0 0)).setCell ⟨W.heap.size, 1, none⟩ (.slice none 0 0)) := (hb6.setCell (Nat.le_refl _) _).setCell (Nat.le_refl _) _
              clear hN z0 z1 z2 z3
              have HW7 := Lib.hid (HW.out.on ha)
              have HbW7 := Lib.hid ha
              generalize (w6.setCell ⟨W.heap.size, 0, none⟩ (.slice none 0 0)).setCell ⟨W.heap.size, 1, none⟩ (.slice none 0 0) = W7 at *
              obtain ⟨⟨g0, g1⟩, f0, f1⟩ := HW7.out.cells x hx3
              rw [← Hax.out] at g0 g1
              simp only [TA.c0, TA.c1] at g0 g1
              have CL := Lib.hid (ctLeft bm om cm' bu ou cu' (ts x) x W7 (HA.out.on HbW7.out) (Hin.out.mono (by omega)) hx3)
              clear ha hb6 hb6' CD hS 
              generalize hlf : tlLeft (ts x) x = lf at *
              have Hlf := Lib.hid hlf
              clear hlf
              go_wp2_with fail
              refine CL.out.mono ?_
              rintro e w8 ⟨rfl, hb8⟩
              have HW8 := Lib.hid (HW7.out.on hb8)
              have hlc2 : lf < 1 + z := by omega
              clear hb8 g0 g1 f0 f1
              go_wp2_with fail
              go_roundw
              case rel => exact ⟨k + 1, A, by omega, by omega, by go_num, by rw [Hnx.out, Hst.out]; exact HW8.out⟩
              case measure => simp [intOf]; omega
        · rw [if_neg (by omega), if_neg (by omega)] at Hst
          go_wp2_with (first | (go_at_call 24; with_reducible refine (P3.out _).mono ?_; rintro e w' ⟨rfl, rfl⟩) | (go_at_call 24; with_reducible refine (P2.out _).mono ?_; rintro e w' ⟨rfl, rfl⟩) | (go_at_call 24; with_reducible refine (P9.out _).mono ?_; rintro e w' ⟨rfl, rfl⟩) | (go_at_call 24; with_reducible refine (P5.out _).mono ?_; rintro e w' ⟨rfl, rfl⟩))
          clear e0 e1 e2 e3 P3 P2 P9 P5 Hc hbl
          generalize hre : ((x : Int) + 1 + (y : Int)) % 3 = r at *
          obtain rfl : r = (o : Int) := hyo.out
          clear hre
          have hbW : Below wr.heap.size wr ((wr.alloc (.cells #[.int .i64 kd, .int .i64 wh, .int .i64 ds, .int .i64 ct] 80)).alloc (.cells #[.int .i64 3, .int .i64 x, .int .i64 0, .int .i64 (1 + z)] 59)) := (by repeat (first | exact Below.refl _ _ | refine Below.drew ?_ | refine Below.alloc ?_ (by first | (simp; done) | (simp; omega)) _ | refine Below.setCell ?_ (by first | (simp; done) | (simp; omega)) _))
          have hD : ((wr.alloc (.cells #[.int .i64 kd, .int .i64 wh, .int .i64 ds, .int .i64 ct] 80)).alloc (.cells #[.int .i64 3, .int .i64 x, .int .i64 0, .int .i64 (1 + z)] 59)).heap[wr.heap.size + 1]? = some (.cells #[.int .i64 3, .int .i64 x, .int .i64 0, .int .i64 (1 + z)] 59 (0, 0)) := by
            have := heap_alloc_new (wr.alloc (.cells #[.int .i64 kd, .int .i64 wh, .int .i64 ds, .int .i64 ct] 80)) (.cells #[.int .i64 3, .int .i64 x, .int .i64 0, .int .i64 (1 + z)] 59)
            simpa using this
          have HW := Lib.hid (HT.out.on hbW)
          generalize ((wr.alloc (.cells #[.int .i64 kd, .int .i64 wh, .int .i64 ds, .int .i64 ct] 80)).alloc (.cells #[.int .i64 3, .int .i64 x, .int .i64 0, .int .i64 (1 + z)] 59)) = W at *
          generalize wr.heap.size + 1 = D at *
          clear hbW HT
          obtain ⟨⟨g0, g1⟩, -, -⟩ := HW.out.cells x hx3
          have HA := Lib.hid (HW.out.at' x hx3)
          obtain ⟨ax, hax⟩ : ∃ ax, ax = A x := ⟨_, rfl⟩
          rw [← hax] at g0 g1 HA
          obtain ⟨bm, om, cm', bu, ou, cu'⟩ := ax
          simp only [TA.c0, TA.c1] at g0 g1
          obtain ⟨⟨k0', k1'⟩, -, -⟩ := HW.out.cells o hy3
          have HA2 := Lib.hid (HW.out.at' o hy3)
          obtain ⟨ay, hay⟩ : ∃ ay, ay = A o := ⟨_, rfl⟩
          rw [← hay] at k0' k1' HA2
          obtain ⟨bm2, om2, cm2', bu2, ou2, cu2'⟩ := ay
          simp only [TA.c0, TA.c1] at k0' k1'
          have hS : Hid ((W.cell? ⟨B, x * 2, none⟩ = some (.slice (some ⟨bm, om, none⟩) 3 cm') ∧ W.cell? ⟨B, x * 2 + 1, none⟩ = some (.slice (some ⟨bu, ou, none⟩) 3 cu')) ∧ (W.cell? ⟨B, o * 2, none⟩ = some (.slice (some ⟨bm2, om2, none⟩) 3 cm2') ∧ W.cell? ⟨B, o * 2 + 1, none⟩ = some (.slice (some ⟨bu2, ou2, none⟩) 3 cu2'))) := ⟨⟨g0, g1⟩, k0', k1'⟩
          have hin : TlIn (ts x) 1048576 := (HIk.out.bd x hx3).mono (by omega)
          have hin2 : TlIn (ts o) 1048576 := (HIk.out.bd o hy3).mono (by omega)
          have hx3' : (x : Int) < 3 := by omega
          have hy3' : (o : Int) < 3 := by omega
          have CM : Hid (∀ Z, Below W.heap.size W Z → _) := fun Z hZ => ctMerge bm om cm' bu ou cu' bm2 om2 cm2' bu2 ou2 cu2' (ts x) (ts o) Z (HA.out.on hZ) (HA2.out.on hZ) hin hin2
          clear hin hin2 hax hay hD g0 g1 k0' k1'
          go_region_held3 (fun Z => (Z.cell? ⟨B, x * 2, none⟩ = some (.slice (some ⟨bm, om, none⟩) 3 cm') ∧ Z.cell? ⟨B, x * 2 + 1, none⟩ = some (.slice (some ⟨bu, ou, none⟩) 3 cu')) ∧ (Z.cell? ⟨B, o * 2, none⟩ = some (.slice (some ⟨bm2, om2, none⟩) 3 cm2') ∧ Z.cell? ⟨B, o * 2 + 1, none⟩ = some (.slice (some ⟨bu2, ou2, none⟩) 3 cu2')))
            (first | exact hS.out | exact four_on (by repeat (first | exact hb6 | exact Below.refl _ _ | refine Below.drew ?_ | refine Below.alloc ?_ (by first | exact hb6.size | (simp; done) | (simp; omega)) _ | refine Below.setCell ?_ (by first | (simp; done) | (simp; omega)) _)) hS.out | (go_keep; done))
            ((go_at_call 23; refine (CM.out _ (by repeat (first | exact Below.refl _ _ | refine Below.drew ?_ | refine Below.alloc ?_ (by first | (simp; done) | (simp; omega)) _ | refine Below.setCell ?_ (by first | (simp; done) | (simp; omega)) _))).mono ?_; rintro e w6 ⟨gm6, cm6, gu6, cu6, rfl, hT6, hb6'⟩; have hb6 : Below W.heap.size W w6 := Below.trans (b := _) (by repeat (first | exact Below.refl _ _ | refine Below.drew ?_ | refine Below.alloc ?_ (by first | (simp; done) | (simp; omega)) _ | refine Below.setCell ?_ (by first | (simp; done) | (simp; omega)) _)) (hb6'.mono (by first | exact Nat.le_refl _ | (simp [heap_drew]; done) | (simp [heap_drew]; omega))); try (have hN := next_kept hb6'; obtain ⟨z0, z1, z2, z3⟩ := two_cells hN)))
          · have ha : Below W.heap.size W (w6.alloc (.cells #[.slice (some ⟨gm6, 0, none⟩) 3 cm6, .slice (some ⟨gu6, 0, none⟩) 3 cu6] 48)) := hb6.alloc hb6.size _
            obtain ⟨n0, n1, -, -⟩ := two_cells (heap_alloc_new w6 (.cells #[.slice (some ⟨gm6, 0, none⟩) 3 cm6, .slice (some ⟨gu6, 0, none⟩) 3 cu6] 48))
            have HT7 := Lib.hid (hT6.on ((Below.refl _ _).alloc (Nat.le_refl _) (.cells #[.slice (some ⟨gm6, 0, none⟩) 3 cm6, .slice (some ⟨gu6, 0, none⟩) 3 cu6] 48)))
            have HW7 := Lib.hid (HW.out.on ha)
            have HbW7 := Lib.hid ha
            generalize w6.alloc (.cells #[.slice (some ⟨gm6, 0, none⟩) 3 cm6, .slice (some ⟨gu6, 0, none⟩) 3 cu6] 48) = W7 at *
            obtain ⟨⟨g0, g1⟩, f0, f1⟩ := HW7.out.cells x hx3
            have HS := Lib.hid (HW.out.store HbW7.out x hx3 ⟨gm6, 0, cm6, gu6, 0, cu6⟩ _ HT7.out)
            clear ha hb6 hb6' hT6 hS CM
            go_wp2_with fail
            go_roundw
            case rel => exact ⟨k + 1, _, by omega, by omega, by go_num, by rw [Hnx.out, Hst.out]; exact HS.out⟩
            case measure => simp [intOf]; omega
          · have ha : Below W.heap.size W ((w6.setCell ⟨W.heap.size, 0, none⟩ (.slice (some ⟨gm6, 0, none⟩) 3 cm6)).setCell ⟨W.heap.size, 1, none⟩ (.slice (some ⟨gu6, 0, none⟩) 3 cu6)) := (hb6.setCell (Nat.le_refl _) _).setCell (Nat.le_refl _) _
            obtain ⟨n0, n1, -, -⟩ := two_cells (two_set hN (.slice (some ⟨gm6, 0, none⟩) 3 cm6) (.slice (some ⟨gu6, 0, none⟩) 3 cu6))
            have HT7 := Lib.hid (hT6.chg (do_chg hN (.slice (some ⟨gm6, 0, none⟩) 3 cm6) (.slice (some ⟨gu6, 0, none⟩) 3 cu6)) (by decide) (by decide))
            clear hN z0 z1 z2 z3
            have HW7 := Lib.hid (HW.out.on ha)
            have HbW7 := Lib.hid ha
            generalize (w6.setCell ⟨W.heap.size, 0, none⟩ (.slice (some ⟨gm6, 0, none⟩) 3 cm6)).setCell ⟨W.heap.size, 1, none⟩ (.slice (some ⟨gu6, 0, none⟩) 3 cu6) = W7 at *
            obtain ⟨⟨g0, g1⟩, f0, f1⟩ := HW7.out.cells x hx3
            have HS := Lib.hid (HW.out.store HbW7.out x hx3 ⟨gm6, 0, cm6, gu6, 0, cu6⟩ _ HT7.out)
            clear ha hb6 hb6' hT6 hS CM
            go_wp2_with fail
            go_roundw
            case rel => exact ⟨k + 1, _, by omega, by omega, by go_num, by rw [Hnx.out, Hst.out]; exact HS.out⟩
            case measure => simp [intOf]; omega
        · rw [if_neg (by omega), if_neg (by omega)] at Hst
          go_wp2_with (first | (go_at_call 24; with_reducible refine (P3.out _).mono ?_; rintro e w' ⟨rfl, rfl⟩) | (go_at_call 24; with_reducible refine (P2.out _).mono ?_; rintro e w' ⟨rfl, rfl⟩) | (go_at_call 24; with_reducible refine (P9.out _).mono ?_; rintro e w' ⟨rfl, rfl⟩) | (go_at_call 24; with_reducible refine (P5.out _).mono ?_; rintro e w' ⟨rfl, rfl⟩))
          clear e0 e1 e2 e3 P3 P2 P9 P5 Hc hbl
          generalize hre : ((x : Int) + 1 + (y : Int)) % 3 = r at *
          obtain rfl : r = (o : Int) := hyo.out
          clear hre
          have hbW : Below wr.heap.size wr ((wr.alloc (.cells #[.int .i64 kd, .int .i64 wh, .int .i64 ds, .int .i64 ct] 80)).alloc (.cells #[.int .i64 3, .int .i64 x, .int .i64 0, .int .i64 (1 + z)] 59)) := (by repeat (first | exact Below.refl _ _ | refine Below.drew ?_ | refine Below.alloc ?_ (by first | (simp; done) | (simp; omega)) _ | refine Below.setCell ?_ (by first | (simp; done) | (simp; omega)) _))
          have hD : ((wr.alloc (.cells #[.int .i64 kd, .int .i64 wh, .int .i64 ds, .int .i64 ct] 80)).alloc (.cells #[.int .i64 3, .int .i64 x, .int .i64 0, .int .i64 (1 + z)] 59)).heap[wr.heap.size + 1]? = some (.cells #[.int .i64 3, .int .i64 x, .int .i64 0, .int .i64 (1 + z)] 59 (0, 0)) := by
            have := heap_alloc_new (wr.alloc (.cells #[.int .i64 kd, .int .i64 wh, .int .i64 ds, .int .i64 ct] 80)) (.cells #[.int .i64 3, .int .i64 x, .int .i64 0, .int .i64 (1 + z)] 59)
            simpa using this
          have HW := Lib.hid (HT.out.on hbW)
          generalize ((wr.alloc (.cells #[.int .i64 kd, .int .i64 wh, .int .i64 ds, .int .i64 ct] 80)).alloc (.cells #[.int .i64 3, .int .i64 x, .int .i64 0, .int .i64 (1 + z)] 59)) = W at *
          generalize wr.heap.size + 1 = D at *
          clear hbW HT
          obtain ⟨⟨g0, g1⟩, -, -⟩ := HW.out.cells x hx3
          have HA := Lib.hid (HW.out.at' x hx3)
          obtain ⟨ax, hax⟩ : ∃ ax, ax = A x := ⟨_, rfl⟩
          rw [← hax] at g0 g1 HA
          obtain ⟨bm, om, cm', bu, ou, cu'⟩ := ax
          simp only [TA.c0, TA.c1] at g0 g1
          obtain ⟨⟨k0', k1'⟩, -, -⟩ := HW.out.cells o hy3
          have HA2 := Lib.hid (HW.out.at' o hy3)
          obtain ⟨ay, hay⟩ : ∃ ay, ay = A o := ⟨_, rfl⟩
          rw [← hay] at k0' k1' HA2
          obtain ⟨bm2, om2, cm2', bu2, ou2, cu2'⟩ := ay
          simp only [TA.c0, TA.c1] at k0' k1'
          have hS : Hid ((W.cell? ⟨B, x * 2, none⟩ = some (.slice (some ⟨bm, om, none⟩) 3 cm') ∧ W.cell? ⟨B, x * 2 + 1, none⟩ = some (.slice (some ⟨bu, ou, none⟩) 3 cu')) ∧ (W.cell? ⟨B, o * 2, none⟩ = some (.slice (some ⟨bm2, om2, none⟩) 3 cm2') ∧ W.cell? ⟨B, o * 2 + 1, none⟩ = some (.slice (some ⟨bu2, ou2, none⟩) 3 cu2'))) := ⟨⟨g0, g1⟩, k0', k1'⟩
          have hin : TlIn (ts x) 1048576 := (HIk.out.bd x hx3).mono (by omega)
          have hin2 : TlIn (ts o) 1048576 := (HIk.out.bd o hy3).mono (by omega)
          have hx3' : (x : Int) < 3 := by omega
          have hy3' : (o : Int) < 3 := by omega
          have CM : Hid (∀ Z, Below W.heap.size W Z → _) := fun Z hZ => ctMerge bm om cm' bu ou cu' bm2 om2 cm2' bu2 ou2 cu2' (ts x) (ts o) Z (HA.out.on hZ) (HA2.out.on hZ) hin hin2
          clear hin hin2 hax hay hD g0 g1 k0' k1'
          go_region_held3 (fun Z => (Z.cell? ⟨B, x * 2, none⟩ = some (.slice (some ⟨bm, om, none⟩) 3 cm') ∧ Z.cell? ⟨B, x * 2 + 1, none⟩ = some (.slice (some ⟨bu, ou, none⟩) 3 cu')) ∧ (Z.cell? ⟨B, o * 2, none⟩ = some (.slice (some ⟨bm2, om2, none⟩) 3 cm2') ∧ Z.cell? ⟨B, o * 2 + 1, none⟩ = some (.slice (some ⟨bu2, ou2, none⟩) 3 cu2')))
            (first | exact hS.out | exact four_on (by repeat (first | exact hb6 | exact Below.refl _ _ | refine Below.drew ?_ | refine Below.alloc ?_ (by first | exact hb6.size | (simp; done) | (simp; omega)) _ | refine Below.setCell ?_ (by first | (simp; done) | (simp; omega)) _)) hS.out | (go_keep; done))
            ((go_at_call 23; refine (CM.out _ (by repeat (first | exact Below.refl _ _ | refine Below.drew ?_ | refine Below.alloc ?_ (by first | (simp; done) | (simp; omega)) _ | refine Below.setCell ?_ (by first | (simp; done) | (simp; omega)) _))).mono ?_; rintro e w6 ⟨gm6, cm6, gu6, cu6, rfl, hT6, hb6'⟩; have hb6 : Below W.heap.size W w6 := Below.trans (b := _) (by repeat (first | exact Below.refl _ _ | refine Below.drew ?_ | refine Below.alloc ?_ (by first | (simp; done) | (simp; omega)) _ | refine Below.setCell ?_ (by first | (simp; done) | (simp; omega)) _)) (hb6'.mono (by first | exact Nat.le_refl _ | (simp [heap_drew]; done) | (simp [heap_drew]; omega))); try (have hN := next_kept hb6'; obtain ⟨z0, z1, z2, z3⟩ := two_cells hN)))
          · have ha : Below W.heap.size W (w6.alloc (.cells #[.slice (some ⟨gm6, 0, none⟩) 3 cm6, .slice (some ⟨gu6, 0, none⟩) 3 cu6] 48)) := hb6.alloc hb6.size _
            obtain ⟨n0, n1, -, -⟩ := two_cells (heap_alloc_new w6 (.cells #[.slice (some ⟨gm6, 0, none⟩) 3 cm6, .slice (some ⟨gu6, 0, none⟩) 3 cu6] 48))
            have HT7 := Lib.hid (hT6.on ((Below.refl _ _).alloc (Nat.le_refl _) (.cells #[.slice (some ⟨gm6, 0, none⟩) 3 cm6, .slice (some ⟨gu6, 0, none⟩) 3 cu6] 48)))
            have HW7 := Lib.hid (HW.out.on ha)
            have HbW7 := Lib.hid ha
            generalize w6.alloc (.cells #[.slice (some ⟨gm6, 0, none⟩) 3 cm6, .slice (some ⟨gu6, 0, none⟩) 3 cu6] 48) = W7 at *
            obtain ⟨⟨g0, g1⟩, f0, f1⟩ := HW7.out.cells x hx3
            have HS := Lib.hid (HW.out.store HbW7.out x hx3 ⟨gm6, 0, cm6, gu6, 0, cu6⟩ _ HT7.out)
            clear ha hb6 hb6' hT6 hS CM
            go_wp2_with fail
            go_roundw
            case rel => exact ⟨k + 1, _, by omega, by omega, by go_num, by rw [Hnx.out, Hst.out]; exact HS.out⟩
            case measure => simp [intOf]; omega
          · have ha : Below W.heap.size W ((w6.setCell ⟨W.heap.size, 0, none⟩ (.slice (some ⟨gm6, 0, none⟩) 3 cm6)).setCell ⟨W.heap.size, 1, none⟩ (.slice (some ⟨gu6, 0, none⟩) 3 cu6)) := (hb6.setCell (Nat.le_refl _) _).setCell (Nat.le_refl _) _
            obtain ⟨n0, n1, -, -⟩ := two_cells (two_set hN (.slice (some ⟨gm6, 0, none⟩) 3 cm6) (.slice (some ⟨gu6, 0, none⟩) 3 cu6))
            have HT7 := Lib.hid (hT6.chg (do_chg hN (.slice (some ⟨gm6, 0, none⟩) 3 cm6) (.slice (some ⟨gu6, 0, none⟩) 3 cu6)) (by decide) (by decide))
            clear hN z0 z1 z2 z3
            have HW7 := Lib.hid (HW.out.on ha)
            have HbW7 := Lib.hid ha
            generalize (w6.setCell ⟨W.heap.size, 0, none⟩ (.slice (some ⟨gm6, 0, none⟩) 3 cm6)).setCell ⟨W.heap.size, 1, none⟩ (.slice (some ⟨gu6, 0, none⟩) 3 cu6) = W7 at *
            obtain ⟨⟨g0, g1⟩, f0, f1⟩ := HW7.out.cells x hx3
            have HS := Lib.hid (HW.out.store HbW7.out x hx3 ⟨gm6, 0, cm6, gu6, 0, cu6⟩ _ HT7.out)
            clear ha hb6 hb6' hT6 hS CM
            go_wp2_with fail
            go_roundw
            case rel => exact ⟨k + 1, _, by omega, by omega, by go_num, by rw [Hnx.out, Hst.out]; exact HS.out⟩
            case measure => simp [intOf]; omega
      · obtain rfl : k = n := by omega
        clear Hc
        go_wp2_with fail
        go_ret2
        exact ⟨B, A, rfl, HT.out⟩
    · obtain rfl : k = l.length := by omega
      have HT2 : Hid (TsAt w wr B A (tlKnown (1 + q) l n)) := by
        have e : tlKnown (1 + q) l n = tlKnown (1 + q) l l.length := by unfold tlKnown; rw [List.take_of_length_le (by omega), List.take_of_length_le (by omega)]
        rw [e]; exact HT.out
      clear Hc HT
      go_wp2_with fail
      go_ret2
      exact ⟨B, A, rfl, HT2.out⟩
end Go.Proofs.Ytkeefpeffeoakaa
