/- Package gossip: Play. -/
import Derived.Test.YtngedkfljpkoiaaGosV
import Derived.Test.YtngedkfljpkoiaaGosP
import Derived.Test.YtngedkfljpkoiaaApp
import Derived.Deep.RegionLaw
namespace Go.Proofs.Ytngedkfljpkoiaa
open Go.ChangeShapes Go.WideShapes Go.ChangeAt Go.RowKit
set_option linter.unusedVariables false
set_option linter.unusedSimpArgs false

theorem Trn.cells_length (t : Trn) : t.cells.length = 6 := rfl
def trns (l : List Trn) : List Value := l.flatMap Trn.cells
theorem trns_length (l : List Trn) : (trns l).length = l.length * 6 := flat_length Trn.cells 6 Trn.cells_length l
/-- What turn k of a row reads. -/
theorem trn_get {w : World} {v : Value} {l : List Trn} {n : Nat} (h : Has w 6 v n (trns l)) (k : Nat) (hk : k < l.length) :
    ∃ b off cap, v = .slice (some ⟨b, off, none⟩) n cap ∧ (n ≤ cap ∧ cap ≤ maxLen) ∧ (w.cell? ⟨b, off + k * 6, none⟩ = some (.int .i64 l[k].kind) ∧ w.cell? ⟨b, off + k * 6 + 1, none⟩ = some (.int .i64 l[k].who) ∧ w.cell? ⟨b, off + k * 6 + 2, none⟩ = some (.int .i64 l[k].dest) ∧ w.cell? ⟨b, off + k * 6 + 3, none⟩ = some (.int .i64 l[k].label) ∧ w.cell? ⟨b, off + k * 6 + 4, none⟩ = some (.int .i64 l[k].key) ∧ w.cell? ⟨b, off + k * 6 + 5, none⟩ = some (.int .i64 l[k].value)) := by
  obtain ⟨⟨hl, _⟩, a, cap, rfl, h1, h2, hc⟩ := h
  obtain ⟨b, off, rfl, hcc⟩ := hc (by rw [trns_length]; omega)
  have g := fun j (hj : j < 6) u (hu : (l[k].cells)[j]? = some u) => hcc (k * 6 + j) u (by unfold trns; rw [flat_get Trn.cells 6 Trn.cells_length l k hk j hj]; exact hu)
  have g0 := g 0 (by omega) _ rfl
  have g1 := g 1 (by omega) _ rfl
  have g2 := g 2 (by omega) _ rfl
  have g3 := g 3 (by omega) _ rfl
  have g4 := g 4 (by omega) _ rfl
  have g5 := g 5 (by omega) _ rfl
  rw [Nat.add_zero] at g0
  rw [← Nat.add_assoc] at g1 g2 g3 g4 g5
  exact ⟨b, off, cap, rfl, ⟨h1, h2⟩, g0, g1, g2, g3, g4, g5⟩
theorem trns_one (l : List Trn) : (trns l).all Value.oneCell' = true := by
  rw [List.all_eq_true]; intro v hv
  simp only [trns, List.mem_flatMap] at hv
  obtain ⟨p, _, h⟩ := hv
  simp [Trn.cells] at h
  rcases h with rfl | rfl | rfl | rfl | rfl | rfl <;> rfl
/-- What stands behind k turns. -/
structure PlayG (w wr : World) (H : Nat) (hs : Hs) (labs : List Nat) (ts : List Trn) (k : Nat) (out : Value) : Prop where
  ha : ∃ vs, HouseAt wr w.heap.size H hs labs vs (stAfter labs noSt (ts.take k))
  out : wr.ownsRow w.heap.size 39 1 out k (ints (codesOf labs noSt (ts.take k)))
  hb : Below w.heap.size w wr
theorem playG_step {w wr X w5 w6 : World} {H k : Nat} {hs : Hs} {labs : List Nat} {ts : List Trn} {out out' : Value} (h : PlayG w wr H hs labs ts k out) (hk : k < ts.length) (hX : Below wr.heap.size wr X)
    (hd : Turned X w5 w.heap.size H hs labs (turnOf labs (stAfter labs noSt (ts.take k)) ts[k]).2)
    (ho : w6.ownsRow w.heap.size 39 1 out' (k + 1) (ints (codesOf labs noSt (ts.take k)) ++ [.int .i64 (turnOf labs (stAfter labs noSt (ts.take k)) ts[k]).1])) (hg : w5.grownBy w6 out.ownBlock) (hb6 : Below w.heap.size w5 w6) : PlayG w w6 H hs labs ts (k + 1) out' := by
  have ho5 := owns_chc (owns_below h.out hX) hd.hc (by decide)
  have hch := Chc.grown (T := [39]) ho5 hg (by simp)
  obtain ⟨vs', hat⟩ := hd.at'
  have e : stAfter labs noSt (ts.take (k + 1)) = (turnOf labs (stAfter labs noSt (ts.take k)) ts[k]).2 := by
    rw [take_snoc ts k hk, stAfter_append]; rfl
  refine ⟨⟨vs', ?_⟩, ?_, ((h.hb.trans (hX.mono h.hb.size)).trans hd.hb).trans hb6⟩
  · rw [e]
    exact hat.chc hch (by decide) (by decide) (by decide) (by decide) (by decide)
  · rw [take_snoc ts k hk, codesOf_append]
    rw [ints_snoc] at ho
    exact ho
/-- Of the stores k are told. -/
structure PlayA (w wr : World) (H : Nat) (hs : Hs) (labs : List Nat) (ts : List Trn) (k : Nat) (out all : Value) : Prop where
  ha : ∃ vs, HouseAt wr w.heap.size H hs labs vs (stAfter labs noSt ts)
  out : wr.ownsRow w.heap.size 39 1 out ts.length (ints (codesOf labs noSt ts))
  all : wr.ownsRow w.heap.size 34 1 all k ((storeVs hs labs.length).take k)
  hb : Below w.heap.size w wr
theorem playA_step {w wr X w6 : World} {H k : Nat} {hs : Hs} {labs : List Nat} {ts : List Trn} {out all all' : Value} (h : PlayA w wr H hs labs ts k out all) (hk : k < 4) (hX : Below wr.heap.size wr X)
    (ho : w6.ownsRow w.heap.size 34 1 all' (k + 1) ((storeVs hs labs.length).take k ++ [.slice (some ⟨hs.g k, 0, none⟩) labs.length labs.length])) (hg : X.grownBy w6 all.ownBlock) (hb6 : Below w.heap.size X w6) : PlayA w w6 H hs labs ts (k + 1) out all' := by
  have ha5 := owns_below h.all hX
  have hch := Chc.grown (T := [34]) ha5 hg (by simp)
  obtain ⟨vs', hat⟩ := h.ha
  refine ⟨⟨vs', (hat.on hX).chc hch (by decide) (by decide) (by decide) (by decide) (by decide)⟩, owns_chc (owns_below h.out hX) hch (by decide), ?_, (h.hb.trans (hX.mono h.hb.size)).trans hb6⟩
  rw [take_snoc _ k (by simp [storeVs]; omega)]
  have : (storeVs hs labs.length)[k]'(by simp [storeVs]; omega) = .slice (some ⟨hs.g k, 0, none⟩) labs.length labs.length := by simp [storeVs]
  rw [this]; exact ho
structure Played (w w' : World) (labs : List Nat) (ts : List Trn) (vc vs : Value) : Prop where
  codes : w'.ownsRow w.heap.size 39 1 vc ts.length (ints (codesOf labs noSt ts))
  all : ∃ (g : Nat → Nat) (vv : Nat → Nat → Value), w'.ownsRow w.heap.size 34 1 vs 4 ((List.range 4).map fun i => .slice (some ⟨g i, 0, none⟩) labs.length labs.length) ∧ ∀ i, i < 4 → StoreAt w' (g i) labs.length (vv i) (stAfter labs noSt ts i)
  hb : Below w.heap.size w w'
set_option maxRecDepth 100000 in
set_option maxHeartbeats 8000000 in
theorem cgPlay {w : World} {vl vt : Value} {labs : List Nat} {ts : List Trn} (hl : HasT w 3 1 vl labs.length (ints (labInts labs))) (ht : Has w 6 vt ts.length (trns ts)) (hlen : labs.length ≤ 4) (hlab : ∀ x ∈ labs, x < 16) (hts : ts.length ≤ 300) (hok : ∀ t ∈ ts, t.Ok labs.length) :
    Calls Try.prog 23 #[.int .i64 4, vl, vt] w fun e w' => ∃ vc vs, e = .returned (.tuple #[vc, vs, .int .i64 0]) ∧ Played w w' labs ts vc vs := by
  have HL := Lib.hid hl
  have HT := Lib.hid ht
  have Hlab := Lib.hid hlab
  have Hok := Lib.hid hok
  obtain ⟨_, la, cl, rfl, hc1, hc2, _⟩ := hl.has
  obtain ⟨_, ta, tc, rfl, hd1, hd2, _⟩ := ht
  unfold maxLen at hc2 hd2
  have hmk0 : Hid (∀ X : World, (Instr.makeSlice 87 (.int .i64 (labs.length : Int)) (.int .i64 (labs.length : Int))).run Try.prog X = .ok (.slice (some ⟨X.heap.size, 0, none⟩) labs.length labs.length) (X.alloc (.cells (List.replicate labs.length (Value.slice none 0 0)).toArray 33))) := fun X => run_mk infoEnts Try.underlying87 rfl X labs.length (by omega) (by omega)
  have hz1 : decide ((4 : Int) < (labs.length : Int)) = false := by simp; omega
  have hz2 : decide ((300 : Int) < (ts.length : Int)) = false := by simp; omega
  clear hl hlab hok
  go_enter Try.func23, Try.ntmps23
  go_wp2_with fail
  have hb0 : Below w.heap.size w (w.alloc (.cells #[.int .i64 4] 3)) := (Below.refl _ _).alloc (Nat.le_refl _) _
  have hx4 : (w.alloc (.cells #[.int .i64 4] 3)).cell? ⟨w.heap.size, 0, none⟩ = some (.int .i64 4) := by rw [cell_of_row _ _ _ _ _ _ (heap_alloc_new w (.cells #[.int .i64 4] 3))]; rfl
  refine (cLabs w.heap.size hx4 Hlab.out (HL.out.has.below hb0)).mono ?_
  rintro e w' ⟨rfl, rfl⟩
  go_wp2_with fail
  have hB0 : Hid (Building w ((w.alloc (.cells #[.int .i64 4] 3)).alloc (.cells #[.slice la labs.length cl, .slice none 0 0] 86)) w.heap.size (w.heap.size + 1) (.slice la labs.length cl) labs.length 0 (.slice none 0 0) (fun _ => 0)) := by
    have e2 : (w.alloc (.cells #[.int .i64 4] 3)).heap.size = w.heap.size + 1 := by simp
    have h2 := heap_alloc_new (w.alloc (.cells #[.int .i64 4] 3)) (.cells #[.slice la labs.length cl, .slice none 0 0] 86)
    rw [e2] at h2
    exact ⟨h2, World.ownsRow_nil _ _ _ _, fun i hi => by omega, fun i j hi => by omega, (Below.alloc hb0 (by simp) _), by omega, by simp; omega⟩
  clear hb0 hx4
  generalize hH : w.heap.size + 1 = H at *
  have HH := Lib.hid hH
  clear hH
  go_loopw [39] (fun i wr => ∃ (k : Nat) (v : Value) (g : Nat → Nat), k ≤ 4 ∧ i = .int .i64 k ∧ Building w wr w.heap.size H (.slice la labs.length cl) labs.length k v g) (fun i _ => 4 - (intOf i).toNat)
  case atStart => exact ⟨0, _, _, by omega, rfl, hB0.out⟩
  case round =>
    clear hB0
    obtain ⟨k, v, g, hk, rfl, hC⟩ := hrel
    have HC := Lib.hid hC
    clear hC
    by_cases hlt : k < 4
    · have hltz : (k : Int) < 4 := by omega
      obtain ⟨x0, x1, xf⟩ := HC.out.two
      have hszb := HC.out.hsz
      have hbl := World.block_lt_of_cell? wr _ x0
      have hmk := hmk0.out
      generalize hA : (List.replicate labs.length (Value.slice none 0 0)).toArray = A at hmk
      have hb5 : Below wr.heap.size wr (wr.alloc (.cells A 33)) := (Below.refl _ _).alloc (Nat.le_refl _) _
      have Hb5 := Lib.hid hb5
      have Hnew : Hid ((wr.alloc (.cells A 33)).heap[wr.heap.size]? = some (.cells (List.replicate labs.length (Value.slice none 0 0)).toArray 33 (0, 0))) := by rw [hA]; exact heap_alloc_new _ _
      have HA := Lib.hid hA
      clear hb5 hA
      go_upto_region 8 with (fail)
      go_region_law (first
        | (refine step_appN (w0 := wr.alloc (.cells A 33)) (wanted_of_none (by rfl)) 84 87 1 24 _ elStore Try.underlying84 w.heap.size v k _ (owns_below HC.out.row Hb5.out) (by repeat (first | exact Below.refl _ _ | refine Below.drew ?_ | refine Below.alloc ?_ (by first | (simp; done) | (simp; omega)) _ | refine Below.setCell ?_ (by first | (simp; done) | (simp; omega)) _)) (.slice (some ⟨wr.heap.size + 1, 0, none⟩) 1 1) 1 [.slice (some ⟨wr.heap.size, 0, none⟩) labs.length labs.length] (has_block (wp := wr.alloc (.cells A 33)) (by first | exact heap_alloc_new _ _ | (simp only [heap_drew, heap_drewN]; exact heap_alloc_new _ _)) (by simp) (by rfl) (by decide)) _ _ (by rfl) (by rfl) (by rfl) (by simp [Value.oneCell']) (by omega) (by unfold maxLen; omega) (Nat.le_trans HC.out.hsz Hb5.out.size) ?_; intro v6 w6 hown6 hgrow6 hb6; obtain ⟨a6, c6, rfl⟩ := owns_slice hown6; obtain ⟨x06, f06, -⟩ := HC.out.x Hb5.out hgrow6))
      all_goals
        go_wp2_with fail
        go_roundw
        case rel => exact ⟨k + 1, _, _, by omega, by go_num, HC.out.step _ (Nat.le_refl _) Hb5.out Hnew.out hown6 hgrow6 hb6⟩
        case measure => simp [intOf]; omega
    · obtain rfl : k = 4 := by omega
      clear hmk0
      obtain ⟨gs, cs, rfl, -⟩ := owns_some HC.out.row (by omega)
      have hHouse := HC.out.done (HL.out.below (HC.out.hb)) hlen Hlab.out
      have hG0 : Hid (PlayG w wr H ⟨la, cl, gs, cs, g⟩ labs ts 0 (.slice none 0 0)) := ⟨⟨_, hHouse⟩, World.ownsRow_nil _ _ _ _, HC.out.hb⟩
      clear hHouse HC
      generalize (⟨la, cl, gs, cs, g⟩ : Hs) = hs at *
      have hszw : w.heap.size ≤ wr.heap.size := hG0.out.hb.size
      go_wp2_with fail
      go_loopw [10, 56] (fun out i wr => ∃ k : Nat, k ≤ ts.length ∧ i = .int .i64 k ∧ PlayG w wr H hs labs ts k out) (fun _ i _ => ts.length - (intOf i).toNat)
      case atStart => exact ⟨0, by omega, rfl, hG0.out⟩
      case round =>
        clear hG0 hszw
        obtain ⟨k, hk, rfl, hP⟩ := hrel
        have HP := Lib.hid hP
        clear hP
        by_cases hlt : k < ts.length
        · obtain ⟨b, off, cap', he, -, x0, x1, x2, x3, x4, x5⟩ := trn_get HT.out k hlt
          simp only [Value.slice.injEq] at he
          obtain ⟨rfl, -, rfl⟩ := he
          replace x0 := cell_on HP.out.hb x0
          replace x1 := cell_on HP.out.hb x1
          replace x2 := cell_on HP.out.hb x2
          replace x3 := cell_on HP.out.hb x3
          replace x4 := cell_on HP.out.hb x4
          replace x5 := cell_on HP.out.hb x5
          have hbl := World.block_lt_of_cell? wr _ x0
          have hltz : (k : Int) < (ts.length : Int) := by omega
          obtain ⟨vv, hHa⟩ := HP.out.ha
          have hmx : ∀ i j, maxT (stAfter labs noSt (ts.take k) i j) ≤ 1000 := fun i j => by
            have := after_maxT labs (ts.take k) noSt 0 (fun i j => by simp [noSt, maxT]) i j
            simp only [List.length_take] at this; omega
          have ha := turn_box wr ts[k]
          have CT := Lib.hid (cTurn (hHa.on ha) (Nat.le_trans HP.out.hb.size ha.size) ts[k] (Hok.out _ (List.getElem_mem hlt)) hmx)
          have Hst := Lib.hid (fun w5 w6 out' hd ho hg hb6 => playG_step (w5 := w5) (w6 := w6) (out' := out') HP.out hlt ha hd ho hg hb6)
          have Hown := Lib.hid (fun (w5 : World) (hd : Turned (wr.alloc (.cells #[.int .i64 ts[k].kind, .int .i64 ts[k].who, .int .i64 ts[k].dest, .int .i64 ts[k].label, .int .i64 ts[k].key, .int .i64 ts[k].value] 38)) w5 w.heap.size H hs labs (turnOf labs (stAfter labs noSt (ts.take k)) ts[k]).2) => owns_chc (owns_below HP.out.out ha) hd.hc (by decide))
          have hsz := HP.out.hb.size
          generalize (turnOf labs (stAfter labs noSt (ts.take k)) ts[k]).1 = r0 at *
          generalize (turnOf labs (stAfter labs noSt (ts.take k)) ts[k]).2 = rs at *
          have hsza := ha.size
          generalize ts[k] = x at *
          clear hHa ha hmx
          go_wp2_with fail
          refine CT.out.mono ?_
          rintro e w5 ⟨rfl, hd5⟩
          have ho5 := Lib.hid (Hown.out _ hd5)
          have hsz5 : w.heap.size ≤ w5.heap.size := Nat.le_trans (Nat.le_trans hsz hsza) hd5.hc.size
          have Hst5 := Lib.hid (fun w6 out' ho hg hb6 => Hst.out w5 w6 out' hd5 ho hg hb6)
          clear hd5 CT x0 x1 x2 x3 x4 x5 Hst Hown
          go_wp2_with (at_builtin; refine wp_app1 (w0 := w5) 27 39 1 8 _ elErrno Try.underlying27 w.heap.size _ _ _ ho5.out (by repeat (first | exact Below.refl _ _ | refine Below.drew ?_ | refine Below.alloc ?_ (by first | (simp; done) | (simp; omega)) _ | refine Below.setCell ?_ (by first | (simp; done) | (simp; omega)) _)) [.int .i64 r0] rfl _ _ rfl rfl rfl (by first | exact heap_alloc_new _ _ | (simp only [heap_drew, heap_drewN]; exact heap_alloc_new _ _)) (by simp) rfl rfl (by omega) (by omega) hsz5 ?_; intro v6 w6 hown6 hgrow6 hb6)
          have hP' := Hst5.out _ _ hown6 hgrow6 hb6
          go_roundw
          case rel => first | exact ⟨k + 1, by omega, by go_num, hP'⟩ | ((repeat apply Exists.intro); exact ⟨⟨k + 1, by omega, by go_num, hP'⟩, rfl⟩)
          case measure => simp [intOf]; omega
        · obtain rfl : k = ts.length := by omega
          have hA0 : Hid (PlayA w wr H hs labs ts 0 u10 (.slice none 0 0)) := by
            obtain ⟨a1, a2, a3⟩ := HP.out
            rw [List.take_length] at a1 a2
            exact ⟨a1, a2, World.ownsRow_nil _ _ _ _, a3⟩
          obtain ⟨vv, hHa⟩ := HP.out.ha
          obtain ⟨q0, q1, q2, q3⟩ := hHa.head
          unfold maxLen at q3
          clear hHa HP
          go_wp2_with fail
          clear q0 q1
          go_loopw [13, 15, 72] (fun all _ i wr => ∃ k : Nat, k ≤ 4 ∧ i = .int .i64 k ∧ PlayA w wr H hs labs ts k u10 all) (fun _ _ i _ => 4 - (intOf i).toNat)
          case atStart => exact ⟨0, by omega, rfl, hA0.out⟩
          case round =>
            clear hA0
            obtain ⟨k, hk, rfl, hP⟩ := hrel
            have HP := Lib.hid hP
            clear hP
            by_cases hlt : k < 4
            · have hltz : (k : Int) < 4 := by omega
              obtain ⟨vv, hHa⟩ := HP.out.ha
              have s0 := hHa.sc k hlt
              have hst := HP.out.hb.size
              have Hall := Lib.hid HP.out.all
              have Hst := Lib.hid (fun X w6 all' hX ho hg hb6 => playA_step (X := X) (w6 := w6) (all' := all') HP.out hlt hX ho hg hb6)
              clear hHa HP
              go_wp2_with (at_builtin; refine wp_app1 (w0 := wr) 28 34 1 24 _ elEnts2 Try.underlying28 w.heap.size _ _ _ Hall.out (by repeat (first | exact Below.refl _ _ | refine Below.drew ?_ | refine Below.alloc ?_ (by first | (simp; done) | (simp; omega)) _ | refine Below.setCell ?_ (by first | (simp; done) | (simp; omega)) _)) [.slice (some ⟨hs.g k, 0, none⟩) labs.length labs.length] rfl _ _ rfl rfl rfl (by first | exact heap_alloc_new _ _ | (simp only [heap_drew, heap_drewN]; exact heap_alloc_new _ _)) (by simp) rfl rfl (by omega) (by omega) hst ?_; intro v6 w6 hown6 hgrow6 hb6)
              have hP' := Hst.out wr _ _ (Below.refl _ _) hown6 hgrow6 hb6
              go_roundw
              case rel => first | exact ⟨k + 1, by omega, by go_num, hP'⟩ | ((repeat apply Exists.intro); exact ⟨⟨k + 1, by omega, by go_num, hP'⟩, rfl⟩)
              case measure => simp [intOf]; omega
            · obtain rfl : k = 4 := by omega
              obtain ⟨ac, cc, hac⟩ := owns_slice HP.out.out
              obtain ⟨aa, ca, haa⟩ := owns_slice HP.out.all
              have hfin : Hid (Played w wr labs ts u10 u13) := by
                obtain ⟨vv, hHa⟩ := HP.out.ha
                exact ⟨HP.out.out, ⟨hs.g, vv, by have := HP.out.all; rwa [List.take_of_length_le (by simp [storeVs])] at this, hHa.store⟩, HP.out.hb⟩
              subst hac haa
              clear HP
              go_wp2
              go_ret3
              exact ⟨_, _, rfl, hfin.out⟩
end Go.Proofs.Ytngedkfljpkoiaa
