/- RumourShape: the walk. -/
import Derived.Test.YtngedkfljpkoiaaFrmS
import Derived.Test.YtngedkfljpkoiaaFrmN
import Derived.Test.YtngedkfljpkoiaaSame
import Derived.Test.YtngedkfljpkoiaaRow
namespace Go.Proofs.Ytngedkfljpkoiaa.rumourShape
open Go.ChangeShapes Go.WideShapes Go.ChangeAt Go.RowKit
set_option linter.unusedVariables false
set_option linter.unusedSimpArgs false

/-- What is mixed of two stores. -/
def mix {α : Type} (labs : List Nat) (x y : Nat) (s t : Nat → α) (i : Nat) : α := if lb labs i x = true ∧ lb labs i y = true then s i else t i
def mixV (labs : List Nat) (x y : Nat) (s t : Nat → Value) (k i : Nat) : Value := if i < k then mix labs x y s t i else .slice none 0 0
theorem mixV_set (labs : List Nat) (x y : Nat) (s t : Nat → Value) (k : Nat) (hk : k < 3) : ((List.range 3).map (mixV labs x y s t k)).set k (mix labs x y s t k) = (List.range 3).map (mixV labs x y s t (k + 1)) := by
  apply List.ext_getElem (by simp)
  intro i h1 h2
  rw [List.getElem_set]
  simp only [List.getElem_map, List.getElem_range, mixV]
  by_cases e : k = i
  · subst e; rw [if_pos rfl, if_pos (by omega)]
  · rw [if_neg e]
    by_cases h : i < k
    · rw [if_pos h, if_pos (by omega)]
    · rw [if_neg h, if_neg (by omega)]
structure MixAt (w : World) (g : Nat) (vs : List Value) : Prop where
  cells : w.heap[g]? = some (.cells vs.toArray 33 (0, 0))
theorem MixAt.on {w w' : World} {g : Nat} {vs : List Value} (h : MixAt w g vs) (hb : Below w.heap.size w w') : MixAt w' g vs := ⟨by rw [hb.block _ (Array.getElem?_eq_some_iff.1 h.cells).1]; exact h.cells⟩
theorem MixAt.get {w : World} {g : Nat} {vs : List Value} (h : MixAt w g vs) (j : Nat) (v : Value) (hv : vs[j]? = some v) : w.cell? ⟨g, j, none⟩ = some v ∧ w.frozen? ⟨g, j, none⟩ = false :=
  ⟨by rw [cell_of_row w _ _ _ _ _ h.cells]; simpa using hv, by simp [World.frozen?, h.cells]⟩
theorem MixAt.put {w : World} {g : Nat} {vs : List Value} (h : MixAt w g vs) (j : Nat) (v : Value) : MixAt (w.setCell ⟨g, j, none⟩ v) g (vs.set j v) := by
  constructor
  rw [heap_setCell_same _ g j _ _ _ h.cells]
  congr 2
  apply Array.ext'
  rw [Array.toList_setIfInBounds, List.toList_toArray]
theorem MixAt.has {w : World} {g : Nat} {vs : List Value} (h : MixAt w g vs) (hl : vs.length = 3) : Has w 1 (.slice (some ⟨g, 0, none⟩) 3 3) 3 vs :=
  ⟨⟨by simpa using hl, fun n cap h => by simp at h⟩, _, 3, rfl, Nat.le_refl _, by decide, fun _ => ⟨g, 0, rfl, fun j u hu => by rw [cell_of_row w _ _ _ _ _ h.cells]; simpa using hu⟩⟩
set_option maxRecDepth 100000 in
set_option maxHeartbeats 8000000 in
theorem walk (w : World) (v0 : Value) (ls : List Int) (A0 : Has w 1 v0 ls.length (ints ls) ∧ ∀ x ∈ ls, -9223372036854775808 ≤ x ∧ x ≤ 9223372036854775807) (v1 : Value) (n1 : List Ent) (A1 : Has w 5 v1 n1.length (ents n1)) (v2 : Value) (n2 : List Ent) (A2 : Has w 5 v2 n2.length (ents n2)) (v3 : Value) (n3 : List Ent) (A3 : Has w 5 v3 n3.length (ents n3)) (v4 : Value) (n4 : List Ent) (A4 : Has w 5 v4 n4.length (ents n4))
    (a5 a6 : Int) (wf5 : (Lit.int .i64 a5).wf = true) (wf6 : (Lit.int .i64 a6).wf = true) :
    Calls Try.prog 8 #[v0, v1, v2, v3, v4, .int .i64 a5, .int .i64 a6] w fun e w' => e = .returned (.bool true) ∧ Below w.heap.size w w' := by
  have C0 := Lib.hid (cConfigOf 1 1 1 A0.1 (by decide))
  have H1 := Lib.hid A1
  have H2 := Lib.hid A2
  have H3 := Lib.hid A3
  have H4 := Lib.hid A4
  have Hok := Lib.hid (cfgOf_ok ls 1 1 1)
  have hn4 : (cfgOf ls 1 1 1).n = 4 := rfl
  have hlen : (cfgOf ls 1 1 1).labs.length = 3 := labsK_len ls 3
  have P4 := Lib.hid fun X => picked a5 4 (by omega) (by omega) X
  have P5 := Lib.hid fun X => picked a6 4 (by omega) (by omega) X
  have hx := (pn_eq a5 4 (by omega)).2
  have hy := (pn_eq a6 4 (by omega)).2
  rw [← (pn_eq a5 4 (by omega)).1] at P4
  rw [← (pn_eq a6 4 (by omega)).1] at P5
  generalize pn a5 4 = x at *
  generalize pn a6 4 = y at *
  have hxn : x < (cfgOf ls 1 1 1).n := by omega
  have hyn : y < (cfgOf ls 1 1 1).n := by omega
  clear hn4
  generalize cfgOf ls 1 1 1 = c at *
  have HXN := Lib.hid hxn
  have HYN := Lib.hid hyn
  clear hxn hyn
  obtain ⟨_, q1, r1, rfl, _, _, _⟩ := A1
  obtain ⟨_, q2, r2, rfl, _, _, _⟩ := A2
  obtain ⟨_, q3, r3, rfl, _, _, _⟩ := A3
  obtain ⟨_, q4, r4, rfl, _, _, _⟩ := A4
  clear A0 wf5 wf6
  unfold Cfg.cells at C0
  go_enter Try.func8, Try.ntmps8
  go_wp2_with fail
  refine C0.out.mono ?_
  rintro e w1 ⟨gl, cl, gm, rfl, hC, hb1⟩
  have hbx := cfg_box w1 c (.slice (some ⟨gl, 0, none⟩) 3 cl) (.slice (some ⟨gm, 0, none⟩) 2 2)
  obtain ⟨x0, x1, x2, x3, x4⟩ := cfg_at (heap_alloc_new w1 (.cells (c.cells (.slice (some ⟨gl, 0, none⟩) 3 cl) (.slice (some ⟨gm, 0, none⟩) 2 2)) 48))
  have HC := Lib.hid (hC.on hbx)
  have hb2 := hb1.trans (hbx.mono hb1.size)
  have CS := Lib.hid (cStoreOf (H1.out.below hb2) (H2.out.below hb2) (H3.out.below hb2))
  have H42 := Lib.hid (H4.out.below hb2)
  have Hb2 := Lib.hid hb2
  have hclb : 3 ≤ cl ∧ cl ≤ maxLen := by
    obtain ⟨_, _, _, he, h1, h2, _⟩ := hC.hl
    simp only [Value.slice.injEq] at he
    obtain ⟨-, -, rfl⟩ := he
    rw [hlen] at h1
    exact ⟨h1, h2⟩
  obtain ⟨hcl1, hcl2⟩ := hclb
  unfold maxLen at hcl2
  unfold Cfg.cells at x0 x1 x2 x3 x4 HC CS Hb2 H42
  clear hbx hb1 hb2 C0 H1 H2 H3 H4 hC
  go_upto_region 2 with (fail)
  generalize (w1.alloc (.cells #[.int .i64 c.n, .slice (some ⟨gl, 0, none⟩) 3 cl, .int .i64 c.ticks, .slice (some ⟨gm, 0, none⟩) 2 2, .int .i64 c.cap] 48)) = W at *
  generalize w1.heap.size = B at *
  go_wp2_with fail
  refine CS.out.mono ?_
  rintro e w3 ⟨gs, vs, rfl, hS, hSc, hb3⟩
  have HC3 := Lib.hid (HC.out.on hb3)
  have HS := Lib.hid hS
  have HSc := Lib.hid hSc
  have H43 := Lib.hid (H42.out.below hb3)
  have Hb3 := Lib.hid (Hb2.out.trans (hb3.mono Hb2.out.size))
  replace x0 := cell_on hb3 x0
  replace x1 := cell_on hb3 x1
  replace x2 := cell_on hb3 x2
  replace x3 := cell_on hb3 x3
  replace x4 := cell_on hb3 x4
  generalize three n1 n2 n3 = l at *
  have CT := Lib.hid (cStoreOf H43.out H43.out H43.out)
  clear CS HC hb3 hS hSc Hb2 H42
  go_wp2_with fail
  refine CT.out.mono ?_
  rintro e w4 ⟨gt, vt, rfl, hT, hTc, hb4⟩
  have HC4 := Lib.hid (HC3.out.on hb4)
  have HS4 := Lib.hid (HS.out.on hb4)
  have HSc4 := Lib.hid (fun j hj => cell_on hb4 (HSc.out j hj))
  have HT := Lib.hid hT
  have HTc := Lib.hid hTc
  have Hb4 := Lib.hid (Hb3.out.trans (hb4.mono Hb3.out.size))
  replace x0 := cell_on hb4 x0
  replace x1 := cell_on hb4 x1
  replace x2 := cell_on hb4 x2
  replace x3 := cell_on hb4 x3
  replace x4 := cell_on hb4 x4
  generalize three n4 n4 n4 = m at *
  clear CT HC3 hb4 hT hTc Hb3 HS HSc H43
  have hmk : ∀ X : World, (Instr.makeSlice 34 (.int .i64 3) (.int .i64 3)).run Try.prog X = .ok (.slice (some ⟨X.heap.size, 0, none⟩) 3 3) (X.alloc (.cells (List.replicate 3 (Value.slice none 0 0)).toArray 33)) := fun X => run_mk infoEnts Try.underlying34 rfl X 3 (by omega) (by omega)
  have hbz : Below w4.heap.size w4 (w4.alloc (.cells (List.replicate 3 (Value.slice none 0 0)).toArray 33)) := (Below.refl _ _).alloc (Nat.le_refl _) _
  have HM0 : Hid (MixAt (w4.alloc (.cells (List.replicate 3 (Value.slice none 0 0)).toArray 33)) w4.heap.size ((List.range 3).map (mixV c.labs x y vs vt 0))) := ⟨heap_alloc_new _ _⟩
  have HB0 := Lib.hid hbz
  have X0 := Lib.hid x0
  have X1 := Lib.hid x1
  have X2 := Lib.hid x2
  have X3 := Lib.hid x3
  have X4 := Lib.hid x4
  clear hbz x0 x1 x2 x3 x4
  go_upto_region 7 with (first | (go_at_call 16; with_reducible refine (P4.out _).mono ?_; rintro e w' ⟨rfl, rfl⟩) | (go_at_call 16; with_reducible refine (P5.out _).mono ?_; rintro e w' ⟨rfl, rfl⟩))
  rename World => w4
  clear P4 P5
  go_wp2_with fail
  go_loopw [23] (fun i wr => ∃ k : Nat, k ≤ 3 ∧ i = .int .i64 k ∧ Hid (MixAt wr w4.heap.size ((List.range 3).map (mixV c.labs x y vs vt k))) ∧ Hid (Below w4.heap.size w4 wr)) (fun i _ => 3 - (intOf i).toNat)
  case atStart => exact ⟨0, by omega, rfl, HM0, HB0⟩
  case round =>
    clear HM0 HB0
    obtain ⟨i, hi, rfl, HM, HB⟩ := hrel
    by_cases hlt : i < 3
    · have hltz : (i : Int) < 3 := by omega
      obtain ⟨_, av, cv, hvs, _, _, _⟩ := HS4.out.rows i hlt
      obtain ⟨_, at', ct, hvt, _, _, _⟩ := HT.out.rows i hlt
      have d1 := cell_on HB.out (HSc4.out i hlt)
      have d2 := cell_on HB.out (HTc.out i hlt)
      obtain ⟨m0, mf⟩ := HM.out.get i (mixV c.labs x y vs vt i i) (by simp [hlt])
      have HM1 := Lib.hid ((HM.out.put i (vt i)))
      have HB1 : Hid (Below w4.heap.size w4 (wr.setCell ⟨w4.heap.size, i, none⟩ (vt i))) := HB.out.setCell (Nat.le_refl _) _
      have x1 := cell_on HB1.out X1.out
      have hlr : Has w4 1 (.slice (some ⟨gl, 0, none⟩) 3 cl) 3 (ints (labInts c.labs)) := by have := HC4.out.hl; rwa [hlen] at this
      have x0 := cell_on HB1.out (lab_cell hlr i (by omega))
      have hl16 := Hok.out.lt16 _ (List.getElem_mem (show i < c.labs.length by omega))
      have hbi := bit_in (c.labs[i]'(by omega)) x (by omega)
      have hbk := bit_in (c.labs[i]'(by omega)) y (by omega)
      have hmx : Hid (mix c.labs x y vs vt i = if inL (c.labs[i]'(by omega)) x = true ∧ inL (c.labs[i]'(by omega)) y = true then vs i else vt i) := by
        unfold mix
        rw [lb_at (by omega), lb_at (by omega)]
        rfl
      have Hset := Lib.hid (mixV_set c.labs x y vs vt i hlt)
      have hnm : (mixV c.labs x y vs vt i i) = .slice none 0 0 := by unfold mixV; rw [if_neg (by omega)]
      rw [hnm] at m0
      obtain ⟨m1, mf1⟩ := HM1.out.get i (vt i) (by simp [hlt])
      have d3 := cell_on HB1.out (HSc4.out i hlt)
      have HM2 := Lib.hid (HM1.out.put i (vs i))
      have HB2 : Hid (Below w4.heap.size w4 ((wr.setCell ⟨w4.heap.size, i, none⟩ (vt i)).setCell ⟨w4.heap.size, i, none⟩ (vs i))) := HB1.out.setCell (Nat.le_refl _) _
      generalize c.labs[i]'(by omega) = lab at *
      rw [hvs] at d1 d3 hmx HM2 HB2
      rw [hvt] at d2 m1 hmx HM1 HB1 x0 x1 d3 HM2 HB2
      rw [hvt] at mf1
      clear hlr hnm HM HB hvs hvt
      go_upto_region 11 with (fail)
      cases h1 : inL lab x with
      | false =>
        rw [h1] at hbi
        rw [h1, if_neg (by simp)] at hmx
        rw [hmx.out] at Hset
        go_wp2_with fail
        go_roundw
        case rel => exact ⟨i + 1, by omega, by go_num, by have e := Hset.out; rw [← e]; exact HM1, HB1⟩
        case measure => first | (simp [intOf]; done) | (simp [intOf]; omega)
      | true =>
        rw [h1] at hbi
        cases h2 : inL lab y with
        | false =>
          rw [h2] at hbk
          rw [h1, h2, if_neg (by simp)] at hmx
          rw [hmx.out] at Hset
          go_wp2_with fail
          go_roundw
          case rel => exact ⟨i + 1, by omega, by go_num, by have e := Hset.out; rw [← e]; exact HM1, HB1⟩
          case measure => first | (simp [intOf]; done) | (simp [intOf]; omega)
        | true =>
          rw [h2] at hbk
          rw [h1, h2, if_pos (by simp)] at hmx
          rw [hmx.out] at Hset
          go_wp2_with fail
          go_roundw
          case rel => exact ⟨i + 1, by omega, by go_num, by have e := Hset.out; rw [← e]; rw [List.set_set] at HM2; exact HM2, HB2⟩
          case measure => first | (simp [intOf]; done) | (simp [intOf]; omega)
    · obtain rfl : i = 3 := by omega
      have x0 := cell_on HB.out X0.out
      have x1 := cell_on HB.out X1.out
      have x2 := cell_on HB.out X2.out
      have x3 := cell_on HB.out X3.out
      have x4 := cell_on HB.out X4.out
      have HC6 := Lib.hid (HC4.out.on HB.out)
      have HS6 := Lib.hid (HS4.out.on HB.out)
      have HT6 := Lib.hid (HT.out.on HB.out)
      have hmv : ∀ j, j < 3 → mixV c.labs x y vs vt 3 j = mix c.labs x y vs vt j := fun j hj => by unfold mixV; rw [if_pos hj]
      have HX6 : Hid (StoreH wr (.slice (some ⟨w4.heap.size, 0, none⟩) 3 3) 3 (mixV c.labs x y vs vt 3) (mix c.labs x y l m)) := by
        refine ⟨HM.out.has (by simp), fun j hj => ?_, fun j hj => ?_⟩
        · rw [hmv j hj]; unfold mix
          split
          · exact HS6.out.rows j hj
          · exact HT6.out.rows j hj
        · unfold mix; split
          · exact HS6.out.ok j hj
          · exact HT6.out.ok j hj
      have Hb6 : Hid (Below w.heap.size w wr) := Hb4.out.trans (HB.out.mono Hb4.out.size)
      have K1 : Hid (∀ X, Below wr.heap.size wr X → _) := fun X hX => cRumour Hok.out (HC6.out.on hX) x y HXN.out HYN.out (.slice (some ⟨gs, 0, none⟩) 3 3) vs l (by rw [hlen]; exact HS6.out.on hX)
      have K2 : Hid (∀ X, Below wr.heap.size wr X → _) := fun X hX => cRumour Hok.out (HC6.out.on hX) x y HXN.out HYN.out (.slice (some ⟨gt, 0, none⟩) 3 3) vt m (by rw [hlen]; exact HT6.out.on hX)
      have K3 : Hid (∀ X, Below wr.heap.size wr X → _) := fun X hX => cRumour Hok.out (HC6.out.on hX) x y HXN.out HYN.out (.slice (some ⟨w4.heap.size, 0, none⟩) 3 3) _ (mix c.labs x y l m) (by rw [hlen]; exact HX6.out.on hX)
      have K4 : Hid (∀ X, Below wr.heap.size wr X → _) := fun X hX => cRumour Hok.out (HC6.out.on hX) y x HYN.out HXN.out (.slice (some ⟨gs, 0, none⟩) 3 3) vs l (by rw [hlen]; exact HS6.out.on hX)
      have e2 : recSize (rumF c.labs x y m) = recSize (rumF c.labs x y l) := by rw [rum_size, rum_size]
      have e3 : rumF c.labs x y (mix c.labs x y l m) = rumF c.labs x y l := rumF_congr _ _ _ _ _ fun i _ h1 h2 => by unfold mix; rw [if_pos ⟨h1, h2⟩]
      have e4 : recSize (rumF c.labs y x l) = recSize (rumF c.labs x y l) := by rw [rum_size, rum_size, shr_symm]
      rw [e2] at K2
      rw [e3] at K3
      rw [e4] at K4
      have KM : Hid (∀ X, Below wr.heap.size wr X → _) := fun X hX => cFMay Hok.out (HC6.out.on hX)
      have hsb : Hid (recBytes (rumF c.labs x y l) = u8s (recB (rumF c.labs x y l)) ∧ (recB (rumF c.labs x y l)).length = recSize (rumF c.labs x y l)) := ⟨rfl, recB_length _⟩
      unfold Cfg.cells at K1 K2 K3 K4 KM
      generalize recSize (rumF c.labs x y l) = z at *
      clear e2 e3 e4 HM HB HC4 HS4 HSc4 HT HTc Hb4 X0 X1 X2 X3 X4
      have CB := Lib.hid (Below.refl wr.heap.size wr)
      go_upto_region 13 with (fail)
      go_wp2_with fail
      refine (K1.out _ CB.out).mono ?_
      rintro e w7 ⟨v7, rfl, hown7, hb7⟩
      obtain ⟨a7, c7, rfl⟩ := owns_slice hown7
      have O7 := Lib.hid (Has.of_owns hown7)
      replace CB := Lib.hid (CB.out.trans (hb7.mono CB.out.size))
      replace x0 := cell_on hb7 x0
      replace x1 := cell_on hb7 x1
      replace x2 := cell_on hb7 x2
      replace x3 := cell_on hb7 x3
      replace x4 := cell_on hb7 x4
      clear hown7 hb7 K1
      go_wp2_with fail
      refine (K2.out _ CB.out).mono ?_
      rintro e w8 ⟨v8, rfl, hown8, hb8⟩
      obtain ⟨a8, c8, rfl⟩ := owns_slice hown8
      have O8 := Lib.hid (Has.of_owns hown8)
      replace CB := Lib.hid (CB.out.trans (hb8.mono CB.out.size))
      replace x0 := cell_on hb8 x0
      replace x1 := cell_on hb8 x1
      replace x2 := cell_on hb8 x2
      replace x3 := cell_on hb8 x3
      replace x4 := cell_on hb8 x4
      replace O7 := Lib.hid (O7.out.below hb8)
      clear hown8 hb8 K2
      go_wp2_with fail
      refine (K3.out _ CB.out).mono ?_
      rintro e w9 ⟨v9, rfl, hown9, hb9⟩
      obtain ⟨a9, c9, rfl⟩ := owns_slice hown9
      have O9 := Lib.hid (Has.of_owns hown9)
      replace CB := Lib.hid (CB.out.trans (hb9.mono CB.out.size))
      replace x0 := cell_on hb9 x0
      replace x1 := cell_on hb9 x1
      replace x2 := cell_on hb9 x2
      replace x3 := cell_on hb9 x3
      replace x4 := cell_on hb9 x4
      replace O7 := Lib.hid (O7.out.below hb9)
      replace O8 := Lib.hid (O8.out.below hb9)
      clear hown9 hb9 K3
      go_wp2_with fail
      refine (K4.out _ CB.out).mono ?_
      rintro e w10 ⟨v10, rfl, hown10, hb10⟩
      obtain ⟨a10, c10, rfl⟩ := owns_slice hown10
      have O10 := Lib.hid (Has.of_owns hown10)
      replace CB := Lib.hid (CB.out.trans (hb10.mono CB.out.size))
      replace x0 := cell_on hb10 x0
      replace x1 := cell_on hb10 x1
      replace x2 := cell_on hb10 x2
      replace x3 := cell_on hb10 x3
      replace x4 := cell_on hb10 x4
      replace O7 := Lib.hid (O7.out.below hb10)
      replace O8 := Lib.hid (O8.out.below hb10)
      replace O9 := Lib.hid (O9.out.below hb10)
      clear hown10 hb10 K4
      have CM := Lib.hid (KM.out _ CB.out)
      obtain ⟨hs1, hs2⟩ := hsb.out
      rw [hs1] at O7 O9
      have CE := Lib.hid (fun X (hX : Below w10.heap.size w10 X) => csameBytes (.slice a7 z c7) (.slice a9 z c9) (recB (rumF c.labs x y l)) (recB (rumF c.labs x y l)) X (by rw [hs2]; exact O7.out.below hX) (by rw [hs2]; exact O9.out.below hX))
      have hzz : ((z : Int) == (z : Int)) = true := by simp
      clear hs1 hs2 hsb KM O7 O8 O9 O10 HC6 HS6 HT6 HX6
      go_wp2_with fail
      refine CM.out.mono ?_
      rintro e w11 ⟨rfl, hb11⟩
      have CE2 := Lib.hid (CE.out _ hb11)
      have CB2 := Lib.hid (CB.out.trans (hb11.mono CB.out.size))
      clear hb11 CE CM x0 x1 x2 x3 x4
      go_wp2_with fail
      refine CE2.out.mono ?_
      rintro e w12 ⟨rfl, hb12⟩
      have hfin : Hid (Below w.heap.size w w12) := Hb6.out.trans ((CB2.out.trans (hb12.mono CB2.out.size)).mono Hb6.out.size)
      clear hb12 CE2
      go_wp2_with fail
      go_ret
      exact ⟨ret_bool (by simp), hfin.out⟩
end Go.Proofs.Ytngedkfljpkoiaa.rumourShape
