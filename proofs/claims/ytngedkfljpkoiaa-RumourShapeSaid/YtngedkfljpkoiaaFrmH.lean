/- Package frame: Heard, the walk. -/
import Derived.Test.YtngedkfljpkoiaaFrmG
namespace Go.Proofs.Ytngedkfljpkoiaa
open Go.ChangeShapes Go.WideShapes Go.ChangeAt Go.RowKit
set_option linter.unusedVariables false
set_option linter.unusedSimpArgs false

theorem shr_eight {labs : List Nat} {f t : Nat} {l : Nat → List Ent} (h : ∀ j, j < labs.length → EightL (l j) ∧ ∀ e ∈ l j, e.v ≤ 255) : ∀ i ∈ shr labs f t labs.length, EightL (l i) := fun i hi => (h i ((shr_mem _ _ _ _ _).1 hi).1).1
set_option maxRecDepth 100000 in
set_option maxHeartbeats 8000000 in
theorem cHeard {w : World} {c : Cfg} {vl vm : Value} (hc : c.Ok) (h : CfgAt w c vl vm) (f t : Nat) (hf : f < c.n) (ht : t < c.n) (vb : Value) (l : Nat → List Ent) (hl : ∀ j, j < c.labs.length → EightL (l j) ∧ ∀ e ∈ l j, e.v ≤ 255) (hb : Has w 1 vb (recSize (rumF c.labs f t l)) (u8s (recB (rumF c.labs f t l)))) :
    Calls Try.prog 22 #[.agg (c.cells vl vm), .int .i64 f, .int .i64 t, vb] w fun e w' => ∃ g vs, e = .returned (.tuple #[.slice (some ⟨g, 0, none⟩) c.labs.length c.labs.length, .int .i64 0]) ∧ HeardAt w w' g c.labs.length vs (heardL c.labs f t l) := by
  have hbx := cfg_box w c vl vm
  obtain ⟨x0, x1, x2, x3, x4⟩ := cfg_at (heap_alloc_new w (.cells (c.cells vl vm) 48))
  have H := Lib.hid (h.on hbx)
  have S := Lib.hid (hb.below hbx)
  have Hb := Lib.hid hbx
  have hlen := hc.len
  have hn := hc.n
  have hf4 : f < 4 := by omega
  have ht4 : t < 4 := by omega
  have Hfo := Lib.hid (rumF_ok (f := f) (t := t) hlen hl)
  have KM := Lib.hid (fun (X : World) (hX : CfgAt X c vl vm) => cFMay hc hX)
  have KB := Lib.hid (fun (X : World) (vv : Value) (hX : Has X 1 vv 2 (ints [(f : Int), (t : Int)])) => cBranch (w := X) (vl := vl) (vm := vm) hc vv f t hf ht hX)
  have KS := Lib.hid (fun (X : World) (hX : CfgAt X c vl vm) => cShared hc hX f t hf4 ht4)
  have hil := shr_len c.labs f t c.labs.length
  have Hix := Lib.hid (shr_mem c.labs f t c.labs.length)
  have Hsort := Lib.hid (shr_sorted c.labs f t c.labs.length)
  have Height := Lib.hid (shr_eight (f := f) (t := t) hl)
  have Hl := Lib.hid hl
  have Hend := Lib.hid (heardP_heardL c.labs f t l)
  have Hfst := Lib.hid (rumF_fst c.labs f t l)
  have Hat := Lib.hid (rumF_at c.labs f t l)
  have hflen := rumF_len c.labs f t l
  obtain ⟨_, la, cl, rfl, hcl1, hcl2, _⟩ := h.hl
  obtain ⟨_, ma, cm, rfl, hcm1, hcm2, _⟩ := h.hm
  obtain ⟨_, ba, bc, rfl, hbc1, hbc2, _⟩ := hb
  unfold maxLen at hcl2 hcm2 hbc2
  unfold Cfg.cells at x0 x1 x2 x3 x4 Hb H S hbx KM KB KS ⊢
  generalize shr c.labs f t c.labs.length = ix at *
  generalize rumF c.labs f t l = F at *
  obtain ⟨N, hN⟩ : ∃ N, N = ix.length * 8 := ⟨_, rfl⟩
  rw [← hN] at Hfst hflen
  have HN := Lib.hid hN
  have hN40 : N ≤ 40 := by omega
  clear hbx hc h hl
  go_enter Try.func22, Try.ntmps22
  go_upto_region 1 with (fail)
  generalize (w.alloc (.cells #[.int .i64 c.n, .slice la c.labs.length cl, .int .i64 c.ticks, .slice ma c.minted.length cm, .int .i64 c.cap] 48)) = W at *
  go_wp2_with fail
  refine (KM.out _ H.out).mono ?_
  rintro e w1 ⟨rfl, hb1⟩
  have H1 := Lib.hid (H.out.on hb1)
  have S1 := Lib.hid (S.out.below hb1)
  have Hb1 := Lib.hid hb1
  replace x0 := cell_on hb1 x0
  replace x1 := cell_on hb1 x1
  replace x2 := cell_on hb1 x2
  replace x3 := cell_on hb1 x3
  replace x4 := cell_on hb1 x4
  clear hb1 KM H S
  have hba : Below w1.heap.size w1 (w1.alloc (.cells #[.int .i64 f, .int .i64 t] 3)) := (Below.refl _ _).alloc (Nat.le_refl _) _
  have KB1 := Lib.hid (KB.out (w1.alloc (.cells #[.int .i64 f, .int .i64 t] 3)) (.slice (some ⟨w1.heap.size, 0, none⟩) 2 2) (has_block (wp := w1) (cs := ints [(f : Int), (t : Int)]) (heap_alloc_new _ _) rfl rfl (by decide)))
  have Hba := Lib.hid hba
  clear KB hba
  go_wp2_with fail
  refine KB1.out.mono ?_
  rintro e w2 ⟨rfl, hb2⟩
  have hb12 : Below w1.heap.size w1 w2 := Hba.out.trans (hb2.mono Hba.out.size)
  have H2 := Lib.hid (H1.out.on hb12)
  have S2 := Lib.hid (S1.out.below hb12)
  have Hb2 := Lib.hid (Hb1.out.trans (hb12.mono Hb1.out.size))
  replace x0 := cell_on hb12 x0
  replace x1 := cell_on hb12 x1
  replace x2 := cell_on hb12 x2
  replace x3 := cell_on hb12 x3
  replace x4 := cell_on hb12 x4
  clear hb2 hb12 KB1 Hba H1 S1 Hb1
  go_wp2_with fail
  refine (KS.out _ H2.out).mono ?_
  rintro e w3 ⟨vi, rfl, howni, hb3⟩
  obtain ⟨ai, ci, rfl⟩ := owns_slice howni
  have HI := Lib.hid (Has.of_owns howni)
  have S3 := Lib.hid (S2.out.below hb3)
  have Hb3 := Lib.hid (Hb.out.trans ((Hb2.out.trans (hb3.mono Hb2.out.size)).mono Hb.out.size))
  replace x0 := cell_on hb3 x0
  replace x1 := cell_on hb3 x1
  have hib : ix.length ≤ ci ∧ ci ≤ maxLen := by
    obtain ⟨_, _, _, he, h1, h2, _⟩ := HI.out
    simp only [Value.slice.injEq] at he
    obtain ⟨-, -, rfl⟩ := he
    exact ⟨h1, h2⟩
  obtain ⟨hib1, hib2⟩ := hib
  unfold maxLen at hib2
  clear hb3 KS H2 S2 Hb2 howni Hb x2 x3 x4
  have hw8 : IntKind.i64.wrap ((ix.length : Int) * 8) = (N : Int) := by rw [show (ix.length : Int) * 8 = (N : Int) by omega]; exact IntWalk.i64_in _ (by omega)
  clear hN
  have hb34 : Below w3.heap.size w3 (w3.alloc (.cells #[.int .i64 34] 3)) := (Below.refl _ _).alloc (Nat.le_refl _) _
  have CR := Lib.hid (crepeatE (.slice (some ⟨w3.heap.size, 0, none⟩) 1 1) 34 N (w3.alloc (.cells #[.int .i64 34] 3)) (has_block (wp := w3) (cs := ints [34]) (heap_alloc_new _ _) rfl rfl (by decide)) (by omega))
  have Hb34 := Lib.hid hb34
  clear hb34
  go_wp2_with fail
  clear hw8
  refine CR.out.mono ?_
  rintro e w4 ⟨v4, rfl, hown4, hb4⟩
  obtain ⟨a4, c4, rfl⟩ := owns_slice hown4
  have hb4' := Hb34.out.trans (hb4.mono Hb34.out.size)
  have CU := Lib.hid (cunpackF (.slice a4 N c4) (.slice ba (recSize F) bc) F w4 Hfo.out (by rw [Hfst.out, hflen]; exact Has.of_owns hown4) (S3.out.below hb4'))
  rw [hflen] at CU
  have Hb4 := Lib.hid (Hb3.out.trans (hb4'.mono Hb3.out.size))
  have HI4 := Lib.hid (HI.out.below hb4')
  replace x0 := cell_on hb4' x0
  replace x1 := cell_on hb4' x1
  clear hown4 hb4 hb4' CR Hb34 S3 Hb3 HI
  go_wp2_with fail
  refine CU.out.mono ?_
  rintro e w5 ⟨v5, rfl, hown5, hb5⟩
  obtain ⟨a5, c5, rfl⟩ := owns_slice hown5
  have HV := Lib.hid (Has.of_owns hown5)
  have Hb5 := Lib.hid (Hb4.out.trans (hb5.mono Hb4.out.size))
  have HI5 := Lib.hid (HI4.out.below hb5)
  replace x1 := cell_on hb5 x1
  have hvc : N ≤ c5 ∧ c5 ≤ maxLen := by
    obtain ⟨_, _, _, he, h1, h2, _⟩ := HV.out
    simp only [Value.slice.injEq] at he
    obtain ⟨-, -, rfl⟩ := he
    exact ⟨h1, h2⟩
  obtain ⟨hvc1, hvc2⟩ := hvc
  unfold maxLen at hvc2
  have hmk : ∀ X : World, (Instr.makeSlice 34 (.int .i64 (c.labs.length : Int)) (.int .i64 (c.labs.length : Int))).run Try.prog X = .ok (.slice (some ⟨X.heap.size, 0, none⟩) c.labs.length c.labs.length) (X.alloc (.cells (List.replicate c.labs.length (Value.slice none 0 0)).toArray 33)) := fun X => run_mk infoEnts Try.underlying34 rfl X c.labs.length (by omega) (by omega)
  clear hown5 hb5 CU Hb4 HI4 x0
  generalize hA : (List.replicate c.labs.length (Value.slice none 0 0)).toArray = A at hmk
  have HA := Lib.hid hA
  clear hA
  go_upto_region 10 with (fail)
  clear hmk x1
  have hb6 : Below w5.heap.size w5 (w5.alloc (.cells A 33)) := (Below.refl _ _).alloc (Nat.le_refl _) _
  have hH0 : Hid (HAt (w5.alloc (.cells A 33)) w5.heap.size (w5.alloc (.cells A 33)).heap.size c.labs.length c.labs.length (fun _ => .slice none 0 0) (heardP ix l 0 0)) := by
    have e0 : ∀ j, heardP ix l 0 0 j = [] := fun j => heardP_zero j Height.out
    refine HAt.same (L := fun _ => []) ⟨?_, fun j hj => Has.of_owns (World.ownsRow_nil _ 0 41 5), fun _ _ => rfl, fun j hj hne b o n c hv => by simp at hv, World.ownsRow_nil _ _ _ _, by simp, Nat.le_refl _⟩ e0
    rw [heap_alloc_new, ← HA.out, List.map_const', List.length_range]
  have HB6 := Lib.hid hb6
  have hgw : w.heap.size ≤ w5.heap.size := Hb5.out.size
  have hA6 : (w5.alloc (.cells A 33)).heap.size = w5.heap.size + 1 := by simp
  generalize (w5.alloc (.cells A 33)) = w6 at *
  clear hb6 HA
  go_wp2_with fail
  go_loopw [14, 15, 16, 17, 18, 52, 57, 64, 81] (fun _ _ _ _ _ i _ _ _ wr => ∃ (a r : Nat) (B : Nat) (cur : Nat) (vs : Nat → Value), a ≤ ix.length ∧ r < 8 ∧ (a = ix.length → r = 0) ∧ i = .int .i64 ((a * 8 + r : Nat) : Int) ∧ Hid (HAt wr w5.heap.size B c.labs.length cur vs (heardP ix l a r)) ∧ Hid (0 < r → ix[a]? = some cur) ∧ Hid (Below w5.heap.size w5 wr)) (fun _ _ _ _ _ i _ _ _ _ => N - (intOf i).toNat)
  case atStart => exact ⟨0, 0, _, _, _, by omega, by omega, fun _ => rfl, rfl, hH0, fun h => absurd h (by omega), HB6⟩
  case round =>
    clear hH0 HB6
    obtain ⟨a, r, B, cur, vs, ha, hr, hae, rfl, HH, HC, HB⟩ := hrel
    by_cases hlt : a < ix.length
    · obtain ⟨B', HH'⟩ : ∃ B', Hid (HAt wr w5.heap.size B' c.labs.length ix[a] vs (heardP ix l a r)) := by
        by_cases hr0 : r = 0
        · subst hr0
          exact ⟨_, HH.out.fresh ix[a] (by rw [heardP_cur Hsort.out a 0 hlt, upTo_zero (Height.out _ (List.getElem_mem hlt))])⟩
        · have := HC.out (by omega)
          rw [List.getElem?_eq_getElem hlt] at this
          simp only [Option.some.injEq] at this
          exact ⟨B, by rw [this]; exact HH⟩
      clear HH HC B cur
      have hiL : ix[a] < c.labs.length := ((Hix.out ix[a]).1 (List.getElem_mem hlt)).1
      obtain ⟨a2, r2, hp2, ha2, hr2, hae2, hL2, hC2⟩ := hp_next (l := l) Hsort.out Height.out a r hlt hr
      have HL2 := Lib.hid hL2
      have HC2 := Lib.hid hC2
      have Hstep := Lib.hid (heardP_step (l := l) Hsort.out a r hlt (Height.out _ (List.getElem_mem hlt)))
      have hcu := heardP_cur (l := l) Hsort.out a r hlt
      have Hcu := Lib.hid hcu
      have hpz : ((a * 8 + r : Nat) : Int) < (N : Int) := by have := HN.out; omega
      -- the number
      obtain ⟨⟨hl0, _⟩, _, _, he, _, _, hcc⟩ := (HV.out.below HB.out)
      simp only [Value.slice.injEq] at he
      obtain ⟨rfl, -, rfl⟩ := he
      obtain ⟨bv, ov, rfl, hcell⟩ := hcc (by rw [ints_length, List.length_map, hflen]; have := HN.out; omega)
      have x0 := hcell (a * 8 + r) (.int .i64 (slotAt (l ix[a]) r)) (by
        have := Hat.out a r hlt hr
        unfold ints
        rw [List.getElem?_map, this]; rfl)
      clear hcell hcc hl0
      obtain ⟨⟨hl0, _⟩, _, _, he, _, _, hcc⟩ := (HI5.out.below HB.out)
      simp only [Value.slice.injEq] at he
      obtain ⟨rfl, -, rfl⟩ := he
      obtain ⟨bi, oi, rfl, hcell⟩ := hcc (by rw [ints_length, labInts_length']; omega)
      have y0 := hcell a (.int .i64 ix[a]) (by rw [ints_get _ a (by rw [labInts_length']; exact hlt)]; simp [labInts])
      clear hcell hcc hl0
      obtain ⟨hEk, hEv⟩ := Hl.out ix[a] hiL
      have hsb := slotAt_bd hEk hEv r
      have CE := Lib.hid (fun X => centry (r : Int) (slotAt (l ix[a]) r) hsb.1 (by omega) X)
      have hbv := World.block_lt_of_cell? wr _ x0
      have hbi := World.block_lt_of_cell? wr _ y0
      have hi4 : ((ix[a] : Nat) : Int) < (c.labs.length : Int) := by omega
      have hal := hlt
      obtain ⟨p, hp⟩ : ∃ p, p = a * 8 + r := ⟨_, rfl⟩
      rw [← hp] at x0 hpz hp2 ⊢
      have hpa : p / 8 = a := by omega
      have hpr : p % 8 = r := by omega
      have q1 : (p : Int) / 8 = (a : Int) := by omega
      have q2 : (p : Int).tmod 8 = (r : Int) := by rw [Int.tmod_eq_emod_of_nonneg (by omega)]; omega
      have q3 : IntKind.i64.wrap (a : Int) = a := IntWalk.i64_in _ (by omega)
      have hPz : (p : Int) < 9223372036854775807 := by omega
      have haz : (a : Int) < (ix.length : Int) := by omega
      have HP2 := Lib.hid hp2
      have HAE := Lib.hid hae2
      have HA2 := Lib.hid ha2
      have HR2 := Lib.hid hr2
      clear hp hpa hpr hp2 hae2 ha2 hr2 hae hr ha hL2 hC2 hcu
      cases hlk : look (l ix[a]) r with
      | none =>
        have hs0 : slotAt (l ix[a]) r = 0 := by unfold slotAt; rw [hlk]
        rw [hs0] at x0 CE
        rw [slot_none] at CE
        have hst : ∀ j, heardP ix l a (r + 1) j = heardP ix l a r j := fun j => by rw [Hstep.out j, hlk]
        have hfin : Hid (∀ X, Below wr.heap.size wr X → HAt X w5.heap.size B' c.labs.length ix[a] vs (heardP ix l a2 r2)) := fun X hX => (HH'.out.on hX).same (fun j => by rw [HL2.out j, hst j])
        have HE := HC2
        clear hst Hstep Hcu hEk hEv hsb hlk hs0 HH' HL2
        unfold Ent.val at CE
        simp only at CE
        generalize ix[a] = cur at *
        go_upto_region 13 with (fail)
        go_wp2_with fail
        refine (CE.out _).mono ?_
        rintro e w7 ⟨rfl, hb7⟩
        have hb8 : Below wr.heap.size wr (w7.alloc (.cells #[.int .i64 r, .int .i64 0, .int .i64 0, .int .i64 0, .bool false] 41)) := hb7.alloc hb7.size _
        have HF := Lib.hid (hfin.out _ hb8)
        have HB8 := Lib.hid (HB.out.trans (hb8.mono HB.out.size))
        clear hb7 hb8 CE hfin HB x0 y0
        go_wp2_with fail
        go_roundw
        case rel => exact ⟨a2, r2, B', cur, vs, HA2.out, HR2.out, HAE.out, by rw [HP2.out]; go_num, HF, HE, HB8⟩
        case measure => first | (simp [intOf]; done) | (simp [intOf]; omega)
      | some e =>
        have hek := (look_some hlk).2
        have hem := (look_some hlk).1
        have heo := hEk.may.ok e hem
        have hev := hEv e hem
        have hs0 : slotAt (l ix[a]) r = slotOf e := by unfold slotAt; rw [hlk]
        rw [hs0] at x0 CE
        have hback := slot_back heo hev
        rw [hek] at hback
        rw [hback] at CE
        unfold Ent.val at CE
        simp only at CE
        have hst : ∀ j, heardP ix l a (r + 1) j = updF (heardP ix l a r) ix[a] (heardP ix l a r ix[a] ++ [e]) j := fun j => by rw [Hstep.out j, hlk]
        have CS := Lib.hid (fun X => cslot e heo hev X)
        have hone : EightL [e] := EightL.one heo (hEk.eight e hem)
        have HO := Lib.hid hone.may
        have happ : Hid (∀ (w' X : World) (v' : Value), Below wr.heap.size wr w' → Below B' w' X → X.ownsRow B' 41 5 v' ((heardP ix l a r ix[a]).length + 1) (ents (heardP ix l a r ix[a]) ++ e.cells) → HAt (X.setCell ⟨w5.heap.size, ix[a], none⟩ v') w5.heap.size B' c.labs.length ix[a] (updF vs ix[a] v') (heardP ix l a2 r2)) := fun w' X v' h1 h2 h3 =>
          ((HH'.out.on h1).app hiL h2 h3).same (fun j => by rw [HL2.out j, hst j])
        have hcl : (heardP ix l a r ix[a]).length ≤ 8 := by
          rw [Hcu.out]
          exact Nat.le_trans (List.length_filter_le _ _) hEk.len
        have HE := HC2
        have hown := Lib.hid (fun X (h1 : Below wr.heap.size wr X) => (HH'.out.on h1).own)
        have hcellG := Lib.hid (fun X (h1 : Below wr.heap.size wr X) => (HH'.out.on h1).cell ix[a] hiL)
        have hownlt := Lib.hid (own_lt HH'.out.own)
        have hkeep := Lib.hid (fun w' X (h1 : Below wr.heap.size wr w') (h2 : Below B' w' X) => (HH'.out.on h1).keep hiL h2)
        obtain ⟨hgB, hBS⟩ : w5.heap.size < B' ∧ B' ≤ wr.heap.size := ⟨HH'.out.gB, HH'.out.BS⟩
        have Hek := Lib.hid hek
        clear hst Hstep Hcu hEk hEv hsb hlk hs0 HL2 hback heo hev hem hone hek
        generalize slotOf e = sl at *
        generalize heardP ix l a r ix[a] = L at *
        generalize ix[a] = cur at *
        generalize vs cur = vc at *
        obtain ⟨ek, ev, et, eh, eg⟩ := e
        simp only at CE CS
        go_upto_region 13 with (fail)
        go_wp2_with fail
        refine (CE.out _).mono ?_
        rintro e w7 ⟨rfl, hb7⟩
        have hbx : Below wr.heap.size wr (w7.alloc (.cells #[.int .i64 ek, .int .i64 ev, .int .i64 et, .int .i64 eh, .bool eg] 41)) := hb7.alloc hb7.size _
        obtain ⟨⟨z0, z1, z2, z3, z4⟩, -⟩ := five_at (heap_alloc_new w7 (.cells #[.int .i64 ek, .int .i64 ev, .int .i64 et, .int .i64 eh, .bool eg] 41))
        have hszx : w7.heap.size < (w7.alloc (.cells #[.int .i64 ek, .int .i64 ev, .int .i64 et, .int .i64 eh, .bool eg] 41)).heap.size := by simp
        have hsz7 := hb7.size
        replace y0 := cell_on hbx y0
        have Hbx := Lib.hid hbx
        obtain ⟨xG, -⟩ := hcellG.out _ hbx
        have hszX := hbx.size
        clear hbx hb7 CE x0
        go_upto_region 14 with (fail)
        generalize (w7.alloc (.cells #[.int .i64 ek, .int .i64 ev, .int .i64 et, .int .i64 eh, .bool eg] 41)) = W8 at *
        have hown8 := Lib.hid (hown.out _ Hbx.out)
        have hkeep8 := Lib.hid (fun X hX => hkeep.out W8 X Hbx.out hX)
        have hsz8 : B' ≤ W8.heap.size := Nat.le_trans hBS hszX
        have hGlt : w5.heap.size < W8.heap.size := Nat.lt_of_lt_of_le hgB hsz8
        go_upto_region 16 with (fail)
        go_region_law (first
          | (refine step_appN (w0 := W8) (wanted_of_none (by rfl)) 33 41 5 40 _ elEntry Try.underlying33 B' vc L.length (ents L) hown8.out (by repeat (first | exact Below.refl _ _ | refine Below.drew ?_ | refine Below.alloc ?_ (by first | (simp; done) | (simp; omega)) _ | refine Below.setCell ?_ (by first | (simp; done) | (simp; omega)) _)) (.slice (some ⟨W8.heap.size, 0, none⟩) 1 1) 1 [.int .i64 ek, .int .i64 ev, .int .i64 et, .int .i64 eh, .bool eg] (has_block (wp := W8) (by first | exact heap_alloc_new _ _ | (simp only [heap_drew, heap_drewN]; exact heap_alloc_new _ _)) (by rfl) (by rfl) (by decide)) _ _ (by rfl) (by rfl) (by rfl) (by simp [Value.oneCell']) (by omega) (by unfold maxLen; omega) hsz8 ?_; intro v9 w9 hown9 hgrow9 hb9; obtain ⟨a9, c9, rfl⟩ := owns_slice hown9; obtain ⟨x9, f9⟩ := hkeep8.out _ hb9))
        all_goals
          have hH := Lib.hid (happ.out W8 w9 _ Hbx.out hb9 hown9)
          have hne : some w7.heap.size ≠ vc.ownBlock := fun h => by have := hownlt.out _ h.symm; omega
          have hfar : w5.heap.size ≠ w7.heap.size := by omega
          have t0 := cell_grown hgrow9 hszx hne z0
          have t1 := cell_grown hgrow9 hszx hne z1
          have t2 := cell_grown hgrow9 hszx hne z2
          have t3 := cell_grown hgrow9 hszx hne z3
          have t4 := cell_grown hgrow9 hszx hne z4
          obtain ⟨s0, s1, s2, s3, s4⟩ := five_far (k := cur) (u := .slice a9 (L.length + 1) c9) hfar t0 t1 t2 t3 t4
          have hB10 : Hid (Below w5.heap.size w5 (w9.setCell ⟨w5.heap.size, cur, none⟩ (.slice a9 (L.length + 1) c9))) :=
            ((HB.out.trans (Hbx.out.mono HB.out.size)).trans (hb9.mono (Nat.le_of_lt hgB))).setCell (Nat.le_refl _) _
          clear hown9 hgrow9 hb9 x9 f9 t0 t1 t2 t3 t4 z0 z1 z2 z3 z4 hown8 hkeep8 xG y0
          generalize (w9.setCell ⟨w5.heap.size, cur, none⟩ (.slice a9 (L.length + 1) c9)) = w10 at *
          go_wp2_with fail
          refine (CS.out _).mono ?_
          rintro e w11 ⟨rfl, hb11⟩
          have CM := Lib.hid (cmay (.slice (some ⟨w11.heap.size, 0, none⟩) 1 1) [⟨ek, ev, et, eh, eg⟩] (w11.alloc (.cells #[.int .i64 ek, .int .i64 ev, .int .i64 et, .int .i64 eh, .bool eg] 41)) (has_block (wp := w11) (cs := ents [⟨ek, ev, et, eh, eg⟩]) (heap_alloc_new _ _) rfl rfl (by decide)) HO.out (by simp))
          replace s0 := cell_on hb11 s0
          replace s1 := cell_on hb11 s1
          replace s2 := cell_on hb11 s2
          replace s3 := cell_on hb11 s3
          replace s4 := cell_on hb11 s4
          have hb12 : Below w10.heap.size w10 (w11.alloc (.cells #[.int .i64 ek, .int .i64 ev, .int .i64 et, .int .i64 eh, .bool eg] 41)) := hb11.alloc hb11.size _
          have Hb12 := Lib.hid hb12
          clear hb11 hb12 CS
          go_wp2_with fail
          refine CM.out.mono ?_
          rintro e w13 ⟨rfl, hb13⟩
          have hb14 := Hb12.out.trans (hb13.mono Hb12.out.size)
          have HF := Lib.hid (hH.out.on hb14)
          have HB14 := Lib.hid (hB10.out.trans (hb14.mono hB10.out.size))
          clear hb13 hb14 CM Hb12 hH hB10 s0 s1 s2 s3 s4 happ hown hkeep hcellG
          go_wp2_with fail
          go_roundw
          case rel => exact ⟨a2, r2, B', cur, _, HA2.out, HR2.out, HAE.out, by rw [HP2.out]; go_num, HF, HE, HB14⟩
          case measure => first | (simp [intOf]; done) | (simp [intOf]; omega)
    · obtain rfl : a = ix.length := by omega
      obtain rfl := hae rfl
      have hfin : Hid (HeardAt w wr w5.heap.size c.labs.length vs (heardL c.labs f t l)) := by
        have h1 := HH.out.same (L' := heardL c.labs f t l) (fun j => (Hend.out j).symm)
        exact ⟨h1.cells, h1.rows, h1.nil, hgw, Hb5.out.trans (HB.out.mono hgw)⟩
      have hnz : ¬ ((ix.length * 8 + 0 : Nat) : Int) < (N : Int) := by have := HN.out; omega
      obtain ⟨p, hp⟩ : ∃ p, p = ix.length * 8 + 0 := ⟨_, rfl⟩
      rw [← hp] at hnz ⊢
      have hpN : p = N := by have := HN.out; omega
      subst hpN
      clear hp hnz HH HC HB
      go_wp2_with fail
      go_ret2
      exact ⟨_, rfl, _, hfin.out⟩
end Go.Proofs.Ytngedkfljpkoiaa
