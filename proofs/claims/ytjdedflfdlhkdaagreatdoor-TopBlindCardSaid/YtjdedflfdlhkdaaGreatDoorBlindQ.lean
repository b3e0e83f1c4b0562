/- TopBlind: the law's otherwise. -/
import Derived.BigQuiet
import Derived.Test.YtjdedflfdlhkdaaGreatDoorKaa
import Derived.Test.YtjdedflfdlhkdaaGreatDoorBlindP
namespace Go.Proofs.YtjdedflfdlhkdaaGreatDoor
open Go.ChangeShapes Go.WideShapes Go.ChangeAt Go.RowKit
set_option linter.unusedVariables false

theorem owns_lower {w : World} {b b' e sz n : Nat} {v : Value} {xs : List Value} (h : w.ownsRow b e sz v n xs) (hb : b' ≤ b) : w.ownsRow b' e sz v n xs := by
  obtain ⟨hl, h | ⟨g, cap, cur, h1, h2, h3⟩⟩ := h
  · exact ⟨hl, .inl h⟩
  · exact ⟨hl, .inr ⟨g, cap, cur, h1, by omega, h3⟩⟩
theorem put_step {w : World} {base g cap N : Nat} {L : List Stp} (hN : L.length = N) (k : Nat) (hk : k < N) (p q : Stp) (h : w.ownsRow base 48 8 (.slice (some ⟨g, 0, none⟩) N cap) N (stps (L.set k p))) (j : Nat) (v : Value) (hj : j < 8) (hq : q.cells = p.cells.set j v) :
    (w.setCell ⟨g, k * 8 + j, none⟩ v).ownsRow base 48 8 (.slice (some ⟨g, 0, none⟩) N cap) N (stps (L.set k q)) ∧ Below base w (w.setCell ⟨g, k * 8 + j, none⟩ v) := by
  subst hN
  have hl : (L.set k p).length = L.length := List.length_set
  have h1 := owns_put (l := L.set k p) (by rw [hl]; exact h) k (by rw [hl]; exact hk) j v q hj (by rw [List.getElem_set_self]; exact hq)
  rw [List.set_set, hl] at h1
  exact h1
theorem box_far {w : World} {g d i : Nat} {o : Obj} {v : Value} (h : w.heap[d]? = some o) (hne : d ≠ g) : (w.setCell ⟨g, i, none⟩ v).heap[d]? = some o := by rw [Below.heap_setCell _ _ _ _ hne]; exact h
theorem stp_cells8 {w : World} {base g cap : Nat} {l : List Stp} (h : w.ownsRow base 48 8 (.slice (some ⟨g, 0, none⟩) l.length cap) l.length (stps l)) (k : Nat) (p : Stp) (hp : l[k]? = some p) :
    w.cell? ⟨g, k * 8, none⟩ = some (.int .i64 p.kind) ∧ w.cell? ⟨g, k * 8 + 1, none⟩ = some (.int .i64 p.who) ∧ w.cell? ⟨g, k * 8 + 2, none⟩ = some (.int .i64 p.item) ∧ w.cell? ⟨g, k * 8 + 3, none⟩ = some (.int .i64 p.count) ∧ w.cell? ⟨g, k * 8 + 4, none⟩ = some (.int .i64 p.life) ∧ w.cell? ⟨g, k * 8 + 5, none⟩ = some (.int .i64 p.id) ∧ w.cell? ⟨g, k * 8 + 6, none⟩ = some (.int .i64 p.label) ∧ w.cell? ⟨g, k * 8 + 7, none⟩ = some (.int .i64 p.key) := by
  have hc := (owns_cells h).1
  have hg : ∀ (l : List Stp) k (p : Stp) j, l[k]? = some p → j < 8 → (stps l)[k * 8 + j]? = p.cells[j]? := by
    intro l
    induction l with
    | nil => intro k p j h; simp at h
    | cons a t ih =>
      intro k p j h hj
      have e : stps (a :: t) = a.cells ++ stps t := by unfold stps; rw [List.flatMap_cons]
      have e8 : a.cells.length = 8 := rfl
      rw [e]
      cases k with
      | zero =>
        simp only [List.getElem?_cons_zero, Option.some.injEq] at h
        subst h
        rw [List.getElem?_append_left (by omega)]; simp
      | succ k =>
        rw [List.getElem?_cons_succ] at h
        rw [List.getElem?_append_right (by omega), e8, show (k + 1) * 8 + j - 8 = k * 8 + j by omega]
        exact ih k p j h hj
  have q : ∀ j u, j < 8 → p.cells[j]? = some u → w.cell? ⟨g, k * 8 + j, none⟩ = some u := fun j u hj hu => hc _ _ (by rw [hg l k p j hp hj]; exact hu)
  exact ⟨q 0 _ (by omega) rfl, q 1 _ (by omega) rfl, q 2 _ (by omega) rfl, q 3 _ (by omega) rfl, q 4 _ (by omega) rfl, q 5 _ (by omega) rfl, q 6 _ (by omega) rfl, q 7 _ (by omega) rfl⟩
theorem put_cells8 {w : World} {base g cap N : Nat} {L : List Stp} (hN : L.length = N) (k : Nat) (hk : k < N) {a0 a1 a2 a3 a4 a5 a6 a7 : Int} (h : w.ownsRow base 48 8 (.slice (some ⟨g, 0, none⟩) N cap) N (stps (L.set k ⟨a0, a1, a2, a3, a4, a5, a6, a7⟩))) :
    w.cell? ⟨g, k * 8, none⟩ = some (.int .i64 a0) ∧ w.cell? ⟨g, k * 8 + 1, none⟩ = some (.int .i64 a1) ∧ w.cell? ⟨g, k * 8 + 2, none⟩ = some (.int .i64 a2) ∧ w.cell? ⟨g, k * 8 + 3, none⟩ = some (.int .i64 a3) ∧ w.cell? ⟨g, k * 8 + 4, none⟩ = some (.int .i64 a4) ∧ w.cell? ⟨g, k * 8 + 5, none⟩ = some (.int .i64 a5) ∧ w.cell? ⟨g, k * 8 + 6, none⟩ = some (.int .i64 a6) ∧ w.cell? ⟨g, k * 8 + 7, none⟩ = some (.int .i64 a7) := by
  subst hN
  have hl : (L.set k ⟨a0, a1, a2, a3, a4, a5, a6, a7⟩).length = L.length := List.length_set
  exact stp_cells8 (l := L.set k ⟨a0, a1, a2, a3, a4, a5, a6, a7⟩) (by rw [hl]; exact h) k ⟨a0, a1, a2, a3, a4, a5, a6, a7⟩ (List.getElem?_set_self hk)
set_option maxRecDepth 100000 in
set_option maxHeartbeats 16000000 in
theorem cotherwise {w : World} {c : Cfg} {gl cl : Nat} {vm : Value} (hcfg : CfgAt w c (.slice (some ⟨gl, 0, none⟩) 3 cl) vm) (hlt : gl < w.heap.size) (h16 : ∀ x ∈ c.labs, x < 16) (hl3 : c.labs.length = 3) (S O : List Stp) (v ov : Value) (hv : Has w 8 v S.length (stps S)) (ho : Has w 8 ov O.length (stps O)) (hS : ∀ p ∈ S, LawStp p) (hlen : S.length ≤ 300) (X : Nat) (hX : X < 16) :
    Calls Tryz.prog 27 #[.agg (c.cells (.slice (some ⟨gl, 0, none⟩) 3 cl) vm), v, .int .i64 (X : Int), ov] w fun e w' => ∃ v', e = .returned v' ∧ w'.ownsRow w.heap.size 48 8 v' S.length (stps (othN c X S O S.length)) ∧ Below w.heap.size w w' := by
  have h0 := heap_alloc_new w (.cells (c.cells (.slice (some ⟨gl, 0, none⟩) 3 cl) vm) 25)
  have hbx := cfg_box w c (.slice (some ⟨gl, 0, none⟩) 3 cl) vm
  have HV := Lib.hid (hv.below hbx)
  have HOV := Lib.hid (ho.below hbx)
  have HCF := Lib.hid (hcfg.on hbx)
  have HS := Lib.hid hS
  have H16 := Lib.hid h16
  have HL3 := Lib.hid hl3
  have Hbx := Lib.hid hbx
  have hszx : w.heap.size < (w.alloc (.cells (c.cells (.slice (some ⟨gl, 0, none⟩) 3 cl) vm) 25)).heap.size := by simp
  obtain ⟨_, oa, oc, rfl, hoc1, hoc2, _⟩ := ho
  unfold maxLen at hoc2
  unfold Cfg.cells at h0 HV HOV HCF Hbx hszx
  unfold Cfg.cells
  obtain ⟨⟨x0, x1, x2, x3, x4⟩, -⟩ := five_at h0
  have CPV : Hid (∀ (Y : World), Below (w.alloc (.cells #[.int .i64 c.n, .slice (some ⟨gl, 0, none⟩) 3 cl, .int .i64 c.ticks, vm, .int .i64 c.cap] 25)).heap.size (w.alloc (.cells #[.int .i64 c.n, .slice (some ⟨gl, 0, none⟩) 3 cl, .int .i64 c.ticks, vm, .int .i64 c.cap] 25)) Y → ∀ p, LawStp p → _) := fun Y hY p hp => cprivate (HCF.out.on hY) (Nat.lt_of_lt_of_le hlt (Nat.le_trans (Nat.le_of_lt hszx) hY.size)) H16.out HL3.out p hp X hX
  unfold Cfg.cells at CPV
  clear hcfg hbx hv hS h16 hl3 h0 HCF
  go_enter Tryz.func27, Tryz.ntmps27
  go_upto_region 1 with (fail)
  generalize (w.alloc (.cells #[.int .i64 c.n, .slice (some ⟨gl, 0, none⟩) 3 cl, .int .i64 c.ticks, vm, .int .i64 c.cap] 25)) = wB at *
  obtain ⟨B, hB⟩ : ∃ z, z = w.heap.size := ⟨_, rfl⟩
  have HBq := Lib.hid hB
  rw [← hB] at Hbx hszx x0 x1 x2 x3 x4 ⊢
  clear hB
  have H1 := Lib.hid (stps_all S)
  have hszB : wB.heap.size ≤ wB.heap.size := Nat.le_refl _
  go_upto_region 2 with ((refine wp_appN (w0 := wB) 27 48 8 64 _ elStep Tryz.underlying27 wB.heap.size _ _ _ (World.ownsRow_nil _ _ _ _) (by repeat (first | exact Below.refl _ _ | refine Below.drew ?_ | refine Below.alloc ?_ (by first | (simp; done) | (simp; omega)) _ | refine Below.setCell ?_ (by first | (simp; done) | (simp; omega)) _)) _ _ _ HV.out rfl _ _ rfl rfl rfl H1.out (by omega) (by unfold maxLen; omega) (Nat.le_refl _) ?_; intro v2 w2 hown2 hgrow2 hb2))
  rw [List.nil_append, Nat.zero_add] at hown2
  obtain ⟨a2, c2, rfl⟩ := owns_slice hown2
  have HO2 := Lib.hid hown2
  have HB2 := Lib.hid hb2
  have hc2 : S.length ≤ c2 ∧ c2 ≤ 9223372036854775807 := by
    obtain ⟨_, _, _, he, h1, h2, _⟩ := Has.of_owns hown2
    simp only [Value.slice.injEq] at he
    obtain ⟨-, -, rfl⟩ := he
    exact ⟨h1, h2⟩
  have hsome : Hid (0 < S.length → ∃ g, a2 = some ⟨g, 0, none⟩) := fun h => by
    rcases hown2.2 with ⟨he, h0⟩ | ⟨g, cap, cur, he, -, -, -⟩
    · omega
    · simp only [Value.slice.injEq] at he
      exact ⟨g, he.1⟩
  clear hown2 hb2 hgrow2 HV H1 hszB
  go_wp2_with fail
  go_loopw [10] (fun i wr => ∃ k : Nat, k ≤ S.length ∧ i = .int .i64 (k : Int) ∧ Hid (wr.ownsRow wB.heap.size 48 8 (.slice a2 S.length c2) S.length (stps (othN c X S O k))) ∧ Hid (Below wB.heap.size wB wr)) (fun i _ => S.length - (intOf i).toNat)
  case atStart => exact ⟨0, by omega, rfl, HO2.out, HB2.out⟩
  case round =>
    clear HO2 HB2
    obtain ⟨k, hk, rfl, HO, HB⟩ := hrel
    by_cases hlt1 : k < S.length ∧ k < O.length
    · obtain ⟨hltS, hltO⟩ := hlt1
      have hltz : (k : Int) < (S.length : Int) := by omega
      have hltz2 : (k : Int) < (O.length : Int) := by omega
      obtain ⟨g, rfl⟩ := hsome.out (by omega)
      have hlenO := othN_len c X S O k
      have hgk : (othN c X S O k)[k]? = some (S[k]'hltS) := by rw [othN_get c X S O k k (Nat.le_refl _)]; exact List.getElem?_eq_getElem hltS
      have hnx : othN c X S O (k + 1) = if privB c X (S[k]'hltS) = true then (othN c X S O k).set k (altS (S[k]'hltS) (O[k]'hltO)) else othN c X S O k := by
        conv => lhs; unfold othN
        rw [dif_pos ⟨hltS, hltO⟩]
      have hpk := HS.out _ (List.getElem_mem hltS)
      have HO' : Hid (wr.ownsRow wB.heap.size 48 8 (.slice (some ⟨g, 0, none⟩) (othN c X S O k).length c2) (othN c X S O k).length (stps (othN c X S O k))) := by rw [hlenO]; exact HO.out
      obtain ⟨y0, y1, y2, y3, y4, y5, y6, y7⟩ := stp_cells8 HO'.out k _ hgk
      have CPk : Hid (∀ X' : Ext wr, Calls Tryz.prog 40 #[.agg #[.int .i64 c.n, .slice (some ⟨gl, 0, none⟩) 3 cl, .int .i64 c.ticks, vm, .int .i64 c.cap], .agg #[.int .i64 (S[k]'hltS).kind, .int .i64 (S[k]'hltS).who, .int .i64 (S[k]'hltS).item, .int .i64 (S[k]'hltS).count, .int .i64 (S[k]'hltS).life, .int .i64 (S[k]'hltS).id, .int .i64 (S[k]'hltS).label, .int .i64 (S[k]'hltS).key], .int .i64 (X : Int)] X'.1 fun e w' => e = .returned (.bool (privB c X (S[k]'hltS))) ∧ Below X'.1.heap.size X'.1 w') := fun X' => CPV.out X'.1 (HB.out.trans (X'.2.mono HB.out.size)) _ hpk
      have HPK := Lib.hid hpk
      have HGK := Lib.hid hgk
      have HNX := Lib.hid hnx
      have HLO := Lib.hid hlenO
      have HODo := Lib.hid (stp_get (HOV.out.below HB.out) k hltO)
      have q0 := ext_cell (cell_on HB.out x0)
      have q1 := ext_cell (cell_on HB.out x1)
      have q2 := ext_cell (cell_on HB.out x2)
      have q3 := ext_cell (cell_on HB.out x3)
      have q4 := ext_cell (cell_on HB.out x4)
      have p0 := ext_cell y0
      have p1 := ext_cell y1
      have p2 := ext_cell y2
      have p3 := ext_cell y3
      have p4 := ext_cell y4
      have p5 := ext_cell y5
      have p6 := ext_cell y6
      have p7 := ext_cell y7
      have HK := Lib.hid hltS
      have Hy0 := Lib.hid y0
      clear hpk hgk hnx hlenO y0 y1 y2 y3 y4 y5 y6 y7 x0 x1 x2 x3 x4
      generalize hSk : S[k]'hltS = sk at *
      generalize hOk : O[k]'hltO = ok at *
      obtain ⟨kd, wh, im, ct, lf, id', lbl, ky⟩ := sk
      obtain ⟨dk, d1, d2, d3, d4, d5, d6, d7⟩ := ok
      simp only at CPk HNX HODo Hy0 p0 p1 p2 p3 p4 p5 p6 p7
      obtain ⟨ob, oo, ocap, he, -, -, e0, e1, e2, e3, e4, e5, e6, e7⟩ := HODo.out
      simp only [Value.slice.injEq] at he
      obtain ⟨rfl, -, rfl⟩ := he
      clear HODo hSk hOk hsome HS HOV
      cases hpv : privB c X ⟨kd, wh, im, ct, lf, id', lbl, ky⟩ with
      | false =>
        rw [hpv] at CPk HNX
        simp only [Bool.false_eq_true, ↓reduceIte] at HNX
        clear e0 e1 e2 e3 e4 e5 e6 e7
        go_upto_region 5 with (fail)
        refine wp_region_grow (by kernel_rfl) (by kernel_rfl) ?_
        repeat (go_big_quiet_step ((go_at_call 40; with_reducible exact grow_of (CPk.out _))))
        refine wpQuiet_nil ?_
        intro w5 hb5
        have HO5 := Lib.hid (owns_below HO.out hb5)
        have HB5 := Lib.hid (HB.out.trans (hb5.mono HB.out.size))
        clear hb5 CPk q0 q1 q2 q3 q4 p0 p1 p2 p3 p4 p5 p6 p7
        go_wp2_with fail
        go_roundw
        case rel => exact ⟨k + 1, HK.out, by go_num, by show World.ownsRow _ _ _ _ _ _ _; rw [HNX.out]; exact HO5.out, HB5.out⟩
        case measure => have := HK.out; first | (simp [intOf]; done) | (simp [intOf]; omega)
      | true =>
        rw [hpv] at CPk HNX
        simp only [↓reduceIte] at HNX
        go_upto_region 5 with (fail)
        refine wp_region_grow (by kernel_rfl) (by kernel_rfl) ?_
        repeat (go_big_quiet_step ((go_at_call 40; with_reducible exact grow_of (CPk.out _))))
        refine wpQuiet_nil ?_
        intro w5 hb5
        have HO5 := Lib.hid (owns_below HO'.out hb5)
        have HB5 := Lib.hid (HB.out.trans (hb5.mono HB.out.size))
        have y0 := cell_on hb5 Hy0.out
        replace e0 := cell_on hb5 e0
        replace e1 := cell_on hb5 e1
        replace e2 := cell_on hb5 e2
        replace e3 := cell_on hb5 e3
        replace e4 := cell_on hb5 e4
        replace e5 := cell_on hb5 e5
        replace e6 := cell_on hb5 e6
        replace e7 := cell_on hb5 e7
        clear hb5 CPk q0 q1 q2 q3 q4 p0 p1 p2 p3 p4 p5 p6 p7 HO HB Hy0
        have hD0 : (w5.alloc (.cells #[.int .i64 dk, .int .i64 d1, .int .i64 d2, .int .i64 d3, .int .i64 d4, .int .i64 d5, .int .i64 d6, .int .i64 d7] 73)).heap[w5.heap.size]? = some (.cells #[.int .i64 dk, .int .i64 d1, .int .i64 d2, .int .i64 d3, .int .i64 d4, .int .i64 d5, .int .i64 d6, .int .i64 d7] 73 (0, 0)) := heap_alloc_new _ _
        have hb6 : Below w5.heap.size w5 (w5.alloc (.cells #[.int .i64 dk, .int .i64 d1, .int .i64 d2, .int .i64 d3, .int .i64 d4, .int .i64 d5, .int .i64 d6, .int .i64 d7] 73)) := (Below.refl _ _).alloc (Nat.le_refl _) _
        go_upto_region 7 with (fail)
        generalize (w5.alloc (.cells #[.int .i64 dk, .int .i64 d1, .int .i64 d2, .int .i64 d3, .int .i64 d4, .int .i64 d5, .int .i64 d6, .int .i64 d7] 73)) = w6 at *
        have hO0 := owns_below HO5.out hb6
        have HNE : Hid (w5.heap.size ≠ g) := by
          have h1 : g < w5.heap.size := (owns_block_of HO5.out rfl).2.1
          show _ ≠ _
          omega
        have hB0 := Lib.hid (HB5.out.trans (hb6.mono HB5.out.size))
        replace y0 := cell_on hb6 y0
        obtain ⟨e0, e1, e2, e3, e4, e5, e6, e7⟩ := eight_at hD0
        have hset : (othN c X S O k).set k ⟨kd, wh, im, ct, lf, id', lbl, ky⟩ = othN c X S O k := by
          apply List.ext_getElem?
          intro i
          by_cases e : k = i
          · subst e; rw [List.getElem?_set_self (by rw [HLO.out]; exact HK.out)]; exact HGK.out.symm
          · rw [List.getElem?_set_ne e]
        rw [HLO.out] at hO0
        rw [← hset] at hO0
        clear hset hb6 HO5 HB5
        obtain ⟨BD, hBD⟩ : ∃ z, z = w5.heap.size := ⟨_, rfl⟩
        rw [← hBD] at hD0 HNE e0 e1 e2 e3 e4 e5 e6 e7 ⊢
        clear hBD
        by_cases h78 : kd = 7 ∨ kd = 8
        · have HNX2 : Hid (othN c X S O (k + 1) = (othN c X S O k).set k ⟨7 + pick dk 2, wh, im, d3, lf, id', lbl, d7⟩) := by
            show _ = _
            rw [HNX.out]; unfold altS; rw [if_pos h78]
          clear HNX
          have HNX := Lib.hid HNX2.out
          clear HNX2
          rcases h78 with rfl | rfl
          all_goals
            go_upto_region 8 with (fail)
            have PK := Lib.hid fun X => picked dk 2 (by omega) (by omega) X
            have hb2 := pick_bd dk 2 (by omega)
            have hw2 : IntKind.i64.wrap (7 + pick dk 2) = 7 + pick dk 2 := IntWalk.i64_in _ (by omega)
            have fz := (owns_cells hO0).2.1
            obtain ⟨y0, y1, y2, y3, y4, y5, y6, y7⟩ := put_cells8 HLO.out k HK.out hO0
            have fz0 := fz (k * 8)
            go_upto_region 9 with (go_at_call 18; refine (PK.out _).mono ?_; rintro e w' ⟨rfl, rfl⟩)
            have hp1 := put_step HLO.out k HK.out _ (⟨(7 + pick dk 2), wh, im, ct, lf, id', lbl, ky⟩ : Stp) hO0 0 (.int .i64 (7 + pick dk 2)) (by decide) rfl
            have hD1 := box_far (g := g) (i := k * 8) (v := (.int .i64 (7 + pick dk 2))) hD0 HNE.out
            rw [Nat.add_zero] at hp1
            generalize (w6.setCell ⟨g, k * 8, none⟩ (.int .i64 (7 + pick dk 2))) = w7 at *
            have hO1 := hp1.1
            have hb1 := hB0.out.trans hp1.2
            have hB1 := Lib.hid hb1
            obtain ⟨e0, e1, e2, e3, e4, e5, e6, e7⟩ := eight_at hD1
            have fz := (owns_cells hO1).2.1
            clear hp1 hb1 hO0 hD0 hB0
            obtain ⟨y0, y1, y2, y3, y4, y5, y6, y7⟩ := put_cells8 HLO.out k HK.out hO1
            have fz7 := fz (k * 8 + 7)
            go_upto_region 10 with (fail)
            have hp2 := put_step HLO.out k HK.out _ (⟨(7 + pick dk 2), wh, im, ct, lf, id', lbl, d7⟩ : Stp) hO1 7 (.int .i64 d7) (by decide) rfl
            have hD2 := box_far (g := g) (i := k * 8 + 7) (v := (.int .i64 d7)) hD1 HNE.out
            generalize (w7.setCell ⟨g, k * 8 + 7, none⟩ (.int .i64 d7)) = w8 at *
            have hO2 := hp2.1
            have hb2 := hB1.out.trans hp2.2
            have hB2 := Lib.hid hb2
            obtain ⟨e0, e1, e2, e3, e4, e5, e6, e7⟩ := eight_at hD2
            have fz := (owns_cells hO2).2.1
            clear hp2 hb2 hO1 hD1 hB1
            obtain ⟨y0, y1, y2, y3, y4, y5, y6, y7⟩ := put_cells8 HLO.out k HK.out hO2
            have fz3 := fz (k * 8 + 3)
            have hp3 := put_step HLO.out k HK.out _ (⟨(7 + pick dk 2), wh, im, d3, lf, id', lbl, d7⟩ : Stp) hO2 3 (.int .i64 d3) (by decide) rfl
            have hO3 := Lib.hid hp3.1
            have hB3 := Lib.hid (hB2.out.trans hp3.2)
            clear hp3 hO2 hD2 hB2
            go_wp2_with fail
            go_roundw
            case rel => exact ⟨k + 1, HK.out, by go_num, by show World.ownsRow _ _ _ _ _ _ _; rw [HNX.out]; exact hO3.out, hB3.out⟩
            case measure => have := HK.out; first | (simp [intOf]; done) | (simp [intOf]; omega)
        · have HNX2 : Hid (othN c X S O (k + 1) = (othN c X S O k).set k ⟨1 + pick dk 6, wh, pick d2 3, d3, d4, d5, lbl, ky⟩) := by
            show _ = _
            rw [HNX.out]; unfold altS; rw [if_neg h78]
          clear HNX
          have HNX := Lib.hid HNX2.out
          clear HNX2
          have h7b : (kd == 7) = false := by rw [beq_eq_false_iff_ne]; omega
          have h8b : (kd == 8) = false := by rw [beq_eq_false_iff_ne]; omega
          clear h78
          go_upto_region 11 with (fail)
          have PK := Lib.hid fun X => picked dk 6 (by omega) (by omega) X
          have PI := Lib.hid fun X => picked d2 3 (by omega) (by omega) X
          have hb2 := pick_bd dk 6 (by omega)
          have hw2 : IntKind.i64.wrap (1 + pick dk 6) = 1 + pick dk 6 := IntWalk.i64_in _ (by omega)
          have fz := (owns_cells hO0).2.1
          obtain ⟨y0, y1, y2, y3, y4, y5, y6, y7⟩ := put_cells8 HLO.out k HK.out hO0
          have fz0 := fz (k * 8)
          go_upto_region 12 with (go_at_call 18; refine (PK.out _).mono ?_; rintro e w' ⟨rfl, rfl⟩)
          have hp1 := put_step HLO.out k HK.out _ (⟨(1 + pick dk 6), wh, im, ct, lf, id', lbl, ky⟩ : Stp) hO0 0 (.int .i64 (1 + pick dk 6)) (by decide) rfl
          have hD1 := box_far (g := g) (i := k * 8) (v := (.int .i64 (1 + pick dk 6))) hD0 HNE.out
          rw [Nat.add_zero] at hp1
          generalize (w6.setCell ⟨g, k * 8, none⟩ (.int .i64 (1 + pick dk 6))) = w7 at *
          have hO1 := hp1.1
          have hb1 := hB0.out.trans hp1.2
          have hB1 := Lib.hid hb1
          obtain ⟨e0, e1, e2, e3, e4, e5, e6, e7⟩ := eight_at hD1
          have fz := (owns_cells hO1).2.1
          clear hp1 hb1 hO0 hD0 hB0
          obtain ⟨y0, y1, y2, y3, y4, y5, y6, y7⟩ := put_cells8 HLO.out k HK.out hO1
          have fz2 := fz (k * 8 + 2)
          go_upto_region 13 with (go_at_call 18; refine (PI.out _).mono ?_; rintro e w' ⟨rfl, rfl⟩)
          have hp2 := put_step HLO.out k HK.out _ (⟨(1 + pick dk 6), wh, (pick d2 3), ct, lf, id', lbl, ky⟩ : Stp) hO1 2 (.int .i64 (pick d2 3)) (by decide) rfl
          have hD2 := box_far (g := g) (i := k * 8 + 2) (v := (.int .i64 (pick d2 3))) hD1 HNE.out
          generalize (w7.setCell ⟨g, k * 8 + 2, none⟩ (.int .i64 (pick d2 3))) = w8 at *
          have hO2 := hp2.1
          have hb2 := hB1.out.trans hp2.2
          have hB2 := Lib.hid hb2
          obtain ⟨e0, e1, e2, e3, e4, e5, e6, e7⟩ := eight_at hD2
          have fz := (owns_cells hO2).2.1
          clear hp2 hb2 hO1 hD1 hB1
          obtain ⟨y0, y1, y2, y3, y4, y5, y6, y7⟩ := put_cells8 HLO.out k HK.out hO2
          have fz3 := fz (k * 8 + 3)
          go_upto_region 14 with (fail)
          have hp3 := put_step HLO.out k HK.out _ (⟨(1 + pick dk 6), wh, (pick d2 3), d3, lf, id', lbl, ky⟩ : Stp) hO2 3 (.int .i64 d3) (by decide) rfl
          have hD3 := box_far (g := g) (i := k * 8 + 3) (v := (.int .i64 d3)) hD2 HNE.out
          generalize (w8.setCell ⟨g, k * 8 + 3, none⟩ (.int .i64 d3)) = w9 at *
          have hO3 := hp3.1
          have hb3 := hB2.out.trans hp3.2
          have hB3 := Lib.hid hb3
          obtain ⟨e0, e1, e2, e3, e4, e5, e6, e7⟩ := eight_at hD3
          have fz := (owns_cells hO3).2.1
          clear hp3 hb3 hO2 hD2 hB2
          obtain ⟨y0, y1, y2, y3, y4, y5, y6, y7⟩ := put_cells8 HLO.out k HK.out hO3
          have fz4 := fz (k * 8 + 4)
          go_upto_region 15 with (fail)
          have hp4 := put_step HLO.out k HK.out _ (⟨(1 + pick dk 6), wh, (pick d2 3), d3, d4, id', lbl, ky⟩ : Stp) hO3 4 (.int .i64 d4) (by decide) rfl
          have hD4 := box_far (g := g) (i := k * 8 + 4) (v := (.int .i64 d4)) hD3 HNE.out
          generalize (w9.setCell ⟨g, k * 8 + 4, none⟩ (.int .i64 d4)) = w10 at *
          have hO4 := hp4.1
          have hb4 := hB3.out.trans hp4.2
          have hB4 := Lib.hid hb4
          obtain ⟨e0, e1, e2, e3, e4, e5, e6, e7⟩ := eight_at hD4
          have fz := (owns_cells hO4).2.1
          clear hp4 hb4 hO3 hD3 hB3
          obtain ⟨y0, y1, y2, y3, y4, y5, y6, y7⟩ := put_cells8 HLO.out k HK.out hO4
          have fz5 := fz (k * 8 + 5)
          have hp5 := put_step HLO.out k HK.out _ (⟨(1 + pick dk 6), wh, (pick d2 3), d3, d4, d5, lbl, ky⟩ : Stp) hO4 5 (.int .i64 d5) (by decide) rfl
          have hO5 := Lib.hid hp5.1
          have hB5 := Lib.hid (hB4.out.trans hp5.2)
          clear hp5 hO4 hD4 hB4
          go_wp2_with fail
          go_roundw
          case rel => exact ⟨k + 1, HK.out, by go_num, by show World.ownsRow _ _ _ _ _ _ _; rw [HNX.out]; exact hO5.out, hB5.out⟩
          case measure => have := HK.out; first | (simp [intOf]; done) | (simp [intOf]; omega)
    · have HFO : Hid (wr.ownsRow B 48 8 (.slice a2 S.length c2) S.length (stps (othN c X S O S.length))) := by
        have e : othN c X S O S.length = othN c X S O k := by
          have : ∀ d, k + d ≤ S.length → othN c X S O (k + d) = othN c X S O k := by
            intro d
            induction d with
            | zero => intro _; rfl
            | succ d ih =>
              intro h
              rw [← ih (by omega)]
              show othN c X S O (k + d + 1) = _
              conv => lhs; unfold othN
              rw [dif_neg (by omega)]
          have h := this (S.length - k) (by omega)
          rw [show k + (S.length - k) = S.length by omega] at h
          exact h
        rw [e]
        exact owns_lower HO.out (by omega)
      have HFB : Hid (Below B w wr) := Hbx.out.trans (HB.out.mono (by omega))
      have hbq := HBq.out
      subst hbq
      by_cases hS1 : k < S.length
      · have hO1 : ¬ k < O.length := fun h => hlt1 ⟨hS1, h⟩
        have hltz : (k : Int) < (S.length : Int) := by omega
        have hltz2 : ¬ (k : Int) < (O.length : Int) := by omega
        clear hlt1 HO HB
        go_wp2_with fail
        go_ret
        exact ⟨_, rfl, HFO.out, HFB.out⟩
      · obtain rfl : k = S.length := by omega
        clear hlt1 HO HB
        go_wp2_with fail
        go_ret
        exact ⟨_, rfl, HFO.out, HFB.out⟩
end Go.Proofs.YtjdedflfdlhkdaaGreatDoor
