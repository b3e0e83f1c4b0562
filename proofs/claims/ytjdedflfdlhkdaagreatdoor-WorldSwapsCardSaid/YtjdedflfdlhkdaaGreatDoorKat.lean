/- Texts that the claim imports, laid together: WEnt WCli WStepA. No statement of their own. -/
import Derived.Test.YtjdedflfdlhkdaaGreatDoorKam
import Derived.Test.YtjdedflfdlhkdaaGreatDoorKan
import Derived.Test.YtjdedflfdlhkdaaGreatDoorKar
import Derived.Test.YtjdedflfdlhkdaaGreatDoorKas
namespace Go.Proofs.YtjdedflfdlhkdaaGreatDoor
open Go.ChangeShapes Go.WideShapes Go.ChangeAt Go.RowKit
set_option linter.unusedVariables false
set_option linter.unusedSimpArgs false

set_option maxRecDepth 100000 in
set_option maxHeartbeats 8000000 in
theorem cEntry {w : World} {c : Cfg} {X : Adr} {own : Own} {N K : Nat} {s : Wld} (hc : c.Ok) (h : WAt w c X own N s) (hok : WOk c K s) (hK : K + 1 ≤ 1048576) (i : Nat) (hi : i < c.n) (p : Stp) (hw : p.who = i) (hkd : p.kind = 7 ∨ p.kind = 8) :
    Calls Tryz.prog 75 #[.pointer (some ⟨X.W, 0, none⟩), .pointer (some ⟨X.B i, 0, none⟩), p.val] w (Stepped w c X own N (s.entry c i p)) := by
  obtain ⟨kind, who, item, count, life, id, label, key⟩ := p
  simp only at hw hkd
  subst hw
  obtain ⟨g1, m1, m2⟩ := boxed h (.int .i64 kind) (.int .i64 i) (.int .i64 item) (.int .i64 count) (.int .i64 life) (.int .i64 id) (.int .i64 label) (.int .i64 key)
  have G := Lib.hid g1
  have M1 := Lib.hid m1
  have M2 := Lib.hid m2
  have HC := Lib.hid hc
  have HOK := Lib.hid hok
  have HI := Lib.hid hi
  have hdef : Hid (s.entry c i ⟨kind, i, item, count, life, id, label, key⟩ = if badE c.labs.length kind label key count then (noT 2, s) else if lb c.labs label.toNat i = false then (noT 11, s) else if kind = 7 then (noT 0, { s with st := upd2 s.st i label.toNat (mergeL (s.st i label.toNat) [⟨key, count, maxT (s.st i label.toNat) + 1, i, false⟩]) }) else if liveK (s.st i label.toNat) key = true then ({ noT 0 with value := valK (s.st i label.toNat) key }, s) else (noT 6, s)) := by
    show _ = _
    unfold Wld.entry badE; rfl
  unfold Stp.val Stp.cells
  simp only
  clear g1 m1 m2 hok
  go_enter Tryz.func75, Tryz.ntmps75
  go_upto_region 1 with (fail)
  generalize ((w.alloc (.cells #[.int .i64 kind, .int .i64 i, .int .i64 item, .int .i64 count, .int .i64 life, .int .i64 id, .int .i64 label, .int .i64 key] 48)).alloc (.cells #[.int .i64 0, .int .i64 0, .int .i64 0, .int .i64 0, .int .i64 0, .int .i64 0, .int .i64 0, .int .i64 0, .slice none 0 0, .slice none 0 0, .slice none 0 0] 57)) = W at *
  obtain ⟨x0, x1, x2, x3, x4, x5, x6, x7, x8⟩ := G.out.at'.head
  obtain ⟨k0, k1, k2, k3, k4, k5, k6, k7⟩ := eight_at M1.out.hb
  obtain ⟨_, al, cl, hvl, hcl1, hcl2, _⟩ := G.out.at'.fix.cfg.hl
  unfold maxLen at hcl2
  rw [hvl] at x1
  have HVL := Lib.hid hvl
  clear hvl
  go_cut [9] (fun v wx => v = .bool (decide (badE c.labs.length kind label key count)) ∧ Hid (Below W.heap.size W wx))
  case first =>
    have p0 := ext_cell k0
    have p3 := ext_cell k3
    have p6 := ext_cell k6
    have p7 := ext_cell k7
    have y1 := ext_cell x1
    have fin : ∀ b, decide (badE c.labs.length kind label key count) = b → Hid (b = decide (badE c.labs.length kind label key count)) := fun b hb => hb.symm
    by_cases a0 : label < 0
    · skip
      have e1 : (label < 0) = True := eq_true (by omega)
      have hbd := fin true (decide_eq_true (by unfold badE; omega))
      clear a0
      refine wp_region_grow (by kernel_rfl) (by kernel_rfl) ?_
      repeat (go_big_quiet_step (fail))
      refine wpQuiet_nil ?_
      intro W2 hb2
      go_wp2_with fail
      go_meet
      exact ⟨by rw [← hbd.out], hb2⟩
    · skip
      by_cases a1 : (c.labs.length : Int) ≤ label
      · skip
        have e1 : (label < 0) = False := eq_false (by omega)
        have e2 : ((c.labs.length : Int) ≤ label) = True := eq_true (by omega)
        have hbd := fin true (decide_eq_true (by unfold badE; omega))
        clear a0 a1
        refine wp_region_grow (by kernel_rfl) (by kernel_rfl) ?_
        repeat (go_big_quiet_step (fail))
        refine wpQuiet_nil ?_
        intro W2 hb2
        go_wp2_with fail
        go_meet
        exact ⟨by rw [← hbd.out], hb2⟩
      · skip
        by_cases a2 : key < 0
        · skip
          have e1 : (label < 0) = False := eq_false (by omega)
          have e2 : ((c.labs.length : Int) ≤ label) = False := eq_false (by omega)
          have e3 : (key < 0) = True := eq_true (by omega)
          have hbd := fin true (decide_eq_true (by unfold badE; omega))
          clear a0 a1 a2
          refine wp_region_grow (by kernel_rfl) (by kernel_rfl) ?_
          repeat (go_big_quiet_step (fail))
          refine wpQuiet_nil ?_
          intro W2 hb2
          go_wp2_with fail
          go_meet
          exact ⟨by rw [← hbd.out], hb2⟩
        · skip
          by_cases a3 : 8 ≤ key
          · skip
            have e1 : (label < 0) = False := eq_false (by omega)
            have e2 : ((c.labs.length : Int) ≤ label) = False := eq_false (by omega)
            have e3 : (key < 0) = False := eq_false (by omega)
            have e4 : (8 ≤ key) = True := eq_true (by omega)
            have hbd := fin true (decide_eq_true (by unfold badE; omega))
            clear a0 a1 a2 a3
            refine wp_region_grow (by kernel_rfl) (by kernel_rfl) ?_
            repeat (go_big_quiet_step (fail))
            refine wpQuiet_nil ?_
            intro W2 hb2
            go_wp2_with fail
            go_meet
            exact ⟨by rw [← hbd.out], hb2⟩
          · skip
            by_cases a4 : kind = 7
            · have e5 : (kind == 7) = true := by rw [a4]; rfl
              by_cases a5 : count < 0
              · skip
                have e1 : (label < 0) = False := eq_false (by omega)
                have e2 : ((c.labs.length : Int) ≤ label) = False := eq_false (by omega)
                have e3 : (key < 0) = False := eq_false (by omega)
                have e4 : (8 ≤ key) = False := eq_false (by omega)
                have e6 : (count < 0) = True := eq_true (by omega)
                have hbd := fin true (decide_eq_true (by unfold badE; omega))
                clear a0 a1 a2 a3 a4 a5
                refine wp_region_grow (by kernel_rfl) (by kernel_rfl) ?_
                repeat (go_big_quiet_step (fail))
                refine wpQuiet_nil ?_
                intro W2 hb2
                go_wp2_with fail
                go_meet
                exact ⟨by rw [← hbd.out], hb2⟩
              · skip
                by_cases a6 : 255 < count
                · skip
                  have e1 : (label < 0) = False := eq_false (by omega)
                  have e2 : ((c.labs.length : Int) ≤ label) = False := eq_false (by omega)
                  have e3 : (key < 0) = False := eq_false (by omega)
                  have e4 : (8 ≤ key) = False := eq_false (by omega)
                  have e6 : (count < 0) = False := eq_false (by omega)
                  have e7 : (255 < count) = True := eq_true (by omega)
                  have hbd := fin true (decide_eq_true (by unfold badE; omega))
                  clear a0 a1 a2 a3 a4 a5 a6
                  refine wp_region_grow (by kernel_rfl) (by kernel_rfl) ?_
                  repeat (go_big_quiet_step (fail))
                  refine wpQuiet_nil ?_
                  intro W2 hb2
                  go_wp2_with fail
                  go_meet
                  exact ⟨by rw [← hbd.out], hb2⟩
                · skip
                  have e1 : (label < 0) = False := eq_false (by omega)
                  have e2 : ((c.labs.length : Int) ≤ label) = False := eq_false (by omega)
                  have e3 : (key < 0) = False := eq_false (by omega)
                  have e4 : (8 ≤ key) = False := eq_false (by omega)
                  have e6 : (count < 0) = False := eq_false (by omega)
                  have e7 : (255 < count) = False := eq_false (by omega)
                  have hbd := fin false (decide_eq_false (by unfold badE; omega))
                  clear a0 a1 a2 a3 a4 a5 a6
                  refine wp_region_grow (by kernel_rfl) (by kernel_rfl) ?_
                  repeat (go_big_quiet_step (fail))
                  refine wpQuiet_nil ?_
                  intro W2 hb2
                  go_wp2_with fail
                  go_meet
                  exact ⟨by rw [← hbd.out], hb2⟩
            · skip
              have e1 : (label < 0) = False := eq_false (by omega)
              have e2 : ((c.labs.length : Int) ≤ label) = False := eq_false (by omega)
              have e3 : (key < 0) = False := eq_false (by omega)
              have e4 : (8 ≤ key) = False := eq_false (by omega)
              have e5 : (kind == 7) = false := by rw [beq_eq_false_iff_ne]; exact a4
              have hbd := fin false (decide_eq_false (by unfold badE; omega))
              clear a0 a1 a2 a3 a4
              refine wp_region_grow (by kernel_rfl) (by kernel_rfl) ?_
              repeat (go_big_quiet_step (fail))
              refine wpQuiet_nil ?_
              intro W2 hb2
              go_wp2_with fail
              go_meet
              exact ⟨by rw [← hbd.out], hb2⟩
  case rest =>
  obtain ⟨rfl, B2⟩ := hcut
  have G2 := Lib.hid (G.out.on B2.out)
  have M12 := Lib.hid (M1.out.on B2.out)
  have M22 := Lib.hid (M2.out.on B2.out)
  clear x0 x1 x2 x3 x4 x5 x6 x7 x8 k0 k1 k2 k3 k4 k5 k6 k7 B2 G M1 M2
  by_cases hbd : badE c.labs.length kind label key count
  · replace hdef := Lib.hid (hdef.out.trans (if_pos hbd))
    rw [decide_eq_true hbd]
    go_wp2_with fail
    refine (cNo 2 _).mono ?_
    rintro e w3 ⟨rfl, hb3⟩
    unfold tldC stk0 nil0
    simp only
    have G3 := Lib.hid (G2.out.on hb3)
    have M3 := Lib.hid (M22.out.on hb3)
    clear hb3 G2 M22 M12
    obtain ⟨⟨y0, y1, y2, y3, y4, y5, y6, y7, y8, y9, y10⟩, yf⟩ := eleven_at M3.out.hb
    have yf0 := yf 0
    have yf1 := yf 1
    have yf2 := yf 2
    have yf3 := yf 3
    have yf4 := yf 4
    have yf5 := yf 5
    have yf6 := yf 6
    have yf7 := yf 7
    have yf8 := yf 8
    have yf9 := yf 9
    have yf10 := yf 10
    clear yf
    obtain ⟨W6, hW6⟩ : ∃ xx, xx = put11 w3 (w.heap.size + 1) (.int .i64 2) (.int .i64 0) (.int .i64 0) (.int .i64 0) (.int .i64 0) (.int .i64 0) (.int .i64 0) (.int .i64 0) (.slice none 0 0) (.slice none 0 0) (.slice none 0 0) := ⟨_, rfl⟩
    have h6 := (M3.out).put11 (.int .i64 2) (.int .i64 0) (.int .i64 0) (.int .i64 0) (.int .i64 0) (.int .i64 0) (.int .i64 0) (.int .i64 0) (.slice none 0 0) (.slice none 0 0) (.slice none 0 0)
    have hG6 := (G3.out).set11 (by first | omega | (simp; done) | (simp; omega)) (M3.out).ho (.int .i64 2) (.int .i64 0) (.int .i64 0) (.int .i64 0) (.int .i64 0) (.int .i64 0) (.int .i64 0) (.int .i64 0) (.slice none 0 0) (.slice none 0 0) (.slice none 0 0)
    rw [← hW6] at h6 hG6
    unfold put11 at hW6
    have HW6 := Lib.hid hW6
    have HG6 := Lib.hid hG6
    obtain ⟨⟨t0, t1, t2, t3, t4, t5, t6, t7, t8, t9, t10⟩, -⟩ := eleven_at h6.hb
    clear hW6 hG6 h6
    go_wp2_with fail
    rw [← HW6.out]
    refine bodyPost_ret (v := .agg #[.int .i64 2, .int .i64 0, .int .i64 0, .int .i64 0, .int .i64 0, .int .i64 0, .int .i64 0, .int .i64 0, .slice none 0 0, .slice none 0 0, .slice none 0 0]) (by simp [results, Tryz.results75, go_sem, t0, t1, t2, t3, t4, t5, t6, t7, t8, t9, t10]) rfl ?_
    exact (by rw [hdef.out]; exact ⟨own, nil0, nil0, nil0, rfl, TldAt.none _ _ _ rfl rfl rfl, HG6.out.at', HG6.out.go, far0 _⟩)

  · replace hdef := Lib.hid (hdef.out.trans (if_neg hbd))
    rw [decide_eq_false hbd]
    unfold badE at hbd
    obtain ⟨j, rfl⟩ : ∃ j : Nat, label = j := ⟨label.toNat, by omega⟩
    simp only [Int.toNat_natCast] at hdef
    have hj : j < c.labs.length := by omega
    have hjz : (j : Int) < (c.labs.length : Int) := by omega
    have hln := HC.out.len
    have hlx := HC.out.lt16 c.labs[j] (List.getElem_mem hj)
    have hn4 := HC.out.n
    have hi' := HI.out
    obtain ⟨x0, x1, x2, x3, x4, x5, x6, x7, x8⟩ := G2.out.at'.head
    obtain ⟨k0, k1, k2, k3, k4, k5, k6, k7⟩ := eight_at M12.out.hb
    rw [HVL.out] at x1
    obtain ⟨⟨hl0, _⟩, _, _, he, _, _, hcc⟩ := G2.out.at'.fix.cfg.hl
    rw [HVL.out] at he
    simp only [Value.slice.injEq] at he
    obtain ⟨rfl, -, rfl⟩ := he
    obtain ⟨b, o, rfl, hcell⟩ := hcc (by simp [labInts]; omega)
    have z0 := hcell j (.int .i64 (c.labs[j] : Nat)) (by rw [ints_get (labInts c.labs) j (by simpa [labInts] using hj)]; simp [labInts])
    have CI := Lib.hid (fun Y => cIn c.labs[j] i (by omega) (by omega) Y)
    rw [← lb_at hj] at CI
    have CIx : Hid (∀ Y : Ext wc, Calls Tryz.prog 38 #[.int .i64 c.labs[j], .int .i64 i] Y.1 fun e w' => e = .returned (.bool (lb c.labs j i)) ∧ Y.1 = w') := fun Y => CI.out Y.1
    generalize c.labs[j] = lab at *
    clear hl0 hcc hcell
    go_upto_region 3 with (fail)
    have p0 := ext_cell k1
    have p6 := ext_cell k6
    have y1 := ext_cell x1
    have r0 := ext_cell z0
    refine wp_region_grow (by kernel_rfl) (by kernel_rfl) ?_
    repeat (go_big_quiet_step ((go_at_call 38; with_reducible exact grow_same (CIx.out _))))
    refine wpQuiet_nil ?_
    intro W3 hb3
    clear p0 p6 y1 r0 CI CIx z0
    replace G2 := Lib.hid (G2.out.on hb3)
    replace M12 := Lib.hid (M12.out.on hb3)
    replace M22 := Lib.hid (M22.out.on hb3)
    clear hb3 x0 x1 x2 x3 x4 x5 x6 x7 x8 k0 k1 k2 k3 k4 k5 k6 k7
    cases hlb : lb c.labs j i with
    | false =>
      replace hdef := Lib.hid (hdef.out.trans (if_pos hlb))
      go_wp2_with fail
      refine (cNo 11 _).mono ?_
      rintro e w3 ⟨rfl, hb3⟩
      unfold tldC stk0 nil0
      simp only
      have G3 := Lib.hid (G2.out.on hb3)
      have M3 := Lib.hid (M22.out.on hb3)
      clear hb3 G2 M22 M12
      obtain ⟨⟨y0, y1, y2, y3, y4, y5, y6, y7, y8, y9, y10⟩, yf⟩ := eleven_at M3.out.hb
      have yf0 := yf 0
      have yf1 := yf 1
      have yf2 := yf 2
      have yf3 := yf 3
      have yf4 := yf 4
      have yf5 := yf 5
      have yf6 := yf 6
      have yf7 := yf 7
      have yf8 := yf 8
      have yf9 := yf 9
      have yf10 := yf 10
      clear yf
      obtain ⟨W6, hW6⟩ : ∃ xx, xx = put11 w3 (w.heap.size + 1) (.int .i64 11) (.int .i64 0) (.int .i64 0) (.int .i64 0) (.int .i64 0) (.int .i64 0) (.int .i64 0) (.int .i64 0) (.slice none 0 0) (.slice none 0 0) (.slice none 0 0) := ⟨_, rfl⟩
      have h6 := (M3.out).put11 (.int .i64 11) (.int .i64 0) (.int .i64 0) (.int .i64 0) (.int .i64 0) (.int .i64 0) (.int .i64 0) (.int .i64 0) (.slice none 0 0) (.slice none 0 0) (.slice none 0 0)
      have hG6 := (G3.out).set11 (by first | omega | (simp; done) | (simp; omega)) (M3.out).ho (.int .i64 11) (.int .i64 0) (.int .i64 0) (.int .i64 0) (.int .i64 0) (.int .i64 0) (.int .i64 0) (.int .i64 0) (.slice none 0 0) (.slice none 0 0) (.slice none 0 0)
      rw [← hW6] at h6 hG6
      unfold put11 at hW6
      have HW6 := Lib.hid hW6
      have HG6 := Lib.hid hG6
      obtain ⟨⟨t0, t1, t2, t3, t4, t5, t6, t7, t8, t9, t10⟩, -⟩ := eleven_at h6.hb
      clear hW6 hG6 h6
      go_wp2_with fail
      rw [← HW6.out]
      refine bodyPost_ret (v := .agg #[.int .i64 11, .int .i64 0, .int .i64 0, .int .i64 0, .int .i64 0, .int .i64 0, .int .i64 0, .int .i64 0, .slice none 0 0, .slice none 0 0, .slice none 0 0]) (by simp [results, Tryz.results75, go_sem, t0, t1, t2, t3, t4, t5, t6, t7, t8, t9, t10]) rfl ?_
      exact (by rw [hdef.out]; exact ⟨own, nil0, nil0, nil0, rfl, TldAt.none _ _ _ rfl rfl rfl, HG6.out.at', HG6.out.go, far0 _⟩)

    | true =>
      replace hdef := Lib.hid (hdef.out.trans (if_neg (by rw [hlb]; simp)))
      obtain ⟨k0, k1, k2, k3, k4, k5, k6, k7⟩ := eight_at M12.out.hb
      obtain ⟨b0, b1, b2, b3⟩ := G2.out.at'.branch i HI.out
      rcases hkd with rfl | rfl
      · replace hdef := Lib.hid (hdef.out.trans (if_pos rfl))
        have h1 := G2.out.at'.st i HI.out
        have CP : Hid (∀ Y, Below W3.heap.size W3 Y → _) := fun Y hY => cPutW (G2.out.on hY).at' hln i j HI.out hj i key count (put_ok (HOK.out.st i j HI.out hj) (by omega) (by omega) (by omega) hK |>.may.may.ok _ (List.mem_singleton.2 rfl)) (by omega)
        go_upto_region 6 with (fail)
        refine wp_still_tail 12 (by kernel_rfl) (by kernel_rfl) ?_
        simp only [List.take_succ_cons, List.take_zero, List.drop_succ_cons, List.drop_zero]
        repeat still_step
        refine wpStill_nil ?_
        go_wp2_with fail
        refine (CP.out _ (Below.drew (Below.refl _ _))).mono ?_
        rintro e w5 ⟨rfl, own5, hW5, hU5⟩
        have HG := Lib.hid ((G2.out.on (Below.drew (Below.refl _ _))).step hW5 hU5)
        have HM := Lib.hid ((M22.out.on (Below.drew (Below.refl _ _))).went hU5)
        clear hW5 hU5 CP k0 k1 k2 k3 k4 k5 k6 k7 b0 b1 b2 b3 G2 M22 M12
        obtain ⟨⟨y0, y1, y2, y3, y4, y5, y6, y7, y8, y9, y10⟩, yf⟩ := eleven_at HM.out.hb
        have yf0 := yf 0
        have yf1 := yf 1
        have yf2 := yf 2
        have yf3 := yf 3
        have yf4 := yf 4
        have yf5 := yf 5
        have yf6 := yf 6
        have yf7 := yf 7
        have yf8 := yf 8
        have yf9 := yf 9
        have yf10 := yf 10
        clear yf
        obtain ⟨W6, hW6⟩ : ∃ xx, xx = put11 w5 (w.heap.size + 1) (.int .i64 0) (.int .i64 0) (.int .i64 0) (.int .i64 0) (.int .i64 0) (.int .i64 0) (.int .i64 0) (.int .i64 0) (.slice none 0 0) (.slice none 0 0) (.slice none 0 0) := ⟨_, rfl⟩
        have h6 := (HM.out).put11 (.int .i64 0) (.int .i64 0) (.int .i64 0) (.int .i64 0) (.int .i64 0) (.int .i64 0) (.int .i64 0) (.int .i64 0) (.slice none 0 0) (.slice none 0 0) (.slice none 0 0)
        have hG6 := (HG.out).set11 (by first | omega | (simp; done) | (simp; omega)) (HM.out).ho (.int .i64 0) (.int .i64 0) (.int .i64 0) (.int .i64 0) (.int .i64 0) (.int .i64 0) (.int .i64 0) (.int .i64 0) (.slice none 0 0) (.slice none 0 0) (.slice none 0 0)
        rw [← hW6] at h6 hG6
        unfold put11 at hW6
        have HW6 := Lib.hid hW6
        have HG6 := Lib.hid hG6
        obtain ⟨⟨t0, t1, t2, t3, t4, t5, t6, t7, t8, t9, t10⟩, -⟩ := eleven_at h6.hb
        clear hW6 hG6 h6
        go_wp2_with fail
        rw [← HW6.out]
        refine bodyPost_ret (v := .agg #[.int .i64 0, .int .i64 0, .int .i64 0, .int .i64 0, .int .i64 0, .int .i64 0, .int .i64 0, .int .i64 0, .slice none 0 0, .slice none 0 0, .slice none 0 0]) (by simp [results, Tryz.results75, go_sem, t0, t1, t2, t3, t4, t5, t6, t7, t8, t9, t10]) rfl ?_
        exact (by rw [hdef.out]; exact ⟨own5, nil0, nil0, nil0, rfl, TldAt.none _ _ _ rfl rfl rfl, HG6.out.at', HG6.out.go, far0 _⟩)

      · replace hdef := Lib.hid (hdef.out.trans (if_neg (by decide)))
        have CF : Hid (∀ Y, Below W3.heap.size W3 Y → _) := fun Y hY => cFindW (G2.out.on hY).at' hln i j HI.out hj key
        have l1 := World.block_lt_of_cell? W3 _ k7
        have l2 := World.block_lt_of_cell? W3 _ b3
        have e1 : w.heap.size ≠ W3.heap.size := by simp only at l1; omega
        have e2 : X.B i ≠ W3.heap.size := by simp only at l2; omega
        go_upto_region 8 with (fail)
        go_cut [7, 8] (fun v u wx => ∃ g x0 x2 x3 x4, v = .pointer (some ⟨g, 0, none⟩) ∧ u = .bool (liveK (s.st i j) key) ∧ Hid (Below W3.heap.size W3 wx) ∧ wx.cell? ⟨g, 0, none⟩ = some x0 ∧ wx.cell? ⟨g, 1, none⟩ = some (.int .i64 (valK (s.st i j) key)) ∧ wx.cell? ⟨g, 2, none⟩ = some x2 ∧ wx.cell? ⟨g, 3, none⟩ = some x3 ∧ wx.cell? ⟨g, 4, none⟩ = some x4)
        case first =>
          go_region_held3 (fun Z => Z.cell? ⟨w.heap.size, 6, none⟩ = some (.int .i64 j) ∧ Z.cell? ⟨w.heap.size, 7, none⟩ = some (.int .i64 key) ∧ Z.cell? ⟨X.B i, 3, none⟩ = some (.slice (some ⟨X.T i, 0, none⟩) c.labs.length c.labs.length))
            (first | with_reducible exact ⟨k6, k7, b3⟩ | with_reducible exact ⟨q6, q7, d3⟩ | with_reducible exact ⟨far5 e1 q6, far5 e1 q7, far5 e2 d3⟩ | with_reducible exact ⟨cell_on hb6 q6, cell_on hb6 q7, cell_on hb6 d3⟩ | go_keep)
            ((go_at_call 90; refine (CF.out _ (by repeat (first | exact Below.refl _ _ | refine Below.drew ?_ | refine Below.alloc ?_ (by first | (simp; done) | (simp; omega)) _ | refine Below.setCell ?_ (by first | (simp; done) | (simp; omega)) _))).mono ?_; rintro e w5 ⟨x, ⟨rfl, hxv⟩, hb5⟩; have Hxv := Lib.hid hxv; clear hxv; have hB5 : Below W3.heap.size W3 w5 := Below.trans (by repeat (first | exact Below.refl _ _ | refine Below.drew ?_ | refine Below.alloc ?_ (by first | (simp; done) | (simp; omega)) _ | refine Below.setCell ?_ (by first | (simp; done) | (simp; omega)) _)) (hb5.mono (by first | exact Nat.le_refl _ | simp)); have q6 := cell_on hB5 k6; have q7 := cell_on hB5 k7; have d3 := cell_on hB5 b3; have hb6 : Below w5.heap.size w5 (w5.alloc (.cells #[.int .i64 x.k, .int .i64 x.v, .int .i64 x.t, .int .i64 x.h, .bool x.g] 77)) := (Below.refl _ _).alloc (Nat.le_refl _) _; have HB5 := Lib.hid hB5; (try (have hn : w5.heap[W3.heap.size]? = some (.cells #[.int .i64 0, .int .i64 0, .int .i64 0, .int .i64 0, .bool false] 77 (0, 0)) := (by rw [hb5.block _ (by simp)]; exact (by first | exact heap_alloc_new _ _ | (simp only [heap_drew, heap_drewN]; exact heap_alloc_new _ _))); obtain ⟨⟨n0, n1, n2, n3, n4⟩, nf⟩ := five_at hn; have nf0 := nf 0; have nf1 := nf 1; have nf2 := nf 2; have nf3 := nf 3; have nf4 := nf 4; have hs5 := five_at (five_put hn (.int .i64 x.k) (.int .i64 x.v) (.int .i64 x.t) (.int .i64 x.h) (.bool x.g)); have Hs5 := Lib.hid hs5; clear hs5 hn nf)); clear hB5 hb5))
          all_goals
            go_wp2_with fail
            go_meet
            first
            | exact ⟨_, _, _, _, _, rfl, rfl, (((((HB5.out.setCell (Nat.le_refl _) _).setCell (Nat.le_refl _) _).setCell (Nat.le_refl _) _).setCell (Nat.le_refl _) _).setCell (Nat.le_refl _) _), Hs5.out.1.1, (by rw [← Hxv.out]; exact Hs5.out.1.2.1), Hs5.out.1.2.2.1, Hs5.out.1.2.2.2.1, Hs5.out.1.2.2.2.2⟩
            | exact ⟨_, _, _, _, _, rfl, rfl, (Below.alloc (Hid.out HB5) (Below.size (Hid.out HB5)) _), (five_at (heap_alloc_new w5 (.cells #[.int .i64 x.k, .int .i64 x.v, .int .i64 x.t, .int .i64 x.h, .bool x.g] 77))).1.1, (by rw [← Hxv.out]; exact (five_at (heap_alloc_new w5 (.cells #[.int .i64 x.k, .int .i64 x.v, .int .i64 x.t, .int .i64 x.h, .bool x.g] 77))).1.2.1), (five_at (heap_alloc_new w5 (.cells #[.int .i64 x.k, .int .i64 x.v, .int .i64 x.t, .int .i64 x.h, .bool x.g] 77))).1.2.2.1, (five_at (heap_alloc_new w5 (.cells #[.int .i64 x.k, .int .i64 x.v, .int .i64 x.t, .int .i64 x.h, .bool x.g] 77))).1.2.2.2.1, (five_at (heap_alloc_new w5 (.cells #[.int .i64 x.k, .int .i64 x.v, .int .i64 x.t, .int .i64 x.h, .bool x.g] 77))).1.2.2.2.2⟩
        case rest =>
        obtain ⟨g, y0, y2, y3, y4, rfl, rfl, B5, q0, q1, q2, q3, q4⟩ := hcut
        replace G2 := Lib.hid (G2.out.on B5.out)
        replace M22 := Lib.hid (M22.out.on B5.out)
        clear CF M12 B5
        cases hlv : liveK (s.st i j) key with
        | true =>
          replace hdef := Lib.hid (hdef.out.trans (if_pos hlv))
          obtain ⟨⟨y0, y1, y2, y3, y4, y5, y6, y7, y8, y9, y10⟩, yf⟩ := eleven_at M22.out.hb
          have yf0 := yf 0
          have yf1 := yf 1
          have yf2 := yf 2
          have yf3 := yf 3
          have yf4 := yf 4
          have yf5 := yf 5
          have yf6 := yf 6
          have yf7 := yf 7
          have yf8 := yf 8
          have yf9 := yf 9
          have yf10 := yf 10
          clear yf
          obtain ⟨W6, hW6⟩ : ∃ xx, xx = put11 wc (w.heap.size + 1) (.int .i64 0) (.int .i64 0) (.int .i64 0) (.int .i64 0) (.int .i64 0) (.int .i64 0) (.int .i64 0) (.int .i64 (valK (s.st i j) key)) (.slice none 0 0) (.slice none 0 0) (.slice none 0 0) := ⟨_, rfl⟩
          have h6 := (M22.out).put11 (.int .i64 0) (.int .i64 0) (.int .i64 0) (.int .i64 0) (.int .i64 0) (.int .i64 0) (.int .i64 0) (.int .i64 (valK (s.st i j) key)) (.slice none 0 0) (.slice none 0 0) (.slice none 0 0)
          have hG6 := (G2.out).set11 (by first | omega | (simp; done) | (simp; omega)) (M22.out).ho (.int .i64 0) (.int .i64 0) (.int .i64 0) (.int .i64 0) (.int .i64 0) (.int .i64 0) (.int .i64 0) (.int .i64 (valK (s.st i j) key)) (.slice none 0 0) (.slice none 0 0) (.slice none 0 0)
          rw [← hW6] at h6 hG6
          unfold put11 at hW6
          have HW6 := Lib.hid hW6
          have HG6 := Lib.hid hG6
          obtain ⟨⟨t0, t1, t2, t3, t4, t5, t6, t7, t8, t9, t10⟩, -⟩ := eleven_at h6.hb
          clear hW6 hG6 h6
          go_wp2_with fail
          rw [← HW6.out]
          refine bodyPost_ret (v := .agg #[.int .i64 0, .int .i64 0, .int .i64 0, .int .i64 0, .int .i64 0, .int .i64 0, .int .i64 0, .int .i64 (valK (s.st i j) key), .slice none 0 0, .slice none 0 0, .slice none 0 0]) (by simp [results, Tryz.results75, go_sem, t0, t1, t2, t3, t4, t5, t6, t7, t8, t9, t10]) rfl ?_
          exact (by rw [hdef.out]; exact ⟨own, nil0, nil0, nil0, rfl, TldAt.none _ _ _ rfl rfl rfl, HG6.out.at', HG6.out.go, far0 _⟩)

        | false =>
          replace hdef := Lib.hid (hdef.out.trans (if_neg (by rw [hlv]; simp)))
          go_wp2_with fail
          refine (cNo 6 _).mono ?_
          rintro e w3 ⟨rfl, hb3⟩
          unfold tldC stk0 nil0
          simp only
          have G3 := Lib.hid (G2.out.on hb3)
          have M3 := Lib.hid (M22.out.on hb3)
          clear hb3 G2 M22
          obtain ⟨⟨y0, y1, y2, y3, y4, y5, y6, y7, y8, y9, y10⟩, yf⟩ := eleven_at M3.out.hb
          have yf0 := yf 0
          have yf1 := yf 1
          have yf2 := yf 2
          have yf3 := yf 3
          have yf4 := yf 4
          have yf5 := yf 5
          have yf6 := yf 6
          have yf7 := yf 7
          have yf8 := yf 8
          have yf9 := yf 9
          have yf10 := yf 10
          clear yf
          obtain ⟨W6, hW6⟩ : ∃ xx, xx = put11 w3 (w.heap.size + 1) (.int .i64 6) (.int .i64 0) (.int .i64 0) (.int .i64 0) (.int .i64 0) (.int .i64 0) (.int .i64 0) (.int .i64 0) (.slice none 0 0) (.slice none 0 0) (.slice none 0 0) := ⟨_, rfl⟩
          have h6 := (M3.out).put11 (.int .i64 6) (.int .i64 0) (.int .i64 0) (.int .i64 0) (.int .i64 0) (.int .i64 0) (.int .i64 0) (.int .i64 0) (.slice none 0 0) (.slice none 0 0) (.slice none 0 0)
          have hG6 := (G3.out).set11 (by first | omega | (simp; done) | (simp; omega)) (M3.out).ho (.int .i64 6) (.int .i64 0) (.int .i64 0) (.int .i64 0) (.int .i64 0) (.int .i64 0) (.int .i64 0) (.int .i64 0) (.slice none 0 0) (.slice none 0 0) (.slice none 0 0)
          rw [← hW6] at h6 hG6
          unfold put11 at hW6
          have HW6 := Lib.hid hW6
          have HG6 := Lib.hid hG6
          obtain ⟨⟨t0, t1, t2, t3, t4, t5, t6, t7, t8, t9, t10⟩, -⟩ := eleven_at h6.hb
          clear hW6 hG6 h6
          go_wp2_with fail
          rw [← HW6.out]
          refine bodyPost_ret (v := .agg #[.int .i64 6, .int .i64 0, .int .i64 0, .int .i64 0, .int .i64 0, .int .i64 0, .int .i64 0, .int .i64 0, .slice none 0 0, .slice none 0 0, .slice none 0 0]) (by simp [results, Tryz.results75, go_sem, t0, t1, t2, t3, t4, t5, t6, t7, t8, t9, t10]) rfl ?_
          exact (by rw [hdef.out]; exact ⟨own, nil0, nil0, nil0, rfl, TldAt.none _ _ _ rfl rfl rfl, HG6.out.at', HG6.out.go, far0 _⟩)
end Go.Proofs.YtjdedflfdlhkdaaGreatDoor

namespace Go.Proofs.YtjdedflfdlhkdaaGreatDoor
open Go.ChangeShapes Go.WideShapes Go.ChangeAt Go.RowKit
set_option linter.unusedVariables false
set_option linter.unusedSimpArgs false

section
variable {w W Y w5 : World} {own own5 : Own} {c : Cfg} {X : Adr} {N : Nat} {s s2 : Wld} {g R : Nat} {o : Obj} {a0 a1 a2 a3 a4 : Value} {e : TypeId}
theorem mine_new (hG : Gone w own W c X own N s) (hb : Below W.heap.size W Y) (hn : Y.heap[W.heap.size]? = some o) (hU : Went own own5 Y w5) : Mine own5 w5 W.heap.size o :=
  Mine.went (w := Y) ⟨hG.none (Nat.le_refl _), hn⟩ hU
theorem box_set (hg : Gone w own w5 c X own5 N s) (m : Mine own5 w5 R o) (mg : Mine own5 w5 g (.cells #[a0, a1, a2, a3, a4] e (0, 0))) (h1 : w.heap.size ≤ g) (hne : R ≠ g) (x0 x1 x2 x3 x4 : Value) :
    Gone w own (((((w5.setCell ⟨g, 0, none⟩ x0).setCell ⟨g, 1, none⟩ x1).setCell ⟨g, 2, none⟩ x2).setCell ⟨g, 3, none⟩ x3).setCell ⟨g, 4, none⟩ x4) c X own5 N s ∧
    Mine own5 (((((w5.setCell ⟨g, 0, none⟩ x0).setCell ⟨g, 1, none⟩ x1).setCell ⟨g, 2, none⟩ x2).setCell ⟨g, 3, none⟩ x3).setCell ⟨g, 4, none⟩ x4) R o ∧
    Mine own5 (((((w5.setCell ⟨g, 0, none⟩ x0).setCell ⟨g, 1, none⟩ x1).setCell ⟨g, 2, none⟩ x2).setCell ⟨g, 3, none⟩ x3).setCell ⟨g, 4, none⟩ x4) g (.cells #[x0, x1, x2, x3, x4] e (0, 0)) :=
  ⟨((((hg.set h1 mg.ho 0 x0).set h1 mg.ho 1 x1).set h1 mg.ho 2 x2).set h1 mg.ho 3 x3).set h1 mg.ho 4 x4, ((((m.other hne _).other hne _).other hne _).other hne _).other hne _, ⟨mg.ho, five_put mg.hb x0 x1 x2 x3 x4⟩⟩
theorem box_new (hg : Gone w own w5 c X own5 N s) (m : Mine own5 w5 R o) (x0 x1 x2 x3 x4 : Value) (e : TypeId) :
    Gone w own (w5.alloc (.cells #[x0, x1, x2, x3, x4] e)) c X own5 N s ∧ Mine own5 (w5.alloc (.cells #[x0, x1, x2, x3, x4] e)) R o ∧ Mine own5 (w5.alloc (.cells #[x0, x1, x2, x3, x4] e)) w5.heap.size (.cells #[x0, x1, x2, x3, x4] e (0, 0)) := by
  have hb : Below w5.heap.size w5 (w5.alloc (.cells #[x0, x1, x2, x3, x4] e)) := (Below.refl _ _).alloc (Nat.le_refl _) _
  exact ⟨hg.on hb, m.on hb, hg.none (Nat.le_refl _), heap_alloc_new _ _⟩
theorem ordv {W : World} (h : OrdVar W) {q : Nat} (hq : q < 5) : W.cell? ⟨0, q, none⟩ = some (.int .i64 ((q : Int) + 2)) := by
  obtain ⟨o0, o1, o2, o3, o4⟩ := h
  rcases (show q = 0 ∨ q = 1 ∨ q = 2 ∨ q = 3 ∨ q = 4 by omega) with rfl | rfl | rfl | rfl | rfl
  · exact o0
  · exact o1
  · exact o2
  · exact o3
  · exact o4
end
set_option maxRecDepth 100000 in
set_option maxHeartbeats 8000000 in
theorem cClient {w : World} {c : Cfg} {X : Adr} {own : Own} {N K : Nat} {s : Wld} (hc : c.Ok) (h : WAt w c X own N s) (hok : WOk c K s) (hK : K ≤ 1000) (i : Nat) (hi : i < c.n) (p : Stp) (hw : p.who = i) (hkd : 1 ≤ p.kind ∧ p.kind ≤ 8)
    (CE0 : p.kind = 7 ∨ p.kind = 8 → ∀ Y own', WAt Y c X own' N s → Calls Tryz.prog 75 #[.pointer (some ⟨X.W, 0, none⟩), .pointer (some ⟨X.B i, 0, none⟩), p.val] Y (Stepped Y c X own' N (s.entry c i p))) :
    Calls Tryz.prog 58 #[.pointer (some ⟨X.W, 0, none⟩), .pointer (some ⟨X.B i, 0, none⟩), p.val] w (Stepped w c X own N (s.client c i p)) := by
  obtain ⟨kind, who, item, count, life, id, label, key⟩ := p
  simp only at hw hkd
  subst hw
  obtain ⟨g1, m1, m2⟩ := boxed h (.int .i64 kind) (.int .i64 i) (.int .i64 item) (.int .i64 count) (.int .i64 life) (.int .i64 id) (.int .i64 label) (.int .i64 key)
  have G := Lib.hid g1
  have M1 := Lib.hid m1
  have M2 := Lib.hid m2
  have HC := Lib.hid hc
  have HOK := Lib.hid hok
  have HI := Lib.hid hi
  have hdef : Hid (s.client c i ⟨kind, i, item, count, life, id, label, key⟩ = if kind = 7 ∨ kind = 8 then s.entry c i ⟨kind, i, item, count, life, id, label, key⟩ else if item < 0 ∨ (c.items : Int) ≤ item then (noT 2, s) else if kind = 1 then (if count < 1 ∨ 1048576 < count then (noT 2, s) else if 1048576 < s.asks i item.toNat + count then (noT 12, s) else (noT 0, { s with asks := upd2 s.asks i item.toNat (s.asks i item.toNat + count) })) else ({ noT ((s.sh i item.toNat).out ⟨kind, count, life, id⟩).code with stk := { ((s.sh i item.toNat).out ⟨kind, count, life, id⟩) with code := 0 } }, { s with sh := upd2 s.sh i item.toNat ((s.sh i item.toNat).next ⟨kind, count, life, id⟩) })) := by
    show _ = _
    unfold Wld.client; rfl
  have CE := Lib.hid CE0
  clear CE0
  unfold Stp.val Stp.cells at CE
  simp only at CE
  unfold Stp.val Stp.cells
  simp only
  clear g1 m1 m2 hok h
  go_enter Tryz.func58, Tryz.ntmps58
  go_upto_region 1 with (fail)
  generalize ((w.alloc (.cells #[.int .i64 kind, .int .i64 i, .int .i64 item, .int .i64 count, .int .i64 life, .int .i64 id, .int .i64 label, .int .i64 key] 48)).alloc (.cells #[.int .i64 0, .int .i64 0, .int .i64 0, .int .i64 0, .int .i64 0, .int .i64 0, .int .i64 0, .int .i64 0, .slice none 0 0, .slice none 0 0, .slice none 0 0] 57)) = W at *
  obtain ⟨k0, k1, k2, k3, k4, k5, k6, k7⟩ := eight_at M1.out.hb
  by_cases hk78 : kind = 7 ∨ kind = 8
  · replace hdef := Lib.hid (hdef.out.trans (if_pos hk78))
    have CE2 := Lib.hid (CE.out hk78 W own G.out.at')
    have PL : w.heap.size + 1 < W.heap.size := M2.out.lt
    have hkx : ((kind == 7) = true ∧ kind = 7) ∨ ((kind == 7) = false ∧ (kind == 8) = true) := by
      rcases hk78 with rfl | rfl
      · exact .inl ⟨rfl, rfl⟩
      · exact .inr ⟨rfl, rfl⟩
    clear hk78 CE
    generalize s.entry c i ⟨kind, i, item, count, life, id, label, key⟩ = r at *
    rcases hkx with ⟨hka, hkb⟩ | ⟨hka, hkb⟩
    · skip
      clear hkb
      go_wp2_with fail
      refine CE2.out.mono ?_
      rintro e w5 hs5
      obtain ⟨own5, sa, sc, fa, fc, ra, rc, rfl, ht5, hW5, hU5⟩ := hs5.got
      have HG := Lib.hid (G.out.step hW5 hU5)
      have HM := Lib.hid (M2.out.went hU5)
      have HT := Lib.hid (fun x0 x1 x2 x3 x4 x5 x6 x7 x8 x9 x10 => tldAt_put ht5.1 (P := w.heap.size + 1) ht5.2 PL x0 x1 x2 x3 x4 x5 x6 x7 x8 x9 x10)
      have HFar := Lib.hid (ht5.2.mono G.out.go.wr.size)
      obtain ⟨t, s'⟩ := r
      obtain ⟨tc, tw, ⟨kc, ki, kf, kh, ku⟩, tv, ts, tf, tr⟩ := t
      simp only at HT HFar HG ⊢
      clear hs5 ht5 hW5 hU5 CE2 G M1 M2 PL k0 k1 k2 k3 k4 k5 k6 k7
      obtain ⟨⟨y0, y1, y2, y3, y4, y5, y6, y7, y8, y9, y10⟩, yf⟩ := eleven_at HM.out.hb
      have yf0 := yf 0
      have yf1 := yf 1
      have yf2 := yf 2
      have yf3 := yf 3
      have yf4 := yf 4
      have yf5 := yf 5
      have yf6 := yf 6
      have yf7 := yf 7
      have yf8 := yf 8
      have yf9 := yf 9
      have yf10 := yf 10
      clear yf
      obtain ⟨W6, hW6⟩ : ∃ xx, xx = put11 w5 (w.heap.size + 1) (.int .i64 tc) (.int .i64 tw) (.int .i64 kc) (.int .i64 ki) (.int .i64 kf) (.int .i64 kh) (.int .i64 ku) (.int .i64 tv) (.slice sa ts.length sc) (.slice fa tf.length fc) (.slice ra tr.length rc) := ⟨_, rfl⟩
      have h6 := (HM.out).put11 (.int .i64 tc) (.int .i64 tw) (.int .i64 kc) (.int .i64 ki) (.int .i64 kf) (.int .i64 kh) (.int .i64 ku) (.int .i64 tv) (.slice sa ts.length sc) (.slice fa tf.length fc) (.slice ra tr.length rc)
      have hG6 := (HG.out).set11 (by first | omega | (simp; done) | (simp; omega)) (HM.out).ho (.int .i64 tc) (.int .i64 tw) (.int .i64 kc) (.int .i64 ki) (.int .i64 kf) (.int .i64 kh) (.int .i64 ku) (.int .i64 tv) (.slice sa ts.length sc) (.slice fa tf.length fc) (.slice ra tr.length rc)
      rw [← hW6] at h6 hG6
      unfold put11 at hW6
      have HW6 := Lib.hid hW6
      have HG6 := Lib.hid hG6
      obtain ⟨⟨t0, t1, t2, t3, t4, t5, t6, t7, t8, t9, t10⟩, -⟩ := eleven_at h6.hb
      clear hW6 hG6 h6
      go_wp2_with fail
      rw [← HW6.out]
      refine bodyPost_ret (v := .agg #[.int .i64 tc, .int .i64 tw, .int .i64 kc, .int .i64 ki, .int .i64 kf, .int .i64 kh, .int .i64 ku, .int .i64 tv, .slice sa ts.length sc, .slice fa tf.length fc, .slice ra tr.length rc]) (by simp [results, Tryz.results58, go_sem, t0, t1, t2, t3, t4, t5, t6, t7, t8, t9, t10]) rfl ?_
      exact (by rw [hdef.out]; exact ⟨own5, _, _, _, rfl, (by rw [HW6.out]; exact HT.out _ _ _ _ _ _ _ _ _ _ _), HG6.out.at', HG6.out.go, HFar.out⟩)
    · skip
      skip
      go_wp2_with fail
      refine CE2.out.mono ?_
      rintro e w5 hs5
      obtain ⟨own5, sa, sc, fa, fc, ra, rc, rfl, ht5, hW5, hU5⟩ := hs5.got
      have HG := Lib.hid (G.out.step hW5 hU5)
      have HM := Lib.hid (M2.out.went hU5)
      have HT := Lib.hid (fun x0 x1 x2 x3 x4 x5 x6 x7 x8 x9 x10 => tldAt_put ht5.1 (P := w.heap.size + 1) ht5.2 PL x0 x1 x2 x3 x4 x5 x6 x7 x8 x9 x10)
      have HFar := Lib.hid (ht5.2.mono G.out.go.wr.size)
      obtain ⟨t, s'⟩ := r
      obtain ⟨tc, tw, ⟨kc, ki, kf, kh, ku⟩, tv, ts, tf, tr⟩ := t
      simp only at HT HFar HG ⊢
      clear hs5 ht5 hW5 hU5 CE2 G M1 M2 PL k0 k1 k2 k3 k4 k5 k6 k7
      obtain ⟨⟨y0, y1, y2, y3, y4, y5, y6, y7, y8, y9, y10⟩, yf⟩ := eleven_at HM.out.hb
      have yf0 := yf 0
      have yf1 := yf 1
      have yf2 := yf 2
      have yf3 := yf 3
      have yf4 := yf 4
      have yf5 := yf 5
      have yf6 := yf 6
      have yf7 := yf 7
      have yf8 := yf 8
      have yf9 := yf 9
      have yf10 := yf 10
      clear yf
      obtain ⟨W6, hW6⟩ : ∃ xx, xx = put11 w5 (w.heap.size + 1) (.int .i64 tc) (.int .i64 tw) (.int .i64 kc) (.int .i64 ki) (.int .i64 kf) (.int .i64 kh) (.int .i64 ku) (.int .i64 tv) (.slice sa ts.length sc) (.slice fa tf.length fc) (.slice ra tr.length rc) := ⟨_, rfl⟩
      have h6 := (HM.out).put11 (.int .i64 tc) (.int .i64 tw) (.int .i64 kc) (.int .i64 ki) (.int .i64 kf) (.int .i64 kh) (.int .i64 ku) (.int .i64 tv) (.slice sa ts.length sc) (.slice fa tf.length fc) (.slice ra tr.length rc)
      have hG6 := (HG.out).set11 (by first | omega | (simp; done) | (simp; omega)) (HM.out).ho (.int .i64 tc) (.int .i64 tw) (.int .i64 kc) (.int .i64 ki) (.int .i64 kf) (.int .i64 kh) (.int .i64 ku) (.int .i64 tv) (.slice sa ts.length sc) (.slice fa tf.length fc) (.slice ra tr.length rc)
      rw [← hW6] at h6 hG6
      unfold put11 at hW6
      have HW6 := Lib.hid hW6
      have HG6 := Lib.hid hG6
      obtain ⟨⟨t0, t1, t2, t3, t4, t5, t6, t7, t8, t9, t10⟩, -⟩ := eleven_at h6.hb
      clear hW6 hG6 h6
      go_wp2_with fail
      rw [← HW6.out]
      refine bodyPost_ret (v := .agg #[.int .i64 tc, .int .i64 tw, .int .i64 kc, .int .i64 ki, .int .i64 kf, .int .i64 kh, .int .i64 ku, .int .i64 tv, .slice sa ts.length sc, .slice fa tf.length fc, .slice ra tr.length rc]) (by simp [results, Tryz.results58, go_sem, t0, t1, t2, t3, t4, t5, t6, t7, t8, t9, t10]) rfl ?_
      exact (by rw [hdef.out]; exact ⟨own5, _, _, _, rfl, (by rw [HW6.out]; exact HT.out _ _ _ _ _ _ _ _ _ _ _), HG6.out.at', HG6.out.go, HFar.out⟩)
  · replace hdef := Lib.hid (hdef.out.trans (if_neg hk78))
    have hka : (kind == 7) = false := by rw [beq_eq_false_iff_ne]; omega
    have hkb : (kind == 8) = false := by rw [beq_eq_false_iff_ne]; omega
    have hk6 : 1 ≤ kind ∧ kind ≤ 6 := by omega
    clear hk78 CE hkd
    obtain ⟨b0, b1, b2, b3⟩ := G.out.at'.branch i HI.out
    go_upto_region 3 with (fail)
    clear hka hkb
    have hitm := HC.out.items
    go_cut [33] (fun v wx => v = .bool (decide (item < 0 ∨ (c.items : Int) ≤ item)) ∧ Hid (Below W.heap.size W wx))
    case first =>
      have p2 := ext_cell k2
      have y1 := ext_cell b1
      have fin : ∀ b, decide (item < 0 ∨ (c.items : Int) ≤ item) = b → Hid (b = decide (item < 0 ∨ (c.items : Int) ≤ item)) := fun b hb => hb.symm
      by_cases a0 : item < 0
      · have hbd := fin true (decide_eq_true (by omega))
        have e1 : (item < 0) = True := eq_true a0
        clear a0
        refine wp_region_grow (by kernel_rfl) (by kernel_rfl) ?_
        repeat (go_big_quiet_step (fail))
        refine wpQuiet_nil ?_
        intro W2 hb2
        go_wp2_with fail
        go_meet
        exact ⟨by rw [← hbd.out], hb2⟩
      · by_cases a1 : (c.items : Int) ≤ item
        · have hbd := fin true (decide_eq_true (by omega))
          have e1 : (item < 0) = False := eq_false (by omega)
          have e2 : ((c.items : Int) ≤ item) = True := eq_true a1
          clear a0 a1
          refine wp_region_grow (by kernel_rfl) (by kernel_rfl) ?_
          repeat (go_big_quiet_step (fail))
          refine wpQuiet_nil ?_
          intro W2 hb2
          go_wp2_with fail
          go_meet
          exact ⟨by rw [← hbd.out], hb2⟩
        · have hbd := fin false (decide_eq_false (by omega))
          have e1 : (item < 0) = False := eq_false (by omega)
          have e2 : ((c.items : Int) ≤ item) = False := eq_false (by omega)
          clear a0 a1
          refine wp_region_grow (by kernel_rfl) (by kernel_rfl) ?_
          repeat (go_big_quiet_step (fail))
          refine wpQuiet_nil ?_
          intro W2 hb2
          go_wp2_with fail
          go_meet
          exact ⟨by rw [← hbd.out], hb2⟩
    case rest =>
    obtain ⟨rfl, B2⟩ := hcut
    clear k0 k1 k2 k3 k4 k5 k6 k7 b0 b1 b2 b3
    replace G := Lib.hid (G.out.on B2.out)
    replace M1 := Lib.hid (M1.out.on B2.out)
    replace M2 := Lib.hid (M2.out.on B2.out)
    clear B2
    by_cases hbi : item < 0 ∨ (c.items : Int) ≤ item
    · replace hdef := Lib.hid (hdef.out.trans (if_pos hbi))
      rw [decide_eq_true hbi]
      go_wp2_with fail
      refine (cNo 2 _).mono ?_
      rintro e w3 ⟨rfl, hb3⟩
      unfold tldC stk0 nil0
      simp only
      have G3 := Lib.hid (G.out.on hb3)
      have M3 := Lib.hid (M2.out.on hb3)
      clear hb3 G M2 M1
      obtain ⟨⟨y0, y1, y2, y3, y4, y5, y6, y7, y8, y9, y10⟩, yf⟩ := eleven_at M3.out.hb
      have yf0 := yf 0
      have yf1 := yf 1
      have yf2 := yf 2
      have yf3 := yf 3
      have yf4 := yf 4
      have yf5 := yf 5
      have yf6 := yf 6
      have yf7 := yf 7
      have yf8 := yf 8
      have yf9 := yf 9
      have yf10 := yf 10
      clear yf
      obtain ⟨W6, hW6⟩ : ∃ xx, xx = put11 w3 (w.heap.size + 1) (.int .i64 2) (.int .i64 0) (.int .i64 0) (.int .i64 0) (.int .i64 0) (.int .i64 0) (.int .i64 0) (.int .i64 0) (.slice none 0 0) (.slice none 0 0) (.slice none 0 0) := ⟨_, rfl⟩
      have h6 := (M3.out).put11 (.int .i64 2) (.int .i64 0) (.int .i64 0) (.int .i64 0) (.int .i64 0) (.int .i64 0) (.int .i64 0) (.int .i64 0) (.slice none 0 0) (.slice none 0 0) (.slice none 0 0)
      have hG6 := (G3.out).set11 (by first | omega | (simp; done) | (simp; omega)) (M3.out).ho (.int .i64 2) (.int .i64 0) (.int .i64 0) (.int .i64 0) (.int .i64 0) (.int .i64 0) (.int .i64 0) (.int .i64 0) (.slice none 0 0) (.slice none 0 0) (.slice none 0 0)
      rw [← hW6] at h6 hG6
      unfold put11 at hW6
      have HW6 := Lib.hid hW6
      have HG6 := Lib.hid hG6
      obtain ⟨⟨t0, t1, t2, t3, t4, t5, t6, t7, t8, t9, t10⟩, -⟩ := eleven_at h6.hb
      clear hW6 hG6 h6
      go_wp2_with fail
      rw [← HW6.out]
      refine bodyPost_ret (v := .agg #[.int .i64 2, .int .i64 0, .int .i64 0, .int .i64 0, .int .i64 0, .int .i64 0, .int .i64 0, .int .i64 0, .slice none 0 0, .slice none 0 0, .slice none 0 0]) (by simp [results, Tryz.results58, go_sem, t0, t1, t2, t3, t4, t5, t6, t7, t8, t9, t10]) rfl ?_
      exact (by rw [hdef.out]; exact ⟨own, nil0, nil0, nil0, rfl, TldAt.none _ _ _ rfl rfl rfl, HG6.out.at', HG6.out.go, far0 _⟩)
    · replace hdef := Lib.hid (hdef.out.trans (if_neg hbi))
      rw [decide_eq_false hbi]
      obtain ⟨k, rfl⟩ : ∃ k : Nat, item = k := ⟨item.toNat, by omega⟩
      simp only [Int.toNat_natCast] at hdef
      have hk : k < c.items := by omega
      have HKI := Lib.hid hk
      have hkz : (k : Int) < (c.items : Int) := by omega
      clear hbi
      obtain ⟨k0, k1, k2, k3, k4, k5, k6, k7⟩ := eight_at M1.out.hb
      obtain ⟨b0, b1, b2, b3⟩ := G.out.at'.branch i HI.out
      by_cases hk1 : kind = 1
      · replace hdef := Lib.hid (hdef.out.trans (if_pos hk1))
        have hke : (kind == 1) = true := by rw [hk1]; rfl
        clear hk1 hk6
        by_cases hcn : count < 1 ∨ 1048576 < count
        · replace hdef := Lib.hid (hdef.out.trans (if_pos hcn))
          by_cases hc1 : count < 1
          · have e1 : (count < 1) = True := eq_true hc1
            clear hcn hc1
            go_wp2_with fail
            refine (cNo 2 _).mono ?_
            rintro e w3 ⟨rfl, hb3⟩
            unfold tldC stk0 nil0
            simp only
            have G3 := Lib.hid (G.out.on hb3)
            have M3 := Lib.hid (M2.out.on hb3)
            clear hb3 G M2 M1
            obtain ⟨⟨y0, y1, y2, y3, y4, y5, y6, y7, y8, y9, y10⟩, yf⟩ := eleven_at M3.out.hb
            have yf0 := yf 0
            have yf1 := yf 1
            have yf2 := yf 2
            have yf3 := yf 3
            have yf4 := yf 4
            have yf5 := yf 5
            have yf6 := yf 6
            have yf7 := yf 7
            have yf8 := yf 8
            have yf9 := yf 9
            have yf10 := yf 10
            clear yf
            obtain ⟨W6, hW6⟩ : ∃ xx, xx = put11 w3 (w.heap.size + 1) (.int .i64 2) (.int .i64 0) (.int .i64 0) (.int .i64 0) (.int .i64 0) (.int .i64 0) (.int .i64 0) (.int .i64 0) (.slice none 0 0) (.slice none 0 0) (.slice none 0 0) := ⟨_, rfl⟩
            have h6 := (M3.out).put11 (.int .i64 2) (.int .i64 0) (.int .i64 0) (.int .i64 0) (.int .i64 0) (.int .i64 0) (.int .i64 0) (.int .i64 0) (.slice none 0 0) (.slice none 0 0) (.slice none 0 0)
            have hG6 := (G3.out).set11 (by first | omega | (simp; done) | (simp; omega)) (M3.out).ho (.int .i64 2) (.int .i64 0) (.int .i64 0) (.int .i64 0) (.int .i64 0) (.int .i64 0) (.int .i64 0) (.int .i64 0) (.slice none 0 0) (.slice none 0 0) (.slice none 0 0)
            rw [← hW6] at h6 hG6
            unfold put11 at hW6
            have HW6 := Lib.hid hW6
            have HG6 := Lib.hid hG6
            obtain ⟨⟨t0, t1, t2, t3, t4, t5, t6, t7, t8, t9, t10⟩, -⟩ := eleven_at h6.hb
            clear hW6 hG6 h6
            go_wp2_with fail
            rw [← HW6.out]
            refine bodyPost_ret (v := .agg #[.int .i64 2, .int .i64 0, .int .i64 0, .int .i64 0, .int .i64 0, .int .i64 0, .int .i64 0, .int .i64 0, .slice none 0 0, .slice none 0 0, .slice none 0 0]) (by simp [results, Tryz.results58, go_sem, t0, t1, t2, t3, t4, t5, t6, t7, t8, t9, t10]) rfl ?_
            exact (by rw [hdef.out]; exact ⟨own, nil0, nil0, nil0, rfl, TldAt.none _ _ _ rfl rfl rfl, HG6.out.at', HG6.out.go, far0 _⟩)
          · have e1 : (count < 1) = False := eq_false hc1
            have e2 : (1048576 < count) = True := eq_true (by omega)
            clear hcn hc1
            go_wp2_with fail
            refine (cNo 2 _).mono ?_
            rintro e w3 ⟨rfl, hb3⟩
            unfold tldC stk0 nil0
            simp only
            have G3 := Lib.hid (G.out.on hb3)
            have M3 := Lib.hid (M2.out.on hb3)
            clear hb3 G M2 M1
            obtain ⟨⟨y0, y1, y2, y3, y4, y5, y6, y7, y8, y9, y10⟩, yf⟩ := eleven_at M3.out.hb
            have yf0 := yf 0
            have yf1 := yf 1
            have yf2 := yf 2
            have yf3 := yf 3
            have yf4 := yf 4
            have yf5 := yf 5
            have yf6 := yf 6
            have yf7 := yf 7
            have yf8 := yf 8
            have yf9 := yf 9
            have yf10 := yf 10
            clear yf
            obtain ⟨W6, hW6⟩ : ∃ xx, xx = put11 w3 (w.heap.size + 1) (.int .i64 2) (.int .i64 0) (.int .i64 0) (.int .i64 0) (.int .i64 0) (.int .i64 0) (.int .i64 0) (.int .i64 0) (.slice none 0 0) (.slice none 0 0) (.slice none 0 0) := ⟨_, rfl⟩
            have h6 := (M3.out).put11 (.int .i64 2) (.int .i64 0) (.int .i64 0) (.int .i64 0) (.int .i64 0) (.int .i64 0) (.int .i64 0) (.int .i64 0) (.slice none 0 0) (.slice none 0 0) (.slice none 0 0)
            have hG6 := (G3.out).set11 (by first | omega | (simp; done) | (simp; omega)) (M3.out).ho (.int .i64 2) (.int .i64 0) (.int .i64 0) (.int .i64 0) (.int .i64 0) (.int .i64 0) (.int .i64 0) (.int .i64 0) (.slice none 0 0) (.slice none 0 0) (.slice none 0 0)
            rw [← hW6] at h6 hG6
            unfold put11 at hW6
            have HW6 := Lib.hid hW6
            have HG6 := Lib.hid hG6
            obtain ⟨⟨t0, t1, t2, t3, t4, t5, t6, t7, t8, t9, t10⟩, -⟩ := eleven_at h6.hb
            clear hW6 hG6 h6
            go_wp2_with fail
            rw [← HW6.out]
            refine bodyPost_ret (v := .agg #[.int .i64 2, .int .i64 0, .int .i64 0, .int .i64 0, .int .i64 0, .int .i64 0, .int .i64 0, .int .i64 0, .slice none 0 0, .slice none 0 0, .slice none 0 0]) (by simp [results, Tryz.results58, go_sem, t0, t1, t2, t3, t4, t5, t6, t7, t8, t9, t10]) rfl ?_
            exact (by rw [hdef.out]; exact ⟨own, nil0, nil0, nil0, rfl, TldAt.none _ _ _ rfl rfl rfl, HG6.out.at', HG6.out.go, far0 _⟩)
        · replace hdef := Lib.hid (hdef.out.trans (if_neg hcn))
          have e1 : (count < 1) = False := eq_false (by omega)
          have e2 : (1048576 < count) = False := eq_false (by omega)
          have hak := HOK.out.asks i k HI.out HKI.out
          obtain ⟨z0, zf⟩ := G.out.at'.askCell i k HI.out HKI.out
          have hask := G.out.at'.ask i k HI.out HKI.out (s.asks i k + count)
          have hwr : IntKind.i64.wrap (s.asks i k + count) = s.asks i k + count := IntWalk.i64_in _ (by omega)
          generalize hxx : s.asks i k = x at *
          have HX := Lib.hid hxx
          clear hcn hxx
          go_upto_region 8 with (fail)
          by_cases hov : 1048576 < x + count
          · replace hdef := Lib.hid (hdef.out.trans (if_pos hov))
            have e3 : (1048576 < x + count) = True := eq_true hov
            clear hov hask e1 e2
            go_quiet (fail)
            replace G := Lib.hid (G.out.on (below_drewN (Below.refl _ _) nq))
            replace M2 := Lib.hid (M2.out.on (below_drewN (Below.refl _ _) nq))
            clear k0 k1 k2 k3 k4 k5 k6 k7 b0 b1 b2 b3 z0 zf
            go_wp2_with fail
            refine (cNo 12 _).mono ?_
            rintro e w3 ⟨rfl, hb3⟩
            unfold tldC stk0 nil0
            simp only
            have G3 := Lib.hid (G.out.on hb3)
            have M3 := Lib.hid (M2.out.on hb3)
            clear hb3 G M2 M1
            obtain ⟨⟨y0, y1, y2, y3, y4, y5, y6, y7, y8, y9, y10⟩, yf⟩ := eleven_at M3.out.hb
            have yf0 := yf 0
            have yf1 := yf 1
            have yf2 := yf 2
            have yf3 := yf 3
            have yf4 := yf 4
            have yf5 := yf 5
            have yf6 := yf 6
            have yf7 := yf 7
            have yf8 := yf 8
            have yf9 := yf 9
            have yf10 := yf 10
            clear yf
            obtain ⟨W6, hW6⟩ : ∃ xx, xx = put11 w3 (w.heap.size + 1) (.int .i64 12) (.int .i64 0) (.int .i64 0) (.int .i64 0) (.int .i64 0) (.int .i64 0) (.int .i64 0) (.int .i64 0) (.slice none 0 0) (.slice none 0 0) (.slice none 0 0) := ⟨_, rfl⟩
            have h6 := (M3.out).put11 (.int .i64 12) (.int .i64 0) (.int .i64 0) (.int .i64 0) (.int .i64 0) (.int .i64 0) (.int .i64 0) (.int .i64 0) (.slice none 0 0) (.slice none 0 0) (.slice none 0 0)
            have hG6 := (G3.out).set11 (by first | omega | (simp; done) | (simp; omega)) (M3.out).ho (.int .i64 12) (.int .i64 0) (.int .i64 0) (.int .i64 0) (.int .i64 0) (.int .i64 0) (.int .i64 0) (.int .i64 0) (.slice none 0 0) (.slice none 0 0) (.slice none 0 0)
            rw [← hW6] at h6 hG6
            unfold put11 at hW6
            have HW6 := Lib.hid hW6
            have HG6 := Lib.hid hG6
            obtain ⟨⟨t0, t1, t2, t3, t4, t5, t6, t7, t8, t9, t10⟩, -⟩ := eleven_at h6.hb
            clear hW6 hG6 h6
            go_wp2_with fail
            rw [← HW6.out]
            refine bodyPost_ret (v := .agg #[.int .i64 12, .int .i64 0, .int .i64 0, .int .i64 0, .int .i64 0, .int .i64 0, .int .i64 0, .int .i64 0, .slice none 0 0, .slice none 0 0, .slice none 0 0]) (by simp [results, Tryz.results58, go_sem, t0, t1, t2, t3, t4, t5, t6, t7, t8, t9, t10]) rfl ?_
            exact (by rw [hdef.out]; exact ⟨own, nil0, nil0, nil0, rfl, TldAt.none _ _ _ rfl rfl rfl, HG6.out.at', HG6.out.go, far0 _⟩)
          · replace hdef := Lib.hid (hdef.out.trans (if_neg hov))
            have e3 : (1048576 < x + count) = False := eq_false hov
            clear hov hask e1 e2
            go_quiet (fail)
            have hbq : Below wc.heap.size wc (wc.drewN nq) := below_drewN (Below.refl _ _) _
            obtain ⟨w9, hw9⟩ : ∃ y, y = wc.drewN nq := ⟨_, rfl⟩
            rw [← hw9] at hbq ⊢
            replace G := Lib.hid (G.out.on hbq)
            replace M1 := Lib.hid (M1.out.on hbq)
            replace M2 := Lib.hid (M2.out.on hbq)
            clear k0 k1 k2 k3 k4 k5 k6 k7 b0 b1 b2 b3 z0 zf hbq hw9
            obtain ⟨k0, k1, k2, k3, k4, k5, k6, k7⟩ := eight_at M1.out.hb
            obtain ⟨b0, b1, b2, b3⟩ := G.out.at'.branch i HI.out
            obtain ⟨z0, zf⟩ := G.out.at'.askCell i k HI.out HKI.out
            rw [HX.out] at z0
            obtain ⟨hW5, hU5⟩ := G.out.at'.ask i k HI.out HKI.out (x + count)
            have HW5 := Lib.hid hW5
            have HU5 := Lib.hid hU5
            clear hW5 hU5
            go_upto_region 10 with (fail)
            go_region_law (go_simp)
            all_goals
              have HG := Lib.hid ((G.out.step HW5.out HU5.out).on (Below.drew (Below.refl _ _)))
              have HM := Lib.hid ((M2.out.went HU5.out).on (Below.drew (Below.refl _ _)))
              clear G M1 M2 HW5 HU5 k0 k1 k2 k3 k4 k5 k6 k7 b0 b1 b2 b3 z0 zf
              generalize (w9.setCell ⟨X.A i, k, none⟩ (.int .i64 (x + count))).drew = w5 at *
              obtain ⟨⟨y0, y1, y2, y3, y4, y5, y6, y7, y8, y9, y10⟩, yf⟩ := eleven_at HM.out.hb
              have yf0 := yf 0
              have yf1 := yf 1
              have yf2 := yf 2
              have yf3 := yf 3
              have yf4 := yf 4
              have yf5 := yf 5
              have yf6 := yf 6
              have yf7 := yf 7
              have yf8 := yf 8
              have yf9 := yf 9
              have yf10 := yf 10
              clear yf
              obtain ⟨W6, hW6⟩ : ∃ xx, xx = put11 w5 (w.heap.size + 1) (.int .i64 0) (.int .i64 0) (.int .i64 0) (.int .i64 0) (.int .i64 0) (.int .i64 0) (.int .i64 0) (.int .i64 0) (.slice none 0 0) (.slice none 0 0) (.slice none 0 0) := ⟨_, rfl⟩
              have h6 := (HM.out).put11 (.int .i64 0) (.int .i64 0) (.int .i64 0) (.int .i64 0) (.int .i64 0) (.int .i64 0) (.int .i64 0) (.int .i64 0) (.slice none 0 0) (.slice none 0 0) (.slice none 0 0)
              have hG6 := (HG.out).set11 (by first | omega | (simp; done) | (simp; omega)) (HM.out).ho (.int .i64 0) (.int .i64 0) (.int .i64 0) (.int .i64 0) (.int .i64 0) (.int .i64 0) (.int .i64 0) (.int .i64 0) (.slice none 0 0) (.slice none 0 0) (.slice none 0 0)
              rw [← hW6] at h6 hG6
              unfold put11 at hW6
              have HW6 := Lib.hid hW6
              have HG6 := Lib.hid hG6
              obtain ⟨⟨t0, t1, t2, t3, t4, t5, t6, t7, t8, t9, t10⟩, -⟩ := eleven_at h6.hb
              clear hW6 hG6 h6
              go_wp2_with fail
              rw [← HW6.out]
              refine bodyPost_ret (v := .agg #[.int .i64 0, .int .i64 0, .int .i64 0, .int .i64 0, .int .i64 0, .int .i64 0, .int .i64 0, .int .i64 0, .slice none 0 0, .slice none 0 0, .slice none 0 0]) (by simp [results, Tryz.results58, go_sem, t0, t1, t2, t3, t4, t5, t6, t7, t8, t9, t10]) rfl ?_
              exact (by rw [hdef.out]; exact ⟨own, nil0, nil0, nil0, rfl, TldAt.none _ _ _ rfl rfl rfl, HG6.out.at', HG6.out.go, far0 _⟩)
      · replace hdef := Lib.hid (hdef.out.trans (if_neg hk1))
        obtain ⟨q, hq, rfl⟩ : ∃ q : Nat, q < 5 ∧ kind = (q : Int) + 2 := ⟨(kind - 2).toNat, by omega, by omega⟩
        have hke : (((q : Int) + 2) == 1) = false := by rw [beq_eq_false_iff_ne]; omega
        have hwr : IntKind.i64.wrap ((q : Int) + 2 - 2) = (q : Int) := by rw [IntWalk.i64_in _ (by omega)]; omega
        have hqz : (q : Int) < 5 := by omega
        have hwr2 : IntKind.i64.wrap (q : Int) = (q : Int) := IntWalk.i64_in _ (by omega)
        have z0 := ordv G.out.at'.fix.od hq
        have hmd := HOK.out.made i k HI.out HKI.out
        have CD : Hid (∀ Y, Below wc.heap.size wc Y → _) := fun Y hY => cDoW (G.out.on hY).at' i k HI.out HKI.out ⟨(q : Int) + 2, count, life, id⟩ (by simp only; omega) (by omega)
        simp only [Ord.val] at CD
        have hdd : Hid (s.client c i ⟨(q : Int) + 2, i, (k : Int), count, life, id, label, key⟩ = ({ noT ((s.sh i k).out ⟨(q : Int) + 2, count, life, id⟩).code with stk := { ((s.sh i k).out ⟨(q : Int) + 2, count, life, id⟩) with code := 0 } }, { s with sh := upd2 s.sh i k ((s.sh i k).next ⟨(q : Int) + 2, count, life, id⟩) })) := hdef.out
        rcases hxo : (s.sh i k).out ⟨(q : Int) + 2, count, life, id⟩ with ⟨xc, xi, xf, xh, xu⟩
        rw [hxo] at CD hdd
        generalize (s.sh i k).next ⟨(q : Int) + 2, count, life, id⟩ = sh' at *
        simp only [Stk.val] at CD
        simp only at hdd
        clear hxo hdef hmd hk1 hk6
        have l1 := World.block_lt_of_cell? wc _ k7
        have l2 := World.block_lt_of_cell? wc _ b3
        have l3 := World.block_lt_of_cell? wc _ z0
        have PL : w.heap.size + 1 < wc.heap.size := M2.out.lt
        have e1 : w.heap.size ≠ wc.heap.size := by omega
        have e2 : X.B i ≠ wc.heap.size := by simp only at l2; omega
        have e3 : 0 ≠ wc.heap.size := by omega
        go_upto_region 12 with (fail)
        go_cut [7] (fun v wx => ∃ g own5, v = .pointer (some ⟨g, 0, none⟩) ∧ Hid (Gone w own wx c X own5 N { s with sh := upd2 s.sh i k sh' }) ∧ Hid (Mine own5 wx (w.heap.size + 1) (.cells #[.int .i64 0, .int .i64 0, .int .i64 0, .int .i64 0, .int .i64 0, .int .i64 0, .int .i64 0, .int .i64 0, .slice none 0 0, .slice none 0 0, .slice none 0 0] 57 (0, 0))) ∧ Hid (Mine own5 wx g (.cells #[.int .i64 xc, .int .i64 xi, .int .i64 xf, .int .i64 xh, .int .i64 xu] 37 (0, 0))) ∧ Hid (w.heap.size + 1 < g))
        case first =>
          go_region_held3 (fun Z => Z.cell? ⟨w.heap.size, 0, none⟩ = some (.int .i64 ((q : Int) + 2)) ∧ Z.cell? ⟨w.heap.size, 2, none⟩ = some (.int .i64 k) ∧ Z.cell? ⟨w.heap.size, 3, none⟩ = some (.int .i64 count) ∧ Z.cell? ⟨w.heap.size, 4, none⟩ = some (.int .i64 life) ∧ Z.cell? ⟨w.heap.size, 5, none⟩ = some (.int .i64 id) ∧ Z.cell? ⟨X.B i, 0, none⟩ = some (.slice (some ⟨X.S i, 0, none⟩) c.items c.items) ∧ Z.cell? ⟨0, q, none⟩ = some (.int .i64 ((q : Int) + 2)))
            (first | with_reducible exact ⟨k0, k2, k3, k4, k5, b0, z0⟩ | with_reducible exact ⟨q0, q2, q3, q4, q5, d0, y0⟩ | with_reducible exact ⟨far5 e1 q0, far5 e1 q2, far5 e1 q3, far5 e1 q4, far5 e1 q5, far5 e2 d0, far5 e3 y0⟩ | with_reducible exact ⟨cell_on hb6 q0, cell_on hb6 q2, cell_on hb6 q3, cell_on hb6 q4, cell_on hb6 q5, cell_on hb6 d0, cell_on hb6 y0⟩ | go_keep)
            ((go_at_call 62; refine (CD.out _ (by repeat (first | exact Below.refl _ _ | refine Below.drew ?_ | refine Below.alloc ?_ (by first | (simp; done) | (simp; omega)) _ | refine Below.setCell ?_ (by first | (simp; done) | (simp; omega)) _))).mono ?_; rintro e w5 ⟨rfl, own5, hW5, hU5⟩; have HG5 := Lib.hid ((G.out.on (by repeat (first | exact Below.refl _ _ | refine Below.drew ?_ | refine Below.alloc ?_ (by first | (simp; done) | (simp; omega)) _ | refine Below.setCell ?_ (by first | (simp; done) | (simp; omega)) _))).step hW5 hU5); have HM5 := Lib.hid ((M2.out.on (by repeat (first | exact Below.refl _ _ | refine Below.drew ?_ | refine Below.alloc ?_ (by first | (simp; done) | (simp; omega)) _ | refine Below.setCell ?_ (by first | (simp; done) | (simp; omega)) _))).went hU5); obtain ⟨q0, -, q2, q3, q4, q5, -, -⟩ := eight_at ((M1.out.on (by repeat (first | exact Below.refl _ _ | refine Below.drew ?_ | refine Below.alloc ?_ (by first | (simp; done) | (simp; omega)) _ | refine Below.setCell ?_ (by first | (simp; done) | (simp; omega)) _))).went hU5).hb; obtain ⟨d0, -, -, -⟩ := hW5.branch i HI.out; have y0 := ordv hW5.fix.od hq; have hb6 : Below w5.heap.size w5 (w5.alloc (.cells #[.int .i64 xc, .int .i64 xi, .int .i64 xf, .int .i64 xh, .int .i64 xu] 37)) := (Below.refl _ _).alloc (Nat.le_refl _) _; have hL5 : wc.heap.size ≤ w5.heap.size := Nat.le_trans (Below.size (B := wc.heap.size) (by repeat (first | exact Below.refl _ _ | refine Below.drew ?_ | refine Below.alloc ?_ (by first | (simp; done) | (simp; omega)) _ | refine Below.setCell ?_ (by first | (simp; done) | (simp; omega)) _))) hU5.wr.size; try (have hn := mine_new (o := .cells #[.int .i64 0, .int .i64 0, .int .i64 0, .int .i64 0, .int .i64 0] 37 (0, 0)) G.out (by repeat (first | exact Below.refl _ _ | refine Below.drew ?_ | refine Below.alloc ?_ (by first | (simp; done) | (simp; omega)) _ | refine Below.setCell ?_ (by first | (simp; done) | (simp; omega)) _)) (by first | exact heap_alloc_new _ _ | (simp only [heap_drew, heap_drewN]; exact heap_alloc_new _ _)) hU5; obtain ⟨⟨n0, n1, n2, n3, n4⟩, nf⟩ := five_at hn.hb; have nf0 := nf 0; have nf1 := nf 1; have nf2 := nf 2; have nf3 := nf 3; have nf4 := nf 4; have Hn := Lib.hid hn; clear nf hn); clear hW5 hU5))
          all_goals
            go_wp2_with fail
            go_meet
            first
            | exact ⟨_, _, rfl, (box_set HG5.out HM5.out Hn.out (by omega) (by omega) _ _ _ _ _).1, (box_set HG5.out HM5.out Hn.out (by omega) (by omega) _ _ _ _ _).2.1, (box_set HG5.out HM5.out Hn.out (by omega) (by omega) _ _ _ _ _).2.2, PL⟩
            | exact ⟨_, _, rfl, (box_new HG5.out HM5.out _ _ _ _ _ _).1, (box_new HG5.out HM5.out _ _ _ _ _ _).2.1, (box_new HG5.out HM5.out _ _ _ _ _ _).2.2, Nat.lt_of_lt_of_le PL hL5⟩
        case rest =>
        obtain ⟨g, own5, rfl, G5, M5, N5, L5⟩ := hcut
        clear CD G M1 M2
        have PL5 := L5.out
        obtain ⟨⟨n0, n1, n2, n3, n4⟩, -⟩ := five_at N5.out.hb
        have hb7 : Below wc.heap.size wc (wc.alloc (.cells #[.int .i64 xc, .int .i64 0, .int .i64 xc, .int .i64 xi, .int .i64 xf, .int .i64 xh, .int .i64 xu, .int .i64 0, .slice none 0 0, .slice none 0 0, .slice none 0 0] 57)) := (Below.refl _ _).alloc (Nat.le_refl _) _
        have G7 := G5.out.on hb7
        have M7 := M5.out.on hb7
        have N7 : Mine own5 _ wc.heap.size _ := ⟨G5.out.none (Nat.le_refl _), heap_alloc_new wc (.cells #[.int .i64 xc, .int .i64 0, .int .i64 xc, .int .i64 xi, .int .i64 xf, .int .i64 xh, .int .i64 xu, .int .i64 0, .slice none 0 0, .slice none 0 0, .slice none 0 0] 57)⟩
        have lw : w.heap.size + 1 < wc.heap.size := M5.out.lt
        have HG := Lib.hid (G7.set (b := wc.heap.size) (by omega) N7.ho 2 (.int .i64 0))
        have HM := Lib.hid (M7.other (p := ⟨wc.heap.size, 2, none⟩) (by simp only; omega) (.int .i64 0))
        have HN := Lib.hid (N7.set (r := (0, 0)) 2 (.int .i64 0))
        obtain ⟨⟨u0, u1, u2, u3, u4, u5, u6, u7, u8, u9, u10⟩, uf⟩ := eleven_at N7.hb
        have uf2 := uf 2
        simp only [Array.setIfInBounds, List.set] at HN
        clear hb7 G7 M7 N7 G5 M5 N5 L5 uf
        go_upto_region 14 with (fail)
        generalize (wc.alloc (.cells #[.int .i64 xc, .int .i64 0, .int .i64 xc, .int .i64 xi, .int .i64 xf, .int .i64 xh, .int .i64 xu, .int .i64 0, .slice none 0 0, .slice none 0 0, .slice none 0 0] 57)) = W7 at *
        go_upto_region 15 with (fail)
        generalize W7.setCell ⟨wc.heap.size, 2, none⟩ (.int .i64 0) = W8 at *
        clear n0 n1 n2 n3 n4 u0 u1 u2 u3 u4 u5 u6 u7 u8 u9 u10 uf2
        obtain ⟨⟨z0, z1, z2, z3, z4, z5, z6, z7, z8, z9, z10⟩, zf⟩ := eleven_at HN.out.hb
        have zf0 := zf 0
        have zf1 := zf 1
        have zf2 := zf 2
        have zf3 := zf 3
        have zf4 := zf 4
        have zf5 := zf 5
        have zf6 := zf 6
        have zf7 := zf 7
        have zf8 := zf 8
        have zf9 := zf 9
        have zf10 := zf 10
        clear zf
        obtain ⟨⟨y0, y1, y2, y3, y4, y5, y6, y7, y8, y9, y10⟩, yf⟩ := eleven_at HM.out.hb
        have yf0 := yf 0
        have yf1 := yf 1
        have yf2 := yf 2
        have yf3 := yf 3
        have yf4 := yf 4
        have yf5 := yf 5
        have yf6 := yf 6
        have yf7 := yf 7
        have yf8 := yf 8
        have yf9 := yf 9
        have yf10 := yf 10
        clear yf
        obtain ⟨W6, hW6⟩ : ∃ xx, xx = put11 W8 (w.heap.size + 1) (.int .i64 xc) (.int .i64 0) (.int .i64 0) (.int .i64 xi) (.int .i64 xf) (.int .i64 xh) (.int .i64 xu) (.int .i64 0) (.slice none 0 0) (.slice none 0 0) (.slice none 0 0) := ⟨_, rfl⟩
        have h6 := (HM.out).put11 (.int .i64 xc) (.int .i64 0) (.int .i64 0) (.int .i64 xi) (.int .i64 xf) (.int .i64 xh) (.int .i64 xu) (.int .i64 0) (.slice none 0 0) (.slice none 0 0) (.slice none 0 0)
        have hG6 := (HG.out).set11 (by first | omega | (simp; done) | (simp; omega)) (HM.out).ho (.int .i64 xc) (.int .i64 0) (.int .i64 0) (.int .i64 xi) (.int .i64 xf) (.int .i64 xh) (.int .i64 xu) (.int .i64 0) (.slice none 0 0) (.slice none 0 0) (.slice none 0 0)
        rw [← hW6] at h6 hG6
        unfold put11 at hW6
        have HW6 := Lib.hid hW6
        have HG6 := Lib.hid hG6
        obtain ⟨⟨t0, t1, t2, t3, t4, t5, t6, t7, t8, t9, t10⟩, -⟩ := eleven_at h6.hb
        clear hW6 hG6 h6
        go_wp2_with fail
        rw [← HW6.out]
        refine bodyPost_ret (v := .agg #[.int .i64 xc, .int .i64 0, .int .i64 0, .int .i64 xi, .int .i64 xf, .int .i64 xh, .int .i64 xu, .int .i64 0, .slice none 0 0, .slice none 0 0, .slice none 0 0]) (by simp [results, Tryz.results58, go_sem, t0, t1, t2, t3, t4, t5, t6, t7, t8, t9, t10]) rfl ?_
        exact (by rw [hdd.out]; exact ⟨own5, nil0, nil0, nil0, rfl, TldAt.none _ _ _ rfl rfl rfl, HG6.out.at', HG6.out.go, far0 _⟩)
end Go.Proofs.YtjdedflfdlhkdaaGreatDoor

namespace Go.Proofs.YtjdedflfdlhkdaaGreatDoor
open Go.ChangeShapes Go.WideShapes Go.ChangeAt Go.RowKit
set_option linter.unusedVariables false
set_option linter.unusedSimpArgs false

theorem Stepped.more {w : World} {c : Cfg} {X : Adr} {own : Own} {N M : Nat} {r : Tld × Wld} {e : Ending} {w' : World} (h : Stepped w c X own N r e w') (hM : N ≤ M) : Stepped w c X own M r e w' := by
  obtain ⟨own', sv, fv, rv, h1, h2, h3, h4⟩ := h
  exact ⟨own', sv, fv, rv, h1, h2, h3.moreN hM, h4⟩
theorem due_three (s : Wld) (i : Nat) (hi : i < s.ls.length) : s.due i = 0 ∨ s.due i = 10 := by
  unfold Wld.due
  rw [if_neg (by omega)]
  split
  · exact .inr rfl
  · exact .inl rfl
theorem cDeliver {w : World} {c : Cfg} {X : Adr} {own : Own} {N K : Nat} {s : Wld} (hc : c.Ok) (h : WAt w c X own N s) (hok : WOk c K s) (hK : K ≤ 1000) (hN : N ≤ 999900) (id : Int) :
    Calls Tryz.prog 55 #[.pointer (some ⟨X.W, 0, none⟩), .int .i64 id] w (Stepped w c X own (N + 20) (s.deliver c id)) := by
  by_cases hr : id < 0 ∨ (s.ls.length : Int) ≤ id
  · exact (cDelNone h id hr).mono fun e w' q => q.more (by omega)
  · obtain ⟨i, rfl⟩ : ∃ i : Nat, id = i := ⟨id.toNat, by omega⟩
    have hi : i < s.ls.length := by omega
    rcases due_three s i hi with hd | hd
    · exact (cDelOk hc h hok hK (by omega) i hi hd).mono fun e w' q => q.more (by omega)
    · exact (cDelOld h (by omega) i hi hd).mono fun e w' q => q.more (by omega)
theorem cStepW {w : World} {c : Cfg} {X : Adr} {own : Own} {N K : Nat} {s : Wld} (hc : c.Ok) (h : WAt w c X own N s) (hok : WOk c K s) (hK : K ≤ 1000) (hN : N ≤ 999900) (p : Stp) :
    Calls Tryz.prog 45 #[.pointer (some ⟨X.W, 0, none⟩), p.val] w (Stepped w c X own (N + 20) (s.step c p)) :=
  cStep hc h hok hK hN p (fun _ Y own hY => cTick hc hY hok hK hN) (fun _ Y own hY => cDeliver hc hY hok hK hN p.id)
    (fun hk i hi hw Y own hY => (cClient hc hY hok hK i hi p hw hk fun hk2 Z own2 hZ => cEntry hc hZ hok (by omega) i hi p hw hk2).mono fun e w' q => q.more (by omega))
end Go.Proofs.YtjdedflfdlhkdaaGreatDoor
