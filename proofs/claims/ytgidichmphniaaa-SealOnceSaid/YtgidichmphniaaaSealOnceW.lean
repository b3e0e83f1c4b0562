/- SealOnce: the walk. -/
import Derived.Test.YtgidichmphniaaaOnceL
import Derived.Test.YtgidichmphniaaaLetters
namespace Go.Proofs.Ytgidichmphniaaa.sealOnce
open Go.ChangeShapes Go.WideShapes Go.ChangeAt Go.RowKit
set_option linter.unusedVariables false
set_option linter.unusedSimpArgs false

theorem csameB (v1 v2 : Value) (E : List Nat) (w : World) (h1 : Has w 1 v1 E.length (u8s E)) (h2 : Has w 1 v2 E.length (u8s E)) :
    Calls Try.prog 9 #[v1, v2] w fun e w' => e = .returned (.bool true) ∧ Below w.heap.size w w' :=
  (csameBytes v1 v2 E E w h1 h2).mono fun _ _ h => by simpa using h
set_option maxRecDepth 100000 in
set_option maxHeartbeats 8000000 in
theorem walk (w : World) (v0 : Value) (ml : List ML) (A0 : ∃ l : List Ml, Has w 5 v0 l.length (mls ml) ∧ Both (MlAt w) ml l) :
    Calls Try.prog 3 #[v0] w fun e w' => e = .returned (.bool true) ∧ Below w.heap.size w w' := by
  obtain ⟨ll, A1, A2⟩ := A0
  have CL := Lib.hid (cLetters v0 ml ll w A1 A2)
  have hok := lettersOf_ok ll
  have hl60 := lettersOf_len ll
  generalize lettersOf ll = l at *
  have Hok := Lib.hid hok
  clear A1 A2 hok
  go_enter Try.func3, Try.ntmps3
  go_wp2_with fail
  refine CL.out.mono ?_
  rintro e w1 ⟨vl, lv, rfl, hown, hB, hb1⟩
  obtain ⟨al, cl, rfl⟩ := owns_slice hown
  have HL := Lib.hid (Has.of_owns hown)
  have HB := Lib.hid hB
  have Hb1 := Lib.hid hb1
  clear hown hB hb1 CL
  have CM := Lib.hid (cmailed _ lv l w1 HL.out HB.out Hok.out (by omega))
  go_wp2_with fail
  refine CM.out.mono ?_
  rintro e w2 ⟨va, oa, rfl, hown, hA, hb2⟩
  have HOa := Lib.hid hown
  have HA := Lib.hid hA
  have HL2 := Lib.hid (HL.out.below hb2)
  have HB2 := Lib.hid (both_on HB.out hb2)
  have Hw2 : Hid (Below w.heap.size w w2) := Hb1.out.trans (hb2.mono Hb1.out.size)
  clear hown hA hb2 CM HL HB Hb1
  go_wp2_with fail
  refine (csealSure w2).mono ?_
  rintro e w5 ⟨rfl, hb5⟩
  have HO5 := Lib.hid (owns_below HOa.out hb5)
  have HA5 := Lib.hid (outs_on HA.out hb5)
  have HL5 := Lib.hid (HL2.out.below hb5)
  have HB5 := Lib.hid (both_on HB2.out hb5)
  have Hw5 : Hid (Below w.heap.size w w5) := Hw2.out.trans (hb5.mono Hw2.out.size)
  clear hb5 HOa HA HL2 HB2 Hw2
  have hcap : l.length ≤ cl ∧ cl ≤ maxLen := by
    obtain ⟨_, _, _, he, h1, h2, _⟩ := HL5.out
    simp only [Value.slice.injEq] at he
    obtain ⟨-, -, rfl⟩ := he
    exact ⟨h1, h2⟩
  have LG : Hid (∀ (X : World), Below w5.heap.size w5 X → ∀ k (hk : k < l.length), ∃ b off ad cd, al = some ⟨b, off, none⟩ ∧ ((X.cell? ⟨b, off + k * 5, none⟩ = some (.int .i64 l[k].kind) ∧ X.cell? ⟨b, off + k * 5 + 1, none⟩ = some (.int .i64 l[k].f)) ∧ (X.cell? ⟨b, off + k * 5 + 2, none⟩ = some (.int .i64 l[k].t) ∧ X.cell? ⟨b, off + k * 5 + 3, none⟩ = some (.int .i64 l[k].id)) ∧ X.cell? ⟨b, off + k * 5 + 4, none⟩ = some (.slice ad l[k].d.length cd)) ∧
      HasT X 5 1 (.slice ad l[k].d.length cd) l[k].d.length (u8s l[k].d)) := fun X hX k hk => by
    obtain ⟨b, off, ad, cd, rfl, ⟨⟨x0, x1⟩, ⟨x2, x3⟩, x4⟩, hd⟩ := mv_get HL5.out HB5.out k hk
    exact ⟨b, off, ad, cd, rfl, ⟨⟨cell_on hX x0, cell_on hX x1⟩, ⟨cell_on hX x2, cell_on hX x3⟩, cell_on hX x4⟩, hd.below hX⟩
  have OG : Hid (∀ (X : World), Below w5.heap.size w5 X → ∀ k (hk : k < l.length), ∃ g cap a c, va = .slice (some ⟨g, 0, none⟩) l.length cap ∧ (l.length ≤ cap ∧ cap ≤ maxLen) ∧ ((X.cell? ⟨g, k * 4, none⟩ = some (.int .i64 ((offFold (l.take k)).1.out l[k]).code) ∧ X.cell? ⟨g, k * 4 + 1, none⟩ = some (.int .i64 ((offFold (l.take k)).1.out l[k]).id)) ∧ X.cell? ⟨g, k * 4 + 2, none⟩ = some (.int .i64 ((offFold (l.take k)).1.out l[k]).size) ∧ X.cell? ⟨g, k * 4 + 3, none⟩ = some (.slice a ((offFold (l.take k)).1.out l[k]).d.length c)) ∧
      HasT X 5 1 (.slice a ((offFold (l.take k)).1.out l[k]).d.length c) ((offFold (l.take k)).1.out l[k]).d.length (u8s ((offFold (l.take k)).1.out l[k]).d)) := fun X hX k hk => by
    have hk2 : k < (sOuts l).length := by rw [sOuts_length]; exact hk
    obtain ⟨g, cap, a, c, hv, hc, ⟨⟨x0, x1⟩, x2, x3⟩, hd⟩ := ov_get HO5.out HA5.out (sOuts_length l) k hk2
    have e : (sOuts l)[k] = (offFold (l.take k)).1.out l[k] := by
      have h := sOuts_get l k hk
      rw [List.getElem?_eq_getElem hk2] at h
      exact Option.some.inj h
    rw [e] at x0 x1 x2 x3 hd
    exact ⟨g, cap, a, c, hv, hc, ⟨⟨cell_on hX x0, cell_on hX x1⟩, cell_on hX x2, cell_on hX x3⟩, hd.below hX⟩
  obtain ⟨hcl1, hcl2⟩ := hcap
  unfold maxLen at hcl2
  clear HO5 HA5 HL5 HB5
  go_wp2_with fail
  go_loopw [6, 7] (fun vP i wr => ∃ (k : Nat) (P : List Int), k ≤ l.length ∧ i = .int .i64 k ∧ OnceAt l k P ∧ wr.ownsRow w5.heap.size 3 1 vP P.length (ints P) ∧ Below w5.heap.size w5 wr) (fun _ i _ => l.length - (intOf i).toNat)
  case atStart => exact ⟨0, [], by omega, rfl, OnceAt.start l, World.ownsRow_nil _ _ _ _, Below.refl _ _⟩
  case round =>
    obtain ⟨k, P, hk, rfl, hO, hP, hb⟩ := hrel
    obtain ⟨aP, cP, rfl⟩ := owns_slice hP
    have HO := Lib.hid hO
    have HP := Lib.hid hP
    have Hb := Lib.hid hb
    have hPk := hO.le
    have hszb := hb.size
    by_cases hlt : k < l.length
    · obtain ⟨b, off, xa, xc, rfl, ⟨⟨x0, x1⟩, ⟨x2, x3⟩, x4⟩, hxd⟩ := LG.out wr hb k hlt
      obtain ⟨g, cap, oa, oc, rfl, ⟨hc1, hc2⟩, ⟨⟨o0, o1⟩, o2, o3⟩, hod⟩ := OG.out wr hb k hlt
      unfold maxLen at hc2
      have hbl := World.block_lt_of_cell? wr _ x0
      have hgl := World.block_lt_of_cell? wr _ o0
      have hkind := (Hok.out _ (List.getElem_mem hlt)).1
      clear hb hO hP
      by_cases c1 : l[k].kind = 1
      · have Hn := Lib.hid (HO.out.post hlt c1)
        have hl := HO.out.len
        rw [post_out c1, ← hl] at o0 o1 o2 o3
        simp only [List.length_nil] at o3
        have d1 : (l[k].kind == 1) = true := by simpa using c1
        clear hxd hod hkind c1 hl
        generalize l[k].kind = xk at *
        generalize l[k].d = xd at *
        go_upto_region 10 with (fail)
        go_quiet (fail)
        clear x0 x1 x2 x3 x4 o0 o1 o2 o3 d1
        have hbn : Below wr.heap.size wr (wr.drewN nq) := below_drewN (Below.refl _ _) _
        have HPn := Lib.hid (owns_below HP.out hbn)
        have Hbn := Lib.hid (Hb.out.trans (hbn.mono hszb))
        have hszn : w5.heap.size ≤ (wr.drewN nq).heap.size := hszb
        clear hbn hszb
        generalize wr.drewN nq = W at *
        go_wp2_with (at_builtin; refine wp_app1 (w0 := W) 29 3 1 8 _ elInt Try.underlying29 w5.heap.size _ _ _ HPn.out (by repeat (first | exact Below.refl _ _ | refine Below.drew ?_ | refine Below.alloc ?_ (by first | (simp; done) | (simp; omega)) _ | refine Below.setCell ?_ (by first | (simp; done) | (simp; omega)) _)) [.int .i64 k] rfl _ _ rfl rfl rfl (by first | exact heap_alloc_new _ _ | (simp only [heap_drew, heap_drewN]; exact heap_alloc_new _ _)) (by simp) rfl rfl (by omega) (by omega) hszn ?_; intro v7 w7 hown7 hgrow7 hb7)
        go_roundw
        case rel => exact ⟨k + 1, P ++ [(k : Int)], by omega, by go_num, Hn.out, by rw [List.length_append, ← ints_snoc]; exact hown7, Hbn.out.trans hb7⟩
        case measure => simp [intOf]; omega
      · have d1 : (l[k].kind == 1) = false := by simpa using c1
        by_cases c2 : ((offFold (l.take k)).1.out l[k]).code = 0
        · obtain ⟨j, i, hi, hid, hjP, hPj, hik, ht, hd, ha⟩ := HO.out.opened hlt c1 c2
          have Hn := Lib.hid (HO.out.good hlt c1 c2)
          have Hap := Lib.hid (fun m hm hmk hm1 hcm hge => HO.out.apart hlt c1 c2 m hm hmk hm1 hcm hge)
          rw [ha] at Hap
          have hid' : Hid (l[k].id = (j : Int)) := hid
          obtain ⟨gP, cP', he, -, -, -, hPc⟩ := owns_some HP.out (by omega)
          simp only [Value.slice.injEq] at he
          obtain ⟨rfl, -, rfl⟩ := he
          obtain ⟨_, _, _, he, hP1, hP2, _⟩ := Has.of_owns HP.out
          simp only [Value.slice.injEq] at he
          obtain ⟨-, -, rfl⟩ := he
          unfold maxLen at hP2
          have t0 := hPc j (.int .i64 i) (by unfold ints; rw [List.getElem?_map, hPj]; rfl)
          obtain ⟨b', off', ya, yc, he, ⟨⟨y0, y1⟩, ⟨y2, y3⟩, y4⟩, hyd⟩ := LG.out wr Hb.out i hi
          simp only [Option.some.injEq, Addr.mk.injEq, and_true] at he
          obtain ⟨rfl, rfl⟩ := he
          rw [← ht] at x2
          rw [← hd] at o3 hod
          rw [c2] at o0
          rw [hid] at x3
          have hii : (i : Int) < l.length := by omega
          have hjj : (j : Int) < P.length := by omega
          have hyl : (l[i].d.length : Int) = l[i].d.length := rfl
          have Hyd := Lib.hid hyd
          have Hod := Lib.hid hod
          clear hxd hod hyd hkind c1 c2 hid hd ht ha hPc hPj hyl
          generalize l[k].kind = xk at *
          have hzz : Hid (l[i].ltr.f = l[i].f ∧ l[i].ltr.t = l[i].t) := ⟨rfl, rfl⟩
          go_upto_region 19 with (fail)
          have hX := heap_alloc_new wr (.cells #[.int .i64 l[i].kind, .int .i64 l[i].f, .int .i64 l[i].t, .int .i64 l[i].id, .slice ya l[i].d.length yc] 32)
          obtain ⟨⟨z0, z1⟩, ⟨z2, z3⟩, z4⟩ := cells5 hX
          have hA : Below wr.heap.size wr (wr.alloc (.cells #[.int .i64 l[i].kind, .int .i64 l[i].f, .int .i64 l[i].t, .int .i64 l[i].id, .slice ya l[i].d.length yc] 32)) := (Below.refl _ _).alloc (Nat.le_refl _) _
          have CS : Hid (∀ X : Ext (wr.alloc (.cells #[.int .i64 l[i].kind, .int .i64 l[i].f, .int .i64 l[i].t, .int .i64 l[i].id, .slice ya l[i].d.length yc] 32)), Calls Try.prog 9 #[.slice ya l[i].d.length yc, .slice oa l[i].d.length oc] X.1 fun e w' => e = .returned (.bool true) ∧ Below X.1.heap.size X.1 w') := fun X => csameB _ _ l[i].d X.1 ((Hyd.out.below hA).below X.2).has ((Hod.out.below hA).below X.2).has
          have p1 := ext_cell z1
          have p2 := ext_cell z2
          have p4 := ext_cell z4
          have r2 := ext_cell (cell_on hA x2)
          have r3 := ext_cell (cell_on hA o3)
          have HA := Lib.hid hA
          have Z1 := Lib.hid z1
          have Z2 := Lib.hid z2
          clear x0 x1 x2 x3 x4 o0 o1 o2 o3 y0 y1 y2 y3 y4 z0 z1 z2 z3 z4 t0 hX hA Hyd Hod
          refine wp_region_grow (by kernel_rfl) (by kernel_rfl) ?_
          repeat (go_big_quiet_step ((go_at_call 9; with_reducible exact grow_of (CS.out _))))
          refine wpQuiet_nil ?_
          intro w8 hb8
          have z1 := Lib.hid (cell_on hb8 Z1.out)
          have z2 := Lib.hid (cell_on hb8 Z2.out)
          have Hb8w : Hid (Below wr.heap.size wr w8) := HA.out.trans (hb8.mono HA.out.size)
          have Hb8 : Hid (Below w5.heap.size w5 w8) := Hb.out.trans (Hb8w.out.mono Hb.out.size)
          have HP8 := Lib.hid (owns_below HP.out Hb8w.out)
          generalize wr.heap.size = NN at *
          clear p1 p2 p4 r2 r3 hb8 CS Z1 Z2 HA HP Hb Hb8w
          go_wp2_with fail
          go_loopw [9] (fun i wr => ∃ m : Nat, m ≤ k ∧ i = .int .i64 m ∧ Below w8.heap.size w8 wr) (fun i _ => k - (intOf i).toNat)
          case atStart => exact ⟨0, by omega, rfl, Below.refl _ _⟩
          case round =>
            obtain ⟨m, hm, rfl, hbm⟩ := hrel
            have Hbm := Lib.hid hbm
            by_cases hmk : m < k
            · have hml : m < l.length := by omega
              have hbx := Hb8.out.trans (hbm.mono Hb8.out.size)
              obtain ⟨b', off', ma, mc, he, ⟨⟨m0, m1⟩, ⟨m2, m3⟩, m4⟩, -⟩ := LG.out wr hbx m hml
              simp only [Option.some.injEq, Addr.mk.injEq, and_true] at he
              obtain ⟨rfl, rfl⟩ := he
              obtain ⟨b', off', ka, kc, he, ⟨-, ⟨-, k3⟩, -⟩, -⟩ := LG.out wr hbx k hlt
              simp only [Option.some.injEq, Addr.mk.injEq, and_true] at he
              obtain ⟨rfl, rfl⟩ := he
              obtain ⟨g', cap', na, nc, he, -, ⟨⟨n0, n1⟩, n2, n3⟩, -⟩ := OG.out wr hbx m hml
              simp only [Value.slice.injEq, Option.some.injEq, Addr.mk.injEq, and_true, true_and] at he
              obtain ⟨rfl, rfl⟩ := he
              rw [hid'.out] at k3
              have hkm := (Hok.out _ (List.getElem_mem hml)).1
              have Hap2 := Lib.hid (Hap.out m hml hmk)
              have HbX := Lib.hid hbx
              have q1 := cell_on hbm z1.out
              have q2 := cell_on hbm z2.out
              have HP9 := Lib.hid (owns_below HP8.out hbm)
              clear hbm hbx
              by_cases e1 : l[m].kind = 2
              · by_cases e2 : ((offFold (l.take m)).1.out l[m]).code = 0
                · by_cases e3 : (j : Int) ≤ l[m].id
                  · obtain ⟨j', i', hi', r1, r2, r3, r4⟩ := Hap2.out (by omega) e2 (by rw [hid'.out]; exact e3)
                    obtain ⟨gQ, cQ, he, -, -, -, hPc⟩ := owns_some HP9.out (by omega)
                    simp only [Value.slice.injEq, Option.some.injEq, Addr.mk.injEq, and_true, true_and] at he
                    obtain ⟨rfl, rfl⟩ := he
                    have t0 := hPc j' (.int .i64 i') (by unfold ints; rw [List.getElem?_map, r3]; rfl)
                    obtain ⟨b', off', ja, jc, he, ⟨⟨j0, j1⟩, ⟨j2, j3⟩, j4⟩, -⟩ := LG.out wr HbX.out i' hi'
                    simp only [Option.some.injEq, Addr.mk.injEq, and_true] at he
                    obtain ⟨rfl, rfl⟩ := he
                    rw [hzz.out.1, hzz.out.2] at r4
                    rw [e1] at m0
                    rw [e2] at n0
                    rw [r1] at m3 e3
                    have hjm : (j' : Int) < P.length := by omega
                    have him : (i' : Int) < l.length := by omega
                    have hge : decide ((j : Int) ≤ (j' : Int)) = true := by simpa using e3
                    have hge2 : decide (j ≤ j') = true := by simp; omega
                    have hNs := World.block_lt_of_cell? wr _ q1
                    clear e1 e2 e3 r1 r3 hkm hPc Hap2
                    go_upto_region 24 with (fail)
                    go_quiet (fail)
                    have k1 : (wr.drewN nq).cell? ⟨b, off + m * 5 + 3, none⟩ = some (.int .i64 j') := m3
                    have k2 : (wr.drewN nq).cell? ⟨gP, j', none⟩ = some (.int .i64 i') := t0
                    have u0 : (wr.drewN nq).cell? ⟨b, off + i' * 5, none⟩ = some (.int .i64 l[i'].kind) := j0
                    have v1 : (wr.drewN nq).cell? ⟨b, off + i' * 5 + 1, none⟩ = some (.int .i64 l[i'].f) := j1
                    have v2 : (wr.drewN nq).cell? ⟨b, off + i' * 5 + 2, none⟩ = some (.int .i64 l[i'].t) := j2
                    have v3 : (wr.drewN nq).cell? ⟨b, off + i' * 5 + 3, none⟩ = some (.int .i64 l[i'].id) := j3
                    have v4 : (wr.drewN nq).cell? ⟨b, off + i' * 5 + 4, none⟩ = some (.slice ja l[i'].d.length jc) := j4
                    have c1' : (wr.drewN nq).cell? ⟨NN, 1, none⟩ = some (.int .i64 l[i].f) := q1
                    have c2' : (wr.drewN nq).cell? ⟨NN, 2, none⟩ = some (.int .i64 l[i].t) := q2
                    have HbN : Hid (Below w8.heap.size w8 (wr.drewN nq)) := below_drewN Hbm.out _
                    have hNs2 : NN < (wr.drewN nq).heap.size := hNs
                    clear m0 m1 m2 m3 m4 n0 n1 n2 n3 k3 j0 j1 j2 j3 j4 q1 q2 t0 hNs Hbm HbX HP9
                    generalize wr.drewN nq = W at *
                    generalize l[i'].f = fj at *
                    generalize l[i'].t = tj at *
                    generalize l[i'].d.length = dj at *
                    by_cases f1 : fj = l[i].f
                    · have f2 : (tj == l[i].t) = false := by
                        rw [beq_eq_false_iff_ne]; exact fun h => r4 ⟨f1, h⟩
                      have f1' : (fj == l[i].f) = true := by simpa using f1
                      clear f1 r4
                      go_wp2_with fail
                      go_roundw
                      case rel => exact ⟨m + 1, by omega, by go_num, Below.alloc HbN.out HbN.out.size _⟩
                      case measure => simp [intOf]; omega
                    · have f1' : (fj == l[i].f) = false := by simpa using f1
                      clear f1 r4
                      go_wp2_with fail
                      go_roundw
                      case rel => exact ⟨m + 1, by omega, by go_num, Below.alloc HbN.out HbN.out.size _⟩
                      case measure => simp [intOf]; omega
                  · rw [e1] at m0
                    rw [e2] at n0
                    have hge : decide ((j : Int) ≤ l[m].id) = false := by simpa using e3
                    clear e1 e2 e3 hkm Hap2
                    generalize l[m].id = im at *
                    go_upto_region 24 with (fail)
                    go_quiet (fail)
                    go_wp2_with fail
                    go_roundw
                    case rel => exact ⟨m + 1, by omega, by go_num, below_drewN Hbm.out _⟩
                    case measure => simp [intOf]; omega
                · rw [e1] at m0
                  have d5 : (((offFold (l.take m)).1.out l[m]).code == 0) = false := by simpa using e2
                  generalize ((offFold (l.take m)).1.out l[m]).code = cm at *
                  clear e1 e2 hkm Hap2
                  go_upto_region 24 with (fail)
                  go_quiet (fail)
                  go_wp2_with fail
                  go_roundw
                  case rel => exact ⟨m + 1, by omega, by go_num, below_drewN Hbm.out _⟩
                  case measure => simp [intOf]; omega
              · have d5 : (l[m].kind == 2) = false := by simpa using e1
                generalize l[m].kind = km at *
                clear e1 hkm Hap2
                go_upto_region 24 with (fail)
                go_quiet (fail)
                go_wp2_with fail
                go_roundw
                case rel => exact ⟨m + 1, by omega, by go_num, below_drewN Hbm.out _⟩
                case measure => simp [intOf]; omega
            · obtain rfl : m = k := by omega
              go_wp2_with fail
              go_roundw
              case rel => exact ⟨m + 1, P, by omega, by go_num, Hn.out, owns_below HP8.out hbm, Hb8.out.trans (hbm.mono Hb8.out.size)⟩
              case measure => simp [intOf]; omega
        · have Hn := Lib.hid (HO.out.bad hlt c1 c2)
          rw [(out_bad c1 c2).1] at o3
          simp only [List.length_nil] at o3
          have d2 : (((offFold (l.take k)).1.out l[k]).code != 0) = true := by simpa using c2
          clear hxd hod hkind c1 c2
          generalize ((offFold (l.take k)).1.out l[k]).code = yc at *
          generalize l[k].kind = xk at *
          go_wp2_with fail
          go_roundw
          case rel => exact ⟨k + 1, P, by omega, by go_num, Hn.out, HP.out, Hb.out⟩
          case measure => simp [intOf]; omega
    · obtain rfl : k = l.length := by omega
      clear LG OG hO hP hb
      go_wp2_with fail
      go_ret
      exact ⟨rfl, Hw5.out.trans (Hb.out.mono Hw5.out.size)⟩
end Go.Proofs.Ytgidichmphniaaa.sealOnce
