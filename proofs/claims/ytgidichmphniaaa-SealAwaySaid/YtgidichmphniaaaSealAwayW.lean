/- SealAway: the walk. -/
import Derived.Test.YtgidichmphniaaaAwayL
import Derived.Test.YtgidichmphniaaaLetters
namespace Go.Proofs.Ytgidichmphniaaa.sealAway
open Go.ChangeShapes Go.WideShapes Go.ChangeAt Go.RowKit
set_option linter.unusedVariables false

theorem csameB (v1 v2 : Value) (E : List Nat) (w : World) (h1 : Has w 1 v1 E.length (u8s E)) (h2 : Has w 1 v2 E.length (u8s E)) :
    Calls Try.prog 9 #[v1, v2] w fun e w' => e = .returned (.bool true) ∧ Below w.heap.size w w' :=
  (csameBytes v1 v2 E E w h1 h2).mono fun _ _ h => by simpa using h
/-- What was kept so far. -/
structure FewAt (w2 wr : World) (F : List Mv) (Wt : List Int) (vF vW : Value) (lv : List MV) : Prop where
  own : wr.ownsRow w2.heap.size 32 5 vF F.length (mvs lv)
  both : Both (MvAt wr) lv F
  want : wr.ownsRow w2.heap.size 3 1 vW F.length (ints Wt)
  hb : Below w2.heap.size w2 wr
theorem few_step {w2 wr w3 w4 : World} {F : List Mv} {Wt : List Int} {vF vW vF' vW' : Value} {lv : List MV} {x : MV} {y : Mv} {k : Int} (h : FewAt w2 wr F Wt vF vW lv) (hx : MvAt wr x y)
    (ho : w3.ownsRow w2.heap.size 32 5 vF' (F.length + 1) (mvs lv ++ x.cells)) (hg : wr.grownBy w3 vF.ownBlock) (hb : Below w2.heap.size wr w3)
    (ho4 : w4.ownsRow w2.heap.size 3 1 vW' (F.length + 1) (ints Wt ++ [.int .i64 k])) (hg4 : w3.grownBy w4 vW.ownBlock) (hb4 : Below w2.heap.size w3 w4) :
    FewAt w2 w4 (F ++ [y]) (Wt ++ [k]) vF' vW' (lv ++ [x]) := by
  have hc := Chc.grown (T := [32]) h.own hg (by simp)
  have hc4 := Chc.grown (T := [3]) (owns_chc h.want hc (by decide)) hg4 (by simp)
  refine ⟨?_, ?_, ?_, (h.hb.trans hb).trans hb4⟩
  · have := flat_snoc MV.cells lv x
    rw [List.length_append]
    unfold mvs at ho ⊢
    rw [← this]
    exact owns_chc ho hc4 (by decide)
  · exact Both.snoc (h.both.mono fun a b _ _ r => ⟨r.kind, r.f, r.t, r.id, (r.d.chc hc (by decide)).chc hc4 (by decide)⟩) ⟨hx.kind, hx.f, hx.t, hx.id, (hx.d.chc hc (by decide)).chc hc4 (by decide)⟩
  · rw [List.length_append, ← ints_snoc]; exact ho4
set_option maxRecDepth 100000 in
set_option maxHeartbeats 8000000 in
theorem walk (w : World) (v0 : Value) (ml : List ML) (A0 : ∃ l : List Ml, Has w 5 v0 l.length (mls ml) ∧ Both (MlAt w) ml l) (a1 : Int) (w1 : (Lit.int .i64 a1).wf = true) :
    Calls Try.prog 5 #[v0, .int .i64 a1] w fun e w' => e = .returned (.bool true) ∧ Below w.heap.size w w' := by
  obtain ⟨ll, A1, A2⟩ := A0
  have CL := Lib.hid (cLetters v0 ml ll w A1 A2)
  have hok := lettersOf_ok ll
  have hl60 := lettersOf_len ll
  have P1 := Lib.hid (fun X => picked a1 4 (by omega) (by omega) X)
  obtain ⟨q0, q1⟩ := pick_bd a1 4 (by omega)
  generalize pick a1 4 = q at *
  generalize lettersOf ll = l at *
  have Hok := Lib.hid hok
  clear A1 A2 hok
  go_enter Try.func5, Try.ntmps5
  go_wp2_with fail
  refine CL.out.mono ?_
  rintro e w1 ⟨vl, lv, rfl, hown, hB, hb1⟩
  obtain ⟨al, cl, rfl⟩ := owns_slice hown
  have HL := Lib.hid (Has.of_owns hown)
  have HB := Lib.hid hB
  have Hb1 := Lib.hid hb1
  clear hown hB hb1 CL
  go_wp2_with fail
  refine (P1.out _).mono ?_
  rintro e w' ⟨rfl, rfl⟩
  have CM := Lib.hid (cmailed _ lv l w1 HL.out HB.out Hok.out (by omega))
  go_wp2_with fail
  refine CM.out.mono ?_
  rintro e w2 ⟨va, oa, rfl, hown, hA, hb2⟩
  have HOa := Lib.hid hown
  have HA := Lib.hid hA
  have Hb2 := Lib.hid hb2
  have HL2 := Lib.hid (HL.out.below hb2)
  have HB2 := Lib.hid (both_on HB.out hb2)
  have Hw2 : Hid (Below w.heap.size w w2) := Hb1.out.trans (hb2.mono Hb1.out.size)
  clear hown hA hb2 CM HL HB Hb1 Hb2 P1
  go_wp2_with fail
  go_loopw [9, 10, 11] (fun vF vW i wr => ∃ (k : Nat) (F : List Mv) (Wt : List Int) (lF : List MV), k ≤ l.length ∧ i = .int .i64 k ∧ AwayAt l q k F Wt ∧ FewAt w2 wr F Wt vF vW lF) (fun _ _ i _ => l.length - (intOf i).toNat)
  case atStart => exact ⟨0, [], [], [], by omega, rfl, AwayAt.start l q, World.ownsRow_nil _ _ _ _, Both.nil _, World.ownsRow_nil _ _ _ _, Below.refl _ _⟩
  case round =>
    obtain ⟨k, F, Wt, lF, hk, rfl, hAw, hF⟩ := hrel
    have HAw := Lib.hid hAw
    have HF := Lib.hid hF
    have hFk := hAw.le
    clear hAw hF
    by_cases hlt : k < l.length
    · obtain ⟨b, off, xa, xc, rfl, ⟨⟨x0, x1⟩, ⟨x2, x3⟩, x4⟩, hxd⟩ := mv_get HL2.out HB2.out k hlt
      obtain ⟨_, _, _, hec, hcl1, hcl2, _⟩ := HL2.out
      simp only [Value.slice.injEq] at hec
      obtain ⟨-, -, rfl⟩ := hec
      replace x0 := cell_on HF.out.hb x0
      replace x1 := cell_on HF.out.hb x1
      replace x2 := cell_on HF.out.hb x2
      replace x3 := cell_on HF.out.hb x3
      replace x4 := cell_on HF.out.hb x4
      have hbl := World.block_lt_of_cell? wr _ x0
      have hszF := HF.out.hb.size
      unfold maxLen at hcl2
      have hX : MvAt wr ⟨l[k].kind, l[k].f, l[k].t, l[k].id, .slice xa l[k].d.length xc⟩ l[k] := ⟨rfl, rfl, rfl, rfl, hxd.below HF.out.hb⟩
      have HX := Lib.hid hX
      have Hkeep := Lib.hid (fun hx => HAw.out.keep hlt hx)
      have Hskip := Lib.hid (fun hx => HAw.out.skip hlt hx)
      generalize l[k] = x at *
      clear hxd hX
      by_cases c1 : x.kind = 1
      case' pos =>
        have d1 : (x.kind == 1) = true := by simpa using c1
        have Hk2 := Lib.hid (Hkeep.out (.inl c1))
        clear c1
      case' neg =>
        have d1 : (x.kind == 1) = false := by simpa using c1
        by_cases c2 : x.t = q
        case' pos =>
          have d2 : (x.t == q) = true := by simpa using c2
          have Hk2 := Lib.hid (Hkeep.out (.inr c2))
          clear c1 c2
        case' neg =>
          have d2 : (x.t == q) = false := by simpa using c2
          have Hk2 := Lib.hid (Hskip.out (fun h => by rcases h with h | h; exact c1 h; exact c2 h))
          clear c1 c2
          go_wp2_with fail
          go_roundw
          case rel => exact ⟨k + 1, F, Wt, lF, by omega, by go_num, Hk2.out, HF.out⟩
          case measure => simp [intOf]; omega
      all_goals
        go_wp2_with (first | ((at_builtin; refine wp_app1 (w0 := wr) 23 32 5 56 _ elLetterA Try.underlying23 w2.heap.size _ _ _ HF.out.own (by repeat (first | exact Below.refl _ _ | refine Below.drew ?_ | refine Below.alloc ?_ (by first | (simp; done) | (simp; omega)) _ | refine Below.setCell ?_ (by first | (simp; done) | (simp; omega)) _)) [.int .i64 x.kind, .int .i64 x.f, .int .i64 x.t, .int .i64 x.id, .slice xa x.d.length xc] rfl _ _ rfl rfl rfl (by first | exact heap_alloc_new _ _ | (simp only [heap_drew, heap_drewN]; exact heap_alloc_new _ _)) (by simp) rfl rfl (by omega) (by omega) hszF ?_; intro v6 w6 hown6 hgrow6 hb6); have hw6 := Lib.hid (owns_chc HF.out.want (Chc.grown (T := [32]) HF.out.own hgrow6 (by simp)) (by decide)); have hsz6 := Nat.le_trans hszF hgrow6.size) | (at_builtin; refine wp_app1 (w0 := w6) 29 3 1 8 _ elInt Try.underlying29 w2.heap.size _ _ _ hw6.out (by repeat (first | exact Below.refl _ _ | refine Below.drew ?_ | refine Below.alloc ?_ (by first | (simp; done) | (simp; omega)) _ | refine Below.setCell ?_ (by first | (simp; done) | (simp; omega)) _)) [.int .i64 k] rfl _ _ rfl rfl rfl (by first | exact heap_alloc_new _ _ | (simp only [heap_drew, heap_drewN]; exact heap_alloc_new _ _)) (by simp) rfl rfl (by omega) (by omega) hsz6 ?_; intro v7 w7 hown7 hgrow7 hb7))
        go_roundw
        case rel => exact ⟨k + 1, F ++ [x], Wt ++ [(k : Int)], _, by omega, by go_num, Hk2.out, few_step HF.out HX.out hown6 hgrow6 hb6 hown7 hgrow7 hb7⟩
        case measure => simp [intOf]; omega
    · obtain rfl : k = l.length := by omega
      have Hdone := Lib.hid (fun j hj => HAw.out.done j hj)
      have hokF : ∀ x ∈ F, x.Ok := fun x hx => Hok.out x (HAw.out.ok x hx)
      obtain ⟨aF, cF, rfl⟩ := owns_slice HF.out.own
      have CM := Lib.hid (cmailed _ lF F wr (Has.of_owns HF.out.own) HF.out.both hokF (by omega))
      clear hokF
      go_wp2_with fail
      refine CM.out.mono ?_
      rintro e w4 ⟨vb, ob, rfl, hownb, hBb, hb4⟩
      have HOb := Lib.hid hownb
      have HBb := Lib.hid hBb
      have Hb4 : Hid (Below w2.heap.size w2 w4) := HF.out.hb.trans (hb4.mono HF.out.hb.size)
      have HWt := Lib.hid (owns_below HF.out.want hb4)
      clear hownb hBb hb4 CM
      go_wp2_with fail
      refine (csealSure w4).mono ?_
      rintro e w5 ⟨rfl, hb5⟩
      have Hb5 : Hid (Below w2.heap.size w2 w5) := Hb4.out.trans (hb5.mono Hb4.out.size)
      have HOb5 := Lib.hid (owns_below HOb.out hb5)
      have HBb5 := Lib.hid (outs_on HBb.out hb5)
      have HWt5 := Lib.hid (owns_below HWt.out hb5)
      clear hb5 Hb4 HOb HBb HWt HF HL2 HB2
      go_wp2_with fail
      have HOa5 := Lib.hid (owns_below HOa.out Hb5.out)
      have HA5 := Lib.hid (outs_on HA.out Hb5.out)
      have Hw5 : Hid (Below w.heap.size w w5) := Hw2.out.trans (Hb5.out.mono Hw2.out.size)
      clear HOa HA Hb5 Hw2 HAw
      go_loopw [14] (fun i wr => ∃ m : Nat, m ≤ F.length ∧ i = .int .i64 m ∧ Below w5.heap.size w5 wr) (fun i _ => F.length - (intOf i).toNat)
      case atStart => exact ⟨0, by omega, rfl, Below.refl _ _⟩
      case round =>
        obtain ⟨j, hj, rfl, hb⟩ := hrel
        have Hb := Lib.hid hb
        by_cases hjl : j < F.length
        · obtain ⟨i, hi, hj2, hW, hil, he⟩ := Hdone.out j hjl
          obtain ⟨gW, cW, rfl, -, -, -, hWc⟩ := owns_some HWt5.out (by omega)
          obtain ⟨_, _, _, heW, hW1, hW2, _⟩ := Has.of_owns HWt5.out
          simp only [Value.slice.injEq] at heW
          obtain ⟨-, -, rfl⟩ := heW
          have t0 := cell_on hb (hWc j (.int .i64 i) (by unfold ints; rw [List.getElem?_map, hW]; rfl))
          obtain ⟨ga, ca, aa, ac, rfl, ⟨ha1, ha2⟩, ⟨⟨a0, a1'⟩, a2, a3⟩, hda⟩ := ov_get HOa5.out HA5.out (sOuts_length l) i hi
          obtain ⟨gb, cb, ba, bc, rfl, ⟨hb1, hb2⟩, ⟨⟨b0, b1⟩, b2, b3⟩, hdb⟩ := ov_get HOb5.out HBb5.out (sOuts_length F) j hj2
          rw [he] at b0 b1 b2 b3 hdb
          replace a0 := cell_on hb a0
          replace a1' := cell_on hb a1'
          replace a2 := cell_on hb a2
          replace a3 := cell_on hb a3
          replace b0 := cell_on hb b0
          replace b1 := cell_on hb b1
          replace b2 := cell_on hb b2
          replace b3 := cell_on hb b3
          have Hda := Lib.hid (hda.below hb)
          have Hdb := Lib.hid (hdb.below hb)
          unfold maxLen at ha2 hb2 hW2
          have hii : (i : Int) < l.length := by omega
          have hbl := World.block_lt_of_cell? wr _ b0
          generalize (sOuts l)[i] = y at *
          obtain ⟨yc, yi, ys, yd⟩ := y
          simp only at *
          clear hda hdb hWc hb hW he
          go_upto_region 19 with (fail)
          have hX := heap_alloc_new wr (.cells #[.int .i64 yc, .int .i64 yi, .int .i64 ys, .slice aa yd.length ac] 35)
          obtain ⟨⟨⟨x0, x1⟩, x2, x3⟩, -⟩ := cells4 hX
          have ha : Below wr.heap.size wr (wr.alloc (.cells #[.int .i64 yc, .int .i64 yi, .int .i64 ys, .slice aa yd.length ac] 35)) := (Below.refl _ _).alloc (Nat.le_refl _) _
          have CS : Hid (∀ X : Ext (wr.alloc (.cells #[.int .i64 yc, .int .i64 yi, .int .i64 ys, .slice aa yd.length ac] 35)), Calls Try.prog 9 #[.slice aa yd.length ac, .slice ba yd.length bc] X.1 fun e w' => e = .returned (.bool true) ∧ Below X.1.heap.size X.1 w') := fun X => csameB _ _ yd X.1 ((Hda.out.below ha).below X.2).has ((Hdb.out.below ha).below X.2).has
          have p0 := ext_cell x0
          have p1 := ext_cell x1
          have p2 := ext_cell x2
          have p3 := ext_cell x3
          have r0 := ext_cell (cell_on ha b0)
          have r1 := ext_cell (cell_on ha b1)
          have r2 := ext_cell (cell_on ha b2)
          have r3 := ext_cell (cell_on ha b3)
          have Ha := Lib.hid ha
          clear a0 a1' a2 a3 b0 b1 b2 b3 t0 x0 x1 x2 x3 hX ha
          refine wp_region_grow (by kernel_rfl) (by kernel_rfl) ?_
          repeat (go_big_quiet_step ((go_at_call 9; with_reducible exact grow_of (CS.out _))))
          refine wpQuiet_nil ?_
          intro w8 hb8
          have Hb8 : Hid (Below w5.heap.size w5 w8) := Hb.out.trans ((Ha.out.trans (hb8.mono Ha.out.size)).mono Hb.out.size)
          clear p0 p1 p2 p3 r0 r1 r2 r3 hb8 CS
          go_wp2_with fail
          go_roundw
          case rel => exact ⟨j + 1, by omega, by go_num, Hb8.out⟩
          case measure => simp [intOf]; omega
        · obtain rfl : j = F.length := by omega
          clear hb
          go_wp2_with fail
          go_ret
          exact ⟨rfl, Hw5.out.trans (Hb.out.mono Hw5.out.size)⟩
end Go.Proofs.Ytgidichmphniaaa.sealAway
