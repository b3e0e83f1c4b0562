/- HoldEnds: the walk. -/
import Derived.Test.YtgmichaconnhaaaHoldEndsL
import Derived.Test.YtgmichaconnhaaaHOnceL
import Derived.Test.YtgmichaconnhaaaOpenWish
namespace Go.Proofs.Ytgmichaconnhaaa.holdEnds
open Go.ChangeShapes Go.WideShapes Go.ChangeAt Go.RowKit
set_option linter.unusedVariables false
set_option linter.unusedSimpArgs false

theorem stk_get' {w : World} {base n : Nat} {v : Value} {l : List Stk} (h : w.ownsRow base 33 5 v n (stks l)) (k : Nat) (x : Stk) (hx : l[k]? = some x) :
    ∃ g cap, v = .slice (some ⟨g, 0, none⟩) n cap ∧ (n ≤ cap ∧ cap ≤ maxLen) ∧ (w.cell? ⟨g, k * 5, none⟩ = some (.int .i64 x.code) ∧ w.cell? ⟨g, k * 5 + 1, none⟩ = some (.int .i64 x.id) ∧ w.cell? ⟨g, k * 5 + 2, none⟩ = some (.int .i64 x.free) ∧ w.cell? ⟨g, k * 5 + 3, none⟩ = some (.int .i64 x.held) ∧ w.cell? ⟨g, k * 5 + 4, none⟩ = some (.int .i64 x.used)) := by
  obtain ⟨hk, rfl⟩ := List.getElem?_eq_some_iff.1 hx
  exact stk_get h k hk
theorem tick_ok : tickO.Ok := ⟨by decide, by decide, by decide, by decide, by decide, by decide, by decide⟩
theorem gain_Ok {n : Int} (h0 : 1 ≤ n) (h1 : n ≤ 9) : (gainO n).Ok := by
  unfold gainO
  exact ⟨by simp, by simp only; omega, fun _ => h0, by simp, by simp, by simp, by simp⟩
theorem hold_Ok {n t : Int} (h0 : 1 ≤ n) (h1 : n ≤ 9) (h2 : 1 ≤ t) (h3 : t ≤ 20) : (holdO n t).Ok := by
  unfold holdO
  exact ⟨by simp, by simp only; omega, fun _ => h0, by simp only; omega, fun _ => h2, by simp, by simp⟩
theorem conf_Ok {id : Int} (h0 : 1 ≤ id) (h1 : id ≤ 1000) : (confO id).Ok := by
  unfold confO
  exact ⟨by simp, by simp, by simp, by simp, by simp, by simp only; omega, fun _ => h0⟩
theorem ords_ticks (l : List Ord) (j : Nat) : ords (l ++ List.replicate j tickO) ++ tickO.cells = ords (l ++ List.replicate (j + 1) tickO) := by
  rw [List.replicate_succ', ← List.append_assoc]
  exact flat_snoc Ord.cells _ _
theorem ords_two (l : List Ord) (a b : Ord) : ords l ++ (a.cells ++ b.cells) = ords (l ++ [a, b]) := by simp [ords]
theorem ords_snoc (l : List Ord) (a : Ord) : ords l ++ a.cells = ords (l ++ [a]) := flat_snoc Ord.cells l a
/-- The whole, with its bounds. -/
theorem ends_all (l : List Ord) (n t : Int) (k : Nat) (hl : l.length ≤ 60) (hb : ∀ o ∈ l, o.life ≤ 5 ∧ o.count ≤ 9) (hn : 1 ≤ n ∧ n ≤ 9) (ht : 1 ≤ t ∧ t ≤ 20) :
    ∃ a z : Stk, (hOuts (l ++ List.replicate 5 tickO ++ [gainO n, holdO n t] ++ List.replicate k tickO))[l.length + 6]? = some a ∧ a.code = 0 ∧ a.held = n ∧ (1 ≤ a.id ∧ (0 ≤ a.free ∧ a.free ≤ 1048576) ∧ (0 ≤ a.used ∧ a.used ≤ 1048576)) ∧ a.id ≤ 1000
      ∧ (hOuts (l ++ List.replicate 5 tickO ++ [gainO n, holdO n t] ++ List.replicate k tickO ++ [confO a.id]))[l.length + 7 + k]? = some z
      ∧ ((k : Int) < t → z.code = 0 ∧ z.used = a.used + n ∧ z.free = a.free)
      ∧ (¬ (k : Int) < t → z.code = 10 ∧ z.free = a.free + n ∧ z.held = 0) := by
  obtain ⟨a, z, h1, h2, h3, h4, h5, h6⟩ := ends_law l n t k hl hb hn ht
  have e1 : endsL l n t ++ holdO n t :: List.replicate k tickO = l ++ List.replicate 5 tickO ++ [gainO n, holdO n t] ++ List.replicate k tickO := by simp [endsL]
  have e2 : (endsL l n t).length = l.length + 6 := by simp [endsL]
  have e3 : (endsL l n t ++ holdO n t :: List.replicate k tickO).length = l.length + 7 + k := by simp [endsL]; omega
  have h7 := hOuts_at (endsL l n t) (List.replicate k tickO) (holdO n t)
  rw [h1] at h7
  simp only [Option.some.injEq] at h7
  have h8 := hold_id (s := shAt (endsL l n t)) (o := holdO n t) rfl (by rw [← h7]; exact h2)
  have h9 := fold_made (endsL l n t) (endsL l n t).length (Nat.le_refl _)
  rw [List.take_length] at h9
  have h10 := (shAt_ok (endsL l n t)).made
  have h11 : (shfFold (endsL l n t)).1 = shAt (endsL l n t) := rfl
  rw [h11] at h9
  rw [e3] at h4
  rw [e1] at h1 h4
  rw [e2] at h1 h9
  have h12 := next_ok (shAt_ok (endsL l n t)) (holdO n t)
  have h13 := h12.nonneg
  refine ⟨a, z, h1, h2, h3, ⟨?_, ?_, ?_⟩, ?_, h4, h5, h6⟩
  · rw [h7, h8.1]; omega
  · rw [h7]; have := h12.free; have := h12.sum; have := h12.used; simp only [Shf.out]; omega
  · rw [h7]; have := h12.free; have := h12.sum; have := h12.used; simp only [Shf.out]; omega
  · rw [h7, h8.1]; omega
theorem os_ok {l : List Ord} {n t : Int} (k : Nat) (h : ∀ x ∈ l, x.Ok) (hn : 1 ≤ n ∧ n ≤ 9) (ht : 1 ≤ t ∧ t ≤ 20) : ∀ x ∈ l ++ List.replicate 5 tickO ++ [gainO n, holdO n t] ++ List.replicate k tickO, x.Ok := by
  intro x hx
  simp only [List.mem_append, List.mem_cons, List.not_mem_nil, or_false] at hx
  rcases hx with ((hx | hx) | (rfl | rfl)) | hx
  · exact h x hx
  · rw [List.eq_of_mem_replicate hx]; exact tick_ok
  · exact gain_Ok hn.1 hn.2
  · exact hold_Ok hn.1 hn.2 ht.1 ht.2
  · rw [List.eq_of_mem_replicate hx]; exact tick_ok
set_option maxRecDepth 100000 in
set_option maxHeartbeats 8000000 in
theorem walk (w : World) (v0 : Value) (ll : List Ord) (A1 : Has w 4 v0 ll.length (ords ll)) (count life ticks : Int) (b1 : (Lit.int .i64 count).wf = true) (b2 : (Lit.int .i64 life).wf = true) (b3 : (Lit.int .i64 ticks).wf = true) :
    Calls Try.prog 5 #[v0, .int .i64 count, .int .i64 life, .int .i64 ticks] w fun e w' => e = .returned (.bool true) ∧ Below w.heap.size w w' := by
  have CL := Lib.hid (cordersOf v0 ll 60 w A1 (by omega))
  have hok := ordersOf_ok ll 60
  have hl60 := ordersOf_len ll 60
  have hsm := ordersOf_small ll 60
  generalize ordersOf ll 60 = l at *
  have Hok := Lib.hid hok
  have Hsm := Lib.hid hsm
  have P9 := Lib.hid fun X => picked count 9 (by omega) (by omega) X
  have P20 := Lib.hid fun X => picked life 20 (by omega) (by omega) X
  have P25 := Lib.hid fun X => picked ticks 25 (by omega) (by omega) X
  obtain ⟨n0, n1⟩ := pick_bd count 9 (by omega)
  obtain ⟨t0, t1⟩ := pick_bd life 20 (by omega)
  obtain ⟨k0, k1⟩ := pick_bd ticks 25 (by omega)
  generalize pick count 9 = n' at *
  generalize pick life 20 = t' at *
  generalize pick ticks 25 = k' at *
  obtain ⟨kk, rfl⟩ : ∃ kk : Nat, k' = (kk : Int) := ⟨k'.toNat, by omega⟩
  have hkk : kk ≤ 25 := by omega
  have hn : 1 ≤ 1 + n' ∧ 1 + n' ≤ 9 := by omega
  have ht : 1 ≤ 1 + t' ∧ 1 + t' ≤ 20 := by omega
  have wn : IntKind.i64.wrap (1 + n') = 1 + n' := IntWalk.i64_in _ (by omega)
  have wt : IntKind.i64.wrap (1 + t') = 1 + t' := IntWalk.i64_in _ (by omega)
  have HE := Lib.hid (ends_all l (1 + n') (1 + t') kk hl60 (fun o ho => ⟨(hsm o ho).1, (hsm o ho).2.1⟩) hn ht)
  have HOK := Lib.hid (os_ok (n := 1 + n') (t := 1 + t') kk hok hn ht)
  clear A1 hok hsm b1 b2 b3
  go_enter Try.func5, Try.ntmps5
  go_wp2_with fail
  refine CL.out.mono ?_
  rintro e w1 ⟨vl, rfl, hown, hb1⟩
  obtain ⟨al, cl, rfl⟩ := owns_slice hown
  have HL := Lib.hid hown
  have Hb1 := Lib.hid hb1
  have hsz1 : w.heap.size ≤ w1.heap.size := hb1.size
  clear hown hb1 CL
  go_wp2_with fail
  with_reducible refine (P9.out _).mono ?_
  rintro e w' ⟨rfl, rfl⟩
  go_wp2_with fail
  with_reducible refine (P20.out _).mono ?_
  rintro e w' ⟨rfl, rfl⟩
  go_wp2_with fail
  with_reducible refine (P25.out _).mono ?_
  rintro e w' ⟨rfl, rfl⟩
  clear P9 P20 P25
  rename World => w1
  go_wp2_with fail
  go_loopw [9, 13] (fun v i wr => ∃ j : Nat, j ≤ 5 ∧ i = .int .i64 j ∧ Hid (wr.ownsRow w.heap.size 30 4 v (l.length + j) (ords (l ++ List.replicate j tickO))) ∧ Hid (Below w.heap.size w wr)) (fun _ i _ => 5 - (intOf i).toNat)
  case atStart => exact ⟨0, by omega, rfl, by simpa using HL, Hb1⟩
  case round =>
    clear HL Hb1 hsz1
    obtain ⟨j, hj, rfl, HO, HB⟩ := hrel
    by_cases hlt : j < 5
    · have hltz : (j : Int) < 5 := by omega
      have hszw := HB.out.size
      go_wp2_with (at_builtin; refine wp_app1 (w0 := wr) 23 30 4 32 _ elOrder Try.underlying23 w.heap.size _ _ _ HO.out (by repeat (first | exact Below.refl _ _ | refine Below.drew ?_ | refine Below.alloc ?_ (by first | (simp; done) | (simp; omega)) _ | refine Below.setCell ?_ (by first | (simp; done) | (simp; omega)) _)) [.int .i64 7, .int .i64 0, .int .i64 0, .int .i64 0] rfl _ _ rfl rfl rfl (by first | exact heap_alloc_new _ _ | (simp only [heap_drew, heap_drewN]; exact heap_alloc_new _ _)) (by simp) rfl rfl (by omega) (by omega) hszw ?_; intro v6 w6 hown6 hgrow6 hb6)
      have ho6 := hown6
      rw [show ([.int .i64 7, .int .i64 0, .int .i64 0, .int .i64 0] : List Value) = tickO.cells from rfl, ords_ticks] at ho6
      go_roundw
      case rel => exact ⟨j + 1, by omega, by go_num, ho6, HB.out.trans hb6⟩
      case measure => first | (simp [intOf]; done) | (simp [intOf]; omega)
    · obtain rfl : j = 5 := by omega
      have hszw := HB.out.size
      go_upto_region 9 with (fail)
      go_upto_region 10 with (refine wp_appN (w0 := wr) 23 30 4 32 _ elOrder Try.underlying23 w.heap.size _ _ _ HO.out (by repeat (first | exact Below.refl _ _ | refine Below.drew ?_ | refine Below.alloc ?_ (by first | (simp; done) | (simp; omega)) _ | refine Below.setCell ?_ (by first | (simp; done) | (simp; omega)) _)) _ 2 [.int .i64 1, .int .i64 (1 + n'), .int .i64 0, .int .i64 0, .int .i64 3, .int .i64 (1 + n'), .int .i64 (1 + t'), .int .i64 0] (has_block (wp := wr) (by first | exact heap_alloc_new _ _ | (simp only [heap_drew, heap_drewN]; exact heap_alloc_new _ _)) rfl (by rfl) (by decide)) rfl _ _ rfl rfl rfl (by simp [Value.oneCell']) (by omega) (by unfold maxLen; omega) hszw ?_; intro v6 w6 hown6 hgrow6 hb6)
      rw [show ([.int .i64 1, .int .i64 (1 + n'), .int .i64 0, .int .i64 0, .int .i64 3, .int .i64 (1 + n'), .int .i64 (1 + t'), .int .i64 0] : List Value) = (gainO (1 + n')).cells ++ (holdO (1 + n') (1 + t')).cells from rfl, ords_two] at hown6
      obtain ⟨a6, c6, rfl⟩ := owns_slice hown6
      have HO6 := Lib.hid hown6
      have HB6 : Hid (Below w.heap.size w w6) := HB.out.trans hb6
      clear hown6 hgrow6 hb6 HO HB hszw
      go_wp2_with fail
      rw [show (l.length : Int) + 5 + 2 - 1 = ((l.length + 6 : Nat) : Int) by omega]
      generalize hos : l ++ List.replicate 5 tickO ++ [gainO (1 + n'), holdO (1 + n') (1 + t')] = os at *
      have hosl : os.length = l.length + 7 := by rw [← hos]; simp
      obtain ⟨m, hm⟩ : ∃ m, m = l.length + 7 := ⟨_, rfl⟩
      rw [show l.length + 5 + 2 = m by omega] at HO6 ⊢
      have hml : l.length + 6 = m - 1 := by omega
      have hm1 : 1 ≤ m := by omega
      have hm67 : m ≤ 67 := by omega
      rw [hml] at HE ⊢
      rw [← hm] at HE
      have Hosl : Hid (os.length = m) := by rw [hm]; exact hosl
      clear hos hosl hml hm
      have hsz6 := HB6.out.size
      obtain ⟨w6', hw6'⟩ : ∃ x, x = w6 := ⟨_, rfl⟩
      rw [← hw6'] at HO6 HB6 hsz6 ⊢
      clear hw6'
      go_loopw [9, 15] (fun v i wr => ∃ j : Nat, j ≤ kk ∧ i = .int .i64 j ∧ Hid (wr.ownsRow w.heap.size 30 4 v (m + j) (ords (os ++ List.replicate j tickO))) ∧ Hid (Below w.heap.size w wr)) (fun _ i _ => kk - (intOf i).toNat)
      case atStart => exact ⟨0, by omega, rfl, by simpa using HO6, HB6⟩
      case round =>
        clear HO6 HB6 hsz6
        obtain ⟨j, hj, rfl, HO, HB⟩ := hrel
        by_cases hlt : j < kk
        · have hltz : (j : Int) < (kk : Int) := by omega
          have hszw := HB.out.size
          go_wp2_with (at_builtin; refine wp_app1 (w0 := wr) 23 30 4 32 _ elOrder Try.underlying23 w.heap.size _ _ _ HO.out (by repeat (first | exact Below.refl _ _ | refine Below.drew ?_ | refine Below.alloc ?_ (by first | (simp; done) | (simp; omega)) _ | refine Below.setCell ?_ (by first | (simp; done) | (simp; omega)) _)) [.int .i64 7, .int .i64 0, .int .i64 0, .int .i64 0] rfl _ _ rfl rfl rfl (by first | exact heap_alloc_new _ _ | (simp only [heap_drew, heap_drewN]; exact heap_alloc_new _ _)) (by simp) rfl rfl (by omega) (by omega) hszw ?_; intro v7 w7 hown7 hgrow7 hb7)
          have ho6 := hown7
          rw [show ([.int .i64 7, .int .i64 0, .int .i64 0, .int .i64 0] : List Value) = tickO.cells from rfl, ords_ticks] at ho6
          go_roundw
          case rel => exact ⟨j + 1, by omega, by go_num, ho6, HB.out.trans hb7⟩
          case measure => first | (simp [intOf]; done) | (simp [intOf]; omega)
        · obtain rfl : j = kk := by omega
          obtain ⟨a9, c9, rfl⟩ := owns_slice HO.out
          obtain ⟨st, z, e1, e2, e3, e4, e5, e6, e7, e8⟩ := HE.out
          have hlen : (os ++ List.replicate j tickO).length = m + j := by simp [Hosl.out]
          have hcell := HO.out
          rw [← hlen] at hcell
          have CM := Lib.hid (cstocked _ _ wr (Has.of_owns hcell) HOK.out (by rw [hlen]; omega))
          rw [hlen] at CM
          have HZ := Lib.hid (And.intro e6 (And.intro e7 e8))
          have He1 := Lib.hid e1
          have HId := Lib.hid (And.intro e4 e5)
          have Hlen := Lib.hid hlen
          have He23 := Lib.hid (And.intro e2 e3)
          clear hcell HE e1 e6 e7 e8 e4 e5 hlen e2 e3 hj hlt
          go_wp2_with fail
          refine CM.out.mono ?_
          rintro e w8 ⟨vs, rfl, hown8, hb8⟩
          obtain ⟨cd, id, fr, hd, us⟩ := st
          obtain ⟨e2, e3⟩ := He23.out
          simp only at e2 e3
          subst e2; subst e3
          obtain ⟨g, cS, rfl, -, p0, p1, p2, p3, p4⟩ := stk_get' hown8 (m - 1) _ He1.out
          simp only at p0 p1 p2 p3 p4
          have HS8 := Lib.hid hown8
          have HO8 := Lib.hid (owns_below HO.out hb8)
          have HB8 : Hid (Below w.heap.size w w8) := HB.out.trans (hb8.mono HB.out.size)
          obtain ⟨⟨i0, ⟨i2, i3⟩, ⟨i4, i5⟩⟩, i1⟩ := HId.out
          simp only at i0 i1 i2 i3 i4 i5
          have wa : IntKind.i64.wrap (us + (1 + n')) = us + (1 + n') := IntWalk.i64_in _ (by omega)
          have wb : IntKind.i64.wrap (fr + (1 + n')) = fr + (1 + n') := IntWalk.i64_in _ (by omega)
          clear hown8 hb8 CM HO HB He23 HId
          go_wp2_with fail
          refine (cshelfSure w8).mono ?_
          rintro e w9 ⟨rfl, hb9⟩
          replace p0 := cell_on hb9 p0
          replace p1 := cell_on hb9 p1
          replace p2 := cell_on hb9 p2
          replace p3 := cell_on hb9 p3
          replace p4 := cell_on hb9 p4
          have HO9 := Lib.hid (owns_below HO8.out hb9)
          have HB9 : Hid (Below w.heap.size w w9) := HB8.out.trans (hb9.mono HB8.out.size)
          have HS9 := Lib.hid (owns_below HS8.out hb9)
          clear hb9 HO8 HB8 HS8
          have hmz : ((m - 1 : Nat) : Int) < ((m + j : Nat) : Int) := by omega
          have hmn : (1 + n' != 1 + n') = false := by simp
          have hsz9 := HB9.out.size
          have hbl := World.block_lt_of_cell? w9 _ p0
          go_upto_region 18 with (fail)
          clear p0 p2 p3 p4
          go_upto_region 19 with (at_builtin; refine wp_app1 (w0 := w9) 23 30 4 32 _ elOrder Try.underlying23 w.heap.size _ _ _ HO9.out (by repeat (first | exact Below.refl _ _ | refine Below.drew ?_ | refine Below.alloc ?_ (by first | (simp; done) | (simp; omega)) _ | refine Below.setCell ?_ (by first | (simp; done) | (simp; omega)) _)) [.int .i64 4, .int .i64 0, .int .i64 0, .int .i64 id] rfl _ _ rfl rfl rfl (by first | exact heap_alloc_new _ _ | (simp only [heap_drew, heap_drewN]; exact heap_alloc_new _ _)) (by simp) rfl rfl (by omega) (by omega) hsz9 ?_; intro v10 w10 hown10 hgrow10 hb10)
          have HS10 := Lib.hid (owns_chc HS9.out (Chc.grown (T := [30]) HO9.out hgrow10 (by simp)) (by decide))
          rw [show ([.int .i64 4, .int .i64 0, .int .i64 0, .int .i64 id] : List Value) = (confO id).cells from rfl, ords_snoc] at hown10
          obtain ⟨a10, c10, rfl⟩ := owns_slice hown10
          have hlen2 : (os ++ List.replicate j tickO ++ [confO id]).length = m + j + 1 := by rw [List.length_append, Hlen.out]; rfl
          have hok2 : ∀ x ∈ os ++ List.replicate j tickO ++ [confO id], x.Ok := fun x hx => by
            rcases List.mem_append.1 hx with hx | hx
            · exact HOK.out x hx
            · simp at hx; subst hx; exact conf_Ok i0 i1
          rw [← hlen2] at hown10
          have CM := Lib.hid (cstocked _ _ w10 (Has.of_owns hown10) hok2 (by rw [hlen2]; omega))
          rw [hlen2] at CM
          have HB10 : Hid (Below w.heap.size w w10) := HB9.out.trans hb10
          clear hown10 hgrow10 hb10 HS9 HO9 HB9 hok2 p1 hbl hsz9 hmn hlen2
          go_wp2_with fail
          refine CM.out.mono ?_
          rintro e w11 ⟨vu, rfl, hown11, hb11⟩
          obtain ⟨hz6, hz7, hz8⟩ := HZ.out
          obtain ⟨g2, cU, rfl, -, z0, z1, z2, z3, z4⟩ := stk_get' hown11 (m + j) z hz6
          obtain ⟨_, _, he, -, p0, p1, p2, p3, p4⟩ := stk_get' (owns_below HS10.out hb11) (m - 1) _ He1.out
          simp only [Value.slice.injEq, Option.some.injEq, Addr.mk.injEq, and_true, true_and] at he
          obtain ⟨rfl, rfl⟩ := he
          simp only at p0 p1 p2 p3 p4
          have HB11 : Hid (Below w.heap.size w w11) := HB10.out.trans (hb11.mono HB10.out.size)
          obtain ⟨zc, zi, zf, zh, zu⟩ := z
          simp only at z0 z1 z2 z3 z4 hz7 hz8
          have hbz : Below w11.heap.size w11 (w11.alloc (.cells #[.int .i64 zc, .int .i64 zi, .int .i64 zf, .int .i64 zh, .int .i64 zu] 33)) := (Below.refl _ _).alloc (Nat.le_refl _) _
          obtain ⟨⟨r0, r1, r2, r3, r4⟩, -⟩ := five_cells (heap_alloc_new w11 (.cells #[.int .i64 zc, .int .i64 zi, .int .i64 zf, .int .i64 zh, .int .i64 zu] 33))
          replace p2 := cell_on hbz p2
          replace p4 := cell_on hbz p4
          have HB12 : Hid (Below w.heap.size w (w11.alloc (.cells #[.int .i64 zc, .int .i64 zi, .int .i64 zf, .int .i64 zh, .int .i64 zu] 33))) := HB11.out.trans (hbz.mono HB11.out.size)
          have hmz2 : ((m + j : Nat) : Int) < ((m + j + 1 : Nat) : Int) := by omega
          clear hown11 hb11 CM HS10 HB10 hz6 p0 p1 p3 HB11 hbz HZ He1
          go_upto_region 23 with (fail)
          generalize w11.alloc (.cells #[.int .i64 zc, .int .i64 zi, .int .i64 zf, .int .i64 zh, .int .i64 zu] 33) = w12 at *
          by_cases hkt : (j : Int) < 1 + t'
          · obtain ⟨rfl, rfl, rfl⟩ := hz7 hkt
            go_upto_region 24 with (fail)
            go_quiet (fail)
            go_wp2_with fail
            go_ret
            exact ⟨rfl, below_drewN HB12.out _⟩
          · obtain ⟨rfl, rfl, rfl⟩ := hz8 (by omega)
            have hd : decide ((j : Int) < 1 + t') = false := decide_eq_false hkt
            go_upto_region 25 with (fail)
            go_quiet (fail)
            go_wp2_with fail
            go_ret
            exact ⟨rfl, below_drewN HB12.out _⟩
end Go.Proofs.Ytgmichaconnhaaa.holdEnds
