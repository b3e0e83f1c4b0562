/- AsksBack: the walk. -/
import Derived.Test.YtgmichaconnhaaaFrmI
import Derived.Test.YtgmichaconnhaaaFrmL
import Derived.Test.YtgmichaconnhaaaFrmM
import Derived.Test.YtgmichaconnhaaaSame
import Derived.Test.YtgmichaconnhaaaSameI
namespace Go.Proofs.Ytgmichaconnhaaa.asksBack
open Go.ChangeShapes Go.WideShapes Go.ChangeAt Go.RowKit
set_option linter.unusedVariables false
set_option linter.unusedSimpArgs false

theorem ask_inj {x y : List Int} (hx : ∀ v ∈ x, 0 ≤ v ∧ v ≤ 1048576) (hy : ∀ v ∈ y, 0 ≤ v ∧ v ≤ 1048576) (hl : x.length = y.length) : recB (askF x) = recB (askF y) ↔ x = y := by
  constructor
  · intro h
    have key : ∀ l : List Int, (∀ v ∈ l, 0 ≤ v ∧ v ≤ 1048576) → unpackV (recB (askF l)) 0 (List.replicate l.length 21) = l := by
      intro l hl
      have := unpack_back (askF l) [] (fun p hp => by
        simp only [askF, List.mem_map] at hp
        obtain ⟨v, hv, rfl⟩ := hp
        have := hl v hv
        have e : (2 : Int) ^ (Int.toNat 21) = 2097152 := by decide
        simp only [e]; omega)
      have e1 : (askF l).map (·.1) = List.replicate l.length 21 := by
        unfold askF; rw [List.map_map]
        exact List.map_eq_replicate_iff.2 fun x _ => rfl
      have e2 : (askF l).map (·.2) = l := by unfold askF; rw [List.map_map]; exact List.map_id' l
      rw [e1, e2] at this
      exact this
    rw [← key x hx, ← key y hy, h, hl]
  · intro h; rw [h]
theorem two_ask (a b : Int) : ∀ v ∈ [pick a 1048577, pick b 1048577], 0 ≤ v ∧ v ≤ 1048576 := by
  have h1 := pick_bd a 1048577 (by omega)
  have h2 := pick_bd b 1048577 (by omega)
  intro v hv
  simp only [List.mem_cons, List.not_mem_nil, or_false] at hv
  rcases hv with rfl | rfl <;> omega
set_option maxRecDepth 100000 in
set_option maxHeartbeats 8000000 in
theorem walk (w : World) (a0 a1 a2 a3 : Int) (wf0 : (Lit.int .i64 a0).wf = true) (wf1 : (Lit.int .i64 a1).wf = true) (wf2 : (Lit.int .i64 a2).wf = true) (wf3 : (Lit.int .i64 a3).wf = true) :
    Calls Try.prog 11 #[.int .i64 a0, .int .i64 a1, .int .i64 a2, .int .i64 a3] w fun e w' => e = .returned (.bool true) ∧ Below w.heap.size w w' := by
  have C0 := Lib.hid (cConfigOf (w := w) (v := .slice none 0 0) (ls := []) 1 1 1 (Has.of_owns (World.ownsRow_nil w 0 3 1)) (by decide))
  have Hok := Lib.hid (cfgOf_ok [] 1 1 1)
  have hml : (cfgOf [] 1 1 1).minted.length = 2 := rfl
  have P0 := Lib.hid fun X => picked a0 1048577 (by omega) (by omega) X
  have P1 := Lib.hid fun X => picked a1 1048577 (by omega) (by omega) X
  have P2 := Lib.hid fun X => picked a2 1048577 (by omega) (by omega) X
  have P3 := Lib.hid fun X => picked a3 1048577 (by omega) (by omega) X
  have T1 := Lib.hid (two_ask a0 a1)
  have T2 := Lib.hid (two_ask a2 a3)
  generalize pick a0 1048577 = m0 at *
  generalize pick a1 1048577 = m1 at *
  generalize pick a2 1048577 = m2 at *
  generalize pick a3 1048577 = m3 at *
  have HML := Lib.hid hml
  clear hml
  generalize cfgOf [] 1 1 1 = c at *
  clear wf0 wf1 wf2 wf3
  unfold Cfg.cells at C0
  go_enter Try.func11, Try.ntmps11
  go_wp2_with fail
  refine C0.out.mono ?_
  rintro e w1 ⟨gl, cl, gm, rfl, hC, hb1⟩
  have hbx := cfg_box w1 c (.slice (some ⟨gl, 0, none⟩) 3 cl) (.slice (some ⟨gm, 0, none⟩) 2 2)
  obtain ⟨x0, x1, x2, x3, x4⟩ := cfg_at (heap_alloc_new w1 (.cells (c.cells (.slice (some ⟨gl, 0, none⟩) 3 cl) (.slice (some ⟨gm, 0, none⟩) 2 2)) 55))
  have HC := Lib.hid (hC.on hbx)
  have Hb2 := Lib.hid (hb1.trans (hbx.mono hb1.size))
  unfold Cfg.cells at x0 x1 x2 x3 x4 HC Hb2
  clear hbx hb1 C0 hC
  go_upto_region 2 with (fail)
  generalize (w1.alloc (.cells #[.int .i64 c.n, .slice (some ⟨gl, 0, none⟩) 3 cl, .int .i64 c.ticks, .slice (some ⟨gm, 0, none⟩) 2 2, .int .i64 c.cap] 55)) = W at *
  generalize w1.heap.size = B at *
  have hBW := World.block_lt_of_cell? W _ x0
  have hb3 : Below W.heap.size W ((W.alloc (.cells #[.int .i64 m0, .int .i64 m1] 3)).alloc (.cells #[.int .i64 m2, .int .i64 m3] 3)) := (by repeat (first | exact Below.refl _ _ | refine Below.drew ?_ | refine Below.alloc ?_ (by first | (simp; done) | (simp; omega)) _ | refine Below.setCell ?_ (by first | (simp; done) | (simp; omega)) _))
  have HX3 : Hid (Has ((W.alloc (.cells #[.int .i64 m0, .int .i64 m1] 3)).alloc (.cells #[.int .i64 m2, .int .i64 m3] 3)) 1 (.slice (some ⟨W.heap.size, 0, none⟩) 2 2) 2 (ints [m0, m1])) :=
    (has_block (wp := W) (cs := ints [m0, m1]) (heap_alloc_new W (.cells #[.int .i64 m0, .int .i64 m1] 3)) rfl rfl (by decide)).below ((Below.refl _ _).alloc (Nat.le_refl _) _)
  have HY3 : Hid (Has ((W.alloc (.cells #[.int .i64 m0, .int .i64 m1] 3)).alloc (.cells #[.int .i64 m2, .int .i64 m3] 3)) 1 (.slice (some ⟨(W.alloc (.cells #[.int .i64 m0, .int .i64 m1] 3)).heap.size, 0, none⟩) 2 2) 2 (ints [m2, m3])) :=
    has_block (wp := W.alloc (.cells #[.int .i64 m0, .int .i64 m1] 3)) (cs := ints [m2, m3]) (heap_alloc_new (W.alloc (.cells #[.int .i64 m0, .int .i64 m1] 3)) (.cells #[.int .i64 m2, .int .i64 m3] 3)) rfl rfl (by decide)
  have es : (W.alloc (.cells #[.int .i64 m0, .int .i64 m1] 3)).heap.size = W.heap.size + 1 := by simp
  rw [es] at HY3
  replace x0 := cell_on hb3 x0
  replace x1 := cell_on hb3 x1
  replace x2 := cell_on hb3 x2
  replace x3 := cell_on hb3 x3
  replace x4 := cell_on hb3 x4
  have HC3 := Lib.hid (HC.out.on hb3)
  have Hb3 := Lib.hid (Hb2.out.trans (hb3.mono Hb2.out.size))
  clear hb3 es HC Hb2
  go_upto_region 4 with (first | (go_at_call 17; with_reducible refine (P0.out _).mono ?_; rintro e w' ⟨rfl, rfl⟩) | (go_at_call 17; with_reducible refine (P1.out _).mono ?_; rintro e w' ⟨rfl, rfl⟩) | (go_at_call 17; with_reducible refine (P2.out _).mono ?_; rintro e w' ⟨rfl, rfl⟩) | (go_at_call 17; with_reducible refine (P3.out _).mono ?_; rintro e w' ⟨rfl, rfl⟩))
  generalize ((W.alloc (.cells #[.int .i64 m0, .int .i64 m1] 3)).alloc (.cells #[.int .i64 m2, .int .i64 m3] 3)) = X at *
  generalize W.heap.size = R at *
  have K1 : Hid (∀ Y, Below X.heap.size X Y → _) := fun Y hY => cAsks Hok.out (HC3.out.on hY) (.slice (some ⟨R, 0, none⟩) 2 2) [m0, m1] (HX3.out.below hY) T1.out HML.out.symm
  have K2 : Hid (∀ Y, Below X.heap.size X Y → _) := fun Y hY => cAsks Hok.out (HC3.out.on hY) (.slice (some ⟨R + 1, 0, none⟩) 2 2) [m2, m3] (HY3.out.below hY) T2.out HML.out.symm
  have Hinj := Lib.hid (ask_inj T1.out T2.out rfl)
  have e1 : recSize (askF [m0, m1]) = 6 := by rw [askF_size]; simp
  have e2 : recSize (askF [m2, m3]) = 6 := by rw [askF_size]; simp
  have E1 : Hid (recBytes (askF [m0, m1]) = u8s (recB (askF [m0, m1])) ∧ (recB (askF [m0, m1])).length = 6) := ⟨rfl, by rw [recB_length]; exact e1⟩
  have E2 : Hid (recBytes (askF [m2, m3]) = u8s (recB (askF [m2, m3])) ∧ (recB (askF [m2, m3])).length = 6) := ⟨rfl, by rw [recB_length]; exact e2⟩
  rw [e1] at K1
  rw [e2] at K2
  have EZ1 := Lib.hid e1
  have CB := Lib.hid (Below.refl X.heap.size X)
  unfold Cfg.cells at K1 K2
  clear P0 P1 P2 P3 e1 e2
  go_wp2_with fail
  refine (K1.out _ CB.out).mono ?_
  rintro e w7 ⟨v7, rfl, hown7, hb7⟩
  obtain ⟨a7, c7, rfl⟩ := owns_slice hown7
  have O7 := Lib.hid (Has.of_owns hown7)
  replace CB := Lib.hid (CB.out.trans (hb7.mono CB.out.size))
  replace x0 := cell_on hb7 x0
  replace x1 := cell_on hb7 x1
  replace x2 := cell_on hb7 x2
  replace x3 := cell_on hb7 x3
  replace x4 := cell_on hb7 x4
  clear hown7 hb7 K1
  go_wp2_with fail
  refine (K2.out _ CB.out).mono ?_
  rintro e w8 ⟨v8, rfl, hown8, hb8⟩
  obtain ⟨a8, c8, rfl⟩ := owns_slice hown8
  have O8 := Lib.hid (Has.of_owns hown8)
  replace O7 := Lib.hid (O7.out.below hb8)
  replace CB := Lib.hid (CB.out.trans (hb8.mono CB.out.size))
  replace x0 := cell_on hb8 x0
  replace x1 := cell_on hb8 x1
  replace x2 := cell_on hb8 x2
  replace x3 := cell_on hb8 x3
  replace x4 := cell_on hb8 x4
  have hO7 := O7.out
  rw [E1.out.1] at hO7
  have K3 := Lib.hid (cAsked Hok.out (HC3.out.on CB.out) (.slice a7 6 c7) [m0, m1] (by rw [EZ1.out]; exact hO7) T1.out HML.out.symm)
  unfold Cfg.cells at K3
  clear hown8 hb8 K2 hO7
  go_wp2_with fail
  refine K3.out.mono ?_
  rintro e w9 ⟨v9, rfl, hown9, hb9⟩
  obtain ⟨a9, c9, rfl⟩ := owns_slice hown9
  have O9 := Lib.hid (Has.of_owns hown9)
  replace O7 := Lib.hid (O7.out.below hb9)
  replace O8 := Lib.hid (O8.out.below hb9)
  replace CB := Lib.hid (CB.out.trans (hb9.mono CB.out.size))
  rw [E1.out.1] at O7
  rw [E2.out.1] at O8
  have KA : Hid (∀ Y, Below w9.heap.size w9 Y → _) := fun Y hY => csameInts (.slice a9 2 c9) (.slice (some ⟨R, 0, none⟩) 2 2) [m0, m1] [m0, m1] Y (O9.out.below hY) (HX3.out.below (CB.out.trans (hY.mono CB.out.size)))
  have KB : Hid (∀ Y, Below w9.heap.size w9 Y → _) := fun Y hY => csameInts (.slice (some ⟨R, 0, none⟩) 2 2) (.slice (some ⟨R + 1, 0, none⟩) 2 2) [m0, m1] [m2, m3] Y (HX3.out.below (CB.out.trans (hY.mono CB.out.size))) (HY3.out.below (CB.out.trans (hY.mono CB.out.size)))
  have KC : Hid (∀ Y, Below w9.heap.size w9 Y → _) := fun Y hY => csameBytes (.slice a7 6 c7) (.slice a8 6 c8) (recB (askF [m0, m1])) (recB (askF [m2, m3])) Y (by rw [E1.out.2]; exact O7.out.below hY) (by rw [E2.out.2]; exact O8.out.below hY)
  have CB9 := Lib.hid (Below.refl w9.heap.size w9)
  have Hb9 : Hid (Below w.heap.size w w9) := Hb3.out.trans (CB.out.mono Hb3.out.size)
  have hdd : decide ([m0, m1] = [m0, m1]) = true := by simp
  have hde : decide (recB (askF [m0, m1]) = recB (askF [m2, m3])) = decide ([m0, m1] = [m2, m3]) := by simp only [Hinj.out]
  rw [hdd] at KA
  rw [hde] at KC
  generalize decide ([m0, m1] = [m2, m3]) = dd at *
  clear hown9 hb9 K3 x0 x1 x2 x3 x4 hdd hde E1 E2 EZ1 Hinj
  go_wp2_with fail
  refine (KA.out _ CB9.out).mono ?_
  rintro e w10 ⟨rfl, hb10⟩
  replace CB9 := Lib.hid (CB9.out.trans (hb10.mono CB9.out.size))
  clear hb10 KA
  go_wp2_with fail
  refine (KB.out _ CB9.out).mono ?_
  rintro e w11 ⟨rfl, hb11⟩
  replace CB9 := Lib.hid (CB9.out.trans (hb11.mono CB9.out.size))
  clear hb11 KB
  go_wp2_with fail
  refine (KC.out _ CB9.out).mono ?_
  rintro e w12 ⟨rfl, hb12⟩
  replace CB9 := Lib.hid (CB9.out.trans (hb12.mono CB9.out.size))
  clear hb12 KC
  go_wp2_with fail
  go_ret
  exact ⟨ret_bool (by simp), Hb9.out.trans (CB9.out.mono Hb9.out.size)⟩
end Go.Proofs.Ytgmichaconnhaaa.asksBack
