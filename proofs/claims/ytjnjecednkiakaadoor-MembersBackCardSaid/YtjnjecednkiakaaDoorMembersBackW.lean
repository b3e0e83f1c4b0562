/- MembersBack: the walk. -/
import Derived.Test.YtjnjecednkiakaaDoorMembW
import Derived.BigQuiet
namespace Go.Proofs.YtjnjecednkiakaaDoor.membersBack
open Go.ChangeShapes Go.WideShapes Go.ChangeAt Go.RowKit
set_option linter.unusedVariables false
set_option linter.unusedSimpArgs false

theorem owns_lit (w : World) (x : Value) (e base : Nat) (hb : base ≤ w.heap.size) : (w.alloc (.cells #[x] e)).ownsRow base e 1 (.slice (some ⟨w.heap.size, 0, none⟩) 1 1) 1 [x] :=
  ⟨by simp, .inr ⟨w.heap.size, 1, #[x], rfl, hb, heap_alloc_new w _, Nat.le_refl _, by decide, rfl, by simp⟩⟩
theorem natI_cons (x : Nat) (l : List Nat) : ints (natI (x :: l)) = [.int .i64 ((x : Nat) : Int)] ++ ints (natI l) := rfl
theorem natI_all (l : List Nat) : (ints (natI l)).all Value.oneCell' = true := by
  rw [List.all_eq_true]
  intro v hv
  simp only [ints, natI, List.mem_map] at hv
  obtain ⟨a, ⟨b, _, rfl⟩, rfl⟩ := hv
  rfl
set_option maxRecDepth 100000 in
set_option maxHeartbeats 8000000 in
theorem walk (w : World) (hT : TzVar w) (a b : Int) (wfa : (Lit.int .i64 a).wf = true) (wfb : (Lit.int .i64 b).wf = true) :
    Calls Tryd.prog 3 #[.int .i64 a, .int .i64 b] w fun e w' => e = .returned (.bool true) ∧ Below w.heap.size w w' := by
  have P1 := Lib.hid fun X => picked a 256 (by omega) (by omega) X
  rw [← (pn_eq a 256 (by omega)).1] at P1
  have hx := (pn_eq a 256 (by omega)).2
  generalize pn a 256 = x at *
  replace hx : x < 256 := by omega
  obtain ⟨f1, f2, f3⟩ := memL_facts ⟨x, hx⟩
  simp only at f1 f2 f3
  have F2 := Lib.hid f2
  have F3 := Lib.hid f3
  have CMb := Lib.hid (cMembers x hx w hT)
  have hlt8 : ∀ y ∈ memL x, y < 8 := fun y hy => by
    obtain ⟨i, hi, rfl⟩ := List.getElem_of_mem hy
    have := (f2 i (List.mem_range.2 (by omega)) hi).1
    simpa [List.getD_eq_getElem?_getD, hi] using this
  have H8 := Lib.hid hlt8
  have CMy := Lib.hid fun X => lmayN 0 (by omega) X
  have HBK : Hid (∀ t, (t < (memL x).length ∨ (t = 0 ∧ x = 0)) → ofF (othL (memL x) t (memL x).length) = (x, 0) ∧ (0 < (memL x).length → (ofF (othL (memL x) t (memL x).length ++ [(memL x).getD 0 0])).2 = 7)) := fun t ht =>
    back_facts ⟨x, hx⟩ t (List.mem_range.2 (by rcases ht with h | h <;> omega)) ht
  have hBt : Hid (0 < (memL x).length → pn b ((memL x).length : Int) < (memL x).length) := fun h => by
    have := (pn_eq b ((memL x).length : Int) (by omega)).2; omega
  have P2 : Hid (0 < (memL x).length → ∀ X, Calls Tryd.prog 6 #[.int .i64 b, .int .i64 ((memL x).length : Int)] X fun e w' => e = .returned (.int .i64 ((pn b ((memL x).length : Int) : Nat) : Int)) ∧ X = w') := fun h X => by
    rw [(pn_eq b ((memL x).length : Int) (by omega)).1]
    exact picked b _ (by omega) (by omega) X
  generalize pn b ((memL x).length : Int) = t at *
  generalize memL x = L at *
  clear wfa wfb hT f2 f3 hlt8
  go_enter Tryd.func3, Tryd.ntmps3
  go_wp2_with fail
  refine (P1.out _).mono ?_
  rintro e w' ⟨rfl, rfl⟩
  clear P1
  go_wp2_with fail
  refine CMb.out.mono ?_
  rintro e w3 ⟨v3, rfl, hown3, hb3⟩
  have HL3 := Lib.hid (Has.of_owns hown3)
  obtain ⟨a3, c3, rfl⟩ := owns_slice hown3
  have Hb3 := Lib.hid hb3
  have hc3 : c3 ≤ 9223372036854775807 := by
    obtain ⟨_, _, _, he, h1, h2, _⟩ := HL3.out
    simp only [Value.slice.injEq] at he
    obtain ⟨-, -, rfl⟩ := he
    exact h2
  have hlc : L.length ≤ c3 := by
    obtain ⟨_, _, _, he, h1, h2, _⟩ := HL3.out
    simp only [Value.slice.injEq] at he
    obtain ⟨-, -, rfl⟩ := he
    exact h1
  have HC : Hid (0 < L.length → ∃ g, a3 = some ⟨g, 0, none⟩ ∧ ∀ k, k < L.length → w3.cell? ⟨g, k, none⟩ = some (.int .i64 ((L.getD k 0 : Nat) : Int))) := fun h => by
    rcases hown3.2 with ⟨he, h0⟩ | ⟨g, cap, cur, he, -, -, -⟩
    · omega
    · simp only [Value.slice.injEq] at he
      obtain ⟨rfl, -, -⟩ := he
      refine ⟨g, rfl, fun k hk => ?_⟩
      obtain ⟨_, _, _, he, _, _, hcc⟩ := HL3.out
      simp only [Value.slice.injEq] at he
      obtain ⟨rfl, -, rfl⟩ := he
      obtain ⟨b', o', he, hcc⟩ := hcc (by rw [ints_length, natI_len]; exact h)
      simp only [Option.some.injEq, Addr.mk.injEq, and_true] at he
      obtain ⟨rfl, rfl⟩ := he
      have := hcc k (.int .i64 ((L.getD k 0 : Nat) : Int)) (by simp [natI, ints, hk, List.getD_eq_getElem?_getD])
      rw [Nat.zero_add] at this
      exact this
  have hlen8 : ¬ (8 < (L.length : Int)) := by omega
  clear CMb hown3 hb3
  go_wp2_with fail
  go_loopw [8, 9] (fun o i wr => ∃ k : Nat, k ≤ L.length ∧ i = .int .i64 (k : Int) ∧ Hid (wr.ownsRow w3.heap.size 3 1 o k (ints (natI (othL L t k)))) ∧ Hid (Below w3.heap.size w3 wr)) (fun _ i _ => L.length - (intOf i).toNat)
  case atStart => exact ⟨0, by omega, rfl, World.ownsRow_nil _ _ _ _, Below.refl _ _⟩
  case round =>
    obtain ⟨k, hk, rfl, HO, HB⟩ := hrel
    by_cases hlt : k < L.length
    · have hltz : (k : Int) < (L.length : Int) := by omega
      have hpos : 0 < L.length := by omega
      obtain ⟨g, rfl, hcl⟩ := HC.out hpos
      have HCL := Lib.hid hcl
      obtain ⟨y1, y2⟩ := F2.out k (List.mem_range.2 (by omega)) hlt
      have z0 := cell_on HB.out (hcl k hlt)
      have m1 : ¬ ((L.getD k 0 : Nat) : Int) < 0 := by omega
      have m2 : ¬ 7 < ((L.getD k 0 : Nat) : Int) := by omega
      have HK := Lib.hid hlt
      have HPos := Lib.hid hpos
      have hkd : k = 0 ∨ 0 < k := by omega
      -- THE ROUND
      rcases hkd with hk0 | hk0
      · have HZ := Lib.hid hk0
        have hz : decide (0 < (k : Int)) = false := by simp; omega
        have hzn : decide (0 < k) = false := by simp; omega
        clear hk0 hcl y1 y2 hlt hk
        generalize L.getD k 0 = yk at *
        go_upto_region 9 with (fail)
        go_quiet (fail)
        obtain ⟨w9, hw9⟩ : ∃ X, X = wr.drewN nq := ⟨_, rfl⟩
        rw [← hw9]
        have hb9 : Below wr.heap.size wr w9 := by rw [hw9]; exact below_drewN (Below.refl _ _) _
        have HB9 := Lib.hid (HB.out.trans (hb9.mono HB.out.size))
        have HO9 := Lib.hid (owns_below HO.out hb9)
        have PK := Lib.hid (P2.out HPos.out w9)
        have htl := hBt.out HPos.out
        have hmlt := Nat.mod_lt (k + t) HPos.out
        have z3 := cell_on HB9.out (HCL.out ((k + t) % L.length) hmlt)
        have q1 : IntKind.i64.wrap ((k : Int) + (t : Int)) = (k : Int) + (t : Int) := IntWalk.i64_in _ (by omega)
        have q2 : Int.tmod ((k : Int) + (t : Int)) (L.length : Int) = (((k + t) % L.length : Nat) : Int) := by rw [Int.tmod_eq_emod_of_nonneg (by omega), Int.natCast_emod, Int.natCast_add]
        have hne : ((L.length : Int) == 0) = false := by rw [beq_eq_false_iff_ne]; omega
        have hml : (((k + t) % L.length : Nat) : Int) < (L.length : Int) := Int.ofNat_lt.2 hmlt
        have HN : Hid (ints (natI (othL L t (k + 1))) = [.int .i64 ((L.getD ((k + t) % L.length) 0 : Nat) : Int)] ++ ints (natI (othL L t k))) := (natI_cons _ _ : _ = _)
        have HOL := Lib.hid (natI_all (othL L t k))
        have hsz9 := HB9.out.size
        have hszA : w3.heap.size ≤ (w9.alloc (.cells #[.int .i64 ((L.getD ((k + t) % L.length) 0 : Nat) : Int)] 3)).heap.size := by simp; omega
        clear hw9 hb9 z0 m1 m2 HZ
        generalize (k + t) % L.length = mm at *
        generalize L.getD mm 0 = yv at *
        have HM := Lib.hid hmlt
        clear hmlt
        go_upto_region 11 with (fail)
        go_wp2_with fail
        refine PK.out.mono ?_
        rintro e w10 ⟨rfl, rfl⟩
        clear PK
        go_wp2_with ((refine wp_appN (w0 := (w9.alloc (.cells #[.int .i64 (yv : Int)] 3))) 23 3 1 8 _ elInt Tryd.underlying23 w3.heap.size _ _ _ (owns_lit w9 _ _ _ hsz9) (by repeat (first | exact Below.refl _ _ | refine Below.drew ?_ | refine Below.alloc ?_ (by first | (simp; done) | (simp; omega)) _ | refine Below.setCell ?_ (by first | (simp; done) | (simp; omega)) _)) _ _ _ (Has.of_owns (owns_below HO9.out ((Below.refl w9.heap.size w9).alloc (Nat.le_refl _) _))) rfl _ _ rfl rfl rfl HOL.out (by omega) (by unfold maxLen; omega) hszA ?_; intro v3 w3 hown3 hgrow3 hb3))
        rw [← HN.out, Nat.add_comm 1 k] at hown3
        go_roundw
        case rel => exact ⟨k + 1, HK.out, by go_num, hown3, (HB9.out.alloc hsz9 _).trans hb3⟩
        case measure => have := HK.out; first | (simp [intOf]; done) | (simp [intOf]; omega)
      · have HZ := Lib.hid hk0
        have hz : decide (0 < (k : Int)) = true := by simp; omega
        have hzn : decide (0 < k) = true := by simp; omega
        have hw : IntKind.i64.wrap ((k : Int) - 1) = ((k - 1 : Nat) : Int) := by rw [IntWalk.i64_in _ (by omega)]; omega
        have z1 := cell_on HB.out (hcl (k - 1) (by omega))
        have m3 : decide (((L.getD k 0 : Nat) : Int) ≤ ((L.getD (k - 1) 0 : Nat) : Int)) = false := by have := y2 hk0; simp only [decide_eq_false_iff_not]; omega
        have m3n : decide (L.getD k 0 ≤ L.getD (k - 1) 0) = false := by have := y2 hk0; simp only [decide_eq_false_iff_not]; omega
        have m4 : ((k - 1 : Nat) : Int) < (L.length : Int) := by omega
        clear hk0 hcl y1 y2 hlt hk
        generalize L.getD k 0 = yk at *
        generalize L.getD (k - 1) 0 = yp at *
        go_upto_region 9 with (fail)
        go_quiet (fail)
        obtain ⟨w9, hw9⟩ : ∃ X, X = wr.drewN nq := ⟨_, rfl⟩
        rw [← hw9]
        have hb9 : Below wr.heap.size wr w9 := by rw [hw9]; exact below_drewN (Below.refl _ _) _
        have HB9 := Lib.hid (HB.out.trans (hb9.mono HB.out.size))
        have HO9 := Lib.hid (owns_below HO.out hb9)
        have PK := Lib.hid (P2.out HPos.out w9)
        have htl := hBt.out HPos.out
        have hmlt := Nat.mod_lt (k + t) HPos.out
        have z3 := cell_on HB9.out (HCL.out ((k + t) % L.length) hmlt)
        have q1 : IntKind.i64.wrap ((k : Int) + (t : Int)) = (k : Int) + (t : Int) := IntWalk.i64_in _ (by omega)
        have q2 : Int.tmod ((k : Int) + (t : Int)) (L.length : Int) = (((k + t) % L.length : Nat) : Int) := by rw [Int.tmod_eq_emod_of_nonneg (by omega), Int.natCast_emod, Int.natCast_add]
        have hne : ((L.length : Int) == 0) = false := by rw [beq_eq_false_iff_ne]; omega
        have hml : (((k + t) % L.length : Nat) : Int) < (L.length : Int) := Int.ofNat_lt.2 hmlt
        have HN : Hid (ints (natI (othL L t (k + 1))) = [.int .i64 ((L.getD ((k + t) % L.length) 0 : Nat) : Int)] ++ ints (natI (othL L t k))) := (natI_cons _ _ : _ = _)
        have HOL := Lib.hid (natI_all (othL L t k))
        have hsz9 := HB9.out.size
        have hszA : w3.heap.size ≤ (w9.alloc (.cells #[.int .i64 ((L.getD ((k + t) % L.length) 0 : Nat) : Int)] 3)).heap.size := by simp; omega
        clear hw9 hb9 z0 z1 m1 m2 m3 m3n m4 HZ hw
        generalize (k + t) % L.length = mm at *
        generalize L.getD mm 0 = yv at *
        have HM := Lib.hid hmlt
        clear hmlt
        go_upto_region 11 with (fail)
        go_wp2_with fail
        refine PK.out.mono ?_
        rintro e w10 ⟨rfl, rfl⟩
        clear PK
        go_wp2_with ((refine wp_appN (w0 := (w9.alloc (.cells #[.int .i64 (yv : Int)] 3))) 23 3 1 8 _ elInt Tryd.underlying23 w3.heap.size _ _ _ (owns_lit w9 _ _ _ hsz9) (by repeat (first | exact Below.refl _ _ | refine Below.drew ?_ | refine Below.alloc ?_ (by first | (simp; done) | (simp; omega)) _ | refine Below.setCell ?_ (by first | (simp; done) | (simp; omega)) _)) _ _ _ (Has.of_owns (owns_below HO9.out ((Below.refl w9.heap.size w9).alloc (Nat.le_refl _) _))) rfl _ _ rfl rfl rfl HOL.out (by omega) (by unfold maxLen; omega) hszA ?_; intro v3 w3 hown3 hgrow3 hb3))
        rw [← HN.out, Nat.add_comm 1 k] at hown3
        go_roundw
        case rel => exact ⟨k + 1, HK.out, by go_num, hown3, (HB9.out.alloc hsz9 _).trans hb3⟩
        case measure => have := HK.out; first | (simp [intOf]; done) | (simp [intOf]; omega)
    · obtain rfl : k = L.length := by omega
      have hof : ofF (othL L t L.length) = (x, 0) := by
        by_cases h0 : 0 < L.length
        · exact (HBK.out t (.inl (hBt.out h0))).1
        · have hl0 : L.length = 0 := by omega
          have := (HBK.out 0 (.inr ⟨rfl, F3.out.1 hl0⟩)).1
          rw [hl0] at this ⊢
          exact this
      have h8 : ∀ y ∈ othL L t L.length, y < 8 := by
        by_cases h0 : 0 < L.length
        · exact othL_lt L t H8.out h0 _
        · have hl0 : L.length = 0 := by omega
          rw [hl0]; intro y hy; simp [othL] at hy
      have HO1 := Has.of_owns HO.out
      have hol := othL_len L t L.length
      have CO := Lib.hid (cOf _ (othL L t L.length) wr (by rw [hol]; exact HO1) h8 (by omega))
      obtain ⟨oa, oc, rfl⟩ := owns_slice HO.out
      have HOF := Lib.hid hof
      have H8o := Lib.hid h8
      have HOLn := Lib.hid hol
      clear hof h8 HO1 hol
      go_wp2_with fail
      refine CO.out.mono ?_
      rintro e w4 ⟨⟨y, cd, rfl, hok⟩, rfl⟩
      obtain ⟨rfl, rfl⟩ := hok.1 (by rw [HOF.out])
      rw [HOF.out]
      clear hok CO
      by_cases h0 : L.length = 0
      · have hx0 : x = 0 := F3.out.1 h0
        subst hx0
        have hz : ((L.length : Int) == 0) = true := by simp [h0]
        have hz2 : (((L.length : Nat) : Int) = 0) := by omega
        have hfin := Hb3.out.trans (HB.out.mono Hb3.out.size)
        have HFin := Lib.hid hfin
        have CM0 : Hid (∀ X, Calls Tryd.prog 9 #[.int .i64 0] X fun e w' => e = .returned (.bool true) ∧ X = w') := fun X => lmayN 0 (by omega) X
        clear hfin
        go_wp2_with fail
        refine (CM0.out _).mono ?_
        rintro e w5 ⟨rfl, rfl⟩
        go_wp2_with fail
        go_ret
        exact ⟨rfl, HFin.out⟩
      · have hz : ((L.length : Int) == 0) = false := by rw [beq_eq_false_iff_ne]; omega
        have hpos : 0 < L.length := by omega
        obtain ⟨g, rfl, hcl⟩ := HC.out hpos
        have z0 := cell_on HB.out (hcl 0 hpos)
        have hposz : (0 : Int) < (L.length : Int) := by omega
        have h7 := (HBK.out t (.inl (hBt.out hpos))).2 hpos
        have h08 : L.getD 0 0 < 8 := (F2.out 0 (List.mem_range.2 (by omega)) hpos).1
        generalize L.getD 0 0 = y0 at *
        have hsz := HB.out.size
        have HFin := Lib.hid (Hb3.out.trans (HB.out.mono Hb3.out.size))
        have HS := Lib.hid (natI_snoc (othL L t L.length) y0)
        have HZ0 := Lib.hid h0
        have H7 := Lib.hid h7
        have H08 := Lib.hid h08
        clear hcl h7 h0 h08
        go_wp2_with (at_builtin; refine wp_app1 (w0 := wr) 23 3 1 8 _ elInt Tryd.underlying23 w3.heap.size _ _ _ HO.out (by repeat (first | exact Below.refl _ _ | refine Below.drew ?_ | refine Below.alloc ?_ (by first | (simp; done) | (simp; omega)) _ | refine Below.setCell ?_ (by first | (simp; done) | (simp; omega)) _)) [.int .i64 (y0 : Int)] rfl _ _ rfl rfl rfl (by first | exact heap_alloc_new _ _ | (simp only [heap_drew, heap_drewN]; exact heap_alloc_new _ _)) (by simp) rfl rfl (by omega) (by omega) hsz ?_; intro v5 w5 hown5 hgrow5 hb5)
        rw [← HS.out] at hown5
        have hl5 : (othL L t L.length ++ [y0]).length = L.length + 1 := by rw [List.length_append, HOLn.out]; rfl
        have CO2 := Lib.hid (cOf v5 (othL L t L.length ++ [y0]) w5 (by rw [hl5]; exact Has.of_owns hown5) (fun y hy => by
          rcases List.mem_append.1 hy with hy | hy
          · exact H8o.out y hy
          · rw [List.mem_singleton] at hy; subst hy; exact H08.out) (by rw [hl5]; omega))
        have HB5 := Lib.hid (HFin.out.trans (hb5.mono Hb3.out.size))
        clear hl5 hown5 hb5 hgrow5
        go_wp2_with fail
        refine CO2.out.mono ?_
        rintro e w6 ⟨⟨y, cd, rfl, hok⟩, rfl⟩
        obtain rfl := hok.2 H7.out
        clear hok CO2
        go_wp2_with fail
        go_ret
        exact ⟨rfl, HB5.out⟩
end Go.Proofs.YtjnjecednkiakaaDoor.membersBack
