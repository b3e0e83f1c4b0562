/- The laws' ConfigOf, StoreOf. -/
import Derived.Test.YtgmichaconnhaaaFrmA
import Derived.Test.YtgmichaconnhaaaFive
import Derived.Test.YtgmichaconnhaaaPn
import Derived.Test.YtgmichaconnhaaaLabsOf
import Derived.Test.YtgmichaconnhaaaHasAt
namespace Go.Proofs.Ytgmichaconnhaaa
open Go.ChangeShapes Go.WideShapes Go.ChangeAt Go.RowKit
set_option linter.unusedVariables false
set_option linter.unusedSimpArgs false

/-- The laws' config. -/
def cfgOf (ls : List Int) (ticks minted most : Int) : Cfg := ⟨4, labsOf ls, 1 + pn ticks 4, [pick minted 60, pick (minted.tdiv 60) 60], pn most 20⟩
theorem cfgOf_ok (ls : List Int) (ticks minted most : Int) : (cfgOf ls ticks minted most).Ok := by
  have h1 := (pn_eq ticks 4 (by omega)).2
  have h2 := (pn_eq most 20 (by omega)).2
  have h3 := pick_bd minted 60 (by omega)
  have h4 := pick_bd (minted.tdiv 60) 60 (by omega)
  refine ⟨by simp [cfgOf], by simp [cfgOf, labsK_len, labsOf], fun x hx => labsK_lt ls 3 x hx, by simp only [cfgOf]; omega, by simp [cfgOf], fun x hx => ?_, by simp only [cfgOf]; omega⟩
  simp only [cfgOf, List.mem_cons, List.not_mem_nil, or_false] at hx
  rcases hx with rfl | rfl <;> omega
set_option maxRecDepth 100000 in
set_option maxHeartbeats 4000000 in
theorem cConfigOf {w : World} {v : Value} {ls : List Int} (ticks minted most : Int) (h : Has w 1 v ls.length (ints ls)) (hm : (Lit.int .i64 minted).wf = true) :
    Calls Try.prog 21 #[v, .int .i64 ticks, .int .i64 minted, .int .i64 most] w fun e w' => ∃ g cl gm, e = .returned (.agg ((cfgOf ls ticks minted most).cells (.slice (some ⟨g, 0, none⟩) 3 cl) (.slice (some ⟨gm, 0, none⟩) 2 2))) ∧ CfgAt w' (cfgOf ls ticks minted most) (.slice (some ⟨g, 0, none⟩) 3 cl) (.slice (some ⟨gm, 0, none⟩) 2 2) ∧ Below w.heap.size w w' := by
  have hbz : Below w.heap.size w (w.alloc (.cells #[.int .i64 0, .slice none 0 0, .int .i64 0, .slice none 0 0, .int .i64 0] 55)) := (Below.refl _ _).alloc (Nat.le_refl _) _
  have C0 := Lib.hid (cLabelsOf (h.below hbz))
  have hwf := wf64_iff.1 hm
  have hq : IntKind.i64.wrap (minted.tdiv 60) = minted.tdiv 60 := IntWalk.i64_in _ (by
    constructor
    · rcases Int.le_total 0 minted with hp | hp
      · have := Int.tdiv_nonneg hp (show (0 : Int) ≤ 60 by omega); omega
      · have e : minted.tdiv 60 = -((-minted).tdiv 60) := by rw [Int.neg_tdiv]; omega
        have h1 : (-minted).tdiv 60 = (-minted) / 60 := Int.tdiv_eq_ediv_of_nonneg (by omega)
        omega
    · rcases Int.le_total 0 minted with hp | hp
      · rw [Int.tdiv_eq_ediv_of_nonneg hp]; omega
      · have e : minted.tdiv 60 = -((-minted).tdiv 60) := by rw [Int.neg_tdiv]; omega
        have h1 := Int.tdiv_nonneg (show 0 ≤ -minted by omega) (show (0 : Int) ≤ 60 by omega)
        omega)
  have P1 := Lib.hid fun X => picked ticks 4 (by omega) (by omega) X
  have P2 := Lib.hid fun X => picked minted 60 (by omega) (by omega) X
  have P3 := Lib.hid fun X => picked (minted.tdiv 60) 60 (by omega) (by omega) X
  have P4 := Lib.hid fun X => picked most 20 (by omega) (by omega) X
  have hd1 := (pn_eq ticks 4 (by omega)).2
  have hd4 := (pn_eq most 20 (by omega)).2
  have hcf : cfgOf ls ticks minted most = ⟨4, labsOf ls, 1 + pn ticks 4, [pick minted 60, pick (minted.tdiv 60) 60], pn most 20⟩ := rfl
  rw [← (pn_eq ticks 4 (by omega)).1] at P1
  rw [← (pn_eq most 20 (by omega)).1] at P4
  have hll := labsK_len ls 3
  have hcl3 : (labsOf ls).length = 3 := hll
  rw [hcf]
  generalize labsOf ls = labs at *
  generalize pn ticks 4 = d1 at *
  generalize pick minted 60 = d2 at *
  generalize pick (minted.tdiv 60) 60 = d3 at *
  generalize pn most 20 = d4 at *
  have Hbz := Lib.hid hbz
  have hw1 : IntKind.i64.wrap (1 + (d1 : Int)) = 1 + (d1 : Int) := IntWalk.i64_in _ (by omega)
  clear h hm hwf hbz hcf hll
  go_enter Try.func21, Try.ntmps21
  go_wp2_with fail
  refine C0.out.mono ?_
  rintro e w2 ⟨gl, cl, rfl, hownL, hb2⟩
  have HL2 := Has.of_owns hownL
  have hbox : w2.heap[w.heap.size]? = some (.cells #[.int .i64 0, .slice none 0 0, .int .i64 0, .slice none 0 0, .int .i64 0] 55 (0, 0)) := by
    rw [hb2.block _ (by simp)]; exact heap_alloc_new _ _
  have hlt := (Array.getElem?_eq_some_iff.1 hbox).1
  have hba : Below w2.heap.size w2 (w2.alloc (.cells #[.int .i64 d2, .int .i64 d3] 3)) := (Below.refl _ _).alloc (Nat.le_refl _) _
  have hbox2 : (w2.alloc (.cells #[.int .i64 d2, .int .i64 d3] 3)).heap[w.heap.size]? = some (.cells #[.int .i64 0, .slice none 0 0, .int .i64 0, .slice none 0 0, .int .i64 0] 55 (0, 0)) := by rw [hba.block _ hlt]; exact hbox
  have hb02 : Below w.heap.size w w2 := Hbz.out.trans (hb2.mono Hbz.out.size)
  obtain ⟨⟨y0, y1, y2, y3, y4⟩, yf⟩ := five_at hbox2
  have yf0 := yf 0
  have yf1 := yf 1
  have yf2 := yf 2
  have yf3 := yf 3
  have yf4 := yf 4
  have hfin : ∀ X : World, X = (((((w2.alloc (.cells #[.int .i64 d2, .int .i64 d3] 3)).setCell ⟨w.heap.size, 0, none⟩ (.int .i64 4)).setCell ⟨w.heap.size, 1, none⟩ (.slice (some ⟨gl, 0, none⟩) 3 cl)).setCell ⟨w.heap.size, 2, none⟩ (.int .i64 (1 + (d1 : Int)))).setCell ⟨w.heap.size, 3, none⟩ (.slice (some ⟨w2.heap.size, 0, none⟩) 2 2)).setCell ⟨w.heap.size, 4, none⟩ (.int .i64 d4) →
      (X.cell? ⟨w.heap.size, 0, none⟩ = some (.int .i64 4) ∧ X.cell? ⟨w.heap.size, 1, none⟩ = some (.slice (some ⟨gl, 0, none⟩) 3 cl) ∧ X.cell? ⟨w.heap.size, 2, none⟩ = some (.int .i64 (1 + (d1 : Int))) ∧ X.cell? ⟨w.heap.size, 3, none⟩ = some (.slice (some ⟨w2.heap.size, 0, none⟩) 2 2) ∧ X.cell? ⟨w.heap.size, 4, none⟩ = some (.int .i64 d4)) ∧
      (CfgAt X ⟨4, labs, 1 + d1, [d2, d3], d4⟩ (.slice (some ⟨gl, 0, none⟩) 3 cl) (.slice (some ⟨w2.heap.size, 0, none⟩) 2 2) ∧ Below w.heap.size w X) := fun X hX => by
    subst hX
    have hput := five_put hbox2 (.int .i64 4) (.slice (some ⟨gl, 0, none⟩) 3 cl) (.int .i64 (1 + (d1 : Int))) (.slice (some ⟨w2.heap.size, 0, none⟩) 2 2) (.int .i64 d4)
    obtain ⟨t, -⟩ := five_at hput
    have hwr : ∀ k, k ≠ w.heap.size → ((((((w2.alloc (.cells #[.int .i64 d2, .int .i64 d3] 3)).setCell ⟨w.heap.size, 0, none⟩ (.int .i64 4)).setCell ⟨w.heap.size, 1, none⟩ (.slice (some ⟨gl, 0, none⟩) 3 cl)).setCell ⟨w.heap.size, 2, none⟩ (.int .i64 (1 + (d1 : Int)))).setCell ⟨w.heap.size, 3, none⟩ (.slice (some ⟨w2.heap.size, 0, none⟩) 2 2)).setCell ⟨w.heap.size, 4, none⟩ (.int .i64 d4)).heap[k]? = (w2.alloc (.cells #[.int .i64 d2, .int .i64 d3] 3)).heap[k]? := fun k hk => by
      rw [Below.heap_setCell _ _ _ _ hk, Below.heap_setCell _ _ _ _ hk, Below.heap_setCell _ _ _ _ hk, Below.heap_setCell _ _ _ _ hk, Below.heap_setCell _ _ _ _ hk]
    obtain ⟨g', c', he, hge, _⟩ := owns_some hownL (by omega)
    simp only [Value.slice.injEq, Option.some.injEq, Addr.mk.injEq, and_true, true_and] at he
    obtain ⟨rfl, rfl⟩ := he
    have hglne : gl ≠ w.heap.size := by simp at hge; omega
    refine ⟨t, ⟨?_, ?_⟩, ?_⟩
    · refine ((by rw [hcl3]; exact HL2 : Has w2 1 (.slice (some ⟨gl, 0, none⟩) 3 cl) labs.length (ints (labInts labs))).below hba).at fun _ b off n' cap hv => ?_
      simp only [Value.slice.injEq, Option.some.injEq, Addr.mk.injEq] at hv
      obtain ⟨⟨rfl, -, -⟩, -⟩ := hv
      exact hwr _ hglne
    · refine (has_block (wp := w2) (cs := ints [d2, d3]) (n := 2) (sz := 1) (heap_alloc_new w2 (.cells #[.int .i64 d2, .int .i64 d3] 3)) rfl rfl (by decide)).at fun _ b off n' cap hv => ?_
      simp only [Value.slice.injEq, Option.some.injEq, Addr.mk.injEq] at hv
      obtain ⟨⟨rfl, -, -⟩, -⟩ := hv
      exact hwr _ (by omega)
    · exact (((((hb02.trans (hba.mono hb02.size)).setCell (Nat.le_refl _) _).setCell (Nat.le_refl _) _).setCell (Nat.le_refl _) _).setCell (Nat.le_refl _) _).setCell (Nat.le_refl _) _
  have Hfin := Lib.hid hfin
  clear hfin hownL HL2 hbox hbox2 hba hb02 hb2 yf C0 Hbz
  go_wp2_with (first | (go_at_call 17; with_reducible refine (P1.out _).mono ?_; rintro e w' ⟨rfl, rfl⟩) | (go_at_call 17; with_reducible refine (P2.out _).mono ?_; rintro e w' ⟨rfl, rfl⟩) | (go_at_call 17; with_reducible refine (P3.out _).mono ?_; rintro e w' ⟨rfl, rfl⟩))
  refine (P4.out _).mono ?_
  rintro e w' ⟨rfl, rfl⟩
  generalize (w2.alloc (.cells #[.int .i64 d2, .int .i64 d3] 3)) = W3 at *
  go_wp2_with fail
  obtain ⟨⟨t0, t1, t2, t3, t4⟩, hc, hb⟩ := Hfin.out _ rfl
  clear Hfin y0 y1 y2 y3 y4 yf0 yf1 yf2 yf3 yf4
  generalize (((((W3.setCell ⟨w.heap.size, 0, none⟩ (.int .i64 4)).setCell ⟨w.heap.size, 1, none⟩ (.slice (some ⟨gl, 0, none⟩) 3 cl)).setCell ⟨w.heap.size, 2, none⟩ (.int .i64 (1 + (d1 : Int)))).setCell ⟨w.heap.size, 3, none⟩ (.slice (some ⟨w2.heap.size, 0, none⟩) 2 2)).setCell ⟨w.heap.size, 4, none⟩ (.int .i64 d4)) = X at *
  refine bodyPost_ret (v := .agg #[.int .i64 4, .slice (some ⟨gl, 0, none⟩) 3 cl, .int .i64 (1 + (d1 : Int)), .slice (some ⟨w2.heap.size, 0, none⟩) 2 2, .int .i64 d4]) (by simp [results, Try.results21, go_sem, t0, t1, t2, t3, t4]) rfl ?_
  exact ⟨_, _, _, rfl, hc, hb⟩
end Go.Proofs.Ytgmichaconnhaaa
