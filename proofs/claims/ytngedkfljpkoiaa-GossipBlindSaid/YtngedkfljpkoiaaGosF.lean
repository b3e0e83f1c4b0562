/- Package gossip: Find. -/
import Derived.Test.YtngedkfljpkoiaaGosH
import Derived.Test.YtngedkfljpkoiaaNewestL
namespace Go.Proofs.Ytngedkfljpkoiaa
open Go.ChangeShapes Go.WideShapes Go.ChangeAt Go.RowKit
set_option linter.unusedVariables false
set_option linter.unusedSimpArgs false

def liveK (l : List Ent) (k : Int) : Bool := match look l k with | some e => !e.g | none => false
theorem five_put {w : World} {S : Nat} {a0 a1 a2 a3 a4 : Value} {e : TypeId} (h : w.heap[S]? = some (.cells #[a0, a1, a2, a3, a4] e (0, 0))) (x0 x1 x2 x3 x4 : Value) :
    (((((w.setCell ⟨S, 0, none⟩ x0).setCell ⟨S, 1, none⟩ x1).setCell ⟨S, 2, none⟩ x2).setCell ⟨S, 3, none⟩ x3).setCell ⟨S, 4, none⟩ x4).heap[S]? = some (.cells #[x0, x1, x2, x3, x4] e (0, 0)) :=
  heap_setCell_same _ S 4 _ _ x4 (heap_setCell_same _ S 3 _ _ x3 (heap_setCell_same _ S 2 _ _ x2 (heap_setCell_same _ S 1 _ _ x1 (heap_setCell_same _ S 0 _ _ x0 h))))
set_option maxRecDepth 100000 in
set_option maxHeartbeats 4000000 in
theorem cFind {w : World} {g m : Nat} {vs : Nat → Value} {l : Nat → List Ent} (h : StoreAt w g m vs l) (j : Nat) (hj : j < m) (hm : m ≤ 4) (key : Int) :
    Calls Try.prog 56 #[.slice (some ⟨g, 0, none⟩) m m, .int .i64 j, .int .i64 key] w fun e w' => ∃ x : Ent, e = .returned (.tuple #[.agg #[.int .i64 x.k, .int .i64 x.v, .int .i64 x.t, .int .i64 x.h, .bool x.g], .bool (liveK (l j) key)]) ∧ Below w.heap.size w w' := by
  obtain ⟨c0, f0⟩ := h.cell j hj
  have HR := Lib.hid (h.rows j hj).has
  have HM := Lib.hid (h.ok j hj).may
  have hgl := h.lt
  have hjz : (j : Int) < (m : Int) := by omega
  obtain ⟨_, aj, cj, hvj, _, hcm, _⟩ := (h.rows j hj).has
  unfold maxLen at hcm
  rw [hvj] at c0 HR
  generalize l j = a at *
  have hb0 : Below w.heap.size w (w.alloc (.cells #[.int .i64 0, .int .i64 0, .int .i64 0, .int .i64 0, .bool false] 41)) := (Below.refl _ _).alloc (Nat.le_refl _) _
  have hF := heap_alloc_new w (.cells #[.int .i64 0, .int .i64 0, .int .i64 0, .int .i64 0, .bool false] 41)
  have hs0 : w.heap.size < (w.alloc (.cells #[.int .i64 0, .int .i64 0, .int .i64 0, .int .i64 0, .bool false] 41)).heap.size := by simp
  replace c0 := cell_on hb0 c0
  have HF := Lib.hid hF
  have HB0 := Lib.hid hb0
  clear h hvj f0 hb0 hF
  go_enter Try.func56, Try.ntmps56
  go_upto_region 1 with (fail)
  generalize w.alloc (.cells #[.int .i64 0, .int .i64 0, .int .i64 0, .int .i64 0, .bool false] 41) = W at *
  go_wp2_with fail
  go_loopw [9, 15] (fun _ i wr => ∃ k : Nat, k ≤ a.length ∧ i = .int .i64 k ∧ Hid (∀ x (hx : x < a.length), x < k → a[x].k ≠ key) ∧ Hid (Below W.heap.size W wr)) (fun _ i _ => a.length - (intOf i).toNat)
  case atStart => exact ⟨0, by omega, rfl, fun x _ hx => absurd hx (by omega), Below.refl _ _⟩
  case round =>
    clear c0
    obtain ⟨k, hk, rfl, HH, HB⟩ := hrel
    have hFr : wr.heap[w.heap.size]? = some (.cells #[.int .i64 0, .int .i64 0, .int .i64 0, .int .i64 0, .bool false] 41 (0, 0)) := by rw [HB.out.block _ hs0]; exact HF.out
    have hFlt := (Array.getElem?_eq_some_iff.1 hFr).1
    have HBw : Hid (Below w.heap.size w wr) := HB0.out.trans (HB.out.mono HB0.out.size)
    by_cases hlt : k < a.length
    · have hltz : (k : Int) < (a.length : Int) := by omega
      obtain ⟨b, off, cap, he, -, x0, x1, x2, x3, x4⟩ := ent_get (HR.out.below HBw.out) k hlt
      simp only [Value.slice.injEq] at he
      obtain ⟨rfl, -, rfl⟩ := he
      have hbl := World.block_lt_of_cell? wr _ x0
      have hlook := Lib.hid (look_at HM.out k hlt)
      have hfin0 : Hid (a[k].k ≠ key → ∀ x (hx : x < a.length), x < k + 1 → a[x].k ≠ key) := fun hne x hx hxk => by
        by_cases e : x = k
        · subst e; exact hne
        · exact HH.out x hx (by omega)
      generalize a[k] = x at *
      have hbx := ent_box (w := wr) x
      obtain ⟨⟨z0, z1, z2, z3, z4⟩, -⟩ := five_at (heap_alloc_new wr (.cells #[.int .i64 x.k, .int .i64 x.v, .int .i64 x.t, .int .i64 x.h, .bool x.g] 41))
      have hFw : (wr.alloc (.cells #[.int .i64 x.k, .int .i64 x.v, .int .i64 x.t, .int .i64 x.h, .bool x.g] 41)).heap[w.heap.size]? = some (.cells #[.int .i64 0, .int .i64 0, .int .i64 0, .int .i64 0, .bool false] 41 (0, 0)) := by rw [hbx.block _ (Array.getElem?_eq_some_iff.1 hFr).1]; exact hFr
      have HB2 : Hid (Below W.heap.size W (wr.alloc (.cells #[.int .i64 x.k, .int .i64 x.v, .int .i64 x.t, .int .i64 x.h, .bool x.g] 41))) := HB.out.trans (hbx.mono HB.out.size)
      have HBw2 : Hid (Below w.heap.size w (wr.alloc (.cells #[.int .i64 x.k, .int .i64 x.v, .int .i64 x.t, .int .i64 x.h, .bool x.g] 41))) := HBw.out.trans (hbx.mono HBw.out.size)
      have HFw := Lib.hid hFw
      clear hbx hFr HB HBw hFw
      by_cases hc : x.k = key
      · have hcb : (x.k == key) = true := by simpa using hc
        have hlv : Hid (liveK a key = !x.g) := by
          show _ = _
          unfold liveK; rw [← hc, hlook.out]
        clear hc hfin0 hlook HH
        obtain ⟨⟨y0, y1, y2, y3, y4⟩, yf⟩ := five_at HFw.out
        have yf0 := yf 0
        have yf1 := yf 1
        have yf2 := yf 2
        have yf3 := yf 3
        have yf4 := yf 4
        clear yf
        go_upto_region 5 with (fail)
        generalize wr.alloc (.cells #[.int .i64 x.k, .int .i64 x.v, .int .i64 x.t, .int .i64 x.h, .bool x.g] 41) = W2 at *
        obtain ⟨⟨t0, t1, t2, t3, t4⟩, -⟩ := five_at (five_put HFw.out (.int .i64 x.k) (.int .i64 x.v) (.int .i64 x.t) (.int .i64 x.h) (.bool x.g))
        have hb6 : Below w.heap.size w (((((W2.setCell ⟨w.heap.size, 0, none⟩ (.int .i64 x.k)).setCell ⟨w.heap.size, 1, none⟩ (.int .i64 x.v)).setCell ⟨w.heap.size, 2, none⟩ (.int .i64 x.t)).setCell ⟨w.heap.size, 3, none⟩ (.int .i64 x.h)).setCell ⟨w.heap.size, 4, none⟩ (.bool x.g)) :=
          ((((HBw2.out.setCell (Nat.le_refl _) _).setCell (Nat.le_refl _) _).setCell (Nat.le_refl _) _).setCell (Nat.le_refl _) _).setCell (Nat.le_refl _) _
        go_region
        all_goals
          clear y0 y1 y2 y3 y4 yf0 yf1 yf2 yf3 yf4 z0 z1 z2 z3 z4 x0 x1 x2 x3 x4
          generalize (((((W2.setCell ⟨w.heap.size, 0, none⟩ (.int .i64 x.k)).setCell ⟨w.heap.size, 1, none⟩ (.int .i64 x.v)).setCell ⟨w.heap.size, 2, none⟩ (.int .i64 x.t)).setCell ⟨w.heap.size, 3, none⟩ (.int .i64 x.h)).setCell ⟨w.heap.size, 4, none⟩ (.bool x.g)) = w6 at *
          have u0 : w6.drew.cell? ⟨w.heap.size, 0, none⟩ = some (.int .i64 x.k) := t0
          have u1 : w6.drew.cell? ⟨w.heap.size, 1, none⟩ = some (.int .i64 x.v) := t1
          have u2 : w6.drew.cell? ⟨w.heap.size, 2, none⟩ = some (.int .i64 x.t) := t2
          have u3 : w6.drew.cell? ⟨w.heap.size, 3, none⟩ = some (.int .i64 x.h) := t3
          have u4 : w6.drew.cell? ⟨w.heap.size, 4, none⟩ = some (.bool x.g) := t4
          have Hb6 : Hid (Below w.heap.size w w6.drew) := hb6.drew
          generalize w6.drew = w7 at *
          clear t0 t1 t2 t3 t4 hb6
          go_wp2_with fail
          refine bodyPost_ret (v := .tuple #[.agg #[.int .i64 x.k, .int .i64 x.v, .int .i64 x.t, .int .i64 x.h, .bool x.g], .bool (!x.g)]) (by simp [results, Try.results56, go_sem, u0, u1, u2, u3, u4]) rfl ?_
          rw [hlv.out]
          first | exact ⟨⟨x, rfl⟩, Hb6.out⟩ | exact ⟨x, rfl, Hb6.out⟩
      · have hcb : (x.k == key) = false := by rw [beq_eq_false_iff_ne]; exact hc
        have hfin := Lib.hid (hfin0.out hc)
        clear hc hfin0 hlook HH
        go_wp2_with fail
        go_roundw
        case rel => exact ⟨k + 1, by omega, by go_num, hfin, HB2⟩
        case measure => first | (simp [intOf]; done) | (simp [intOf]; omega)
    · obtain rfl : k = a.length := by omega
      have hlv : Hid (liveK a key = false) := by
        show _ = _
        unfold liveK
        rw [look_none fun x hx => by obtain ⟨i, hi, rfl⟩ := List.mem_iff_getElem.1 hx; exact HH.out i hi hi]
      obtain ⟨⟨y0, y1, y2, y3, y4⟩, yf⟩ := five_at hFr
      have yf0 := yf 0
      have yf1 := yf 1
      have yf2 := yf 2
      have yf3 := yf 3
      have yf4 := yf 4
      obtain ⟨⟨t0, t1, t2, t3, t4⟩, -⟩ := five_at (five_put hFr (.int .i64 0) (.int .i64 0) (.int .i64 0) (.int .i64 0) (.bool false))
      have hb6 : Below w.heap.size w (((((wr.setCell ⟨w.heap.size, 0, none⟩ (.int .i64 0)).setCell ⟨w.heap.size, 1, none⟩ (.int .i64 0)).setCell ⟨w.heap.size, 2, none⟩ (.int .i64 0)).setCell ⟨w.heap.size, 3, none⟩ (.int .i64 0)).setCell ⟨w.heap.size, 4, none⟩ (.bool false)) :=
        ((((HBw.out.setCell (Nat.le_refl _) _).setCell (Nat.le_refl _) _).setCell (Nat.le_refl _) _).setCell (Nat.le_refl _) _).setCell (Nat.le_refl _) _
      clear yf HH hFr
      go_wp2_with fail
      clear y0 y1 y2 y3 y4 yf0 yf1 yf2 yf3 yf4
      generalize (((((wr.setCell ⟨w.heap.size, 0, none⟩ (.int .i64 0)).setCell ⟨w.heap.size, 1, none⟩ (.int .i64 0)).setCell ⟨w.heap.size, 2, none⟩ (.int .i64 0)).setCell ⟨w.heap.size, 3, none⟩ (.int .i64 0)).setCell ⟨w.heap.size, 4, none⟩ (.bool false)) = w6 at *
      refine bodyPost_ret (v := .tuple #[.agg #[.int .i64 0, .int .i64 0, .int .i64 0, .int .i64 0, .bool false], .bool false]) (by simp [results, Try.results56, go_sem, t0, t1, t2, t3, t4]) rfl ?_
      rw [hlv.out]
      exact ⟨⟨0, 0, 0, 0, false⟩, rfl, hb6⟩
end Go.Proofs.Ytngedkfljpkoiaa
