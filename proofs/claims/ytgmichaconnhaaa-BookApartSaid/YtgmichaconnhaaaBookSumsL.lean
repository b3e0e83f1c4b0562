/- Books: what BookSums keeps beside the book. -/
import Derived.Test.YtgmichaconnhaaaCalls
namespace Go.Proofs.Ytgmichaconnhaaa
open Go.ChangeShapes Go.WideShapes Go.ChangeAt Go.RowKit
set_option linter.unusedVariables false
set_option linter.unusedSimpArgs false

/-- What was given since the epoch began, and what may still be. -/
def SinceOk (top : Int) (b : Bk) (ss : List Int) : Prop := ss.length = 3 ∧ ∀ j, 0 ≤ ss.getD j 0 ∧ ss.getD j 0 + b.quota.getD j 0 ≤ top
theorem getD_zeros (n j : Nat) : (List.replicate n (0 : Int)).getD j 0 = 0 := by
  rw [List.getD_eq_getElem?_getD, List.getElem?_replicate]; split <;> rfl
theorem SinceOk.start {top : Int} {b : Bk} (h0 : 0 ≤ top) (hb : b.quota = zerosI 3) : SinceOk top b (List.replicate 3 0) :=
  ⟨rfl, fun j => by rw [hb]; unfold zerosI; rw [getD_zeros]; omega⟩
theorem SinceOk.epoch {top : Int} {b : Bk} (h0 : BkOk 3 b) (hm : b.most = top) (hb : b.begins = true) : SinceOk top b.next (List.replicate 3 0) :=
  ⟨rfl, fun j => by
    unfold Bk.next Bk.epoch
    rw [if_pos hb, getD_zeros]
    have h := (shareV_ok b.res b.wants.length b.most h0.res.1 h0.most).1 j
    simp only; omega⟩
theorem SinceOk.same {top : Int} {b : Bk} {ss : List Int} (h : SinceOk top b ss) (hb : b.begins = false) : SinceOk top b.next ss :=
  ⟨h.1, fun j => by
    unfold Bk.next Bk.epoch
    rw [if_neg (by rw [hb]; simp)]
    exact h.2 j⟩
theorem SinceOk.pay {top : Int} {b : Bk} {ss : List Int} (h : SinceOk top b ss) (hok : BkOk 3 b) (k : Nat) (hk : k < 3) : SinceOk top (b.pay k) (ss.set k (ss.getD k 0 + b.due k)) := by
  refine ⟨by simp [h.1], fun j => ?_⟩
  have hd := due_bd hok k
  have hj := h.2 j
  unfold Bk.pay
  simp only
  by_cases e : k = j
  · subst e
    rw [getD_set_same (by rw [h.1]; exact hk), getD_set_same (by rw [hok.lq]; exact hk)]; omega
  · rw [getD_set_ne e, getD_set_ne e]; exact hj
/-- What is granted in the end was granted at that branch's turn. -/
theorem granted_turn {b : Bk} (n k : Nat) (hk : k < n) (hok : BkOk n b) : ∀ m, k < m → m ≤ n → (b.payTo m).granted.getD k 0 = (b.payTo k).granted.getD k 0 + (b.payTo k).due k
  | 0, h, _ => by omega
  | m + 1, h, hm => by
    rw [Bk.payTo_succ]
    by_cases e : k = m
    · subst e
      unfold Bk.pay
      simp only
      rw [getD_set_same (by rw [(hok.payTo k (by omega)).lg]; exact hk)]
    · rw [← granted_turn n k hk hok m (by omega) (by omega)]
      unfold Bk.pay
      simp only
      rw [getD_set_ne (Ne.symm e)]
theorem begins_iff (b : Bk) : b.begins = decide (b.round % b.ticks = 0) := by unfold Bk.begins; rfl
theorem payTo_keeps (b : Bk) : ∀ k, (b.payTo k).wants = b.wants ∧ (b.payTo k).most = b.most ∧ (b.payTo k).ticks = b.ticks ∧ (b.payTo k).round = b.round
  | 0 => ⟨rfl, rfl, rfl, rfl⟩
  | k + 1 => by rw [Bk.payTo_succ]; exact payTo_keeps b k
theorem next_keeps (b : Bk) : b.next.wants = b.wants ∧ b.next.most = b.most ∧ b.next.ticks = b.ticks ∧ b.next.round = b.round + 1 ∧ b.next.granted = b.granted ∧ b.next.res = b.res := by
  unfold Bk.next Bk.epoch; split <;> exact ⟨rfl, rfl, rfl, rfl, rfl, rfl⟩
theorem rounded_keeps (b : Bk) : b.rounded.wants = b.wants ∧ b.rounded.most = b.most ∧ b.rounded.ticks = b.ticks ∧ b.rounded.round = b.round + 1 := by
  have h1 := payTo_keeps b.next b.wants.length
  have h2 := next_keeps b
  unfold Bk.rounded
  exact ⟨h1.1.trans h2.1, h1.2.1.trans h2.2.1, h1.2.2.1.trans h2.2.2.1, h1.2.2.2.trans h2.2.2.2.1⟩
theorem step_keeps (b : Bk) (c : Cal) : (b.step c).most = b.most ∧ (b.step c).ticks = b.ticks := by
  unfold Bk.step
  split
  · exact ⟨rfl, rfl⟩
  · split
    · exact ⟨rfl, rfl⟩
    · exact ⟨(rounded_keeps b).2.1, (rounded_keeps b).2.2.1⟩
theorem bkFold_keeps (b : Bk) (l : List Cal) : ∀ k, k ≤ l.length → (bkFold b (l.take k)).1.most = b.most ∧ (bkFold b (l.take k)).1.ticks = b.ticks
  | 0, _ => ⟨rfl, rfl⟩
  | k + 1, hk => by
    have ih := bkFold_keeps b l k (by omega)
    have e : bkFold b (l.take (k + 1)) = bkStep (bkFold b (l.take k)) l[k] := foldl_take _ _ _ _ (by omega)
    rw [e]
    have h := step_keeps (bkFold b (l.take k)).1 l[k]
    exact ⟨h.1.trans ih.1, h.2.trans ih.2⟩
/-- The three rows. -/
structure SumAt (W wr : World) (g1 g2 g3 : Nat) (ws gs ss : List Int) : Prop where
  rw : wr.ownsRow W.heap.size 3 1 (.slice (some ⟨g1, 0, none⟩) 3 3) 3 (ints ws)
  rg : wr.ownsRow W.heap.size 3 1 (.slice (some ⟨g2, 0, none⟩) 3 3) 3 (ints gs)
  rs : wr.ownsRow W.heap.size 3 1 (.slice (some ⟨g3, 0, none⟩) 3 3) 3 (ints ss)
  d12 : g1 ≠ g2
  d13 : g1 ≠ g3
  d23 : g2 ≠ g3
  lo : W.heap.size ≤ g1 ∧ W.heap.size ≤ g2 ∧ W.heap.size ≤ g3
  hb : Below W.heap.size W wr
variable {W wr : World} {g1 g2 g3 : Nat} {ws gs ss : List Int}
theorem SumAt.below {w' : World} (h : SumAt W wr g1 g2 g3 ws gs ss) (hb : Below wr.heap.size wr w') : SumAt W w' g1 g2 g3 ws gs ss :=
  ⟨owns_below h.rw hb, owns_below h.rg hb, owns_below h.rs hb, h.d12, h.d13, h.d23, h.lo, h.hb.trans (hb.mono h.hb.size)⟩
theorem SumAt.drewN (h : SumAt W wr g1 g2 g3 ws gs ss) (n : Nat) : SumAt W (wr.drewN n) g1 g2 g3 ws gs ss := h.below (below_drewN (Below.refl _ _) n)
theorem SumAt.setW (h : SumAt W wr g1 g2 g3 ws gs ss) (k : Nat) (x : Int) : SumAt W (wr.setCell ⟨g1, k, none⟩ (.int .i64 x)) g1 g2 g3 (ws.set k x) gs ss :=
  ⟨by rw [← ints_set]; exact owns_set h.rw k _, owns_ne h.rg (Ne.symm h.d12) _, owns_ne h.rs (Ne.symm h.d13) _, h.d12, h.d13, h.d23, h.lo, h.hb.setCell h.lo.1 _⟩
theorem SumAt.setG (h : SumAt W wr g1 g2 g3 ws gs ss) (k : Nat) (x : Int) : SumAt W (wr.setCell ⟨g2, k, none⟩ (.int .i64 x)) g1 g2 g3 ws (gs.set k x) ss :=
  ⟨owns_ne h.rw h.d12 _, by rw [← ints_set]; exact owns_set h.rg k _, owns_ne h.rs (Ne.symm h.d23) _, h.d12, h.d13, h.d23, h.lo, h.hb.setCell h.lo.2.1 _⟩
theorem SumAt.setS (h : SumAt W wr g1 g2 g3 ws gs ss) (k : Nat) (x : Int) : SumAt W (wr.setCell ⟨g3, k, none⟩ (.int .i64 x)) g1 g2 g3 ws gs (ss.set k x) :=
  ⟨owns_ne h.rw h.d13 _, owns_ne h.rg h.d23 _, by rw [← ints_set]; exact owns_set h.rs k _, h.d12, h.d13, h.d23, h.lo, h.hb.setCell h.lo.2.2 _⟩
/-- A new row of what was given since. -/
theorem SumAt.fresh {w' : World} (h : SumAt W wr g1 g2 g3 ws gs ss) (hb : Below wr.heap.size wr w') (hn : w'.heap[wr.heap.size]? = some (.cells #[.int .i64 0, .int .i64 0, .int .i64 0] 3 (0, 0))) : SumAt W w' g1 g2 wr.heap.size ws gs (List.replicate 3 0) := by
  have l1 := (owns_some h.rw (by omega))
  have l2 := (owns_some h.rg (by omega))
  obtain ⟨x1, _, e1, -, y1, -⟩ := l1
  obtain ⟨x2, _, e2, -, y2, -⟩ := l2
  simp only [Value.slice.injEq, Option.some.injEq, Addr.mk.injEq, and_true, true_and] at e1 e2
  obtain ⟨rfl, -⟩ := e1
  obtain ⟨rfl, -⟩ := e2
  exact ⟨owns_below h.rw hb, owns_below h.rg hb, owns_block hn rfl (by simp) (by decide) h.hb.size, h.d12, by omega, by omega, ⟨h.lo.1, h.lo.2.1, h.hb.size⟩, h.hb.trans (hb.mono h.hb.size)⟩
end Go.Proofs.Ytgmichaconnhaaa
