/- Books: the walks of New, Stock, Want, Round. -/
import Derived.Test.YtgmichaconnhaaaBookM
import Derived.Test.YtgmichaconnhaaaRepeat
import Derived.Test.YtgmichaconnhaaaClone
namespace Go.Proofs.Ytgmichaconnhaaa
open Go.ChangeShapes Go.WideShapes Go.ChangeAt Go.RowKit
set_option linter.unusedVariables false
set_option linter.unusedSimpArgs false

/-- The blocks of a book. -/
def bkF (S gw gg gq : Nat) : Nat → Prop := fun k => k = S ∨ k = gw ∨ k = gg ∨ k = gq
theorem book_lit (W : World) (g1 g2 g3 n : Nat) (T : TypeId) (most ticks : Int) (h1 : W.heap[g1]? = some (.cells (ints (List.replicate n 0)).toArray 3 (0, 0))) (h2 : W.heap[g2]? = some (.cells (ints (List.replicate n 0)).toArray 3 (0, 0)))
    (h3 : W.heap[g3]? = some (.cells (ints (List.replicate n 0)).toArray 3 (0, 0))) (d12 : g1 ≠ g2) (d13 : g1 ≠ g3) (d23 : g2 ≠ g3) (hn : n ≤ maxLen) :
    BookAt (W.alloc (.cells #[.int .i64 most, .int .i64 ticks, .int .i64 0, .int .i64 0, .int .i64 0, .slice (some ⟨g1, 0, none⟩) n n, .slice (some ⟨g2, 0, none⟩) n n, .slice (some ⟨g3, 0, none⟩) n n] T)) W.heap.size g1 g2 g3 n n (Bk.new n most ticks) := by
  have row : ∀ g : Nat, W.heap[g]? = some (.cells (ints (List.replicate n 0)).toArray 3 (0, 0)) → g < W.heap.size ∧ W.ownsRow 0 3 1 (.slice (some ⟨g, 0, none⟩) n n) n (ints (zerosI n)) := fun g hg =>
    ⟨(Array.getElem?_eq_some_iff.1 hg).1, by simp [zerosI], .inr ⟨g, n, _, rfl, Nat.zero_le _, hg, Nat.le_refl _, hn, by simp, by simp [ints, zerosI]⟩⟩
  have keep : ∀ {g : Nat} {xs : List Value} (o : Obj), W.ownsRow 0 3 1 (.slice (some ⟨g, 0, none⟩) n n) n xs → (W.alloc o).ownsRow 0 3 1 (.slice (some ⟨g, 0, none⟩) n n) n xs := fun o h => owns_below h ((Below.refl _ _).alloc (Nat.le_refl _) _)
  obtain ⟨l1, r1⟩ := row g1 h1
  obtain ⟨l2, r2⟩ := row g2 h2
  obtain ⟨l3, r3⟩ := row g3 h3
  refine ⟨?_, ?_, ?_, ?_, ?_, ?_, ?_, ?_, fun j => World.frozen?_alloc_at _ _ _ _ rfl, keep _ r1, keep _ r2, keep _ r3, by omega, by omega, by omega, d12, d13, d23⟩ <;> (rw [World.cell?_alloc_at _ _ _ _ rfl]; rfl)
theorem heap3 (w : World) (o : Obj) : (((w.alloc o).alloc o).alloc o).heap[w.heap.size]? = some o ∧ (((w.alloc o).alloc o).alloc o).heap[w.heap.size + 1]? = some o ∧ (((w.alloc o).alloc o).alloc o).heap[w.heap.size + 1 + 1]? = some o ∧ (((w.alloc o).alloc o).alloc o).heap.size = w.heap.size + 1 + 1 + 1 := by
  refine ⟨?_, ?_, ?_, ?_⟩
  · rw [Below.heap_alloc _ _ _ (by simp; omega), Below.heap_alloc _ _ _ (by simp), heap_alloc_new]
  · rw [Below.heap_alloc _ _ _ (by simp)]
    have := heap_alloc_new (w.alloc o) o
    simpa using this
  · have := heap_alloc_new ((w.alloc o).alloc o) o
    simpa using this
  · simp
set_option maxRecDepth 100000 in
set_option maxHeartbeats 4000000 in
theorem cnewBook (n : Nat) (most ticks : Int) (w : World) (h1 : 1 ≤ n) (h8 : n ≤ 8) :
    Calls Try.prog 47 #[.int .i64 n, .int .i64 most, .int .i64 ticks] w fun e w' => ∃ S gw gg gq, e = .returned (.pointer (some ⟨S, 0, none⟩)) ∧ BookAt w' S gw gg gq n n (Bk.new n most ticks) ∧ (w.heap.size ≤ S ∧ w.heap.size ≤ gw ∧ w.heap.size ≤ gg ∧ w.heap.size ≤ gq) ∧ Below w.heap.size w w' := by
  have mk := fun X => run_mk infoInt Try.underlying44 rfl X n (by omega) (by omega)
  rw [zeros_ints] at mk
  go_enter Try.func47, Try.ntmps47
  go_wp2
  go_region
  all_goals (go_wp2; go_ret)
  all_goals
    obtain ⟨e1, e2, e3, e4⟩ := heap3 w (.cells (ints (List.replicate n 0)).toArray 3)
    have hs : ((w.alloc (.cells (ints (List.replicate n 0)).toArray 3)).alloc (.cells (ints (List.replicate n 0)).toArray 3)).alloc (.cells (ints (List.replicate n 0)).toArray 3) = _ := rfl
    refine ⟨w.heap.size + 1 + 1 + 1, _, _, _, rfl, BookAt.kept (w := World.alloc (((w.alloc (.cells (ints (List.replicate n 0)).toArray 3)).alloc (.cells (ints (List.replicate n 0)).toArray 3)).alloc (.cells (ints (List.replicate n 0)).toArray 3)) _) (e4 ▸ book_lit _ _ _ _ n _ most ticks (by assumption) (by assumption) (by assumption) (by omega) (by omega) (by omega) (by unfold maxLen; omega)) rfl rfl rfl rfl, ⟨by omega, by omega, by omega, by omega⟩, ?_⟩
    exact Below.drew ((((Below.refl _ _).alloc (Nat.le_refl _) _).alloc (by simp) _ |>.alloc (by simp; omega) _).alloc (by simp; omega) _)
set_option maxRecDepth 100000 in
set_option maxHeartbeats 1000000 in
theorem cstockBook {w : World} {S gw gg gq cq n : Nat} {b : Bk} (h : BookAt w S gw gg gq cq n b) (c : Int) (h0 : 0 ≤ b.res + c ∧ b.res + c ≤ 2097152) (h1 : 0 ≤ b.all + c ∧ b.all + c ≤ 2097152) :
    Calls Try.prog 65 #[.pointer (some ⟨S, 0, none⟩), .int .i64 c] w fun e w' => e = .returned (.tuple #[]) ∧ BookAt w' S gw gg gq cq n (b.stock c) ∧ Wrote (bkF S gw gg gq) w w' := by
  have c3 := h.c3
  have c4 := h.c4
  have f3 := h.fz 3
  have f4 := h.fz 4
  have H : Hid (BookAt ((w.setCell ⟨S, 3, none⟩ (.int .i64 (b.res + c))).setCell ⟨S, 4, none⟩ (.int .i64 (b.all + c))) S gw gg gq cq n (b.stock c)) := (h.setRes (b.res + c)).setAll (b.all + c)
  generalize b.res = r at *
  generalize b.all = a at *
  clear h
  go_enter Try.func65, Try.ntmps65
  go_wp2_with fail
  go_end0
  exact ⟨rfl, H.out, ((Wrote.refl _ _).setCell (p := ⟨S, 3, none⟩) (Or.inl rfl) _).setCell (p := ⟨S, 4, none⟩) (Or.inl rfl) _⟩
set_option maxRecDepth 100000 in
set_option maxHeartbeats 1000000 in
theorem cwantBook {w : World} {S gw gg gq cq n : Nat} {b : Bk} (h : BookAt w S gw gg gq cq n b) (who : Nat) (c : Int) (hw : who < n) (hl : b.wants.length = n) (hn : n ≤ 8) :
    Calls Try.prog 66 #[.pointer (some ⟨S, 0, none⟩), .int .i64 who, .int .i64 c] w fun e w' => e = .returned (.tuple #[]) ∧ BookAt w' S gw gg gq cq n (b.want who c) ∧ Wrote (bkF S gw gg gq) w w' := by
  have c5 := h.c5
  obtain ⟨g', cp', he, -, -, hgf, hgc⟩ := owns_some h.rw (by omega)
  simp only [Value.slice.injEq, Option.some.injEq, Addr.mk.injEq, and_true, true_and] at he
  obtain ⟨rfl, rfl⟩ := he
  have hwl : who < b.wants.length := by omega
  have g1 := hgc who _ (ints_get b.wants who hwl)
  have f1 := hgf who
  have hx : b.wants.getD who 0 = b.wants[who] := by simp [List.getD_eq_getElem?_getD, hwl]
  have hm : max b.wants[who] c = if b.wants[who] < c then c else b.wants[who] := by split <;> omega
  have H : Hid (∀ X : World, BookAt X S gw gg gq cq n b → BookAt (X.setCell ⟨gw, who, none⟩ (.int .i64 (if b.wants[who] < c then c else b.wants[who]))) S gw gg gq cq n (b.want who c)) := fun X hX => by
    have := hX.setWant who (max (b.wants.getD who 0) c)
    rw [hx, hm] at this
    unfold Bk.want
    rw [hx, hm]; exact this
  have Hh := Lib.hid h
  generalize b.wants[who] = x at *
  clear h hgf hgc hx hm hl hwl
  by_cases hxc : x < c
  case' pos => rw [if_pos hxc] at H
  case' neg => rw [if_neg hxc] at H
  all_goals
    go_enter Try.func66, Try.ntmps66
    go_wp2_with fail
    refine wp_still_tail 15 (by kernel_rfl) (by kernel_rfl) ?_
    simp only [List.take_succ_cons, List.take_zero, List.drop_succ_cons, List.drop_zero]
    repeat still_step
    refine wpStill_nil ?_
    go_wp2_with fail
    go_end0
    exact ⟨rfl, (H.out _ Hh.out).kept rfl rfl rfl rfl, ((Wrote.refl _ _).setCell (p := ⟨gw, who, none⟩) (Or.inr (Or.inl rfl)) _).drew⟩
end Go.Proofs.Ytgmichaconnhaaa
