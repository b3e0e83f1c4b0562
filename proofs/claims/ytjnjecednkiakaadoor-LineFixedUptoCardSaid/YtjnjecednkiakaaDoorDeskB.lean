/- Lines: lengths; steps compared; rows beside other blocks. -/
import Derived.Test.YtjnjecednkiakaaDoorDeskA
namespace Go.Proofs.YtjnjecednkiakaaDoor
open Go.ChangeShapes Go.WideShapes Go.ChangeAt Go.RowKit Go.Lib
set_option linter.unusedVariables false
set_option linter.unusedSimpArgs false

theorem dec_len : ∀ (k u : Nat), u < 10 ^ (k + 1) → (decDigits u).length ≤ k + 1
  | 0, u, h => by rw [decDigits_lt u (by simpa using h)]; simp
  | k + 1, u, h => by
    by_cases hu : u < 10
    · rw [decDigits_lt u hu]; simp
    · rw [decDigits_ge u hu, List.length_append]
      have := dec_len k (u / 10) (by rw [Nat.pow_succ] at h; omega)
      simp; omega
theorem itoa_len (n : Int) (h0 : -9223372036854775808 ≤ n) (h1 : n ≤ 9223372036854775807) : (itoa n).length ≤ 20 := by
  unfold itoa
  split
  · have := dec_len 18 n.natAbs (by omega)
    simp; omega
  · have := dec_len 18 n.toNat (by omega)
    omega
theorem join_len (a : List UInt8) (K : Nat) : ∀ r : List (List UInt8), (∀ x ∈ r, x.length ≤ K) → (Lib.join (a :: r) [32]).length ≤ a.length + r.length * (K + 1) ∧ a.length ≤ (Lib.join (a :: r) [32]).length := by
  intro r
  rw [join_cons]
  induction r with
  | nil => intro _; simp [joinTail]
  | cons b t ih =>
    intro h
    have h1 := h b List.mem_cons_self
    have ih := ih fun x hx => h x (List.mem_cons_of_mem _ hx)
    have e : a ++ joinTail [32] (b :: t) = a ++ 32 :: (b ++ joinTail [32] t) := by simp [joinTail]
    rw [e]
    simp only [List.length_append, List.length_cons] at *
    rw [Nat.add_mul]
    omega
theorem line_len (st : Nat → Int) (hst : ∀ o, -9223372036854775808 ≤ st o ∧ st o ≤ 9223372036854775807) (i : Nat) (hi : i < 11) : (lineP st (wordOf i, offsOf i)).length ≤ 200 ∧ 3 ≤ (lineP st (wordOf i, offsOf i)).length := by
  have h := join_len (wordOf i) 20 ((offsOf i).map fun o => itoa (st o)) (fun x hx => by
    obtain ⟨o, _, rfl⟩ := List.mem_map.1 hx
    exact itoa_len _ (hst o).1 (hst o).2)
  have h1 := word_ok i hi
  have h2 := (offs_ok i hi).2.2
  rw [List.length_map] at h
  unfold lineP
  simp only at *
  omega
/-- The fields that have been told are 0. -/
def zeroed (st : Nat → Int) (l : List Nat) : Nat → Int := fun o => if o ∈ l then 0 else st o
theorem zeroed_snoc (st : Nat → Int) (l : List Nat) (o : Nat) : setP (zeroed st l) o 0 = zeroed st (l ++ [o]) := by
  funext x
  unfold setP zeroed
  by_cases e : x = o
  · subst e; simp
  · simp [e]
theorem eq_step (f : Nat → Int) (X : World) : (binOp .eql 32 (stepV f) (stepV f)).run Tryd.prog X = .ok (.bool true) X := by
  have hp : Tryd.prog.stoodInHeld 32 = false := by kernel_rfl
  have hf : Tryd.prog.underlying 32 = some (.struct (Tryd.prog.fieldsOf 32)) := by kernel_rfl
  simp only [binOp, stepV]
  simp only [Op.equal, Op.maxDepth, Sem.run_bind]
  rw [run_equalIn_struct _ _ _ _ _ hf hp]
  have u1 := Tryd.underlying3
  simp [go_sem, Tryd.underlying32, part]
theorem neq_step (f : Nat → Int) (X : World) : (binOp .neq 32 (stepV f) (stepV f)).run Tryd.prog X = .ok (.bool false) X := by
  have hp : Tryd.prog.stoodInHeld 32 = false := by kernel_rfl
  have hf : Tryd.prog.underlying 32 = some (.struct (Tryd.prog.fieldsOf 32)) := by kernel_rfl
  simp only [binOp, stepV]
  simp only [Op.equal, Op.maxDepth, Sem.run_bind]
  rw [run_equalIn_struct _ _ _ _ _ hf hp]
  have u1 := Tryd.underlying3
  simp [go_sem, Tryd.underlying32, part]
/-- A row lies in a block of cells. -/
theorem owns_kind {w : World} {base e sz n k : Nat} {v : Value} {xs : List Value} {o : Obj} (h : w.ownsRow base e sz v n xs) (hk : w.heap[k]? = some o) (ho : ∀ a t p, o ≠ .cells a t p) : v.ownBlock ≠ some k := by
  obtain ⟨hl, h⟩ := h
  rcases h with ⟨rfl, _⟩ | ⟨g, cap, cur, rfl, hg, hh, hn, hm, hs, ht⟩
  · intro e; cases e
  · intro e
    simp only [Value.ownBlock, Option.some.injEq] at e
    subst e
    rw [hh] at hk
    cases hk
    exact ho _ _ _ rfl
theorem strs_snoc_map (wd x : List UInt8) (r : List (List UInt8)) : strs ((wd :: r) ++ [x]) = strs (wd :: r) ++ [.string ⟨x.toArray⟩] := strs_snoc _ _
theorem strs_at {w : World} {base e : Nat} {v : Value} {n : Nat} {l : List (List UInt8)} (h : w.ownsRow base e 1 v (n + 1) (strs l)) :
    ∃ g cap, v = .slice (some ⟨g, 0, none⟩) (n + 1) cap ∧ n + 1 ≤ cap ∧ g < w.heap.size ∧ ∀ (j : Nat) x, (l.map fun x => ByteArray.mk x.toArray)[j]? = some x → w.cell? ⟨g, 0 + j, none⟩ = some (.string x) := by
  obtain ⟨g, cap, rfl⟩ : ∃ g cap, v = .slice (some ⟨g, 0, none⟩) (n + 1) cap := by
    obtain ⟨_, h⟩ := h
    rcases h with ⟨_, h⟩ | ⟨g, cap, cur, rfl, _⟩
    · omega
    · exact ⟨g, cap, rfl⟩
  refine ⟨g, cap, rfl, ?_, (h.lt g rfl).2, fun j x hx => ?_⟩
  · obtain ⟨_, h⟩ := h
    rcases h with ⟨_, h⟩ | ⟨g', cap', cur, he, _, _, hn, _⟩
    · omega
    · simp only [Value.slice.injEq] at he
      obtain ⟨-, -, rfl⟩ := he
      exact hn
  · have := h.cells (g := g) rfl j (.string x) (by
      simp only [List.getElem?_map, Option.map_eq_some_iff] at hx
      obtain ⟨y, hy, rfl⟩ := hx
      simp [strs, hy])
    rw [← this]
    congr 1
    unfold Addr.add; split <;> simp_all
theorem FMap.block {w : World} {m n b : Nat} {f : Int → Int} (h : FMap w m n b f) : ∃ es c, w.heap[m]? = some (.map es c) := by
  obtain ⟨D, ⟨es, c, h1, _⟩, _⟩ := h
  exact ⟨es, c, h1⟩
end Go.Proofs.YtjnjecednkiakaaDoor
