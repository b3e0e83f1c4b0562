/- Rows of rows: slices whose elements are slices; blocks are told apart by the types of their cells. Rows of records. No statement of its own. -/
import Derived.Test.YtkodpijedinanaaMem
namespace Go.Proofs.Ytkodpijedinanaa
open Go.ChangeShapes Go.WideShapes Go.ChangeAt Go.RowKit
set_option linter.unusedVariables false

/-- Of what was there only blocks whose cells are of a type in T may have changed. -/
structure Chg (T : List TypeId) (w w' : World) : Prop where
  size : w.heap.size ≤ w'.heap.size
  block : ∀ (k : Nat) (o : Obj), w.heap[k]? = some o → (∀ cs e r, o = .cells cs e r → e ∉ T) → w'.heap[k]? = some o
theorem Chg.refl (T : List TypeId) (w : World) : Chg T w w := ⟨Nat.le_refl _, fun _ _ h _ => h⟩
theorem Chg.trans {T : List TypeId} {a b c : World} (h : Chg T a b) (k : Chg T b c) : Chg T a c :=
  ⟨Nat.le_trans h.size k.size, fun i o hi ho => k.block i o (h.block i o hi ho) ho⟩
theorem Chg.of_below {T : List TypeId} {w w' : World} (h : Below w.heap.size w w') : Chg T w w' :=
  ⟨h.size, fun k o hk _ => by rw [h.block k (Array.getElem?_eq_some_iff.1 hk).1]; exact hk⟩
theorem Chg.setCell {T : List TypeId} {w : World} {p : Addr} {cs : Array Value} {e : TypeId} {r : Nat × Nat} (hp : w.heap[p.block]? = some (.cells cs e r)) (he : e ∈ T) (u : Value) : Chg T w (w.setCell p u) :=
  ⟨by simp [World.setCell], fun k o hk ho => by
    rw [Below.heap_setCell _ _ _ _ (fun hh => by
      subst hh
      rw [hp] at hk
      simp only [Option.some.injEq] at hk
      exact ho _ _ _ hk.symm he)]; exact hk⟩
theorem Chg.grown {T : List TypeId} {w w' : World} {base e sz n : Nat} {v : Value} {xs : List Value} (hown : w.ownsRow base e sz v n xs) (hg : w.grownBy w' v.ownBlock) (he : e ∈ T) : Chg T w w' :=
  ⟨hg.size, fun k o hk ho => by
    rw [hg.block k (Array.getElem?_eq_some_iff.1 hk).1 (fun hh => by
      obtain ⟨_, h⟩ := hown
      rcases h with ⟨rfl, _⟩ | ⟨g, cap, cur, rfl, _, hh', _⟩
      · simp [Value.ownBlock] at hh
      · simp only [Value.ownBlock, Option.some.injEq] at hh
        subst hh
        rw [hh'] at hk
        simp only [Option.some.injEq] at hk
        exact ho _ _ _ hk.symm he)]; exact hk⟩
theorem Chg.drew {T : List TypeId} {a w : World} (h : Chg T a w) : Chg T a w.drew := ⟨h.size, h.block⟩
theorem Chg.drewN {T : List TypeId} {a w : World} (n : Nat) (h : Chg T a w) : Chg T a (w.drewN n) := ⟨h.size, h.block⟩
theorem Chg.alloc {T : List TypeId} {a w : World} (h : Chg T a w) (o : Obj) : Chg T a (w.alloc o) :=
  h.trans (Chg.of_below ((Below.refl _ _).alloc (Nat.le_refl _) o))
theorem Chg.mono {T U : List TypeId} {a w : World} (h : Chg T a w) (hs : ∀ e ∈ T, e ∈ U) : Chg U a w :=
  ⟨h.size, fun k o hk ho => h.block k o hk fun cs e r hh hm => ho cs e r hh (hs e hm)⟩
/-- 'Has', and the cells lie in a block of type e. -/
def HasT (w : World) (e : TypeId) (sz : Nat) (v : Value) (n : Nat) (xs : List Value) : Prop :=
  Has w sz v n xs ∧ ∀ b off n' cap, v = .slice (some ⟨b, off, none⟩) n' cap → ∃ cs r, w.heap[b]? = some (.cells cs e r)
section
variable {w w' : World} {e : TypeId} {sz n : Nat} {v : Value} {xs : List Value}
theorem HasT.has (h : HasT w e sz v n xs) : Has w sz v n xs := h.1
theorem HasT.below (h : HasT w e sz v n xs) (hb : Below w.heap.size w w') : HasT w' e sz v n xs :=
  ⟨h.1.below hb, fun b off n' cap hv => by
    obtain ⟨cs, r, hh⟩ := h.2 b off n' cap hv
    exact ⟨cs, r, by rw [hb.block b (Array.getElem?_eq_some_iff.1 hh).1]; exact hh⟩⟩
theorem HasT.chg {T : List TypeId} (h : HasT w e sz v n xs) (hc : Chg T w w') (he : e ∉ T) : HasT w' e sz v n xs := by
  obtain ⟨⟨hl, a, cap, rfl, h1, h2, h3⟩, ht⟩ := h
  have hblk : ∀ b off n' cap', Value.slice a n cap = .slice (some ⟨b, off, none⟩) n' cap' → ∃ cs r, w.heap[b]? = some (.cells cs e r) ∧ w'.heap[b]? = some (.cells cs e r) := fun b off n' cap' hv => by
    obtain ⟨cs, r, hh⟩ := ht b off n' cap' hv
    exact ⟨cs, r, hh, hc.block _ _ hh fun cs' e' r' heq => by
      simp only [Obj.cells.injEq] at heq
      obtain ⟨-, rfl, -⟩ := heq
      exact he⟩
  refine ⟨⟨hl, a, cap, rfl, h1, h2, fun hp => ?_⟩, fun b off n' cap' hv => ?_⟩
  · obtain ⟨b, off, rfl, hcc⟩ := h3 hp
    refine ⟨b, off, rfl, fun j u hu => ?_⟩
    obtain ⟨cs, r, q1, q2⟩ := hblk b off n cap rfl
    rw [World.cell?_of_block (w := w) (a := ⟨b, off + j, none⟩) (by rw [q2, q1])]
    exact hcc j u hu
  · obtain ⟨cs, r, q1, q2⟩ := hblk b off n' cap' hv
    exact ⟨cs, r, q2⟩
theorem HasT.of_owns {base : Nat} (h : w.ownsRow base e sz v n xs) : HasT w e sz v n xs :=
  ⟨Has.of_owns h, fun b off n' cap hv => by
    obtain ⟨_, h⟩ := h
    rcases h with ⟨rfl, _⟩ | ⟨g, cap', cur, rfl, _, hh, _⟩
    · simp at hv
    · simp only [Value.slice.injEq, Option.some.injEq, Addr.mk.injEq] at hv
      obtain ⟨⟨rfl, -⟩, -⟩ := hv
      exact ⟨cur, _, hh⟩⟩
end
/-- An owned row is kept where only blocks of other types change. -/
theorem owns_chg {T : List TypeId} {w w' : World} {base e sz n : Nat} {v : Value} {xs : List Value} (hown : w.ownsRow base e sz v n xs) (hc : Chg T w w') (he : e ∉ T) : w'.ownsRow base e sz v n xs := by
  obtain ⟨hl, h⟩ := hown
  refine ⟨hl, ?_⟩
  rcases h with h | ⟨g, cap, cur, rfl, hg, hh, hn, hm, hs, ht⟩
  · exact .inl h
  · refine .inr ⟨g, cap, cur, rfl, hg, hc.block _ _ hh (fun cs e' r heq => by
      simp only [Obj.cells.injEq] at heq
      obtain ⟨-, rfl, -⟩ := heq
      exact he), hn, hm, hs, ht⟩

/-- Each value stands for its datum. -/
def Each {α : Type} (R : Value → α → Prop) (vs : List Value) (ds : List α) : Prop := vs.length = ds.length ∧ ∀ (i : Nat) (v : Value) (a : α), vs[i]? = some v → ds[i]? = some a → R v a
section
variable {α : Type} {R S : Value → α → Prop} {vs : List Value} {ds : List α}
theorem Each.nil (R : Value → α → Prop) : Each R [] [] := ⟨rfl, fun i v a h => by simp at h⟩
theorem Each.mono (h : Each R vs ds) (hi : ∀ v a, a ∈ ds → R v a → S v a) : Each S vs ds := ⟨h.1, fun i v a hv ha => hi v a (List.mem_of_getElem? ha) (h.2 i v a hv ha)⟩
theorem Each.snoc (h : Each R vs ds) {v : Value} {a : α} (hr : R v a) : Each R (vs ++ [v]) (ds ++ [a]) := by
  refine ⟨by simp [h.1], fun i v' a' hv ha => ?_⟩
  rcases Nat.lt_trichotomy i vs.length with hlt | rfl | hgt
  · rw [List.getElem?_append_left hlt] at hv
    rw [List.getElem?_append_left (by rw [← h.1]; exact hlt)] at ha
    exact h.2 i v' a' hv ha
  · rw [List.getElem?_append_right (Nat.le_refl _)] at hv
    rw [List.getElem?_append_right (by rw [h.1]; exact Nat.le_refl _), h.1] at ha
    simp at hv ha
    subst hv; subst ha; exact hr
  · rw [List.getElem?_eq_none (by simp; omega)] at hv; cases hv
theorem Each.set (h : Each R vs ds) (i : Nat) {v : Value} {a : α} (hr : R v a) : Each R (vs.set i v) (ds.set i a) := by
  refine ⟨by simp [h.1], fun j v' a' hv ha => ?_⟩
  rw [List.getElem?_set] at hv ha
  by_cases e : i = j
  · subst e
    rw [if_pos rfl] at hv ha
    split at hv
    · split at ha
      · simp at hv ha; subst hv; subst ha; exact hr
      · cases ha
    · cases hv
  · rw [if_neg e] at hv ha; exact h.2 j v' a' hv ha
theorem Each.get (h : Each R vs ds) (i : Nat) (hi : i < ds.length) : ∃ v, vs[i]? = some v ∧ R v ds[i] :=
  have hv : i < vs.length := by rw [h.1]; exact hi
  ⟨vs[i], List.getElem?_eq_getElem hv, h.2 i _ _ (List.getElem?_eq_getElem hv) (List.getElem?_eq_getElem hi)⟩
theorem Each.replicate (n : Nat) {v : Value} {a : α} (hr : R v a) : Each R (List.replicate n v) (List.replicate n a) :=
  ⟨by simp, fun i v' a' hv ha => by
    rw [List.getElem?_replicate] at hv ha
    split at hv
    · rw [if_pos (by assumption)] at ha; simp at hv ha; subst hv; subst ha; exact hr
    · cases hv⟩
end
-- rows of records: f gives the cells of one record, m of them
section
variable {α : Type} (f : α → List Value) (m : Nat) (hf : ∀ a, (f a).length = m)
include hf
theorem flat_length (l : List α) : (l.flatMap f).length = l.length * m := by
  induction l with
  | nil => simp
  | cons a t ih => simp only [List.flatMap_cons, List.length_append, hf, ih, List.length_cons, Nat.succ_mul]; omega
theorem flat_get : ∀ (l : List α) (k : Nat) (hk : k < l.length) (j : Nat), j < m → (l.flatMap f)[k * m + j]? = (f l[k])[j]?
  | a :: t, 0, _, j, hj => by
    rw [List.flatMap_cons, List.getElem?_append_left (by rw [hf]; omega)]
    simp
  | a :: t, k + 1, hk, j, hj => by
    rw [List.flatMap_cons, List.getElem?_append_right (by rw [hf, Nat.succ_mul]; omega), hf]
    have ih := flat_get t k (by simpa using hk) j hj
    rw [show (k + 1) * m + j - m = k * m + j by rw [Nat.succ_mul]; omega, ih]
    simp
end
theorem flat_snoc {α : Type} (f : α → List Value) (l : List α) (a : α) : l.flatMap f ++ f a = (l ++ [a]).flatMap f := by simp
/-- A list read over by a state. -/
theorem foldl_take {α β : Type} (f : β → α → β) (b : β) (l : List α) (k : Nat) (h : k < l.length) : (l.take (k + 1)).foldl f b = f ((l.take k).foldl f b) l[k] := by
  rw [take_snoc _ _ h, List.foldl_append]; rfl
theorem owns_base {w : World} {b b' : Nat} {e : TypeId} {sz n : Nat} {v : Value} {xs : List Value} (h : w.ownsRow b e sz v n xs) (hb : b' ≤ b) : w.ownsRow b' e sz v n xs := by
  obtain ⟨hl, h⟩ := h
  refine ⟨hl, ?_⟩
  rcases h with h | ⟨g, cap, cur, rfl, hg, r⟩
  · exact .inl h
  · exact .inr ⟨g, cap, cur, rfl, Nat.le_trans hb hg, r⟩
end Go.Proofs.Ytkodpijedinanaa
