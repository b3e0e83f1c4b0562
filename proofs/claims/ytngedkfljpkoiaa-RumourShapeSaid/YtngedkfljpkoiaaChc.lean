/- What has changed, by the types of cells alone: blocks that hold no cells (maps) are free. No statement of its own. -/
import Derived.Test.YtngedkfljpkoiaaTag
import Derived.Test.YtngedkfljpkoiaaOwn
namespace Go.Proofs.Ytngedkfljpkoiaa
open Go.ChangeShapes Go.WideShapes Go.ChangeAt Go.RowKit
set_option linter.unusedVariables false
set_option linter.unusedSimpArgs false

/-- Of the blocks of cells that were there only those of a type in T may have changed. -/
structure Chc (T : List TypeId) (w w' : World) : Prop where
  size : w.heap.size ≤ w'.heap.size
  block : ∀ (k : Nat) (cs : Array Value) (e : TypeId) (r : Nat × Nat), w.heap[k]? = some (.cells cs e r) → e ∉ T → w'.heap[k]? = some (.cells cs e r)
theorem Chc.refl (T : List TypeId) (w : World) : Chc T w w := ⟨Nat.le_refl _, fun _ _ _ _ h _ => h⟩
theorem Chc.trans {T : List TypeId} {a b c : World} (h : Chc T a b) (k : Chc T b c) : Chc T a c :=
  ⟨Nat.le_trans h.size k.size, fun i cs e r hi he => k.block i cs e r (h.block i cs e r hi he) he⟩
theorem Chc.of_below {T : List TypeId} {w w' : World} (h : Below w.heap.size w w') : Chc T w w' :=
  ⟨h.size, fun k cs e r hk _ => by rw [h.block k (Array.getElem?_eq_some_iff.1 hk).1]; exact hk⟩
theorem Chc.of_chg {T : List TypeId} {w w' : World} (h : Chg T w w') : Chc T w w' :=
  ⟨h.size, fun k cs e r hk he => h.block k _ hk fun cs' e' r' heq => by
    simp only [Obj.cells.injEq] at heq
    obtain ⟨-, rfl, -⟩ := heq
    exact he⟩
theorem Chc.mono {T U : List TypeId} {a w : World} (h : Chc T a w) (hs : ∀ e ∈ T, e ∈ U) : Chc U a w :=
  ⟨h.size, fun k cs e r hk he => h.block k cs e r hk fun hm => he (hs e hm)⟩
theorem Chc.setCell {T : List TypeId} {w : World} {p : Addr} {cs : Array Value} {e : TypeId} {r : Nat × Nat} (hp : w.heap[p.block]? = some (.cells cs e r)) (he : e ∈ T) (u : Value) : Chc T w (w.setCell p u) := .of_chg (.setCell hp he u)
theorem Chc.grown {T : List TypeId} {w w' : World} {base e sz n : Nat} {v : Value} {xs : List Value} (hown : w.ownsRow base e sz v n xs) (hg : w.grownBy w' v.ownBlock) (he : e ∈ T) : Chc T w w' := .of_chg (.grown hown hg he)
/-- A map is written. -/
theorem Chc.map {T : List TypeId} {w w' : World} {b : Nat} {es : Array MapEntry} {c : Nat} (hb : w.heap[b]? = some (.map es c)) (hg : w.grownBy w' (some b)) : Chc T w w' :=
  ⟨hg.size, fun k cs e r hk he => by
    rw [hg.block k (Array.getElem?_eq_some_iff.1 hk).1 (fun hh => by
      simp only [Option.some.injEq] at hh
      subst hh
      rw [hb] at hk; cases hk)]; exact hk⟩
theorem Chc.drew {T : List TypeId} {a w : World} (h : Chc T a w) : Chc T a w.drew := ⟨h.size, h.block⟩
theorem Chc.drewN {T : List TypeId} {a w : World} (n : Nat) (h : Chc T a w) : Chc T a (w.drewN n) := ⟨h.size, h.block⟩
theorem Chc.alloc {T : List TypeId} {a w : World} (h : Chc T a w) (o : Obj) : Chc T a (w.alloc o) :=
  h.trans (.of_below ((Below.refl _ _).alloc (Nat.le_refl _) o))
theorem Chc.cell {T : List TypeId} {w w' : World} (hc : Chc T w w') {b o : Nat} {u : Value} {cs : Array Value} {e : TypeId} {r : Nat × Nat} (hb : w.heap[b]? = some (.cells cs e r)) (he : e ∉ T) (h : w.cell? ⟨b, o, none⟩ = some u) : w'.cell? ⟨b, o, none⟩ = some u := by
  rw [World.cell?_of_block (w := w) (a := ⟨b, o, none⟩) (by rw [hb]; exact hc.block _ _ _ _ hb he)]
  exact h
section
variable {w w' : World} {e : TypeId} {sz n : Nat} {v : Value} {xs : List Value}
theorem HasT.chc {T : List TypeId} (h : HasT w e sz v n xs) (hc : Chc T w w') (he : e ∉ T) : HasT w' e sz v n xs := by
  obtain ⟨⟨hl, a, cap, rfl, h1, h2, h3⟩, ht⟩ := h
  have hblk : ∀ b off n' cap', Value.slice a n cap = .slice (some ⟨b, off, none⟩) n' cap' → ∃ cs r, w.heap[b]? = some (.cells cs e r) ∧ w'.heap[b]? = some (.cells cs e r) := fun b off n' cap' hv => by
    obtain ⟨cs, r, hh⟩ := ht b off n' cap' hv
    exact ⟨cs, r, hh, hc.block _ _ _ _ hh he⟩
  refine ⟨⟨hl, a, cap, rfl, h1, h2, fun hp => ?_⟩, fun b off n' cap' hv => ?_⟩
  · obtain ⟨b, off, rfl, hcc⟩ := h3 hp
    refine ⟨b, off, rfl, fun j u hu => ?_⟩
    obtain ⟨cs, r, q1, q2⟩ := hblk b off n cap rfl
    rw [World.cell?_of_block (w := w) (a := ⟨b, off + j, none⟩) (by rw [q2, q1])]
    exact hcc j u hu
  · obtain ⟨cs, r, q1, q2⟩ := hblk b off n' cap' hv
    exact ⟨cs, r, q2⟩
end
theorem owns_chc {T : List TypeId} {w w' : World} {base e sz n : Nat} {v : Value} {xs : List Value} (hown : w.ownsRow base e sz v n xs) (hc : Chc T w w') (he : e ∉ T) : w'.ownsRow base e sz v n xs := by
  obtain ⟨hl, h⟩ := hown
  refine ⟨hl, ?_⟩
  rcases h with h | ⟨g, cap, cur, rfl, hg, hh, hn, hm, hs, ht⟩
  · exact .inl h
  · exact .inr ⟨g, cap, cur, rfl, hg, hc.block _ _ _ _ hh he, hn, hm, hs, ht⟩
/-- Two lists, related place by place. -/
def Both {α β : Type} (R : α → β → Prop) (l : List α) (m : List β) : Prop := l.length = m.length ∧ ∀ (i : Nat) (a : α) (b : β), l[i]? = some a → m[i]? = some b → R a b
section
variable {α β : Type} {R S : α → β → Prop} {l : List α} {m : List β}
theorem Both.nil (R : α → β → Prop) : Both R [] [] := ⟨rfl, fun i a b h => by simp at h⟩
theorem Both.mono (h : Both R l m) (hi : ∀ a b, a ∈ l → b ∈ m → R a b → S a b) : Both S l m := ⟨h.1, fun i a b ha hb => hi a b (List.mem_of_getElem? ha) (List.mem_of_getElem? hb) (h.2 i a b ha hb)⟩
theorem Both.snoc (h : Both R l m) {a : α} {b : β} (hr : R a b) : Both R (l ++ [a]) (m ++ [b]) := by
  refine ⟨by simp [h.1], fun i v' a' hv ha => ?_⟩
  rcases Nat.lt_trichotomy i l.length with hlt | rfl | hgt
  · rw [List.getElem?_append_left hlt] at hv
    rw [List.getElem?_append_left (by rw [← h.1]; exact hlt)] at ha
    exact h.2 i v' a' hv ha
  · rw [List.getElem?_append_right (Nat.le_refl _)] at hv
    rw [List.getElem?_append_right (by rw [h.1]; exact Nat.le_refl _), h.1] at ha
    simp at hv ha
    subst hv; subst ha; exact hr
  · rw [List.getElem?_eq_none (by simp; omega)] at hv; cases hv
theorem Both.get (h : Both R l m) (i : Nat) (hi : i < m.length) : ∃ a, l[i]? = some a ∧ R a m[i] :=
  have hv : i < l.length := by rw [h.1]; exact hi
  ⟨l[i], List.getElem?_eq_getElem hv, h.2 i _ _ (List.getElem?_eq_getElem hv) (List.getElem?_eq_getElem hi)⟩
theorem Both.get' (h : Both R l m) (i : Nat) (hi : i < l.length) : ∃ b, m[i]? = some b ∧ R l[i] b :=
  have hv : i < m.length := by rw [← h.1]; exact hi
  ⟨m[i], List.getElem?_eq_getElem hv, h.2 i _ _ (List.getElem?_eq_getElem hi) (List.getElem?_eq_getElem hv)⟩
end
end Go.Proofs.Ytngedkfljpkoiaa
