/- What comes in, in the shadow of the start. -/
import Derived.Test.YtkodpijedinanaaCwJ
import Derived.Test.YtkodpijedinanaaOpenR
namespace Go.Proofs.Ytkodpijedinanaa.Sim
open Go Go.Conc Go.ChangeShapes Go.WideShapes Go.ChangeAt Go.RowKit
set_option linter.unusedVariables false
set_option linter.unusedSimpArgs false

/-- A slice that has a place where it has room. -/
def Sane (W : World) (v : Value) : Prop := v = .slice none 0 0 ∨ ∃ a l c, v = .slice (some a) l c ∧ ((l = 0 ∧ c = 0) ∨ isRow W a.block = true)
theorem sane_of {H : Type} {enc : TypeId × Value → H} {P : Program} {W : World} {t e : TypeId} {m n : Nat} {v : Value} {y : DataW H × List MemPlace} (ht : P.underlying t = some (.slice e)) (hC : P.cellsOf e = m) (hm : 0 < m) (h : DataW.trod enc P W 0 (fun _ => true) true n t [v] = some y) : Sane W v := by
  rcases DataW.trod_slice ht h with ⟨h, _⟩ | ⟨a, len, cap, elems, rest, n', _, hcs, _, _, hl, hm', hlen, hel, hsp, _⟩
  · simp only [List.cons.injEq, and_true] at h
    exact .inl h
  · simp only [List.cons.injEq, and_true] at hcs
    subst hcs
    refine .inr ⟨a, len, cap, rfl, ?_⟩
    by_cases hc : cap = 0
    · exact .inl ⟨by omega, hc⟩
    · right
      obtain ⟨hr, hre⟩ := hsp rfl
      have key : ∀ (i : Nat) o, (W.cells? 0 (a.add (i * P.cellsOf e)) (P.cellsOf e)).bind (DataW.trod enc P W 0 (fun _ => true) true n' e) = some o → isRow W a.block = true := fun i o ho => by
        obtain ⟨cs, hcs, _⟩ := Option.bind_eq_some_iff.1 ho
        rw [hC] at hcs
        obtain ⟨_, hcl, hat⟩ := World.cells?_some hcs
        have h0 := hat 0 hm
        have : cs[0]? = some cs[0] := List.getElem?_eq_getElem (by omega)
        rw [this] at h0
        have hr := isRow_of_cell h0
        have eb : ∀ (a : Addr) k, (a.add k).block = a.block := fun a k => by unfold Addr.add; split <;> rfl
        rw [eb, eb] at hr
        exact hr
      by_cases h0 : len = 0
      · have h1 := hre 0 (by omega)
        have : rest[0]? = some rest[0] := List.getElem?_eq_getElem (by omega)
        rw [this] at h1
        exact key _ _ h1
      · have h1 := hel 0 (by omega)
        have : elems[0]? = some elems[0] := List.getElem?_eq_getElem (by omega)
        rw [this] at h1
        exact key _ _ h1
/-- A value of the shadow's. -/
abbrev sh (W : World) (v : Value) : Value := sanV (isRow W) W.heap.size v
theorem has_shadow {W : World} {v : Value} {n : Nat} {xs : List Value} (h : Has W 1 v n xs) (hs : Sane W v) : Has (shadow0 W) 1 (sh W v) n (xs.map (sh W)) := by
  obtain ⟨⟨hl, hnil⟩, a, cap, rfl, h1, h2, h3⟩ := h
  rcases hs with hs | ⟨a', l, c, hs, hr⟩
  · cases hs
    rw [sh, sanV]
    exact ⟨⟨by simpa using hl, fun n c h => by cases h; exact ⟨rfl, rfl⟩⟩, none, 0, rfl, Nat.le_refl _, Nat.zero_le _, fun hp => by simp at hp; omega⟩
  · cases hs
    rw [sh, sanV]
    by_cases hrow : isRow W a'.block = true
    · rw [if_pos hrow]
      refine ⟨⟨by simpa using hl, fun n c h => by cases h⟩, _, cap, rfl, h1, h2, fun hp => ?_⟩
      obtain ⟨b, off, he, hc⟩ := h3 (by simpa using hp)
      cases he
      refine ⟨W.heap.size + b, off, rfl, fun j u hu => ?_⟩
      simp only [List.getElem?_map, Option.map_eq_some_iff] at hu
      obtain ⟨x, hx, rfl⟩ := hu
      exact shadow0_cell W ⟨b, off + j, none⟩ x (hc j x hx)
    · rcases hr with hr | hr
      · obtain ⟨rfl, rfl⟩ := hr
        rw [if_neg hrow, if_pos ⟨rfl, rfl⟩]
        exact ⟨⟨by simpa using hl, fun n c h => by cases h; exact ⟨rfl, rfl⟩⟩, none, 0, rfl, Nat.le_refl _, Nat.zero_le _, fun hp => by simp at hp; omega⟩
      · exact absurd hr hrow
theorem ints_shadow (W : World) (zs : List Int) : (ints zs).map (sh W) = ints zs := by
  unfold ints
  rw [List.map_map]
  refine List.map_congr_left fun z _ => ?_
  show sanV _ _ _ = _
  rw [sanV]
/-- What comes in: totals and wants. -/
structure InW (W : World) (v0 v1 : Value) (zs : List Int) (m : Nat) (us : List Value) (wss : Nat → List Int) : Prop where
  a0 : Has W 1 v0 zs.length (ints zs)
  s0 : Sane W v0
  a1 : Has W 1 v1 m us
  s1 : Sane W v1
  rows : ∀ i, i < m → ∃ vi, us[i]? = some vi ∧ Has W 1 vi (wss i).length (ints (wss i)) ∧ Sane W vi
theorem InW.shadow {W : World} {v0 v1 : Value} {zs : List Int} {m : Nat} {us : List Value} {wss : Nat → List Int} (h : InW W v0 v1 zs m us wss) :
    Has (shadow0 W) 1 (sh W v0) zs.length (ints zs) ∧ Has (shadow0 W) 1 (sh W v1) m (us.map (sh W)) ∧ ∀ i, i < m → ∃ vi, (us.map (sh W))[i]? = some vi ∧ Has (shadow0 W) 1 vi (wss i).length (ints (wss i)) := by
  refine ⟨?_, has_shadow h.a1 h.s1, fun i hi => ?_⟩
  · have := has_shadow h.a0 h.s0
    rwa [ints_shadow] at this
  · obtain ⟨vi, h1, h2, h3⟩ := h.rows i hi
    refine ⟨sh W vi, by rw [List.getElem?_map, h1]; rfl, ?_⟩
    have := has_shadow h2 h3
    rwa [ints_shadow] at this
set_option maxRecDepth 100000 in
open Classical in
/-- The arguments, opened. -/
theorem open_in {H : Type} {enc : TypeId × Value → H} {W : World} {base : Nat} {v0 v1 : Value} {d0 d1 : DataW H} {p0 p1 : List MemPlace}
    (hv0 : Value.okWide Try.prog W .any base 22 v0) (hv1 : Value.okWide Try.prog W .any base 23 v1) (h0 : DataW.Trod enc Try.prog W 0 (fun _ => true) true 22 v0 d0 p0) (h1 : DataW.Trod enc Try.prog W 0 (fun _ => true) true 23 v1 d1 p1) :
    ∃ zs m us wss, InW W v0 v1 zs m us wss := by
  obtain ⟨zs, A0, _⟩ := open_has_ints Try.underlying22 Try.underlying3 (by kernel_rfl) hv0 h0
  obtain ⟨a0, l0, c0, rfl⟩ := okWide_slice Try.underlying22 hv0
  obtain ⟨a1, l1, c1, rfl⟩ := okWide_slice Try.underlying23 hv1
  obtain ⟨f0, q0⟩ := h0
  obtain ⟨f1, q1⟩ := h1
  have S0 := sane_of Try.underlying22 (show Try.prog.cellsOf 3 = 1 by kernel_rfl) (by omega) (v := .slice a0 l0 c0) (by simpa [Value.cells] using q0)
  have S1 := sane_of Try.underlying23 (show Try.prog.cellsOf 22 = 1 by kernel_rfl) (by omega) (v := .slice a1 l1 c1) (by simpa [Value.cells] using q1)
  have hread : ∀ (n : Nat) (cs : List Value) (y : DataW H × List MemPlace), cs.length = 1 → DataW.trod enc Try.prog W 0 (fun _ => true) true n 22 cs = some y → ∃ a : Value, cs = [a] ∧ ((∃ d : List Int, Has W 1 a d.length (ints d)) ∧ Sane W a) := fun n cs y hl hq => by
    match cs, hl with
    | [c], _ =>
      refine ⟨c, rfl, ?_, sane_of Try.underlying22 (show Try.prog.cellsOf 3 = 1 by kernel_rfl) (by omega) hq⟩
      rcases open_ints Try.underlying22 Try.underlying3 (by kernel_rfl) hq with ⟨hcs, hx⟩ | ⟨a, len', cap', zs, hcs, _, hl, hm, hz, hx, hcell, hwf⟩
      · simp only [List.cons.injEq, and_true] at hcs
        subst hcs
        exact ⟨[], ⟨⟨by simp, fun n cap h => by simp at h; exact ⟨h.1.symm, h.2.symm⟩⟩, none, 0, rfl, Nat.le_refl _, Nat.zero_le _, fun h => by simp at h⟩⟩
      · simp only [List.cons.injEq, and_true] at hcs
        subst hcs
        have hzl : len' ≤ zs.length := by rw [hz]; split <;> omega
        refine ⟨zs.take len', ⟨⟨by simp, fun n cap h => by simp at h⟩, some a, cap', by rw [List.length_take, Nat.min_eq_left hzl], by rw [List.length_take]; omega, hm, fun hp => ?_⟩⟩
        have hl0 : 0 < zs.length := by simp at hp; omega
        have hsp : a.spot = none := by
          have := hcell 0 hl0
          rw [show a.add 0 = a by simp [Addr.add]] at this
          cases hs : a.spot with
          | none => rfl
          | some s => simp [World.cell?, hs] at this; split at this <;> simp at this
        refine ⟨a.block, a.off, by cases a; simp_all, fun j u hu => ?_⟩
        have hj : j < (zs.take len').length := by have := (List.getElem?_eq_some_iff.1 hu).1; simpa using this
        rw [ints_get _ _ hj] at hu
        have hj' : j < zs.length := by rw [List.length_take] at hj; omega
        have := hcell j hj'
        rw [addr_add _ _ hsp] at this
        rw [this, ← hu]; simp [List.getD_eq_getElem?_getD, hj']
  obtain ⟨us, A1, hr⟩ := open_cells (fun v : Value => [v]) (fun v => (∃ d : List Int, Has W 1 v d.length (ints d)) ∧ Sane W v) 1 (fun _ => rfl) (by omega) Try.underlying23 (show Try.prog.cellsOf 22 = 1 by kernel_rfl) hread (n := f1) (v := .slice a1 l1 c1) (by simpa [Value.cells] using q1)
  rw [show us.flatMap (fun v => [v]) = us by simp] at A1
  refine ⟨zs, us.length, us, fun i => if h : ∃ d : List Int, ∃ v, us[i]? = some v ∧ Has W 1 v d.length (ints d) then h.choose else [], A0, S0, A1, S1, fun i hi => ?_⟩
  obtain ⟨⟨d, hd⟩, hs⟩ := hr us[i] (List.getElem_mem hi)
  have hx : ∃ d : List Int, ∃ v, us[i]? = some v ∧ Has W 1 v d.length (ints d) := ⟨d, us[i], List.getElem?_eq_getElem hi, hd⟩
  obtain ⟨v, hv, hh⟩ := hx.choose_spec
  have hvi : v = us[i] := by rw [List.getElem?_eq_getElem hi] at hv; exact (Option.some.inj hv).symm
  subst hvi
  refine ⟨_, hv, ?_, hs⟩
  rw [dif_pos hx]
  exact hh
end Go.Proofs.Ytkodpijedinanaa.Sim
