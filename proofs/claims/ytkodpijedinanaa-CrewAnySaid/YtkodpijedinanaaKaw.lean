/- Texts that the claim imports, laid together: Open OpenR MxH. No statement of their own. -/
import Derived.Lib.SmallJoins
import Derived.Deep.Slices
import Derived.Deep.Fields
import Derived.Test.YtkodpijedinanaaKai
import Derived.Test.YtkodpijedinanaaKav
namespace Go.Proofs.Ytkodpijedinanaa
open Go.ChangeShapes Go.WideShapes Go.ChangeAt Go.RowKit Go.Joins Go.Deep
set_option linter.unusedVariables false
section
variable {H : Type} {enc : TypeId × Value → H} {P : Program} {w : World} {base : Nat} {spare : Nat → Bool} {held : Bool}
/-- A struct of one-cell fields, by value: its cells, each with its own reading. -/
theorem open_struct {r : Reach} {b0 : Nat} {t : TypeId} {fs : Array Field} {v : Value} {d : DataW H} {p : List MemPlace} (hs : P.underlying t = some (.struct fs)) (hone : oneCellFields P fs = true) (hC : P.cellsOf t = fs.size)
    (hv : Value.okWide P w r b0 t v) (h : DataW.Trod enc P w base spare held t v d p) :
    ∃ (cs : List Value) (n : Nat), v = .agg cs.toArray ∧ cs.length = fs.size ∧ ∀ (j : Nat) (f : Field) (c : Value), fs[j]? = some f → cs[j]? = some c → ∃ y, DataW.trod enc P w base spare held n f.type [c] = some y := by
  obtain ⟨cs, rfl, hsz⟩ := okWide_struct hs hv
  obtain ⟨l⟩ := cs
  have hl : l.length = fs.size := hsz.trans hC
  obtain ⟨fuel, hf⟩ := h
  obtain ⟨xs, n, _, _, _, hlen, hg⟩ := DataW.trod_struct hs hf
  refine ⟨l, n, rfl, hl, fun j f c hj hc => ?_⟩
  obtain ⟨ho, hk⟩ := hone_of hone j f hj
  have h1 := hg j f hj
  have hjl : j < l.length := (List.getElem?_eq_some_iff.1 hc).1
  have e1 : (l.drop j).take 1 = [c] := by
    rw [List.drop_eq_getElem_cons hjl, List.take_succ_cons, List.take_zero, (List.getElem?_eq_some_iff.1 hc).2]
  rw [ho, hk] at h1
  have e2 : (Value.agg l.toArray).cells.toList = l := rfl
  rw [e2, e1] at h1
  have hx : j < xs.length := by omega
  exact ⟨_, h1.trans (List.getElem?_eq_getElem hx)⟩
theorem int_of {n : Nat} {e : TypeId} {c : Value} {y : DataW H × List MemPlace} (he : P.underlying e = some (.int .i64)) (h : DataW.trod enc P w base spare held n e [c] = some y) : ∃ z : Int, c = .int .i64 z := by
  obtain ⟨a, e0, _⟩ := DataW.trod_int he h
  exact ⟨a, by simpa using e0⟩
theorem bool_of {n : Nat} {e : TypeId} {c : Value} {y : DataW H × List MemPlace} (he : P.underlying e = some .bool) (h : DataW.trod enc P w base spare held n e [c] = some y) : ∃ b : Bool, c = .bool b := by
  obtain ⟨a, e0, _⟩ := DataW.trod_bool he h
  exact ⟨a, by simpa using e0⟩
end
end Go.Proofs.Ytkodpijedinanaa

namespace Go.Proofs.Ytkodpijedinanaa
open Go.ChangeShapes Go.WideShapes Go.ChangeAt Go.RowKit Go.Joins Go.Deep
set_option linter.unusedVariables false
theorem list_of {α : Type} (Q : Nat → α → Prop) : ∀ n, (∀ i, i < n → ∃ a, Q i a) → ∃ l : List α, l.length = n ∧ ∀ i a, l[i]? = some a → Q i a
  | 0, _ => ⟨[], rfl, fun i a h => by simp at h⟩
  | n + 1, h => by
    obtain ⟨l, hl, hq⟩ := list_of Q n fun i hi => h i (by omega)
    obtain ⟨a, ha⟩ := h n (by omega)
    refine ⟨l ++ [a], by simp [hl], fun i b hb => ?_⟩
    by_cases hi : i < l.length
    · rw [List.getElem?_append_left hi] at hb; exact hq i b hb
    · have : i = l.length := by have := (List.getElem?_eq_some_iff.1 hb).1; simp at this; omega
      subst this
      simp at hb
      subst hb; rw [hl]; exact ha
section
variable {H : Type} {enc : TypeId × Value → H} {P : Program} {W : World} {sp : Nat → Bool}
/-- The fields of a struct of one-cell fields. -/
theorem struct_fields {t : TypeId} {fs : Array Field} {n : Nat} {cs : List Value} {x : DataW H × List MemPlace} (hs : P.underlying t = some (.struct fs)) (hone : oneCellFields P fs = true) (hC : P.cellsOf t = fs.size)
    (h : DataW.trod enc P W 0 sp true n t cs = some x) : cs.length = fs.size ∧ ∃ n', ∀ (j : Nat) (f : Field) (c : Value), fs[j]? = some f → cs[j]? = some c → ∃ y, DataW.trod enc P W 0 sp true n' f.type [c] = some y := by
  obtain ⟨xs, n', _, _, hl, hlen, hg⟩ := DataW.trod_struct hs h
  refine ⟨hl.trans hC, n', fun j f c hj hc => ?_⟩
  obtain ⟨ho, hk⟩ := hone_of hone j f hj
  have h1 := hg j f hj
  have hjl : j < cs.length := (List.getElem?_eq_some_iff.1 hc).1
  have e1 : (cs.drop j).take 1 = [c] := by
    rw [List.drop_eq_getElem_cons hjl, List.take_succ_cons, List.take_zero, (List.getElem?_eq_some_iff.1 hc).2]
  rw [ho, hk, e1] at h1
  have hx : j < xs.length := by have := (Array.getElem?_eq_some_iff.1 hj).1; omega
  exact ⟨_, h1.trans (List.getElem?_eq_getElem hx)⟩
/-- A row whose elements read, out of one cell (a slice in a cell). -/
theorem open_cells {α : Type} (f : α → List Value) (R : α → Prop) (m : Nat) (hf : ∀ a, (f a).length = m) (hm0 : 0 < m) {t e : TypeId} (ht : P.underlying t = some (.slice e)) (hC : P.cellsOf e = m)
    (hread : ∀ n cs y, cs.length = m → DataW.trod enc P W 0 sp true n e cs = some y → ∃ a, cs = f a ∧ R a) {n : Nat} {v : Value} {y : DataW H × List MemPlace} (h : DataW.trod enc P W 0 sp true n t [v] = some y) :
    ∃ l : List α, Has W m v l.length (l.flatMap f) ∧ ∀ a ∈ l, R a := by
  rcases open_slice ht h with ⟨hcs, hx⟩ | ⟨a, len, cap, k, n', D, Pl, hcs, _, hl, hm, hk, hx, hi⟩
  · simp only [List.cons.injEq, and_true] at hcs
    subst hcs
    exact ⟨[], ⟨⟨by simp, fun n cap h => by simp at h; exact ⟨h.1.symm, h.2.symm⟩⟩, none, 0, rfl, Nat.le_refl _, Nat.zero_le _, fun h => by simp at h⟩, by simp⟩
  · simp only [List.cons.injEq, and_true] at hcs
    subst hcs
    have hlk : len ≤ k := by rw [hk]; split <;> omega
    obtain ⟨l, hll, hq⟩ := list_of (fun i b => (∀ j u, (f b)[j]? = some u → W.cell? (a.add (i * m + j)) = some u) ∧ R b) len fun i hil => by
      obtain ⟨cs', hc, ht'⟩ := hi i (by omega)
      rw [hC] at hc
      obtain ⟨_, hcl, hat⟩ := World.cells?_some hc
      obtain ⟨b, rfl, hR⟩ := hread _ _ _ hcl ht'
      refine ⟨b, fun j u hu => ?_, hR⟩
      have hj : j < m := by have := (List.getElem?_eq_some_iff.1 hu).1; omega
      rw [← Go.Deep.add_add, hat j hj]
      exact hu
    subst hll
    refine ⟨l, ⟨⟨flat_length f m hf l, fun n cap h => by simp at h⟩, some a, cap, rfl, hl, hm, fun hp => ?_⟩, fun b hb => ?_⟩
    · have hcell : ∀ j u, (l.flatMap f)[j]? = some u → W.cell? (a.add j) = some u := fun j u hu => by
        have hjl : j < l.length * m := by have := (List.getElem?_eq_some_iff.1 hu).1; rwa [flat_length f m hf l] at this
        have hd : j / m < l.length := (Nat.div_lt_iff_lt_mul hm0).2 hjl
        have hr := Nat.mod_lt j hm0
        have e := Nat.div_add_mod' j m
        have h1 := flat_get f m hf l (j / m) hd (j % m) hr
        rw [e, hu] at h1
        have := (hq (j / m) _ (List.getElem?_eq_getElem hd)).1 (j % m) u h1.symm
        rwa [e] at this
      have hsp : a.spot = none := by
        have h0 := hcell 0 ((l.flatMap f)[0]) (List.getElem?_eq_getElem hp)
        rw [show a.add 0 = a by simp [Addr.add]] at h0
        cases hs : a.spot with
        | none => rfl
        | some s => simp [World.cell?, hs] at h0; split at h0 <;> simp at h0
      refine ⟨a.block, a.off, by cases a; simp_all, fun j u hu => ?_⟩
      have := hcell j u hu
      rwa [addr_add _ _ hsp] at this
    · obtain ⟨i, hi', rfl⟩ := List.mem_iff_getElem.1 hb
      exact (hq i _ (List.getElem?_eq_getElem hi')).2
/-- An argument that is such a row. -/
theorem open_row {α : Type} (f : α → List Value) (R : α → Prop) (m : Nat) (hf : ∀ a, (f a).length = m) (hm0 : 0 < m) {t e : TypeId} {base : Nat} {v : Value} {d : DataW H} {ps : List MemPlace} (ht : P.underlying t = some (.slice e)) (hC : P.cellsOf e = m)
    (hread : ∀ n cs y, cs.length = m → DataW.trod enc P W 0 sp true n e cs = some y → ∃ a, cs = f a ∧ R a)
    (hval : Value.okWide P W .any base t v) (h : DataW.Trod enc P W 0 sp true t v d ps) : ∃ l : List α, Has W m v l.length (l.flatMap f) ∧ ∀ a ∈ l, R a := by
  obtain ⟨a0, len, cap, rfl⟩ := okWide_slice ht hval
  obtain ⟨fuel, hf'⟩ := h
  exact open_cells f R m hf hm0 ht hC hread (n := fuel) (v := .slice a0 len cap) (by simpa [Value.cells] using hf')
end
end Go.Proofs.Ytkodpijedinanaa

namespace Go.Proofs.Ytkodpijedinanaa.Sim
open Go Go.Conc Go.ChangeShapes Go.WideShapes Go.ChangeAt Go.RowKit
set_option linter.unusedVariables false
set_option linter.unusedSimpArgs false

/-- What comes in: lists of notes. -/
structure InA (W : World) (v0 : Value) (m : Nat) (us : List Value) (lls : Nat → List Ent) : Prop where
  a0 : Has W 1 v0 m us
  rows : ∀ i, i < m → ∃ vi, us[i]? = some vi ∧ Has W 5 vi (lls i).length (ents (lls i))
theorem note_row {W : World} {lo : Nat} (hlo : W.heap.size = lo) {v : Value} {l : List Ent} (h : Has W 5 v l.length (ents l)) : ∃ a c, v = .slice a l.length c ∧ NoteRow (shR lo fun _ => False) a l W := by
  obtain ⟨_, a, c, rfl, _⟩ := id h
  refine ⟨a, c, rfl, ⟨fun j hj => ?_⟩⟩
  obtain ⟨b, off, cap, e, _, h0, h1, h2, h3, h4⟩ := ent_get h j hj
  cases e
  exact ⟨b, off, rfl, by rw [← hlo]; exact cell_lt h0, h0, h1, h2, h3, h4⟩
theorem InA.nn {W : World} {lo : Nat} (hlo : W.heap.size = lo) {v0 : Value} {m : Nat} {us : List Value} {lls : Nat → List Ent} (h : InA W v0 m us lls) : ∃ a c, v0 = .slice a m c ∧ NNRow lo a m lls W := by
  obtain ⟨⟨hl, _⟩, a, c, rfl, _, _, hc⟩ := h.a0
  refine ⟨a, c, rfl, ⟨fun j hj => ?_⟩⟩
  obtain ⟨b, off, rfl, hcc⟩ := hc (by omega)
  obtain ⟨vi, h1, h2⟩ := h.rows j hj
  obtain ⟨ai, ci, rfl, h3⟩ := note_row hlo h2
  have h4 := hcc j _ h1
  exact ⟨b, off, ai, ci, rfl, by rw [← hlo]; exact cell_lt h4, h4, h3⟩
set_option maxRecDepth 100000 in
open Classical in
/-- The arguments, opened. -/
theorem open_any {H : Type} {enc : TypeId × Value → H} {W : World} {base : Nat} {v0 : Value} {d0 : DataW H} {p0 : List MemPlace}
    (hv0 : Value.okWide Try.prog W .any base 33 v0) (h0 : DataW.Trod enc Try.prog W 0 (fun _ => true) true 33 v0 d0 p0) :
    ∃ m us lls, InA W v0 m us lls := by
  have hread : ∀ (n : Nat) (cs : List Value) (y : DataW H × List MemPlace), cs.length = 1 → DataW.trod enc Try.prog W 0 (fun _ => true) true n 38 cs = some y → ∃ a : Value, cs = [a] ∧ ∃ l : List Ent, Has W 5 a l.length (ents l) := fun n cs y hl hq => by
    match cs, hl with
    | [c], _ =>
      refine ⟨c, rfl, ?_⟩
      exact (open_cells Ent.cells (fun _ => True) 5 Ent.cells_length (by omega) Try.underlying38 (by kernel_rfl) (fun n cs y hl hr => by
        obtain ⟨_, n', hf⟩ := struct_fields Try.underlying53 (by kernel_rfl) (by kernel_rfl) hr
        match cs, hl with
        | [c0, c1, c2, c3, c4], _ =>
          obtain ⟨y0, h0⟩ := hf 0 _ c0 rfl rfl
          obtain ⟨y1, h1⟩ := hf 1 _ c1 rfl rfl
          obtain ⟨y2, h2⟩ := hf 2 _ c2 rfl rfl
          obtain ⟨y3, h3⟩ := hf 3 _ c3 rfl rfl
          obtain ⟨y4, h4⟩ := hf 4 _ c4 rfl rfl
          obtain ⟨a, rfl⟩ := Go.Proofs.Ytkodpijedinanaa.int_of Try.underlying3 h0
          obtain ⟨b, rfl⟩ := Go.Proofs.Ytkodpijedinanaa.int_of Try.underlying3 h1
          obtain ⟨c, rfl⟩ := Go.Proofs.Ytkodpijedinanaa.int_of Try.underlying3 h2
          obtain ⟨e, rfl⟩ := Go.Proofs.Ytkodpijedinanaa.int_of Try.underlying3 h3
          obtain ⟨g, rfl⟩ := Go.Proofs.Ytkodpijedinanaa.bool_of Try.underlying4 h4
          exact ⟨⟨a, b, c, e, g⟩, rfl, trivial⟩) hq).imp fun _ h => h.1
  obtain ⟨us, A1, hr⟩ := open_row (fun v : Value => [v]) (fun v => ∃ l : List Ent, Has W 5 v l.length (ents l)) 1 (fun _ => rfl) (by omega) Try.underlying33 (show Try.prog.cellsOf 38 = 1 by kernel_rfl) hread hv0 h0
  rw [show us.flatMap (fun v => [v]) = us by simp] at A1
  refine ⟨us.length, us, fun i => if h : ∃ l : List Ent, ∃ v, us[i]? = some v ∧ Has W 5 v l.length (ents l) then h.choose else [], A1, fun i hi => ?_⟩
  obtain ⟨l, hd⟩ := hr us[i] (List.getElem_mem hi)
  have hx : ∃ l : List Ent, ∃ v, us[i]? = some v ∧ Has W 5 v l.length (ents l) := ⟨l, us[i], List.getElem?_eq_getElem hi, hd⟩
  obtain ⟨v, hv, hh⟩ := hx.choose_spec
  refine ⟨v, hv, ?_⟩
  rw [dif_pos hx]
  exact hh
/-- What holds at the beginning. -/
theorem inv_start (P : Program) {W : World} {lo : Nat} (hlo : W.heap.size = lo) (g : Goroutine) : Inv P W lo 0 0 0 .ret (fun _ => False) (fun _ => False) (shR lo fun _ => False) (fun _ => none) [] g #[g] W #[] := by
  have hag : ∀ γ b, (agents (fun _ => False, shR lo fun _ => False) [] γ).1 b → False := fun γ b h => by
    cases γ with
    | zero => exact h
    | succ j => simp [agents] at h
  have hsh : ∀ γ b, (agents (fun _ => False, shR lo fun _ => False) [] γ).2 b → b < lo := fun γ b h => by
    cases γ with
    | zero => exact h
    | succ j => exact False.elim h
  have hcel : ∀ γ b o, (agents (fun _ => False, shR lo fun _ => False) [] γ).2.cel b o → False := fun γ b o h => by
    cases γ with
    | zero => exact h
    | succ j => exact h
  have hgrp : ∀ γ b, (agents (fun _ => False, shR lo fun _ => False) [] γ).2.grp b → False := fun γ b h => by
    cases γ with
    | zero => exact h
    | succ j => exact h
  have htouch : ∀ i x, touchAt #[] i = some x → False := fun i x h => by
    obtain ⟨op, hop, _⟩ := touch_of h
    simp at hop
  exact {
    size := rfl
    main := rfl
    wk := fun i x h => by simp at h
    deaf := rfl
    deafW := fun i x h => by simp at h
    rel := fun i x h => by simp at h
    sep := ⟨fun γ δ b h => (hag γ b h).elim, fun γ δ b h => (hag γ b h).elim, fun γ δ b o h => (hcel γ b o h).elim, fun γ δ b o h => (hcel γ b o h).elim, fun γ b h => h.elim, fun γ b h => h.elim, fun γ b o h => h.elim, fun γ b h => (hgrp γ b h).elim, fun γ b h => by rw [hlo]; exact h.elim (fun h => (hag γ b h).elim) (hsh γ b), fun γ b o h => (hcel γ b o h).elim, fun b h => h.elim, fun γ b h => (hag γ b h).elim, fun γ b o h => (hcel γ b o h).elim, fun b h => h.elim⟩
    tr := ⟨fun said => (by
      rintro ⟨i, j, hij, ⟨a, b, ha, hb, hc⟩, n1, n2⟩
      exact htouch i a ha), fun i op h => by simp at h, fun i x h => (htouch i x h).elim, fun i op x h => by simp at h, fun γ i x p h => (htouch i x h).elim, fun i op x h => by simp at h⟩
    bs := ⟨rfl, rfl, rfl, fun b _ => rfl, Nat.le_of_eq hlo.symm⟩
    jobs := fun i => by simp
    grp := .idle rfl fun i x h => by simp at h }
set_option maxRecDepth 100000 in
/-- ████ CrewAny, on every schedule. -/
theorem any_run (W : World) (hg : Try.prog.globals.size ≤ W.heap.size) (v0 : Value) (tn : Int) {m : Nat} {us : List Value} {lls : Nat → List Ent} (h : InA W v0 m us lls) :
    Ends Try.prog (Conc.Good Try.prog fun v W' => v = .bool true ∧ BaseOk W W.heap.size W') (solo (G (Frame.enter Try.prog 4 #[v0, .int .i64 tn] .normal) []) W) #[] := by
  have hent : Frame.enter Try.prog 4 #[v0, .int .i64 tn] .normal = (base 4).at { tmps := #[v0, .int .i64 tn] ++ Array.replicate 99 undef, defers := [] } [.code cCA] := by
    have := enter_at (P := Try.prog) (f := 4) (c := cCA) #[v0, .int .i64 tn] Try.func4 (by rfl)
    rw [this]
    have hnt : Try.f4.ntmps - (#[v0, .int .i64 tn] : Array Value).size = 99 := by kernel_rfl
    rw [hnt]
  obtain ⟨lo, hlo⟩ : ∃ lo, W.heap.size = lo := ⟨_, rfl⟩
  obtain ⟨a, c, rfl, hN⟩ := h.nn hlo
  have hM := any_all (W00 := W) hlo hg (A := { tmps := #[.slice a m c, .int .i64 tn] ++ Array.replicate 99 undef, defers := [] }) (tn := tn) hN (by simp) rfl (sl_app (v := .slice a m c) rfl) (sl_app (v := .int .i64 tn) rfl) W (.refl _ _)
  rw [hent, solo_eq_crowd]
  exact main_ends hM (fun _ => False) [] _ W none #[] (by omega) rfl (inv_start Try.prog hlo _) (.refl _ _ _)
end Go.Proofs.Ytkodpijedinanaa.Sim
