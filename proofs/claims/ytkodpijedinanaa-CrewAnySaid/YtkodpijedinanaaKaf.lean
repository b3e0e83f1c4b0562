/- Texts that the claim imports, laid together: McF McG McH McI. No statement of their own. -/
import Derived.Test.YtkodpijedinanaaKae
namespace Go.Proofs.Ytkodpijedinanaa.Sim
open Go Go.Conc
set_option linter.unusedVariables false
set_option linter.unusedSimpArgs false

theorem WOk.acc {P : Program} {Wg : Nat} {W : World} {x : WSt} {h : Goroutine} (hx : WOk P Wg W x h) : Acc (WLt P Wg) x := by
  cases x with
  | work jb own sh g w => exact acc_work hx.2.1
  | done jb own sh v s m d => exact acc_done ..
  | quit m d => exact acc_quit ..
/-- One of them goes on. -/
inductive LLt {α : Type} (r : α → α → Prop) : List α → List α → Prop
  | mk {l : List α} {i : Nat} {x y : α} : l[i]? = some y → r x y → LLt r (l.set i x) l
theorem acc_list {α : Type} {r : α → α → Prop} : ∀ {l : List α}, (∀ (i : Nat) (x : α), l[i]? = some x → Acc r x) → Acc (LLt r) l := by
  intro l
  induction l with
  | nil =>
    intro _
    refine ⟨_, fun y hy => ?_⟩
    generalize hn : ([] : List α) = l0 at hy
    cases hy with
    | mk h _ => subst hn; simp at h
  | cons a l ih =>
    intro h
    have ha : Acc r a := h 0 a rfl
    have hl : Acc (LLt r) l := ih fun i x hx => h (i + 1) x hx
    clear ih h
    induction ha generalizing l with
    | intro a _ iha =>
      induction hl with
      | intro l hl ihl =>
        refine ⟨_, fun y hy => ?_⟩
        cases hy with
        | @mk _ i x y hi hr =>
          cases i with
          | zero =>
            simp only [List.getElem?_cons_zero, Option.some.injEq] at hi
            subst hi
            exact iha x hr (l := l) ⟨_, hl⟩
          | succ i =>
            simp only [List.getElem?_cons_succ] at hi
            exact ihl _ (.mk hi hr)
/-- Whose which blocks are. -/
def agents (h0 : Blk × Shd) (st : List WSt) : Hld := fun γ => match γ with
  | 0 => h0
  | j + 1 => match st[j]? with
    | some x => (x.own, x.sh)
    | none => (fun _ => False, nosh)
theorem agents_set (h0 : Blk × Shd) {st : List WSt} {i : Nat} (hi : i < st.length) (x : WSt) : agents h0 (st.set i x) = setA (agents h0 st) (i + 1) (x.own, x.sh) := by
  funext γ
  cases γ with
  | zero => simp [agents, setA]
  | succ j =>
    by_cases e : j = i
    · subst e; simp [agents, setA, hi]
    · have e' : ¬ i = j := fun h => e h.symm
      simp [agents, setA, e, List.getElem?_set, e']
theorem agents_main (h0 h1 : Blk × Shd) (st : List WSt) : agents h1 st = setA (agents h0 st) 0 h1 := by
  funext γ
  cases γ with
  | zero => simp [agents, setA]
  | succ j => simp [agents, setA]
theorem agents_push (h0 : Blk × Shd) (st : List WSt) (x : WSt) : agents h0 (st ++ [x]) = setA (agents h0 st) (st.length + 1) (x.own, x.sh) := by
  funext γ
  cases γ with
  | zero => simp [agents, setA]
  | succ j =>
    by_cases e : j = st.length
    · subst e; simp [agents, setA]
    · by_cases hlt : j < st.length
      · simp [agents, setA, e, List.getElem?_append, hlt]
      · have h1 : st[j]? = none := List.getElem?_eq_none (by omega)
        have h2 : (st ++ [x])[j]? = none := List.getElem?_eq_none (by simp; omega)
        simp only [agents, setA, h1, h2]
        rw [if_neg (by omega)]
theorem agents_at (h0 : Blk × Shd) {st : List WSt} {i : Nat} {x : WSt} (hi : st[i]? = some x) : agents h0 st (i + 1) = (x.own, x.sh) := by simp [agents, hi]
def liveOf (st : List WSt) : Nat → Prop := fun γ => ∃ j x, γ = j + 1 ∧ st[j]? = some x ∧ x.job ≠ none
theorem liveOf_set {st : List WSt} {i : Nat} {x y : WSt} (hi : st[i]? = some y) (hx : x.job = y.job) : liveOf (st.set i x) = liveOf st := by
  have hlt := (List.getElem?_eq_some_iff.1 hi).1
  funext γ
  refine propext ⟨fun ⟨j, z, e, h1, h2⟩ => ?_, fun ⟨j, z, e, h1, h2⟩ => ?_⟩
  · by_cases hj : i = j
    · subst hj
      rw [List.getElem?_set_self hlt] at h1
      cases h1
      exact ⟨i, y, e, hi, hx ▸ h2⟩
    · rw [List.getElem?_set_ne hj] at h1; exact ⟨j, z, e, h1, h2⟩
  · by_cases hj : i = j
    · subst hj
      rw [hi] at h1
      cases h1
      exact ⟨i, x, e, by simp [hlt], hx ▸ h2⟩
    · exact ⟨j, z, e, by rw [List.getElem?_set_ne hj]; exact h1, h2⟩
/-- Where the workers stand, for the group's count. -/
def Df (st : List WSt) : Nat → ConcN.WD := fun i => match st[i]? with
  | some x => x.wd
  | none => ⟨1, 0, 0⟩
theorem Df_at {st : List WSt} {i : Nat} {x : WSt} (hi : st[i]? = some x) : Df st i = x.wd := by simp [Df, hi]
theorem Df_set {st : List WSt} {i : Nat} (hi : i < st.length) (x : WSt) : Df (st.set i x) = ConcN.upd (Df st) i x.wd := by
  funext a
  by_cases e : a = i
  · subst e; simp [Df, ConcN.upd, hi]
  · have e' : ¬ i = a := fun h => e h.symm
    simp [Df, ConcN.upd, e, List.getElem?_set, e']
/-- What stays of the start. -/
structure BaseOk (W0 : World) (lo : Nat) (W : World) : Prop where
  tape : W.tape = W0.tape
  os : W.os = W0.os
  out : W.output = W0.output
  heap : ∀ b, b < lo → W.heap[b]? = W0.heap[b]?
  le : lo ≤ W.heap.size
/-- How the group stands. -/
inductive GrpOk (Wg B : Nat) (tag : ConcN.CTag) (st : List WSt) (Gp : Blk) (W : World) : Prop
  | idle : tag = .ret → (∀ (i : Nat) (x : WSt), st[i]? = some x → x.job = none) → GrpOk Wg B tag st Gp W
  | live (s m : Int) : tag ≠ .ret → Gp Wg → ConcR.WgAt tyWg Wg W s m → ConcN.Mode st.length (Df st) tag s m → ConcN.Vc st.length (Df st) + ConcN.pend tag ≤ B → GrpOk Wg B tag st Gp W
structure Inv (P : Program) (W0 : World) (lo Wg B d : Nat) (tag : ConcN.CTag) (Gp : Blk) (Own : Blk) (Sh : Shd) (jobs : Nat → Option Job) (st : List WSt) (m0 : Goroutine) (gs : Array Goroutine) (W : World) (t : Trace) : Prop where
  size : gs.size = st.length + 1
  main : gs[0]? = some m0
  wk : ∀ (i : Nat) (x : WSt), st[i]? = some x → ∃ h, gs[i + 1]? = some h ∧ WOk P Wg W x h
  deaf : Deaf t 0 = d
  deafW : ∀ (i : Nat) (x : WSt), st[i]? = some x → Deaf t (i + 1) = x.wd.deaf
  rel : ∀ (i : Nat) (x : WSt), st[i]? = some x → x.rel → ∃ r, RelX Gp (ConcR.stA Wg) t (i + 1) r
  sep : Sep (agents (Own, Sh) st) Gp W.heap.size lo
  tr : TInv t (agents (Own, Sh) st) Gp W.heap.size (st.length + 1) (liveOf st)
  bs : BaseOk W0 lo W
  jobs : ∀ i, jobs i = (st[i]?).bind (·.job)
  grp : GrpOk Wg B tag st Gp W
theorem rely_at (Own : Blk) (Sh : Shd) (W : World) (d : Nat) : Rely Own Sh W (W.at d) := ⟨Nat.le_refl _, fun b o _ ho => ho, fun b c e z h => ⟨c, h, rfl⟩, fun b o v _ h => h, fun b _ h => h⟩
theorem Inv.at {P : Program} {W0 : World} {lo Wg B d : Nat} {tag : ConcN.CTag} {Gp Own : Blk} {Sh : Shd} {jobs : Nat → Option Job} {st : List WSt} {m0 : Goroutine} {gs : Array Goroutine} {W : World} {t : Trace} (h : Inv P W0 lo Wg B d tag Gp Own Sh jobs st m0 gs W t) (k : Nat) : Inv P W0 lo Wg B d tag Gp Own Sh jobs st m0 gs (W.at k) t where
  size := h.size
  main := h.main
  wk := fun i x hx => by
    obtain ⟨g, h1, h2⟩ := h.wk i x hx
    exact ⟨g, h1, h2.rely (rely_at _ _ W k)⟩
  deaf := h.deaf
  deafW := h.deafW
  rel := h.rel
  sep := h.sep
  tr := h.tr
  bs := ⟨h.bs.tape, h.bs.os, h.bs.out, h.bs.heap, h.bs.le⟩
  jobs := h.jobs
  grp := by
    cases h.grp with
    | idle h1 h2 => exact .idle h1 h2
    | live s m h1 h2 h3 h4 h5 => exact .live s m h1 h2 h3 h4 h5
/-- What the others see of a step of one's own. -/
theorem rely_of_did {A : Hld} {Gp : Blk} {lo : Nat} {W W' : World} {γ : Nat} {es : Array Event} (hs : Sep A Gp W.heap.size lo) (h : Did (A γ).1 (A γ).2 W W' es) : ∀ δ, δ ≠ γ → Rely (A δ).1 (A δ).2 W W' := fun δ hd => by
  refine ⟨h.size, fun b o hb ho => ?_, h.shp, fun b o v hb hv => ?_, fun b hb ⟨s, m, hw⟩ => ⟨s, m, ?_⟩⟩
  · have hlt := (Array.getElem?_eq_some_iff.1 ho).1
    have hn : ¬ (A γ).1 b := fun hg => by
      rcases hb with hb | hb
      · exact hs.own _ _ _ hb hd hg
      · exact hs.sh _ _ _ hg hb
    rw [h.kept b hlt hn fun i hi => by
      rcases hb with hb | hb
      · exact (hs.cel _ _ _ _ hi).1 hb
      · exact (hs.cel _ _ _ _ hi).2 hb]
    exact ho
  · rw [h.cels b o (hs.ltc _ _ _ hb) (fun hg => (hs.cel _ _ _ _ hb).1 hg) (fun hg => hs.cels _ _ _ _ hb hd hg)]
    exact hv
  · have hG := hs.grp _ _ hb
    show W'.heap[b]? = _
    rw [h.kept b (hs.ltg _ hG) (hs.gown _ _ hG) (fun i => hs.gcel _ _ _ hG)]
    exact hw
theorem BaseOk.did {W0 W W' : World} {lo : Nat} {Own : Blk} {Sh : Shd} {es : Array Event} (h : BaseOk W0 lo W) (hd : Did Own Sh W W' es) (hlo : ∀ b, Own b → lo ≤ b) (hlc : ∀ b i, Sh.cel b i → lo ≤ b) : BaseOk W0 lo W' where
  tape := hd.tape.trans h.tape
  os := hd.os.trans h.os
  out := hd.out.trans h.out
  heap := fun b hb => by
    rw [hd.kept b (Nat.lt_of_lt_of_le hb h.le) (fun ho => absurd (hlo b ho) (by omega)) fun i hi => absurd (hlc b i hi) (by omega)]
    exact h.heap b hb
  le := Nat.le_trans h.le hd.size
theorem BaseOk.aside {W0 W W' : World} {lo Wg : Nat} (h : BaseOk W0 lo W) (hd : Conc.Aside Wg W W') (hlo : lo ≤ Wg) : BaseOk W0 lo W' where
  tape := hd.tape.trans h.tape
  os := hd.os.trans h.os
  out := hd.output.trans h.out
  heap := fun b hb => by rw [hd.block b (by omega)]; exact h.heap b hb
  le := by rw [hd.size]; exact h.le
/-- A turn of the group's block. -/
theorem rely_aside {A : Hld} {Gp : Blk} {sz lo Wg : Nat} {W W' : World} {s m s' m' : Int} (hs : Sep A Gp sz lo) (hG : Gp Wg) (h : Conc.Aside Wg W W') (hw : ConcR.WgAt tyWg Wg W s m) (hw' : ConcR.WgAt tyWg Wg W' s' m') (γ : Nat) : Rely (A γ).1 (A γ).2 W W' := by
  refine ⟨Nat.le_of_eq h.size.symm, fun b o hb ho => ?_, fun b c e z hc => ?_, fun b o v hb hv => ?_, fun b hb hg => ?_⟩
  · have hn : b ≠ Wg := fun e => by
      subst e
      rcases hb with hb | hb
      · exact hs.gown _ _ hG hb
      · exact hs.gsh _ _ hG hb
    rw [h.block b hn]; exact ho
  · by_cases e1 : b = Wg
    · subst e1
      rw [show W.heap[b]? = some (ConcR.wgBlock tyWg s m) from hw] at hc
      cases hc
      exact ⟨_, hw', rfl⟩
    · exact ⟨c, by rw [h.block b e1]; exact hc, rfl⟩
  · have hn : b ≠ Wg := fun e => by subst e; exact hs.gcel _ _ _ hG hb
    simp only [World.cell?, h.block b hn] at hv ⊢
    exact hv
  · by_cases e1 : b = Wg
    · subst e1; exact ⟨s', m', hw'⟩
    · obtain ⟨a, c, hac⟩ := hg
      exact ⟨a, c, by show W'.heap[b]? = _; rw [h.block b e1]; exact hac⟩
/-- A turn of a worker's own cell. -/
theorem rely_cell {C n i : Nat} {W W' : World} {Own : Blk} {Sh : Shd} (h : ConcN.AsideCell C n i W W') (hp : ConcN.PayAt C n W) (h1 : ¬ Own C) (h2 : ¬ Sh C) (h3 : ¬ Sh.cel C i) (h4 : ¬ Sh.grp C) : Rely Own Sh W W' := by
  refine ⟨Nat.le_of_eq h.size.symm, fun b o hb ho => ?_, fun b c e z hc => ?_, fun b o v hb hv => ?_, fun b hb hg => ?_⟩
  · have hn : b ≠ C := fun e => by
      subst e
      rcases hb with hb | hb
      · exact h1 hb
      · exact h2 hb
    rw [h.block b hn]; exact ho
  · by_cases e1 : b = C
    · subst e1
      obtain ⟨cs, h5, h6⟩ := hp
      obtain ⟨cs', h7, h8⟩ := h.pay ⟨cs, h5, h6⟩
      rw [h5] at hc
      cases hc
      exact ⟨cs', h7, h8.trans h6.symm⟩
    · exact ⟨c, by rw [h.block b e1]; exact hc, rfl⟩
  · by_cases e1 : b = C
    · subst e1
      have : o ≠ i := fun e => by subst e; exact h3 hb
      rw [h.cells o this]; exact hv
    · simp only [World.cell?, h.block b e1] at hv ⊢
      exact hv
  · have hn : b ≠ C := fun e => by subst e; exact h4 hb
    obtain ⟨a, c, hac⟩ := hg
    exact ⟨a, c, by show W'.heap[b]? = _; rw [h.block b hn]; exact hac⟩
/-- How main stands: it runs, or waits at the semaphore. -/
def MainAt (tag : ConcN.CTag) (m0 : Goroutine) : Prop := (m0.status = .running ∧ tag ≠ .blk) ∨ (tag = .blk ∧ ∃ g : Goroutine, g.status = .running ∧ g.offers = none ∧ m0 = { g with status := .blocked })
/-- Another's step may let it try again. -/
def MainTo (tag : ConcN.CTag) (m0 : Goroutine) (tag' : ConcN.CTag) (m0' : Goroutine) : Prop := (tag' = tag ∧ m0' = m0) ∨ (tag = .blk ∧ tag' = .w3 ∧ m0'.status = .running ∧ m0'.offers = none ∧ m0 = { m0' with status := .blocked })
theorem MainAt.woken {P : Program} {tag : ConcN.CTag} {m0 : Goroutine} (h : MainAt tag m0) (g g' : Goroutine) (W' : World) : ∃ tag', MainTo tag m0 tag' (woken P g g' W' m0) ∧ (mayWake P g = true → g'.status = .running → tag' ≠ .blk) := by
  rcases h with ⟨h1, h2⟩ | ⟨h1, g0, h2, h3, rfl⟩
  · exact ⟨tag, .inl ⟨rfl, woken_running h1⟩, fun _ _ => h2⟩
  · unfold Go.Conc.woken
    split
    · exact ⟨.w3, .inr ⟨h1, rfl, by rw [ConcR.again_blocked h2 h3]; exact h2, by rw [ConcR.again_blocked h2 h3]; exact h3, by rw [ConcR.again_blocked h2 h3]⟩, fun _ _ => by simp⟩
    · rename_i hc
      exact ⟨tag, .inl ⟨rfl, rfl⟩, fun h4 h5 => absurd (by simp [h4, h5]) hc⟩
theorem get_woken (f : Goroutine → Goroutine) (gs : Array Goroutine) (i j : Nat) (x : Goroutine) (h : j ≠ i) : ((gs.map f).setIfInBounds i x)[j]? = (gs[j]?).map f := by
  rw [Array.getElem?_setIfInBounds_ne (fun e => h e.symm)]
  simp
theorem get_two {gs : Array Goroutine} {i j : Nat} {x : Goroutine} (hi : i ≠ j) : (gs.setIfInBounds i x)[j]? = gs[j]? := by
  rw [Array.getElem?_setIfInBounds_ne hi]
section
variable {P : Program} {W0 : World} {lo Wg B d : Nat} {tag : ConcN.CTag} {Gp Own : Blk} {Sh : Shd} {jobs : Nat → Option Job} {st : List WSt} {m0 : Goroutine} {gs : Array Goroutine} {W : World} {t : Trace}
theorem g_of {g : Nat} {fn : FuncId} {pos : String} {es : Array Event} : ∀ op ∈ MemOp.ofEvents g fn pos es, op.g = g := fun op hop => by obtain ⟨e, _, rfl⟩ := ofEvents_mem hop; rfl
/-- Main goes a step. -/
theorem Inv.mstep (h : Inv P W0 lo Wg B d tag Gp Own Sh jobs st m0 gs W t) {g' : Goroutine} {W' : World} {es : Array Event} {B' : Nat} {tag' : ConcN.CTag} {Gp' Own' : Blk} {Sh' : Shd} (hg : stepG P true m0 W = .go g' W' es)
    (hrel : ∀ γ, γ ≠ 0 → Rely (agents (Own, Sh) st γ).1 (agents (Own, Sh) st γ).2 W W') (hsep : Sep (agents (Own', Sh') st) Gp' W'.heap.size lo)
    (htr : TInv (t ++ MemOp.ofEvents 0 m0.frame.fn m0.frame.place es) (agents (Own', Sh') st) Gp' W'.heap.size (st.length + 1) (liveOf st)) (hnr : ∀ e ∈ es, e.loc ≠ .mark (.release (ConcR.stA Wg)))
    (hG : ∀ b, Gp b → Gp' b) (hbs : BaseOk W0 lo W') (hgrp : GrpOk Wg B' tag' st Gp' W') (sl : Option (Nat × Nat)) :
    ∃ gs' u, runT P (crowd gs W sl) 0 = (.next (crowd gs' W' sl), u) ∧ Inv P W0 lo Wg B' (deafBehind d es) tag' Gp' Own' Sh' jobs st g' gs' W' (t ++ u) := by
  refine ⟨_, _, runT_crowd_go (i := 0) h.main hg, ?_⟩
  refine ⟨by simp [h.size], ?_, fun i x hx => ?_, by rw [Deaf_own, h.deaf], fun i x hx => by rw [Deaf_other t (g' := 0) (by omega) _ g_of, h.deafW i x hx], fun i x hx hr => ?_, hsep, htr, hbs, h.jobs, hgrp⟩
  · have : 0 < gs.size := by rw [h.size]; omega
    simp [this]
  · obtain ⟨k, h1, h2⟩ := h.wk i x hx
    have h3 := h2.rely (W' := W') (by have := hrel (i + 1) (by omega); rwa [agents_at _ hx] at this)
    exact ⟨k, by rw [get_woken _ _ _ _ _ (by omega), h1, Option.map_some, again_still h3], h3⟩
  · obtain ⟨r, hr⟩ := h.rel i x hx hr
    exact ⟨r, (hr.appOther g_of (by omega) (ConcN.norel_of hnr)).grp hG⟩
/-- A worker goes a step. -/
theorem Inv.wstep (h : Inv P W0 lo Wg B d tag Gp Own Sh jobs st m0 gs W t) (hm : MainAt tag m0) {i : Nat} {x x' : WSt} {g g' : Goroutine} {W' : World} {es : Array Event} (hi : st[i]? = some x) (hgi : gs[i + 1]? = some g) (hg : stepG P false g W = .go g' W' es)
    (hrel : ∀ γ, γ ≠ i + 1 → Rely (agents (Own, Sh) st γ).1 (agents (Own, Sh) st γ).2 W W') (hx' : WOk P Wg W' x' g') (hjob : x'.job = x.job) (hsep : Sep (agents (Own, Sh) (st.set i x')) Gp W'.heap.size lo)
    (htr : TInv (t ++ MemOp.ofEvents (i + 1) g.frame.fn g.frame.place es) (agents (Own, Sh) (st.set i x')) Gp W'.heap.size (st.length + 1) (liveOf st)) (hnr : ∀ e ∈ es, e.loc ≠ .mark (.release (ConcR.stA Wg)))
    (hdeaf : deafBehind x.wd.deaf es = x'.wd.deaf) (hrelx : x'.rel → ∃ r, RelX Gp (ConcR.stA Wg) (t ++ MemOp.ofEvents (i + 1) g.frame.fn g.frame.place es) (i + 1) r) (hbs : BaseOk W0 lo W')
    (hgrp : ∀ tag', (tag' = tag ∨ (tag = .blk ∧ tag' = .w3)) → (mayWake P g = true → g'.status = .running → tag' ≠ .blk) → GrpOk Wg B tag' (st.set i x') Gp W') (sl : Option (Nat × Nat)) :
    ∃ gs' u m0' tag', runT P (crowd gs W sl) (i + 1) = (.next (crowd gs' W' sl), u) ∧ MainTo tag m0 tag' m0' ∧ Inv P W0 lo Wg B d tag' Gp Own Sh jobs (st.set i x') m0' gs' W' (t ++ u) ∧ Rely Own Sh W W' := by
  have hlt := (List.getElem?_eq_some_iff.1 hi).1
  obtain ⟨tag', hto, hwk⟩ := hm.woken (P := P) g g' W'
  refine ⟨_, _, _, tag', runT_crowd_go (i := i + 1) hgi (by rw [show (i + 1 == 0) = false from rfl]; exact hg), hto, ?_, hrel 0 (by omega)⟩
  refine ⟨by simp [h.size], ?_, fun j y hy => ?_, by rw [Deaf_other t (g' := i + 1) (by omega) _ g_of, h.deaf], fun j y hy => ?_, fun j y hy hr => ?_, hsep, by rw [List.length_set, liveOf_set hi hjob]; exact htr, hbs, fun j => ?_, hgrp tag' (hto.imp And.left fun h => ⟨h.1, h.2.1⟩) hwk⟩
  · rw [get_woken _ _ _ _ _ (by omega), h.main, Option.map_some]
  · by_cases hj : j = i
    · subst hj
      rw [List.getElem?_set_self hlt] at hy
      cases hy
      exact ⟨g', by rw [Array.getElem?_setIfInBounds_self_of_lt (by simp [h.size]; omega)], hx'⟩
    · rw [List.getElem?_set_ne (fun e => hj e.symm)] at hy
      obtain ⟨k', h4, h5⟩ := h.wk j y hy
      have h6 := h5.rely (W' := W') (by have := hrel (j + 1) (by omega); rwa [agents_at _ hy] at this)
      exact ⟨k', by rw [get_woken _ _ _ _ _ (by omega), h4, Option.map_some, again_still h6], h6⟩
  · by_cases hj : j = i
    · subst hj
      rw [List.getElem?_set_self hlt] at hy
      cases hy
      rw [Deaf_own, h.deafW j x hi, hdeaf]
    · rw [List.getElem?_set_ne (fun e => hj e.symm)] at hy
      rw [Deaf_other t (g' := i + 1) (by omega) _ g_of, h.deafW j y hy]
  · by_cases hj : j = i
    · subst hj
      rw [List.getElem?_set_self hlt] at hy
      cases hy
      exact hrelx hr
    · rw [List.getElem?_set_ne (fun e => hj e.symm)] at hy
      obtain ⟨r, hr⟩ := h.rel j y hy hr
      exact ⟨r, hr.appOther g_of (by omega) (ConcN.norel_of hnr)⟩
  · rw [h.jobs j]
    by_cases hj : j = i
    · subst hj; rw [List.getElem?_set_self hlt, hi]; exact hjob.symm
    · rw [List.getElem?_set_ne (fun e => hj e.symm)]
end
end Go.Proofs.Ytkodpijedinanaa.Sim

namespace Go.Proofs.Ytkodpijedinanaa.Sim
open Go Go.Conc
set_option linter.unusedVariables false
set_option linter.unusedSimpArgs false

theorem agents_same (h0 : Blk × Shd) {st : List WSt} {i : Nat} {x x' : WSt} (hi : st[i]? = some x) (ho : x'.own = x.own) (hs : x'.sh = x.sh) : agents h0 (st.set i x') = agents h0 st := by
  rw [agents_set _ (List.getElem?_eq_some_iff.1 hi).1, ho, hs]
  funext γ
  by_cases e : γ = i + 1
  · subst e; rw [setA_same, agents_at _ hi]
  · rw [setA_ne _ _ e]
theorem pend_retag {tag tag' : ConcN.CTag} (h : tag' = tag ∨ (tag = .blk ∧ tag' = .w3)) : ConcN.pend tag' = ConcN.pend tag := by
  rcases h with rfl | ⟨rfl, rfl⟩ <;> rfl
theorem ret_retag {tag tag' : ConcN.CTag} (h : tag' = tag ∨ (tag = .blk ∧ tag' = .w3)) (hn : tag ≠ .ret) : tag' ≠ .ret := by
  rcases h with rfl | ⟨rfl, rfl⟩
  · exact hn
  · simp
/-- One of them goes on, counted as it was. -/
theorem GrpOk.same {Wg B : Nat} {tag tag' : ConcN.CTag} {st : List WSt} {Gp : Blk} {W W' : World} (h : GrpOk Wg B tag st Gp W) {i : Nat} {x x' : WSt} (hi : st[i]? = some x) (hs : x'.wd.stage = x.wd.stage) (hj : x'.job = x.job)
    (hw : ∀ s m, Gp Wg → ConcR.WgAt tyWg Wg W s m → ConcR.WgAt tyWg Wg W' s m) (ht : tag' = tag ∨ (tag = .blk ∧ tag' = .w3)) : GrpOk Wg B tag' (st.set i x') Gp W' := by
  have hlt := (List.getElem?_eq_some_iff.1 hi).1
  cases h with
  | idle h1 h2 =>
    subst h1
    refine .idle (by rcases ht with h | ⟨h, _⟩; exact h; cases h) fun j y hy => ?_
    by_cases e : j = i
    · subst e
      rw [List.getElem?_set_self hlt] at hy
      cases hy
      rw [hj]; exact h2 _ _ hi
    · rw [List.getElem?_set_ne (fun e' => e e'.symm)] at hy
      exact h2 _ _ hy
  | live s m h1 h2 h3 h4 h5 =>
    have hD : Df (st.set i x') = ConcN.upd (Df st) i ⟨(Df st i).stage, x'.wd.fuel, x'.wd.deaf⟩ := by rw [Df_set hlt, Df_at hi, ← hs]
    refine .live s m (ret_retag ht h1) h2 (hw _ _ h2 h3) ?_ ?_
    · rw [List.length_set, hD]
      exact (ConcN.Mode.same h4 _ _).retag ht
    · rw [List.length_set, hD, pend_retag ht]
      have e := ConcN.Vc_upd (Df st) (⟨(Df st i).stage, x'.wd.fuel, x'.wd.deaf⟩ : ConcN.WD) hlt
      have : ConcN.cnt (⟨(Df st i).stage, x'.wd.fuel, x'.wd.deaf⟩ : ConcN.WD) = ConcN.cnt (Df st i) := rfl
      omega
section
variable {P : Program} {W0 : World} {lo Wg B d : Nat} {tag : ConcN.CTag} {Gp Own : Blk} {Sh : Shd} {jobs : Nat → Option Job} {st : List WSt} {m0 : Goroutine} {gs : Array Goroutine} {W : World} {t : Trace}
/-- A worker that works goes a step. -/
theorem Inv.work_step (h : Inv P W0 lo Wg B d tag Gp Own Sh jobs st m0 gs W t) (hm : MainAt tag m0) {i : Nat} {jb : Job} {own : Blk} {sh : Shd} {g g' : Goroutine} {w W' : World} {es : Array Event} (hi : st[i]? = some (.work jb own sh g w))
    (hg : stepG P false g W = .go g' W' es) (hd : Did own sh W W' es) (hnext : Goes' P false sh (AtDone P Wg jb sh) (Grow own W W') g' W') (sl : Option (Nat × Nat)) :
    ∃ gs' u m0' tag', runT P (crowd gs W sl) (i + 1) = (.next (crowd gs' W' sl), u) ∧ MainTo tag m0 tag' m0' ∧ Inv P W0 lo Wg B d tag' Gp Own Sh jobs (st.set i (.work jb (Grow own W W') sh g' W')) m0' gs' W' (t ++ u) ∧ Rely Own Sh W W' := by
  obtain ⟨k, hk, rfl, h2, h3⟩ := h.wk i _ hi
  have hlt := (List.getElem?_eq_some_iff.1 hi).1
  have hA := agents_at (Own, Sh) hi
  have hd' : Did (agents (Own, Sh) st (i + 1)).1 (agents (Own, Sh) st (i + 1)).2 W W' es := by rw [hA]; exact hd
  have hA2 : agents (Own, Sh) (st.set i (.work jb (Grow own W W') sh g' W')) = setA (agents (Own, Sh) st) (i + 1) (Grow (agents (Own, Sh) st (i + 1)).1 W W', (agents (Own, Sh) st (i + 1)).2) := by
    rw [agents_set _ hlt, hA]; rfl
  refine h.wstep hm (x' := .work jb (Grow own W W') sh g' W') hi hk hg (rely_of_did h.sep hd') ⟨rfl, hnext, .refl _ _ _⟩ rfl ?_ ?_ (fun e he hl => ?_) ?_ (fun hr => hr.elim) (h.bs.did hd' (fun b hb => h.sep.los _ b hb) fun b o hb => h.sep.loc _ b o hb) (fun tag' ht _ => h.grp.same hi rfl rfl (fun s m hG hw => ?_) ht) sl
  · rw [hA2]; exact h.sep.grow (i + 1) hd.size h.bs.le
  · rw [hA2]
    exact h.tr.own h.sep (.inr ⟨i, _, rfl, hi, by simp [WSt.job]⟩) (by omega) rfl hd.size hd'.evs
  · have := (hd.evs e he).norel.2.2 (ConcR.stA Wg)
    exact this (ConcR.ofEvent_loc_mark hl)
  · exact ConcN.deafBehind_idle (fun e he => ⟨fun hl => (hd.evs e he).norel.1 (ConcR.ofEvent_loc_mark hl), fun hl => (hd.evs e he).norel.2.1 (ConcR.ofEvent_loc_mark hl)⟩) _
  · show W'.heap[Wg]? = _
    rw [hd'.kept Wg (h.sep.ltg _ hG) (h.sep.gown _ _ hG) fun o => h.sep.gcel _ _ _ hG]
    exact hw
/-- A worker at its deferred call. -/
theorem Inv.to_done (h : Inv P W0 lo Wg B d tag Gp Own Sh jobs st m0 gs W t) {i : Nat} {jb : Job} {own : Blk} {sh : Shd} {g : Goroutine} {w : World} (hi : st[i]? = some (.work jb own sh g w)) (hd : AtDone P Wg jb sh own g W) :
    ∃ v m, Inv P W0 lo Wg B d tag Gp Own Sh jobs (st.set i (.done jb own sh v 7 m 0)) m0 gs W t := by
  obtain ⟨k, hk, rfl, h2, h3⟩ := h.wk i _ hi
  have hlt := (List.getElem?_eq_some_iff.1 hi).1
  obtain ⟨hrun, hj, v, m, hW, hpr⟩ := hd
  have hA : agents (Own, Sh) (st.set i (.done jb own sh v 7 m 0)) = agents (Own, Sh) st := agents_same _ hi rfl rfl
  refine ⟨v, m, by rw [List.length_set]; exact h.size, h.main, fun j y hy => ?_, h.deaf, fun j y hy => ?_, fun j y hy hr => ?_, by rw [hA]; exact h.sep, by rw [hA, List.length_set, liveOf_set hi (by rfl)]; exact h.tr, h.bs, fun j => ?_, h.grp.same hi rfl rfl (fun s m _ hw => hw) (.inl rfl)⟩
  · by_cases hj' : j = i
    · subst hj'
      rw [List.getElem?_set_self hlt] at hy
      cases hy
      exact ⟨k, hk, hW, hj, hpr, fun h => by omega⟩
    · rw [List.getElem?_set_ne (fun e => hj' e.symm)] at hy
      exact h.wk j y hy
  · by_cases hj' : j = i
    · subst hj'
      rw [List.getElem?_set_self hlt] at hy
      cases hy
      exact (h.deafW j _ hi).trans rfl
    · rw [List.getElem?_set_ne (fun e => hj' e.symm)] at hy
      exact h.deafW j y hy
  · by_cases hj' : j = i
    · subst hj'
      rw [List.getElem?_set_self hlt] at hy
      cases hy
      exact absurd (show 7 ≤ 6 from hr) (by omega)
    · rw [List.getElem?_set_ne (fun e => hj' e.symm)] at hy
      exact h.rel j y hy hr
  · rw [h.jobs j]
    by_cases hj' : j = i
    · subst hj'; rw [List.getElem?_set_self hlt, hi]; rfl
    · rw [List.getElem?_set_ne (fun e => hj' e.symm)]
theorem bok_of_Bk {γ : Nat} {fn : FuncId} {pos : String} {es : Array Event} (hG : Gp Wg) (h : ∀ e ∈ es, ConcR.Bk Wg e) : ∀ op ∈ MemOp.ofEvents γ fn pos es, Bok Gp γ op := by
  intro op hop
  obtain ⟨e, he, rfl⟩ := ofEvents_mem hop
  refine ⟨rfl, fun x hx => ?_⟩
  rcases h e he with h1 | h1 | ⟨a, wr, rfl, ha⟩
  · simp only [ConcR.ofEvent_loc_mark h1] at hx; cases hx
  · simp only [ConcR.ofEvent_loc_mark h1] at hx; cases hx
  · simp only [ConcR.ofEvent_cell, MemAct.touch?, Option.some.injEq] at hx
    subst hx
    exact ⟨⟨a, rfl, ha ▸ hG⟩, by simp, by simp⟩
/-- A worker that has left goes a step. -/
theorem Inv.quit_step (h : Inv P W0 lo Wg B d tag Gp Own Sh jobs st m0 gs W t) (hm : MainAt tag m0) {i m e : Nat} (hi : st[i]? = some (.quit m e)) {g : Goroutine} (hgi : gs[i + 1]? = some g) (hr : g.status = .running) (sl : Option (Nat × Nat)) :
    ∃ gs' u m0' tag' m' e', m' < m ∧ runT P (crowd gs W sl) (i + 1) = (.next (crowd gs' W sl), u) ∧ MainTo tag m0 tag' m0' ∧ Inv P W0 lo Wg B d tag' Gp Own Sh jobs (st.set i (.quit m' e')) m0' gs' W (t ++ u) ∧ Rely Own Sh W W := by
  obtain ⟨k, hk, hq⟩ := h.wk i _ hi
  rw [hgi] at hk
  cases hk
  cases m with
  | zero => rw [(show QuitsD P 0 e g from hq).1] at hr; cases hr
  | succ m =>
    rcases (show QuitsD P (m + 1) e g from hq) with ⟨hf, _⟩ | ⟨_, g', es, hmute, hstep, hq'⟩
    · rw [hf] at hr; cases hr
    · have hno : ∀ op ∈ MemOp.ofEvents (i + 1) g.frame.fn g.frame.place es, op.g = i + 1 ∧ op.act.touch? = none := fun op hop => by
        obtain ⟨ev, he, rfl⟩ := ofEvents_mem hop
        refine ⟨rfl, ?_⟩
        rcases ConcR.bk_of_mute (Wg := 0) (hmute ev he) with h1 | h1 | ⟨a, wr, rfl, _⟩
        · rw [ConcR.ofEvent_loc_mark h1]; rfl
        · rw [ConcR.ofEvent_loc_mark h1]; rfl
        · have := hmute _ he; simp [Event.mute] at this
      have hA : agents (Own, Sh) (st.set i (.quit m (deafBehind e es))) = agents (Own, Sh) st := agents_same _ hi rfl rfl
      have hlt := (List.getElem?_eq_some_iff.1 hi).1
      obtain ⟨gs', u, m0', tag', h1, h2, h3, h4⟩ := h.wstep hm (x' := .quit m (deafBehind e es)) hi hgi (hstep W) (fun γ _ => .refl _ _ _) hq' rfl (by rw [hA]; exact h.sep)
        (by rw [hA]; exact h.tr.book h.sep (.inr (.inr fun op hop => (hno op hop).2)) (γ := i + 1) (by omega) fun op hop => ⟨(hno op hop).1, fun x hx => by rw [(hno op hop).2] at hx; cases hx⟩)
        (fun ev he hl => by have := hmute ev he; obtain ⟨l, a, b⟩ := ev; simp only at hl; subst hl; simp [Event.mute] at this) rfl (fun hr => hr.elim) h.bs (fun tag' ht _ => h.grp.same hi rfl rfl (fun s m _ hw => hw) ht) sl
      exact ⟨gs', u, m0', tag', m, _, Nat.lt_succ_self _, h1, h2, h3, h4⟩
end
end Go.Proofs.Ytkodpijedinanaa.Sim

namespace Go.Proofs.Ytkodpijedinanaa.Sim
open Go Go.Conc
set_option linter.unusedVariables false
set_option linter.unusedSimpArgs false

section
variable {P : Program} {W0 : World} {lo Wg B d : Nat} {tag : ConcN.CTag} {Gp Own : Blk} {Sh : Shd} {jobs : Nat → Option Job} {st : List WSt} {m0 : Goroutine} {gs : Array Goroutine} {W : World} {t : Trace}
set_option maxHeartbeats 1600000 in
theorem Inv.done_step (h : Inv P W0 lo Wg B d tag Gp Own Sh jobs st m0 gs W t) (hB : B < 2147483648) (hm : MainAt tag m0) {i : Nat} {jb : Job} {own : Blk} {sh : Shd} {v : Value} {s m e : Nat} (hi : st[i]? = some (.done jb own sh v s m e)) {g : Goroutine} (hgi : gs[i + 1]? = some g) (hr : g.status = .running) (sl : Option (Nat × Nat)) :
    ∃ gs' u m0' tag' W' s' m' e', (s' < s ∨ (s' = s ∧ m' < m)) ∧ runT P (crowd gs W sl) (i + 1) = (.next (crowd gs' W' sl), u) ∧ MainTo tag m0 tag' m0' ∧ Inv P W0 lo Wg B d tag' Gp Own Sh jobs (st.set i (.done jb own sh v s' m' e')) m0' gs' W' (t ++ u) ∧ Rely Own Sh W W' := by
  obtain ⟨k, hk, hs, hj, hpr, hhas⟩ := h.wk i _ hi
  rw [hgi] at hk
  cases hk
  have hlt := (List.getElem?_eq_some_iff.1 hi).1
  have hA := agents_at (Own, Sh) hi
  have hD : Df st i = ⟨s, m, e⟩ := Df_at hi
  have hdk : Deaf t (i + 1) = e := h.deafW i _ hi
  have hlive : liveOf st (i + 1) := ⟨i, _, rfl, hi, by simp [WSt.job]⟩
  obtain ⟨sv, mv, hnr, hG, hwg, hmode, hVB⟩ : ∃ sv mv, tag ≠ .ret ∧ Gp Wg ∧ ConcR.WgAt tyWg Wg W sv mv ∧ ConcN.Mode st.length (Df st) tag sv mv ∧ ConcN.Vc st.length (Df st) + ConcN.pend tag ≤ B := by
    cases h.grp with
    | idle h1 h2 => exact absurd (h2 i _ hi) (by simp [WSt.job])
    | live sv mv h1 h2 h3 h4 h5 => exact ⟨sv, mv, h1, h2, h3, h4, h5⟩
  have hcC : (agents (Own, Sh) st (i + 1)).2.cel jb.C jb.i := by rw [hA]; exact (hj.cel _ _).2 hj.mine
  have hCW : jb.C ≠ Wg := fun e => h.sep.gcel (i + 1) jb.C jb.i (e ▸ hG) hcC
  have hsame : ∀ s' m' e', agents (Own, Sh) (st.set i (.done jb own sh v s' m' e')) = agents (Own, Sh) st := fun s' m' e' => agents_same _ hi rfl rfl
  -- A STEP OF THE LIBRARY's BOOKKEEPING
  have bookG : ∀ {g' : Goroutine} {W' : World} {es : Array Event} {s' m' e' : Nat} {sv' mv' : Int}, stepG P false g W = .go g' W' es → Conc.Aside Wg W W' → ConcR.WgAt tyWg Wg W' sv' mv' → (∀ ev ∈ es, ConcR.Bk Wg ev) →
      (∀ jx ev, es[jx]? = some ev → (MemAct.ofEvent ev).touch? = none ∨ 0 < deafBehind e (es.extract 0 jx)) → WS P Wg jb v s' m' e' g' W' → deafBehind e es = e' → s ≤ 6 →
      (∀ tag', (tag' = tag ∨ (tag = .blk ∧ tag' = .w3)) → (mayWake P g = true → g'.status = .running → tag' ≠ .blk) → ConcN.Mode st.length (ConcN.upd (Df st) i ⟨s', m', e'⟩) tag' sv' mv') → ConcN.cnt ⟨s', m', e'⟩ ≤ ConcN.cnt (Df st i) → (s' < s ∨ (s' = s ∧ m' < m)) →
      ∃ gs' u m0' tag' W' s' m' e', (s' < s ∨ (s' = s ∧ m' < m)) ∧ runT P (crowd gs W sl) (i + 1) = (.next (crowd gs' W' sl), u) ∧ MainTo tag m0 tag' m0' ∧ Inv P W0 lo Wg B d tag' Gp Own Sh jobs (st.set i (.done jb own sh v s' m' e')) m0' gs' W' (t ++ u) ∧ Rely Own Sh W W' := by
    intro g' W' es s' m' e' sv' mv' hgo hAs hwg' hbk hdf hWS hdd h6 hmode' hcnt hless
    have hre : ∀ γ, Rely (agents (Own, Sh) st γ).1 (agents (Own, Sh) st γ).2 W W' := rely_aside h.sep hG hAs hwg hwg'
    have hri : Rely own sh W W' := by have := hre (i + 1); rwa [hA] at this
    have hVu := ConcN.Vc_upd (Df st) (⟨s', m', e'⟩ : ConcN.WD) hlt
    obtain ⟨gs', u, m0', tag', h1, h2, h3, h4⟩ := h.wstep hm (x' := .done jb own sh v s' m' e') hi hgi hgo (fun γ _ => hre γ)
      ⟨hWS, hj.rely (own := own) hri.shp, fun W2 hr2 => hpr W2 ((hri.but _ _).trans hr2), fun hs => Has.rely (hhas h6) hj hri⟩ rfl (by rw [hsame, hAs.size]; exact h.sep)
      (by rw [hsame, hAs.size]; exact h.tr.book h.sep (.inr (.inl hlive)) (γ := i + 1) (by omega) (bok_of_Bk hG hbk)) (ConcN.norel_of_Bk hbk) hdd
      (fun _ => let ⟨r, hr⟩ := h.rel i _ hi h6; ⟨r, hr.own hdk _ _ hG rfl hbk hdf⟩) (h.bs.aside hAs (h.sep.log _ hG))
      (fun tag' ht hw => .live sv' mv' (ret_retag ht hnr) hG hwg' (by rw [List.length_set, Df_set hlt]; exact hmode' tag' ht hw)
        (by rw [List.length_set, Df_set hlt, pend_retag ht]; show ConcN.Vc st.length (ConcN.upd (Df st) i ⟨s', m', e'⟩) + _ ≤ B; omega)) sl
    exact ⟨gs', u, m0', tag', W', s', m', e', hless, h1, h2, h3, h4⟩
  have book : ∀ {g' : Goroutine} {W' : World} {es : Array Event} {s' m' e' : Nat} {sv' mv' : Int}, stepG P false g W = .go g' W' es → Conc.Aside Wg W W' → ConcR.WgAt tyWg Wg W' sv' mv' → (∀ ev ∈ es, ConcR.Bk Wg ev) →
      (∀ jx ev, es[jx]? = some ev → (MemAct.ofEvent ev).touch? = none ∨ 0 < deafBehind e (es.extract 0 jx)) → WS P Wg jb v s' m' e' g' W' → deafBehind e es = e' → s ≤ 6 →
      ConcN.Mode st.length (ConcN.upd (Df st) i ⟨s', m', e'⟩) tag sv' mv' → ConcN.cnt ⟨s', m', e'⟩ ≤ ConcN.cnt (Df st i) → (s' < s ∨ (s' = s ∧ m' < m)) →
      ∃ gs' u m0' tag' W' s' m' e', (s' < s ∨ (s' = s ∧ m' < m)) ∧ runT P (crowd gs W sl) (i + 1) = (.next (crowd gs' W' sl), u) ∧ MainTo tag m0 tag' m0' ∧ Inv P W0 lo Wg B d tag' Gp Own Sh jobs (st.set i (.done jb own sh v s' m' e')) m0' gs' W' (t ++ u) ∧ Rely Own Sh W W' :=
    fun hgo hAs hwg' hbk hdf hWS hdd h6 hmode' hcnt hless => bookG hgo hAs hwg' hbk hdf hWS hdd h6 (fun _ ht _ => hmode'.retag ht) hcnt hless
  have hstD : (Df st i).stage = s := by rw [hD]
  -- AN IDLE STEP BEHIND THE RELEASE
  have idle : ∀ {g' : Goroutine} {m' : Nat}, stepG P false g W = .go g' W #[] → WS P Wg jb v s m' e g' W → m' < m → s ≤ 6 → 
      ∃ gs' u m0' tag' W' s' m' e', (s' < s ∨ (s' = s ∧ m' < m)) ∧ runT P (crowd gs W sl) (i + 1) = (.next (crowd gs' W' sl), u) ∧ MainTo tag m0 tag' m0' ∧ Inv P W0 lo Wg B d tag' Gp Own Sh jobs (st.set i (.done jb own sh v s' m' e')) m0' gs' W' (t ++ u) ∧ Rely Own Sh W W' := by
    intro g' m' hgo hWS hml h6
    refine book hgo (.refl Wg W) hwg (by simp) (by simp) hWS rfl h6 ?_ (by rw [hD]; exact Nat.le_refl _) (.inr ⟨rfl, hml⟩)
    have := hmode.same (i := i) m' e
    rwa [hstD] at this
  have hVj := ConcN.Vc_le st.length (Df st)
  cases hs with
  | r0 hs =>
    rcases Goes.cases hs with hstop | ⟨m', rfl, hstep⟩
    · obtain ⟨_, hhas', g', hgo, m₂, hk⟩ := hstop W (ConcN.RW.refl W)
      simp only [Nat.add_sub_cancel] at hhas'
      have hbo : ∀ op ∈ MemOp.ofEvents (i + 1) g.frame.fn g.frame.place #[ConcR.mk (.releaseMerge (ConcR.stA Wg))], Bok Gp (i + 1) op := fun op hop => by
        obtain ⟨ev, he, rfl⟩ := ofEvents_mem hop
        simp at he
        subst he
        exact ⟨rfl, fun x hx => by cases hx⟩
      have hVu : ConcN.Vc st.length (ConcN.upd (Df st) i ⟨6, m₂, 0⟩) = ConcN.Vc st.length (Df st) := by
        have := ConcN.Vc_upd (Df st) (⟨6, m₂, 0⟩ : ConcN.WD) hlt
        have c1 : ConcN.cnt (⟨6, m₂, 0⟩ : ConcN.WD) = 1 := rfl
        have c2 : ConcN.cnt (Df st i) = 1 := by rw [hD]; rfl
        omega
      obtain ⟨gs', u, m0', tag', h1, h2, h3, h4⟩ := h.wstep hm (x' := .done jb own sh v 6 m₂ 0) hi hgi hgo (fun γ _ => .refl _ _ _)
        ⟨.k1 hk, hj, hpr, fun _ => hhas'⟩ rfl (by rw [hsame]; exact h.sep)
        (by rw [hsame]; exact h.tr.book h.sep (.inr (.inl hlive)) (γ := i + 1) (by omega) hbo) (by intro ev he; simp at he; subst he; simp [ConcR.mk]) rfl
        (fun _ => ⟨t.size, RelX.new hdk _ _⟩) h.bs
        (fun tag' ht hw => .live sv mv (ret_retag ht hnr) hG hwg (by rw [List.length_set, Df_set hlt]; exact (hmode.counted hlt (by rw [hstD]; omega) (.inl rfl) _ _).retag ht)
          (by rw [List.length_set, Df_set hlt, pend_retag ht]; show ConcN.Vc st.length (ConcN.upd (Df st) i ⟨6, m₂, 0⟩) + _ ≤ B; omega)) sl
      exact ⟨gs', u, m0', tag', W, 6, m₂, 0, .inl (by omega), h1, h2, h3, h4⟩
    · obtain ⟨g', W', es, hgo, ⟨hac, hev⟩, hg'⟩ := hstep W (ConcN.RW.refl W)
      simp only [Nat.add_sub_cancel] at hac
      have hre : ∀ γ, γ ≠ i + 1 → Rely (agents (Own, Sh) st γ).1 (agents (Own, Sh) st γ).2 W W' := fun γ hγ =>
        rely_cell hac hj.pay (h.sep.cel _ _ _ _ hcC).1 (h.sep.cel _ _ _ _ hcC).2 (fun hc => h.sep.cels _ _ _ _ hc hγ hcC) (fun hg => h.sep.gcel _ _ _ (h.sep.grp _ _ hg) hcC)
      have hri : Rely own (sh.but jb.C jb.i) W W' := rely_cell hac hj.pay (fun ho => (h.sep.cel (i + 1) (i + 1) _ _ hcC).1 (by rw [hA]; exact ho)) (fun ho => (h.sep.cel (i + 1) (i + 1) _ _ hcC).2 (by rw [hA]; exact ho)) (fun hc => hc.2 ⟨rfl, rfl⟩) (fun hg => h.sep.gcel _ _ _ (h.sep.grp (i + 1) _ (by rw [hA]; exact hg)) hcC)
      have htou : ∀ ev ∈ es, ∀ x, (MemAct.ofEvent ev).touch? = some x → (∃ a : Addr, x.loc = .cell a ∧ a.block = Wg) ∧ x.kind ≠ .plain ∧ x.kind ≠ .said := fun ev he x hx => by
        rcases ((hev ev he).1 0 "").2 x hx with ⟨⟨a, ha, hab⟩, hk⟩ | hh | ⟨hh, _⟩
        · exact ⟨⟨a, ha, hab⟩, hk⟩
        · exact hh.elim
        · exact hh.elim
      have hbo : ∀ op ∈ MemOp.ofEvents (i + 1) g.frame.fn g.frame.place es, Bok Gp (i + 1) op := fun op hop => by
        obtain ⟨ev, he, rfl⟩ := ofEvents_mem hop
        refine ⟨rfl, fun x hx => ?_⟩
        obtain ⟨⟨a, ha, hab⟩, hk1, hk2⟩ := htou ev he x hx
        exact ⟨⟨a, ha, hab ▸ hG⟩, hk1, fun e => absurd e hk2⟩
      obtain ⟨gs', u, m0', tag', h1, h2, h3, h4⟩ := h.wstep hm (x' := .done jb own sh v 7 m' 0) hi hgi hgo hre
        ⟨.r0 hg', hj.rely (own := own) hri.shp, fun W2 hr2 => hpr W2 (hri.trans hr2), fun hs => by omega⟩ rfl (by rw [hsame, hac.size]; exact h.sep)
        (by rw [hsame, hac.size]; exact h.tr.book h.sep (.inr (.inl hlive)) (γ := i + 1) (by omega) hbo) (fun ev he => (hev ev he).2.2.2) (ConcN.deafBehind_idle (fun ev he => ⟨(hev ev he).2.1, (hev ev he).2.2.1⟩) 0)
        (fun hr => absurd (show 7 ≤ 6 from hr) (by omega))
        ⟨hac.tape.trans h.bs.tape, hac.os.trans h.bs.os, hac.output.trans h.bs.out, fun b hb => by rw [hac.block b (fun e => by have := h.sep.loc _ _ _ hcC; omega)]; exact h.bs.heap b hb, by rw [hac.size]; exact h.bs.le⟩
        (fun tag' ht hw => h.grp.same hi rfl rfl (fun a b _ hab => by show W'.heap[Wg]? = _; rw [hac.block Wg (Ne.symm hCW)]; exact hab) ht) sl
      exact ⟨gs', u, m0', tag', W', 7, m', 0, .inr ⟨rfl, by omega⟩, h1, h2, h3, h4⟩
  | k1 hs =>
    rcases Goes.cases hs with hstop | ⟨m', rfl, hstep⟩
    · obtain ⟨_, g', hgo, m₂, hk⟩ := hstop W (ConcN.RW.refl W)
      exact book hgo (.refl Wg W) hwg (by intro ev he; simp at he; subst he; exact .inl rfl) (by intro jx ev he; exact .inl (by have := Array.mem_of_getElem? he; simp at this; subst this; rfl)) (.d1 hk) rfl (by omega)
        (hmode.counted hlt (by rw [hstD]; omega) (.inr rfl) _ _) (by rw [hD]; simp [ConcN.cnt]) (.inl (by omega))
    · obtain ⟨g', W', es, hgo, ⟨rfl, rfl⟩, hg'⟩ := hstep W (ConcN.RW.refl W)
      exact idle hgo (.k1 hg') (by omega) (by omega)
  | d1 hs =>
    rcases Goes.cases hs with hstop | ⟨m', rfl, hstep⟩
    · obtain ⟨_, hall⟩ := hstop W (ConcN.RW.refl W)
      have hc1 : ConcN.cnt (Df st i) = 1 := by rw [hD]; rfl
      have hV1 : 1 ≤ ConcN.Vc st.length (Df st) := by have := ConcN.le_sumTo (f := fun x => ConcN.cnt (Df st x)) hlt; simp only [ConcN.Vc]; omega
      have bk2 : ∀ ev ∈ #[ConcR.rd (ConcR.stA Wg), ConcR.wr (ConcR.stA Wg)], ConcR.Bk Wg ev := by intro ev he; simp at he; rcases he with rfl | rfl <;> exact ConcN.bk_cell _ _ rfl
      have df2 : ∀ jx ev, (#[ConcR.rd (ConcR.stA Wg), ConcR.wr (ConcR.stA Wg)] : Array Event)[jx]? = some ev → (MemAct.ofEvent ev).touch? = none ∨ 0 < deafBehind 1 ((#[ConcR.rd (ConcR.stA Wg), ConcR.wr (ConcR.stA Wg)] : Array Event).extract 0 jx) := by
        intro jx ev he
        match jx, he with
        | 0, _ => exact .inr (by simp [deafBehind])
        | 1, _ => exact .inr (by simp [deafBehind, ConcR.rd])
        | jx + 2, he => simp at he
      have hq0 : ∀ q, ConcN.cnt (⟨1, q, 1⟩ : ConcN.WD) = 0 := fun _ => rfl
      have opq : ∀ q, ConcN.OpenSt st.length (Df st) → ConcN.OpenSt st.length (ConcN.upd (Df st) i ⟨1, q, 1⟩) := fun q h a ha => by
        by_cases e : a = i
        · subst e; rw [ConcN.upd_same]; simp
        · rw [ConcN.upd_ne _ _ e]; exact h a ha
      cases hmode with
      | opn h1 h2 h3 =>
        obtain ⟨v0, hv⟩ : ∃ v0, ConcN.Vc st.length (Df st) + ConcN.pend tag = v0 + 1 := ⟨ConcN.Vc st.length (Df st) + ConcN.pend tag - 1, by omega⟩
        rw [hv] at hwg
        have hw1 : ConcR.WgAt tyWg Wg W (((v0 : Nat) + 1) * ConcR.KK + ((0 : Nat) : Int)) 0 := by simpa using hwg
        obtain ⟨g', hgo, _, hq⟩ := hall v0 0 (by omega) (by omega) hw1
        obtain ⟨q, hq⟩ := hq (by omega)
        have hv' : ConcN.Vc st.length (ConcN.upd (Df st) i ⟨1, q, 1⟩) + ConcN.pend tag = v0 := by have := ConcN.Vc_upd (Df st) (⟨1, q, 1⟩ : ConcN.WD) hlt; have := hq0 q; omega
        refine book hgo (aside_setCell W (ConcR.stA Wg) _) (hwg.setSt _) bk2 df2 (.quit hq) rfl (by omega) ?_ (by rw [hq0]; omega) (.inl (by omega))
        have e : ((v0 : Nat) : Int) * ConcR.KK + ((0 : Nat) : Int) = ((ConcN.Vc st.length (ConcN.upd (Df st) i ⟨1, q, 1⟩) + ConcN.pend tag : Nat) : Int) * ConcR.KK := by rw [hv']; simp
        rw [e]
        exact .opn h1 (opq q h2) (fun vs ev => by have := h3 vs ev; omega)
      | reg h1 h2 h3 =>
        obtain ⟨v0, hv⟩ : ∃ v0, ConcN.Vc st.length (Df st) = v0 + 1 := ⟨ConcN.Vc st.length (Df st) - 1, by omega⟩
        rw [hv] at hwg
        have hp : ConcN.pend tag = 0 := by cases tag <;> first | rfl | exact h1.elim
        have hw1 : ConcR.WgAt tyWg Wg W (((v0 : Nat) + 1) * ConcR.KK + ((1 : Nat) : Int)) 0 := by simpa using hwg
        obtain ⟨g', hgo, hl, hq⟩ := hall v0 1 (by omega) (by omega) hw1
        by_cases hv0 : v0 = 0
        · subst hv0
          obtain ⟨m₂, hk⟩ := hl ⟨rfl, rfl⟩
          refine book hgo (aside_setCell W (ConcR.stA Wg) _) (hwg.setSt _) bk2 df2 (.d2 hk) rfl (by omega) ?_ (by rw [hc1]; simp [ConcN.cnt]) (.inl (by omega))
          have hoth : ∀ a, a < st.length → a ≠ i → (Df st a).stage = 1 := fun a ha e => by
            have c0 := ConcN.others_uncounted hlt hv hc1 a ha e
            have := h2 a ha
            simp only [ConcN.cnt] at c0
            split at c0 <;> omega
          have := ConcN.Mode.last (j := st.length) (D := ConcN.upd (Df st) i ⟨4, m₂, 1⟩) (tag := tag) i h1 hlt (by rw [ConcN.upd_same]; simp) (fun a ha e => by rw [ConcN.upd_ne _ _ e]; exact hoth a ha e)
          rw [ConcN.upd_same] at this
          simpa using this
        · obtain ⟨q, hq⟩ := hq (by omega)
          have hv' : ConcN.Vc st.length (ConcN.upd (Df st) i ⟨1, q, 1⟩) = v0 := by have := ConcN.Vc_upd (Df st) (⟨1, q, 1⟩ : ConcN.WD) hlt; have := hq0 q; omega
          refine book hgo (aside_setCell W (ConcR.stA Wg) _) (hwg.setSt _) bk2 df2 (.quit hq) rfl (by omega) ?_ (by rw [hq0]; omega) (.inl (by omega))
          have e : ((v0 : Nat) : Int) * ConcR.KK + ((1 : Nat) : Int) = ((ConcN.Vc st.length (ConcN.upd (Df st) i ⟨1, q, 1⟩) : Nat) : Int) * ConcR.KK + 1 := by rw [hv']; simp
          rw [e]
          exact .reg h1 (opq q h2) (by omega)
      | last L _ h2 h3 h4 =>
        by_cases e : i = L
        · subst e; omega
        · have := h4 i hlt e; omega
      | sema h2 => have := h2 i hlt; omega
      | fin _ h2 => have := h2 i hlt; omega
    · obtain ⟨g', W', es, hgo, ⟨rfl, rfl⟩, hg'⟩ := hstep W (ConcN.RW.refl W)
      exact idle hgo (.d1 hg') (by omega) (by omega)
  | d2 hs =>
    rcases Goes.cases hs with hstop | ⟨m', rfl, hstep⟩
    · obtain ⟨_, hx⟩ := hstop W (ConcN.RW.refl W)
      obtain ⟨hW3, hoth, rfl, rfl⟩ := hmode.isLast hlt (by omega)
      simp only [hstD] at hwg
      obtain ⟨g', hgo, m₂, hk⟩ := hx (by simpa using hwg)
      refine book hgo (.refl Wg W) hwg (by intro ev he; simp at he; subst he; exact ConcN.bk_cell _ _ rfl) (by intro jx ev he; match jx, he with | 0, _ => exact .inr (by simp [deafBehind]) | jx + 1, he => simp at he) (.d3 hk) rfl (by omega) ?_ (by rw [hD]; simp [ConcN.cnt]) (.inl (by omega))
      have := ConcN.Mode.last (j := st.length) (D := ConcN.upd (Df st) i ⟨3, m₂, 1⟩) (tag := tag) i hW3 hlt (by rw [ConcN.upd_same]; simp) (fun a ha e => by rw [ConcN.upd_ne _ _ e]; exact hoth a ha e)
      rw [ConcN.upd_same] at this
      simpa using this
    · obtain ⟨g', W', es, hgo, ⟨rfl, rfl⟩, hg'⟩ := hstep W (ConcN.RW.refl W)
      exact idle hgo (.d2 hg') (by omega) (by omega)
  | d3 hs =>
    rcases Goes.cases hs with hstop | ⟨m', rfl, hstep⟩
    · obtain ⟨_, hx⟩ := hstop W (ConcN.RW.refl W)
      obtain ⟨hW3, hoth, rfl, rfl⟩ := hmode.isLast hlt (by omega)
      simp only [hstD] at hwg
      obtain ⟨g', hgo, m₂, hk⟩ := hx (by simpa using hwg)
      refine book hgo (aside_setCell W (ConcR.stA Wg) _) (hwg.setSt 0) (by intro ev he; simp at he; subst he; exact ConcN.bk_cell _ _ rfl) (by intro jx ev he; match jx, he with | 0, _ => exact .inr (by simp [deafBehind]) | jx + 1, he => simp at he) (.d4 hk) rfl (by omega) ?_ (by rw [hD]; simp [ConcN.cnt]) (.inl (by omega))
      have := ConcN.Mode.last (j := st.length) (D := ConcN.upd (Df st) i ⟨2, m₂, 1⟩) (tag := tag) i hW3 hlt (by rw [ConcN.upd_same]; simp) (fun a ha e => by rw [ConcN.upd_ne _ _ e]; exact hoth a ha e)
      rw [ConcN.upd_same] at this
      simpa using this
    · obtain ⟨g', W', es, hgo, ⟨rfl, rfl⟩, hg'⟩ := hstep W (ConcN.RW.refl W)
      exact idle hgo (.d3 hg') (by omega) (by omega)
  | d4 hs =>
    rcases Goes.cases hs with hstop | ⟨m', rfl, hstep⟩
    · obtain ⟨_, hmw, hx⟩ := hstop W (ConcN.RW.refl W)
      obtain ⟨hW3, hoth, rfl, rfl⟩ := hmode.isLast hlt (by omega)
      simp only [hstD] at hwg
      obtain ⟨g', hgo, q, hq⟩ := hx (by simpa using hwg)
      have hrun' : g'.status = .running := by
        cases q with
        | zero => exact absurd hq.2 (by decide)
        | succ q => exact hq.elim (fun x => absurd x.2 (by decide)) (fun x => x.1)
      refine bookG hgo (aside_setCell W (ConcR.smA Wg) _) (hwg.setSm 1) (es := semEvents (ConcR.smA Wg)) ?_ ?_ (.quit hq) (by simp [deafBehind, semEvents]) (by omega) ?_ (by rw [hD]; simp [ConcN.cnt]) (.inl (by omega))
      · intro ev he
        simp [semEvents] at he
        rcases he with rfl | rfl | rfl | rfl
        · exact .inl rfl
        · exact ConcN.bk_cell _ _ rfl
        · exact ConcN.bk_cell _ _ rfl
        · exact .inr (.inl rfl)
      · intro jx ev he
        match jx, he with
        | 0, he => simp [semEvents] at he; subst he; exact .inl rfl
        | 1, _ => exact .inr (by simp [deafBehind, semEvents])
        | 2, _ => exact .inr (by simp [deafBehind, semEvents])
        | 3, he => simp [semEvents] at he; subst he; exact .inl rfl
        | jx + 4, he => simp [semEvents] at he
      · intro tag' ht hw
        have hnb := hw hmw hrun'
        have e3 : tag' = .w3 := by
          rcases ht with rfl | ⟨_, rfl⟩
          · cases tag' <;> first | rfl | exact hW3.elim | exact absurd rfl hnb
          · rfl
        subst e3
        simp only [if_true]
        exact .sema fun a ha => by
          by_cases e : a = i
          · subst e; rw [ConcN.upd_same]
          · rw [ConcN.upd_ne _ _ e]; exact hoth a ha e
    · obtain ⟨g', W', es, hgo, ⟨rfl, rfl⟩, hg'⟩ := hstep W (ConcN.RW.refl W)
      exact idle hgo (.d4 hg') (by omega) (by omega)
  | quit hs =>
    cases m with
    | zero => rw [hs.1] at hr; cases hr
    | succ q =>
      rcases hs with ⟨hf, _⟩ | ⟨_, g', es, hmute, hstep, hq⟩
      · rw [hf] at hr; cases hr
      · have hbk : ∀ ev ∈ es, ConcR.Bk Wg ev := fun ev he => ConcR.bk_of_mute (hmute ev he)
        have hno : ∀ jx ev, es[jx]? = some ev → (MemAct.ofEvent ev).touch? = none ∨ 0 < deafBehind e (es.extract 0 jx) := fun jx ev he => .inl (by
          rcases ConcR.bk_of_mute (Wg := Wg) (hmute ev (Array.mem_of_getElem? he)) with h1 | h1 | ⟨a, wr, rfl, _⟩
          · rw [ConcR.ofEvent_loc_mark h1]; rfl
          · rw [ConcR.ofEvent_loc_mark h1]; rfl
          · have := hmute _ (Array.mem_of_getElem? he); simp [Event.mute] at this)
        refine book (hstep W) (.refl Wg W) hwg hbk hno (.quit hq) rfl (by omega) (by have := hmode.same (i := i) q (deafBehind e es); rwa [hstD] at this) (by rw [hD]; simp [ConcN.cnt]) (.inr ⟨rfl, Nat.lt_succ_self q⟩)
end
end Go.Proofs.Ytkodpijedinanaa.Sim

namespace Go.Proofs.Ytkodpijedinanaa.Sim
open Go Go.Conc
set_option linter.unusedVariables false
set_option linter.unusedSimpArgs false

def updJ (p : Nat → Option Job) (i : Nat) (x : Option Job) : Nat → Option Job := fun a => if a = i then x else p a
/-- A mark that main makes within the library. -/
def MarkOk (Wg : Nat) (e : Event) : Prop := e = ConcR.mk .disable ∨ e = ConcR.mk .enable ∨ ∃ a : Addr, a.block = Wg ∧ (e = ConcR.mk (.read a) ∨ e = ConcR.mk (.write a))
/-- What main may take for its own behind the join. -/
def Mine (Own : Blk) (Sh : Shd) (jobs : Nat → Option Job) (owns : Nat → Blk) (b : Nat) : Prop :=
  Own b ∨ (∃ i jb, jobs i = some jb ∧ owns i b) ∨ (∃ o, Sh.cel b o) ∨ (∃ i jb o, jobs i = some jb ∧ jb.cel b o)
/-- Blocks parted anew behind the join. -/
structure Joins (lo : Nat) (Own : Blk) (Sh : Shd) (jobs : Nat → Option Job) (owns : Nat → Blk) (Own' : Blk) (Sh' : Shd) : Prop where
  own : ∀ b, Own' b → Mine Own Sh jobs owns b ∨ (lo ≤ b ∧ Sh b)
  rd : ∀ b, Sh' b → Mine Own Sh jobs owns b ∨ Sh b
  cel : ∀ b i, Sh'.cel b i → Mine Own Sh jobs owns b
  grp : ∀ b, Sh'.grp b → Sh.grp b
  d1 : ∀ b, Own' b → ¬ Sh' b
  d2 : ∀ b i, Sh'.cel b i → ¬ Own' b ∧ ¬ Sh' b
/-- What the workers hand over. -/
structure Handed (jobs : Nat → Option Job) (Own : Blk) (Sh : Shd) (vals : Nat → Value) (owns : Nat → Blk) (W : World) : Prop where
  val : ∀ i jb, jobs i = some jb → W.cell? ⟨jb.C, jb.i, none⟩ = some (vals i) ∧ jb.pr (vals i) W (owns i)
  own : ∀ i jb b, jobs i = some jb → owns i b → b < W.heap.size ∧ ¬ Own b ∧ ¬ Sh b
  two : ∀ i j jb jb' b, jobs i = some jb → jobs j = some jb' → i ≠ j → owns i b → ¬ owns j b
  cel : ∀ i jb b o j jb', jobs i = some jb → jb.cel b o → jobs j = some jb' → ¬ owns j b ∧ ¬ Own b ∧ ¬ Sh b
  ltc : ∀ i jb b o, jobs i = some jb → jb.cel b o → b < W.heap.size
/-- Main's account. -/
inductive MGo (P : Program) (W0 : World) (lo : Nat) (Post : Value → World → Prop) : Nat → (Nat → Option Job) → ConcN.CTag → Nat → Nat → Nat → Shd → Blk → Goroutine → World → Prop
  | step {n : Nat} {jobs : Nat → Option Job} {tag : ConcN.CTag} {Wg B d : Nat} {Sh : Shd} {Own : Blk} {g : Goroutine} {W : World} : g.status = .running → tag ≠ .blk →
      (∀ W1, Rely Own Sh W W1 → BaseOk W0 lo W1 → ∃ g' W' es, stepG P true g W1 = .go g' W' es ∧ Did Own Sh W1 W' es ∧ g'.status = .running) →
      (∀ W1, Rely Own Sh W W1 → BaseOk W0 lo W1 → ∀ g' W' es, stepG P true g W1 = .go g' W' es → MGo P W0 lo Post n jobs tag Wg B d Sh (Grow Own W1 W') g' W') → MGo P W0 lo Post n jobs tag Wg B d Sh Own g W
  | low {n : Nat} {jobs : Nat → Option Job} {tag : ConcN.CTag} {Wg B d : Nat} {Sh : Shd} {Own : Blk} {g : Goroutine} {W : World} : g.status = .running → tag ≠ .blk → ((∀ b, Own b → lo ≤ b) → (∀ b, Own b → ¬ Sh b) → (∀ b i, Sh.cel b i → ¬ Own b ∧ ¬ Sh b) → MGo P W0 lo Post n jobs tag Wg B d Sh Own g W) → MGo P W0 lo Post n jobs tag Wg B d Sh Own g W
  | part {n : Nat} {jobs : Nat → Option Job} {tag : ConcN.CTag} {Wg B d : Nat} {Sh Sh' : Shd} {Own Own' : Blk} {g : Goroutine} {W : World} :
      (∀ b, Own' b → Own b) → (∀ b, Sh' b → Sh b ∨ Own b) → (∀ b i, Sh'.cel b i → Sh.cel b i ∨ Own b) → (∀ b, Sh'.grp b → Sh.grp b) → (∀ b, Own' b → ¬ Sh' b) → (∀ b i, Sh'.cel b i → ¬ Own' b ∧ ¬ Sh' b) →
      MGo P W0 lo Post n jobs tag Wg B d Sh' Own' g W → MGo P W0 lo Post n jobs tag Wg B d Sh Own g W
  | mkgrp {n : Nat} {jobs : Nat → Option Job} {Wg B d : Nat} {Sh : Shd} {Own : Blk} {g : Goroutine} {W : World} : g.status = .running → (∀ i, jobs i = none) →
      (∀ W1, Rely Own Sh W W1 → ∃ g', stepG P true g W1 = .go g' (W1.alloc (ConcR.wgBlock tyWg 0 0)) #[]) →
      (∀ W1 g', Rely Own Sh W W1 → stepG P true g W1 = .go g' (W1.alloc (ConcR.wgBlock tyWg 0 0)) #[] → MGo P W0 lo Post n jobs .kd W1.heap.size 0 d { Sh with grp := fun b => Sh.grp b ∨ b = W1.heap.size } Own g' (W1.alloc (ConcR.wgBlock tyWg 0 0))) →
      MGo P W0 lo Post n jobs .ret Wg B d Sh Own g W
  | book {n : Nat} {jobs : Nat → Option Job} {tag : ConcN.CTag} {Wg B d : Nat} {Sh : Shd} {Own : Blk} {g g' : Goroutine} {W : World} {es : Array Event} : g.status = .running → tag ≠ .ret → tag ≠ .blk → (∀ W1, Rely Own Sh W W1 → stepG P true g W1 = .go g' W1 es) → (∀ e ∈ es, MarkOk Wg e) →
      MGo P W0 lo Post n jobs tag Wg B (deafBehind d es) Sh Own g' W → MGo P W0 lo Post n jobs tag Wg B d Sh Own g W
  | add {n : Nat} {jobs : Nat → Option Job} {Wg B d : Nat} {Sh : Shd} {Own : Blk} {g : Goroutine} {W : World} : g.status = .running → B + 1 < 2147483648 →
      (∀ W1 (v : Nat), Rely Own Sh W W1 → v ≤ B → ConcR.WgAt tyWg Wg W1 (v * ConcR.KK) 0 → ∃ g', stepG P true g W1 = .go g' (W1.setCell (ConcR.stA Wg) (.int .u64 ((v + 1) * ConcR.KK))) #[ConcR.rd (ConcR.stA Wg), ConcR.wr (ConcR.stA Wg)]) →
      (∀ W1 (v : Nat) g', Rely Own Sh W W1 → v ≤ B → ConcR.WgAt tyWg Wg W1 (v * ConcR.KK) 0 → stepG P true g W1 = .go g' (W1.setCell (ConcR.stA Wg) (.int .u64 ((v + 1) * ConcR.KK))) #[ConcR.rd (ConcR.stA Wg), ConcR.wr (ConcR.stA Wg)] →
        MGo P W0 lo Post n jobs (.sp 0 0) Wg (B + 1) d Sh Own g' (W1.setCell (ConcR.stA Wg) (.int .u64 ((v + 1) * ConcR.KK)))) → MGo P W0 lo Post n jobs .kd Wg B d Sh Own g W
  | spawn {n : Nat} {jobs : Nat → Option Job} {Wg B : Nat} {Sh Sc Sh' : Shd} {Own : Blk} {g g' child : Goroutine} {W : World} {jb : Job} : g.status = .running → g'.status = .running →
      (∀ W1, Rely Own Sh W W1 → stepG P true g W1 = .spawn g' child W1 #[]) → Takes Sh Sc Sh' → (∀ b i, Sc.cel b i → Sh.cel b i) → Goes' P false Sc (AtDone P Wg jb Sc) (fun _ => False) child W →
      MGo P W0 lo Post (n + 1) (updJ jobs n (some jb)) .kd Wg B 0 Sh' Own g' W → MGo P W0 lo Post n jobs (.sp 0 0) Wg B 0 Sh Own g W
  | load {n : Nat} {jobs : Nat → Option Job} {Wg B d : Nat} {Sh : Shd} {Own : Blk} {g : Goroutine} {W : World} : g.status = .running →
      (∀ W1 (v : Nat), Rely Own Sh W W1 → v ≤ B → ConcR.WgAt tyWg Wg W1 (v * ConcR.KK) 0 → ∃ g', stepG P true g W1 = .go g' W1 #[ConcR.rd (ConcR.stA Wg)]) →
      (∀ W1 (v : Nat) g', Rely Own Sh W W1 → v ≤ B → ConcR.WgAt tyWg Wg W1 (v * ConcR.KK) 0 → stepG P true g W1 = .go g' W1 #[ConcR.rd (ConcR.stA Wg)] → v = 0 → MGo P W0 lo Post n jobs .ke Wg 0 d Sh Own g' W1) →
      (∀ W1 (v : Nat) g', Rely Own Sh W W1 → v ≤ B → ConcR.WgAt tyWg Wg W1 (v * ConcR.KK) 0 → stepG P true g W1 = .go g' W1 #[ConcR.rd (ConcR.stA Wg)] → 0 < v → MGo P W0 lo Post n jobs .kd Wg v d Sh Own g' W1) →
      MGo P W0 lo Post n jobs .kd Wg B d Sh Own g W
  | cas {n : Nat} {jobs : Nat → Option Job} {Wg B d : Nat} {Sh : Shd} {Own : Blk} {g : Goroutine} {W : World} : g.status = .running → 1 ≤ B →
      (∀ W1, Rely Own Sh W W1 → ConcR.WgAt tyWg Wg W1 (B * ConcR.KK) 0 → ∃ g', stepG P true g W1 = .go g' (W1.setCell (ConcR.stA Wg) (.int .u64 (B * ConcR.KK + 1))) #[ConcR.rd (ConcR.stA Wg), ConcR.wr (ConcR.stA Wg)]) →
      (∀ W1 (v : Nat), Rely Own Sh W W1 → v < B → ConcR.WgAt tyWg Wg W1 (v * ConcR.KK) 0 → ∃ g', stepG P true g W1 = .go g' W1 #[ConcR.rd (ConcR.stA Wg)]) →
      (∀ W1 g', Rely Own Sh W W1 → ConcR.WgAt tyWg Wg W1 (B * ConcR.KK) 0 → stepG P true g W1 = .go g' (W1.setCell (ConcR.stA Wg) (.int .u64 (B * ConcR.KK + 1))) #[ConcR.rd (ConcR.stA Wg), ConcR.wr (ConcR.stA Wg)] →
        MGo P W0 lo Post n jobs .w3 Wg B d Sh Own g' (W1.setCell (ConcR.stA Wg) (.int .u64 (B * ConcR.KK + 1)))) →
      (∀ W1 (v : Nat) g', Rely Own Sh W W1 → v < B → ConcR.WgAt tyWg Wg W1 (v * ConcR.KK) 0 → stepG P true g W1 = .go g' W1 #[ConcR.rd (ConcR.stA Wg)] → MGo P W0 lo Post n jobs .kd Wg v d Sh Own g' W1) →
      MGo P W0 lo Post n jobs .kd Wg B d Sh Own g W
  | sema {n : Nat} {jobs : Nat → Option Job} {Wg B d : Nat} {Sh : Shd} {Own : Blk} {g : Goroutine} {W : World} : g.status = .running → g.offers = none →
      (∀ W1, Rely Own Sh W W1 → (∃ s, ConcR.WgAt tyWg Wg W1 s 0) → stepG P true g W1 = .go { g with status := .blocked } W1 #[]) →
      (∀ W1, Rely Own Sh W W1 → ConcR.WgAt tyWg Wg W1 0 1 → ∃ g', stepG P true g W1 = .go g' (W1.setCell (ConcR.smA Wg) (.int .u32 0)) (semEvents (ConcR.smA Wg))) →
      (∀ W1 g', Rely Own Sh W W1 → ConcR.WgAt tyWg Wg W1 0 1 → stepG P true g W1 = .go g' (W1.setCell (ConcR.smA Wg) (.int .u32 0)) (semEvents (ConcR.smA Wg)) → MGo P W0 lo Post n jobs .w4 Wg 0 d Sh Own g' (W1.setCell (ConcR.smA Wg) (.int .u32 0))) →
      MGo P W0 lo Post n jobs .w3 Wg B d Sh Own g W
  | again {n : Nat} {jobs : Nat → Option Job} {Wg B d : Nat} {Sh : Shd} {Own : Blk} {g : Goroutine} {W : World} : g.status = .running →
      (∀ W1, Rely Own Sh W W1 → ConcR.WgAt tyWg Wg W1 0 0 → ∃ g', stepG P true g W1 = .go g' W1 #[ConcR.rd (ConcR.stA Wg)]) →
      (∀ W1 g', Rely Own Sh W W1 → ConcR.WgAt tyWg Wg W1 0 0 → stepG P true g W1 = .go g' W1 #[ConcR.rd (ConcR.stA Wg)] → MGo P W0 lo Post n jobs .ke Wg 0 d Sh Own g' W1) → MGo P W0 lo Post n jobs .w4 Wg B d Sh Own g W
  | acq {n : Nat} {jobs : Nat → Option Job} {Wg B : Nat} {Sh : Shd} {Own : Blk} {g g' : Goroutine} {W : World} {O : World → (Nat → Value) → (Nat → Blk) → Blk} {S : World → (Nat → Value) → (Nat → Blk) → Shd} : g.status = .running →
      (∀ W1, Rely Own Sh W W1 → stepG P true g W1 = .go g' W1 #[ConcR.mk (.acquire (ConcR.stA Wg))]) →
      (∀ W1 vals owns, Rely Own Sh W W1 → Handed jobs Own Sh vals owns W1 → Joins lo Own Sh jobs owns (O W1 vals owns) (S W1 vals owns)) →
      (∀ W1 vals owns, Rely Own Sh W W1 → Handed jobs Own Sh vals owns W1 → MGo P W0 lo Post n (fun _ => none) .ret Wg 0 0 (S W1 vals owns) (O W1 vals owns) g' W1) → MGo P W0 lo Post n jobs .ke Wg B 0 Sh Own g W
  | ret {n : Nat} {jobs : Nat → Option Job} {Wg B : Nat} {Sh : Shd} {Own : Blk} {g : Goroutine} {W : World} : g.status = .running → (∀ i, jobs i = none) →
      (∀ W1, Rely Own Sh W W1 → BaseOk W0 lo W1 → ∃ v es, stepG P true g W1 = .ended (.done v) W1 es ∧ (∀ e ∈ es, EvIn Own Sh e) ∧ Post v W1) → MGo P W0 lo Post n jobs .ret Wg B 0 Sh Own g W
theorem MGo.of_goes {P : Program} {W0 : World} {lo : Nat} {Post : Value → World → Prop} {n : Nat} {jobs : Nat → Option Job} {tag : ConcN.CTag} {Wg B d : Nat} {Sh : Shd} {Stop : Blk → Goroutine → World → Prop} {Own : Blk} {g : Goroutine} {W : World} (ht : tag ≠ .blk) (h : Goes' P true Sh Stop Own g W)
    (k : ∀ Own g W, Stop Own g W → MGo P W0 lo Post n jobs tag Wg B d Sh Own g W) : MGo P W0 lo Post n jobs tag Wg B d Sh Own g W := by
  induction h with
  | stop h => exact k _ _ _ h
  | step hs h1 _ ih => exact .step hs ht (fun W1 hr _ => h1 W1 hr) fun W1 hr _ => ih W1 hr
theorem MGo.running {P : Program} {W0 : World} {lo : Nat} {Post : Value → World → Prop} {n : Nat} {jobs : Nat → Option Job} {tag : ConcN.CTag} {Wg B d : Nat} {Sh : Shd} {Own : Blk} {g : Goroutine} {W : World} (h : MGo P W0 lo Post n jobs tag Wg B d Sh Own g W) : g.status = .running ∧ tag ≠ .blk := by
  induction h with
  | step h1 h2 => exact ⟨h1, h2⟩
  | low h1 h2 => exact ⟨h1, h2⟩
  | part _ _ _ _ _ _ _ ih => exact ih
  | book h1 _ h2 => exact ⟨h1, h2⟩
  | mkgrp h1 => exact ⟨h1, by simp⟩
  | add h1 => exact ⟨h1, by simp⟩
  | spawn h1 => exact ⟨h1, by simp⟩
  | load h1 => exact ⟨h1, by simp⟩
  | cas h1 => exact ⟨h1, by simp⟩
  | sema h1 => exact ⟨h1, by simp⟩
  | again h1 => exact ⟨h1, by simp⟩
  | acq h1 => exact ⟨h1, by simp⟩
  | ret h1 => exact ⟨h1, by simp⟩
/-- The run ends, and so. -/
def Ends (P : Program) (Q : Machine → Outcome → World → Trace → Prop) (m : Machine) (t : Trace) : Prop :=
  ∃ n last o w' t', runNT P (n + 1) m t = (.ended o w', t') ∧ runN P n m = .next last ∧ step P last = .ended o w' ∧ Q last o w' t'
section
variable {P : Program} {Q : Machine → Outcome → World → Trace → Prop} {W0 : World} {lo Wg B d : Nat} {tag : ConcN.CTag} {Gp Own : Blk} {Sh : Shd} {jobs : Nat → Option Job} {st : List WSt} {m0 : Goroutine} {gs : Array Goroutine} {W : World} {t : Trace}
theorem Ends.next {m m' : Machine} {ops : Trace} (hs : stepT P m = (.next m', ops)) (h : Ends P Q m' (t ++ ops)) : Ends P Q m t := by
  obtain ⟨n, last, o, w, t', h1, h2, h3, h4⟩ := h
  exact ⟨n + 1, last, o, w, t', by rw [runNT_succ_next hs]; exact h1, by rw [runN_succ_next hs]; exact h2, h3, h4⟩
theorem Ends.last {m : Machine} {o : Outcome} {w : World} {ops : Trace} (hs : stepT P m = (.ended o w, ops)) (h : Q m o w (t ++ ops)) : Ends P Q m t :=
  ⟨0, m, o, w, t ++ ops, by simp [runNT, hs], rfl, by simp [step, hs], h⟩
/-- Main's own turn. -/
def Turn (P : Program) (Q : Machine → Outcome → World → Trace → Prop) (gs : Array Goroutine) (W : World) (sl : Option (Nat × Nat)) (t : Trace) : Prop :=
  (∃ m' u, runT P (crowd gs W sl) 0 = (.next m', u) ∧ Ends P Q m' (t ++ u)) ∨ ∃ o w' u, runT P (crowd gs W sl) 0 = (.ended o w', u) ∧ ∀ W2 sl2, Q (crowd gs W2 sl2) o w' (t ++ u)
theorem Inv.acc (h : Inv P W0 lo Wg B d tag Gp Own Sh jobs st m0 gs W t) : Acc (LLt (WLt P Wg)) st := acc_list fun i x hx => by
  obtain ⟨g, _, h2⟩ := h.wk i x hx
  exact h2.acc
theorem Inv.awake (h : Inv P W0 lo Wg B d tag Gp Own Sh jobs st m0 gs W t) (hm : MainAt tag m0) : ∀ g ∈ gs, Conc.awake g := fun g hg => by
  obtain ⟨j, hj⟩ := Array.getElem?_of_mem hg
  cases j with
  | zero =>
    rw [h.main] at hj
    cases hj
    intro τ e
    rcases hm with ⟨hm, _⟩ | ⟨_, g', _, _, rfl⟩
    · rw [hm] at e; cases e
    · cases e
  | succ j =>
    have hjl : j < st.length := by
      have := (Array.getElem?_eq_some_iff.1 hj).1
      rw [h.size] at this; omega
    obtain ⟨k', h4, h5⟩ := h.wk j _ (List.getElem?_eq_getElem hjl)
    rw [hj] at h4
    cases h4
    intro τ e
    rcases h5.status with e' | e' <;> rw [e'] at e <;> cases e
theorem MainTo.at {m0' : Goroutine} {tag' : ConcN.CTag} (h : MainTo tag m0 tag' m0') (hm : MainAt tag m0) : MainAt tag' m0' := by
  rcases h with ⟨rfl, rfl⟩ | ⟨_, rfl, h, _⟩
  · exact hm
  · exact .inl ⟨h, by simp⟩
/-- A worker's turn: whatever it does. -/
theorem Inv.worker (h : Inv P W0 lo Wg B d tag Gp Own Sh jobs st m0 gs W t) (hB : B < 2147483648) (hm : MainAt tag m0) {i : Nat} {g : Goroutine} (hgi : gs[i + 1]? = some g) (hr : g.status = .running) (sl : Option (Nat × Nat)) :
    ∃ gs' u m0' tag' W' st', LLt (WLt P Wg) st' st ∧ st'.length = st.length ∧ runT P (crowd gs W sl) (i + 1) = (.next (crowd gs' W' sl), u) ∧ MainTo tag m0 tag' m0' ∧ Inv P W0 lo Wg B d tag' Gp Own Sh jobs st' m0' gs' W' (t ++ u) ∧ Rely Own Sh W W' := by
  have hil : i < st.length := by
    have := (Array.getElem?_eq_some_iff.1 hgi).1
    rw [h.size] at this; omega
  have hx := List.getElem?_eq_getElem hil
  obtain ⟨k, h4, h5⟩ := h.wk i _ hx
  rw [hgi] at h4
  cases h4
  generalize hy : st[i] = y at hx h5
  cases y with
  | work jb own sh g' w =>
    obtain ⟨rfl, h6, h7⟩ := h5
    by_cases hD : AtDone P Wg jb sh own g W
    · obtain ⟨v, m, hI⟩ := h.to_done hx hD
      have hx2 : (st.set i (.done jb own sh v 7 m 0))[i]? = some (.done jb own sh v 7 m 0) := by rw [List.getElem?_set_self hil]
      obtain ⟨gs', u, m0', tag', W', s', m', e', _, h8, h9, h10, h11⟩ := hI.done_step hB hm hx2 hgi hr sl
      rw [List.set_set] at h10
      exact ⟨gs', u, m0', tag', W', _, .mk hx .done, by simp, h8, h9, h10, h11⟩
    · cases h6 with
      | stop h6 => exact absurd (h6.rely h7) hD
      | step hs h8 h9 =>
        obtain ⟨g', W2, es, h10, h11, _⟩ := h8 _ h7
        obtain ⟨gs', u, m0', tag', h12, h13, h14, h15⟩ := h.work_step hm hx h10 h11 (h9 _ h7 _ _ _ h10) sl
        exact ⟨gs', u, m0', tag', W2, _, .mk hx (.go h7 hD h10), by simp, h12, h13, h14, h15⟩
  | done jb own sh v s m e =>
    obtain ⟨gs', u, m0', tag', W', s', m', e', h7, h8, h9, h10, h11⟩ := h.done_step hB hm hx hgi hr sl
    exact ⟨gs', u, m0', tag', W', _, .mk hx (.stage h7), by simp, h8, h9, h10, h11⟩
  | quit m e =>
    obtain ⟨gs', u, m0', tag', m', e', h7, h8, h9, h10, h11⟩ := h.quit_step hm hx hgi hr sl
    exact ⟨gs', u, m0', tag', W, _, .mk hx (.quit h7), by simp, h8, h9, h10, h11⟩
/-- Main runs: if its own turns end the run well, so does any schedule. -/
theorem run_main {n : Nat} (hB : B < 2147483648) (hg : m0.status = .running) (ht : tag ≠ .blk) (hmain : ∀ st gs W1 sl t, st.length = n → Inv P W0 lo Wg B d tag Gp Own Sh jobs st m0 gs W1 t → Rely Own Sh W W1 → Turn P Q gs W1 sl t) :
    ∀ st gs W1 sl t, st.length = n → Inv P W0 lo Wg B d tag Gp Own Sh jobs st m0 gs W1 t → Rely Own Sh W W1 → Ends P Q (crowd gs W1 sl) t := by
  intro st gs W1 sl t hn hI hr
  have hacc := hI.acc
  induction hacc generalizing gs W1 sl t with
  | intro st _ ih =>
    have hm : MainAt tag m0 := .inl ⟨hg, ht⟩
    obtain ⟨i, g, k, sl', hi, hgr, hpick⟩ := crowd_pick (P := P) (w := W1) (sl := sl) (hI.awake hm) ⟨0, m0, hI.main, hg⟩
    have hI' := hI.at k
    have hr' := hr.trans (rely_at Own Sh W1 k)
    cases i with
    | zero =>
      rcases hmain st gs (W1.at k) sl' t hn hI' hr' with ⟨m', u, h1, h2⟩ | ⟨o, w', u, h1, h2⟩
      · exact .next (hpick.trans h1) h2
      · exact .last (hpick.trans h1) (h2 W1 sl)
    | succ j =>
      obtain ⟨gs', u, m0', tag', W', st', h1, h2, h3, h4, h5, h6⟩ := hI'.worker hB hm hi hgr sl'
      rcases h4 with ⟨rfl, rfl⟩ | ⟨e, _⟩
      · exact .next (hpick.trans h3) (ih _ h1 gs' _ sl' _ (h2.trans hn) h5 (hr'.trans h6))
      · exact absurd e ht
end
end Go.Proofs.Ytkodpijedinanaa.Sim
