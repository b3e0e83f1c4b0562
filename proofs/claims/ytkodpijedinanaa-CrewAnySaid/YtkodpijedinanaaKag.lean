/- Texts that the claim imports, laid together: McJ McK McL MrA MrB. No statement of their own. -/
import Derived.Conc.Own3
import Derived.Conc.Own2
import Derived.Conc.Own4
import Derived.Conc.DeferLaws
import Derived.Conc.Quits
import Derived.Test.YtkodpijedinanaaKaf
namespace Go.Proofs.Ytkodpijedinanaa.Sim
open Go Go.Conc
set_option linter.unusedVariables false
set_option linter.unusedSimpArgs false

section
variable {P : Program} {W0 : World} {lo Wg B d : Nat} {tag : ConcN.CTag} {Gp Own : Blk} {Sh : Shd} {jobs : Nat → Option Job} {st : List WSt} {m0 : Goroutine} {gs : Array Goroutine} {W : World} {t : Trace}
theorem Inv.liveG (h : Inv P W0 lo Wg B d tag Gp Own Sh jobs st m0 gs W t) (ht : tag ≠ .ret) : ∃ s m, Gp Wg ∧ ConcR.WgAt tyWg Wg W s m ∧ ConcN.Mode st.length (Df st) tag s m ∧ ConcN.Vc st.length (Df st) + ConcN.pend tag ≤ B := by
  cases h.grp with
  | idle h1 _ => exact absurd h1 ht
  | live s m h1 h2 h3 h4 h5 => exact ⟨s, m, h2, h3, h4, h5⟩
/-- A step of main's within the library. -/
theorem Inv.main_book (h : Inv P W0 lo Wg B d tag Gp Own Sh jobs st m0 gs W t) (ht : tag ≠ .ret) {g' : Goroutine} {W' : World} {es : Array Event} {B' : Nat} {tag' : ConcN.CTag} {s' m' : Int} (hg : stepG P true m0 W = .go g' W' es) (hAs : Conc.Aside Wg W W')
    (hw' : ConcR.WgAt tyWg Wg W' s' m') (ht' : tag' ≠ .ret) (hmode : ConcN.Mode st.length (Df st) tag' s' m') (hB' : ConcN.Vc st.length (Df st) + ConcN.pend tag' ≤ B')
    (hbk : ∀ e ∈ es, (∀ x, (MemAct.ofEvent e).touch? = some x → (∃ a : Addr, x.loc = .cell a ∧ a.block = Wg) ∧ x.kind ≠ .plain) ∧ e.loc ≠ .mark (.release (ConcR.stA Wg))) (sl : Option (Nat × Nat)) :
    ∃ gs' u, runT P (crowd gs W sl) 0 = (.next (crowd gs' W' sl), u) ∧ Inv P W0 lo Wg B' (deafBehind d es) tag' Gp Own Sh jobs st g' gs' W' (t ++ u) ∧ Rely Own Sh W W' := by
  obtain ⟨s, m, hG, hw, _, _⟩ := h.liveG ht
  have hre : ∀ γ, Rely (agents (Own, Sh) st γ).1 (agents (Own, Sh) st γ).2 W W' := rely_aside h.sep hG hAs hw hw'
  have hbo : ∀ op ∈ MemOp.ofEvents 0 m0.frame.fn m0.frame.place es, Bok Gp 0 op := fun op hop => by
    obtain ⟨e, he, rfl⟩ := ofEvents_mem hop
    refine ⟨rfl, fun x hx => ?_⟩
    obtain ⟨⟨a, ha, hab⟩, hk⟩ := (hbk e he).1 x hx
    exact ⟨⟨a, ha, hab ▸ hG⟩, hk, fun _ => rfl⟩
  obtain ⟨gs', u, h1, h2⟩ := h.mstep hg (fun γ _ => hre γ) (by rw [hAs.size]; exact h.sep) (by rw [hAs.size]; exact h.tr.book h.sep (.inl rfl) (by omega) hbo) (fun e he => (hbk e he).2) (fun _ h => h) (h.bs.aside hAs (h.sep.log _ hG)) (.live s' m' ht' hG hw' hmode hB') sl
  exact ⟨gs', u, h1, h2, hre 0⟩
theorem bk_book {es : Array Event} (h : ∀ e ∈ es, ConcR.Bk Wg e) : ∀ e ∈ es, (∀ x, (MemAct.ofEvent e).touch? = some x → (∃ a : Addr, x.loc = .cell a ∧ a.block = Wg) ∧ x.kind ≠ .plain) ∧ e.loc ≠ .mark (.release (ConcR.stA Wg)) := fun e he => by
  refine ⟨fun x hx => ?_, ConcN.norel_of_Bk h e he⟩
  rcases h e he with h1 | h1 | ⟨a, wr, rfl, ha⟩
  · simp only [ConcR.ofEvent_loc_mark h1] at hx; cases hx
  · simp only [ConcR.ofEvent_loc_mark h1] at hx; cases hx
  · simp only [ConcR.ofEvent_cell, MemAct.touch?, Option.some.injEq] at hx
    subst hx
    exact ⟨⟨a, rfl, ha⟩, by simp⟩
theorem mark_book {es : Array Event} (h : ∀ e ∈ es, MarkOk Wg e) : ∀ e ∈ es, (∀ x, (MemAct.ofEvent e).touch? = some x → (∃ a : Addr, x.loc = .cell a ∧ a.block = Wg) ∧ x.kind ≠ .plain) ∧ e.loc ≠ .mark (.release (ConcR.stA Wg)) := fun e he => by
  rcases h e he with rfl | rfl | ⟨a, ha, rfl | rfl⟩
  · exact ⟨fun x hx => (by cases hx), by simp [ConcR.mk]⟩
  · exact ⟨fun x hx => (by cases hx), by simp [ConcR.mk]⟩
  · refine ⟨fun x hx => ?_, by simp [ConcR.mk]⟩
    simp only [ConcR.ofEvent_mk, MemAct.touch?, Option.some.injEq] at hx
    subst hx
    exact ⟨⟨a, rfl, ha⟩, by simp⟩
  · refine ⟨fun x hx => ?_, by simp [ConcR.mk]⟩
    simp only [ConcR.ofEvent_mk, MemAct.touch?, Option.some.injEq] at hx
    subst hx
    exact ⟨⟨a, rfl, ha⟩, by simp⟩
theorem rw_bk : ∀ e ∈ (#[ConcR.rd (ConcR.stA Wg), ConcR.wr (ConcR.stA Wg)] : Array Event), ConcR.Bk Wg e := by intro e he; simp at he; rcases he with rfl | rfl <;> exact ConcN.bk_cell _ _ rfl
theorem rd_bk : ∀ e ∈ (#[ConcR.rd (ConcR.stA Wg)] : Array Event), ConcR.Bk Wg e := by intro e he; simp at he; subst he; exact ConcN.bk_cell _ _ rfl
theorem sem_bk : ∀ e ∈ semEvents (ConcR.smA Wg), ConcR.Bk Wg e := by
  intro e he
  simp [semEvents] at he
  rcases he with rfl | rfl | rfl | rfl
  · exact .inl rfl
  · exact ConcN.bk_cell _ _ rfl
  · exact ConcN.bk_cell _ _ rfl
  · exact .inr (.inl rfl)
theorem opn_of {j : Nat} {D : Nat → ConcN.WD} {s m : Int} (h : ConcN.Mode j D .kd s m) : ConcN.OpenSt j D ∧ s = ((ConcN.Vc j D : Nat) : Int) * ConcR.KK ∧ m = 0 := by
  cases h with
  | opn h1 h2 h3 => exact ⟨h2, by simp [ConcN.pend], rfl⟩
  | reg h1 _ _ => exact h1.elim
  | last _ h1 _ _ _ => exact h1.elim
  | fin h1 _ => exact h1.elim
theorem allQuit_of {j : Nat} {D : Nat → ConcN.WD} (h : ConcN.OpenSt j D) (h0 : ConcN.Vc j D = 0) : ConcN.AllQuit j D := fun i hi => by
  have hc : ConcN.cnt (D i) = 0 := by have := ConcN.le_sumTo (f := fun x => ConcN.cnt (D x)) hi; simp only [ConcN.Vc] at h0; omega
  have := h i hi
  simp only [ConcN.cnt] at hc
  split at hc <;> omega
/-- Main goes a step of its own. -/
theorem Inv.main_step (h : Inv P W0 lo Wg B d tag Gp Own Sh jobs st m0 gs W t) {g' : Goroutine} {W' : World} {es : Array Event} (hg : stepG P true m0 W = .go g' W' es) (hd : Did Own Sh W W' es) (sl : Option (Nat × Nat)) :
    ∃ gs' u, runT P (crowd gs W sl) 0 = (.next (crowd gs' W' sl), u) ∧ Inv P W0 lo Wg B d tag Gp (Grow Own W W') Sh jobs st g' gs' W' (t ++ u) := by
  have hA : agents (Own, Sh) st 0 = (Own, Sh) := rfl
  have hA2 : agents (Grow Own W W', Sh) st = setA (agents (Own, Sh) st) 0 (Grow (agents (Own, Sh) st 0).1 W W', (agents (Own, Sh) st 0).2) := agents_main _ _ _
  have hde : deafBehind d es = d := ConcN.deafBehind_idle (fun e he => ⟨fun hl => (hd.evs e he).norel.1 (ConcR.ofEvent_loc_mark hl), fun hl => (hd.evs e he).norel.2.1 (ConcR.ofEvent_loc_mark hl)⟩) _
  have := h.mstep (B' := B) (tag' := tag) (Gp' := Gp) (Own' := Grow Own W W') (Sh' := Sh) hg (fun γ hγ => rely_of_did (γ := 0) h.sep hd γ hγ) (by rw [hA2]; exact h.sep.grow 0 hd.size h.bs.le) (by rw [hA2]; exact h.tr.own h.sep (.inl rfl) (by omega) rfl hd.size hd.evs)
    (fun e he hl => (hd.evs e he).norel.2.2 (ConcR.stA Wg) (ConcR.ofEvent_loc_mark hl)) (fun _ h => h) (h.bs.did hd (fun b hb => h.sep.los 0 b hb) fun b i hb => h.sep.loc 0 b i hb) (by
      cases h.grp with
      | idle h1 h2 => exact .idle h1 h2
      | live s m h1 h2 h3 h4 h5 =>
        refine .live s m h1 h2 ?_ h4 h5
        show W'.heap[Wg]? = _
        rw [hd.kept Wg (h.sep.ltg _ h2) (h.sep.gown 0 _ h2) fun o => h.sep.gcel 0 _ _ h2]
        exact h3) sl
  rwa [hde] at this
/-- What is main's is parted anew. -/
theorem Inv.part (h : Inv P W0 lo Wg B d tag Gp Own Sh jobs st m0 gs W t) {Own' : Blk} {Sh' : Shd} (o : ∀ b, Own' b → Own b) (r : ∀ b, Sh' b → Sh b ∨ Own b) (c : ∀ b i, Sh'.cel b i → Sh.cel b i ∨ Own b) (g : ∀ b, Sh'.grp b → Sh.grp b) (d1 : ∀ b, Own' b → ¬ Sh' b) (d2 : ∀ b i, Sh'.cel b i → ¬ Own' b ∧ ¬ Sh' b) :
    Inv P W0 lo Wg B d tag Gp Own' Sh' jobs st m0 gs W t := by
  have hA : agents (Own', Sh') st = setA (agents (Own, Sh) st) 0 (Own', Sh') := agents_main _ _ _
  refine { h with sep := ?_, tr := ?_ }
  · rw [hA]; exact h.sep.part o r c (fun b hb => h.sep.grp 0 _ (g b hb)) d1 d2
  · rw [hA]
    refine h.tr.less fun γ x p hin => ?_
    by_cases e : γ = 0
    · subst e
      rw [setA_same] at hin
      rcases hin with hin | ⟨hin, hw⟩ | hin
      · exact .inl (o _ hin)
      · rcases r _ hin with h1 | h1
        · exact .inr (.inl ⟨h1, hw⟩)
        · exact .inl h1
      · rcases c _ _ hin with h1 | h1
        · exact .inr (.inr h1)
        · exact .inl h1
    · rw [setA_ne _ _ e] at hin; exact hin
/-- A group is made. -/
theorem Inv.mkgrp (h : Inv P W0 lo Wg B d .ret Gp Own Sh jobs st m0 gs W t) {g' : Goroutine} (hg : stepG P true m0 W = .go g' (W.alloc (ConcR.wgBlock tyWg 0 0)) #[]) (sl : Option (Nat × Nat)) :
    ∃ gs' u, runT P (crowd gs W sl) 0 = (.next (crowd gs' (W.alloc (ConcR.wgBlock tyWg 0 0)) sl), u) ∧ Inv P W0 lo W.heap.size 0 d .kd (fun b => Gp b ∨ b = W.heap.size) Own { Sh with grp := fun b => Sh.grp b ∨ b = W.heap.size } jobs st g' gs' (W.alloc (ConcR.wgBlock tyWg 0 0)) (t ++ u) := by
  have hidle : ∀ (i : Nat) (x : WSt), st[i]? = some x → x.job = none := by
    cases h.grp with
    | idle _ h2 => exact h2
    | live _ _ h1 _ _ _ _ => exact absurd rfl h1
  have hq : ∀ (i : Nat) (x : WSt), st[i]? = some x → ∃ m e, x = .quit m e := fun i x hx => by
    have := hidle i x hx
    cases x with
    | work => cases this
    | done => cases this
    | quit m e => exact ⟨m, e, rfl⟩
  have hren : Inv P W0 lo W.heap.size B d .ret Gp Own Sh jobs st m0 gs W t := by
    refine { h with wk := fun i x hx => ?_, rel := fun i x hx hr => ?_, grp := .idle rfl hidle }
    · obtain ⟨k, h1, h2⟩ := h.wk i x hx
      obtain ⟨m, e, rfl⟩ := hq i x hx
      exact ⟨k, h1, h2⟩
    · obtain ⟨m, e, rfl⟩ := hq i x hx
      exact hr.elim
  have hsz : (W.alloc (ConcR.wgBlock tyWg 0 0)).heap.size = W.heap.size + 1 := by show (W.heap.push _).size = _; simp
  have hnew : (W.alloc (ConcR.wgBlock tyWg 0 0)).heap[W.heap.size]? = some (ConcR.wgBlock tyWg 0 0) := by show (W.heap.push _)[W.heap.size]? = _; simp
  have hold : ∀ (b : Nat) (o : Obj), W.heap[b]? = some o → (W.alloc (ConcR.wgBlock tyWg 0 0)).heap[b]? = some o := fun b o hb => by
    have := (Array.getElem?_eq_some_iff.1 hb).1
    show (W.heap.push _)[b]? = _
    rw [Array.getElem?_push_lt this, ← Array.getElem?_eq_getElem, hb]
  have hre : ∀ (O : Blk) (S : Shd), Rely O S W (W.alloc (ConcR.wgBlock tyWg 0 0)) := fun O S => ⟨by omega, fun b o _ ho => hold b o ho, fun b c e z hc => ⟨c, hold _ _ hc, rfl⟩, fun b o v _ hv => by
    cases ho : W.heap[b]? with
    | none => simp [World.cell?, ho] at hv
    | some q =>
      simp only [World.cell?, ho] at hv
      simp only [World.cell?, hold b q ho]
      exact hv, fun b _ ⟨s, m, hw⟩ => ⟨s, m, hold _ _ hw⟩⟩
  have hsep := h.sep.group h.bs.le (Nat.le_refl _)
  have htr := h.tr.group (Nat.le_refl W.heap.size)
  have hA : agents (Own, { Sh with grp := fun b => Sh.grp b ∨ b = W.heap.size }) st = setA (agents (Own, Sh) st) 0 (Own, { Sh with grp := fun b => Sh.grp b ∨ b = W.heap.size }) := agents_main _ _ _
  have hsep' : Sep (agents (Own, { Sh with grp := fun b => Sh.grp b ∨ b = W.heap.size }) st) (fun b => Gp b ∨ b = W.heap.size) (W.heap.size + 1) lo := by
    rw [hA]
    exact hsep.part (fun _ h => h) (fun _ h => .inl h) (fun _ _ h => .inl h) (fun b hb => hb.imp (fun h0 => h.sep.grp 0 _ h0) id) (fun b h1 h2 => h.sep.sh 0 0 b h1 h2) fun b i h1 => h.sep.cel 0 0 b i h1
  have hes : MemOp.ofEvents 0 m0.frame.fn m0.frame.place #[] = #[] := rfl
  have htr' : TInv (t ++ MemOp.ofEvents 0 m0.frame.fn m0.frame.place #[]) (agents (Own, { Sh with grp := fun b => Sh.grp b ∨ b = W.heap.size }) st) (fun b => Gp b ∨ b = W.heap.size) (W.heap.size + 1) (st.length + 1) (liveOf st) := by
    rw [hes, Array.append_empty, hA]
    refine htr.less fun γ x p hin => ?_
    by_cases e : γ = 0
    · subst e; rw [setA_same] at hin; exact hin
    · rw [setA_ne _ _ e] at hin; exact hin
  have hall : ∀ a, a < st.length → (Df st a).stage = 1 := fun a ha => by
    have hx := List.getElem?_eq_getElem ha
    obtain ⟨m, e, hm⟩ := hq a _ hx
    rw [Df_at hx, hm]; rfl
  have hV : ConcN.Vc st.length (Df st) = 0 := by
    have : ∀ j, j ≤ st.length → ConcN.sumTo j (fun i => ConcN.cnt (Df st i)) = 0 := by
      intro j
      induction j with
      | zero => intro _; rfl
      | succ j ih =>
        intro hj
        have h1 : ConcN.cnt (Df st j) = 0 := by simp only [ConcN.cnt, hall j (by omega)]; rfl
        simp only [ConcN.sumTo, ih (by omega), h1]
    exact this _ (Nat.le_refl _)
  obtain ⟨gs', u, h1, h2⟩ := hren.mstep (B' := 0) (tag' := .kd) (Gp' := fun b => Gp b ∨ b = W.heap.size) (Own' := Own) (Sh' := { Sh with grp := fun b => Sh.grp b ∨ b = W.heap.size }) hg (fun γ _ => hre _ _) (by rw [hsz]; exact hsep') (by rw [hsz]; exact htr') (fun e he => by simp at he) (fun b hb => .inl hb)
    ⟨h.bs.tape, h.bs.os, h.bs.out, fun b hb => by
      have hlt : b < W.heap.size := Nat.lt_of_lt_of_le hb h.bs.le
      rw [← h.bs.heap b hb]
      show (W.heap.push _)[b]? = _
      rw [Array.getElem?_push_lt hlt, ← Array.getElem?_eq_getElem], by rw [hsz]; exact Nat.le_succ_of_le h.bs.le⟩
    (.live 0 0 (by simp) (.inr rfl) hnew (by
      have := ConcN.Mode.opn (j := st.length) (D := Df st) (tag := .kd) trivial (fun i hi => .inr (.inr (.inr (hall i hi)))) (fun vs e => by cases e)
      rw [hV] at this
      simpa [ConcN.pend] using this) (by rw [hV]; simp [ConcN.pend])) sl
  exact ⟨gs', u, h1, h2⟩
end
end Go.Proofs.Ytkodpijedinanaa.Sim

namespace Go.Proofs.Ytkodpijedinanaa.Sim
open Go Go.Conc
set_option linter.unusedVariables false
set_option linter.unusedSimpArgs false

section
variable {P : Program} {Q : Machine → Outcome → World → Trace → Prop} {W0 : World} {lo Wg B d : Nat} {tag : ConcN.CTag} {Gp Own : Blk} {Sh : Shd} {jobs : Nat → Option Job} {st : List WSt} {m0 : Goroutine} {gs : Array Goroutine} {W : World} {t : Trace}
theorem OnlyGo {g0 n : Nat} {fn fn' : FuncId} {pos : String} : ∀ op ∈ (#[{ g := g0, fn := fn, pos := pos, act := .go n }, { g := n, fn := fn', pos := pos, act := .start }] : Trace), op.act ≠ .mark .disable ∧ op.act ≠ .mark .enable := fun op hop => by
  simp only [List.mem_toArray, List.mem_cons, List.not_mem_nil, or_false] at hop
  rcases hop with rfl | rfl <;> simp
/-- A go statement. -/
theorem Inv.spawn (h : Inv P W0 lo Wg B 0 (.sp 0 0) Gp Own Sh jobs st m0 gs W t) (hr : m0.status = .running) {g' child : Goroutine} {Sc Sh' : Shd} {jb : Job} {w : World} (hg : stepG P true m0 W = .spawn g' child W #[]) (ht : Takes Sh Sc Sh')
    (hgo : Goes' P false Sc (AtDone P Wg jb Sc) (fun _ => False) child w) (hrel : Rely (fun _ => False) Sc w W) (sl : Option (Nat × Nat)) :
    ∃ gs' u, runT P (crowd gs W sl) 0 = (.next (crowd gs' W sl), u) ∧ Inv P W0 lo Wg B 0 .kd Gp Own Sh' (updJ jobs st.length (some jb)) (st ++ [.work jb (fun _ => False) Sc child w]) g' gs' W (t ++ u) := by
  refine ⟨_, _, runT_crowd_spawn (i := 0) h.main hg, ?_⟩
  rw [show ((MemOp.ofEvents 0 m0.frame.fn m0.frame.place #[]).push { g := 0, fn := m0.frame.fn, pos := m0.frame.place, act := .go gs.size }).push { g := gs.size, fn := child.frame.fn, pos := m0.frame.place, act := .start } =
    (#[{ g := 0, fn := m0.frame.fn, pos := m0.frame.place, act := .go (st.length + 1) }, { g := st.length + 1, fn := child.frame.fn, pos := m0.frame.place, act := .start }] : Trace) from by rw [h.size]; rfl]
  have hA : agents (Own, Sh') (st ++ [.work jb (fun _ => False) Sc child w]) = setA (setA (agents (Own, Sh) st) 0 ((agents (Own, Sh) st 0).1, Sh')) (st.length + 1) (fun _ => False, Sc) := by
    rw [agents_push, agents_main (Own, Sh)]
    rfl
  have hL : liveOf (st ++ [.work jb (fun _ => False) Sc child w]) = fun γ => liveOf st γ ∨ γ = st.length + 1 := by
    funext γ
    refine propext ⟨fun ⟨j, z, e, h1, h2⟩ => ?_, fun h => ?_⟩
    · by_cases hj : j < st.length
      · rw [List.getElem?_append_left hj] at h1; exact .inl ⟨j, z, e, h1, h2⟩
      · have := (List.getElem?_eq_some_iff.1 h1).1
        simp at this
        exact .inr (by omega)
    · rcases h with ⟨j, z, e, h1, h2⟩ | rfl
      · exact ⟨j, z, e, by rw [List.getElem?_append_left (List.getElem?_eq_some_iff.1 h1).1]; exact h1, h2⟩
      · exact ⟨st.length, .work jb (fun _ => False) Sc child w, rfl, by simp, by simp [WSt.job]⟩
  have hDl : ∀ a, a < st.length → Df (st ++ [.work jb (fun _ => False) Sc child w]) a = Df st a := fun a ha => by simp [Df, List.getElem?_append_left ha]
  have hDn : Df (st ++ [.work jb (fun _ => False) Sc child w]) st.length = ⟨7, 0, 0⟩ := by simp [Df, WSt.wd]
  have hV : ConcN.Vc (st.length + 1) (Df (st ++ [.work jb (fun _ => False) Sc child w])) = ConcN.Vc st.length (Df st) + 1 := by
    show ConcN.sumTo st.length _ + ConcN.cnt _ = _
    rw [hDn]
    have : ConcN.sumTo st.length (fun i => ConcN.cnt (Df (st ++ [.work jb (fun _ => False) Sc child w]) i)) = ConcN.Vc st.length (Df st) := ConcN.sumTo_congr fun a ha => by rw [hDl a ha]
    rw [this]; rfl
  have hstart : ∀ (i : Nat) op, t[i]? = some op → op.g ≠ st.length + 1 := fun i op hop e => by have := h.tr.lim i op hop; omega
  refine ⟨by simp [h.size], ?_, fun j y hy => ?_, by rw [ConcN.Deaf_still _ _ _ OnlyGo]; exact h.deaf, fun j y hy => ?_, fun j y hy hr => ?_, ?_, ?_, h.bs, fun j => ?_, ?_⟩
  · have : 0 < gs.size := by rw [h.size]; omega
    rw [Array.getElem?_push, if_neg (by simp; omega), Array.getElem?_setIfInBounds_self_of_lt this]
  · by_cases hj : j < st.length
    · rw [List.getElem?_append_left hj] at hy
      obtain ⟨g, h4, h5⟩ := h.wk j y hy
      refine ⟨g, ?_, h5⟩
      rw [Array.getElem?_push, if_neg (by simp [h.size]; omega), get_two (by omega)]
      exact h4
    · have := (List.getElem?_eq_some_iff.1 hy).1
      simp at this
      have hj' : j = st.length := by omega
      subst hj'
      simp at hy
      subst hy
      refine ⟨child, ?_, rfl, hgo, hrel⟩
      rw [Array.getElem?_push, if_pos (by simp [h.size])]
  · rw [ConcN.Deaf_still _ _ _ OnlyGo]
    by_cases hj : j < st.length
    · rw [List.getElem?_append_left hj] at hy
      exact h.deafW j y hy
    · have := (List.getElem?_eq_some_iff.1 hy).1
      simp at this
      have hj' : j = st.length := by omega
      subst hj'
      simp at hy
      subst hy
      exact ConcN.Deaf_absent hstart
  · by_cases hj : j < st.length
    · rw [List.getElem?_append_left hj] at hy
      obtain ⟨r, hr⟩ := h.rel j y hy hr
      exact ⟨r, hr.two (by omega) (by omega)⟩
    · have := (List.getElem?_eq_some_iff.1 hy).1
      simp at this
      have hj' : j = st.length := by omega
      subst hj'
      simp at hy
      subst hy
      exact hr.elim
  · rw [hA]; exact h.sep.spawn (by omega) ht
  · rw [hA, hL, List.length_append]
    refine h.tr.spawn (by omega) h.deaf (fun γ x p hγ hin => ?_) fun x p hin => ?_
    · rw [setA_ne _ _ hγ] at hin
      by_cases e : γ = 0
      · subst e
        rw [setA_same] at hin
        rcases hin with hin | ⟨hin, hw⟩ | hin
        · exact .inl hin
        · exact .inr (.inl ⟨ht.rd' _ hin, hw⟩)
        · exact .inr (.inr (ht.cel' _ _ hin).1)
      · rw [setA_ne _ _ e] at hin; exact hin
    · rw [setA_same] at hin
      rcases hin with hin | ⟨hin, hw⟩ | hin
      · exact hin.elim
      · exact .inr (.inl ⟨ht.rd _ hin, hw⟩)
      · exact .inr (.inr (ht.cel _ _ hin))
  · unfold updJ
    by_cases hj : j = st.length
    · subst hj; simp [WSt.job]
    · rw [if_neg hj, h.jobs j]
      by_cases hlt : j < st.length
      · rw [List.getElem?_append_left hlt]
      · rw [List.getElem?_eq_none (by omega), List.getElem?_eq_none (by simp; omega)]
  · obtain ⟨s, m, hG, hw, hmode, hB⟩ := h.liveG (by simp)
    have hp : ConcN.pend (.sp 0 0) = 1 := rfl
    have hp' : ConcN.pend .kd = 0 := rfl
    cases hmode with
    | opn h1 h2 h3 =>
      refine .live _ 0 (by simp) hG hw ?_ (by rw [List.length_append, List.length_singleton, hV]; omega)
      rw [List.length_append, List.length_singleton]
      have := ConcN.Mode.opn (j := st.length + 1) (D := Df (st ++ [.work jb (fun _ => False) Sc child w])) (tag := .kd) trivial (fun i hi => by
        rcases Nat.lt_or_ge i st.length with hlt | hge
        · rw [hDl i hlt]; exact h2 i hlt
        · obtain rfl : i = st.length := by omega
          rw [hDn]; exact .inl rfl) (fun vs e => by cases e)
      rw [hV, hp'] at this
      rw [hp]
      exact this
    | reg h1 _ _ => exact h1.elim
    | last _ h1 _ _ _ => exact h1.elim
    | fin h1 _ => exact h1.elim
def WSt.left : WSt → WSt
  | .done _ _ _ _ _ m d => .quit m d
  | .work _ _ _ _ _ => .quit 0 0
  | .quit m d => .quit m d
def valsOf (st : List WSt) (i : Nat) : Value := match st[i]? with
  | some (.done _ _ _ v _ _ _) => v
  | _ => undef
def ownsOf (st : List WSt) (i : Nat) : Blk := match st[i]? with
  | some x => x.own
  | none => fun _ => False
theorem Inv.quitAll (h : Inv P W0 lo Wg B d tag Gp Own Sh jobs st m0 gs W t) (hq : ConcN.AllQuit st.length (Df st)) {i : Nat} {x : WSt} (hi : st[i]? = some x) : (∃ m e, x = .quit m e) ∨ ∃ jb own sh v m e, x = .done jb own sh v 1 m e := by
  have := hq i (List.getElem?_eq_some_iff.1 hi).1
  rw [Df_at hi] at this
  cases x with
  | work => cases this
  | done jb own sh v s m e => obtain rfl : s = 1 := this; exact .inr ⟨jb, own, sh, v, m, e, rfl⟩
  | quit m e => exact .inl ⟨m, e, rfl⟩
theorem Inv.handed (h : Inv P W0 lo Wg B d tag Gp Own Sh jobs st m0 gs W t) (hq : ConcN.AllQuit st.length (Df st)) : Handed jobs Own Sh (valsOf st) (ownsOf st) W := by
  have key : ∀ i jb, jobs i = some jb → ∃ own sh v m e, st[i]? = some (.done jb own sh v 1 m e) ∧ JobOk Wg jb sh W ∧ valsOf st i = v ∧ ownsOf st i = own ∧ jb.pr v W own ∧ ConcN.Has jb.C jb.i v W := fun i jb hj => by
    rw [h.jobs i] at hj
    cases hx : st[i]? with
    | none => rw [hx] at hj; cases hj
    | some x =>
      rw [hx] at hj
      rcases h.quitAll hq hx with ⟨m, e, rfl⟩ | ⟨jb', own, sh, v, m, e, rfl⟩
      · cases hj
      · obtain rfl : jb' = jb := by simpa [WSt.job] using hj
        obtain ⟨k, _, h1, h2, h3, h4⟩ := h.wk i _ hx
        exact ⟨own, sh, v, m, e, rfl, h2, by simp [valsOf, hx], by simp [ownsOf, hx, WSt.own], h3 W (.refl _ _ _), h4 (by omega)⟩
  have hown : ∀ i jb b, jobs i = some jb → ownsOf st i b → (agents (Own, Sh) st (i + 1)).1 b := fun i jb b hj hb => by
    obtain ⟨own, sh, v, m, e, hx, _, _, ho, _⟩ := key i jb hj
    rw [agents_at _ hx]
    rw [ho] at hb
    exact hb
  have hcel : ∀ i jb b o, jobs i = some jb → jb.cel b o → (agents (Own, Sh) st (i + 1)).2.cel b o := fun i jb b o hj hb => by
    obtain ⟨own, sh, v, m, e, hx, hJ, _, ho, _⟩ := key i jb hj
    rw [agents_at _ hx]
    exact (hJ.cel _ _).2 hb
  refine ⟨fun i jb hj => ?_, fun i jb b hj hb => ?_, fun i j jb jb' b hj hj' hne hb hb' => ?_, fun i jb b o j jb' hj hc hj' => ?_, fun i jb b o hj hc => ?_⟩
  · obtain ⟨own, sh, v, m, e, hx, hJ, hv, ho, hp, hh⟩ := key i jb hj
    rw [hv, ho]
    exact ⟨hh, hp⟩
  · have := hown i jb b hj hb
    exact ⟨h.sep.lt _ _ (.inl this), h.sep.own _ 0 _ this (by omega), h.sep.sh _ 0 _ this⟩
  · exact h.sep.own _ _ _ (hown i jb b hj hb) (by omega) (hown j jb' b hj' hb')
  · have := hcel i jb b o hj hc
    exact ⟨fun ho => (h.sep.cel _ (j + 1) _ _ this).1 (hown j jb' b hj' ho), (h.sep.cel _ 0 _ _ this).1, (h.sep.cel _ 0 _ _ this).2⟩
  · exact h.sep.ltc _ _ _ (hcel i jb b o hj hc)
/-- The join. -/
theorem Inv.join (h : Inv P W0 lo Wg B 0 .ke Gp Own Sh jobs st m0 gs W t) {g' : Goroutine} (hg : stepG P true m0 W = .go g' W #[ConcR.mk (.acquire (ConcR.stA Wg))]) {Own' : Blk} {Sh' : Shd} (hj : Joins lo Own Sh jobs (ownsOf st) Own' Sh') (sl : Option (Nat × Nat)) :
    ∃ gs' u st', st'.length = st.length ∧ runT P (crowd gs W sl) 0 = (.next (crowd gs' W sl), u) ∧ Inv P W0 lo Wg 0 0 .ret Gp Own' Sh' (fun _ => none) st' g' gs' W (t ++ u) := by
  obtain ⟨s, m, hG, hw, hmode, hB⟩ := h.liveG (by simp)
  have hq : ConcN.AllQuit st.length (Df st) := by
    cases hmode with
    | opn h1 _ _ => exact h1.elim
    | reg h1 _ _ => exact h1.elim
    | last _ h1 _ _ _ => exact h1.elim
    | fin _ h2 => exact h2
  have hH := h.handed hq
  refine ⟨_, _, st.map WSt.left, by simp, runT_crowd_go (i := 0) h.main hg, ?_⟩
  have hx : ∀ (i : Nat) (y : WSt), (st.map WSt.left)[i]? = some y → ∃ x, st[i]? = some x ∧ y = x.left := fun i y hy => by
    rw [List.getElem?_map] at hy
    obtain ⟨x, h1, h2⟩ := Option.map_eq_some_iff.1 hy
    exact ⟨x, h1, h2.symm⟩
  have hleft : ∀ x : WSt, ∃ m e, x.left = .quit m e := fun x => by cases x <;> exact ⟨_, _, rfl⟩
  have hMine : ∀ b, Mine Own Sh jobs (ownsOf st) b → lo ≤ b ∧ b < W.heap.size ∧ ¬ Gp b := fun b hb => by
    rcases hb with hb | ⟨i, jb, hji, hb⟩ | ⟨o, hb⟩ | ⟨i, jb, o, hji, hb⟩
    · exact ⟨h.sep.los 0 b hb, h.sep.lt 0 b (.inl hb), fun hg => h.sep.gown 0 b hg hb⟩
    · have ha : (agents (Own, Sh) st (i + 1)).1 b := by
        rw [h.jobs i] at hji
        cases hx : st[i]? with
        | none => rw [hx] at hji; cases hji
        | some x => rw [agents_at _ hx]; simpa [ownsOf, hx] using hb
      exact ⟨h.sep.los _ b ha, h.sep.lt _ b (.inl ha), fun hg => h.sep.gown _ b hg ha⟩
    · exact ⟨h.sep.loc 0 b o hb, h.sep.ltc 0 b o hb, fun hg => h.sep.gcel 0 b o hg hb⟩
    · have ha : (agents (Own, Sh) st (i + 1)).2.cel b o := by
        rw [h.jobs i] at hji
        cases hx : st[i]? with
        | none => rw [hx] at hji; cases hji
        | some x =>
          rw [hx] at hji
          rcases h.quitAll hq hx with ⟨m, e, rfl⟩ | ⟨jb', own, sh, v, m, e, rfl⟩
          · cases hji
          · obtain rfl : jb' = jb := by simpa [WSt.job] using hji
            obtain ⟨k, _, _, h2, _⟩ := h.wk i _ hx
            rw [agents_at _ hx]
            exact (h2.cel _ _).2 hb
      exact ⟨h.sep.loc _ b o ha, h.sep.ltc _ b o ha, fun hg => h.sep.gcel _ b o hg ha⟩
  have hA0 : agents (Own', Sh') (st.map WSt.left) 0 = (Own', Sh') := rfl
  have hAn : ∀ γ, γ ≠ 0 → agents (Own', Sh') (st.map WSt.left) γ = (fun _ => False, ⟨fun _ => False, fun _ _ => False, fun _ => False⟩) := fun γ hγ => by
    cases γ with
    | zero => exact absurd rfl hγ
    | succ j =>
      show (match (st.map WSt.left)[j]? with | some x => (x.own, x.sh) | none => (fun _ => False, nosh)) = _
      cases hy : (st.map WSt.left)[j]? with
      | none => rfl
      | some y =>
        obtain ⟨x, _, rfl⟩ := hx j y hy
        obtain ⟨m, e, he⟩ := hleft x
        simp only [he]
        rfl
  have hL : liveOf (st.map WSt.left) = fun _ => False := by
    funext γ
    refine propext ⟨fun ⟨j, z, e, h1, h2⟩ => ?_, fun h => h.elim⟩
    obtain ⟨x, _, rfl⟩ := hx j z h1
    obtain ⟨m, e, he⟩ := hleft x
    rw [he] at h2
    exact h2 rfl
  have hmode' : ∀ i x, st[i]? = some x → WOk P Wg W x.left ((gs[i + 1]?).getD default) := fun i x hi => by
    obtain ⟨k, h1, h2⟩ := h.wk i x hi
    rw [h1]
    rcases h.quitAll hq hi with ⟨m, e, rfl⟩ | ⟨jb', own, sh, v, m, e, rfl⟩
    · exact h2
    · obtain ⟨h3, _⟩ := h2
      cases h3 with
      | quit h3 => exact h3
  refine ⟨by simp [h.size], ?_, fun i y hy => ?_, by rw [Deaf_own, h.deaf]; rfl, fun i y hy => ?_, fun i y hy hr => ?_, ?_, ?_, h.bs, fun i => ?_, .idle rfl fun i y hy => ?_⟩
  · have : 0 < gs.size := by rw [h.size]; omega
    simp [this]
  · obtain ⟨x, hi, rfl⟩ := hx i y hy
    obtain ⟨k, h1, h2⟩ := h.wk i x hi
    have h3 := hmode' i x hi
    rw [h1] at h3
    exact ⟨k, by rw [get_woken _ _ _ _ _ (by omega), h1, Option.map_some, again_still h2], h3⟩
  · obtain ⟨x, hi, rfl⟩ := hx i y hy
    rw [Deaf_other t (g' := 0) (by omega) _ g_of, h.deafW i x hi]
    rcases h.quitAll hq hi with ⟨m, e, rfl⟩ | ⟨jb', own, sh, v, m, e, rfl⟩ <;> rfl
  · obtain ⟨x, hi, rfl⟩ := hx i y hy
    obtain ⟨m, e, he⟩ := hleft x
    rw [he] at hr
    exact hr.elim
  · exact h.sep.join (A' := agents (Own', Sh') (st.map WSt.left)) hA0 hAn hj.d1 hj.d2 (fun b hb => h.sep.grp 0 b (hj.grp b hb)) (fun b hb => by
      rcases hj.own b hb with h1 | ⟨h1, h2⟩
      · exact hMine b h1
      · exact ⟨h1, h.sep.lt 0 b (.inr h2), fun hg => h.sep.gsh 0 b hg h2⟩) (fun b hb => by
      rcases hj.rd b hb with h1 | h2
      · exact (hMine b h1).2
      · exact ⟨h.sep.lt 0 b (.inr h2), fun hg => h.sep.gsh 0 b hg h2⟩) fun b i hb => hMine b (hj.cel b i hb)
  · rw [hL, List.length_map]
    refine h.tr.join (by omega) h.deaf (fun γ ⟨j, x, e, h1, h2⟩ => ?_) (fun γ x p hin => ?_) _ _
    · subst e
      refine h.rel j x h1 ?_
      rcases h.quitAll hq h1 with ⟨m, e, rfl⟩ | ⟨jb', own, sh, v, m, e, rfl⟩
      · exact absurd rfl h2
      · exact (show 1 ≤ 6 by omega)
    · by_cases e : γ = 0
      · subst e
        refine ⟨rfl, ?_⟩
        rw [hA0] at hin
        rcases hin with hin | ⟨hin, _⟩ | hin
        · rcases hj.own _ hin with h1 | ⟨_, h2⟩
          · exact (hMine _ h1).2.2
          · exact fun hg => h.sep.gsh 0 _ hg h2
        · rcases hj.rd _ hin with h1 | h2
          · exact (hMine _ h1).2.2
          · exact fun hg => h.sep.gsh 0 _ hg h2
        · exact (hMine _ (hj.cel _ _ hin)).2.2
      · rw [hAn _ e] at hin
        rcases hin with hin | ⟨hin, _⟩ | hin <;> exact hin.elim
  · rw [List.getElem?_map]
    cases hi : st[i]? with
    | none => rfl
    | some x =>
      obtain ⟨m, e, he⟩ := hleft x
      simp [he, WSt.job]
  · obtain ⟨x, _, rfl⟩ := hx i y hy
    obtain ⟨m, e, he⟩ := hleft x
    rw [he]; rfl
end
end Go.Proofs.Ytkodpijedinanaa.Sim

namespace Go.Proofs.Ytkodpijedinanaa.Sim
open Go Go.Conc
set_option linter.unusedVariables false
set_option linter.unusedSimpArgs false

section
variable {P : Program} {Q : Machine → Outcome → World → Trace → Prop} {W0 : World} {lo Wg B d : Nat} {tag : ConcN.CTag} {Gp Own : Blk} {Sh : Shd} {jobs : Nat → Option Job} {st : List WSt} {m0 : Goroutine} {gs : Array Goroutine} {W : World} {t : Trace}
theorem exists_counted {D : Nat → ConcN.WD} : ∀ {j : Nat}, 1 ≤ ConcN.Vc j D → ∃ i, i < j ∧ 5 ≤ (D i).stage
  | 0, h => by simp [ConcN.Vc, ConcN.sumTo] at h
  | j + 1, h => by
    by_cases h5 : 5 ≤ (D j).stage
    · exact ⟨j, Nat.lt_succ_self j, h5⟩
    · have h0 : ConcN.cnt (D j) = 0 := by simp [ConcN.cnt, h5]
      have : 1 ≤ ConcN.Vc j D := by
        simp only [ConcN.Vc, ConcN.sumTo, h0] at h ⊢
        omega
      obtain ⟨i, h1, h2⟩ := exists_counted this
      exact ⟨i, by omega, h2⟩
theorem WOk.run {x : WSt} {g : Goroutine} (h : WOk P Wg W x g) (hs : x.wd.stage ≠ 1) : g.status = .running := by
  cases x with
  | work jb own sh g' w => obtain ⟨rfl, h1, _⟩ := h; exact h1.running
  | done jb own sh v s m e =>
    obtain ⟨h1, _⟩ := h
    cases h1 with
    | r0 h => exact Goes.running (fun _ _ x => x.1) W (ConcN.RW.refl W) h
    | k1 h => exact Goes.running (fun _ _ x => x.1) W (ConcN.RW.refl W) h
    | d1 h => exact Goes.running (fun _ _ x => x.1) W (ConcN.RW.refl W) h
    | d2 h => exact Goes.running (fun _ _ x => x.1) W (ConcN.RW.refl W) h
    | d3 h => exact Goes.running (fun _ _ x => x.1) W (ConcN.RW.refl W) h
    | d4 h => exact Goes.running (fun _ _ x => x.1) W (ConcN.RW.refl W) h
    | quit h => exact absurd rfl hs
  | quit m e => exact absurd rfl hs
/-- Main at the semaphore. -/
theorem run_sema {n : Nat} {g : Goroutine} (hB : B < 2147483648) (hg : g.status = .running) (ho : g.offers = none) (hblk : ∀ W1, Rely Own Sh W W1 → (∃ s, ConcR.WgAt tyWg Wg W1 s 0) → stepG P true g W1 = .go { g with status := .blocked } W1 #[])
    (hgo : ∀ W1, Rely Own Sh W W1 → ConcR.WgAt tyWg Wg W1 0 1 → ∃ g', stepG P true g W1 = .go g' (W1.setCell (ConcR.smA Wg) (.int .u32 0)) (semEvents (ConcR.smA Wg)))
    (hk : ∀ W1 g' st gs sl t, Rely Own Sh W W1 → ConcR.WgAt tyWg Wg W1 0 1 → stepG P true g W1 = .go g' (W1.setCell (ConcR.smA Wg) (.int .u32 0)) (semEvents (ConcR.smA Wg)) → st.length = n → Inv P W0 lo Wg 0 d .w4 Gp Own Sh jobs st g' gs (W1.setCell (ConcR.smA Wg) (.int .u32 0)) t → Ends P Q (crowd gs (W1.setCell (ConcR.smA Wg) (.int .u32 0)) sl) t) :
    ∀ st : List WSt, Acc (LLt (WLt P Wg)) st → (∀ gs W1 sl t, st.length = n → Rely Own Sh W W1 → Inv P W0 lo Wg B d .w3 Gp Own Sh jobs st g gs W1 t → Ends P Q (crowd gs W1 sl) t) ∧ (∀ gs W1 sl t, st.length = n → Rely Own Sh W W1 → Inv P W0 lo Wg B d .blk Gp Own Sh jobs st { g with status := .blocked } gs W1 t → Ends P Q (crowd gs W1 sl) t) := by
  intro st hacc
  induction hacc with
  | intro st _ ih =>
    have hb : ∀ gs W1 sl t, st.length = n → Rely Own Sh W W1 → Inv P W0 lo Wg B d .blk Gp Own Sh jobs st { g with status := .blocked } gs W1 t → Ends P Q (crowd gs W1 sl) t := by
      intro gs W1 sl t hn hr hI
      have hm : MainAt .blk ({ g with status := .blocked } : Goroutine) := .inr ⟨rfl, g, hg, ho, rfl⟩
      obtain ⟨s, m, hG, hw, hmode, hVB⟩ := hI.liveG (by simp)
      have hsome : ∃ (i : Nat) (g : Goroutine), gs[i]? = some g ∧ g.status = .running := by
        have h1 : ∃ i, i < st.length ∧ (Df st i).stage ≠ 1 := by
          cases hmode with
          | opn h1 _ _ => exact h1.elim
          | reg _ _ h3 => obtain ⟨i, h1, h2⟩ := exists_counted h3; exact ⟨i, h1, by omega⟩
          | last L _ h2 h3 _ => exact ⟨L, h2, by omega⟩
          | fin h1 _ => exact h1.elim
        obtain ⟨i, h1, h2⟩ := h1
        have hx := List.getElem?_eq_getElem h1
        obtain ⟨k, h4, h5⟩ := hI.wk i _ hx
        exact ⟨i + 1, k, h4, h5.run (by rw [← Df_at hx]; exact h2)⟩
      obtain ⟨i, g1, k, sl', hi, hgr, hpick⟩ := crowd_pick (P := P) (w := W1) (sl := sl) (hI.awake hm) hsome
      cases i with
      | zero => rw [hI.main] at hi; cases hi; cases hgr
      | succ j =>
        obtain ⟨gs', u, m0', tag', W', st', h1, h2, h3, h4, h5, h6⟩ := (hI.at k).worker hB hm hi hgr sl'
        have hr' := (hr.trans (rely_at Own Sh W1 k)).trans h6
        rcases h4 with ⟨rfl, rfl⟩ | ⟨_, rfl, e1, e2, e3⟩
        · exact .next (hpick.trans h3) ((ih _ h1).2 gs' W' sl' _ (h2.trans hn) hr' h5)
        · have he : m0' = g := by
            obtain ⟨a1, a2, a3, a4, a5⟩ := m0'
            obtain ⟨b1, b2, b3, b4, b5⟩ := g
            simp only [Goroutine.mk.injEq] at e3
            simp only at e1 hg
            simp_all
          subst he
          exact .next (hpick.trans h3) ((ih _ h1).1 gs' W' sl' _ (h2.trans hn) hr' h5)
    refine ⟨fun gs W1 sl t hn hr hI => ?_, hb⟩
    have hm : MainAt .w3 g := .inl ⟨hg, by simp⟩
    obtain ⟨i, g1, k, sl', hi, hgr, hpick⟩ := crowd_pick (P := P) (w := W1) (sl := sl) (hI.awake hm) ⟨0, g, hI.main, hg⟩
    have hI' := hI.at k
    have hr' := hr.trans (rely_at Own Sh W1 k)
    cases i with
    | zero =>
      obtain ⟨s, m, hG, hw, hmode, hVB⟩ := hI'.liveG (by simp)
      have hp3 : ConcN.pend .w3 = 0 := rfl
      have hpb : ConcN.pend .blk = 0 := rfl
      have wait : m = 0 → ConcN.Mode st.length (Df st) .blk s m → Ends P Q (crowd gs W1 sl) t := fun e hmode' => by
        subst e
        obtain ⟨gs', u, h1, h2, h3⟩ := hI'.main_book (B' := B) (tag' := .blk) (by simp) (hblk _ hr' ⟨s, hw⟩) (.refl Wg _) hw (by simp) hmode' (by omega) (fun e he => by simp at he) sl'
        exact .next (hpick.trans h1) (hb gs' _ sl' _ hn hr' h2)
      cases hmode with
      | opn h1 _ _ => exact h1.elim
      | reg h1 h2 h3 => exact wait rfl (.reg trivial h2 h3)
      | last L h1 h2 h3 h4 => exact wait rfl (.last L trivial h2 h3 h4)
      | fin h1 _ => exact h1.elim
      | sema h1 =>
        obtain ⟨g', h2⟩ := hgo _ hr' hw
        have hV : ConcN.Vc st.length (Df st) = 0 := by
          rcases Nat.eq_zero_or_pos (ConcN.Vc st.length (Df st)) with h | h
          · exact h
          · obtain ⟨i, h3, h4⟩ := exists_counted h
            have := h1 i h3
            omega
        have hp4 : ConcN.pend .w4 = 0 := rfl
        obtain ⟨gs', u, h3, h4, h5⟩ := hI'.main_book (B' := 0) (tag' := .w4) (s' := 0) (m' := 0) (by simp) h2 (aside_setCell _ (ConcR.smA Wg) _) (hw.setSm 0) (by simp) (.fin trivial h1) (by omega) (bk_book sem_bk) sl'
        have hd : deafBehind d (semEvents (ConcR.smA Wg)) = d := by simp [deafBehind, semEvents]
        rw [hd] at h4
        exact .next (hpick.trans h3) (hk _ g' st gs' sl' _ hr' hw h2 hn h4)
    | succ j =>
      obtain ⟨gs', u, m0', tag', W', st', h1, h2, h3, h4, h5, h6⟩ := hI'.worker hB hm hi hgr sl'
      rcases h4 with ⟨rfl, rfl⟩ | ⟨e, _⟩
      · exact .next (hpick.trans h3) ((ih _ h1).1 gs' W' sl' _ (h2.trans hn) (hr'.trans h6) h5)
      · cases e
theorem runT_crowd_ended {w w' : World} {sl : Option (Nat × Nat)} {i : Nat} {g : Goroutine} {o : Outcome} {es : Array Event} (hi : gs[i]? = some g) (h : stepG P (i == 0) g w = .ended o w' es) :
    runT P (crowd gs w sl) i = (.ended o w', MemOp.ofEvents i g.frame.fn g.frame.place es) := by
  obtain ⟨hlt, rfl⟩ := Array.getElem?_eq_some_iff.1 hi
  have hsw := swapAt_of_lt hlt { (default : Goroutine) with status := .finished }
  show runT P { world := w, gs := gs, rest := { timers := #[], alone := none, slice := sl } } i = _
  unfold runT
  simp only [hsw, h, GStep.es]
theorem EvIn.grow {e : Event} {w w' : World} (h : EvIn Own Sh e) : EvIn (Grow Own w w') Sh e := by
  cases h with
  | cell p wr h => exact .cell p wr (h.imp .inl id)
  | obj r s => exact .obj r s
  | noRoom => exact .noRoom
end
/-- ████ -/
theorem main_ends {P : Program} {W0 : World} {lo : Nat} {Post : Value → World → Prop} {n : Nat} {jobs : Nat → Option Job} {tag : ConcN.CTag} {Wg B d : Nat} {Sh : Shd} {Own : Blk} {g : Goroutine} {W : World} (h : MGo P W0 lo Post n jobs tag Wg B d Sh Own g W) :
    ∀ Gp st gs W1 sl t, B < 2147483648 → st.length = n → Inv P W0 lo Wg B d tag Gp Own Sh jobs st g gs W1 t → Rely Own Sh W W1 → Ends P (Conc.Good P Post) (crowd gs W1 sl) t := by
  induction h with
  | step hg ht h1 h2 ih =>
    intro Gp st gs W1 sl t hB
    refine run_main hB hg ht (fun st gs W1 sl t hn hI hr => ?_) st gs W1 sl t
    obtain ⟨g', W', es, e1, e2, _⟩ := h1 W1 hr hI.bs
    obtain ⟨gs', u, e3, e4⟩ := hI.main_step e1 e2 sl
    exact .inl ⟨_, u, e3, ih W1 hr hI.bs _ _ _ e1 Gp st gs' W' sl _ hB hn e4 (.refl _ _ _)⟩
  | low hg ht h1 ih =>
    intro Gp st gs W1 sl t hB hn hI hr
    exact ih (fun b hb => hI.sep.los 0 b hb) (fun b h1 h2 => hI.sep.sh 0 0 b h1 h2) (fun b i h1 => hI.sep.cel 0 0 b i h1) Gp st gs W1 sl t hB hn hI hr
  | part h1 h2 h3 h4 h5 h6 _ ih =>
    intro Gp st gs W1 sl t hB hn hI hr
    exact ih Gp st gs W1 sl t hB hn (hI.part h1 h2 h3 h4 h5 h6) (hr.less (fun x hx => by
      rcases hx with hx | hx
      · exact .inl (h1 x hx)
      · exact (h2 x hx).symm) (fun x o hx => (h3 x o hx).imp id .inl) fun x hx => .inl (h4 x hx))
  | @mkgrp n jobs Wg B d Sh Own g W hg hj h1 h2 ih =>
    intro Gp st gs W1 sl t hB
    refine run_main hB hg (by simp) (fun st gs W1 sl t hn hI hr => ?_) st gs W1 sl t
    obtain ⟨g', e1⟩ := h1 W1 hr
    obtain ⟨gs', u, e3, e4⟩ := hI.mkgrp e1 sl
    exact .inl ⟨_, u, e3, ih W1 g' hr e1 _ st gs' _ sl _ (by omega) hn e4 (.refl _ _ _)⟩
  | @book n jobs tag Wg B d Sh Own g g' W es hg ht ht' h1 h2 _ ih =>
    intro Gp st gs W1 sl t hB
    refine run_main hB hg ht' (fun st gs W1 sl t hn hI hr => ?_) st gs W1 sl t
    obtain ⟨s, m, hG, hw, hmode, hVB⟩ := hI.liveG ht
    obtain ⟨gs', u, e3, e4, e5⟩ := hI.main_book ht (h1 W1 hr) (.refl Wg _) hw ht hmode hVB (mark_book h2) sl
    exact .inl ⟨_, u, e3, ih Gp st gs' W1 sl _ hB hn e4 hr⟩
  | @add n jobs Wg B d Sh Own g W hg hB' h1 h2 ih =>
    intro Gp st gs W1 sl t hB
    refine run_main hB hg (by simp) (fun st gs W1 sl t hn hI hr => ?_) st gs W1 sl t
    obtain ⟨s, m, hG, hw, hmode, hVB⟩ := hI.liveG (by simp)
    obtain ⟨hO, rfl, rfl⟩ := opn_of hmode
    have hp : ConcN.pend .kd = 0 := rfl
    have hp' : ConcN.pend (.sp 0 0) = 1 := rfl
    obtain ⟨g', e1⟩ := h1 W1 (ConcN.Vc st.length (Df st)) hr (by omega) hw
    have hm : ConcN.Mode st.length (Df st) (.sp 0 0) (((ConcN.Vc st.length (Df st) : Nat) + 1) * ConcR.KK) 0 := by
      have := ConcN.Mode.opn (j := st.length) (D := Df st) (tag := .sp 0 0) trivial hO (fun vs e => by cases e)
      rw [hp'] at this
      simpa using this
    obtain ⟨gs', u, e3, e4, e5⟩ := hI.main_book (B' := B + 1) (tag' := .sp 0 0) (by simp) e1 (aside_setCell _ (ConcR.stA Wg) _) (hw.setSt _) (by simp) hm (by omega) (bk_book rw_bk) sl
    exact .inl ⟨_, u, e3, ih W1 _ g' hr (by omega) hw e1 Gp st gs' _ sl _ hB' hn e4 (.refl _ _ _)⟩
  | @spawn n jobs Wg B Sh Sc Sh' Own g g' child W jb hg hg' h1 ht h2 h3 _ ih =>
    intro Gp st gs W1 sl t hB
    refine run_main hB hg (by simp) (fun st gs W1 sl t hn hI hr => ?_) st gs W1 sl t
    obtain ⟨gs', u, e3, e4⟩ := hI.spawn hg (h1 W1 hr) ht h3 (hr.less (fun x hx => by
      rcases hx with hx | hx
      · exact hx.elim
      · exact .inr (ht.rd x hx)) (fun x o hx => .inl (ht.cel x o hx)) fun x hx => .inl (ht.grp x hx)) sl
    rw [hn] at e4
    exact .inl ⟨_, u, e3, ih Gp _ gs' W1 sl _ hB (by simp [hn]) e4 (hr.less (fun x hx => by
      rcases hx with hx | hx
      · exact .inl hx
      · exact .inr (ht.rd' x hx)) (fun x o hx => .inl (ht.cel' x o hx).1) fun x hx => .inl (ht.grp' x hx))⟩
  | @load n jobs Wg B d Sh Own g W hg h1 h2 h3 ih1 ih2 =>
    intro Gp st gs W1 sl t hB
    refine run_main hB hg (by simp) (fun st gs W1 sl t hn hI hr => ?_) st gs W1 sl t
    obtain ⟨s, m, hG, hw, hmode, hVB⟩ := hI.liveG (by simp)
    obtain ⟨hO, rfl, rfl⟩ := opn_of hmode
    have hp : ConcN.pend .kd = 0 := rfl
    obtain ⟨g', e1⟩ := h1 W1 (ConcN.Vc st.length (Df st)) hr (by omega) hw
    rcases Nat.eq_zero_or_pos (ConcN.Vc st.length (Df st)) with h0 | h0
    · have hw0 : ConcR.WgAt tyWg Wg W1 0 0 := by rw [h0] at hw; simpa using hw
      obtain ⟨gs', u, e3, e4, e5⟩ := hI.main_book (B' := 0) (tag' := .ke) (by simp) e1 (.refl Wg _) hw0 (by simp) (.fin trivial (allQuit_of hO h0)) (by rw [h0]; exact Nat.le_refl _) (bk_book rd_bk) sl
      exact .inl ⟨_, u, e3, ih1 W1 _ g' hr (by omega) hw e1 h0 Gp st gs' W1 sl _ (by omega) hn e4 (.refl _ _ _)⟩
    · obtain ⟨gs', u, e3, e4, e5⟩ := hI.main_book (B' := ConcN.Vc st.length (Df st)) (tag' := .kd) (by simp) e1 (.refl Wg _) hw (by simp) hmode (by omega) (bk_book rd_bk) sl
      exact .inl ⟨_, u, e3, ih2 W1 _ g' hr (by omega) hw e1 h0 Gp st gs' W1 sl _ (by omega) hn e4 (.refl _ _ _)⟩
  | @cas n jobs Wg B d Sh Own g W hg hB1 h1 h2 h3 h4 ih1 ih2 =>
    intro Gp st gs W1 sl t hB
    refine run_main hB hg (by simp) (fun st gs W1 sl t hn hI hr => ?_) st gs W1 sl t
    obtain ⟨s, m, hG, hw, hmode, hVB⟩ := hI.liveG (by simp)
    obtain ⟨hO, rfl, rfl⟩ := opn_of hmode
    have hp : ConcN.pend .kd = 0 := rfl
    have hp3 : ConcN.pend .w3 = 0 := rfl
    rcases Nat.lt_or_ge (ConcN.Vc st.length (Df st)) B with h0 | h0
    · obtain ⟨g', e1⟩ := h2 W1 (ConcN.Vc st.length (Df st)) hr h0 hw
      obtain ⟨gs', u, e3, e4, e5⟩ := hI.main_book (B' := ConcN.Vc st.length (Df st)) (tag' := .kd) (by simp) e1 (.refl Wg _) hw (by simp) hmode (by omega) (bk_book rd_bk) sl
      exact .inl ⟨_, u, e3, ih2 W1 _ g' hr h0 hw e1 Gp st gs' W1 sl _ (by omega) hn e4 (.refl _ _ _)⟩
    · have hVe : ConcN.Vc st.length (Df st) = B := by omega
      have hw' : ConcR.WgAt tyWg Wg W1 (B * ConcR.KK) 0 := by rw [← hVe]; exact hw
      obtain ⟨g', e1⟩ := h1 W1 hr hw'
      have hm : ConcN.Mode st.length (Df st) .w3 ((B : Int) * ConcR.KK + 1) 0 := by
        have := ConcN.Mode.reg (j := st.length) (D := Df st) (tag := .w3) trivial hO (by omega)
        rwa [hVe] at this
      obtain ⟨gs', u, e3, e4, e5⟩ := hI.main_book (B' := B) (tag' := .w3) (by simp) e1 (aside_setCell _ (ConcR.stA Wg) _) (hw'.setSt _) (by simp) hm (by omega) (bk_book rw_bk) sl
      exact .inl ⟨_, u, e3, ih1 W1 g' hr hw' e1 Gp st gs' _ sl _ hB hn e4 (.refl _ _ _)⟩
  | @sema n jobs Wg B d Sh Own g W hg ho h1 h2 h3 ih =>
    intro Gp st gs W1 sl t hB hn hI hr
    exact (run_sema hB hg ho h1 h2 (fun W1 g' st gs sl t hr hw he hn hI => ih W1 g' hr hw he Gp st gs _ sl t (by omega) hn hI (.refl _ _ _)) st hI.acc).1 gs W1 sl t hn hr hI
  | @again n jobs Wg B d Sh Own g W hg h1 h2 ih =>
    intro Gp st gs W1 sl t hB
    refine run_main hB hg (by simp) (fun st gs W1 sl t hn hI hr => ?_) st gs W1 sl t
    obtain ⟨s, m, hG, hw, hmode, hVB⟩ := hI.liveG (by simp)
    have hfin : s = 0 ∧ m = 0 ∧ ConcN.AllQuit st.length (Df st) := by
      cases hmode with
      | opn h1 _ _ => exact h1.elim
      | reg h1 _ _ => exact h1.elim
      | last _ h1 _ _ _ => exact h1.elim
      | fin _ h2 => exact ⟨rfl, rfl, h2⟩
    obtain ⟨rfl, rfl, hq⟩ := hfin
    obtain ⟨g', e1⟩ := h1 W1 hr hw
    have hV : ConcN.Vc st.length (Df st) = 0 := by
      rcases Nat.eq_zero_or_pos (ConcN.Vc st.length (Df st)) with h | h
      · exact h
      · obtain ⟨i, h3, h4⟩ := exists_counted h
        have := hq i h3
        omega
    obtain ⟨gs', u, e3, e4, e5⟩ := hI.main_book (B' := 0) (tag' := .ke) (by simp) e1 (.refl Wg _) hw (by simp) (.fin trivial hq) (by rw [hV]; exact Nat.le_refl _) (bk_book rd_bk) sl
    exact .inl ⟨_, u, e3, ih W1 g' hr hw e1 Gp st gs' W1 sl _ (by omega) hn e4 (.refl _ _ _)⟩
  | @acq n jobs Wg B Sh Own g g' W O S hg h1 h2 h3 ih =>
    intro Gp st gs W1 sl t hB
    refine run_main hB hg (by simp) (fun st gs W1 sl t hn hI hr => ?_) st gs W1 sl t
    obtain ⟨s, m, hG, hw, hmode, hVB⟩ := hI.liveG (by simp)
    have hq : ConcN.AllQuit st.length (Df st) := by
      cases hmode with
      | opn h1 _ _ => exact h1.elim
      | reg h1 _ _ => exact h1.elim
      | last _ h1 _ _ _ => exact h1.elim
      | fin _ h2 => exact h2
    have hH := hI.handed hq
    obtain ⟨gs', u, st', e0, e3, e4⟩ := hI.join (h1 W1 hr) (h2 W1 _ _ hr hH) sl
    exact .inl ⟨_, u, e3, ih W1 _ _ hr hH Gp st' gs' W1 sl _ (by omega) (e0.trans hn) e4 (.refl _ _ _)⟩
  | @ret n jobs Wg B Sh Own g W hg hp h1 =>
    intro Gp st gs W1 sl t hB
    refine run_main hB hg (by simp) (fun st gs W1 sl t hn hI hr => ?_) st gs W1 sl t
    obtain ⟨v, es, e1, e2, e3⟩ := h1 W1 hr hI.bs
    have hrun := runT_crowd_ended (i := 0) (sl := sl) hI.main e1
    refine .inr ⟨_, _, _, hrun, fun W2 sl2 => ⟨v, rfl, e3, ?_⟩⟩
    have hT := hI.tr.own hI.sep (γ := 0) (.inl rfl) (by omega) (w := W1) (w' := W1) rfl (Nat.le_refl _) (fn := g.frame.fn) (pos := g.frame.place) (es := es) fun e he => (e2 e he).grow
    have hquit : ∀ (i : Nat) (x : WSt), st[i]? = some x → ∃ m e, x = .quit m e := fun i x hx => by
      have := hI.jobs i
      rw [hp i, hx] at this
      cases x with
      | work => cases this
      | done => cases this
      | quit m e => exact ⟨m, e, rfl⟩
    refine ⟨hT.clean, hT.handed fun γ ⟨j, x, _, hx, hj⟩ => ?_, ⟨fun h hh => ?_, rfl⟩, fun i h hi hne => ?_⟩
    · obtain ⟨m, e, rfl⟩ := hquit j x hx
      exact hj rfl
    · obtain ⟨i, hi⟩ := List.getElem?_of_mem hh
      rw [List.getElem?_drop] at hi
      have hi' : gs[i + 1]? = some h := by
        rw [← Array.getElem?_toList, Nat.add_comm]; exact hi
      have hjl : i < st.length := by
        have := (Array.getElem?_eq_some_iff.1 hi').1
        rw [hI.size] at this; omega
      have hsj := List.getElem?_eq_getElem hjl
      obtain ⟨k, h4, h5⟩ := hI.wk i _ hsj
      rw [hi'] at h4
      cases h4
      obtain ⟨m, e, hk⟩ := hquit i _ hsj
      rw [hk] at h5
      exact ⟨m, (show QuitsD P m e h from h5).leaves⟩
    · cases i with
      | zero => exact absurd rfl hne
      | succ i =>
        have hi' : gs[i + 1]? = some h := hi
        have hjl : i < st.length := by
          have := (Array.getElem?_eq_some_iff.1 hi').1
          rw [hI.size] at this; omega
        have hsj := List.getElem?_eq_getElem hjl
        obtain ⟨k, h4, h5⟩ := hI.wk i _ hsj
        rw [hi'] at h4
        cases h4
        obtain ⟨m, e, hk⟩ := hquit i _ hsj
        rw [hk] at h5
        refine ⟨m, ?_⟩
        have hdf := hI.deafW i _ hsj
        rw [hk] at hdf
        show h.endsWith P _ m (Deaf _ (i + 1)) = some 0
        rw [Deaf_other t (g' := 0) (by omega) _ g_of, hdf]
        exact (show QuitsD P m e h from h5).hears _
end Go.Proofs.Ytkodpijedinanaa.Sim

namespace Go.Proofs.Ytkodpijedinanaa.Sim
open Go Go.Conc
set_option linter.unusedVariables false
set_option linter.unusedSimpArgs false

/-- An activation, matched. -/
structure Mat (P : Program) (F Own : Blk) (Sh : Shd) (ρ : Ren) (a A : Act) (w W : World) : Prop where
  row : RowRel ρ a.tmps A.tmps
  d : a.defers = []
  wr : WRel ρ w W
  above : Above P ρ
  size : P.globals.size ≤ w.heap.size
  size' : P.globals.size ≤ W.heap.size
  fz : Froz F w
  own : ∀ a b, ρ a b → ¬ F a → Own b
  sh : ∀ a b, ρ a b → F a → ¬ Opq w a → Sh b
theorem Mat.inn {P : Program} {F Own : Blk} {Sh : Shd} {ρ : Ren} {a A : Act} {w W : World} (h : Mat P F Own Sh ρ a A w W) (x y : Nat) (hxy : ρ x y) : (Own y ∨ Sh y) ∨ Opq w x := by
  by_cases hF : F x
  · by_cases ho : Opq w x
    · exact .inr ho
    · exact .inl (.inr (h.sh x y hxy hF ho))
  · exact .inl (.inl (h.own x y hxy hF))
theorem Mat.rely {P : Program} {F Own : Blk} {Sh : Shd} {ρ : Ren} {a A : Act} {w W W1 : World} (h : Mat P F Own Sh ρ a A w W) (hr : Rely Own Sh W W1) : Mat P F Own Sh ρ a A w W1 :=
  { h with wr := h.wr.rely hr h.inn, size' := Nat.le_trans h.size' hr.size }
theorem grow_self (Own : Blk) (W : World) : Grow Own W W = Own := by
  funext b
  refine propext ⟨fun h => ?_, fun h => .inl h⟩
  rcases h with h | ⟨h1, h2⟩
  · exact h
  · omega
theorem Did.idle (Own : Blk) (Sh : Shd) (W : World) {es : Array Event} (h : ∀ e ∈ es, EvIn Own Sh e) : Did Own Sh W W es := ⟨Nat.le_refl _, fun _ _ _ _ => rfl, fun _ _ _ _ _ => rfl, .refl _, rfl, rfl, rfl, fun e he => (h e he).grow⟩
/-- A step that turns nothing. -/
theorem Goes'.ctl {P : Program} {main : Bool} {Sh : Shd} {Stop : Blk → Goroutine → World → Prop} {Own : Blk} {g g' : Goroutine} {W : World} (hg : g.status = .running) (hg' : g'.status = .running) (hs : ∀ W1, Rely Own Sh W W1 → stepG P main g W1 = .go g' W1 #[])
    (hn : ∀ W1, Rely Own Sh W W1 → Goes' P main Sh Stop Own g' W1) : Goes' P main Sh Stop Own g W := by
  refine .step hg (fun W1 hr => ⟨g', W1, #[], hs W1 hr, .idle _ _ _ (fun e he => by simp at he), hg'⟩) fun W1 hr g2 W2 es he => ?_
  rw [hs W1 hr] at he
  simp only [GStep.go.injEq] at he
  obtain ⟨rfl, rfl, rfl⟩ := he
  rw [grow_self]
  exact hn W1 hr
/-- Where a piece stops. -/
def PieceT (P : Program) (b : Frame) (Q : Exit → Act → World → Prop) : Stack → World → Prop := fun s w =>
  s.2 = [zed P] ∧ ∃ a, (s.1 = b.at a sink ∧ ∃ τ d, Q .normal a (lay w τ d)) ∨ (∃ todo, s.1 = { b.at a todo with mode := .returning } ∧ ∃ τ d, Q .ret a (lay w τ d))
theorem pieceT_ok (P : Program) (b : Frame) (Q : Exit → Act → World → Prop) : StopOk (PieceT P b Q) where
  lay := fun s w τ d h => by
    obtain ⟨h0, a, h⟩ := h
    refine ⟨h0, a, ?_⟩
    rcases h with ⟨h1, τ', d', h2⟩ | ⟨todo, h1, τ', d', h2⟩
    · exact .inl ⟨h1, τ', d', h2⟩
    · exact .inr ⟨todo, h1, τ', d', h2⟩
  over := fun s w h => by rw [h.1]; simp
  mode := fun s w h => by
    obtain ⟨_, a, h⟩ := h
    rcases h with ⟨h1, _⟩ | ⟨todo, h1, _⟩ <;> rw [h1]
    · exact .inl rfl
    · exact .inr rfl
theorem lay_self (w : World) : lay w w.tape w.drawn = w := rfl
/-- A piece of code, by its lone contract. -/
theorem piece {P : Program} (hF : FnsOk2 P) {main : Bool} {F Own : Blk} {Sh : Shd} {ρ : Ren} {a A : Act} {w W : World} (m : Mat P F Own Sh ρ a A w W) {c : Code} (hc : okCode P c = true) {b B : Frame} (hb : b.kind = .normal) (hB : B.kind ≠ .early) (hfn : B.fn = b.fn) (hres : ∃ fn, P.funcs[b.fn]? = some fn ∧ resB fn = true)
    {Q : Exit → Act → World → Prop} (hQ : ∀ e a w, Q e a w → e = .normal ∨ e = .ret) (hwp : ∀ τ d, c.wp P Q a (lay w τ d)) (k : List Item) (RB : List Frame) {Stop : Blk → Goroutine → World → Prop}
    (hn : ∀ ρ' a' A' w' W' Own', Mat P F Own' Sh ρ' a' A' w' W' → A'.defers = A.defers → Ren.le ρ ρ' → (∀ b, Own b → Own' b) → (∃ τ d, Q .normal a' (lay w' τ d)) → Goes' P main Sh Stop Own' (G (B.at A' k) RB) W')
    (hr : ∀ ρ' a' A' w' W' Own', Mat P F Own' Sh ρ' a' A' w' W' → A'.defers = A.defers → Ren.le ρ ρ' → (∀ b, Own b → Own' b) → (∃ τ d, Q .ret a' (lay w' τ d)) → ∀ todo, Goes' P main Sh Stop Own' (G { B.at A' todo with mode := .returning } RB) W') :
    Goes' P main Sh Stop Own (G (B.at A (.code c :: k)) RB) W := by
  have hg : GRel P ⟨k, B.kind, A.defers⟩ RB ρ (b.at a (.code c :: sink), [zed P]) (B.at A (.code c :: k), RB) := by
    refine StackRel.base rfl ⟨rfl, rfl⟩ ⟨hfn, m.row, ⟨[.code c], by simp [okItem, hc], rfl, rfl, fun h => by cases h⟩, rfl, .inl rfl, ⟨m.d, rfl, hb⟩, ⟨rfl, hB⟩, fun h => by simp [sink] at h, fun h => by simp [sink] at h, hres⟩
  have hmir : Mir P ⟨k, B.kind, A.defers⟩ RB ρ (b.at a (.code c :: sink), [zed P]) (B.at A (.code c :: k), RB) w W := ⟨hg, m.wr, m.above, m.size, m.size'⟩
  have htree : Tree P (PieceT P b Q) (b.at a (.code c :: sink), [zed P]) w := by
    refine tree_of_runs hF (pieceT_ok P b Q) hmir fun τ => ?_
    obtain ⟨e, a', w', hq, harr⟩ := hwp τ 0 b sink [zed P]
    rcases hQ e a' w' hq with rfl | rfl
    · obtain ⟨n, hn⟩ := harr
      exact ⟨n, (b.at a' sink, [zed P]), w', hn, rfl, a', .inl ⟨rfl, w'.tape, w'.drawn, hq⟩⟩
    · obtain ⟨todo, n, hn⟩ := harr
      exact ⟨n, ({ b.at a' todo with mode := .returning }, [zed P]), w', hn, rfl, a', .inr ⟨todo, rfl, w'.tape, w'.drawn, hq⟩⟩
  have hgoes := goes_of_tree (main := main) hF (pieceT_ok P b Q) htree (ρ0 := ρ) (Own0 := Own) (Ren.le.refl _) (fun _ h => h) ⟨hmir, m.fz, m.own, m.sh⟩
  refine hgoes.bind fun Own' g W' hst => ?_
  obtain ⟨ρ', s, S, w', hT, rfl, hrel, hwr, hab, hs1, hs2, hfz, hle, ho, hsh, hO⟩ := hst
  obtain ⟨s1, s2⟩ := s
  obtain ⟨S1, S2⟩ := S
  obtain ⟨hs0, a', hT⟩ := hT
  simp only at hs0 hT ⊢
  subst hs0
  rcases hT with ⟨rfl, τ, d, hq⟩ | ⟨todo, rfl, τ, d, hq⟩
  · rcases hrel with hrel | ⟨_, _, hm, _⟩
    · unfold GRel at hrel
      simp only at hrel
      cases hrel with
      | base hm hk hf =>
        obtain ⟨u, hu1, hu2, hu3, _⟩ := hf.todo
        have hu : u = [] := by
          have : (b.at a' sink).todo = sink := rfl
          rw [this] at hu2
          cases u with
          | nil => rfl
          | cons x u => have := congrArg List.length hu2; simp at this; omega
        subst hu
        have hS : S1 = B.at ⟨S1.tmps, A.defers⟩ k := by
          obtain ⟨q1, q2, q3, q4, q5, q6, q7⟩ := S1
          have h1 : q1 = b.fn := hf.fn
          have h2 : q5 = .run := hf.mode
          have h3 : q4 = A.defers := hk.2
          have h4 : q7 = none := hf.calm'.1
          have h5 : q6 = B.kind := hk.1
          have h6 : q3 = k := hu3
          subst h1; subst h2; subst h3; subst h4; subst h5; subst h6
          simp [Frame.at, hfn]
        rw [hS]
        exact hn ρ' a' ⟨S1.tmps, A.defers⟩ w' W' Own' ⟨hf.row, hf.calm.1, hwr, hab, hs1, hs2, hfz, ho, hsh⟩ rfl hle hO ⟨τ, d, hq⟩
      | push hf hst => cases hst with | push _ h => cases h
    · cases hm
  · rcases hrel with hrel | ⟨_, hRB, hm, hk, hf⟩
    · unfold GRel at hrel
      simp only at hrel
      cases hrel with
      | base hm hk hf => cases hm
      | push hf hst => cases hst with | push _ h => cases h
    · simp only at hRB hk hf
      subst hRB
      have hS : S1 = { B.at ⟨S1.tmps, A.defers⟩ S1.todo with mode := .returning } := by
        obtain ⟨q1, q2, q3, q4, q5, q6, q7⟩ := S1
        have h1 : q1 = b.fn := hf.fn
        have h2 : q5 = .returning := hf.mode
        have h3 : q4 = A.defers := hk.2
        have h4 : q7 = none := hf.calm'.1
        have h5 : q6 = B.kind := hk.1
        subst h1; subst h2; subst h3; subst h4; subst h5
        simp [Frame.at, hfn]
      rw [hS]
      exact hr ρ' a' ⟨S1.tmps, A.defers⟩ w' W' Own' ⟨hf.row, hf.calm.1, hwr, hab, hs1, hs2, hfz, ho, hsh⟩ rfl hle hO ⟨τ, d, hq⟩ S1.todo
end Go.Proofs.Ytkodpijedinanaa.Sim

namespace Go.Proofs.Ytkodpijedinanaa.Sim
open Go Go.Conc
set_option linter.unusedVariables false
set_option linter.unusedSimpArgs false

/-- An operation, by what it does in the shadow. -/
theorem op_step {P : Program} (hF : FnsOk2 P) {main : Bool} {F Own : Blk} {Sh : Shd} {ρ : Ren} {a A : Act} {w W : World} (m : Mat P F Own Sh ρ a A w W) {B : Frame} (hB : B.kind ≠ .early) {ops : Array Oper} {i : Nat} {l : List Nat} {o : Oper} {k : List Item} {RB : List Frame}
    (ho : ops[i]? = some o) (hop : okOp P o.op = true) (hw : Region.wanted o (yielded ops a.tmps) = true) {v : Value} {w' : World}
    (hrun : (∀ τ d, (execOp a.eval o).run P (lay w τ d) = .ok (.value v) (lay w' τ d)) ∨ (v = undef ∧ ∀ τ d, (execOp a.eval o).run P (lay w τ d) = .ok .skip (lay w' τ d))) {Stop : Blk → Goroutine → World → Prop}
    (hn : ∀ ρ' v' W' Own', Mat P F Own' Sh ρ' (a.put o.dst v) (A.put o.dst v') w' W' → Ren.le ρ ρ' → (∀ b, Own b → Own' b) → VRel ρ' v v' → Goes' P main Sh Stop Own' (G (B.at (A.put o.dst v') (.inRegion ops l :: k)) RB) W') :
    Goes' P main Sh Stop Own (G (B.at A (.inRegion ops (i :: l) :: k)) RB) W := by
  have hwR : Region.wanted o (yielded ops A.tmps) = true := by rw [← yielded_eq m.row ops]; exact hw
  have key : ∀ W1, Rely Own Sh W W1 → ∃ ρ' v' W2 es, stepG P main (G (B.at A (.inRegion ops (i :: l) :: k)) RB) W1 = .go (G (B.at (A.put o.dst v') (.inRegion ops l :: k)) RB) W2 es ∧ Did Own Sh W1 W2 es ∧
      Mat P F (Grow Own W1 W2) Sh ρ' (a.put o.dst v) (A.put o.dst v') w' W2 ∧ Ren.le ρ ρ' ∧ VRel ρ' v v' := fun W1 hr => by
    have m1 := m.rely hr
    have hs := srel_op (e := a.eval) (e' := A.eval) (o := o) hF.fns m1.above hop (Act.evals a) (Act.evals A) (fun x hx => by
      have := eval_rel (f := ({ (default : Frame) with tmps := a.tmps } : Frame)) (F := ({ (default : Frame) with tmps := A.tmps } : Frame)) m1.row x hx
      cases x <;> exact this)
    have hsa := hs.above m1.above
    obtain ⟨n, hnr, hnv⟩ : ∃ n, (execOp a.eval o).run P (lay w W1.tape W1.drawn) = .ok n (lay w' W1.tape W1.drawn) ∧ ((n = .value v) ∨ (n = .skip ∧ v = undef)) := by
      rcases hrun with h | ⟨hv, h⟩
      · exact ⟨_, h _ _, .inl rfl⟩
      · exact ⟨_, h _ _, .inr ⟨rfl, hv⟩⟩
    obtain ⟨ρ', n', W2, es, e1, ⟨e2, e3⟩, e4⟩ := hsa.run (F := F) (lay w W1.tape W1.drawn) W1 #[] n (lay w' W1.tape W1.drawn) (m1.wr.lay _ _) (fun x hx => m1.fz x hx) m1.size m1.size' hnr (fun x hx q => rfl)
    have hrunR : (execOp A.eval o).run P W1 = .ok n' W2 := by rw [← Sem.runT_fst P _ W1 #[], e1]
    have hev : (execOp A.eval o).events P W1 #[] = es.toArray := by unfold Sem.events; rw [e1]; simp
    have hlt : ∀ x y, ρ' x y → y < W2.heap.size := fun x y hxy => by
      obtain ⟨_, _, _, h2, _⟩ := e4.rel.dom x y hxy
      exact (Array.getElem?_eq_some_iff.1 h2).1
    have hltw : ∀ x, F x → x < w.heap.size := fun x hx => m.fz.lt hx
    have ho' : ∀ x y, ρ' x y → ¬ F x → Grow Own W1 W2 y := fun x y hxy hF => by
      rcases e4.fresh x y hxy with h | ⟨_, h⟩
      · exact .inl (m.own x y h hF)
      · exact .inr ⟨h, hlt x y hxy⟩
    have hs' : ∀ x y, ρ' x y → F x → ¬ Opq (lay w' W1.tape W1.drawn) x → Sh y := fun x y hxy hF hno => by
      rcases e4.fresh x y hxy with h | ⟨h, _⟩
      · exact m.sh x y h hF fun ho => hno (e4.opq x ho)
      · exact absurd (hltw x hF) (Nat.not_lt.2 h)
    obtain ⟨v', hg, hvv⟩ : ∃ v', stepG P main (G (B.at A (.inRegion ops (i :: l) :: k)) RB) W1 = .go (G (B.at (A.put o.dst v') (.inRegion ops l :: k)) RB) W2 (listed P B.fn A o W1) ∧ VRel ρ' v v' := by
      rcases hnv with rfl | ⟨rfl, rfl⟩
      · cases e2 with
        | value hv => exact ⟨_, stepG_value ho hwR hB hrunR, hv⟩
      · cases e2 with
        | skip => exact ⟨_, stepG_none ho hwR hB hrunR, .tuple rfl (fun i v w a b => by simp at a)⟩
    have hkept : ∀ b, b < W1.heap.size → ¬ Own b → W2.heap[b]? = W1.heap[b]? := fun b hb hno => e4.kept b hb fun x hx => Classical.byContradiction fun hF => hno (m.own x b hx hF)
    refine ⟨ρ', v', W2, _, hg, ⟨e4.size', fun b hb hno _ => hkept b hb hno, fun b i hb hno _ => by simp only [World.cell?, hkept b hb hno], e4.shp', e4.tape', e4.os', e4.out', fun e he => ?_⟩, ⟨?_, ?_, e4.rel.lay w'.tape w'.drawn, e3, Nat.le_trans m1.size e4.size, Nat.le_trans m1.size' e4.size', fun x hx => e4.fz x hx, ho', hs'⟩, e4.le, hvv⟩
    · have he' := mem_listed he
      rw [hev] at he'
      have := e4.evs e (by simpa using he')
      have hnx := seen_extern (P := P) (fn := B.fn) (es := (execOp A.eval o).events P W1 #[]) (by unfold listed at he; exact he)
      cases this with
      | extern f => exact absurd rfl (hnx f)
      | cell p wr x hxy hw hrow =>
        refine .cell p wr ?_
        by_cases hFx : F x
        · refine .inr (.inl ⟨hs' x _ hxy hFx hrow.not, ?_⟩)
          cases wr with
          | true => exact absurd hFx (hw rfl)
          | false => rfl
        · exact .inl (ho' x _ hxy hFx)
      | obj r s x h => exact .obj r s
      | noRoom => exact .noRoom
    · have hrow := m1.row.mono e4.le
      unfold Act.put
      cases o.dst with
      | none => exact hrow
      | some t => exact hrow.set t hvv
    · unfold Act.put; cases o.dst <;> exact m.d
  refine .step rfl (fun W1 hr => ?_) fun W1 hr g' W' es hg => ?_
  · obtain ⟨ρ', v', W2, es, h1, h2, h3⟩ := key W1 hr
    exact ⟨_, _, _, h1, h2, rfl⟩
  · obtain ⟨ρ', v', W2, es2, h1, h2, h3, h4, h5⟩ := key W1 hr
    rw [h1] at hg
    simp only [GStep.go.injEq] at hg
    obtain ⟨rfl, rfl, rfl⟩ := hg
    exact hn ρ' v' W2 _ h3 h4 (fun b hb => .inl hb) h5
/-- Into a call. -/
theorem call_enter {P : Program} {main : Bool} {Sh : Shd} {Own : Blk} {A : Act} {W : World} {B : Frame} (hB : B.kind ≠ .early) {ops : Array Oper} {i : Nat} {l : List Nat} {o : Oper} {k : List Item} {RB : List Frame} (ho : ops[i]? = some o) (hw : Region.wanted o (yielded ops A.tmps) = true)
    {f : FuncId} {fn : Func} {c : Code} {args : Array Operand} {ats : Array TypeId} (hop : o.op = .call { callee := .value (.func f), args, argTypes := ats }) (hf : P.funcs[f]? = some fn) (hname : (fn.name == "runtime.NumGoroutine") = false) (hb : fn.body = some c) {Stop : Blk → Goroutine → World → Prop}
    (hn : ∀ W1, Rely Own Sh W W1 → Goes' P main Sh Stop Own (G ((base f).at { tmps := args.map A.eval ++ Array.replicate (fn.ntmps - (args.map A.eval).size) undef, defers := [] } [.code c]) (B.at A (.inRegion ops (i :: l) :: k) :: RB)) W1) :
    Goes' P main Sh Stop Own (G (B.at A (.inRegion ops (i :: l) :: k)) RB) W := by
  have hbn : fn.body.isNone = false := by rw [hb]; rfl
  refine Goes'.ctl rfl rfl (fun W1 _ => ?_) hn
  rw [stepG_enter ho hw hB (run_call_body hop hf hname hbn), enter_at _ hf hb]
  have : listed P B.fn A o W1 = #[] := by unfold listed; rw [events_call_body hop hf hname hbn]; exact seen_none _ _
  rw [this]
/-- Back to the caller, with two results. -/
theorem call_leave2 {P : Program} {main : Bool} {Sh : Shd} {Own : Blk} {A A0 : Act} {W : World} {B B0 : Frame} (hB : B.kind = .normal) (hd : A.defers = []) {fn : Func} (hf : P.funcs[B.fn]? = some fn) {t u : Tmp} (hr : fn.results = #[.tmp t, .tmp u]) {todo : List Item} {ops : Array Oper} {i : Nat} {l : List Nat} {o : Oper} {k : List Item} {RB : List Frame}
    (ho : ops[i]? = some o) {Stop : Blk → Goroutine → World → Prop}
    (hn : ∀ W1, Rely Own Sh W W1 → Goes' P main Sh Stop Own (G (B0.at (A0.put o.dst (.tuple #[A.tmps.getD t undef, A.tmps.getD u undef])) (.inRegion ops l :: k)) RB) W1) :
    Goes' P main Sh Stop Own (G { B.at A todo with mode := .returning } (B0.at A0 (.inRegion ops (i :: l) :: k) :: RB)) W := by
  refine Goes'.ctl rfl rfl (fun W1 _ => ?_) hn
  rw [stepG_leave hB hd hf (results_tmp2 hr _ _ _) (events_results_tmp2 hr _ _), Frame.finish_at, ho]
  rfl
end Go.Proofs.Ytkodpijedinanaa.Sim
