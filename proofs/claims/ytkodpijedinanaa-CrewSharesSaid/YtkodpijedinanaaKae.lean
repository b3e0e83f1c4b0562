/- Texts that the claim imports, laid together: CrE CrF CrG CrH CrI CrJ. No statement of their own. -/
import Derived.Conc.Own3
import Derived.Conc.Own2
import Derived.Conc.Own4
import Derived.Conc.DeferLaws
import Derived.Conc.Quits
import Derived.Test.YtkodpijedinanaaKad
namespace Go.Proofs.Ytkodpijedinanaa.Sim
open Go Go.Conc
set_option linter.unusedVariables false
set_option linter.unusedSimpArgs false

/-- Main's account: own steps, go statements, receipts of any worker's value, the return. -/
inductive MGo (P : Program) (W0 : World) (lo : Nat) (Post : Value → World → Prop) : Nat → (Nat → Option (Nat × Prm)) → Blk → Blk → Goroutine → World → Prop
  | step {n : Nat} {pend : Nat → Option (Nat × Prm)} {Sh Own : Blk} {g : Goroutine} {W : World} : g.status = .running →
      (∀ W1, Rely Own Sh W W1 → ∃ g' W' es, stepG P true g W1 = .go g' W' es ∧ Did Own Sh W1 W' es ∧ g'.status = .running) →
      (∀ W1, Rely Own Sh W W1 → ∀ g' W' es, stepG P true g W1 = .go g' W' es → MGo P W0 lo Post n pend Sh (Grow Own W1 W') g' W') → MGo P W0 lo Post n pend Sh Own g W
  | low {n : Nat} {pend : Nat → Option (Nat × Prm)} {Sh Own : Blk} {g : Goroutine} {W : World} : g.status = .running → ((∀ b, Own b → lo ≤ b) → MGo P W0 lo Post n pend Sh Own g W) → MGo P W0 lo Post n pend Sh Own g W
  | share {n : Nat} {pend : Nat → Option (Nat × Prm)} {Sh Own Give : Blk} {g : Goroutine} {W : World} : (∀ b, Give b → Own b) → MGo P W0 lo Post n pend (fun b => Sh b ∨ Give b) (fun b => Own b ∧ ¬ Give b) g W → MGo P W0 lo Post n pend Sh Own g W
  | spawn {n : Nat} {pend : Nat → Option (Nat × Prm)} {Sh Own Give : Blk} {g g' child : Goroutine} {W : World} {c : Nat} {pr : Prm} : g.status = .running → g'.status = .running →
      (∀ W1, Rely Own Sh W W1 → stepG P true g W1 = .spawn g' child W1 #[]) → (∀ b, Give b → Own b) →
      Goes' P false (fun b => Sh b ∨ Give b) (AtSnd P lo c pr (fun b => Sh b ∨ Give b)) (fun _ => False) child W →
      MGo P W0 lo Post (n + 1) (updP pend n (some (c, pr))) (fun b => Sh b ∨ Give b) (fun b => Own b ∧ ¬ Give b) g' W → MGo P W0 lo Post n pend Sh Own g W
  | recv {n : Nat} {pend : Nat → Option (Nat × Prm)} {Sh Own : Blk} {g : Goroutine} {W : World} {c : Nat} {z : Value} {f : Bool} : g.status = .running →
      (∃ i x, pend i = some x) → (∀ i x, pend i = some x → x.1 = c) → Sh c → lo ≤ c →
      (∀ W1, Rely Own Sh W W1 → stepG P true g W1 = .comm g #[rcase c z] true (.recv f) W1 #[] ∧ chanOpen W1 c) →
      (∀ i pr, pend i = some (c, pr) → ∀ W1 v B, Rely Own Sh W W1 → pr v W1 B → (∀ b, B b → b < W1.heap.size ∧ ¬ Own b ∧ ¬ Sh b) →
        MGo P W0 lo Post n (updP pend i none) Sh (fun b => Own b ∨ B b) (Conc.served g (recvd f v true)) W1) → MGo P W0 lo Post n pend Sh Own g W
  | ret {n : Nat} {pend : Nat → Option (Nat × Prm)} {Sh Own : Blk} {g : Goroutine} {W : World} : g.status = .running → (∀ i, pend i = none) →
      (∀ W1, Rely Own Sh W W1 → BaseOk W0 lo W1 → ∃ v es, stepG P true g W1 = .ended (.done v) W1 es ∧ (∀ e ∈ es, EvIn Own Sh e) ∧ Post v W1) → MGo P W0 lo Post n pend Sh Own g W
theorem MGo.of_goes {P : Program} {W0 : World} {lo : Nat} {Post : Value → World → Prop} {n : Nat} {pend : Nat → Option (Nat × Prm)} {Sh : Blk} {Stop : Blk → Goroutine → World → Prop} {Own : Blk} {g : Goroutine} {W : World} (h : Goes' P true Sh Stop Own g W)
    (k : ∀ Own g W, Stop Own g W → MGo P W0 lo Post n pend Sh Own g W) : MGo P W0 lo Post n pend Sh Own g W := by
  induction h with
  | stop h => exact k _ _ _ h
  | step hs h1 _ ih => exact .step hs h1 ih
theorem MGo.running {P : Program} {W0 : World} {lo : Nat} {Post : Value → World → Prop} {n : Nat} {pend : Nat → Option (Nat × Prm)} {Sh Own : Blk} {g : Goroutine} {W : World} (h : MGo P W0 lo Post n pend Sh Own g W) : g.status = .running := by
  induction h <;> assumption
/-- The run ends, and so. -/
def Ends (P : Program) (Q : Machine → Outcome → World → Trace → Prop) (m : Machine) (t : Trace) : Prop :=
  ∃ n last o w' t', runNT P (n + 1) m t = (.ended o w', t') ∧ runN P n m = .next last ∧ step P last = .ended o w' ∧ Q last o w' t'
section
variable {P : Program} {Q : Machine → Outcome → World → Trace → Prop} {W0 : World} {lo : Nat} {Own Sh : Blk} {pend : Nat → Option (Nat × Prm)} {st : List WSt} {m0 : Goroutine} {gs : Array Goroutine} {W : World} {t : Trace}
theorem Ends.next {m m' : Machine} {ops : Trace} (hs : stepT P m = (.next m', ops)) (h : Ends P Q m' (t ++ ops)) : Ends P Q m t := by
  obtain ⟨n, last, o, w, t', h1, h2, h3, h4⟩ := h
  exact ⟨n + 1, last, o, w, t', by rw [runNT_succ_next hs]; exact h1, by rw [runN_succ_next hs]; exact h2, h3, h4⟩
theorem Ends.last {m : Machine} {o : Outcome} {w : World} {ops : Trace} (hs : stepT P m = (.ended o w, ops)) (h : Q m o w (t ++ ops)) : Ends P Q m t :=
  ⟨0, m, o, w, t ++ ops, by simp [runNT, hs], rfl, by simp [step, hs], h⟩
/-- Main's own turn. -/
def Turn (P : Program) (Q : Machine → Outcome → World → Trace → Prop) (gs : Array Goroutine) (W : World) (sl : Option (Nat × Nat)) (t : Trace) : Prop :=
  (∃ m' u, runT P (crowd gs W sl) 0 = (.next m', u) ∧ Ends P Q m' (t ++ u)) ∨ ∃ o w' u, runT P (crowd gs W sl) 0 = (.ended o w', u) ∧ ∀ W2 sl2, Q (crowd gs W2 sl2) o w' (t ++ u)
theorem Inv.acc (h : Inv P W0 lo Own Sh pend st m0 gs W t) : Acc (LLt (WLt P)) st := acc_list fun i x hx => by
  obtain ⟨g, _, h2⟩ := h.wk i x hx
  exact h2.acc
theorem Inv.awake (h : Inv P W0 lo Own Sh pend st m0 gs W t) (hm : MainAt (lo := lo) Sh W m0) : ∀ g ∈ gs, Conc.awake g := fun g hg => by
  obtain ⟨j, hj⟩ := Array.getElem?_of_mem hg
  cases j with
  | zero =>
    rw [h.main] at hj
    cases hj
    intro τ e
    rcases hm with hm | ⟨g', c, z, f, rfl, _⟩
    · rw [hm] at e; cases e
    · cases e
  | succ j =>
    have hjl : j < st.length := by
      have := (Array.getElem?_eq_some_iff.1 hj).1
      rw [h.size] at this; omega
    obtain ⟨k', h4, h5⟩ := h.wk j _ (List.getElem?_eq_getElem hjl)
    rw [hj] at h4
    cases h4
    intro τ e
    generalize st[j] = y at h5
    cases y with
    | work c pr own sh g' w' => obtain ⟨rfl, h6, _⟩ := h5; rw [h6.running] at e; cases e
    | park c pr own sh => obtain ⟨g', v', k', rfl, _⟩ := h5; cases e
    | quit k => rcases (show QuitsIn P k g from h5).status with e' | e' <;> rw [e'] at e <;> cases e
/-- Main runs: if its own turns end the run well, so does any schedule. -/
theorem run_main {n : Nat} {W0' : World} (hg : m0.status = .running) (hmain : ∀ st gs W1 sl t, st.length = n → Inv P W0 lo Own Sh pend st m0 gs W1 t → Rely Own Sh W W1 → Turn P Q gs W1 sl t) :
    ∀ st gs W1 sl t, st.length = n → Inv P W0 lo Own Sh pend st m0 gs W1 t → Rely Own Sh W W1 → Ends P Q (crowd gs W1 sl) t := by
  intro st gs W1 sl t hn hI hr
  have hacc := hI.acc
  induction hacc generalizing gs W1 sl t with
  | intro st _ ih =>
    have hm : MainAt (lo := lo) Sh W1 m0 := .inl hg
    obtain ⟨i, g, d, sl', hi, hgr, hpick⟩ := crowd_pick (P := P) (w := W1) (sl := sl) (hI.awake hm) ⟨0, m0, hI.main, hg⟩
    have hI' := hI.at d
    have hr' := hr.trans (rely_at Own Sh W1 d)
    have hm' : MainAt (lo := lo) Sh (W1.at d) m0 := .inl hg
    cases i with
    | zero =>
      rcases hmain st gs (W1.at d) sl' t hn hI' hr' with ⟨m', u, h1, h2⟩ | ⟨o, w', u, h1, h2⟩
      · exact .next (hpick.trans h1) h2
      · exact .last (hpick.trans h1) (h2 W1 sl)
    | succ j =>
      have hjl : j < st.length := by
        have := (Array.getElem?_eq_some_iff.1 hi).1
        rw [hI.size] at this; omega
      have hx := List.getElem?_eq_getElem hjl
      obtain ⟨k', h4, h5⟩ := hI'.wk j _ hx
      rw [hi] at h4
      cases h4
      generalize hy : st[j] = y at hx h5
      cases y with
      | work c pr own sh g' w' =>
        obtain ⟨rfl, h6, h7⟩ := h5
        cases h6 with
        | stop h6 =>
          have h6' : AtSnd P lo c pr sh own g (W1.at d) := by
            obtain ⟨a1, a2, a3, v, k, a4, a5⟩ := h6
            exact ⟨a1, a2, a3, v, k, fun W2 hr2 => a4 W2 (h7.trans hr2), a5⟩
          obtain ⟨gs', u, h8, h9⟩ := hI'.park_step hg hx h6' sl'
          exact .next (hpick.trans h8) (ih _ (.mk hx .park) gs' _ sl' _ (by simp [hn]) h9 hr')
        | step hs h8 h9 =>
          obtain ⟨g', W2, es, h10, h11, _⟩ := h8 _ h7
          obtain ⟨gs', u, h12, h13, h14⟩ := hI'.work_step hm' hx h10 h11 (h9 _ h7 _ _ _ h10) sl'
          exact .next (hpick.trans h12) (ih _ (.mk hx (.go h7 h10)) gs' _ sl' _ (by simp [hn]) h13 (hr'.trans h14))
      | park c pr own sh => obtain ⟨g', v', k', rfl, _⟩ := h5; cases hgr
      | quit k =>
        cases k with
        | zero => rw [show g.status = .finished from h5] at hgr; cases hgr
        | succ k =>
          obtain ⟨gs', u, h8, h9⟩ := hI'.quit_step hm' hx hi hgr sl'
          exact .next (hpick.trans h8) (ih _ (.mk hx .quit) gs' _ sl' _ (by simp [hn]) h9 hr')
/-- Main waits at its channel, and no worker does: a worker comes to its send. -/
theorem run_parked {n : Nat} {g0 : Goroutine} {c : Nat} {z : Value} {f : Bool} (hm0 : m0 = parked g0 #[rcase c z] (.recv f)) (hsc : Sh c) (hlc : lo ≤ c) (hex : ∃ i x, pend i = some x) (hall : ∀ i x, pend i = some x → x.1 = c)
    (hopen : ∀ W1, Rely Own Sh W W1 → chanOpen W1 c)
    (hrecv : ∀ i pr st gs W1 v B sl t, st.length = n → pend i = some (c, pr) → Rely Own Sh W W1 → pr v W1 B → (∀ b, B b → b < W1.heap.size ∧ ¬ Own b ∧ ¬ Sh b) →
      Inv P W0 lo (fun b => Own b ∨ B b) Sh (updP pend i none) st (Conc.served g0 (recvd f v true)) gs W1 t → Ends P Q (crowd gs W1 sl) t) :
    ∀ st gs W1 sl t, st.length = n → Inv P W0 lo Own Sh pend st m0 gs W1 t → Rely Own Sh W W1 → (∀ (i : Nat) c pr own sh, st[i]? ≠ some (WSt.park c pr own sh)) → Ends P Q (crowd gs W1 sl) t := by
  intro st gs W1 sl t hn hI hr hnp
  have hacc := hI.acc
  induction hacc generalizing gs W1 sl t with
  | intro st _ ih =>
    have hm : MainAt (lo := lo) Sh W1 m0 := .inr ⟨g0, c, z, f, hm0, hsc, hlc, hopen _ hr⟩
    obtain ⟨i0, x0, hx0⟩ := hex
    have hrun1 : ∃ (i : Nat) (g : Goroutine), gs[i]? = some g ∧ g.status = .running := by
      have := hI.jobs i0
      rw [hx0] at this
      cases hsi : st[i0]? with
      | none => rw [hsi] at this; cases this
      | some y =>
        rw [hsi] at this
        obtain ⟨k', h4, h5⟩ := hI.wk i0 y hsi
        cases y with
        | work c pr own sh g' w' => obtain ⟨rfl, h6, _⟩ := h5; exact ⟨_, _, h4, h6.running⟩
        | park c pr own sh => exact absurd hsi (hnp i0 c pr own sh)
        | quit k => cases this
    obtain ⟨i, g, d, sl', hi, hgr, hpick⟩ := crowd_pick (P := P) (w := W1) (sl := sl) (hI.awake hm) hrun1
    have hI' := hI.at d
    have hr' := hr.trans (rely_at Own Sh W1 d)
    have hm' : MainAt (lo := lo) Sh (W1.at d) m0 := .inr ⟨g0, c, z, f, hm0, hsc, hlc, hopen _ hr'⟩
    have hkeep : ∀ (j : Nat) (x : WSt), (∀ c pr own sh, x ≠ .park c pr own sh) → ∀ (i : Nat) c pr own sh, (st.set j x)[i]? ≠ some (WSt.park c pr own sh) := fun j x hx i c pr own sh h => by
      by_cases e : j = i
      · subst e
        have hlt : j < st.length := by
          have := (List.getElem?_eq_some_iff.1 h).1
          simpa using this
        rw [List.getElem?_set_self hlt] at h
        exact hx c pr own sh (Option.some.inj h)
      · rw [List.getElem?_set_ne e] at h
        exact hnp i c pr own sh h
    cases i with
    | zero =>
      rw [hI.main] at hi
      cases hi
      rw [hm0] at hgr
      cases hgr
    | succ j =>
      have hjl : j < st.length := by
        have := (Array.getElem?_eq_some_iff.1 hi).1
        rw [hI.size] at this; omega
      have hx := List.getElem?_eq_getElem hjl
      obtain ⟨k', h4, h5⟩ := hI'.wk j _ hx
      rw [hi] at h4
      cases h4
      generalize hy : st[j] = y at hx h5
      cases y with
      | work c' pr own sh g' w' =>
        obtain ⟨rfl, h6, h7⟩ := h5
        have hpj : pend j = some (c', pr) := by rw [hI.jobs j, hx]; rfl
        have hcc : c' = c := hall j _ hpj
        subst hcc
        cases h6 with
        | stop h6 =>
          obtain ⟨a1, a2, a3, v, k, a4, a5⟩ := h6
          obtain ⟨b1, ⟨s, tm, b2⟩, b3⟩ := a4 _ h7
          have hp0 : partners (gs.setIfInBounds (j + 1) ph) c' false ≠ [] := by
            intro e
            have : ((0 : Nat), (0 : Nat)) ∈ partners (gs.setIfInBounds (j + 1) ph) c' false := mem_partners.2 ⟨m0, by rw [get_two (by omega)]; exact hI.main, by rw [hm0, offersAt_parked_recv]; simp⟩
            rw [e] at this
            cases this
          have hpall : ∀ j' k', (j', k') ∈ partners (gs.setIfInBounds (j + 1) ph) c' false → k' = 0 ∧ j' ≠ j + 1 ∧ ∃ gj zj shj, gs[j']? = some (parked gj #[rcase c' zj] shj) := fun j' k' hjk => by
            obtain ⟨x, hx1, hx2⟩ := mem_partners.1 hjk
            rcases getElem?_stand gs (j + 1) j' x hx1 with ⟨_, rfl⟩ | ⟨hne, hx1⟩
            · cases hx2
            · cases j' with
              | zero =>
                rw [hI.main] at hx1
                cases hx1
                rw [hm0, offersAt_parked_recv, if_pos rfl] at hx2
                exact ⟨by simpa using hx2, hne, g0, z, _, by rw [hI.main, hm0]⟩
              | succ j' =>
                exfalso
                have hjl' : j' < st.length := by
                  have := (Array.getElem?_eq_some_iff.1 hx1).1
                  rw [hI.size] at this; omega
                obtain ⟨k2, h41, h51⟩ := hI.wk j' _ (List.getElem?_eq_getElem hjl')
                rw [hx1] at h41
                cases h41
                generalize st[j'] = y at h51
                cases y with
                | work c2 pr2 own2 sh2 g2 w2 =>
                  obtain ⟨rfl, h61, _⟩ := h51
                  rw [offersAt_of_not_blocked (by rw [h61.running]; decide)] at hx2
                  cases hx2
                | park c2 pr2 own2 sh2 =>
                  obtain ⟨g2, v2, k2, rfl, _⟩ := h51
                  rw [offersAt_parked_send'] at hx2
                  cases hx2
                | quit k2 =>
                  rw [offersAt_of_not_blocked (by rcases (show QuitsIn P k2 x from h51).status with e | e <;> rw [e] <;> decide)] at hx2
                  cases hx2
          have b1' : stepG P (j + 1 == 0) g (W1.at d) = .comm g #[scase c' v (.tuple #[])] true .send (W1.at d) #[] := b1
          obtain ⟨j', gj, zj, shj, d2, e1, e2, e3⟩ := crowd_send_meets_some (sl := sl') hi b1' b2 hp0 hpall
          have ej : j' = 0 := by
            cases j' with
            | zero => rfl
            | succ j' =>
              exfalso
              have hjl' : j' < st.length := by
                have := (Array.getElem?_eq_some_iff.1 e2).1
                rw [hI.size] at this; omega
              obtain ⟨k2, h41, h51⟩ := hI.wk j' _ (List.getElem?_eq_getElem hjl')
              rw [e2] at h41
              cases h41
              generalize st[j'] = y at h51
              cases y with
              | work c2 pr2 own2 sh2 g2 w2 => obtain ⟨h1, h61, _⟩ := h51; rw [← h1] at h61; have := h61.running; cases this
              | park c2 pr2 own2 sh2 => obtain ⟨g2, v2, k2, h1, _⟩ := h51; simp [parked, rcase, scase] at h1
              | quit k2 => rcases (show QuitsIn P k2 _ from h51).status with e | e <;> cases e
          subst ej
          rw [hI.main, hm0] at e2
          have e2' := Option.some.inj e2
          have hshape : (g0.finishComm P #[rcase c' z] (.recv f) 0 v true) = gj.finishComm P #[rcase c' zj] shj 0 v true := by
            have h1 := finishComm_parked P g0 #[rcase c' z] #[rcase c' z] (.recv f) (.recv f) 0 v true
            have h2 := finishComm_parked P gj #[rcase c' z] #[rcase c' zj] (.recv f) shj 0 v true
            have h3 : shj = .recv f := by simp only [parked, Goroutine.mk.injEq, Option.some.injEq, Prod.mk.injEq] at e2'; exact e2'.2.2.2.2.2.symm
            have h4 : zj = z := by
              simp only [parked, Goroutine.mk.injEq, Option.some.injEq, Prod.mk.injEq, rcase] at e2'
              have := e2'.2.2.2.2.1
              simp at this
              exact this.symm
            subst h3; subst h4
            rw [← h1, e2', h2]
          rw [← hshape, finishComm_recv, finishComm_send] at e3
          have hlt0 : 0 < gs.size := by rw [hI.size]; omega
          have hltj : j + 1 < gs.size := by rw [hI.size]; omega
          have hI2 := hI'.comm (d := d2) (k := k) (m' := Conc.served g0 (recvd f v true)) (q := Conc.served g undef) (gs' := (gs.setIfInBounds 0 (Conc.served g0 (recvd f v true))).setIfInBounds (j + 1) (Conc.served g undef)) hx (by simp [WSt.job]) b2 hlc a5 (by simp)
            (by rw [get_two (by omega), Array.getElem?_setIfInBounds_self_of_lt hlt0]) (by rw [Array.getElem?_setIfInBounds_self_of_lt (by simpa using hltj)]) (fun a h1 h2 => by rw [get_two (fun e => h2 e.symm), get_two (fun e => h1 e.symm)])
            (f1 := g.frame.fn) (p1 := g.frame.place) (f2 := gj.frame.fn) (p2 := gj.frame.place) (f3 := g.frame.fn) (p3 := g.frame.place) (f4 := gj.frame.fn) (p4 := gj.frame.place)
          refine .next (hpick.trans e3) ?_
          rw [show MemOp.ofEvents (j + 1) g.frame.fn g.frame.place #[] = #[] from rfl, Array.empty_append]
          have hrp := rely_pass (W := W1.at d) (d := d2) b2
          refine hrecv j pr _ _ _ v own sl' _ (by simp [hn]) hpj (hr'.trans (hrp _ _)) (a4 _ (h7.trans (hrp _ _))).2.2 (fun b hb => ?_) hI2
          have hown : (agents Own Sh st (j + 1)).1 b := by simp [agents, hx, WSt.own]; exact hb
          refine ⟨by rw [pass_size]; exact hI'.sep.lt _ _ (.inl hown), hI'.sep.own (j + 1) 0 b hown (by omega), hI'.sep.sh (j + 1) 0 b hown⟩
        | step hs h8 h9 =>
          obtain ⟨g', W2, es, h10, h11, _⟩ := h8 _ h7
          obtain ⟨gs', u, h12, h13, h14⟩ := hI'.work_step hm' hx h10 h11 (h9 _ h7 _ _ _ h10) sl'
          exact .next (hpick.trans h12) (ih _ (.mk hx (.go h7 h10)) gs' _ sl' _ (by simp [hn]) h13 (hr'.trans h14) (hkeep _ _ fun _ _ _ _ h => by cases h))
      | park c pr own sh => exact absurd hx (hnp j c pr own sh)
      | quit k =>
        cases k with
        | zero => rw [show g.status = .finished from h5] at hgr; cases hgr
        | succ k =>
          obtain ⟨gs', u, h8, h9⟩ := hI'.quit_step hm' hx hi hgr sl'
          exact .next (hpick.trans h8) (ih _ (.mk hx .quit) gs' _ sl' _ (by simp [hn]) h9 hr' (hkeep _ _ fun _ _ _ _ h => by cases h))
end
end Go.Proofs.Ytkodpijedinanaa.Sim

namespace Go.Proofs.Ytkodpijedinanaa.Sim
open Go Go.Conc
set_option linter.unusedVariables false
set_option linter.unusedSimpArgs false

section
variable {P : Program} {W0 : World} {lo : Nat} {Own Sh : Blk} {pend : Nat → Option (Nat × Prm)} {st : List WSt} {m0 : Goroutine} {gs : Array Goroutine} {W : World} {t : Trace}
theorem runT_crowd_ended {w w' : World} {sl : Option (Nat × Nat)} {i : Nat} {g : Goroutine} {o : Outcome} {es : Array Event} (hi : gs[i]? = some g) (h : stepG P (i == 0) g w = .ended o w' es) :
    runT P (crowd gs w sl) i = (.ended o w', MemOp.ofEvents i g.frame.fn g.frame.place es) := by
  obtain ⟨hlt, rfl⟩ := Array.getElem?_eq_some_iff.1 hi
  have hsw := swapAt_of_lt hlt { (default : Goroutine) with status := .finished }
  show runT P { world := w, gs := gs, rest := { timers := #[], alone := none, slice := sl } } i = _
  unfold runT
  simp only [hsw, h, GStep.es]
theorem EvIn.grow {e : Event} {w w' : World} (h : EvIn Own Sh e) : EvIn (Grow Own w w') Sh e := by
  cases h with
  | cell p wr h => exact .cell p wr (h.imp .inl id)
  | obj r s => exact .obj r s
  | noRoom => exact .noRoom
theorem Inv.with_main (h : Inv P W0 lo Own Sh pend st m0 gs W t) (m1 : Goroutine) : Inv P W0 lo Own Sh pend st m1 (gs.setIfInBounds 0 m1) W t where
  size := by simp [h.size]
  main := by rw [Array.getElem?_setIfInBounds_self_of_lt (by rw [h.size]; omega)]
  wk := fun i x hx => by
    obtain ⟨k, h1, h2⟩ := h.wk i x hx
    exact ⟨k, by rw [get_two (by omega)]; exact h1, h2⟩
  sep := h.sep
  tr := h.tr
  bs := h.bs
  jobs := h.jobs
/-- Who stands at the other end of main's channel. -/
theorem Inv.senders (h : Inv P W0 lo Own Sh pend st m0 gs W t) (c : Nat) : ∀ j k, (j, k) ∈ partners (gs.setIfInBounds 0 ph) c true → k = 0 ∧ ∃ i pr own sh, j = i + 1 ∧ st[i]? = some (.park c pr own sh) := fun j k hjk => by
  obtain ⟨x, hx1, hx2⟩ := mem_partners.1 hjk
  rcases getElem?_stand gs 0 j x hx1 with ⟨_, rfl⟩ | ⟨hne, hx1⟩
  · cases hx2
  · cases j with
    | zero => exact absurd rfl hne
    | succ j =>
      have hjl' : j < st.length := by
        have := (Array.getElem?_eq_some_iff.1 hx1).1
        rw [h.size] at this; omega
      have hsj := List.getElem?_eq_getElem hjl'
      obtain ⟨k2, h41, h51⟩ := h.wk j _ hsj
      rw [hx1] at h41
      cases h41
      generalize hy : st[j] = y at h51 hsj
      cases y with
      | work c2 pr2 own2 sh2 g2 w2 =>
        obtain ⟨rfl, h61, _⟩ := h51
        rw [offersAt_of_not_blocked (by rw [h61.running]; decide)] at hx2
        cases hx2
      | park c2 pr2 own2 sh2 =>
        obtain ⟨g2, v2, k2, rfl, _⟩ := h51
        rw [offersAt_parked_send] at hx2
        by_cases e : c2 = c
        · subst e
          rw [if_pos rfl] at hx2
          exact ⟨by simpa using hx2, j, pr2, own2, sh2, rfl, hsj⟩
        · rw [if_neg e] at hx2; cases hx2
      | quit k2 =>
        rw [offersAt_of_not_blocked (by rcases (show QuitsIn P k2 x from h51).status with e | e <;> rw [e] <;> decide)] at hx2
        cases hx2
end
/-- ████ -/
theorem main_ends {P : Program} {W0 : World} {lo : Nat} {Post : Value → World → Prop} {n : Nat} {pend : Nat → Option (Nat × Prm)} {Sh Own : Blk} {g : Goroutine} {W : World} (h : MGo P W0 lo Post n pend Sh Own g W) :
    ∀ st gs W1 sl t, st.length = n → Inv P W0 lo Own Sh pend st g gs W1 t → Rely Own Sh W W1 → Ends P (Conc.Good P Post) (crowd gs W1 sl) t := by
  induction h with
  | step hg h1 h2 ih =>
    refine run_main (W0' := W0) hg fun st gs W1 sl t hn hI hr => ?_
    obtain ⟨g', W', es, e1, e2, _⟩ := h1 W1 hr
    obtain ⟨gs', u, e3, e4⟩ := hI.main_step e1 e2 sl
    exact .inl ⟨_, u, e3, ih W1 hr _ _ _ e1 st gs' W' sl _ hn e4 (.refl _ _ _)⟩
  | @low n pend Sh Own g W hg h1 ih =>
    intro st gs W1 sl t hn hI hr
    exact ih (fun b hb => hI.sep.lo 0 b hb) st gs W1 sl t hn hI hr
  | @share n pend Sh Own Give g W hG h1 ih =>
    intro st gs W1 sl t hn hI hr
    exact ih st gs W1 sl t hn (hI.share hG) (hr.less fun x hx => by
      rcases hx with hx | hx | hx
      · exact .inl hx.1
      · exact .inr hx
      · exact .inl (hG x hx))
  | @spawn n pend Sh Own Give g g' child W c pr hg hg' h1 h2 h3 _ ih =>
    refine run_main (W0' := W0) hg fun st gs W1 sl t hn hI hr => ?_
    obtain ⟨gs', u, e3, e4⟩ := hI.spawn hg (h1 W1 hr) h2 h3 (hr.less fun x hx => by
      rcases hx with hx | hx | hx
      · exact hx.elim
      · exact .inr hx
      · exact .inl (h2 x hx)) sl
    rw [hn] at e4
    exact .inl ⟨_, u, e3, ih _ gs' W1 sl _ (by simp [hn]) e4 (hr.less fun x hx => by
      rcases hx with hx | hx | hx
      · exact .inl hx.1
      · exact .inr hx
      · exact .inl (h2 x hx))⟩
  | @recv n pend Sh Own g W c z f hg hex hall hsc hlc h1 h2 ih =>
    refine run_main (W0' := W0) hg fun st gs W1 sl t hn hI hr => ?_
    obtain ⟨e1, s, tm, e2⟩ := h1 W1 hr
    have e1' : stepG P (0 == 0) g W1 = .comm g #[rcase c z] true (.recv f) W1 #[] := e1
    by_cases hp : partners (gs.setIfInBounds 0 ph) c true = []
    · have hnw : ∀ cc ∈ (#[rcase c z] : Array CommCase), NoWays W1 (gs.setIfInBounds 0 ph) cc := fun cc hcc => by
        simp only [List.mem_toArray, List.mem_cons, List.not_mem_nil, or_false] at hcc
        subst hcc
        exact ⟨made_recv _ e2, by simp [ways, rcase, e2, hp]⟩
      refine .inl ⟨_, _, crowd_waits hI.main e1' hnw, ?_⟩
      rw [show MemOp.ofEvents 0 g.frame.fn g.frame.place #[] = #[] from rfl, Array.append_empty]
      refine run_parked (n := n) rfl hsc hlc hex hall (fun W2 hr2 => (h1 W2 hr2).2) (fun i pr st gs W2 v B sl t hn' hpi hr2 hv hB hI2 => ?_) st _ W1 sl t hn (hI.with_main _) hr fun i c' pr own sh hi => ?_
      · exact ih i pr hpi W2 v B hr2 hv hB st gs W2 sl t hn' hI2 (.refl _ _ _)
      · have hpi : pend i = some (c', pr) := by rw [hI.jobs i, hi]; rfl
        have hc' : c' = c := hall i _ hpi
        subst hc'
        obtain ⟨k, h4, g2, v2, k2, rfl, _⟩ := hI.wk i _ hi
        have : (i + 1, 0) ∈ partners (gs.setIfInBounds 0 ph) c' true := mem_partners.2 ⟨_, by rw [get_two (by omega)]; exact h4, by rw [offersAt_parked_send]; simp⟩
        rw [hp] at this
        cases this
    · obtain ⟨j, gj, vj, zj, shj, d, a1, a2, a3⟩ := crowd_recv_meets_some (sl := sl) hI.main e1' e2 hp fun j k hjk => by
        obtain ⟨rfl, i, pr, own, sh, rfl, hi⟩ := hI.senders c j k hjk
        obtain ⟨k, h4, g2, v2, k2, rfl, _⟩ := hI.wk i _ hi
        exact ⟨rfl, by omega, g2, v2, _, _, h4⟩
      cases j with
      | zero => exact absurd rfl a1
      | succ j =>
        have hjl : j < st.length := by
          have := (Array.getElem?_eq_some_iff.1 a2).1
          rw [hI.size] at this; omega
        have hsj := List.getElem?_eq_getElem hjl
        obtain ⟨k, h4, h5⟩ := hI.wk j _ hsj
        rw [a2] at h4
        cases h4
        generalize hy : st[j] = y at hsj h5
        cases y with
        | work c2 pr2 own2 sh2 g2 w2 => obtain ⟨b1, h61, _⟩ := h5; rw [← b1] at h61; have := h61.running; cases this
        | quit k2 => rcases (show QuitsIn P k2 _ from h5).status with e | e <;> cases e
        | park c2 pr own sh =>
          obtain ⟨g2, v2, k2, b1, b2, b3, b4, b5⟩ := h5
          have hpj : pend j = some (c2, pr) := by rw [hI.jobs j, hsj]; rfl
          have hc2 : c2 = c := hall j _ hpj
          subst hc2
          have hv : vj = v2 := by
            simp only [parked, Goroutine.mk.injEq, Option.some.injEq, Prod.mk.injEq, scase] at b1
            have := b1.2.2.2.2.1
            simp at this
            exact this.1
          have hz : zj = .tuple #[] := by
            simp only [parked, Goroutine.mk.injEq, Option.some.injEq, Prod.mk.injEq, scase] at b1
            have := b1.2.2.2.2.1
            simp at this
            exact this.2
          have hs : shj = .send := by
            simp only [parked, Goroutine.mk.injEq, Option.some.injEq, Prod.mk.injEq] at b1
            exact b1.2.2.2.2.2
          have hfin : gj.finishComm P #[scase c2 vj zj] shj 0 undef false = Conc.served g2 undef := by
            have h1 := finishComm_parked P gj #[scase c2 vj zj] #[scase c2 vj zj] shj shj 0 undef false
            rw [← h1, b1, hs, finishComm_send]
            rfl
          rw [hfin, finishComm_recv] at a3
          have hlt0 : 0 < gs.size := by rw [hI.size]; omega
          have hltj : j + 1 < gs.size := by rw [hI.size]; omega
          have hI2 := hI.comm (d := d) (k := k2) (m' := Conc.served g (recvd f vj true)) (q := Conc.served g2 undef) (gs' := (gs.setIfInBounds (j + 1) (Conc.served g2 undef)).setIfInBounds 0 (Conc.served g (recvd f vj true))) hsj (by simp [WSt.job]) e2 hlc b5 (by simp)
            (by rw [Array.getElem?_setIfInBounds_self_of_lt (by simpa using hlt0)]) (by rw [get_two (by omega), Array.getElem?_setIfInBounds_self_of_lt hltj]) (fun a h1 h2 => by rw [get_two (fun e => h1 e.symm), get_two (fun e => h2 e.symm)])
            (f1 := gj.frame.fn) (p1 := gj.frame.place) (f2 := g.frame.fn) (p2 := g.frame.place) (f3 := gj.frame.fn) (p3 := gj.frame.place) (f4 := g.frame.fn) (p4 := g.frame.place)
          refine .inl ⟨_, _, a3, ?_⟩
          rw [show MemOp.ofEvents 0 g.frame.fn g.frame.place #[] = #[] from rfl, Array.empty_append]
          have hrp := rely_pass (W := W1) (d := d) e2
          subst hv
          refine ih j pr hpj _ vj own (hr.trans (hrp _ _)) (b4 _ (hrp _ _)).2 (fun b hb => ?_) _ _ _ sl _ (by simp [hn]) hI2 (.refl _ _ _)
          have hown : (agents Own Sh st (j + 1)).1 b := by simp [agents, hsj, WSt.own]; exact hb
          exact ⟨by rw [pass_size]; exact hI.sep.lt _ _ (.inl hown), hI.sep.own (j + 1) 0 b hown (by omega), hI.sep.sh (j + 1) 0 b hown⟩
  | @ret n pend Sh Own g W hg hp h1 =>
    refine run_main (W0' := W0) hg fun st gs W1 sl t hn hI hr => ?_
    obtain ⟨v, es, e1, e2, e3⟩ := h1 W1 hr hI.bs
    have hrun := runT_crowd_ended (i := 0) (sl := sl) hI.main e1
    refine .inr ⟨_, _, _, hrun, fun W2 sl2 => ⟨v, rfl, e3, ?_⟩⟩
    have hT := hI.tr.own hI.sep (γ := 0) (.inl rfl) (w := W1) (w' := W1) rfl (Nat.le_refl _) (fn := g.frame.fn) (pos := g.frame.place) (es := es) fun e he => (e2 e he).grow
    have hquit : ∀ (i : Nat) (x : WSt), st[i]? = some x → ∃ k, x = .quit k := fun i x hx => by
      have := hI.jobs i
      rw [hp i, hx] at this
      cases x with
      | work => cases this
      | park => cases this
      | quit k => exact ⟨k, rfl⟩
    refine ⟨hT.clean, hT.handed fun γ ⟨j, x, _, hx, hj⟩ => ?_, ⟨fun h hh => ?_, rfl⟩, fun i h hi hne => ?_⟩
    · obtain ⟨k, rfl⟩ := hquit j x hx
      exact hj rfl
    · obtain ⟨i, hi⟩ := List.getElem?_of_mem hh
      rw [List.getElem?_drop] at hi
      have hi' : gs[i + 1]? = some h := by
        rw [← Array.getElem?_toList, Nat.add_comm]; exact hi
      have hjl : i < st.length := by
        have := (Array.getElem?_eq_some_iff.1 hi').1
        rw [hI.size] at this; omega
      have hsj := List.getElem?_eq_getElem hjl
      obtain ⟨k, h4, h5⟩ := hI.wk i _ hsj
      rw [hi'] at h4
      cases h4
      obtain ⟨k2, hk⟩ := hquit i _ hsj
      rw [hk] at h5
      exact ⟨k2, (show QuitsIn P k2 h from h5).leaves⟩
    · cases i with
      | zero => exact absurd rfl hne
      | succ i =>
        have hi' : gs[i + 1]? = some h := hi
        have hjl : i < st.length := by
          have := (Array.getElem?_eq_some_iff.1 hi').1
          rw [hI.size] at this; omega
        have hsj := List.getElem?_eq_getElem hjl
        obtain ⟨k, h4, h5⟩ := hI.wk i _ hsj
        rw [hi'] at h4
        cases h4
        obtain ⟨k2, hk⟩ := hquit i _ hsj
        rw [hk] at h5
        refine ⟨k2, ?_⟩
        rw [hT.words.deaf]
        exact (show QuitsIn P k2 h from h5).hears _ 0
end Go.Proofs.Ytkodpijedinanaa.Sim

namespace Go.Proofs.Ytkodpijedinanaa.Sim
open Go Go.Conc
set_option linter.unusedVariables false
set_option linter.unusedSimpArgs false

/-- An activation, matched. -/
structure Mat (P : Program) (F Own Sh : Blk) (ρ : Ren) (a A : Act) (w W : World) : Prop where
  row : RowRel ρ a.tmps A.tmps
  d : a.defers = []
  D : A.defers = []
  wr : WRel ρ w W
  above : Above P ρ
  size : P.globals.size ≤ w.heap.size
  size' : P.globals.size ≤ W.heap.size
  fz : Froz F w
  own : ∀ a b, ρ a b → ¬ F a → Own b
  sh : ∀ a b, ρ a b → F a → Sh b
theorem Mat.inn {P : Program} {F Own Sh : Blk} {ρ : Ren} {a A : Act} {w W : World} (h : Mat P F Own Sh ρ a A w W) (x y : Nat) (hxy : ρ x y) : Own y ∨ Sh y := by
  by_cases hF : F x
  · exact .inr (h.sh x y hxy hF)
  · exact .inl (h.own x y hxy hF)
theorem Mat.rely {P : Program} {F Own Sh : Blk} {ρ : Ren} {a A : Act} {w W W1 : World} (h : Mat P F Own Sh ρ a A w W) (hr : Rely Own Sh W W1) : Mat P F Own Sh ρ a A w W1 :=
  { h with wr := h.wr.rely hr h.inn, size' := Nat.le_trans h.size' hr.size }
theorem grow_self (Own : Blk) (W : World) : Grow Own W W = Own := by
  funext b
  refine propext ⟨fun h => ?_, fun h => .inl h⟩
  rcases h with h | ⟨h1, h2⟩
  · exact h
  · omega
theorem Did.idle (Own Sh : Blk) (W : World) {es : Array Event} (h : ∀ e ∈ es, EvIn Own Sh e) : Did Own Sh W W es := ⟨Nat.le_refl _, fun _ _ _ => rfl, rfl, rfl, rfl, fun e he => (h e he).grow⟩
/-- A step that turns nothing. -/
theorem Goes'.ctl {P : Program} {main : Bool} {Sh : Blk} {Stop : Blk → Goroutine → World → Prop} {Own : Blk} {g g' : Goroutine} {W : World} (hg : g.status = .running) (hg' : g'.status = .running) (hs : ∀ W1, Rely Own Sh W W1 → stepG P main g W1 = .go g' W1 #[])
    (hn : ∀ W1, Rely Own Sh W W1 → Goes' P main Sh Stop Own g' W1) : Goes' P main Sh Stop Own g W := by
  refine .step hg (fun W1 hr => ⟨g', W1, #[], hs W1 hr, .idle _ _ _ (fun e he => by simp at he), hg'⟩) fun W1 hr g2 W2 es he => ?_
  rw [hs W1 hr] at he
  simp only [GStep.go.injEq] at he
  obtain ⟨rfl, rfl, rfl⟩ := he
  rw [grow_self]
  exact hn W1 hr
/-- Where a piece stops. -/
def PieceT (P : Program) (b : Frame) (Q : Exit → Act → World → Prop) : Stack → World → Prop := fun s w =>
  s.2 = [zed P] ∧ ∃ a, (s.1 = b.at a sink ∧ ∃ τ d, Q .normal a (lay w τ d)) ∨ (∃ todo, s.1 = { b.at a todo with mode := .returning } ∧ ∃ τ d, Q .ret a (lay w τ d))
theorem pieceT_ok (P : Program) (b : Frame) (Q : Exit → Act → World → Prop) : StopOk (PieceT P b Q) where
  lay := fun s w τ d h => by
    obtain ⟨h0, a, h⟩ := h
    refine ⟨h0, a, ?_⟩
    rcases h with ⟨h1, τ', d', h2⟩ | ⟨todo, h1, τ', d', h2⟩
    · exact .inl ⟨h1, τ', d', h2⟩
    · exact .inr ⟨todo, h1, τ', d', h2⟩
  over := fun s w h => by rw [h.1]; simp
  mode := fun s w h => by
    obtain ⟨_, a, h⟩ := h
    rcases h with ⟨h1, _⟩ | ⟨todo, h1, _⟩ <;> rw [h1]
    · exact .inl rfl
    · exact .inr rfl
theorem lay_self (w : World) : lay w w.tape w.drawn = w := rfl
/-- A piece of code, by its lone contract. -/
theorem piece {P : Program} (hF : FnsOk2 P) {main : Bool} {F Own Sh : Blk} {ρ : Ren} {a A : Act} {w W : World} (m : Mat P F Own Sh ρ a A w W) {c : Code} (hc : okCode P c = true) {b B : Frame} (hb : b.kind = .normal) (hB : B.kind ≠ .early) (hfn : B.fn = b.fn) (hres : ∃ fn, P.funcs[b.fn]? = some fn ∧ resB fn = true)
    {Q : Exit → Act → World → Prop} (hQ : ∀ e a w, Q e a w → e = .normal ∨ e = .ret) (hwp : ∀ τ d, c.wp P Q a (lay w τ d)) (k : List Item) (RB : List Frame) {Stop : Blk → Goroutine → World → Prop}
    (hn : ∀ ρ' a' A' w' W' Own', Mat P F Own' Sh ρ' a' A' w' W' → Ren.le ρ ρ' → (∀ b, Own b → Own' b) → (∃ τ d, Q .normal a' (lay w' τ d)) → Goes' P main Sh Stop Own' (G (B.at A' k) RB) W')
    (hr : ∀ ρ' a' A' w' W' Own', Mat P F Own' Sh ρ' a' A' w' W' → Ren.le ρ ρ' → (∀ b, Own b → Own' b) → (∃ τ d, Q .ret a' (lay w' τ d)) → ∀ todo, Goes' P main Sh Stop Own' (G { B.at A' todo with mode := .returning } RB) W') :
    Goes' P main Sh Stop Own (G (B.at A (.code c :: k)) RB) W := by
  have hg : GRel P ⟨k, B.kind⟩ RB ρ (b.at a (.code c :: sink), [zed P]) (B.at A (.code c :: k), RB) := by
    refine StackRel.base rfl rfl ⟨hfn, m.row, ⟨[.code c], by simp [okItem, hc], rfl, rfl, fun h => by cases h⟩, rfl, .inl rfl, ⟨m.d, rfl, hb⟩, ⟨m.D, rfl, hB⟩, fun h => by simp [sink] at h, hres⟩
  have hmir : Mir P ⟨k, B.kind⟩ RB ρ (b.at a (.code c :: sink), [zed P]) (B.at A (.code c :: k), RB) w W := ⟨hg, m.wr, m.above, m.size, m.size'⟩
  have htree : Tree P (PieceT P b Q) (b.at a (.code c :: sink), [zed P]) w := by
    refine tree_of_runs hF (pieceT_ok P b Q) hmir fun τ => ?_
    obtain ⟨e, a', w', hq, harr⟩ := hwp τ 0 b sink [zed P]
    rcases hQ e a' w' hq with rfl | rfl
    · obtain ⟨n, hn⟩ := harr
      exact ⟨n, (b.at a' sink, [zed P]), w', hn, rfl, a', .inl ⟨rfl, w'.tape, w'.drawn, hq⟩⟩
    · obtain ⟨todo, n, hn⟩ := harr
      exact ⟨n, ({ b.at a' todo with mode := .returning }, [zed P]), w', hn, rfl, a', .inr ⟨todo, rfl, w'.tape, w'.drawn, hq⟩⟩
  have hgoes := goes_of_tree (main := main) hF (pieceT_ok P b Q) htree (ρ0 := ρ) (Own0 := Own) (Ren.le.refl _) (fun _ h => h) ⟨hmir, m.fz, m.own, m.sh⟩
  refine hgoes.bind fun Own' g W' hst => ?_
  obtain ⟨ρ', s, S, w', hT, rfl, hrel, hwr, hab, hs1, hs2, hfz, hle, ho, hsh, hO⟩ := hst
  obtain ⟨s1, s2⟩ := s
  obtain ⟨S1, S2⟩ := S
  obtain ⟨hs0, a', hT⟩ := hT
  simp only at hs0 hT ⊢
  subst hs0
  rcases hT with ⟨rfl, τ, d, hq⟩ | ⟨todo, rfl, τ, d, hq⟩
  · rcases hrel with hrel | ⟨_, _, hm, _⟩
    · unfold GRel at hrel
      simp only at hrel
      cases hrel with
      | base hm hk hf =>
        obtain ⟨u, hu1, hu2, hu3, _⟩ := hf.todo
        have hu : u = [] := by
          have : (b.at a' sink).todo = sink := rfl
          rw [this] at hu2
          cases u with
          | nil => rfl
          | cons x u => have := congrArg List.length hu2; simp at this; omega
        subst hu
        have hS : S1 = B.at ⟨S1.tmps, []⟩ k := by
          obtain ⟨q1, q2, q3, q4, q5, q6, q7⟩ := S1
          have h1 : q1 = b.fn := hf.fn
          have h2 : q5 = .run := hf.mode
          have h3 : q4 = [] := hf.calm'.1
          have h4 : q7 = none := hf.calm'.2
          have h5 : q6 = B.kind := hk
          have h6 : q3 = k := hu3
          subst h1; subst h2; subst h3; subst h4; subst h5; subst h6
          simp [Frame.at, hfn]
        rw [hS]
        exact hn ρ' a' ⟨S1.tmps, []⟩ w' W' Own' ⟨hf.row, hf.calm.1, rfl, hwr, hab, hs1, hs2, hfz, ho, hsh⟩ hle hO ⟨τ, d, hq⟩
      | push hf hst => cases hst with | push _ h => cases h
    · cases hm
  · rcases hrel with hrel | ⟨_, hRB, hm, hk, hf⟩
    · unfold GRel at hrel
      simp only at hrel
      cases hrel with
      | base hm hk hf => cases hm
      | push hf hst => cases hst with | push _ h => cases h
    · simp only at hRB hk hf
      subst hRB
      have hS : S1 = { B.at ⟨S1.tmps, []⟩ S1.todo with mode := .returning } := by
        obtain ⟨q1, q2, q3, q4, q5, q6, q7⟩ := S1
        have h1 : q1 = b.fn := hf.fn
        have h2 : q5 = .returning := hf.mode
        have h3 : q4 = [] := hf.calm'.1
        have h4 : q7 = none := hf.calm'.2
        have h5 : q6 = B.kind := hk
        subst h1; subst h2; subst h3; subst h4; subst h5
        simp [Frame.at, hfn]
      rw [hS]
      exact hr ρ' a' ⟨S1.tmps, []⟩ w' W' Own' ⟨hf.row, hf.calm.1, rfl, hwr, hab, hs1, hs2, hfz, ho, hsh⟩ hle hO ⟨τ, d, hq⟩ S1.todo
end Go.Proofs.Ytkodpijedinanaa.Sim

namespace Go.Proofs.Ytkodpijedinanaa.Sim
open Go Go.Conc
set_option linter.unusedVariables false
set_option linter.unusedSimpArgs false

/-- An operation, by what it does in the shadow. -/
theorem op_step {P : Program} (hF : FnsOk2 P) {main : Bool} {F Own Sh : Blk} {ρ : Ren} {a A : Act} {w W : World} (m : Mat P F Own Sh ρ a A w W) {B : Frame} (hB : B.kind ≠ .early) {ops : Array Oper} {i : Nat} {l : List Nat} {o : Oper} {k : List Item} {RB : List Frame}
    (ho : ops[i]? = some o) (hop : okOp P o.op = true) (hw : Region.wanted o (yielded ops a.tmps) = true) {v : Value} {w' : World}
    (hrun : (∀ τ d, (execOp a.eval o).run P (lay w τ d) = .ok (.value v) (lay w' τ d)) ∨ (v = undef ∧ ∀ τ d, (execOp a.eval o).run P (lay w τ d) = .ok .skip (lay w' τ d))) {Stop : Blk → Goroutine → World → Prop}
    (hn : ∀ ρ' v' W' Own', Mat P F Own' Sh ρ' (a.put o.dst v) (A.put o.dst v') w' W' → Ren.le ρ ρ' → (∀ b, Own b → Own' b) → VRel ρ' v v' → Goes' P main Sh Stop Own' (G (B.at (A.put o.dst v') (.inRegion ops l :: k)) RB) W') :
    Goes' P main Sh Stop Own (G (B.at A (.inRegion ops (i :: l) :: k)) RB) W := by
  have hwR : Region.wanted o (yielded ops A.tmps) = true := by rw [← yielded_eq m.row ops]; exact hw
  have key : ∀ W1, Rely Own Sh W W1 → ∃ ρ' v' W2 es, stepG P main (G (B.at A (.inRegion ops (i :: l) :: k)) RB) W1 = .go (G (B.at (A.put o.dst v') (.inRegion ops l :: k)) RB) W2 es ∧ Did Own Sh W1 W2 es ∧
      Mat P F (Grow Own W1 W2) Sh ρ' (a.put o.dst v) (A.put o.dst v') w' W2 ∧ Ren.le ρ ρ' ∧ VRel ρ' v v' := fun W1 hr => by
    have m1 := m.rely hr
    have hs := srel_op (e := a.eval) (e' := A.eval) (o := o) hF.fns m1.above hop (fun x hx => by
      have := eval_rel (f := ({ (default : Frame) with tmps := a.tmps } : Frame)) (F := ({ (default : Frame) with tmps := A.tmps } : Frame)) m1.row x hx
      cases x <;> exact this)
    have hsa := hs.above m1.above
    obtain ⟨n, hnr, hnv⟩ : ∃ n, (execOp a.eval o).run P (lay w W1.tape W1.drawn) = .ok n (lay w' W1.tape W1.drawn) ∧ ((n = .value v) ∨ (n = .skip ∧ v = undef)) := by
      rcases hrun with h | ⟨hv, h⟩
      · exact ⟨_, h _ _, .inl rfl⟩
      · exact ⟨_, h _ _, .inr ⟨rfl, hv⟩⟩
    obtain ⟨ρ', n', W2, es, e1, ⟨e2, e3⟩, e4⟩ := hsa.run (F := F) (lay w W1.tape W1.drawn) W1 #[] n (lay w' W1.tape W1.drawn) (m1.wr.lay _ _) (fun x hx => m1.fz x hx) m1.size m1.size' hnr (fun x hx q => rfl)
    have hrunR : (execOp A.eval o).run P W1 = .ok n' W2 := by rw [← Sem.runT_fst P _ W1 #[], e1]
    have hev : (execOp A.eval o).events P W1 #[] = es.toArray := by unfold Sem.events; rw [e1]; simp
    have hlt : ∀ x y, ρ' x y → y < W2.heap.size := fun x y hxy => by
      obtain ⟨_, _, _, h2, _⟩ := e4.rel.dom x y hxy
      exact (Array.getElem?_eq_some_iff.1 h2).1
    have hltw : ∀ x, F x → x < w.heap.size := fun x hx => by
      rcases m.fz x hx with ⟨_, _, h⟩ | ⟨_, _, _, _, _, h⟩ <;> exact (Array.getElem?_eq_some_iff.1 h).1
    have ho' : ∀ x y, ρ' x y → ¬ F x → Grow Own W1 W2 y := fun x y hxy hF => by
      rcases e4.fresh x y hxy with h | ⟨_, h⟩
      · exact .inl (m.own x y h hF)
      · exact .inr ⟨h, hlt x y hxy⟩
    have hs' : ∀ x y, ρ' x y → F x → Sh y := fun x y hxy hF => by
      rcases e4.fresh x y hxy with h | ⟨h, _⟩
      · exact m.sh x y h hF
      · exact absurd (hltw x hF) (Nat.not_lt.2 h)
    obtain ⟨v', hg, hvv⟩ : ∃ v', stepG P main (G (B.at A (.inRegion ops (i :: l) :: k)) RB) W1 = .go (G (B.at (A.put o.dst v') (.inRegion ops l :: k)) RB) W2 (listed P B.fn A o W1) ∧ VRel ρ' v v' := by
      rcases hnv with rfl | ⟨rfl, rfl⟩
      · cases e2 with
        | value hv => exact ⟨_, stepG_value ho hwR hB hrunR, hv⟩
      · cases e2 with
        | skip => exact ⟨_, stepG_none ho hwR hB hrunR, .tuple rfl (fun i v w a b => by simp at a)⟩
    refine ⟨ρ', v', W2, _, hg, ⟨e4.size', fun b hb hno => e4.kept b hb fun x hx => Classical.byContradiction fun hF => hno (m.own x b hx hF), e4.tape', e4.os', e4.out', fun e he => ?_⟩, ⟨?_, ?_, ?_, e4.rel.lay w'.tape w'.drawn, e3, Nat.le_trans m1.size e4.size, Nat.le_trans m1.size' e4.size', fun x hx => e4.fz x hx, ho', hs'⟩, e4.le, hvv⟩
    · have he' := mem_listed he
      rw [hev] at he'
      have := e4.evs e (by simpa using he')
      cases this with
      | cell p wr x hxy hw =>
        refine .cell p wr ?_
        by_cases hFx : F x
        · refine .inr ⟨hs' x _ hxy hFx, ?_⟩
          cases wr with
          | true => exact absurd hFx (hw rfl)
          | false => rfl
        · exact .inl (ho' x _ hxy hFx)
      | obj r s x h => exact .obj r s
      | noRoom => exact .noRoom
    · have hrow := m1.row.mono e4.le
      unfold Act.put
      cases o.dst with
      | none => exact hrow
      | some t => exact hrow.set t hvv
    · unfold Act.put; cases o.dst <;> exact m.d
    · unfold Act.put; cases o.dst <;> exact m.D
  refine .step rfl (fun W1 hr => ?_) fun W1 hr g' W' es hg => ?_
  · obtain ⟨ρ', v', W2, es, h1, h2, h3⟩ := key W1 hr
    exact ⟨_, _, _, h1, h2, rfl⟩
  · obtain ⟨ρ', v', W2, es2, h1, h2, h3, h4, h5⟩ := key W1 hr
    rw [h1] at hg
    simp only [GStep.go.injEq] at hg
    obtain ⟨rfl, rfl, rfl⟩ := hg
    exact hn ρ' v' W2 _ h3 h4 (fun b hb => .inl hb) h5
/-- Into a call. -/
theorem call_enter {P : Program} {main : Bool} {Sh Own : Blk} {A : Act} {W : World} {B : Frame} (hB : B.kind ≠ .early) {ops : Array Oper} {i : Nat} {l : List Nat} {o : Oper} {k : List Item} {RB : List Frame} (ho : ops[i]? = some o) (hw : Region.wanted o (yielded ops A.tmps) = true)
    {f : FuncId} {fn : Func} {c : Code} {args : Array Operand} {ats : Array TypeId} (hop : o.op = .call { callee := .value (.func f), args, argTypes := ats }) (hf : P.funcs[f]? = some fn) (hname : (fn.name == "runtime.NumGoroutine") = false) (hb : fn.body = some c) {Stop : Blk → Goroutine → World → Prop}
    (hn : ∀ W1, Rely Own Sh W W1 → Goes' P main Sh Stop Own (G ((base f).at { tmps := args.map A.eval ++ Array.replicate (fn.ntmps - (args.map A.eval).size) undef, defers := [] } [.code c]) (B.at A (.inRegion ops (i :: l) :: k) :: RB)) W1) :
    Goes' P main Sh Stop Own (G (B.at A (.inRegion ops (i :: l) :: k)) RB) W := by
  have hbn : fn.body.isNone = false := by rw [hb]; rfl
  refine Goes'.ctl rfl rfl (fun W1 _ => ?_) hn
  rw [stepG_enter ho hw hB (run_call_body hop hf hname hbn), enter_at _ hf hb]
  have : listed P B.fn A o W1 = #[] := by unfold listed; rw [events_call_body hop hf hname hbn]; exact seen_none _ _
  rw [this]
/-- Back to the caller, with two results. -/
theorem call_leave2 {P : Program} {main : Bool} {Sh Own : Blk} {A A0 : Act} {W : World} {B B0 : Frame} (hB : B.kind = .normal) (hd : A.defers = []) {fn : Func} (hf : P.funcs[B.fn]? = some fn) {t u : Tmp} (hr : fn.results = #[.tmp t, .tmp u]) {todo : List Item} {ops : Array Oper} {i : Nat} {l : List Nat} {o : Oper} {k : List Item} {RB : List Frame}
    (ho : ops[i]? = some o) {Stop : Blk → Goroutine → World → Prop}
    (hn : ∀ W1, Rely Own Sh W W1 → Goes' P main Sh Stop Own (G (B0.at (A0.put o.dst (.tuple #[A.tmps.getD t undef, A.tmps.getD u undef])) (.inRegion ops l :: k)) RB) W1) :
    Goes' P main Sh Stop Own (G { B.at A todo with mode := .returning } (B0.at A0 (.inRegion ops (i :: l) :: k) :: RB)) W := by
  refine Goes'.ctl rfl rfl (fun W1 _ => ?_) hn
  rw [stepG_leave hB hd hf (results_tmp2 hr _ _ _) (events_results_tmp2 hr _ _), Frame.finish_at, ho]
  rfl
end Go.Proofs.Ytkodpijedinanaa.Sim

namespace Go.Proofs.Ytkodpijedinanaa.Sim
open Go Go.Conc
set_option linter.unusedVariables false
set_option linter.unusedSimpArgs false

/-- A judgement that own steps may be laid before. -/
def Jud (P : Program) (main : Bool) (Sh : Blk) (Ju : Blk → Goroutine → World → Prop) : Prop := ∀ Own g W, Goes' P main Sh Ju Own g W → Ju Own g W
theorem jud_goes (P : Program) (main : Bool) (Sh : Blk) (Stop : Blk → Goroutine → World → Prop) : Jud P main Sh (Goes' P main Sh Stop) := fun Own g W h => h.bind fun _ _ _ h => h
theorem jud_mgo (P : Program) (W0 : World) (lo : Nat) (Post : Value → World → Prop) (n : Nat) (pend : Nat → Option (Nat × Prm)) (Sh : Blk) : Jud P true Sh (MGo P W0 lo Post n pend Sh) := fun Own g W h => MGo.of_goes h fun _ _ _ h => h
/-- At a point of the text. -/
def Pt (P : Program) (F Sh : Blk) (Ju : Blk → Goroutine → World → Prop) (RB : List Frame) (B : Frame) (items : List Item) (Own : Blk) (ρ : Ren) (a A : Act) (w : World) : Prop :=
  ∀ W, Mat P F Own Sh ρ a A w W → Ju Own (G (B.at A items) RB) W
section
variable {P : Program} {main : Bool} {F Sh : Blk} {Ju : Blk → Goroutine → World → Prop} {RB : List Frame} {B : Frame} {Own : Blk} {ρ : Ren} {a A : Act} {w : World} {k : List Item}
theorem pt_ctl (hJ : Jud P main Sh Ju) {items items' : List Item} (hs : ∀ W1, stepG P main (G (B.at A items) RB) W1 = .go (G (B.at A items') RB) W1 #[]) (h : Pt P F Sh Ju RB B items' Own ρ a A w) : Pt P F Sh Ju RB B items Own ρ a A w :=
  fun W m => hJ _ _ _ (Goes'.ctl rfl rfl (fun W1 _ => hs W1) fun W1 hr => .stop (h W1 (m.rely hr)))
theorem pt_seq (hJ : Jud P main Sh Ju) {x y : Code} (h : Pt P F Sh Ju RB B (.code x :: .code y :: k) Own ρ a A w) : Pt P F Sh Ju RB B (.code (.seq x y) :: k) Own ρ a A w := pt_ctl hJ (fun _ => stepG_seq) h
theorem pt_skip (hJ : Jud P main Sh Ju) (h : Pt P F Sh Ju RB B k Own ρ a A w) : Pt P F Sh Ju RB B (.code .skip :: k) Own ρ a A w := pt_ctl hJ (fun _ => stepG_skip) h
theorem pt_block (hJ : Jud P main Sh Ju) {id : Nat} {c : Code} (h : Pt P F Sh Ju RB B (.code c :: .inBlock id :: k) Own ρ a A w) : Pt P F Sh Ju RB B (.code (.block id c) :: k) Own ρ a A w := pt_ctl hJ (fun _ => stepG_block) h
theorem pt_inBlock (hJ : Jud P main Sh Ju) {id : Nat} (h : Pt P F Sh Ju RB B k Own ρ a A w) : Pt P F Sh Ju RB B (.inBlock id :: k) Own ρ a A w := pt_ctl hJ (fun _ => stepG_inBlock) h
theorem pt_loop (hJ : Jud P main Sh Ju) {c : Code} (h : Pt P F Sh Ju RB B (.code c :: .inLoop c :: k) Own ρ a A w) : Pt P F Sh Ju RB B (.code (.loop c) :: k) Own ρ a A w := pt_ctl hJ (fun _ => stepG_loop) h
theorem pt_inLoop (hJ : Jud P main Sh Ju) {c : Code} (h : Pt P F Sh Ju RB B (.code c :: .inLoop c :: k) Own ρ a A w) : Pt P F Sh Ju RB B (.inLoop c :: k) Own ρ a A w := pt_ctl hJ (fun _ => stepG_inLoop) h
theorem pt_exit (hJ : Jud P main Sh Ju) {id : Nat} {k' : List Item} (e : exitTo id k = some k') (h : Pt P F Sh Ju RB B k' Own ρ a A w) : Pt P F Sh Ju RB B (.code (.exit id) :: k) Own ρ a A w := pt_ctl hJ (fun _ => stepG_exit e) h
theorem pt_region (hJ : Jud P main Sh Ju) {id : Nat} {ops : Array Oper} (h : Pt P F Sh Ju RB B (.inRegion ops (List.range ops.size) :: k) Own ρ a A w) : Pt P F Sh Ju RB B (.code (.region id ops false) :: k) Own ρ a A w := pt_ctl hJ (fun _ => stepG_region) h
theorem pt_region_end (hJ : Jud P main Sh Ju) {ops : Array Oper} (h : Pt P F Sh Ju RB B k Own ρ a A w) : Pt P F Sh Ju RB B (.inRegion ops [] :: k) Own ρ a A w := pt_ctl hJ (fun _ => stepG_region_end) h
theorem pt_cond (hJ : Jud P main Sh Ju) {t : Tmp} {x y : Code} {b : Bool} (e : a.eval (.tmp t) = .bool b) (h : Pt P F Sh Ju RB B (.code (if b then x else y) :: k) Own ρ a A w) : Pt P F Sh Ju RB B (.code (.cond (.tmp t) x y) :: k) Own ρ a A w := fun W m => by
  have hv := m.row.getD t
  have e' : a.tmps.getD t undef = .bool b := e
  rw [e'] at hv
  have e2 : A.eval (.tmp t) = .bool b := by
    show A.tmps.getD t undef = _
    generalize A.tmps.getD t undef = z at hv
    cases hv; rfl
  exact pt_ctl hJ (fun _ => stepG_cond e2) h W m
/-- A piece, by its lone contract. -/
theorem pt_piece (hF : FnsOk2 P) (hJ : Jud P main Sh Ju) {c : Code} (hc : okCode P c = true) {b : Frame} (hb : b.kind = .normal) (hB : B.kind ≠ .early) (hfn : B.fn = b.fn) (hres : ∃ fn, P.funcs[b.fn]? = some fn ∧ resB fn = true)
    {Q : Act → World → Prop} (hwp : ∀ τ d, c.wp P (Exit.then Q fun _ _ _ => False) a (lay w τ d))
    (hn : ∀ ρ' a' A' w' Own', Ren.le ρ ρ' → (∀ b, Own b → Own' b) → (∃ τ d, Q a' (lay w' τ d)) → Pt P F Sh Ju RB B k Own' ρ' a' A' w') : Pt P F Sh Ju RB B (.code c :: k) Own ρ a A w := fun W m =>
  hJ _ _ _ (piece hF m hc hb hB hfn hres (fun e a w h => by cases e <;> first | exact .inl rfl | exact h.elim) hwp k RB
    (fun ρ' a' A' w' W' Own' m' hl ho hq => .stop (hn ρ' a' A' w' Own' hl ho hq W' m')) (fun _ _ _ _ _ _ _ _ _ hq => by obtain ⟨_, _, hq⟩ := hq; exact hq.elim))
/-- A piece that may return. -/
theorem pt_pieceR (hF : FnsOk2 P) (hJ : Jud P main Sh Ju) {c : Code} (hc : okCode P c = true) {b : Frame} (hb : b.kind = .normal) (hB : B.kind ≠ .early) (hfn : B.fn = b.fn) (hres : ∃ fn, P.funcs[b.fn]? = some fn ∧ resB fn = true)
    {Q R : Act → World → Prop} (hwp : ∀ τ d, c.wp P (Exit.then Q fun e a w => e = .ret ∧ R a w) a (lay w τ d))
    (hn : ∀ ρ' a' A' w' Own', Ren.le ρ ρ' → (∀ b, Own b → Own' b) → (∃ τ d, Q a' (lay w' τ d)) → Pt P F Sh Ju RB B k Own' ρ' a' A' w')
    (hr : ∀ ρ' a' A' w' W' Own', Mat P F Own' Sh ρ' a' A' w' W' → Ren.le ρ ρ' → (∀ b, Own b → Own' b) → (∃ τ d, R a' (lay w' τ d)) → ∀ todo, Ju Own' (G { B.at A' todo with mode := .returning } RB) W') : Pt P F Sh Ju RB B (.code c :: k) Own ρ a A w := fun W m =>
  hJ _ _ _ (piece hF m hc hb hB hfn hres (fun e a w h => by cases e <;> first | exact .inl rfl | exact .inr rfl | exact absurd h.1 (by simp)) hwp k RB
    (fun ρ' a' A' w' W' Own' m' hl ho hq => .stop (hn ρ' a' A' w' Own' hl ho hq W' m')) (fun ρ' a' A' w' W' Own' m' hl ho hq todo => by obtain ⟨τ, d, _, hq⟩ := hq; exact .stop (hr ρ' a' A' w' W' Own' m' hl ho ⟨τ, d, hq⟩ todo)))
/-- An operation. -/
theorem pt_op (hF : FnsOk2 P) (hJ : Jud P main Sh Ju) (hB : B.kind ≠ .early) {ops : Array Oper} {i : Nat} {l : List Nat} {o : Oper} (ho : ops[i]? = some o) (hop : okOp P o.op = true) (hw : Region.wanted o (yielded ops a.tmps) = true) {v : Value} {w' : World}
    (hrun : (∀ τ d, (execOp a.eval o).run P (lay w τ d) = .ok (.value v) (lay w' τ d)) ∨ (v = undef ∧ ∀ τ d, (execOp a.eval o).run P (lay w τ d) = .ok .skip (lay w' τ d)))
    (hn : ∀ ρ' v' Own', Ren.le ρ ρ' → (∀ b, Own b → Own' b) → VRel ρ' v v' → Pt P F Sh Ju RB B (.inRegion ops l :: k) Own' ρ' (a.put o.dst v) (A.put o.dst v') w') : Pt P F Sh Ju RB B (.inRegion ops (i :: l) :: k) Own ρ a A w := fun W m =>
  hJ _ _ _ (op_step hF m hB ho hop hw hrun fun ρ' v' W' Own' m' hl ho hv => .stop (hn ρ' v' Own' hl ho hv W' m'))
/-- A closure over a function that the shadow does not know: it has nothing in its place. -/
theorem pt_makeFunc (hJ : Jud P main Sh Ju) (hB : B.kind ≠ .early) {ops : Array Oper} {i : Nat} {l : List Nat} {o : Oper} (ho : ops[i]? = some o) (hg : o.guard = none) {f : FuncId} {caps : Array Operand} (hop : o.op = .makeFunc (.func f) #[] caps)
    (hn : Pt P F Sh Ju RB B (.inRegion ops l :: k) Own ρ (a.put o.dst undef) (A.put o.dst (.func (.func f) #[] (caps.map A.eval))) w) : Pt P F Sh Ju RB B (.inRegion ops (i :: l) :: k) Own ρ a A w := fun W m => by
  have hw : Region.wanted o (yielded ops A.tmps) = true := by simp [Region.wanted, hg]
  refine hJ _ _ _ (Goes'.ctl rfl rfl (fun W1 _ => ?_) fun W1 hr => .stop (hn W1 ?_))
  · have hr : (execOp A.eval o).run P W1 = .ok (.value (.func (.func f) #[] (caps.map A.eval))) W1 := by unfold execOp; rw [hop]; simp [Instr.makeFunc]
    have he : listed P B.fn A o W1 = #[] := by
      have : (execOp A.eval o).events P W1 #[] = #[] := by unfold execOp; rw [hop]; simp [Instr.makeFunc]
      unfold listed
      rw [this]
      exact seen_none _ _
    rw [stepG_value ho hw hB hr, he]
  · have m1 := m.rely hr
    refine { m1 with row := ?_, d := ?_, D := ?_ }
    · unfold Act.put
      cases o.dst with
      | none => exact m1.row
      | some t => exact m1.row.set t (.junkG _ _ _)
    · unfold Act.put; cases o.dst <;> exact m1.d
    · unfold Act.put; cases o.dst <;> exact m1.D
end
end Go.Proofs.Ytkodpijedinanaa.Sim

namespace Go.Proofs.Ytkodpijedinanaa.Sim
open Go Go.Conc
set_option linter.unusedVariables false
set_option linter.unusedSimpArgs false

open Classical in
noncomputable def frzO (b : Prop) : Obj → Obj
  | .cells c e z => if b then .cells c e (0, c.size) else .cells c e z
  | o => o
/-- These blocks are frozen whole. -/
noncomputable def frz (w : World) (Gs : Blk) : World := { w with heap := w.heap.mapIdx fun i o => frzO (Gs i) o }
theorem frz_get (w : World) (Gs : Blk) (i : Nat) : (frz w Gs).heap[i]? = (w.heap[i]?).map (frzO (Gs i)) := by
  show (w.heap.mapIdx _)[i]? = _
  simp [Array.getElem?_mapIdx]
theorem frz_size (w : World) (Gs : Blk) : (frz w Gs).heap.size = w.heap.size := by
  show (w.heap.mapIdx _).size = _
  simp
theorem frz_lay (w : World) (Gs : Blk) (τ : Tape) (d : Nat) : lay (frz w Gs) τ d = frz (lay w τ d) Gs := rfl
theorem frz_cells {w : World} {Gs : Blk} {i : Nat} {c : Array Value} {e : TypeId} {z : Nat × Nat} (h : w.heap[i]? = some (.cells c e z)) : ∃ z', (frz w Gs).heap[i]? = some (.cells c e z') ∧ (¬ Gs i → z' = z) ∧ (Gs i → z' = (0, c.size)) := by
  rw [frz_get, h, Option.map_some]
  by_cases hg : Gs i
  · exact ⟨_, by simp [frzO, hg], fun h => absurd hg h, fun _ => rfl⟩
  · exact ⟨_, by simp [frzO, hg], fun _ => rfl, fun h => absurd h hg⟩
theorem frz_cell (w : World) (Gs : Blk) (a : Addr) : (frz w Gs).cell? a = w.cell? a := by
  unfold World.cell?
  rw [frz_get]
  cases h : w.heap[a.block]? with
  | none => rfl
  | some o =>
    cases o with
    | cells c e z =>
      by_cases hg : Gs a.block <;> simp [frzO, hg]
    | _ => rfl
theorem frz_other {w : World} {Gs : Blk} {i : Nat} {o : Obj} (h : w.heap[i]? = some o) (ho : ∀ c e z, o ≠ .cells c e z) : (frz w Gs).heap[i]? = some o := by
  rw [frz_get, h, Option.map_some]
  cases o with
  | cells c e z => exact absurd rfl (ho c e z)
  | _ => rfl
section
theorem WRel.frz {ρ : Ren} {w W : World} (h : WRel ρ w W) (Gs : Blk) : WRel ρ (frz w Gs) W where
  fn := h.fn
  inj := h.inj
  dom := fun x y hxy => by
    obtain ⟨o, o', h1, h2, h3⟩ := h.dom x y hxy
    cases h3 with
    | @cells c d e p q p' q' hr hf =>
      obtain ⟨z', h4, h5, h6⟩ := frz_cells (Gs := Gs) h1
      by_cases hg : Gs x
      · obtain rfl := h6 hg
        exact ⟨_, _, h4, h2, .cells e hr fun i _ _ hi => ⟨Nat.zero_le _, hi⟩⟩
      · obtain rfl := h5 hg
        exact ⟨_, _, h4, h2, .cells e hr hf⟩
    | number l hn => exact ⟨_, _, frz_other h1 (fun _ _ _ e => by cases e), h2, .number l hn⟩
    | chan => exact ⟨_, _, frz_other h1 (fun _ _ _ e => by cases e), h2, .chan⟩
/-- What may be shared: rows and channels. -/
def Plain (w : World) (x : Nat) : Prop := (∃ c e z, w.heap[x]? = some (.cells c e z)) ∨ ∃ p f s r t, w.heap[x]? = some (.chan p #[] f s r t)
theorem Mat.share {P : Program} {F Own Sh : Blk} {ρ : Ren} {a A : Act} {w W : World} (m : Mat P F Own Sh ρ a A w W) {Gs : Blk} (hG : ∀ x, Gs x → Plain w x ∧ ¬ F x) :
    Mat P (fun x => F x ∨ Gs x) (fun b => Own b ∧ ¬ ∃ x, Gs x ∧ ρ x b) (fun b => Sh b ∨ ∃ x, Gs x ∧ ρ x b) ρ a A (frz w Gs) W where
  row := m.row
  d := m.d
  D := m.D
  wr := m.wr.frz Gs
  above := m.above
  size := by rw [frz_size]; exact m.size
  size' := m.size'
  fz := fun x hx => by
    rcases hx with hx | hx
    · rcases m.fz x hx with ⟨c, e, h⟩ | ⟨p, f, s, r, t, h⟩
      · obtain ⟨z', h4, h5, h6⟩ := frz_cells (Gs := Gs) h
        by_cases hg : Gs x
        · rw [h6 hg] at h4; exact .inl ⟨c, e, h4⟩
        · rw [h5 hg] at h4; exact .inl ⟨c, e, h4⟩
      · exact .inr ⟨p, f, s, r, t, frz_other h (fun _ _ _ e => by cases e)⟩
    · rcases (hG x hx).1 with ⟨c, e, z, h⟩ | ⟨p, f, s, r, t, h⟩
      · obtain ⟨z', h4, h5, h6⟩ := frz_cells (Gs := Gs) h
        rw [h6 hx] at h4; exact .inl ⟨c, e, h4⟩
      · exact .inr ⟨p, f, s, r, t, frz_other h (fun _ _ _ e => by cases e)⟩
  own := fun x b hxb hn => ⟨m.own x b hxb fun h => hn (.inl h), fun ⟨y, hy, hyb⟩ => hn (.inr (m.wr.inj _ _ _ hxb hyb ▸ hy))⟩
  sh := fun x b hxb h => by
    rcases h with h | h
    · exact .inl (m.sh x b hxb h)
    · exact .inr ⟨x, h, hxb⟩
theorem pt_share {P : Program} {W0 : World} {lo n : Nat} {Post : Value → World → Prop} {pend : Nat → Option (Nat × Prm)} {F Own Sh : Blk} {ρ : Ren} {a A : Act} {w : World} {RB : List Frame} {B : Frame} {items : List Item} {Gs : Blk} (hG : ∀ x, Gs x → Plain w x ∧ ¬ F x)
    (h : Pt P (fun x => F x ∨ Gs x) (fun b => Sh b ∨ ∃ x, Gs x ∧ ρ x b) (MGo P W0 lo Post n pend (fun b => Sh b ∨ ∃ x, Gs x ∧ ρ x b)) RB B items (fun b => Own b ∧ ¬ ∃ x, Gs x ∧ ρ x b) ρ a A (frz w Gs)) :
    Pt P F Sh (MGo P W0 lo Post n pend Sh) RB B items Own ρ a A w := fun W m =>
  .share (Give := fun b => ∃ x, Gs x ∧ ρ x b) (fun b ⟨x, hx, hxb⟩ => m.own x b hxb (hG x hx).2) (h W (m.share hG))
/-- A block of another's is one's own from here on. -/
theorem Mat.adopt {P : Program} {F Own Sh Bk : Blk} {ρ : Ren} {a A : Act} {w W : World} (m : Mat P F Own Sh ρ a A w W) {g : Nat} {row : Array Value} {e : TypeId} {z : Nat × Nat} (hg : W.heap[g]? = some (.cells row e z)) (hz : ∀ i, z.1 ≤ i → i < z.2 → i < row.size → False)
    (hrow : ∀ (i : Nat) v, row[i]? = some v → ∃ k n, v = .int k n) (hB : Bk g) (ho : ¬ Own g) (hs : ¬ Sh g) :
    Mat P F (fun b => Own b ∨ Bk b) Sh (ρ.ext w.heap.size g) a A { w with heap := w.heap.push (.cells row e (0, 0)) } W := by
  have hle := Ren.le_ext ρ w.heap.size g
  have hd : ∀ x b, ρ x b → x < w.heap.size ∧ b ≠ g := fun x b hxb => by
    obtain ⟨_, _, h1, h2, _⟩ := m.wr.dom x b hxb
    refine ⟨(Array.getElem?_eq_some_iff.1 h1).1, fun e => ?_⟩
    subst e
    rcases m.inn x b hxb with h | h
    · exact ho h
    · exact hs h
  have hF : ∀ x, F x → x < w.heap.size := fun x hx => by
    rcases m.fz x hx with ⟨_, _, h⟩ | ⟨_, _, _, _, _, h⟩ <;> exact (Array.getElem?_eq_some_iff.1 h).1
  have hget : ∀ x, x < w.heap.size → (w.heap.push (.cells row e (0, 0)))[x]? = w.heap[x]? := fun x hx => by rw [Array.getElem?_push, if_neg (by omega)]
  refine ⟨m.row.mono hle, m.d, m.D, ⟨fun x b hxb => ?_, fun x b b' h1 h2 => ?_, fun x x' b h1 h2 => ?_⟩, Above.ext m.above m.size, ?_, m.size', fun x hx => ?_, fun x b hxb hn => ?_, fun x b hxb hx => ?_⟩
  · rcases hxb with hxb | ⟨rfl, rfl⟩
    · obtain ⟨o, o', h1, h2, h3⟩ := m.wr.dom x b hxb
      exact ⟨o, o', by rw [hget x (hd x b hxb).1]; exact h1, h2, h3.mono hle⟩
    · refine ⟨.cells row e (0, 0), _, by simp, hg, .cells e ⟨rfl, fun i v u h1 h2 => ?_⟩ fun i h1 h2 h3 => (hz i h1 h2 h3).elim⟩
      rw [h1] at h2
      cases h2
      obtain ⟨k, n, rfl⟩ := hrow i v h1
      exact .int k n
  · rcases h1 with h1 | ⟨e1, e2⟩ <;> rcases h2 with h2 | ⟨e3, e4⟩
    · exact m.wr.fn _ _ _ h1 h2
    · have := (hd _ _ h1).1; omega
    · have := (hd _ _ h2).1; omega
    · omega
  · rcases h1 with h1 | ⟨e1, e2⟩ <;> rcases h2 with h2 | ⟨e3, e4⟩
    · exact m.wr.inj _ _ _ h1 h2
    · exact absurd e4 (hd _ _ h1).2
    · exact absurd e2 (hd _ _ h2).2
    · omega
  · show P.globals.size ≤ (w.heap.push _).size
    have := m.size
    simp; omega
  · have := hF x hx
    show (∃ c e', (w.heap.push (.cells row e (0, 0)))[x]? = _) ∨ ∃ p f s r t, (w.heap.push (.cells row e (0, 0)))[x]? = _
    rw [hget x this]
    exact m.fz x hx
  · rcases hxb with hxb | ⟨rfl, rfl⟩
    · exact .inl (m.own x b hxb hn)
    · exact .inr hB
  · rcases hxb with hxb | ⟨rfl, rfl⟩
    · exact m.sh x b hxb hx
    · exact absurd (hF _ hx) (Nat.lt_irrefl _)
theorem Mat.chanOpen {P : Program} {F Own Sh : Blk} {ρ : Ren} {a A : Act} {w W : World} (m : Mat P F Own Sh ρ a A w W) {x c : Nat} (hx : ρ x c) {s : Nat} {t : Bool} (h : w.heap[x]? = some (.chan 0 #[] false s s t)) : Sim.chanOpen W c := by
  obtain ⟨o, o', h1, h2, h3⟩ := m.wr.dom x c hx
  rw [h] at h1
  cases h1
  cases h3
  exact ⟨_, _, h2⟩
/-- The frame beneath a worker's. -/
def bornF (P : Program) : Frame := { (default : Frame) with fn := P.funcs.size, defers := [], mode := .panicking [goexitEntry] }
theorem born_step {P : Program} {main : Bool} {f : FuncId} {fn : Func} {c : Code} {caps : Array Value} (hf : P.funcs[f]? = some fn) (hname : (fn.name == "runtime.NumGoroutine") = false) (hb : fn.body = some c) (W : World) :
    stepG P main (born P { target := .fn (.func f) caps, args := #[] }) W = .go (G ((baseD f).at { tmps := caps ++ Array.replicate (fn.ntmps - caps.size) undef, defers := [] } [.code c]) [bornF P]) W #[] := by
  rw [show (G ((baseD f).at { tmps := caps ++ Array.replicate (fn.ntmps - caps.size) undef, defers := [] } [.code c]) [bornF P]) = G (Frame.enter P f caps .deferred) [bornF P] from by rw [enter_atD caps hf hb]]
  have h1 : ¬ fn.name = "runtime.NumGoroutine" := by simpa using hname
  have h2 : ¬ fn.body = none := by rw [hb]; simp
  have hr : (invoke (.fn (.func f) caps) #[]).run P W = .ok (.enter f caps) W := by simp [invoke, callFunc, hf, h1, h2]
  have he : (invoke (.fn (.func f) caps) #[]).events P W #[] = #[] := by simp [invoke, callFunc, hf, h1, h2]
  simp [stepG, born, unwind, callDeferred, hr, he, GStep.after, seen_none, G, bornF]
/-- A worker behind its send. -/
theorem quits_worker {P : Program} {f : FuncId} {fn : Func} (hf : P.funcs[f]? = some fn) (hres : fn.results = #[]) (A : Act) (hA : A.defers = []) (ops : Array Oper) : QuitsIn P 5 (G ((baseD f).at A [.inRegion ops []]) [bornF P]) := by
  refine .ctl rfl (fun w => stepG_region_end) (.ctl rfl (fun w => stepG_end) (.ctl (g' := G (bornF P) []) rfl (fun w => ?_) (.ctl (g' := { G (bornF P) [] with status := .finished }) rfl (fun w => ?_) (.inl rfl))))
  · have hr := results_none hres A.tmps P w
    have he := events_results_none (P := P) (w := w) hres A.tmps #[]
    simp [stepG, G, unwind, doReturn, Frame.at, baseD, hA, hf, hr, he, seen_none, GStep.after, bornF, goexitEntry]
  · have : P.funcs[P.funcs.size]? = none := by simp
    simp [stepG, G, unwind, bornF, Frame.catches, this, goexitEntry]
    rfl
end
end Go.Proofs.Ytkodpijedinanaa.Sim
