/- Texts that the claim imports, laid together: MaJ MaK MaL MaM MaN MaO MaP. No statement of their own. -/
import Derived.Conc.Own
import Derived.Test.YtkodpijedinanaaKac
namespace Go.Proofs.Ytkodpijedinanaa.Sim
open Go
set_option linter.unusedVariables false
set_option linter.unusedSimpArgs false

/-- The world with this tape, of which d answers are taken. -/
def lay (w : World) (τ : Nat → Question → Nat) (d : Nat) : World := { w with tape := τ, drawn := d }
theorem lay_heap (w : World) (τ : Nat → Question → Nat) (d : Nat) : (lay w τ d).heap = w.heap := rfl
theorem lay_lay (w : World) (τ τ' : Nat → Question → Nat) (d d' : Nat) : lay (lay w τ d) τ' d' = lay w τ' d' := rfl
theorem WRel.lay {ρ : Ren} {w W : World} (h : WRel ρ w W) (τ : Nat → Question → Nat) (d : Nat) : WRel ρ (lay w τ d) W := ⟨h.dom, h.fn, h.inj⟩
theorem WRel.lay' {ρ : Ren} {w W : World} (h : WRel ρ w W) (τ : Nat → Question → Nat) (d : Nat) : WRel ρ w (Sim.lay W τ d) := ⟨h.dom, h.fn, h.inj⟩
theorem Dead.soft {α : Type} {P : Program} {s : Sem α} (h : Dead P s) : ∀ (w : World) (x : Halt) (w1 : World), s.run P w = .halt x w1 → softB x = true := by
  induction h with
  | halt h hs => intro w x w1 e; simp only [Sem.run, Result.halt.injEq] at e; rw [← e.1]; exact hs
  | mark m _ ih => intro w a w1 e; simp only [Sem.run] at e; exact ih w a w1 e
  | shape r _ ih => intro w a w1 e; simp only [Sem.run] at e; exact ih _ w a w1 e
  | frozen r _ ih => intro w a w1 e; simp only [Sem.run] at e; exact ih _ w a w1 e
  | choose q _ ih =>
    intro w a w1 e
    simp only [Sem.run] at e
    split at e
    · exact ih _ w a w1 e
    · exact ih _ _ a w1 e
  | program _ ih => intro w a w1 e; simp only [Sem.run] at e; exact ih w a w1 e
theorem WRel.farSoft {ρ : Ren} {w W : World} (h : WRel ρ w W) {a b : Addr} (hab : ARel ρ a b) (P : Program) (m : Bool) : ∃ s, w.farLoad P a m = .error s ∧ softB s = true := by
  obtain ⟨o, o', h1, h2, h3⟩ := h.dom _ _ hab.1
  cases h3 with
  | opq => exact ⟨_, by unfold World.farLoad; rw [h1]; simp only [Sim.opq, World.viewLoad, World.seen, Option.isSome_some, Bool.or_true, if_true]; rfl, rfl⟩
  | _ => exact ⟨_, by unfold World.farLoad World.noCell; rw [h1], rfl⟩
theorem WRel.farSoftS {ρ : Ren} {w W : World} (h : WRel ρ w W) {a b : Addr} (hab : ARel ρ a b) (P : Program) (v : Value) (m : Bool) : ∃ s, w.farStore P a v m = .error s ∧ softB s = true := by
  obtain ⟨o, o', h1, h2, h3⟩ := h.dom _ _ hab.1
  cases h3 with
  | opq =>
    unfold World.farStore
    rw [h1]
    have hseen : w.seen P ⟨0, 0, some 0⟩ 0 a m = .error "memory seen as another type: a place without cells" := by
      unfold World.seen
      simp only [Option.isSome_some, Bool.or_true, if_true]
      rfl
    have : ∃ s, w.viewStore P ⟨0, 0, some 0⟩ 0 a v m = .error s := by
      unfold World.viewStore
      by_cases ht : tight P P.depth 0 = true
      · simp only [ht, Bool.not_true, Bool.false_eq_true, if_false, hseen]
        exact ⟨_, rfl⟩
      · simp only [ht, Bool.not_false, if_true]
        exact ⟨_, rfl⟩
    obtain ⟨s, hs⟩ := this
    simp only [Sim.opq, hs]
    exact ⟨_, rfl, rfl⟩
  | _ => exact ⟨_, by unfold World.farStore World.noCell; rw [h1], rfl⟩
/-- How a matched piece halts. -/
theorem SemRel.soft {α β : Type} {P : Program} {R : Ren → α → β → Prop} {ρ : Ren} {s : Sem α} {s' : Sem β} (h : SemRel P R ρ s s') :
    ∀ (w W : World) (x : Halt) (w1 : World), WRel ρ w W → P.globals.size ≤ w.heap.size → P.globals.size ≤ W.heap.size → s.run P w = .halt x w1 → softB x = true := by
  induction h with
  | pure h => intro w W x w1 hw hg hG e; simp [Sem.run] at e
  | @load ρ a b k k' hab hk ih =>
    intro w W x w1 hw hg hG e
    simp only [Sem.run] at e
    split at e
    · rename_i v hv
      obtain ⟨u, hu, hvu⟩ := hw.cell hab hv
      exact ih v u hvu w W x w1 hw hg hG e
    · obtain ⟨s, hs, hq⟩ := hw.farSoft hab P (Mode.plain == Mode.atomic)
      rw [hs] at e
      simp only [Result.halt.injEq] at e
      rw [← e.1]; exact hq
  | @store ρ a b v u k k' hab hvu hk ih =>
    intro w W x w1 hw hg hG e
    cases v <;> simp only [Sem.run] at e <;> first
      | (simp only [Result.halt.injEq] at e; rw [← e.1]; rfl)
      | (split at e
         · split at e
           · simp only [Result.halt.injEq] at e; rw [← e.1]; rfl
           · exact ih (w.setCell a _) (W.setCell b u) x w1 (hw.set hab hvu) (by rw [setCell_size]; exact hg) (by rw [setCell_size]; exact hG) e
         · obtain ⟨s, hs, hq⟩ := hw.farSoftS hab P _ (Mode.plain == Mode.atomic)
           rw [hs] at e
           simp only [Result.halt.injEq] at e
           rw [← e.1]; exact hq)
  | @new ρ o o' k k' ho hk ih =>
    intro w W x w1 hw hg hG e
    simp only [Sem.run] at e
    exact ih w.heap.size W.heap.size hg hG { w with heap := w.heap.push o } { W with heap := W.heap.push o' } x w1 (hw.new ho) (by simp; omega) (by simp; omega) e
  | @choose ρ q k k' hk ih =>
    intro w W x w1 hw hg hG e
    simp only [Sem.run] at e
    split at e
    · exact ih 0 w W x w1 hw hg hG e
    · exact ih _ { w with drawn := w.drawn + 1 } W x w1 ⟨hw.dom, hw.fn, hw.inj⟩ hg hG e
  | @program ρ k k' hk ih => intro w W x w1 hw hg hG e; simp only [Sem.run] at e; exact ih w W x w1 hw hg hG e
  | @shape ρ r r' k k' hρ hk hk2 ih ih2 => intro w W x w1 hw hg hG e; simp only [Sem.run] at e; exact ih _ w W x w1 hw hg hG e
  | @getObj ρ r r' k k' hρ hk hd ih =>
    intro w W x w1 hw hg hG e
    obtain ⟨o, o', q1, q2, q3⟩ := hw.dom _ _ hρ
    simp only [Sem.run, q1] at e
    have q3' := q3
    cases q3 with
    | cells => simp only [Result.halt.injEq] at e; rw [← e.1]; rfl
    | number l hl => exact ih _ _ (.number l hl) w W x w1 hw hg hG e
    | chan => exact ih _ _ (.chan (s' := 0)) w W x w1 hw hg hG e
    | opq => exact hd.soft w x w1 e
  | @looks ρ γ γ' T p p' k k' h1 h2 h3 hk ih =>
    intro w W x w1 hw hg hG e
    rw [run_bind1] at e
    cases hp : p.run P w with
    | halt y w2 => rw [hp] at e; cases e; exact h2 _ _ _ hp
    | ok u w2 =>
      rw [hp] at e
      obtain ⟨rfl, _⟩ := h1 _ _ _ hp
      obtain ⟨u', l0, e1, e2, hT⟩ := h3 w2 W u w2 hw hp
      exact ih u u' hT w2 W x w1 hw hg hG e
  | @extern ρ g k k' hk ih => intro w W x w1 hw hg hG e; simp only [Sem.run] at e; exact ih w W x w1 hw hg hG e
  | @noRoom ρ k k' hk ih => intro w W x w1 hw hg hG e; simp only [Sem.run] at e; exact ih w W x w1 hw hg hG e
  | halt h s hs => intro w W x w1 hw hg hG e; simp only [Sem.run, Result.halt.injEq] at e; rw [← e.1]; exact hs
  | dead h s => intro w W x w1 hw hg hG e; exact h.soft w x w1 e
/-- A matched piece hangs on the tape by what it draws alone. -/
theorem SemRel.local {α β : Type} {P : Program} {R : Ren → α → β → Prop} {ρ : Ren} {s : Sem α} {s' : Sem β} (h : SemRel P R ρ s s') (τ : Nat → Question → Nat) :
    ∀ (w W : World) (d : Nat) (x : α) (w1 : World), WRel ρ w W → P.globals.size ≤ w.heap.size → P.globals.size ≤ W.heap.size → s.run P w = .ok x w1 →
      (∀ n, n < w1.drawn - w.drawn → ∀ q, w.tape (w.drawn + n) q = τ (d + n) q) → s.run P (lay w τ d) = .ok x (lay w1 τ (d + (w1.drawn - w.drawn))) := by
  induction h with
  | pure h =>
    intro w W d x w1 hw hg hG e al
    simp only [Sem.run, Result.ok.injEq] at e
    obtain ⟨rfl, rfl⟩ := e
    simp [Sem.run]
  | @load ρ a b k k' hab hk ih =>
    intro w W d x w1 hw hg hG e al
    simp only [Sem.run] at e
    split at e
    · rename_i v hv
      obtain ⟨u, hu, hvu⟩ := hw.cell hab hv
      have := ih v u hvu w W d x w1 hw hg hG e al
      simp only [Sem.run]
      rw [show (lay w τ d).cell? a = w.cell? a from rfl, hv]
      exact this
    · obtain ⟨s, hs, _⟩ := hw.farSoft hab P (Mode.plain == Mode.atomic)
      rw [hs] at e
      cases e
  | @store ρ a b v u k k' hab hvu hk ih =>
    intro w W d x w1 hw hg hG e al
    cases v <;> simp only [Sem.run] at e <;> first
      | (cases e; done)
      | (split at e
         · rename_i c hc
           split at e
           · cases e
           · rename_i hf
             have := ih (w.setCell a _) (W.setCell b u) d x w1 (hw.set hab hvu) (by rw [setCell_size]; exact hg) (by rw [setCell_size]; exact hG) e al
             simp only [Sem.run]
             rw [show (lay w τ d).cell? a = w.cell? a from rfl, hc, show (lay w τ d).frozen? a = w.frozen? a from rfl]
             simp only [hf]
             exact this
         · obtain ⟨s, hs, _⟩ := hw.farSoftS hab P _ (Mode.plain == Mode.atomic)
           rw [hs] at e
           cases e)
  | @new ρ o o' k k' ho hk ih =>
    intro w W d x w1 hw hg hG e al
    simp only [Sem.run] at e ⊢
    exact ih w.heap.size W.heap.size hg hG { w with heap := w.heap.push o } { W with heap := W.heap.push o' } d x w1 (hw.new ho) (by simp; omega) (by simp; omega) e al
  | @choose ρ q k k' hk ih =>
    intro w W d x w1 hw hg hG e al
    simp only [Sem.run] at e ⊢
    split at e
    · rename_i hq
      rw [if_pos hq]
      exact ih 0 w W d x w1 hw hg hG e al
    · rename_i hq
      rw [if_neg hq]
      have hge : w.drawn + 1 ≤ w1.drawn := drawn_le (k _) _ _ _ e
      have h0 := al 0 (by omega) q
      rw [Nat.add_zero, Nat.add_zero] at h0
      have := ih (q.cut (w.tape w.drawn q)) { w with drawn := w.drawn + 1 } W (d + 1) x w1 ⟨hw.dom, hw.fn, hw.inj⟩ hg hG e fun n hn q' => by
        have := al (n + 1) (by show n + 1 < w1.drawn - w.drawn; simp only at hn; omega) q'
        show w.tape (w.drawn + 1 + n) q' = τ (d + 1 + n) q'
        rw [show w.drawn + 1 + n = w.drawn + (n + 1) by omega, show d + 1 + n = d + (n + 1) by omega]
        exact this
      rw [show (lay w τ d).drawn = d from rfl, show (lay w τ d).tape d q = τ d q from rfl, ← h0]
      refine Eq.trans this ?_
      congr 2
      show d + 1 + (w1.drawn - (w.drawn + 1)) = d + (w1.drawn - w.drawn)
      omega
  | @program ρ k k' hk ih => intro w W d x w1 hw hg hG e al; simp only [Sem.run] at e ⊢; exact ih w W d x w1 hw hg hG e al
  | @shape ρ r r' k k' hρ hk hk2 ih ih2 => intro w W d x w1 hw hg hG e al; simp only [Sem.run] at e ⊢; exact ih _ w W d x w1 hw hg hG e al
  | @getObj ρ r r' k k' hρ hk hd ih =>
    intro w W d x w1 hw hg hG e al
    obtain ⟨o, o', q1, q2, q3⟩ := hw.dom _ _ hρ
    have q1' : (lay w τ d).heap[r]? = some o := q1
    simp only [Sem.run, q1] at e
    simp only [Sem.run, q1']
    have q3' := q3
    cases q3 with
    | cells => cases e
    | number l hl => exact ih _ _ (.number l hl) w W d x w1 hw hg hG e al
    | chan => exact ih _ _ (.chan (s' := 0)) w W d x w1 hw hg hG e al
    | opq => exact absurd e (hd.run w x w1)
  | @looks ρ γ γ' T p p' k k' h1 h2 h3 hk ih =>
    intro w W d x w1 hw hg hG e al
    rw [run_bind1] at e
    rw [run_bind1]
    cases hp : p.run P w with
    | halt y w2 => rw [hp] at e; cases e
    | ok u w2 =>
      rw [hp] at e
      obtain ⟨rfl, hq⟩ := h1 _ _ _ hp
      obtain ⟨u', l0, e1, e2, hT⟩ := h3 w2 W u w2 hw hp
      rw [hq (lay w2 τ d) rfl]
      exact ih u u' hT w2 W d x w1 hw hg hG e al
  | @extern ρ g k k' hk ih => intro w W d x w1 hw hg hG e al; simp only [Sem.run] at e ⊢; exact ih w W d x w1 hw hg hG e al
  | @noRoom ρ k k' hk ih => intro w W d x w1 hw hg hG e al; simp only [Sem.run] at e ⊢; exact ih w W d x w1 hw hg hG e al
  | halt h s hs => intro w W d x w1 hw hg hG e al; simp only [Sem.run] at e; cases e
  | dead h s => intro w W d x w1 hw hg hG e al; exact absurd e (h.run w x w1)
end Go.Proofs.Ytkodpijedinanaa.Sim

namespace Go.Proofs.Ytkodpijedinanaa.Sim
open Go Go.Conc
set_option linter.unusedVariables false
set_option linter.unusedSimpArgs false

/-- A frame and its callers. -/
abbrev Stack := Frame × List Frame
def uponS (P : Program) (fr : Frame) (cs : List Frame) : Next → Sem Stack
  | .value v => .pure (fr.finish v, cs)
  | .skip => .pure (fr.finish undef, cs)
  | .enter f args => .pure (Frame.enter P f args .normal, fr :: cs)
  | _ => .halt (.stuck "")
def backS (cs : List Frame) (v : Value) : Sem Stack := match cs with
  | c :: cs => .pure (c.finish v, cs)
  | [] => .halt (.stuck "")
/-- One own step. -/
def stepSem (P : Program) (fr : Frame) (cs : List Frame) : Sem Stack :=
  match fr.mode with
  | .run => match fr.todo with
    | [] => .pure ({ fr with mode := .returning }, cs)
    | .code .ret :: _ => .pure ({ fr with mode := .returning }, cs)
    | .code .skip :: k => .pure ({ fr with todo := k }, cs)
    | .code (.label _) :: k => .pure ({ fr with todo := k }, cs)
    | .inBlock _ :: k => .pure ({ fr with todo := k }, cs)
    | .code (.seq a b) :: k => .pure ({ fr with todo := .code a :: .code b :: k }, cs)
    | .code (.cond c thn els) :: k => match fr.eval c with
      | .bool b => .pure ({ fr with todo := .code (if b then thn else els) :: k }, cs)
      | _ => .halt (.stuck "")
    | .code (.block id body) :: k => .pure ({ fr with todo := .code body :: .inBlock id :: k }, cs)
    | .code (.loop body) :: k => .pure ({ fr with todo := .code body :: .inLoop body :: k }, cs)
    | .inLoop body :: k => .pure ({ fr with todo := .code body :: .inLoop body :: k }, cs)
    | .code (.exit id) :: k => match exitTo id k with
      | some k' => .pure ({ fr with todo := k' }, cs)
      | none => .halt (.stuck "")
    | .code (.region id ops draw) :: k =>
      if draw then .choose (.order fr.fn id) fun t => .pure ({ fr with todo := .inRegion ops (Region.schedule (P.follows .mixedOrders) ops t) :: k }, cs)
      else .pure ({ fr with todo := .inRegion ops (List.range ops.size) :: k }, cs)
    | .inRegion _ [] :: k => .pure ({ fr with todo := k }, cs)
    | .inRegion ops (i :: _) :: _ => match ops[i]? with
      | none => .pure (fr.finish undef, cs)
      | some o => if Region.wanted o (yielded ops fr.tmps) then (execOp fr.eval o).bind (uponS P fr cs) else .pure (fr.finish undef, cs)
    | _ => .halt (.stuck "")
  | .returning => match P.funcs[fr.fn]? with
    | none => .halt (.stuck "")
    | some fn => (results fn fr.tmps).bind (backS cs)
  | _ => .halt (.stuck "")
/-- Nothing deferred, no round, an ordinary call. -/
structure Calm (fr : Frame) : Prop where
  defers : fr.defers = []
  round : fr.roundOf = none
  kind : fr.kind = .normal
/-- The same, of whatever make of call but one. -/
structure CalmE (fr : Frame) : Prop where
  defers : fr.mode = .returning → fr.defers = []
  round : fr.roundOf = none
  kind : fr.kind ≠ .early
theorem Calm.toE {fr : Frame} (h : Calm fr) : CalmE fr := ⟨fun _ => h.defers, h.round, by rw [h.kind]; decide⟩
theorem stepG_ok {P : Program} {main : Bool} {fr : Frame} {cs : List Frame} {w w' : World} {st : Stack} {es : Array Event} (hc : CalmE fr) (hb : fr.mode = .returning → fr.kind = .normal) (h : (stepSem P fr cs).runT P w #[] = (.ok st w', es)) :
    stepG P main (G fr cs) w = .go (G st.1 st.2) w' (seen P fr.fn es) := by
  obtain ⟨fn, tmps, todo, defers, mode, kind, roundOf⟩ := fr
  obtain ⟨h1, h2, h3⟩ := hc
  simp only at h1 h2 h3
  subst h2
  cases mode with
  | panicking c => simp [stepSem, Sem.runT] at h
  | returning =>
    have hb := hb rfl
    simp only at hb
    subst hb
    have h1 := h1 rfl
    subst h1
    simp only [stepSem] at h
    simp only [stepG, G, unwind]
    cases hf : P.funcs[fn]? with
    | none => rw [hf] at h; simp [Sem.runT] at h
    | some f =>
      rw [hf] at h
      simp only [runT_bind] at h
      rcases hr : (results f tmps).runT P w #[] with ⟨r, es1⟩
      rw [hr] at h
      cases r with
      | halt x w1 => simp at h
      | ok v w1 =>
        simp only at h
        cases cs with
        | nil => simp [backS, Sem.runT] at h
        | cons c cs =>
          simp only [backS, Sem.runT, Prod.mk.injEq, Result.ok.injEq] at h
          obtain ⟨⟨rfl, rfl⟩, rfl⟩ := h
          simp [-Sem.runT_eq, hr, doReturn, GStep.after, G]
  | run =>
    cases todo with
    | nil =>
      simp only [stepSem, Sem.runT, Prod.mk.injEq, Result.ok.injEq] at h
      obtain ⟨⟨rfl, rfl⟩, rfl⟩ := h
      simp [stepG, stepG.exec, G, seen]
    | cons it k =>
      cases it with
      | code c =>
        cases c with
        | region id ops draw =>
          cases draw
          · simp only [stepSem, Sem.runT, Prod.mk.injEq, Result.ok.injEq, Bool.false_eq_true, if_false] at h
            obtain ⟨⟨rfl, rfl⟩, rfl⟩ := h
            simp [stepG, stepG.exec, G, seen]
          · simp only [stepSem, Sem.runT, if_true, Question.forced, Bool.false_eq_true, if_false, Prod.mk.injEq, Result.ok.injEq] at h
            obtain ⟨⟨rfl, rfl⟩, rfl⟩ := h
            simp [stepG, stepG.exec, G, seen, choose, Sem.run, Question.forced, Question.cut]
        | cond c a b =>
          simp only [stepSem] at h
          split at h
          · rename_i t ht
            simp only [Sem.runT, Prod.mk.injEq, Result.ok.injEq] at h
            obtain ⟨⟨rfl, rfl⟩, rfl⟩ := h
            simp [stepG, stepG.exec, G, seen, ht]
          · simp [Sem.runT] at h
        | exit id =>
          simp only [stepSem] at h
          split at h
          · rename_i t ht
            simp only [Sem.runT, Prod.mk.injEq, Result.ok.injEq] at h
            obtain ⟨⟨rfl, rfl⟩, rfl⟩ := h
            simp [stepG, stepG.exec, G, seen, ht]
          · simp [Sem.runT] at h
        | _ => first
          | (simp [stepSem, Sem.runT] at h; done)
          | (simp only [stepSem, Sem.runT, Prod.mk.injEq, Result.ok.injEq] at h
             obtain ⟨⟨rfl, rfl⟩, rfl⟩ := h
             simp [stepG, stepG.exec, G, seen])
      | inRegion ops l =>
        cases l with
        | nil =>
          simp only [stepSem, Sem.runT, Prod.mk.injEq, Result.ok.injEq] at h
          obtain ⟨⟨rfl, rfl⟩, rfl⟩ := h
          simp [stepG, stepG.exec, G, seen]
        | cons i l =>
          simp only [stepSem] at h
          cases ho : ops[i]? with
          | none =>
            rw [ho] at h
            simp only [Sem.runT, Prod.mk.injEq, Result.ok.injEq] at h
            obtain ⟨⟨rfl, rfl⟩, rfl⟩ := h
            simp [stepG, stepG.exec, G, seen, ho]
          | some o =>
            rw [ho] at h
            simp only at h
            split at h
            · rename_i hw
              simp only [runT_bind] at h
              generalize hfr : ({ fn := fn, tmps := tmps, todo := .inRegion ops (i :: l) :: k, defers := defers, mode := .run, kind := kind, roundOf := none } : Frame) = fr at h
              have e1 : stepG P main (G fr cs) w = stepG.apply P true fr cs none (execOp fr.eval o) w := by
                subst hfr
                simp [stepG, stepG.exec, stepG.oper, G, ho, hw, Frame.oper?]
              rw [e1]
              have hk : (fr.kind == CallKind.early) = false := by subst hfr; simpa using h3
              have hfn : fr.fn = fn := by subst hfr; rfl
              have ht : fr.todo = .inRegion ops (i :: l) :: k := by subst hfr; rfl
              rcases hr : (execOp fr.eval o).runT P w #[] with ⟨r, es1⟩
              rw [hr] at h
              cases r with
              | halt x w1 => simp at h
              | ok n w1 =>
                simp only at h
                cases n with
                | value v =>
                  simp only [uponS, Sem.runT, Prod.mk.injEq, Result.ok.injEq] at h
                  obtain ⟨⟨rfl, rfl⟩, rfl⟩ := h
                  simp [-Sem.runT_eq, stepG.apply, hr, hk, GStep.after, G]
                | skip =>
                  simp only [uponS, Sem.runT, Prod.mk.injEq, Result.ok.injEq] at h
                  obtain ⟨⟨rfl, rfl⟩, rfl⟩ := h
                  simp [-Sem.runT_eq, stepG.apply, hr, hk, GStep.after, G]
                | enter f args =>
                  simp only [uponS, Sem.runT, Prod.mk.injEq, Result.ok.injEq] at h
                  obtain ⟨⟨rfl, rfl⟩, rfl⟩ := h
                  simp [-Sem.runT_eq, stepG.apply, hr, hk, GStep.after, G, ht]
                | _ => simp [uponS, Sem.runT] at h
            · rename_i hw
              simp only [Sem.runT, Prod.mk.injEq, Result.ok.injEq] at h
              obtain ⟨⟨rfl, rfl⟩, rfl⟩ := h
              simp [stepG, stepG.exec, G, seen, ho, hw]
      | _ => first
          | (simp [stepSem, Sem.runT] at h; done)
          | (simp only [stepSem, Sem.runT, Prod.mk.injEq, Result.ok.injEq] at h
             obtain ⟨⟨rfl, rfl⟩, rfl⟩ := h
             simp [stepG, stepG.exec, G, seen])
end Go.Proofs.Ytkodpijedinanaa.Sim

namespace Go.Proofs.Ytkodpijedinanaa.Sim
open Go Go.Conc
set_option linter.unusedVariables false
set_option linter.unusedSimpArgs false

def okCode (P : Program) : Code → Bool
  | .region _ ops _ => ops.all fun o => okOp P o.op
  | .seq a b => okCode P a && okCode P b
  | .cond c a b => okX c && okCode P a && okCode P b
  | .block _ c | .loop c => okCode P c
  | .exit _ | .ret | .skip | .label _ => true
  | _ => false
def okItem (P : Program) : Item → Bool
  | .code c => okCode P c
  | .inRegion ops _ => ops.all fun o => okOp P o.op
  | .inBlock _ => true
  | .inLoop c => okCode P c
  | _ => false
def resB (f : Func) : Bool := match f.results.toList with
  | [] | [.tmp _] | [.tmp _, .tmp _] => true
  | _ => false
/-- The functions that may be come to, and their texts. -/
structure FnsOk2 (P : Program) : Prop where
  l : ∀ f ∈ Fns.l, ∃ fn c, P.funcs[f]? = some fn ∧ fn.body = some c ∧ okCode P c = true ∧ fn.name ≠ "runtime.NumGoroutine" ∧ resB fn = true
  lap : ∃ fn ps rs, P.funcs[Fns.lap]? = some fn ∧ fn.body.isNone = true ∧ (fn.name == "runtime.NumGoroutine") = false ∧ Extern.findNext fn = none ∧ Extern.find fn = some (Extern.SlicesOverlaps.overlaps ps rs)
def fnsOkB (P : Program) : Bool := Fns.l.all fun f => match P.funcs[f]? with
  | some fn => (match fn.body with
    | some c => okCode P c
    | none => false) && fn.name != "runtime.NumGoroutine" && resB fn
  | none => false
theorem fnsOk2 {P : Program} (h : fnsOkB P = true) : ∀ f ∈ Fns.l, ∃ fn c, P.funcs[f]? = some fn ∧ fn.body = some c ∧ okCode P c = true ∧ fn.name ≠ "runtime.NumGoroutine" ∧ resB fn = true := fun f hf => by
  have := List.all_eq_true.1 h f hf
  split at this
  · rename_i fn hfn
    simp only [Bool.and_eq_true] at this
    obtain ⟨⟨h1, h2⟩, h3⟩ := this
    split at h1
    · rename_i c hc
      exact ⟨fn, c, hfn, hc, h1, by simpa using h2, h3⟩
    · cases h1
  · cases this
theorem FnsOk2.fns {P : Program} (h : FnsOk2 P) : FnsOk P := ⟨fun f hf => by
  obtain ⟨fn, c, h1, h2, h3, h4, h5⟩ := h.l f hf
  exact ⟨fn, h1, by simp [h2], h4⟩, h.lap⟩
structure CalmK (fr : Frame) : Prop where
  round : fr.roundOf = none
  kind : fr.kind ≠ .early
structure FRel (P : Program) (ρ : Ren) (p q : List Item) (b : Bool) (f F : Frame) : Prop where
  fn : F.fn = f.fn
  row : RowRel ρ f.tmps F.tmps
  todo : ∃ u, u.all (okItem P) = true ∧ f.todo = u ++ p ∧ F.todo = u ++ q ∧ (b = true → ∃ ops i rest u', u = .inRegion ops (i :: rest) :: u')
  mode : F.mode = f.mode
  go : f.mode = .run ∨ f.mode = .returning
  calm : Calm f
  calm' : CalmK F
  kn : p = [] → F.kind = .normal
  dn : p = [] → F.defers = []
  res : ∃ fn, P.funcs[f.fn]? = some fn ∧ resB fn = true
def sink : List Item := [.code (.refuse "")]
/-- What stands below the one: it catches no panic. -/
def zed (P : Program) : Frame := { fn := P.funcs.size, tmps := #[], todo := [.call default false "fmt's door" #[]], defers := [], mode := .run, kind := .normal }
/-- What the other one has to do behind the piece; what make of call it is. -/
structure Cont where
  items : List Item
  kind : CallKind
  defers : List Deferred
def Like (F F' : Frame) : Prop := F'.kind = F.kind ∧ F'.defers = F.defers
def LikeK (k : Cont) (F : Frame) : Prop := F.kind = k.kind ∧ F.defers = k.defers
theorem Like.refl (F : Frame) : Like F F := ⟨rfl, rfl⟩
theorem Like.to {k : Cont} {F F' : Frame} (h : Like F F') (h' : LikeK k F) : LikeK k F' := ⟨h.1.trans h'.1, h.2.trans h'.2⟩
inductive StackRel (P : Program) (k : Cont) (RB : List Frame) (ρ : Ren) : Bool → List Frame → List Frame → Prop
  | base {b : Bool} {f F : Frame} : f.mode = .run → LikeK k F → FRel P ρ sink k.items b f F → StackRel P k RB ρ b [f, zed P] (F :: RB)
  | push {b : Bool} {f F : Frame} {st ST : List Frame} : FRel P ρ [] [] b f F → StackRel P k RB ρ true st ST → StackRel P k RB ρ b (f :: st) (F :: ST)
/-- Matched goroutines, over what the other one has to do behind the piece, and over its callers. -/
def GRel (P : Program) (k : Cont) (RB : List Frame) (ρ : Ren) (s S : Stack) : Prop := StackRel P k RB ρ false (s.1 :: s.2) (S.1 :: S.2)
/-- The piece is left by a return. -/
def GRet (P : Program) (k : Cont) (RB : List Frame) (ρ : Ren) (s S : Stack) : Prop := s.2 = [zed P] ∧ S.2 = RB ∧ s.1.mode = .returning ∧ LikeK k S.1 ∧ FRel P ρ sink k.items false s.1 S.1
theorem FRel.mono {P : Program} {ρ ρ' : Ren} {p q : List Item} {b : Bool} {f F : Frame} (hl : Ren.le ρ ρ') (h : FRel P ρ p q b f F) : FRel P ρ' p q b f F := { h with row := h.row.mono hl }
theorem FRel.any {P : Program} {ρ : Ren} {p q : List Item} {b : Bool} {f F : Frame} (h : FRel P ρ p q b f F) : FRel P ρ p q false f F := { h with todo := by obtain ⟨u, h1, h2, h3, _⟩ := h.todo; exact ⟨u, h1, h2, h3, fun h => by cases h⟩ }
theorem StackRel.mono {P : Program} {k : Cont} {RB : List Frame} {ρ ρ' : Ren} (hl : Ren.le ρ ρ') {b : Bool} {s S : List Frame} (h : StackRel P k RB ρ b s S) : StackRel P k RB ρ' b s S := by
  induction h with
  | base hm hk h => exact .base hm hk (h.mono hl)
  | push h _ ih => exact .push (h.mono hl) ih
theorem StackRel.any {P : Program} {k : Cont} {RB : List Frame} {ρ : Ren} {b : Bool} {s S : List Frame} (h : StackRel P k RB ρ b s S) : StackRel P k RB ρ false s S := by
  cases h with
  | base hm hk h => exact .base hm hk h.any
  | push h h2 => exact .push h.any h2
theorem RowRel.getD {ρ : Ren} {c d : Array Value} (h : RowRel ρ c d) (t : Nat) : VRel ρ (c.getD t undef) (d.getD t undef) := by
  cases hc : c[t]? with
  | some v =>
    obtain ⟨w, hw, hv⟩ := h.at hc
    rw [Array.getD_eq_getD_getElem?, Array.getD_eq_getD_getElem?, hc, hw]
    exact hv
  | none =>
    rw [Array.getD_eq_getD_getElem?, Array.getD_eq_getD_getElem?, hc, h.none hc]
    exact .tuple rfl (fun i v w a b => by simp at a)
theorem eval_rel {ρ : Ren} {f F : Frame} (h : RowRel ρ f.tmps F.tmps) (x : Operand) (hx : okX x = true) : VRel ρ (f.eval x) (F.eval x) := by
  cases x with
  | tmp t => exact h.getD t
  | const v => exact flat_rel 4 v hx
  | global g => cases hx
  | func g =>
    have hg : g ∈ Fns.l := by simpa [okX] using hx
    exact .func g hg rfl (fun i v w a b => by simp at a) rfl (fun i v w a b => by simp at a)
theorem yielded_eq {ρ : Ren} {c d : Array Value} (h : RowRel ρ c d) (ops : Array Oper) : yielded ops c = yielded ops d := by
  funext j
  unfold yielded
  cases ho : (ops[j]?).bind (·.dst) with
  | none => rfl
  | some t =>
    simp only [Option.bind_some]
    cases hc : c[t]? with
    | none => rw [h.none hc]
    | some v =>
      obtain ⟨w, hw, hv⟩ := h.at hc
      rw [hw]
      cases hv <;> rfl
theorem results_rel {P : Program} {ρ : Ren} {c d : Array Value} (h : RowRel ρ c d) {f : Func} (hf : resB f = true) : ∃ v w, results f c = .pure v ∧ results f d = .pure w ∧ VRel ρ v w := by
  unfold resB at hf
  have e : f.results = f.results.toList.toArray := by simp
  split at hf
  · rename_i hl
    rw [hl] at e
    refine ⟨.tuple #[], .tuple #[], ?_, ?_, .tuple rfl (fun i v w a b => by simp at a)⟩ <;> (simp [results, e]; rfl)
  · rename_i t hl
    rw [hl] at e
    refine ⟨c.getD t undef, d.getD t undef, ?_, ?_, h.getD t⟩ <;> (simp [results, e]; rfl)
  · rename_i t u hl
    rw [hl] at e
    refine ⟨.tuple #[c.getD t undef, c.getD u undef], .tuple #[d.getD t undef, d.getD u undef], ?_, ?_, ?_⟩
    · simp [results, e]; rfl
    · simp [results, e]; rfl
    · have hr : RowRel ρ #[c.getD t undef, c.getD u undef] #[d.getD t undef, d.getD u undef] := ((RowRel.nil ρ).push (h.getD t)).push (h.getD u)
      exact .tuple hr.1 hr.2
  · cases hf
theorem finish_rel {P : Program} {ρ : Ren} {p q : List Item} {f F : Frame} (h : FRel P ρ p q true f F) {v w : Value} (hv : VRel ρ v w) : FRel P ρ p q false (f.finish v) (F.finish w) := by
  obtain ⟨fn, row, todo, mode, go, calm, calm', kn, dn, res⟩ := h
  obtain ⟨u, h1, h2, h3, h4⟩ := todo
  obtain ⟨ops, i, rest, u', rfl⟩ := h4 rfl
  simp only [List.cons_append] at h2 h3
  simp only [List.all_cons, Bool.and_eq_true] at h1
  have e1 : f.finish v = { f with tmps := (match (ops[i]?).bind (·.dst) with
                | some d => f.tmps.setIfInBounds d v
                | none => f.tmps), todo := .inRegion ops rest :: (u' ++ p) } := by unfold Frame.finish; rw [h2]; rfl
  have e2 : F.finish w = { F with tmps := (match (ops[i]?).bind (·.dst) with
                | some d => F.tmps.setIfInBounds d w
                | none => F.tmps), todo := .inRegion ops rest :: (u' ++ q) } := by unfold Frame.finish; rw [h3]; rfl
  rw [e1, e2]
  refine ⟨fn, ?_, ⟨.inRegion ops rest :: u', ?_, rfl, rfl, fun h => by cases h⟩, mode, go, ⟨calm.1, calm.2, calm.3⟩, ⟨calm'.1, calm'.2⟩, kn, dn, res⟩
  · dsimp only
    split
    · exact row.set _ hv
    · exact row
  · simp only [List.all_cons, Bool.and_eq_true]
    exact ⟨h1.1, h1.2⟩
theorem finish_kind (F : Frame) (v : Value) : Like F (F.finish v) := by
  unfold Frame.finish
  split <;> exact ⟨rfl, rfl⟩
theorem enter_rel {P : Program} (hF : FnsOk2 P) {ρ : Ren} {f : FuncId} (hf : f ∈ Fns.l) {c d : Array Value} (h : RowRel ρ c d) : FRel P ρ [] [] false (Frame.enter P f c .normal) (Frame.enter P f d .normal) := by
  obtain ⟨fn, cd, h1, h2, h3, h4, h5⟩ := hF.l f hf
  refine ⟨rfl, ?_, ⟨[.code cd], by simp [okItem, h3], by simp [Frame.enter, h1, h2], by simp [Frame.enter, h1, h2], fun h => by cases h⟩, rfl, .inl rfl, ⟨rfl, rfl, rfl⟩, ⟨rfl, by simp [Frame.enter]⟩, fun _ => rfl, fun _ => rfl, ⟨fn, h1, h5⟩⟩
  refine RowRel.append h ?_
  rw [h.1]
  refine ⟨by simp, fun i v w hv hw => ?_⟩
  simp only [h1, Option.map_some, Option.getD_some, Array.getElem?_replicate] at hv hw
  split at hv
  · rename_i hlt
    rw [if_pos hlt] at hw
    cases hv; cases hw
    exact .tuple rfl (fun i v w a b => by simp at a)
  · cases hv
theorem exitTo_app {id : Nat} {p : List Item} (hp : exitTo id p = none) (q : List Item) : ∀ (u : List Item) {k : List Item}, exitTo id (u ++ p) = some k → ∃ u', k = u' ++ p ∧ exitTo id (u ++ q) = some (u' ++ q) ∧ ∀ x ∈ u', x ∈ u := by
  intro u
  induction u with
  | nil => intro k h; rw [List.nil_append, hp] at h; cases h
  | cons x u ih =>
    intro k h
    have key : exitTo id (u ++ p) = some k → exitTo id (x :: (u ++ q)) = exitTo id (u ++ q) → ∃ u', k = u' ++ p ∧ exitTo id (x :: u ++ q) = some (u' ++ q) ∧ ∀ y ∈ u', y ∈ x :: u := fun h e => by
      obtain ⟨u', h1, h2, h3⟩ := ih h
      exact ⟨u', h1, by rw [List.cons_append, e]; exact h2, fun y hy => List.mem_cons_of_mem _ (h3 y hy)⟩
    rw [List.cons_append] at h
    cases x with
    | inBlock j =>
      simp only [exitTo] at h
      by_cases e : (j == id) = true
      · rw [if_pos e] at h
        cases h
        exact ⟨u, rfl, by simp [exitTo, e], fun y hy => List.mem_cons_of_mem _ hy⟩
      · rw [if_neg e] at h
        exact key h (by simp [exitTo, e])
    | _ => simp only [exitTo] at h; exact key h (by simp [exitTo])
end Go.Proofs.Ytkodpijedinanaa.Sim

namespace Go.Proofs.Ytkodpijedinanaa.Sim
open Go Go.Conc
set_option linter.unusedVariables false
set_option linter.unusedSimpArgs false

theorem GRel.top {P : Program} {k : Cont} {RB : List Frame} {ρ : Ren} {f F : Frame} {cs CS : List Frame} (h : GRel P k RB ρ (f, cs) (F, CS)) :
    ∃ p q, ((p = [] ∧ q = []) ∨ (p = sink ∧ f.mode = .run)) ∧ FRel P ρ p q false f F ∧
      (∀ ρ', Ren.le ρ ρ' → ∀ b f' F', f'.mode = .run → Like F F' → FRel P ρ' p q b f' F' → StackRel P k RB ρ' b (f' :: cs) (F' :: CS)) ∧
      (∀ ρ', Ren.le ρ ρ' → ∀ f' F', f'.mode = .returning → Like F F' → FRel P ρ' p q false f' F' → GRel P k RB ρ' (f', cs) (F', CS) ∨ GRet P k RB ρ' (f', cs) (F', CS)) ∧
      (f.mode = .returning → ∀ ρ', Ren.le ρ ρ' → ∀ v w, VRel ρ' v w → ∃ c cs' C CS', cs = c :: cs' ∧ CS = C :: CS' ∧ GRel P k RB ρ' (c.finish v, cs') (C.finish w, CS')) := by
  unfold GRel at h
  generalize h1 : ((f, cs) : Stack).1 :: ((f, cs) : Stack).2 = s at h
  generalize h2 : ((F, CS) : Stack).1 :: ((F, CS) : Stack).2 = S at h
  simp only at h1 h2
  cases h with
  | base hm hk h =>
    simp only [List.cons.injEq] at h1 h2
    obtain ⟨rfl, rfl⟩ := h1
    obtain ⟨rfl, rfl⟩ := h2
    refine ⟨sink, k.items, .inr ⟨rfl, hm⟩, h, fun ρ' hl b f' F' hm' hk' hf => .base hm' (hk'.to hk) hf, fun ρ' hl f' F' hm' hk' hf => .inr ⟨rfl, rfl, hm', hk'.to hk, hf⟩, fun hr => ?_⟩
    rw [hm] at hr
    cases hr
  | push h hst =>
    simp only [List.cons.injEq] at h1 h2
    obtain ⟨rfl, rfl⟩ := h1
    obtain ⟨rfl, rfl⟩ := h2
    refine ⟨[], [], .inl ⟨rfl, rfl⟩, h, fun ρ' hl b f' F' hm' hk' hf => .push hf (hst.mono hl), fun ρ' hl f' F' hm' hk' hf => .inl (.push hf (hst.mono hl)), fun hr ρ' hl v w hv => ?_⟩
    have hst1 := hst.mono hl
    clear hst
    cases hst1 with
    | @base _ c C hm hk hc =>
      refine ⟨c, [zed P], C, RB, rfl, rfl, StackRel.base ?_ ((finish_kind _ _).to hk) (finish_rel hc hv)⟩
      obtain ⟨u, _, h2, _, h4⟩ := hc.todo
      obtain ⟨ops, i, rest, u', rfl⟩ := h4 rfl
      have : (c.finish v).mode = c.mode := by unfold Frame.finish; rw [h2]; rfl
      rw [this]; exact hm
    | @push _ c C st ST hc hst =>
      refine ⟨c, _, C, _, rfl, rfl, ?_⟩
      show StackRel P k RB ρ' false (c.finish v :: _) (C.finish w :: _)
      exact .push (finish_rel hc hv) hst
theorem srel_uponS {P : Program} (hF : FnsOk2 P) {k : Cont} {RB : List Frame} {ρ : Ren} {f F : Frame} {cs CS : List Frame} {p q : List Item} {ops : Array Oper} {i : Nat} {rest : List Nat} {u' : List Item}
    (hf : FRel P ρ p q true f F) (hmr : f.mode = .run)
    (hb : ∀ ρ', Ren.le ρ ρ' → ∀ b f' F', f'.mode = .run → Like F F' → FRel P ρ' p q b f' F' → StackRel P k RB ρ' b (f' :: cs) (F' :: CS)) {n m : Next} {ρ1 : Ren} (hl : Ren.le ρ ρ1) (h : NRel ρ1 n m) :
    SemRel P (fun ρ' t T => GRel P k RB ρ' t T ∨ GRet P k RB ρ' t T) ρ1 (uponS P f cs n) (uponS P F CS m) := by
  have hmode : ∀ v, (f.finish v).mode = .run := fun v => by
    obtain ⟨u, _, h2, _, h4⟩ := hf.todo
    obtain ⟨ops, i, rest, u', rfl⟩ := h4 rfl
    have : (f.finish v).mode = f.mode := by unfold Frame.finish; rw [h2]; rfl
    rw [this]; exact hmr
  cases h with
  | value hv => exact .pure (.inl (hb ρ1 hl false _ _ (hmode _) (finish_kind _ _) (finish_rel (hf.mono hl) hv)))
  | skip => exact .pure (.inl (hb ρ1 hl false _ _ (hmode _) (finish_kind _ _) (finish_rel (hf.mono hl) (.tuple rfl (fun i v w a b => by simp at a)))))
  | enter g hg hr => exact .pure (.inl (.push (enter_rel hF hg hr) (hb ρ1 hl true _ _ hmr ⟨rfl, rfl⟩ (hf.mono hl))))
theorem srel_step {P : Program} (hF : FnsOk2 P) {k : Cont} {RB : List Frame} {ρ : Ren} (hA : Above P ρ) {s S : Stack} (h : GRel P k RB ρ s S) :
    SemRel P (fun ρ' t T => GRel P k RB ρ' t T ∨ GRet P k RB ρ' t T) ρ (stepSem P s.1 s.2) (stepSem P S.1 S.2) := by
  obtain ⟨f, cs⟩ := s
  obtain ⟨F, CS⟩ := S
  obtain ⟨p, q, hpq, hf, hrun, hret, hback⟩ := h.top
  simp only
  obtain ⟨u, hu, htodo, hTodo, -⟩ := hf.todo
  have hrow := hf.row
  have hm' := hf.mode
  rcases hf.go with hm | hm
  · -- running
    rw [hm] at hm'
    have key : ∀ u', u'.all (okItem P) = true → SemRel P (fun ρ' t T => GRel P k RB ρ' t T ∨ GRet P k RB ρ' t T) ρ (.pure ({ f with todo := u' ++ p }, cs)) (.pure ({ F with todo := u' ++ q }, CS)) := fun u' hu' =>
      .pure (.inl (hrun ρ (Ren.le.refl _) false _ _ hm ⟨rfl, rfl⟩ ⟨hf.fn, hrow, ⟨u', hu', rfl, rfl, fun h => by cases h⟩, hf.mode, hf.go, ⟨hf.calm.1, hf.calm.2, hf.calm.3⟩, ⟨hf.calm'.1, hf.calm'.2⟩, hf.kn, hf.dn, hf.res⟩))
    have keyr : SemRel P (fun ρ' t T => GRel P k RB ρ' t T ∨ GRet P k RB ρ' t T) ρ (.pure ({ f with mode := .returning }, cs)) (.pure ({ F with mode := .returning }, CS)) :=
      .pure (hret ρ (Ren.le.refl _) _ _ rfl ⟨rfl, rfl⟩ ⟨hf.fn, hrow, ⟨u, hu, htodo, hTodo, fun h => by cases h⟩, rfl, .inr rfl, ⟨hf.calm.1, hf.calm.2, hf.calm.3⟩, ⟨hf.calm'.1, hf.calm'.2⟩, hf.kn, hf.dn, hf.res⟩)
    have hup : ∀ ops i l u', u = .inRegion ops (i :: l) :: u' → ∀ ρ', Ren.le ρ ρ' → ∀ n m, NRel ρ' n m → SemRel P (fun ρ' t T => GRel P k RB ρ' t T ∨ GRet P k RB ρ' t T) ρ' (uponS P f cs n) (uponS P F CS m) := fun ops i l u' e ρ' hl n m hnm =>
      srel_uponS hF (ops := ops) (i := i) (rest := l) (u' := u') { hf with todo := ⟨u, hu, htodo, hTodo, fun _ => ⟨ops, i, l, u', e⟩⟩ } hm hrun hl hnm
    obtain ⟨fn1, tmps1, todo1, defers1, mode1, kind1, round1⟩ := f
    obtain ⟨fn2, tmps2, todo2, defers2, mode2, kind2, round2⟩ := F
    simp only at hm hm' htodo hTodo
    subst hm; subst hm'; subst htodo; subst hTodo
    unfold stepSem
    dsimp only
    cases u with
    | nil =>
      rcases hpq with ⟨rfl, rfl⟩ | ⟨rfl, _⟩
      · exact keyr
      · exact .halt _ _
    | cons it u' =>
      simp only [List.all_cons, Bool.and_eq_true] at hu
      obtain ⟨hit, hu'⟩ := hu
      simp only [List.cons_append]
      cases it with
      | code c =>
        cases c with
        | skip => exact key u' hu'
        | label l => exact key u' hu'
        | ret => exact keyr
        | seq a b =>
          simp only [okItem, okCode, Bool.and_eq_true] at hit
          exact key (.code a :: .code b :: u') (by simp only [List.all_cons, Bool.and_eq_true]; exact ⟨hit.1, hit.2, hu'⟩)
        | cond c a b =>
          simp only [okItem, okCode, Bool.and_eq_true] at hit
          have hv := eval_rel hrow c hit.1.1
          dsimp only
          simp only [List.cons_append] at hv
          revert hv
          generalize Frame.eval _ c = v
          generalize Frame.eval _ c = w
          intro hv
          cases hv with
          | bool t => cases t
                      · exact key (.code b :: u') (by simp only [List.all_cons, Bool.and_eq_true]; exact ⟨hit.2, hu'⟩)
                      · exact key (.code a :: u') (by simp only [List.all_cons, Bool.and_eq_true]; exact ⟨hit.1.2, hu'⟩)
          | _ => exact .halt _ _
        | block id c => exact key (.code c :: .inBlock id :: u') (by simp only [List.all_cons, Bool.and_eq_true]; exact ⟨hit, rfl, hu'⟩)
        | loop c => exact key (.code c :: .inLoop c :: u') (by simp only [List.all_cons, Bool.and_eq_true]; exact ⟨hit, hit, hu'⟩)
        | exit id =>
          dsimp only
          have hp : exitTo id p = none := by rcases hpq with ⟨rfl, _⟩ | ⟨rfl, _⟩ <;> rfl
          cases he : exitTo id (u' ++ p) with
          | none => exact .halt _ _
          | some k' =>
            obtain ⟨v, rfl, h2, h3⟩ := exitTo_app hp q u' he
            rw [h2]
            exact key v (by rw [List.all_eq_true] at hu' ⊢; exact fun x hx => hu' x (h3 x hx))
        | region id ops draw =>
          simp only [okItem, okCode] at hit
          cases draw
          · exact key (.inRegion ops (List.range ops.size) :: u') (by simp only [List.all_cons, Bool.and_eq_true]; exact ⟨hit, hu'⟩)
          · simp only [if_true]
            have e : fn2 = fn1 := hf.fn
            subst e
            exact .choose _ fun t => key (.inRegion ops _ :: u') (by simp only [List.all_cons, Bool.and_eq_true]; exact ⟨hit, hu'⟩)
        | _ => exact .halt _ _
      | inBlock id => exact key u' hu'
      | inLoop c => exact key (.code c :: .inLoop c :: u') (by simp only [List.all_cons, Bool.and_eq_true]; exact ⟨hit, hit, hu'⟩)
      | inRegion ops l =>
        cases l with
        | nil => exact key u' hu'
        | cons i l =>
          dsimp only
          have hund := hup ops i l u' rfl ρ (Ren.le.refl _) .skip .skip .skip
          cases ho : ops[i]? with
          | none => exact hund
          | some o =>
            dsimp only
            rw [← yielded_eq hrow ops]
            split
            · have hop : okOp P o.op = true := by
                simp only [okItem, Array.all_eq_true] at hit
                obtain ⟨hi, rfl⟩ := Array.getElem?_eq_some_iff.1 ho
                exact hit i hi
              exact (srel_op hF.fns hA hop (Frame.evals _) (Frame.evals _) (eval_rel hrow)).bind fun ρ' hl n m hnm => hup ops i l u' rfl ρ' hl n m hnm
            · exact hund
      | _ => exact .halt _ _
  · -- returning
    rw [hm] at hm'
    unfold stepSem
    rw [hm, hm']
    dsimp only
    obtain ⟨fn, hfn, hres⟩ := hf.res
    rw [hf.fn, hfn]
    dsimp only
    obtain ⟨v, w, e1, e2, hv⟩ := results_rel (P := P) hrow hres
    rw [e1, e2]
    obtain ⟨c, cs', C, CS', rfl, rfl, hg⟩ := hback hm ρ (Ren.le.refl _) v w hv
    exact .pure (.inl hg)
end Go.Proofs.Ytkodpijedinanaa.Sim

namespace Go.Proofs.Ytkodpijedinanaa.Sim
open Go Go.Conc
set_option linter.unusedVariables false
set_option linter.unusedSimpArgs false

theorem run_bind {α β : Type} {P : Program} (s : Sem α) (f : α → Sem β) (w : World) : (s.bind f).run P w = match s.run P w with
    | .ok a w' => (f a).run P w'
    | .halt h w' => .halt h w' := by
  have h1 := runT_bind (P := P) s f w #[]
  have h2 := Sem.runT_fst P (s.bind f) w #[]
  have h3 := Sem.runT_fst P s w #[]
  rw [← h2, h1]
  rcases hr : s.runT P w #[] with ⟨r, es⟩
  rw [hr] at h3
  simp only at h3
  rw [← h3]
  cases r with
  | ok a w' => exact Sem.runT_fst P (f a) w' es
  | halt x w' => rfl
/-- A matched goroutine of a shadow. -/
structure Mir (P : Program) (k : Cont) (RB : List Frame) (ρ : Ren) (s S : Stack) (w W : World) : Prop where
  g : GRel P k RB ρ s S
  wr : WRel ρ w W
  above : Above P ρ
  size : P.globals.size ≤ w.heap.size
  size' : P.globals.size ≤ W.heap.size
theorem Mir.lay {P : Program} {k : Cont} {RB : List Frame} {ρ : Ren} {s S : Stack} {w W : World} (h : Mir P k RB ρ s S w W) (τ : Nat → Question → Nat) (d : Nat) : Mir P k RB ρ s S (lay w τ d) W := ⟨h.g, h.wr.lay τ d, h.above, h.size, h.size'⟩
theorem Mir.lay' {P : Program} {k : Cont} {RB : List Frame} {ρ : Ren} {s S : Stack} {w W : World} (h : Mir P k RB ρ s S w W) (τ : Nat → Question → Nat) (d : Nat) : Mir P k RB ρ s S w (Sim.lay W τ d) := ⟨h.g, h.wr.lay' τ d, h.above, h.size, h.size'⟩
/-- One step, matched. -/
theorem Mir.step {P : Program} (hF : FnsOk2 P) {k : Cont} {RB : List Frame} {ρ : Ren} {F : Nat → Prop} {s S : Stack} {w W : World} (h : Mir P k RB ρ s S w W) (hZ : Froz F w) (es : Array Event) {t : Stack} {w1 : World}
    (hr : (stepSem P s.1 s.2).run P w = .ok t w1) (al : Aligned (w1.drawn - w.drawn) w W) :
    ∃ ρ' T W1 l, (stepSem P S.1 S.2).runT P W es = (.ok T W1, es ++ l.toArray) ∧ Ran F ρ ρ' w W w1 W1 l ∧ (Mir P k RB ρ' t T w1 W1 ∨ GRet P k RB ρ' t T) ∧ Above P ρ' := by
  obtain ⟨ρ', T, W1, l, h1, ⟨h2, h2'⟩, h3⟩ := ((srel_step hF h.above h.g).above h.above).run w W es t w1 h.wr hZ h.size h.size' hr al
  refine ⟨ρ', T, W1, l, h1, h3, ?_, h2'⟩
  rcases h2 with h2 | h2
  · exact .inl ⟨h2, h3.rel, h2', Nat.le_trans h.size h3.size, Nat.le_trans h.size' h3.size'⟩
  · exact .inr h2
theorem froz_none (w : World) : Froz (fun _ => False) w := fun a h => h.elim
theorem aligned_self (n : Nat) (w W : World) : Aligned n w (lay W w.tape w.drawn) := fun x hx q => rfl
theorem stepG_halt {P : Program} (hF : FnsOk2 P) {k : Cont} {RB : List Frame} {ρ : Ren} {s S : Stack} {w W : World} (h : Mir P k RB ρ s S w W) (hn : ∀ t w1, (stepSem P s.1 s.2).run P w ≠ .ok t w1) :
    (∃ o w' es, stepG P true (G s.1 s.2) w = .ended o w' es) ∨ (∃ ch w' es, stepG P true (G s.1 s.2) w = .go (G { s.1 with mode := .panicking ch } s.2) w' es) := by
  obtain ⟨f, cs⟩ := s
  obtain ⟨F, CS⟩ := S
  obtain ⟨p, q, hpq, hf, -, -, hback⟩ := h.g.top
  simp only at hn ⊢
  obtain ⟨u, hu, htodo, hTodo, -⟩ := hf.todo
  obtain ⟨h1, h2, h3⟩ := hf.calm
  rcases hf.go with hm | hm
  · have hrow := hf.row
    have hopr : ∀ o : Oper, okOp P o.op = true → (∀ n w1, (execOp f.eval o).run P w = .ok n w1 → ∃ m ρ', NRel ρ' n m) ∧ (∀ x w1, (execOp f.eval o).run P w = .halt x w1 → softB x = true) := fun o ho => by
      have hs := srel_op (e := f.eval) (e' := F.eval) hF.fns h.above ho (Frame.evals _) (Frame.evals _) (eval_rel hrow)
      refine ⟨fun n w1 hr => ?_, fun x w1 hr => hs.soft w W x w1 h.wr h.size h.size' hr⟩
      obtain ⟨ρ', b, W1, l, _, h2, _⟩ := hs.run w (lay W w.tape w.drawn) #[] n w1 (h.wr.lay' _ _) (froz_none w) h.size h.size' hr (aligned_self _ _ _)
      exact ⟨b, ρ', h2⟩
    clear hback hrow
    obtain ⟨fn, tmps, todo, defers, mode, kind, roundOf⟩ := f
    simp only at hm htodo h1 h2 h3
    subst hm; subst htodo; subst h1; subst h2; subst h3
    cases u with
    | nil =>
      rcases hpq with ⟨rfl, rfl⟩ | ⟨rfl, _⟩
      · exact absurd rfl (hn _ w)
      · exact .inl ⟨_, _, _, rfl⟩
    | cons it u' =>
      simp only [List.all_cons, Bool.and_eq_true] at hu
      obtain ⟨hit, hu'⟩ := hu
      simp only [List.cons_append] at hn hopr ⊢
      cases it with
      | code c =>
        cases c with
        | cond c a b =>
          left
          simp only [stepSem] at hn
          cases he : Frame.eval { fn := fn, tmps := tmps, todo := Item.code (Code.cond c a b) :: (u' ++ p), defers := [], mode := .run, kind := .normal, roundOf := none } c with
          | bool t => rw [he] at hn; exact absurd rfl (hn _ w)
          | _ => simp [stepG, stepG.exec, G, he]
        | exit id =>
          left
          simp only [stepSem] at hn
          cases he : exitTo id (u' ++ p) with
          | some k' => rw [he] at hn; exact absurd rfl (hn _ w)
          | none => simp [stepG, stepG.exec, G, he]
        | region id ops draw =>
          cases draw
          · exact absurd rfl (hn _ w)
          · exact absurd rfl (hn _ { w with drawn := w.drawn + 1 })
        | _ => first
          | exact absurd rfl (hn _ w)
          | (simp [okItem, okCode] at hit; done)
      | inRegion ops l =>
        cases l with
        | nil => exact absurd rfl (hn _ w)
        | cons i l =>
          simp only [stepSem] at hn
          cases ho : ops[i]? with
          | none => rw [ho] at hn; exact absurd rfl (hn _ w)
          | some o =>
            rw [ho] at hn
            simp only at hn
            have hop : okOp P o.op = true := by
              simp only [okItem, Array.all_eq_true] at hit
              obtain ⟨hi, rfl⟩ := Array.getElem?_eq_some_iff.1 ho
              exact hit i hi
            by_cases hw : Region.wanted o (yielded ops tmps) = true
            · rw [if_pos hw] at hn
              simp only [run_bind] at hn
              obtain ⟨k1, k2⟩ := hopr o hop
              generalize hfr : ({ fn := fn, tmps := tmps, todo := .inRegion ops (i :: l) :: (u' ++ p), defers := [], mode := .run, kind := .normal, roundOf := none } : Frame) = fr at hn k1 k2
              have e1 : stepG P true (G fr cs) w = stepG.apply P true fr cs none (execOp fr.eval o) w := by
                subst hfr
                simp [stepG, stepG.exec, stepG.oper, G, ho, hw, Frame.oper?]
              have hk : fr.kind = .normal := by subst hfr; rfl
              have hmd : fr.mode = .run := by subst hfr; rfl
              have hgoal : (∃ o w' es, stepG P true (G fr cs) w = .ended o w' es) ∨ (∃ ch w' es, stepG P true (G fr cs) w = .go (G { fr with mode := .panicking ch } cs) w' es) := by
                rw [e1]
                cases hr : (execOp fr.eval o).run P w with
                | ok n w1 =>
                  rw [hr] at hn
                  obtain ⟨m, ρ', hnm⟩ := k1 n w1 hr
                  cases hnm with
                  | value h => exact absurd rfl (hn _ w1)
                  | skip => exact absurd rfl (hn _ w1)
                  | enter g h h' => exact absurd rfl (hn _ w1)
                | halt x w1 =>
                  have hx := k2 x w1 hr
                  cases x with
                  | panic v =>
                    right
                    refine ⟨[{ v, recovered := false }], w1, ?_⟩
                    simp only [stepG.apply, Sem.runT_eq, hr, if_true, GStep.after, Frame.raise, hmd, G]
                    exact ⟨_, rfl⟩
                  | stuck s =>
                    left
                    simp only [stepG.apply, Sem.runT_eq, hr, if_true, GStep.after]
                    exact ⟨_, _, _, rfl⟩
                  | unsupported u =>
                    left
                    cases u with
                    | initOrder g => cases hx
                    | _ => simp only [stepG.apply, Sem.runT_eq, hr, if_true, GStep.after]; exact ⟨_, _, _, rfl⟩
                  | _ => cases hx
              subst hfr
              exact hgoal
            · rw [if_neg hw] at hn
              exact absurd rfl (hn _ w)
      | _ => first
        | exact absurd rfl (hn _ w)
        | (simp [okItem] at hit; done)
  · exfalso
    obtain ⟨fn, hfn, hres⟩ := hf.res
    obtain ⟨v, v', e1, e2, hv⟩ := results_rel (P := P) hf.row hres
    obtain ⟨c, cs', C, CS', rfl, rfl, hg⟩ := hback hm ρ (Ren.le.refl _) v v' hv
    refine hn (c.finish v, cs') w ?_
    simp only [stepSem, hm, hfn, e1]
    rfl
end Go.Proofs.Ytkodpijedinanaa.Sim

namespace Go.Proofs.Ytkodpijedinanaa.Sim
open Go Go.Conc
set_option linter.unusedVariables false
set_option linter.unusedSimpArgs false

abbrev Tape := Nat → Question → Nat
/-- What is asked of a stop: it looks at no tape; its goroutine is at work, over something. -/
structure StopOk (T : Stack → World → Prop) : Prop where
  lay : ∀ s w τ d, T s w → T s (lay w τ d)
  over : ∀ s w, T s w → s.2 ≠ []
  mode : ∀ s w, T s w → s.1.mode = .run ∨ s.1.mode = .returning
/-- Whatever is answered, it goes on to the stop. -/
inductive Tree (P : Program) (T : Stack → World → Prop) : Stack → World → Prop
  | stop {s : Stack} {w : World} : T s w → Tree P T s w
  | step {s : Stack} {w : World} : (∀ τ d, ∃ s' w', (stepSem P s.1 s.2).run P (lay w τ d) = .ok s' w') → (∀ τ d s' w', (stepSem P s.1 s.2).run P (lay w τ d) = .ok s' w' → Tree P T s' w') → Tree P T s w
theorem Tree.lay {P : Program} {T : Stack → World → Prop} (hT : StopOk T) {s : Stack} {w : World} (h : Tree P T s w) (τ : Tape) (d : Nat) : Tree P T s (lay w τ d) := by
  cases h with
  | stop h => exact .stop (hT.lay _ _ _ _ h)
  | step h h' => exact .step (fun τ' d' => h τ' d') (fun τ' d' => h' τ' d')
/-- From here the lone run never comes to the stop. -/
def Lost (P : Program) (T : Stack → World → Prop) (m : Machine) : Prop := ∀ n (s : Stack) w, runN P n m = .next (lone s.1 s.2 w) → ¬ T s w
theorem lone_inj {a b : Frame} {cs ds : List Frame} {w v : World} (h : lone a cs w = lone b ds v) : a = b ∧ cs = ds ∧ w = v := by
  simp only [lone, Machine.mk.injEq, Array.mk.injEq, List.cons.injEq, Goroutine.mk.injEq, and_true] at h
  exact ⟨h.2.1, h.2.2, h.1⟩
theorem lost_ended {P : Program} {T : Stack → World → Prop} {fr : Frame} {cs : List Frame} {w : World} (h0 : ¬ T (fr, cs) w) {o : Outcome} {w' : World} (h : step P (lone fr cs w) = .ended o w') : Lost P T (lone fr cs w) := fun n s v hr => by
  cases n with
  | zero =>
    simp only [runN, Stepped.next.injEq] at hr
    obtain ⟨e1, e2, rfl⟩ := lone_inj hr
    obtain ⟨s1, s2⟩ := s
    simp only at e1 e2
    subst e1; subst e2
    exact h0
  | succ n => simp [runN, h] at hr
theorem lost_next {P : Program} {T : Stack → World → Prop} {fr : Frame} {cs : List Frame} {w : World} (h0 : ¬ T (fr, cs) w) {m : Machine} (h : step P (lone fr cs w) = .next m) (hm : Lost P T m) : Lost P T (lone fr cs w) := fun n s v hr => by
  cases n with
  | zero =>
    simp only [runN, Stepped.next.injEq] at hr
    obtain ⟨e1, e2, rfl⟩ := lone_inj hr
    obtain ⟨s1, s2⟩ := s
    simp only at e1 e2
    subst e1; subst e2
    exact h0
  | succ n => simp only [runN, h] at hr; exact hm n s v hr
theorem step_ended {P : Program} {fr : Frame} {cs : List Frame} {w w' : World} {o : Outcome} {es : Array Event} (h : stepG P true (G fr cs) w = .ended o w' es) : step P (lone fr cs w) = .ended o w' :=
  step_lone_ended (by show (stepG P true (G fr cs) w).bare = _; rw [h]; rfl)
theorem step_go {P : Program} {fr fr' : Frame} {cs cs' : List Frame} {w w' : World} {es : Array Event} (h : stepG P true (G fr cs) w = .go (G fr' cs') w' es) : step P (lone fr cs w) = .next (lone fr' cs' w') :=
  step_lone_go (by show (stepG P true (G fr cs) w).bare = _; rw [h]; rfl)
theorem zed_catches (P : Program) (c : List PanicEntry) : Frame.catches P { zed P with mode := .panicking c } = true := by
  have : P.funcs[P.funcs.size]? = none := by simp
  simp only [Frame.catches, zed, this]
  decide +kernel
theorem stepG_fall {P : Program} {f : Frame} {cs : List Frame} {w : World} {c : List PanicEntry} (hm : f.mode = .panicking c) (hd : f.defers = []) (hc : Frame.catches P f = true) : ∃ o w' es, stepG P true (G f cs) w = .ended o w' es := by
  simp [stepG, G, unwind, hm, hd, hc]
theorem stepG_pop {P : Program} {f d : Frame} {ds : List Frame} {w : World} {c : List PanicEntry} (hm : f.mode = .panicking c) (hd : f.defers = []) (hc : Frame.catches P f = false) : stepG P true (G f (d :: ds)) w = .go (G (d.raise c) ds) w #[] := by
  simp [stepG, G, unwind, hm, hd, hc]
/-- Frames that no panic is caught in, over the last. -/
inductive Falls (P : Program) : List Frame → Prop
  | zed : Falls P [zed P]
  | frame {f : Frame} {cs : List Frame} : f.defers = [] → (∃ fn, P.funcs[f.fn]? = some fn) → (f.mode = .run ∨ f.mode = .returning) → Falls P cs → Falls P (f :: cs)
theorem raise_of {f : Frame} (h : f.mode = .run ∨ f.mode = .returning) (c : List PanicEntry) : f.raise c = { f with mode := .panicking c } := by
  unfold Frame.raise
  rcases h with h | h <;> rw [h]
theorem lost_falls {P : Program} {T : Stack → World → Prop} (hT : StopOk T) {w : World} : ∀ {cs : List Frame}, Falls P cs → ∀ (f : Frame) (r : List Frame) (c : List PanicEntry), cs = f :: r → Lost P T (lone { f with mode := .panicking c } r w) := by
  intro cs h
  have hnot : ∀ (f : Frame) (r : List Frame) (c : List PanicEntry), ¬ T ({ f with mode := .panicking c }, r) w := fun f r c ht => by
    rcases hT.mode _ _ ht with h | h <;> cases h
  induction h with
  | zed =>
    intro f r c e
    simp only [List.cons.injEq] at e
    obtain ⟨rfl, rfl⟩ := e
    obtain ⟨o, w', es, he⟩ := stepG_fall (cs := []) (w := w) (f := { zed P with mode := .panicking c }) rfl rfl (zed_catches P c)
    exact lost_ended (hnot _ _ _) (step_ended he)
  | @frame g cs hd hf hm hcs ih =>
    intro f r c e
    simp only [List.cons.injEq] at e
    obtain ⟨rfl, rfl⟩ := e
    obtain ⟨fn, hfn⟩ := hf
    have hcat : Frame.catches P { g with mode := .panicking c } = false := by
      simp only [Frame.catches, hfn]
    cases cs with
    | nil => cases hcs
    | cons d ds =>
      have hdm : d.mode = .run ∨ d.mode = .returning := by
        cases hcs with
        | zed => exact .inl rfl
        | frame _ _ h _ => exact h
      exact lost_next (hnot _ _ _) (step_go (stepG_pop (f := { g with mode := .panicking c }) rfl hd hcat)) (by rw [raise_of hdm]; exact ih d ds c rfl)
theorem StackRel.falls {P : Program} {k : Cont} {RB : List Frame} {ρ : Ren} {b : Bool} {s S : List Frame} (h : StackRel P k RB ρ b s S) : Falls P s := by
  induction h with
  | base hm hk h => exact .frame h.calm.1 (by obtain ⟨fn, h, _⟩ := h.res; exact ⟨fn, h⟩) h.go .zed
  | push h _ ih => exact .frame h.calm.1 (by obtain ⟨fn, h, _⟩ := h.res; exact ⟨fn, h⟩) h.go ih
/-- A return into the last. -/
theorem lost_ret {P : Program} {T : Stack → World → Prop} (hT : StopOk T) {k : Cont} {RB : List Frame} {ρ : Ren} {s S : Stack} (h : GRet P k RB ρ s S) {w : World} (h0 : ¬ T s w) : Lost P T (lone s.1 s.2 w) := by
  obtain ⟨f, cs⟩ := s
  obtain ⟨hcs, -, hm, -, hf⟩ := h
  simp only at hcs hm hf ⊢
  subst hcs
  obtain ⟨fn, hfn, hres⟩ := hf.res
  obtain ⟨v, v', e1, e2, hv⟩ := results_rel (P := P) hf.row hres
  have hstep : stepG P true (G f [zed P]) w = .go (G ((zed P).finish v) []) w (seen P f.fn #[]) := by
    refine stepG_ok hf.calm.toE (fun _ => hf.calm.kind) (st := ((zed P).finish v, [])) ?_
    simp only [stepSem, hm, hfn, e1]
    rfl
  refine lost_next h0 (step_go hstep) (lost_ended (fun ht => hT.over _ _ ht rfl) (o := .stuck ("no extern row " ++ "fmt's door") (((zed P).finish v).pos P)) (w' := w) (step_ended (es := #[]) ?_))
  have : Extern.next "fmt's door" = none := by decide +kernel
  simp [stepG, stepG.exec, G, zed, Frame.finish, this]
end Go.Proofs.Ytkodpijedinanaa.Sim

namespace Go.Proofs.Ytkodpijedinanaa.Sim
open Go Go.Conc
set_option linter.unusedVariables false
set_option linter.unusedSimpArgs false

theorem Mir.local {P : Program} (hF : FnsOk2 P) {k : Cont} {RB : List Frame} {ρ : Ren} {s S : Stack} {w W : World} (h : Mir P k RB ρ s S w W) {τ τ' : Tape} {d d' : Nat} {t : Stack} {w1 : World}
    (hr : (stepSem P s.1 s.2).run P (Sim.lay w τ d) = .ok t w1) (al : ∀ n, n < w1.drawn - d → ∀ q, τ (d + n) q = τ' (d' + n) q) :
    (stepSem P s.1 s.2).run P (Sim.lay w τ' d') = .ok t (Sim.lay w1 τ' (d' + (w1.drawn - d))) :=
  (srel_step hF h.above h.g).local τ' (Sim.lay w τ d) W d' t w1 (h.wr.lay _ _) h.size h.size' hr al
abbrev Spot := Stack × World
def zeroT : Tape := fun _ _ => 0
noncomputable def stepA (P : Program) (x : Spot) (τ : Tape) : Option (Spot × Nat) :=
  match (stepSem P x.1.1 x.1.2).run P (lay x.2 τ 0) with
  | .ok t w => some ((t, lay w zeroT 0), w.drawn)
  | .halt _ _ => none
/-- What one tape answers that is put together along a path: the number i of the path's draws. -/
inductive At (tp : Spot → Tape) (nx : Spot → Option (Spot × Nat)) : Spot → Nat → (Question → Nat) → Prop
  | last {x : Spot} {i : Nat} : nx x = none → At tp nx x i (tp x i)
  | now {x x' : Spot} {n i : Nat} : nx x = some (x', n) → i < n → At tp nx x i (tp x i)
  | later {x x' : Spot} {n i : Nat} {v : Question → Nat} : nx x = some (x', n) → n ≤ i → At tp nx x' (i - n) v → At tp nx x i v
theorem At.det {tp : Spot → Tape} {nx : Spot → Option (Spot × Nat)} {x : Spot} {i : Nat} {v u : Question → Nat} (h : At tp nx x i v) (h' : At tp nx x i u) : v = u := by
  induction h with
  | last e =>
    cases h' with
    | last => rfl
    | now e' => rfl
    | later e' => rw [e] at e'; cases e'
  | now e hi =>
    cases h' with
    | last => rfl
    | now => rfl
    | later e' hj => rw [e] at e'; cases e'; omega
  | later e hj _ ih =>
    cases h' with
    | last e' => rw [e] at e'; cases e'
    | now e' hi => rw [e] at e'; cases e'; omega
    | later e' _ h => rw [e] at e'; cases e'; exact ih h
open Classical in
noncomputable def asm (tp : Spot → Tape) (nx : Spot → Option (Spot × Nat)) (x : Spot) : Tape := fun i => if h : ∃ v, At tp nx x i v then h.choose else fun _ => 0
theorem asm_at {tp : Spot → Tape} {nx : Spot → Option (Spot × Nat)} {x : Spot} {i : Nat} {v : Question → Nat} (h : At tp nx x i v) : asm tp nx x i = v := by
  have hx : ∃ v, At tp nx x i v := ⟨v, h⟩
  unfold asm
  rw [dif_pos hx]
  exact hx.choose_spec.det h
theorem asm_later {tp : Spot → Tape} {nx : Spot → Option (Spot × Nat)} {x x' : Spot} {n : Nat} (e : nx x = some (x', n)) (i : Nat) : asm tp nx x (n + i) = asm tp nx x' i := by
  by_cases hx : ∃ v, At tp nx x' i v
  · obtain ⟨v, hv⟩ := hx
    rw [asm_at hv]
    exact asm_at (.later e (by omega) (by rw [Nat.add_sub_cancel_left]; exact hv))
  · have hx' : ¬ ∃ v, At tp nx x (n + i) v := fun ⟨v, hv⟩ => by
      cases hv with
      | last e' => rw [e] at e'; cases e'
      | now e' hi => rw [e] at e'; cases e'; omega
      | later e' _ h => rw [e] at e'; cases e'; rw [Nat.add_sub_cancel_left] at h; exact hx ⟨v, h⟩
    unfold asm
    rw [dif_neg hx, dif_neg hx']
theorem bad_tape {P : Program} (hF : FnsOk2 P) {T : Stack → World → Prop} (hT : StopOk T) {k : Cont} {RB : List Frame} {ρ : Ren} {s S : Stack} {w W : World} (h : Mir P k RB ρ s S w W) (hb : ¬ Tree P T s w) :
    ∃ τ, ∀ x n, stepA P (s, w) τ = some (x, n) → ¬ Tree P T x.1 x.2 := by
  have key : ∀ (τ : Tape) (d : Nat) t w1, (stepSem P s.1 s.2).run P (lay w (fun i => τ (d + i)) 0) = .ok t w1 → (stepSem P s.1 s.2).run P (lay w τ d) = .ok t (lay w1 τ (d + (w1.drawn - 0))) := fun τ d t w1 hr =>
    h.local hF (τ := fun i => τ (d + i)) (d := 0) (τ' := τ) (d' := d) hr fun n hn q => by show τ (d + (0 + n)) q = _; rw [Nat.zero_add]
  by_cases hA : ∀ τ d, ∃ s' w', (stepSem P s.1 s.2).run P (lay w τ d) = .ok s' w'
  · by_cases hB : ∀ τ d s' w', (stepSem P s.1 s.2).run P (lay w τ d) = .ok s' w' → Tree P T s' w'
    · exact absurd (.step hA hB) hb
    · simp only [Classical.not_forall] at hB
      obtain ⟨τ, d, s', w', hr, hn⟩ := hB
      refine ⟨fun i => τ (d + i), fun x n hx ht => ?_⟩
      unfold stepA at hx
      simp only at hx
      split at hx
      · rename_i t w1 hr1
        have hk := key τ d t w1 hr1
        rw [hr] at hk
        simp only [Result.ok.injEq] at hk
        obtain ⟨rfl, rfl⟩ := hk
        simp only [Option.some.injEq, Prod.mk.injEq] at hx
        obtain ⟨rfl, rfl⟩ := hx
        exact hn (by have := ht.lay hT τ (d + (w1.drawn - 0)); exact this)
      · cases hx
  · simp only [Classical.not_forall] at hA
    obtain ⟨τ, d, hr⟩ := hA
    refine ⟨fun i => τ (d + i), fun x n hx => ?_⟩
    unfold stepA at hx
    simp only at hx
    split at hx
    · rename_i t w1 hr1
      exact absurd ⟨_, _, key τ d t w1 hr1⟩ hr
    · cases hx
open Classical in
noncomputable def pickT (P : Program) (T : Stack → World → Prop) (x : Spot) : Tape := if h : ∃ τ, ∀ y n, stepA P x τ = some (y, n) → ¬ Tree P T y.1 y.2 then h.choose else zeroT
/-- ████ The tree. -/
theorem tree_of_runs {P : Program} (hF : FnsOk2 P) {T : Stack → World → Prop} (hT : StopOk T) {k : Cont} {RB : List Frame} {ρ : Ren} {s S : Stack} {w W : World} (h : Mir P k RB ρ s S w W)
    (hc : ∀ τ, ∃ n sT wT, runN P n (lone s.1 s.2 (lay w τ 0)) = .next (lone sT.1 sT.2 wT) ∧ T sT wT) : Tree P T s w := by
  refine Classical.byContradiction fun hb => ?_
  let tp := pickT P T
  let nx : Spot → Option (Spot × Nat) := fun x => stepA P x (tp x)
  have main : ∀ n (ρ : Ren) (s S : Stack) (w W : World), Mir P k RB ρ s S w W → ¬ Tree P T s w → ∀ (τ : Tape) (d : Nat), (∀ i, τ (d + i) = asm tp nx (s, w) i) →
      ∀ (sT : Stack) wT, runN P n (lone s.1 s.2 (lay w τ d)) = .next (lone sT.1 sT.2 wT) → ¬ T sT wT := by
    intro n
    induction n with
    | zero =>
      intro ρ s S w W hm hb τ d _ sT wT hr ht
      simp only [runN, Stepped.next.injEq] at hr
      obtain ⟨e1, e2, rfl⟩ := lone_inj hr
      obtain ⟨s1, s2⟩ := s
      obtain ⟨t1, t2⟩ := sT
      simp only at e1 e2
      subst e1; subst e2
      have := hT.lay _ _ w.tape w.drawn ht
      exact hb (.stop this)
    | succ n ih =>
      intro ρ s S w W hm hb τ d hτ sT wT hr
      have h0 : ¬ T s (lay w τ d) := fun ht => by
        have := hT.lay _ _ w.tape w.drawn ht
        exact hb (.stop this)
      obtain hpick := bad_tape hF hT hm hb
      have htp : ∀ x n, stepA P (s, w) (tp (s, w)) = some (x, n) → ¬ Tree P T x.1 x.2 := by
        show ∀ x n, stepA P (s, w) (pickT P T (s, w)) = some (x, n) → ¬ Tree P T x.1 x.2
        unfold pickT
        rw [dif_pos hpick]
        exact hpick.choose_spec
      cases hn : nx (s, w) with
      | none =>
        have hall : ∀ i, τ (d + i) = tp (s, w) i := fun i => by rw [hτ i]; exact asm_at (.last hn)
        have hno : ∀ t w1, (stepSem P s.1 s.2).run P (lay w τ d) ≠ .ok t w1 := fun t w1 hr1 => by
          have := hm.local hF (τ := τ) (d := d) (τ' := tp (s, w)) (d' := 0) hr1 fun i _ q => by rw [hall i, Nat.zero_add]
          have hn' : stepA P (s, w) (tp (s, w)) = none := hn
          unfold stepA at hn'
          rw [this] at hn'
          cases hn'
        have hlost : Lost P T (lone s.1 s.2 (lay w τ d)) := by
          obtain ⟨s1, s2⟩ := s
          rcases stepG_halt hF (hm.lay τ d) hno with ⟨o, w', es, he⟩ | ⟨ch, w', es, he⟩
          · exact lost_ended h0 (step_ended he)
          · exact lost_next h0 (step_go he) (lost_falls hT hm.g.falls s1 s2 ch rfl)
        exact hlost (n + 1) sT wT hr
      | some y =>
        obtain ⟨⟨t, v⟩, c⟩ := y
        have hn' : stepA P (s, w) (tp (s, w)) = some ((t, v), c) := hn
        have hbad := htp _ _ hn'
        have hnow : ∀ i, i < c → τ (d + i) = tp (s, w) i := fun i hi => by rw [hτ i]; exact asm_at (.now hn hi)
        have hlater : ∀ i, τ (d + c + i) = asm tp nx (t, v) i := fun i => by
          rw [show d + c + i = d + (c + i) by omega, hτ, asm_later hn i]
        unfold stepA at hn'
        simp only at hn'
        split at hn'
        · rename_i t1 w1 hr1
          simp only [Option.some.injEq, Prod.mk.injEq] at hn'
          obtain ⟨⟨rfl, rfl⟩, rfl⟩ := hn'
          have hrun := hm.local hF (τ := tp (s, w)) (d := 0) (τ' := τ) (d' := d) hr1 fun i hi q => by
            rw [Nat.zero_add, ← hnow i (by simpa using hi)]
          have hst : step P (lone s.1 s.2 (lay w τ d)) = .next (lone t1.1 t1.2 (lay w1 τ (d + (w1.drawn - 0)))) := by
            obtain ⟨p, q, _, hf, _⟩ := (show GRel P k RB ρ (s.1, s.2) (S.1, S.2) from hm.g).top
            have hT1 := Sem.runT_fst P (stepSem P s.1 s.2) (lay w τ d) #[]
            rw [hrun] at hT1
            rcases hq : (stepSem P s.1 s.2).runT P (lay w τ d) #[] with ⟨r, es⟩
            rw [hq] at hT1
            simp only at hT1
            subst hT1
            exact step_go (stepG_ok hf.calm.toE (fun _ => hf.calm.kind) hq)
          simp only [runN, hst] at hr
          obtain ⟨ρ', T', W1, l, e1, e2, e3, e4⟩ := (hm.lay τ d).lay' τ d |>.step hF (froz_none _) #[] hrun (fun x hx q => rfl)
          rcases e3 with e3 | e3
          · refine ih ρ' t1 T' _ W1 (e3.lay zeroT 0) hbad τ (d + (w1.drawn - 0)) hlater sT wT ?_
            exact hr
          · refine lost_ret hT e3 (w := lay w1 τ (d + (w1.drawn - 0))) (fun ht => hbad (.stop ?_)) n sT wT hr
            have := hT.lay _ _ zeroT 0 ht
            exact this
        · cases hn'
  obtain ⟨n, sT, wT, hr, ht⟩ := hc (asm tp nx (s, w))
  exact main n ρ s S w W h hb (asm tp nx (s, w)) 0 (fun i => by rw [Nat.zero_add]) sT wT hr ht
end Go.Proofs.Ytkodpijedinanaa.Sim
