/- Texts that the claim imports, laid together: McA McB McC McD McE. No statement of their own. -/
import Derived.Conc.Know
import Derived.Conc.Listed
import Derived.Conc.CrowdSpec
import Derived.Conc.CrowdComm
import Derived.Conc.CrowdStepW
import Derived.Conc.Quits
import Derived.Conc.Pipeline3
import Derived.Test.YtkodpijedinanaaKad
namespace Go.Proofs.Ytkodpijedinanaa.Sim
open Go Go.Conc
set_option linter.unusedVariables false
set_option linter.unusedSimpArgs false

abbrev Blk := Nat → Prop
/-- What a goroutine holds besides its own blocks: blocks to read, cells to write, groups. -/
structure Shd where
  rd : Blk
  cel : Nat → Nat → Prop
  grp : Blk
instance : CoeFun Shd (fun _ => Nat → Prop) := ⟨Shd.rd⟩
def tyWg : TypeId := 65
/-- A group lies there. -/
def GrpAt (b : Nat) (w : World) : Prop := ∃ st sm, ConcR.WgAt tyWg b w st sm
/-- What the others leave. -/
structure Rely (Own : Blk) (Sh : Shd) (w w1 : World) : Prop where
  size : w.heap.size ≤ w1.heap.size
  kept : ∀ b o, (Own b ∨ Sh b) → w.heap[b]? = some o → w1.heap[b]? = some o
  shp : Shaped w w1
  cel : ∀ b o v, Sh.cel b o → w.cell? ⟨b, o, none⟩ = some v → w1.cell? ⟨b, o, none⟩ = some v
  grp : ∀ b, Sh.grp b → GrpAt b w → GrpAt b w1
theorem Rely.refl (Own : Blk) (Sh : Shd) (w : World) : Rely Own Sh w w := ⟨Nat.le_refl _, fun b o _ h => h, .refl w, fun _ _ _ _ h => h, fun _ _ h => h⟩
theorem Rely.trans {Own : Blk} {Sh : Shd} {a b c : World} (h : Rely Own Sh a b) (k : Rely Own Sh b c) : Rely Own Sh a c :=
  ⟨Nat.le_trans h.size k.size, fun x o hx ho => k.kept x o hx (h.kept x o hx ho), h.shp.trans k.shp, fun x o v hx hv => k.cel x o v hx (h.cel x o v hx hv), fun x hx hg => k.grp x hx (h.grp x hx hg)⟩
theorem Rely.less {Own Own' : Blk} {Sh Sh' : Shd} {a b : World} (h : Rely Own Sh a b) (hs : ∀ x, (Own' x ∨ Sh' x) → Own x ∨ Sh x) (hc : ∀ x o, Sh'.cel x o → Sh.cel x o ∨ Own x ∨ Sh x) (hg : ∀ x, Sh'.grp x → Sh.grp x ∨ Own x ∨ Sh x) : Rely Own' Sh' a b :=
  ⟨h.size, fun x o hx ho => h.kept x o (hs x hx) ho, h.shp, fun x o v hx hv => by
    rcases hc x o hx with h1 | h1
    · exact h.cel x o v h1 hv
    · cases ho : a.heap[x]? with
      | none => simp [World.cell?, ho] at hv
      | some q =>
        simp only [World.cell?] at hv ⊢
        rw [h.kept x q h1 ho, ← ho]; exact hv, fun x hx hgr => by
    rcases hg x hx with h1 | h1
    · exact h.grp x h1 hgr
    · obtain ⟨st, sm, hw⟩ := hgr
      exact ⟨st, sm, h.kept x _ h1 hw⟩⟩
/-- What is mine behind a step. -/
def Grow (Own : Blk) (w w' : World) : Blk := fun b => Own b ∨ (w.heap.size ≤ b ∧ b < w'.heap.size)
/-- What a step may list. -/
inductive EvIn (Own : Blk) (Sh : Shd) : Event → Prop
  | cell (p : Addr) (wr : Bool) : Own p.block ∨ (Sh p.block ∧ wr = false) ∨ Sh.cel p.block p.off → EvIn Own Sh ⟨.cell p, wr, false⟩
  | obj (r : Nat) (s : Bool) : EvIn Own Sh ⟨.obj r, false, s⟩
  | noRoom : EvIn Own Sh ⟨.mark .noRoom, false, true⟩
/-- What a step does. -/
structure Did (Own : Blk) (Sh : Shd) (w w' : World) (es : Array Event) : Prop where
  size : w.heap.size ≤ w'.heap.size
  kept : ∀ b, b < w.heap.size → ¬ Own b → (∀ o, ¬ Sh.cel b o) → w'.heap[b]? = w.heap[b]?
  cels : ∀ b o, b < w.heap.size → ¬ Own b → ¬ Sh.cel b o → w'.cell? ⟨b, o, none⟩ = w.cell? ⟨b, o, none⟩
  shp : Shaped w w'
  tape : w'.tape = w.tape
  os : w'.os = w.os
  out : w'.output = w.output
  evs : ∀ e ∈ es, EvIn (Grow Own w w') Sh e
/-- On to the stop. -/
inductive Goes' (P : Program) (main : Bool) (Sh : Shd) (Stop : Blk → Goroutine → World → Prop) : Blk → Goroutine → World → Prop
  | stop {Own : Blk} {g : Goroutine} {w : World} : Stop Own g w → Goes' P main Sh Stop Own g w
  | step {Own : Blk} {g : Goroutine} {w : World} : g.status = .running →
      (∀ w1, Rely Own Sh w w1 → ∃ g' w' es, stepG P main g w1 = .go g' w' es ∧ Did Own Sh w1 w' es ∧ g'.status = .running) →
      (∀ w1, Rely Own Sh w w1 → ∀ g' w' es, stepG P main g w1 = .go g' w' es → Goes' P main Sh Stop (Grow Own w1 w') g' w') → Goes' P main Sh Stop Own g w
theorem Goes'.bind {P : Program} {main : Bool} {Sh : Shd} {S T : Blk → Goroutine → World → Prop} {Own : Blk} {g : Goroutine} {w : World} (h : Goes' P main Sh S Own g w) (k : ∀ Own g w, S Own g w → Goes' P main Sh T Own g w) : Goes' P main Sh T Own g w := by
  induction h with
  | stop h => exact k _ _ _ h
  | step hs h1 _ ih => exact .step hs h1 ih
theorem Goes'.mono {P : Program} {main : Bool} {Sh : Shd} {S T : Blk → Goroutine → World → Prop} {Own : Blk} {g : Goroutine} {w : World} (h : Goes' P main Sh S Own g w) (k : ∀ Own g w, S Own g w → T Own g w) : Goes' P main Sh T Own g w :=
  h.bind fun _ _ _ h => .stop (k _ _ _ h)

section
theorem WRel.rely {ρ : Ren} {w W W1 : World} (h : WRel ρ w W) {Own : Blk} {Sh : Shd} (hr : Rely Own Sh W W1) (hin : ∀ a b, ρ a b → (Own b ∨ Sh b) ∨ Opq w a) : WRel ρ w W1 where
  fn := h.fn
  inj := h.inj
  dom := fun a b hab => by
    obtain ⟨o, o', h1, h2, h3⟩ := h.dom a b hab
    rcases hin a b hab with hi | hi
    · exact ⟨o, o', h1, hr.kept b o' hi h2, h3⟩
    · rw [show w.heap[a]? = some opq from hi] at h1
      cases h1
      cases h3 with
      | opq c e z =>
        obtain ⟨c', hc', _⟩ := hr.shp b c e z h2
        exact ⟨_, _, hi, hc', .opq c' e z⟩
/-- The matched, and whose the blocks are. -/
structure Held (P : Program) (k : Cont) (RB : List Frame) (F : Blk) (Own : Blk) (Sh : Shd) (ρ : Ren) (s S : Stack) (w W : World) : Prop where
  mir : Mir P k RB ρ s S w W
  fz : Froz F w
  own : ∀ a b, ρ a b → ¬ F a → Own b
  sh : ∀ a b, ρ a b → F a → ¬ Opq w a → Sh b
theorem Held.inn {P : Program} {k : Cont} {RB : List Frame} {F Own : Blk} {Sh : Shd} {ρ : Ren} {s S : Stack} {w W : World} (h : Held P k RB F Own Sh ρ s S w W) (a b : Nat) (hab : ρ a b) : (Own b ∨ Sh b) ∨ Opq w a := by
  by_cases hF : F a
  · by_cases ho : Opq w a
    · exact .inr ho
    · exact .inl (.inr (h.sh a b hab hF ho))
  · exact .inl (.inl (h.own a b hab hF))
theorem Held.rely {P : Program} {k : Cont} {RB : List Frame} {F Own : Blk} {Sh : Shd} {ρ : Ren} {s S : Stack} {w W W1 : World} (h : Held P k RB F Own Sh ρ s S w W) (hr : Rely Own Sh W W1) : Held P k RB F Own Sh ρ s S w W1 :=
  ⟨⟨h.mir.g, h.mir.wr.rely hr h.inn, h.mir.above, h.mir.size, Nat.le_trans h.mir.size' hr.size⟩, h.fz, h.own, h.sh⟩
/-- The stop, seen from the other side. -/
def StopM (P : Program) (T : Stack → World → Prop) (k : Cont) (RB : List Frame) (F : Blk) (Sh : Shd) (ρ : Ren) (Own0 : Blk) : Blk → Goroutine → World → Prop := fun Own g W =>
  ∃ ρ' s S w, T s w ∧ g = G S.1 S.2 ∧ (GRel P k RB ρ' s S ∨ GRet P k RB ρ' s S) ∧ WRel ρ' w W ∧ Above P ρ' ∧ P.globals.size ≤ w.heap.size ∧ P.globals.size ≤ W.heap.size ∧ Froz F w ∧ Ren.le ρ ρ' ∧
    (∀ a b, ρ' a b → ¬ F a → Own b) ∧ (∀ a b, ρ' a b → F a → ¬ Opq w a → Sh b) ∧ (∀ b, Own0 b → Own b)
theorem seen_fold_extern (quiet : FuncId → Bool) : ∀ (l : List Event) (q : Bool) (kept : Array Event), (∀ e ∈ kept, ∀ f, e.loc ≠ .mark (.extern f)) → ∀ e ∈ (l.foldl (seenStep quiet) (q, kept)).2, ∀ f, e.loc ≠ .mark (.extern f) := by
  intro l
  induction l with
  | nil => intro q kept h; exact h
  | cons a l ih =>
    intro q kept h
    simp only [List.foldl_cons, seenStep]
    split
    · exact ih _ _ h
    · rename_i hne
      refine ih _ _ fun e he f hf => ?_
      split at he
      · exact h e he f hf
      · rcases Array.mem_push.1 he with he | rfl
        · exact h e he f hf
        · exact hne f hf
theorem seen_extern {P : Program} {fn : FuncId} {es : Array Event} {e : Event} (h : e ∈ seen P fn es) : ∀ f, e.loc ≠ .mark (.extern f) := by
  rw [seen_def] at h
  exact seen_fold_extern _ _ _ _ (fun e he => by simp at he) e h
theorem tree_ret {P : Program} {T : Stack → World → Prop} (hT : StopOk T) {k : Cont} {RB : List Frame} {ρ : Ren} {s S : Stack} {w : World} (h : Tree P T s w) (hr : GRet P k RB ρ s S) : T s w := by
  cases h with
  | stop h => exact h
  | step h1 h2 =>
    exfalso
    obtain ⟨f, cs⟩ := s
    obtain ⟨hcs, -, hm, -, hf⟩ := hr
    simp only at hcs hm hf h1 h2
    subst hcs
    obtain ⟨fn, hfn, hres⟩ := hf.res
    obtain ⟨v, v', e1, e2, hv⟩ := results_rel (P := P) hf.row hres
    have hstep : (stepSem P f [zed P]).run P (lay w zeroT 0) = .ok ((zed P).finish v, []) (lay w zeroT 0) := by
      simp only [stepSem, hm, hfn, e1]
      rfl
    have := h2 zeroT 0 _ _ hstep
    cases this with
    | stop ht => exact hT.over _ _ ht rfl
    | step h3 _ =>
      obtain ⟨s', w', h⟩ := h3 zeroT 0
      simp [stepSem, zed, Frame.finish, Sem.run] at h
theorem goes_of_tree {P : Program} {main : Bool} (hF : FnsOk2 P) {T : Stack → World → Prop} (hT : StopOk T) {k : Cont} {RB : List Frame} {F : Blk} {Sh : Shd} {s : Stack} {w : World} (ht : Tree P T s w) :
    ∀ {ρ0 ρ : Ren} {S : Stack} {W : World} {Own0 Own : Blk}, Ren.le ρ0 ρ → (∀ b, Own0 b → Own b) → Held P k RB F Own Sh ρ s S w W → Goes' P main Sh (StopM P T k RB F Sh ρ0 Own0) Own (G S.1 S.2) W := by
  induction ht with
  | @stop s w h => intro ρ0 ρ S W Own0 Own hl h0 hh; exact .stop ⟨ρ, s, S, w, h, rfl, .inl hh.mir.g, hh.mir.wr, hh.mir.above, hh.mir.size, hh.mir.size', hh.fz, hl, hh.own, hh.sh, h0⟩
  | @step s w h1 h2 ih =>
    intro ρ0 ρ S W Own0 Own hl h0 hh
    have key : ∀ W1, Rely Own Sh W W1 → ∃ t w1 ρ' T' W2 es, (stepSem P s.1 s.2).run P (lay w W1.tape W1.drawn) = .ok t w1 ∧ stepG P main (G S.1 S.2) W1 = .go (G T'.1 T'.2) W2 es ∧ Did Own Sh W1 W2 es ∧ Ran F ρ ρ' (lay w W1.tape W1.drawn) W1 w1 W2 es.toList ∧
        (Mir P k RB ρ' t T' w1 W2 ∨ GRet P k RB ρ' t T') ∧ Above P ρ' ∧ (∀ a b, ρ' a b → ¬ F a → Grow Own W1 W2 b) ∧ (∀ a b, ρ' a b → F a → ¬ Opq w1 a → Sh b) := fun W1 hr => by
      obtain ⟨t, w1, hrun⟩ := h1 W1.tape W1.drawn
      have hh1 := hh.rely hr
      obtain ⟨ρ', T', W2, l, e1, e2, e3, e4⟩ := (hh1.mir.lay W1.tape W1.drawn).step hF (F := F) (fun a ha => hh.fz a ha) #[] hrun (fun x _ q => rfl)
      obtain ⟨p, q, hpq, hf, _⟩ := (show GRel P k RB ρ (s.1, s.2) (S.1, S.2) from hh.mir.g).top
      simp only [List.append_toArray, Array.empty_append] at e1
      have hcd : S.1.mode = .returning → S.1.defers = [] := fun hm => by
        rcases hpq with ⟨rfl, _⟩ | ⟨_, hr⟩
        · exact hf.dn rfl
        · have := hf.mode
          rw [hm, hr] at this
          cases this
      have hce : CalmE S.1 := ⟨hcd, hf.calm'.1, hf.calm'.2⟩
      have hback : S.1.mode = .returning → S.1.kind = .normal := fun hm => by
        rcases hpq with ⟨rfl, _⟩ | ⟨_, hr⟩
        · exact hf.kn rfl
        · have := hf.mode
          rw [hm, hr] at this
          cases this
      have hlt : ∀ a b, ρ' a b → b < W2.heap.size := fun a b hab => by
        obtain ⟨_, _, _, h2, _⟩ := e2.rel.dom a b hab
        exact (Array.getElem?_eq_some_iff.1 h2).1
      have hltw : ∀ a, F a → a < w.heap.size := fun a ha => hh.fz.lt ha
      have ho : ∀ a b, ρ' a b → ¬ F a → Grow Own W1 W2 b := fun a b hab hF => by
        rcases e2.fresh a b hab with h | ⟨_, h⟩
        · exact .inl (hh.own a b h hF)
        · exact .inr ⟨h, hlt a b hab⟩
      have hs : ∀ a b, ρ' a b → F a → ¬ Opq w1 a → Sh b := fun a b hab hF hno => by
        rcases e2.fresh a b hab with h | ⟨h, _⟩
        · exact hh.sh a b h hF fun ho => hno (e2.opq a ho)
        · exact absurd (hltw a hF) (Nat.not_lt.2 h)
      have hsub : ∀ e ∈ (seen P S.1.fn l.toArray).toList, e ∈ l ∧ ∀ f, e.loc ≠ .mark (.extern f) := fun e he => by
        have := mem_seen (P := P) (fn := S.1.fn) (es := l.toArray) (Array.mem_toList_iff.1 he)
        exact ⟨by simpa using this, seen_extern (Array.mem_toList_iff.1 he)⟩
      refine ⟨t, w1, ρ', T', W2, seen P S.1.fn l.toArray, hrun, stepG_ok hce hback e1, ⟨e2.size', ?_, ?_, e2.shp', e2.tape', e2.os', e2.out', ?_⟩, { e2 with evs := fun e he => e2.evs e (hsub e he).1 }, e3, e4, ho, hs⟩
      · intro b hb hn _
        exact e2.kept b hb fun a hab => Classical.byContradiction fun hF => hn (hh.own a b hab hF)
      · intro b o hb hn _
        have := e2.kept b hb fun a hab => Classical.byContradiction fun hF => hn (hh.own a b hab hF)
        simp only [World.cell?, this]
      · intro e he
        have := e2.evs e (hsub e (Array.mem_toList_iff.2 he)).1
        have hnx := (hsub e (Array.mem_toList_iff.2 he)).2
        cases this with
        | extern f => exact absurd rfl (hnx f)
        | cell p wr a hab hw hrow =>
          refine .cell p wr ?_
          by_cases hFa : F a
          · refine .inr (.inl ⟨hs a _ hab hFa hrow.not, ?_⟩)
            cases wr with
            | true => exact absurd hFa (hw rfl)
            | false => rfl
          · exact .inl (ho a _ hab hFa)
        | obj r s a h => exact .obj r s
        | noRoom => exact .noRoom
    refine .step rfl (fun W1 hr => ?_) fun W1 hr g' W' es hg => ?_
    · obtain ⟨t, w1, ρ', T', W2, es, _, q2, q3, _⟩ := key W1 hr
      exact ⟨_, _, _, q2, q3, rfl⟩
    · obtain ⟨t, w1, ρ', T', W2, es2, q1, q2, q3, q4, q5, q6, q7, q8⟩ := key W1 hr
      rw [q2] at hg
      simp only [GStep.go.injEq] at hg
      obtain ⟨rfl, rfl, rfl⟩ := hg
      have hl' := hl.trans q4.le
      have h0' : ∀ b, Own0 b → Grow Own W1 W2 b := fun b hb => .inl (h0 b hb)
      rcases q5 with q5 | q5
      · exact ih _ _ _ _ q1 hl' h0' ⟨q5, q4.fz, q7, q8⟩
      · refine .stop ⟨ρ', t, T', w1, tree_ret hT (h2 _ _ _ _ q1) q5, rfl, .inr q5, q4.rel, q6, Nat.le_trans hh.mir.size q4.size, Nat.le_trans (Nat.le_trans hh.mir.size' hr.size) q4.size', q4.fz, hl', q7, q8, h0'⟩
end
end Go.Proofs.Ytkodpijedinanaa.Sim

namespace Go.Proofs.Ytkodpijedinanaa.Sim
open Go Go.Conc
set_option linter.unusedVariables false
set_option linter.unusedSimpArgs false

/-- Whose what is. -/
abbrev Hld := Nat → Blk × Shd
def OnG (Gp : Blk) (l : Loc) : Prop := ∃ a : Addr, l = .cell a ∧ Gp a.block
structure Sep (A : Hld) (Gp : Blk) (sz lo : Nat) : Prop where
  own : ∀ γ δ b, (A γ).1 b → γ ≠ δ → ¬ (A δ).1 b
  sh : ∀ γ δ b, (A γ).1 b → ¬ (A δ).2 b
  cel : ∀ γ δ b o, (A γ).2.cel b o → ¬ (A δ).1 b ∧ ¬ (A δ).2 b
  cels : ∀ γ δ b o, (A γ).2.cel b o → γ ≠ δ → ¬ (A δ).2.cel b o
  gown : ∀ γ b, Gp b → ¬ (A γ).1 b
  gsh : ∀ γ b, Gp b → ¬ (A γ).2 b
  gcel : ∀ γ b o, Gp b → ¬ (A γ).2.cel b o
  grp : ∀ γ b, (A γ).2.grp b → Gp b
  lt : ∀ γ b, (A γ).1 b ∨ (A γ).2 b → b < sz
  ltc : ∀ γ b o, (A γ).2.cel b o → b < sz
  ltg : ∀ b, Gp b → b < sz
  los : ∀ γ b, (A γ).1 b → lo ≤ b
  loc : ∀ γ b o, (A γ).2.cel b o → lo ≤ b
  log : ∀ b, Gp b → lo ≤ b
/-- Known enough to touch it so. -/
def May (h : Blk × Shd) (x : Touch) (p : Addr) : Prop := h.1 p.block ∨ (h.2 p.block ∧ x.write = true) ∨ h.2.cel p.block p.off
structure TInv (t : Trace) (A : Hld) (Gp : Blk) (sz n : Nat) (live : Nat → Prop) : Prop where
  clean : ∀ said, ¬ Race said t
  lim : ∀ (i : Nat) op, t[i]? = some op → op.g < n
  low : ∀ i x, touchAt t i = some x → (∃ p : Addr, x.loc = .cell p ∧ p.block < sz) ∨ (∃ r, x.loc = .obj r ∧ x.write = false)
  quiet : Quiet (OnG Gp) t
  know : ∀ γ i x (p : Addr), touchAt t i = some x → x.loc = .cell p → May (A γ) x p → Knows t γ i
  done : ∀ (i : Nat) op x, t[i]? = some op → op.act.touch? = some x → op.g = 0 ∨ Knows t 0 i ∨ live op.g ∨ (¬ t.counts i ∧ OnG Gp x.loc)
def setA (A : Hld) (γ : Nat) (h : Blk × Shd) : Hld := fun δ => if δ = γ then h else A δ
theorem setA_same (A : Hld) (γ : Nat) (h : Blk × Shd) : setA A γ h γ = h := by simp [setA]
theorem setA_ne (A : Hld) {γ δ : Nat} (h : Blk × Shd) (hd : δ ≠ γ) : setA A γ h δ = A δ := by simp [setA, hd]
theorem touchAt_cases {t u : Trace} {i : Nat} {x : Touch} (h : touchAt (t ++ u) i = some x) : (i < t.size ∧ touchAt t i = some x) ∨ (t.size ≤ i ∧ ∃ op ∈ u, (t ++ u)[i]? = some op ∧ op.act.touch? = some x) := by
  obtain ⟨op, hop, hx⟩ := touch_of h
  rcases getElem?_append_cases hop with ⟨hi, hop'⟩ | ⟨hi, hu⟩
  · exact .inl ⟨hi, by rw [touchAt_of hop']; exact hx⟩
  · exact .inr ⟨hi, op, hu, hop, hx⟩
theorem ofEvents_mem {g : Nat} {fn : FuncId} {pos : String} {es : Array Event} {op : MemOp} (h : op ∈ MemOp.ofEvents g fn pos es) : ∃ e ∈ es, op = { g, fn, pos, act := .ofEvent e } := by
  rw [ofEvents_eq] at h
  obtain ⟨e, he, rfl⟩ := Array.mem_map.1 h
  exact ⟨e, he, rfl⟩
/-- What an allowed event touches. -/
theorem EvIn.touch {Own : Blk} {Sh : Shd} {e : Event} (h : EvIn Own Sh e) {x : Touch} (hx : (MemAct.ofEvent e).touch? = some x) : (∃ p : Addr, x.loc = .cell p ∧ (Own p.block ∨ (Sh p.block ∧ x.write = false) ∨ Sh.cel p.block p.off)) ∨ (∃ r, x.loc = .obj r ∧ x.write = false) := by
  cases h with
  | cell p wr h =>
    simp only [MemAct.ofEvent, MemAct.touch?, Option.some.injEq] at hx
    subst hx
    exact .inl ⟨p, rfl, h⟩
  | obj r s =>
    have : MemAct.ofEvent ⟨.obj r, false, s⟩ = .access ⟨.obj r, false, s⟩ := by cases s <;> rfl
    rw [this] at hx
    simp only [MemAct.touch?, Option.some.injEq] at hx
    subst hx
    exact .inr ⟨r, rfl, rfl⟩
  | noRoom => simp [MemAct.ofEvent, MemAct.touch?] at hx
theorem EvIn.norel {Own : Blk} {Sh : Shd} {e : Event} (h : EvIn Own Sh e) : MemAct.ofEvent e ≠ .mark .disable ∧ MemAct.ofEvent e ≠ .mark .enable ∧ ∀ a, MemAct.ofEvent e ≠ .mark (.release a) := by
  cases h with
  | cell p wr h => simp [MemAct.ofEvent]
  | obj r s => cases s <;> simp [MemAct.ofEvent]
  | noRoom => simp [MemAct.ofEvent]
theorem lim_app {t u : Trace} {n γ : Nat} (h : ∀ (i : Nat) op, t[i]? = some op → op.g < n) (hg : ∀ op ∈ u, op.g = γ) (hγ : γ < n) : ∀ (i : Nat) op, (t ++ u)[i]? = some op → op.g < n := fun i op hi => by
  rcases getElem?_append_cases hi with ⟨_, hi'⟩ | ⟨_, hu⟩
  · exact h i op hi'
  · rw [hg op hu]; exact hγ
theorem knows_cases {t u : Trace} {n : Nat} {live : Nat → Prop} {Gp : Blk} {γ : Nat} (h : ∀ (i : Nat) op x, t[i]? = some op → op.act.touch? = some x → op.g = 0 ∨ Knows t 0 i ∨ live op.g ∨ (¬ t.counts i ∧ OnG Gp x.loc)) (hg : ∀ op ∈ u, op.g = γ) (hγ : γ = 0 ∨ live γ) :
    ∀ (i : Nat) op x, (t ++ u)[i]? = some op → op.act.touch? = some x → op.g = 0 ∨ Knows (t ++ u) 0 i ∨ live op.g ∨ (¬ (t ++ u).counts i ∧ OnG Gp x.loc) := fun i op x hop hx => by
  rcases getElem?_append_cases hop with ⟨hi, hop'⟩ | ⟨_, hu⟩
  · rcases h i op x hop' hx with h1 | h1 | h1 | ⟨h1, h2⟩
    · exact .inl h1
    · exact .inr (.inl (h1.app _))
    · exact .inr (.inr (.inl h1))
    · exact .inr (.inr (.inr ⟨fun hc => h1 ((counts_old hi).1 hc), h2⟩))
  · rw [hg op hu]
    rcases hγ with h1 | h1
    · exact .inl h1
    · exact .inr (.inr (.inl h1))
/-- A step of one's own. -/
theorem TInv.own {t : Trace} {A : Hld} {Gp : Blk} {sz n lo : Nat} {live : Nat → Prop} (h : TInv t A Gp sz n live) (hs : Sep A Gp sz lo) {γ : Nat} (hγ : γ = 0 ∨ live γ) (hn : γ < n) {w w' : World} (hw : w.heap.size = sz) (hsz : w.heap.size ≤ w'.heap.size) {fn : FuncId} {pos : String} {es : Array Event}
    (he : ∀ e ∈ es, EvIn (Grow (A γ).1 w w') (A γ).2 e) : TInv (t ++ MemOp.ofEvents γ fn pos es) (setA A γ (Grow (A γ).1 w w', (A γ).2)) Gp w'.heap.size n live := by
  have hg : ∀ op ∈ MemOp.ofEvents γ fn pos es, op.g = γ := fun op hop => by obtain ⟨e, _, rfl⟩ := ofEvents_mem hop; rfl
  have ht : ∀ op ∈ MemOp.ofEvents γ fn pos es, ∀ x, op.act.touch? = some x → (∃ p : Addr, x.loc = .cell p ∧ (Grow (A γ).1 w w' p.block ∨ ((A γ).2 p.block ∧ x.write = false) ∨ (A γ).2.cel p.block p.off)) ∨ (∃ r, x.loc = .obj r ∧ x.write = false) := fun op hop x hx => by
    obtain ⟨e, h1, rfl⟩ := ofEvents_mem hop
    exact (he e h1).touch hx
  have hlow : ∀ i x (p : Addr), touchAt t i = some x → x.loc = .cell p → p.block < sz := fun i x p hx hp => by
    rcases h.low i x hx with ⟨q, hq, hlt⟩ | ⟨r, hr, _⟩
    · rw [hp] at hq; cases hq; exact hlt
    · rw [hp] at hr; cases hr
  refine ⟨fun said => noRace_append (g := γ) (h.clean said) hg fun i a ha op hop b hb hc => ?_, lim_app h.lim hg hn, ?_, h.quiet.app fun op hop x hx ⟨p, hp, hG⟩ => ?_, ?_, knows_cases (n := n) h.done hg hγ⟩
  · obtain ⟨hloc, hmem, hwr, -⟩ := hc
    rcases ht op hop b hb with ⟨p, hp, hin⟩ | ⟨r, hr, hrw⟩
    · have hap : a.loc = .cell p := hloc.trans hp
      rcases hin with (hin | ⟨hin, _⟩) | ⟨hin, hnw⟩ | hin
      · exact h.know γ i a p ha hap (.inl hin)
      · have := hlow i a p ha hap; omega
      · exact h.know γ i a p ha hap (.inr (.inl ⟨hin, by rcases hwr with hwr | hwr; · exact hwr
                                                         · rw [hnw] at hwr; cases hwr⟩))
      · exact h.know γ i a p ha hap (.inr (.inr hin))
    · exfalso
      rcases h.low i a ha with ⟨q, hq, hlt⟩ | ⟨r', hr', hrw'⟩
      · rw [hloc, hr] at hq; cases hq
      · rw [hrw, hrw'] at hwr; simp at hwr
  · intro i x hx
    rcases touchAt_cases hx with ⟨_, hx⟩ | ⟨_, op, hop, _, hx⟩
    · rcases h.low i x hx with ⟨p, hp, hlt⟩ | hr
      · exact .inl ⟨p, hp, by omega⟩
      · exact .inr hr
    · rcases ht op hop x hx with ⟨p, hp, hin⟩ | hr
      · refine .inl ⟨p, hp, ?_⟩
        rcases hin with (hin | ⟨_, hin⟩) | ⟨hin, _⟩ | hin
        · have := hs.lt γ p.block (.inl hin); omega
        · exact hin
        · have := hs.lt γ p.block (.inr hin); omega
        · have := hs.ltc γ p.block _ hin; omega
      · exact .inr hr
  · exfalso
    rcases ht op hop x hx with ⟨q, hq, hin⟩ | ⟨r, hr, _⟩
    · rw [hp] at hq
      cases hq
      have := hs.ltg _ hG
      rcases hin with (hin | ⟨hin, _⟩) | ⟨hin, _⟩ | hin
      · exact hs.gown _ _ hG hin
      · omega
      · exact hs.gsh _ _ hG hin
      · exact hs.gcel _ _ _ hG hin
    · rw [hp] at hr; cases hr
  · intro δ i x p hx hp hin
    rcases touchAt_cases hx with ⟨_, hx⟩ | ⟨_, op, hop, hat, hx⟩
    · refine (h.know δ i x p hx hp ?_).app _
      have hlt := hlow i x p hx hp
      by_cases hd : δ = γ
      · subst hd
        rw [setA_same] at hin
        rcases hin with (hin | ⟨hin, _⟩) | hin
        · exact .inl hin
        · omega
        · exact .inr hin
      · rw [setA_ne _ _ hd] at hin
        exact hin
    · by_cases hd : δ = γ
      · subst hd
        have := knows_own hat
        rwa [hg op hop] at this
      · exfalso
        rw [setA_ne _ _ hd] at hin
        rcases ht op hop x hx with ⟨q, hq, hin'⟩ | ⟨r, hr, _⟩
        · rw [hp] at hq
          cases hq
          rcases hin with hin | ⟨hin, hwr⟩ | hin
          · have hlt := hs.lt δ p.block (.inl hin)
            rcases hin' with (hin' | ⟨hin', _⟩) | ⟨hin', _⟩ | hin'
            · exact hs.own _ _ _ hin hd hin'
            · omega
            · exact hs.sh _ _ _ hin hin'
            · exact (hs.cel _ _ _ _ hin').1 hin
          · have hlt := hs.lt δ p.block (.inr hin)
            rcases hin' with (hin' | ⟨hin', _⟩) | ⟨_, hnw⟩ | hin'
            · exact hs.sh _ _ _ hin' hin
            · omega
            · rw [hnw] at hwr; cases hwr
            · exact (hs.cel _ _ _ _ hin').2 hin
          · have hlt := hs.ltc δ p.block _ hin
            rcases hin' with (hin' | ⟨hin', _⟩) | ⟨hin', _⟩ | hin'
            · exact (hs.cel _ _ _ _ hin).1 hin'
            · omega
            · exact (hs.cel _ _ _ _ hin).2 hin'
            · exact hs.cels _ _ _ _ hin hd hin'
        · rw [hp] at hr; cases hr
end Go.Proofs.Ytkodpijedinanaa.Sim

namespace Go.Proofs.Ytkodpijedinanaa.Sim
open Go Go.Conc
set_option linter.unusedVariables false
set_option linter.unusedSimpArgs false

/-- An operation of the library's bookkeeping. -/
structure Bok (Gp : Blk) (γ : Nat) (op : MemOp) : Prop where
  g : op.g = γ
  on : ∀ x, op.act.touch? = some x → OnG Gp x.loc ∧ x.kind ≠ .plain ∧ (x.kind = .said → γ = 0)
theorem Sep.noMay {A : Hld} {Gp : Blk} {sz lo : Nat} (hs : Sep A Gp sz lo) {γ : Nat} {x : Touch} {p : Addr} (h : May (A γ) x p) : ¬ Gp p.block := fun hg => by
  rcases h with h | ⟨h, _⟩ | h
  · exact hs.gown _ _ hg h
  · exact hs.gsh _ _ hg h
  · exact hs.gcel _ _ _ hg h
theorem TInv.book {t u : Trace} {A : Hld} {Gp : Blk} {sz n lo : Nat} {live : Nat → Prop} (h : TInv t A Gp sz n live) (hs : Sep A Gp sz lo) {γ : Nat} (hγ : γ = 0 ∨ live γ ∨ ∀ op ∈ u, op.act.touch? = none) (hn : γ < n)
    (hu : ∀ op ∈ u, Bok Gp γ op) : TInv (t ++ u) A Gp sz n live := by
  refine ⟨fun said => noRace_append (g := γ) (h.clean said) (fun op hop => (hu op hop).g) fun i a ha op hop b hb hc => ?_, lim_app h.lim (fun op hop => (hu op hop).g) hn, ?_, ?_, ?_, ?_⟩
  · obtain ⟨h1, h2, h3⟩ := (hu op hop).on b hb
    exact h.quiet.known h1 h2 h3 i a ha hc
  · intro i x hx
    rcases touchAt_cases hx with ⟨_, hx⟩ | ⟨_, op, hop, _, hx⟩
    · exact h.low i x hx
    · obtain ⟨⟨p, hp, hG⟩, _⟩ := (hu op hop).on x hx
      exact .inl ⟨p, hp, hs.ltg _ hG⟩
  · refine h.quiet.app fun op hop x hx _ => ?_
    obtain ⟨_, h2, h3⟩ := (hu op hop).on x hx
    exact ⟨h2, fun e => (hu op hop).g.trans (h3 e)⟩
  · intro δ i x p hx hp hin
    rcases touchAt_cases hx with ⟨_, hx⟩ | ⟨_, op, hop, _, hx⟩
    · exact (h.know δ i x p hx hp hin).app _
    · obtain ⟨⟨q, hq, hG⟩, _⟩ := (hu op hop).on x hx
      rw [hp] at hq; cases hq
      exact absurd hG (hs.noMay hin)
  · rcases hγ with hγ | hγ | hγ
    · exact knows_cases (n := n) h.done (fun op hop => (hu op hop).g) (.inl hγ)
    · exact knows_cases (n := n) h.done (fun op hop => (hu op hop).g) (.inr hγ)
    · intro i op x hop hx
      rcases getElem?_append_cases hop with ⟨hi, hop'⟩ | ⟨_, hu'⟩
      · rcases h.done i op x hop' hx with h1 | h1 | h1 | ⟨h1, h2⟩
        · exact .inl h1
        · exact .inr (.inl (h1.app _))
        · exact .inr (.inr (.inl h1))
        · exact .inr (.inr (.inr ⟨fun hc => h1 ((counts_old hi).1 hc), h2⟩))
      · rw [hγ op hu'] at hx; cases hx
/-- Less is held. -/
theorem TInv.less {t : Trace} {A A' : Hld} {Gp : Blk} {sz n : Nat} {live : Nat → Prop} (h : TInv t A Gp sz n live) (hA : ∀ γ x p, May (A' γ) x p → May (A γ) x p) : TInv t A' Gp sz n live :=
  ⟨h.clean, h.lim, h.low, h.quiet, fun γ i x p hx hp hin => h.know γ i x p hx hp (hA γ x p hin), h.done⟩
theorem TInv.larger {t : Trace} {A : Hld} {Gp : Blk} {sz sz' n : Nat} {live : Nat → Prop} (h : TInv t A Gp sz n live) (hl : sz ≤ sz') : TInv t A Gp sz' n live := by
  refine ⟨h.clean, h.lim, fun i x hx => ?_, h.quiet, h.know, h.done⟩
  rcases h.low i x hx with ⟨p, hp, hlt⟩ | hr
  · exact .inl ⟨p, hp, by omega⟩
  · exact .inr hr
/-- A block that nobody has touched yet is a group from here on. -/
theorem TInv.group {t : Trace} {A : Hld} {Gp : Blk} {sz n : Nat} {live : Nat → Prop} (h : TInv t A Gp sz n live) {b : Nat} (hb : sz ≤ b) : TInv t A (fun x => Gp x ∨ x = b) (b + 1) n live := by
  refine ⟨h.clean, h.lim, (h.larger (Nat.le_succ_of_le hb)).low, fun i op x hop hx hG => ?_, h.know, fun i op x hop hx => ?_⟩
  · obtain ⟨p, hp, hG | hG⟩ := hG
    · exact h.quiet i op x hop hx ⟨p, hp, hG⟩
    · exfalso
      rcases h.low i x (by rw [touchAt_of hop]; exact hx) with ⟨q, hq, hlt⟩ | ⟨r, hr, _⟩
      · rw [hp] at hq; cases hq; omega
      · rw [hp] at hr; cases hr
  · rcases h.done i op x hop hx with h1 | h1 | h1 | ⟨h1, p, hp, hG⟩
    · exact .inl h1
    · exact .inr (.inl h1)
    · exact .inr (.inr (.inl h1))
    · exact .inr (.inr (.inr ⟨h1, p, hp, .inl hG⟩))
/-- A go statement. -/
theorem TInv.spawn {t : Trace} {A A' : Hld} {Gp : Blk} {sz n : Nat} {live : Nat → Prop} (h : TInv t A Gp sz n live) (hn : n ≠ 0) (h0 : Deaf t 0 = 0) (hA : ∀ γ x p, γ ≠ n → May (A' γ) x p → May (A γ) x p) (hc : ∀ x p, May (A' n) x p → May (A 0) x p) {fn fn' : FuncId} {pos : String} :
    TInv (t ++ (#[{ g := 0, fn := fn, pos := pos, act := .go n }, { g := n, fn := fn', pos := pos, act := .start }] : Trace)) A' Gp sz (n + 1) (fun γ => live γ ∨ γ = n) := by
  have hno : ∀ op ∈ (#[{ g := 0, fn := fn, pos := pos, act := .go n }, { g := n, fn := fn', pos := pos, act := .start }] : Trace), op.act.touch? = none := fun op hop => by
    simp only [List.mem_toArray, List.mem_cons, List.not_mem_nil, or_false] at hop
    rcases hop with rfl | rfl <;> rfl
  have hdn : Deaf t n = 0 := ConcN.Deaf_absent fun i op hi e => by have := h.lim i op hi; omega
  have hold : ∀ i x, touchAt (t ++ (#[{ g := 0, fn := fn, pos := pos, act := .go n }, { g := n, fn := fn', pos := pos, act := .start }] : Trace)) i = some x → touchAt t i = some x := fun i x hx => by
    rcases touchAt_cases hx with ⟨_, hx⟩ | ⟨_, op, hop, _, hx⟩
    · exact hx
    · rw [hno op hop] at hx; cases hx
  refine ⟨fun said => ?_, fun i op hop => ?_, fun i x hx => h.low i x (hold i x hx), h.quiet.app fun op hop x hx => ?_, ?_, ?_⟩
  · rintro ⟨i, j, hij, ⟨a, b, ha, hb, hc⟩, n1, n2⟩
    exact h.clean said ⟨i, j, hij, ⟨a, b, hold i a ha, hold j b hb, hc⟩, fun e => n1 (hb_app _ e), fun e => n2 (hb_app _ e)⟩
  · rcases getElem?_append_cases hop with ⟨_, hop'⟩ | ⟨_, hu⟩
    · have := h.lim i op hop'; omega
    · simp only [List.mem_toArray, List.mem_cons, List.not_mem_nil, or_false] at hu
      rcases hu with rfl | rfl
      · exact Nat.succ_pos n
      · exact Nat.lt_succ_self n
  · rw [hno op hop] at hx; cases hx
  · intro δ i x p hx hp hin
    have hx1 := hold i x hx
    by_cases hd : δ = n
    · subst hd
      exact ConcN.fork_knows ⟨rfl, rfl⟩ ⟨rfl, rfl⟩ h0 hdn (h.know 0 i x p hx1 hp (hc x p hin))
    · exact (h.know δ i x p hx1 hp (hA δ x p hd hin)).app _
  · intro i op x hop hx
    rcases getElem?_append_cases hop with ⟨hi, hop'⟩ | ⟨_, hu⟩
    · rcases h.done i op x hop' hx with h1 | h1 | h1 | ⟨h1, h2⟩
      · exact .inl h1
      · exact .inr (.inl (h1.app _))
      · exact .inr (.inr (.inl (.inl h1)))
      · exact .inr (.inr (.inr ⟨fun hc => h1 ((counts_old hi).1 hc), h2⟩))
    · rw [hno op hu] at hx; cases hx
/-- Goroutine γ has said its release of a; what it has touched since is the group's, and does not count; no plain release since. -/
structure RelX (Gp : Blk) (a : Addr) (t : Trace) (γ r : Nat) : Prop where
  by' : ConcN.RelBy a t γ r
  on : ∀ i op x, r < i → t[i]? = some op → op.g = γ → op.act.touch? = some x → OnG Gp x.loc
  nr : ∀ k, r < k → t.act? k ≠ some (.mark (.release a))
theorem nr_app {t u : Trace} {a : Addr} {r : Nat} (h : ∀ k, r < k → t.act? k ≠ some (.mark (.release a))) (hu : ∀ op ∈ u, op.act ≠ .mark (.release a)) : ∀ k, r < k → (t ++ u).act? k ≠ some (.mark (.release a)) := fun k hk he => by
  obtain ⟨op, hop, hoa⟩ := Option.map_eq_some_iff.1 he
  rcases getElem?_append_cases hop with ⟨_, hop'⟩ | ⟨_, hu'⟩
  · exact h k hk (by rw [act?_of hop', hoa])
  · exact hu op hu' hoa
theorem RelX.appOther {Gp : Blk} {a : Addr} {t u : Trace} {γ r g : Nat} (h : RelX Gp a t γ r) (hu : ∀ op ∈ u, op.g = g) (hg : g ≠ γ) (hn : ∀ op ∈ u, op.act ≠ .mark (.release a)) : RelX Gp a (t ++ u) γ r :=
  ⟨h.by'.appOther hu hg, fun i op x hi hop hgo hx => (by
    rcases getElem?_append_cases hop with ⟨_, hop'⟩ | ⟨_, hu'⟩
    · exact h.on i op x hi hop' hgo hx
    · exact absurd ((hu op hu').symm.trans hgo) hg), nr_app h.nr hn⟩
theorem RelX.two {Gp : Blk} {a : Addr} {t : Trace} {γ r n : Nat} {fn fn' : FuncId} {pos : String} (h : RelX Gp a t γ r) (h0 : γ ≠ 0) (hn : γ ≠ n) : RelX Gp a (t ++ (#[{ g := 0, fn := fn, pos := pos, act := .go n }, { g := n, fn := fn', pos := pos, act := .start }] : Trace)) γ r := by
  have e : t ++ (#[{ g := 0, fn := fn, pos := pos, act := .go n }, { g := n, fn := fn', pos := pos, act := .start }] : Trace) = (t ++ #[{ g := 0, fn := fn, pos := pos, act := .go n }]) ++ #[{ g := n, fn := fn', pos := pos, act := .start }] := by apply Array.ext'; simp
  rw [e]
  refine RelX.appOther (g := n) (RelX.appOther (g := 0) h (fun op hop => ?_) (fun e => h0 e.symm) fun op hop => ?_) (fun op hop => ?_) (fun e => hn e.symm) fun op hop => ?_ <;> (simp at hop; rw [hop]; try simp)
theorem RelX.grp {Gp Gp' : Blk} {a : Addr} {t : Trace} {γ r : Nat} (h : RelX Gp a t γ r) (hG : ∀ b, Gp b → Gp' b) : RelX Gp' a t γ r :=
  ⟨h.by', fun i op x hi hop hgo hx => let ⟨p, hp, hg⟩ := h.on i op x hi hop hgo hx; ⟨p, hp, hG _ hg⟩, h.nr⟩
theorem RelX.new {Gp : Blk} {a : Addr} {t : Trace} {γ : Nat} (hd : Deaf t γ = 0) (fn : FuncId) (pos : String) : RelX Gp a (t ++ MemOp.ofEvents γ fn pos #[Go.ConcR.mk (.releaseMerge a)]) γ t.size := by
  refine ⟨.new hd fn pos, fun i op x hi hop hgo hx => ?_, fun k hk he => ?_⟩
  · have := lt_size_of_getElem? hop
    simp [ofEvents_eq] at this
    omega
  · have := lt_of_act? he
    simp [ofEvents_eq] at this
    omega
theorem RelX.own {Gp : Blk} {a : Addr} {t : Trace} {γ r d Wg : Nat} (h : RelX Gp a t γ r) (hdk : Deaf t γ = d) (fn : FuncId) (pos : String) {es : Array Event} (hG : Gp Wg) (ha : a = ConcR.stA Wg) (hes : ∀ e ∈ es, ConcR.Bk Wg e)
    (hd : ∀ j e, es[j]? = some e → (MemAct.ofEvent e).touch? = none ∨ 0 < deafBehind d (es.extract 0 j)) : RelX Gp a (t ++ MemOp.ofEvents γ fn pos es) γ r := by
  refine ⟨h.by'.book hdk fn pos hes hd, fun i op x hi hop hgo hx => ?_, nr_app h.nr fun op hop => ?_⟩
  · rcases getElem?_append_cases hop with ⟨_, hop'⟩ | ⟨_, hu'⟩
    · exact h.on i op x hi hop' hgo hx
    · obtain ⟨e, he, rfl⟩ := ofEvents_mem hu'
      rcases hes e he with h1 | h1 | ⟨a, wr, rfl, ha⟩
      · simp only [ConcR.ofEvent_loc_mark h1] at hx; cases hx
      · simp only [ConcR.ofEvent_loc_mark h1] at hx; cases hx
      · simp only [ConcR.ofEvent_cell, MemAct.touch?, Option.some.injEq] at hx
        subst hx
        exact ⟨a, rfl, ha ▸ hG⟩
  · subst ha
    exact ConcN.norel_of (ConcN.norel_of_Bk hes) op hop
/-- The join: main says acquire, hearing, behind every release. -/
theorem TInv.join {t : Trace} {A A' : Hld} {Gp : Blk} {sz n : Nat} {live : Nat → Prop} {a : Addr} (h : TInv t A Gp sz n live) (hn : 0 < n) (h0 : Deaf t 0 = 0) (hrel : ∀ γ, live γ → ∃ r, RelX Gp a t γ r)
    (hA : ∀ γ x p, May (A' γ) x p → γ = 0 ∧ ¬ Gp p.block) (fn : FuncId) (pos : String) :
    TInv (t ++ MemOp.ofEvents 0 fn pos #[Go.ConcR.mk (.acquire a)]) A' Gp sz n (fun _ => False) := by
  have e1 : MemOp.ofEvents 0 fn pos #[Go.ConcR.mk (.acquire a)] = #[{ g := 0, fn, pos, act := .mark (.acquire a) }] := by rw [ofEvents_eq]; simp [ConcR.ofEvent_mk]
  have hy : (t ++ #[({ g := 0, fn, pos, act := .mark (.acquire a) } : MemOp)])[t.size]? = some { g := 0, fn, pos, act := .mark (.acquire a) } := by simp
  rw [e1]
  have hno : ∀ op ∈ (#[{ g := 0, fn, pos, act := .mark (.acquire a) }] : Trace), op = { g := 0, fn, pos, act := .mark (.acquire a) } := fun op hop => by simpa using hop
  have hold : ∀ i x, touchAt (t ++ (#[{ g := 0, fn, pos, act := .mark (.acquire a) }] : Trace)) i = some x → i < t.size ∧ touchAt t i = some x := fun i x hx => by
    rcases touchAt_cases hx with hx | ⟨_, op, hop, _, hx⟩
    · exact hx
    · rw [hno op hop] at hx; cases hx
  have hnr : ∀ γ r, RelX Gp a t γ r → ∀ k, r < k → (t ++ (#[{ g := 0, fn, pos, act := .mark (.acquire a) }] : Trace)).act? k ≠ some (.mark (.release a)) := fun γ r hr => nr_app hr.nr fun op hop e => by rw [hno op hop] at e; cases e
  have hq : (t ++ (#[{ g := 0, fn, pos, act := .mark (.acquire a) }] : Trace)).act? t.size = some (.mark (.acquire a)) := by rw [act?_of hy]
  have hgq : (t ++ (#[{ g := 0, fn, pos, act := .mark (.acquire a) }] : Trace)).g? t.size = some 0 := by simp [Trace.g?]
  have hh : (t ++ (#[{ g := 0, fn, pos, act := .mark (.acquire a) }] : Trace)).heard t.size := ⟨0, hgq, by rw [deaf_old (Nat.le_refl _)]; exact h0⟩
  -- what a released one did ahead of its release
  have hrl : ∀ γ r i op, RelX Gp a t γ r → t[i]? = some op → op.g = γ → i ≤ r → Knows (t ++ (#[{ g := 0, fn, pos, act := .mark (.acquire a) }] : Trace)) 0 i := fun γ r i op hr hop hgo hle => by
    have hr1 : r < t.size := lt_of_act? hr.by'.act
    have hi1 := lt_size_of_getElem? hop
    have edge : HappensBefore (t ++ (#[{ g := 0, fn, pos, act := .mark (.acquire a) }] : Trace)) r t.size :=
      .single (.inr ⟨.marked hr1 (.inr (by rw [act?_old hr1]; exact hr.by'.act)) hq (fun k hk _ => hnr γ r hr k hk), (heard_old hr1).2 hr.by'.heard, hh⟩)
    refine ⟨t.size, _, hy, rfl, .inr ?_⟩
    rcases Nat.lt_or_ge i r with hlt | hge
    · refine .trans (.single (.inl ⟨hlt, γ, ?_, ?_⟩)) edge
      · rw [g?_old hi1]; simp [Trace.g?, hop, hgo]
      · rw [g?_old hr1]; exact hr.by'.g
    · obtain rfl : i = r := by omega
      exact edge
  refine ⟨fun said => ?_, ?_, fun i x hx => h.low i x (hold i x hx).2, h.quiet.app fun op hop x hx => ?_, ?_, ?_⟩
  · rintro ⟨i, j, hij, ⟨a, b, ha, hb, hc⟩, n1, n2⟩
    exact h.clean said ⟨i, j, hij, ⟨a, b, (hold i a ha).2, (hold j b hb).2, hc⟩, fun e => n1 (hb_app _ e), fun e => n2 (hb_app _ e)⟩
  · exact lim_app (γ := 0) h.lim (fun op hop => by rw [hno op hop]) hn
  · rw [hno op hop] at hx; cases hx
  · intro δ i x p hx hp hin
    obtain ⟨rfl, hG⟩ := hA δ x p hin
    obtain ⟨hi, hx1⟩ := hold i x hx
    obtain ⟨op, hop, hox⟩ := touch_of hx1
    rcases h.done i op x hop hox with h1 | h1 | h1 | ⟨h1, q, hq', hG'⟩
    · have := knows_own hop
      rw [h1] at this
      exact this.app _
    · exact h1.app _
    · obtain ⟨r, hr⟩ := hrel _ h1
      rcases Nat.lt_or_ge r i with hlt | hge
      · obtain ⟨q, hq', hG'⟩ := hr.on i op x hlt hop rfl hox
        rw [hp] at hq'; cases hq'
        exact absurd hG' hG
      · exact hrl _ r i op hr hop rfl hge
    · rw [hp] at hq'; cases hq'
      exact absurd hG' hG
  · intro i op x hop hx
    rcases getElem?_append_cases hop with ⟨hi, hop'⟩ | ⟨_, hu⟩
    · rcases h.done i op x hop' hx with h1 | h1 | h1 | ⟨h1, h2⟩
      · exact .inl h1
      · exact .inr (.inl (h1.app _))
      · obtain ⟨r, hr⟩ := hrel _ h1
        rcases Nat.lt_or_ge r i with hlt | hge
        · refine .inr (.inr (.inr ⟨fun hc => hr.by'.after i hlt (by simp [Trace.g?, hop']) ((counts_old hi).1 hc), hr.on i op x hlt hop' rfl hx⟩))
        · exact .inr (.inl (hrl _ r i op hr hop' rfl hge))
      · exact .inr (.inr (.inr ⟨fun hc => h1 ((counts_old hi).1 hc), h2⟩))
    · rw [hno op hu] at hx; cases hx
theorem TInv.handed {t : Trace} {A : Hld} {Gp : Blk} {sz n : Nat} {live : Nat → Prop} (h : TInv t A Gp sz n live) (hl : ∀ γ, ¬ live γ) : t.HandedOver := by
  intro i g hg hne hc
  obtain ⟨x, hx, hmem, _⟩ := id hc
  obtain ⟨op, hop, hox⟩ := touch_of hx
  have hgo : op.g = g := by simpa [Trace.g?, hop] using hg
  rcases h.done i op x hop hox with h1 | h1 | h1 | ⟨h1, _⟩
  · exact absurd (hgo.symm.trans h1) hne
  · obtain ⟨q, z, h2, h3, h4⟩ := h1
    rcases h4 with rfl | h4
    · rw [hop] at h2; cases h2; exact absurd (hgo.symm.trans h3) hne
    · exact ⟨q, by simp [Trace.g?, h2, h3], h4⟩
  · exact absurd h1 (hl _)
  · exact absurd hc h1
end Go.Proofs.Ytkodpijedinanaa.Sim

namespace Go.Proofs.Ytkodpijedinanaa.Sim
open Go Go.Conc
set_option linter.unusedVariables false
set_option linter.unusedSimpArgs false

theorem setA_cases {A : Hld} {γ δ : Nat} {h : Blk × Shd} {Q : Blk × Shd → Prop} (hq : Q (setA A γ h δ)) : (δ = γ ∧ Q h) ∨ (δ ≠ γ ∧ Q (A δ)) := by
  by_cases e : δ = γ
  · subst e; rw [setA_same] at hq; exact .inl ⟨rfl, hq⟩
  · rw [setA_ne _ _ e] at hq; exact .inr ⟨e, hq⟩
/-- A step of one's own: more is one's own. -/
theorem Sep.map {A A' : Hld} {Gp : Blk} {sz sz' lo : Nat} (hs : Sep A Gp sz lo) (hz : sz ≤ sz') (hlo : lo ≤ sz) (γ0 : Nat) (o : ∀ γ b, (A' γ).1 b → (A γ).1 b ∨ (γ = γ0 ∧ sz ≤ b ∧ b < sz')) (s : ∀ γ, (A' γ).2 = (A γ).2) : Sep A' Gp sz' lo where
  own := fun γ δ b h1 hne h2 => by
    rcases o _ _ h1 with h1 | ⟨e1, h1, _⟩ <;> rcases o _ _ h2 with h2 | ⟨e2, h2, _⟩
    · exact hs.own _ _ _ h1 hne h2
    · have := hs.lt _ _ (.inl h1); omega
    · have := hs.lt _ _ (.inl h2); omega
    · exact hne (e1.trans e2.symm)
  sh := fun γ δ b h1 h2 => by
    rw [s] at h2
    rcases o _ _ h1 with h1 | ⟨_, h1, _⟩
    · exact hs.sh _ _ _ h1 h2
    · have := hs.lt _ _ (.inr h2); omega
  cel := fun γ δ b i h1 => by
    rw [s] at h1
    refine ⟨fun h2 => ?_, fun h2 => ?_⟩
    · rcases o _ _ h2 with h2 | ⟨_, h2, _⟩
      · exact (hs.cel _ _ _ _ h1).1 h2
      · have := hs.ltc _ _ _ h1; omega
    · rw [s] at h2; exact (hs.cel _ _ _ _ h1).2 h2
  cels := fun γ δ b i h1 hne h2 => by rw [s] at h1 h2; exact hs.cels _ _ _ _ h1 hne h2
  gown := fun γ b hg h1 => by
    rcases o _ _ h1 with h1 | ⟨_, h1, _⟩
    · exact hs.gown _ _ hg h1
    · have := hs.ltg _ hg; omega
  gsh := fun γ b hg h1 => by rw [s] at h1; exact hs.gsh _ _ hg h1
  gcel := fun γ b i hg h1 => by rw [s] at h1; exact hs.gcel _ _ _ hg h1
  grp := fun γ b h1 => by rw [s] at h1; exact hs.grp _ _ h1
  lt := fun γ b h1 => by
    rcases h1 with h1 | h1
    · rcases o _ _ h1 with h1 | ⟨_, _, h1⟩
      · have := hs.lt _ _ (.inl h1); omega
      · exact h1
    · rw [s] at h1; have := hs.lt _ _ (.inr h1); omega
  ltc := fun γ b i h1 => by rw [s] at h1; have := hs.ltc _ _ _ h1; omega
  ltg := fun b hg => by have := hs.ltg _ hg; omega
  los := fun γ b h1 => by
    rcases o _ _ h1 with h1 | ⟨_, h1, _⟩
    · exact hs.los _ _ h1
    · omega
  loc := fun γ b i h1 => by rw [s] at h1; exact hs.loc _ _ _ h1
  log := hs.log
theorem Sep.grow {A : Hld} {Gp : Blk} {lo : Nat} {w w' : World} (hs : Sep A Gp w.heap.size lo) (γ : Nat) (hz : w.heap.size ≤ w'.heap.size) (hlo : lo ≤ w.heap.size) : Sep (setA A γ (Grow (A γ).1 w w', (A γ).2)) Gp w'.heap.size lo := by
  refine hs.map hz hlo γ (fun δ b h => ?_) fun δ => ?_
  · rcases setA_cases (Q := fun x => x.1 b) h with ⟨rfl, h | ⟨h1, h2⟩⟩ | ⟨_, h⟩
    · exact .inl h
    · exact .inr ⟨rfl, h1, h2⟩
    · exact .inl h
  · by_cases e : δ = γ
    · subst e; rw [setA_same]
    · rw [setA_ne _ _ e]
/-- What is main's is parted anew. -/
theorem Sep.part {A : Hld} {Gp : Blk} {sz lo : Nat} (hs : Sep A Gp sz lo) {h' : Blk × Shd} (o : ∀ b, h'.1 b → (A 0).1 b) (r : ∀ b, h'.2 b → (A 0).2 b ∨ (A 0).1 b) (c : ∀ b i, h'.2.cel b i → (A 0).2.cel b i ∨ (A 0).1 b) (g : ∀ b, h'.2.grp b → Gp b)
    (d1 : ∀ b, h'.1 b → ¬ h'.2 b) (d2 : ∀ b i, h'.2.cel b i → ¬ h'.1 b ∧ ¬ h'.2 b) : Sep (setA A 0 h') Gp sz lo where
  own := fun γ δ b h1 hne h2 => by
    rcases setA_cases (Q := fun x => x.1 b) h1 with ⟨rfl, h1⟩ | ⟨n1, h1⟩ <;> rcases setA_cases (Q := fun x => x.1 b) h2 with ⟨rfl, h2⟩ | ⟨n2, h2⟩
    · exact hne rfl
    · exact hs.own _ _ _ (o _ h1) hne h2
    · exact hs.own _ _ _ h1 hne (o _ h2)
    · exact hs.own _ _ _ h1 hne h2
  sh := fun γ δ b h1 h2 => by
    rcases setA_cases (Q := fun x => x.1 b) h1 with ⟨rfl, h1⟩ | ⟨n1, h1⟩ <;> rcases setA_cases (Q := fun x => x.2 b) h2 with ⟨rfl, h2⟩ | ⟨n2, h2⟩
    · exact d1 _ h1 h2
    · exact hs.sh _ _ _ (o _ h1) h2
    · rcases r _ h2 with h2 | h2
      · exact hs.sh _ _ _ h1 h2
      · exact hs.own _ _ _ h1 n1 h2
    · exact hs.sh _ _ _ h1 h2
  cel := fun γ δ b i h1 => by
    refine ⟨fun h2 => ?_, fun h2 => ?_⟩
    · rcases setA_cases (Q := fun x => x.2.cel b i) h1 with ⟨rfl, h1⟩ | ⟨n1, h1⟩ <;> rcases setA_cases (Q := fun x => x.1 b) h2 with ⟨rfl, h2⟩ | ⟨n2, h2⟩
      · exact (d2 _ _ h1).1 h2
      · rcases c _ _ h1 with h1 | h1
        · exact (hs.cel _ _ _ _ h1).1 h2
        · exact hs.own _ _ _ h1 (fun e => n2 e.symm) h2
      · exact (hs.cel _ _ _ _ h1).1 (o _ h2)
      · exact (hs.cel _ _ _ _ h1).1 h2
    · rcases setA_cases (Q := fun x => x.2.cel b i) h1 with ⟨rfl, h1⟩ | ⟨n1, h1⟩ <;> rcases setA_cases (Q := fun x => x.2 b) h2 with ⟨rfl, h2⟩ | ⟨n2, h2⟩
      · exact (d2 _ _ h1).2 h2
      · rcases c _ _ h1 with h1 | h1
        · exact (hs.cel _ _ _ _ h1).2 h2
        · exact hs.sh _ _ _ h1 h2
      · rcases r _ h2 with h2 | h2
        · exact (hs.cel _ _ _ _ h1).2 h2
        · exact (hs.cel _ _ _ _ h1).1 h2
      · exact (hs.cel _ _ _ _ h1).2 h2
  cels := fun γ δ b i h1 hne h2 => by
    rcases setA_cases (Q := fun x => x.2.cel b i) h1 with ⟨rfl, h1⟩ | ⟨n1, h1⟩ <;> rcases setA_cases (Q := fun x => x.2.cel b i) h2 with ⟨rfl, h2⟩ | ⟨n2, h2⟩
    · exact hne rfl
    · rcases c _ _ h1 with h1 | h1
      · exact hs.cels _ _ _ _ h1 hne h2
      · exact (hs.cel _ _ _ _ h2).1 h1
    · rcases c _ _ h2 with h2 | h2
      · exact hs.cels _ _ _ _ h1 hne h2
      · exact (hs.cel _ _ _ _ h1).1 h2
    · exact hs.cels _ _ _ _ h1 hne h2
  gown := fun γ b hg h1 => by
    rcases setA_cases (Q := fun x => x.1 b) h1 with ⟨rfl, h1⟩ | ⟨n1, h1⟩
    · exact hs.gown _ _ hg (o _ h1)
    · exact hs.gown _ _ hg h1
  gsh := fun γ b hg h1 => by
    rcases setA_cases (Q := fun x => x.2 b) h1 with ⟨rfl, h1⟩ | ⟨n1, h1⟩
    · rcases r _ h1 with h1 | h1
      · exact hs.gsh _ _ hg h1
      · exact hs.gown _ _ hg h1
    · exact hs.gsh _ _ hg h1
  gcel := fun γ b i hg h1 => by
    rcases setA_cases (Q := fun x => x.2.cel b i) h1 with ⟨rfl, h1⟩ | ⟨n1, h1⟩
    · rcases c _ _ h1 with h1 | h1
      · exact hs.gcel _ _ _ hg h1
      · exact hs.gown _ _ hg h1
    · exact hs.gcel _ _ _ hg h1
  grp := fun γ b h1 => by
    rcases setA_cases (Q := fun x => x.2.grp b) h1 with ⟨rfl, h1⟩ | ⟨n1, h1⟩
    · exact g _ h1
    · exact hs.grp _ _ h1
  lt := fun γ b h1 => by
    rcases setA_cases (Q := fun x => x.1 b ∨ x.2 b) h1 with ⟨rfl, h1 | h1⟩ | ⟨n1, h1⟩
    · exact hs.lt 0 _ (.inl (o _ h1))
    · exact hs.lt 0 _ (r _ h1).symm
    · exact hs.lt _ _ h1
  ltc := fun γ b i h1 => by
    rcases setA_cases (Q := fun x => x.2.cel b i) h1 with ⟨rfl, h1⟩ | ⟨n1, h1⟩
    · rcases c _ _ h1 with h1 | h1
      · exact hs.ltc _ _ _ h1
      · exact hs.lt 0 _ (.inl h1)
    · exact hs.ltc _ _ _ h1
  ltg := hs.ltg
  los := fun γ b h1 => by
    rcases setA_cases (Q := fun x => x.1 b) h1 with ⟨rfl, h1⟩ | ⟨n1, h1⟩
    · exact hs.los _ _ (o _ h1)
    · exact hs.los _ _ h1
  loc := fun γ b i h1 => by
    rcases setA_cases (Q := fun x => x.2.cel b i) h1 with ⟨rfl, h1⟩ | ⟨n1, h1⟩
    · rcases c _ _ h1 with h1 | h1
      · exact hs.loc _ _ _ h1
      · exact hs.los _ _ h1
    · exact hs.loc _ _ _ h1
  log := hs.log
/-- What a started goroutine takes along: cells of main's, blocks to read. -/
structure Takes (Sh Sc Sh' : Shd) : Prop where
  rd : ∀ b, Sc b → Sh b
  cel : ∀ b i, Sc.cel b i → Sh.cel b i
  grp : ∀ b, Sc.grp b → Sh.grp b
  rd' : ∀ b, Sh' b → Sh b
  cel' : ∀ b i, Sh'.cel b i → Sh.cel b i ∧ ¬ Sc.cel b i
  grp' : ∀ b, Sh'.grp b → Sh.grp b
theorem Sep.spawn {A : Hld} {Gp : Blk} {sz lo n : Nat} {Sc Sh' : Shd} (hs : Sep A Gp sz lo) (hn : n ≠ 0) (ht : Takes (A 0).2 Sc Sh') : Sep (setA (setA A 0 ((A 0).1, Sh')) n (fun _ => False, Sc)) Gp sz lo := by
  have o : ∀ γ b, (setA (setA A 0 ((A 0).1, Sh')) n (fun _ => False, Sc) γ).1 b → (A γ).1 b := fun γ b h => by
    rcases setA_cases (Q := fun x => x.1 b) h with ⟨rfl, k⟩ | ⟨_, k⟩
    · exact k.elim
    · rcases setA_cases (Q := fun x => x.1 b) k with ⟨rfl, k2⟩ | ⟨_, k2⟩ <;> exact k2
  have r : ∀ γ b, (setA (setA A 0 ((A 0).1, Sh')) n (fun _ => False, Sc) γ).2 b → ∃ δ, (A δ).2 b := fun γ b h => by
    rcases setA_cases (Q := fun x => x.2 b) h with ⟨rfl, k⟩ | ⟨_, k⟩
    · exact ⟨0, ht.rd _ k⟩
    · rcases setA_cases (Q := fun x => x.2 b) k with ⟨rfl, k2⟩ | ⟨_, k2⟩
      · exact ⟨0, ht.rd' _ k2⟩
      · exact ⟨_, k2⟩
  have c : ∀ γ b i, (setA (setA A 0 ((A 0).1, Sh')) n (fun _ => False, Sc) γ).2.cel b i → ∃ δ, (A δ).2.cel b i ∧ ((γ = n ∧ δ = 0 ∧ Sc.cel b i) ∨ (γ ≠ n ∧ δ = γ ∧ (γ = 0 → ¬ Sc.cel b i))) := fun γ b i h => by
    rcases setA_cases (Q := fun x => x.2.cel b i) h with ⟨rfl, k⟩ | ⟨e, k⟩
    · exact ⟨0, ht.cel _ _ k, .inl ⟨rfl, rfl, k⟩⟩
    · rcases setA_cases (Q := fun x => x.2.cel b i) k with ⟨rfl, k2⟩ | ⟨e', k2⟩
      · exact ⟨0, (ht.cel' _ _ k2).1, .inr ⟨e, rfl, fun _ => (ht.cel' _ _ k2).2⟩⟩
      · exact ⟨γ, k2, .inr ⟨e, rfl, fun e2 => absurd e2 e'⟩⟩
  refine ⟨fun γ δ b h1 hne h2 => hs.own _ _ _ (o _ _ h1) hne (o _ _ h2), fun γ δ b h1 h2 => ?_, fun γ δ b i h1 => ?_, fun γ δ b i h1 hne h2 => ?_, fun γ b hg h1 => hs.gown _ _ hg (o _ _ h1), fun γ b hg h1 => ?_, fun γ b i hg h1 => ?_, fun γ b h1 => ?_, fun γ b h1 => ?_, fun γ b i h1 => ?_, hs.ltg, fun γ b h1 => hs.los _ _ (o _ _ h1), fun γ b i h1 => ?_, hs.log⟩
  · obtain ⟨δ', h2⟩ := r _ _ h2
    exact hs.sh _ _ _ (o _ _ h1) h2
  · obtain ⟨γ', h1, _⟩ := c _ _ _ h1
    refine ⟨fun h2 => (hs.cel _ _ _ _ h1).1 (o _ _ h2), fun h2 => ?_⟩
    obtain ⟨δ', h2⟩ := r _ _ h2
    exact (hs.cel _ _ _ _ h1).2 h2
  · obtain ⟨γ', q1, k1⟩ := c _ _ _ h1
    obtain ⟨δ', q2, k2⟩ := c _ _ _ h2
    clear h1 h2
    rcases k1 with ⟨e1, f1, c1⟩ | ⟨e1, f1, c1⟩ <;> rcases k2 with ⟨e2, f2, c2⟩ | ⟨e2, f2, c2⟩
    · exact hne (e1.trans e2.symm)
    · by_cases e : δ = 0
      · exact c2 e c1
      · exact hs.cels _ _ _ _ q1 (fun e' => e (f2.symm.trans (e'.symm.trans f1))) q2
    · by_cases e : γ = 0
      · exact c1 e c2
      · exact hs.cels _ _ _ _ q1 (fun e' => e (f1.symm.trans (e'.trans f2))) q2
    · exact hs.cels _ _ _ _ q1 (fun e' => hne (f1.symm.trans (e'.trans f2))) q2
  · obtain ⟨δ', h1⟩ := r _ _ h1
    exact hs.gsh _ _ hg h1
  · obtain ⟨γ', h1, _⟩ := c _ _ _ h1
    exact hs.gcel _ _ _ hg h1
  · rcases setA_cases (Q := fun x => x.2.grp b) h1 with ⟨rfl, k⟩ | ⟨e, k⟩
    · exact hs.grp _ _ (ht.grp _ k)
    · rcases setA_cases (Q := fun x => x.2.grp b) k with ⟨rfl, k2⟩ | ⟨e', k2⟩
      · exact hs.grp _ _ (ht.grp' _ k2)
      · exact hs.grp _ _ k2
  · rcases h1 with h1 | h1
    · exact hs.lt _ _ (.inl (o _ _ h1))
    · obtain ⟨δ', h1⟩ := r _ _ h1
      exact hs.lt _ _ (.inr h1)
  · obtain ⟨γ', h1, _⟩ := c _ _ _ h1
    exact hs.ltc _ _ _ h1
  · obtain ⟨γ', h1, _⟩ := c _ _ _ h1
    exact hs.loc _ _ _ h1
/-- A new block is a group. -/
theorem Sep.group {A : Hld} {Gp : Blk} {sz lo b : Nat} (hs : Sep A Gp sz lo) (hlo : lo ≤ sz) (hb : sz ≤ b) : Sep A (fun x => Gp x ∨ x = b) (b + 1) lo := by
  refine ⟨hs.own, hs.sh, hs.cel, hs.cels, fun γ x hg h => ?_, fun γ x hg h => ?_, fun γ x i hg h => ?_, fun γ x h => .inl (hs.grp _ _ h), fun γ x h => ?_, fun γ x i h => ?_, fun x hg => ?_, hs.los, hs.loc, fun x hg => ?_⟩
  · rcases hg with hg | rfl
    · exact hs.gown _ _ hg h
    · have := hs.lt _ _ (.inl h); omega
  · rcases hg with hg | rfl
    · exact hs.gsh _ _ hg h
    · have := hs.lt _ _ (.inr h); omega
  · rcases hg with hg | rfl
    · exact hs.gcel _ _ _ hg h
    · have := hs.ltc _ _ _ h; omega
  · have := hs.lt _ _ h; omega
  · have := hs.ltc _ _ _ h; omega
  · rcases hg with hg | rfl
    · have := hs.ltg _ hg; omega
    · omega
  · rcases hg with hg | rfl
    · exact hs.log _ hg
    · omega
/-- All is main's. -/
theorem Sep.join {A A' : Hld} {Gp : Blk} {sz lo : Nat} (hs : Sep A Gp sz lo) {Own : Blk} {Sh : Shd} (h0 : A' 0 = (Own, Sh)) (h1 : ∀ γ, γ ≠ 0 → A' γ = (fun _ => False, ⟨fun _ => False, fun _ _ => False, fun _ => False⟩))
    (d1 : ∀ b, Own b → ¬ Sh b) (d2 : ∀ b i, Sh.cel b i → ¬ Own b ∧ ¬ Sh b) (g : ∀ b, Sh.grp b → Gp b) (l1 : ∀ b, Own b → lo ≤ b ∧ b < sz ∧ ¬ Gp b) (l2 : ∀ b, Sh b → b < sz ∧ ¬ Gp b) (l3 : ∀ b i, Sh.cel b i → lo ≤ b ∧ b < sz ∧ ¬ Gp b) : Sep A' Gp sz lo := by
  have o : ∀ γ b, (A' γ).1 b → γ = 0 ∧ Own b := fun γ b h => by
    by_cases e : γ = 0
    · subst e; rw [h0] at h; exact ⟨rfl, h⟩
    · rw [h1 _ e] at h; exact h.elim
  have r : ∀ γ b, (A' γ).2 b → γ = 0 ∧ Sh b := fun γ b h => by
    by_cases e : γ = 0
    · subst e; rw [h0] at h; exact ⟨rfl, h⟩
    · rw [h1 _ e] at h; exact h.elim
  have c : ∀ γ b i, (A' γ).2.cel b i → γ = 0 ∧ Sh.cel b i := fun γ b i h => by
    by_cases e : γ = 0
    · subst e; rw [h0] at h; exact ⟨rfl, h⟩
    · rw [h1 _ e] at h; exact h.elim
  refine ⟨fun γ δ b h1 hne h2 => hne ((o _ _ h1).1.trans (o _ _ h2).1.symm), fun γ δ b h1 h2 => d1 _ (o _ _ h1).2 (r _ _ h2).2, fun γ δ b i h1 => ⟨fun h2 => (d2 _ _ (c _ _ _ h1).2).1 (o _ _ h2).2, fun h2 => (d2 _ _ (c _ _ _ h1).2).2 (r _ _ h2).2⟩,
    fun γ δ b i h1 hne h2 => hne ((c _ _ _ h1).1.trans (c _ _ _ h2).1.symm), fun γ b hg h1 => (l1 _ (o _ _ h1).2).2.2 hg, fun γ b hg h1 => (l2 _ (r _ _ h1).2).2 hg, fun γ b i hg h1 => (l3 _ _ (c _ _ _ h1).2).2.2 hg, fun γ b h => ?_, fun γ b h => ?_, fun γ b i h => (l3 _ _ (c _ _ _ h).2).2.1, hs.ltg, fun γ b h => (l1 _ (o _ _ h).2).1, fun γ b i h => (l3 _ _ (c _ _ _ h).2).1, hs.log⟩
  · by_cases e : γ = 0
    · subst e; rw [h0] at h; exact g _ h
    · rw [h1 _ e] at h; exact h.elim
  · rcases h with h | h
    · exact (l1 _ (o _ _ h).2).2.1
    · exact (l2 _ (r _ _ h).2).1
theorem Sep.larger {A : Hld} {Gp : Blk} {sz sz' lo : Nat} (hs : Sep A Gp sz lo) (h : sz ≤ sz') : Sep A Gp sz' lo :=
  ⟨hs.own, hs.sh, hs.cel, hs.cels, hs.gown, hs.gsh, hs.gcel, hs.grp, fun γ b k => Nat.lt_of_lt_of_le (hs.lt γ b k) h, fun γ b i k => Nat.lt_of_lt_of_le (hs.ltc γ b i k) h, fun b k => Nat.lt_of_lt_of_le (hs.ltg b k) h, hs.los, hs.loc, hs.log⟩
end Go.Proofs.Ytkodpijedinanaa.Sim

namespace Go.Proofs.Ytkodpijedinanaa.Sim
open Go Go.Conc
set_option linter.unusedVariables false
set_option linter.unusedSimpArgs false

/-- The rows that the workers write in: rows of lists of entries. -/
instance payW : Go.ConcR.Payload := ⟨35⟩
def NoL : Nat → Loc → Prop := fun _ _ => False
/-- A worker's job: the cell that it writes last, all cells of its, and what it promises. -/
structure Job where
  C : Nat
  i : Nat
  len : Nat
  cel : Nat → Nat → Prop
  pr : Value → World → Blk → Prop
/-- All but one cell. -/
def Shd.but (Sh : Shd) (C i : Nat) : Shd := { Sh with cel := fun b o => Sh.cel b o ∧ ¬ (b = C ∧ o = i) }
abbrev WS (P : Program) (Wg : Nat) (jb : Job) (v : Value) (s m d : Nat) (g : Goroutine) (w : World) : Prop := ConcN.WSit P tyWg Wg jb.C jb.len NoL NoL 0 (jb.i + 1) v s m d g w
structure JobOk (Wg : Nat) (jb : Job) (sh : Shd) (W : World) : Prop where
  cel : ∀ b o, sh.cel b o ↔ jb.cel b o
  mine : jb.cel jb.C jb.i
  grp : sh.grp Wg
  lt : jb.i < jb.len
  pay : ConcN.PayAt jb.C jb.len W
theorem JobOk.rely {Wg : Nat} {jb : Job} {own : Blk} {sh : Shd} {W W1 : World} (h : JobOk Wg jb sh W) (hr : Shaped W W1) : JobOk Wg jb sh W1 := by
  refine ⟨h.cel, h.mine, h.grp, h.lt, ?_⟩
  obtain ⟨cs, h1, h2⟩ := h.pay
  obtain ⟨c', h3, h4⟩ := hr _ _ _ _ h1
  exact ⟨c', h3, h4.trans h2⟩
theorem JobOk.rw {Wg : Nat} {jb : Job} {own : Blk} {sh : Shd} {W W1 : World} (h : JobOk Wg jb sh W) (hr : Rely own sh W W1) : ConcN.RW tyWg Wg jb.C jb.len 0 jb.i W W1 := by
  refine ⟨fun b hb => absurd hb (Nat.not_lt_zero b), hr.grp _ h.grp, fun ⟨cs, h1, h2⟩ => ?_, ?_⟩
  · obtain ⟨c', h3, h4⟩ := hr.shp _ _ _ _ h1
    exact ⟨c', h3, h4.trans h2⟩
  · obtain ⟨cs, h1, h2⟩ := h.pay
    have hv : W.cell? ⟨jb.C, jb.i, none⟩ = some (cs[jb.i]'(by rw [h2]; exact h.lt)) := by
      simp only [World.cell?, h1]
      simp [h2, h.lt]
    rw [hv]
    exact hr.cel _ _ _ ((h.cel _ _).2 h.mine) hv
theorem Rely.but {own : Blk} {sh : Shd} {W W1 : World} (h : Rely own sh W W1) (C i : Nat) : Rely own (sh.but C i) W W1 := h.less (fun _ h => h) (fun _ _ h => .inl h.1) (fun _ h => .inl h)
/-- A worker at its deferred Done. -/
def AtDone (P : Program) (Wg : Nat) (jb : Job) (sh : Shd) : Blk → Goroutine → World → Prop := fun own g W =>
  g.status = .running ∧ JobOk Wg jb sh W ∧ ∃ v m, WS P Wg jb v 7 m 0 g W ∧ ∀ W1, Rely own (sh.but jb.C jb.i) W W1 → jb.pr v W1 own
/-- A worker's state, for the record. -/
inductive WSt
  | work (jb : Job) (own : Blk) (sh : Shd) (g : Goroutine) (w : World)
  | done (jb : Job) (own : Blk) (sh : Shd) (v : Value) (s m d : Nat)
  | quit (m d : Nat)
def nosh : Shd := ⟨fun _ => False, fun _ _ => False, fun _ => False⟩
def WSt.own : WSt → Blk
  | .work _ own _ _ _ | .done _ own _ _ _ _ _ => own
  | .quit _ _ => fun _ => False
def WSt.sh : WSt → Shd
  | .work _ _ sh _ _ | .done _ _ sh _ _ _ _ => sh
  | .quit _ _ => nosh
def WSt.job : WSt → Option Job
  | .work jb _ _ _ _ | .done jb _ _ _ _ _ _ => some jb
  | .quit _ _ => none
def WSt.wd : WSt → ConcN.WD
  | .work _ _ _ _ _ => ⟨7, 0, 0⟩
  | .done _ _ _ _ s m d => ⟨s, m, d⟩
  | .quit m d => ⟨1, m, d⟩
def WOk (P : Program) (Wg : Nat) (W : World) : WSt → Goroutine → Prop
  | .work jb own sh g w, h => h = g ∧ Goes' P false sh (AtDone P Wg jb sh) own g w ∧ Rely own sh w W
  | .done jb own sh v s m d, h => WS P Wg jb v s m d h W ∧ JobOk Wg jb sh W ∧ (∀ W1, Rely own (sh.but jb.C jb.i) W W1 → jb.pr v W1 own) ∧ (s ≤ 6 → ConcN.Has jb.C jb.i v W)
  | .quit m d, h => QuitsD P m d h
theorem Goes'.running {P : Program} {Wg : Nat} {jb : Job} {sh : Shd} {own : Blk} {g : Goroutine} {w : World} (h : Goes' P false sh (AtDone P Wg jb sh) own g w) : g.status = .running := by
  cases h with
  | stop h => exact h.1
  | step h _ _ => exact h
theorem WS.rely {P : Program} {Wg : Nat} {jb : Job} {own : Blk} {sh : Shd} {v : Value} {s m d : Nat} {g : Goroutine} {W W1 : World} (h : WS P Wg jb v s m d g W) (hj : JobOk Wg jb sh W) (hr : Rely own sh W W1) : WS P Wg jb v s m d g W1 :=
  ConcN.WSit.rely h (by simpa using hj.rw hr)
theorem Has.rely {jb : Job} {own : Blk} {sh : Shd} {Wg : Nat} {v : Value} {W W1 : World} (h : ConcN.Has jb.C jb.i v W) (hj : JobOk Wg jb sh W) (hr : Rely own sh W W1) : ConcN.Has jb.C jb.i v W1 :=
  hr.cel _ _ _ ((hj.cel _ _).2 hj.mine) h
theorem AtDone.rely {P : Program} {Wg : Nat} {jb : Job} {sh : Shd} {own : Blk} {g : Goroutine} {W W1 : World} (h : AtDone P Wg jb sh own g W) (hr : Rely own sh W W1) : AtDone P Wg jb sh own g W1 := by
  obtain ⟨h1, h2, v, m, h3, h4⟩ := h
  exact ⟨h1, h2.rely (own := own) hr.shp, v, m, WS.rely h3 h2 hr, fun W2 hr2 => h4 W2 ((hr.but _ _).trans hr2)⟩
theorem WOk.rely {P : Program} {Wg : Nat} {W W' : World} {x : WSt} {h : Goroutine} (hx : WOk P Wg W x h) (hr : Rely x.own x.sh W W') : WOk P Wg W' x h := by
  cases x with
  | work jb own sh g w => exact ⟨hx.1, hx.2.1, hx.2.2.trans hr⟩
  | done jb own sh v s m d =>
    obtain ⟨h1, h2, h3, h4⟩ := hx
    exact ⟨WS.rely h1 h2 hr, h2.rely (own := own) hr.shp, fun W2 hr2 => h3 W2 ((Rely.but hr _ _).trans hr2), fun hs => Has.rely (h4 hs) h2 hr⟩
  | quit k => exact hx
theorem WOk.status {P : Program} {Wg : Nat} {W : World} {x : WSt} {h : Goroutine} (hx : WOk P Wg W x h) : h.status = .running ∨ h.status = .finished := by
  cases x with
  | work jb own sh g w => obtain ⟨rfl, h1, h2⟩ := hx; exact .inl h1.running
  | done jb own sh v s m d => exact ConcN.WSit.status hx.1
  | quit k => exact QuitsD.status hx
theorem again_still {P : Program} {Wg : Nat} {W W' : World} {x : WSt} {h : Goroutine} (hx : WOk P Wg W x h) (a a' : Goroutine) : woken P a a' W' h = h := by
  unfold Go.Conc.woken
  split
  · exact again_running _ hx.status
  · rfl
/-- A released one. -/
def WSt.rel : WSt → Prop
  | .done _ _ _ _ s _ _ => s ≤ 6
  | _ => False
/-- One state of a worker's comes behind another. -/
inductive WLt (P : Program) (Wg : Nat) : WSt → WSt → Prop
  | go {jb : Job} {own : Blk} {sh : Shd} {g g' : Goroutine} {w w1 w' : World} {es : Array Event} : Rely own sh w w1 → ¬ AtDone P Wg jb sh own g w1 → stepG P false g w1 = .go g' w' es → WLt P Wg (.work jb (Grow own w1 w') sh g' w') (.work jb own sh g w)
  | done {jb : Job} {own : Blk} {sh : Shd} {g : Goroutine} {w : World} {v : Value} {s m d : Nat} : WLt P Wg (.done jb own sh v s m d) (.work jb own sh g w)
  | stage {jb : Job} {own : Blk} {sh : Shd} {v : Value} {s m d s' m' d' : Nat} : s' < s ∨ (s' = s ∧ m' < m) → WLt P Wg (.done jb own sh v s' m' d') (.done jb own sh v s m d)
  | quit {m d m' d' : Nat} : m' < m → WLt P Wg (.quit m' d') (.quit m d)
theorem acc_quit (P : Program) (Wg : Nat) : ∀ m d, Acc (WLt P Wg) (.quit m d) := by
  intro m
  induction m using Nat.strongRecOn with
  | _ m ih => intro d; exact ⟨_, fun y hy => by cases hy with | quit h => exact ih _ h _⟩
theorem acc_done (P : Program) (Wg : Nat) (jb : Job) (own : Blk) (sh : Shd) (v : Value) : ∀ s m d, Acc (WLt P Wg) (.done jb own sh v s m d) := by
  intro s
  induction s using Nat.strongRecOn with
  | _ s ihs =>
    intro m
    induction m using Nat.strongRecOn with
    | _ m ihm =>
      intro d
      refine ⟨_, fun y hy => ?_⟩
      cases hy with
      | stage h =>
        rcases h with h | ⟨rfl, h⟩
        · exact ihs _ h _ _
        · exact ihm _ h _
theorem acc_work {P : Program} {Wg : Nat} {jb : Job} {own : Blk} {sh : Shd} {g : Goroutine} {w : World} (h : Goes' P false sh (AtDone P Wg jb sh) own g w) : Acc (WLt P Wg) (.work jb own sh g w) := by
  induction h with
  | stop h =>
    refine ⟨_, fun y hy => ?_⟩
    cases hy with
    | go hr hn he => exact absurd (h.rely hr) hn
    | done => exact acc_done ..
  | step hs h1 h2 ih =>
    refine ⟨_, fun y hy => ?_⟩
    cases hy with
    | go hr _ he => exact ih _ hr _ _ _ he
    | done => exact acc_done ..
end Go.Proofs.Ytkodpijedinanaa.Sim
