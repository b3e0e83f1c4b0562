/- The rules of an account, on: sharing all, a return, a call; what is kept of the shadow's memory. -/
import Derived.Test.YtkodpijedinanaaCwC
namespace Go.Proofs.Ytkodpijedinanaa.Sim
open Go Go.Conc Go.ChangeShapes Go.WideShapes Go.ChangeAt Go.RowKit
set_option linter.unusedVariables false
set_option linter.unusedSimpArgs false

/-- Whatever was read reads so; rows are rows; channels as they were. -/
structure KeptC (w w' : World) : Prop where
  size : w.heap.size ≤ w'.heap.size
  cell : ∀ a v, w.cell? a = some v → w'.cell? a = some v
  plain : ∀ x, Plain w x → Plain w' x
  chan : ∀ (x p : Nat) f s r t, w.heap[x]? = some (.chan p #[] f s r t) → w'.heap[x]? = some (.chan p #[] f s r t)
theorem KeptC.refl (w : World) : KeptC w w := ⟨Nat.le_refl _, fun _ _ h => h, fun _ h => h, fun _ _ _ _ _ _ h => h⟩
theorem KeptC.trans {a b c : World} (h : KeptC a b) (k : KeptC b c) : KeptC a c := ⟨Nat.le_trans h.size k.size, fun x v q => k.cell _ _ (h.cell _ _ q), fun x q => k.plain _ (h.plain _ q), fun x p f s r t q => k.chan _ _ _ _ _ _ (h.chan _ _ _ _ _ _ q)⟩
theorem KeptC.of {w w' : World} (h : Kept w w') : KeptC w w' where
  size := h.size
  cell := fun a v q => Kept.cell h q
  plain := fun x q => by
    have hlt : x < w.heap.size := by
      rcases q with ⟨c, e, z, q⟩ | ⟨p, f, s, r, t, q⟩ <;> exact (Array.getElem?_eq_some_iff.1 q).1
    unfold Plain
    rw [h.block x hlt]
    exact q
  chan := fun x p f s r t q => by rw [h.block x (Array.getElem?_eq_some_iff.1 q).1]; exact q
theorem KeptC.heap {w w' : World} (h : w'.heap = w.heap) : KeptC w w' := .of (Kept.of_heap h)
theorem KeptC.frz (w : World) (Gs : Blk) : KeptC w (frz w Gs) where
  size := by rw [frz_size]; exact Nat.le_refl _
  cell := fun a v q => by rw [frz_cell]; exact q
  plain := fun x q => by
    rcases q with ⟨c, e, z, q⟩ | ⟨p, f, s, r, t, q⟩
    · obtain ⟨z', h4, _⟩ := frz_cells (Gs := Gs) q
      exact .inl ⟨c, e, z', h4⟩
    · exact .inr ⟨p, f, s, r, t, frz_other q (fun _ _ _ e => by cases e)⟩
  chan := fun x p f s r t q => frz_other q (fun _ _ _ e => by cases e)
theorem plain_frz {w : World} {Gs : Blk} {x : Nat} (h : Plain (frz w Gs) x) : Plain w x := by
  unfold Plain at h
  rw [frz_get] at h
  cases ho : w.heap[x]? with
  | none => rw [ho] at h; rcases h with ⟨c, e, z, q⟩ | ⟨p, f, s, r, t, q⟩ <;> cases q
  | some o =>
    rw [ho] at h
    cases o with
    | cells c e z => exact .inl ⟨c, e, z, ho⟩
    | chan p b f s r t =>
      rcases h with ⟨c, e, z, q⟩ | ⟨p', f', s', r', t', q⟩
      · simp [frzO] at q
      · simp only [Option.map_some, frzO, Option.some.injEq, Obj.chan.injEq] at q
        obtain ⟨rfl, rfl, rfl, rfl, rfl, rfl⟩ := q
        exact .inr ⟨_, _, _, _, _, ho⟩
    | _ => rcases h with ⟨c, e, z, q⟩ | ⟨p', f', s', r', t', q⟩ <;> simp [frzO] at q
theorem Has.keptC {w w' : World} {sz n : Nat} {v : Value} {xs : List Value} (h : Has w sz v n xs) (k : KeptC w w') : Has w' sz v n xs := by
  obtain ⟨hl, a, cap, rfl, h1, h2, h3⟩ := h
  refine ⟨hl, a, cap, rfl, h1, h2, fun hp => ?_⟩
  obtain ⟨b, off, rfl, hc⟩ := h3 hp
  exact ⟨b, off, rfl, fun j u hu => k.cell _ _ (hc j u hu)⟩
theorem HasP.keptC {w w' : World} {n : Nat} {v : Value} {xs : List Value} (h : HasP w v n xs) (k : KeptC w w') : HasP w' v n xs :=
  ⟨Has.keptC h.has k, h.plain.imp id fun ⟨a, c, e, q⟩ => ⟨a, c, e, k.plain _ q⟩⟩
theorem HasP.of_owns {w : World} {base e n : Nat} {v : Value} {xs : List Value} (h : w.ownsRow base e 1 v n xs) : HasP w v n xs := by
  refine ⟨Has.of_owns h, ?_⟩
  obtain ⟨hl, h⟩ := h
  rcases h with ⟨rfl, h0⟩ | ⟨g, cap, cur, rfl, hg, hh, hn, hm, hs, ht⟩
  · exact .inl rfl
  · exact .inr ⟨_, _, rfl, .inl ⟨_, _, _, hh⟩⟩
section
variable {P : Program} {main : Bool} {F Sh : Blk} {Ju : Blk → Goroutine → World → Prop} {RB : List Frame} {B : Frame} {Own : Blk} {ρ : Ren} {a A : Act} {w : World} {k items : List Item}
/-- What is known of the matching. -/
theorem pt_mat (h : (∃ W, Mat P F Own Sh ρ a A w W) → Pt P F Sh Ju RB B items Own ρ a A w) : Pt P F Sh Ju RB B items Own ρ a A w := fun W m => h ⟨W, m⟩ W m
theorem Mat.lt {W : World} (m : Mat P F Own Sh ρ a A w W) {x : Nat} (h : F x) : x < w.heap.size := by
  rcases m.fz x h with ⟨_, _, q⟩ | ⟨_, _, _, _, _, q⟩ <;> exact (Array.getElem?_eq_some_iff.1 q).1
/-- Everything is shared from here on. -/
theorem pt_shareAll {W0 : World} {lo n : Nat} {Post : Value → World → Prop} {pend : Nat → Option (Nat × Prm)}
    (h : ∀ F' Sh' Own' w', (∀ x, F x → F' x) → (∀ x, Plain w' x → F' x) → (∀ x, F' x → x < w'.heap.size) → KeptC w w' → Pt P F' Sh' (MGo P W0 lo Post n pend Sh') RB B items Own' ρ a A w') :
    Pt P F Sh (MGo P W0 lo Post n pend Sh) RB B items Own ρ a A w := pt_mat fun ⟨W, m⟩ => by
  have hG : ∀ x, (fun x => Plain w x ∧ ¬ F x) x → Plain w x ∧ ¬ F x := fun x h => h
  refine pt_share hG (h _ _ _ _ (fun x hx => .inl hx) (fun x hx => ?_) (fun x hx => ?_) (KeptC.frz _ _))
  · by_cases hF : F x
    · exact .inl hF
    · exact .inr ⟨plain_frz hx, hF⟩
  · rw [frz_size]
    rcases hx with hx | ⟨hx, _⟩
    · exact m.lt hx
    · rcases hx with ⟨c, e, z, q⟩ | ⟨p, f, s, r, t, q⟩ <;> exact (Array.getElem?_eq_some_iff.1 q).1
theorem pt_seqE (hJ : Jud P main Sh Ju) {c x y : Code} (e : c = .seq x y) (h : Pt P F Sh Ju RB B (.code x :: .code y :: k) Own ρ a A w) : Pt P F Sh Ju RB B (.code c :: k) Own ρ a A w := by
  subst e; exact pt_seq hJ h
theorem pt_blockE (hJ : Jud P main Sh Ju) {c x : Code} {id : Nat} (e : c = .block id x) (h : Pt P F Sh Ju RB B (.code x :: .inBlock id :: k) Own ρ a A w) : Pt P F Sh Ju RB B (.code c :: k) Own ρ a A w := by
  subst e; exact pt_block hJ h
theorem pt_loopE (hJ : Jud P main Sh Ju) {c x : Code} (e : c = .loop x) (h : Pt P F Sh Ju RB B (.code x :: .inLoop x :: k) Own ρ a A w) : Pt P F Sh Ju RB B (.code c :: k) Own ρ a A w := by
  subst e; exact pt_loop hJ h
theorem pt_condE (hJ : Jud P main Sh Ju) {c x y : Code} {t : Tmp} (e : c = .cond (.tmp t) x y) (b : Bool) (hv : a.eval (.tmp t) = .bool b) (h : Pt P F Sh Ju RB B (.code (if b then x else y) :: k) Own ρ a A w) : Pt P F Sh Ju RB B (.code c :: k) Own ρ a A w := by
  subst e; exact pt_cond hJ hv h
theorem pt_regionE (hJ : Jud P main Sh Ju) {c : Code} {ops : Array Oper} (e : ∃ id, c = .region id ops false) {l : List Nat} (hl : List.range ops.size = l) (h : Pt P F Sh Ju RB B (.inRegion ops l :: k) Own ρ a A w) : Pt P F Sh Ju RB B (.code c :: k) Own ρ a A w := by
  obtain ⟨id, rfl⟩ := e
  subst hl; exact pt_region hJ h
theorem put_ne {a : Act} {d t : Tmp} (v : Value) (h : t ≠ d) : (a.put (some d) v).tmps.getD t undef = a.tmps.getD t undef := by
  simp [Act.put, Array.getD_eq_getD_getElem?, Array.getElem?_setIfInBounds_ne (fun e => h e.symm)]
/-- A return. -/
theorem pt_ret (hJ : Jud P main Sh Ju) (h : ∀ W, Mat P F Own Sh ρ a A w W → ∀ todo, Ju Own (G { B.at A todo with mode := .returning } RB) W) : Pt P F Sh Ju RB B (.code .ret :: k) Own ρ a A w := fun W m =>
  hJ _ _ _ (Goes'.ctl rfl rfl (fun W1 _ => stepG_ret') fun W1 hr => .stop (h W1 (m.rely hr) _))
/-- A call. -/
theorem pt_call (hJ : Jud P main Sh Ju) (hB : B.kind ≠ .early) {ops : Array Oper} {i : Nat} {l : List Nat} {o : Oper} (ho : ops[i]? = some o) (hg : o.guard = none) {f : FuncId} {fn : Func} {c : Code} {args : Array Operand} {ats : Array TypeId} (hop : o.op = .call { callee := .value (.func f), args, argTypes := ats })
    (hargs : args.all okX = true) (hf : P.funcs[f]? = some fn) (hname : (fn.name == "runtime.NumGoroutine") = false) (hb : fn.body = some c)
    (h : ∀ A', Pt P F Sh Ju (B.at A (.inRegion ops (i :: l) :: k) :: RB) (base f) [.code c] Own ρ { tmps := args.map a.eval ++ Array.replicate (fn.ntmps - args.size) undef, defers := [] } A' w) :
    Pt P F Sh Ju RB B (.inRegion ops (i :: l) :: k) Own ρ a A w := fun W m => by
  have hw : Region.wanted o (yielded ops A.tmps) = true := by simp [Region.wanted, hg]
  refine hJ _ _ _ (call_enter hB ho hw hop hf hname hb fun W1 hr => .stop (h _ W1 ?_))
  have m1 := m.rely hr
  refine { m1 with row := RowRel.append (rows_map (fun x hx => ?_) hargs) ⟨by simp, fun i v u h1 h2 => ?_⟩, d := rfl, D := rfl }
  · have := eval_rel (f := ({ (default : Frame) with tmps := a.tmps } : Frame)) (F := ({ (default : Frame) with tmps := A.tmps } : Frame)) m1.row x hx
    cases x <;> exact this
  · simp only [Array.getElem?_replicate] at h1 h2
    split at h1
    · cases h1
      split at h2
      · cases h2; exact .tuple rfl (fun i v w a b => by simp at a)
      · cases h2
    · cases h1
/-- Back to the caller, with two results. -/
theorem leave2 (hJ : Jud P main Sh Ju) {a0 A0 : Act} {W : World} {B0 : Frame} {b : FuncId} {fn : Func} (hf : P.funcs[b]? = some fn) {t u : Tmp} (hr : fn.results = #[.tmp t, .tmp u]) {todo : List Item} {ops : Array Oper} {i : Nat} {l : List Nat} {o : Oper} (ho : ops[i]? = some o)
    (m : Mat P F Own Sh ρ a A w W) (h0 : RowRel ρ a0.tmps A0.tmps) (hd : a0.defers = []) (hD : A0.defers = [])
    (h : Pt P F Sh Ju RB B0 (.inRegion ops l :: k) Own ρ (a0.put o.dst (.tuple #[a.tmps.getD t undef, a.tmps.getD u undef])) (A0.put o.dst (.tuple #[A.tmps.getD t undef, A.tmps.getD u undef])) w) :
    Ju Own (G { (base b).at A todo with mode := .returning } (B0.at A0 (.inRegion ops (i :: l) :: k) :: RB)) W := by
  refine hJ _ _ _ (call_leave2 (B := base b) rfl m.D hf hr ho fun W1 hr1 => .stop (h W1 ?_))
  have m1 := m.rely hr1
  have hv : VRel ρ (.tuple #[a.tmps.getD t undef, a.tmps.getD u undef]) (.tuple #[A.tmps.getD t undef, A.tmps.getD u undef]) := by
    have := ((RowRel.nil ρ).push (m1.row.getD t)).push (m1.row.getD u)
    exact .tuple this.1 this.2
  refine { m1 with row := ?_, d := ?_, D := ?_ }
  · unfold Act.put
    cases o.dst with
    | none => exact h0
    | some t => exact h0.set t hv
  · unfold Act.put; cases o.dst <;> exact hd
  · unfold Act.put; cases o.dst <;> exact hD
end
end Go.Proofs.Ytkodpijedinanaa.Sim
