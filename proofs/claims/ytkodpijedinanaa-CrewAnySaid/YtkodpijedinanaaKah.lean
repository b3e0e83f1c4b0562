/- Texts that the claim imports, laid together: MrC MrD MrE MrF MrG. No statement of their own. -/
import Derived.Conc.Events
import Derived.Conc.EventLaws
import Derived.Conc.WgWords
import Derived.Laws.Rows
import Derived.Test.YtkodpijedinanaaKag
namespace Go.Proofs.Ytkodpijedinanaa.Sim
open Go Go.Conc
set_option linter.unusedVariables false
set_option linter.unusedSimpArgs false

/-- A judgement that own steps may be laid before. -/
def Jud (P : Program) (main : Bool) (Sh : Shd) (Ju : Blk → Goroutine → World → Prop) : Prop := ∀ Own g W, Goes' P main Sh Ju Own g W → Ju Own g W
theorem jud_goes (P : Program) (main : Bool) (Sh : Shd) (Stop : Blk → Goroutine → World → Prop) : Jud P main Sh (Goes' P main Sh Stop) := fun Own g W h => h.bind fun _ _ _ h => h
theorem jud_mgo (P : Program) (W0 : World) (lo : Nat) (Post : Value → World → Prop) (n : Nat) (jobs : Nat → Option Job) {tag : ConcN.CTag} (ht : tag ≠ .blk) (Wg B d : Nat) (Sh : Shd) : Jud P true Sh (MGo P W0 lo Post n jobs tag Wg B d Sh) := fun Own g W h => MGo.of_goes ht h fun _ _ _ h => h
/-- At a point of the text. -/
def Pt (P : Program) (F : Blk) (Sh : Shd) (Ju : Blk → Goroutine → World → Prop) (RB : List Frame) (B : Frame) (items : List Item) (Own : Blk) (ρ : Ren) (a A : Act) (w : World) : Prop :=
  ∀ W, Mat P F Own Sh ρ a A w W → Ju Own (G (B.at A items) RB) W
section
variable {P : Program} {main : Bool} {F : Blk} {Sh : Shd} {Ju : Blk → Goroutine → World → Prop} {RB : List Frame} {B : Frame} {Own : Blk} {ρ : Ren} {a A : Act} {w : World} {k : List Item}
theorem pt_ctl (hJ : Jud P main Sh Ju) {items items' : List Item} (hs : ∀ W1, stepG P main (G (B.at A items) RB) W1 = .go (G (B.at A items') RB) W1 #[]) (h : Pt P F Sh Ju RB B items' Own ρ a A w) : Pt P F Sh Ju RB B items Own ρ a A w :=
  fun W m => hJ _ _ _ (Goes'.ctl rfl rfl (fun W1 _ => hs W1) fun W1 hr => .stop (h W1 (m.rely hr)))
theorem pt_seq (hJ : Jud P main Sh Ju) {x y : Code} (h : Pt P F Sh Ju RB B (.code x :: .code y :: k) Own ρ a A w) : Pt P F Sh Ju RB B (.code (.seq x y) :: k) Own ρ a A w := pt_ctl hJ (fun _ => stepG_seq) h
theorem pt_skip (hJ : Jud P main Sh Ju) (h : Pt P F Sh Ju RB B k Own ρ a A w) : Pt P F Sh Ju RB B (.code .skip :: k) Own ρ a A w := pt_ctl hJ (fun _ => stepG_skip) h
theorem pt_block (hJ : Jud P main Sh Ju) {id : Nat} {c : Code} (h : Pt P F Sh Ju RB B (.code c :: .inBlock id :: k) Own ρ a A w) : Pt P F Sh Ju RB B (.code (.block id c) :: k) Own ρ a A w := pt_ctl hJ (fun _ => stepG_block) h
theorem pt_inBlock (hJ : Jud P main Sh Ju) {id : Nat} (h : Pt P F Sh Ju RB B k Own ρ a A w) : Pt P F Sh Ju RB B (.inBlock id :: k) Own ρ a A w := pt_ctl hJ (fun _ => stepG_inBlock) h
theorem pt_loop (hJ : Jud P main Sh Ju) {c : Code} (h : Pt P F Sh Ju RB B (.code c :: .inLoop c :: k) Own ρ a A w) : Pt P F Sh Ju RB B (.code (.loop c) :: k) Own ρ a A w := pt_ctl hJ (fun _ => stepG_loop) h
theorem pt_inLoop (hJ : Jud P main Sh Ju) {c : Code} (h : Pt P F Sh Ju RB B (.code c :: .inLoop c :: k) Own ρ a A w) : Pt P F Sh Ju RB B (.inLoop c :: k) Own ρ a A w := pt_ctl hJ (fun _ => stepG_inLoop) h
theorem pt_exit (hJ : Jud P main Sh Ju) {id : Nat} {k' : List Item} (e : exitTo id k = some k') (h : Pt P F Sh Ju RB B k' Own ρ a A w) : Pt P F Sh Ju RB B (.code (.exit id) :: k) Own ρ a A w := pt_ctl hJ (fun _ => stepG_exit e) h
theorem pt_region (hJ : Jud P main Sh Ju) {id : Nat} {ops : Array Oper} (h : Pt P F Sh Ju RB B (.inRegion ops (List.range ops.size) :: k) Own ρ a A w) : Pt P F Sh Ju RB B (.code (.region id ops false) :: k) Own ρ a A w := pt_ctl hJ (fun _ => stepG_region) h
theorem pt_region_end (hJ : Jud P main Sh Ju) {ops : Array Oper} (h : Pt P F Sh Ju RB B k Own ρ a A w) : Pt P F Sh Ju RB B (.inRegion ops [] :: k) Own ρ a A w := pt_ctl hJ (fun _ => stepG_region_end) h
theorem pt_cond (hJ : Jud P main Sh Ju) {t : Tmp} {x y : Code} {b : Bool} (e : a.eval (.tmp t) = .bool b) (h : Pt P F Sh Ju RB B (.code (if b then x else y) :: k) Own ρ a A w) : Pt P F Sh Ju RB B (.code (.cond (.tmp t) x y) :: k) Own ρ a A w := fun W m => by
  have hv := m.row.getD t
  have e' : a.tmps.getD t undef = .bool b := e
  rw [e'] at hv
  have e2 : A.eval (.tmp t) = .bool b := by
    show A.tmps.getD t undef = _
    generalize A.tmps.getD t undef = z at hv
    cases hv; rfl
  exact pt_ctl hJ (fun _ => stepG_cond e2) h W m
/-- A piece, by its lone contract. -/
theorem pt_piece (hF : FnsOk2 P) (hJ : Jud P main Sh Ju) {c : Code} (hc : okCode P c = true) {b : Frame} (hb : b.kind = .normal) (hB : B.kind ≠ .early) (hfn : B.fn = b.fn) (hres : ∃ fn, P.funcs[b.fn]? = some fn ∧ resB fn = true)
    {Q : Act → World → Prop} (hwp : ∀ τ d, c.wp P (Exit.then Q fun _ _ _ => False) a (lay w τ d))
    (hn : ∀ ρ' a' A' w' Own', A'.defers = A.defers → Ren.le ρ ρ' → (∀ b, Own b → Own' b) → (∃ τ d, Q a' (lay w' τ d)) → Pt P F Sh Ju RB B k Own' ρ' a' A' w') : Pt P F Sh Ju RB B (.code c :: k) Own ρ a A w := fun W m =>
  hJ _ _ _ (piece hF m hc hb hB hfn hres (fun e a w h => by cases e <;> first | exact .inl rfl | exact h.elim) hwp k RB
    (fun ρ' a' A' w' W' Own' m' hD hl ho hq => .stop (hn ρ' a' A' w' Own' hD hl ho hq W' m')) (fun _ _ _ _ _ _ _ _ _ _ hq => by obtain ⟨_, _, hq⟩ := hq; exact hq.elim))
/-- A piece that may return. -/
theorem pt_pieceR (hF : FnsOk2 P) (hJ : Jud P main Sh Ju) {c : Code} (hc : okCode P c = true) {b : Frame} (hb : b.kind = .normal) (hB : B.kind ≠ .early) (hfn : B.fn = b.fn) (hres : ∃ fn, P.funcs[b.fn]? = some fn ∧ resB fn = true)
    {Q R : Act → World → Prop} (hwp : ∀ τ d, c.wp P (Exit.then Q fun e a w => e = .ret ∧ R a w) a (lay w τ d))
    (hn : ∀ ρ' a' A' w' Own', A'.defers = A.defers → Ren.le ρ ρ' → (∀ b, Own b → Own' b) → (∃ τ d, Q a' (lay w' τ d)) → Pt P F Sh Ju RB B k Own' ρ' a' A' w')
    (hr : ∀ ρ' a' A' w' W' Own', Mat P F Own' Sh ρ' a' A' w' W' → A'.defers = A.defers → Ren.le ρ ρ' → (∀ b, Own b → Own' b) → (∃ τ d, R a' (lay w' τ d)) → ∀ todo, Ju Own' (G { B.at A' todo with mode := .returning } RB) W') : Pt P F Sh Ju RB B (.code c :: k) Own ρ a A w := fun W m =>
  hJ _ _ _ (piece hF m hc hb hB hfn hres (fun e a w h => by cases e <;> first | exact .inl rfl | exact .inr rfl | exact absurd h.1 (by simp)) hwp k RB
    (fun ρ' a' A' w' W' Own' m' hD hl ho hq => .stop (hn ρ' a' A' w' Own' hD hl ho hq W' m')) (fun ρ' a' A' w' W' Own' m' hD hl ho hq todo => by obtain ⟨τ, d, _, hq⟩ := hq; exact .stop (hr ρ' a' A' w' W' Own' m' hD hl ho ⟨τ, d, hq⟩ todo)))
/-- An operation. -/
theorem pt_op (hF : FnsOk2 P) (hJ : Jud P main Sh Ju) (hB : B.kind ≠ .early) {ops : Array Oper} {i : Nat} {l : List Nat} {o : Oper} (ho : ops[i]? = some o) (hop : okOp P o.op = true) (hw : Region.wanted o (yielded ops a.tmps) = true) {v : Value} {w' : World}
    (hrun : (∀ τ d, (execOp a.eval o).run P (lay w τ d) = .ok (.value v) (lay w' τ d)) ∨ (v = undef ∧ ∀ τ d, (execOp a.eval o).run P (lay w τ d) = .ok .skip (lay w' τ d)))
    (hn : ∀ ρ' v' Own', Ren.le ρ ρ' → (∀ b, Own b → Own' b) → VRel ρ' v v' → Pt P F Sh Ju RB B (.inRegion ops l :: k) Own' ρ' (a.put o.dst v) (A.put o.dst v') w') : Pt P F Sh Ju RB B (.inRegion ops (i :: l) :: k) Own ρ a A w := fun W m =>
  hJ _ _ _ (op_step hF m hB ho hop hw hrun fun ρ' v' W' Own' m' hl ho hv => .stop (hn ρ' v' Own' hl ho hv W' m'))
/-- A closure over a function that the shadow does not know: it has nothing in its place. -/
theorem pt_makeFunc (hJ : Jud P main Sh Ju) (hB : B.kind ≠ .early) {ops : Array Oper} {i : Nat} {l : List Nat} {o : Oper} (ho : ops[i]? = some o) (hg : o.guard = none) {f : FuncId} {caps : Array Operand} (hop : o.op = .makeFunc (.func f) #[] caps)
    (hn : Pt P F Sh Ju RB B (.inRegion ops l :: k) Own ρ (a.put o.dst undef) (A.put o.dst (.func (.func f) #[] (caps.map A.eval))) w) : Pt P F Sh Ju RB B (.inRegion ops (i :: l) :: k) Own ρ a A w := fun W m => by
  have hw : Region.wanted o (yielded ops A.tmps) = true := by simp [Region.wanted, hg]
  refine hJ _ _ _ (Goes'.ctl rfl rfl (fun W1 _ => ?_) fun W1 hr => .stop (hn W1 ?_))
  · have hr : (execOp A.eval o).run P W1 = .ok (.value (.func (.func f) #[] (caps.map A.eval))) W1 := by unfold execOp; rw [hop]; simp [Instr.makeFunc]
    have he : listed P B.fn A o W1 = #[] := by
      have : (execOp A.eval o).events P W1 #[] = #[] := by unfold execOp; rw [hop]; simp [Instr.makeFunc]
      unfold listed
      rw [this]
      exact seen_none _ _
    rw [stepG_value ho hw hB hr, he]
  · have m1 := m.rely hr
    refine { m1 with row := ?_, d := ?_ }
    · unfold Act.put
      cases o.dst with
      | none => exact m1.row
      | some t => exact m1.row.set t (.junkG _ _ _)
    · unfold Act.put; cases o.dst <;> exact m1.d
end
end Go.Proofs.Ytkodpijedinanaa.Sim

namespace Go.Proofs.Ytkodpijedinanaa.Sim
open Go Go.Conc
set_option linter.unusedVariables false
set_option linter.unusedSimpArgs false

/-- The blocks that are to be seen: one's own, those to read, those that only have an address. -/
structure Vis where
  own : Blk
  sh : Blk
  opq : Blk
def Vis.see (V : Vis) (b : Nat) : Prop := V.own b ∨ V.sh b ∨ V.opq b
/-- A function that the shadow knows too. -/
def FnOk (f : Fn) (a b : Array Value) : Prop := ∃ g, f = .func g ∧ g ∈ Fns.l ∧ a = #[] ∧ b = #[]
open Classical in
/-- A value of the shadow's for a real one. -/
noncomputable def sanV (V : Vis) (base : Nat) : Value → Value
  | .bool b => .bool b
  | .int k n => .int k n
  | .string s => .string s
  | .pointer none => .pointer none
  | .pointer (some a) => if V.see a.block then .pointer (some { a with block := base + a.block }) else .tuple #[]
  | .slice none n c => .slice none n c
  | .slice (some a) n c => if V.see a.block then .slice (some { a with block := base + a.block }) n c else if n = 0 ∧ c = 0 then .slice (some a) 0 0 else .tuple #[]
  | .map none => .map none
  | .chan none => .chan none
  | .nilFunc => .nilFunc
  | .nilIface => .nilIface
  | .agg c => .agg (c.attach.map fun x => sanV V base x.1)
  | .float _ _ => .tuple #[]
  | .complex _ _ _ => .tuple #[]
  | .map (some _) => .tuple #[]
  | .chan (some _) => .tuple #[]
  | .func f a b => if FnOk f a b then .func f #[] #[] else .tuple #[]
  | .iface _ _ => .tuple #[]
  | .tuple _ => .tuple #[]
  termination_by v => SizeOf.sizeOf v
  decreasing_by
    have := Array.sizeOf_lt_of_mem x.2
    simp only [Value.agg.sizeOf_spec]
    omega
def rhoV (V : Vis) (base : Nat) : Ren := fun x b => x = base + b ∧ V.see b
theorem sanV_rel (V : Vis) (base : Nat) : ∀ v : Value, VRel (rhoV V base) (sanV V base v) v
  | .bool b => by rw [sanV]; exact .bool b
  | .int k n => by rw [sanV]; exact .int k n
  | .string s => by rw [sanV]; exact .string s
  | .float k b => by rw [sanV]; exact .junkF k b
  | .complex k a b => by rw [sanV]; exact .junkC k a b
  | .pointer none => by rw [sanV]; exact .ptrNil
  | .pointer (some a) => by
    rw [sanV]
    split
    · rename_i h; exact .ptr ⟨⟨rfl, h⟩, rfl, rfl⟩
    · exact .junkP _
  | .slice none n c => by rw [sanV]; exact .sliceNil n c
  | .slice (some a) n c => by
    rw [sanV]
    split
    · rename_i h; exact .slice n c ⟨⟨rfl, h⟩, rfl, rfl⟩
    · split
      · rename_i h; obtain ⟨rfl, rfl⟩ := h; exact .sliceE a a
      · exact .junkS _ _ _
  | .map none => by rw [sanV]; exact .mapNil
  | .map (some r) => by rw [sanV]; exact .junkM _
  | .chan none => by rw [sanV]; exact .chanNil
  | .chan (some r) => by rw [sanV]; exact .junkH _
  | .func f a b => by
    rw [sanV]
    split
    · rename_i h; obtain ⟨g, rfl, h1, rfl, rfl⟩ := h; exact .func g h1 rfl (fun i v w h => by simp at h) rfl (fun i v w h => by simp at h)
    · exact .junkG f a b
  | .nilFunc => by rw [sanV]; exact .nilFunc
  | .iface t v => by rw [sanV]; exact .junkI t v
  | .nilIface => by rw [sanV]; exact .nilIface
  | .tuple c => by rw [sanV]; exact .junkT c
  | .agg c => by
    rw [sanV]
    refine .agg (by simp) fun i v w hv hw => ?_
    have hm : w ∈ c := Array.mem_of_getElem? hw
    have : v = sanV V base w := by
      simp only [Array.getElem?_map, Option.map_eq_some_iff] at hv
      obtain ⟨y, hy, rfl⟩ := hv
      have : y.1 = w := by
        obtain ⟨h1, h2⟩ := Array.getElem?_eq_some_iff.1 hy
        obtain ⟨h3, h4⟩ := Array.getElem?_eq_some_iff.1 hw
        rw [← h2, ← h4]
        simp
      rw [this]
    rw [this]
    exact sanV_rel V base w
  termination_by v => SizeOf.sizeOf v
  decreasing_by
    have := Array.sizeOf_lt_of_mem hm
    simp only [Value.agg.sizeOf_spec]
    omega
theorem sanV_row (V : Vis) (base : Nat) (c : Array Value) : RowRel (rhoV V base) (c.map (sanV V base)) c := ⟨by simp, fun i v u h1 h2 => by
  simp only [Array.getElem?_map, Option.map_eq_some_iff] at h1
  obtain ⟨y, hy, rfl⟩ := h1
  rw [hy] at h2
  cases h2
  exact sanV_rel _ _ _⟩
open Classical in
noncomputable def sanO (V : Vis) (base : Nat) (b : Nat) : Obj → Obj
  | .cells c e z => if V.opq b then opq else .cells (c.map (sanV V base)) e (if V.sh b then (0, c.size) else (0, 0))
  | o => o
/-- The shadow of a world: the world, and behind it a copy of each block. -/
noncomputable def fresh (V : Vis) (W : World) : World := { W with heap := W.heap ++ W.heap.mapIdx fun b o => sanO V W.heap.size b o }
theorem fresh_get (V : Vis) (W : World) (b : Nat) : (fresh V W).heap[W.heap.size + b]? = (W.heap[b]?).map (sanO V W.heap.size b) := by
  show (W.heap ++ W.heap.mapIdx _)[W.heap.size + b]? = _
  rw [Array.getElem?_append_right (by omega)]
  simp [Array.getElem?_mapIdx]
theorem fresh_size (V : Vis) (W : World) : (fresh V W).heap.size = W.heap.size + W.heap.size := by
  show (W.heap ++ W.heap.mapIdx _).size = _
  simp
theorem fresh_row {V : Vis} {W : World} {b : Nat} (ho : ¬ V.opq b) {c : Array Value} {e : TypeId} {z : Nat × Nat} (h : W.heap[b]? = some (.cells c e z)) : ∃ z', (fresh V W).heap[W.heap.size + b]? = some (.cells (c.map (sanV V W.heap.size)) e z') ∧ (¬ V.sh b → z' = (0, 0)) ∧ (V.sh b → z' = (0, c.size)) := by
  rw [fresh_get, h, Option.map_some]
  by_cases hs : V.sh b
  · exact ⟨(0, c.size), by simp only [sanO, if_neg ho, if_pos hs], fun h => absurd hs h, fun _ => rfl⟩
  · exact ⟨(0, 0), by simp only [sanO, if_neg ho, if_neg hs], fun _ => rfl, fun h => absurd h hs⟩
theorem fresh_opq {V : Vis} {W : World} {b : Nat} (ho : V.opq b) {c : Array Value} {e : TypeId} {z : Nat × Nat} (h : W.heap[b]? = some (.cells c e z)) : (fresh V W).heap[W.heap.size + b]? = some opq := by
  rw [fresh_get, h, Option.map_some]
  simp only [sanO, if_pos ho]
theorem fresh_cell {V : Vis} {W : World} {a : Addr} {v : Value} (ho : ¬ V.opq a.block) (h : W.cell? a = some v) : (fresh V W).cell? { a with block := W.heap.size + a.block } = some (sanV V W.heap.size v) := by
  unfold World.cell? at h ⊢
  cases hb : W.heap[a.block]? with
  | none => rw [hb] at h; cases h
  | some o =>
    rw [hb] at h
    cases o with
    | cells c e z =>
      obtain ⟨z', hz, _⟩ := fresh_row ho hb
      simp only [hz]
      simp only at h
      split at h
      · cases h
      · rename_i hs
        rw [if_neg hs, Array.getElem?_map, h]
        rfl
    | _ => cases h
/-- What is to be seen are rows, and one's own or to read. -/
structure Vis.Ok (V : Vis) (Own : Blk) (Sh : Shd) (W : World) : Prop where
  row : ∀ b, V.see b → ∃ c e z, W.heap[b]? = some (.cells c e z) ∧ (¬ V.opq b → NoRng z)
  own : ∀ b, V.own b → Own b
  sh : ∀ b, V.sh b → Sh b
def Vis.F (V : Vis) (base : Nat) : Blk := fun x => ∃ b, x = base + b ∧ (V.sh b ∨ V.opq b)
/-- The fresh shadow matches. -/
theorem mat_fresh {P : Program} {V : Vis} {Own : Blk} {Sh : Shd} {W : World} (hV : V.Ok Own Sh W) (hg : P.globals.size ≤ W.heap.size) (A : Act) :
    Mat P (V.F W.heap.size) Own Sh (rhoV V W.heap.size) { tmps := A.tmps.map (sanV V W.heap.size), defers := [] } A (fresh V W) W where
  row := sanV_row _ _ _
  d := rfl
  wr := by
    refine ⟨fun x b hxb => ?_, fun x b b' h1 h2 => ?_, fun x x' b h1 h2 => ?_⟩
    · obtain ⟨rfl, hs⟩ := hxb
      obtain ⟨c, e, z, hc, hz⟩ := hV.row b hs
      by_cases ho : V.opq b
      · exact ⟨_, _, fresh_opq ho hc, hc, .opq c e z⟩
      · obtain ⟨z', hz', h1, h2⟩ := fresh_row ho hc
        refine ⟨_, _, hz', hc, .cells e (sanV_row _ _ _) ?_ (hz ho)⟩
        by_cases hh : V.sh b
        · exact .inr (by rw [h2 hh]; simp)
        · exact .inl (h1 hh)
    · obtain ⟨e1, _⟩ := h1
      obtain ⟨e2, _⟩ := h2
      omega
    · obtain ⟨e1, _⟩ := h1
      obtain ⟨e2, _⟩ := h2
      omega
  above := fun x b hxb => by obtain ⟨rfl, _⟩ := hxb; omega
  size := by rw [fresh_size]; omega
  size' := hg
  fz := fun x hx => by
    obtain ⟨b, rfl, hb⟩ := hx
    obtain ⟨c, e, z, hc, hz⟩ := hV.row b (.inr hb)
    by_cases ho : V.opq b
    · exact .inr (.inr (fresh_opq ho hc))
    · obtain ⟨z', hz', h1, h2⟩ := fresh_row ho hc
      rw [h2 (hb.resolve_right ho)] at hz'
      exact .inl ⟨c.map (sanV V W.heap.size), e, by rw [hz']; simp⟩
  own := fun x b hxb hn => by
    obtain ⟨rfl, hs⟩ := hxb
    rcases hs with hs | hs
    · exact hV.own b hs
    · exact absurd ⟨b, rfl, hs⟩ hn
  sh := fun x b hxb hF hno => by
    obtain ⟨rfl, _⟩ := hxb
    obtain ⟨b', e, hb⟩ := hF
    obtain rfl : b = b' := by omega
    rcases hb with hb | hb
    · exact hV.sh b hb
    · obtain ⟨c, e, z, hc, _⟩ := hV.row b (.inr (.inr hb))
      exact absurd (fresh_opq hb hc) hno
end Go.Proofs.Ytkodpijedinanaa.Sim

namespace Go.Proofs.Ytkodpijedinanaa.Sim
open Go Go.Conc
set_option linter.unusedVariables false
set_option linter.unusedSimpArgs false

section
variable {e : Operand → Value} {o : Oper} {x y : Operand} {w : World} {ad : Addr} {v u : Value}
theorem load3 (hop : o.op = .load 3 x) (hx : e x = .pointer (some ad)) (hc : w.cell? ad = some v) : (execOp e o).run Try.prog w = .ok (.value v) w ∧ (execOp e o).events Try.prog w #[] = #[⟨.cell ad, false, false⟩] := by
  constructor <;> (unfold execOp; simp only [hop, hx]; simp [go_sem, hc])
theorem load26 (hop : o.op = .load 26 x) (hx : e x = .pointer (some ad)) (hc : w.cell? ad = some v) : (execOp e o).run Try.prog w = .ok (.value v) w ∧ (execOp e o).events Try.prog w #[] = #[⟨.cell ad, false, false⟩] := by
  constructor <;> (unfold execOp; simp only [hop, hx]; simp [go_sem, hc])
theorem loadLL (hop : o.op = .load 34 x) (hx : e x = .pointer (some ad)) (hc : w.cell? ad = some v) : (execOp e o).run Try.prog w = .ok (.value v) w ∧ (execOp e o).events Try.prog w #[] = #[⟨.cell ad, false, false⟩] := by
  constructor <;> (unfold execOp; simp only [hop, hx]; simp [go_sem, hc])
theorem loadL (hop : o.op = .load 35 x) (hx : e x = .pointer (some ad)) (hc : w.cell? ad = some v) : (execOp e o).run Try.prog w = .ok (.value v) w ∧ (execOp e o).events Try.prog w #[] = #[⟨.cell ad, false, false⟩] := by
  constructor <;> (unfold execOp; simp only [hop, hx]; simp [go_sem, hc])
theorem loadEs (hop : o.op = .load 50 x) (hx : e x = .pointer (some ad)) (hc : w.cell? ad = some v) : (execOp e o).run Try.prog w = .ok (.value v) w ∧ (execOp e o).events Try.prog w #[] = #[⟨.cell ad, false, false⟩] := by
  constructor <;> (unfold execOp; simp only [hop, hx]; simp [go_sem, hc])
theorem store3 (hop : o.op = .store 3 x y) (hx : e x = .pointer (some ad)) {kd : IntKind} {n : Int} (hy : e y = .int kd n) (hc : w.cell? ad = some u) (hz : w.frozen? ad = false) : (execOp e o).run Try.prog w = .ok .skip (w.setCell ad (.int kd n)) ∧ (execOp e o).events Try.prog w #[] = #[⟨.cell ad, true, false⟩] := by
  constructor <;> (unfold execOp; simp only [hop, hx, hy]; simp [go_sem, stored, storedEv, hc, hz])
theorem storeL (hop : o.op = .store 35 x y) (hx : e x = .pointer (some ad)) {sa : Option Addr} {n c : Nat} (hy : e y = .slice sa n c) (hc : w.cell? ad = some u) (hz : w.frozen? ad = false) : (execOp e o).run Try.prog w = .ok .skip (w.setCell ad (.slice sa n c)) ∧ (execOp e o).events Try.prog w #[] = #[⟨.cell ad, true, false⟩] := by
  constructor <;> (unfold execOp; simp only [hop, hx, hy]; simp [go_sem, stored, storedEv, hc, hz])
theorem storeLL (hop : o.op = .store 34 x y) (hx : e x = .pointer (some ad)) {sa : Option Addr} {n c : Nat} (hy : e y = .slice sa n c) (hc : w.cell? ad = some u) (hz : w.frozen? ad = false) : (execOp e o).run Try.prog w = .ok .skip (w.setCell ad (.slice sa n c)) ∧ (execOp e o).events Try.prog w #[] = #[⟨.cell ad, true, false⟩] := by
  constructor <;> (unfold execOp; simp only [hop, hx, hy]; simp [go_sem, stored, storedEv, hc, hz])
theorem storeEs (hop : o.op = .store 50 x y) (hx : e x = .pointer (some ad)) {sa : Option Addr} {n c : Nat} (hy : e y = .slice sa n c) (hc : w.cell? ad = some u) (hz : w.frozen? ad = false) : (execOp e o).run Try.prog w = .ok .skip (w.setCell ad (.slice sa n c)) ∧ (execOp e o).events Try.prog w #[] = #[⟨.cell ad, true, false⟩] := by
  constructor <;> (unfold execOp; simp only [hop, hx, hy]; simp [go_sem, stored, storedEv, hc, hz])
theorem store26 (hop : o.op = .store 26 x y) (hx : e x = .pointer (some ad)) {kd : IntKind} {n : Int} (hy : e y = .int kd n) (hc : w.cell? ad = some u) (hz : w.frozen? ad = false) : (execOp e o).run Try.prog w = .ok .skip (w.setCell ad (.int kd n)) ∧ (execOp e o).events Try.prog w #[] = #[⟨.cell ad, true, false⟩] := by
  constructor <;> (unfold execOp; simp only [hop, hx, hy]; simp [go_sem, stored, storedEv, hc, hz])
theorem move1 (hop : o.op = .move x) (hx : e x = v) : (execOp e o).run Try.prog w = .ok (.value v) w ∧ (execOp e o).events Try.prog w #[] = #[] := by
  constructor <;> (unfold execOp; simp only [hop, hx]; simp [go_sem])
theorem assign1 (hop : o.op = .assign x) (hx : e x = v) : (execOp e o).run Try.prog w = .ok (.value v) w ∧ (execOp e o).events Try.prog w #[] = #[] := by
  constructor <;> (unfold execOp; simp only [hop, hx]; simp [go_sem])
theorem addI (hop : o.op = .binOp .add 3 x y 3) {n m : Int} (hx : e x = .int .i64 n) (hy : e y = .int .i64 m) (hn : -9223372036854775808 ≤ n + m ∧ n + m ≤ 9223372036854775807) : (execOp e o).run Try.prog w = .ok (.value (.int .i64 (n + m))) w ∧ (execOp e o).events Try.prog w #[] = #[] := by
  constructor <;> (unfold execOp; simp only [hop, hx, hy]; simp [go_sem]; try (rw [IntKind.wrap_i64]; omega))
theorem mulI (hop : o.op = .binOp .mul 3 x y 3) {n m : Int} (hx : e x = .int .i64 n) (hy : e y = .int .i64 m) (hn : -9223372036854775808 ≤ n * m ∧ n * m ≤ 9223372036854775807) : (execOp e o).run Try.prog w = .ok (.value (.int .i64 (n * m))) w ∧ (execOp e o).events Try.prog w #[] = #[] := by
  constructor <;> (unfold execOp; simp only [hop, hx, hy]; simp [go_sem]; try (rw [IntKind.wrap_i64]; generalize n * m = z at *; omega))
theorem eqI (hop : o.op = .binOp .eql 3 x y 3) {n m : Int} (hx : e x = .int .i64 n) (hy : e y = .int .i64 m) : (execOp e o).run Try.prog w = .ok (.value (.bool (n == m))) w ∧ (execOp e o).events Try.prog w #[] = #[] := by
  constructor <;> (unfold execOp; simp only [hop, hx, hy]; simp [go_sem])
theorem ltI (hop : o.op = .binOp .lss 3 x y 3) {n m : Int} (hx : e x = .int .i64 n) (hy : e y = .int .i64 m) : (execOp e o).run Try.prog w = .ok (.value (.bool (decide (n < m)))) w ∧ (execOp e o).events Try.prog w #[] = #[] := by
  constructor <;> (unfold execOp; simp only [hop, hx, hy]; simp [go_sem])
theorem lenLL (hop : o.op = .call { callee := .builtin .len, args := #[x], argTypes := #[34] }) {a : Option Addr} {n c : Nat} (hx : e x = .slice a n c) : (execOp e o).run Try.prog w = .ok (.value (.int .i64 n)) w ∧ (execOp e o).events Try.prog w #[] = #[] := by
  constructor <;> (unfold execOp; simp only [hop]; simp [go_sem, hx])
theorem lenEs (hop : o.op = .call { callee := .builtin .len, args := #[x], argTypes := #[50] }) {a : Option Addr} {n c : Nat} (hx : e x = .slice a n c) : (execOp e o).run Try.prog w = .ok (.value (.int .i64 n)) w ∧ (execOp e o).events Try.prog w #[] = #[] := by
  constructor <;> (unfold execOp; simp only [hop]; simp [go_sem, hx])
theorem ixLL (hop : o.op = .indexAddr 34 x y) {b n c k : Nat} (hx : e x = .slice (some ⟨b, 0, none⟩) n c) (hy : e y = .int .i64 k) (hk : k < n) (hn : n ≤ 1000) : (execOp e o).run Try.prog w = .ok (.value (.pointer (some ⟨b, k, none⟩))) w ∧ (execOp e o).events Try.prog w #[] = #[] := by
  constructor <;> (unfold execOp; simp only [hop, hx, hy]; simp [go_sem, hk]; try omega)
theorem ixEs (hop : o.op = .indexAddr 50 x y) {b n c k : Nat} (hx : e x = .slice (some ⟨b, 0, none⟩) n c) (hy : e y = .int .i64 k) (hk : k < n) (hn : n ≤ 1000) : (execOp e o).run Try.prog w = .ok (.value (.pointer (some ⟨b, k, none⟩))) w ∧ (execOp e o).events Try.prog w #[] = #[] := by
  constructor <;> (unfold execOp; simp only [hop, hx, hy]; simp [go_sem, hk]; try omega)
theorem ext1 {k : Nat} (hop : o.op = .extract x k) {c : Array Value} (hx : e x = .tuple c) (hc : c[k]? = some v) : (execOp e o).run Try.prog w = .ok (.value v) w ∧ (execOp e o).events Try.prog w #[] = #[] := by
  constructor <;> (unfold execOp; simp only [hop, hx]; simp [go_sem, hc])
theorem alloc3 (hop : o.op = .alloc 3) : (execOp e o).run Try.prog w = .ok (.value (.pointer (some ⟨w.heap.size, 0, none⟩))) (w.alloc (.cells #[.int .i64 0] 3)) ∧ (execOp e o).events Try.prog w #[] = #[] := by
  constructor <;> (unfold execOp; simp only [hop]; simp [go_sem])
theorem allocWg (hop : o.op = .alloc 65) : (execOp e o).run Try.prog w = .ok (.value (.pointer (some ⟨w.heap.size, 0, none⟩))) (w.alloc (ConcR.wgBlock tyWg 0 0)) ∧ (execOp e o).events Try.prog w #[] = #[] := by
  constructor <;> (unfold execOp; simp only [hop]; simp [go_sem, ConcR.wgBlock, tyWg])
end
end Go.Proofs.Ytkodpijedinanaa.Sim

namespace Go.Proofs.Ytkodpijedinanaa.Sim
open Go Go.Conc
set_option linter.unusedVariables false
set_option linter.unusedSimpArgs false

/-- What the others leave as it is. -/
def Stable (Own : Blk) (Sh : Shd) (Z : World → Prop) : Prop := ∀ W W1, Rely Own Sh W W1 → Z W → Z W1
theorem Stable.and {Own : Blk} {Sh : Shd} {Z Y : World → Prop} (h : Stable Own Sh Z) (k : Stable Own Sh Y) : Stable Own Sh fun W => Z W ∧ Y W := fun W W1 hr ⟨z, y⟩ => ⟨h W W1 hr z, k W W1 hr y⟩
theorem Stable.more {Own Own' : Blk} {Sh : Shd} {Z : World → Prop} (h : Stable Own Sh Z) (ho : ∀ x, Own x → Own' x) : Stable Own' Sh Z := fun W W1 hr z =>
  h W W1 (hr.less (fun x hx => hx.imp (ho x) id) (fun _ _ h => .inl h) fun _ h => .inl h) z
theorem Stable.heap {Own : Blk} {Sh : Shd} {b : Nat} {o : Obj} (h : Own b ∨ Sh b) : Stable Own Sh fun W => W.heap[b]? = some o := fun W W1 hr z => hr.kept b o h z
theorem Rely.cell?' {Own : Blk} {Sh : Shd} {W W1 : World} (hr : Rely Own Sh W W1) {a : Addr} {v : Value} (h : Own a.block ∨ Sh a.block ∨ (Sh.cel a.block a.off ∧ a.spot = none)) (hv : W.cell? a = some v) : W1.cell? a = some v := by
  rcases h with h | h | ⟨h, hs⟩
  · cases ho : W.heap[a.block]? with
    | none => simp [World.cell?, ho] at hv
    | some q =>
      have := hr.kept _ q (.inl h) ho
      simp only [World.cell?, ho] at hv
      simp only [World.cell?, this]
      exact hv
  · cases ho : W.heap[a.block]? with
    | none => simp [World.cell?, ho] at hv
    | some q =>
      have := hr.kept _ q (.inr h) ho
      simp only [World.cell?, ho] at hv
      simp only [World.cell?, this]
      exact hv
  · obtain ⟨b, o, s⟩ := a
    simp only at h hs
    subst hs
    exact hr.cel b o v h hv
theorem Stable.cell {Own : Blk} {Sh : Shd} {a : Addr} {v : Value} (h : Own a.block ∨ Sh a.block ∨ (Sh.cel a.block a.off ∧ a.spot = none)) : Stable Own Sh fun W => W.cell? a = some v := fun W W1 hr z => hr.cell?' h z
theorem shaped_setCell (w : World) (a : Addr) (v : Value) : Shaped w (w.setCell a v) := fun b c e z h => by
  by_cases hb : b = a.block
  · subst hb
    refine ⟨if a.spot.isSome then c else c.setIfInBounds a.off v, ?_, ?_⟩
    · show (w.heap.modify a.block _)[a.block]? = _
      rw [Array.getElem?_modify, if_pos rfl, h]
      rfl
    · split <;> simp
  · exact ⟨c, by rw [heap_setCell_other w a b v hb]; exact h, rfl⟩
/-- A write of one's own. -/
theorem did_own {Own : Blk} {Sh : Shd} {W : World} {a : Addr} {v : Value} (h : Own a.block) {es : Array Event} (hes : ∀ e ∈ es, EvIn Own Sh e) : Did Own Sh W (W.setCell a v) es where
  size := by simp
  kept := fun b _ hn _ => heap_setCell_other _ _ _ _ fun e => hn (e ▸ h)
  cels := fun b o _ hn _ => by
    have := heap_setCell_other W a b v fun e => hn (e ▸ h)
    simp only [World.cell?, this]
  shp := shaped_setCell _ _ _
  tape := rfl
  os := rfl
  out := rfl
  evs := fun e he => (hes e he).grow
/-- A write of a cell that is one's own in another's row. -/
theorem did_put {Own : Blk} {Sh : Shd} {W : World} {C i : Nat} {v : Value} (h : Sh.cel C i) {es : Array Event} (hes : ∀ e ∈ es, EvIn Own Sh e) : Did Own Sh W (W.setCell ⟨C, i, none⟩ v) es where
  size := by simp
  kept := fun b _ _ hn => heap_setCell_other _ _ _ _ fun e => hn i (by rw [show b = C from e]; exact h)
  cels := fun b o _ _ hn => World.cell?_setCell_other (w := W) (a := ⟨C, i, none⟩) (b := ⟨b, o, none⟩) (v := v) fun e => hn (by cases e; exact h)
  shp := shaped_setCell _ _ _
  tape := rfl
  os := rfl
  out := rfl
  evs := fun e he => (hes e he).grow
theorem did_alloc {Own : Blk} {Sh : Shd} {W : World} {o : Obj} {es : Array Event} (hes : ∀ e ∈ es, EvIn Own Sh e) : Did Own Sh W (W.alloc o) es where
  size := by show _ ≤ (W.heap.push o).size; simp
  kept := fun b hb _ _ => by
    show (W.heap.push o)[b]? = _
    rw [Array.getElem?_push_lt hb, ← Array.getElem?_eq_getElem]
  cels := fun b o' hb _ _ => by
    have : (W.alloc o).heap[b]? = W.heap[b]? := by
      show (W.heap.push o)[b]? = _
      rw [Array.getElem?_push_lt hb, ← Array.getElem?_eq_getElem]
    simp only [World.cell?, this]
  shp := fun b c e z h => ⟨c, by
    have hb := (Array.getElem?_eq_some_iff.1 h).1
    show (W.heap.push o)[b]? = _
    rw [Array.getElem?_push_lt hb, ← Array.getElem?_eq_getElem, h], rfl⟩
  tape := rfl
  os := rfl
  out := rfl
  evs := fun e he => (hes e he).grow
theorem rely_alloc (Own : Blk) (Sh : Shd) (W : World) (o : Obj) : Rely Own Sh W (W.alloc o) := by
  have hold : ∀ (b : Nat) (q : Obj), W.heap[b]? = some q → (W.alloc o).heap[b]? = some q := fun b q h => by
    have hb := (Array.getElem?_eq_some_iff.1 h).1
    show (W.heap.push o)[b]? = _
    rw [Array.getElem?_push_lt hb, ← Array.getElem?_eq_getElem, h]
  refine ⟨by show _ ≤ (W.heap.push o).size; simp, fun b q _ h => hold b q h, fun b c e z h => ⟨c, hold b _ h, rfl⟩, fun b i v _ hv => ?_, fun b _ ⟨s, m, h⟩ => ⟨s, m, hold b _ h⟩⟩
  cases ho : W.heap[b]? with
  | none => simp [World.cell?, ho] at hv
  | some q =>
    simp only [World.cell?, ho] at hv
    simp only [World.cell?, hold b q ho]
    exact hv
theorem grow_alloc (Own : Blk) (W : World) (o : Obj) : Grow Own W (W.alloc o) = fun x => Own x ∨ x = W.heap.size := by
  funext x
  have : (W.alloc o).heap.size = W.heap.size + 1 := by show (W.heap.push o).size = _; simp
  refine propext ⟨fun h => h.imp id fun ⟨h1, h2⟩ => by omega, fun h => h.imp id fun h => by omega⟩
theorem grow_set (Own : Blk) (W : World) (a : Addr) (v : Value) : Grow Own W (W.setCell a v) = Own := by
  funext x
  refine propext ⟨fun h => ?_, .inl⟩
  rcases h with h | ⟨h1, h2⟩
  · exact h
  · simp at h2; omega
/-- At a point of the text, on the real world. -/
def Rt (Ju : Blk → Goroutine → World → Prop) (RB : List Frame) (B : Frame) (items : List Item) (Own : Blk) (A : Act) (Z : World → Prop) : Prop := ∀ W, Z W → Ju Own (G (B.at A items) RB) W
section
variable {P : Program} {main : Bool} {Sh : Shd} {Ju : Blk → Goroutine → World → Prop} {RB : List Frame} {B : Frame} {Own : Blk} {A : Act} {k : List Item} {Z : World → Prop}
theorem rt_ctl (hJ : Jud P main Sh Ju) (hz : Stable Own Sh Z) {items items' : List Item} (hs : ∀ W1, stepG P main (G (B.at A items) RB) W1 = .go (G (B.at A items') RB) W1 #[]) (h : Rt Ju RB B items' Own A Z) : Rt Ju RB B items Own A Z :=
  fun W z => hJ _ _ _ (Goes'.ctl rfl rfl (fun W1 _ => hs W1) fun W1 hr => .stop (h W1 (hz W W1 hr z)))
theorem rt_seq (hJ : Jud P main Sh Ju) (hz : Stable Own Sh Z) {x y : Code} (h : Rt Ju RB B (.code x :: .code y :: k) Own A Z) : Rt Ju RB B (.code (.seq x y) :: k) Own A Z := rt_ctl hJ hz (fun _ => stepG_seq) h
theorem rt_skip (hJ : Jud P main Sh Ju) (hz : Stable Own Sh Z) (h : Rt Ju RB B k Own A Z) : Rt Ju RB B (.code .skip :: k) Own A Z := rt_ctl hJ hz (fun _ => stepG_skip) h
theorem rt_block (hJ : Jud P main Sh Ju) (hz : Stable Own Sh Z) {id : Nat} {c : Code} (h : Rt Ju RB B (.code c :: .inBlock id :: k) Own A Z) : Rt Ju RB B (.code (.block id c) :: k) Own A Z := rt_ctl hJ hz (fun _ => stepG_block) h
theorem rt_inBlock (hJ : Jud P main Sh Ju) (hz : Stable Own Sh Z) {id : Nat} (h : Rt Ju RB B k Own A Z) : Rt Ju RB B (.inBlock id :: k) Own A Z := rt_ctl hJ hz (fun _ => stepG_inBlock) h
theorem rt_loop (hJ : Jud P main Sh Ju) (hz : Stable Own Sh Z) {c : Code} (h : Rt Ju RB B (.code c :: .inLoop c :: k) Own A Z) : Rt Ju RB B (.code (.loop c) :: k) Own A Z := rt_ctl hJ hz (fun _ => stepG_loop) h
theorem rt_inLoop (hJ : Jud P main Sh Ju) (hz : Stable Own Sh Z) {c : Code} (h : Rt Ju RB B (.code c :: .inLoop c :: k) Own A Z) : Rt Ju RB B (.inLoop c :: k) Own A Z := rt_ctl hJ hz (fun _ => stepG_inLoop) h
theorem rt_exit (hJ : Jud P main Sh Ju) (hz : Stable Own Sh Z) {id : Nat} {k' : List Item} (e : exitTo id k = some k') (h : Rt Ju RB B k' Own A Z) : Rt Ju RB B (.code (.exit id) :: k) Own A Z := rt_ctl hJ hz (fun _ => stepG_exit e) h
theorem rt_region (hJ : Jud P main Sh Ju) (hz : Stable Own Sh Z) {id : Nat} {ops : Array Oper} (h : Rt Ju RB B (.inRegion ops (List.range ops.size) :: k) Own A Z) : Rt Ju RB B (.code (.region id ops false) :: k) Own A Z := rt_ctl hJ hz (fun _ => stepG_region) h
theorem rt_region_end (hJ : Jud P main Sh Ju) (hz : Stable Own Sh Z) {ops : Array Oper} (h : Rt Ju RB B k Own A Z) : Rt Ju RB B (.inRegion ops [] :: k) Own A Z := rt_ctl hJ hz (fun _ => stepG_region_end) h
theorem rt_cond (hJ : Jud P main Sh Ju) (hz : Stable Own Sh Z) {t : Tmp} {x y : Code} {b : Bool} (e : A.eval (.tmp t) = .bool b) (h : Rt Ju RB B (.code (if b then x else y) :: k) Own A Z) : Rt Ju RB B (.code (.cond (.tmp t) x y) :: k) Own A Z := rt_ctl hJ hz (fun _ => stepG_cond e) h
/-- What a step of one's own does. -/
theorem ju_opw (hJ : Jud P main Sh Ju) (hz : Stable Own Sh Z) (hB : B.kind ≠ .early) {ops : Array Oper} {i : Nat} {l : List Nat} {o : Oper} (ho : ops[i]? = some o) (hw : Region.wanted o (yielded ops A.tmps) = true) {v : World → Value} {T : World → World}
    (hrun : ∀ W, Z W → (execOp A.eval o).run P W = .ok (.value (v W)) (T W) ∨ (v W = undef ∧ (execOp A.eval o).run P W = .ok .skip (T W))) (hdid : ∀ W, Z W → Did Own Sh W (T W) ((execOp A.eval o).events P W #[]))
    (h : ∀ W, Z W → Ju (Grow Own W (T W)) (G (B.at (A.put o.dst (v W)) (.inRegion ops l :: k)) RB) (T W)) : Rt Ju RB B (.inRegion ops (i :: l) :: k) Own A Z := fun W z => by
  have key : ∀ W1, Rely Own Sh W W1 → stepG P main (G (B.at A (.inRegion ops (i :: l) :: k)) RB) W1 = .go (G (B.at (A.put o.dst (v W1)) (.inRegion ops l :: k)) RB) (T W1) (listed P B.fn A o W1) := fun W1 hr => by
    rcases hrun W1 (hz W W1 hr z) with h | ⟨hv, h⟩
    · exact stepG_value ho hw hB h
    · rw [hv]; exact stepG_none ho hw hB h
  refine hJ _ _ _ (.step rfl (fun W1 hr => ⟨_, _, _, key W1 hr, ?_, rfl⟩) fun W1 hr g' W' es he => ?_)
  · have hd := hdid W1 (hz W W1 hr z)
    exact { hd with evs := fun e he => hd.evs e (mem_listed he) }
  · rw [key W1 hr] at he
    simp only [GStep.go.injEq] at he
    obtain ⟨rfl, rfl, rfl⟩ := he
    exact .stop (h W1 (hz W W1 hr z))
theorem ju_op (hJ : Jud P main Sh Ju) (hz : Stable Own Sh Z) (hB : B.kind ≠ .early) {ops : Array Oper} {i : Nat} {l : List Nat} {o : Oper} (ho : ops[i]? = some o) (hg : o.guard = none) {v : World → Value} {T : World → World}
    (hrun : ∀ W, Z W → (execOp A.eval o).run P W = .ok (.value (v W)) (T W) ∨ (v W = undef ∧ (execOp A.eval o).run P W = .ok .skip (T W))) (hdid : ∀ W, Z W → Did Own Sh W (T W) ((execOp A.eval o).events P W #[]))
    (h : ∀ W, Z W → Ju (Grow Own W (T W)) (G (B.at (A.put o.dst (v W)) (.inRegion ops l :: k)) RB) (T W)) : Rt Ju RB B (.inRegion ops (i :: l) :: k) Own A Z :=
  ju_opw hJ hz hB ho (by simp [Region.wanted, hg]) hrun hdid h
theorem wanted_of {ops : Array Oper} {o : Oper} {j d : Nat} {w b : Bool} (hg : o.guard = some (j, w)) (hd : (ops[j]?).bind (·.dst) = some d) (h : A.tmps[d]? = some (.bool b)) : Region.wanted o (yielded ops A.tmps) = (b == w) := by
  simp only [Region.wanted, hg, yielded, hd, Option.bind_some, h]
  cases b <;> cases w <;> rfl
/-- An operation that only reads, and is wanted. -/
theorem rt_valw (hJ : Jud P main Sh Ju) (hz : Stable Own Sh Z) (hB : B.kind ≠ .early) {ops : Array Oper} {i : Nat} {l : List Nat} {o : Oper} (ho : ops[i]? = some o) (hw : Region.wanted o (yielded ops A.tmps) = true) {v : Value} {es : Array Event}
    (hrun : ∀ W, Z W → (execOp A.eval o).run P W = .ok (.value v) W ∧ (execOp A.eval o).events P W #[] = es) (hev : ∀ e ∈ es, EvIn Own Sh e) (h : Rt Ju RB B (.inRegion ops l :: k) Own (A.put o.dst v) Z) : Rt Ju RB B (.inRegion ops (i :: l) :: k) Own A Z :=
  ju_opw hJ hz hB ho hw (v := fun _ => v) (T := fun W => W) (fun W z => .inl (hrun W z).1) (fun W z => by rw [(hrun W z).2]; exact .idle _ _ _ hev) fun W z => by rw [grow_self]; exact h W z
/-- An operation that is not wanted. -/
theorem rt_unw (hJ : Jud P main Sh Ju) (hz : Stable Own Sh Z) {ops : Array Oper} {i : Nat} {l : List Nat} {o : Oper} (ho : ops[i]? = some o) (hw : Region.wanted o (yielded ops A.tmps) = false) (h : Rt Ju RB B (.inRegion ops l :: k) Own (A.put o.dst undef) Z) : Rt Ju RB B (.inRegion ops (i :: l) :: k) Own A Z := fun W z =>
  hJ _ _ _ (Goes'.ctl rfl rfl (fun W1 _ => stepG_unwanted ho hw) fun W1 hr => .stop (h W1 (hz W W1 hr z)))
/-- An operation that only reads. -/
theorem rt_val (hJ : Jud P main Sh Ju) (hz : Stable Own Sh Z) (hB : B.kind ≠ .early) {ops : Array Oper} {i : Nat} {l : List Nat} {o : Oper} (ho : ops[i]? = some o) (hg : o.guard = none) {v : Value} {es : Array Event}
    (hrun : ∀ W, Z W → (execOp A.eval o).run P W = .ok (.value v) W ∧ (execOp A.eval o).events P W #[] = es) (hev : ∀ e ∈ es, EvIn Own Sh e) (h : Rt Ju RB B (.inRegion ops l :: k) Own (A.put o.dst v) Z) : Rt Ju RB B (.inRegion ops (i :: l) :: k) Own A Z :=
  ju_op hJ hz hB ho hg (v := fun _ => v) (T := fun W => W) (fun W z => .inl (hrun W z).1) (fun W z => by rw [(hrun W z).2]; exact .idle _ _ _ hev) fun W z => by rw [grow_self]; exact h W z
/-- An operation that makes a block. -/
theorem rt_alloc (hJ : Jud P main Sh Ju) (hz : Stable Own Sh Z) (hB : B.kind ≠ .early) {ops : Array Oper} {i : Nat} {l : List Nat} {o : Oper} (ho : ops[i]? = some o) (hg : o.guard = none) {ob : Obj}
    (hrun : ∀ W, Z W → (execOp A.eval o).run P W = .ok (.value (.pointer (some ⟨W.heap.size, 0, none⟩))) (W.alloc ob) ∧ (execOp A.eval o).events P W #[] = #[])
    (h : ∀ b, (∃ W, Z W ∧ b = W.heap.size) → Rt Ju RB B (.inRegion ops l :: k) (fun x => Own x ∨ x = b) (A.put o.dst (.pointer (some ⟨b, 0, none⟩))) fun W => Z W ∧ W.heap[b]? = some ob) : Rt Ju RB B (.inRegion ops (i :: l) :: k) Own A Z :=
  ju_op hJ hz hB ho hg (v := fun W => .pointer (some ⟨W.heap.size, 0, none⟩)) (T := fun W => W.alloc ob) (fun W z => .inl (hrun W z).1) (fun W z => by rw [(hrun W z).2]; exact did_alloc fun e he => by simp at he) fun W z => by
    rw [grow_alloc]
    exact h _ ⟨W, z, rfl⟩ _ ⟨hz W _ (rely_alloc _ _ _ _) z, by show (W.heap.push ob)[W.heap.size]? = _; simp⟩
/-- A store into a block of one's own. -/
theorem rt_store (hJ : Jud P main Sh Ju) (hz : Stable Own Sh Z) (hB : B.kind ≠ .early) {ops : Array Oper} {i : Nat} {l : List Nat} {o : Oper} (ho : ops[i]? = some o) (hg : o.guard = none) {ad : Addr} {v : Value} {Z' : World → Prop}
    (hrun : ∀ W, Z W → (execOp A.eval o).run P W = .ok .skip (W.setCell ad v) ∧ (execOp A.eval o).events P W #[] = #[⟨.cell ad, true, false⟩]) (hown : Own ad.block) (hZ : ∀ W, Z W → Z' (W.setCell ad v))
    (h : Rt Ju RB B (.inRegion ops l :: k) Own (A.put o.dst undef) Z') : Rt Ju RB B (.inRegion ops (i :: l) :: k) Own A Z :=
  ju_op hJ hz hB ho hg (v := fun _ => undef) (T := fun W => W.setCell ad v) (fun W z => .inr ⟨rfl, (hrun W z).1⟩) (fun W z => by
    rw [(hrun W z).2]
    refine did_own hown fun e he => ?_
    simp at he; subst he
    exact .cell ad true (.inl hown)) fun W z => by rw [grow_set]; exact h _ (hZ W z)
/-- A store into a cell of one's own in another's row. -/
theorem rt_put (hJ : Jud P main Sh Ju) (hz : Stable Own Sh Z) (hB : B.kind ≠ .early) {ops : Array Oper} {i : Nat} {l : List Nat} {o : Oper} (ho : ops[i]? = some o) (hg : o.guard = none) {C j : Nat} {v : Value} {Z' : World → Prop}
    (hrun : ∀ W, Z W → (execOp A.eval o).run P W = .ok .skip (W.setCell ⟨C, j, none⟩ v) ∧ (execOp A.eval o).events P W #[] = #[⟨.cell ⟨C, j, none⟩, true, false⟩]) (hcel : Sh.cel C j) (hZ : ∀ W, Z W → Z' (W.setCell ⟨C, j, none⟩ v))
    (h : Rt Ju RB B (.inRegion ops l :: k) Own (A.put o.dst undef) Z') : Rt Ju RB B (.inRegion ops (i :: l) :: k) Own A Z :=
  ju_op hJ hz hB ho hg (v := fun _ => undef) (T := fun W => W.setCell ⟨C, j, none⟩ v) (fun W z => .inr ⟨rfl, (hrun W z).1⟩) (fun W z => by
    rw [(hrun W z).2]
    refine did_put hcel fun e he => ?_
    simp at he; subst he
    exact .cell _ true (.inr (.inr hcel))) fun W z => by rw [grow_set]; exact h _ (hZ W z)
end
end Go.Proofs.Ytkodpijedinanaa.Sim

namespace Go.Proofs.Ytkodpijedinanaa.Sim
open Go Go.Conc
set_option linter.unusedVariables false
set_option linter.unusedSimpArgs false

/-- A function's contract, by its body. -/
def CallsW (P : Program) (f : FuncId) (args : Array Value) (w : World) (R : Ending → World → Prop) : Prop :=
  ∃ fn c, P.funcs[f]? = some fn ∧ fn.body = some c ∧ c.wp P (bodyPost P fn R) { tmps := args ++ Array.replicate (fn.ntmps - args.size) undef, defers := [] } w
theorem callsW_of {P : Program} {f : FuncId} {fn : Func} {c : Code} {args : Array Value} {w : World} {R : Ending → World → Prop} (hf : P.funcs[f]? = some fn) (hb : fn.body = some c)
    (h : c.wp P (bodyPost P fn R) { tmps := args ++ Array.replicate (fn.ntmps - args.size) undef, defers := [] } w) : CallsW P f args w R := ⟨fn, c, hf, hb, h⟩
theorem CallsW.calls {P : Program} {f : FuncId} {args : Array Value} {w : World} {R : Ending → World → Prop} (h : CallsW P f args w R) : Calls P f args w R := by
  obtain ⟨fn, c, hf, hb, h⟩ := h
  exact calls_of_wp hf hb h
theorem CallsW.mono {P : Program} {f : FuncId} {args : Array Value} {w : World} {R R' : Ending → World → Prop} (h : CallsW P f args w R) (k : ∀ e w, R e w → R' e w) : CallsW P f args w R' := by
  obtain ⟨fn, c, hf, hb, h⟩ := h
  refine ⟨fn, c, hf, hb, wp_mono h fun e a w q => ?_⟩
  cases e with
  | normal => obtain ⟨h1, v, h2, h3⟩ := q; exact ⟨h1, v, h2, k _ _ h3⟩
  | ret => obtain ⟨h1, v, h2, h3⟩ := q; exact ⟨h1, v, h2, k _ _ h3⟩
  | panic c => exact ⟨q.1, k _ _ q.2⟩
  | outgrown => exact k _ _ q
  | _ => exact q
/-- What one only reads. -/
def rdo (Own : Blk) (Sh : Shd) : Shd := ⟨fun b => Sh b ∨ Own b, fun _ _ => False, fun _ => False⟩
theorem Rely.rdo {Own : Blk} {Sh : Shd} {Oc : Blk} {W W1 : World} (h : Rely (fun b => Own b ∨ Oc b) Sh W W1) : Rely Oc (rdo Own Sh) W W1 :=
  ⟨h.size, fun b o hb ho => h.kept b o (by rcases hb with hb | hb | hb; exact .inl (.inr hb); exact .inr hb; exact .inl (.inl hb)) ho, h.shp, fun _ _ _ hb => hb.elim, fun _ hb => hb.elim⟩
/-- A way on which all that is older is only read, among what one has. -/
theorem goes_frame {P : Program} {main : Bool} {Own : Blk} {Sh : Shd} {Stop : Blk → Goroutine → World → Prop} {W0 : World} : ∀ {Oc : Blk} {g : Goroutine} {W : World}, Goes' P main (rdo Own Sh) Stop Oc g W → (∀ b, Oc b → W0.heap.size ≤ b) → Rely Own Sh W0 W →
    Goes' P main Sh (fun O g W' => ∃ Oc', (O = fun b => Own b ∨ Oc' b) ∧ (∀ b, Oc' b → W0.heap.size ≤ b) ∧ Stop Oc' g W' ∧ Rely Own Sh W0 W') (fun b => Own b ∨ Oc b) g W := by
  intro Oc g W h
  induction h with
  | stop h => intro h1 h2; exact .stop ⟨_, rfl, h1, h, h2⟩
  | @step Oc g W hs h1 h2 ih =>
    intro h3 h4
    have hgr : ∀ W1 W' : World, Grow (fun b => Own b ∨ Oc b) W1 W' = fun b => Own b ∨ Grow Oc W1 W' b := fun W1 W' => by
      funext b
      refine propext ⟨fun h => ?_, fun h => ?_⟩
      · rcases h with (h | h) | h
        · exact .inl h
        · exact .inr (.inl h)
        · exact .inr (.inr h)
      · rcases h with h | h | h
        · exact .inl (.inl h)
        · exact .inl (.inr h)
        · exact .inr h
    refine .step hs (fun W1 hr => ?_) fun W1 hr g' W' es he => ?_
    · obtain ⟨g', W', es, e1, e2, e3⟩ := h1 W1 hr.rdo
      refine ⟨g', W', es, e1, ⟨e2.size, fun b hb hn _ => e2.kept b hb (fun h => hn (.inr h)) fun _ h => h, fun b o hb hn _ => e2.cels b o hb (fun h => hn (.inr h)) (fun h => h), e2.shp, e2.tape, e2.os, e2.out, fun e he => ?_⟩, e3⟩
      have := e2.evs e he
      rw [hgr]
      cases this with
      | cell p wr h =>
        refine .cell p wr ?_
        rcases h with h | ⟨h | h, hw⟩ | h
        · exact .inl (.inr h)
        · exact .inr (.inl ⟨h, hw⟩)
        · exact .inl (.inl h)
        · exact h.elim
      | obj r s => exact .obj r s
      | noRoom => exact .noRoom
    · obtain ⟨g2, W2, es2, e1, e2, e3⟩ := h1 W1 hr.rdo
      rw [e1] at he
      simp only [GStep.go.injEq] at he
      obtain ⟨rfl, rfl, rfl⟩ := he
      rw [hgr]
      have h5 : Rely Own Sh W0 W1 := h4.trans (hr.less (fun x hx => hx.imp .inl id) (fun _ _ h => .inl h) fun _ h => .inl h)
      refine ih W1 hr.rdo _ _ _ e1 (fun b hb => ?_) ⟨Nat.le_trans h5.size e2.size, fun b o hb ho => ?_, h5.shp.trans e2.shp, fun b o v hb hv => ?_, fun b hb ⟨s, m, hg⟩ => ?_⟩
      · rcases hb with hb | ⟨hb, _⟩
        · exact h3 b hb
        · exact Nat.le_trans h5.size hb
      · have hlt := (Array.getElem?_eq_some_iff.1 ho).1
        rw [e2.kept b (Nat.lt_of_lt_of_le hlt h5.size) (fun h => by have := h3 b h; omega) fun _ h => h]
        exact h5.kept b o hb ho
      · have hlt : b < W0.heap.size := by
          unfold World.cell? at hv
          cases ho : W0.heap[b]? with
          | none => simp only [ho] at hv; cases hv
          | some q => exact (Array.getElem?_eq_some_iff.1 ho).1
        rw [e2.cels b o (Nat.lt_of_lt_of_le hlt h5.size) (fun h => by have := h3 b h; omega) fun h => h]
        exact h5.cel b o v hb hv
      · have hlt := (Array.getElem?_eq_some_iff.1 (show W0.heap[b]? = some _ from hg)).1
        obtain ⟨s', m', hg'⟩ := h5.grp b hb ⟨s, m, hg⟩
        refine ⟨s', m', ?_⟩
        show _ = _
        rw [e2.kept b (Nat.lt_of_lt_of_le hlt h5.size) (fun h => by have := h3 b h; omega) fun _ h => h]
        exact hg'
/-- What is known when a called function returns. -/
structure Back (V : Vis) (Own : Blk) (Sh : Shd) (W0 : World) (Q : Value → World → Prop) (O : Blk) (VV : Value) (W' : World) : Prop where
  rely : Rely Own Sh W0 W'
  ex : ∃ (ρ : Ren) (v : Value) (w : World) (F Oc : Blk), (O = fun b => Own b ∨ Oc b) ∧ (∀ b, Oc b → W0.heap.size ≤ b) ∧ WRel ρ w W' ∧ Froz F w ∧ Ren.le (rhoV V W0.heap.size) ρ ∧ (∀ a b, ρ a b → ¬ F a → Oc b) ∧ (∀ a b, ρ a b → F a → ¬ Opq w a → Sh b ∨ Own b) ∧ VRel ρ v VV ∧ ∃ τ d, Q v (lay w τ d)
section
variable {P : Program} {main : Bool} {Sh : Shd} {Ju : Blk → Goroutine → World → Prop} {RB : List Frame} {B : Frame} {Own : Blk} {A : Act} {k : List Item} {Z : World → Prop}
/-- A call, by the body's lone contract: all that is older is only read. -/
theorem rt_callw (hF : FnsOk2 P) (hJ : Jud P main Sh Ju) (hz : Stable Own Sh Z) (hB : B.kind ≠ .early) {ops : Array Oper} {i : Nat} {l : List Nat} {o : Oper} (ho : ops[i]? = some o) (hw : Region.wanted o (yielded ops A.tmps) = true) {f : FuncId} {fn : Func} {c : Code} {args : Array Operand} {ats : Array TypeId}
    (hop : o.op = .call { callee := .value (.func f), args, argTypes := ats }) (hf : P.funcs[f]? = some fn) (hname : (fn.name == "runtime.NumGoroutine") = false) (hb : fn.body = some c) (hcc : okCode P c = true) (hres : resB fn = true) {argsR : Array Value} (hargs : args.map A.eval = argsR)
    {V : World → Vis} (hV : ∀ W, Z W → (∀ b, (V W).own b → False) ∧ (V W).Ok (fun _ => False) (rdo Own Sh) W) (hgl : ∀ W, Z W → P.globals.size ≤ W.heap.size) {Q : World → Value → World → Prop}
    (hcall : ∀ W, Z W → ∀ τ d, CallsW P f (argsR.map (sanV (V W) W.heap.size)) (lay (fresh (V W) W) τ d) fun e w' => ∃ v, e = .returned v ∧ Q W v w')
    (hn : ∀ W, Z W → ∀ O VV W', Back (V W) Own Sh W (Q W) O VV W' → Ju O (G (B.at (A.put o.dst VV) (.inRegion ops l :: k)) RB) W') : Rt Ju RB B (.inRegion ops (i :: l) :: k) Own A Z := fun W z => by
  refine hJ _ _ _ (call_enter hB ho hw hop hf hname hb fun W1 hr => ?_)
  have z1 := hz W W1 hr z
  rw [hargs]
  obtain ⟨hno, hVk⟩ := hV W1 z1
  have m0 := mat_fresh (P := P) hVk (hgl W1 z1) { tmps := argsR, defers := [] }
  have m : Mat P ((V W1).F W1.heap.size) (fun _ => False) (rdo Own Sh) (rhoV (V W1) W1.heap.size) { tmps := argsR.map (sanV (V W1) W1.heap.size) ++ Array.replicate (fn.ntmps - argsR.size) undef, defers := [] } { tmps := argsR ++ Array.replicate (fn.ntmps - argsR.size) undef, defers := [] } (fresh (V W1) W1) W1 := by
    refine { m0 with row := RowRel.append m0.row ⟨by simp, fun i v u h1 h2 => ?_⟩ }
    simp only [Array.getElem?_replicate] at h1 h2
    split at h1
    · rename_i hlt
      rw [if_pos hlt] at h2
      cases h1; cases h2
      exact .tuple rfl (fun i v w a b => by simp at a)
    · cases h1
  let St : Blk → Goroutine → World → Prop := fun Oc g W' => ∃ (ρ : Ren) (v VV : Value) (w : World) (A' : Act) (todo : List Item), g = G { (base f).at A' todo with mode := .returning } (B.at A (.inRegion ops (i :: l) :: k) :: RB) ∧ A'.defers = [] ∧ (results fn A'.tmps = .pure VV) ∧
    WRel ρ w W' ∧ Froz ((V W1).F W1.heap.size) w ∧ Ren.le (rhoV (V W1) W1.heap.size) ρ ∧ (∀ a b, ρ a b → ¬ (V W1).F W1.heap.size a → Oc b) ∧ (∀ a b, ρ a b → (V W1).F W1.heap.size a → ¬ Opq w a → Sh b ∨ Own b) ∧ VRel ρ v VV ∧ ∃ τ d, Q W1 v (lay w τ d)
  have hgo : Goes' P main (rdo Own Sh) St (fun _ => False) (G ((base f).at { tmps := argsR ++ Array.replicate (fn.ntmps - argsR.size) undef, defers := [] } [.code c]) (B.at A (.inRegion ops (i :: l) :: k) :: RB)) W1 := by
    have hfin : ∀ ρ' a' A' w' W' Own', Mat P ((V W1).F W1.heap.size) Own' (rdo Own Sh) ρ' a' A' w' W' → A'.defers = [] → Ren.le (rhoV (V W1) W1.heap.size) ρ' → (∃ τ d, bodyPost P fn (fun e w' => ∃ v, e = .returned v ∧ Q W1 v w') .ret a' (lay w' τ d)) → ∀ todo, St Own' (G { (base f).at A' todo with mode := .returning } (B.at A (.inRegion ops (i :: l) :: k) :: RB)) W' := by
      intro ρ' a' A' w' W' Own' m' hD hle hq todo
      obtain ⟨τ, d, _, v0, hv0, v, e, hq⟩ := hq
      cases e
      obtain ⟨v1, v2, e1, e2, e3⟩ := results_rel (P := P) m'.row hres
      rw [e1] at hv0
      simp only [Sem.run, Result.ok.injEq] at hv0
      obtain ⟨rfl, _⟩ := hv0
      exact ⟨ρ', v1, v2, w', A', todo, rfl, hD, e2, m'.wr, m'.fz, hle, m'.own, m'.sh, e3, τ, d, hq⟩
    refine piece hF m hcc (b := base f) (B := base f) rfl (by simp [base]) rfl ⟨fn, hf, hres⟩ (Q := fun e a w => (e = .normal ∨ e = .ret) ∧ bodyPost P fn (fun e w' => ∃ v, e = .returned v ∧ Q W1 v w') .ret a w) (fun e a w h => h.1) (fun τ d => ?_) [] _ (fun ρ' a' A' w' W' Own' m' hD hle ho hq => ?_) (fun ρ' a' A' w' W' Own' m' hD hle ho hq todo => .stop (hfin ρ' a' A' w' W' Own' m' hD hle (by obtain ⟨τ, d, _, hq⟩ := hq; exact ⟨τ, d, hq⟩) todo))
    · obtain ⟨fn', c', hf', hb', hwp⟩ := hcall W1 z1 τ d
      rw [hf] at hf'
      cases hf'
      rw [hb] at hb'
      cases hb'
      simp only [Array.size_map] at hwp
      refine wp_mono hwp fun e a w q => ?_
      cases e with
      | normal => exact ⟨.inl rfl, q⟩
      | ret => exact ⟨.inr rfl, q⟩
      | panic c => obtain ⟨_, v, e, _⟩ := q; cases e
      | outgrown => obtain ⟨v, e, _⟩ := q; cases e
      | _ => exact q.elim
    · refine Goes'.ctl rfl rfl (g' := G { (base f).at A' [] with mode := .returning } (B.at A (.inRegion ops (i :: l) :: k) :: RB)) (fun W2 _ => stepG_end) fun W2 hr2 => .stop (hfin ρ' a' A' w' W2 Own' (m'.rely hr2) hD hle (by obtain ⟨τ, d, _, hq⟩ := hq; exact ⟨τ, d, hq⟩) [])
  have hgf := goes_frame (W0 := W1) hgo (fun _ h => h.elim) (.refl _ _ _)
  have e0 : (fun b => Own b ∨ (fun _ : Nat => False) b) = Own := by funext b; simp
  rw [e0] at hgf
  refine hgf.bind fun O g W' hst => ?_
  obtain ⟨Oc, rfl, hfr, ⟨ρ, v, VV, w, A', todo, rfl, hD, hr2, h1, h2, h3, h4, h5, h6, τ, d, hq⟩, hrel⟩ := hst
  refine Goes'.ctl rfl rfl (g' := G (B.at (A.put o.dst VV) (.inRegion ops l :: k)) RB) (fun W2 _ => ?_) fun W2 hr2' => .stop (hn W1 z1 _ VV W2 ⟨?_, ρ, v, w, _, Oc, rfl, hfr, ?_, h2, h3, h4, h5, h6, τ, d, hq⟩)
  · rw [stepG_leave rfl hD hf (by rw [hr2]; rfl) (by rw [hr2]; rfl), Frame.finish_at, ho]
    rfl
  · exact hrel.trans (hr2'.less (fun x hx => hx.imp .inl id) (fun _ _ h => .inl h) fun _ h => .inl h)
  · refine h1.rely hr2' fun a b hab => ?_
    by_cases hFa : (V W1).F W1.heap.size a
    · by_cases ho' : Opq w a
      · exact .inr ho'
      · rcases h5 a b hab hFa ho' with h | h
        · exact .inl (.inr h)
        · exact .inl (.inl (.inl h))
    · exact .inl (.inl (.inr (h4 a b hab hFa)))
theorem rt_call (hF : FnsOk2 P) (hJ : Jud P main Sh Ju) (hz : Stable Own Sh Z) (hB : B.kind ≠ .early) {ops : Array Oper} {i : Nat} {l : List Nat} {o : Oper} (ho : ops[i]? = some o) (hg : o.guard = none) {f : FuncId} {fn : Func} {c : Code} {args : Array Operand} {ats : Array TypeId}
    (hop : o.op = .call { callee := .value (.func f), args, argTypes := ats }) (hf : P.funcs[f]? = some fn) (hname : (fn.name == "runtime.NumGoroutine") = false) (hb : fn.body = some c) (hcc : okCode P c = true) (hres : resB fn = true) {argsR : Array Value} (hargs : args.map A.eval = argsR)
    {V : World → Vis} (hV : ∀ W, Z W → (∀ b, (V W).own b → False) ∧ (V W).Ok (fun _ => False) (rdo Own Sh) W) (hgl : ∀ W, Z W → P.globals.size ≤ W.heap.size) {Q : World → Value → World → Prop}
    (hcall : ∀ W, Z W → ∀ τ d, CallsW P f (argsR.map (sanV (V W) W.heap.size)) (lay (fresh (V W) W) τ d) fun e w' => ∃ v, e = .returned v ∧ Q W v w')
    (hn : ∀ W, Z W → ∀ O VV W', Back (V W) Own Sh W (Q W) O VV W' → Ju O (G (B.at (A.put o.dst VV) (.inRegion ops l :: k)) RB) W') : Rt Ju RB B (.inRegion ops (i :: l) :: k) Own A Z :=
  rt_callw hF hJ hz hB ho (by simp [Region.wanted, hg]) hop hf hname hb hcc hres hargs hV hgl hcall hn
end
end Go.Proofs.Ytkodpijedinanaa.Sim
