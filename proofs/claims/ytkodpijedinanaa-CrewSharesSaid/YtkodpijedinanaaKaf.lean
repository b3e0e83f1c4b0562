/- Texts that the claim imports, laid together: CrK CrL CrM. No statement of their own. -/
import Derived.Conc.Own2
import Derived.Conc.Comm2
import Derived.Test.YtkodpijedinanaaKae
namespace Go.Proofs.Ytkodpijedinanaa.Sim
open Go Go.Conc
set_option linter.unusedVariables false
set_option linter.unusedSimpArgs false

theorem fns_ok : FnsOk2 Try.prog := fnsOk2 (by kernel_rfl)
/-- A value of the shadow's for one of the start's. -/
def sanV (φ : Nat → Bool) (base : Nat) : Value → Value
  | .bool b => .bool b
  | .int k n => .int k n
  | .string s => .string s
  | .pointer none => .pointer none
  | .pointer (some a) => if φ a.block then .pointer (some { a with block := base + a.block }) else .tuple #[]
  | .slice none n c => .slice none n c
  | .slice (some a) n c => if φ a.block then .slice (some { a with block := base + a.block }) n c else if n = 0 ∧ c = 0 then .slice none 0 0 else .tuple #[]
  | .map none => .map none
  | .chan none => .chan none
  | .nilFunc => .nilFunc
  | .nilIface => .nilIface
  | .agg c => .agg (c.attach.map fun x => sanV φ base x.1)
  | .float _ _ => .tuple #[]
  | .complex _ _ _ => .tuple #[]
  | .map (some _) => .tuple #[]
  | .chan (some _) => .tuple #[]
  | .func _ _ _ => .tuple #[]
  | .iface _ _ => .tuple #[]
  | .tuple _ => .tuple #[]
  termination_by v => SizeOf.sizeOf v
  decreasing_by
    have := Array.sizeOf_lt_of_mem x.2
    simp only [Value.agg.sizeOf_spec]
    omega
def rho0 (φ : Nat → Bool) (base : Nat) : Ren := fun x b => x = base + b ∧ φ b = true
theorem sanV_rel (φ : Nat → Bool) (base : Nat) : ∀ v : Value, VRel (rho0 φ base) (sanV φ base v) v
  | .bool b => by rw [sanV]; exact .bool b
  | .int k n => by rw [sanV]; exact .int k n
  | .string s => by rw [sanV]; exact .string s
  | .float k b => by rw [sanV]; exact .junkF k b
  | .complex k a b => by rw [sanV]; exact .junkC k a b
  | .pointer none => by rw [sanV]; exact .ptrNil
  | .pointer (some a) => by
    rw [sanV]
    split
    · rename_i h; exact .ptr ⟨⟨rfl, h⟩, rfl, rfl⟩
    · exact .junkP _
  | .slice none n c => by rw [sanV]; exact .sliceNil n c
  | .slice (some a) n c => by
    rw [sanV]
    split
    · rename_i h; exact .slice n c ⟨⟨rfl, h⟩, rfl, rfl⟩
    · split
      · rename_i h; obtain ⟨rfl, rfl⟩ := h; exact .sliceE a
      · exact .junkS _ _ _
  | .map none => by rw [sanV]; exact .mapNil
  | .map (some r) => by rw [sanV]; exact .junkM _
  | .chan none => by rw [sanV]; exact .chanNil
  | .chan (some r) => by rw [sanV]; exact .junkH _
  | .func f a b => by rw [sanV]; exact .junkG f a b
  | .nilFunc => by rw [sanV]; exact .nilFunc
  | .iface t v => by rw [sanV]; exact .junkI t v
  | .nilIface => by rw [sanV]; exact .nilIface
  | .tuple c => by rw [sanV]; exact .junkT c
  | .agg c => by
    rw [sanV]
    refine .agg (by simp) fun i v w hv hw => ?_
    have hm : w ∈ c := Array.mem_of_getElem? hw
    have : v = sanV φ base w := by
      simp only [Array.getElem?_map, Option.map_eq_some_iff] at hv
      obtain ⟨y, hy, rfl⟩ := hv
      have : y.1 = w := by
        obtain ⟨h1, h2⟩ := Array.getElem?_eq_some_iff.1 hy
        obtain ⟨h3, h4⟩ := Array.getElem?_eq_some_iff.1 hw
        rw [← h2, ← h4]
        simp
      rw [this]
    rw [this]
    exact sanV_rel φ base w
  termination_by v => SizeOf.sizeOf v
  decreasing_by
    have := Array.sizeOf_lt_of_mem hm
    simp only [Value.agg.sizeOf_spec]
    omega
/-- Which of the start's blocks are rows. -/
def isRow (W : World) (b : Nat) : Bool := match W.heap[b]? with
  | some (.cells _ _ _) => true
  | _ => false
def sanO (φ : Nat → Bool) (base : Nat) : Obj → Obj
  | .cells c e z => .cells (c.map (sanV φ base)) e (0, c.size)
  | o => o
/-- The shadow of the start: the start, and behind it a copy of each row, frozen. -/
def shadow0 (W : World) : World := { W with heap := W.heap ++ W.heap.map (sanO (isRow W) W.heap.size) }
theorem shadow0_get (W : World) (b : Nat) : (shadow0 W).heap[W.heap.size + b]? = (W.heap[b]?).map (sanO (isRow W) W.heap.size) := by
  show (W.heap ++ W.heap.map _)[W.heap.size + b]? = _
  rw [Array.getElem?_append_right (by omega)]
  simp
theorem shadow0_cell (W : World) (a : Addr) (v : Value) (h : W.cell? a = some v) : (shadow0 W).cell? { a with block := W.heap.size + a.block } = some (sanV (isRow W) W.heap.size v) := by
  unfold World.cell? at h ⊢
  rw [shadow0_get]
  cases ho : W.heap[a.block]? with
  | none => rw [ho] at h; cases h
  | some o =>
    rw [ho] at h
    cases o with
    | cells c e z =>
      simp only [Option.map_some, sanO] at h ⊢
      split at h
      · cases h
      · rename_i hs
        rw [if_neg hs, Array.getElem?_map, h]
        rfl
    | _ => cases h
theorem isRow_of_cell {W : World} {a : Addr} {v : Value} (h : W.cell? a = some v) : isRow W a.block = true := by
  unfold World.cell? at h
  unfold isRow
  split at h
  · rename_i c e z h1; rw [h1]
  · cases h
/-- The start, matched. -/
theorem mat_start (W : World) (hg : Try.prog.globals.size ≤ W.heap.size) (args : Array Value) (n : Nat) :
    Mat Try.prog (fun x => ∃ b, x = W.heap.size + b ∧ isRow W b = true) (fun _ => False) (fun b => b < W.heap.size) (rho0 (isRow W) W.heap.size)
      { tmps := args.map (sanV (isRow W) W.heap.size) ++ Array.replicate n undef, defers := [] } { tmps := args ++ Array.replicate n undef, defers := [] } (shadow0 W) W where
  row := by
    refine RowRel.append ⟨by simp, fun i v u h1 h2 => ?_⟩ ⟨by simp, fun i v u h1 h2 => ?_⟩
    · simp only [Array.getElem?_map, Option.map_eq_some_iff] at h1
      obtain ⟨x, hx, rfl⟩ := h1
      rw [hx] at h2
      cases h2
      exact sanV_rel _ _ _
    · simp only [Array.getElem?_replicate] at h1 h2
      split at h1
      · rename_i hlt
        rw [if_pos hlt] at h2
        cases h1; cases h2
        exact .tuple rfl (fun i v w a b => by simp at a)
      · cases h1
  d := rfl
  D := rfl
  wr := by
    refine ⟨fun x b hxb => ?_, fun x b b' h1 h2 => ?_, fun x x' b h1 h2 => ?_⟩
    · obtain ⟨rfl, hr⟩ := hxb
      unfold isRow at hr
      split at hr
      · rename_i c e z hc
        refine ⟨_, _, by rw [shadow0_get, hc]; rfl, hc, .cells e ⟨by simp, fun i v u h1 h2 => ?_⟩ fun i _ _ hi => ⟨Nat.zero_le _, by simpa using hi⟩⟩
        simp only [Array.getElem?_map, Option.map_eq_some_iff] at h1
        obtain ⟨y, hy, rfl⟩ := h1
        rw [hy] at h2
        cases h2
        exact sanV_rel _ _ _
      · cases hr
    · obtain ⟨e1, _⟩ := h1
      obtain ⟨e2, _⟩ := h2
      omega
    · obtain ⟨e1, _⟩ := h1
      obtain ⟨e2, _⟩ := h2
      omega
  above := fun x b hxb => by obtain ⟨rfl, _⟩ := hxb; omega
  size := by show _ ≤ (W.heap ++ W.heap.map _).size; simp only [Array.size_append]; omega
  size' := hg
  fz := fun x hx => by
    obtain ⟨b, rfl, hr⟩ := hx
    unfold isRow at hr
    split at hr
    · rename_i c e z hc
      refine .inl ⟨c.map (sanV (isRow W) W.heap.size), e, ?_⟩
      rw [shadow0_get, hc]
      simp [sanO]
    · cases hr
  own := fun x b hxb hn => hn ⟨b, hxb⟩
  sh := fun x b hxb _ => by
    obtain ⟨_, hr⟩ := hxb
    unfold isRow at hr
    split at hr
    · rename_i c e z hc
      exact (Array.getElem?_eq_some_iff.1 hc).1
    · cases hr
end Go.Proofs.Ytkodpijedinanaa.Sim

namespace Go.Proofs.Ytkodpijedinanaa.Sim
open Go Go.Conc
set_option linter.unusedVariables false
set_option linter.unusedSimpArgs false

/-- A value, less what lies in other blocks. -/
noncomputable def clipV (F : Blk) : Value → Value
  | .bool b => .bool b
  | .int k n => .int k n
  | .string s => .string s
  | .pointer none => .pointer none
  | .pointer (some a) => open Classical in if F a.block then .pointer (some a) else .tuple #[]
  | .slice none n c => .slice none n c
  | .slice (some a) n c => open Classical in if F a.block then .slice (some a) n c else .tuple #[]
  | .map none => .map none
  | .map (some r) => open Classical in if F r then .map (some r) else .tuple #[]
  | .chan none => .chan none
  | .chan (some r) => open Classical in if F r then .chan (some r) else .tuple #[]
  | .nilFunc => .nilFunc
  | .nilIface => .nilIface
  | .agg c => .agg (c.attach.map fun x => clipV F x.1)
  | .float _ _ => .tuple #[]
  | .complex _ _ _ => .tuple #[]
  | .func _ _ _ => .tuple #[]
  | .iface _ _ => .tuple #[]
  | .tuple _ => .tuple #[]
  termination_by v => SizeOf.sizeOf v
  decreasing_by
    have := Array.sizeOf_lt_of_mem x.2
    simp only [Value.agg.sizeOf_spec]
    omega
def restr (ρ : Ren) (F : Blk) : Ren := fun x b => ρ x b ∧ F x
section
theorem clip_rel {ρ : Ren} (F : Blk) {v u : Value} (h : VRel ρ v u) : VRel (restr ρ F) (clipV F v) u := by
  induction h with
  | junkS a n c => rw [clipV]; exact .junkS a n c
  | junkP a => rw [clipV]; exact .junkP a
  | junkF k b => rw [clipV]; exact .junkF k b
  | junkC k a b => rw [clipV]; exact .junkC k a b
  | junkM m => rw [clipV]; exact .junkM m
  | junkH c => rw [clipV]; exact .junkH c
  | junkG f a b => rw [clipV]; exact .junkG f a b
  | junkI t v => rw [clipV]; exact .junkI t v
  | junkT c => rw [clipV]; exact .junkT c
  | bool b => rw [clipV]; exact .bool b
  | int k n => rw [clipV]; exact .int k n
  | string s => rw [clipV]; exact .string s
  | ptrNil => rw [clipV]; exact .ptrNil
  | ptr h =>
    rw [clipV]
    split
    · rename_i hF; exact .ptr ⟨⟨h.1, hF⟩, h.2⟩
    · exact .junkP _
  | sliceNil n c => rw [clipV]; exact .sliceNil n c
  | sliceE a => rw [clipV]; exact .sliceE a
  | slice n c h =>
    rw [clipV]
    split
    · rename_i hF; exact .slice n c ⟨⟨h.1, hF⟩, h.2⟩
    · exact .junkS _ _ _
  | mapNil => rw [clipV]; exact .mapNil
  | map h =>
    rw [clipV]
    split
    · rename_i hF; exact .map ⟨h, hF⟩
    · exact .junkM _
  | chanNil => rw [clipV]; exact .chanNil
  | chan h =>
    rw [clipV]
    split
    · rename_i hF; exact .chan ⟨h, hF⟩
    · exact .junkH _
  | func fn h0 h1 _ h2 _ ih1 ih2 => rw [clipV]; exact .junkG _ _ _
  | nilFunc => rw [clipV]; exact .nilFunc
  | iface t _ ih => rw [clipV]; exact .junkI _ _
  | nilIface => rw [clipV]; exact .nilIface
  | @agg c d h1 _ ih =>
    rw [clipV]
    refine .agg (by simp [h1]) fun i v w hv hw => ?_
    simp only [Array.getElem?_map, Option.map_eq_some_iff] at hv
    obtain ⟨y, hy, rfl⟩ := hv
    obtain ⟨y, hym⟩ := y
    have hc : c[i]? = some y := by
      obtain ⟨q1, q2⟩ := Array.getElem?_eq_some_iff.1 hy
      simp only [Array.getElem_attach, Subtype.mk.injEq] at q2
      rw [← q2]
      exact Array.getElem?_eq_getElem _
    exact ih i y w hc hw
  | tuple h1 _ ih => rw [clipV]; exact .junkT _
theorem clip_row {ρ : Ren} (F : Blk) {c d : Array Value} (h : RowRel ρ c d) : RowRel (restr ρ F) (c.map (clipV F)) d := ⟨by simp [h.1], fun i v w hv hw => by
  simp only [Array.getElem?_map, Option.map_eq_some_iff] at hv
  obtain ⟨y, hy, rfl⟩ := hv
  exact clip_rel F (h.2 i y w hy hw)⟩
end
noncomputable def clipO (F : Blk) : Obj → Obj
  | .cells c e z => .cells (c.map (clipV F)) e z
  | o => o
/-- The shadow of the shared, less what points elsewhere. -/
noncomputable def clip (F : Blk) (w : World) : World := { w with heap := w.heap.map (clipO F) }
theorem clip_get (F : Blk) (w : World) (i : Nat) : (clip F w).heap[i]? = (w.heap[i]?).map (clipO F) := by
  show (w.heap.map _)[i]? = _
  simp
theorem clip_size (F : Blk) (w : World) : (clip F w).heap.size = w.heap.size := by
  show (w.heap.map _).size = _
  simp
theorem clip_lay (F : Blk) (w : World) (τ : Tape) (d : Nat) : lay (clip F w) τ d = clip F (lay w τ d) := rfl
theorem clip_cell (F : Blk) (w : World) (a : Addr) {v : Value} (h : w.cell? a = some v) : (clip F w).cell? a = some (clipV F v) := by
  unfold World.cell? at h ⊢
  rw [clip_get]
  cases ho : w.heap[a.block]? with
  | none => rw [ho] at h; cases h
  | some o =>
    rw [ho] at h
    cases o with
    | cells c e z =>
      simp only [Option.map_some, clipO] at h ⊢
      split at h
      · cases h
      · rename_i hs
        rw [if_neg hs, Array.getElem?_map, h]
        rfl
    | _ => cases h
section
/-- A worker's beginning, matched: it knows the shared. -/
theorem Mat.worker {P : Program} {F Own Sh : Blk} {ρ : Ren} {a A : Act} {w W : World} (m : Mat P F Own Sh ρ a A w W) {c d : Array Value} (h : RowRel ρ c d) :
    Mat P F (fun _ => False) Sh (restr ρ F) { tmps := c.map (clipV F), defers := [] } { tmps := d, defers := [] } (clip F w) W where
  row := clip_row F h
  d := rfl
  D := rfl
  wr := by
    refine ⟨fun x b hxb => ?_, fun x b b' h1 h2 => m.wr.fn _ _ _ h1.1 h2.1, fun x x' b h1 h2 => m.wr.inj _ _ _ h1.1 h2.1⟩
    obtain ⟨o, o', h1, h2, h3⟩ := m.wr.dom x b hxb.1
    refine ⟨clipO F o, o', by rw [clip_get, h1]; rfl, h2, ?_⟩
    cases h3 with
    | cells e hr hf => exact .cells e (clip_row F hr) fun i h1 h2 h3 => hf i h1 h2 (by simpa using h3)
    | number l hn =>
      rcases m.fz x hxb.2 with ⟨c, e, h⟩ | ⟨p, f, s, r, t, h⟩ <;> (rw [h] at h1; cases h1)
    | chan => exact .chan
  above := fun x b hxb => m.above x b hxb.1
  size := by rw [clip_size]; exact m.size
  size' := m.size'
  fz := fun x hx => by
    rcases m.fz x hx with ⟨c, e, h⟩ | ⟨p, f, s, r, t, h⟩
    · exact .inl ⟨c.map (clipV F), e, by rw [clip_get, h]; simp [clipO]⟩
    · exact .inr ⟨p, f, s, r, t, by rw [clip_get, h]; rfl⟩
  own := fun x b hxb hn => absurd hxb.2 hn
  sh := fun x b hxb hF => m.sh x b hxb.1 hF
end
end Go.Proofs.Ytkodpijedinanaa.Sim

namespace Go.Proofs.Ytkodpijedinanaa.Sim
open Go Go.Conc
set_option linter.unusedVariables false
set_option linter.unusedSimpArgs false

section
theorem Mat.heap {P : Program} {F Own Sh : Blk} {ρ : Ren} {a A : Act} {w w' W : World} (m : Mat P F Own Sh ρ a A w W) (h : w'.heap = w.heap) : Mat P F Own Sh ρ a A w' W :=
  { m with wr := ⟨by rw [h]; exact m.wr.dom, m.wr.fn, m.wr.inj⟩, size := by rw [h]; exact m.size, fz := fun x hx => by rw [h]; exact m.fz x hx }
theorem pt_heap {P : Program} {F Sh : Blk} {Ju : Blk → Goroutine → World → Prop} {RB : List Frame} {B : Frame} {items : List Item} {Own : Blk} {ρ : Ren} {a A : Act} {w w' : World} (h : w'.heap = w.heap) (hp : Pt P F Sh Ju RB B items Own ρ a A w) : Pt P F Sh Ju RB B items Own ρ a A w' :=
  fun W m => hp W (m.heap h.symm)
section
variable {P : Program} {W0 : World} {lo n : Nat} {Post : Value → World → Prop} {pend : Nat → Option (Nat × Prm)} {F Own Sh : Blk} {ρ : Ren} {a A : Act} {w : World} {RB : List Frame} {B : Frame} {items k : List Item}
theorem pt_low (h : (∀ b, Own b → lo ≤ b) → Pt P F Sh (MGo P W0 lo Post n pend Sh) RB B items Own ρ a A w) : Pt P F Sh (MGo P W0 lo Post n pend Sh) RB B items Own ρ a A w := fun W m =>
  .low rfl fun hl => h hl W m
theorem run_go {o : Oper} {t : Tmp} (hop : o.op = .go { callee := .value (.tmp t), args := #[], argTypes := #[] }) {f : FuncId} {caps : Array Value} (hcap : A.tmps.getD t undef = .func (.func f) #[] caps) (W : World) :
    (execOp A.eval o).run P W = .ok (.spawn { target := .fn (.func f) caps, args := #[] }) W ∧ (execOp A.eval o).events P W #[] = #[] := by
  unfold execOp
  have e : A.eval (.tmp t) = .func (.func f) #[] caps := hcap
  rw [hop]
  constructor <;> simp [resolve, Deferred.ofValue, e]
/-- A go statement. -/
theorem pt_spawn (hB : B.kind ≠ .early) {ops : Array Oper} {i : Nat} {l : List Nat} {o : Oper} (ho : ops[i]? = some o) (hg : o.guard = none) {t : Tmp} (hop : o.op = .go { callee := .value (.tmp t), args := #[], argTypes := #[] })
    {f : FuncId} {caps : Array Value} (hcap : A.tmps.getD t undef = .func (.func f) #[] caps) {c : Nat} {pr : Prm}
    (hchild : ∀ W, Mat P F Own Sh ρ a A w W → Goes' P false Sh (AtSnd P lo c pr Sh) (fun _ => False) (born P { target := .fn (.func f) caps, args := #[] }) W)
    (hn : Pt P F Sh (MGo P W0 lo Post (n + 1) (updP pend n (some (c, pr))) Sh) RB B (.inRegion ops l :: k) Own ρ (a.put o.dst undef) (A.put o.dst undef) w) :
    Pt P F Sh (MGo P W0 lo Post n pend Sh) RB B (.inRegion ops (i :: l) :: k) Own ρ a A w := fun W m => by
  have hw : Region.wanted o (yielded ops A.tmps) = true := by simp [Region.wanted, hg]
  have e1 : (fun b => Sh b ∨ (fun _ : Nat => False) b) = Sh := by funext b; simp
  have e2 : (fun b => Own b ∧ ¬ (fun _ : Nat => False) b) = Own := by funext b; simp
  refine MGo.spawn (Give := fun _ => False) (g' := G (B.at (A.put o.dst undef) (.inRegion ops l :: k)) RB) (child := born P { target := .fn (.func f) caps, args := #[] }) (c := c) (pr := pr) rfl rfl (fun W1 _ => ?_) (fun b h => h.elim) ?_ ?_
  · rw [stepG_spawn ho hw hB (run_go hop hcap W1).1 rfl]
    unfold listed
    rw [(run_go hop hcap W1).2, seen_none]
  · rw [e1]; exact hchild W m
  · rw [e1, e2]
    refine hn W { m with row := ?_, d := ?_, D := ?_ }
    · unfold Act.put
      cases o.dst with
      | none => exact m.row
      | some t => exact m.row.set t (.tuple rfl (fun i v w a b => by simp at a))
    · unfold Act.put; cases o.dst <;> exact m.d
    · unfold Act.put; cases o.dst <;> exact m.D
/-- A worker's beginning. -/
theorem born_goes {lo c : Nat} {pr : Prm} {W : World} {f : FuncId} {fn : Func} {cd : Code} {caps capsS : Array Value} (hf : P.funcs[f]? = some fn) (hname : (fn.name == "runtime.NumGoroutine") = false) (hb : fn.body = some cd)
    (m : Mat P F Own Sh ρ a A w W) (hr : RowRel ρ capsS caps)
    (h : Pt P F Sh (Goes' P false Sh (AtSnd P lo c pr Sh)) [bornF P] (baseD f) [.code cd] (fun _ => False) (restr ρ F) { tmps := capsS.map (clipV F) ++ Array.replicate (fn.ntmps - caps.size) undef, defers := [] } { tmps := caps ++ Array.replicate (fn.ntmps - caps.size) undef, defers := [] } (clip F w)) :
    Goes' P false Sh (AtSnd P lo c pr Sh) (fun _ => False) (born P { target := .fn (.func f) caps, args := #[] }) W := by
  have mw := m.worker hr
  refine Goes'.ctl rfl rfl (fun W1 _ => born_step hf hname hb W1) fun W1 hr1 => h W1 ?_
  have mw1 := mw.rely hr1
  refine { mw1 with row := RowRel.append mw1.row ⟨by simp, fun i v u h1 h2 => ?_⟩, d := rfl, D := rfl }
  simp only [Array.getElem?_replicate] at h1 h2
  split at h1
  · rename_i hlt
    rw [if_pos hlt] at h2
    cases h1; cases h2
    exact .tuple rfl (fun i v w a b => by simp at a)
  · cases h1
/-- A worker's send. -/
theorem pt_send {lo c : Nat} {pr : Prm} {f : FuncId} {fn : Func} (hf : P.funcs[f]? = some fn) (hres : fn.results = #[]) {ops : Array Oper} {i : Nat} {o : Oper} (ho : ops[i]? = some o) (hg : o.guard = none) {t u : Tmp} (hop : o.op = .send (.tmp t) (.tmp u))
    {x s : Nat} {tm : Bool} (hx : a.tmps.getD t undef = .chan (some x)) (hxc : ρ x c) (hF : F x) (hlo : lo ≤ c) (hch : w.heap[x]? = some (.chan 0 #[] false s s tm)) (hdst : o.dst = none)
    (hpr : ∀ W1, Mat P F Own Sh ρ a A w W1 → ∀ v', VRel ρ (a.tmps.getD u undef) v' → pr v' W1 Own) :
    Pt P F Sh (Goes' P false Sh (AtSnd P lo c pr Sh)) [bornF P] (baseD f) [.inRegion ops [i]] Own ρ a A w := fun W m => by
  have hw : Region.wanted o (yielded ops A.tmps) = true := by simp [Region.wanted, hg]
  have hxA : A.tmps.getD t undef = .chan (some c) := by
    have hv := m.row.getD t
    rw [hx] at hv
    generalize A.tmps.getD t undef = z at hv
    cases hv with
    | chan h => rw [m.wr.fn _ _ _ h hxc]
  have e1 : A.eval (.tmp t) = .chan (some c) := hxA
  have e2 : A.eval (.tmp u) = A.tmps.getD u undef := rfl
  have hrun : ∀ W1, (execOp A.eval o).run P W1 = .ok (.comm #[scase c (A.tmps.getD u undef) (.tuple #[])] true .send) W1 := fun W1 => by unfold execOp; simp [hop, e1, e2, scase]
  have hev : ∀ W1, (execOp A.eval o).events P W1 #[] = #[] := fun W1 => by unfold execOp; simp [hop, e1, e2, scase]
  refine .stop ⟨rfl, m.sh x c hxc hF, hlo, A.tmps.getD u undef, 5, fun W1 hr => ⟨?_, (m.rely hr).chanOpen hxc hch, hpr W1 (m.rely hr) _ (m.row.getD u)⟩, ?_⟩
  · rw [stepG_comm ho hw (by simp [baseD]) (hrun W1)]
    unfold listed
    rw [hev, seen_none]
  · have : Conc.served (G ((baseD f).at A [.inRegion ops [i]]) [bornF P]) undef = G ((baseD f).at A [.inRegion ops []]) [bornF P] := by
      have : ((baseD f).at A [.inRegion ops [i]]).finish undef = (baseD f).at A [.inRegion ops []] := by
        rw [Frame.finish_at, ho]
        show (baseD f).at (A.put o.dst undef) _ = _
        rw [hdst]
        rfl
      show ({ frame := _, callers := _, status := _, dying := _, offers := _ } : Goroutine) = _
      simp only [G]
      rw [this]
    rw [this]
    exact quits_worker hf hres A m.D ops
/-- Main's receipt. -/
theorem pt_recv (hB : B.kind ≠ .early) {ops : Array Oper} {i : Nat} {l : List Nat} {o : Oper} (ho : ops[i]? = some o) (hg : o.guard = none) {t : Tmp} {ty : TypeId} (hop : o.op = .recv ty (.tmp t) false)
    {x c s : Nat} {tm : Bool} {z : Value} (hx : a.tmps.getD t undef = .chan (some x)) (hxc : ρ x c) (hF : F x) (hlo : lo ≤ c) (hch : w.heap[x]? = some (.chan 0 #[] false s s tm))
    (hz : ∀ (e : Operand → Value) W1, e (.tmp t) = .chan (some c) → (execOp e o).run P W1 = .ok (.comm #[rcase c z] true (.recv false)) W1 ∧ (execOp e o).events P W1 #[] = #[])
    (hex : ∃ i y, pend i = some y) (hall : ∀ i y, pend i = some y → y.1 = c)
    (hn : ∀ j pr, pend j = some (c, pr) → ∀ W1 v Bk, Mat P F Own Sh ρ a A w W1 → pr v W1 Bk → (∀ b, Bk b → b < W1.heap.size ∧ ¬ Own b ∧ ¬ Sh b) →
      MGo P W0 lo Post n (updP pend j none) Sh (fun b => Own b ∨ Bk b) (G (B.at (A.put o.dst v) (.inRegion ops l :: k)) RB) W1) :
    Pt P F Sh (MGo P W0 lo Post n pend Sh) RB B (.inRegion ops (i :: l) :: k) Own ρ a A w := fun W m => by
  have hw : Region.wanted o (yielded ops A.tmps) = true := by simp [Region.wanted, hg]
  have hxA : A.eval (.tmp t) = .chan (some c) := by
    have hv := m.row.getD t
    rw [hx] at hv
    show A.tmps.getD t undef = _
    generalize A.tmps.getD t undef = z at hv
    cases hv with
    | chan h => rw [m.wr.fn _ _ _ h hxc]
  refine .recv (c := c) (z := z) (f := false) rfl hex hall (m.sh x c hxc hF) hlo (fun W1 hr => ⟨?_, (m.rely hr).chanOpen hxc hch⟩) fun j pr hp W1 v Bk hr hpr hBk => ?_
  · rw [stepG_comm ho hw hB (hz _ W1 hxA).1]
    unfold listed
    rw [(hz _ W1 hxA).2, seen_none]
  · have : Conc.served (G (B.at A (.inRegion ops (i :: l) :: k)) RB) (recvd false v true) = G (B.at (A.put o.dst v) (.inRegion ops l :: k)) RB := by
      have : (B.at A (.inRegion ops (i :: l) :: k)).finish v = B.at (A.put o.dst v) (.inRegion ops l :: k) := by rw [Frame.finish_at, ho]; rfl
      show ({ frame := _, callers := _, status := _, dying := _, offers := _ } : Goroutine) = _
      simp only [G, recvd]
      rw [← this]
      rfl
    rw [this]
    exact hn j pr hp W1 v Bk (m.rely hr) hpr hBk
/-- The return of all. -/
theorem mgo_ret {fn : Func} {t : Tmp} (hin : P.inits.idxOf? B.fn = none) (hB : B.kind = .normal) (hf : P.funcs[B.fn]? = some fn) (hres : fn.results = #[.tmp t]) {todo : List Item} {W : World} {v : Value} (hv : A.tmps.getD t undef = v) (hD : A.defers = []) (hp : ∀ i, pend i = none) (hpost : ∀ W1, BaseOk W0 lo W1 → Post v W1) :
    MGo P W0 lo Post n pend Sh Own (G { B.at A todo with mode := .returning } []) W := by
  refine .ret rfl hp fun W1 hr hb => ⟨v, #[], ?_, fun e he => by simp at he, hpost W1 hb⟩
  have h1 := results_tmp hres A.tmps P W1
  have h2 := events_results_tmp (P := P) (w := W1) hres A.tmps #[]
  rw [hv] at h1
  simp [G, stepG, unwind, doReturn, Frame.at, hB, hD, hf, h1, h2, hin, seen_none, GStep.after]
end
end
end Go.Proofs.Ytkodpijedinanaa.Sim
