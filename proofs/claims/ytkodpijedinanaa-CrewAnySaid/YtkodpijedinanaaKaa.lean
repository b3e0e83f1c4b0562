/- Texts that the claim imports, laid together: Base MaA MaB MaC. No statement of their own. -/
import Derived.Test.YtkodpijedinanaaRows
import Derived.WalkKit
import Derived.ProofKit
import Derived.OpenShut
import Derived.WalkLawsBesides
import Derived.Lib.Hide
import Derived.StillTailTactics
import Derived.BigQuiet
import Derived.Deep.QuietTactic
import Derived.Deep.DeepCutAuto
import Derived.Deep.RegionWith
import Derived.Deep.RegionHeld3
import Derived.NoCompiler
namespace Go.Proofs.Ytkodpijedinanaa
open Go.ChangeShapes Go.WideShapes Go.ChangeAt Go.RowKit
set_option linter.unusedVariables false

theorem ret_int {k : IntKind} {a b : Int} (h : a = b) : Ending.returned (.int k a) = .returned (.int k b) := by rw [h]
theorem ret_bool {a b : Bool} (h : a = b) : Ending.returned (.bool a) = .returned (.bool b) := by rw [h]
theorem wf64_iff {n : Int} : (Lit.int .i64 n).wf = true ↔ -9223372036854775808 ≤ n ∧ n ≤ 9223372036854775807 := by
  simp [Lit.wf, IntKind.min, IntKind.max, IntKind.signed, IntKind.bits]

/-- 'Picked': the remainder from 0 up. -/
def pick (a n : Int) : Int := if a.tmod n < 0 then a.tmod n + n else a.tmod n
theorem pick_bd (a n : Int) (hn : 0 < n) : 0 ≤ pick a n ∧ pick a n < n := by
  have h1 := Int.tmod_lt_of_pos a hn
  have h2 : -n < a.tmod n := by
    have := Int.neg_tmod a n
    have := Int.tmod_lt_of_pos (-a) hn
    omega
  unfold pick; split <;> omega
theorem picked (a n : Int) (hn : 0 < n) (hm : n ≤ 1152921504606846976) (w : World) :
    Calls Try.prog 5 #[.int .i64 a, .int .i64 n] w fun e w' => e = .returned (.int .i64 (pick a n)) ∧ w = w' := by
  have h1 := Int.tmod_lt_of_pos a hn
  have h2 : -n < a.tmod n := by
    have := Int.neg_tmod a n
    have := Int.tmod_lt_of_pos (-a) hn
    omega
  have H : Hid (pick a n = if a.tmod n < 0 then a.tmod n + n else a.tmod n) := rfl
  go_enter Try.func5, Try.ntmps5
  go_wp2
  all_goals go_ret
  · exact ⟨ret_int (by rw [H.out, if_pos (by assumption)]), rfl⟩
  · exact ⟨ret_int (by rw [H.out, if_neg (by omega)]), rfl⟩

section frame
variable {H : Type} {enc : TypeId × Value → H} {P : Program}
/-- Arguments read as they did where their places hold what they held. -/
theorem trodAll_stays (hl : laidOutB P = true) {W W' : World} {sp' : Nat → Bool} : ∀ {ts : List TypeId} {vs : List Value} {ds : List (DataW H)} {ps : List MemPlace},
    ts.all (fun t => P.readableRec t && decide (t < P.types.size)) = true → DataW.TrodAll enc P W 0 (fun _ => true) true ts vs ds ps → (∀ x ∈ ps, W.sameAt W' x) → (∀ x ∈ ps, sp' x.block = true) →
    DataW.TrodAll enc P W' 0 sp' true ts vs ds ps
  | [], [], [], _, _, h, _, _ => h
  | t :: ts, _ :: _, _ :: _, _, ht, ⟨p, q, h1, h2, e⟩, hs, hb => by
    simp only [List.all_cons, Bool.and_eq_true, decide_eq_true_eq] at ht
    refine ⟨p, q, WideElems.Trod_stays hl ht.1.1 ht.1.2 h1 (fun x hx => hs x (by rw [e]; exact List.mem_append_left _ hx)) (fun x hx => hb x (by rw [e]; exact List.mem_append_left _ hx)), trodAll_stays hl ht.2 h2 (fun x hx => hs x (by rw [e]; exact List.mem_append_right _ hx)) (fun x hx => hb x (by rw [e]; exact List.mem_append_right _ hx)), e⟩
/-- What a law's row asks behind the call: it returned true, and below its first block nothing has changed. -/
theorem law_post {f : Func} {s : ChangeSpec} {W W' : World} {args : Array Value} {ds : List (DataW H)} {before : List MemPlace} {b : TypeId}
    (hl : laidOutB P = true) (hr : f.params.toList.all (fun t => P.readableRec t && decide (t < P.types.size)) = true) (hbool : P.underlying b = some .bool) (hres : f.resultTypes = #[b])
    (hW : DataW.Whole enc P f.params.toList s.vars false W args.toList ds [] (before ++ [])) (hA : DataW.TrodAll enc P W 0 (fun _ => true) true f.params.toList args.toList ds before)
    (hlt : ∀ x ∈ before, x.block < W.heap.size) (hb : Below W.heap.size W W') (hvars : s.vars = [])
    (hfn : ∀ (_ : Unit), (s.fn H (ds ++ [])).results = [.lit (.bool true)]) (hfa : ∀ (_ : Unit), (s.fn H (ds ++ [])) = { results := [.lit (.bool true)], args := ds }) :
    s.post enc P f false true false false W args (.bool true) W' := by
  rw [List.append_nil] at hW
  have hsame : ∀ x ∈ before, W.sameAt W' x := fun x hx => hb.same (hlt x hx)
  have hfz : ∀ x ∈ before, W'.frozen? ⟨x.block, 0, none⟩ = W.frozen? ⟨x.block, 0, none⟩ := fun x hx => hb.frozen (p := ⟨x.block, 0, none⟩) (hlt x hx)
  have hRes : ∀ (bb : Nat) (sp : Nat → Bool) (hd : Bool), DataW.TrodAll enc P W' bb sp hd f.resultTypes.toList ((Value.bool true).resultList f.resultTypes.size) (s.fn H (ds ++ [])).results [] := by
    intro bb sp hd
    rw [hfn (), hres]
    exact trodAll_cons_mk (shut_bool hbool _) trodAll_mk0
  have hArgs : ∀ sp : Nat → Bool, (∀ x ∈ before, sp x.block = true) → DataW.TrodAll enc P W' 0 sp true f.params.toList args.toList (s.fn H (ds ++ [])).args before := by
    intro sp hsp
    rw [hfa ()]
    exact trodAll_stays hl hr hA hsame hsp
  have hVars : ∀ sp : Nat → Bool, DataW.TrodVars enc P W' sp s.vars (s.fn H (ds ++ [])).vars [] := by
    intro sp
    rw [hfa (), hvars]
    rfl
  have hold : ∀ x ∈ before, (fun b => decide (b < W.heap.size)) x.block = true := fun x hx => by simpa using hlt x hx
  refine ⟨ds, [], before, [], before, [], hW, hRes _ _ _, hArgs _ hold, hVars _, hb.frame _, fun _ => ?_⟩
  obtain ⟨_, _, _, _, _, hz, hn⟩ := hW
  refine ⟨?_, _, _, ([] ++ before) ++ [], ⟨[] ++ before, [], trodAll_append (hArgs _ (fun _ _ => rfl)) (hRes _ _ _), hVars _, rfl, ?_, fun h => by cases h⟩, ?_⟩
  · intro j t r h1 h2
    rw [hres] at h1 h2
    obtain ⟨rfl, rfl⟩ : j = 0 ∧ t = b := by
      rcases j with _ | j
      · simpa [eq_comm] using h1
      · simp at h1
    obtain rfl : r = .bool true := by simpa [Value.resultList, eq_comm] using h2
    exact okWide_bool_mk hbool _
  · intro b off hp
    have hp' : MemPlace.cell b off ∈ before := by simpa using hp
    rw [hb.frozen (p := ⟨b, off, none⟩) (hlt _ hp')]
    exact hz b off hp'
  · intro x hx _
    simpa using hx
end frame
end Go.Proofs.Ytkodpijedinanaa

namespace Go.Proofs.Ytkodpijedinanaa.Sim
open Go
set_option linter.unusedVariables false
set_option linter.unusedSimpArgs false

/-- The functions that a piece may come to. -/
def Fns.l : List FuncId := [5, 12, 15, 17, 18, 19, 24, 28, 29, 30, 31, 32, 33, 53, 63, 65, 54, 55, 64, 56, 57]
/-- The function without a text that a piece may call. -/
def Fns.lap : FuncId := 52
/-- What cannot be looked at: its place alone is known. -/
def opq : Obj := .view ⟨0, 0, some 0⟩ 0
/-- Frozen whole or not at all. -/
def Rng (n : Nat) (z : Nat × Nat) : Prop := z = (0, 0) ∨ z = (0, n)
def NoRng (z : Nat × Nat) : Prop := ∀ i, ¬ (z.1 ≤ i ∧ i < z.2)
theorem NoRng.nil : NoRng (0, 0) := fun i h => by omega
/-- A matching of block numbers. -/
abbrev Ren := Nat → Nat → Prop
def Ren.le (ρ ρ' : Ren) : Prop := ∀ a b, ρ a b → ρ' a b
def Ren.ext (ρ : Ren) (r s : Nat) : Ren := fun a b => ρ a b ∨ (a = r ∧ b = s)
theorem Ren.le.refl (ρ : Ren) : Ren.le ρ ρ := fun _ _ h => h
theorem Ren.le.trans {a b c : Ren} (h : Ren.le a b) (k : Ren.le b c) : Ren.le a c := fun x y hx => k x y (h x y hx)
theorem Above.ext {P : Program} {ρ : Ren} (h : ∀ a b, ρ a b → P.globals.size ≤ a) {r s : Nat} (hr : P.globals.size ≤ r) : ∀ a b, ρ.ext r s a b → P.globals.size ≤ a := fun a b hab => by
  rcases hab with hab | ⟨rfl, rfl⟩
  · exact h a b hab
  · exact hr
theorem Ren.le_ext (ρ : Ren) (r s : Nat) : Ren.le ρ (ρ.ext r s) := fun _ _ h => .inl h
def ARel (ρ : Ren) (a b : Addr) : Prop := ρ a.block b.block ∧ a.off = b.off ∧ a.spot = b.spot
theorem ARel.mono {ρ ρ' : Ren} {a b : Addr} (h : ARel ρ a b) (hle : Ren.le ρ ρ') : ARel ρ' a b := ⟨hle _ _ h.1, h.2⟩
inductive VRel (ρ : Ren) : Value → Value → Prop
  | junkS (a : Option Addr) (n c : Nat) : VRel ρ (.tuple #[]) (.slice a n c)
  | junkP (a : Option Addr) : VRel ρ (.tuple #[]) (.pointer a)
  | junkF (k : FloatKind) (b : Nat) : VRel ρ (.tuple #[]) (.float k b)
  | junkC (k : FloatKind) (a b : Nat) : VRel ρ (.tuple #[]) (.complex k a b)
  | junkM (m : Option Nat) : VRel ρ (.tuple #[]) (.map m)
  | junkH (c : Option Nat) : VRel ρ (.tuple #[]) (.chan c)
  | junkG (f : Fn) (a b : Array Value) : VRel ρ (.tuple #[]) (.func f a b)
  | junkI (t : TypeId) (v : Value) : VRel ρ (.tuple #[]) (.iface t v)
  | junkT (c : Array Value) : VRel ρ (.tuple #[]) (.tuple c)
  | bool (b : Bool) : VRel ρ (.bool b) (.bool b)
  | int (k : IntKind) (n : Int) : VRel ρ (.int k n) (.int k n)
  | string (s : ByteArray) : VRel ρ (.string s) (.string s)
  | ptrNil : VRel ρ (.pointer none) (.pointer none)
  | ptr {a b : Addr} : ARel ρ a b → VRel ρ (.pointer (some a)) (.pointer (some b))
  | sliceNil (n c : Nat) : VRel ρ (.slice none n c) (.slice none n c)
  | sliceE (a b : Addr) : VRel ρ (.slice (some a) 0 0) (.slice (some b) 0 0)
  | slice {a b : Addr} (n c : Nat) : ARel ρ a b → VRel ρ (.slice (some a) n c) (.slice (some b) n c)
  | mapNil : VRel ρ (.map none) (.map none)
  | map {r s : Nat} : ρ r s → VRel ρ (.map (some r)) (.map (some s))
  | chanNil : VRel ρ (.chan none) (.chan none)
  | chan {r s : Nat} : ρ r s → VRel ρ (.chan (some r)) (.chan (some s))
  | func (fn : FuncId) {f g c d : Array Value} : fn ∈ Fns.l → f.size = g.size → (∀ (i : Nat) v w, f[i]? = some v → g[i]? = some w → VRel ρ v w) → c.size = d.size → (∀ (i : Nat) v w, c[i]? = some v → d[i]? = some w → VRel ρ v w) → VRel ρ (.func (.func fn) f c) (.func (.func fn) g d)
  | nilFunc : VRel ρ .nilFunc .nilFunc
  | iface (t : TypeId) {v w : Value} : VRel ρ v w → VRel ρ (.iface t v) (.iface t w)
  | nilIface : VRel ρ .nilIface .nilIface
  | agg {c d : Array Value} : c.size = d.size → (∀ (i : Nat) v w, c[i]? = some v → d[i]? = some w → VRel ρ v w) → VRel ρ (.agg c) (.agg d)
  | tuple {c d : Array Value} : c.size = d.size → (∀ (i : Nat) v w, c[i]? = some v → d[i]? = some w → VRel ρ v w) → VRel ρ (.tuple c) (.tuple d)
def RowRel (ρ : Ren) (c d : Array Value) : Prop := c.size = d.size ∧ ∀ (i : Nat) v w, c[i]? = some v → d[i]? = some w → VRel ρ v w
theorem VRel.mono {ρ ρ' : Ren} (hle : Ren.le ρ ρ') {v w : Value} (h : VRel ρ v w) : VRel ρ' v w := by
  induction h with
  | junkS a n c => exact .junkS a n c
  | junkP a => exact .junkP a
  | junkF k b => exact .junkF k b
  | junkC k a b => exact .junkC k a b
  | junkM m => exact .junkM m
  | junkH c => exact .junkH c
  | junkG f a b => exact .junkG f a b
  | junkI t v => exact .junkI t v
  | junkT c => exact .junkT c
  | bool b => exact .bool b
  | int k n => exact .int k n
  | string s => exact .string s
  | ptrNil => exact .ptrNil
  | ptr h => exact .ptr (h.mono hle)
  | sliceNil n c => exact .sliceNil n c
  | sliceE a b => exact .sliceE a b
  | slice n c h => exact .slice n c (h.mono hle)
  | mapNil => exact .mapNil
  | map h => exact .map (hle _ _ h)
  | chanNil => exact .chanNil
  | chan h => exact .chan (hle _ _ h)
  | func fn h0 h1 _ h2 _ ih1 ih2 => exact .func fn h0 h1 (fun i v w a b => ih1 i v w a b) h2 (fun i v w a b => ih2 i v w a b)
  | nilFunc => exact .nilFunc
  | iface t _ ih => exact .iface t ih
  | nilIface => exact .nilIface
  | agg h1 _ ih => exact .agg h1 (fun i v w a b => ih i v w a b)
  | tuple h1 _ ih => exact .tuple h1 (fun i v w a b => ih i v w a b)
theorem RowRel.mono {ρ ρ' : Ren} (hle : Ren.le ρ ρ') {c d : Array Value} (h : RowRel ρ c d) : RowRel ρ' c d := ⟨h.1, fun i v w a b => (h.2 i v w a b).mono hle⟩
theorem RowRel.at {ρ : Ren} {c d : Array Value} (h : RowRel ρ c d) {i : Nat} {v : Value} (hv : c[i]? = some v) : ∃ w, d[i]? = some w ∧ VRel ρ v w := by
  have hi : i < d.size := by rw [← h.1]; exact (Array.getElem?_eq_some_iff.1 hv).1
  exact ⟨d[i], Array.getElem?_eq_getElem hi, h.2 i v _ hv (Array.getElem?_eq_getElem hi)⟩
theorem RowRel.none {ρ : Ren} {c d : Array Value} (h : RowRel ρ c d) {i : Nat} (hv : c[i]? = none) : d[i]? = none := by
  rw [Array.getElem?_eq_none_iff] at hv ⊢
  rw [← h.1]; exact hv
theorem RowRel.nil (ρ : Ren) : RowRel ρ #[] #[] := ⟨rfl, fun i v w a => by simp at a⟩
theorem RowRel.set {ρ : Ren} {c d : Array Value} (h : RowRel ρ c d) (j : Nat) {v w : Value} (hv : VRel ρ v w) : RowRel ρ (c.setIfInBounds j v) (d.setIfInBounds j w) := by
  refine ⟨by simp [h.1], fun i x y hx hy => ?_⟩
  rw [Array.getElem?_setIfInBounds] at hx hy
  by_cases e : j = i
  · subst e
    rw [if_pos rfl] at hx hy
    split at hx
    · split at hy
      · cases hx; cases hy; exact hv
      · cases hy
    · cases hx
  · rw [if_neg e] at hx hy
    exact h.2 i x y hx hy
theorem RowRel.push {ρ : Ren} {c d : Array Value} (h : RowRel ρ c d) {v w : Value} (hv : VRel ρ v w) : RowRel ρ (c.push v) (d.push w) := by
  refine ⟨by simp [h.1], fun i x y hx hy => ?_⟩
  rw [Array.getElem?_push] at hx hy
  by_cases e : i = c.size
  · rw [if_pos e] at hx
    rw [if_pos (by rw [← h.1]; exact e)] at hy
    cases hx; cases hy; exact hv
  · rw [if_neg e] at hx
    rw [if_neg (by rw [← h.1]; exact e)] at hy
    exact h.2 i x y hx hy
theorem RowRel.append {ρ : Ren} {a b c d : Array Value} (h : RowRel ρ a b) (k : RowRel ρ c d) : RowRel ρ (a ++ c) (b ++ d) := by
  refine ⟨by simp [h.1, k.1], fun i x y hx hy => ?_⟩
  rw [Array.getElem?_append] at hx hy
  by_cases e : i < a.size
  · rw [if_pos e] at hx
    rw [if_pos (by rw [← h.1]; exact e)] at hy
    exact h.2 i x y hx hy
  · rw [if_neg e] at hx
    rw [if_neg (by rw [← h.1]; exact e)] at hy
    exact k.2 _ x y hx (by rw [h.1]; exact hy)
theorem RowRel.of_list {ρ : Ren} {l m : List Value} (h : l.length = m.length) (k : ∀ (i : Nat) v w, l[i]? = some v → m[i]? = some w → VRel ρ v w) : RowRel ρ l.toArray m.toArray :=
  ⟨by simpa using h, fun i v w a b => k i v w (by simpa using a) (by simpa using b)⟩
inductive ORel (ρ : Ren) : Obj → Obj → Prop
  | cells {c d : Array Value} (e : TypeId) {z z' : Nat × Nat} : RowRel ρ c d → Rng c.size z → NoRng z' → ORel ρ (.cells c e z) (.cells d e z')
  | number {a b : Addr} (l : Bool) : ARel ρ a b → ORel ρ (.number a l) (.number b l)
  | chan {a : Nat} {f : Bool} {s s' : Nat} {t : Bool} : ORel ρ (.chan a #[] f s s t) (.chan a #[] f s' s' t)
  | opq (c : Array Value) (e : TypeId) (z : Nat × Nat) : ORel ρ Sim.opq (.cells c e z)
/-- The same, of what can be looked at and is no row. -/
inductive NRow (ρ : Ren) : Obj → Obj → Prop
  | number {a b : Addr} (l : Bool) : ARel ρ a b → NRow ρ (.number a l) (.number b l)
  | chan {a : Nat} {f : Bool} {s s' : Nat} {t : Bool} : NRow ρ (.chan a #[] f s s t) (.chan a #[] f s' s' t)
theorem ORel.mono {ρ ρ' : Ren} (hle : Ren.le ρ ρ') {o o' : Obj} (h : ORel ρ o o') : ORel ρ' o o' := by
  cases h with
  | cells e h k k' => exact .cells e (h.mono hle) k k'
  | number l h => exact .number l (h.mono hle)
  | chan => exact .chan
  | opq c e z => exact .opq c e z
structure WRel (ρ : Ren) (w W : World) : Prop where
  dom : ∀ a b, ρ a b → ∃ o o', w.heap[a]? = some o ∧ W.heap[b]? = some o' ∧ ORel ρ o o'
  fn : ∀ a b b', ρ a b → ρ a b' → b = b'
  inj : ∀ a a' b, ρ a b → ρ a' b → a = a'
/-- The next n answers are the same. -/
def Aligned (n : Nat) (w W : World) : Prop := ∀ x, x < n → ∀ q, w.tape (w.drawn + x) q = W.tape (W.drawn + x) q
/-- No block of the one's is a variable of the program. -/
def Above (P : Program) (ρ : Ren) : Prop := ∀ a b, ρ a b → P.globals.size ≤ a
/-- A halt that unwinds or ends the run at once. -/
def softB : Halt → Bool
  | .panic _ | .stuck _ => true
  | .unsupported (.initOrder _) => false
  | .unsupported _ => true
  | _ => false
/-- It ends in a halt whatever it meets. -/
inductive Dead {α : Type} (P : Program) : Sem α → Prop
  | halt (h : Halt) (hs : softB h = true := by rfl) : Dead P (.halt h)
  | mark (m : Mark) {k : Sem α} : Dead P k → Dead P (.mark m k)
  | shape (r : Nat) {k : Option (TypeId × Nat) → Sem α} : (∀ s, Dead P (k s)) → Dead P (.shape r k)
  | frozen (a : Addr) {k : Bool → Sem α} : (∀ b, Dead P (k b)) → Dead P (.frozen a k)
  | choose (q : Question) {k : Nat → Sem α} : (∀ n, Dead P (k n)) → Dead P (.choose q k)
  | program {k : Program → Sem α} : Dead P (k P) → Dead P (.program k)
theorem Dead.run {α : Type} {P : Program} {s : Sem α} (h : Dead P s) : ∀ (w : World) (a : α) (w1 : World), s.run P w ≠ .ok a w1 := by
  induction h with
  | halt h hs => intro w a w1 e; simp [Sem.run] at e
  | mark m _ ih => intro w a w1 e; simp only [Sem.run] at e; exact ih w a w1 e
  | shape r _ ih => intro w a w1 e; simp only [Sem.run] at e; exact ih _ w a w1 e
  | frozen r _ ih => intro w a w1 e; simp only [Sem.run] at e; exact ih _ w a w1 e
  | choose q _ ih =>
    intro w a w1 e
    simp only [Sem.run] at e
    split at e
    · exact ih _ w a w1 e
    · exact ih _ _ a w1 e
  | program _ ih => intro w a w1 e; simp only [Sem.run] at e; exact ih w a w1 e
theorem Dead.bind {α β : Type} {P : Program} {s : Sem α} (h : Dead P s) (f : α → Sem β) : Dead P (s.bind f) := by
  induction h with
  | halt h hs => exact .halt h hs
  | mark m _ ih => exact .mark m ih
  | shape r _ ih => exact .shape r ih
  | frozen r _ ih => exact .frozen r ih
  | choose q _ ih => exact .choose q ih
  | program _ ih => exact .program ih
/-- An access to what is no row. -/
def ObjEv (ρ : Ren) (l : List Event) : Prop := ∀ e ∈ l, ∃ r s a, e = ⟨.obj r, false, s⟩ ∧ ρ a r
/-- It only looks, at the heap alone. -/
def Looks {γ : Type} (P : Program) (p : Sem γ) : Prop := ∀ w x w1, p.run P w = .ok x w1 → w1 = w ∧ ∀ w', w'.heap = w.heap → p.run P w' = .ok x w'
def SoftS {γ : Type} (P : Program) (p : Sem γ) : Prop := ∀ w x w1, p.run P w = .halt x w1 → softB x = true
/-- What the one sees the other sees. -/
def Same {γ γ' : Type} (P : Program) (ρ : Ren) (T : γ → γ' → Prop) (p : Sem γ) (p' : Sem γ') : Prop := ∀ w W x w1, WRel ρ w W → p.run P w = .ok x w1 →
  ∃ y l, (∀ es : Array Event, p'.runT P W es = (.ok y W, es ++ l.toArray)) ∧ ObjEv ρ l ∧ T x y
inductive SemRel {α β : Type} (P : Program) (R : Ren → α → β → Prop) : Ren → Sem α → Sem β → Prop
  | pure {ρ : Ren} {a : α} {b : β} : R ρ a b → SemRel P R ρ (.pure a) (.pure b)
  | load {ρ : Ren} {a b : Addr} {k : Value → Sem α} {k' : Value → Sem β} : ARel ρ a b → (∀ v w, VRel ρ v w → SemRel P R ρ (k v) (k' w)) → SemRel P R ρ (.load .plain a k) (.load .plain b k')
  | store {ρ : Ren} {a b : Addr} {v w : Value} {k : Sem α} {k' : Sem β} : ARel ρ a b → VRel ρ v w → SemRel P R ρ k k' → SemRel P R ρ (.store .plain a v k) (.store .plain b w k')
  | new {ρ : Ren} {o o' : Obj} {k : Nat → Sem α} {k' : Nat → Sem β} : ORel ρ o o' → (∀ r s, P.globals.size ≤ r → P.globals.size ≤ s → SemRel P R (ρ.ext r s) (k r) (k' s)) → SemRel P R ρ (.new o k) (.new o' k')
  | choose {ρ : Ren} (q : Question) {k : Nat → Sem α} {k' : Nat → Sem β} : (∀ n, SemRel P R ρ (k n) (k' n)) → SemRel P R ρ (.choose q k) (.choose q k')
  | program {ρ : Ren} {k : Program → Sem α} {k' : Program → Sem β} : SemRel P R ρ (k P) (k' P) → SemRel P R ρ (.program k) (.program k')
  | shape {ρ : Ren} {r r' : Nat} {k : Option (TypeId × Nat) → Sem α} {k' : Option (TypeId × Nat) → Sem β} : ρ r r' → (∀ s, SemRel P R ρ (k s) (k' s)) → (∀ s, SemRel P R ρ (k none) (k' s)) → SemRel P R ρ (.shape r k) (.shape r' k')
  | getObj {ρ : Ren} {r r' : Nat} {k : Obj → Sem α} {k' : Obj → Sem β} : ρ r r' → (∀ o o', NRow ρ o o' → SemRel P R ρ (k o) (k' o')) → Dead P (k Sim.opq) → SemRel P R ρ (.getObj r k) (.getObj r' k')
  | looks {ρ : Ren} {γ γ' : Type} {T : γ → γ' → Prop} {p : Sem γ} {p' : Sem γ'} {k : γ → Sem α} {k' : γ' → Sem β} : Looks P p → SoftS P p → Same P ρ T p p' → (∀ x y, T x y → SemRel P R ρ (k x) (k' y)) → SemRel P R ρ (p.bind k) (p'.bind k')
  | extern {ρ : Ren} (f : FuncId) {k : Sem α} {k' : Sem β} : SemRel P R ρ k k' → SemRel P R ρ (.mark (.extern f) k) (.mark (.extern f) k')
  | noRoom {ρ : Ren} {k : Sem α} {k' : Sem β} : SemRel P R ρ k k' → SemRel P R ρ (.mark .noRoom k) (.mark .noRoom k')
  | halt {ρ : Ren} (h : Halt) (s : Sem β) (hs : softB h = true := by rfl) : SemRel P R ρ (.halt h) s
  | dead {ρ : Ren} {s : Sem α} (h : Dead P s) (s' : Sem β) : SemRel P R ρ s s'
theorem sem_assoc {α β γ : Type} (s : Sem α) (f : α → Sem β) (g : β → Sem γ) : (s.bind f).bind g = s.bind fun x => (f x).bind g := by
  induction s with
  | pure a => rfl
  | halt h => rfl
  | load m a k ih => simp only [Sem.bind, ih]
  | store m a v k ih => simp only [Sem.bind, ih]
  | new o k ih => simp only [Sem.bind, ih]
  | shape r k ih => simp only [Sem.bind, ih]
  | freeze a n k ih => simp only [Sem.bind, ih]
  | frozen a k ih => simp only [Sem.bind, ih]
  | getObj r k ih => simp only [Sem.bind, ih]
  | setObj r o k ih => simp only [Sem.bind, ih]
  | choose q k ih => simp only [Sem.bind, ih]
  | sys c k ih => simp only [Sem.bind, ih]
  | program k ih => simp only [Sem.bind, ih]
  | mark m k ih => simp only [Sem.bind, ih]
theorem SemRel.bind {α β γ δ : Type} {P : Program} {R : Ren → α → β → Prop} {S : Ren → γ → δ → Prop} {ρ : Ren} {s : Sem α} {s' : Sem β} (h : SemRel P R ρ s s') :
    ∀ {f : α → Sem γ} {f' : β → Sem δ}, (∀ ρ', Ren.le ρ ρ' → ∀ a b, R ρ' a b → SemRel P S ρ' (f a) (f' b)) → SemRel P S ρ (s.bind f) (s'.bind f') := by
  induction h with
  | pure h => intro f f' k; exact k _ (Ren.le.refl _) _ _ h
  | load h _ ih => intro f f' k; exact .load h fun v w hv => ih v w hv k
  | store h hv _ ih => intro f f' k; exact .store h hv (ih k)
  | new h _ ih => intro f f' k; exact .new h fun r s hr hs => ih r s hr hs fun ρ' hle a b => k ρ' ((Ren.le_ext _ _ _).trans hle) a b
  | choose q _ ih => intro f f' k; exact .choose q fun n => ih n k
  | program _ ih => intro f f' k; exact .program (ih k)
  | shape h _ _ ih ih2 => intro f f' k; exact .shape h (fun s => ih s k) fun s => ih2 s k
  | getObj h _ hd ih => intro f f' k; exact .getObj h (fun o o' ho => ih o o' ho k) (hd.bind _)
  | looks h1 h2 h3 _ ih => intro f f' k; rw [sem_assoc, sem_assoc]; exact .looks h1 h2 h3 fun x y hxy => ih x y hxy k
  | extern g _ ih => intro f f' k; exact .extern g (ih k)
  | noRoom _ ih => intro f f' k; exact .noRoom (ih k)
  | halt h s hs => intro f f' k; exact .halt h _ hs
  | dead h s => intro f f' k; exact .dead (h.bind _) _
end Go.Proofs.Ytkodpijedinanaa.Sim

namespace Go.Proofs.Ytkodpijedinanaa.Sim
open Go
set_option linter.unusedVariables false
set_option linter.unusedSimpArgs false

/-- These blocks are frozen whole, or channels, or cannot be looked at. -/
def Froz (F : Nat → Prop) (w : World) : Prop := ∀ a, F a → (∃ c e, w.heap[a]? = some (.cells c e (0, c.size))) ∨ (∃ p f s r t, w.heap[a]? = some (.chan p #[] f s r t)) ∨ w.heap[a]? = some opq
theorem Froz.lt {F : Nat → Prop} {w : World} (h : Froz F w) {a : Nat} (ha : F a) : a < w.heap.size := by
  rcases h a ha with ⟨_, _, h⟩ | ⟨_, _, _, _, _, h⟩ | h <;> exact (Array.getElem?_eq_some_iff.1 h).1
def Opq (w : World) (a : Nat) : Prop := w.heap[a]? = some opq
def Rowed (w : World) (a : Nat) : Prop := ∃ c e z, w.heap[a]? = some (.cells c e z)
theorem Rowed.not {w : World} {a : Nat} (h : Rowed w a) : ¬ Opq w a := fun k => by
  obtain ⟨c, e, z, h⟩ := h
  rw [show w.heap[a]? = some opq from k] at h
  cases h
/-- Rows stay rows of the same length. -/
def Shaped (w w1 : World) : Prop := ∀ (b : Nat) (c : Array Value) (e : TypeId) (z : Nat × Nat), w.heap[b]? = some (.cells c e z) → ∃ c' : Array Value, w1.heap[b]? = some (.cells c' e z) ∧ c'.size = c.size
theorem Shaped.refl (w : World) : Shaped w w := fun b c e z h => ⟨c, h, rfl⟩
theorem Shaped.trans {a b c : World} (h : Shaped a b) (k : Shaped b c) : Shaped a c := fun x r e z hx => by
  obtain ⟨r1, h1, h2⟩ := h x r e z hx
  obtain ⟨r2, h3, h4⟩ := k x r1 e z h1
  exact ⟨r2, h3, h4.trans h2⟩
theorem Rowed.kept {w w1 : World} {a : Nat} (h : Rowed w a) (k : Shaped w w1) : Rowed w1 a := by
  obtain ⟨c, e, z, h⟩ := h
  obtain ⟨c', h, _⟩ := k _ _ _ _ h
  exact ⟨c', e, z, h⟩
def OpqKept (w w1 : World) : Prop := ∀ a, Opq w a → Opq w1 a
theorem rowed_cell {w : World} {a : Addr} {v : Value} (h : w.cell? a = some v) : Rowed w a.block := by
  unfold World.cell? at h
  split at h
  · rename_i c e z h1; exact ⟨c, e, z, h1⟩
  · cases h
/-- An access of the second one's. -/
inductive EvOk (F : Nat → Prop) (ρ : Ren) (w : World) : Event → Prop
  | cell (p : Addr) (wr : Bool) (a : Nat) : ρ a p.block → (wr = true → ¬ F a) → Rowed w a → EvOk F ρ w ⟨.cell p, wr, false⟩
  | obj (r : Nat) (s : Bool) (a : Nat) : ρ a r → EvOk F ρ w ⟨.obj r, false, s⟩
  | noRoom : EvOk F ρ w ⟨.mark .noRoom, false, true⟩
  | extern (f : FuncId) : EvOk F ρ w ⟨.mark (.extern f), false, true⟩
theorem EvOk.mono {F : Nat → Prop} {ρ ρ' : Ren} {w w1 : World} (hle : Ren.le ρ ρ') (hk : Shaped w w1) {e : Event} (h : EvOk F ρ w e) : EvOk F ρ' w1 e := by
  cases h with
  | cell p wr a h1 h2 h3 => exact .cell p wr a (hle _ _ h1) h2 (h3.kept hk)
  | obj r s a h => exact .obj r s a (hle _ _ h)
  | noRoom => exact .noRoom
  | extern f => exact .extern f
/-- From (w, W) to (w1, W1), the second one's accesses being l. -/
structure Ran (F : Nat → Prop) (ρ ρ' : Ren) (w W w1 W1 : World) (l : List Event) : Prop where
  le : Ren.le ρ ρ'
  rel : WRel ρ' w1 W1
  fz : Froz F w1
  drawn : w.drawn ≤ w1.drawn
  drawn' : W1.drawn = W.drawn + (w1.drawn - w.drawn)
  tape : w1.tape = w.tape
  tape' : W1.tape = W.tape
  os : w1.os = w.os
  os' : W1.os = W.os
  out : w1.output = w.output
  out' : W1.output = W.output
  size : w.heap.size ≤ w1.heap.size
  size' : W.heap.size ≤ W1.heap.size
  fresh : ∀ a b, ρ' a b → ρ a b ∨ (w.heap.size ≤ a ∧ W.heap.size ≤ b)
  kept : ∀ b, b < W.heap.size → (∀ a, ρ a b → F a) → W1.heap[b]? = W.heap[b]?
  shp : Shaped w w1
  shp' : Shaped W W1
  opq : OpqKept w w1
  evs : ∀ e ∈ l, EvOk F ρ' w1 e
theorem Ran.refl {F : Nat → Prop} {ρ : Ren} {w W : World} (h : WRel ρ w W) (hF : Froz F w) : Ran F ρ ρ w W w W [] :=
  ⟨Ren.le.refl _, h, hF, Nat.le_refl _, by omega, rfl, rfl, rfl, rfl, rfl, rfl, Nat.le_refl _, Nat.le_refl _, fun a b h => .inl h, fun _ _ _ => rfl, .refl _, .refl _, fun _ h => h, fun e he => by cases he⟩
theorem Ran.trans {F : Nat → Prop} {ρ ρ1 ρ2 : Ren} {w W w1 W1 w2 W2 : World} {l m : List Event} (h : Ran F ρ ρ1 w W w1 W1 l) (k : Ran F ρ1 ρ2 w1 W1 w2 W2 m) : Ran F ρ ρ2 w W w2 W2 (l ++ m) where
  le := h.le.trans k.le
  rel := k.rel
  fz := k.fz
  drawn := Nat.le_trans h.drawn k.drawn
  drawn' := by have := h.drawn'; have := k.drawn'; have := h.drawn; have := k.drawn; omega
  tape := k.tape.trans h.tape
  tape' := k.tape'.trans h.tape'
  os := k.os.trans h.os
  os' := k.os'.trans h.os'
  out := k.out.trans h.out
  out' := k.out'.trans h.out'
  size := Nat.le_trans h.size k.size
  size' := Nat.le_trans h.size' k.size'
  fresh := fun a b hab => by
    rcases k.fresh a b hab with h1 | ⟨h1, h2⟩
    · exact h.fresh a b h1
    · exact .inr ⟨Nat.le_trans h.size h1, Nat.le_trans h.size' h2⟩
  kept := fun b hb hF => by
    rw [k.kept b (Nat.lt_of_lt_of_le hb h.size') fun a ha => ?_]
    · exact h.kept b hb hF
    · rcases h.fresh a b ha with h1 | ⟨_, h2⟩
      · exact hF a h1
      · omega
  shp := h.shp.trans k.shp
  shp' := h.shp'.trans k.shp'
  opq := fun a ha => k.opq a (h.opq a ha)
  evs := fun e he => by
    rcases List.mem_append.1 he with he | he
    · exact (h.evs e he).mono k.le k.shp
    · exact k.evs e he
theorem WRel.cell {ρ : Ren} {w W : World} (h : WRel ρ w W) {a b : Addr} (hab : ARel ρ a b) {v : Value} (hv : w.cell? a = some v) : ∃ u, W.cell? b = some u ∧ VRel ρ v u := by
  obtain ⟨o, o', h1, h2, h3⟩ := h.dom _ _ hab.1
  cases h3 with
  | chan => simp [World.cell?, h1] at hv
  | number => simp [World.cell?, h1] at hv
  | opq => simp [World.cell?, h1, Sim.opq] at hv
  | @cells c d e z z' hr hf hf' =>
    simp only [World.cell?, h1] at hv
    split at hv
    · cases hv
    · rename_i hs
      obtain ⟨u, hu, hr'⟩ := hr.at hv
      refine ⟨u, ?_, hr'⟩
      simp only [World.cell?, h2]
      rw [← hab.2.2, if_neg hs, ← hab.2.1]; exact hu
theorem WRel.unfrozen {ρ : Ren} {w W : World} (h : WRel ρ w W) {a b : Addr} (hab : ARel ρ a b) (hc : (w.cell? a).isSome) : W.frozen? b = false := by
  obtain ⟨o, o', h1, h2, h3⟩ := h.dom _ _ hab.1
  cases h3 with
  | chan => simp [World.frozen?, h2]
  | number => simp [World.frozen?, h2]
  | opq => simp [World.cell?, h1, Sim.opq] at hc
  | @cells c d e z z' hr hf hf' =>
    simp only [World.frozen?, h2]
    have := hf' b.off
    simp only [Bool.and_eq_false_imp, decide_eq_true_eq, decide_eq_false_iff_not]
    intro q1 q2
    exact this ⟨q1, q2⟩
/-- The far ways of a load and a store are none at a matched address. -/
theorem WRel.far {ρ : Ren} {w W : World} (h : WRel ρ w W) {a b : Addr} (hab : ARel ρ a b) (P : Program) (m : Bool) : ∃ e, w.farLoad P a m = .error e := by
  obtain ⟨o, o', h1, h2, h3⟩ := h.dom _ _ hab.1
  cases h3 with
  | opq => exact ⟨_, by unfold World.farLoad; rw [h1]; simp only [Sim.opq, World.viewLoad, World.seen, Option.isSome_some, Bool.or_true, if_true]; rfl⟩
  | _ => exact ⟨_, by unfold World.farLoad; rw [h1]⟩
theorem WRel.farS {ρ : Ren} {w W : World} (h : WRel ρ w W) {a b : Addr} (hab : ARel ρ a b) (P : Program) (v : Value) (m : Bool) : ∃ e, w.farStore P a v m = .error e := by
  obtain ⟨o, o', h1, h2, h3⟩ := h.dom _ _ hab.1
  cases h3 with
  | opq =>
    unfold World.farStore
    rw [h1]
    have hseen : w.seen P ⟨0, 0, some 0⟩ 0 a m = .error "memory seen as another type: a place without cells" := by
      unfold World.seen
      simp only [Option.isSome_some, Bool.or_true, if_true]
      rfl
    have : ∃ s, w.viewStore P ⟨0, 0, some 0⟩ 0 a v m = .error s := by
      unfold World.viewStore
      by_cases ht : tight P P.depth 0 = true
      · simp only [ht, Bool.not_true, Bool.false_eq_true, if_false, hseen]
        exact ⟨_, rfl⟩
      · simp only [ht, Bool.not_false, if_true]
        exact ⟨_, rfl⟩
    obtain ⟨s, hs⟩ := this
    simp only [Sim.opq, hs]
    exact ⟨_, rfl⟩
  | _ => exact ⟨_, by unfold World.farStore; rw [h1]⟩
theorem setCell_size (w : World) (a : Addr) (v : Value) : (w.setCell a v).heap.size = w.heap.size := by simp [World.setCell]
theorem setCell_other (w : World) (a : Addr) (v : Value) {k : Nat} (h : k ≠ a.block) : (w.setCell a v).heap[k]? = w.heap[k]? := by
  simp [World.setCell, Array.getElem?_modify, Ne.symm h]
theorem setCell_at (w : World) (a : Addr) (v : Value) {c : Array Value} {e : TypeId} {z : Nat × Nat} (h : w.heap[a.block]? = some (.cells c e z)) :
    (w.setCell a v).heap[a.block]? = some (.cells (if a.spot.isSome then c else c.setIfInBounds a.off v) e z) := by
  simp [World.setCell, Array.getElem?_modify, h]
theorem setCell_chan (w : World) (a : Addr) (v : Value) {x : Nat} {c : Array Value} {f : Bool} {s r : Nat} {t : Bool} (h : w.heap[a.block]? = some (.chan x c f s r t)) : (w.setCell a v).heap[a.block]? = some (.chan x c f s r t) := by
  simp [World.setCell, Array.getElem?_modify, h]
theorem setCell_num (w : World) (a : Addr) (v : Value) {x : Addr} {l : Bool} (h : w.heap[a.block]? = some (.number x l)) : (w.setCell a v).heap[a.block]? = some (.number x l) := by
  simp [World.setCell, Array.getElem?_modify, h]
theorem setCell_opq (w : World) (a : Addr) (v : Value) {k : Nat} (h : w.heap[k]? = some opq) : (w.setCell a v).heap[k]? = some opq := by
  by_cases e : k = a.block
  · subst e; simp [World.setCell, Array.getElem?_modify, h, opq]
  · rw [setCell_other _ _ _ e]; exact h
theorem setCell_shaped (w : World) (a : Addr) (v : Value) : Shaped w (w.setCell a v) := fun b c e z h => by
  by_cases he : b = a.block
  · subst he
    refine ⟨_, setCell_at w a v h, ?_⟩
    split <;> simp
  · exact ⟨c, by rw [setCell_other _ _ _ he]; exact h, rfl⟩
theorem push_shaped (w : World) (o : Obj) : Shaped w { w with heap := w.heap.push o } := fun b c e z h => ⟨c, by
  have hlt := (Array.getElem?_eq_some_iff.1 h).1
  simp only [Array.getElem?_push]; rw [if_neg (by omega)]; exact h, rfl⟩
theorem ask_le {α : Type} (k : Ask α) : ∀ w : World, w.drawn ≤ (w.ask k).2.drawn := by
  induction k with
  | done a => intro w; simp [World.ask]
  | ask what range k ih =>
    intro w
    simp only [World.ask]
    split
    · exact ih _ w
    · exact Nat.le_trans (Nat.le_succ _) (ih _ { w with drawn := w.drawn + 1 })
theorem sys_le (w : World) (c : Sys) : w.drawn ≤ (w.sys c).2.drawn := by
  have h := ask_le (Kernel.perform c w.os) w
  unfold World.sys
  split
  · exact Nat.le_refl _
  · rename_i e
    rw [e] at h
    exact h
theorem viewStore_drawn {P : Program} {w w' : World} {q : Addr} {u : TypeId} {a : Addr} {v : Value} {m : Bool} {l : List Addr} (h : w.viewStore P q u a v m = .ok (w', l)) : w'.drawn = w.drawn := by
  unfold World.viewStore at h
  simp only [bind, Except.bind, pure, Except.pure, throw, throwThe, MonadExceptOf.throw] at h
  repeat' (split at h)
  all_goals first
    | (cases h; done)
    | (cases h; rfl)
theorem farStore_le {P : Program} {w w' : World} {a : Addr} {v : Value} {m : Bool} {l : List Addr} (h : w.farStore P a v m = .ok (w', l)) : w'.drawn = w.drawn := by
  unfold World.farStore at h
  split at h
  · split at h
    · rename_i r hr
      cases h
      exact viewStore_drawn hr
    · cases h
  · cases h
theorem drawn_le {α : Type} {P : Program} (s : Sem α) : ∀ (w : World) (a : α) (w1 : World), s.run P w = .ok a w1 → w.drawn ≤ w1.drawn := by
  induction s with
  | pure a => intro w x w1 h; simp only [Sem.run, Result.ok.injEq] at h; rw [h.2]; exact Nat.le_refl _
  | load m a k ih =>
    intro w x w1 h
    simp only [Sem.run] at h
    split at h
    · exact ih _ w x w1 h
    · split at h
      · exact ih _ w x w1 h
      · cases h
  | store m a v k ih =>
    intro w x w1 h
    cases v <;> simp only [Sem.run] at h <;> first
      | (cases h; done)
      | (split at h
         · split at h
           · cases h
           · exact ih (w.setCell a _) x w1 h
         · split at h
           · rename_i hf
             have := farStore_le hf
             have h2 := ih _ x w1 h
             omega
           · cases h)
  | new o k ih => intro w x w1 h; simp only [Sem.run] at h; exact ih _ { w with heap := w.heap.push o } x w1 h
  | shape r k ih => intro w x w1 h; simp only [Sem.run] at h; exact ih _ w x w1 h
  | freeze a n k ih =>
    intro w x w1 h
    simp only [Sem.run] at h
    have := ih (w.freeze a n) x w1 h
    have e : (w.freeze a n).drawn = w.drawn := by unfold World.freeze; split <;> rfl
    omega
  | frozen a k ih => intro w x w1 h; simp only [Sem.run] at h; exact ih _ w x w1 h
  | getObj r k ih =>
    intro w x w1 h
    simp only [Sem.run] at h
    split at h
    · cases h
    · exact ih _ w x w1 h
    · cases h
  | setObj r o k ih =>
    intro w x w1 h
    simp only [Sem.run] at h
    split at h
    · cases h
    · exact ih { w with heap := w.heap.setIfInBounds r o } x w1 h
    · cases h
  | choose q k ih =>
    intro w x w1 h
    simp only [Sem.run] at h
    split at h
    · exact ih _ w x w1 h
    · have := ih _ { w with drawn := w.drawn + 1 } x w1 h
      simp at this
      omega
  | sys c k ih =>
    intro w x w1 h
    simp only [Sem.run] at h
    exact Nat.le_trans (sys_le w c) (ih _ _ x w1 h)
  | program k ih => intro w x w1 h; simp only [Sem.run] at h; exact ih P w x w1 h
  | mark m k ih => intro w x w1 h; simp only [Sem.run] at h; exact ih w x w1 h
  | halt h => intro w x w1 h; simp only [Sem.run] at h; cases h
theorem WRel.set {ρ : Ren} {w W : World} (h : WRel ρ w W) {a b : Addr} (hab : ARel ρ a b) {v u : Value} (hv : VRel ρ v u) : WRel ρ (w.setCell a v) (W.setCell b u) where
  fn := h.fn
  inj := h.inj
  dom := fun x y hxy => by
    by_cases e : x = a.block
    · subst e
      obtain rfl := h.fn _ _ _ hxy hab.1
      obtain ⟨o, o', h1, h2, h3⟩ := h.dom _ _ hab.1
      cases h3 with
      | chan => exact ⟨_, _, setCell_chan w a v h1, setCell_chan W b u h2, ORel.chan⟩
      | number l hn => exact ⟨_, _, setCell_num w a v h1, setCell_num W b u h2, .number l hn⟩
      | opq c e z => exact ⟨_, _, setCell_opq w a v h1, setCell_at W b u h2, .opq _ e z⟩
      | @cells c d e z z' hr hf hf' =>
        refine ⟨_, _, setCell_at w a v h1, setCell_at W b u h2, .cells e ?_ (by split <;> simpa using hf) hf'⟩
        rw [← hab.2.2, ← hab.2.1]
        split
        · exact hr
        · exact hr.set _ hv
    · have e' : y ≠ b.block := fun e' => e (h.inj _ _ _ hxy (e' ▸ hab.1))
      obtain ⟨o, o', h1, h2, h3⟩ := h.dom x y hxy
      exact ⟨o, o', by rw [setCell_other _ _ _ e]; exact h1, by rw [setCell_other _ _ _ e']; exact h2, h3⟩
theorem WRel.new {ρ : Ren} {w W : World} (h : WRel ρ w W) {o o' : Obj} (ho : ORel ρ o o') : WRel (ρ.ext w.heap.size W.heap.size) { w with heap := w.heap.push o } { W with heap := W.heap.push o' } := by
  have hd : ∀ a b, ρ a b → a < w.heap.size ∧ b < W.heap.size := fun a b hab => by
    obtain ⟨_, _, h1, h2, _⟩ := h.dom a b hab
    exact ⟨(Array.getElem?_eq_some_iff.1 h1).1, (Array.getElem?_eq_some_iff.1 h2).1⟩
  refine ⟨fun a b hab => ?_, fun a b b' h1 h2 => ?_, fun a a' b h1 h2 => ?_⟩
  · rcases hab with hab | ⟨rfl, rfl⟩
    · obtain ⟨x, y, h1, h2, h3⟩ := h.dom a b hab
      obtain ⟨q1, q2⟩ := hd a b hab
      refine ⟨x, y, ?_, ?_, h3.mono (Ren.le_ext _ _ _)⟩
      · simp only [Array.getElem?_push]; rw [if_neg (by omega)]; exact h1
      · simp only [Array.getElem?_push]; rw [if_neg (by omega)]; exact h2
    · exact ⟨o, o', by simp, by simp, ho.mono (Ren.le_ext _ _ _)⟩
  · rcases h1 with h1 | ⟨e1, e2⟩ <;> rcases h2 with h2 | ⟨e3, e4⟩
    · exact h.fn a b b' h1 h2
    · have := (hd _ _ h1).1; omega
    · have := (hd _ _ h2).1; omega
    · omega
  · rcases h1 with h1 | ⟨e1, e2⟩ <;> rcases h2 with h2 | ⟨e3, e4⟩
    · exact h.inj a a' b h1 h2
    · have := (hd _ _ h1).2; omega
    · have := (hd _ _ h2).2; omega
    · omega
theorem runT_bind {α β : Type} {P : Program} (s : Sem α) (f : α → Sem β) : ∀ (w : World) (es : Array Event), (s.bind f).runT P w es = match s.runT P w es with
    | (.ok a w', es') => (f a).runT P w' es'
    | (.halt h w', es') => (.halt h w', es') := by
  induction s with
  | pure a => intro w es; rfl
  | load m a k ih =>
    intro w es
    simp only [Sem.bind, Sem.runT]
    split
    · exact ih _ _ _
    · split
      · exact ih _ _ _
      · rfl
  | store m a v k ih =>
    intro w es
    cases v <;> simp only [Sem.bind, Sem.runT] <;> first
      | rfl
      | (split
         · split
           · rfl
           · exact ih _ _
         · split
           · exact ih _ _
           · rfl)
  | new o k ih => intro w es; simp only [Sem.bind, Sem.runT]; exact ih _ _ _
  | shape r k ih => intro w es; simp only [Sem.bind, Sem.runT]; exact ih _ _ _
  | freeze a n k ih => intro w es; simp only [Sem.bind, Sem.runT]; exact ih _ _
  | frozen a k ih => intro w es; simp only [Sem.bind, Sem.runT]; exact ih _ _ _
  | getObj r k ih =>
    intro w es
    simp only [Sem.bind, Sem.runT]
    split
    · rfl
    · exact ih _ _ _
    · rfl
  | setObj r o k ih =>
    intro w es
    simp only [Sem.bind, Sem.runT]
    split
    · rfl
    · exact ih _ _
    · rfl
  | choose q k ih =>
    intro w es
    simp only [Sem.bind, Sem.runT]
    split
    · exact ih _ _ _
    · exact ih _ _ _
  | sys c k ih => intro w es; simp only [Sem.bind, Sem.runT]; exact ih _ _ _
  | program k ih => intro w es; simp only [Sem.bind, Sem.runT]; exact ih _ _ _
  | mark m k ih => intro w es; simp only [Sem.bind, Sem.runT]; exact ih _ _
  | halt h => intro w es; rfl
theorem run_bind1 {α β : Type} {P : Program} (s : Sem α) (f : α → Sem β) (w : World) : (s.bind f).run P w = match s.run P w with
    | .ok a w' => (f a).run P w'
    | .halt h w' => .halt h w' := by
  have h1 := Sem.runT_fst P (s.bind f) w #[]
  have h2 := Sem.runT_fst P s w #[]
  rw [← h1, runT_bind]
  rcases hq : s.runT P w #[] with ⟨r, es⟩
  rw [hq] at h2
  simp only at h2
  rw [← h2]
  cases r with
  | ok a w' => exact Sem.runT_fst P (f a) w' es
  | halt h w' => rfl
theorem SemRel.run {α β : Type} {P : Program} {F : Nat → Prop} {R : Ren → α → β → Prop} {ρ : Ren} {s : Sem α} {s' : Sem β} (h : SemRel P R ρ s s') :
    ∀ (w W : World) (es : Array Event) (a : α) (w1 : World), WRel ρ w W → Froz F w → P.globals.size ≤ w.heap.size → P.globals.size ≤ W.heap.size → s.run P w = .ok a w1 → Aligned (w1.drawn - w.drawn) w W →
      ∃ (ρ' : Ren) (b : β) (W1 : World) (l : List Event), s'.runT P W es = (.ok b W1, es ++ l.toArray) ∧ R ρ' a b ∧ Ran F ρ ρ' w W w1 W1 l := by
  induction h with
  | pure h =>
    intro w W es a w1 hw hF hg hG hr _
    simp only [Sem.run, Result.ok.injEq] at hr
    obtain ⟨rfl, rfl⟩ := hr
    exact ⟨_, _, W, [], by simp [Sem.runT], h, Ran.refl hw hF⟩
  | @load ρ a b k k' hab hk ih =>
    intro w W es x w1 hw hF hg hG hr hal
    simp only [Sem.run] at hr
    split at hr
    · rename_i v hv
      obtain ⟨u, hu, hvu⟩ := hw.cell hab hv
      obtain ⟨ρ', y, W1, l, h1, h2, h3⟩ := ih v u hvu w W (es.push ⟨.cell b, false, false⟩) x w1 hw hF hg hG hr hal
      refine ⟨ρ', y, W1, ⟨.cell b, false, false⟩ :: l, ?_, h2, ?_⟩
      · simp only [Sem.runT, hu]
        rw [show ((Mode.plain == Mode.atomic) = false) from rfl, h1]
        congr 1
        rw [Array.push_eq_append, Array.append_assoc]
        congr 1
        simp
      · have h0 : Ran F ρ ρ w W w W [⟨.cell b, false, false⟩] := { Ran.refl hw hF with
          evs := fun e he => by
            simp only [List.mem_singleton] at he
            subst he
            exact .cell b false a.block hab.1 (fun h => by cases h) (rowed_cell hv) }
        exact h0.trans h3
    · obtain ⟨e, he⟩ := hw.far hab P (Mode.plain == Mode.atomic)
      rw [he] at hr
      cases hr
  | @store ρ a b v u k k' hab hvu hk ih =>
    intro w W es x w1 hw hF hg hG hr hal
    have hnagg : ∃ c, w.cell? a = some c ∧ w.frozen? a = false ∧ k.run P (w.setCell a v) = .ok x w1 ∧ (∀ l, v ≠ .agg l) ∧ (∀ l, v ≠ .tuple l) := by
      cases v <;> simp only [Sem.run] at hr <;> first
        | (cases hr; done)
        | (split at hr
           · rename_i c hc
             split at hr
             · cases hr
             · rename_i hfz
               exact ⟨c, hc, by simpa using hfz, hr, by simp, by simp⟩
           · obtain ⟨e, he⟩ := hw.farS hab P _ (Mode.plain == Mode.atomic)
             rw [he] at hr
             cases hr)
    obtain ⟨c, hc, hfz, hrun, hna, hnt⟩ := hnagg
    obtain ⟨c', hc', _⟩ := hw.cell hab hc
    have hfz' := hw.unfrozen hab (by simp [hc])
    have hw1 := hw.set hab hvu
    have hnF : ¬ F a.block := fun hy => by
      rcases hF _ hy with ⟨d, e, hd⟩ | ⟨_, _, _, _, _, hd⟩ | hd
      · simp only [World.frozen?, hd] at hfz
        simp only [World.cell?, hd] at hc
        split at hc
        · cases hc
        · have := (Array.getElem?_eq_some_iff.1 hc).1
          simp at hfz
          omega
      · simp only [World.cell?, hd] at hc
        cases hc
      · simp only [World.cell?, hd, Sim.opq] at hc
        cases hc
    have hF1 : Froz F (w.setCell a v) := fun y hy => by
      have ey : y ≠ a.block := fun e => hnF (e ▸ hy)
      rw [setCell_other _ _ _ ey]
      exact hF y hy
    obtain ⟨ρ', y, W1, l, h1, h2, h3⟩ := ih (w.setCell a v) (W.setCell b u) (es.push ⟨.cell b, true, false⟩) x w1 hw1 hF1 (by rw [setCell_size]; exact hg) (by rw [setCell_size]; exact hG) hrun hal
    refine ⟨ρ', y, W1, ⟨.cell b, true, false⟩ :: l, ?_, h2, ?_⟩
    · have e1 : (Sem.store Mode.plain b u k').runT P W es = k'.runT P (W.setCell b u) (es.push ⟨.cell b, true, false⟩) := by
        cases hvu <;> first
          | (exact absurd rfl (hna _))
          | (exact absurd rfl (hnt _))
          | (simp only [Sem.runT, hc', hfz', Bool.false_eq_true, if_false]; rfl)
      rw [e1, h1]
      congr 1
      rw [Array.push_eq_append, Array.append_assoc]
      congr 1
      simp
    · have h0 : Ran F ρ ρ w W (w.setCell a v) (W.setCell b u) [⟨.cell b, true, false⟩] :=
        { le := Ren.le.refl _, rel := hw1, fz := hF1, drawn := Nat.le_refl _, drawn' := by show W.drawn = W.drawn + (w.drawn - w.drawn); omega, tape := rfl, tape' := rfl, os := rfl, os' := rfl, out := rfl, out' := rfl,
          size := by rw [setCell_size]; exact Nat.le_refl _, size' := by rw [setCell_size]; exact Nat.le_refl _, fresh := fun a b h => .inl h,
          kept := fun z hz hzF => setCell_other _ _ _ fun e => hnF (hzF _ (by rw [e]; exact hab.1)),
          shp := setCell_shaped w a v, shp' := setCell_shaped W b u, opq := fun k hk => setCell_opq w a v hk,
          evs := fun e he => by
            simp only [List.mem_singleton] at he
            subst he
            exact .cell b true a.block hab.1 (fun _ => hnF) ((rowed_cell hc).kept (setCell_shaped w a v)) }
      exact h0.trans h3
  | @new ρ o o' k k' ho hk ih =>
    intro w W es x w1 hw hF hg hG hr hal
    simp only [Sem.run] at hr
    have hw1 := hw.new ho
    have hF1 : Froz F { w with heap := w.heap.push o } := fun y hy => by
      have hlt : y < w.heap.size := hF.lt hy
      have e : (w.heap.push o)[y]? = w.heap[y]? := by simp only [Array.getElem?_push]; rw [if_neg (by omega)]
      show (∃ c e, (w.heap.push o)[y]? = _) ∨ (∃ p f s r t, (w.heap.push o)[y]? = _) ∨ (w.heap.push o)[y]? = _
      rw [e]
      exact hF y hy
    obtain ⟨ρ', y, W1, l, h1, h2, h3⟩ := ih w.heap.size W.heap.size hg hG { w with heap := w.heap.push o } { W with heap := W.heap.push o' } es x w1 hw1 hF1 (by simp; omega) (by simp; omega) hr hal
    refine ⟨ρ', y, W1, l, by simp only [Sem.runT]; exact h1, h2, ?_⟩
    have h0 : Ran F ρ (ρ.ext w.heap.size W.heap.size) w W { w with heap := w.heap.push o } { W with heap := W.heap.push o' } [] :=
      { le := Ren.le_ext _ _ _, rel := hw1, fz := hF1, drawn := Nat.le_refl _, drawn' := by show W.drawn = W.drawn + (w.drawn - w.drawn); omega, tape := rfl, tape' := rfl, os := rfl, os' := rfl, out := rfl, out' := rfl,
        size := by simp, size' := by simp,
        fresh := fun a b h => by
          rcases h with h | ⟨rfl, rfl⟩
          · exact .inl h
          · exact .inr ⟨Nat.le_refl _, Nat.le_refl _⟩,
        kept := fun z hz _ => by simp only [Array.getElem?_push]; rw [if_neg (by omega)],
        shp := push_shaped w o, shp' := push_shaped W o', opq := fun k hk => by
          have hlt := (Array.getElem?_eq_some_iff.1 hk).1
          show (w.heap.push o)[k]? = some _
          simp only [Array.getElem?_push]; rw [if_neg (by omega)]; exact hk,
        evs := fun e he => by cases he }
    exact h0.trans h3
  | @choose ρ q k k' hk ih =>
    intro w W es x w1 hw hF hg hG hr hal
    simp only [Sem.run] at hr
    split at hr
    · rename_i hq
      obtain ⟨ρ', y, W1, l, h1, h2, h3⟩ := ih 0 w W es x w1 hw hF hg hG hr hal
      exact ⟨ρ', y, W1, l, by simp only [Sem.runT, hq, if_true]; exact h1, h2, h3⟩
    · rename_i hq
      have hw1 : WRel ρ { w with drawn := w.drawn + 1 } { W with drawn := W.drawn + 1 } := ⟨hw.dom, hw.fn, hw.inj⟩
      -- how many were drawn
      have hcount : ∀ (n : Nat), (k n).run P { w with drawn := w.drawn + 1 } = .ok x w1 → w.drawn + 1 ≤ w1.drawn := fun n hn => drawn_le (k n) _ _ _ hn
      have hge := hcount _ hr
      have ha0 := hal 0 (by omega) q
      rw [Nat.add_zero, Nat.add_zero] at ha0
      have hal1 : Aligned (w1.drawn - (w.drawn + 1)) { w with drawn := w.drawn + 1 } { W with drawn := W.drawn + 1 } := fun z hz q' => by
        have := hal (z + 1) (by omega) q'
        rw [show w.drawn + (z + 1) = w.drawn + 1 + z by omega, show W.drawn + (z + 1) = W.drawn + 1 + z by omega] at this
        exact this
      obtain ⟨ρ', y, W1, l, h1, h2, h3⟩ := ih _ { w with drawn := w.drawn + 1 } { W with drawn := W.drawn + 1 } es x w1 hw1 hF hg hG hr hal1
      refine ⟨ρ', y, W1, l, ?_, h2, ?_⟩
      · simp only [Sem.runT]
        rw [if_neg hq, ← ha0]
        exact h1
      · have h0 : Ran F ρ ρ w W { w with drawn := w.drawn + 1 } { W with drawn := W.drawn + 1 } [] :=
          { Ran.refl hw hF with evs := (fun e he => by cases he), rel := hw1, drawn := by simp, drawn' := by show W.drawn + 1 = W.drawn + (w.drawn + 1 - w.drawn); omega }
        exact h0.trans h3
  | @program ρ k k' hk ih =>
    intro w W es x w1 hw hF hg hG hr hal
    simp only [Sem.run] at hr
    obtain ⟨ρ', y, W1, l, h1, h2, h3⟩ := ih w W es x w1 hw hF hg hG hr hal
    exact ⟨ρ', y, W1, l, by simp only [Sem.runT]; exact h1, h2, h3⟩
  | @shape ρ r r' k k' hρ hk hk2 ih ih2 =>
    intro w W es x w1 hw hF hg hG hr hal
    simp only [Sem.run] at hr
    obtain ⟨o, o', h1, h2, h3⟩ := hw.dom _ _ hρ
    have done : W.shape? r' = w.shape? r → ∃ (ρ' : Ren) (b : β) (W1 : World) (l : List Event), (Sem.shape r' k').runT P W es = (.ok b W1, es ++ l.toArray) ∧ R ρ' x b ∧ Ran F ρ ρ' w W w1 W1 l := fun e => by
      obtain ⟨ρ', y, W1, l, h1, h2, h3⟩ := ih _ w W es x w1 hw hF hg hG hr hal
      exact ⟨ρ', y, W1, l, by simp only [Sem.runT]; rw [e]; exact h1, h2, h3⟩
    cases h3 with
    | cells e h _ _ => exact done (by simp [World.shape?, h1, h2, h.1])
    | number => exact done (by simp [World.shape?, h1, h2])
    | chan => exact done (by simp [World.shape?, h1, h2])
    | opq c e z =>
      rw [show w.shape? r = none by simp [World.shape?, h1, Sim.opq]] at hr
      obtain ⟨ρ', y, W1, l, q1, q2, q3⟩ := ih2 (W.shape? r') w W es x w1 hw hF hg hG hr hal
      exact ⟨ρ', y, W1, l, by simp only [Sem.runT]; exact q1, q2, q3⟩
  | @getObj ρ r r' k k' hρ hk hd ih =>
    intro w W es x w1 hw hF hg hG hr hal
    obtain ⟨o, o', q1, q2, q3⟩ := hw.dom _ _ hρ
    have key : ∀ (sy : Bool), NRow ρ o o' → (k o).run P w = .ok x w1 → (Sem.getObj r' k').runT P W es = (k' o').runT P W (es.push ⟨.obj r', false, sy⟩) → ∃ (ρ' : Ren) (b : β) (W1 : World) (l : List Event), (Sem.getObj r' k').runT P W es = (.ok b W1, es ++ l.toArray) ∧ R ρ' x b ∧ Ran F ρ ρ' w W w1 W1 l := fun sy q3 hrun e1 => by
      obtain ⟨ρ', y, W1, l, h1, h2, h3⟩ := ih o o' q3 w W (es.push ⟨.obj r', false, sy⟩) x w1 hw hF hg hG hrun hal
      refine ⟨ρ', y, W1, ⟨.obj r', false, sy⟩ :: l, ?_, h2, ?_⟩
      · rw [e1, h1]
        congr 1
        rw [Array.push_eq_append, Array.append_assoc]
        congr 1
        simp
      · have h0 : Ran F ρ ρ w W w W [⟨.obj r', false, sy⟩] := { Ran.refl hw hF with
          evs := fun e he => by
            simp only [List.mem_singleton] at he
            subst he
            exact .obj r' sy r hρ }
        exact h0.trans h3
    simp only [Sem.run, q1] at hr
    cases q3 with
    | cells => cases hr
    | number l hl => exact key false (.number l hl) hr (by simp only [Sem.runT, q2]; rfl)
    | chan => exact key true .chan hr (by simp only [Sem.runT, q2]; rfl)
    | opq c e z => exact absurd hr (hd.run w x w1)
  | @looks ρ γ γ' T p p' k k' h1 h2 h3 hk ih =>
    intro w W es x w1 hw hF hg hG hr hal
    rw [run_bind1] at hr
    cases hp : p.run P w with
    | halt h w2 => rw [hp] at hr; cases hr
    | ok u w2 =>
      rw [hp] at hr
      simp only at hr
      obtain ⟨rfl, _⟩ := h1 _ _ _ hp
      obtain ⟨u', l0, e1, e2, hT⟩ := h3 w2 W u w2 hw hp
      obtain ⟨ρ', y, W1, l, q1, q2, q3⟩ := ih u u' hT w2 W (es ++ l0.toArray) x w1 hw hF hg hG hr hal
      refine ⟨ρ', y, W1, l0 ++ l, ?_, q2, ?_⟩
      · rw [runT_bind, e1]
        simp only
        rw [q1]
        congr 1
        rw [Array.append_assoc]
        congr 1
        simp
      · have h0 : Ran F ρ ρ w2 W w2 W l0 := { Ran.refl hw hF with
          evs := fun e he => by
            obtain ⟨r, s, a, rfl, ha⟩ := e2 e he
            exact .obj r s a ha }
        exact h0.trans q3
  | @extern ρ g k k' hk ih =>
    intro w W es x w1 hw hF hg hG hr hal
    simp only [Sem.run] at hr
    obtain ⟨ρ', y, W1, l, h1, h2, h3⟩ := ih w W (es.push ⟨.mark (.extern g), false, true⟩) x w1 hw hF hg hG hr hal
    refine ⟨ρ', y, W1, ⟨.mark (.extern g), false, true⟩ :: l, ?_, h2, ?_⟩
    · simp only [Sem.runT, h1]
      congr 1
      rw [Array.push_eq_append, Array.append_assoc]
      congr 1
      simp
    · have h0 : Ran F ρ ρ w W w W [⟨.mark (.extern g), false, true⟩] := { Ran.refl hw hF with
        evs := fun e he => by
          simp only [List.mem_singleton] at he
          subst he
          exact .extern g }
      exact h0.trans h3
  | @noRoom ρ k k' hk ih =>
    intro w W es x w1 hw hF hg hG hr hal
    simp only [Sem.run] at hr
    obtain ⟨ρ', y, W1, l, h1, h2, h3⟩ := ih w W (es.push ⟨.mark .noRoom, false, true⟩) x w1 hw hF hg hG hr hal
    refine ⟨ρ', y, W1, ⟨.mark .noRoom, false, true⟩ :: l, ?_, h2, ?_⟩
    · simp only [Sem.runT, h1]
      congr 1
      rw [Array.push_eq_append, Array.append_assoc]
      congr 1
      simp
    · have h0 : Ran F ρ ρ w W w W [⟨.mark .noRoom, false, true⟩] := { Ran.refl hw hF with
        evs := fun e he => by
          simp only [List.mem_singleton] at he
          subst he
          exact .noRoom }
      exact h0.trans h3
  | halt h s hs =>
    intro w W es x w1 hw hF hg hG hr hal
    simp only [Sem.run] at hr
    cases hr
  | dead h s =>
    intro w W es x w1 hw hF hg hG hr hal
    exact absurd hr (h.run w x w1)
end Go.Proofs.Ytkodpijedinanaa.Sim

namespace Go.Proofs.Ytkodpijedinanaa.Sim
open Go
set_option linter.unusedVariables false
set_option linter.unusedSimpArgs false

section
variable {P : Program} {ρ : Ren} {α β γ δ : Type}
theorem srel_bind {R : Ren → α → β → Prop} {S : Ren → γ → δ → Prop} {s : Sem α} {s' : Sem β} (h : SemRel P R ρ s s') {f : α → Sem γ} {f' : β → Sem δ}
    (k : ∀ ρ', Ren.le ρ ρ' → ∀ a b, R ρ' a b → SemRel P S ρ' (f a) (f' b)) : SemRel P S ρ (s >>= f) (s' >>= f') := h.bind k
theorem SemRel.above {R : Ren → α → β → Prop} {s : Sem α} {s' : Sem β} (h : SemRel P R ρ s s') : Above P ρ → SemRel P (fun ρ' a b => R ρ' a b ∧ Above P ρ') ρ s s' := by
  induction h with
  | pure h => exact fun k => .pure ⟨h, k⟩
  | load h _ ih => exact fun k => .load h fun v w hv => ih v w hv k
  | store h hv _ ih => exact fun k => .store h hv (ih k)
  | new h _ ih => exact fun k => .new h fun r s hr hs => ih r s hr hs (Above.ext k hr)
  | choose q _ ih => exact fun k => .choose q fun n => ih n k
  | program _ ih => exact fun k => .program (ih k)
  | shape h _ _ ih ih2 => exact fun k => .shape h (fun s => ih s k) fun s => ih2 s k
  | getObj h _ hd ih => exact fun k => .getObj h (fun o o' ho => ih o o' ho k) hd
  | looks h1 h2 h3 _ ih => exact fun k => .looks h1 h2 h3 fun x y hxy => ih x y hxy k
  | extern g _ ih => exact fun k => .extern g (ih k)
  | noRoom _ ih => exact fun k => .noRoom (ih k)
  | halt h s hs => exact fun _ => .halt h _ hs
  | dead h s => exact fun _ => .dead h _
theorem srel_bindA {R : Ren → α → β → Prop} {S : Ren → γ → δ → Prop} {s : Sem α} {s' : Sem β} (hA : Above P ρ) (h : SemRel P R ρ s s') {f : α → Sem γ} {f' : β → Sem δ}
    (k : ∀ ρ', Ren.le ρ ρ' → Above P ρ' → ∀ a b, R ρ' a b → SemRel P S ρ' (f a) (f' b)) : SemRel P S ρ (s >>= f) (s' >>= f') := (h.above hA).bind fun ρ' hl a b hab => k ρ' hl hab.2 a b hab.1
theorem srel_pure {R : Ren → α → β → Prop} {a : α} {b : β} (h : R ρ a b) : SemRel P R ρ (pure a) (pure b) := .pure h
theorem srel_map {R : Ren → α → β → Prop} {S : Ren → γ → δ → Prop} {s : Sem α} {s' : Sem β} (h : SemRel P R ρ s s') {f : α → γ} {f' : β → δ}
    (k : ∀ ρ', Ren.le ρ ρ' → ∀ a b, R ρ' a b → S ρ' (f a) (f' b)) : SemRel P S ρ (s >>= fun x => pure (f x)) (s' >>= fun x => pure (f' x)) := srel_bind h fun ρ' hl a b hab => .pure (k ρ' hl a b hab)
theorem SemRel.weak {R S : Ren → α → β → Prop} {s : Sem α} {s' : Sem β} (h : SemRel P R ρ s s') (k : ∀ ρ', Ren.le ρ ρ' → ∀ a b, R ρ' a b → S ρ' a b) : SemRel P S ρ s s' := by
  induction h with
  | pure h => exact .pure (k _ (Ren.le.refl _) _ _ h)
  | load h _ ih => exact .load h fun v w hv => ih v w hv k
  | store h hv _ ih => exact .store h hv (ih k)
  | new h _ ih => exact .new h fun r s hr hs => ih r s hr hs fun ρ' hle a b => k ρ' ((Ren.le_ext _ _ _).trans hle) a b
  | choose q _ ih => exact .choose q fun n => ih n k
  | program _ ih => exact .program (ih k)
  | shape h _ _ ih ih2 => exact .shape h (fun s => ih s k) fun s => ih2 s k
  | getObj h _ hd ih => exact .getObj h (fun o o' ho => ih o o' ho k) hd
  | looks h1 h2 h3 _ ih => exact .looks h1 h2 h3 fun x y hxy => ih x y hxy k
  | extern g _ ih => exact .extern g (ih k)
  | noRoom _ ih => exact .noRoom (ih k)
  | halt h s hs => exact .halt h _ hs
  | dead h s => exact .dead h _
theorem srel_program : SemRel P (fun _ p q => p = P ∧ q = P) ρ program program := .program (.pure ⟨rfl, rfl⟩)
theorem srel_stuck {R : Ren → α → β → Prop} (e : String) (s : Sem β) : SemRel P R ρ (stuck e) s := .halt _ _
theorem srel_unsup {R : Ren → α → β → Prop} (e : Unsupported) (s : Sem β) (hs : softB (.unsupported e) = true := by rfl) : SemRel P R ρ (unsupported e) s := .halt _ _ hs
theorem srel_underlying (t : TypeId) : SemRel P (fun _ a b => a = b ∧ P.underlying t = some a) ρ (underlying t) (underlying t) := by
  unfold underlying
  refine srel_bind srel_program fun ρ' _ p q hpq => ?_
  obtain ⟨rfl, rfl⟩ := hpq
  cases h : q.underlying t with
  | none => exact .halt _ _
  | some d => exact .pure ⟨rfl, rfl⟩
theorem srel_typeInfo (t : TypeId) : SemRel P (fun _ a b => a = b ∧ P.info? t = some a) ρ (typeInfo t) (typeInfo t) := by
  unfold typeInfo
  refine srel_bind srel_program fun ρ' _ p q hpq => ?_
  obtain ⟨rfl, rfl⟩ := hpq
  cases h : q.info? t with
  | none => exact .halt _ _
  | some d => exact .pure ⟨rfl, rfl⟩
theorem srel_sizeOf (t : TypeId) : SemRel P (fun _ a b => a = b ∧ ∃ i, P.info? t = some i ∧ i.size = a) ρ (sizeOf t) (sizeOf t) := by
  unfold sizeOf
  refine srel_bind (srel_typeInfo t) fun ρ' _ a b hab => ?_
  obtain ⟨rfl, h⟩ := hab
  exact .pure ⟨rfl, a, h, rfl⟩
theorem srel_isAgg (t : TypeId) : SemRel P (fun _ a b => a = b) ρ (isAgg t) (isAgg t) := by
  unfold isAgg
  refine srel_bind (srel_underlying t) fun ρ' _ a b hab => ?_
  obtain ⟨rfl, h⟩ := hab
  cases a <;> exact .pure rfl
/-- A value that names no block. -/
def flatN : Nat → Value → Bool
  | _, .pointer none | _, .slice none _ _ | _, .map none | _, .chan none | _, .nilFunc | _, .nilIface => true
  | _, .bool _ | _, .int _ _ | _, .string _ => true
  | n + 1, .agg c | n + 1, .tuple c => c.all (flatN n)
  | n + 1, .iface _ v => flatN n v
  | n + 1, .func (.func g) f c => Fns.l.contains g && f.all (flatN n) && c.all (flatN n)
  | _, _ => false
theorem flat_rel : ∀ (n : Nat) (v : Value), flatN n v = true → VRel ρ v v := by
  intro n
  induction n with
  | zero =>
    intro v h
    cases v with
    | pointer a => cases a <;> simp [flatN] at h; exact .ptrNil
    | slice a n c => cases a <;> simp [flatN] at h; exact .sliceNil _ _
    | map a => cases a <;> simp [flatN] at h; exact .mapNil
    | chan a => cases a <;> simp [flatN] at h; exact .chanNil
    | bool => exact .bool _
    | int => exact .int _ _
    | float => simp [flatN] at h
    | complex => simp [flatN] at h
    | string => exact .string _
    | nilFunc => exact .nilFunc
    | nilIface => exact .nilIface
    | func => simp [flatN] at h
    | iface => simp [flatN] at h
    | agg => simp [flatN] at h
    | tuple => simp [flatN] at h
  | succ n ih =>
    have hr : ∀ c : Array Value, c.all (flatN n) = true → ∀ (i : Nat) v w, c[i]? = some v → c[i]? = some w → VRel ρ v w := fun c hc i v w h1 h2 => by
      rw [h1] at h2
      cases h2
      obtain ⟨hi, rfl⟩ := Array.getElem?_eq_some_iff.1 h1
      exact ih _ (by rw [Array.all_eq_true] at hc; exact hc i hi)
    intro v h
    cases v with
    | pointer a => cases a <;> simp [flatN] at h; exact .ptrNil
    | slice a n c => cases a <;> simp [flatN] at h; exact .sliceNil _ _
    | map a => cases a <;> simp [flatN] at h; exact .mapNil
    | chan a => cases a <;> simp [flatN] at h; exact .chanNil
    | bool => exact .bool _
    | int => exact .int _ _
    | float => simp [flatN] at h
    | complex => simp [flatN] at h
    | string => exact .string _
    | nilFunc => exact .nilFunc
    | nilIface => exact .nilIface
    | func fn f c =>
      cases fn with
      | func g =>
        simp only [flatN, Bool.and_eq_true] at h
        exact .func g (by simpa using h.1.1) rfl (hr f h.1.2) rfl (hr c h.2)
      | _ => simp [flatN] at h
    | iface t v => simp only [flatN] at h; exact .iface t (ih v h)
    | agg c => simp only [flatN] at h; exact .agg rfl (hr c h)
    | tuple c => simp only [flatN] at h; exact .tuple rfl (hr c h)
/-- The zero of the type names no block. -/
def ZeroOk (P : Program) (t : TypeId) : Prop := ∀ i z, P.info? t = some i → i.zero = some z → flatN 4 z = true
theorem srel_zeroValue {t : TypeId} (hz : ZeroOk P t) : SemRel P (fun ρ a b => VRel ρ a b ∧ a = b) ρ (zeroValue t) (zeroValue t) := by
  unfold zeroValue
  refine srel_bind (srel_typeInfo t) fun ρ' _ a b hab => ?_
  obtain ⟨rfl, h⟩ := hab
  cases hzz : a.zero with
  | none => exact .halt _ _
  | some z => exact .pure ⟨flat_rel 4 z (hz a z h hzz), rfl⟩
theorem ARel.add {a b : Addr} (h : ARel ρ a b) (n : Nat) : ARel ρ (a.add n) (b.add n) := by
  obtain ⟨h1, h2, h3⟩ := h
  unfold Addr.add
  split
  · exact ⟨h1, h2, h3⟩
  · exact ⟨h1, by simp [h2], rfl⟩
theorem VRel.cells {v w : Value} (h : VRel ρ v w) : RowRel ρ v.cells w.cells := by
  have one : ∀ x y : Value, VRel ρ x y → RowRel ρ #[x] #[y] := fun x y hxy => (RowRel.nil ρ).push hxy
  cases h with
  | junkS a n c => exact one _ _ (.junkS a n c)
  | junkP a => exact one _ _ (.junkP a)
  | junkF k b => exact one _ _ (.junkF k b)
  | junkC k a b => exact one _ _ (.junkC k a b)
  | junkM m => exact one _ _ (.junkM m)
  | junkH c => exact one _ _ (.junkH c)
  | junkG f a b => exact one _ _ (.junkG f a b)
  | junkI t v => exact one _ _ (.junkI t v)
  | junkT c => exact one _ _ (.junkT c)
  | agg h1 h2 => exact ⟨h1, h2⟩
  | bool b => exact one _ _ (.bool b)
  | int k n => exact one _ _ (.int k n)
  | string s => exact one _ _ (.string s)
  | ptrNil => exact one _ _ .ptrNil
  | ptr h => exact one _ _ (.ptr h)
  | sliceNil n c => exact one _ _ (.sliceNil n c)
  | sliceE a b => exact one _ _ (.sliceE a b)
  | slice n c h => exact one _ _ (.slice n c h)
  | mapNil => exact one _ _ .mapNil
  | map h => exact one _ _ (.map h)
  | chanNil => exact one _ _ .chanNil
  | chan h => exact one _ _ (.chan h)
  | func fn h0 h1 h2 h3 h4 => exact one _ _ (.func fn h0 h1 h2 h3 h4)
  | nilFunc => exact one _ _ .nilFunc
  | iface t h => exact one _ _ (.iface t h)
  | nilIface => exact one _ _ .nilIface
  | tuple h1 h2 => exact one _ _ (.tuple h1 h2)
theorem srel_loadCellsFrom {a b : Addr} (h : ARel ρ a b) : ∀ (n i : Nat) (c d : Array Value), RowRel ρ c d → SemRel P RowRel ρ (loadCellsFrom a i n c) (loadCellsFrom b i n d)
  | 0, i, c, d, hr => .pure hr
  | n + 1, i, c, d, hr => .load (h.add i) fun v w hvw => srel_loadCellsFrom h n (i + 1) _ _ (hr.push hvw)
theorem srel_loadCells {a b : Addr} (h : ARel ρ a b) (n : Nat) : SemRel P RowRel ρ (loadCells a n) (loadCells b n) := srel_loadCellsFrom h n 0 _ _ (RowRel.nil ρ)
theorem srel_load {a b : Addr} (h : ARel ρ a b) : SemRel P VRel ρ (load a) (load b) := .load h fun v w hvw => .pure hvw
theorem srel_loadVar {a b : Addr} (t : TypeId) (h : ARel ρ a b) : SemRel P VRel ρ (loadVar t a) (loadVar t b) := by
  unfold loadVar
  refine srel_bind (srel_isAgg t) fun ρ' hl x y hxy => ?_
  subst hxy
  cases x with
  | true =>
    refine srel_bind (srel_sizeOf t) fun ρ2 hl2 x y hxy => ?_
    obtain ⟨rfl, _⟩ := hxy
    exact srel_map (srel_loadCells ((h.mono hl).mono hl2) x) fun ρ3 _ c d hcd => .agg hcd.1 hcd.2
  | false => exact srel_load (h.mono hl)
theorem srel_storeCells {a b : Addr} (h : ARel ρ a b) : ∀ (l m : List Value) (i : Nat), l.length = m.length → (∀ (j : Nat) v w, l[j]? = some v → m[j]? = some w → VRel ρ v w) → SemRel P (fun _ _ _ => True) ρ (storeCells a l i) (storeCells b m i)
  | [], [], i, _, _ => .pure trivial
  | v :: l, w :: m, i, hl, hr => by
    refine .store (h.add i) (hr 0 v w rfl rfl) (srel_storeCells h l m (i + 1) (by simpa using hl) fun j x y hx hy => hr (j + 1) x y (by simpa using hx) (by simpa using hy))
  | [], w :: m, i, hl, _ => by simp at hl
  | v :: l, [], i, hl, _ => by simp at hl
theorem RowRel.toList {c d : Array Value} (h : RowRel ρ c d) : c.toList.length = d.toList.length ∧ ∀ (j : Nat) v w, c.toList[j]? = some v → d.toList[j]? = some w → VRel ρ v w :=
  ⟨by simpa using h.1, fun j v w a b => h.2 j v w (by simpa using a) (by simpa using b)⟩
theorem srel_storeVar {a b : Addr} {v w : Value} (t : TypeId) (h : ARel ρ a b) (hv : VRel ρ v w) : SemRel P (fun _ _ _ => True) ρ (storeVar t a v) (storeVar t b w) := by
  unfold storeVar
  refine srel_bind (srel_sizeOf t) fun ρ' hl x y hxy => ?_
  obtain ⟨rfl, _⟩ := hxy
  have hc := (hv.mono hl).cells
  rw [← hc.1]
  split
  · exact .halt _ _
  · exact srel_storeCells (h.mono hl) _ _ 0 hc.toList.1 hc.toList.2
theorem srel_newRow (e : TypeId) {c d : Array Value} (h : RowRel ρ c d) : SemRel P ARel ρ (newRow e c) (newRow e d) :=
  .new (.cells e h (.inl rfl) .nil) fun r s _ _ => .pure ⟨.inr ⟨rfl, rfl⟩, rfl, rfl⟩
theorem srel_newVar (t : TypeId) {v w : Value} (h : VRel ρ v w) : SemRel P ARel ρ (newVar t v) (newVar t w) := srel_newRow t h.cells
theorem srel_asBool {v w : Value} (h : VRel ρ v w) : SemRel P (fun _ a b => a = b) ρ (asBool v) (asBool w) := by
  cases h <;> first | exact .pure rfl | exact .halt _ _
theorem srel_asIntOf {v w : Value} (h : VRel ρ v w) : SemRel P (fun _ a b => a = b) ρ (asIntOf v) (asIntOf w) := by
  cases h <;> first | exact .pure rfl | exact .halt _ _
theorem srel_asInt {v w : Value} (h : VRel ρ v w) : SemRel P (fun _ a b => a = b) ρ (asInt v) (asInt w) := by
  unfold asInt
  exact srel_map (srel_asIntOf h) fun _ _ a b hab => by rw [hab]
theorem srel_rpanic {R : Ren → α → β → Prop} {e e' : RuntimeError} (he : (match e with | .typeAssertion .. | .panicNil => False | _ => True)) (he' : (match e' with | .typeAssertion .. | .panicNil => False | _ => True)) : SemRel P R ρ (runtimePanic e) (runtimePanic e') := by
  unfold runtimePanic
  refine srel_bind srel_program fun ρ' _ p q hpq => ?_
  obtain ⟨rfl, rfl⟩ := hpq
  cases e <;> first | exact .halt _ _ | exact absurd he id
theorem srel_bpanic {R : Ren → α → β → Prop} (k : IntKind) (x y : Int) (c : BoundsCode) : SemRel P R ρ (boundsPanic k x y c) (boundsPanic k x y c) := by
  unfold boundsPanic
  have h : SemRel P (fun _ (a b : Bool) => True) ρ (if k != .u64 && 0 ≤ x && x ≤ 31 then (· == 1) <$> choose (.extern "runtime.boundsError.signed" 2) else pure (k != .u64)) (if k != .u64 && 0 ≤ x && x ≤ 31 then (· == 1) <$> choose (.extern "runtime.boundsError.signed" 2) else pure (k != .u64)) := by
    split
    · exact .choose _ fun n => .pure trivial
    · exact .pure trivial
  have q := srel_bind h (S := R) (f := fun signed => runtimePanic (.bounds (IntKind.i64.wrap x) y signed c)) (f' := fun signed => runtimePanic (.bounds (IntKind.i64.wrap x) y signed c)) fun ρ' _ a b _ => srel_rpanic (by trivial) (by trivial)
  revert q
  split <;> exact id
theorem dead_bpanic {α : Type} (k : IntKind) (x y : Int) (c : BoundsCode) : Dead P (boundsPanic k x y c : Sem α) := by
  unfold boundsPanic
  have hr : ∀ s : Bool, Dead P (runtimePanic (.bounds (IntKind.i64.wrap x) y s c) : Sem α) := fun s => .program (.halt _)
  split
  · exact .choose _ fun n => hr _
  · exact hr _
theorem srel_sureAddr {v w : Value} (h : VRel ρ v w) : SemRel P ARel ρ (Instr.sureAddr v) (Instr.sureAddr w) := by
  cases h <;> first | (rename_i h; exact .pure h) | exact .halt _ _
end
end Go.Proofs.Ytkodpijedinanaa.Sim
