/- Texts that the claim imports, laid together: Base Mem Own Tag HoldL Grow Share ShareB. No statement of their own. -/
import Derived.Test.YtjdedflfdlhkdaaGreatDoorRows
import Derived.WalkKit
import Derived.ProofKit
import Derived.OpenShut
import Derived.WalkLawsBesides
import Derived.Lib.Hide
import Derived.StillTailTactics
import Derived.BigQuiet
import Derived.Deep.QuietTactic
import Derived.Deep.DeepCutAuto
import Derived.Deep.RegionWith
import Derived.Deep.RegionHeld3
import Derived.Laws.AppendOwnNone
namespace Go.Proofs.YtjdedflfdlhkdaaGreatDoor
open Go.ChangeShapes Go.WideShapes Go.ChangeAt Go.RowKit
set_option linter.unusedVariables false

theorem ret_int {k : IntKind} {a b : Int} (h : a = b) : Ending.returned (.int k a) = .returned (.int k b) := by rw [h]
theorem ret_bool {a b : Bool} (h : a = b) : Ending.returned (.bool a) = .returned (.bool b) := by rw [h]
theorem wf64_iff {n : Int} : (Lit.int .i64 n).wf = true ↔ -9223372036854775808 ≤ n ∧ n ≤ 9223372036854775807 := by
  simp [Lit.wf, IntKind.min, IntKind.max, IntKind.signed, IntKind.bits]

/-- 'Picked': the remainder from 0 up. -/
def pick (a n : Int) : Int := if a.tmod n < 0 then a.tmod n + n else a.tmod n
theorem pick_bd (a n : Int) (hn : 0 < n) : 0 ≤ pick a n ∧ pick a n < n := by
  have h1 := Int.tmod_lt_of_pos a hn
  have h2 : -n < a.tmod n := by
    have := Int.neg_tmod a n
    have := Int.tmod_lt_of_pos (-a) hn
    omega
  unfold pick; split <;> omega
theorem picked (a n : Int) (hn : 0 < n) (hm : n ≤ 1152921504606846976) (w : World) :
    Calls Tryz.prog 18 #[.int .i64 a, .int .i64 n] w fun e w' => e = .returned (.int .i64 (pick a n)) ∧ w = w' := by
  have h1 := Int.tmod_lt_of_pos a hn
  have h2 : -n < a.tmod n := by
    have := Int.neg_tmod a n
    have := Int.tmod_lt_of_pos (-a) hn
    omega
  have H : Hid (pick a n = if a.tmod n < 0 then a.tmod n + n else a.tmod n) := rfl
  go_enter Tryz.func18, Tryz.ntmps18
  go_wp2
  all_goals go_ret
  · exact ⟨ret_int (by rw [H.out, if_pos (by assumption)]), rfl⟩
  · exact ⟨ret_int (by rw [H.out, if_neg (by omega)]), rfl⟩

section frame
variable {H : Type} {enc : TypeId × Value → H} {P : Program}
/-- Arguments read as they did where their places hold what they held. -/
theorem trodAll_stays (hl : laidOutB P = true) {W W' : World} {sp' : Nat → Bool} : ∀ {ts : List TypeId} {vs : List Value} {ds : List (DataW H)} {ps : List MemPlace},
    ts.all (fun t => P.readableRec t && decide (t < P.types.size)) = true → DataW.TrodAll enc P W 0 (fun _ => true) true ts vs ds ps → (∀ x ∈ ps, W.sameAt W' x) → (∀ x ∈ ps, sp' x.block = true) →
    DataW.TrodAll enc P W' 0 sp' true ts vs ds ps
  | [], [], [], _, _, h, _, _ => h
  | t :: ts, _ :: _, _ :: _, _, ht, ⟨p, q, h1, h2, e⟩, hs, hb => by
    simp only [List.all_cons, Bool.and_eq_true, decide_eq_true_eq] at ht
    refine ⟨p, q, WideElems.Trod_stays hl ht.1.1 ht.1.2 h1 (fun x hx => hs x (by rw [e]; exact List.mem_append_left _ hx)) (fun x hx => hb x (by rw [e]; exact List.mem_append_left _ hx)), trodAll_stays hl ht.2 h2 (fun x hx => hs x (by rw [e]; exact List.mem_append_right _ hx)) (fun x hx => hb x (by rw [e]; exact List.mem_append_right _ hx)), e⟩
/-- What a law's row asks behind the call: it returned true, and below its first block nothing has changed. -/
theorem law_post {f : Func} {s : ChangeSpec} {W W' : World} {args : Array Value} {ds : List (DataW H)} {before : List MemPlace} {b : TypeId}
    (hl : laidOutB P = true) (hr : f.params.toList.all (fun t => P.readableRec t && decide (t < P.types.size)) = true) (hbool : P.underlying b = some .bool) (hres : f.resultTypes = #[b])
    (hW : DataW.Whole enc P f.params.toList s.vars false W args.toList ds [] (before ++ [])) (hA : DataW.TrodAll enc P W 0 (fun _ => true) true f.params.toList args.toList ds before)
    (hlt : ∀ x ∈ before, x.block < W.heap.size) (hb : Below W.heap.size W W') (hvars : s.vars = [])
    (hfn : ∀ (_ : Unit), (s.fn H (ds ++ [])).results = [.lit (.bool true)]) (hfa : ∀ (_ : Unit), (s.fn H (ds ++ [])) = { results := [.lit (.bool true)], args := ds }) :
    s.post enc P f false true false false W args (.bool true) W' := by
  rw [List.append_nil] at hW
  have hsame : ∀ x ∈ before, W.sameAt W' x := fun x hx => hb.same (hlt x hx)
  have hfz : ∀ x ∈ before, W'.frozen? ⟨x.block, 0, none⟩ = W.frozen? ⟨x.block, 0, none⟩ := fun x hx => hb.frozen (p := ⟨x.block, 0, none⟩) (hlt x hx)
  have hRes : ∀ (bb : Nat) (sp : Nat → Bool) (hd : Bool), DataW.TrodAll enc P W' bb sp hd f.resultTypes.toList ((Value.bool true).resultList f.resultTypes.size) (s.fn H (ds ++ [])).results [] := by
    intro bb sp hd
    rw [hfn (), hres]
    exact trodAll_cons_mk (shut_bool hbool _) trodAll_mk0
  have hArgs : ∀ sp : Nat → Bool, (∀ x ∈ before, sp x.block = true) → DataW.TrodAll enc P W' 0 sp true f.params.toList args.toList (s.fn H (ds ++ [])).args before := by
    intro sp hsp
    rw [hfa ()]
    exact trodAll_stays hl hr hA hsame hsp
  have hVars : ∀ sp : Nat → Bool, DataW.TrodVars enc P W' sp s.vars (s.fn H (ds ++ [])).vars [] := by
    intro sp
    rw [hfa (), hvars]
    rfl
  have hold : ∀ x ∈ before, (fun b => decide (b < W.heap.size)) x.block = true := fun x hx => by simpa using hlt x hx
  refine ⟨ds, [], before, [], before, [], hW, hRes _ _ _, hArgs _ hold, hVars _, hb.frame _, fun _ => ?_⟩
  obtain ⟨_, _, _, _, _, hz, hn⟩ := hW
  refine ⟨?_, _, _, ([] ++ before) ++ [], ⟨[] ++ before, [], trodAll_append (hArgs _ (fun _ _ => rfl)) (hRes _ _ _), hVars _, rfl, ?_, fun h => by cases h⟩, ?_⟩
  · intro j t r h1 h2
    rw [hres] at h1 h2
    obtain ⟨rfl, rfl⟩ : j = 0 ∧ t = b := by
      rcases j with _ | j
      · simpa [eq_comm] using h1
      · simp at h1
    obtain rfl : r = .bool true := by simpa [Value.resultList, eq_comm] using h2
    exact okWide_bool_mk hbool _
  · intro b off hp
    have hp' : MemPlace.cell b off ∈ before := by simpa using hp
    rw [hb.frozen (p := ⟨b, off, none⟩) (hlt _ hp')]
    exact hz b off hp'
  · intro x hx _
    simpa using hx
end frame
end Go.Proofs.YtjdedflfdlhkdaaGreatDoor

namespace Go.Proofs.YtjdedflfdlhkdaaGreatDoor
open Go.ChangeShapes Go.WideShapes Go.ChangeAt Go.RowKit
set_option linter.unusedVariables false

/-- v is a slice of n elements of sz cells each; xs are its cells, one behind the other. -/
def NilOk (v : Value) : Prop := ∀ n cap, v = .slice none n cap → n = 0 ∧ cap = 0
def Has (w : World) (sz : Nat) (v : Value) (n : Nat) (xs : List Value) : Prop :=
  (xs.length = n * sz ∧ NilOk v) ∧ ∃ a cap, v = .slice a n cap ∧ n ≤ cap ∧ cap ≤ maxLen ∧ (0 < xs.length → ∃ b off, a = some ⟨b, off, none⟩ ∧ ∀ j u, xs[j]? = some u → w.cell? ⟨b, off + j, none⟩ = some u)
section
variable {w w' : World} {sz n : Nat} {v : Value} {xs : List Value}
theorem Has.same (h : Has w sz v n xs) (hs : ∀ b o, b < w.heap.size → w'.cell? ⟨b, o, none⟩ = w.cell? ⟨b, o, none⟩) : Has w' sz v n xs := by
  obtain ⟨hl, a, cap, rfl, h1, h2, h3⟩ := h
  refine ⟨hl, a, cap, rfl, h1, h2, fun hp => ?_⟩
  obtain ⟨b, off, rfl, hc⟩ := h3 hp
  refine ⟨b, off, rfl, fun j u hu => ?_⟩
  have := hc j u hu
  rw [hs _ _ (World.block_lt_of_cell? w _ this)]; exact this
theorem Has.below (h : Has w sz v n xs) (hb : Below w.heap.size w w') : Has w' sz v n xs :=
  h.same fun b o hlt => hb.cell (p := ⟨b, o, none⟩) hlt
theorem Has.le (h : Has w sz v n xs) : n ≤ 140737488351232 ∨ n ≤ maxLen := Or.inr (by obtain ⟨_, a, cap, rfl, h1, h2, h3⟩ := h; omega)
theorem Has.of_owns {base e : Nat} (h : w.ownsRow base e sz v n xs) : Has w sz v n xs := by
  obtain ⟨hl, h⟩ := h
  rcases h with ⟨rfl, rfl⟩ | ⟨g, cap, cur, rfl, hg, hh, hn, hm, hs, ht⟩
  · exact ⟨⟨hl, fun n cap h => by simp only [Value.slice.injEq] at h; exact ⟨h.2.1.symm, h.2.2.symm⟩⟩, none, 0, rfl, Nat.le_refl _, Nat.zero_le _, fun hp => by omega⟩
  · refine ⟨⟨hl, fun n cap h => by simp at h⟩, _, cap, rfl, hn, hm, fun _ => ⟨g, 0, rfl, fun j u hu => ?_⟩⟩
    have := World.ownsRow.cells (w := w) (base := base) (e := e) (size := sz) (v := .slice (some ⟨g, 0, none⟩) n cap) (n := n) (xs := xs) ⟨hl, .inr ⟨g, cap, cur, rfl, hg, hh, hn, hm, hs, ht⟩⟩ (g := g) rfl j u hu
    rw [← this]; congr 1
    unfold Addr.add; split <;> simp_all
end
/-- The cells of a list of integers. -/
def ints (zs : List Int) : List Value := zs.map (Value.int .i64)
@[simp] theorem ints_length (zs : List Int) : (ints zs).length = zs.length := by simp [ints]
theorem ints_get (zs : List Int) (j : Nat) (h : j < zs.length) : (ints zs)[j]? = some (.int .i64 zs[j]) := by simp [ints, h]
theorem ints_snoc (zs : List Int) (z : Int) : ints zs ++ [.int .i64 z] = ints (zs ++ [z]) := by simp [ints]
theorem take_snoc {α : Type} (l : List α) (k : Nat) (h : k < l.length) : l.take (k + 1) = l.take k ++ [l[k]] := by
  rw [List.take_succ_eq_append_getElem h]

/-- What the table of types says of an element's type. -/
def Elem (P : Program) (e : TypeId) (size bytes : Nat) (z : Value) : Prop :=
  ∃ i, P.info? e = some i ∧ i.zero = some z ∧ i.size = size ∧ i.bytes = bytes ∧ z.cells.size = size ∧ 0 < size
theorem Elem.of {P : Program} {e size bytes : Nat} {z : Value} (h : (P.info? e).map (fun i => (i.zero, i.size, i.bytes)) = some (some z, size, bytes)) (hz : z.cells.size = size) (hs : 0 < size) : Elem P e size bytes z := by
  obtain ⟨i, h1, h2, h3, h4⟩ := info_parts h
  exact ⟨i, h1, h2, h3, h4, hz, hs⟩
theorem below_grown {base : Nat} {w w' : World} {v : Value} {e sz n : Nat} {xs : List Value} (hown : w.ownsRow base e sz v n xs) (hg : w.grownBy w' v.ownBlock) (hb : base ≤ w.heap.size) : Below base w w' :=
  (Below.refl _ _).grown hg hb fun k hk => (hown.lt k hk).1
/-- An owned row is kept where nothing that was there has changed. -/
theorem owns_below {w w' : World} {base e sz n : Nat} {v : Value} {xs : List Value} (hown : w.ownsRow base e sz v n xs) (hb : Below w.heap.size w w') : w'.ownsRow base e sz v n xs := by
  obtain ⟨hl, h⟩ := hown
  refine ⟨hl, ?_⟩
  rcases h with h | ⟨g, cap, cur, rfl, hg, hh, hn, hm, hs, ht⟩
  · exact .inl h
  · refine .inr ⟨g, cap, cur, rfl, hg, ?_, hn, hm, hs, ht⟩
    rw [hb.block g (Array.getElem?_eq_some_iff.1 hh).1]; exact hh
theorem heap_drew (w : World) : w.drew.heap = w.heap := rfl
theorem heap_drewN (w : World) (n : Nat) : (w.drewN n).heap = w.heap := rfl
section
variable {P : Program} {ops : Array Oper} {rest : List Oper} {o : Oper} {a : Act} {Q : Exit → Act → World → Prop}
/-- 'xs = append(xs, x)' for a slice of the call's own, behind the making of the one-element array. w0: the world in which the row is known; wx: the world of the append; wp: that ahead of the array. -/
theorem wp_app1 {w0 wx wp : World} (t e : TypeId) (size bytes : Nat) (z : Value) (hE : Elem P e size bytes z) (ht : P.underlying t = some (.slice e)) (base : Nat) (v : Value) (n : Nat) (xs : List Value)
    (hown : w0.ownsRow base e size v n xs) (hX : Below w0.heap.size w0 wx) (news : List Value) (hgd : o.guard = none) (s x : Operand) (ho : o.op = .call { callee := .builtin .append, args := #[s, x], argTypes := #[t, t] })
    (hs : a.eval s = v) {m : Nat} (hx : a.eval x = .slice (some ⟨m, 0, none⟩) 1 1) (hnew : wx.heap[wp.heap.size]? = some (.cells news.toArray e (0, 0))) (hm : m = wp.heap.size) (hl : news.length = size) (h1 : news.all Value.oneCell' = true) (hbytes : (n + 1) * bytes ≤ 140737488355328) (hn : n ≤ 140737488355328) (hbase : base ≤ w0.heap.size)
    (h : ∀ v' w', w'.ownsRow base e size v' (n + 1) (xs ++ news) → w0.grownBy w' v.ownBlock → Below base w0 w' → wpList P ops Q rest (a.put o.dst v') w') :
    wpList P ops Q (o :: rest) a wx := by
  obtain ⟨i, hi, hz0, hz1, hz2, hz3, hz4⟩ := hE
  have hbase' := Nat.le_trans hbase hX.size
  subst hm
  refine wpList_append_own _ hgd s x t ho base e i z size bytes ht hi hz0 hz1 hz2 hz3 hz4 v n xs hs (owns_below hown hX) ⟨wp.heap.size, 0, none⟩ 1 1 news hx (by omega) ?_ (fun u hu => List.all_eq_true.1 h1 u hu) (by unfold maxLen; omega) hbytes (by omega) ?_
  · intro j u hu
    have e1 : (⟨wp.heap.size, 0, none⟩ : Addr).add j = ⟨wp.heap.size, j, none⟩ := by unfold Addr.add; split <;> simp_all
    rw [e1, cell_of_row wx wp.heap.size j news.toArray e (0, 0) hnew]
    simpa using hu
  · intro v' w' h2 h3 _
    have h3' : w0.grownBy w' v.ownBlock := by
      refine ⟨h3.os.trans hX.os, h3.tape.trans hX.tape, h3.output.trans hX.output, Nat.le_trans hX.size h3.size, fun k hk hne => ?_⟩
      have := hX.size
      rw [h3.block k (by omega) hne]
      exact hX.block k hk
    exact h v' w' h2 h3' (below_grown hown h3' hbase)
end
/-- A region that draws its order and whose first n operations only read: one walk of the text's order, the draw written 'drew'. -/
theorem wp_still_tail {P : Program} {id : Nat} {Q : Exit → Act → World → Prop} {a : Act} {w : World} {l : List Oper} (n : Nat) (hm : P.follows .mixedOrders = true) (hB : Region.lexTailB .any l.toArray n = true)
    (h : wpStill P l.toArray w.drew (fun a' => wpList P l.toArray Q (l.drop n) a' w.drew) (l.take n) a) : (Code.region id l.toArray true).wp P Q a w :=
  wp_region_still_tail n hm hB h
theorem same_symm {e : Ending} {v : Value} {w w' : World} (h : e = .returned v ∧ w = w') : e = .returned v ∧ w' = w := ⟨h.1, h.2.symm⟩
/-- Of what was there only blocks in F may have changed. -/
structure Wrote (F : Nat → Prop) (w w' : World) : Prop where
  os : w'.os = w.os
  tape : w'.tape = w.tape
  output : w'.output = w.output
  size : w.heap.size ≤ w'.heap.size
  block : ∀ k, k < w.heap.size → ¬ F k → w'.heap[k]? = w.heap[k]?
theorem Wrote.refl (F : Nat → Prop) (w : World) : Wrote F w w := ⟨rfl, rfl, rfl, Nat.le_refl _, fun _ _ _ => rfl⟩
theorem Wrote.trans {F : Nat → Prop} {a b c : World} (h : Wrote F a b) (k : Wrote F b c) : Wrote F a c :=
  ⟨k.os.trans h.os, k.tape.trans h.tape, k.output.trans h.output, Nat.le_trans h.size k.size, fun i hi hf => (k.block i (Nat.lt_of_lt_of_le hi h.size) hf).trans (h.block i hi hf)⟩
theorem Wrote.mono {F G : Nat → Prop} {a b : World} (h : Wrote F a b) (hFG : ∀ k, k < a.heap.size → F k → G k) : Wrote G a b :=
  ⟨h.os, h.tape, h.output, h.size, fun i hi hf => h.block i hi fun hF => hf (hFG i hi hF)⟩
theorem Wrote.below {F : Nat → Prop} {B : Nat} {a b : World} (h : Wrote F a b) (hB : B ≤ a.heap.size) (hF : ∀ k, F k → B ≤ k) : Below B a b :=
  ⟨h.os, h.tape, h.output, h.size, fun k hk => h.block k (Nat.lt_of_lt_of_le hk hB) fun hf => by have := hF k hf; omega⟩
theorem Wrote.of_below {F : Nat → Prop} {B : Nat} {a b : World} (h : Below B a b) (hF : ∀ k, k < a.heap.size → B ≤ k → F k) : Wrote F a b :=
  ⟨h.os, h.tape, h.output, h.size, fun k hk hf => h.block k (Classical.byContradiction fun hn => hf (hF k hk (by omega)))⟩
theorem Wrote.drew {F : Nat → Prop} {a w : World} (h : Wrote F a w) : Wrote F a w.drew := ⟨h.os, h.tape, h.output, h.size, h.block⟩
theorem Wrote.drewN {F : Nat → Prop} {a w : World} (n : Nat) (h : Wrote F a w) : Wrote F a (w.drewN n) := ⟨h.os, h.tape, h.output, h.size, h.block⟩
theorem Wrote.setCell {F : Nat → Prop} {a w : World} (h : Wrote F a w) {p : Addr} (hp : F p.block) (u : Value) : Wrote F a (w.setCell p u) :=
  h.trans ⟨rfl, rfl, rfl, by simp [World.setCell], fun k hk hf => Below.heap_setCell _ _ _ _ (fun e => hf (e ▸ hp))⟩
theorem Wrote.alloc {F : Nat → Prop} {a w : World} (h : Wrote F a w) (o : Obj) : Wrote F a (w.alloc o) :=
  h.trans ⟨rfl, rfl, rfl, by simp, fun k hk hf => Below.heap_alloc _ _ _ hk⟩
theorem Wrote.cell {F : Nat → Prop} {w w' : World} (h : Wrote F w w') {b o : Nat} {u : Value} (hc : w.cell? ⟨b, o, none⟩ = some u) (hb : ¬ F b) : w'.cell? ⟨b, o, none⟩ = some u := by
  have hlt := World.block_lt_of_cell? w _ hc
  rw [World.cell?_of_block (w := w) (a := ⟨b, o, none⟩) (h.block b hlt hb)]; exact hc
theorem cell_on {w w' : World} (hb : Below w.heap.size w w') {b o : Nat} {u : Value} (h : w.cell? ⟨b, o, none⟩ = some u) : w'.cell? ⟨b, o, none⟩ = some u := by
  rw [hb.cell (p := ⟨b, o, none⟩) (World.block_lt_of_cell? w _ h)]; exact h
theorem block_on {w w' : World} (hb : Below w.heap.size w w') {b o : Nat} {u : Value} (h : w.cell? ⟨b, o, none⟩ = some u) : b < w'.heap.size :=
  Nat.lt_of_lt_of_le (World.block_lt_of_cell? w _ h) hb.size
section openers
variable {H : Type} {enc : TypeId × Value → H} {P : Program} {W : World} {sp : Nat → Bool}
theorem addr_add (a : Addr) (j : Nat) (hs : a.spot = none) : a.add j = ⟨a.block, a.off + j, none⟩ := by
  unfold Addr.add; split
  · next h => subst h; cases a; simp_all
  · simp
/-- A '[]int' argument. -/
theorem open_has_ints {t e : TypeId} {base : Nat} {v : Value} {d : DataW H} {ps : List MemPlace} (ht : P.underlying t = some (.slice e)) (he : P.underlying e = some (.int .i64)) (hc : P.cellsOf e = 1)
    (hval : Value.okWide P W .any base t v) (h : DataW.Trod enc P W 0 sp true t v d ps) : ∃ zs : List Int, Has W 1 v zs.length (ints zs) ∧ (∀ z ∈ zs, -9223372036854775808 ≤ z ∧ z ≤ 9223372036854775807) := by
  obtain ⟨a0, len, cap, rfl⟩ := okWide_slice ht hval
  obtain ⟨fuel, hf⟩ := h
  rcases open_ints ht he hc hf with ⟨hcs, hx⟩ | ⟨a, len', cap', zs, hcs, _, hl, hm, hz, hx, hcell, hwf⟩
  · simp [Value.cells] at hcs
    obtain ⟨rfl, rfl, rfl⟩ := hcs
    exact ⟨[], ⟨⟨by simp, fun n cap h => by simp at h; exact ⟨h.1.symm, h.2.symm⟩⟩, none, 0, rfl, Nat.le_refl _, Nat.zero_le _, fun h => by simp at h⟩, by simp⟩
  · simp [Value.cells] at hcs
    obtain ⟨rfl, rfl, rfl⟩ := hcs
    have hzl : len ≤ zs.length := by rw [hz]; split <;> omega
    refine ⟨zs.take len, ⟨⟨by simp, fun n cap h => by simp at h⟩, some a, cap, by rw [List.length_take, Nat.min_eq_left hzl], by rw [List.length_take]; omega, hm, fun hp => ?_⟩, fun z hz' => wf64_iff.1 (hwf z (List.mem_of_mem_take hz'))⟩
    have hl0 : 0 < zs.length := by simp at hp; omega
    have hsp : a.spot = none := by
      have := hcell 0 hl0
      rw [show a.add 0 = a by simp [Addr.add]] at this
      cases hs : a.spot with
      | none => rfl
      | some s => simp [World.cell?, hs] at this; split at this <;> simp at this
    refine ⟨a.block, a.off, by cases a; simp_all, fun j u hu => ?_⟩
    have hj : j < (zs.take len).length := by have := (List.getElem?_eq_some_iff.1 hu).1; simpa using this
    rw [ints_get _ _ hj] at hu
    have hj' : j < zs.length := by rw [List.length_take] at hj; omega
    have := hcell j hj'
    rw [addr_add _ _ hsp] at this
    rw [this, ← hu]; simp [List.getD_eq_getElem?_getD, hj']
end openers
theorem owns_slice {w : World} {base e sz n : Nat} {v : Value} {xs : List Value} (h : w.ownsRow base e sz v n xs) : ∃ a cap, v = .slice a n cap := by
  obtain ⟨_, a, cap, h, _⟩ := Has.of_owns h
  exact ⟨a, cap, h⟩
section
variable {P : Program} {ops : Array Oper} {rest : List Oper} {o : Oper} {a : Act} {Q : Exit → Act → World → Prop}
/-- 'xs = append(xs, ys...)' for a slice of the call's own and whatever source. -/
theorem wp_appN {w0 wx : World} (t e : TypeId) (size bytes : Nat) (z : Value) (hE : Elem P e size bytes z) (ht : P.underlying t = some (.slice e)) (base : Nat) (v : Value) (n : Nat) (xs : List Value)
    (hown : w0.ownsRow base e size v n xs) (hX : Below w0.heap.size w0 wx) (vx : Value) (m : Nat) (ys : List Value) (hsrc : Has wx size vx m ys) (hgd : o.guard = none) (s x : Operand) (ho : o.op = .call { callee := .builtin .append, args := #[s, x], argTypes := #[t, t] })
    (hs : a.eval s = v) (hx : a.eval x = vx) (h1 : ys.all Value.oneCell' = true) (hbytes : (n + m) * bytes ≤ 140737488355328) (hn : n + m ≤ maxLen) (hbase : base ≤ w0.heap.size)
    (h : ∀ v' w', w'.ownsRow base e size v' (n + m) (xs ++ ys) → w0.grownBy w' v.ownBlock → Below base w0 w' → wpList P ops Q rest (a.put o.dst v') w') :
    wpList P ops Q (o :: rest) a wx := by
  obtain ⟨i, hi, hz0, hz1, hz2, hz3, hz4⟩ := hE
  have hbase' := Nat.le_trans hbase hX.size
  obtain ⟨⟨hl, hnil⟩, ad, cap, rfl, hm1, hm2, hc⟩ := hsrc
  have fin : ∀ w', wx.grownBy w' v.ownBlock → w0.grownBy w' v.ownBlock ∧ Below base w0 w' := fun w' h3 => by
    have h3' : w0.grownBy w' v.ownBlock := by
      refine ⟨h3.os.trans hX.os, h3.tape.trans hX.tape, h3.output.trans hX.output, Nat.le_trans hX.size h3.size, fun k hk hne => ?_⟩
      have := hX.size
      rw [h3.block k (by omega) hne]
      exact hX.block k hk
    exact ⟨h3', below_grown hown h3' hbase⟩
  cases ad with
  | none =>
    obtain ⟨rfl, rfl⟩ := hnil _ _ rfl
    obtain rfl : ys = [] := List.eq_nil_of_length_eq_zero (by simpa using hl)
    have hown' := owns_below hown hX
    obtain ⟨f1, f2⟩ := fin wx ⟨rfl, rfl, rfl, Nat.le_refl _, fun _ _ _ => rfl⟩
    exact wpList_append_own_none hgd s x t ho base e i size ht hi v n xs hs hown' hx (h v wx (by simpa using hown') f1 f2)
  | some ad =>
    refine wpList_append_own _ hgd s x t ho base e i z size bytes ht hi hz0 hz1 hz2 hz3 hz4 v n xs hs (owns_below hown hX) ad m cap ys hx hl ?_ (fun u hu => List.all_eq_true.1 h1 u hu) hn hbytes hbase' ?_
    · intro j u hu
      have hp : 0 < ys.length := by have := (List.getElem?_eq_some_iff.1 hu).1; omega
      obtain ⟨b, off, e1, hcc⟩ := hc hp
      simp only [Option.some.injEq] at e1
      subst e1
      rw [addr_add _ _ rfl]
      exact hcc j u hu
    · intro v' w' h2 h3 _
      obtain ⟨f1, f2⟩ := fin w' h3
      exact h v' w' h2 f1 f2
end
/-- A block that was just made is a row of the call's own. -/
theorem owns_block {wx wp : World} {m n sz base : Nat} {cs : List Value} {e : TypeId} (hnew : wx.heap[wp.heap.size]? = some (.cells cs.toArray e (0, 0))) (hm : m = wp.heap.size) (hl : cs.length = n * sz) (hn : n ≤ maxLen) (hb : base ≤ wp.heap.size) :
    wx.ownsRow base e sz (.slice (some ⟨m, 0, none⟩) n n) n cs := by
  subst hm
  exact ⟨hl, .inr ⟨_, n, _, rfl, hb, hnew, Nat.le_refl _, hn, by simpa using hl, by rw [← hl]; simp⟩⟩
theorem ints_one (zs : List Int) : (ints zs).all Value.oneCell' = true := by
  rw [List.all_eq_true]; intro v hv; obtain ⟨z, _, rfl⟩ := List.mem_map.1 hv; rfl
theorem elInt : Elem Tryz.prog 3 1 8 (.int .i64 0) := .of (by kernel_rfl) rfl (by decide)
end Go.Proofs.YtjdedflfdlhkdaaGreatDoor

namespace Go.Proofs.YtjdedflfdlhkdaaGreatDoor
open Go.ChangeShapes Go.WideShapes Go.ChangeAt Go.RowKit
set_option linter.unusedVariables false

/-- A store into a row of the call's own. -/
theorem owns_set {w : World} {base e n cap : Nat} {g : Nat} {xs : List Value} (h : w.ownsRow base e 1 (.slice (some ⟨g, 0, none⟩) n cap) n xs) (i : Nat) (u : Value) :
    (w.setCell ⟨g, i, none⟩ u).ownsRow base e 1 (.slice (some ⟨g, 0, none⟩) n cap) n (xs.set i u) := by
  obtain ⟨hl, h⟩ := h
  refine ⟨by simpa using hl, ?_⟩
  rcases h with ⟨h, _⟩ | ⟨g', cap', cur, he, hg, hh, hn, hm, hs, ht⟩
  · simp at h
  · simp only [Value.slice.injEq, Option.some.injEq, Addr.mk.injEq, and_true, true_and] at he
    obtain ⟨rfl, rfl⟩ := he
    refine .inr ⟨g, cap, cur.setIfInBounds i u, rfl, hg, heap_setCell_same _ _ _ _ _ _ hh, hn, hm, by simpa using hs, ?_⟩
    rw [Array.toList_setIfInBounds, List.take_set, ht]
theorem owns_set_other {w : World} {base e sz n g : Nat} {v : Value} {xs : List Value} (h : w.ownsRow base e sz v n xs) (hg : g < base) (i : Nat) (u : Value) : (w.setCell ⟨g, i, none⟩ u).ownsRow base e sz v n xs :=
  ownsRow_setCell_below h (a := ⟨g, i, none⟩) hg u
theorem ints_set (ws : List Int) (i : Nat) (z : Int) : (ints ws).set i (.int .i64 z) = ints (ws.set i z) := by simp [ints, List.map_set]
/-- A row that holds something: its value, written out. -/
theorem owns_some {w : World} {base e sz n : Nat} {v : Value} {xs : List Value} (h : w.ownsRow base e sz v n xs) (hn : 0 < n) : ∃ g cap, v = .slice (some ⟨g, 0, none⟩) n cap ∧ base ≤ g ∧ g < w.heap.size ∧ (∀ j, w.frozen? ⟨g, j, none⟩ = false) ∧ ∀ j u, xs[j]? = some u → w.cell? ⟨g, j, none⟩ = some u := by
  obtain ⟨hl, h⟩ := h
  rcases h with ⟨_, h⟩ | ⟨g, cap, cur, rfl, hg, hh, hn', hm, hs, ht⟩
  · omega
  · refine ⟨g, cap, rfl, hg, (Array.getElem?_eq_some_iff.1 hh).1, fun j => by simp [World.frozen?, hh], fun j u hu => ?_⟩
    rw [cell_of_row w g j _ _ _ hh]
    rw [← ht, List.getElem?_take] at hu
    split at hu
    · simpa using hu
    · cases hu
end Go.Proofs.YtjdedflfdlhkdaaGreatDoor

namespace Go.Proofs.YtjdedflfdlhkdaaGreatDoor
open Go.ChangeShapes Go.WideShapes Go.ChangeAt Go.RowKit
set_option linter.unusedVariables false

/-- Of what was there only blocks whose cells are of a type in T may have changed. -/
structure Chg (T : List TypeId) (w w' : World) : Prop where
  size : w.heap.size ≤ w'.heap.size
  block : ∀ (k : Nat) (o : Obj), w.heap[k]? = some o → (∀ cs e r, o = .cells cs e r → e ∉ T) → w'.heap[k]? = some o
theorem Chg.refl (T : List TypeId) (w : World) : Chg T w w := ⟨Nat.le_refl _, fun _ _ h _ => h⟩
theorem Chg.trans {T : List TypeId} {a b c : World} (h : Chg T a b) (k : Chg T b c) : Chg T a c :=
  ⟨Nat.le_trans h.size k.size, fun i o hi ho => k.block i o (h.block i o hi ho) ho⟩
theorem Chg.of_below {T : List TypeId} {w w' : World} (h : Below w.heap.size w w') : Chg T w w' :=
  ⟨h.size, fun k o hk _ => by rw [h.block k (Array.getElem?_eq_some_iff.1 hk).1]; exact hk⟩
theorem Chg.setCell {T : List TypeId} {w : World} {p : Addr} {cs : Array Value} {e : TypeId} {r : Nat × Nat} (hp : w.heap[p.block]? = some (.cells cs e r)) (he : e ∈ T) (u : Value) : Chg T w (w.setCell p u) :=
  ⟨by simp [World.setCell], fun k o hk ho => by
    rw [Below.heap_setCell _ _ _ _ (fun hh => by
      subst hh
      rw [hp] at hk
      simp only [Option.some.injEq] at hk
      exact ho _ _ _ hk.symm he)]; exact hk⟩
theorem Chg.grown {T : List TypeId} {w w' : World} {base e sz n : Nat} {v : Value} {xs : List Value} (hown : w.ownsRow base e sz v n xs) (hg : w.grownBy w' v.ownBlock) (he : e ∈ T) : Chg T w w' :=
  ⟨hg.size, fun k o hk ho => by
    rw [hg.block k (Array.getElem?_eq_some_iff.1 hk).1 (fun hh => by
      obtain ⟨_, h⟩ := hown
      rcases h with ⟨rfl, _⟩ | ⟨g, cap, cur, rfl, _, hh', _⟩
      · simp [Value.ownBlock] at hh
      · simp only [Value.ownBlock, Option.some.injEq] at hh
        subst hh
        rw [hh'] at hk
        simp only [Option.some.injEq] at hk
        exact ho _ _ _ hk.symm he)]; exact hk⟩
theorem Chg.drew {T : List TypeId} {a w : World} (h : Chg T a w) : Chg T a w.drew := ⟨h.size, h.block⟩
theorem Chg.drewN {T : List TypeId} {a w : World} (n : Nat) (h : Chg T a w) : Chg T a (w.drewN n) := ⟨h.size, h.block⟩
theorem Chg.alloc {T : List TypeId} {a w : World} (h : Chg T a w) (o : Obj) : Chg T a (w.alloc o) :=
  h.trans (Chg.of_below ((Below.refl _ _).alloc (Nat.le_refl _) o))
theorem Chg.mono {T U : List TypeId} {a w : World} (h : Chg T a w) (hs : ∀ e ∈ T, e ∈ U) : Chg U a w :=
  ⟨h.size, fun k o hk ho => h.block k o hk fun cs e r hh hm => ho cs e r hh (hs e hm)⟩
/-- 'Has', and the cells lie in a block of type e. -/
def HasT (w : World) (e : TypeId) (sz : Nat) (v : Value) (n : Nat) (xs : List Value) : Prop :=
  Has w sz v n xs ∧ ∀ b off n' cap, v = .slice (some ⟨b, off, none⟩) n' cap → ∃ cs r, w.heap[b]? = some (.cells cs e r)
section
variable {w w' : World} {e : TypeId} {sz n : Nat} {v : Value} {xs : List Value}
theorem HasT.has (h : HasT w e sz v n xs) : Has w sz v n xs := h.1
theorem HasT.below (h : HasT w e sz v n xs) (hb : Below w.heap.size w w') : HasT w' e sz v n xs :=
  ⟨h.1.below hb, fun b off n' cap hv => by
    obtain ⟨cs, r, hh⟩ := h.2 b off n' cap hv
    exact ⟨cs, r, by rw [hb.block b (Array.getElem?_eq_some_iff.1 hh).1]; exact hh⟩⟩
theorem HasT.chg {T : List TypeId} (h : HasT w e sz v n xs) (hc : Chg T w w') (he : e ∉ T) : HasT w' e sz v n xs := by
  obtain ⟨⟨hl, a, cap, rfl, h1, h2, h3⟩, ht⟩ := h
  have hblk : ∀ b off n' cap', Value.slice a n cap = .slice (some ⟨b, off, none⟩) n' cap' → ∃ cs r, w.heap[b]? = some (.cells cs e r) ∧ w'.heap[b]? = some (.cells cs e r) := fun b off n' cap' hv => by
    obtain ⟨cs, r, hh⟩ := ht b off n' cap' hv
    exact ⟨cs, r, hh, hc.block _ _ hh fun cs' e' r' heq => by
      simp only [Obj.cells.injEq] at heq
      obtain ⟨-, rfl, -⟩ := heq
      exact he⟩
  refine ⟨⟨hl, a, cap, rfl, h1, h2, fun hp => ?_⟩, fun b off n' cap' hv => ?_⟩
  · obtain ⟨b, off, rfl, hcc⟩ := h3 hp
    refine ⟨b, off, rfl, fun j u hu => ?_⟩
    obtain ⟨cs, r, q1, q2⟩ := hblk b off n cap rfl
    rw [World.cell?_of_block (w := w) (a := ⟨b, off + j, none⟩) (by rw [q2, q1])]
    exact hcc j u hu
  · obtain ⟨cs, r, q1, q2⟩ := hblk b off n' cap' hv
    exact ⟨cs, r, q2⟩
theorem HasT.of_owns {base : Nat} (h : w.ownsRow base e sz v n xs) : HasT w e sz v n xs :=
  ⟨Has.of_owns h, fun b off n' cap hv => by
    obtain ⟨_, h⟩ := h
    rcases h with ⟨rfl, _⟩ | ⟨g, cap', cur, rfl, _, hh, _⟩
    · simp at hv
    · simp only [Value.slice.injEq, Option.some.injEq, Addr.mk.injEq] at hv
      obtain ⟨⟨rfl, -⟩, -⟩ := hv
      exact ⟨cur, _, hh⟩⟩
end
/-- An owned row is kept where only blocks of other types change. -/
theorem owns_chg {T : List TypeId} {w w' : World} {base e sz n : Nat} {v : Value} {xs : List Value} (hown : w.ownsRow base e sz v n xs) (hc : Chg T w w') (he : e ∉ T) : w'.ownsRow base e sz v n xs := by
  obtain ⟨hl, h⟩ := hown
  refine ⟨hl, ?_⟩
  rcases h with h | ⟨g, cap, cur, rfl, hg, hh, hn, hm, hs, ht⟩
  · exact .inl h
  · refine .inr ⟨g, cap, cur, rfl, hg, hc.block _ _ hh (fun cs e' r heq => by
      simp only [Obj.cells.injEq] at heq
      obtain ⟨-, rfl, -⟩ := heq
      exact he), hn, hm, hs, ht⟩

/-- Each value stands for its datum. -/
def Each {α : Type} (R : Value → α → Prop) (vs : List Value) (ds : List α) : Prop := vs.length = ds.length ∧ ∀ (i : Nat) (v : Value) (a : α), vs[i]? = some v → ds[i]? = some a → R v a
section
variable {α : Type} {R S : Value → α → Prop} {vs : List Value} {ds : List α}
theorem Each.nil (R : Value → α → Prop) : Each R [] [] := ⟨rfl, fun i v a h => by simp at h⟩
theorem Each.mono (h : Each R vs ds) (hi : ∀ v a, a ∈ ds → R v a → S v a) : Each S vs ds := ⟨h.1, fun i v a hv ha => hi v a (List.mem_of_getElem? ha) (h.2 i v a hv ha)⟩
theorem Each.snoc (h : Each R vs ds) {v : Value} {a : α} (hr : R v a) : Each R (vs ++ [v]) (ds ++ [a]) := by
  refine ⟨by simp [h.1], fun i v' a' hv ha => ?_⟩
  rcases Nat.lt_trichotomy i vs.length with hlt | rfl | hgt
  · rw [List.getElem?_append_left hlt] at hv
    rw [List.getElem?_append_left (by rw [← h.1]; exact hlt)] at ha
    exact h.2 i v' a' hv ha
  · rw [List.getElem?_append_right (Nat.le_refl _)] at hv
    rw [List.getElem?_append_right (by rw [h.1]; exact Nat.le_refl _), h.1] at ha
    simp at hv ha
    subst hv; subst ha; exact hr
  · rw [List.getElem?_eq_none (by simp; omega)] at hv; cases hv
theorem Each.set (h : Each R vs ds) (i : Nat) {v : Value} {a : α} (hr : R v a) : Each R (vs.set i v) (ds.set i a) := by
  refine ⟨by simp [h.1], fun j v' a' hv ha => ?_⟩
  rw [List.getElem?_set] at hv ha
  by_cases e : i = j
  · subst e
    rw [if_pos rfl] at hv ha
    split at hv
    · split at ha
      · simp at hv ha; subst hv; subst ha; exact hr
      · cases ha
    · cases hv
  · rw [if_neg e] at hv ha; exact h.2 j v' a' hv ha
theorem Each.get (h : Each R vs ds) (i : Nat) (hi : i < ds.length) : ∃ v, vs[i]? = some v ∧ R v ds[i] :=
  have hv : i < vs.length := by rw [h.1]; exact hi
  ⟨vs[i], List.getElem?_eq_getElem hv, h.2 i _ _ (List.getElem?_eq_getElem hv) (List.getElem?_eq_getElem hi)⟩
theorem Each.replicate (n : Nat) {v : Value} {a : α} (hr : R v a) : Each R (List.replicate n v) (List.replicate n a) :=
  ⟨by simp, fun i v' a' hv ha => by
    rw [List.getElem?_replicate] at hv ha
    split at hv
    · rw [if_pos (by assumption)] at ha; simp at hv ha; subst hv; subst ha; exact hr
    · cases hv⟩
end
-- rows of records: f gives the cells of one record, m of them
section
variable {α : Type} (f : α → List Value) (m : Nat) (hf : ∀ a, (f a).length = m)
include hf
theorem flat_length (l : List α) : (l.flatMap f).length = l.length * m := by
  induction l with
  | nil => simp
  | cons a t ih => simp only [List.flatMap_cons, List.length_append, hf, ih, List.length_cons, Nat.succ_mul]; omega
theorem flat_get : ∀ (l : List α) (k : Nat) (hk : k < l.length) (j : Nat), j < m → (l.flatMap f)[k * m + j]? = (f l[k])[j]?
  | a :: t, 0, _, j, hj => by
    rw [List.flatMap_cons, List.getElem?_append_left (by rw [hf]; omega)]
    simp
  | a :: t, k + 1, hk, j, hj => by
    rw [List.flatMap_cons, List.getElem?_append_right (by rw [hf, Nat.succ_mul]; omega), hf]
    have ih := flat_get t k (by simpa using hk) j hj
    rw [show (k + 1) * m + j - m = k * m + j by rw [Nat.succ_mul]; omega, ih]
    simp
end
theorem flat_snoc {α : Type} (f : α → List Value) (l : List α) (a : α) : l.flatMap f ++ f a = (l ++ [a]).flatMap f := by simp
/-- A list read over by a state. -/
theorem foldl_take {α β : Type} (f : β → α → β) (b : β) (l : List α) (k : Nat) (h : k < l.length) : (l.take (k + 1)).foldl f b = f ((l.take k).foldl f b) l[k] := by
  rw [take_snoc _ _ h, List.foldl_append]; rfl
theorem owns_base {w : World} {b b' : Nat} {e : TypeId} {sz n : Nat} {v : Value} {xs : List Value} (h : w.ownsRow b e sz v n xs) (hb : b' ≤ b) : w.ownsRow b' e sz v n xs := by
  obtain ⟨hl, h⟩ := h
  refine ⟨hl, ?_⟩
  rcases h with h | ⟨g, cap, cur, rfl, hg, r⟩
  · exact .inl h
  · exact .inr ⟨g, cap, cur, rfl, Nat.le_trans hb hg, r⟩
end Go.Proofs.YtjdedflfdlhkdaaGreatDoor

namespace Go.Proofs.YtjdedflfdlhkdaaGreatDoor
set_option linter.unusedVariables false
set_option linter.unusedSimpArgs false

structure Ord where
  kind : Int
  count : Int
  life : Int
  id : Int
structure Hd where
  id : Int
  count : Int
  life : Int
structure Shf where
  free : Int
  used : Int
  made : Int
  hs : List Hd
structure Stk where
  code : Int
  id : Int
  free : Int
  held : Int
  used : Int
def heldL (l : List Hd) : Int := (l.map (·.count)).sum
def Shf.held (s : Shf) : Int := heldL s.hs
def shf0 : Shf := ⟨0, 0, 0, []⟩
/-- One tick less. -/
def Hd.dec (h : Hd) : Hd := ⟨h.id, h.count, h.life - 1⟩
def Hd.over (h : Hd) : Bool := h.life == 0
def overL (l : List Hd) : Int := heldL (l.filter Hd.over)
def Shf.ticked (s : Shf) : Shf :=
  ⟨s.free + overL (s.hs.map Hd.dec), s.used, s.made, (s.hs.map Hd.dec).filter (fun h => !h.over)⟩
def Shf.at' (s : Shf) (i : Nat) : Int := (s.hs.map (·.count)).getD i 0
/-- The place of a hold among the open ones. -/
def Shf.place (s : Shf) (id : Int) : Option Nat := s.hs.findIdx? (fun h => h.id == id)
/-- What an order comes to: the id, the code, and the shelf behind it. -/
def Shf.order (s : Shf) (o : Ord) : Int × Int × Shf :=
  if (o.kind = 1 ∨ o.kind = 2 ∨ o.kind = 3 ∨ o.kind = 6) ∧ ¬ (1 ≤ o.count ∧ o.count ≤ 1048576) then (0, 2, s)
  else if o.kind = 1 then
    if 1048576 < s.free + s.held + s.used + o.count then (0, 12, s) else (0, 0, { s with free := s.free + o.count })
  else if o.kind = 2 then
    if s.free < o.count then (0, 9, s) else (0, 0, { s with free := s.free - o.count, used := s.used + o.count })
  else if o.kind = 6 then
    if s.used < o.count then (0, 9, s) else (0, 0, { s with free := s.free + o.count, used := s.used - o.count })
  else if o.kind = 3 then
    if o.life < 1 ∨ 20 < o.life then (0, 2, s)
    else if s.hs.length = 4 then (0, 8, s)
    else if s.free < o.count then (0, 9, s)
    else (s.made + 1, 0, ⟨s.free - o.count, s.used, s.made + 1, s.hs ++ [⟨s.made + 1, o.count, o.life⟩]⟩)
  else if o.kind = 4 ∨ o.kind = 5 then
    if o.id < 1 ∨ s.made < o.id then (0, 6, s)
    else match s.place o.id with
      | none => (0, 10, s)
      | some i =>
        if o.kind = 4 then (0, 0, { s with used := s.used + s.at' i, hs := s.hs.eraseIdx i })
        else (0, 0, { s with free := s.free + s.at' i, hs := s.hs.eraseIdx i })
  else if o.kind = 7 then (0, 0, s.ticked)
  else (0, 3, s)
def Shf.next (s : Shf) (o : Ord) : Shf := (s.order o).2.2
def Shf.out (s : Shf) (o : Ord) : Stk := ⟨(s.order o).2.1, (s.order o).1, (s.next o).free, (s.next o).held, (s.next o).used⟩
def shfStep (s : Shf × List Stk) (o : Ord) : Shf × List Stk := (s.1.next o, s.2 ++ [s.1.out o])
def shfFold (l : List Ord) : Shf × List Stk := l.foldl shfStep (shf0, [])
def hOuts (l : List Ord) : List Stk := (shfFold l).2

/-- What always holds of a shelf: nothing below 0, all within what there may be; at most four are open; their numbers differ and are among those that were made. -/
structure Shf.Ok (s : Shf) : Prop where
  free : 0 ≤ s.free
  used : 0 ≤ s.used
  sum : s.free + s.held + s.used ≤ 1048576
  made : 0 ≤ s.made
  few : s.hs.length ≤ 4
  hs : ∀ h ∈ s.hs, 1 ≤ h.id ∧ h.id ≤ s.made ∧ 1 ≤ h.count ∧ 1 ≤ h.life ∧ h.life ≤ 20
  sorted : s.hs.Pairwise (fun a b => a.id < b.id)
theorem heldL_nil : heldL [] = 0 := rfl
theorem heldL_cons (h : Hd) (l : List Hd) : heldL (h :: l) = h.count + heldL l := by simp [heldL]
theorem heldL_append (l m : List Hd) : heldL (l ++ m) = heldL l + heldL m := by
  induction l with
  | nil => simp [heldL]
  | cons a l ih => rw [List.cons_append, heldL_cons, heldL_cons, ih]; omega
theorem heldL_dec (l : List Hd) : heldL (l.map Hd.dec) = heldL l := by
  induction l with
  | nil => rfl
  | cons a l ih => rw [List.map_cons, heldL_cons, heldL_cons, ih]; rfl
theorem heldL_nonneg {l : List Hd} (h : ∀ x ∈ l, 0 ≤ x.count) : 0 ≤ heldL l := by
  induction l with
  | nil => exact Int.le_refl _
  | cons a l ih =>
    rw [heldL_cons]
    have h1 := h a List.mem_cons_self
    have h2 := ih fun x hx => h x (List.mem_cons_of_mem _ hx)
    omega
theorem heldL_split (l : List Hd) : overL l + heldL (l.filter (fun h => !h.over)) = heldL l := by
  unfold overL
  induction l with
  | nil => rfl
  | cons a l ih =>
    by_cases c : a.over = true
    · have c2 : (!a.over) = false := by simp [c]
      rw [List.filter_cons_of_pos c, List.filter_cons_of_neg (by simp [c]), heldL_cons, heldL_cons]; omega
    · rw [List.filter_cons_of_neg c, List.filter_cons_of_pos (by simp [c]), heldL_cons, heldL_cons]; omega
theorem heldL_erase : ∀ (l : List Hd) (i : Nat), heldL (l.eraseIdx i) + (l.map (·.count)).getD i 0 = heldL l
  | [], i => by simp [heldL]
  | a :: l, 0 => by simp [heldL]; omega
  | a :: l, i + 1 => by
    have := heldL_erase l i
    rw [List.eraseIdx_cons_succ, heldL_cons, heldL_cons]
    simp only [List.map_cons, List.getD_cons_succ]
    omega
theorem Shf.Ok.nonneg {s : Shf} (h : s.Ok) : 0 ≤ s.held := heldL_nonneg fun x hx => by have := (h.hs x hx).2.2.1; omega
theorem over_nonneg {s : Shf} (h : s.Ok) : 0 ≤ overL (s.hs.map Hd.dec) := heldL_nonneg fun x hx => by
  have hx := (List.mem_filter.1 hx).1
  obtain ⟨y, hy, rfl⟩ := List.mem_map.1 hx
  have := (h.hs y hy).2.2.1
  simp only [Hd.dec]; omega
theorem pw_map_dec {l : List Hd} (h : l.Pairwise (fun a b => a.id < b.id)) : (l.map Hd.dec).Pairwise (fun a b => a.id < b.id) := by
  rw [List.pairwise_map]; exact h
theorem ticked_ok {s : Shf} (h : s.Ok) : s.ticked.Ok := by
  have h1 := heldL_split (s.hs.map Hd.dec)
  rw [heldL_dec] at h1
  have h2 := over_nonneg h
  have h3 := h.sum
  have h4 := h.free
  have h5 : s.held = heldL s.hs := rfl
  refine ⟨by simp only [Shf.ticked]; omega, h.used, by simp only [Shf.ticked, Shf.held]; omega, h.made, ?_, fun x hx => ?_, ?_⟩
  · have := List.length_filter_le (fun h : Hd => !h.over) (s.hs.map Hd.dec)
    rw [List.length_map] at this
    exact Nat.le_trans this h.few
  · obtain ⟨hx, ho⟩ := List.mem_filter.1 hx
    obtain ⟨y, hy, rfl⟩ := List.mem_map.1 hx
    obtain ⟨a, b, c, d, e⟩ := h.hs y hy
    have : ¬ (y.life - 1 = 0) := by simpa [Hd.over, Hd.dec] using ho
    simp only [Hd.dec, Shf.ticked]
    exact ⟨a, b, c, by omega, by omega⟩
  · exact (pw_map_dec h.sorted).sublist List.filter_sublist
theorem erase_ok {s : Shf} (h : s.Ok) (i : Nat) (f u : Int) (hf : 0 ≤ f) (hu : 0 ≤ u) (hs : f + u = s.free + s.used + s.at' i) : Shf.Ok ⟨f, u, s.made, s.hs.eraseIdx i⟩ := by
  have h1 := heldL_erase s.hs i
  have h3 := h.sum
  have h5 : s.held = heldL s.hs := rfl
  have h6 : s.at' i = (s.hs.map (·.count)).getD i 0 := rfl
  refine ⟨hf, hu, by simp only [Shf.held]; omega, h.made, Nat.le_trans (List.eraseIdx_sublist _ _).length_le h.few, fun x hx => h.hs x ((List.eraseIdx_sublist _ _).mem hx), h.sorted.sublist (List.eraseIdx_sublist _ _)⟩
theorem next_ok {s : Shf} (h : s.Ok) (o : Ord) : (s.next o).Ok := by
  have h3 := h.sum
  have h4 := h.free
  have h7 := h.used
  have h8 := h.nonneg
  have h9 := h.made
  unfold Shf.next Shf.order
  by_cases c0 : (o.kind = 1 ∨ o.kind = 2 ∨ o.kind = 3 ∨ o.kind = 6) ∧ ¬ (1 ≤ o.count ∧ o.count ≤ 1048576)
  · rw [if_pos c0]; exact h
  rw [if_neg c0]
  by_cases c1 : o.kind = 1
  · rw [if_pos c1]
    split
    · exact h
    · exact ⟨by simp only; omega, h.used, by simp only [Shf.held] at *; omega, h.made, h.few, h.hs, h.sorted⟩
  rw [if_neg c1]
  by_cases c2 : o.kind = 2
  · rw [if_pos c2]
    split
    · exact h
    · exact ⟨by simp only; omega, by simp only; omega, by simp only [Shf.held] at *; omega, h.made, h.few, h.hs, h.sorted⟩
  rw [if_neg c2]
  by_cases c3 : o.kind = 6
  · rw [if_pos c3]
    split
    · exact h
    · exact ⟨by simp only; omega, by simp only; omega, by simp only [Shf.held] at *; omega, h.made, h.few, h.hs, h.sorted⟩
  rw [if_neg c3]
  by_cases c4 : o.kind = 3
  · rw [if_pos c4]
    split
    · exact h
    split
    · exact h
    split
    · exact h
    · next d1 d2 d3 =>
      have hf := h.few
      refine ⟨by simp only; omega, h.used, ?_, by simp only; omega, by simp; omega, fun x hx => ?_, ?_⟩
      · simp only [Shf.held] at *
        simp only [heldL_append, heldL_cons, heldL_nil]; omega
      · rcases List.mem_append.1 hx with hx | hx
        · obtain ⟨a, b, c⟩ := h.hs x hx
          exact ⟨a, by simp only; omega, c⟩
        · simp at hx; subst hx
          simp only; omega
      · rw [List.pairwise_append]
        refine ⟨h.sorted, by simp, fun a ha b hb => ?_⟩
        simp at hb; subst hb
        have := (h.hs a ha).2.1
        simp only; omega
  rw [if_neg c4]
  by_cases c5 : o.kind = 4 ∨ o.kind = 5
  · rw [if_pos c5]
    split
    · exact h
    cases hp : s.place o.id with
    | none => exact h
    | some i =>
      have ha : 0 ≤ s.at' i := by
        unfold Shf.at'
        rw [List.getD_eq_getElem?_getD, List.getElem?_map]
        cases hi : s.hs[i]? with
        | none => simp
        | some x => have := (h.hs x (List.mem_of_getElem? hi)).2.2.1; simp; omega
      simp only
      split
      · exact erase_ok h i _ _ h4 (by omega) (by omega)
      · exact erase_ok h i _ _ (by omega) h7 (by omega)
  rw [if_neg c5]
  split
  · exact ticked_ok h
  · exact h
theorem shf0_ok : shf0.Ok := ⟨Int.le_refl _, Int.le_refl _, by decide, Int.le_refl _, by decide, fun h hh => by simp [shf0] at hh, List.Pairwise.nil⟩
theorem shfFold_take (l : List Ord) (k : Nat) (hk : k < l.length) : shfFold (l.take (k + 1)) = shfStep (shfFold (l.take k)) l[k] := foldl_take _ _ _ _ hk
theorem shfFold_len (l : List Ord) : ∀ k, k ≤ l.length → (shfFold (l.take k)).2.length = k
  | 0, _ => rfl
  | k + 1, hk => by rw [shfFold_take l k (by omega)]; simp [shfStep, shfFold_len l k (by omega)]
theorem hOuts_length (l : List Ord) : (hOuts l).length = l.length := by
  have := shfFold_len l l.length (Nat.le_refl _)
  rwa [List.take_length] at this
theorem hOuts_get (l : List Ord) (i : Nat) (hi : i < l.length) : (hOuts l)[i]? = some ((shfFold (l.take i)).1.out l[i]) := by
  have key : ∀ k, k ≤ l.length → i < k → (shfFold (l.take k)).2[i]? = some ((shfFold (l.take i)).1.out l[i]) := by
    intro k
    induction k with
    | zero => intro _ h; omega
    | succ k ih =>
      intro hk hik
      have hlen := shfFold_len l k (by omega)
      rw [shfFold_take l k (by omega)]
      simp only [shfStep]
      by_cases h : i < k
      · rw [List.getElem?_append_left (by omega)]; exact ih (by omega) h
      · have : i = k := by omega
        subst this
        rw [List.getElem?_append_right (by omega), hlen, Nat.sub_self]; rfl
  have := key l.length (Nat.le_refl _) hi
  rwa [List.take_length] at this
theorem fold_ok (l : List Ord) : ∀ k, k ≤ l.length → (shfFold (l.take k)).1.Ok
  | 0, _ => shf0_ok
  | k + 1, hk => by rw [shfFold_take l k (by omega)]; exact next_ok (fold_ok l k (by omega)) _
theorem next_made (s : Shf) (o : Ord) : s.made ≤ (s.next o).made ∧ (s.next o).made ≤ s.made + 1 := by
  unfold Shf.next Shf.order
  repeat' split
  all_goals first | (simp only [Shf.ticked]; omega) | (simp only; omega)
theorem fold_made (l : List Ord) : ∀ k, k ≤ l.length → (shfFold (l.take k)).1.made ≤ k
  | 0, _ => Int.le_refl _
  | k + 1, hk => by
    rw [shfFold_take l k (by omega)]
    have h1 := (next_made (shfFold (l.take k)).1 l[k]).2
    have h2 := fold_made l k (by omega)
    simp only [shfStep]; omega
end Go.Proofs.YtjdedflfdlhkdaaGreatDoor

namespace Go.Proofs.YtjdedflfdlhkdaaGreatDoor
open Go.ChangeShapes Go.WideShapes Go.ChangeAt Go.RowKit
set_option linter.unusedVariables false

/-- The worlds that w may have grown to. -/
def Ext (w : World) := { w' : World // Below w.heap.size w w' }
instance (w : World) : Nonempty (Ext w) := ⟨⟨w, Below.refl _ _⟩⟩
section
variable {P : Program}
theorem wp_region_grow {id : Nat} {Q : Exit → Act → World → Prop} {a : Act} {w : World} {l : List Oper} (hm : P.follows .mixedOrders = true) (hB : Region.lexB .any l.toArray = true)
    (h : wpQuiet P l.toArray (fun w' => ∃ x : Ext w, w' = x.1) (fun a' => ∀ w', Below w.heap.size w w' → Q .normal a' w') l a) : (Code.region id l.toArray true).wp P Q a w := by
  refine wp_region_quiet (C := fun w' => ∃ x : Ext w, w' = x.1) hm hB ⟨⟨w.drew, (Below.refl _ _).drew⟩, rfl⟩ ?_
  have h' : wpQuiet P l.toArray (fun w' => ∃ x : Ext w, w' = x.1) (fun a' => ∀ w', (∃ x : Ext w, w' = x.1) → Q .normal a' w') l a := by
    have e : (fun a' => ∀ w', Below w.heap.size w w' → Q .normal a' w') = (fun a' => ∀ w', (∃ x : Ext w, w' = x.1) → Q .normal a' w') := by
      funext a'
      apply propext
      constructor
      · rintro h w' ⟨x, rfl⟩; exact h _ x.2
      · intro h w' hb; exact h w' ⟨⟨w', hb⟩, rfl⟩
    rw [← e]; exact h
  simpa using h'
theorem wpList_of_quiet {ops : Array Oper} {C : World → Prop} {Q : Act → Prop} {Q' : Exit → Act → World → Prop} (hQ : ∀ a w, C w → Q a → Q' .normal a w) : ∀ (l : List Oper) (a : Act) (w : World), C w → wpQuiet P ops C Q l a → wpList P ops Q' l a w
  | [], a, w, hw, h => hQ a w hw h
  | o :: rest, a, w, hw, h => by
    unfold wpQuiet at h
    unfold wpList
    split at h
    · next hh =>
      rw [if_pos hh]
      exact Or.inl (Oper.wp_of_quiet hw (fun a' w' hw' h' => wpList_of_quiet hQ rest a' w' hw' h') h)
    · next hh =>
      rw [if_neg hh]
      exact wpList_of_quiet hQ rest _ w hw h
/-- The same for a region in the text's order. -/
theorem wp_region_seq {id : Nat} {Q : Exit → Act → World → Prop} {a : Act} {w : World} {l : List Oper}
    (h : wpQuiet P l.toArray (fun w' => ∃ x : Ext w, w' = x.1) (fun a' => ∀ w', Below w.heap.size w w' → Q .normal a' w') l a) : (Code.region id l.toArray false).wp P Q a w :=
  wp_region_lit (wpList_of_quiet (C := fun w' => ∃ x : Ext w, w' = x.1) (fun a' w' ⟨x, hx⟩ hq => hx ▸ hq x.1 x.2) l a w ⟨⟨w, Below.refl _ _⟩, rfl⟩ h)
theorem grow_of {f : FuncId} {args : Array Value} {w : World} {x : Ext w} {v : Value}
    (h : Calls P f args x.1 fun e w' => e = .returned v ∧ Below x.1.heap.size x.1 w') : Calls P f args x.1 fun e w'' => e = .returned v ∧ ∃ y : Ext w, w'' = y.1 :=
  h.mono fun _ w' ⟨he, hb⟩ => ⟨he, ⟨w', x.2.trans (hb.mono x.2.size)⟩, rfl⟩
theorem grow_same {f : FuncId} {args : Array Value} {w : World} {x : Ext w} {v : Value}
    (h : Calls P f args x.1 fun e w' => e = .returned v ∧ x.1 = w') : Calls P f args x.1 fun e w'' => e = .returned v ∧ ∃ y : Ext w, w'' = y.1 :=
  h.mono fun _ w' ⟨he, hb⟩ => ⟨he, x, hb.symm⟩
theorem ext_cell {w : World} {b o : Nat} {u : Value} (h : w.cell? ⟨b, o, none⟩ = some u) : ∀ x : Ext w, x.1.cell? ⟨b, o, none⟩ = some u := fun x => cell_on x.2 h
end
theorem has_block {wx wp : World} {m n sz : Nat} {cs : List Value} {e : TypeId} (hnew : wx.heap[wp.heap.size]? = some (.cells cs.toArray e (0, 0))) (hm : m = wp.heap.size) (hl : cs.length = n * sz) (hn : n ≤ maxLen) :
    Has wx sz (.slice (some ⟨m, 0, none⟩) n n) n cs := by
  subst hm
  refine ⟨⟨hl, fun n cap h => by simp at h⟩, _, n, rfl, Nat.le_refl _, hn, fun _ => ⟨_, 0, rfl, fun j u hu => ?_⟩⟩
  rw [cell_of_row wx _ _ _ _ _ hnew]; simpa using hu
end Go.Proofs.YtjdedflfdlhkdaaGreatDoor

namespace Go.Proofs.YtjdedflfdlhkdaaGreatDoor
open Go.ChangeShapes Go.WideShapes Go.ChangeAt Go.RowKit
set_option linter.unusedVariables false

/-- All wants, but each no more than a level. -/
def least (ws : List Int) (l : Int) : Int := (ws.map fun w => min w l).sum
theorem least_take (ws : List Int) (l : Int) (k : Nat) (h : k < ws.length) : least (ws.take (k + 1)) l = least (ws.take k) l + min ws[k] l := by
  rw [take_snoc _ _ h, least, least, List.map_append, List.sum_append]; simp
theorem least_bd (ws : List Int) (l : Int) (hw : ∀ x ∈ ws, 0 ≤ x ∧ x ≤ 1048576) (hl : -1 ≤ l) : -(ws.length : Int) ≤ least ws l ∧ least ws l ≤ 1048576 * ws.length := by
  induction ws with
  | nil => simp [least]
  | cons a t ih =>
    have h1 := hw a (by simp)
    have h2 := ih (fun x hx => hw x (by simp [hx]))
    simp only [least, List.map_cons, List.sum_cons, List.length_cons] at *
    omega
set_option maxRecDepth 100000 in
set_option maxHeartbeats 1000000 in
theorem cleast (v : Value) (ws : List Int) (l : Int) (w : World) (h : Has w 1 v ws.length (ints ws)) (hw : ∀ x ∈ ws, 0 ≤ x ∧ x ≤ 1048576) (hlen : ws.length ≤ 16) (hl0 : -1 ≤ l) (hl1 : l ≤ 1048577) :
    Calls Tryz.prog 102 #[v, .int .i64 l] w fun e w' => e = .returned (.int .i64 (least ws l)) ∧ w = w' := by
  obtain ⟨hl, a, cap, rfl, hn, hm, hc⟩ := h
  unfold maxLen at hm
  have HW := Lib.hid hw
  clear hw hl
  go_enter Tryz.func102, Tryz.ntmps102
  go_wp2_with fail
  go_loop [4, 6, 9] (fun n x i => ∃ k : Nat, k ≤ ws.length ∧ i = .int .i64 k ∧ n = .int .i64 (least (ws.take k) l)) (fun _ _ i => ws.length - (intOf i).toNat)
  case atStart => exact ⟨0, by omega, rfl, rfl⟩
  case round =>
    obtain ⟨k, hk, rfl, rfl⟩ := hrel
    by_cases h1 : k < ws.length
    · obtain ⟨b, off, rfl, hcc⟩ := hc (by simp; omega)
      have hcell := hcc k _ (ints_get ws k h1)
      have Hs := Lib.hid (least_take ws l k h1)
      obtain ⟨hb1, hb2⟩ := least_bd (ws.take k) l (fun x hx => HW.out x (List.mem_of_mem_take hx)) hl0
      obtain ⟨hb3, hb4⟩ := HW.out _ (List.getElem_mem h1)
      rw [List.length_take] at hb1 hb2
      have hb5 : -16 ≤ least (ws.take k) l := by omega
      have hb6 : least (ws.take k) l ≤ 16777216 := by omega
      have Hmin := Lib.hid (show min ws[k] l = if l < ws[k] then l else ws[k] by split <;> omega)
      clear hb1 hb2 hcc hc
      go_wp2_with fail
      all_goals
        go_round
        case rel => exact ⟨k + 1, by omega, by go_num, by rw [Hs.out, Hmin.out]⟩
        case measure => simp [intOf]; omega
    · obtain rfl : k = ws.length := by omega
      have ht := List.take_length (l := ws)
      clear hc
      go_wp2
      go_ret
      exact ⟨rfl, rfl⟩
/-- The closure of Split: do all wants, up to a level, come to more than there is? -/
theorem cover (b3 b2 : Nat) (v : Value) (ws : List Int) (total n : Int) (w : World) (h : Has w 1 v ws.length (ints ws)) (hw : ∀ x ∈ ws, 0 ≤ x ∧ x ≤ 1048576) (hlen : ws.length ≤ 16) (h0 : 0 ≤ n) (h1 : n ≤ 1048577)
    (c3 : w.cell? ⟨b3, 0, none⟩ = some v) (c2 : w.cell? ⟨b2, 0, none⟩ = some (.int .i64 total)) :
    Calls Tryz.prog 101 #[.int .i64 n, .pointer (some ⟨b3, 0, none⟩), .pointer (some ⟨b2, 0, none⟩)] w fun e w' => e = .returned (.bool (decide (total < least ws n))) ∧ ∃ m, w' = w.drewN m := by
  have Hl := Lib.hid (fun X (hX : Has X 1 v ws.length (ints ws)) => (cleast v ws n X hX hw hlen (by omega) h1).mono fun _ _ h => same_symm h)
  have Hh := Lib.hid h
  clear h hw
  go_enter Tryz.func101, Tryz.ntmps101
  go_wp2
  go_quiet ((go_at_call 102; exact Calls.quiet_of_same (Hl.out _ (Hh.out.below (below_drewN (Below.refl _ _) _)))))
  go_wp2
  go_ret
  exact ⟨rfl, nq, rfl⟩
end Go.Proofs.YtjdedflfdlhkdaaGreatDoor

namespace Go.Proofs.YtjdedflfdlhkdaaGreatDoor
open Go.ChangeShapes Go.WideShapes Go.ChangeAt Go.RowKit
set_option linter.unusedVariables false

set_option maxRecDepth 100000 in
set_option maxHeartbeats 1000000 in
/-- sort.Search over a predicate that is handed as a closure over two variables. -/
theorem csearch (b3 b2 : Nat) (F : Int → Bool) (n : Int) (w : World) (hn0 : 0 ≤ n) (hn : n ≤ 1048577)
    (hF : ∀ (x : Int) (X : World), 0 ≤ x → x < n → Below w.heap.size w X → Calls Tryz.prog 101 #[.int .i64 x, .pointer (some ⟨b3, 0, none⟩), .pointer (some ⟨b2, 0, none⟩)] X fun e w' => e = .returned (.bool (F x)) ∧ ∃ m, w' = X.drewN m) :
    Calls Tryz.prog 100 #[.int .i64 n, .func (.func 101) #[] #[.pointer (some ⟨b3, 0, none⟩), .pointer (some ⟨b2, 0, none⟩)]] w fun e w' => ∃ r : Int, e = .returned (.int .i64 r) ∧ 0 ≤ r ∧ r ≤ n ∧ (0 < r → F (r - 1) = false) ∧ (r < n → F r = true) ∧ Below w.heap.size w w' := by
  have HF := Lib.hid hF
  clear hF
  go_enter Tryz.func100, Tryz.ntmps100
  go_wp2_with fail
  go_loopw [5, 6, 7] (fun i j _ wr => ∃ a b : Int, i = .int .i64 a ∧ j = .int .i64 b ∧ 0 ≤ a ∧ a ≤ b ∧ b ≤ n ∧ Hid ((0 < a → F (a - 1) = false) ∧ (b < n → F b = true)) ∧ Below w.heap.size w wr) (fun i j _ _ => (intOf j - intOf i).toNat)
  case atStart => exact ⟨0, n, rfl, rfl, by omega, hn0, by omega, ⟨fun h => by omega, fun h => by omega⟩, Below.refl _ _⟩
  case round =>
    obtain ⟨a, b, rfl, rfl, ha, hab, hbn, hI, hb⟩ := hrel
    have Hb := Lib.hid hb
    clear hb
    by_cases h1 : a < b
    · have hm1 : a ≤ (a + b) / 2 := by omega
      have hm2 : (a + b) / 2 < b := by omega
      obtain ⟨c, hc⟩ : ∃ c, (a + b) / 2 = c := ⟨_, rfl⟩
      rw [hc] at hm1 hm2
      have w1 : IntKind.u64.wrap (a + b) = a + b := IntWalk.u64_in _ (by omega)
      cases hFc : F c
      · have Hc := Lib.hid (show Calls Tryz.prog 101 #[.int .i64 c, .pointer (some ⟨b3, 0, none⟩), .pointer (some ⟨b2, 0, none⟩)] wr fun e w' => e = .returned (.bool false) ∧ ∃ m, w' = wr.drewN m from hFc ▸ HF.out c wr (by omega) (by omega) Hb.out)
        have HFc := Lib.hid hFc
        clear hFc
        go_wp2_with (go_at_call 101; refine Hc.out.mono ?_; rintro e w' ⟨rfl, m, rfl⟩)
        exact ⟨⟨c + 1, b, rfl, rfl, by omega, by omega, hbn, ⟨fun _ => by rw [show c + 1 - 1 = c by omega]; exact HFc.out, hI.2⟩, below_drewN Hb.out _⟩, by simp [intOf]; omega⟩
      · have Hc := Lib.hid (show Calls Tryz.prog 101 #[.int .i64 c, .pointer (some ⟨b3, 0, none⟩), .pointer (some ⟨b2, 0, none⟩)] wr fun e w' => e = .returned (.bool true) ∧ ∃ m, w' = wr.drewN m from hFc ▸ HF.out c wr (by omega) (by omega) Hb.out)
        have HFc := Lib.hid hFc
        clear hFc
        go_wp2_with (go_at_call 101; refine Hc.out.mono ?_; rintro e w' ⟨rfl, m, rfl⟩)
        exact ⟨⟨a, c, rfl, rfl, by omega, by omega, by omega, ⟨hI.1, fun _ => HFc.out⟩, below_drewN Hb.out _⟩, by simp [intOf]; omega⟩
    · obtain rfl : a = b := by omega
      go_wp2
      go_ret
      exact ⟨a, rfl, ha, hbn, hI.1, hI.2, Hb.out⟩
/-- What each gets: at a level L, with a rest r. -/
def give1 (L r w : Int) : Int := if L < w ∧ 0 < r then min w L + 1 else min w L
def rest1 (L r w : Int) : Int := if L < w ∧ 0 < r then r - 1 else r
def give (L : Int) : Int → List Int → List Int
  | _, [] => []
  | r, w :: ws => give1 L r w :: give L (rest1 L r w) ws
def restA (L : Int) : Int → List Int → Int
  | r, [] => r
  | r, w :: ws => restA L (rest1 L r w) ws
theorem give_snoc (L : Int) : ∀ (r : Int) (ws : List Int) (w : Int), give L r (ws ++ [w]) = give L r ws ++ [give1 L (restA L r ws) w]
  | _, [], _ => rfl
  | r, a :: ws, w => by simp [give, restA, give_snoc L _ ws w]
theorem restA_snoc (L : Int) : ∀ (r : Int) (ws : List Int) (w : Int), restA L r (ws ++ [w]) = rest1 L (restA L r ws) w
  | _, [], _ => rfl
  | r, a :: ws, w => by simp [restA, restA_snoc L _ ws w]
theorem give_length (L : Int) : ∀ (r : Int) (ws : List Int), (give L r ws).length = ws.length
  | _, [] => rfl
  | r, a :: ws => by simp [give, give_length L _ ws]
theorem restA_bd (L : Int) : ∀ (r : Int) (ws : List Int), 0 ≤ r → 0 ≤ restA L r ws ∧ restA L r ws ≤ r
  | r, [], h => ⟨h, Int.le_refl _⟩
  | r, a :: ws, h => by
    have h1 : 0 ≤ rest1 L r a ∧ rest1 L r a ≤ r := by unfold rest1; split <;> omega
    have := restA_bd L (rest1 L r a) ws h1.1
    simp only [restA]; omega
/-- L is the level. -/
def Lev (total : Int) (ws : List Int) (L : Int) : Prop := 0 ≤ L ∧ L ≤ 1048576 ∧ least ws L ≤ total ∧ (L < 1048576 → total < least ws (L + 1))
end Go.Proofs.YtjdedflfdlhkdaaGreatDoor
