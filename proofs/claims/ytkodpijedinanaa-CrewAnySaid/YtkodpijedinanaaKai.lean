/- Texts that the claim imports, laid together: Mem Grow Reg MergeL Tag Own Chc RowW. No statement of their own. -/
import Derived.Laws.AppendOwnNone
import Derived.Laws.IdiomCopy
import Derived.Laws.Externs
import Derived.Lib.Overlaps
import Derived.Lib.AppendZerosOnto
import Derived.Deep.DeepAppendWide
import Derived.Test.YtkodpijedinanaaKaa
namespace Go.Proofs.Ytkodpijedinanaa
open Go.ChangeShapes Go.WideShapes Go.ChangeAt Go.RowKit
set_option linter.unusedVariables false

/-- v is a slice of n elements of sz cells each; xs are its cells, one behind the other. -/
def NilOk (v : Value) : Prop := ∀ n cap, v = .slice none n cap → n = 0 ∧ cap = 0
def Has (w : World) (sz : Nat) (v : Value) (n : Nat) (xs : List Value) : Prop :=
  (xs.length = n * sz ∧ NilOk v) ∧ ∃ a cap, v = .slice a n cap ∧ n ≤ cap ∧ cap ≤ maxLen ∧ (0 < xs.length → ∃ b off, a = some ⟨b, off, none⟩ ∧ ∀ j u, xs[j]? = some u → w.cell? ⟨b, off + j, none⟩ = some u)
section
variable {w w' : World} {sz n : Nat} {v : Value} {xs : List Value}
theorem Has.same (h : Has w sz v n xs) (hs : ∀ b o, b < w.heap.size → w'.cell? ⟨b, o, none⟩ = w.cell? ⟨b, o, none⟩) : Has w' sz v n xs := by
  obtain ⟨hl, a, cap, rfl, h1, h2, h3⟩ := h
  refine ⟨hl, a, cap, rfl, h1, h2, fun hp => ?_⟩
  obtain ⟨b, off, rfl, hc⟩ := h3 hp
  refine ⟨b, off, rfl, fun j u hu => ?_⟩
  have := hc j u hu
  rw [hs _ _ (World.block_lt_of_cell? w _ this)]; exact this
theorem Has.below (h : Has w sz v n xs) (hb : Below w.heap.size w w') : Has w' sz v n xs :=
  h.same fun b o hlt => hb.cell (p := ⟨b, o, none⟩) hlt
theorem Has.le (h : Has w sz v n xs) : n ≤ 140737488351232 ∨ n ≤ maxLen := Or.inr (by obtain ⟨_, a, cap, rfl, h1, h2, h3⟩ := h; omega)
theorem Has.of_owns {base e : Nat} (h : w.ownsRow base e sz v n xs) : Has w sz v n xs := by
  obtain ⟨hl, h⟩ := h
  rcases h with ⟨rfl, rfl⟩ | ⟨g, cap, cur, rfl, hg, hh, hn, hm, hs, ht⟩
  · exact ⟨⟨hl, fun n cap h => by simp only [Value.slice.injEq] at h; exact ⟨h.2.1.symm, h.2.2.symm⟩⟩, none, 0, rfl, Nat.le_refl _, Nat.zero_le _, fun hp => by omega⟩
  · refine ⟨⟨hl, fun n cap h => by simp at h⟩, _, cap, rfl, hn, hm, fun _ => ⟨g, 0, rfl, fun j u hu => ?_⟩⟩
    have := World.ownsRow.cells (w := w) (base := base) (e := e) (size := sz) (v := .slice (some ⟨g, 0, none⟩) n cap) (n := n) (xs := xs) ⟨hl, .inr ⟨g, cap, cur, rfl, hg, hh, hn, hm, hs, ht⟩⟩ (g := g) rfl j u hu
    rw [← this]; congr 1
    unfold Addr.add; split <;> simp_all
end
/-- The cells of a list of integers. -/
def ints (zs : List Int) : List Value := zs.map (Value.int .i64)
@[simp] theorem ints_length (zs : List Int) : (ints zs).length = zs.length := by simp [ints]
theorem ints_get (zs : List Int) (j : Nat) (h : j < zs.length) : (ints zs)[j]? = some (.int .i64 zs[j]) := by simp [ints, h]
theorem ints_snoc (zs : List Int) (z : Int) : ints zs ++ [.int .i64 z] = ints (zs ++ [z]) := by simp [ints]
theorem take_snoc {α : Type} (l : List α) (k : Nat) (h : k < l.length) : l.take (k + 1) = l.take k ++ [l[k]] := by
  rw [List.take_succ_eq_append_getElem h]

/-- What the table of types says of an element's type. -/
def Elem (P : Program) (e : TypeId) (size bytes : Nat) (z : Value) : Prop :=
  ∃ i, P.info? e = some i ∧ i.zero = some z ∧ i.size = size ∧ i.bytes = bytes ∧ z.cells.size = size ∧ 0 < size
theorem Elem.of {P : Program} {e size bytes : Nat} {z : Value} (h : (P.info? e).map (fun i => (i.zero, i.size, i.bytes)) = some (some z, size, bytes)) (hz : z.cells.size = size) (hs : 0 < size) : Elem P e size bytes z := by
  obtain ⟨i, h1, h2, h3, h4⟩ := info_parts h
  exact ⟨i, h1, h2, h3, h4, hz, hs⟩
theorem below_grown {base : Nat} {w w' : World} {v : Value} {e sz n : Nat} {xs : List Value} (hown : w.ownsRow base e sz v n xs) (hg : w.grownBy w' v.ownBlock) (hb : base ≤ w.heap.size) : Below base w w' :=
  (Below.refl _ _).grown hg hb fun k hk => (hown.lt k hk).1
/-- An owned row is kept where nothing that was there has changed. -/
theorem owns_below {w w' : World} {base e sz n : Nat} {v : Value} {xs : List Value} (hown : w.ownsRow base e sz v n xs) (hb : Below w.heap.size w w') : w'.ownsRow base e sz v n xs := by
  obtain ⟨hl, h⟩ := hown
  refine ⟨hl, ?_⟩
  rcases h with h | ⟨g, cap, cur, rfl, hg, hh, hn, hm, hs, ht⟩
  · exact .inl h
  · refine .inr ⟨g, cap, cur, rfl, hg, ?_, hn, hm, hs, ht⟩
    rw [hb.block g (Array.getElem?_eq_some_iff.1 hh).1]; exact hh
theorem heap_drew (w : World) : w.drew.heap = w.heap := rfl
theorem heap_drewN (w : World) (n : Nat) : (w.drewN n).heap = w.heap := rfl
section
variable {P : Program} {ops : Array Oper} {rest : List Oper} {o : Oper} {a : Act} {Q : Exit → Act → World → Prop}
/-- 'xs = append(xs, x)' for a slice of the call's own, behind the making of the one-element array. w0: the world in which the row is known; wx: the world of the append; wp: that ahead of the array. -/
theorem wp_app1 {w0 wx wp : World} (t e : TypeId) (size bytes : Nat) (z : Value) (hE : Elem P e size bytes z) (ht : P.underlying t = some (.slice e)) (base : Nat) (v : Value) (n : Nat) (xs : List Value)
    (hown : w0.ownsRow base e size v n xs) (hX : Below w0.heap.size w0 wx) (news : List Value) (hgd : o.guard = none) (s x : Operand) (ho : o.op = .call { callee := .builtin .append, args := #[s, x], argTypes := #[t, t] })
    (hs : a.eval s = v) {m : Nat} (hx : a.eval x = .slice (some ⟨m, 0, none⟩) 1 1) (hnew : wx.heap[wp.heap.size]? = some (.cells news.toArray e (0, 0))) (hm : m = wp.heap.size) (hl : news.length = size) (h1 : news.all Value.oneCell' = true) (hbytes : (n + 1) * bytes ≤ 140737488355328) (hn : n ≤ 140737488355328) (hbase : base ≤ w0.heap.size)
    (h : ∀ v' w', w'.ownsRow base e size v' (n + 1) (xs ++ news) → w0.grownBy w' v.ownBlock → Below base w0 w' → wpList P ops Q rest (a.put o.dst v') w') :
    wpList P ops Q (o :: rest) a wx := by
  obtain ⟨i, hi, hz0, hz1, hz2, hz3, hz4⟩ := hE
  have hbase' := Nat.le_trans hbase hX.size
  subst hm
  refine wpList_append_own _ hgd s x t ho base e i z size bytes ht hi hz0 hz1 hz2 hz3 hz4 v n xs hs (owns_below hown hX) ⟨wp.heap.size, 0, none⟩ 1 1 news hx (by omega) ?_ (fun u hu => List.all_eq_true.1 h1 u hu) (by unfold maxLen; omega) hbytes (by omega) ?_
  · intro j u hu
    have e1 : (⟨wp.heap.size, 0, none⟩ : Addr).add j = ⟨wp.heap.size, j, none⟩ := by unfold Addr.add; split <;> simp_all
    rw [e1, cell_of_row wx wp.heap.size j news.toArray e (0, 0) hnew]
    simpa using hu
  · intro v' w' h2 h3 _
    have h3' : w0.grownBy w' v.ownBlock := by
      refine ⟨h3.os.trans hX.os, h3.tape.trans hX.tape, h3.output.trans hX.output, Nat.le_trans hX.size h3.size, fun k hk hne => ?_⟩
      have := hX.size
      rw [h3.block k (by omega) hne]
      exact hX.block k hk
    exact h v' w' h2 h3' (below_grown hown h3' hbase)
end
/-- A region that draws its order and whose first n operations only read: one walk of the text's order, the draw written 'drew'. -/
theorem wp_still_tail {P : Program} {id : Nat} {Q : Exit → Act → World → Prop} {a : Act} {w : World} {l : List Oper} (n : Nat) (hm : P.follows .mixedOrders = true) (hB : Region.lexTailB .any l.toArray n = true)
    (h : wpStill P l.toArray w.drew (fun a' => wpList P l.toArray Q (l.drop n) a' w.drew) (l.take n) a) : (Code.region id l.toArray true).wp P Q a w :=
  wp_region_still_tail n hm hB h
theorem same_symm {e : Ending} {v : Value} {w w' : World} (h : e = .returned v ∧ w = w') : e = .returned v ∧ w' = w := ⟨h.1, h.2.symm⟩
/-- Of what was there only blocks in F may have changed. -/
structure Wrote (F : Nat → Prop) (w w' : World) : Prop where
  os : w'.os = w.os
  tape : w'.tape = w.tape
  output : w'.output = w.output
  size : w.heap.size ≤ w'.heap.size
  block : ∀ k, k < w.heap.size → ¬ F k → w'.heap[k]? = w.heap[k]?
theorem Wrote.refl (F : Nat → Prop) (w : World) : Wrote F w w := ⟨rfl, rfl, rfl, Nat.le_refl _, fun _ _ _ => rfl⟩
theorem Wrote.trans {F : Nat → Prop} {a b c : World} (h : Wrote F a b) (k : Wrote F b c) : Wrote F a c :=
  ⟨k.os.trans h.os, k.tape.trans h.tape, k.output.trans h.output, Nat.le_trans h.size k.size, fun i hi hf => (k.block i (Nat.lt_of_lt_of_le hi h.size) hf).trans (h.block i hi hf)⟩
theorem Wrote.mono {F G : Nat → Prop} {a b : World} (h : Wrote F a b) (hFG : ∀ k, k < a.heap.size → F k → G k) : Wrote G a b :=
  ⟨h.os, h.tape, h.output, h.size, fun i hi hf => h.block i hi fun hF => hf (hFG i hi hF)⟩
theorem Wrote.below {F : Nat → Prop} {B : Nat} {a b : World} (h : Wrote F a b) (hB : B ≤ a.heap.size) (hF : ∀ k, F k → B ≤ k) : Below B a b :=
  ⟨h.os, h.tape, h.output, h.size, fun k hk => h.block k (Nat.lt_of_lt_of_le hk hB) fun hf => by have := hF k hf; omega⟩
theorem Wrote.of_below {F : Nat → Prop} {B : Nat} {a b : World} (h : Below B a b) (hF : ∀ k, k < a.heap.size → B ≤ k → F k) : Wrote F a b :=
  ⟨h.os, h.tape, h.output, h.size, fun k hk hf => h.block k (Classical.byContradiction fun hn => hf (hF k hk (by omega)))⟩
theorem Wrote.drew {F : Nat → Prop} {a w : World} (h : Wrote F a w) : Wrote F a w.drew := ⟨h.os, h.tape, h.output, h.size, h.block⟩
theorem Wrote.drewN {F : Nat → Prop} {a w : World} (n : Nat) (h : Wrote F a w) : Wrote F a (w.drewN n) := ⟨h.os, h.tape, h.output, h.size, h.block⟩
theorem Wrote.setCell {F : Nat → Prop} {a w : World} (h : Wrote F a w) {p : Addr} (hp : F p.block) (u : Value) : Wrote F a (w.setCell p u) :=
  h.trans ⟨rfl, rfl, rfl, by simp [World.setCell], fun k hk hf => Below.heap_setCell _ _ _ _ (fun e => hf (e ▸ hp))⟩
theorem Wrote.alloc {F : Nat → Prop} {a w : World} (h : Wrote F a w) (o : Obj) : Wrote F a (w.alloc o) :=
  h.trans ⟨rfl, rfl, rfl, by simp, fun k hk hf => Below.heap_alloc _ _ _ hk⟩
theorem Wrote.cell {F : Nat → Prop} {w w' : World} (h : Wrote F w w') {b o : Nat} {u : Value} (hc : w.cell? ⟨b, o, none⟩ = some u) (hb : ¬ F b) : w'.cell? ⟨b, o, none⟩ = some u := by
  have hlt := World.block_lt_of_cell? w _ hc
  rw [World.cell?_of_block (w := w) (a := ⟨b, o, none⟩) (h.block b hlt hb)]; exact hc
theorem cell_on {w w' : World} (hb : Below w.heap.size w w') {b o : Nat} {u : Value} (h : w.cell? ⟨b, o, none⟩ = some u) : w'.cell? ⟨b, o, none⟩ = some u := by
  rw [hb.cell (p := ⟨b, o, none⟩) (World.block_lt_of_cell? w _ h)]; exact h
theorem block_on {w w' : World} (hb : Below w.heap.size w w') {b o : Nat} {u : Value} (h : w.cell? ⟨b, o, none⟩ = some u) : b < w'.heap.size :=
  Nat.lt_of_lt_of_le (World.block_lt_of_cell? w _ h) hb.size
section openers
variable {H : Type} {enc : TypeId × Value → H} {P : Program} {W : World} {sp : Nat → Bool}
theorem addr_add (a : Addr) (j : Nat) (hs : a.spot = none) : a.add j = ⟨a.block, a.off + j, none⟩ := by
  unfold Addr.add; split
  · next h => subst h; cases a; simp_all
  · simp
/-- A '[]int' argument. -/
theorem open_has_ints {t e : TypeId} {base : Nat} {v : Value} {d : DataW H} {ps : List MemPlace} (ht : P.underlying t = some (.slice e)) (he : P.underlying e = some (.int .i64)) (hc : P.cellsOf e = 1)
    (hval : Value.okWide P W .any base t v) (h : DataW.Trod enc P W 0 sp true t v d ps) : ∃ zs : List Int, Has W 1 v zs.length (ints zs) ∧ (∀ z ∈ zs, -9223372036854775808 ≤ z ∧ z ≤ 9223372036854775807) := by
  obtain ⟨a0, len, cap, rfl⟩ := okWide_slice ht hval
  obtain ⟨fuel, hf⟩ := h
  rcases open_ints ht he hc hf with ⟨hcs, hx⟩ | ⟨a, len', cap', zs, hcs, _, hl, hm, hz, hx, hcell, hwf⟩
  · simp [Value.cells] at hcs
    obtain ⟨rfl, rfl, rfl⟩ := hcs
    exact ⟨[], ⟨⟨by simp, fun n cap h => by simp at h; exact ⟨h.1.symm, h.2.symm⟩⟩, none, 0, rfl, Nat.le_refl _, Nat.zero_le _, fun h => by simp at h⟩, by simp⟩
  · simp [Value.cells] at hcs
    obtain ⟨rfl, rfl, rfl⟩ := hcs
    have hzl : len ≤ zs.length := by rw [hz]; split <;> omega
    refine ⟨zs.take len, ⟨⟨by simp, fun n cap h => by simp at h⟩, some a, cap, by rw [List.length_take, Nat.min_eq_left hzl], by rw [List.length_take]; omega, hm, fun hp => ?_⟩, fun z hz' => wf64_iff.1 (hwf z (List.mem_of_mem_take hz'))⟩
    have hl0 : 0 < zs.length := by simp at hp; omega
    have hsp : a.spot = none := by
      have := hcell 0 hl0
      rw [show a.add 0 = a by simp [Addr.add]] at this
      cases hs : a.spot with
      | none => rfl
      | some s => simp [World.cell?, hs] at this; split at this <;> simp at this
    refine ⟨a.block, a.off, by cases a; simp_all, fun j u hu => ?_⟩
    have hj : j < (zs.take len).length := by have := (List.getElem?_eq_some_iff.1 hu).1; simpa using this
    rw [ints_get _ _ hj] at hu
    have hj' : j < zs.length := by rw [List.length_take] at hj; omega
    have := hcell j hj'
    rw [addr_add _ _ hsp] at this
    rw [this, ← hu]; simp [List.getD_eq_getElem?_getD, hj']
end openers
theorem owns_slice {w : World} {base e sz n : Nat} {v : Value} {xs : List Value} (h : w.ownsRow base e sz v n xs) : ∃ a cap, v = .slice a n cap := by
  obtain ⟨_, a, cap, h, _⟩ := Has.of_owns h
  exact ⟨a, cap, h⟩
section
variable {P : Program} {ops : Array Oper} {rest : List Oper} {o : Oper} {a : Act} {Q : Exit → Act → World → Prop}
/-- 'xs = append(xs, ys...)' for a slice of the call's own and whatever source. -/
theorem wp_appN {w0 wx : World} (t e : TypeId) (size bytes : Nat) (z : Value) (hE : Elem P e size bytes z) (ht : P.underlying t = some (.slice e)) (base : Nat) (v : Value) (n : Nat) (xs : List Value)
    (hown : w0.ownsRow base e size v n xs) (hX : Below w0.heap.size w0 wx) (vx : Value) (m : Nat) (ys : List Value) (hsrc : Has wx size vx m ys) (hgd : o.guard = none) (s x : Operand) (ho : o.op = .call { callee := .builtin .append, args := #[s, x], argTypes := #[t, t] })
    (hs : a.eval s = v) (hx : a.eval x = vx) (h1 : ys.all Value.oneCell' = true) (hbytes : (n + m) * bytes ≤ 140737488355328) (hn : n + m ≤ maxLen) (hbase : base ≤ w0.heap.size)
    (h : ∀ v' w', w'.ownsRow base e size v' (n + m) (xs ++ ys) → w0.grownBy w' v.ownBlock → Below base w0 w' → wpList P ops Q rest (a.put o.dst v') w') :
    wpList P ops Q (o :: rest) a wx := by
  obtain ⟨i, hi, hz0, hz1, hz2, hz3, hz4⟩ := hE
  have hbase' := Nat.le_trans hbase hX.size
  obtain ⟨⟨hl, hnil⟩, ad, cap, rfl, hm1, hm2, hc⟩ := hsrc
  have fin : ∀ w', wx.grownBy w' v.ownBlock → w0.grownBy w' v.ownBlock ∧ Below base w0 w' := fun w' h3 => by
    have h3' : w0.grownBy w' v.ownBlock := by
      refine ⟨h3.os.trans hX.os, h3.tape.trans hX.tape, h3.output.trans hX.output, Nat.le_trans hX.size h3.size, fun k hk hne => ?_⟩
      have := hX.size
      rw [h3.block k (by omega) hne]
      exact hX.block k hk
    exact ⟨h3', below_grown hown h3' hbase⟩
  cases ad with
  | none =>
    obtain ⟨rfl, rfl⟩ := hnil _ _ rfl
    obtain rfl : ys = [] := List.eq_nil_of_length_eq_zero (by simpa using hl)
    have hown' := owns_below hown hX
    obtain ⟨f1, f2⟩ := fin wx ⟨rfl, rfl, rfl, Nat.le_refl _, fun _ _ _ => rfl⟩
    exact wpList_append_own_none hgd s x t ho base e i size ht hi v n xs hs hown' hx (h v wx (by simpa using hown') f1 f2)
  | some ad =>
    refine wpList_append_own _ hgd s x t ho base e i z size bytes ht hi hz0 hz1 hz2 hz3 hz4 v n xs hs (owns_below hown hX) ad m cap ys hx hl ?_ (fun u hu => List.all_eq_true.1 h1 u hu) hn hbytes hbase' ?_
    · intro j u hu
      have hp : 0 < ys.length := by have := (List.getElem?_eq_some_iff.1 hu).1; omega
      obtain ⟨b, off, e1, hcc⟩ := hc hp
      simp only [Option.some.injEq] at e1
      subst e1
      rw [addr_add _ _ rfl]
      exact hcc j u hu
    · intro v' w' h2 h3 _
      obtain ⟨f1, f2⟩ := fin w' h3
      exact h v' w' h2 f1 f2
end
/-- A block that was just made is a row of the call's own. -/
theorem owns_block {wx wp : World} {m n sz base : Nat} {cs : List Value} {e : TypeId} (hnew : wx.heap[wp.heap.size]? = some (.cells cs.toArray e (0, 0))) (hm : m = wp.heap.size) (hl : cs.length = n * sz) (hn : n ≤ maxLen) (hb : base ≤ wp.heap.size) :
    wx.ownsRow base e sz (.slice (some ⟨m, 0, none⟩) n n) n cs := by
  subst hm
  exact ⟨hl, .inr ⟨_, n, _, rfl, hb, hnew, Nat.le_refl _, hn, by simpa using hl, by rw [← hl]; simp⟩⟩
theorem ints_one (zs : List Int) : (ints zs).all Value.oneCell' = true := by
  rw [List.all_eq_true]; intro v hv; obtain ⟨z, _, rfl⟩ := List.mem_map.1 hv; rfl
theorem elInt : Elem Try.prog 3 1 8 (.int .i64 0) := .of (by kernel_rfl) rfl (by decide)
end Go.Proofs.Ytkodpijedinanaa

namespace Go.Proofs.Ytkodpijedinanaa
open Go.ChangeShapes Go.WideShapes Go.ChangeAt Go.RowKit
set_option linter.unusedVariables false

/-- The worlds that w may have grown to. -/
def Ext (w : World) := { w' : World // Below w.heap.size w w' }
instance (w : World) : Nonempty (Ext w) := ⟨⟨w, Below.refl _ _⟩⟩
section
variable {P : Program}
theorem wp_region_grow {id : Nat} {Q : Exit → Act → World → Prop} {a : Act} {w : World} {l : List Oper} (hm : P.follows .mixedOrders = true) (hB : Region.lexB .any l.toArray = true)
    (h : wpQuiet P l.toArray (fun w' => ∃ x : Ext w, w' = x.1) (fun a' => ∀ w', Below w.heap.size w w' → Q .normal a' w') l a) : (Code.region id l.toArray true).wp P Q a w := by
  refine wp_region_quiet (C := fun w' => ∃ x : Ext w, w' = x.1) hm hB ⟨⟨w.drew, (Below.refl _ _).drew⟩, rfl⟩ ?_
  have h' : wpQuiet P l.toArray (fun w' => ∃ x : Ext w, w' = x.1) (fun a' => ∀ w', (∃ x : Ext w, w' = x.1) → Q .normal a' w') l a := by
    have e : (fun a' => ∀ w', Below w.heap.size w w' → Q .normal a' w') = (fun a' => ∀ w', (∃ x : Ext w, w' = x.1) → Q .normal a' w') := by
      funext a'
      apply propext
      constructor
      · rintro h w' ⟨x, rfl⟩; exact h _ x.2
      · intro h w' hb; exact h w' ⟨⟨w', hb⟩, rfl⟩
    rw [← e]; exact h
  simpa using h'
theorem wpList_of_quiet {ops : Array Oper} {C : World → Prop} {Q : Act → Prop} {Q' : Exit → Act → World → Prop} (hQ : ∀ a w, C w → Q a → Q' .normal a w) : ∀ (l : List Oper) (a : Act) (w : World), C w → wpQuiet P ops C Q l a → wpList P ops Q' l a w
  | [], a, w, hw, h => hQ a w hw h
  | o :: rest, a, w, hw, h => by
    unfold wpQuiet at h
    unfold wpList
    split at h
    · next hh =>
      rw [if_pos hh]
      exact Or.inl (Oper.wp_of_quiet hw (fun a' w' hw' h' => wpList_of_quiet hQ rest a' w' hw' h') h)
    · next hh =>
      rw [if_neg hh]
      exact wpList_of_quiet hQ rest _ w hw h
/-- The same for a region in the text's order. -/
theorem wp_region_seq {id : Nat} {Q : Exit → Act → World → Prop} {a : Act} {w : World} {l : List Oper}
    (h : wpQuiet P l.toArray (fun w' => ∃ x : Ext w, w' = x.1) (fun a' => ∀ w', Below w.heap.size w w' → Q .normal a' w') l a) : (Code.region id l.toArray false).wp P Q a w :=
  wp_region_lit (wpList_of_quiet (C := fun w' => ∃ x : Ext w, w' = x.1) (fun a' w' ⟨x, hx⟩ hq => hx ▸ hq x.1 x.2) l a w ⟨⟨w, Below.refl _ _⟩, rfl⟩ h)
theorem grow_of {f : FuncId} {args : Array Value} {w : World} {x : Ext w} {v : Value}
    (h : Calls P f args x.1 fun e w' => e = .returned v ∧ Below x.1.heap.size x.1 w') : Calls P f args x.1 fun e w'' => e = .returned v ∧ ∃ y : Ext w, w'' = y.1 :=
  h.mono fun _ w' ⟨he, hb⟩ => ⟨he, ⟨w', x.2.trans (hb.mono x.2.size)⟩, rfl⟩
theorem grow_same {f : FuncId} {args : Array Value} {w : World} {x : Ext w} {v : Value}
    (h : Calls P f args x.1 fun e w' => e = .returned v ∧ x.1 = w') : Calls P f args x.1 fun e w'' => e = .returned v ∧ ∃ y : Ext w, w'' = y.1 :=
  h.mono fun _ w' ⟨he, hb⟩ => ⟨he, x, hb.symm⟩
theorem ext_cell {w : World} {b o : Nat} {u : Value} (h : w.cell? ⟨b, o, none⟩ = some u) : ∀ x : Ext w, x.1.cell? ⟨b, o, none⟩ = some u := fun x => cell_on x.2 h
end
theorem has_block {wx wp : World} {m n sz : Nat} {cs : List Value} {e : TypeId} (hnew : wx.heap[wp.heap.size]? = some (.cells cs.toArray e (0, 0))) (hm : m = wp.heap.size) (hl : cs.length = n * sz) (hn : n ≤ maxLen) :
    Has wx sz (.slice (some ⟨m, 0, none⟩) n n) n cs := by
  subst hm
  refine ⟨⟨hl, fun n cap h => by simp at h⟩, _, n, rfl, Nat.le_refl _, hn, fun _ => ⟨_, 0, rfl, fun j u hu => ?_⟩⟩
  rw [cell_of_row wx _ _ _ _ _ hnew]; simpa using hu
end Go.Proofs.Ytkodpijedinanaa

namespace Go.Proofs.Ytkodpijedinanaa
open Go.ChangeShapes Go.WideShapes Go.ChangeAt Go.RowKit
set_option linter.unusedVariables false

/-- An entry: key, value, time, who, gone. -/
structure Ent where
  k : Int
  v : Int
  t : Int
  h : Int
  g : Bool
def Ent.cells (e : Ent) : List Value := [.int .i64 e.k, .int .i64 e.v, .int .i64 e.t, .int .i64 e.h, .bool e.g]
def Ent.val (e : Ent) : Value := .agg #[.int .i64 e.k, .int .i64 e.v, .int .i64 e.t, .int .i64 e.h, .bool e.g]
def cmpI (a b : Int) : Int := if a < b then -1 else if b < a then 1 else 0
theorem ccompare (a b : Int) (w : World) :
    Calls Try.prog 55 #[.int .i64 a, .int .i64 b] w fun e w' => e = .returned (.int .i64 (cmpI a b)) ∧ w = w' := by
  have hnan : ∀ (x : Int) (X : World), Calls Try.prog 64 #[.int .i64 x] X fun e w' => e = .returned (.bool false) ∧ X = w' := fun x X => by
    go_enter Try.func64, Try.ntmps64
    go_wp2
    go_ret
    exact ⟨rfl, rfl⟩
  have Hn := Lib.hid hnan
  clear hnan
  have H1 := Lib.hid (show ∀ _ : a < b, cmpI a b = -1 from fun h => by simp [cmpI, h])
  have H2 := Lib.hid (show ∀ _ : b < a, cmpI a b = 1 from fun h => by unfold cmpI; rw [if_neg (by omega), if_pos h])
  have H3 := Lib.hid (show ∀ _ : a = b, cmpI a b = 0 from fun h => by unfold cmpI; rw [if_neg (by omega), if_neg (by omega)])
  by_cases h1 : a < b
  · go_enter Try.func55, Try.ntmps55
    go_wp2_with (go_at_call 64; with_reducible refine (Hn.out _ _).mono ?_; rintro e w' ⟨rfl, rfl⟩)
    go_ret
    rw [H1.out h1]; exact ⟨rfl, rfl⟩
  · by_cases h2 : b < a
    · go_enter Try.func55, Try.ntmps55
      go_wp2_with (go_at_call 64; with_reducible refine (Hn.out _ _).mono ?_; rintro e w' ⟨rfl, rfl⟩)
      go_ret
      rw [H2.out h2]; exact ⟨rfl, rfl⟩
    · go_enter Try.func55, Try.ntmps55
      go_wp2_with (go_at_call 64; with_reducible refine (Hn.out _ _).mono ?_; rintro e w' ⟨rfl, rfl⟩)
      go_ret
      rw [H3.out (by omega)]; exact ⟨rfl, rfl⟩
def flagI (b : Bool) : Int := if b then 1 else 0
theorem cflag (b : Bool) (w : World) :
    Calls Try.prog 56 #[.bool b] w fun e w' => e = .returned (.int .i64 (flagI b)) ∧ w = w' := by
  cases b
  · go_enter Try.func56, Try.ntmps56
    go_wp2
    go_ret
    exact ⟨rfl, rfl⟩
  · go_enter Try.func56, Try.ntmps56
    go_wp2
    go_ret
    exact ⟨rfl, rfl⟩
/-- The first that is not 0. -/
def orI : List Int → Int
  | [] => 0
  | z :: l => if z = 0 then orI l else z
theorem cor (v : Value) (zs : List Int) (w : World) (h : Has w 1 v zs.length (ints zs)) :
    Calls Try.prog 54 #[v] w fun e w' => e = .returned (.int .i64 (orI zs)) ∧ w = w' := by
  obtain ⟨hl, a, cap, rfl, hn, hm, hc⟩ := h
  unfold maxLen at hm
  go_enter Try.func54, Try.ntmps54
  go_wp2
  go_loop [5, 8] (fun x i => ∃ k : Nat, k ≤ zs.length ∧ i = .int .i64 k ∧ orI zs = orI (zs.drop k)) (fun _ i => zs.length - (intOf i).toNat)
  case atStart => exact ⟨0, by omega, rfl, rfl⟩
  case round =>
    obtain ⟨k, hk, rfl, ho⟩ := hrel
    have Ho := Lib.hid ho
    clear ho
    by_cases h1 : k < zs.length
    · obtain ⟨b, off, rfl, hcc⟩ := hc (by simp; omega)
      have g := hcc _ _ (ints_get zs k h1)
      have Hd := Lib.hid (show orI (zs.drop k) = if zs[k] = 0 then orI (zs.drop (k + 1)) else zs[k] by rw [List.drop_eq_getElem_cons h1]; rfl)
      clear hc hcc
      by_cases h2 : zs[k] = 0
      · have h2' : (zs[k] != 0) = false := by simp [h2]
        have Hr := Lib.hid (show orI zs = orI (zs.drop (k + 1)) by rw [Ho.out, Hd.out, if_pos h2])
        clear h2
        go_wp2
        go_round
        case rel => exact ⟨k + 1, by omega, by go_num, Hr.out⟩
        case measure => simp [intOf]; omega
      · have h2' : (zs[k] != 0) = true := by simp [h2]
        have Hr := Lib.hid (show orI zs = zs[k] by rw [Ho.out, Hd.out, if_neg h2])
        clear h2
        go_wp2
        go_ret
        exact ⟨ret_int Hr.out.symm, rfl⟩
    · obtain rfl : k = zs.length := by omega
      have Hr := Lib.hid (show orI zs = 0 by rw [Ho.out, List.drop_length]; rfl)
      clear hc
      go_wp2
      go_ret
      exact ⟨ret_int Hr.out.symm, rfl⟩
def newer (a b : Ent) : Bool := decide (0 < orI [cmpI a.t b.t, cmpI a.h b.h, cmpI (flagI b.g) (flagI a.g), cmpI a.v b.v])
set_option maxRecDepth 100000 in
set_option maxHeartbeats 2000000 in
theorem cnewer (a b : Ent) (w : World) :
    Calls Try.prog 31 #[a.val, b.val] w fun e w' => e = .returned (.bool (newer a b)) ∧ Below w.heap.size w w' := by
  obtain ⟨k1, v1, t1, h1, g1⟩ := a
  obtain ⟨k2, v2, t2, h2, g2⟩ := b
  have Hc := Lib.hid (fun (x y : Int) (X : World) => (ccompare x y X).mono fun _ _ h => same_symm h)
  have Hf := Lib.hid (fun (x : Bool) (X : World) => (cflag x X).mono fun _ _ h => same_symm h)
  unfold Ent.val
  go_enter Try.func31, Try.ntmps31
  go_wp2
  refine wp_still_tail 22 (by kernel_rfl) (by kernel_rfl) ?_
  simp only [List.take_succ_cons, List.take_zero, List.drop_succ_cons, List.drop_zero]
  repeat (first | still_step | still_call (Hc.out _ _ _) | still_call (Hf.out _ _))
  refine wpStill_nil ?_
  go_wp2_with fail
  refine (cor _ [cmpI t1 t2, cmpI h1 h2, cmpI (flagI g2) (flagI g1), cmpI v1 v2] _ (has_block (by first | exact heap_alloc_new _ _ | (simp only [heap_drew, heap_drewN]; exact heap_alloc_new _ _)) (by simp) (by simp) (by unfold maxLen; simp))).mono ?_
  rintro e w' ⟨rfl, rfl⟩
  go_wp2
  go_ret
  exact ⟨ret_bool rfl, (by repeat (first | exact Below.refl _ _ | refine Below.drew ?_ | refine Below.alloc ?_ (by first | (simp; done) | (simp; omega)) _ | refine Below.setCell ?_ (by first | (simp; done) | (simp; omega)) _))⟩
end Go.Proofs.Ytkodpijedinanaa

namespace Go.Proofs.Ytkodpijedinanaa
set_option linter.unusedVariables false
set_option linter.unusedSimpArgs false

structure Ent.Ok (e : Ent) : Prop where
  k : 0 ≤ e.k ∧ e.k ≤ 1048576
  v : 0 ≤ e.v ∧ e.v ≤ 1048576
  t : 0 ≤ e.t ∧ e.t ≤ 1048576
  h : 0 ≤ e.h ∧ e.h ≤ 7
  g : e.g = true → e.v = 0
structure MayL (l : List Ent) : Prop where
  ok : ∀ e ∈ l, e.Ok
  sorted : l.Pairwise (fun a b => a.k < b.k)
/-- How many stand ahead of a key. -/
def posK : List Ent → Int → Nat
  | [], _ => 0
  | a :: t, k => if a.k < k then posK t k + 1 else 0
theorem posK_le : ∀ (l : List Ent) (k : Int), posK l k ≤ l.length
  | [], _ => Nat.le_refl _
  | a :: t, k => by
    unfold posK
    have := posK_le t k
    split <;> simp <;> omega
theorem posK_eq : ∀ (l : List Ent) (k : Int) (i : Nat), i ≤ l.length → (∀ x (hx : x < l.length), x < i → l[x].k < k) → (∀ hx : i < l.length, ¬ l[i].k < k) → posK l k = i
  | [], k, i, hi, _, _ => by simp at hi; simp [posK, hi]
  | a :: t, k, 0, hi, h1, h2 => by
    have := h2 (by simp)
    simp only [List.getElem_cons_zero] at this
    simp [posK, this]
  | a :: t, k, i + 1, hi, h1, h2 => by
    have h0 := h1 0 (by simp) (by omega)
    simp only [List.getElem_cons_zero] at h0
    have ih := posK_eq t k i (by simpa using hi) (fun x hx hxi => by have := h1 (x + 1) (by simpa using hx) (by omega); simpa using this) (fun hx => by have := h2 (by simpa using hx); simpa using this)
    simp [posK, h0, ih]
/-- One entry is merged. -/
def mergeOne : List Ent → Ent → List Ent
  | [], e => [e]
  | a :: t, e => if a.k < e.k then a :: mergeOne t e else if a.k = e.k then (if newer e a = true then e :: t else a :: t) else e :: a :: t
def mergeL (a b : List Ent) : List Ent := b.foldl mergeOne a
theorem mergeOne_none : ∀ (l : List Ent) (e : Ent), (∀ hx : posK l e.k < l.length, l[posK l e.k].k ≠ e.k) → mergeOne l e = l.take (posK l e.k) ++ [e] ++ l.drop (posK l e.k)
  | [], e, _ => rfl
  | a :: t, e, h => by
    by_cases c : a.k < e.k
    · have hp : posK (a :: t) e.k = posK t e.k + 1 := by simp [posK, c]
      have ih := mergeOne_none t e fun hx => by have := h (by rw [hp]; simpa using hx); simpa [hp] using this
      simp [mergeOne, c, hp, ih]
    · have hp : posK (a :: t) e.k = 0 := by simp [posK, c]
      have h0 := h (by rw [hp]; simp)
      simp only [hp, List.getElem_cons_zero] at h0
      simp [mergeOne, c, hp, h0]
theorem mergeOne_some : ∀ (l : List Ent) (e : Ent) (hx : posK l e.k < l.length), l[posK l e.k].k = e.k → mergeOne l e = if newer e l[posK l e.k] = true then l.set (posK l e.k) e else l
  | [], e, hx, _ => by simp at hx
  | a :: t, e, hx, h => by
    by_cases c : a.k < e.k
    · have hp : posK (a :: t) e.k = posK t e.k + 1 := by simp [posK, c]
      have hx' : posK t e.k < t.length := by rw [hp] at hx; simpa using hx
      have ih := mergeOne_some t e hx' (by simpa [hp] using h)
      simp only [mergeOne, c, hp, if_true, List.getElem_cons_succ, List.set_cons_succ]
      rw [ih]
      split <;> rfl
    · have hp : posK (a :: t) e.k = 0 := by simp [posK, c]
      simp only [hp, List.getElem_cons_zero] at h
      have c2 : ¬ a.k < e.k := c
      simp only [mergeOne, if_neg c2, if_pos h, hp, List.getElem_cons_zero, List.set_cons_zero]
theorem mergeOne_mem : ∀ (l : List Ent) (e x : Ent), x ∈ mergeOne l e → x = e ∨ x ∈ l
  | [], e, x, h => by simp [mergeOne] at h; exact .inl h
  | a :: t, e, x, h => by
    unfold mergeOne at h
    split at h
    · rcases List.mem_cons.1 h with h | h
      · exact .inr (by rw [h]; exact List.mem_cons_self)
      · rcases mergeOne_mem t e x h with h | h
        · exact .inl h
        · exact .inr (List.mem_cons_of_mem _ h)
    · split at h
      · split at h
        · rcases List.mem_cons.1 h with h | h
          · exact .inl h
          · exact .inr (List.mem_cons_of_mem _ h)
        · exact .inr h
      · rcases List.mem_cons.1 h with h | h
        · exact .inl h
        · exact .inr h
theorem mergeOne_may {l : List Ent} {e : Ent} (h : MayL l) (he : e.Ok) : MayL (mergeOne l e) := by
  refine ⟨fun x hx => ?_, ?_⟩
  · rcases mergeOne_mem l e x hx with rfl | hx
    · exact he
    · exact h.ok x hx
  · have hs := h.sorted
    clear h
    induction l with
    | nil => simp [mergeOne]
    | cons a t ih =>
      rw [List.pairwise_cons] at hs
      unfold mergeOne
      split
      · next c =>
        rw [List.pairwise_cons]
        refine ⟨fun x hx => ?_, ih hs.2⟩
        rcases mergeOne_mem t e x hx with rfl | hx
        · exact c
        · exact hs.1 x hx
      · next c =>
        split
        · next c2 =>
          split
          · rw [List.pairwise_cons]
            exact ⟨fun x hx => by have := hs.1 x hx; omega, hs.2⟩
          · rw [List.pairwise_cons]; exact hs
        · next c2 =>
          rw [List.pairwise_cons, List.pairwise_cons]
          exact ⟨fun x hx => by
            rcases List.mem_cons.1 hx with rfl | hx
            · omega
            · have := hs.1 x hx; omega, hs⟩
theorem mergeL_may {a b : List Ent} (ha : MayL a) (hb : ∀ e ∈ b, e.Ok) : MayL (mergeL a b) := by
  induction b generalizing a with
  | nil => exact ha
  | cons e t ih => exact ih (mergeOne_may ha (hb e List.mem_cons_self)) fun x hx => hb x (List.mem_cons_of_mem _ hx)
theorem mergeOne_len (l : List Ent) (e : Ent) : l.length ≤ (mergeOne l e).length ∧ (mergeOne l e).length ≤ l.length + 1 := by
  induction l with
  | nil => simp [mergeOne]
  | cons a t ih =>
    unfold mergeOne
    split
    · simp; omega
    · split
      · split <;> simp
      · simp
theorem mergeL_len (a b : List Ent) : a.length ≤ (mergeL a b).length ∧ (mergeL a b).length ≤ a.length + b.length := by
  induction b generalizing a with
  | nil => simp [mergeL]
  | cons e t ih =>
    have h1 := ih (mergeOne a e)
    have h2 := mergeOne_len a e
    unfold mergeL at *
    simp only [List.foldl_cons, List.length_cons]
    omega
theorem mergeL_snoc (a b : List Ent) (e : Ent) : mergeL a (b ++ [e]) = mergeOne (mergeL a b) e := by unfold mergeL; rw [List.foldl_append]; rfl
/-- What stands under a key. -/
def look (l : List Ent) (k : Int) : Option Ent := l.find? (fun x => x.k == k)
def newest (o : Option Ent) (e : Ent) : Ent := match o with | none => e | some x => if newer e x = true then e else x
theorem look_none {l : List Ent} {k : Int} (h : ∀ x ∈ l, x.k ≠ k) : look l k = none := by
  unfold look; rw [List.find?_eq_none]; intro x hx; simpa using h x hx
theorem look_some {l : List Ent} {k : Int} {e : Ent} (h : look l k = some e) : e ∈ l ∧ e.k = k := by
  unfold look at h
  exact ⟨List.mem_of_find?_eq_some h, by have := List.find?_some h; simpa using this⟩
theorem look_cons (a : Ent) (t : List Ent) (k : Int) : look (a :: t) k = if a.k = k then some a else look t k := by
  unfold look
  rw [List.find?_cons]
  by_cases c : a.k = k
  · rw [if_pos c]; simp [c]
  · rw [if_neg c]
    have : (a.k == k) = false := by rw [beq_eq_false_iff_ne]; exact c
    rw [this]
theorem look_merge (l : List Ent) (e : Ent) (hs : l.Pairwise (fun a b => a.k < b.k)) (k : Int) : look (mergeOne l e) k = if k = e.k then some (newest (look l k) e) else look l k := by
  induction l with
  | nil =>
    rw [show mergeOne [] e = [e] from rfl, look_cons]
    by_cases c : k = e.k
    · rw [if_pos c.symm, if_pos c]; rfl
    · rw [if_neg (fun h => c h.symm), if_neg c]
  | cons a t ih =>
    rw [List.pairwise_cons] at hs
    unfold mergeOne
    by_cases c1 : a.k < e.k
    · rw [if_pos c1, look_cons, look_cons, ih hs.2]
      by_cases c2 : a.k = k
      · rw [if_pos c2, if_pos c2, if_neg (by omega)]
      · rw [if_neg c2, if_neg c2]
    · rw [if_neg c1]
      by_cases c2 : a.k = e.k
      · rw [if_pos c2]
        by_cases c3 : k = e.k
        · rw [if_pos c3, look_cons a t k, if_pos (show a.k = k by omega)]
          simp only [newest]
          by_cases c4 : newer e a = true
          · rw [if_pos c4, if_pos c4, look_cons, if_pos c3.symm]
          · rw [if_neg c4, if_neg c4, look_cons, if_pos (show a.k = k by omega)]
        · rw [if_neg c3]
          by_cases c4 : newer e a = true
          · rw [if_pos c4, look_cons, look_cons, if_neg (fun h => c3 h.symm), if_neg (by omega)]
          · rw [if_neg c4]
      · rw [if_neg c2, look_cons]
        by_cases c3 : k = e.k
        · have e0 : look (a :: t) k = none := look_none fun x hx => by
            rcases List.mem_cons.1 hx with h0 | h0
            · rw [h0]; omega
            · have := hs.1 x h0; omega
          rw [if_pos c3.symm, if_pos c3, e0]; rfl
        · rw [if_neg (fun h => c3 h.symm), if_neg c3]
/-- Lists that look the same are the same. -/
theorem look_ext : ∀ (l m : List Ent), l.Pairwise (fun a b => a.k < b.k) → m.Pairwise (fun a b => a.k < b.k) → (∀ k, look l k = look m k) → l = m
  | [], [], _, _, _ => rfl
  | [], b :: m, _, _, h => by have := h b.k; rw [look_cons, if_pos rfl] at this; simp [look] at this
  | a :: l, [], _, _, h => by have := h a.k; rw [look_cons, if_pos rfl] at this; simp [look] at this
  | a :: l, b :: m, h1, h2, h => by
    rw [List.pairwise_cons] at h1 h2
    have e1 : a.k = b.k := by
      have ha := h a.k
      have hb := h b.k
      rw [look_cons, if_pos rfl, look_cons] at ha
      rw [look_cons b, if_pos rfl, look_cons] at hb
      apply Classical.byContradiction
      intro hne
      rw [if_neg (fun hh => hne hh.symm)] at ha
      rw [if_neg hne] at hb
      have q1 := h2.1 _ (look_some ha.symm).1
      have q2 := h1.1 _ (look_some hb).1
      omega
    have e2 : a = b := by
      have ha := h a.k
      rw [look_cons, if_pos rfl, look_cons, if_pos e1.symm] at ha
      simpa using ha
    subst e2
    rw [look_ext l m h1.2 h2.2 fun k => by
      have hk := h k
      rw [look_cons, look_cons] at hk
      by_cases c : a.k = k
      · rw [look_none, look_none]
        · intro x hx; have := h2.1 x hx; omega
        · intro x hx; have := h1.1 x hx; omega
      · rwa [if_neg c, if_neg c] at hk]
end Go.Proofs.Ytkodpijedinanaa

namespace Go.Proofs.Ytkodpijedinanaa
open Go.ChangeShapes Go.WideShapes Go.ChangeAt Go.RowKit
set_option linter.unusedVariables false

/-- Of what was there only blocks whose cells are of a type in T may have changed. -/
structure Chg (T : List TypeId) (w w' : World) : Prop where
  size : w.heap.size ≤ w'.heap.size
  block : ∀ (k : Nat) (o : Obj), w.heap[k]? = some o → (∀ cs e r, o = .cells cs e r → e ∉ T) → w'.heap[k]? = some o
theorem Chg.refl (T : List TypeId) (w : World) : Chg T w w := ⟨Nat.le_refl _, fun _ _ h _ => h⟩
theorem Chg.trans {T : List TypeId} {a b c : World} (h : Chg T a b) (k : Chg T b c) : Chg T a c :=
  ⟨Nat.le_trans h.size k.size, fun i o hi ho => k.block i o (h.block i o hi ho) ho⟩
theorem Chg.of_below {T : List TypeId} {w w' : World} (h : Below w.heap.size w w') : Chg T w w' :=
  ⟨h.size, fun k o hk _ => by rw [h.block k (Array.getElem?_eq_some_iff.1 hk).1]; exact hk⟩
theorem Chg.setCell {T : List TypeId} {w : World} {p : Addr} {cs : Array Value} {e : TypeId} {r : Nat × Nat} (hp : w.heap[p.block]? = some (.cells cs e r)) (he : e ∈ T) (u : Value) : Chg T w (w.setCell p u) :=
  ⟨by simp [World.setCell], fun k o hk ho => by
    rw [Below.heap_setCell _ _ _ _ (fun hh => by
      subst hh
      rw [hp] at hk
      simp only [Option.some.injEq] at hk
      exact ho _ _ _ hk.symm he)]; exact hk⟩
theorem Chg.grown {T : List TypeId} {w w' : World} {base e sz n : Nat} {v : Value} {xs : List Value} (hown : w.ownsRow base e sz v n xs) (hg : w.grownBy w' v.ownBlock) (he : e ∈ T) : Chg T w w' :=
  ⟨hg.size, fun k o hk ho => by
    rw [hg.block k (Array.getElem?_eq_some_iff.1 hk).1 (fun hh => by
      obtain ⟨_, h⟩ := hown
      rcases h with ⟨rfl, _⟩ | ⟨g, cap, cur, rfl, _, hh', _⟩
      · simp [Value.ownBlock] at hh
      · simp only [Value.ownBlock, Option.some.injEq] at hh
        subst hh
        rw [hh'] at hk
        simp only [Option.some.injEq] at hk
        exact ho _ _ _ hk.symm he)]; exact hk⟩
theorem Chg.drew {T : List TypeId} {a w : World} (h : Chg T a w) : Chg T a w.drew := ⟨h.size, h.block⟩
theorem Chg.drewN {T : List TypeId} {a w : World} (n : Nat) (h : Chg T a w) : Chg T a (w.drewN n) := ⟨h.size, h.block⟩
theorem Chg.alloc {T : List TypeId} {a w : World} (h : Chg T a w) (o : Obj) : Chg T a (w.alloc o) :=
  h.trans (Chg.of_below ((Below.refl _ _).alloc (Nat.le_refl _) o))
theorem Chg.mono {T U : List TypeId} {a w : World} (h : Chg T a w) (hs : ∀ e ∈ T, e ∈ U) : Chg U a w :=
  ⟨h.size, fun k o hk ho => h.block k o hk fun cs e r hh hm => ho cs e r hh (hs e hm)⟩
/-- 'Has', and the cells lie in a block of type e. -/
def HasT (w : World) (e : TypeId) (sz : Nat) (v : Value) (n : Nat) (xs : List Value) : Prop :=
  Has w sz v n xs ∧ ∀ b off n' cap, v = .slice (some ⟨b, off, none⟩) n' cap → ∃ cs r, w.heap[b]? = some (.cells cs e r)
section
variable {w w' : World} {e : TypeId} {sz n : Nat} {v : Value} {xs : List Value}
theorem HasT.has (h : HasT w e sz v n xs) : Has w sz v n xs := h.1
theorem HasT.below (h : HasT w e sz v n xs) (hb : Below w.heap.size w w') : HasT w' e sz v n xs :=
  ⟨h.1.below hb, fun b off n' cap hv => by
    obtain ⟨cs, r, hh⟩ := h.2 b off n' cap hv
    exact ⟨cs, r, by rw [hb.block b (Array.getElem?_eq_some_iff.1 hh).1]; exact hh⟩⟩
theorem HasT.chg {T : List TypeId} (h : HasT w e sz v n xs) (hc : Chg T w w') (he : e ∉ T) : HasT w' e sz v n xs := by
  obtain ⟨⟨hl, a, cap, rfl, h1, h2, h3⟩, ht⟩ := h
  have hblk : ∀ b off n' cap', Value.slice a n cap = .slice (some ⟨b, off, none⟩) n' cap' → ∃ cs r, w.heap[b]? = some (.cells cs e r) ∧ w'.heap[b]? = some (.cells cs e r) := fun b off n' cap' hv => by
    obtain ⟨cs, r, hh⟩ := ht b off n' cap' hv
    exact ⟨cs, r, hh, hc.block _ _ hh fun cs' e' r' heq => by
      simp only [Obj.cells.injEq] at heq
      obtain ⟨-, rfl, -⟩ := heq
      exact he⟩
  refine ⟨⟨hl, a, cap, rfl, h1, h2, fun hp => ?_⟩, fun b off n' cap' hv => ?_⟩
  · obtain ⟨b, off, rfl, hcc⟩ := h3 hp
    refine ⟨b, off, rfl, fun j u hu => ?_⟩
    obtain ⟨cs, r, q1, q2⟩ := hblk b off n cap rfl
    rw [World.cell?_of_block (w := w) (a := ⟨b, off + j, none⟩) (by rw [q2, q1])]
    exact hcc j u hu
  · obtain ⟨cs, r, q1, q2⟩ := hblk b off n' cap' hv
    exact ⟨cs, r, q2⟩
theorem HasT.of_owns {base : Nat} (h : w.ownsRow base e sz v n xs) : HasT w e sz v n xs :=
  ⟨Has.of_owns h, fun b off n' cap hv => by
    obtain ⟨_, h⟩ := h
    rcases h with ⟨rfl, _⟩ | ⟨g, cap', cur, rfl, _, hh, _⟩
    · simp at hv
    · simp only [Value.slice.injEq, Option.some.injEq, Addr.mk.injEq] at hv
      obtain ⟨⟨rfl, -⟩, -⟩ := hv
      exact ⟨cur, _, hh⟩⟩
end
/-- An owned row is kept where only blocks of other types change. -/
theorem owns_chg {T : List TypeId} {w w' : World} {base e sz n : Nat} {v : Value} {xs : List Value} (hown : w.ownsRow base e sz v n xs) (hc : Chg T w w') (he : e ∉ T) : w'.ownsRow base e sz v n xs := by
  obtain ⟨hl, h⟩ := hown
  refine ⟨hl, ?_⟩
  rcases h with h | ⟨g, cap, cur, rfl, hg, hh, hn, hm, hs, ht⟩
  · exact .inl h
  · refine .inr ⟨g, cap, cur, rfl, hg, hc.block _ _ hh (fun cs e' r heq => by
      simp only [Obj.cells.injEq] at heq
      obtain ⟨-, rfl, -⟩ := heq
      exact he), hn, hm, hs, ht⟩

/-- Each value stands for its datum. -/
def Each {α : Type} (R : Value → α → Prop) (vs : List Value) (ds : List α) : Prop := vs.length = ds.length ∧ ∀ (i : Nat) (v : Value) (a : α), vs[i]? = some v → ds[i]? = some a → R v a
section
variable {α : Type} {R S : Value → α → Prop} {vs : List Value} {ds : List α}
theorem Each.nil (R : Value → α → Prop) : Each R [] [] := ⟨rfl, fun i v a h => by simp at h⟩
theorem Each.mono (h : Each R vs ds) (hi : ∀ v a, a ∈ ds → R v a → S v a) : Each S vs ds := ⟨h.1, fun i v a hv ha => hi v a (List.mem_of_getElem? ha) (h.2 i v a hv ha)⟩
theorem Each.snoc (h : Each R vs ds) {v : Value} {a : α} (hr : R v a) : Each R (vs ++ [v]) (ds ++ [a]) := by
  refine ⟨by simp [h.1], fun i v' a' hv ha => ?_⟩
  rcases Nat.lt_trichotomy i vs.length with hlt | rfl | hgt
  · rw [List.getElem?_append_left hlt] at hv
    rw [List.getElem?_append_left (by rw [← h.1]; exact hlt)] at ha
    exact h.2 i v' a' hv ha
  · rw [List.getElem?_append_right (Nat.le_refl _)] at hv
    rw [List.getElem?_append_right (by rw [h.1]; exact Nat.le_refl _), h.1] at ha
    simp at hv ha
    subst hv; subst ha; exact hr
  · rw [List.getElem?_eq_none (by simp; omega)] at hv; cases hv
theorem Each.set (h : Each R vs ds) (i : Nat) {v : Value} {a : α} (hr : R v a) : Each R (vs.set i v) (ds.set i a) := by
  refine ⟨by simp [h.1], fun j v' a' hv ha => ?_⟩
  rw [List.getElem?_set] at hv ha
  by_cases e : i = j
  · subst e
    rw [if_pos rfl] at hv ha
    split at hv
    · split at ha
      · simp at hv ha; subst hv; subst ha; exact hr
      · cases ha
    · cases hv
  · rw [if_neg e] at hv ha; exact h.2 j v' a' hv ha
theorem Each.get (h : Each R vs ds) (i : Nat) (hi : i < ds.length) : ∃ v, vs[i]? = some v ∧ R v ds[i] :=
  have hv : i < vs.length := by rw [h.1]; exact hi
  ⟨vs[i], List.getElem?_eq_getElem hv, h.2 i _ _ (List.getElem?_eq_getElem hv) (List.getElem?_eq_getElem hi)⟩
theorem Each.replicate (n : Nat) {v : Value} {a : α} (hr : R v a) : Each R (List.replicate n v) (List.replicate n a) :=
  ⟨by simp, fun i v' a' hv ha => by
    rw [List.getElem?_replicate] at hv ha
    split at hv
    · rw [if_pos (by assumption)] at ha; simp at hv ha; subst hv; subst ha; exact hr
    · cases hv⟩
end
-- rows of records: f gives the cells of one record, m of them
section
variable {α : Type} (f : α → List Value) (m : Nat) (hf : ∀ a, (f a).length = m)
include hf
theorem flat_length (l : List α) : (l.flatMap f).length = l.length * m := by
  induction l with
  | nil => simp
  | cons a t ih => simp only [List.flatMap_cons, List.length_append, hf, ih, List.length_cons, Nat.succ_mul]; omega
theorem flat_get : ∀ (l : List α) (k : Nat) (hk : k < l.length) (j : Nat), j < m → (l.flatMap f)[k * m + j]? = (f l[k])[j]?
  | a :: t, 0, _, j, hj => by
    rw [List.flatMap_cons, List.getElem?_append_left (by rw [hf]; omega)]
    simp
  | a :: t, k + 1, hk, j, hj => by
    rw [List.flatMap_cons, List.getElem?_append_right (by rw [hf, Nat.succ_mul]; omega), hf]
    have ih := flat_get t k (by simpa using hk) j hj
    rw [show (k + 1) * m + j - m = k * m + j by rw [Nat.succ_mul]; omega, ih]
    simp
end
theorem flat_snoc {α : Type} (f : α → List Value) (l : List α) (a : α) : l.flatMap f ++ f a = (l ++ [a]).flatMap f := by simp
/-- A list read over by a state. -/
theorem foldl_take {α β : Type} (f : β → α → β) (b : β) (l : List α) (k : Nat) (h : k < l.length) : (l.take (k + 1)).foldl f b = f ((l.take k).foldl f b) l[k] := by
  rw [take_snoc _ _ h, List.foldl_append]; rfl
theorem owns_base {w : World} {b b' : Nat} {e : TypeId} {sz n : Nat} {v : Value} {xs : List Value} (h : w.ownsRow b e sz v n xs) (hb : b' ≤ b) : w.ownsRow b' e sz v n xs := by
  obtain ⟨hl, h⟩ := h
  refine ⟨hl, ?_⟩
  rcases h with h | ⟨g, cap, cur, rfl, hg, r⟩
  · exact .inl h
  · exact .inr ⟨g, cap, cur, rfl, Nat.le_trans hb hg, r⟩
end Go.Proofs.Ytkodpijedinanaa

namespace Go.Proofs.Ytkodpijedinanaa
open Go.ChangeShapes Go.WideShapes Go.ChangeAt Go.RowKit
set_option linter.unusedVariables false

/-- A store into a row of the call's own. -/
theorem owns_set {w : World} {base e n cap : Nat} {g : Nat} {xs : List Value} (h : w.ownsRow base e 1 (.slice (some ⟨g, 0, none⟩) n cap) n xs) (i : Nat) (u : Value) :
    (w.setCell ⟨g, i, none⟩ u).ownsRow base e 1 (.slice (some ⟨g, 0, none⟩) n cap) n (xs.set i u) := by
  obtain ⟨hl, h⟩ := h
  refine ⟨by simpa using hl, ?_⟩
  rcases h with ⟨h, _⟩ | ⟨g', cap', cur, he, hg, hh, hn, hm, hs, ht⟩
  · simp at h
  · simp only [Value.slice.injEq, Option.some.injEq, Addr.mk.injEq, and_true, true_and] at he
    obtain ⟨rfl, rfl⟩ := he
    refine .inr ⟨g, cap, cur.setIfInBounds i u, rfl, hg, heap_setCell_same _ _ _ _ _ _ hh, hn, hm, by simpa using hs, ?_⟩
    rw [Array.toList_setIfInBounds, List.take_set, ht]
theorem owns_set_other {w : World} {base e sz n g : Nat} {v : Value} {xs : List Value} (h : w.ownsRow base e sz v n xs) (hg : g < base) (i : Nat) (u : Value) : (w.setCell ⟨g, i, none⟩ u).ownsRow base e sz v n xs :=
  ownsRow_setCell_below h (a := ⟨g, i, none⟩) hg u
theorem ints_set (ws : List Int) (i : Nat) (z : Int) : (ints ws).set i (.int .i64 z) = ints (ws.set i z) := by simp [ints, List.map_set]
/-- A row that holds something: its value, written out. -/
theorem owns_some {w : World} {base e sz n : Nat} {v : Value} {xs : List Value} (h : w.ownsRow base e sz v n xs) (hn : 0 < n) : ∃ g cap, v = .slice (some ⟨g, 0, none⟩) n cap ∧ base ≤ g ∧ g < w.heap.size ∧ (∀ j, w.frozen? ⟨g, j, none⟩ = false) ∧ ∀ j u, xs[j]? = some u → w.cell? ⟨g, j, none⟩ = some u := by
  obtain ⟨hl, h⟩ := h
  rcases h with ⟨_, h⟩ | ⟨g, cap, cur, rfl, hg, hh, hn', hm, hs, ht⟩
  · omega
  · refine ⟨g, cap, rfl, hg, (Array.getElem?_eq_some_iff.1 hh).1, fun j => by simp [World.frozen?, hh], fun j u hu => ?_⟩
    rw [cell_of_row w g j _ _ _ hh]
    rw [← ht, List.getElem?_take] at hu
    split at hu
    · simpa using hu
    · cases hu
end Go.Proofs.Ytkodpijedinanaa

namespace Go.Proofs.Ytkodpijedinanaa
open Go.ChangeShapes Go.WideShapes Go.ChangeAt Go.RowKit
set_option linter.unusedVariables false
set_option linter.unusedSimpArgs false

/-- Of the blocks of cells that were there only those of a type in T may have changed. -/
structure Chc (T : List TypeId) (w w' : World) : Prop where
  size : w.heap.size ≤ w'.heap.size
  block : ∀ (k : Nat) (cs : Array Value) (e : TypeId) (r : Nat × Nat), w.heap[k]? = some (.cells cs e r) → e ∉ T → w'.heap[k]? = some (.cells cs e r)
theorem Chc.refl (T : List TypeId) (w : World) : Chc T w w := ⟨Nat.le_refl _, fun _ _ _ _ h _ => h⟩
theorem Chc.trans {T : List TypeId} {a b c : World} (h : Chc T a b) (k : Chc T b c) : Chc T a c :=
  ⟨Nat.le_trans h.size k.size, fun i cs e r hi he => k.block i cs e r (h.block i cs e r hi he) he⟩
theorem Chc.of_below {T : List TypeId} {w w' : World} (h : Below w.heap.size w w') : Chc T w w' :=
  ⟨h.size, fun k cs e r hk _ => by rw [h.block k (Array.getElem?_eq_some_iff.1 hk).1]; exact hk⟩
theorem Chc.of_chg {T : List TypeId} {w w' : World} (h : Chg T w w') : Chc T w w' :=
  ⟨h.size, fun k cs e r hk he => h.block k _ hk fun cs' e' r' heq => by
    simp only [Obj.cells.injEq] at heq
    obtain ⟨-, rfl, -⟩ := heq
    exact he⟩
theorem Chc.mono {T U : List TypeId} {a w : World} (h : Chc T a w) (hs : ∀ e ∈ T, e ∈ U) : Chc U a w :=
  ⟨h.size, fun k cs e r hk he => h.block k cs e r hk fun hm => he (hs e hm)⟩
theorem Chc.setCell {T : List TypeId} {w : World} {p : Addr} {cs : Array Value} {e : TypeId} {r : Nat × Nat} (hp : w.heap[p.block]? = some (.cells cs e r)) (he : e ∈ T) (u : Value) : Chc T w (w.setCell p u) := .of_chg (.setCell hp he u)
theorem Chc.grown {T : List TypeId} {w w' : World} {base e sz n : Nat} {v : Value} {xs : List Value} (hown : w.ownsRow base e sz v n xs) (hg : w.grownBy w' v.ownBlock) (he : e ∈ T) : Chc T w w' := .of_chg (.grown hown hg he)
/-- A map is written. -/
theorem Chc.map {T : List TypeId} {w w' : World} {b : Nat} {es : Array MapEntry} {c : Nat} (hb : w.heap[b]? = some (.map es c)) (hg : w.grownBy w' (some b)) : Chc T w w' :=
  ⟨hg.size, fun k cs e r hk he => by
    rw [hg.block k (Array.getElem?_eq_some_iff.1 hk).1 (fun hh => by
      simp only [Option.some.injEq] at hh
      subst hh
      rw [hb] at hk; cases hk)]; exact hk⟩
theorem Chc.drew {T : List TypeId} {a w : World} (h : Chc T a w) : Chc T a w.drew := ⟨h.size, h.block⟩
theorem Chc.drewN {T : List TypeId} {a w : World} (n : Nat) (h : Chc T a w) : Chc T a (w.drewN n) := ⟨h.size, h.block⟩
theorem Chc.alloc {T : List TypeId} {a w : World} (h : Chc T a w) (o : Obj) : Chc T a (w.alloc o) :=
  h.trans (.of_below ((Below.refl _ _).alloc (Nat.le_refl _) o))
theorem Chc.cell {T : List TypeId} {w w' : World} (hc : Chc T w w') {b o : Nat} {u : Value} {cs : Array Value} {e : TypeId} {r : Nat × Nat} (hb : w.heap[b]? = some (.cells cs e r)) (he : e ∉ T) (h : w.cell? ⟨b, o, none⟩ = some u) : w'.cell? ⟨b, o, none⟩ = some u := by
  rw [World.cell?_of_block (w := w) (a := ⟨b, o, none⟩) (by rw [hb]; exact hc.block _ _ _ _ hb he)]
  exact h
section
variable {w w' : World} {e : TypeId} {sz n : Nat} {v : Value} {xs : List Value}
theorem HasT.chc {T : List TypeId} (h : HasT w e sz v n xs) (hc : Chc T w w') (he : e ∉ T) : HasT w' e sz v n xs := by
  obtain ⟨⟨hl, a, cap, rfl, h1, h2, h3⟩, ht⟩ := h
  have hblk : ∀ b off n' cap', Value.slice a n cap = .slice (some ⟨b, off, none⟩) n' cap' → ∃ cs r, w.heap[b]? = some (.cells cs e r) ∧ w'.heap[b]? = some (.cells cs e r) := fun b off n' cap' hv => by
    obtain ⟨cs, r, hh⟩ := ht b off n' cap' hv
    exact ⟨cs, r, hh, hc.block _ _ _ _ hh he⟩
  refine ⟨⟨hl, a, cap, rfl, h1, h2, fun hp => ?_⟩, fun b off n' cap' hv => ?_⟩
  · obtain ⟨b, off, rfl, hcc⟩ := h3 hp
    refine ⟨b, off, rfl, fun j u hu => ?_⟩
    obtain ⟨cs, r, q1, q2⟩ := hblk b off n cap rfl
    rw [World.cell?_of_block (w := w) (a := ⟨b, off + j, none⟩) (by rw [q2, q1])]
    exact hcc j u hu
  · obtain ⟨cs, r, q1, q2⟩ := hblk b off n' cap' hv
    exact ⟨cs, r, q2⟩
end
theorem owns_chc {T : List TypeId} {w w' : World} {base e sz n : Nat} {v : Value} {xs : List Value} (hown : w.ownsRow base e sz v n xs) (hc : Chc T w w') (he : e ∉ T) : w'.ownsRow base e sz v n xs := by
  obtain ⟨hl, h⟩ := hown
  refine ⟨hl, ?_⟩
  rcases h with h | ⟨g, cap, cur, rfl, hg, hh, hn, hm, hs, ht⟩
  · exact .inl h
  · exact .inr ⟨g, cap, cur, rfl, hg, hc.block _ _ _ _ hh he, hn, hm, hs, ht⟩
/-- Two lists, related place by place. -/
def Both {α β : Type} (R : α → β → Prop) (l : List α) (m : List β) : Prop := l.length = m.length ∧ ∀ (i : Nat) (a : α) (b : β), l[i]? = some a → m[i]? = some b → R a b
section
variable {α β : Type} {R S : α → β → Prop} {l : List α} {m : List β}
theorem Both.nil (R : α → β → Prop) : Both R [] [] := ⟨rfl, fun i a b h => by simp at h⟩
theorem Both.mono (h : Both R l m) (hi : ∀ a b, a ∈ l → b ∈ m → R a b → S a b) : Both S l m := ⟨h.1, fun i a b ha hb => hi a b (List.mem_of_getElem? ha) (List.mem_of_getElem? hb) (h.2 i a b ha hb)⟩
theorem Both.snoc (h : Both R l m) {a : α} {b : β} (hr : R a b) : Both R (l ++ [a]) (m ++ [b]) := by
  refine ⟨by simp [h.1], fun i v' a' hv ha => ?_⟩
  rcases Nat.lt_trichotomy i l.length with hlt | rfl | hgt
  · rw [List.getElem?_append_left hlt] at hv
    rw [List.getElem?_append_left (by rw [← h.1]; exact hlt)] at ha
    exact h.2 i v' a' hv ha
  · rw [List.getElem?_append_right (Nat.le_refl _)] at hv
    rw [List.getElem?_append_right (by rw [h.1]; exact Nat.le_refl _), h.1] at ha
    simp at hv ha
    subst hv; subst ha; exact hr
  · rw [List.getElem?_eq_none (by simp; omega)] at hv; cases hv
theorem Both.get (h : Both R l m) (i : Nat) (hi : i < m.length) : ∃ a, l[i]? = some a ∧ R a m[i] :=
  have hv : i < l.length := by rw [h.1]; exact hi
  ⟨l[i], List.getElem?_eq_getElem hv, h.2 i _ _ (List.getElem?_eq_getElem hv) (List.getElem?_eq_getElem hi)⟩
theorem Both.get' (h : Both R l m) (i : Nat) (hi : i < l.length) : ∃ b, m[i]? = some b ∧ R l[i] b :=
  have hv : i < m.length := by rw [← h.1]; exact hi
  ⟨m[i], List.getElem?_eq_getElem hv, h.2 i _ _ (List.getElem?_eq_getElem hi) (List.getElem?_eq_getElem hv)⟩
end
end Go.Proofs.Ytkodpijedinanaa

namespace Go.Proofs.Ytkodpijedinanaa
open Go.ChangeShapes Go.WideShapes Go.ChangeAt Go.RowKit
set_option linter.unusedVariables false
set_option linter.unusedSimpArgs false

theorem set_split {α : Type} (l : List α) (i : Nat) (x : α) (hi : i < l.length) : l.set i x = l.take i ++ [x] ++ l.drop (i + 1) := by
  rw [List.set_eq_take_append_cons_drop, if_pos hi]; simp
section
variable {w : World}
theorem heap_setCells (g : Nat) (e : TypeId) : ∀ (vs : List Value) (o : Nat) (cur : Array Value) (w : World), w.heap[g]? = some (.cells cur e (0, 0)) → o + vs.length ≤ cur.size →
    (w.setCells g o vs).heap[g]? = some (.cells (cur.toList.take o ++ vs ++ cur.toList.drop (o + vs.length)).toArray e (0, 0))
  | [], o, cur, w, h, hl => by simpa [World.setCells] using h
  | v :: vs, o, cur, w, h, hl => by
    simp only [List.length_cons] at hl
    have h1 := heap_setCell_same w g o cur e v h
    have h2 := heap_setCells g e vs (o + 1) _ _ h1 (by simp; omega)
    show ((w.setCell ⟨g, o, none⟩ v).setCells g (o + 1) vs).heap[g]? = _
    rw [h2]
    have e1 : (cur.toList.take o ++ [v]).length = o + 1 := by simp; omega
    have e2 : (cur.setIfInBounds o v).toList = cur.toList.take o ++ [v] ++ cur.toList.drop (o + 1) := by rw [Array.toList_setIfInBounds, set_split _ _ _ (by simp; omega)]
    have e3 : (cur.setIfInBounds o v).toList.take (o + 1) = cur.toList.take o ++ [v] := by
      rw [e2, List.take_append_of_le_length (by rw [e1]; exact Nat.le_refl _), List.take_of_length_le (by rw [e1]; exact Nat.le_refl _)]
    have e4 : (cur.setIfInBounds o v).toList.drop (o + 1 + vs.length) = cur.toList.drop (o + (v :: vs).length) := by
      rw [e2, List.drop_append, List.drop_of_length_le (by rw [e1]; omega), List.nil_append, e1, List.drop_drop]
      congr 1
      simp only [List.length_cons]; omega
    rw [e3, e4]
    simp
theorem take_mid {α : Type} (A vs : List α) (o N : Nat) (h : o + vs.length ≤ N) (hN : N ≤ A.length) : (A.take o ++ vs ++ A.drop (o + vs.length)).take N = (A.take N).take o ++ vs ++ (A.take N).drop (o + vs.length) := by
  have e1 : (A.take o ++ vs).length = o + vs.length := by simp; omega
  rw [List.take_append, e1, List.take_of_length_le (by rw [e1]; exact h), List.take_take, Nat.min_eq_left (by omega), List.drop_take]
/-- Cells of an owned row are written. -/
theorem owns_write {base e sz n g cap : Nat} {xs : List Value} (h : w.ownsRow base e sz (.slice (some ⟨g, 0, none⟩) n cap) n xs) (o : Nat) (vs : List Value) (ho : o + vs.length ≤ n * sz) :
    (w.setCells g o vs).ownsRow base e sz (.slice (some ⟨g, 0, none⟩) n cap) n (xs.take o ++ vs ++ xs.drop (o + vs.length)) := by
  obtain ⟨hl, h⟩ := h
  refine ⟨by simp; omega, ?_⟩
  rcases h with ⟨h, _⟩ | ⟨g', cap', cur, he, hg, hh, hn, hm, hs, ht⟩
  · cases h
  · simp only [Value.slice.injEq, Option.some.injEq, Addr.mk.injEq, and_true, true_and] at he
    obtain ⟨rfl, rfl⟩ := he
    have hcap : n * sz ≤ cap * sz := Nat.mul_le_mul_right _ hn
    refine .inr ⟨g, cap, _, rfl, hg, heap_setCells g e vs o cur w hh (by omega), hn, hm, by simp; omega, ?_⟩
    rw [List.toList_toArray, take_mid _ _ _ _ ho (by simp; omega), ht]
theorem owns_cut {base e sz n m g cap : Nat} {xs : List Value} (h : w.ownsRow base e sz (.slice (some ⟨g, 0, none⟩) n cap) n xs) (hm' : m ≤ n) :
    w.ownsRow base e sz (.slice (some ⟨g, 0, none⟩) m cap) m (xs.take (m * sz)) := by
  obtain ⟨hl, h⟩ := h
  have hms : m * sz ≤ n * sz := Nat.mul_le_mul_right _ hm'
  refine ⟨by simp; omega, ?_⟩
  rcases h with ⟨h, _⟩ | ⟨g', cap', cur, he, hg, hh, hn, hm, hs, ht⟩
  · cases h
  · simp only [Value.slice.injEq, Option.some.injEq, Addr.mk.injEq, and_true, true_and] at he
    obtain ⟨rfl, rfl⟩ := he
    exact .inr ⟨g, cap, cur, rfl, hg, hh, by omega, hm, hs, by rw [← ht, List.take_take, Nat.min_eq_left hms]⟩
theorem Chc.setCells {T : List TypeId} {g : Nat} {e : TypeId} (he : e ∈ T) : ∀ (vs : List Value) (o : Nat) (w : World) (cs : Array Value), w.heap[g]? = some (.cells cs e (0, 0)) → Chc T w (w.setCells g o vs)
  | [], o, w, cs, h => Chc.refl _ _
  | v :: vs, o, w, cs, h => (Chc.setCell (p := ⟨g, o, none⟩) h he v).trans (Chc.setCells he vs (o + 1) _ _ (heap_setCell_same w g o cs e v h))
theorem below_cells {B g : Nat} {a : World} (hb : B ≤ g) : ∀ (vs : List Value) (o : Nat) (w : World), Below B a w → Below B a (w.setCells g o vs)
  | [], o, w, h => h
  | v :: vs, o, w, h => below_cells hb vs (o + 1) _ (h.setCell hb v)
theorem owns_chc_write {base e sz n g cap : Nat} {xs : List Value} (h : w.ownsRow base e sz (.slice (some ⟨g, 0, none⟩) n cap) n xs) (o : Nat) (vs : List Value) : Chc [e] w (w.setCells g o vs) ∧ Below base w (w.setCells g o vs) := by
  obtain ⟨hl, h⟩ := h
  rcases h with ⟨h, _⟩ | ⟨g', cap', cur, he, hg, hh, hn, hm, hs, ht⟩
  · cases h
  · simp only [Value.slice.injEq, Option.some.injEq, Addr.mk.injEq, and_true, true_and] at he
    obtain ⟨rfl, rfl⟩ := he
    exact ⟨Chc.setCells (by simp) vs o w _ hh, below_cells hg vs o w (Below.refl _ _)⟩
/-- A row with room for one more, made longer by what lies there. -/
theorem owns_ext {base e sz n g cap : Nat} {xs : List Value} (h : w.ownsRow base e sz (.slice (some ⟨g, 0, none⟩) n cap) n xs) (hn : n + 1 ≤ cap) :
    ∃ J : List Value, J.length = sz ∧ w.ownsRow base e sz (.slice (some ⟨g, 0, none⟩) (n + 1) cap) (n + 1) (xs ++ J) := by
  obtain ⟨hl, h⟩ := h
  rcases h with ⟨h, _⟩ | ⟨g', cap', cur, he, hg, hh, hn', hm, hs, ht⟩
  · cases h
  · simp only [Value.slice.injEq, Option.some.injEq, Addr.mk.injEq, and_true, true_and] at he
    obtain ⟨rfl, rfl⟩ := he
    have hmul : (n + 1) * sz ≤ cap * sz := Nat.mul_le_mul_right _ hn
    have e1 : (n + 1) * sz = n * sz + sz := Nat.succ_mul n sz
    have hJ : ((cur.toList.drop (n * sz)).take sz).length = sz := by rw [List.length_take, List.length_drop, Array.length_toList]; omega
    refine ⟨(cur.toList.drop (n * sz)).take sz, hJ, by rw [List.length_append, hJ, hl]; omega, .inr ⟨g, cap, cur, rfl, hg, hh, hn, hm, hs, ?_⟩⟩
    rw [← ht, e1, List.take_add]
/-- The cells of an owned row. -/
theorem owns_cells {base e sz n g cap : Nat} {xs : List Value} (h : w.ownsRow base e sz (.slice (some ⟨g, 0, none⟩) n cap) n xs) : (∀ j u, xs[j]? = some u → w.cell? ⟨g, j, none⟩ = some u) ∧ (∀ j, w.frozen? ⟨g, j, none⟩ = false) ∧ ∃ cur, w.heap[g]? = some (.cells cur e (0, 0)) ∧ cur.size = cap * sz ∧ base ≤ g ∧ n ≤ cap ∧ cap ≤ maxLen := by
  obtain ⟨hl, h⟩ := h
  rcases h with ⟨h, _⟩ | ⟨g', cap', cur, he, hg, hh, hn', hm, hs, ht⟩
  · cases h
  · simp only [Value.slice.injEq, Option.some.injEq, Addr.mk.injEq, and_true, true_and] at he
    obtain ⟨rfl, rfl⟩ := he
    refine ⟨fun j u hu => ?_, fun j => by simp [World.frozen?, hh], cur, hh, hs, hg, hn', hm⟩
    rw [cell_of_row w g j _ _ _ hh]
    rw [← ht, List.getElem?_take] at hu
    split at hu
    · simpa using hu
    · cases hu
end
/-- 'copy' of whole elements. -/
theorem run_copy_n {P : Program} (w : World) (dT sT ty elem : TypeId) (size b o dLen dCap : Nat) (a : Addr) (sLen sCap : Nat) (cs : List Value)
    (hu : P.underlying dT = some (.slice elem)) (hs : (P.info? elem).map (·.size) = some size) (hn : cs.length = Nat.min sLen dLen * size)
    (hsrc : ∀ j v, cs[j]? = some v → w.cell? (a.add j) = some v) (hc : ∀ j, j < cs.length → (w.cell? ⟨b, o + j, none⟩).isSome = true) (hf : ∀ j, j < cs.length → w.frozen? ⟨b, o + j, none⟩ = false) (h1 : ∀ v ∈ cs, v.oneCell' = true) :
    (Builtin.copy_ #[dT, sT] ty #[.slice (some ⟨b, o, none⟩) dLen dCap, .slice (some a) sLen sCap]).run P w = .ok (goInt (Nat.min sLen dLen)) (w.setCells b o cs) := by
  have hl := run_loadCells_list (P := P) w a cs hsrc
  have hst := run_storeCells_cells (P := P) b o cs 0 w (by simpa using hc) (by simpa using hf) h1
  cases hq : P.info? elem with
  | none => simp [hq] at hs
  | some i =>
    have hi : i.size = size := by simpa [hq] using hs
    rw [hn] at hl
    simp [Builtin.copy_, run_underlying hu, Builtin.lenOf, Builtin.firstCells, sizeOf, typeInfo, hq, hi, hl, hst]
section
variable {P : Program}
/-- 'copy' in a walk, its run being known. -/
theorem wp_copy_n (w : World) {o : Oper} {a : Act} {K : Act → World → Prop} {Q : Exit → Act → World → Prop} (d s : Operand) (t t' : TypeId)
    (ho : o.op = .call { callee := .builtin .copy, args := #[d, s], argTypes := #[t, t'] }) (v u : Value) (hd : a.eval d = v) (hs : a.eval s = u) {v' : Value} {w' : World}
    (hr : (Builtin.copy_ #[t, t'] o.type #[v, u]).run P w = .ok v' w') (h : K (a.put o.dst v') w') : o.wp P a w K Q := by
  unfold Oper.wp execOp
  simp only [ho, resolve, invoke, builtin, Sem.run_bind, Sem.run_pure, Result.andThen_ok, List.map_toArray, List.map_cons, List.map_nil, hd, hs, hr]
  exact h
theorem wpList_copy_n (w : World) {ops : Array Oper} {rest : List Oper} {o : Oper} {a : Act} {Q : Exit → Act → World → Prop} (hgd : o.guard = none) (d s : Operand) (t t' : TypeId)
    (ho : o.op = .call { callee := .builtin .copy, args := #[d, s], argTypes := #[t, t'] }) (v u : Value) (hd : a.eval d = v) (hs : a.eval s = u) {v' : Value} {w' : World}
    (hr : (Builtin.copy_ #[t, t'] o.type #[v, u]).run P w = .ok v' w') (h : wpList P ops Q rest (a.put o.dst v') w') : wpList P ops Q (o :: rest) a w :=
  wpList_plain hgd fun _ hK => wp_copy_n w d s t t' ho v u hd hs hr (hK _ _ h)
theorem step_copy_n {ops : Array Oper} {o : Oper} {a : Act} {w : World} {K : Act → World → Prop} {Q : Exit → Act → World → Prop} {E : Prop}
    (hg : o.guard = none) (d x : Operand) (dT sT : TypeId) (hop : o.op = Op.call { callee := Callee.builtin Builtin.copy, args := #[d, x], argTypes := #[dT, sT] })
    (v u : Value) (hd : a.eval d = v) (hx : a.eval x = u) {v' : Value} {w' : World} (hr : (Builtin.copy_ #[dT, sT] o.type #[v, u]).run P w = .ok v' w') (hK : K (a.put o.dst v') w') :
    if Region.wanted o (yielded ops a.tmps) = true then Oper.wp P o a w K Q else E := by
  have hw : Region.wanted o (yielded ops a.tmps) = true := by simp [Region.wanted, hg]
  rw [if_pos hw]
  unfold Oper.wp
  simp [execOp, hop, resolve, invoke, builtin, hd, hx, hr, Result.andThen]
  exact hK
/-- 'append' in a walk, its run being known. -/
theorem wpList_append_n (w : World) {ops : Array Oper} {rest : List Oper} {o : Oper} {a : Act} {Q : Exit → Act → World → Prop} (hgd : o.guard = none) (s x : Operand) (t tn : TypeId)
    (ho : o.op = .call { callee := .builtin .append, args := #[s, x], argTypes := #[t, tn] }) (vs vx : Value) (hs : a.eval s = vs) (hx : a.eval x = vx)
    (v' : Value) (w' : World) (hr : (Builtin.append_ #[t, tn] o.type #[vs, vx]).run P w = .ok v' w') (h : wpList P ops Q rest (a.put o.dst v') w') : wpList P ops Q (o :: rest) a w :=
  wpList_plain hgd fun _ hK => by
    have := hK _ _ h
    unfold Oper.wp execOp
    simp only [ho, resolve, invoke, builtin, Sem.run_bind, Sem.run_pure, Result.andThen_ok, List.map_toArray, List.map_cons, List.map_nil, hs, hx, hr]
    exact this
end
end Go.Proofs.Ytkodpijedinanaa
