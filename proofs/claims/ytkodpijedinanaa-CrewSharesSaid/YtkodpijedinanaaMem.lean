/- Slices in memory: 'Has' (a slice reads as these cells), and how it goes on holding. No statement of its own. -/
import Derived.Laws.AppendOwnNone
import Derived.Test.YtkodpijedinanaaKaa
namespace Go.Proofs.Ytkodpijedinanaa
open Go.ChangeShapes Go.WideShapes Go.ChangeAt Go.RowKit
set_option linter.unusedVariables false

/-- v is a slice of n elements of sz cells each; xs are its cells, one behind the other. -/
def NilOk (v : Value) : Prop := ∀ n cap, v = .slice none n cap → n = 0 ∧ cap = 0
def Has (w : World) (sz : Nat) (v : Value) (n : Nat) (xs : List Value) : Prop :=
  (xs.length = n * sz ∧ NilOk v) ∧ ∃ a cap, v = .slice a n cap ∧ n ≤ cap ∧ cap ≤ maxLen ∧ (0 < xs.length → ∃ b off, a = some ⟨b, off, none⟩ ∧ ∀ j u, xs[j]? = some u → w.cell? ⟨b, off + j, none⟩ = some u)
section
variable {w w' : World} {sz n : Nat} {v : Value} {xs : List Value}
theorem Has.same (h : Has w sz v n xs) (hs : ∀ b o, b < w.heap.size → w'.cell? ⟨b, o, none⟩ = w.cell? ⟨b, o, none⟩) : Has w' sz v n xs := by
  obtain ⟨hl, a, cap, rfl, h1, h2, h3⟩ := h
  refine ⟨hl, a, cap, rfl, h1, h2, fun hp => ?_⟩
  obtain ⟨b, off, rfl, hc⟩ := h3 hp
  refine ⟨b, off, rfl, fun j u hu => ?_⟩
  have := hc j u hu
  rw [hs _ _ (World.block_lt_of_cell? w _ this)]; exact this
theorem Has.below (h : Has w sz v n xs) (hb : Below w.heap.size w w') : Has w' sz v n xs :=
  h.same fun b o hlt => hb.cell (p := ⟨b, o, none⟩) hlt
theorem Has.le (h : Has w sz v n xs) : n ≤ 140737488351232 ∨ n ≤ maxLen := Or.inr (by obtain ⟨_, a, cap, rfl, h1, h2, h3⟩ := h; omega)
theorem Has.of_owns {base e : Nat} (h : w.ownsRow base e sz v n xs) : Has w sz v n xs := by
  obtain ⟨hl, h⟩ := h
  rcases h with ⟨rfl, rfl⟩ | ⟨g, cap, cur, rfl, hg, hh, hn, hm, hs, ht⟩
  · exact ⟨⟨hl, fun n cap h => by simp only [Value.slice.injEq] at h; exact ⟨h.2.1.symm, h.2.2.symm⟩⟩, none, 0, rfl, Nat.le_refl _, Nat.zero_le _, fun hp => by omega⟩
  · refine ⟨⟨hl, fun n cap h => by simp at h⟩, _, cap, rfl, hn, hm, fun _ => ⟨g, 0, rfl, fun j u hu => ?_⟩⟩
    have := World.ownsRow.cells (w := w) (base := base) (e := e) (size := sz) (v := .slice (some ⟨g, 0, none⟩) n cap) (n := n) (xs := xs) ⟨hl, .inr ⟨g, cap, cur, rfl, hg, hh, hn, hm, hs, ht⟩⟩ (g := g) rfl j u hu
    rw [← this]; congr 1
    unfold Addr.add; split <;> simp_all
end
/-- The cells of a list of integers. -/
def ints (zs : List Int) : List Value := zs.map (Value.int .i64)
@[simp] theorem ints_length (zs : List Int) : (ints zs).length = zs.length := by simp [ints]
theorem ints_get (zs : List Int) (j : Nat) (h : j < zs.length) : (ints zs)[j]? = some (.int .i64 zs[j]) := by simp [ints, h]
theorem ints_snoc (zs : List Int) (z : Int) : ints zs ++ [.int .i64 z] = ints (zs ++ [z]) := by simp [ints]
theorem take_snoc {α : Type} (l : List α) (k : Nat) (h : k < l.length) : l.take (k + 1) = l.take k ++ [l[k]] := by
  rw [List.take_succ_eq_append_getElem h]

/-- What the table of types says of an element's type. -/
def Elem (P : Program) (e : TypeId) (size bytes : Nat) (z : Value) : Prop :=
  ∃ i, P.info? e = some i ∧ i.zero = some z ∧ i.size = size ∧ i.bytes = bytes ∧ z.cells.size = size ∧ 0 < size
theorem Elem.of {P : Program} {e size bytes : Nat} {z : Value} (h : (P.info? e).map (fun i => (i.zero, i.size, i.bytes)) = some (some z, size, bytes)) (hz : z.cells.size = size) (hs : 0 < size) : Elem P e size bytes z := by
  obtain ⟨i, h1, h2, h3, h4⟩ := info_parts h
  exact ⟨i, h1, h2, h3, h4, hz, hs⟩
theorem below_grown {base : Nat} {w w' : World} {v : Value} {e sz n : Nat} {xs : List Value} (hown : w.ownsRow base e sz v n xs) (hg : w.grownBy w' v.ownBlock) (hb : base ≤ w.heap.size) : Below base w w' :=
  (Below.refl _ _).grown hg hb fun k hk => (hown.lt k hk).1
/-- An owned row is kept where nothing that was there has changed. -/
theorem owns_below {w w' : World} {base e sz n : Nat} {v : Value} {xs : List Value} (hown : w.ownsRow base e sz v n xs) (hb : Below w.heap.size w w') : w'.ownsRow base e sz v n xs := by
  obtain ⟨hl, h⟩ := hown
  refine ⟨hl, ?_⟩
  rcases h with h | ⟨g, cap, cur, rfl, hg, hh, hn, hm, hs, ht⟩
  · exact .inl h
  · refine .inr ⟨g, cap, cur, rfl, hg, ?_, hn, hm, hs, ht⟩
    rw [hb.block g (Array.getElem?_eq_some_iff.1 hh).1]; exact hh
theorem heap_drew (w : World) : w.drew.heap = w.heap := rfl
theorem heap_drewN (w : World) (n : Nat) : (w.drewN n).heap = w.heap := rfl
section
variable {P : Program} {ops : Array Oper} {rest : List Oper} {o : Oper} {a : Act} {Q : Exit → Act → World → Prop}
/-- 'xs = append(xs, x)' for a slice of the call's own, behind the making of the one-element array. w0: the world in which the row is known; wx: the world of the append; wp: that ahead of the array. -/
theorem wp_app1 {w0 wx wp : World} (t e : TypeId) (size bytes : Nat) (z : Value) (hE : Elem P e size bytes z) (ht : P.underlying t = some (.slice e)) (base : Nat) (v : Value) (n : Nat) (xs : List Value)
    (hown : w0.ownsRow base e size v n xs) (hX : Below w0.heap.size w0 wx) (news : List Value) (hgd : o.guard = none) (s x : Operand) (ho : o.op = .call { callee := .builtin .append, args := #[s, x], argTypes := #[t, t] })
    (hs : a.eval s = v) {m : Nat} (hx : a.eval x = .slice (some ⟨m, 0, none⟩) 1 1) (hnew : wx.heap[wp.heap.size]? = some (.cells news.toArray e (0, 0))) (hm : m = wp.heap.size) (hl : news.length = size) (h1 : news.all Value.oneCell' = true) (hbytes : (n + 1) * bytes ≤ 140737488355328) (hn : n ≤ 140737488355328) (hbase : base ≤ w0.heap.size)
    (h : ∀ v' w', w'.ownsRow base e size v' (n + 1) (xs ++ news) → w0.grownBy w' v.ownBlock → Below base w0 w' → wpList P ops Q rest (a.put o.dst v') w') :
    wpList P ops Q (o :: rest) a wx := by
  obtain ⟨i, hi, hz0, hz1, hz2, hz3, hz4⟩ := hE
  have hbase' := Nat.le_trans hbase hX.size
  subst hm
  refine wpList_append_own _ hgd s x t ho base e i z size bytes ht hi hz0 hz1 hz2 hz3 hz4 v n xs hs (owns_below hown hX) ⟨wp.heap.size, 0, none⟩ 1 1 news hx (by omega) ?_ (fun u hu => List.all_eq_true.1 h1 u hu) (by unfold maxLen; omega) hbytes (by omega) ?_
  · intro j u hu
    have e1 : (⟨wp.heap.size, 0, none⟩ : Addr).add j = ⟨wp.heap.size, j, none⟩ := by unfold Addr.add; split <;> simp_all
    rw [e1, cell_of_row wx wp.heap.size j news.toArray e (0, 0) hnew]
    simpa using hu
  · intro v' w' h2 h3 _
    have h3' : w0.grownBy w' v.ownBlock := by
      refine ⟨h3.os.trans hX.os, h3.tape.trans hX.tape, h3.output.trans hX.output, Nat.le_trans hX.size h3.size, fun k hk hne => ?_⟩
      have := hX.size
      rw [h3.block k (by omega) hne]
      exact hX.block k hk
    exact h v' w' h2 h3' (below_grown hown h3' hbase)
end
/-- A region that draws its order and whose first n operations only read: one walk of the text's order, the draw written 'drew'. -/
theorem wp_still_tail {P : Program} {id : Nat} {Q : Exit → Act → World → Prop} {a : Act} {w : World} {l : List Oper} (n : Nat) (hm : P.follows .mixedOrders = true) (hB : Region.lexTailB .any l.toArray n = true)
    (h : wpStill P l.toArray w.drew (fun a' => wpList P l.toArray Q (l.drop n) a' w.drew) (l.take n) a) : (Code.region id l.toArray true).wp P Q a w :=
  wp_region_still_tail n hm hB h
theorem same_symm {e : Ending} {v : Value} {w w' : World} (h : e = .returned v ∧ w = w') : e = .returned v ∧ w' = w := ⟨h.1, h.2.symm⟩
/-- Of what was there only blocks in F may have changed. -/
structure Wrote (F : Nat → Prop) (w w' : World) : Prop where
  os : w'.os = w.os
  tape : w'.tape = w.tape
  output : w'.output = w.output
  size : w.heap.size ≤ w'.heap.size
  block : ∀ k, k < w.heap.size → ¬ F k → w'.heap[k]? = w.heap[k]?
theorem Wrote.refl (F : Nat → Prop) (w : World) : Wrote F w w := ⟨rfl, rfl, rfl, Nat.le_refl _, fun _ _ _ => rfl⟩
theorem Wrote.trans {F : Nat → Prop} {a b c : World} (h : Wrote F a b) (k : Wrote F b c) : Wrote F a c :=
  ⟨k.os.trans h.os, k.tape.trans h.tape, k.output.trans h.output, Nat.le_trans h.size k.size, fun i hi hf => (k.block i (Nat.lt_of_lt_of_le hi h.size) hf).trans (h.block i hi hf)⟩
theorem Wrote.mono {F G : Nat → Prop} {a b : World} (h : Wrote F a b) (hFG : ∀ k, k < a.heap.size → F k → G k) : Wrote G a b :=
  ⟨h.os, h.tape, h.output, h.size, fun i hi hf => h.block i hi fun hF => hf (hFG i hi hF)⟩
theorem Wrote.below {F : Nat → Prop} {B : Nat} {a b : World} (h : Wrote F a b) (hB : B ≤ a.heap.size) (hF : ∀ k, F k → B ≤ k) : Below B a b :=
  ⟨h.os, h.tape, h.output, h.size, fun k hk => h.block k (Nat.lt_of_lt_of_le hk hB) fun hf => by have := hF k hf; omega⟩
theorem Wrote.of_below {F : Nat → Prop} {B : Nat} {a b : World} (h : Below B a b) (hF : ∀ k, k < a.heap.size → B ≤ k → F k) : Wrote F a b :=
  ⟨h.os, h.tape, h.output, h.size, fun k hk hf => h.block k (Classical.byContradiction fun hn => hf (hF k hk (by omega)))⟩
theorem Wrote.drew {F : Nat → Prop} {a w : World} (h : Wrote F a w) : Wrote F a w.drew := ⟨h.os, h.tape, h.output, h.size, h.block⟩
theorem Wrote.drewN {F : Nat → Prop} {a w : World} (n : Nat) (h : Wrote F a w) : Wrote F a (w.drewN n) := ⟨h.os, h.tape, h.output, h.size, h.block⟩
theorem Wrote.setCell {F : Nat → Prop} {a w : World} (h : Wrote F a w) {p : Addr} (hp : F p.block) (u : Value) : Wrote F a (w.setCell p u) :=
  h.trans ⟨rfl, rfl, rfl, by simp [World.setCell], fun k hk hf => Below.heap_setCell _ _ _ _ (fun e => hf (e ▸ hp))⟩
theorem Wrote.alloc {F : Nat → Prop} {a w : World} (h : Wrote F a w) (o : Obj) : Wrote F a (w.alloc o) :=
  h.trans ⟨rfl, rfl, rfl, by simp, fun k hk hf => Below.heap_alloc _ _ _ hk⟩
theorem Wrote.cell {F : Nat → Prop} {w w' : World} (h : Wrote F w w') {b o : Nat} {u : Value} (hc : w.cell? ⟨b, o, none⟩ = some u) (hb : ¬ F b) : w'.cell? ⟨b, o, none⟩ = some u := by
  have hlt := World.block_lt_of_cell? w _ hc
  rw [World.cell?_of_block (w := w) (a := ⟨b, o, none⟩) (h.block b hlt hb)]; exact hc
theorem cell_on {w w' : World} (hb : Below w.heap.size w w') {b o : Nat} {u : Value} (h : w.cell? ⟨b, o, none⟩ = some u) : w'.cell? ⟨b, o, none⟩ = some u := by
  rw [hb.cell (p := ⟨b, o, none⟩) (World.block_lt_of_cell? w _ h)]; exact h
theorem block_on {w w' : World} (hb : Below w.heap.size w w') {b o : Nat} {u : Value} (h : w.cell? ⟨b, o, none⟩ = some u) : b < w'.heap.size :=
  Nat.lt_of_lt_of_le (World.block_lt_of_cell? w _ h) hb.size
section openers
variable {H : Type} {enc : TypeId × Value → H} {P : Program} {W : World} {sp : Nat → Bool}
theorem addr_add (a : Addr) (j : Nat) (hs : a.spot = none) : a.add j = ⟨a.block, a.off + j, none⟩ := by
  unfold Addr.add; split
  · next h => subst h; cases a; simp_all
  · simp
/-- A '[]int' argument. -/
theorem open_has_ints {t e : TypeId} {base : Nat} {v : Value} {d : DataW H} {ps : List MemPlace} (ht : P.underlying t = some (.slice e)) (he : P.underlying e = some (.int .i64)) (hc : P.cellsOf e = 1)
    (hval : Value.okWide P W .any base t v) (h : DataW.Trod enc P W 0 sp true t v d ps) : ∃ zs : List Int, Has W 1 v zs.length (ints zs) ∧ (∀ z ∈ zs, -9223372036854775808 ≤ z ∧ z ≤ 9223372036854775807) := by
  obtain ⟨a0, len, cap, rfl⟩ := okWide_slice ht hval
  obtain ⟨fuel, hf⟩ := h
  rcases open_ints ht he hc hf with ⟨hcs, hx⟩ | ⟨a, len', cap', zs, hcs, _, hl, hm, hz, hx, hcell, hwf⟩
  · simp [Value.cells] at hcs
    obtain ⟨rfl, rfl, rfl⟩ := hcs
    exact ⟨[], ⟨⟨by simp, fun n cap h => by simp at h; exact ⟨h.1.symm, h.2.symm⟩⟩, none, 0, rfl, Nat.le_refl _, Nat.zero_le _, fun h => by simp at h⟩, by simp⟩
  · simp [Value.cells] at hcs
    obtain ⟨rfl, rfl, rfl⟩ := hcs
    have hzl : len ≤ zs.length := by rw [hz]; split <;> omega
    refine ⟨zs.take len, ⟨⟨by simp, fun n cap h => by simp at h⟩, some a, cap, by rw [List.length_take, Nat.min_eq_left hzl], by rw [List.length_take]; omega, hm, fun hp => ?_⟩, fun z hz' => wf64_iff.1 (hwf z (List.mem_of_mem_take hz'))⟩
    have hl0 : 0 < zs.length := by simp at hp; omega
    have hsp : a.spot = none := by
      have := hcell 0 hl0
      rw [show a.add 0 = a by simp [Addr.add]] at this
      cases hs : a.spot with
      | none => rfl
      | some s => simp [World.cell?, hs] at this; split at this <;> simp at this
    refine ⟨a.block, a.off, by cases a; simp_all, fun j u hu => ?_⟩
    have hj : j < (zs.take len).length := by have := (List.getElem?_eq_some_iff.1 hu).1; simpa using this
    rw [ints_get _ _ hj] at hu
    have hj' : j < zs.length := by rw [List.length_take] at hj; omega
    have := hcell j hj'
    rw [addr_add _ _ hsp] at this
    rw [this, ← hu]; simp [List.getD_eq_getElem?_getD, hj']
end openers
theorem owns_slice {w : World} {base e sz n : Nat} {v : Value} {xs : List Value} (h : w.ownsRow base e sz v n xs) : ∃ a cap, v = .slice a n cap := by
  obtain ⟨_, a, cap, h, _⟩ := Has.of_owns h
  exact ⟨a, cap, h⟩
section
variable {P : Program} {ops : Array Oper} {rest : List Oper} {o : Oper} {a : Act} {Q : Exit → Act → World → Prop}
/-- 'xs = append(xs, ys...)' for a slice of the call's own and whatever source. -/
theorem wp_appN {w0 wx : World} (t e : TypeId) (size bytes : Nat) (z : Value) (hE : Elem P e size bytes z) (ht : P.underlying t = some (.slice e)) (base : Nat) (v : Value) (n : Nat) (xs : List Value)
    (hown : w0.ownsRow base e size v n xs) (hX : Below w0.heap.size w0 wx) (vx : Value) (m : Nat) (ys : List Value) (hsrc : Has wx size vx m ys) (hgd : o.guard = none) (s x : Operand) (ho : o.op = .call { callee := .builtin .append, args := #[s, x], argTypes := #[t, t] })
    (hs : a.eval s = v) (hx : a.eval x = vx) (h1 : ys.all Value.oneCell' = true) (hbytes : (n + m) * bytes ≤ 140737488355328) (hn : n + m ≤ maxLen) (hbase : base ≤ w0.heap.size)
    (h : ∀ v' w', w'.ownsRow base e size v' (n + m) (xs ++ ys) → w0.grownBy w' v.ownBlock → Below base w0 w' → wpList P ops Q rest (a.put o.dst v') w') :
    wpList P ops Q (o :: rest) a wx := by
  obtain ⟨i, hi, hz0, hz1, hz2, hz3, hz4⟩ := hE
  have hbase' := Nat.le_trans hbase hX.size
  obtain ⟨⟨hl, hnil⟩, ad, cap, rfl, hm1, hm2, hc⟩ := hsrc
  have fin : ∀ w', wx.grownBy w' v.ownBlock → w0.grownBy w' v.ownBlock ∧ Below base w0 w' := fun w' h3 => by
    have h3' : w0.grownBy w' v.ownBlock := by
      refine ⟨h3.os.trans hX.os, h3.tape.trans hX.tape, h3.output.trans hX.output, Nat.le_trans hX.size h3.size, fun k hk hne => ?_⟩
      have := hX.size
      rw [h3.block k (by omega) hne]
      exact hX.block k hk
    exact ⟨h3', below_grown hown h3' hbase⟩
  cases ad with
  | none =>
    obtain ⟨rfl, rfl⟩ := hnil _ _ rfl
    obtain rfl : ys = [] := List.eq_nil_of_length_eq_zero (by simpa using hl)
    have hown' := owns_below hown hX
    obtain ⟨f1, f2⟩ := fin wx ⟨rfl, rfl, rfl, Nat.le_refl _, fun _ _ _ => rfl⟩
    exact wpList_append_own_none hgd s x t ho base e i size ht hi v n xs hs hown' hx (h v wx (by simpa using hown') f1 f2)
  | some ad =>
    refine wpList_append_own _ hgd s x t ho base e i z size bytes ht hi hz0 hz1 hz2 hz3 hz4 v n xs hs (owns_below hown hX) ad m cap ys hx hl ?_ (fun u hu => List.all_eq_true.1 h1 u hu) hn hbytes hbase' ?_
    · intro j u hu
      have hp : 0 < ys.length := by have := (List.getElem?_eq_some_iff.1 hu).1; omega
      obtain ⟨b, off, e1, hcc⟩ := hc hp
      simp only [Option.some.injEq] at e1
      subst e1
      rw [addr_add _ _ rfl]
      exact hcc j u hu
    · intro v' w' h2 h3 _
      obtain ⟨f1, f2⟩ := fin w' h3
      exact h v' w' h2 f1 f2
end
/-- A block that was just made is a row of the call's own. -/
theorem owns_block {wx wp : World} {m n sz base : Nat} {cs : List Value} {e : TypeId} (hnew : wx.heap[wp.heap.size]? = some (.cells cs.toArray e (0, 0))) (hm : m = wp.heap.size) (hl : cs.length = n * sz) (hn : n ≤ maxLen) (hb : base ≤ wp.heap.size) :
    wx.ownsRow base e sz (.slice (some ⟨m, 0, none⟩) n n) n cs := by
  subst hm
  exact ⟨hl, .inr ⟨_, n, _, rfl, hb, hnew, Nat.le_refl _, hn, by simpa using hl, by rw [← hl]; simp⟩⟩
theorem ints_one (zs : List Int) : (ints zs).all Value.oneCell' = true := by
  rw [List.all_eq_true]; intro v hv; obtain ⟨z, _, rfl⟩ := List.mem_map.1 hv; rfl
theorem elInt : Elem Try.prog 3 1 8 (.int .i64 0) := .of (by kernel_rfl) rfl (by decide)
end Go.Proofs.Ytkodpijedinanaa
