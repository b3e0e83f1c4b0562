/- 'append(xs, ys...)' at a step of a region that draws its order. -/
import Derived.Test.YtgmichaconnhaaaMem
import Derived.Deep.AppendLies
import Derived.Deep.DrawnRows
namespace Go.Proofs.Ytgmichaconnhaaa
open Go.ChangeShapes Go.WideShapes Go.ChangeAt Go.RowKit
set_option linter.unusedVariables false

section
variable {P : Program} {ops : Array Oper} {o : Oper} {a : Act} {K : Act → World → Prop} {Q : Exit → Act → World → Prop}
theorem wp_appN_at {w0 wx : World} (t e : TypeId) (size bytes : Nat) (z : Value) (hE : Elem P e size bytes z) (ht : P.underlying t = some (.slice e)) (base : Nat) (v : Value) (n : Nat) (xs : List Value)
    (hown : w0.ownsRow base e size v n xs) (hX : Below w0.heap.size w0 wx) (vx : Value) (m : Nat) (ys : List Value) (hsrc : Has wx size vx m ys) (s x : Operand) (ho : o.op = .call { callee := .builtin .append, args := #[s, x], argTypes := #[t, t] })
    (hs : a.eval s = v) (hx : a.eval x = vx) (h1 : ys.all Value.oneCell' = true) (hbytes : (n + m) * bytes ≤ 140737488355328) (hn : n + m ≤ maxLen) (hbase : base ≤ w0.heap.size)
    (h : ∀ v' w', w'.ownsRow base e size v' (n + m) (xs ++ ys) → w0.grownBy w' v.ownBlock → Below base w0 w' → K (a.put o.dst v') w') : o.wp P a wx K Q := by
  obtain ⟨i, hi, hz0, hz1, hz2, hz3, hz4⟩ := hE
  have hbase' := Nat.le_trans hbase hX.size
  obtain ⟨⟨hl, hnil⟩, ad, cap, rfl, hm1, hm2, hc⟩ := hsrc
  have fin : ∀ w', wx.grownBy w' v.ownBlock → w0.grownBy w' v.ownBlock ∧ Below base w0 w' := fun w' h3 => by
    have h3' : w0.grownBy w' v.ownBlock := by
      refine ⟨h3.os.trans hX.os, h3.tape.trans hX.tape, h3.output.trans hX.output, Nat.le_trans hX.size h3.size, fun k hk hne => ?_⟩
      have := hX.size
      rw [h3.block k (by omega) hne]
      exact hX.block k hk
    exact ⟨h3', below_grown hown h3' hbase⟩
  cases ad with
  | none =>
    obtain ⟨rfl, rfl⟩ := hnil _ _ rfl
    obtain rfl : ys = [] := List.eq_nil_of_length_eq_zero (by simpa using hl)
    have hown' := owns_below hown hX
    obtain ⟨f1, f2⟩ := fin wx ⟨rfl, rfl, rfl, Nat.le_refl _, fun _ _ _ => rfl⟩
    have hrun := run_append_owned_none (P := P) (w := wx) base t o.type e i size ht hi v n xs hown'
    have hk := h v wx (by simpa using hown') f1 f2
    unfold Oper.wp
    simp [execOp, ho, resolve, invoke, builtin, hs, hx, hrun, Result.andThen]
    exact hk
  | some ad =>
    refine wp_append_own wx s x t ho base e i z size bytes ht hi hz0 hz1 hz2 hz3 hz4 v n xs hs (owns_below hown hX) ad m cap ys hx hl ?_ (fun u hu => List.all_eq_true.1 h1 u hu) hn hbytes hbase' ?_
    · intro j u hu
      have hp : 0 < ys.length := by have := (List.getElem?_eq_some_iff.1 hu).1; omega
      obtain ⟨b, off, e1, hcc⟩ := hc hp
      simp only [Option.some.injEq] at e1
      subst e1
      rw [addr_add _ _ rfl]
      exact hcc j u hu
    · intro v' w' h2 h3 _
      obtain ⟨f1, f2⟩ := fin w' h3
      exact h v' w' h2 f1 f2
theorem step_appN {E : Prop} {w0 wx : World} (hw : Region.wanted o (yielded ops a.tmps) = true) (t e : TypeId) (size bytes : Nat) (z : Value) (hE : Elem P e size bytes z) (ht : P.underlying t = some (.slice e)) (base : Nat) (v : Value) (n : Nat) (xs : List Value)
    (hown : w0.ownsRow base e size v n xs) (hX : Below w0.heap.size w0 wx) (vx : Value) (m : Nat) (ys : List Value) (hsrc : Has wx size vx m ys) (s x : Operand) (ho : o.op = .call { callee := .builtin .append, args := #[s, x], argTypes := #[t, t] })
    (hs : a.eval s = v) (hx : a.eval x = vx) (h1 : ys.all Value.oneCell' = true) (hbytes : (n + m) * bytes ≤ 140737488355328) (hn : n + m ≤ maxLen) (hbase : base ≤ w0.heap.size)
    (h : ∀ v' w', w'.ownsRow base e size v' (n + m) (xs ++ ys) → w0.grownBy w' v.ownBlock → Below base w0 w' → K (a.put o.dst v') w') :
    if Region.wanted o (yielded ops a.tmps) = true then Oper.wp P o a wx K Q else E := by
  rw [if_pos hw]
  exact wp_appN_at t e size bytes z hE ht base v n xs hown hX vx m ys hsrc s x ho hs hx h1 hbytes hn hbase h
/-- 'append(xs, ys...)' at an operation that is guarded, and wanted. -/
theorem wp_appNg {rest : List Oper} {w0 wx : World} (t e : TypeId) (size bytes : Nat) (z : Value) (hE : Elem P e size bytes z) (ht : P.underlying t = some (.slice e)) (base : Nat) (v : Value) (n : Nat) (xs : List Value)
    (hown : w0.ownsRow base e size v n xs) (hX : Below w0.heap.size w0 wx) (vx : Value) (m : Nat) (ys : List Value) (hsrc : Has wx size vx m ys) (hw : Region.wanted o (yielded ops a.tmps) = true) (s x : Operand) (ho : o.op = .call { callee := .builtin .append, args := #[s, x], argTypes := #[t, t] })
    (hs : a.eval s = v) (hx : a.eval x = vx) (h1 : ys.all Value.oneCell' = true) (hbytes : (n + m) * bytes ≤ 140737488355328) (hn : n + m ≤ maxLen) (hbase : base ≤ w0.heap.size)
    (h : ∀ v' w', w'.ownsRow base e size v' (n + m) (xs ++ ys) → w0.grownBy w' v.ownBlock → Below base w0 w' → wpList P ops Q rest (a.put o.dst v') w') : wpList P ops Q (o :: rest) a wx := by
  unfold wpList
  rw [if_pos hw]
  exact Or.inl (wp_appN_at t e size bytes z hE ht base v n xs hown hX vx m ys hsrc s x ho hs hx h1 hbytes hn hbase h)
theorem wanted_of_none (h : o.guard = none) : Region.wanted o (yielded ops a.tmps) = true := by simp [Region.wanted, h]
end
/-- A part of a row is a row. -/
theorem Has.cut {w : World} {b off n cap : Nat} {zs : List Int} (h : Has w 1 (.slice (some ⟨b, off, none⟩) n cap) zs.length (ints zs)) (i m c off' : Nat) (hoff : off' = off + i) (hj : i + m ≤ zs.length) (hc : m ≤ c) (hc' : c ≤ maxLen) :
    Has w 1 (.slice (some ⟨b, off', none⟩) m c) m (ints ((zs.drop i).take m)) := by
  subst hoff
  obtain ⟨_, a, cap', he, h1, h2, h3⟩ := h
  simp only [Value.slice.injEq] at he
  obtain ⟨rfl, rfl, rfl⟩ := he
  have hl : ((zs.drop i).take m).length = m := by simp; omega
  refine ⟨⟨by simp; omega, fun n cap h => by simp at h⟩, _, c, rfl, hc, hc', fun hp => ⟨b, off + i, rfl, fun k u hu => ?_⟩⟩
  have hk : k < ((zs.drop i).take m).length := by have := (List.getElem?_eq_some_iff.1 hu).1; simpa using this
  rw [ints_get _ _ hk] at hu
  have hk' : i + k < zs.length := by omega
  obtain ⟨b', off', e1, hcc⟩ := h3 (by simp; omega)
  simp only [Option.some.injEq, Addr.mk.injEq, and_true] at e1
  obtain ⟨rfl, rfl⟩ := e1
  rw [Nat.add_assoc, hcc _ _ (ints_get zs _ hk'), ← hu]
  simp [List.getElem_take]
/-- 'xs[k:]' as the model writes it. -/
theorem Has.cutEnd {w : World} {b n cap : Nat} {zs : List Int} (h : Has w 1 (.slice (some ⟨b, 0, none⟩) n cap) zs.length (ints zs)) (k : Nat) (hk : k ≤ zs.length) :
    Has w 1 (.slice (if cap = k then some ⟨b, 0, none⟩ else some ⟨b, k, none⟩) (zs.length - k) (cap - k)) (zs.length - k) (ints ((zs.drop k).take (zs.length - k))) := by
  have hc : zs.length ≤ cap ∧ cap ≤ maxLen := by
    obtain ⟨_, a, cap', he, h1, h2, h3⟩ := h
    simp only [Value.slice.injEq] at he
    obtain ⟨rfl, rfl, rfl⟩ := he
    exact ⟨h1, h2⟩
  have := maxLen
  by_cases e : cap = k
  · rw [if_pos e]
    exact h.cut 0 (zs.length - k) (cap - k) 0 rfl (by omega) (by omega) (by omega) |> fun h' => by
      have e0 : zs.length - k = 0 := by omega
      rw [e0] at h' ⊢
      simpa using h'
  · rw [if_neg e]
    exact h.cut k (zs.length - k) (cap - k) k (by omega) (by omega) (by omega) (by omega)
end Go.Proofs.Ytgmichaconnhaaa
