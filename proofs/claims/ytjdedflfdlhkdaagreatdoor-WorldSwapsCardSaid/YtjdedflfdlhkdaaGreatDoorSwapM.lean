/- World, plain: two frames to two places, then more steps. -/
import Derived.Test.YtjdedflfdlhkdaaGreatDoorSwapL
namespace Go.Proofs.YtjdedflfdlhkdaaGreatDoor
set_option linter.unusedVariables false
set_option linter.unusedSimpArgs false

theorem fold_more {c : Cfg} {A B : List Stp} (h : (wFold c A).1 = (wFold c B).1) (R : List Stp) : (wFold c (A ++ R)).1 = (wFold c (B ++ R)).1 := by
  induction R using snoc_ind with
  | h0 => rw [List.append_nil, List.append_nil]; exact h
  | hs l p ih =>
    rw [← List.append_assoc, ← List.append_assoc, wFold_snoc, wFold_snoc]
    simp only [wStep]
    rw [ih]
theorem two_told (c : Cfg) (S : List Stp) (x y : Stp) : (wFold c (S ++ [x, y])).2[S.length]? = some ((wFold c S).1.step c x).1 ∧ (wFold c (S ++ [x, y])).2[S.length + 1]? = some (((wFold c S).1.step c x).2.step c y).1 ∧ (wFold c (S ++ [x, y])).1 = (((wFold c S).1.step c x).2.step c y).2 := by
  have e : S ++ [x, y] = (S ++ [x]) ++ [y] := by simp
  have h1 := told_at c (S ++ [x, y]) S.length (by simp)
  have h2 := told_at c (S ++ [x, y]) (S.length + 1) (by simp)
  have e1 : (S ++ [x, y]).take S.length = S := by simp
  have e2 : (S ++ [x, y]).take (S.length + 1) = S ++ [x] := by rw [e, List.take_append_of_le_length (by simp)]; exact List.take_of_length_le (by simp)
  have g1 : (S ++ [x, y])[S.length]'(by simp) = x := by simp
  have g2 : (S ++ [x, y])[S.length + 1]'(by simp) = y := by simp
  rw [e1, g1] at h1
  rw [e2, g2, wFold_snoc] at h2
  refine ⟨h1, h2, ?_⟩
  rw [e, wFold_snoc, wFold_snoc]
/-- Swaps: what the law wants. -/
structure SwapOk (c : Cfg) (S : List Stp) (i j : Nat) (T U : List Tld) : Prop where
  t0 : ∀ h : S.length < T.length, (T[S.length]'h).who = (((wFold c S).1.to' i : Nat) : Int)
  t1 : ∀ h : S.length + 1 < T.length, (T[S.length + 1]'h).who = (((wFold c S).1.to' j : Nat) : Int)
  a : (wFold c S).1.to' i ≠ (wFold c S).1.to' j → ∀ (h : S.length < T.length) (h' : S.length + 1 < U.length), T[S.length]'h = U[S.length + 1]'h'
  b : (wFold c S).1.to' i ≠ (wFold c S).1.to' j → ∀ (h : S.length + 1 < T.length) (h' : S.length < U.length), T[S.length + 1]'h = U[S.length]'h'
  e : (wFold c S).1.to' i ≠ (wFold c S).1.to' j → ∀ R, (wFold c (S ++ [dlv i, dlv j] ++ R)).1 = (wFold c (S ++ [dlv j, dlv i] ++ R)).1
theorem dlv_who (c : Cfg) (s : Wld) (i : Nat) (h : i < s.ls.length) : (s.deliver c (i : Int)).1.who = ((s.to' i : Nat) : Int) := by
  rw [deliver_at c s i h, to_of s i h]
  split <;> rfl
theorem swap_ok (c : Cfg) (S : List Stp) (i j : Nat) (hi : i < (wFold c S).1.ls.length) (hj : j < (wFold c S).1.ls.length) : SwapOk c S i j (wFold c (S ++ [dlv i, dlv j])).2 (wFold c (S ++ [dlv j, dlv i])).2 := by
  obtain ⟨a1, a2, a3⟩ := two_told c S (dlv i) (dlv j)
  obtain ⟨b1, b2, b3⟩ := two_told c S (dlv j) (dlv i)
  generalize (wFold c (S ++ [dlv i, dlv j])).2 = T at *
  generalize (wFold c (S ++ [dlv j, dlv i])).2 = U at *
  have es : ∀ (s : Wld) (n : Nat), s.step c (dlv n) = s.deliver c (n : Int) := fun s n => rfl
  rw [es] at a1 a2 a3 b1 b2 b3
  rw [es] at a2 a3 b2 b3
  have ls1 : (((wFold c S).1.deliver c (i : Int)).2.ls) = (wFold c S).1.ls := by rw [← es]; exact step_ls (by simp [dlv])
  have to1 : ((wFold c S).1.deliver c (i : Int)).2.to' j = (wFold c S).1.to' j := by unfold Wld.to'; rw [ls1]
  refine ⟨fun h => ?_, fun h => ?_, fun hne h h' => ?_, fun hne h h' => ?_, fun hne R => ?_⟩
  · rw [List.getElem?_eq_getElem h, Option.some.injEq] at a1
    rw [a1]; exact dlv_who c _ i hi
  · rw [List.getElem?_eq_getElem h, Option.some.injEq] at a2
    rw [a2, dlv_who c _ j (by rw [ls1]; exact hj), to1]
  · obtain ⟨-, q, -⟩ := deliver_swap c (wFold c S).1 i j hi hj hne
    rw [List.getElem?_eq_getElem h, Option.some.injEq] at a1
    rw [List.getElem?_eq_getElem h', Option.some.injEq] at b2
    rw [a1, b2, q]
  · obtain ⟨-, -, q⟩ := deliver_swap c (wFold c S).1 i j hi hj hne
    rw [List.getElem?_eq_getElem h, Option.some.injEq] at a2
    rw [List.getElem?_eq_getElem h', Option.some.injEq] at b1
    rw [a2, b1, q]
  · obtain ⟨q, -, -⟩ := deliver_swap c (wFold c S).1 i j hi hj hne
    exact fold_more (by rw [a3, b3, q]) R
end Go.Proofs.YtjdedflfdlhkdaaGreatDoor
