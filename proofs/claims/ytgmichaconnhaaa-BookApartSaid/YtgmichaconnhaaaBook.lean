/- Books: what they are and do, in plain Lean, and how they lie in memory. -/
import Derived.Test.YtgmichaconnhaaaShareLaw
import Derived.Test.YtgmichaconnhaaaOwn
import Derived.Test.YtgmichaconnhaaaTag
namespace Go.Proofs.Ytgmichaconnhaaa
open Go.ChangeShapes Go.WideShapes Go.ChangeAt Go.RowKit
set_option linter.unusedVariables false
set_option linter.unusedSimpArgs false

/-- The level of a split, and the split. -/
def levDown (t : Int) (ws : List Int) : Nat → Nat
  | 0 => 0
  | n + 1 => if least ws ((n + 1 : Nat) : Int) ≤ t then n + 1 else levDown t ws n
theorem levDown_ok (t : Int) (ws : List Int) (h0 : least ws 0 ≤ t) : ∀ n, levDown t ws n ≤ n ∧ least ws (levDown t ws n : Nat) ≤ t ∧ (levDown t ws n < n → t < least ws ((levDown t ws n : Nat) + 1))
  | 0 => ⟨Nat.le_refl _, h0, fun h => absurd h (Nat.lt_irrefl _)⟩
  | n + 1 => by
    obtain ⟨a, b, c⟩ := levDown_ok t ws h0 n
    unfold levDown
    split
    · next h => exact ⟨Nat.le_refl _, h, fun h => absurd h (Nat.lt_irrefl _)⟩
    · next h =>
      refine ⟨by omega, b, fun _ => ?_⟩
      by_cases e : levDown t ws n < n
      · exact c e
      · have e' : levDown t ws n = n := by omega
        rw [e']
        have : ((n + 1 : Nat) : Int) = (n : Int) + 1 := by omega
        rw [this] at h; omega
def levelOf (t : Int) (ws : List Int) : Int := (levDown t ws 1048576 : Nat)
theorem least_zero (ws : List Int) (h : ∀ x ∈ ws, 0 ≤ x) : least ws 0 = 0 := by
  unfold least
  induction ws with
  | nil => rfl
  | cons a l ih =>
    have h1 := h a (by simp)
    have h2 := ih fun x hx => h x (by simp [hx])
    simp only [List.map_cons, List.sum_cons]; omega
theorem levelOf_lev (t : Int) (ws : List Int) (h : ∀ x ∈ ws, 0 ≤ x) (ht : 0 ≤ t) : Lev t ws (levelOf t ws) := by
  obtain ⟨a, b, c⟩ := levDown_ok t ws (by rw [least_zero ws h]; exact ht) 1048576
  unfold levelOf
  generalize levDown t ws 1048576 = L at *
  exact ⟨by omega, by omega, b, fun hl => c (by omega)⟩
def shareV (t : Int) (ws : List Int) : List Int := give (levelOf t ws) (t - least ws (levelOf t ws)) ws
theorem shareV_eq {t : Int} {ws : List Int} {L : Int} (h : ∀ x ∈ ws, 0 ≤ x) (ht : 0 ≤ t) (hL : Lev t ws L) : give L (t - least ws L) ws = shareV t ws := by
  rw [hL.unique (levelOf_lev t ws h ht)]; rfl
theorem shareV_length (t : Int) (ws : List Int) : (shareV t ws).length = ws.length := give_length _ _ _
/-- A book. -/
structure Bk where
  most : Int
  ticks : Int
  round : Int
  res : Int
  all : Int
  wants : List Int
  granted : List Int
  quota : List Int
def zerosI (n : Nat) : List Int := List.replicate n 0
def Bk.new (n : Nat) (most ticks : Int) : Bk := ⟨most, ticks, 0, 0, 0, zerosI n, zerosI n, zerosI n⟩
def Bk.stock (b : Bk) (c : Int) : Bk := { b with res := b.res + c, all := b.all + c }
def Bk.want (b : Bk) (who : Nat) (c : Int) : Bk := { b with wants := b.wants.set who (max (b.wants.getD who 0) c) }
def Bk.begins (b : Bk) : Bool := b.round % b.ticks == 0
def Bk.epoch (b : Bk) : Bk := if b.begins = true then { b with quota := shareV b.res (List.replicate b.wants.length b.most) } else b
def Bk.due (b : Bk) (k : Nat) : Int := min (b.wants.getD k 0 - b.granted.getD k 0) (b.quota.getD k 0)
def Bk.pay (b : Bk) (k : Nat) : Bk := { b with granted := b.granted.set k (b.granted.getD k 0 + b.due k), quota := b.quota.set k (b.quota.getD k 0 - b.due k), res := b.res - b.due k }
def Bk.payTo (b : Bk) (k : Nat) : Bk := (List.range k).foldl Bk.pay b
def Bk.next (b : Bk) : Bk := { b.epoch with round := b.round + 1 }
def Bk.rounded (b : Bk) : Bk := b.next.payTo b.wants.length
def Bk.report (b : Bk) : Int := if b.begins = true then b.res else -1
theorem Bk.payTo_succ (b : Bk) (k : Nat) : b.payTo (k + 1) = (b.payTo k).pay k := by simp [Bk.payTo, List.range_succ, List.foldl_append]
/-- What always holds of it. -/
structure BkOk (n : Nat) (b : Bk) : Prop where
  lw : b.wants.length = n
  lg : b.granted.length = n
  lq : b.quota.length = n
  most : 0 ≤ b.most ∧ b.most ≤ 1048576
  ticks : 1 ≤ b.ticks ∧ b.ticks ≤ 8
  round : 0 ≤ b.round
  res : 0 ≤ b.res ∧ b.res ≤ b.all ∧ b.all ≤ 1048576
  want : ∀ k, 0 ≤ b.granted.getD k 0 ∧ b.granted.getD k 0 ≤ b.wants.getD k 0 ∧ b.wants.getD k 0 ≤ 1048576
  quota : ∀ k, 0 ≤ b.quota.getD k 0
  sum : b.quota.sum ≤ b.res
theorem getD_set_same {l : List Int} {k : Nat} (h : k < l.length) (x : Int) : (l.set k x).getD k 0 = x := by simp [List.getD_eq_getElem?_getD, h]
theorem getD_set_ne {l : List Int} {k j : Nat} (h : k ≠ j) (x : Int) : (l.set k x).getD j 0 = l.getD j 0 := by simp [List.getD_eq_getElem?_getD, List.getElem?_set_ne h]
theorem getD_past' {l : List Int} {k : Nat} (h : l.length ≤ k) : l.getD k 0 = 0 := by simp [List.getD_eq_getElem?_getD, List.getElem?_eq_none h]
theorem sum_set : ∀ (l : List Int) (k : Nat) (h : k < l.length) (x : Int), (l.set k x).sum = l.sum - l.getD k 0 + x
  | a :: t, 0, _, x => by simp; omega
  | a :: t, k + 1, h, x => by
    have ih := sum_set t k (by simpa using h) x
    simp only [List.set_cons_succ, List.sum_cons, List.getD_cons_succ, ih]; omega
theorem le_sum : ∀ (l : List Int) (k : Nat), (∀ j, 0 ≤ l.getD j 0) → 0 ≤ l.sum ∧ l.getD k 0 ≤ l.sum
  | [], k, _ => by simp
  | a :: t, k, h => by
    have h0 := h 0
    have ht : ∀ j, 0 ≤ t.getD j 0 := fun j => by have := h (j + 1); simpa using this
    simp at h0
    rcases k with _ | k
    · have := (le_sum t 0 ht).1
      simp; omega
    · have := le_sum t k ht
      simp only [List.sum_cons, List.getD_cons_succ]; omega
theorem due_bd {n : Nat} {b : Bk} (h : BkOk n b) (k : Nat) : 0 ≤ b.due k ∧ b.due k ≤ b.wants.getD k 0 - b.granted.getD k 0 ∧ b.due k ≤ b.quota.getD k 0 ∧ b.due k ≤ b.res := by
  have h1 := h.want k
  have h2 := h.quota k
  have h3 := (le_sum b.quota k h.quota).2
  have h4 := h.sum
  unfold Bk.due; omega
theorem BkOk.pay {n : Nat} {b : Bk} (h : BkOk n b) (k : Nat) (hk : k < n) : BkOk n (b.pay k) := by
  obtain ⟨d0, d1, d2, d3⟩ := due_bd h k
  have hg : k < b.granted.length := by rw [h.lg]; exact hk
  have hq : k < b.quota.length := by rw [h.lq]; exact hk
  have hw := h.want k
  have hqk := h.quota k
  refine ⟨h.lw, by simp [Bk.pay, h.lg], by simp [Bk.pay, h.lq], h.most, h.ticks, h.round, ?_, fun j => ?_, fun j => ?_, ?_⟩
  · have := h.res; simp only [Bk.pay]; omega
  · simp only [Bk.pay]
    by_cases e : k = j
    · subst e; rw [getD_set_same hg]; omega
    · rw [getD_set_ne e]; exact h.want j
  · simp only [Bk.pay]
    by_cases e : k = j
    · subst e; rw [getD_set_same hq]; omega
    · rw [getD_set_ne e]; exact h.quota j
  · have := h.sum
    simp only [Bk.pay]
    rw [sum_set _ _ hq]; omega
theorem BkOk.payTo {n : Nat} {b : Bk} (h : BkOk n b) : ∀ k, k ≤ n → BkOk n (b.payTo k)
  | 0, _ => h
  | k + 1, hk => by rw [Bk.payTo_succ]; exact (BkOk.payTo h k (by omega)).pay k (by omega)
theorem shareV_ok (t : Int) (n : Nat) (m : Int) (ht : 0 ≤ t) (hm : 0 ≤ m ∧ m ≤ 1048576) : (∀ k, 0 ≤ (shareV t (List.replicate n m)).getD k 0 ∧ (shareV t (List.replicate n m)).getD k 0 ≤ m) ∧ (shareV t (List.replicate n m)).sum ≤ t := by
  have hws : ∀ x ∈ List.replicate n m, 0 ≤ x ∧ x ≤ 1048576 := fun x hx => by rw [List.mem_replicate] at hx; omega
  have hL := levelOf_lev t (List.replicate n m) (fun x hx => (hws x hx).1) ht
  refine ⟨fun k => ?_, ?_⟩
  · by_cases h : k < (shareV t (List.replicate n m)).length
    · rw [List.getD_eq_getElem?_getD, List.getElem?_eq_getElem h]
      unfold shareV at h ⊢
      have hk : k < (List.replicate n m).length := by rw [give_length] at h; exact h
      obtain ⟨r', e⟩ := give_get (levelOf t (List.replicate n m)) _ _ k hk h
      have hb := give1_bd (levelOf t (List.replicate n m)) r' _ hL.1 (hws _ (List.getElem_mem hk)).1
      simp only [Option.getD_some]
      rw [e]
      simp only [List.getElem_replicate] at hb ⊢
      omega
    · rw [getD_past' (by omega)]; omega
  · have := share_sum hws hL
    unfold shareV
    rw [this]; omega
theorem BkOk.next {n : Nat} {b : Bk} (h : BkOk n b) : BkOk n b.next := by
  unfold Bk.next Bk.epoch
  split
  · obtain ⟨h1, h2⟩ := shareV_ok b.res b.wants.length b.most h.res.1 h.most
    exact ⟨h.lw, h.lg, by simp [shareV_length, h.lw], h.most, h.ticks, by have := h.round; simp only; omega, h.res, h.want, fun k => (h1 k).1, h2⟩
  · exact ⟨h.lw, h.lg, h.lq, h.most, h.ticks, by have := h.round; simp only; omega, h.res, h.want, h.quota, h.sum⟩
theorem BkOk.rounded {n : Nat} {b : Bk} (h : BkOk n b) : BkOk n b.rounded := by
  unfold Bk.rounded; rw [h.lw]; exact h.next.payTo n (Nat.le_refl _)
theorem zeros_sum : ∀ n, (zerosI n).sum = 0
  | 0 => rfl
  | n + 1 => by unfold zerosI; rw [List.replicate_succ, List.sum_cons]; have := zeros_sum n; unfold zerosI at this; omega
theorem BkOk.new (n : Nat) (most ticks : Int) (hm : 0 ≤ most ∧ most ≤ 1048576) (ht : 1 ≤ ticks ∧ ticks ≤ 8) : BkOk n (Bk.new n most ticks) := by
  have hz : ∀ k, (zerosI n).getD k 0 = 0 := fun k => by
    unfold zerosI; rw [List.getD_eq_getElem?_getD, List.getElem?_replicate]; split <;> rfl
  refine ⟨by simp [Bk.new, zerosI], by simp [Bk.new, zerosI], by simp [Bk.new, zerosI], hm, ht, by simp [Bk.new], by simp [Bk.new], fun k => by simp only [Bk.new]; rw [hz k]; omega, fun k => by simp only [Bk.new]; rw [hz k]; omega, ?_⟩
  have : (zerosI n).sum = 0 := zeros_sum n
  simp only [Bk.new]; omega
theorem BkOk.stock {n : Nat} {b : Bk} (h : BkOk n b) (c : Int) (h0 : 0 ≤ c) (h1 : b.all + c ≤ 1048576) : BkOk n (b.stock c) :=
  ⟨h.lw, h.lg, h.lq, h.most, h.ticks, h.round, by have := h.res; simp only [Bk.stock]; omega, h.want, h.quota, by have := h.sum; simp only [Bk.stock]; omega⟩
theorem BkOk.want' {n : Nat} {b : Bk} (h : BkOk n b) (who : Nat) (c : Int) (hw : who < n) (h1 : c ≤ 1048576) : BkOk n (b.want who c) := by
  refine ⟨by simp [Bk.want, h.lw], h.lg, h.lq, h.most, h.ticks, h.round, h.res, fun j => ?_, h.quota, h.sum⟩
  simp only [Bk.want]
  by_cases e : who = j
  · subst e; rw [getD_set_same (by rw [h.lw]; exact hw)]; have := h.want who; omega
  · rw [getD_set_ne e]; exact h.want j
end Go.Proofs.Ytgmichaconnhaaa
