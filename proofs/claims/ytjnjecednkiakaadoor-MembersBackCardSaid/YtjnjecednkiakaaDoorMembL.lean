/- Labels and their members, plain. -/
import Derived.Test.YtjnjecednkiakaaDoorPn
import Derived.Test.YtjnjecednkiakaaDoorBits
import Derived.Lib.TrailingZeros
namespace Go.Proofs.YtjnjecednkiakaaDoor
set_option linter.unusedVariables false
set_option linter.unusedSimpArgs false

/-- The lowest member; all but it. -/
def lowI (x : Nat) : Nat := ((List.range 8).find? fun i => x.testBit i).getD 0
def clrB (x : Nat) : Nat := x &&& (x - 1)
def memF : Nat → Nat → List Nat
  | 0, _ => []
  | f + 1, x => if x = 0 then [] else lowI x :: memF f (clrB x)
def memL (x : Nat) : List Nat := memF 8 x
theorem memL_step : ∀ x : Fin 256, x.val ≠ 0 → memL x.val = lowI x.val :: memL (clrB x.val) ∧ clrB x.val < x.val ∧ lowI x.val < 8 := by decide +kernel
theorem memL_zero : memL 0 = [] := rfl
/-- Of: the label of a list; 7 where one stands twice. -/
def ofStep (a : Nat × Int) (w : Nat) : Nat × Int := (a.1 ||| 2 ^ w, if a.1.testBit w then 7 else a.2)
def ofF (l : List Nat) : Nat × Int := l.foldl ofStep (0, 0)
theorem of_or : ∀ x : Fin 256, ∀ w : Fin 8, x.val ||| 2 ^ w.val < 256 := by decide +kernel
theorem ofF_lt (l : List Nat) (h : ∀ x ∈ l, x < 8) : ∀ k, k ≤ l.length → (ofF (l.take k)).1 < 256
  | 0, _ => by simp [ofF]
  | k + 1, hk => by
    have ih := ofF_lt l h k (by omega)
    rw [List.take_succ_eq_append_getElem (by omega)]
    unfold ofF at *
    rw [List.foldl_append]
    exact of_or ⟨_, ih⟩ ⟨_, h _ (List.getElem_mem (by omega))⟩
theorem ofF_code (l : List Nat) : (ofF l).2 = 0 ∨ (ofF l).2 = 7 := by
  have : ∀ (l : List Nat) (a : Nat × Int), (a.2 = 0 ∨ a.2 = 7) → ((l.foldl ofStep a).2 = 0 ∨ (l.foldl ofStep a).2 = 7) := by
    intro l
    induction l with
    | nil => intro a h; exact h
    | cons w t ih =>
      intro a h
      rw [List.foldl_cons]
      refine ih _ ?_
      unfold ofStep
      simp only
      split
      · exact .inr rfl
      · exact h
  exact this l (0, 0) (.inl rfl)
/-- The members, turned and told from behind. -/
def othL (l : List Nat) (t : Nat) : Nat → List Nat
  | 0 => []
  | i + 1 => l.getD ((i + t) % l.length) 0 :: othL l t i
theorem memL_facts : ∀ x : Fin 256, (memL x.val).length ≤ 8 ∧ (∀ i ∈ List.range 8, i < (memL x.val).length → (memL x.val).getD i 0 < 8 ∧ (0 < i → (memL x.val).getD (i - 1) 0 < (memL x.val).getD i 0)) ∧ ((memL x.val).length = 0 ↔ x.val = 0) := by decide +kernel
theorem back_facts : ∀ x : Fin 256, ∀ t ∈ List.range 8, (t < (memL x.val).length ∨ (t = 0 ∧ x.val = 0)) → ofF (othL (memL x.val) t (memL x.val).length) = (x.val, 0) ∧ (0 < (memL x.val).length → (ofF (othL (memL x.val) t (memL x.val).length ++ [(memL x.val).getD 0 0])).2 = 7) := by decide +kernel
theorem othL_lt (l : List Nat) (t : Nat) (h : ∀ x ∈ l, x < 8) (hl : 0 < l.length) : ∀ i, ∀ x ∈ othL l t i, x < 8
  | 0, x, hx => by simp [othL] at hx
  | i + 1, x, hx => by
    unfold othL at hx
    rcases List.mem_cons.1 hx with rfl | hx
    · have hm := Nat.mod_lt (i + t) hl
      rw [List.getD_eq_getElem?_getD, List.getElem?_eq_getElem hm]
      exact h _ (List.getElem_mem hm)
    · exact othL_lt l t h hl i x hx
theorem othL_len (l : List Nat) (t : Nat) : ∀ i, (othL l t i).length = i
  | 0 => rfl
  | i + 1 => by rw [othL, List.length_cons, othL_len l t i]
/-- The table that TrailingZeros reads. -/
def tzIdx (x : Nat) : Nat := (x &&& (18446744073709551616 - x)) * 285870213051353865 % 18446744073709551616 / 288230376151711744
theorem tz_idx : ∀ x : Fin 256, x.val ≠ 0 → tzIdx x.val < 64 ∧ Lib.deBruijn64tab.getD (tzIdx x.val) 0 = lowI x.val := by decide +kernel
theorem tz_key : ∀ x : Fin 256, x.val ≠ 0 → IntKind.u64.wrap (bits BinOp.and IntKind.u64 ((x.val : Nat) : Int) (IntKind.u64.wrap (-((x.val : Nat) : Int))) * 285870213051353865) / 288230376151711744 = ((tzIdx x.val : Nat) : Int) := by decide +kernel
theorem clr_key : ∀ x : Fin 256, x.val ≠ 0 → bits BinOp.and IntKind.u64 ((x.val : Nat) : Int) (((x.val : Nat) : Int) - 1) = ((clrB x.val : Nat) : Int) := by decide +kernel
theorem of_bit : ∀ x : Fin 256, ∀ w : Fin 8, (bits BinOp.and IntKind.u64 (((x.val : Nat) : Int) / 2 ^ w.val) 1 == 1) = x.val.testBit w.val := by decide +kernel
theorem of_set : ∀ x : Fin 256, ∀ w : Fin 8, bits BinOp.or IntKind.u64 ((x.val : Nat) : Int) (IntKind.u64.wrap (2 ^ w.val)) = ((x.val ||| 2 ^ w.val : Nat) : Int) := by decide +kernel
end Go.Proofs.YtjnjecednkiakaaDoor
