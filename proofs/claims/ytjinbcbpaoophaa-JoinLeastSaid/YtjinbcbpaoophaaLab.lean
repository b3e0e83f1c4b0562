/- Package lab: the contracts of May, Join, Meet, Flows. -/
import Derived.Test.YtjinbcbpaoophaaBase
namespace Go.Proofs.Ytjinbcbpaoophaa
open Go.ChangeShapes Go.WideShapes Go.ChangeAt Go.RowKit
set_option linter.unusedVariables false

theorem andNot255 (a : Int) (h : 0 ≤ a) (h' : a ≤ 9223372036854775807) : (bits BinOp.andNot IntKind.u64 a 255 == 0) = decide (a ≤ 255) := by
  rw [u64_andNot a 255 h (by omega) (by omega) (by omega)]
  obtain ⟨n, rfl⟩ := Int.eq_ofNat_of_zero_le h
  have e : n &&& (18446744073709551615 - Int.toNat 255) = n % 18446744073709551616 / 256 * 256 := nat_hi64_8 n
  rw [Int.toNat_natCast, e]
  rw [Bool.eq_iff_iff]
  simp only [beq_iff_eq, decide_eq_true_eq]
  omega
theorem lmay (a : Int) (hw : (Lit.int .i64 a).wf = true) (w : World) :
    Calls Try.prog 18 #[.int .i64 a] w fun e w' => e = .returned (.bool (decide (0 ≤ a ∧ a ≤ 255))) ∧ w = w' := by
  have hb := wf64_iff.1 hw
  have H := Lib.hid (andNot255 a)
  go_enter Try.func18, Try.ntmps18
  go_wp2
  all_goals go_ret
  · exact ⟨ret_bool (by rw [H.out (by omega) (by omega)]; simp; omega), rfl⟩
  · exact ⟨ret_bool (by simp; omega), rfl⟩
theorem lmay_true (a : Int) (h0 : 0 ≤ a) (h1 : a ≤ 255) (w : World) :
    Calls Try.prog 18 #[.int .i64 a] w fun e w' => e = .returned (.bool true) ∧ w = w' := by
  have := lmay a (wf64_iff.2 (by omega)) w
  rwa [show decide (0 ≤ a ∧ a ≤ 255) = true by simp; omega] at this

/-- 'b' flows from 'a': all of b are in a. -/
def sub (a b : Nat) : Bool := a &&& b == b
theorem andNot_sub (a b : Nat) (ha : a < 256) (hb : b < 256) : (bits BinOp.andNot IntKind.u64 (b : Int) (a : Int) == 0) = sub a b := by
  rw [u64_andNot_nat b a (by omega) (by omega)]
  unfold sub
  rw [Bool.eq_iff_iff]
  simp only [beq_iff_eq]
  have e : (18446744073709551615 - a) = 2 ^ 64 - (a + 1) := by omega
  rw [e]
  constructor
  · intro h
    have h : b &&& (2 ^ 64 - (a + 1)) = 0 := by exact_mod_cast h
    apply Nat.eq_of_testBit_eq; intro i
    have hi := congrArg (fun x => Nat.testBit x i) h
    simp only [Nat.testBit_and, Nat.zero_testBit] at hi ⊢
    rw [Nat.testBit_two_pow_sub_succ (by omega)] at hi
    by_cases hb' : b.testBit i
    · have : i < 64 := by
        apply Classical.byContradiction; intro hn
        rw [Nat.testBit_lt_two_pow (Nat.lt_of_lt_of_le hb (Nat.le_trans (by decide) (Nat.pow_le_pow_right (by decide) (Nat.le_of_not_lt hn : 64 ≤ i))))] at hb'
        simp at hb'
      simp [hb', this] at hi ⊢; exact hi
    · simp [hb']
  · intro h
    have : b &&& (2 ^ 64 - (a + 1)) = 0 := by
      apply Nat.eq_of_testBit_eq; intro i
      have hi := congrArg (fun x => Nat.testBit x i) h
      simp only [Nat.testBit_and, Nat.zero_testBit] at hi ⊢
      rw [Nat.testBit_two_pow_sub_succ (by omega)]
      by_cases hb' : b.testBit i <;> simp_all
    exact_mod_cast this
theorem flows1 (a b : Nat) (ha : a < 256) (hb : b < 256) (w : World) :
    Calls Try.prog 53 #[.int .u64 a, .int .u64 b] w fun e w' => e = .returned (.bool (sub a b)) ∧ w = w' := by
  have H := Lib.hid (andNot_sub a b ha hb)
  go_enter Try.func53, Try.ntmps53
  go_wp2
  go_ret
  exact ⟨ret_bool H.out, rfl⟩
theorem join1 (a b : Nat) (ha : a < 256) (hb : b < 256) (w : World) :
    Calls Try.prog 40 #[.int .u64 a, .int .u64 b] w fun e w' => e = .returned (.int .i64 ((a &&& b : Nat) : Int)) ∧ w = w' := by
  have H := Lib.hid (u64_and_nat a b (by omega) (by omega))
  have hl := Lib.hid (Nat.and_le_left (n := a) (m := b))
  go_enter Try.func40, Try.ntmps40
  go_wp2
  go_ret
  exact ⟨ret_int (by rw [H.out]; have := hl.out; exact IntWalk.wrap64_in _ (by omega)), rfl⟩
theorem meet1 (a b : Nat) (ha : a < 256) (hb : b < 256) (w : World) :
    Calls Try.prog 39 #[.int .u64 a, .int .u64 b] w fun e w' => e = .returned (.int .i64 ((a ||| b : Nat) : Int)) ∧ w = w' := by
  have H := Lib.hid (u64_or_nat a b (by omega) (by omega))
  have hl := Lib.hid (Nat.or_lt_two_pow (n := 8) ha hb)
  go_enter Try.func39, Try.ntmps39
  go_wp2
  go_ret
  exact ⟨ret_int (by rw [H.out]; have := hl.out; exact IntWalk.wrap64_in _ (by omega)), rfl⟩
theorem lflows (a b : Nat) (ha : a < 256) (hb : b < 256) (w : World) :
    Calls Try.prog 37 #[.int .i64 a, .int .i64 b] w fun e w' => e = .returned (.tuple #[.bool (sub a b), .int .i64 0]) ∧ w = w' := by
  have hboth : Calls Try.prog 52 #[.int .i64 a, .int .i64 b, .func (.func 53) #[] #[]] w fun e w' => e = .returned (.tuple #[.bool (sub a b), .int .i64 0]) ∧ w = w' := by
    go_enter Try.func52, Try.ntmps52
    go_wp2_with (first | (go_at_call 18; refine (lmay_true _ (by omega) (by omega) _).mono ?_; rintro e w' ⟨rfl, rfl⟩) | (go_at_call 53; refine (flows1 a b ha hb _).mono ?_; rintro e w' ⟨rfl, rfl⟩))
    go_ret2
    exact ⟨rfl, rfl⟩
  go_enter Try.func37, Try.ntmps37
  go_wp2_with (go_at_call 52; refine hboth.mono ?_; rintro e w' ⟨rfl, rfl⟩)
  go_ret2
  exact ⟨rfl, rfl⟩
theorem ljoin (a b : Nat) (ha : a < 256) (hb : b < 256) (w : World) :
    Calls Try.prog 21 #[.int .i64 a, .int .i64 b] w fun e w' => e = .returned (.tuple #[.int .i64 ((a &&& b : Nat) : Int), .int .i64 0]) ∧ w = w' := by
  have hboth : Calls Try.prog 38 #[.int .i64 a, .int .i64 b, .func (.func 40) #[] #[]] w fun e w' => e = .returned (.tuple #[.int .i64 ((a &&& b : Nat) : Int), .int .i64 0]) ∧ w = w' := by
    go_enter Try.func38, Try.ntmps38
    go_wp2_with (first | (go_at_call 18; refine (lmay_true _ (by omega) (by omega) _).mono ?_; rintro e w' ⟨rfl, rfl⟩) | (go_at_call 40; refine (join1 a b ha hb _).mono ?_; rintro e w' ⟨rfl, rfl⟩))
    go_ret2
    exact ⟨rfl, rfl⟩
  go_enter Try.func21, Try.ntmps21
  go_wp2_with (go_at_call 38; refine hboth.mono ?_; rintro e w' ⟨rfl, rfl⟩)
  go_ret2
  exact ⟨rfl, rfl⟩
theorem lmeet (a b : Nat) (ha : a < 256) (hb : b < 256) (w : World) :
    Calls Try.prog 20 #[.int .i64 a, .int .i64 b] w fun e w' => e = .returned (.tuple #[.int .i64 ((a ||| b : Nat) : Int), .int .i64 0]) ∧ w = w' := by
  have hboth : Calls Try.prog 38 #[.int .i64 a, .int .i64 b, .func (.func 39) #[] #[]] w fun e w' => e = .returned (.tuple #[.int .i64 ((a ||| b : Nat) : Int), .int .i64 0]) ∧ w = w' := by
    go_enter Try.func38, Try.ntmps38
    go_wp2_with (first | (go_at_call 18; refine (lmay_true _ (by omega) (by omega) _).mono ?_; rintro e w' ⟨rfl, rfl⟩) | (go_at_call 39; refine (meet1 a b ha hb _).mono ?_; rintro e w' ⟨rfl, rfl⟩))
    go_ret2
    exact ⟨rfl, rfl⟩
  go_enter Try.func20, Try.ntmps20
  go_wp2_with (go_at_call 38; refine hboth.mono ?_; rintro e w' ⟨rfl, rfl⟩)
  go_ret2
  exact ⟨rfl, rfl⟩
theorem kflows (a b : Nat) (ha : a < 256) (hb : b < 256) (w : World) :
    Calls Try.prog 19 #[.int .i64 a, .int .i64 b] w fun e w' => e = .returned (.bool (sub a b)) ∧ w = w' := by
  go_enter Try.func19, Try.ntmps19
  go_wp2_with (go_at_call 37; refine (lflows a b ha hb _).mono ?_; rintro e w' ⟨rfl, rfl⟩)
  go_ret
  exact ⟨rfl, rfl⟩
/-- The same with Int arguments: an offer fits whatever stands at the call. -/
theorem kflowsI (a b : Int) (ha : 0 ≤ a) (ha' : a ≤ 255) (hb : 0 ≤ b) (hb' : b ≤ 255) (w : World) :
    Calls Try.prog 19 #[.int .i64 a, .int .i64 b] w fun e w' => e = .returned (.bool (sub a.toNat b.toNat)) ∧ w = w' := by
  obtain ⟨x, rfl⟩ := Int.eq_ofNat_of_zero_le ha
  obtain ⟨y, rfl⟩ := Int.eq_ofNat_of_zero_le hb
  exact kflows x y (by omega) (by omega) w
theorem lmay_false (a : Int) (h : a < 0 ∨ 255 < a) (hw : -9223372036854775808 ≤ a) (hw' : a ≤ 9223372036854775807) (w : World) :
    Calls Try.prog 18 #[.int .i64 a] w fun e w' => e = .returned (.bool false) ∧ w = w' := by
  have := lmay a (wf64_iff.2 (by omega)) w
  rwa [show decide (0 ≤ a ∧ a ≤ 255) = false by simp; omega] at this
theorem ljoinI (a b : Int) (ha : 0 ≤ a) (ha' : a ≤ 255) (hb : 0 ≤ b) (hb' : b ≤ 255) (w : World) :
    Calls Try.prog 21 #[.int .i64 a, .int .i64 b] w fun e w' => e = .returned (.tuple #[.int .i64 ((a.toNat &&& b.toNat : Nat) : Int), .int .i64 0]) ∧ w = w' := by
  obtain ⟨x, rfl⟩ := Int.eq_ofNat_of_zero_le ha
  obtain ⟨y, rfl⟩ := Int.eq_ofNat_of_zero_le hb
  exact ljoin x y (by omega) (by omega) w
theorem lmeetI (a b : Int) (ha : 0 ≤ a) (ha' : a ≤ 255) (hb : 0 ≤ b) (hb' : b ≤ 255) (w : World) :
    Calls Try.prog 20 #[.int .i64 a, .int .i64 b] w fun e w' => e = .returned (.tuple #[.int .i64 ((a.toNat ||| b.toNat : Nat) : Int), .int .i64 0]) ∧ w = w' := by
  obtain ⟨x, rfl⟩ := Int.eq_ofNat_of_zero_le ha
  obtain ⟨y, rfl⟩ := Int.eq_ofNat_of_zero_le hb
  exact lmeet x y (by omega) (by omega) w
/-- Labels as Int: both, either. -/
def land (a b : Int) : Int := ((a.toNat &&& b.toNat : Nat) : Int)
def lor (a b : Int) : Int := ((a.toNat ||| b.toNat : Nat) : Int)
def lsub (a b : Int) : Bool := sub a.toNat b.toNat
theorem land_bd (a b : Int) (hb : 0 ≤ b) (hb' : b ≤ 255) : 0 ≤ land a b ∧ land a b ≤ 255 := by
  have := Nat.and_le_right (n := a.toNat) (m := b.toNat)
  unfold land; omega
theorem lor_bd (a b : Int) (ha' : a ≤ 255) (hb' : b ≤ 255) : 0 ≤ lor a b ∧ lor a b ≤ 255 := by
  have := Nat.or_lt_two_pow (n := 8) (show a.toNat < 2 ^ 8 by omega) (show b.toNat < 2 ^ 8 by omega)
  unfold lor; omega
theorem cjoin (a b : Int) (ha : 0 ≤ a) (ha' : a ≤ 255) (hb : 0 ≤ b) (hb' : b ≤ 255) (w : World) :
    Calls Try.prog 21 #[.int .i64 a, .int .i64 b] w fun e w' => e = .returned (.tuple #[.int .i64 (land a b), .int .i64 0]) ∧ w = w' := ljoinI a b ha ha' hb hb' w
theorem cmeet (a b : Int) (ha : 0 ≤ a) (ha' : a ≤ 255) (hb : 0 ≤ b) (hb' : b ≤ 255) (w : World) :
    Calls Try.prog 20 #[.int .i64 a, .int .i64 b] w fun e w' => e = .returned (.tuple #[.int .i64 (lor a b), .int .i64 0]) ∧ w = w' := lmeetI a b ha ha' hb hb' w
theorem cflows (a b : Int) (ha : 0 ≤ a) (ha' : a ≤ 255) (hb : 0 ≤ b) (hb' : b ≤ 255) (w : World) :
    Calls Try.prog 19 #[.int .i64 a, .int .i64 b] w fun e w' => e = .returned (.bool (lsub a b)) ∧ w = w' := kflowsI a b ha ha' hb hb' w
end Go.Proofs.Ytjinbcbpaoophaa
