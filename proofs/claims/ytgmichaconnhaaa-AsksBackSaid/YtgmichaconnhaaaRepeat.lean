/- slices.Repeat of one number. -/
import Derived.Test.YtgmichaconnhaaaRow
import Derived.Test.YtgmichaconnhaaaGrow
import Derived.Laws.CopyOwn
namespace Go.Proofs.Ytgmichaconnhaaa
open Go.ChangeShapes Go.WideShapes Go.ChangeAt Go.RowKit
set_option linter.unusedVariables false
set_option linter.unusedSimpArgs false

set_option maxRecDepth 100000 in
set_option maxHeartbeats 1000000 in
theorem cmul64 (n : Nat) (hn : n ≤ 48) (w : World) :
    Calls Try.prog 70 #[.int .u64 1, .int .u64 n] w fun e w' => e = .returned (.tuple #[.int .u64 0, .int .u64 n]) ∧ w = w' := by
  have wr : ∀ x : Int, 0 ≤ x → x < 9223372036854775808 → IntKind.u64.wrap x = x := fun x h0 h1 => by rw [IntKind.wrap_u64]; omega
  have mk := fun (x : Int) (h0 : 0 ≤ x) (h1 : x < 9223372036854775808) => bits_mask .u64 63 (by decide) (fun n h0 h1 => wr n h0 (by omega)) 32 (by decide) x h0 (by omega)
  have a1 : bits BinOp.and IntKind.u64 1 4294967295 = 1 := by have := mk 1 (by omega) (by omega); simpa using this
  have a2 : bits BinOp.and IntKind.u64 (n : Int) 4294967295 = n := by
    have := mk n (by omega) (by omega)
    rw [show (2 : Int) ^ 32 = 4294967296 from rfl] at this
    rw [show (4294967295 : Int) = 4294967296 - 1 from rfl, this]; omega
  have a3 : bits BinOp.and IntKind.u64 0 4294967295 = 0 := by have := mk 0 (by omega) (by omega); simpa using this
  have d0 : (n : Int) / 4294967296 = 0 := by omega
  have w0 : IntKind.u64.wrap (n : Int) = n := wr _ (by omega) (by omega)
  have w1 : IntKind.u64.wrap 0 = 0 := rfl
  clear wr mk
  go_enter Try.func70, Try.ntmps70
  go_wp2
  go_ret2
  exact ⟨rfl, rfl⟩
set_option maxRecDepth 100000 in
set_option maxHeartbeats 1000000 in
theorem cmul (n : Nat) (hn : n ≤ 48) (w : World) :
    Calls Try.prog 56 #[.int .u64 1, .int .u64 n] w fun e w' => e = .returned (.tuple #[.int .u64 0, .int .u64 n]) ∧ w = w' := by
  have w0 : IntKind.u64.wrap (n : Int) = n := by rw [IntKind.wrap_u64]; omega
  have w1 : IntKind.u64.wrap 1 = 1 := rfl
  go_enter Try.func56, Try.ntmps56
  go_wp2_with fail
  refine (cmul64 n hn w).mono ?_
  rintro e w' ⟨rfl, rfl⟩
  go_wp2_with fail
  go_ret2
  exact ⟨rfl, rfl⟩
def repUp (n k : Nat) (x : Int) : List Int := List.replicate k x ++ List.replicate (n - k) 0
theorem repUp_length (n k : Nat) (x : Int) (h : k ≤ n) : (repUp n k x).length = n := by simp [repUp]; omega
theorem repUp_copy (n k : Nat) (x : Int) (h : k ≤ n) : splice (ints (repUp n k x)) k (ints (List.replicate (min k (n - k)) x)) = ints (repUp n (k + min k (n - k)) x) := by
  unfold splice repUp
  have e1 : (ints (List.replicate k x ++ List.replicate (n - k) 0)).take k = ints (List.replicate k x) := by
    simp [ints, List.take_append]
  have e2 : (ints (List.replicate k x ++ List.replicate (n - k) 0)).drop (k + (ints (List.replicate (min k (n - k)) x)).length) = ints (List.replicate (n - (k + min k (n - k))) 0) := by
    simp [ints, List.drop_append, List.drop_replicate]
    omega
  rw [e1, e2]
  simp only [ints, List.map_append, List.map_replicate]
  rw [← List.append_assoc, List.replicate_append_replicate]
theorem repUp_first (n : Nat) (x : Int) (h : 1 ≤ n) : splice (ints (repUp n 0 x)) 0 (ints [x]) = ints (repUp n 1 x) := by
  unfold splice repUp
  obtain ⟨m, rfl⟩ : ∃ m, n = m + 1 := ⟨n - 1, by omega⟩
  simp [ints, List.replicate_succ]
theorem repUp_get (n k j : Nat) (x : Int) (v : Value) (c : Nat) (hc : c ≤ k) (h : (ints (List.replicate c x))[j]? = some v) : (ints (repUp n k x))[j]? = some v := by
  have hj : j < c := by have := (List.getElem?_eq_some_iff.1 h).1; simpa using this
  rw [ints_get _ j (by simpa using hj)] at h
  rw [ints_get _ j (by simp [repUp]; omega), ← h]
  unfold repUp
  rw [List.getElem_append_left (by simp; omega)]
  simp
set_option maxRecDepth 100000 in
set_option maxHeartbeats 2000000 in
theorem crepeat (v : Value) (x : Int) (n : Nat) (w : World) (h : Has w 1 v 1 (ints [x])) (h1 : 1 ≤ n) (h48 : n ≤ 48) :
    Calls Try.prog 39 #[v, .int .i64 n] w fun e w' => ∃ v', e = .returned v' ∧ w'.ownsRow w.heap.size 3 1 v' n (ints (List.replicate n x)) ∧ Below w.heap.size w w' := by
  have mk := fun X => run_mk infoInt Try.underlying44 rfl X n (by omega) (by omega)
  obtain ⟨_, a, cap, rfl, _, _, hc⟩ := h
  obtain ⟨b, off, rfl, hcc⟩ := hc (by simp [ints])
  have g0 := hcc 0 _ rfl
  rw [Nat.add_zero] at g0
  have G0 := Lib.hid g0
  have w0 : IntKind.u64.wrap (n : Int) = n := by rw [IntKind.wrap_u64]; omega
  have w1 : IntKind.u64.wrap 1 = 1 := rfl
  have hbl := World.block_lt_of_cell? w _ g0
  have e0 : (List.replicate n (Value.int .i64 0)) = ints (repUp n 0 x) := by rw [zeros_ints]; simp [repUp]
  rw [e0] at mk
  have hl0 := repUp_length n 0 x (Nat.zero_le _)
  have Hl0 := Lib.hid hl0
  clear hc hcc e0 g0 hl0
  generalize hz : ints (repUp n 0 x) = zz at *
  have Hz := Lib.hid hz
  have hzl : zz.length = n := by rw [← hz]; simpa using Hl0.out
  have Hzl := Lib.hid hzl
  clear hz hzl
  go_enter Try.func39, Try.ntmps39
  go_wp2_with (first | (go_at_call 56; refine (cmul n h48 w).mono ?_; rintro e w' ⟨rfl, rfl⟩) | (with_reducible refine wpList_copy_splice rfl _ _ _ _ rfl 3 Try.underlying44 (by kernel_rfl) _ _ _ _ _ _ rfl rfl w.heap.size 0 zz 3 (by exact heap_alloc_new _ _) (ints [x]) ?_ ?_ ?_ ?_ w.heap.size w ((Below.refl _ _).alloc (Nat.le_refl _) _) (Nat.le_refl _) ?_) | fail)
  case refine_1 => show 1 = min 1 n; omega
  case refine_2 =>
    intro j v hj
    match j, hj with
    | 0, hj => simp [ints] at hj; subst hj; exact G0.out
    | j + 1, hj => simp [ints] at hj
  case refine_3 => rw [Hzl.out]; simp; omega
  case refine_4 => intro v hv; simp [ints] at hv; subst hv; rfl
  intro w2 hrow hb2
  have Hrow : Hid (w2.heap[w.heap.size]? = some (.cells (ints (repUp n 1 x)).toArray 3 (0, 0))) := by
    have h := hrow.out
    rw [← Hz.out, repUp_first n x h1] at h
    exact h
  have Hb2 := Lib.hid hb2
  clear hrow hb2 mk w0 w1 Hz Hzl G0
  go_wp2_with fail
  go_loopw [8] (fun c wr => ∃ k : Nat, 1 ≤ k ∧ k ≤ n ∧ c = .int .i64 k ∧ wr.heap[w.heap.size]? = some (.cells (ints (repUp n k x)).toArray 3 (0, 0)) ∧ Below w.heap.size w wr) (fun c _ => n - (intOf c).toNat)
  case atStart => exact ⟨1, by omega, h1, rfl, Hrow.out, Hb2.out⟩
  case round =>
    clear Hrow Hb2
    obtain ⟨k, hk1, hkn, rfl, hrow, hb⟩ := hrel
    have Hrow := Lib.hid hrow
    have Hb := Lib.hid hb
    clear hrow hb
    by_cases hlt : k < n
    · have hnk : ¬ n = k := by omega
      have hcl : (ints (List.replicate (min k (n - k)) x)).length = Nat.min k (n - k) := by rw [ints_length, List.length_replicate]
      have hadd : IntKind.i64.wrap ((k : Int) + ((min k (n - k) : Nat) : Int)) = ((k + min k (n - k) : Nat) : Int) := by rw [IntWalk.i64_in _ (by omega)]; omega
      have Hcp := Lib.hid (repUp_copy n k x hkn)
      have Hget := Lib.hid fun (X : World) (hX : X.heap[w.heap.size]? = some (.cells (ints (repUp n k x)).toArray 3 (0, 0))) (j : Nat) (v : Value) (hj : (ints (List.replicate (min k (n - k)) x))[j]? = some v) => (show X.cell? ((⟨w.heap.size, 0, none⟩ : Addr).add j) = some v by
        rw [addr_add _ _ rfl, Nat.zero_add, cell_of_row X _ _ _ _ _ hX]
        have := repUp_get n k j x v _ (Nat.min_le_left _ _) hj
        simpa using this)
      have hcc : (ints (List.replicate (min k (n - k)) x)).length = min k (n - k) := by simp
      have Hcl := Lib.hid hcl
      have Hcc := Lib.hid hcc
      have Hfit := Lib.hid (show k + (ints (List.replicate (min k (n - k)) x)).length ≤ (ints (repUp n k x)).length by rw [ints_length, ints_length, repUp_length n k x hkn]; simp; omega)
      have Hone := Lib.hid (show ∀ v ∈ ints (List.replicate (min k (n - k)) x), v.oneCell' = true from fun v hv => List.all_eq_true.1 (ints_one _) v hv)
      clear hcl hcc
      generalize ints (repUp n k x) = cur at *
      generalize ints (List.replicate (min k (n - k)) x) = cs at *
      go_wp2_with fail
      go_region_held3 (fun _ => True) (trivial) ((first | (refine step_copy_splice rfl _ _ _ _ (by rfl) 3 Try.underlying44 (by kernel_rfl) (some ⟨w.heap.size, k, none⟩) (some ⟨w.heap.size, 0, none⟩) (n - k) (n - k) k n (by rfl) (by rfl) w.heap.size k cur 3 Hrow.out cs Hcl.out (fun _ => ⟨rfl, _, rfl, Hget.out _ Hrow.out⟩) Hfit.out Hone.out w.heap.size w (Below.drew Hb.out) (Nat.le_refl _) ?_; intro w3 hrow3 hb3) | fail))
      have hcc := Hcc.out
      have Hw : Hid (IntKind.i64.wrap ((k : Int) + (cs.length : Int)) = ((k + min k (n - k) : Nat) : Int)) := by rw [hcc]; exact hadd
      have Hrow3 := Lib.hid hrow3.out
      rw [Hcp.out] at Hrow3
      clear hcc hadd hrow3
      go_roundw
      case rel =>
        repeat apply Exists.intro
        refine ⟨⟨k + min k (n - k), by omega, by omega, ?_, Hrow3.out, hb3⟩, rfl⟩
        exact congrArg _ Hw.out
      case measure => rw [Hw.out]; simp [intOf]; omega
    · obtain rfl : k = n := by omega
      have e : repUp k k x = List.replicate k x := by simp [repUp]
      rw [e] at Hrow
      have Hown : Hid (wr.ownsRow w.heap.size 3 1 (.slice (some ⟨w.heap.size, 0, none⟩) k k) k (ints (List.replicate k x))) :=
        ⟨by simp, .inr ⟨_, k, _, rfl, Nat.le_refl _, Hrow.out, Nat.le_refl _, by unfold maxLen; omega, by simp, by simp [ints]⟩⟩
      clear Hrow e
      go_wp2_with fail
      go_ret
      exact ⟨_, rfl, Hown.out, Hb.out⟩
end Go.Proofs.Ytgmichaconnhaaa
