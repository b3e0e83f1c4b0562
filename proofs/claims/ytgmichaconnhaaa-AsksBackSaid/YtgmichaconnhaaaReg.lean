/- Package reg: entries; cmp.Compare, cmp.Or, Newer; EntryOf. -/
import Derived.Test.YtgmichaconnhaaaGrow
namespace Go.Proofs.Ytgmichaconnhaaa
open Go.ChangeShapes Go.WideShapes Go.ChangeAt Go.RowKit
set_option linter.unusedVariables false

/-- An entry: key, value, time, who, gone. -/
structure Ent where
  k : Int
  v : Int
  t : Int
  h : Int
  g : Bool
def Ent.cells (e : Ent) : List Value := [.int .i64 e.k, .int .i64 e.v, .int .i64 e.t, .int .i64 e.h, .bool e.g]
def Ent.val (e : Ent) : Value := .agg #[.int .i64 e.k, .int .i64 e.v, .int .i64 e.t, .int .i64 e.h, .bool e.g]
def cmpI (a b : Int) : Int := if a < b then -1 else if b < a then 1 else 0
theorem ccompare (a b : Int) (w : World) :
    Calls Try.prog 44 #[.int .i64 a, .int .i64 b] w fun e w' => e = .returned (.int .i64 (cmpI a b)) ∧ w = w' := by
  have hnan : ∀ (x : Int) (X : World), Calls Try.prog 62 #[.int .i64 x] X fun e w' => e = .returned (.bool false) ∧ X = w' := fun x X => by
    go_enter Try.func62, Try.ntmps62
    go_wp2
    go_ret
    exact ⟨rfl, rfl⟩
  have Hn := Lib.hid hnan
  clear hnan
  have H1 := Lib.hid (show ∀ _ : a < b, cmpI a b = -1 from fun h => by simp [cmpI, h])
  have H2 := Lib.hid (show ∀ _ : b < a, cmpI a b = 1 from fun h => by unfold cmpI; rw [if_neg (by omega), if_pos h])
  have H3 := Lib.hid (show ∀ _ : a = b, cmpI a b = 0 from fun h => by unfold cmpI; rw [if_neg (by omega), if_neg (by omega)])
  by_cases h1 : a < b
  · go_enter Try.func44, Try.ntmps44
    go_wp2_with (go_at_call 62; with_reducible refine (Hn.out _ _).mono ?_; rintro e w' ⟨rfl, rfl⟩)
    go_ret
    rw [H1.out h1]; exact ⟨rfl, rfl⟩
  · by_cases h2 : b < a
    · go_enter Try.func44, Try.ntmps44
      go_wp2_with (go_at_call 62; with_reducible refine (Hn.out _ _).mono ?_; rintro e w' ⟨rfl, rfl⟩)
      go_ret
      rw [H2.out h2]; exact ⟨rfl, rfl⟩
    · go_enter Try.func44, Try.ntmps44
      go_wp2_with (go_at_call 62; with_reducible refine (Hn.out _ _).mono ?_; rintro e w' ⟨rfl, rfl⟩)
      go_ret
      rw [H3.out (by omega)]; exact ⟨rfl, rfl⟩
def flagI (b : Bool) : Int := if b then 1 else 0
theorem cflag (b : Bool) (w : World) :
    Calls Try.prog 45 #[.bool b] w fun e w' => e = .returned (.int .i64 (flagI b)) ∧ w = w' := by
  cases b
  · go_enter Try.func45, Try.ntmps45
    go_wp2
    go_ret
    exact ⟨rfl, rfl⟩
  · go_enter Try.func45, Try.ntmps45
    go_wp2
    go_ret
    exact ⟨rfl, rfl⟩
/-- The first that is not 0. -/
def orI : List Int → Int
  | [] => 0
  | z :: l => if z = 0 then orI l else z
theorem cor (v : Value) (zs : List Int) (w : World) (h : Has w 1 v zs.length (ints zs)) :
    Calls Try.prog 43 #[v] w fun e w' => e = .returned (.int .i64 (orI zs)) ∧ w = w' := by
  obtain ⟨hl, a, cap, rfl, hn, hm, hc⟩ := h
  unfold maxLen at hm
  go_enter Try.func43, Try.ntmps43
  go_wp2
  go_loop [5, 8] (fun x i => ∃ k : Nat, k ≤ zs.length ∧ i = .int .i64 k ∧ orI zs = orI (zs.drop k)) (fun _ i => zs.length - (intOf i).toNat)
  case atStart => exact ⟨0, by omega, rfl, rfl⟩
  case round =>
    obtain ⟨k, hk, rfl, ho⟩ := hrel
    have Ho := Lib.hid ho
    clear ho
    by_cases h1 : k < zs.length
    · obtain ⟨b, off, rfl, hcc⟩ := hc (by simp; omega)
      have g := hcc _ _ (ints_get zs k h1)
      have Hd := Lib.hid (show orI (zs.drop k) = if zs[k] = 0 then orI (zs.drop (k + 1)) else zs[k] by rw [List.drop_eq_getElem_cons h1]; rfl)
      clear hc hcc
      by_cases h2 : zs[k] = 0
      · have h2' : (zs[k] != 0) = false := by simp [h2]
        have Hr := Lib.hid (show orI zs = orI (zs.drop (k + 1)) by rw [Ho.out, Hd.out, if_pos h2])
        clear h2
        go_wp2
        go_round
        case rel => exact ⟨k + 1, by omega, by go_num, Hr.out⟩
        case measure => simp [intOf]; omega
      · have h2' : (zs[k] != 0) = true := by simp [h2]
        have Hr := Lib.hid (show orI zs = zs[k] by rw [Ho.out, Hd.out, if_neg h2])
        clear h2
        go_wp2
        go_ret
        exact ⟨ret_int Hr.out.symm, rfl⟩
    · obtain rfl : k = zs.length := by omega
      have Hr := Lib.hid (show orI zs = 0 by rw [Ho.out, List.drop_length]; rfl)
      clear hc
      go_wp2
      go_ret
      exact ⟨ret_int Hr.out.symm, rfl⟩
def newer (a b : Ent) : Bool := decide (0 < orI [cmpI a.t b.t, cmpI a.h b.h, cmpI (flagI b.g) (flagI a.g), cmpI a.v b.v])
set_option maxRecDepth 100000 in
set_option maxHeartbeats 2000000 in
theorem cnewer (a b : Ent) (w : World) :
    Calls Try.prog 30 #[a.val, b.val] w fun e w' => e = .returned (.bool (newer a b)) ∧ Below w.heap.size w w' := by
  obtain ⟨k1, v1, t1, h1, g1⟩ := a
  obtain ⟨k2, v2, t2, h2, g2⟩ := b
  have Hc := Lib.hid (fun (x y : Int) (X : World) => (ccompare x y X).mono fun _ _ h => same_symm h)
  have Hf := Lib.hid (fun (x : Bool) (X : World) => (cflag x X).mono fun _ _ h => same_symm h)
  unfold Ent.val
  go_enter Try.func30, Try.ntmps30
  go_wp2
  refine wp_still_tail 22 (by kernel_rfl) (by kernel_rfl) ?_
  simp only [List.take_succ_cons, List.take_zero, List.drop_succ_cons, List.drop_zero]
  repeat (first | still_step | still_call (Hc.out _ _ _) | still_call (Hf.out _ _))
  refine wpStill_nil ?_
  go_wp2_with fail
  refine (cor _ [cmpI t1 t2, cmpI h1 h2, cmpI (flagI g2) (flagI g1), cmpI v1 v2] _ (has_block (by first | exact heap_alloc_new _ _ | (simp only [heap_drew, heap_drewN]; exact heap_alloc_new _ _)) (by simp) (by simp) (by unfold maxLen; simp))).mono ?_
  rintro e w' ⟨rfl, rfl⟩
  go_wp2
  go_ret
  exact ⟨ret_bool rfl, (by repeat (first | exact Below.refl _ _ | refine Below.drew ?_ | refine Below.alloc ?_ (by first | (simp; done) | (simp; omega)) _ | refine Below.setCell ?_ (by first | (simp; done) | (simp; omega)) _))⟩
end Go.Proofs.Ytgmichaconnhaaa
