/- Package frame: a config; May, branch, shared. -/
import Derived.Test.YtgmichaconnhaaaLe
import Derived.Test.YtgmichaconnhaaaHas
namespace Go.Proofs.Ytgmichaconnhaaa
open Go.ChangeShapes Go.WideShapes Go.ChangeAt Go.RowKit
set_option linter.unusedVariables false
set_option linter.unusedSimpArgs false

structure Cfg where
  n : Nat
  labs : List Nat
  ticks : Nat
  minted : List Int
  cap : Nat
structure Cfg.Ok (c : Cfg) : Prop where
  n : 1 ≤ c.n ∧ c.n ≤ 4
  len : c.labs.length ≤ 4
  labs : ∀ x ∈ c.labs, x < 2 ^ c.n
  ticks : 1 ≤ c.ticks ∧ c.ticks ≤ 8
  items : 1 ≤ c.minted.length ∧ c.minted.length ≤ 3
  minted : ∀ x ∈ c.minted, 0 ≤ x ∧ x ≤ 1048576
  cap : c.cap ≤ 1048576
theorem Cfg.Ok.lt16 {c : Cfg} (h : c.Ok) : ∀ x ∈ c.labs, x < 16 := fun x hx => by
  have h1 := h.labs x hx
  have h2 : 2 ^ c.n ≤ 2 ^ 4 := Nat.pow_le_pow_right (by omega) h.n.2
  omega
def Cfg.cells (c : Cfg) (vl vm : Value) : Array Value := #[.int .i64 c.n, vl, .int .i64 c.ticks, vm, .int .i64 c.cap]
structure CfgAt (w : World) (c : Cfg) (vl vm : Value) : Prop where
  hl : Has w 1 vl c.labs.length (ints (labInts c.labs))
  hm : Has w 1 vm c.minted.length (ints c.minted)
theorem CfgAt.on {w w' : World} {c : Cfg} {vl vm : Value} (h : CfgAt w c vl vm) (hb : Below w.heap.size w w') : CfgAt w' c vl vm := ⟨h.hl.below hb, h.hm.below hb⟩
theorem cfin (n lo hi : Int) (h0 : lo ≤ n) (h1 : n ≤ hi) (w : World) : Calls Try.prog 36 #[.int .i64 n, .int .i64 lo, .int .i64 hi] w fun e w' => e = .returned (.bool true) ∧ w = w' := by
  go_enter Try.func36, Try.ntmps36
  go_wp2_with fail
  go_ret
  exact ⟨rfl, rfl⟩
theorem cfin' (n lo hi : Int) (h0 : lo ≤ n) (h1 : n ≤ hi) (w : World) : Calls Try.prog 36 #[.int .i64 n, .int .i64 lo, .int .i64 hi] w fun e w' => e = .returned (.bool true) ∧ w' = w :=
  (cfin n lo hi h0 h1 w).mono fun _ _ h => ⟨h.1, h.2.symm⟩
set_option maxRecDepth 100000 in
set_option maxHeartbeats 2000000 in
theorem cMay1 (b o lab n : Nat) (hn : n ≤ 4) (hl : lab < 2 ^ n) (w : World) (hb : w.cell? ⟨b, o, none⟩ = some (.int .i64 n)) :
    Calls Try.prog 50 #[.int .i64 lab, .pointer (some ⟨b, o, none⟩)] w fun e w' => e = .returned (.bool false) ∧ w = w' := by
  have h2 : 2 ^ n ≤ 2 ^ 4 := Nat.pow_le_pow_right (by omega) hn
  have hz : (lab : Int) / 2 ^ n = 0 := by
    have : lab / 2 ^ n = 0 := Nat.div_eq_of_lt hl
    have e : (lab : Int) / 2 ^ n = ((lab / 2 ^ n : Nat) : Int) := by push_cast; rfl
    rw [e, this]; rfl
  have hl16 : lab < 16 := by omega
  clear h2 hl
  go_enter Try.func50, Try.ntmps50
  go_wp2_with (go_at_call 51; refine (lmay_true _ (by omega) (by omega) _).mono ?_; rintro e w' ⟨rfl, rfl⟩)
  go_ret
  refine ⟨ret_bool ?_, rfl⟩
  first | (simp; done) | (simp; omega) | (simp [hz])
set_option maxRecDepth 100000 in
theorem cMay2 (x : Int) (h0 : 0 ≤ x) (h1 : x ≤ 1048576) (w : World) :
    Calls Try.prog 52 #[.int .i64 x] w fun e w' => e = .returned (.bool false) ∧ w = w' := by
  go_enter Try.func52, Try.ntmps52
  go_wp2_with (go_at_call 36; refine (cfin _ _ _ (by omega) (by omega) _).mono ?_; rintro e w' ⟨rfl, rfl⟩)
  go_ret
  exact ⟨rfl, rfl⟩
theorem cfg_at {W : World} {b : Nat} {c : Cfg} {vl vm : Value} {e : TypeId} (h : W.heap[b]? = some (.cells (c.cells vl vm) e (0, 0))) : W.cell? ⟨b, 0, none⟩ = some (.int .i64 c.n) ∧ W.cell? ⟨b, 1, none⟩ = some vl ∧ W.cell? ⟨b, 2, none⟩ = some (.int .i64 c.ticks) ∧ W.cell? ⟨b, 3, none⟩ = some vm ∧ W.cell? ⟨b, 4, none⟩ = some (.int .i64 c.cap) := by
  unfold Cfg.cells at h
  exact ⟨by rw [cell_of_row W _ _ _ _ _ h]; rfl, by rw [cell_of_row W _ _ _ _ _ h]; rfl, by rw [cell_of_row W _ _ _ _ _ h]; rfl, by rw [cell_of_row W _ _ _ _ _ h]; rfl, by rw [cell_of_row W _ _ _ _ _ h]; rfl⟩
theorem cfg_box (w : World) (c : Cfg) (vl vm : Value) : Below w.heap.size w (w.alloc (.cells (c.cells vl vm) 55)) := (Below.refl _ _).alloc (Nat.le_refl _) _
set_option maxRecDepth 100000 in
set_option maxHeartbeats 4000000 in
theorem cFMay {w : World} {c : Cfg} {vl vm : Value} (hc : c.Ok) (h : CfgAt w c vl vm) :
    Calls Try.prog 35 #[.agg (c.cells vl vm)] w fun e w' => e = .returned (.bool true) ∧ Below w.heap.size w w' := by
  have hb := cfg_box w c vl vm
  obtain ⟨x0, x1, x2, x3, x4⟩ := cfg_at (heap_alloc_new w (.cells (c.cells vl vm) 55))
  have H := Lib.hid (h.on hb)
  have Hb := Lib.hid hb
  have hlen := hc.len
  obtain ⟨hn1, hn2⟩ := hc.n
  obtain ⟨ht1, ht2⟩ := hc.ticks
  obtain ⟨hi1, hi2⟩ := hc.items
  have hcp := hc.cap
  have HL := Lib.hid hc.labs
  have HM := Lib.hid hc.minted
  obtain ⟨_, la, cl, rfl, _, _, _⟩ := h.hl
  obtain ⟨_, ma, cm, rfl, _, _, _⟩ := h.hm
  have F1 := Lib.hid fun X => cfin c.n 1 8 (by omega) (by omega) X
  have F2 := Lib.hid fun X => cfin c.ticks 1 8 (by omega) (by omega) X
  have F3 := Lib.hid fun X => cfin c.minted.length 1 3 (by omega) (by omega) X
  have F4 := Lib.hid fun X => cfin c.cap 0 1048576 (by omega) (by omega) X
  unfold Cfg.cells at x0 x1 x2 x3 x4 Hb H hb ⊢
  have K1 : Hid (Calls Try.prog 49 #[.slice la c.labs.length cl, .func (.func 50) #[] #[.pointer (some ⟨w.heap.size, 0, none⟩)]] (w.alloc (.cells #[.int .i64 c.n, .slice la c.labs.length cl, .int .i64 c.ticks, .slice ma c.minted.length cm, .int .i64 c.cap] 55)) fun e w' => e = .returned (.bool false) ∧ (w.alloc (.cells #[.int .i64 c.n, .slice la c.labs.length cl, .int .i64 c.ticks, .slice ma c.minted.length cm, .int .i64 c.cap] 55)) = w') :=
    cHasNone (l := labInts c.labs) _ _ (enters_of Try.func50 (by kernel_rfl) rfl) (fun x hx => by
      simp only [labInts, List.mem_map] at hx
      obtain ⟨y, hy, rfl⟩ := hx
      exact cMay1 _ _ y c.n hn2 (HL.out y hy) _ x0) (by have := H.out.hl; simpa [labInts] using this)
  have K2 : Hid (Calls Try.prog 49 #[.slice ma c.minted.length cm, .func (.func 52) #[] #[]] (w.alloc (.cells #[.int .i64 c.n, .slice la c.labs.length cl, .int .i64 c.ticks, .slice ma c.minted.length cm, .int .i64 c.cap] 55)) fun e w' => e = .returned (.bool false) ∧ (w.alloc (.cells #[.int .i64 c.n, .slice la c.labs.length cl, .int .i64 c.ticks, .slice ma c.minted.length cm, .int .i64 c.cap] 55)) = w') :=
    cHasNone (l := c.minted) _ _ (enters_of Try.func52 (by kernel_rfl) rfl) (fun x hx => cMay2 x (HM.out x hx).1 (HM.out x hx).2 _) H.out.hm
  clear hb H HL HM hc h
  go_enter Try.func35, Try.ntmps35
  go_upto_region 1 with (fail)
  generalize (w.alloc (.cells #[.int .i64 c.n, .slice la c.labs.length cl, .int .i64 c.ticks, .slice ma c.minted.length cm, .int .i64 c.cap] 55)) = W at *
  go_wp2_with (first | (go_at_call 36; with_reducible refine (F1.out _).mono ?_; rintro e w' ⟨rfl, rfl⟩) | (go_at_call 36; with_reducible refine (F2.out _).mono ?_; rintro e w' ⟨rfl, rfl⟩) | (go_at_call 36; with_reducible refine (F3.out _).mono ?_; rintro e w' ⟨rfl, rfl⟩) | (go_at_call 36; with_reducible refine (F4.out _).mono ?_; rintro e w' ⟨rfl, rfl⟩) | (go_at_call 49; with_reducible refine K1.out.mono ?_; rintro e w' ⟨rfl, rfl⟩) | (go_at_call 49; with_reducible refine K2.out.mono ?_; rintro e w' ⟨rfl, rfl⟩))
  go_ret
  exact ⟨rfl, Hb.out⟩
end Go.Proofs.Ytgmichaconnhaaa
