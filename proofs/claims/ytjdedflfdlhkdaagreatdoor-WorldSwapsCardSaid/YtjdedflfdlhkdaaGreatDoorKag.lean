/- Texts that the claim imports, laid together: FrmA FrmK FrmB FrmC FrmD FrmE FrmF. No statement of their own. -/
import Derived.Test.YtjdedflfdlhkdaaGreatDoorKaa
import Derived.Test.YtjdedflfdlhkdaaGreatDoorKac
import Derived.Test.YtjdedflfdlhkdaaGreatDoorKad
import Derived.Test.YtjdedflfdlhkdaaGreatDoorKaf
namespace Go.Proofs.YtjdedflfdlhkdaaGreatDoor
open Go.ChangeShapes Go.WideShapes Go.ChangeAt Go.RowKit
set_option linter.unusedVariables false
set_option linter.unusedSimpArgs false

structure Cfg where
  n : Nat
  labs : List Nat
  ticks : Nat
  minted : List Int
  cap : Nat
structure Cfg.Ok (c : Cfg) : Prop where
  n : 1 ≤ c.n ∧ c.n ≤ 4
  len : c.labs.length ≤ 4
  labs : ∀ x ∈ c.labs, x < 2 ^ c.n
  ticks : 1 ≤ c.ticks ∧ c.ticks ≤ 8
  items : 1 ≤ c.minted.length ∧ c.minted.length ≤ 3
  minted : ∀ x ∈ c.minted, 0 ≤ x ∧ x ≤ 1048576
  cap : c.cap ≤ 1048576
theorem Cfg.Ok.lt16 {c : Cfg} (h : c.Ok) : ∀ x ∈ c.labs, x < 16 := fun x hx => by
  have h1 := h.labs x hx
  have h2 : 2 ^ c.n ≤ 2 ^ 4 := Nat.pow_le_pow_right (by omega) h.n.2
  omega
def Cfg.cells (c : Cfg) (vl vm : Value) : Array Value := #[.int .i64 c.n, vl, .int .i64 c.ticks, vm, .int .i64 c.cap]
structure CfgAt (w : World) (c : Cfg) (vl vm : Value) : Prop where
  hl : Has w 1 vl c.labs.length (ints (labInts c.labs))
  hm : Has w 1 vm c.minted.length (ints c.minted)
theorem CfgAt.on {w w' : World} {c : Cfg} {vl vm : Value} (h : CfgAt w c vl vm) (hb : Below w.heap.size w w') : CfgAt w' c vl vm := ⟨h.hl.below hb, h.hm.below hb⟩
theorem cfin (n lo hi : Int) (h0 : lo ≤ n) (h1 : n ≤ hi) (w : World) : Calls Tryz.prog 46 #[.int .i64 n, .int .i64 lo, .int .i64 hi] w fun e w' => e = .returned (.bool true) ∧ w = w' := by
  go_enter Tryz.func46, Tryz.ntmps46
  go_wp2_with fail
  go_ret
  exact ⟨rfl, rfl⟩
theorem cfin' (n lo hi : Int) (h0 : lo ≤ n) (h1 : n ≤ hi) (w : World) : Calls Tryz.prog 46 #[.int .i64 n, .int .i64 lo, .int .i64 hi] w fun e w' => e = .returned (.bool true) ∧ w' = w :=
  (cfin n lo hi h0 h1 w).mono fun _ _ h => ⟨h.1, h.2.symm⟩
set_option maxRecDepth 100000 in
set_option maxHeartbeats 2000000 in
theorem cMay1 (b o lab n : Nat) (hn : n ≤ 4) (hl : lab < 2 ^ n) (w : World) (hb : w.cell? ⟨b, o, none⟩ = some (.int .i64 n)) :
    Calls Tryz.prog 48 #[.int .i64 lab, .pointer (some ⟨b, o, none⟩)] w fun e w' => e = .returned (.bool false) ∧ w = w' := by
  have h2 : 2 ^ n ≤ 2 ^ 4 := Nat.pow_le_pow_right (by omega) hn
  have hz : (lab : Int) / 2 ^ n = 0 := by
    have : lab / 2 ^ n = 0 := Nat.div_eq_of_lt hl
    have e : (lab : Int) / 2 ^ n = ((lab / 2 ^ n : Nat) : Int) := by push_cast; rfl
    rw [e, this]; rfl
  have hl16 : lab < 16 := by omega
  clear h2 hl
  go_enter Tryz.func48, Tryz.ntmps48
  go_wp2_with (go_at_call 35; refine (lmay_true _ (by omega) (by omega) _).mono ?_; rintro e w' ⟨rfl, rfl⟩)
  go_ret
  refine ⟨ret_bool ?_, rfl⟩
  first | (simp; done) | (simp; omega) | (simp [hz])
set_option maxRecDepth 100000 in
theorem cMay2 (x : Int) (h0 : 0 ≤ x) (h1 : x ≤ 1048576) (w : World) :
    Calls Tryz.prog 49 #[.int .i64 x] w fun e w' => e = .returned (.bool false) ∧ w = w' := by
  go_enter Tryz.func49, Tryz.ntmps49
  go_wp2_with (go_at_call 46; refine (cfin _ _ _ (by omega) (by omega) _).mono ?_; rintro e w' ⟨rfl, rfl⟩)
  go_ret
  exact ⟨rfl, rfl⟩
theorem cfg_at {W : World} {b : Nat} {c : Cfg} {vl vm : Value} {e : TypeId} (h : W.heap[b]? = some (.cells (c.cells vl vm) e (0, 0))) : W.cell? ⟨b, 0, none⟩ = some (.int .i64 c.n) ∧ W.cell? ⟨b, 1, none⟩ = some vl ∧ W.cell? ⟨b, 2, none⟩ = some (.int .i64 c.ticks) ∧ W.cell? ⟨b, 3, none⟩ = some vm ∧ W.cell? ⟨b, 4, none⟩ = some (.int .i64 c.cap) := by
  unfold Cfg.cells at h
  exact ⟨by rw [cell_of_row W _ _ _ _ _ h]; rfl, by rw [cell_of_row W _ _ _ _ _ h]; rfl, by rw [cell_of_row W _ _ _ _ _ h]; rfl, by rw [cell_of_row W _ _ _ _ _ h]; rfl, by rw [cell_of_row W _ _ _ _ _ h]; rfl⟩
theorem cfg_box (w : World) (c : Cfg) (vl vm : Value) : Below w.heap.size w (w.alloc (.cells (c.cells vl vm) 25)) := (Below.refl _ _).alloc (Nat.le_refl _) _
set_option maxRecDepth 100000 in
set_option maxHeartbeats 4000000 in
theorem cFMay {w : World} {c : Cfg} {vl vm : Value} (hc : c.Ok) (h : CfgAt w c vl vm) :
    Calls Tryz.prog 34 #[.agg (c.cells vl vm)] w fun e w' => e = .returned (.bool true) ∧ Below w.heap.size w w' := by
  have hb := cfg_box w c vl vm
  obtain ⟨x0, x1, x2, x3, x4⟩ := cfg_at (heap_alloc_new w (.cells (c.cells vl vm) 25))
  have H := Lib.hid (h.on hb)
  have Hb := Lib.hid hb
  have hlen := hc.len
  obtain ⟨hn1, hn2⟩ := hc.n
  obtain ⟨ht1, ht2⟩ := hc.ticks
  obtain ⟨hi1, hi2⟩ := hc.items
  have hcp := hc.cap
  have HL := Lib.hid hc.labs
  have HM := Lib.hid hc.minted
  obtain ⟨_, la, cl, rfl, _, _, _⟩ := h.hl
  obtain ⟨_, ma, cm, rfl, _, _, _⟩ := h.hm
  have F1 := Lib.hid fun X => cfin c.n 1 8 (by omega) (by omega) X
  have F2 := Lib.hid fun X => cfin c.ticks 1 8 (by omega) (by omega) X
  have F3 := Lib.hid fun X => cfin c.minted.length 1 3 (by omega) (by omega) X
  have F4 := Lib.hid fun X => cfin c.cap 0 1048576 (by omega) (by omega) X
  unfold Cfg.cells at x0 x1 x2 x3 x4 Hb H hb ⊢
  have K1 : Hid (Calls Tryz.prog 47 #[.slice la c.labs.length cl, .func (.func 48) #[] #[.pointer (some ⟨w.heap.size, 0, none⟩)]] (w.alloc (.cells #[.int .i64 c.n, .slice la c.labs.length cl, .int .i64 c.ticks, .slice ma c.minted.length cm, .int .i64 c.cap] 25)) fun e w' => e = .returned (.bool false) ∧ (w.alloc (.cells #[.int .i64 c.n, .slice la c.labs.length cl, .int .i64 c.ticks, .slice ma c.minted.length cm, .int .i64 c.cap] 25)) = w') :=
    cHasNone (l := labInts c.labs) _ _ (enters_of Tryz.func48 (by kernel_rfl) rfl) (fun x hx => by
      simp only [labInts, List.mem_map] at hx
      obtain ⟨y, hy, rfl⟩ := hx
      exact cMay1 _ _ y c.n hn2 (HL.out y hy) _ x0) (by have := H.out.hl; simpa [labInts] using this)
  have K2 : Hid (Calls Tryz.prog 47 #[.slice ma c.minted.length cm, .func (.func 49) #[] #[]] (w.alloc (.cells #[.int .i64 c.n, .slice la c.labs.length cl, .int .i64 c.ticks, .slice ma c.minted.length cm, .int .i64 c.cap] 25)) fun e w' => e = .returned (.bool false) ∧ (w.alloc (.cells #[.int .i64 c.n, .slice la c.labs.length cl, .int .i64 c.ticks, .slice ma c.minted.length cm, .int .i64 c.cap] 25)) = w') :=
    cHasNone (l := c.minted) _ _ (enters_of Tryz.func49 (by kernel_rfl) rfl) (fun x hx => cMay2 x (HM.out x hx).1 (HM.out x hx).2 _) H.out.hm
  clear hb H HL HM hc h
  go_enter Tryz.func34, Tryz.ntmps34
  go_upto_region 1 with (fail)
  generalize (w.alloc (.cells #[.int .i64 c.n, .slice la c.labs.length cl, .int .i64 c.ticks, .slice ma c.minted.length cm, .int .i64 c.cap] 25)) = W at *
  go_wp2_with (first | (go_at_call 46; with_reducible refine (F1.out _).mono ?_; rintro e w' ⟨rfl, rfl⟩) | (go_at_call 46; with_reducible refine (F2.out _).mono ?_; rintro e w' ⟨rfl, rfl⟩) | (go_at_call 46; with_reducible refine (F3.out _).mono ?_; rintro e w' ⟨rfl, rfl⟩) | (go_at_call 46; with_reducible refine (F4.out _).mono ?_; rintro e w' ⟨rfl, rfl⟩) | (go_at_call 47; with_reducible refine K1.out.mono ?_; rintro e w' ⟨rfl, rfl⟩) | (go_at_call 47; with_reducible refine K2.out.mono ?_; rintro e w' ⟨rfl, rfl⟩))
  go_ret
  exact ⟨rfl, Hb.out⟩
end Go.Proofs.YtjdedflfdlhkdaaGreatDoor

namespace Go.Proofs.YtjdedflfdlhkdaaGreatDoor
open Go.ChangeShapes Go.WideShapes Go.ChangeAt Go.RowKit
set_option linter.unusedVariables false
set_option linter.unusedSimpArgs false

def askF (l : List Int) : List (Int × Int) := l.map fun n => (21, n)
theorem askF_len (l : List Int) : (askF l).length = l.length := by simp [askF]
theorem askF_ok {l : List Int} (h : ∀ x ∈ l, 0 ≤ x ∧ x ≤ 1048576) (hl : l.length ≤ 40) : FieldsOk (askF l) := by
  refine ⟨by rw [askF_len]; exact hl, fun p hp => ?_⟩
  simp only [askF, List.mem_map] at hp
  obtain ⟨x, hx, rfl⟩ := hp
  have := h x hx
  have e : (2 : Int) ^ (Int.toNat 21) = 2097152 := by decide
  simp only [e]
  omega
theorem askF_snoc (l : List Int) (k : Nat) (hk : k < l.length) : askF (l.take (k + 1)) = askF (l.take k) ++ [(21, l[k])] := by
  rw [take_snoc l k hk]; unfold askF; rw [List.map_append]; rfl
theorem askF_size (l : List Int) : recSize (askF l) = (l.length * 21 + 7) / 8 := by
  unfold recSize
  congr 2
  unfold recBits askF
  induction l with
  | nil => rfl
  | cons a t ih => rw [List.map_cons, List.flatMap_cons, List.length_append, ih, fieldBits_length, List.length_cons, Nat.succ_mul]; simp only [Int.toNat]; omega
set_option maxRecDepth 100000 in
set_option maxHeartbeats 2000000 in
theorem cMax (v : Value) (l : List Int) (w : World) (h : Has w 1 v l.length (ints l)) (h0 : 0 < l.length) (hl : ∀ x ∈ l, 0 ≤ x ∧ x ≤ 1048576) :
    Calls Tryz.prog 86 #[v] w fun e w' => ∃ x : Int, (e = .returned (.int .i64 x) ∧ x ≤ 1048576) ∧ Below w.heap.size w w' := by
  obtain ⟨⟨hl0, _⟩, a, cap, rfl, h1, h2, hc⟩ := h
  obtain ⟨b, o, rfl, hcc⟩ := hc (by simp; omega)
  have hcell : Hid (∀ k (hk : k < l.length), w.cell? ⟨b, o + k, none⟩ = some (.int .i64 l[k])) := fun k hk => hcc k _ (ints_get l k hk)
  have c0 := hcell.out 0 h0
  rw [Nat.add_zero] at c0
  have HL := Lib.hid hl
  have hx0 := hl _ (List.getElem_mem h0)
  have h0z : (0 : Int) < (l.length : Int) := by omega
  have hz1 : decide ((l.length : Int) < 1) = false := by simp; omega
  unfold maxLen at h2
  generalize l[0] = x0 at *
  clear hc hcc hl
  go_enter Tryz.func86, Tryz.ntmps86
  go_wp2_with fail
  go_loopw [3, 4] (fun m i wr => ∃ (k : Nat) (x : Int), 1 ≤ k ∧ k ≤ l.length ∧ i = .int .i64 k ∧ m = .int .i64 x ∧ 0 ≤ x ∧ x ≤ 1048576 ∧ Hid (Below w.heap.size w wr)) (fun _ i _ => l.length - (intOf i).toNat)
  case atStart => exact ⟨1, x0, by omega, by omega, rfl, rfl, hx0.1, hx0.2, Below.refl _ _⟩
  case round =>
    obtain ⟨k, x, hk1, hk, rfl, rfl, hx1, hx2, HB⟩ := hrel
    by_cases hlt : k < l.length
    · have hltz : (k : Int) < (l.length : Int) := by omega
      have z0 := cell_on HB.out (hcell.out k hlt)
      have hy := HL.out _ (List.getElem_mem hlt)
      generalize l[k] = y at *
      go_wp2_with fail
      all_goals
        go_roundw
        case rel => first | exact ⟨k + 1, _, by omega, by omega, by go_num, rfl, by omega, by omega, HB⟩ | exact ⟨k + 1, y, by omega, by omega, by go_num, rfl, by omega, by omega, HB⟩ | exact ⟨k + 1, x, by omega, by omega, by go_num, rfl, by omega, by omega, HB⟩
        case measure => first | (simp [intOf]; done) | (simp [intOf]; omega)
    · obtain rfl : k = l.length := by omega
      go_wp2_with fail
      go_ret
      exact ⟨x, ⟨rfl, hx2⟩, HB.out⟩
end Go.Proofs.YtjdedflfdlhkdaaGreatDoor

namespace Go.Proofs.YtjdedflfdlhkdaaGreatDoor
open Go.ChangeShapes Go.WideShapes Go.ChangeAt Go.RowKit
set_option linter.unusedVariables false
set_option linter.unusedSimpArgs false

def slotOf (e : Ent) : Int := (((if e.g = true then 3 else 2) * 256 + e.v) * 2097152 + e.t) * 8 + e.h
theorem or_join (i : Nat) (hi : i ≤ 60) (x y : Int) (hx : x % 2 ^ i = 0) (hx0 : 0 ≤ x) (hx1 : x < 4611686018427387904) (hy0 : 0 ≤ y) (hy : y < 2 ^ i) : bits BinOp.or IntKind.i64 x y = x + y :=
  bits_join .i64 62 (by decide) (fun n h0 h1 => IntWalk.i64_in n (by omega)) i x y hx0 hx (by omega) hy0 hy (by
    have : (2 : Int) ^ i ≤ 2 ^ 60 := by exact_mod_cast Nat.pow_le_pow_right (by omega) hi
    omega)
theorem and_mask (i : Nat) (hi : i ≤ 62) (x : Int) (h0 : 0 ≤ x) (h1 : x < 4611686018427387904) : bits BinOp.and IntKind.i64 x (2 ^ i - 1) = x % 2 ^ i :=
  bits_mask .i64 62 (by decide) (fun n h0 h1 => IntWalk.i64_in n (by omega)) i hi x h0 (by omega)
theorem slot_val (q v t h : Int) (hq : 0 ≤ q ∧ q ≤ 3) (hv : 0 ≤ v ∧ v ≤ 255) (ht : 0 ≤ t ∧ t ≤ 1048576) (hh : 0 ≤ h ∧ h ≤ 7) :
    bits BinOp.or IntKind.i64 (wrap64 (bits BinOp.or IntKind.i64 (wrap64 (bits BinOp.or IntKind.i64 (q * 256) v * 2097152)) t * 8)) h = ((q * 256 + v) * 2097152 + t) * 8 + h := by
  have w1 : ∀ x : Int, 0 ≤ x → x < 4611686018427387904 → wrap64 x = x := fun x h0 h1 => IntWalk.wrap64_in x (by omega)
  have e1 := or_join 8 (by omega) (q * 256) v (by omega) (by omega) (by omega) (by omega) (by omega)
  have e2 := w1 ((q * 256 + v) * 2097152) (by omega) (by omega)
  have e3 := or_join 21 (by omega) ((q * 256 + v) * 2097152) t (by omega) (by omega) (by omega) (by omega) (by omega)
  have e4 := w1 (((q * 256 + v) * 2097152 + t) * 8) (by omega) (by omega)
  have e5 := or_join 3 (by omega) (((q * 256 + v) * 2097152 + t) * 8) h (by omega) (by omega) (by omega) (by omega) (by omega)
  rw [e1, e2, e3, e4, e5]
theorem slotOf_bd {e : Ent} (he : e.Ok) (hv : e.v ≤ 255) : 4294967296 ≤ slotOf e ∧ slotOf e < 17179869184 := by
  have h1 := he.v
  have h2 := he.t
  have h3 := he.h
  unfold slotOf
  split <;> omega
set_option maxRecDepth 100000 in
set_option maxHeartbeats 2000000 in
theorem cslot (e : Ent) (he : e.Ok) (hv : e.v ≤ 255) (w : World) :
    Calls Tryz.prog 82 #[.agg #[.int .i64 e.k, .int .i64 e.v, .int .i64 e.t, .int .i64 e.h, .bool e.g]] w fun e' w' => e' = .returned (.int .i64 (slotOf e)) ∧ Below w.heap.size w w' := by
  have hb := ent_box (w := w) e
  obtain ⟨⟨x0, x1, x2, x3, x4⟩, -⟩ := five_at (heap_alloc_new w (.cells #[.int .i64 e.k, .int .i64 e.v, .int .i64 e.t, .int .i64 e.h, .bool e.g] 77))
  have Hb := Lib.hid hb
  have h1 := he.v
  have h2 := he.t
  have h3 := he.h
  obtain ⟨k, v, t, h, g⟩ := e
  simp only at *
  clear hb he
  cases g
  · have HS := Lib.hid (slot_val 2 v t h (by omega) (by omega) (by omega) (by omega))
    go_enter Tryz.func82, Tryz.ntmps82
    go_upto_region 4 with (fail)
    go_wp2_with fail
    go_ret
    exact ⟨ret_int (by rw [show (512 : Int) = 2 * 256 from rfl]; exact HS.out), Hb.out⟩
  · have HS := Lib.hid (slot_val 3 v t h (by omega) (by omega) (by omega) (by omega))
    go_enter Tryz.func82, Tryz.ntmps82
    go_upto_region 4 with (fail)
    go_wp2_with fail
    go_ret
    exact ⟨ret_int (by rw [show (768 : Int) = 3 * 256 from rfl]; exact HS.out), Hb.out⟩
/-- What a slot says. -/
def entOfSlot (key n : Int) : Ent × Bool := (⟨key, n / 8 / 2097152 % 256, n / 8 % 2097152, n % 8, n / 8 / 2097152 / 256 == 3⟩, decide (0 < n / 8 / 2097152 / 256))
theorem slot_back {e : Ent} (he : e.Ok) (hv : e.v ≤ 255) : entOfSlot e.k (slotOf e) = (e, true) := by
  have h1 := he.v
  have h2 := he.t
  have h3 := he.h
  obtain ⟨k, v, t, h, g⟩ := e
  unfold entOfSlot slotOf
  simp only at *
  cases g
  · simp only [Bool.false_eq_true, if_false, Prod.mk.injEq, Ent.mk.injEq, true_and]
    refine ⟨⟨by omega, by omega, by omega, ?_⟩, ?_⟩
    · rw [beq_eq_false_iff_ne]; omega
    · rw [decide_eq_true_eq]; omega
  · simp only [if_true, Prod.mk.injEq, Ent.mk.injEq, true_and]
    refine ⟨⟨by omega, by omega, by omega, ?_⟩, ?_⟩
    · rw [beq_iff_eq]; omega
    · rw [decide_eq_true_eq]; omega
theorem slot_none (key : Int) : entOfSlot key 0 = (⟨key, 0, 0, 0, false⟩, false) := rfl
set_option maxRecDepth 100000 in
set_option maxHeartbeats 2000000 in
theorem centry (key n : Int) (h0 : 0 ≤ n) (h1 : n < 17179869184) (w : World) :
    Calls Tryz.prog 87 #[.int .i64 key, .int .i64 n] w fun e' w' => e' = .returned (.tuple #[(entOfSlot key n).1.val, .bool (entOfSlot key n).2]) ∧ Below w.heap.size w w' := by
  have m1 := and_mask 3 (by omega) n h0 (by omega)
  have m2 := and_mask 21 (by omega) (n / 8) (by omega) (by omega)
  have m3 := and_mask 8 (by omega) (n / 8 / 2097152) (by omega) (by omega)
  have e1 : bits BinOp.and IntKind.i64 n 7 = n % 8 := m1
  have e2 : bits BinOp.and IntKind.i64 (n / 8) 2097151 = n / 8 % 2097152 := m2
  have e3 : bits BinOp.and IntKind.i64 (n / 8 / 2097152) 255 = n / 8 / 2097152 % 256 := m3
  clear m1 m2 m3
  go_enter Tryz.func87, Tryz.ntmps87
  go_upto_region 1 with (fail)
  go_wp2_with fail
  obtain ⟨⟨u0, u1, u2, u3, u4⟩, -⟩ := five_at (heap_alloc_new w (.cells #[.int .i64 key, .int .i64 (n / 8 / 2097152 % 256), .int .i64 (n / 8 % 2097152), .int .i64 (n % 8), .bool (n / 8 / 2097152 / 256 == 3)] 77))
  refine bodyPost_ret (v := .tuple #[.agg #[.int .i64 key, .int .i64 (n / 8 / 2097152 % 256), .int .i64 (n / 8 % 2097152), .int .i64 (n % 8), .bool (n / 8 / 2097152 / 256 == 3)], .bool (decide (0 < n / 8 / 2097152 / 256))]) (by simp [results, Tryz.results87, go_sem, u0, u1, u2, u3, u4]) rfl ?_
  exact ⟨rfl, (Below.refl _ _).alloc (Nat.le_refl _) _⟩
/-- The places of the labels in which both are, of k. -/
def shr (labs : List Nat) (f t : Nat) : Nat → List Nat
  | 0 => []
  | k + 1 => if lb labs k f = true ∧ lb labs k t = true then shr labs f t k ++ [k] else shr labs f t k
theorem shr_mem (labs : List Nat) (f t : Nat) : ∀ k x, x ∈ shr labs f t k ↔ x < k ∧ lb labs x f = true ∧ lb labs x t = true
  | 0, x => by simp [shr]
  | k + 1, x => by
    have ih := shr_mem labs f t k x
    unfold shr
    split
    · next h =>
      rw [List.mem_append, List.mem_singleton, ih]
      constructor
      · rintro (⟨a, b⟩ | rfl)
        · exact ⟨by omega, b⟩
        · exact ⟨by omega, h⟩
      · rintro ⟨a, b⟩
        by_cases e : x = k
        · exact .inr e
        · exact .inl ⟨by omega, b⟩
    · next h =>
      rw [ih]
      constructor
      · rintro ⟨a, b⟩; exact ⟨by omega, b⟩
      · rintro ⟨a, b⟩
        refine ⟨?_, b⟩
        by_cases e : x = k
        · subst e; exact absurd b h
        · omega
theorem shr_len (labs : List Nat) (f t : Nat) : ∀ k, (shr labs f t k).length ≤ k
  | 0 => Nat.le_refl _
  | k + 1 => by
    have := shr_len labs f t k
    unfold shr; split
    · simp; omega
    · omega
theorem shr_sorted (labs : List Nat) (f t : Nat) : ∀ k, (shr labs f t k).Pairwise (· < ·)
  | 0 => List.Pairwise.nil
  | k + 1 => by
    unfold shr; split
    · rw [List.pairwise_append]
      refine ⟨shr_sorted labs f t k, by simp, fun a ha b hb => ?_⟩
      have := ((shr_mem labs f t k a).1 ha).1
      simp only [List.mem_singleton] at hb
      omega
    · exact shr_sorted labs f t k
theorem both_bits (s f t : Nat) (hs : s < 16) (hf : f < 4) (ht : t < 4) : (bits BinOp.and IntKind.i64 (bits BinOp.and IntKind.i64 ((s : Int) / 2 ^ f) ((s : Int) / 2 ^ t)) 1 == 1) = (inL s f && inL s t) := by
  have h : ∀ x : Fin 16, ∀ y : Fin 4, ∀ z : Fin 4, (bits BinOp.and IntKind.i64 (bits BinOp.and IntKind.i64 (((x.1 : Nat) : Int) / 2 ^ y.1) (((x.1 : Nat) : Int) / 2 ^ z.1)) 1 == 1) = (inL x.1 y.1 && inL x.1 z.1) := by decide +kernel
  exact h ⟨s, hs⟩ ⟨f, hf⟩ ⟨t, ht⟩
set_option maxRecDepth 100000 in
set_option maxHeartbeats 4000000 in
theorem cShared {w : World} {c : Cfg} {vl vm : Value} (hc : c.Ok) (h : CfgAt w c vl vm) (f t : Nat) (hf : f < 4) (ht : t < 4) :
    Calls Tryz.prog 81 #[.agg (c.cells vl vm), .int .i64 f, .int .i64 t] w fun e w' => ∃ v', e = .returned v' ∧ w'.ownsRow w.heap.size 3 1 v' (shr c.labs f t c.labs.length).length (ints (labInts (shr c.labs f t c.labs.length))) ∧ Below w.heap.size w w' := by
  have hb := cfg_box w c vl vm
  obtain ⟨x0, x1, x2, x3, x4⟩ := cfg_at (heap_alloc_new w (.cells (c.cells vl vm) 25))
  have H := Lib.hid (h.on hb)
  have Hb := Lib.hid hb
  have hlen := hc.len
  have H16 := Lib.hid hc.lt16
  obtain ⟨_, la, cl, rfl, hcl1, hcl2, _⟩ := h.hl
  unfold maxLen at hcl2
  unfold Cfg.cells at x0 x1 x2 x3 x4 Hb H hb ⊢
  clear hb hc h x0 x2 x3 x4
  go_enter Tryz.func81, Tryz.ntmps81
  go_upto_region 1 with (fail)
  generalize (w.alloc (.cells #[.int .i64 c.n, .slice la c.labs.length cl, .int .i64 c.ticks, vm, .int .i64 c.cap] 25)) = W at *
  go_wp2_with fail
  go_loopw [7, 8, 9, 13] (fun out _ _ i wr => ∃ k : Nat, k ≤ c.labs.length ∧ i = .int .i64 k ∧ wr.ownsRow W.heap.size 3 1 out (shr c.labs f t k).length (ints (labInts (shr c.labs f t k))) ∧ Below W.heap.size W wr) (fun _ _ _ i _ => c.labs.length - (intOf i).toNat)
  case atStart => exact ⟨0, by omega, rfl, World.ownsRow_nil _ _ _ _, Below.refl _ _⟩
  case round =>
    clear x1
    obtain ⟨k, hk, rfl, ho, hB⟩ := hrel
    have HO := Lib.hid ho
    have HB := Lib.hid hB
    clear ho hB
    by_cases hlt : k < c.labs.length
    · have hltz : (k : Int) < (c.labs.length : Int) := by omega
      obtain ⟨⟨hl, _⟩, _, _, he, _, _, hcc⟩ := H.out.hl
      simp only [Value.slice.injEq] at he
      obtain ⟨rfl, -, rfl⟩ := he
      obtain ⟨b, o, rfl, hcell⟩ := hcc (by rw [ints_length, labInts_length']; omega)
      have x0 := cell_on HB.out (hcell k (.int .i64 c.labs[k]) (by rw [ints_get _ k (by rw [labInts_length']; exact hlt)]; simp [labInts]))
      have hbb := both_bits c.labs[k] f t (H16.out _ (List.getElem_mem hlt)) hf ht
      have hsucc : Hid (shr c.labs f t (k + 1) = if inL c.labs[k] f = true ∧ inL c.labs[k] t = true then shr c.labs f t k ++ [k] else shr c.labs f t k) := by
        show _ = _
        rw [← lb_at hlt, ← lb_at hlt]; rfl
      have hsl := shr_len c.labs f t k
      have hszw := HB.out.size
      clear hcell hcc hl
      generalize c.labs[k] = s at *
      cases h1 : inL s f && inL s t with
      | false =>
        rw [h1] at hbb
        rw [if_neg (by rw [Bool.and_eq_false_iff] at h1; rintro ⟨a, b⟩; rcases h1 with h | h <;> simp_all)] at hsucc
        go_upto_region 5 with (fail)
        go_quiet (fail)
        go_wp2_with fail
        go_roundw
        case rel => first | exact ⟨k + 1, by omega, by go_num, by rw [hsucc.out]; exact owns_below HO.out (below_drewN (Below.refl _ _) _), below_drewN HB.out _⟩ | ((repeat apply Exists.intro); exact ⟨⟨k + 1, by omega, by go_num, by rw [hsucc.out]; exact owns_below HO.out (below_drewN (Below.refl _ _) _), below_drewN HB.out _⟩, rfl⟩)
        case measure => first | (simp [intOf]; done) | (simp [intOf]; omega)
      | true =>
        rw [h1] at hbb
        rw [if_pos (by simpa using h1)] at hsucc
        go_upto_region 5 with (fail)
        go_quiet (fail)
        go_upto_region 6 with (fail)
        obtain ⟨w9, hw9⟩ : ∃ x, x = wr.drewN nq := ⟨_, rfl⟩
        have hb9 : Below wr.heap.size wr w9 := by rw [hw9]; exact below_drewN (Below.refl _ _) _
        rw [← hw9]
        have HO9 := Lib.hid (owns_below HO.out hb9)
        have HB9 := Lib.hid (HB.out.trans (hb9.mono hszw))
        have hsz9 := HB9.out.size
        clear hw9 hb9 x0
        go_wp2_with (at_builtin; refine wp_app1 (w0 := w9) 22 3 1 8 _ elInt Tryz.underlying22 W.heap.size _ _ _ HO9.out (by repeat (first | exact Below.refl _ _ | refine Below.drew ?_ | refine Below.alloc ?_ (by first | (simp; done) | (simp; omega)) _ | refine Below.setCell ?_ (by first | (simp; done) | (simp; omega)) _)) [.int .i64 k] rfl _ _ rfl rfl rfl (by first | exact heap_alloc_new _ _ | (simp only [heap_drew, heap_drewN]; exact heap_alloc_new _ _)) (by simp) rfl rfl (by omega) (by omega) hsz9 ?_; intro v6 w6 hown6 hgrow6 hb6)
        have hfin : Hid (w6.ownsRow W.heap.size 3 1 v6 (shr c.labs f t (k + 1)).length (ints (labInts (shr c.labs f t (k + 1))))) := by
          rw [hsucc.out, List.length_append, List.length_singleton]
          have : labInts (shr c.labs f t k ++ [k]) = labInts (shr c.labs f t k) ++ [(k : Int)] := by simp [labInts]
          rw [this, ← ints_snoc]; exact hown6
        have hfb := HB9.out.trans hb6
        clear hown6 hgrow6 hb6
        go_roundw
        case rel => first | exact ⟨k + 1, by omega, by go_num, hfin.out, hfb⟩ | ((repeat apply Exists.intro); exact ⟨⟨k + 1, by omega, by go_num, hfin.out, hfb⟩, rfl⟩)
        case measure => first | (simp [intOf]; done) | (simp [intOf]; omega)
    · obtain rfl : k = c.labs.length := by omega
      obtain ⟨ao, co, hao⟩ := owns_slice HO.out
      subst hao
      have hfin : Hid (wr.ownsRow w.heap.size 3 1 (.slice ao (shr c.labs f t c.labs.length).length co) (shr c.labs f t c.labs.length).length (ints (labInts (shr c.labs f t c.labs.length))) ∧ Below w.heap.size w wr) := ⟨owns_base HO.out Hb.out.size, Hb.out.trans (HB.out.mono Hb.out.size)⟩
      clear HO HB
      go_wp2_with fail
      go_ret
      exact ⟨_, rfl, hfin.out⟩
end Go.Proofs.YtjdedflfdlhkdaaGreatDoor

namespace Go.Proofs.YtjdedflfdlhkdaaGreatDoor
open Go.ChangeShapes Go.WideShapes Go.ChangeAt Go.RowKit
set_option linter.unusedVariables false
set_option linter.unusedSimpArgs false

set_option maxRecDepth 100000 in
set_option maxHeartbeats 2000000 in
theorem cBranch1 (b : Nat) (c : Cfg) (hn : 1 ≤ c.n ∧ c.n ≤ 4) (x : Nat) (hx : x < c.n) (w : World) (hb : w.cell? ⟨b, 0, none⟩ = some (.int .i64 c.n)) :
    Calls Tryz.prog 98 #[.int .i64 x, .pointer (some ⟨b, 0, none⟩)] w fun e w' => e = .returned (.bool false) ∧ w = w' := by
  have hw : IntKind.i64.wrap ((c.n : Int) - 1) = ((c.n - 1 : Nat) : Int) := by rw [show (c.n : Int) - 1 = ((c.n - 1 : Nat) : Int) by omega]; exact IntWalk.i64_in _ (by omega)
  have F := Lib.hid fun X => cfin x 0 ((c.n - 1 : Nat) : Int) (by omega) (by omega) X
  go_enter Tryz.func98, Tryz.ntmps98
  go_wp2_with (go_at_call 46; with_reducible refine (F.out _).mono ?_; rintro e w' ⟨rfl, rfl⟩)
  go_ret
  exact ⟨rfl, rfl⟩
set_option maxRecDepth 100000 in
set_option maxHeartbeats 4000000 in
theorem cBranch {w : World} {c : Cfg} {vl vm : Value} (hc : c.Ok) (v : Value) (f t : Nat) (hf : f < c.n) (ht : t < c.n) (h : Has w 1 v 2 (ints [(f : Int), (t : Int)])) :
    Calls Tryz.prog 78 #[.agg (c.cells vl vm), v] w fun e w' => e = .returned (.bool true) ∧ Below w.heap.size w w' := by
  have hb := cfg_box w c vl vm
  obtain ⟨x0, -, -, -, -⟩ := cfg_at (heap_alloc_new w (.cells (c.cells vl vm) 25))
  have Hb := Lib.hid hb
  have K1 := Lib.hid (cHasNone (l := [(f : Int), (t : Int)]) 98 #[.pointer (some ⟨w.heap.size, 0, none⟩)] (enters_of Tryz.func98 (by kernel_rfl) rfl) (w := w.alloc (.cells (c.cells vl vm) 25)) (v := v) (fun x hx => by
      simp only [List.mem_cons, List.not_mem_nil, or_false] at hx
      rcases hx with rfl | rfl
      · exact cBranch1 _ c hc.n f hf _ x0
      · exact cBranch1 _ c hc.n t ht _ x0) (h.below hb))
  obtain ⟨_, a, cp, rfl, _, _, _⟩ := h
  unfold Cfg.cells at *
  clear hb hc x0
  go_enter Tryz.func78, Tryz.ntmps78
  go_upto_region 1 with (fail)
  go_wp2_with (go_at_call 47; with_reducible refine K1.out.mono ?_; rintro e w' ⟨rfl, rfl⟩)
  go_ret
  exact ⟨rfl, Hb.out⟩
/-- What stands under labels, of m. -/
structure StoreH (w : World) (v : Value) (m : Nat) (vs : Nat → Value) (l : Nat → List Ent) : Prop where
  row : Has w 1 v m ((List.range m).map vs)
  rows : ∀ j, j < m → Has w 5 (vs j) (l j).length (ents (l j))
  ok : ∀ j, j < m → EightL (l j) ∧ ∀ e ∈ l j, e.v ≤ 255
theorem StoreH.on {w w' : World} {v : Value} {m : Nat} {vs : Nat → Value} {l : Nat → List Ent} (h : StoreH w v m vs l) (hb : Below w.heap.size w w') : StoreH w' v m vs l :=
  ⟨h.row.below hb, fun j hj => (h.rows j hj).below hb, h.ok⟩
theorem cHasNo (v : Value) (l : List Ent) (w : World) (h : Has w 5 v l.length (ents l)) (hl : EightL l) :
    Calls Tryz.prog 80 #[v] w fun e w' => e = .returned (.bool false) ∧ Below w.heap.size w w' := by
  have C := Lib.hid (cmay v l w h hl.may hl.len)
  obtain ⟨_, a, cp, rfl, _, _, _⟩ := h
  go_enter Tryz.func80, Tryz.ntmps80
  go_wp2_with (go_at_call 16; refine C.out.mono ?_; rintro e w' ⟨rfl, hb⟩)
  go_ret
  exact ⟨rfl, hb⟩
set_option maxRecDepth 100000 in
set_option maxHeartbeats 4000000 in
theorem cIxStore {w : World} {v : Value} {m : Nat} {vs : Nat → Value} {l : Nat → List Ent} (h : StoreH w v m vs l) (hm : m ≤ 4) :
    Calls Tryz.prog 99 #[v, .func (.func 80) #[] #[]] w fun e w' => e = .returned (.int .i64 (-1)) ∧ Below w.heap.size w w' := by
  have H := Lib.hid h
  obtain ⟨_, a, cap, rfl, hn, hmx, _⟩ := h.row
  unfold maxLen at hmx
  have eg : ∀ args w, (callFunc 80 args).run Tryz.prog w = .ok (.enter 80 args) w := enters_of Tryz.func80 (by kernel_rfl) rfl
  clear h
  go_enter Tryz.func99, Tryz.ntmps99
  go_wp2_with fail
  go_loopw [5, 8] (fun _ i wr => ∃ k : Nat, k ≤ m ∧ i = .int .i64 k ∧ Hid (Below w.heap.size w wr)) (fun _ i _ => m - (intOf i).toNat)
  case atStart => exact ⟨0, by omega, rfl, Below.refl _ _⟩
  case round =>
    obtain ⟨k, hk, rfl, HB⟩ := hrel
    by_cases hlt : k < m
    · have hltz : (k : Int) < (m : Int) := by omega
      obtain ⟨_, _, _, he, _, _, hc⟩ := H.out.row
      simp only [Value.slice.injEq] at he
      obtain ⟨rfl, -, rfl⟩ := he
      obtain ⟨b, off, rfl, hcc⟩ := hc (by simp; omega)
      have x0 := cell_on HB.out (hcc k (vs k) (by simp [hlt]))
      have CC := Lib.hid (cHasNo (vs k) (l k) wr ((H.out.rows k hlt).below HB.out) (H.out.ok k hlt).1)
      obtain ⟨_, ak, ck, hv, _, _, _⟩ := H.out.rows k hlt
      rw [hv] at x0 CC
      clear hcc hc hv
      go_wp2_with (go_at_fn 80; refine CC.out.mono ?_; rintro e w' ⟨rfl, hb⟩)
      have HB2 : Hid (Below w.heap.size w w') := HB.out.trans (hb.mono HB.out.size)
      clear hb CC
      go_roundw
      case rel => exact ⟨k + 1, by omega, by go_num, HB2⟩
      case measure => first | (simp [intOf]; done) | (simp [intOf]; omega)
    · obtain rfl : k = m := by omega
      go_wp2
      go_ret
      exact ⟨rfl, HB.out⟩
set_option maxRecDepth 100000 in
theorem cHasStore {w : World} {v : Value} {m : Nat} {vs : Nat → Value} {l : Nat → List Ent} (h : StoreH w v m vs l) (hm : m ≤ 4) :
    Calls Tryz.prog 79 #[v, .func (.func 80) #[] #[]] w fun e w' => e = .returned (.bool false) ∧ Below w.heap.size w w' := by
  have C := Lib.hid (cIxStore h hm)
  clear h
  go_enter Tryz.func79, Tryz.ntmps79
  go_wp2_with (go_at_call 99; refine C.out.mono ?_; rintro e w' ⟨rfl, hb⟩)
  go_ret
  exact ⟨rfl, hb⟩
/-- The slot of a key. -/
def slotAt (es : List Ent) (k : Nat) : Int := match look es k with | some e => slotOf e | none => 0
def slotsOf (es : List Ent) : List (Int × Int) := (List.range 8).map fun k => (34, slotAt es k)
/-- What a rumour is packed of. -/
def rumF (labs : List Nat) (f t : Nat) (l : Nat → List Ent) : List (Int × Int) := (shr labs f t labs.length).flatMap fun i => slotsOf (l i)
theorem slotsOf_length (es : List Ent) : (slotsOf es).length = 8 := by simp [slotsOf]
theorem slotAt_bd {es : List Ent} (h : EightL es) (hv : ∀ e ∈ es, e.v ≤ 255) (k : Nat) : 0 ≤ slotAt es k ∧ slotAt es k < 17179869184 := by
  unfold slotAt
  cases hl : look es k with
  | none => simp
  | some e =>
    have hm := (look_some hl).1
    have := slotOf_bd (h.may.ok e hm) (hv e hm)
    simp only; omega
end Go.Proofs.YtjdedflfdlhkdaaGreatDoor

namespace Go.Proofs.YtjdedflfdlhkdaaGreatDoor
open Go.ChangeShapes Go.WideShapes Go.ChangeAt Go.RowKit
set_option linter.unusedVariables false
set_option linter.unusedSimpArgs false

theorem look_snoc {l : List Ent} {e : Ent} (h : (l ++ [e]).Pairwise (fun a b => a.k < b.k)) (k : Int) : look (l ++ [e]) k = if k = e.k then some e else look l k := by
  unfold look
  rw [List.find?_append]
  by_cases hk : k = e.k
  · rw [if_pos hk]
    have hn : l.find? (fun x => x.k == k) = none := by
      rw [List.find?_eq_none]
      intro x hx
      have := (List.pairwise_append.1 h).2.2 x hx e (by simp)
      simp only [beq_iff_eq]; omega
    rw [hn]; simp [hk]
  · rw [if_neg hk]
    have : [e].find? (fun x => x.k == k) = none := by simp; omega
    rw [this]; simp
theorem slots_snoc {es : List Ent} (h : EightL es) (j : Nat) (hj : j < es.length) (k : Nat) : slotAt (es.take (j + 1)) k = if (k : Int) = es[j].k then slotOf es[j] else slotAt (es.take j) k := by
  have hp : (es.take j ++ [es[j]]).Pairwise (fun a b => a.k < b.k) := by rw [← take_snoc es j hj]; exact h.may.sorted.sublist (List.take_sublist _ _)
  unfold slotAt
  rw [take_snoc es j hj, look_snoc hp]
  by_cases e : (k : Int) = es[j].k
  · rw [if_pos e, if_pos e]
  · rw [if_neg e, if_neg e]
/-- The block of slots. -/
def slotCells (es : List Ent) : List Value := (List.range 8).map fun k => .int .i64 (slotAt es k)
theorem slotCells_set {es : List Ent} (h : EightL es) (j : Nat) (hj : j < es.length) (k : Nat) (hk : es[j].k = k) : (slotCells (es.take j)).set k (.int .i64 (slotOf es[j])) = slotCells (es.take (j + 1)) := by
  apply List.ext_getElem (by simp [slotCells])
  intro i h1 h2
  rw [List.getElem_set]
  simp only [slotCells, List.getElem_map, List.getElem_range]
  rw [slots_snoc h j hj, hk]
  by_cases e : k = i
  · subst e; rw [if_pos rfl, if_pos rfl]
  · rw [if_neg e, if_neg (by omega)]
theorem slotCells_nil : slotCells [] = List.replicate 8 (.int .i64 0) := by rfl
theorem slotCells_len (es : List Ent) : (slotCells es).length = 8 := by simp [slotCells]
structure SlotsAt (w : World) (S : Nat) (es : List Ent) : Prop where
  cells : w.heap[S]? = some (.cells (slotCells es).toArray 163 (0, 0))
theorem SlotsAt.cell {w : World} {S : Nat} {es : List Ent} (h : SlotsAt w S es) (k : Nat) (hk : k < 8) : w.cell? ⟨S, k, none⟩ = some (.int .i64 (slotAt es k)) ∧ w.frozen? ⟨S, k, none⟩ = false := by
  refine ⟨?_, by simp [World.frozen?, h.cells]⟩
  rw [cell_of_row w _ _ _ _ _ h.cells]
  simp [slotCells, hk]
theorem SlotsAt.on {w w' : World} {S : Nat} {es : List Ent} (h : SlotsAt w S es) (hb : Below w.heap.size w w') : SlotsAt w' S es := ⟨by rw [hb.block _ (Array.getElem?_eq_some_iff.1 h.cells).1]; exact h.cells⟩
theorem SlotsAt.set {w : World} {S : Nat} {es : List Ent} {j k : Nat} (h : SlotsAt w S (es.take j)) (he : EightL es) (hj : j < es.length) (hk : es[j].k = k) : SlotsAt (w.setCell ⟨S, k, none⟩ (.int .i64 (slotOf es[j]))) S (es.take (j + 1)) := by
  constructor
  rw [heap_setCell_same _ S k _ _ _ h.cells, ← slotCells_set he j hj k hk]
  congr 2
  apply Array.ext'
  rw [Array.toList_setIfInBounds, List.toList_toArray]
/-- Behind some of the labels. -/
def rumK (ix : List Nat) (l : Nat → List Ent) (k r : Nat) : List (Int × Int) := ((ix.take k).flatMap fun i => slotsOf (l i)) ++ (match ix[k]? with | some i => (slotsOf (l i)).take r | none => [])
theorem rumK_zero (ix : List Nat) (l : Nat → List Ent) (k : Nat) : rumK ix l k 0 = (ix.take k).flatMap fun i => slotsOf (l i) := by
  unfold rumK; cases ix[k]? <;> simp
theorem rumK_snoc (ix : List Nat) (l : Nat → List Ent) (k r : Nat) (hk : k < ix.length) (hr : r < 8) : rumK ix l k (r + 1) = rumK ix l k r ++ [(34, slotAt (l ix[k]) r)] := by
  unfold rumK
  rw [List.getElem?_eq_getElem hk]
  simp only
  rw [take_snoc _ r (by rw [slotsOf_length]; exact hr), ← List.append_assoc]
  congr 1
  simp [slotsOf]
theorem rumK_next (ix : List Nat) (l : Nat → List Ent) (k : Nat) (hk : k < ix.length) : rumK ix l k 8 = rumK ix l (k + 1) 0 := by
  rw [rumK_zero, take_snoc _ k hk, List.flatMap_append]
  unfold rumK
  rw [List.getElem?_eq_getElem hk]
  simp only [List.flatMap_cons, List.flatMap_nil, List.append_nil]
  rw [show (slotsOf (l ix[k])).take 8 = slotsOf (l ix[k]) from List.take_of_length_le (by rw [slotsOf_length]; omega)]
theorem flat8 (ix : List Nat) (l : Nat → List Ent) : (ix.flatMap fun i => slotsOf (l i)).length = ix.length * 8 := by
  induction ix with
  | nil => rfl
  | cons a t ih => rw [List.flatMap_cons, List.length_append, ih, slotsOf_length, List.length_cons]; omega
theorem rumK_len (ix : List Nat) (l : Nat → List Ent) (k r : Nat) (hk : k ≤ ix.length) (hr : r ≤ 8) : (rumK ix l k r).length ≤ k * 8 + r := by
  unfold rumK
  rw [List.length_append, flat8, List.length_take]
  cases ix[k]? with
  | none => simp; omega
  | some i => simp only [List.length_take, slotsOf_length]; omega
theorem rumF_ok {labs : List Nat} {f t : Nat} {l : Nat → List Ent} (h4 : labs.length ≤ 4) (h : ∀ j, j < labs.length → EightL (l j) ∧ ∀ e ∈ l j, e.v ≤ 255) : FieldsOk (rumF labs f t l) := by
  constructor
  · unfold rumF; rw [flat8]; have := shr_len labs f t labs.length; omega
  · intro p hp
    simp only [rumF, List.mem_flatMap] at hp
    obtain ⟨i, hi, hp⟩ := hp
    have hi' := ((shr_mem labs f t labs.length i).1 hi).1
    simp only [slotsOf, List.mem_map, List.mem_range] at hp
    obtain ⟨k, hk, rfl⟩ := hp
    have := slotAt_bd (h i hi').1 (h i hi').2 k
    exact ⟨by simp, by simp, this.1, by simp only [Int.reduceToNat]; omega⟩
end Go.Proofs.YtjdedflfdlhkdaaGreatDoor

namespace Go.Proofs.YtjdedflfdlhkdaaGreatDoor
open Go.ChangeShapes Go.WideShapes Go.ChangeAt Go.RowKit
set_option linter.unusedVariables false
set_option linter.unusedSimpArgs false

theorem StoreH.at {w : World} {v : Value} {m : Nat} {vs : Nat → Value} {l : Nat → List Ent} (h : StoreH w v m vs l) (j : Nat) (hj : j < m) : ∃ b o cap, v = .slice (some ⟨b, o, none⟩) m cap ∧ w.cell? ⟨b, o + j, none⟩ = some (vs j) := by
  obtain ⟨_, a, cap, rfl, _, _, hc⟩ := h.row
  obtain ⟨b, o, rfl, hcc⟩ := hc (by simp; omega)
  exact ⟨b, o, cap, rfl, hcc j _ (by simp [hj])⟩
theorem index8_0 (a0 a1 a2 a3 a4 a5 a6 a7 : Value) (X : World) : (Instr.index 163 (.agg #[a0, a1, a2, a3, a4, a5, a6, a7]) (.int .i64 0)).run Tryz.prog X = .ok a0 X := by kernel_rfl
theorem index8_1 (a0 a1 a2 a3 a4 a5 a6 a7 : Value) (X : World) : (Instr.index 163 (.agg #[a0, a1, a2, a3, a4, a5, a6, a7]) (.int .i64 1)).run Tryz.prog X = .ok a1 X := by kernel_rfl
theorem index8_2 (a0 a1 a2 a3 a4 a5 a6 a7 : Value) (X : World) : (Instr.index 163 (.agg #[a0, a1, a2, a3, a4, a5, a6, a7]) (.int .i64 2)).run Tryz.prog X = .ok a2 X := by kernel_rfl
theorem index8_3 (a0 a1 a2 a3 a4 a5 a6 a7 : Value) (X : World) : (Instr.index 163 (.agg #[a0, a1, a2, a3, a4, a5, a6, a7]) (.int .i64 3)).run Tryz.prog X = .ok a3 X := by kernel_rfl
theorem index8_4 (a0 a1 a2 a3 a4 a5 a6 a7 : Value) (X : World) : (Instr.index 163 (.agg #[a0, a1, a2, a3, a4, a5, a6, a7]) (.int .i64 4)).run Tryz.prog X = .ok a4 X := by kernel_rfl
theorem index8_5 (a0 a1 a2 a3 a4 a5 a6 a7 : Value) (X : World) : (Instr.index 163 (.agg #[a0, a1, a2, a3, a4, a5, a6, a7]) (.int .i64 5)).run Tryz.prog X = .ok a5 X := by kernel_rfl
theorem index8_6 (a0 a1 a2 a3 a4 a5 a6 a7 : Value) (X : World) : (Instr.index 163 (.agg #[a0, a1, a2, a3, a4, a5, a6, a7]) (.int .i64 6)).run Tryz.prog X = .ok a6 X := by kernel_rfl
theorem index8_7 (a0 a1 a2 a3 a4 a5 a6 a7 : Value) (X : World) : (Instr.index 163 (.agg #[a0, a1, a2, a3, a4, a5, a6, a7]) (.int .i64 7)).run Tryz.prog X = .ok a7 X := by kernel_rfl
theorem five_far {w : World} {E S k : Nat} {u a0 a1 a2 a3 a4 : Value} (h : S ≠ E) (z0 : w.cell? ⟨E, 0, none⟩ = some a0) (z1 : w.cell? ⟨E, 1, none⟩ = some a1) (z2 : w.cell? ⟨E, 2, none⟩ = some a2) (z3 : w.cell? ⟨E, 3, none⟩ = some a3) (z4 : w.cell? ⟨E, 4, none⟩ = some a4) :
    (w.setCell ⟨S, k, none⟩ u).cell? ⟨E, 0, none⟩ = some a0 ∧ (w.setCell ⟨S, k, none⟩ u).cell? ⟨E, 1, none⟩ = some a1 ∧ (w.setCell ⟨S, k, none⟩ u).cell? ⟨E, 2, none⟩ = some a2 ∧ (w.setCell ⟨S, k, none⟩ u).cell? ⟨E, 3, none⟩ = some a3 ∧ (w.setCell ⟨S, k, none⟩ u).cell? ⟨E, 4, none⟩ = some a4 := by
  refine ⟨?_, ?_, ?_, ?_, ?_⟩ <;> rw [World.cell?_setCell_far _ _ _ _ h] <;> assumption
set_option maxRecDepth 100000 in
set_option maxHeartbeats 8000000 in
theorem cRumour {w : World} {c : Cfg} {vl vm : Value} (hc : c.Ok) (h : CfgAt w c vl vm) (f t : Nat) (hf : f < c.n) (ht : t < c.n) (v : Value) (vs : Nat → Value) (l : Nat → List Ent) (hs : StoreH w v c.labs.length vs l) :
    Calls Tryz.prog 64 #[.agg (c.cells vl vm), .int .i64 f, .int .i64 t, v] w fun e w' => ∃ v', e = .returned (.tuple #[v', .int .i64 0]) ∧ w'.ownsRow w.heap.size 5 1 v' (recSize (rumF c.labs f t l)) (recBytes (rumF c.labs f t l)) ∧ Below w.heap.size w w' := by
  have hb := cfg_box w c vl vm
  obtain ⟨x0, x1, x2, x3, x4⟩ := cfg_at (heap_alloc_new w (.cells (c.cells vl vm) 25))
  have H := Lib.hid (h.on hb)
  have S := Lib.hid (hs.on hb)
  have Hb := Lib.hid hb
  have hlen := hc.len
  have hn := hc.n
  have hf4 : f < 4 := by omega
  have ht4 : t < 4 := by omega
  have Hc := Lib.hid hc
  have Hok := Lib.hid (rumF_ok (f := f) (t := t) hlen hs.ok)
  have KM := Lib.hid (fun (X : World) (hX : CfgAt X c vl vm) => cFMay hc hX)
  have KB := Lib.hid (fun (X : World) (vv : Value) (hX : Has X 1 vv 2 (ints [(f : Int), (t : Int)])) => cBranch (w := X) (vl := vl) (vm := vm) hc vv f t hf ht hX)
  have KS := Lib.hid (fun (X : World) (hX : CfgAt X c vl vm) => cShared hc hX f t hf4 ht4)
  have KI := Lib.hid (fun (X : World) (hX : StoreH X v c.labs.length vs l) => cHasStore hX hlen)
  obtain ⟨_, la, cl, rfl, hcl1, hcl2, _⟩ := h.hl
  obtain ⟨_, ma, cm, rfl, hcm1, hcm2, _⟩ := h.hm
  obtain ⟨_, sa, sc, rfl, hsc1, hsc2, _⟩ := hs.row
  unfold maxLen at hcl2 hcm2 hsc2
  have hll : ((c.labs.length : Int) != (c.labs.length : Int)) = false := by simp
  unfold Cfg.cells at x0 x1 x2 x3 x4 Hb H S hb KM KB KS ⊢
  clear hb hc h hs
  go_enter Tryz.func64, Tryz.ntmps64
  go_upto_region 1 with (fail)
  generalize (w.alloc (.cells #[.int .i64 c.n, .slice la c.labs.length cl, .int .i64 c.ticks, .slice ma c.minted.length cm, .int .i64 c.cap] 25)) = W at *
  go_wp2_with fail
  refine (KM.out _ H.out).mono ?_
  rintro e w1 ⟨rfl, hb1⟩
  have H1 := Lib.hid (H.out.on hb1)
  have S1 := Lib.hid (S.out.on hb1)
  have Hb1 := Lib.hid hb1
  replace x0 := cell_on hb1 x0
  replace x1 := cell_on hb1 x1
  replace x2 := cell_on hb1 x2
  replace x3 := cell_on hb1 x3
  replace x4 := cell_on hb1 x4
  clear hb1 KM H S
  have hba : Below w1.heap.size w1 (w1.alloc (.cells #[.int .i64 f, .int .i64 t] 3)) := (Below.refl _ _).alloc (Nat.le_refl _) _
  have KB1 := Lib.hid (KB.out (w1.alloc (.cells #[.int .i64 f, .int .i64 t] 3)) (.slice (some ⟨w1.heap.size, 0, none⟩) 2 2) (has_block (wp := w1) (cs := ints [(f : Int), (t : Int)]) (heap_alloc_new _ _) rfl rfl (by decide)))
  have Hba := Lib.hid hba
  clear KB hba
  go_wp2_with fail
  refine KB1.out.mono ?_
  rintro e w2 ⟨rfl, hb2⟩
  have hb12 : Below w1.heap.size w1 w2 := Hba.out.trans (hb2.mono Hba.out.size)
  have H2 := Lib.hid (H1.out.on hb12)
  have S2 := Lib.hid (S1.out.on hb12)
  have Hb2 := Lib.hid (Hb1.out.trans (hb12.mono Hb1.out.size))
  replace x0 := cell_on hb12 x0
  replace x1 := cell_on hb12 x1
  replace x2 := cell_on hb12 x2
  replace x3 := cell_on hb12 x3
  replace x4 := cell_on hb12 x4
  clear hb2 hb12 KB1 Hba H1 S1 Hb1
  go_wp2_with fail
  refine (KI.out _ S2.out).mono ?_
  rintro e w3 ⟨rfl, hb3⟩
  have H3 := Lib.hid (H2.out.on hb3)
  have S3 := Lib.hid (S2.out.on hb3)
  have Hb3 := Lib.hid (Hb2.out.trans (hb3.mono Hb2.out.size))
  replace x0 := cell_on hb3 x0
  replace x1 := cell_on hb3 x1
  replace x2 := cell_on hb3 x2
  replace x3 := cell_on hb3 x3
  replace x4 := cell_on hb3 x4
  clear hb3 KI H2 S2 Hb2
  go_wp2_with fail
  refine (KS.out _ H3.out).mono ?_
  rintro e w4 ⟨vi, rfl, howni, hb4⟩
  obtain ⟨ai, ci, rfl⟩ := owns_slice howni
  have S4 := Lib.hid (S3.out.on hb4)
  have HI := Lib.hid (Has.of_owns howni)
  have Hb4 := Lib.hid (Hb.out.trans ((Hb3.out.trans (hb4.mono Hb3.out.size)).mono Hb.out.size))
  have hix := shr_mem c.labs f t c.labs.length
  have hil := shr_len c.labs f t c.labs.length
  have Hix := Lib.hid hix
  have hF : rumF c.labs f t l = rumK (shr c.labs f t c.labs.length) l (shr c.labs f t c.labs.length).length 0 := by
    rw [rumK_zero, List.take_length]; rfl
  rw [hF] at Hok
  have HF := Lib.hid hF
  generalize shr c.labs f t c.labs.length = ix at *
  have hib : ix.length ≤ ci ∧ ci ≤ maxLen := by
    obtain ⟨_, _, _, he, h1, h2, _⟩ := HI.out
    simp only [Value.slice.injEq] at he
    obtain ⟨-, -, rfl⟩ := he
    exact ⟨h1, h2⟩
  obtain ⟨hib1, hib2⟩ := hib
  unfold maxLen at hib2
  clear hb4 KS H3 S3 Hb3 howni hix hF x0 x1 x2 x3 x4 Hb
  go_wp2_with fail
  go_loopw [10, 12, 13, 15, 17, 44] (fun out _ _ _ _ i wr => ∃ k : Nat, k ≤ ix.length ∧ i = .int .i64 k ∧ wr.ownsRow w4.heap.size 158 2 out (rumK ix l k 0).length (flds (rumK ix l k 0)) ∧ Below w4.heap.size w4 wr) (fun _ _ _ _ _ i _ => ix.length - (intOf i).toNat)
  case atStart => exact ⟨0, by omega, rfl, by rw [rumK_zero]; exact World.ownsRow_nil _ _ _ _, Below.refl _ _⟩
  case round =>
    obtain ⟨k, hk, rfl, ho, hB⟩ := hrel
    have HO := Lib.hid ho
    have HB := Lib.hid hB
    clear ho hB
    by_cases hlt : k < ix.length
    · have hltz : (k : Int) < (ix.length : Int) := by omega
      have him := ((Hix.out ix[k]).1 (List.getElem_mem hlt)).1
      obtain ⟨⟨hl0, _⟩, _, _, he, _, _, hcc⟩ := HI.out
      simp only [Value.slice.injEq] at he
      obtain ⟨rfl, -, rfl⟩ := he
      obtain ⟨bi, oi, rfl, hcell⟩ := hcc (by rw [ints_length, labInts_length']; omega)
      have x0 := cell_on HB.out (hcell k (.int .i64 ix[k]) (by rw [ints_get _ k (by rw [labInts_length']; exact hlt)]; simp [labInts]))
      have S5 := S4.out.on HB.out
      obtain ⟨bs, os, cs', he, y0⟩ := S5.at ix[k] him
      simp only [Value.slice.injEq] at he
      obtain ⟨rfl, -, rfl⟩ := he
      have HE := Lib.hid (S5.rows ix[k] him)
      obtain ⟨hEk, hEv⟩ := S5.ok ix[k] him
      have HEk := Lib.hid hEk
      have HEv := Lib.hid hEv
      obtain ⟨_, ae, ce, hve, _, hce, _⟩ := S5.rows ix[k] him
      unfold maxLen at hce
      rw [hve] at y0 HE
      have Hks := Lib.hid (fun r (hr : r < 8) => rumK_snoc ix l k r hlt hr)
      have Hkn := Lib.hid (rumK_next ix l k hlt)
      have Hkl := Lib.hid (fun r (hr : r ≤ 8) => rumK_len ix l k r (by omega) hr)
      have hikz : ((ix[k] : Nat) : Int) < (c.labs.length : Int) := by omega
      generalize l ix[k] = es at *
      generalize ix[k] = q at *
      clear hcell hcc hl0 S5 hEk hEv hve
      have hszw := HB.out.size
      have Hb13 := Lib.hid (show Below wr.heap.size wr (wr.alloc (.cells #[.int .i64 0, .int .i64 0, .int .i64 0, .int .i64 0, .int .i64 0, .int .i64 0, .int .i64 0, .int .i64 0] 163)) from (Below.refl _ _).alloc (Nat.le_refl _) _)
      go_upto_region 14 with (fail)
      obtain ⟨wo, hwo⟩ : ∃ x, x = wr := ⟨_, rfl⟩
      rw [← hwo] at HO HB hszw Hb13 x0 y0 HE ⊢
      clear hwo
      have hS0 : Hid (SlotsAt (wo.alloc (.cells #[.int .i64 0, .int .i64 0, .int .i64 0, .int .i64 0, .int .i64 0, .int .i64 0, .int .i64 0, .int .i64 0] 163)) wo.heap.size (es.take 0)) := ⟨heap_alloc_new _ _⟩
      replace y0 := cell_on Hb13.out y0
      have hsz1 : wo.heap.size < (wo.alloc (.cells #[.int .i64 0, .int .i64 0, .int .i64 0, .int .i64 0, .int .i64 0, .int .i64 0, .int .i64 0, .int .i64 0] 163)).heap.size := by simp
      generalize (wo.alloc (.cells #[.int .i64 0, .int .i64 0, .int .i64 0, .int .i64 0, .int .i64 0, .int .i64 0, .int .i64 0, .int .i64 0] 163)) = W5 at *
      clear x0
      go_wp2_with fail
      clear y0
      go_loopw [15, 53] (fun _ i wr => ∃ j : Nat, j ≤ es.length ∧ i = .int .i64 j ∧ Hid (SlotsAt wr wo.heap.size (es.take j)) ∧ Hid (Below wo.heap.size wo wr)) (fun _ i _ => es.length - (intOf i).toNat)
      case atStart => exact ⟨0, by omega, rfl, hS0, Hb13⟩
      case round =>
        clear hS0 Hb13
        obtain ⟨j, hj, rfl, HS, HBj⟩ := hrel
        by_cases hjl : j < es.length
        · have hjz : (j : Int) < (es.length : Int) := by omega
          obtain ⟨b, off, cap, he, -, x0, x1, x2, x3, x4⟩ := ent_get (HE.out.below HBj.out) j hjl
          simp only [Value.slice.injEq] at he
          obtain ⟨rfl, -, rfl⟩ := he
          have hbl := World.block_lt_of_cell? wr _ x0
          obtain ⟨hk0, hk8⟩ := HEk.out.eight _ (List.getElem_mem hjl)
          have hv := HEv.out _ (List.getElem_mem hjl)
          have hok := HEk.out.may.ok _ (List.getElem_mem hjl)
          obtain ⟨kk, hkk⟩ : ∃ kk : Nat, es[j].k = kk := ⟨es[j].k.toNat, by omega⟩
          have hkk8 : kk < 8 := by omega
          have Hset := Lib.hid (fun (X : World) (hX : SlotsAt X wo.heap.size (es.take j)) => hX.set HEk.out hjl hkk)
          have CS := Lib.hid (fun X => cslot es[j] hok hv X)
          generalize slotOf es[j] = sl at *
          generalize es[j] = x at *
          have hbx := ent_box (w := wr) x
          obtain ⟨⟨z0, z1, z2, z3, z4⟩, -⟩ := five_at (heap_alloc_new wr (.cells #[.int .i64 x.k, .int .i64 x.v, .int .i64 x.t, .int .i64 x.h, .bool x.g] 77))
          have HBx := Lib.hid (HBj.out.trans (hbx.mono HBj.out.size))
          have HSx := Lib.hid (HS.out.on hbx)
          obtain ⟨s0, sf⟩ := HSx.out.cell kk hkk8
          have hkz : decide ((8 : Int) ≤ (kk : Int)) = false := by simp; omega
          have hvz : decide ((255 : Int) < x.v) = false := by simp; omega
          have hbE := hbx.size
          obtain ⟨xk, xv, xt, xh, xg⟩ := x
          simp only at *
          subst hkk
          clear hbx hok hk0 hk8
          go_upto_region 17 with (fail)
          generalize (wr.alloc (.cells #[.int .i64 kk, .int .i64 xv, .int .i64 xt, .int .i64 xh, .bool xg] 77)) = W6 at *
          have HSw := HS
          clear x0 x1 x2 x3 x4 HS HBj
          go_upto_region 19 with (fail)
          have hkz8 : (kk : Int) < 8 := by omega
          have hEO : wo.heap.size ≠ wr.heap.size := by
            have := (Array.getElem?_eq_some_iff.1 HSw.out.cells).1; omega
          go_region_held3 (fun X => X.cell? ⟨wr.heap.size, 0, none⟩ = some (.int .i64 kk) ∧ X.cell? ⟨wr.heap.size, 1, none⟩ = some (.int .i64 xv) ∧ X.cell? ⟨wr.heap.size, 2, none⟩ = some (.int .i64 xt) ∧ X.cell? ⟨wr.heap.size, 3, none⟩ = some (.int .i64 xh) ∧ X.cell? ⟨wr.heap.size, 4, none⟩ = some (.bool xg))
            (first | go_keep | exact ⟨z0, z1, z2, z3, z4⟩ | exact five_far hEO (cell_on hb7 z0) (cell_on hb7 z1) (cell_on hb7 z2) (cell_on hb7 z3) (cell_on hb7 z4) | exact ⟨cell_on hb7 z0, cell_on hb7 z1, cell_on hb7 z2, cell_on hb7 z3, cell_on hb7 z4⟩)
            ((go_at_call 82; refine (CS.out _).mono ?_; rintro e w7 ⟨rfl, hb7⟩; have hS7 := HSx.out.on ((Below.drew (Below.refl _ _)).trans hb7); obtain ⟨s7, sf7⟩ := hS7.cell kk hkk8))
          all_goals
            have hS8 := Hset.out _ hS7
            have hB8 : Hid (Below wo.heap.size wo (w7.setCell ⟨wo.heap.size, kk, none⟩ (.int .i64 sl))) := (HBx.out.trans (((Below.drew (Below.refl _ _)).trans hb7).mono HBx.out.size)).setCell (Nat.le_refl _) _
            clear hS7 s7 sf7 hb7 CS HSw HSx HBx z0 z1 z2 z3 z4
            go_wp2_with fail
            go_roundw
            case rel => exact ⟨j + 1, by omega, by go_num, hS8, hB8⟩
            case measure => first | (simp [intOf]; done) | (simp [intOf]; omega)
        · obtain rfl : j = es.length := by omega
          have hSf : Hid (SlotsAt wr wo.heap.size es) := by have := HS.out; rwa [List.take_length] at this
          obtain ⟨p0, -⟩ := hSf.out.cell 0 (by omega)
          obtain ⟨p1, -⟩ := hSf.out.cell 1 (by omega)
          obtain ⟨p2, -⟩ := hSf.out.cell 2 (by omega)
          obtain ⟨p3, -⟩ := hSf.out.cell 3 (by omega)
          obtain ⟨p4, -⟩ := hSf.out.cell 4 (by omega)
          obtain ⟨p5, -⟩ := hSf.out.cell 5 (by omega)
          obtain ⟨p6, -⟩ := hSf.out.cell 6 (by omega)
          obtain ⟨p7, -⟩ := hSf.out.cell 7 (by omega)
          have HO8 := Lib.hid (owns_below HO.out HBj.out)
          have HB8 := Lib.hid (HB.out.trans (HBj.out.mono HB.out.size))
          clear HS HBj
          go_wp2_with fail
          clear p0 p1 p2 p3 p4 p5 p6 p7 hSf
          go_loopw [10, 17, 72] (fun out _ i wr2 => ∃ r : Nat, r ≤ 8 ∧ i = .int .i64 r ∧ wr2.ownsRow w4.heap.size 158 2 out (rumK ix l k r).length (flds (rumK ix l k r)) ∧ Hid (Below w4.heap.size w4 wr2)) (fun _ _ i _ => 8 - (intOf i).toNat)
          case atStart => exact ⟨0, by omega, rfl, HO8.out, HB8⟩
          case round =>
            clear HO8 HB8
            obtain ⟨r, hr, rfl, ho9, HB9⟩ := hrel
            have HO9 := Lib.hid ho9
            have hsz9 := HB9.out.size
            clear ho9
            by_cases hrl : r < 8
            · have hkl := Hkl.out r hr
              have hks := Hks.out r hrl
              have Hks' := Lib.hid hks
              clear hks
              obtain ⟨z, hz⟩ : ∃ z, z = slotAt es r := ⟨_, rfl⟩
              rw [← hz] at Hks'
              have hxr : ∀ X, (Instr.index 163 (.agg #[.int .i64 (slotAt es 0), .int .i64 (slotAt es 1), .int .i64 (slotAt es 2), .int .i64 (slotAt es 3), .int .i64 (slotAt es 4), .int .i64 (slotAt es 5), .int .i64 (slotAt es 6), .int .i64 (slotAt es 7)]) (.int .i64 (r : Int))).run Tryz.prog X = .ok (.int .i64 z) X := fun X => by
                rw [hz]
                rcases (show r = 0 ∨ r = 1 ∨ r = 2 ∨ r = 3 ∨ r = 4 ∨ r = 5 ∨ r = 6 ∨ r = 7 by omega) with rfl | rfl | rfl | rfl | rfl | rfl | rfl | rfl
                · exact index8_0 _ _ _ _ _ _ _ _ X
                · exact index8_1 _ _ _ _ _ _ _ _ X
                · exact index8_2 _ _ _ _ _ _ _ _ X
                · exact index8_3 _ _ _ _ _ _ _ _ X
                · exact index8_4 _ _ _ _ _ _ _ _ X
                · exact index8_5 _ _ _ _ _ _ _ _ X
                · exact index8_6 _ _ _ _ _ _ _ _ X
                · exact index8_7 _ _ _ _ _ _ _ _ X
              have hG : ∀ (X : World) (vv : Value), X.ownsRow w4.heap.size 158 2 vv ((rumK ix l k r).length + 1) (flds (rumK ix l k r) ++ [.int .i64 34, .int .i64 z]) → X.ownsRow w4.heap.size 158 2 vv (rumK ix l k (r + 1)).length (flds (rumK ix l k (r + 1))) := fun X vv h => by
                rw [Hks'.out, ← flds_snoc, List.length_append, List.length_singleton]; exact h
              have HG := Lib.hid hG
              have hrz : (r : Int) < 8 := by omega
              clear hz hG Hks'
              go_upto_region 24 with (fail)
              clear hxr
              go_wp2_with (at_builtin; refine wp_app1 (w0 := wr) 156 158 2 16 _ elField Tryz.underlying156 w4.heap.size _ _ _ HO9.out (by repeat (first | exact Below.refl _ _ | refine Below.drew ?_ | refine Below.alloc ?_ (by first | (simp; done) | (simp; omega)) _ | refine Below.setCell ?_ (by first | (simp; done) | (simp; omega)) _)) [.int .i64 34, .int .i64 z] rfl _ _ rfl rfl rfl (by first | exact heap_alloc_new _ _ | (simp only [heap_drew, heap_drewN]; exact heap_alloc_new _ _)) (by simp) rfl rfl (by omega) (by omega) hsz9 ?_; intro v6 w6 hown6 hgrow6 hb6)
              have hfin' := Lib.hid (HG.out _ _ hown6)
              have hB' := Lib.hid (HB9.out.trans hb6)
              clear hown6 hgrow6 hb6 HG
              go_roundw
              case rel => first | exact ⟨r + 1, by omega, by go_num, hfin'.out, hB'⟩ | ((repeat apply Exists.intro); exact ⟨⟨r + 1, by omega, by go_num, hfin'.out, hB'⟩, rfl⟩)
              case measure => first | (simp [intOf]; done) | (simp [intOf]; omega)
            · obtain rfl : r = 8 := by omega
              have hO := HO9.out
              rw [Hkn.out] at hO
              have HO' := Lib.hid hO
              clear hO HO9
              go_wp2_with fail
              go_roundw
              case rel => first | exact ⟨k + 1, by omega, by go_num, HO'.out, HB9.out⟩ | ((repeat apply Exists.intro); exact ⟨⟨k + 1, by omega, by go_num, HO'.out, HB9.out⟩, rfl⟩)
              case measure => first | (simp [intOf]; done) | (simp [intOf]; omega)
    · obtain rfl : k = ix.length := by omega
      obtain ⟨ao, co, rfl⟩ := owns_slice HO.out
      have CP := Lib.hid (cpack _ _ wr (Has.of_owns HO.out) Hok.out)
      have hBw := Lib.hid (Hb4.out.trans (HB.out.mono Hb4.out.size))
      clear HO HB
      go_wp2_with fail
      refine CP.out.mono ?_
      rintro e w9 ⟨v9, rfl, hown9, hb9⟩
      obtain ⟨a9, c9, rfl⟩ := owns_slice hown9
      have hfin : Hid (w9.ownsRow w.heap.size 5 1 (.slice a9 (recSize (rumF c.labs f t l)) c9) (recSize (rumF c.labs f t l)) (recBytes (rumF c.labs f t l)) ∧ Below w.heap.size w w9) := by
        rw [HF.out]
        exact ⟨owns_base hown9 hBw.out.size, hBw.out.trans (hb9.mono hBw.out.size)⟩
      rw [← HF.out]
      clear hown9 hb9 CP
      go_wp2_with fail
      go_ret2
      exact ⟨_, rfl, hfin.out⟩
end Go.Proofs.YtjdedflfdlhkdaaGreatDoor

namespace Go.Proofs.YtjdedflfdlhkdaaGreatDoor
open Go.ChangeShapes Go.WideShapes Go.ChangeAt Go.RowKit
set_option linter.unusedVariables false
set_option linter.unusedSimpArgs false

/-- Entries with keys less than r. -/
def upTo (es : List Ent) (r : Nat) : List Ent := es.filter fun e => decide (e.k < r)
theorem upTo_zero {es : List Ent} (h : EightL es) : upTo es 0 = [] := by
  unfold upTo
  rw [List.filter_eq_nil_iff]
  intro e he
  have := (h.eight e he).1
  simp; omega
theorem upTo_all {es : List Ent} (h : EightL es) : upTo es 8 = es := by
  unfold upTo
  rw [List.filter_eq_self]
  intro e he
  have := (h.eight e he).2
  simp; omega
theorem upTo_succ : ∀ {es : List Ent}, es.Pairwise (fun a b => a.k < b.k) → ∀ r : Nat, upTo es (r + 1) = upTo es r ++ (match look es r with | some e => [e] | none => [])
  | [], _, r => by simp [upTo, look]
  | a :: t, h, r => by
    obtain ⟨ha, ht⟩ := List.pairwise_cons.1 h
    have ih := upTo_succ ht r
    rw [look_cons]
    have f0 : ∀ (m : Nat), (m : Int) ≤ a.k → upTo t m = [] := fun m hm => by
      unfold upTo
      rw [List.filter_eq_nil_iff]
      intro e he
      have := ha e he
      simp; omega
    rcases Int.lt_trichotomy a.k r with hl | he | hg
    · rw [if_neg (by omega)]
      have c1 : upTo (a :: t) (r + 1) = a :: upTo t (r + 1) := by unfold upTo; rw [List.filter_cons_of_pos (by simp; omega)]
      have c2 : upTo (a :: t) r = a :: upTo t r := by unfold upTo; rw [List.filter_cons_of_pos (by simp; omega)]
      rw [c1, c2, ih, List.cons_append]
    · rw [if_pos he]
      have c1 : upTo (a :: t) (r + 1) = a :: upTo t (r + 1) := by unfold upTo; rw [List.filter_cons_of_pos (by simp; omega)]
      have c2 : upTo (a :: t) r = upTo t r := by unfold upTo; rw [List.filter_cons_of_neg (by simp; omega)]
      have c3 : upTo t (r + 1) = [] := by
        unfold upTo
        rw [List.filter_eq_nil_iff]
        intro e hem
        have := ha e hem
        simp; omega
      rw [c1, c2, c3, f0 r (by omega)]; rfl
    · rw [if_neg (by omega)]
      have c1 : upTo (a :: t) (r + 1) = upTo t (r + 1) := by unfold upTo; rw [List.filter_cons_of_neg (by simp; omega)]
      have c2 : upTo (a :: t) r = upTo t r := by unfold upTo; rw [List.filter_cons_of_neg (by simp; omega)]
      rw [c1, c2, ih]
/-- What is heard behind a labels and r keys. -/
def heardP (ix : List Nat) (l : Nat → List Ent) (a r : Nat) (j : Nat) : List Ent := if j ∈ ix.take a then l j else if ix[a]? = some j then upTo (l j) r else []
theorem heardP_zero {ix : List Nat} {l : Nat → List Ent} (j : Nat) (h : ∀ i ∈ ix, EightL (l i)) : heardP ix l 0 0 j = [] := by
  unfold heardP
  rw [if_neg (by simp)]
  split
  · next hh => exact upTo_zero (h j (List.mem_of_getElem? hh))
  · rfl
theorem heardP_end (ix : List Nat) (l : Nat → List Ent) (j : Nat) : heardP ix l ix.length 0 j = if j ∈ ix then l j else [] := by
  unfold heardP
  rw [List.take_length]
  split
  · rfl
  · rw [if_neg (by simp)]
theorem heardP_next {ix : List Nat} {l : Nat → List Ent} (hs : ix.Pairwise (· < ·)) (h : ∀ i ∈ ix, EightL (l i)) (a : Nat) (ha : a < ix.length) (j : Nat) : heardP ix l a 8 j = heardP ix l (a + 1) 0 j := by
  unfold heardP
  have e : (j ∈ ix.take (a + 1)) ↔ (j ∈ ix.take a ∨ ix[a] = j) := by
    rw [take_snoc ix a ha, List.mem_append, List.mem_singleton]
    constructor
    · rintro (h | h)
      · exact .inl h
      · exact .inr h.symm
    · rintro (h | h)
      · exact .inl h
      · exact .inr h.symm
  by_cases h1 : j ∈ ix.take a
  · rw [if_pos h1, if_pos (e.2 (.inl h1))]
  · rw [if_neg h1, List.getElem?_eq_getElem ha]
    by_cases h2 : ix[a] = j
    · rw [if_pos (by rw [h2]), if_pos (e.2 (.inr h2)), upTo_all (h j (by rw [← h2]; exact List.getElem_mem ha))]
    · rw [if_neg (by simpa using h2), if_neg (fun hh => (e.1 hh).elim h1 h2)]
      split
      · next hh => exact (upTo_zero (h j (List.mem_of_getElem? hh))).symm
      · rfl
theorem idx_notin {ix : List Nat} (hs : ix.Pairwise (· < ·)) (a : Nat) (ha : a < ix.length) : ix[a] ∉ ix.take a := by
  intro h
  obtain ⟨i, hi, he⟩ := List.mem_take_iff_getElem.1 h
  have := List.pairwise_iff_getElem.1 hs i a (by omega) ha (by omega)
  omega
theorem heardP_step {ix : List Nat} {l : Nat → List Ent} (hs : ix.Pairwise (· < ·)) (a r : Nat) (ha : a < ix.length) (h : EightL (l ix[a])) (j : Nat) :
    heardP ix l a (r + 1) j = match look (l ix[a]) r with | some e => updF (heardP ix l a r) ix[a] (heardP ix l a r ix[a] ++ [e]) j | none => heardP ix l a r j := by
  have hn := idx_notin hs a ha
  have e1 : ∀ m, heardP ix l a m ix[a] = upTo (l ix[a]) m := fun m => by unfold heardP; rw [if_neg hn, List.getElem?_eq_getElem ha, if_pos rfl]
  have e2 : ∀ m, j ≠ ix[a] → heardP ix l a m j = heardP ix l a r j := fun m hj => by
    unfold heardP
    have hne : ¬ some ix[a] = some j := by simpa using (fun h => hj h.symm)
    rw [List.getElem?_eq_getElem ha, if_neg hne, if_neg hne]
  have hu := upTo_succ h.may.sorted r
  by_cases hj : j = ix[a]
  · subst hj
    rw [e1, hu]
    cases look (l ix[a]) r with
    | none => simp [e1]
    | some e => simp only; rw [updF_same, e1]
  · rw [e2 _ hj]
    cases look (l ix[a]) r with
    | none => rfl
    | some e => simp only; rw [updF_ne _ _ hj]
structure HAt (w : World) (g B m cur : Nat) (vs : Nat → Value) (L : Nat → List Ent) : Prop where
  cells : w.heap[g]? = some (.cells ((List.range m).map vs).toArray 43 (0, 0))
  rows : ∀ j, j < m → Has w 5 (vs j) (L j).length (ents (L j))
  nil : ∀ j, L j = [] → vs j = .slice none 0 0
  low : ∀ j, j < m → j ≠ cur → ∀ b o n c, vs j = .slice (some ⟨b, o, none⟩) n c → g < b ∧ b < B
  own : w.ownsRow B 77 5 (vs cur) (L cur).length (ents (L cur))
  gB : g < B
  BS : B ≤ w.heap.size
section
variable {w w' : World} {g B m cur : Nat} {vs : Nat → Value} {L : Nat → List Ent}
theorem HAt.on (h : HAt w g B m cur vs L) (hb : Below w.heap.size w w') : HAt w' g B m cur vs L :=
  ⟨by rw [hb.block _ (Array.getElem?_eq_some_iff.1 h.cells).1]; exact h.cells, fun j hj => (h.rows j hj).below hb, h.nil, h.low, owns_below h.own hb, h.gB, Nat.le_trans h.BS hb.size⟩
theorem ents_nil_iff (l : List Ent) : 0 < l.length ∨ l = [] := by cases l <;> simp
theorem HAt.fresh (h : HAt w g B m cur vs L) (new : Nat) (hn : L new = []) : HAt w g w.heap.size m new vs L := by
  refine ⟨h.cells, h.rows, h.nil, fun j hj hne b o n c hv => ?_, ?_, Nat.lt_of_lt_of_le h.gB h.BS, Nat.le_refl _⟩
  · have hgB := h.gB
    have hBS := h.BS
    by_cases e : j = cur
    · subst e
      rcases ents_nil_iff (L j) with hl | hl
      · obtain ⟨g', c', he, h1, h2, _⟩ := owns_some h.own hl
        rw [hv] at he
        simp only [Value.slice.injEq, Option.some.injEq, Addr.mk.injEq] at he
        omega
      · rw [h.nil j hl] at hv; simp at hv
    · have := h.low j hj e b o n c hv
      omega
  · rw [h.nil new hn, hn]; exact World.ownsRow_nil _ _ _ _
theorem HAt.app {w2 : World} {v' : Value} {e : Ent} (h : HAt w g B m cur vs L) (hcur : cur < m) (hb : Below B w w2) (ho : w2.ownsRow B 77 5 v' ((L cur).length + 1) (ents (L cur) ++ e.cells)) :
    HAt (w2.setCell ⟨g, cur, none⟩ v') g B m cur (updF vs cur v') (updF L cur (L cur ++ [e])) := by
  have hgB := h.gB
  have hc2 : w2.heap[g]? = some (.cells ((List.range m).map vs).toArray 43 (0, 0)) := by rw [hb.block g hgB]; exact h.cells
  have hl : (L cur ++ [e]).length = (L cur).length + 1 := by simp
  have hents : ents (L cur ++ [e]) = ents (L cur) ++ e.cells := by simp [ents]
  have ho' : w2.ownsRow B 77 5 v' (L cur ++ [e]).length (ents (L cur ++ [e])) := by rw [hl, hents]; exact ho
  have ho2 : (w2.setCell ⟨g, cur, none⟩ v').ownsRow B 77 5 v' (L cur ++ [e]).length (ents (L cur ++ [e])) := ownsRow_setCell_below ho' (a := ⟨g, cur, none⟩) hgB v'
  refine ⟨?_, fun j hj => ?_, fun j hj => ?_, fun j hj hne b o n c hv => ?_, ?_, hgB, ?_⟩
  · rw [heap_setCell_same w2 g cur _ _ v' hc2]
    congr 2
    apply Array.ext'
    rw [Array.toList_setIfInBounds, List.toList_toArray, range_set]
  · by_cases e1 : j = cur
    · subst e1; rw [updF_same, updF_same]; exact Has.of_owns ho2
    · rw [updF_ne _ _ e1, updF_ne _ _ e1]
      refine (h.rows j hj).at fun _ b off n' cap hv => ?_
      have hlo := h.low j hj e1 b off n' cap hv
      rw [Below.heap_setCell _ _ _ _ (show b ≠ g by omega)]
      exact hb.block b hlo.2
  · by_cases e1 : j = cur
    · subst e1; rw [updF_same] at hj; simp at hj
    · rw [updF_ne _ _ e1] at hj ⊢; exact h.nil j hj
  · rw [updF_ne _ _ hne] at hv; exact h.low j hj hne b o n c hv
  · rw [updF_same, updF_same]; exact ho2
  · simp only [World.setCell]
    have := hb.size
    have := h.BS
    simp; omega
theorem HAt.far (h : HAt w g B m cur vs L) (j : Nat) (hj : j < m) (b o n c : Nat) (hv : vs j = .slice (some ⟨b, o, none⟩) n c) : g ≤ b := by
  by_cases e : j = cur
  · subst e
    have hgB := h.gB
    rcases ents_nil_iff (L j) with hl | hl
    · obtain ⟨g', c', he, h1, h2, _⟩ := owns_some h.own hl
      rw [hv] at he
      simp only [Value.slice.injEq, Option.some.injEq, Addr.mk.injEq] at he
      omega
    · rw [h.nil j hl] at hv; simp at hv
  · have := h.low j hj e b o n c hv
    omega
theorem HAt.cell (h : HAt w g B m cur vs L) (j : Nat) (hj : j < m) : w.cell? ⟨g, j, none⟩ = some (vs j) ∧ w.frozen? ⟨g, j, none⟩ = false := by
  refine ⟨?_, by simp [World.frozen?, h.cells]⟩
  rw [cell_of_row w _ _ _ _ _ h.cells]
  simp [hj]
theorem HAt.same {L' : Nat → List Ent} (h : HAt w g B m cur vs L) (he : ∀ j, L' j = L j) : HAt w g B m cur vs L' := by
  have : L' = L := funext he
  rw [this]; exact h
end
end Go.Proofs.YtjdedflfdlhkdaaGreatDoor
