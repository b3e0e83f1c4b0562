/- Package frame: branch, shared, slot, entry. -/
import Derived.Test.YtngedkfljpkoiaaFrmA
import Derived.Test.YtngedkfljpkoiaaOwn
import Derived.Test.YtngedkfljpkoiaaTag
import Derived.Test.YtngedkfljpkoiaaMergeM
namespace Go.Proofs.Ytngedkfljpkoiaa
open Go.ChangeShapes Go.WideShapes Go.ChangeAt Go.RowKit
set_option linter.unusedVariables false
set_option linter.unusedSimpArgs false

def slotOf (e : Ent) : Int := (((if e.g = true then 3 else 2) * 256 + e.v) * 2097152 + e.t) * 8 + e.h
theorem or_join (i : Nat) (hi : i ≤ 60) (x y : Int) (hx : x % 2 ^ i = 0) (hx0 : 0 ≤ x) (hx1 : x < 4611686018427387904) (hy0 : 0 ≤ y) (hy : y < 2 ^ i) : bits BinOp.or IntKind.i64 x y = x + y :=
  bits_join .i64 62 (by decide) (fun n h0 h1 => IntWalk.i64_in n (by omega)) i x y hx0 hx (by omega) hy0 hy (by
    have : (2 : Int) ^ i ≤ 2 ^ 60 := by exact_mod_cast Nat.pow_le_pow_right (by omega) hi
    omega)
theorem and_mask (i : Nat) (hi : i ≤ 62) (x : Int) (h0 : 0 ≤ x) (h1 : x < 4611686018427387904) : bits BinOp.and IntKind.i64 x (2 ^ i - 1) = x % 2 ^ i :=
  bits_mask .i64 62 (by decide) (fun n h0 h1 => IntWalk.i64_in n (by omega)) i hi x h0 (by omega)
theorem slot_val (q v t h : Int) (hq : 0 ≤ q ∧ q ≤ 3) (hv : 0 ≤ v ∧ v ≤ 255) (ht : 0 ≤ t ∧ t ≤ 1048576) (hh : 0 ≤ h ∧ h ≤ 7) :
    bits BinOp.or IntKind.i64 (wrap64 (bits BinOp.or IntKind.i64 (wrap64 (bits BinOp.or IntKind.i64 (q * 256) v * 2097152)) t * 8)) h = ((q * 256 + v) * 2097152 + t) * 8 + h := by
  have w1 : ∀ x : Int, 0 ≤ x → x < 4611686018427387904 → wrap64 x = x := fun x h0 h1 => IntWalk.wrap64_in x (by omega)
  have e1 := or_join 8 (by omega) (q * 256) v (by omega) (by omega) (by omega) (by omega) (by omega)
  have e2 := w1 ((q * 256 + v) * 2097152) (by omega) (by omega)
  have e3 := or_join 21 (by omega) ((q * 256 + v) * 2097152) t (by omega) (by omega) (by omega) (by omega) (by omega)
  have e4 := w1 (((q * 256 + v) * 2097152 + t) * 8) (by omega) (by omega)
  have e5 := or_join 3 (by omega) (((q * 256 + v) * 2097152 + t) * 8) h (by omega) (by omega) (by omega) (by omega) (by omega)
  rw [e1, e2, e3, e4, e5]
theorem slotOf_bd {e : Ent} (he : e.Ok) (hv : e.v ≤ 255) : 4294967296 ≤ slotOf e ∧ slotOf e < 17179869184 := by
  have h1 := he.v
  have h2 := he.t
  have h3 := he.h
  unfold slotOf
  split <;> omega
set_option maxRecDepth 100000 in
set_option maxHeartbeats 2000000 in
theorem cslot (e : Ent) (he : e.Ok) (hv : e.v ≤ 255) (w : World) :
    Calls Try.prog 30 #[.agg #[.int .i64 e.k, .int .i64 e.v, .int .i64 e.t, .int .i64 e.h, .bool e.g]] w fun e' w' => e' = .returned (.int .i64 (slotOf e)) ∧ Below w.heap.size w w' := by
  have hb := ent_box (w := w) e
  obtain ⟨⟨x0, x1, x2, x3, x4⟩, -⟩ := five_at (heap_alloc_new w (.cells #[.int .i64 e.k, .int .i64 e.v, .int .i64 e.t, .int .i64 e.h, .bool e.g] 41))
  have Hb := Lib.hid hb
  have h1 := he.v
  have h2 := he.t
  have h3 := he.h
  obtain ⟨k, v, t, h, g⟩ := e
  simp only at *
  clear hb he
  cases g
  · have HS := Lib.hid (slot_val 2 v t h (by omega) (by omega) (by omega) (by omega))
    go_enter Try.func30, Try.ntmps30
    go_upto_region 4 with (fail)
    go_wp2_with fail
    go_ret
    exact ⟨ret_int (by rw [show (512 : Int) = 2 * 256 from rfl]; exact HS.out), Hb.out⟩
  · have HS := Lib.hid (slot_val 3 v t h (by omega) (by omega) (by omega) (by omega))
    go_enter Try.func30, Try.ntmps30
    go_upto_region 4 with (fail)
    go_wp2_with fail
    go_ret
    exact ⟨ret_int (by rw [show (768 : Int) = 3 * 256 from rfl]; exact HS.out), Hb.out⟩
/-- What a slot says. -/
def entOfSlot (key n : Int) : Ent × Bool := (⟨key, n / 8 / 2097152 % 256, n / 8 % 2097152, n % 8, n / 8 / 2097152 / 256 == 3⟩, decide (0 < n / 8 / 2097152 / 256))
theorem slot_back {e : Ent} (he : e.Ok) (hv : e.v ≤ 255) : entOfSlot e.k (slotOf e) = (e, true) := by
  have h1 := he.v
  have h2 := he.t
  have h3 := he.h
  obtain ⟨k, v, t, h, g⟩ := e
  unfold entOfSlot slotOf
  simp only at *
  cases g
  · simp only [Bool.false_eq_true, if_false, Prod.mk.injEq, Ent.mk.injEq, true_and]
    refine ⟨⟨by omega, by omega, by omega, ?_⟩, ?_⟩
    · rw [beq_eq_false_iff_ne]; omega
    · rw [decide_eq_true_eq]; omega
  · simp only [if_true, Prod.mk.injEq, Ent.mk.injEq, true_and]
    refine ⟨⟨by omega, by omega, by omega, ?_⟩, ?_⟩
    · rw [beq_iff_eq]; omega
    · rw [decide_eq_true_eq]; omega
theorem slot_none (key : Int) : entOfSlot key 0 = (⟨key, 0, 0, 0, false⟩, false) := rfl
set_option maxRecDepth 100000 in
set_option maxHeartbeats 2000000 in
theorem centry (key n : Int) (h0 : 0 ≤ n) (h1 : n < 17179869184) (w : World) :
    Calls Try.prog 39 #[.int .i64 key, .int .i64 n] w fun e' w' => e' = .returned (.tuple #[(entOfSlot key n).1.val, .bool (entOfSlot key n).2]) ∧ Below w.heap.size w w' := by
  have m1 := and_mask 3 (by omega) n h0 (by omega)
  have m2 := and_mask 21 (by omega) (n / 8) (by omega) (by omega)
  have m3 := and_mask 8 (by omega) (n / 8 / 2097152) (by omega) (by omega)
  have e1 : bits BinOp.and IntKind.i64 n 7 = n % 8 := m1
  have e2 : bits BinOp.and IntKind.i64 (n / 8) 2097151 = n / 8 % 2097152 := m2
  have e3 : bits BinOp.and IntKind.i64 (n / 8 / 2097152) 255 = n / 8 / 2097152 % 256 := m3
  clear m1 m2 m3
  go_enter Try.func39, Try.ntmps39
  go_upto_region 1 with (fail)
  go_wp2_with fail
  obtain ⟨⟨u0, u1, u2, u3, u4⟩, -⟩ := five_at (heap_alloc_new w (.cells #[.int .i64 key, .int .i64 (n / 8 / 2097152 % 256), .int .i64 (n / 8 % 2097152), .int .i64 (n % 8), .bool (n / 8 / 2097152 / 256 == 3)] 41))
  refine bodyPost_ret (v := .tuple #[.agg #[.int .i64 key, .int .i64 (n / 8 / 2097152 % 256), .int .i64 (n / 8 % 2097152), .int .i64 (n % 8), .bool (n / 8 / 2097152 / 256 == 3)], .bool (decide (0 < n / 8 / 2097152 / 256))]) (by simp [results, Try.results39, go_sem, u0, u1, u2, u3, u4]) rfl ?_
  exact ⟨rfl, (Below.refl _ _).alloc (Nat.le_refl _) _⟩
/-- The places of the labels in which both are, of k. -/
def shr (labs : List Nat) (f t : Nat) : Nat → List Nat
  | 0 => []
  | k + 1 => if lb labs k f = true ∧ lb labs k t = true then shr labs f t k ++ [k] else shr labs f t k
theorem shr_mem (labs : List Nat) (f t : Nat) : ∀ k x, x ∈ shr labs f t k ↔ x < k ∧ lb labs x f = true ∧ lb labs x t = true
  | 0, x => by simp [shr]
  | k + 1, x => by
    have ih := shr_mem labs f t k x
    unfold shr
    split
    · next h =>
      rw [List.mem_append, List.mem_singleton, ih]
      constructor
      · rintro (⟨a, b⟩ | rfl)
        · exact ⟨by omega, b⟩
        · exact ⟨by omega, h⟩
      · rintro ⟨a, b⟩
        by_cases e : x = k
        · exact .inr e
        · exact .inl ⟨by omega, b⟩
    · next h =>
      rw [ih]
      constructor
      · rintro ⟨a, b⟩; exact ⟨by omega, b⟩
      · rintro ⟨a, b⟩
        refine ⟨?_, b⟩
        by_cases e : x = k
        · subst e; exact absurd b h
        · omega
theorem shr_len (labs : List Nat) (f t : Nat) : ∀ k, (shr labs f t k).length ≤ k
  | 0 => Nat.le_refl _
  | k + 1 => by
    have := shr_len labs f t k
    unfold shr; split
    · simp; omega
    · omega
theorem shr_sorted (labs : List Nat) (f t : Nat) : ∀ k, (shr labs f t k).Pairwise (· < ·)
  | 0 => List.Pairwise.nil
  | k + 1 => by
    unfold shr; split
    · rw [List.pairwise_append]
      refine ⟨shr_sorted labs f t k, by simp, fun a ha b hb => ?_⟩
      have := ((shr_mem labs f t k a).1 ha).1
      simp only [List.mem_singleton] at hb
      omega
    · exact shr_sorted labs f t k
theorem both_bits (s f t : Nat) (hs : s < 16) (hf : f < 4) (ht : t < 4) : (bits BinOp.and IntKind.i64 (bits BinOp.and IntKind.i64 ((s : Int) / 2 ^ f) ((s : Int) / 2 ^ t)) 1 == 1) = (inL s f && inL s t) := by
  have h : ∀ x : Fin 16, ∀ y : Fin 4, ∀ z : Fin 4, (bits BinOp.and IntKind.i64 (bits BinOp.and IntKind.i64 (((x.1 : Nat) : Int) / 2 ^ y.1) (((x.1 : Nat) : Int) / 2 ^ z.1)) 1 == 1) = (inL x.1 y.1 && inL x.1 z.1) := by decide +kernel
  exact h ⟨s, hs⟩ ⟨f, hf⟩ ⟨t, ht⟩
set_option maxRecDepth 100000 in
set_option maxHeartbeats 4000000 in
theorem cShared {w : World} {c : Cfg} {vl vm : Value} (hc : c.Ok) (h : CfgAt w c vl vm) (f t : Nat) (hf : f < 4) (ht : t < 4) :
    Calls Try.prog 29 #[.agg (c.cells vl vm), .int .i64 f, .int .i64 t] w fun e w' => ∃ v', e = .returned v' ∧ w'.ownsRow w.heap.size 3 1 v' (shr c.labs f t c.labs.length).length (ints (labInts (shr c.labs f t c.labs.length))) ∧ Below w.heap.size w w' := by
  have hb := cfg_box w c vl vm
  obtain ⟨x0, x1, x2, x3, x4⟩ := cfg_at (heap_alloc_new w (.cells (c.cells vl vm) 48))
  have H := Lib.hid (h.on hb)
  have Hb := Lib.hid hb
  have hlen := hc.len
  have H16 := Lib.hid hc.lt16
  obtain ⟨_, la, cl, rfl, hcl1, hcl2, _⟩ := h.hl
  unfold maxLen at hcl2
  unfold Cfg.cells at x0 x1 x2 x3 x4 Hb H hb ⊢
  clear hb hc h x0 x2 x3 x4
  go_enter Try.func29, Try.ntmps29
  go_upto_region 1 with (fail)
  generalize (w.alloc (.cells #[.int .i64 c.n, .slice la c.labs.length cl, .int .i64 c.ticks, vm, .int .i64 c.cap] 48)) = W at *
  go_wp2_with fail
  go_loopw [7, 8, 9, 13] (fun out _ _ i wr => ∃ k : Nat, k ≤ c.labs.length ∧ i = .int .i64 k ∧ wr.ownsRow W.heap.size 3 1 out (shr c.labs f t k).length (ints (labInts (shr c.labs f t k))) ∧ Below W.heap.size W wr) (fun _ _ _ i _ => c.labs.length - (intOf i).toNat)
  case atStart => exact ⟨0, by omega, rfl, World.ownsRow_nil _ _ _ _, Below.refl _ _⟩
  case round =>
    clear x1
    obtain ⟨k, hk, rfl, ho, hB⟩ := hrel
    have HO := Lib.hid ho
    have HB := Lib.hid hB
    clear ho hB
    by_cases hlt : k < c.labs.length
    · have hltz : (k : Int) < (c.labs.length : Int) := by omega
      obtain ⟨⟨hl, _⟩, _, _, he, _, _, hcc⟩ := H.out.hl
      simp only [Value.slice.injEq] at he
      obtain ⟨rfl, -, rfl⟩ := he
      obtain ⟨b, o, rfl, hcell⟩ := hcc (by rw [ints_length, labInts_length']; omega)
      have x0 := cell_on HB.out (hcell k (.int .i64 c.labs[k]) (by rw [ints_get _ k (by rw [labInts_length']; exact hlt)]; simp [labInts]))
      have hbb := both_bits c.labs[k] f t (H16.out _ (List.getElem_mem hlt)) hf ht
      have hsucc : Hid (shr c.labs f t (k + 1) = if inL c.labs[k] f = true ∧ inL c.labs[k] t = true then shr c.labs f t k ++ [k] else shr c.labs f t k) := by
        show _ = _
        rw [← lb_at hlt, ← lb_at hlt]; rfl
      have hsl := shr_len c.labs f t k
      have hszw := HB.out.size
      clear hcell hcc hl
      generalize c.labs[k] = s at *
      cases h1 : inL s f && inL s t with
      | false =>
        rw [h1] at hbb
        rw [if_neg (by rw [Bool.and_eq_false_iff] at h1; rintro ⟨a, b⟩; rcases h1 with h | h <;> simp_all)] at hsucc
        go_upto_region 5 with (fail)
        go_quiet (fail)
        go_wp2_with fail
        go_roundw
        case rel => first | exact ⟨k + 1, by omega, by go_num, by rw [hsucc.out]; exact owns_below HO.out (below_drewN (Below.refl _ _) _), below_drewN HB.out _⟩ | ((repeat apply Exists.intro); exact ⟨⟨k + 1, by omega, by go_num, by rw [hsucc.out]; exact owns_below HO.out (below_drewN (Below.refl _ _) _), below_drewN HB.out _⟩, rfl⟩)
        case measure => first | (simp [intOf]; done) | (simp [intOf]; omega)
      | true =>
        rw [h1] at hbb
        rw [if_pos (by simpa using h1)] at hsucc
        go_upto_region 5 with (fail)
        go_quiet (fail)
        go_upto_region 6 with (fail)
        obtain ⟨w9, hw9⟩ : ∃ x, x = wr.drewN nq := ⟨_, rfl⟩
        have hb9 : Below wr.heap.size wr w9 := by rw [hw9]; exact below_drewN (Below.refl _ _) _
        rw [← hw9]
        have HO9 := Lib.hid (owns_below HO.out hb9)
        have HB9 := Lib.hid (HB.out.trans (hb9.mono hszw))
        have hsz9 := HB9.out.size
        clear hw9 hb9 x0
        go_wp2_with (at_builtin; refine wp_app1 (w0 := w9) 22 3 1 8 _ elInt Try.underlying22 W.heap.size _ _ _ HO9.out (by repeat (first | exact Below.refl _ _ | refine Below.drew ?_ | refine Below.alloc ?_ (by first | (simp; done) | (simp; omega)) _ | refine Below.setCell ?_ (by first | (simp; done) | (simp; omega)) _)) [.int .i64 k] rfl _ _ rfl rfl rfl (by first | exact heap_alloc_new _ _ | (simp only [heap_drew, heap_drewN]; exact heap_alloc_new _ _)) (by simp) rfl rfl (by omega) (by omega) hsz9 ?_; intro v6 w6 hown6 hgrow6 hb6)
        have hfin : Hid (w6.ownsRow W.heap.size 3 1 v6 (shr c.labs f t (k + 1)).length (ints (labInts (shr c.labs f t (k + 1))))) := by
          rw [hsucc.out, List.length_append, List.length_singleton]
          have : labInts (shr c.labs f t k ++ [k]) = labInts (shr c.labs f t k) ++ [(k : Int)] := by simp [labInts]
          rw [this, ← ints_snoc]; exact hown6
        have hfb := HB9.out.trans hb6
        clear hown6 hgrow6 hb6
        go_roundw
        case rel => first | exact ⟨k + 1, by omega, by go_num, hfin.out, hfb⟩ | ((repeat apply Exists.intro); exact ⟨⟨k + 1, by omega, by go_num, hfin.out, hfb⟩, rfl⟩)
        case measure => first | (simp [intOf]; done) | (simp [intOf]; omega)
    · obtain rfl : k = c.labs.length := by omega
      obtain ⟨ao, co, hao⟩ := owns_slice HO.out
      subst hao
      have hfin : Hid (wr.ownsRow w.heap.size 3 1 (.slice ao (shr c.labs f t c.labs.length).length co) (shr c.labs f t c.labs.length).length (ints (labInts (shr c.labs f t c.labs.length))) ∧ Below w.heap.size w wr) := ⟨owns_base HO.out Hb.out.size, Hb.out.trans (HB.out.mono Hb.out.size)⟩
      clear HO HB
      go_wp2_with fail
      go_ret
      exact ⟨_, rfl, hfin.out⟩
end Go.Proofs.Ytngedkfljpkoiaa
