/- Package gossip: next, Put, In, there. -/
import Derived.Test.YtngedkfljpkoiaaGosM
import Derived.Test.YtngedkfljpkoiaaBits
namespace Go.Proofs.Ytngedkfljpkoiaa
open Go.ChangeShapes Go.WideShapes Go.ChangeAt Go.RowKit
set_option linter.unusedVariables false
set_option linter.unusedSimpArgs false

set_option maxRecDepth 100000 in
set_option maxHeartbeats 4000000 in
theorem cNext {w : World} {g m : Nat} {vs : Nat → Value} {l : Nat → List Ent} (h : StoreAt w g m vs l) (j : Nat) (hj : j < m) (hm : m ≤ 4) :
    Calls Try.prog 65 #[.slice (some ⟨g, 0, none⟩) m m, .int .i64 j] w fun e w' => e = .returned (.int .i64 (maxT (l j) + 1)) ∧ Below w.heap.size w w' := by
  obtain ⟨c0, f0⟩ := h.cell j hj
  have HR := Lib.hid (h.rows j hj).has
  have hok := (h.ok j hj).may.ok
  have hjz : (j : Int) < (m : Int) := by omega
  obtain ⟨_, aj, cj, hvj, _, hcm, _⟩ := (h.rows j hj).has
  unfold maxLen at hcm
  rw [hvj] at c0 HR
  generalize l j = a at *
  have Hok := Lib.hid hok
  have hT0 : maxT (a.take 0) = 0 := rfl
  have hmb : Hid (∀ k, 0 ≤ maxT (a.take k) ∧ maxT (a.take k) ≤ 1048576) := fun k => ⟨maxT_nonneg _, maxT_le (by omega) fun e he => (Hok.out e (List.mem_of_mem_take he)).t.2⟩
  clear h hok hvj f0
  go_enter Try.func65, Try.ntmps65
  go_wp2_with fail
  go_loopw [5, 7, 13] (fun t _ i wr => ∃ k : Nat, k ≤ a.length ∧ i = .int .i64 k ∧ t = .int .i64 (maxT (a.take k)) ∧ Hid (Below w.heap.size w wr)) (fun _ _ i _ => a.length - (intOf i).toNat)
  case atStart => exact ⟨0, by omega, rfl, rfl, Below.refl _ _⟩
  case round =>
    obtain ⟨k, hk, rfl, rfl, HB⟩ := hrel
    by_cases hlt : k < a.length
    · have hltz : (k : Int) < (a.length : Int) := by omega
      obtain ⟨b, off, cap, he, -, x0, x1, x2, x3, x4⟩ := ent_get HR.out k hlt
      simp only [Value.slice.injEq] at he
      obtain ⟨rfl, -, rfl⟩ := he
      replace x0 := cell_on HB.out x0
      replace x1 := cell_on HB.out x1
      replace x2 := cell_on HB.out x2
      replace x3 := cell_on HB.out x3
      replace x4 := cell_on HB.out x4
      have hbl := World.block_lt_of_cell? wr _ x0
      have hsn : maxT (a.take (k + 1)) = max (maxT (a.take k)) a[k].t := by rw [take_snoc a k hlt, maxT_snoc]
      have Hsn := Lib.hid hsn
      generalize a[k] = x at *
      generalize maxT (a.take k) = t at *
      have HB2 : Hid (Below w.heap.size w (wr.alloc (.cells #[.int .i64 x.k, .int .i64 x.v, .int .i64 x.t, .int .i64 x.h, .bool x.g] 41))) := HB.out.trans ((ent_box (w := wr) x).mono HB.out.size)
      obtain ⟨⟨z0, z1, z2, z3, z4⟩, -⟩ := five_at (heap_alloc_new wr (.cells #[.int .i64 x.k, .int .i64 x.v, .int .i64 x.t, .int .i64 x.h, .bool x.g] 41))
      clear hsn
      go_wp2_with fail
      all_goals
        go_roundw
        case rel => exact ⟨k + 1, by omega, by go_num, by rw [Hsn.out]; first | rfl | (congr 1; omega), HB2⟩
        case measure => first | (simp [intOf]; done) | (simp [intOf]; omega)
    · obtain rfl : k = a.length := by omega
      obtain ⟨b0, b1⟩ := hmb.out a.length
      rw [List.take_of_length_le (Nat.le_refl _)] at b0 b1 ⊢
      have hw : IntKind.i64.wrap (maxT a + 1) = maxT a + 1 := IntWalk.i64_in _ (by omega)
      go_wp2_with fail
      go_ret
      exact ⟨rfl, HB.out⟩
set_option maxRecDepth 100000 in
set_option maxHeartbeats 4000000 in
theorem cPut {w : World} {g m : Nat} {vs : Nat → Value} {l : Nat → List Ent} (h : StoreAt w g m vs l) (j : Nat) (hj : j < m) (hm : m ≤ 4) (who key value : Int) (gone : Bool) (hok : Ent.Ok ⟨key, value, maxT (l j) + 1, who, gone⟩) (hk : 0 ≤ key ∧ key < 8) :
    Calls Try.prog 55 #[.slice (some ⟨g, 0, none⟩) m m, .int .i64 j, .int .i64 who, .int .i64 key, .int .i64 value, .bool gone] w fun e w' => e = .returned (.tuple #[]) ∧ ∃ v', StoreAt w' g m (updF vs j v') (updF l j (mergeL (l j) [⟨key, value, maxT (l j) + 1, who, gone⟩])) ∧ w.grownBy w' (some g) := by
  have H := Lib.hid h
  have CN := Lib.hid (cNext h j hj hm)
  have h8 := Lib.hid (EightL.one hok hk)
  generalize maxT (l j) + 1 = t at *
  clear h hok
  go_enter Try.func55, Try.ntmps55
  go_wp2_with fail
  refine CN.out.mono ?_
  rintro e w1 ⟨rfl, hb1⟩
  have Hb1 := Lib.hid hb1
  have hb2 := ent_box (w := w1) ⟨key, value, t, who, gone⟩
  have hb3 := ent_box (w := w1.alloc (.cells #[.int .i64 key, .int .i64 value, .int .i64 t, .int .i64 who, .bool gone] 41)) ⟨key, value, t, who, gone⟩
  simp only at hb2 hb3
  obtain ⟨⟨z0, z1, z2, z3, z4⟩, -⟩ := five_at (heap_alloc_new w1 (.cells #[.int .i64 key, .int .i64 value, .int .i64 t, .int .i64 who, .bool gone] 41))
  have hnew := heap_alloc_new (w1.alloc (.cells #[.int .i64 key, .int .i64 value, .int .i64 t, .int .i64 who, .bool gone] 41)) (.cells #[.int .i64 key, .int .i64 value, .int .i64 t, .int .i64 who, .bool gone] 41)
  have hB : Below w.heap.size w ((w1.alloc (.cells #[.int .i64 key, .int .i64 value, .int .i64 t, .int .i64 who, .bool gone] 41)).alloc (.cells #[.int .i64 key, .int .i64 value, .int .i64 t, .int .i64 who, .bool gone] 41)) :=
    (hb1.trans (hb2.mono hb1.size)).trans (hb3.mono (hb1.trans (hb2.mono hb1.size)).size)
  have CL := Lib.hid (cLearn (H.out.on hB) j hj hm (.slice (some ⟨(w1.alloc (.cells #[.int .i64 key, .int .i64 value, .int .i64 t, .int .i64 who, .bool gone] 41)).heap.size, 0, none⟩) 1 1) [⟨key, value, t, who, gone⟩] (has_block (wp := w1.alloc (.cells #[.int .i64 key, .int .i64 value, .int .i64 t, .int .i64 who, .bool gone] 41)) (cs := ents [⟨key, value, t, who, gone⟩]) hnew rfl rfl (by decide)) h8.out)
  have HB := Lib.hid hB
  clear hb1 hb2 hb3 hnew hB CN
  go_wp2_with fail
  have es : (w1.alloc (.cells #[.int .i64 key, .int .i64 value, .int .i64 t, .int .i64 who, .bool gone] 41)).heap.size = w1.heap.size + 1 := by simp
  rw [es] at CL
  refine CL.out.mono ?_
  rintro e w2 ⟨rfl, v', hs, hg⟩
  have hfin : StoreAt w2 g m (updF vs j v') (updF l j (mergeL (l j) [⟨key, value, t, who, gone⟩])) ∧ w.grownBy w2 (some g) := by
    refine ⟨hs, ⟨hg.os.trans HB.out.os, hg.tape.trans HB.out.tape, hg.output.trans HB.out.output, Nat.le_trans HB.out.size hg.size, fun k hk hne => ?_⟩⟩
    rw [hg.block k (Nat.lt_of_lt_of_le hk HB.out.size) hne]; exact HB.out.block k hk
  have Hfin := Lib.hid hfin
  clear hs hg hfin CL
  go_wp2_with fail
  go_end0
  exact ⟨rfl, _, Hfin.out⟩
theorem andOne (x : Nat) (h : x < 9223372036854775808) : bits BinOp.and IntKind.i64 (x : Int) 1 = ((x % 2 : Nat) : Int) := by
  have := bits_mask .i64 63 (by decide) (fun n h0 h1 => IntWalk.i64_in n (by omega)) 1 (by decide) (x : Int) (by omega) (by omega)
  simpa using this
/-- Is a branch in a label? -/
def inL (label who : Nat) : Bool := label.testBit who
set_option maxRecDepth 100000 in
set_option maxHeartbeats 2000000 in
theorem cIn (label who : Nat) (hl : label < 256) (hw : who < 8) (w : World) :
    Calls Try.prog 54 #[.int .i64 label, .int .i64 who] w fun e w' => e = .returned (.bool (inL label who)) ∧ w = w' := by
  have hlt : label / 2 ^ who < 9223372036854775808 := Nat.lt_of_le_of_lt (Nat.div_le_self _ _) (by omega)
  have hb : Hid (∀ z : Int, z = (label : Int) / 2 ^ who → (bits BinOp.and IntKind.i64 z 1 == 1) = inL label who) := fun z hz => by
    have hc : (label : Int) / 2 ^ who = ((label / 2 ^ who : Nat) : Int) := by push_cast; rfl
    rw [hz, hc, andOne _ hlt, inL, Nat.testBit_eq_decide_div_mod_eq]
    rw [Bool.eq_iff_iff]
    simp only [beq_iff_eq, decide_eq_true_eq]
    omega
  clear hlt
  go_enter Try.func54, Try.ntmps54
  go_wp2_with fail
  go_ret
  exact ⟨ret_bool (hb.out _ rfl), rfl⟩
end Go.Proofs.Ytngedkfljpkoiaa
