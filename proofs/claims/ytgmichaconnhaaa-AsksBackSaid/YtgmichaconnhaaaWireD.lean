/- Package wire: the contract of Pack. -/
import Derived.Test.YtgmichaconnhaaaWireC
import Derived.Test.YtgmichaconnhaaaU8
namespace Go.Proofs.Ytgmichaconnhaaa
open Go.ChangeShapes Go.WideShapes Go.ChangeAt Go.RowKit
set_option linter.unusedVariables false

/-- The bits of one field, of all fields; the bytes of a record. -/
def fieldBits (w v : Nat) : List Nat := (List.range w).map fun i => v / 2 ^ (w - 1 - i) % 2
def recBits (fs : List (Int × Int)) : List Nat := fs.flatMap fun p => fieldBits p.1.toNat p.2.toNat
def recSize (fs : List (Int × Int)) : Nat := ((recBits fs).length + 7) / 8
def recB (fs : List (Int × Int)) : List Nat := (List.range (recSize fs)).map (byteOf (recBits fs))
def recBytes (fs : List (Int × Int)) : List Value := u8s (recB fs)
theorem recB_length (fs : List (Int × Int)) : (recB fs).length = recSize fs := by simp [recB]
/-- Fields that may be packed. -/
def FieldsOk (fs : List (Int × Int)) : Prop := fs.length ≤ 40 ∧ ∀ p ∈ fs, 1 ≤ p.1 ∧ p.1 ≤ 60 ∧ 0 ≤ p.2 ∧ p.2 < 2 ^ p.1.toNat
theorem fieldBits_length (w v : Nat) : (fieldBits w v).length = w := by simp [fieldBits]
theorem fieldBits_bits (w v : Nat) : ∀ b ∈ fieldBits w v, b ≤ 1 := by
  intro b hb; simp only [fieldBits, List.mem_map] at hb; obtain ⟨i, _, rfl⟩ := hb; omega
theorem fieldBits_take (w v m : Nat) (h : m < w) : (fieldBits w v).take (m + 1) = (fieldBits w v).take m ++ [v / 2 ^ (w - 1 - m) % 2] := by
  rw [take_snoc _ _ (by rw [fieldBits_length]; exact h)]; simp [fieldBits]
theorem recBits_length (fs : List (Int × Int)) : (recBits fs).length = (fs.map fun p => p.1.toNat).sum := by
  induction fs with
  | nil => rfl
  | cons p l ih => simp only [recBits, List.flatMap_cons, List.length_append, fieldBits_length, List.map_cons, List.sum_cons] at *; omega
theorem recBits_snoc (fs : List (Int × Int)) (p : Int × Int) : recBits (fs ++ [p]) = recBits fs ++ fieldBits p.1.toNat p.2.toNat := by simp [recBits]
theorem recBits_take_le (fs : List (Int × Int)) (k : Nat) : (recBits (fs.take k)).length ≤ (recBits fs).length := by
  have h : recBits fs = recBits (fs.take k) ++ recBits (fs.drop k) := by
    unfold recBits; rw [← List.flatMap_append, List.take_append_drop]
  rw [h, List.length_append]; omega
theorem wsum_bits (fs : List (Int × Int)) (h : ∀ p ∈ fs, 1 ≤ p.1) : wsum (fs.map (·.1)) = (recBits fs).length := by
  rw [recBits_length]
  induction fs with
  | nil => rfl
  | cons p l ih =>
    have := ih (fun q hq => h q (by simp [hq]))
    have hp := h p (by simp)
    simp only [wsum, List.map_cons, List.sum_cons] at *
    omega
theorem flds_get0 (fs : List (Int × Int)) (k : Nat) (h : k < fs.length) : (flds fs)[k * 2]? = some (.int .i64 fs[k].1) := by
  induction fs generalizing k with
  | nil => simp at h
  | cons p l ih =>
    rcases k with _ | k
    · simp [flds]
    · have := ih k (by simpa using h)
      simp only [flds, List.flatMap_cons] at *
      rw [show (k + 1) * 2 = k * 2 + 2 by omega]
      simpa using this
theorem flds_get1 (fs : List (Int × Int)) (k : Nat) (h : k < fs.length) : (flds fs)[k * 2 + 1]? = some (.int .i64 fs[k].2) := by
  induction fs generalizing k with
  | nil => simp at h
  | cons p l ih =>
    rcases k with _ | k
    · simp [flds]
    · have := ih k (by simpa using h)
      simp only [flds, List.flatMap_cons] at *
      rw [show (k + 1) * 2 + 1 = k * 2 + 1 + 2 by omega]
      simpa using this
theorem FieldsOk.ws {fs : List (Int × Int)} (h : FieldsOk fs) : ∀ x ∈ fs.map (·.1), 1 ≤ x ∧ x ≤ 60 := by
  intro x hx
  obtain ⟨p, hp, rfl⟩ := List.mem_map.1 hx
  have := h.2 p hp; omega
theorem csize' (v : Value) (fs : List (Int × Int)) (w : World) (h : Has w 1 v fs.length (ints (fs.map (·.1)))) (hok : FieldsOk fs) :
    Calls Try.prog 53 #[v] w fun e w' => e = .returned (.tuple #[.int .i64 (recSize fs : Nat), .int .i64 0]) ∧ w = w' := by
  have h1 := csize v (fs.map (·.1)) w (by simpa using h) hok.ws (by simpa using hok.1)
  rw [wsum_bits fs (fun p hp => (hok.2 p hp).1)] at h1
  have e : (((recBits fs).length : Int) + 7) / 8 = ((recSize fs : Nat) : Int) := by unfold recSize; omega
  rwa [e] at h1
theorem recSize_le (fs : List (Int × Int)) (hok : FieldsOk fs) : recSize fs ≤ 1000 := by
  have h1 := wsum_bd (fs.map (·.1)) hok.ws
  rw [wsum_bits fs (fun p hp => (hok.2 p hp).1)] at h1
  have := hok.1
  simp only [List.length_map] at h1
  unfold recSize; omega
theorem infoU8 : (Try.prog.info? 5).map (fun i => (i.zero, i.size, i.bytes)) = some (some (.int .u8 0), 1, 1) := by kernel_rfl
set_option maxRecDepth 100000 in
/-- 'make([]byte, n)'. -/
theorem make_bytes (X : World) (n : Nat) (h : n ≤ 1000) : (Instr.makeSlice 57 (.int .i64 (n : Int)) (.int .i64 (n : Int))).run Try.prog X = .ok (.slice (some ⟨X.heap.size, 0, none⟩) n n) (X.alloc (.cells ((List.range n).map fun j => Value.int .u8 (byteOf [] j)).toArray 5)) := by
  obtain ⟨i0, hi, hz0, hz1, hz2⟩ := info_parts infoU8
  rw [run_make X 57 5 i0 (.int .u8 0) Try.underlying57 hi hz0 .i64 .i64 n n (by omega) (by omega) (by rw [hz2]; omega) (by omega)]
  simp only [Int.toNat_natCast, hz1]
  congr 3
  apply Array.ext
  · simp [madeCells, Value.cells]
  · intro j h1 h2; simp [madeCells, Value.cells, byteOf, Nat.mod_one]
theorem strip_start (X : World) (n : Nat) : Strip ((X.alloc (.cells ((List.range n).map fun j => Value.int .u8 (byteOf [] j)).toArray 5)).alloc (.cells #[.slice (some ⟨X.heap.size, 0, none⟩) n n, .int .i64 0] 114)) (X.heap.size + 1) X.heap.size n [] := by
  refine ⟨?_, ?_, ?_, ?_, by omega, ?_, fun i => by simp⟩
  · rw [World.cell?_alloc_at _ _ _ _ (by simp)]; rfl
  · rw [World.cell?_alloc_at _ _ _ _ (by simp)]; rfl
  · exact World.frozen?_alloc_at _ _ _ _ (by simp)
  · exact World.frozen?_alloc_at _ _ _ _ (by simp)
  · rw [Below.heap_alloc _ _ _ (by simp)]; exact heap_alloc_new _ _
theorem Strip.on {w w' : World} {S g n : Nat} {bs : List Nat} (h : Strip w S g n bs) (hb : Below w.heap.size w w') : Strip w' S g n bs := by
  have h1 := World.block_lt_of_cell? w _ h.c0
  have h2 := (Array.getElem?_eq_some_iff.1 h.row).1
  refine ⟨cell_on hb h.c0, cell_on hb h.c1, ?_, ?_, h.ne, ?_, h.bits⟩
  · rw [hb.frozen (p := ⟨S, 0, none⟩) h1]; exact h.f0
  · rw [hb.frozen (p := ⟨S, 1, none⟩) h1]; exact h.f1
  · rw [hb.block g h2]; exact h.row
theorem recBits_take (fs : List (Int × Int)) (k : Nat) (h : k < fs.length) : recBits (fs.take (k + 1)) = recBits (fs.take k) ++ fieldBits fs[k].1.toNat fs[k].2.toNat := by
  rw [take_snoc _ _ h, recBits_snoc]
theorem recBits_room (fs : List (Int × Int)) (k m : Nat) (h : k < fs.length) (hm : m < fs[k].1.toNat) : (recBits (fs.take k) ++ (fieldBits fs[k].1.toNat fs[k].2.toNat).take m).length < 8 * recSize fs := by
  have h1 := recBits_take_le fs (k + 1)
  rw [recBits_take fs k h] at h1
  simp only [List.length_append, List.length_take, fieldBits_length] at *
  unfold recSize; omega
theorem and_one (x : Nat) (h : x < 9223372036854775808) : bits BinOp.and IntKind.i64 (x : Int) 1 = ((x % 2 : Nat) : Int) := by
  have := bits_mask .i64 63 (by decide) (fun n h0 h1 => IntWalk.i64_in n (by omega)) 1 (by decide) (x : Int) (by omega) (by omega)
  simpa using this
set_option maxRecDepth 100000 in
set_option maxHeartbeats 2000000 in
theorem cpack (v : Value) (fs : List (Int × Int)) (w : World) (h : Has w 2 v fs.length (flds fs)) (hok : FieldsOk fs) :
    Calls Try.prog 37 #[v] w fun e w' => ∃ v', e = .returned (.tuple #[v', .int .i64 0]) ∧ w'.ownsRow w.heap.size 5 1 v' (recSize fs) (recBytes fs) ∧ Below w.heap.size w w' := by
  obtain ⟨hl, a, cap, rfl, hn, hm, hc⟩ := h
  unfold maxLen at hm
  obtain ⟨hlen, hok⟩ := hok
  have HOK := Lib.hid hok
  clear hok
  go_enter Try.func37, Try.ntmps37
  go_wp2_with fail
  go_loopw [4, 6, 15] (fun v _ i wr => ∃ k : Nat, k ≤ fs.length ∧ i = .int .i64 k ∧ wr.ownsRow w.heap.size 3 1 v k (ints ((fs.map (·.1)).take k)) ∧ Below w.heap.size w wr) (fun _ _ i _ => fs.length - (intOf i).toNat)
  case atStart => exact ⟨0, by omega, rfl, World.ownsRow_nil _ _ _ _, Below.refl _ _⟩
  case round =>
    obtain ⟨k, hk, rfl, hown, hb⟩ := hrel
    have hsz := hb.size
    by_cases h1 : k < fs.length
    · obtain ⟨b, off, rfl, hcc⟩ := hc (by simp; omega)
      have g0 := cell_on hb (hcc _ _ (flds_get0 fs k h1))
      have g1 := cell_on hb (hcc _ _ (flds_get1 fs k h1))
      rw [← Nat.add_assoc] at g1
      have hbl := block_on hb (hcc _ _ (flds_get0 fs k h1))
      have Hsnoc := Lib.hid (take_snoc (fs.map (·.1)) k (by simpa using h1))
      have Hb := Lib.hid hb
      have Hown := Lib.hid hown
      clear hb hown hcc hc
      go_wp2_with (at_builtin; refine wp_app1 (w0 := wr) 44 3 1 8 _ elInt Try.underlying44 w.heap.size _ _ _ Hown.out (by repeat (first | exact Below.refl _ _ | refine Below.drew ?_ | refine Below.alloc ?_ (by first | (simp; done) | (simp; omega)) _ | refine Below.setCell ?_ (by first | (simp; done) | (simp; omega)) _)) [.int .i64 fs[k].1] rfl _ _ rfl rfl rfl (by first | exact heap_alloc_new _ _ | (simp only [heap_drew, heap_drewN]; exact heap_alloc_new _ _)) (by simp) rfl rfl (by omega) (by omega) hsz ?_; intro v3 w3 hown3 hgrow3 hb3)
      go_roundw
      case rel =>
        refine ⟨k + 1, by omega, by go_num, ?_, Hb.out.trans hb3⟩
        rw [Hsnoc.out, ← ints_snoc, List.getElem_map]
        exact hown3
      case measure => simp [intOf]; omega
    · obtain rfl : k = fs.length := by omega
      rw [List.take_of_length_le (by simp)] at hown
      have hH := Has.of_owns hown
      have hmapl : fs.length = (fs.map (·.1)).length := by simp
      rw [hmapl] at hH
      have Hsz := Lib.hid (csize' u4 fs wr (hmapl ▸ hH) ⟨hlen, HOK.out⟩)
      have Hc := Lib.hid hc
      have hrs : recSize fs ≤ 1000 := recSize_le fs ⟨hlen, HOK.out⟩
      have Hb := Lib.hid hb
      clear hown hH hmapl hc hb
      have hmk := fun X => make_bytes X (recSize fs) hrs
      go_wp2_with (go_at_call 53; with_reducible refine Hsz.out.mono ?_; rintro e w' ⟨rfl, rfl⟩)
      have hst := strip_start wr (recSize fs)
      have hB1 : Below w.heap.size w ((wr.alloc (.cells ((List.range (recSize fs)).map fun j => Value.int .u8 (byteOf [] j)).toArray 5)).alloc (.cells #[.slice (some ⟨wr.heap.size, 0, none⟩) (recSize fs) (recSize fs), .int .i64 0] 114)) :=
        (Hb.out.alloc hsz _).alloc (by simp; omega) _
      generalize wr.heap.size = g at *
      go_loopw [11, 12, 39] (fun _ _ i wq => ∃ k : Nat, k ≤ fs.length ∧ i = .int .i64 k ∧ Strip wq (g + 1) g (recSize fs) (recBits (fs.take k)) ∧ Below w.heap.size w wq) (fun _ _ i _ => fs.length - (intOf i).toNat)
      case atStart => exact ⟨0, by omega, rfl, hst, hB1⟩
      case round =>
        clear hst hB1 hmk Hsz Hb h1 hk
        obtain ⟨k, hk, rfl, hst, hb⟩ := hrel
        have hsz2 := hb.size
        by_cases h1 : k < fs.length
        · obtain ⟨b, off, rfl, hcc⟩ := Hc.out (by simp; omega)
          have g0 := cell_on hb (hcc _ _ (flds_get0 fs k h1))
          have g1 := cell_on hb (hcc _ _ (flds_get1 fs k h1))
          rw [← Nat.add_assoc] at g1
          have hbl := block_on hb (hcc _ _ (flds_get0 fs k h1))
          obtain ⟨o1, o2, o3, o4⟩ := HOK.out _ (List.getElem_mem h1)
          have Htk := Lib.hid (recBits_take fs k h1)
          have Hroom := Lib.hid (recBits_room fs k · h1)
          have hgw : g < wr.heap.size := (Array.getElem?_eq_some_iff.1 hst.row).1
          have hgw1 : g + 1 < wr.heap.size := World.block_lt_of_cell? wr _ hst.c0
          have Hst := Lib.hid hst
          have Hb := Lib.hid hb
          generalize fs[k] = p at *
          obtain ⟨W, V⟩ := p
          obtain ⟨W, rfl⟩ := Int.eq_ofNat_of_zero_le (show 0 ≤ W by simp at o1; omega)
          obtain ⟨V, rfl⟩ := Int.eq_ofNat_of_zero_le (show 0 ≤ V by simpa using o3)
          simp only [Int.toNat_natCast] at *
          have hv1 : V < 2 ^ W := by exact_mod_cast o4
          have hv0 : (V : Int) / 2 ^ W = 0 := by
            have : ((V / 2 ^ W : Nat) : Int) = 0 := by rw [Nat.div_eq_of_lt hv1]; rfl
            simpa using this
          have Hv1 := Lib.hid hv1
          have w1 : 1 ≤ W := by omega
          have w2 : W ≤ 60 := by omega
          clear o1 o2 o3 o4 hv1 hb hst Hc hcc
          go_wp2_with fail
          have hst2 := (Hst.out.on (Below.alloc (Below.refl _ _) (Nat.le_refl _) (.cells #[.int .i64 W, .int .i64 V] 90)))
          have hX1 : (wr.alloc (.cells #[.int .i64 W, .int .i64 V] 90)).cell? ⟨wr.heap.size, 1, none⟩ = some (.int .i64 V) := by
            rw [World.cell?_alloc_at _ _ _ _ rfl]; rfl
          have hB2 : Below w.heap.size w (wr.alloc (.cells #[.int .i64 W, .int .i64 V] 90)) := Hb.out.alloc hsz2 _
          have hBk := Lib.hid Hb
          generalize wr.heap.size = X at *
          go_loopw [12] (fun c wz => ∃ m : Nat, m ≤ W ∧ c = .int .i64 ((W : Int) - 1 - m) ∧ Strip wz (g + 1) g (recSize fs) (recBits (fs.take k) ++ (fieldBits W V).take m) ∧ Below w.heap.size w wz ∧ wz.cell? ⟨X, 1, none⟩ = some (.int .i64 V)) (fun c _ => (intOf c + 1).toNat)
          case atStart => exact ⟨0, by omega, by go_num, by simpa using hst2, hB2, hX1⟩
          case round =>
            obtain ⟨m, hm, rfl, hst3, hb3, hx3⟩ := hrel
            clear hst2 hX1 hB2
            by_cases h2 : m < W
            · have e1 : ((W : Int) - 1 - m) = ((W - 1 - m : Nat) : Int) := by omega
              have hroom := Hroom.out m h2
              have Htm := Lib.hid (fieldBits_take W V m h2)
              have hq : V / 2 ^ (W - 1 - m) < 9223372036854775808 := by
                have h60 : 2 ^ W ≤ 2 ^ 60 := Nat.pow_le_pow_right (by decide) w2
                rw [show (2 : Nat) ^ 60 = 1152921504606846976 from by decide] at h60
                have := Nat.div_le_self V (2 ^ (W - 1 - m))
                have := Hv1.out
                omega
              have hsh : ((V : Int) / 2 ^ (W - 1 - m)) = ((V / 2 ^ (W - 1 - m) : Nat) : Int) := by simp
              have han := and_one _ hq
              have Hput := Lib.hid (fun b hb => cput' (g + 1) g (recSize fs) _ b wr hst3 hb hroom (by omega))
              have Hb3 := Lib.hid hb3
              rw [e1]
              obtain ⟨c, hc⟩ : ∃ c, W - 1 - m = c := ⟨_, rfl⟩
              rw [hc] at hsh han Htm ⊢
              have hcW : c < W := by omega
              have hmc := Lib.hid hc
              rw [hc] at hq
              obtain ⟨q, hqq⟩ : ∃ q, V / 2 ^ c = q := ⟨_, rfl⟩
              rw [hqq] at hsh han Htm
              obtain ⟨bt, hbt, hb1⟩ : ∃ bt, q % 2 = bt ∧ bt ≤ 1 := ⟨_, rfl, by omega⟩
              rw [hbt] at han Htm
              clear hst3 hb3 hroom e1 hc hq hqq hbt
              go_wp2_with (go_at_call 54; with_reducible refine (Hput.out _ hb1).mono ?_; rintro e w5 ⟨rfl, hst5, hwr5⟩)
              go_roundw
              case rel =>
                have e2 := hmc.out
                refine ⟨m + 1, by omega, congrArg _ (show (c : Int) - 1 = W - 1 - ((m + 1 : Nat) : Int) by omega), ?_, Hb3.out.trans (hwr5.below Hb3.out.size fun j hj => by rcases hj with rfl | rfl <;> omega), hwr5.cell hx3 (by omega)⟩
                rw [Htm.out, ← List.append_assoc]; exact hst5
              case measure => simp [intOf]
            · obtain rfl : m = W := by omega
              have e3 : ((m : Int) - 1 - m) = -1 := by omega
              rw [e3]
              rw [List.take_of_length_le (l := fieldBits m V) (by rw [fieldBits_length]; omega)] at hst3
              have Hst3 := Lib.hid hst3
              have Hb3 := Lib.hid hb3
              clear e3 hst3 hb3
              go_wp2_with fail
              go_roundw
              case rel => exact ⟨k + 1, by omega, by go_num, by rw [Htk.out]; exact Hst3.out, Hb3.out⟩
              case measure => simp [intOf]; omega
        · obtain rfl : k = fs.length := by omega
          rw [List.take_of_length_le (by omega)] at hst
          have hc0 := hst.c0
          have hgw1 : g + 1 < wr.heap.size := World.block_lt_of_cell? wr _ hst.c0
          have Hst := Lib.hid hst
          have Hb := Lib.hid hb
          clear hst hb Hc
          go_wp2_with fail
          go_ret2
          refine ⟨_, rfl, ⟨by simp [recBytes, recB_length], .inr ⟨g, recSize fs, _, rfl, hsz, Hst.out.row, Nat.le_refl _, by unfold maxLen; omega, by simp, ?_⟩⟩, Hb.out⟩
          rw [List.take_of_length_le (by simp)]
          simp [recBytes, recB, u8s]
end Go.Proofs.Ytgmichaconnhaaa
