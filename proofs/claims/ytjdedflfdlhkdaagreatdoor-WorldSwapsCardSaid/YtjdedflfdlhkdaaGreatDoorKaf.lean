/- Texts that the claim imports, laid together: WireD HasAt Unp PackBackL Row Repeat FrmP Le Has. No statement of their own. -/
import Derived.Laws.CopyOwn
import Derived.Deep.RegionLaw
import Derived.Shelf.Abstract
import Derived.Test.YtjdedflfdlhkdaaGreatDoorKaa
import Derived.Test.YtjdedflfdlhkdaaGreatDoorKac
import Derived.Test.YtjdedflfdlhkdaaGreatDoorKad
import Derived.Test.YtjdedflfdlhkdaaGreatDoorKae
namespace Go.Proofs.YtjdedflfdlhkdaaGreatDoor
open Go.ChangeShapes Go.WideShapes Go.ChangeAt Go.RowKit
set_option linter.unusedVariables false

/-- The bits of one field, of all fields; the bytes of a record. -/
def fieldBits (w v : Nat) : List Nat := (List.range w).map fun i => v / 2 ^ (w - 1 - i) % 2
def recBits (fs : List (Int × Int)) : List Nat := fs.flatMap fun p => fieldBits p.1.toNat p.2.toNat
def recSize (fs : List (Int × Int)) : Nat := ((recBits fs).length + 7) / 8
def recB (fs : List (Int × Int)) : List Nat := (List.range (recSize fs)).map (byteOf (recBits fs))
def recBytes (fs : List (Int × Int)) : List Value := u8s (recB fs)
theorem recB_length (fs : List (Int × Int)) : (recB fs).length = recSize fs := by simp [recB]
/-- Fields that may be packed. -/
def FieldsOk (fs : List (Int × Int)) : Prop := fs.length ≤ 40 ∧ ∀ p ∈ fs, 1 ≤ p.1 ∧ p.1 ≤ 60 ∧ 0 ≤ p.2 ∧ p.2 < 2 ^ p.1.toNat
theorem fieldBits_length (w v : Nat) : (fieldBits w v).length = w := by simp [fieldBits]
theorem fieldBits_bits (w v : Nat) : ∀ b ∈ fieldBits w v, b ≤ 1 := by
  intro b hb; simp only [fieldBits, List.mem_map] at hb; obtain ⟨i, _, rfl⟩ := hb; omega
theorem fieldBits_take (w v m : Nat) (h : m < w) : (fieldBits w v).take (m + 1) = (fieldBits w v).take m ++ [v / 2 ^ (w - 1 - m) % 2] := by
  rw [take_snoc _ _ (by rw [fieldBits_length]; exact h)]; simp [fieldBits]
theorem recBits_length (fs : List (Int × Int)) : (recBits fs).length = (fs.map fun p => p.1.toNat).sum := by
  induction fs with
  | nil => rfl
  | cons p l ih => simp only [recBits, List.flatMap_cons, List.length_append, fieldBits_length, List.map_cons, List.sum_cons] at *; omega
theorem recBits_snoc (fs : List (Int × Int)) (p : Int × Int) : recBits (fs ++ [p]) = recBits fs ++ fieldBits p.1.toNat p.2.toNat := by simp [recBits]
theorem recBits_take_le (fs : List (Int × Int)) (k : Nat) : (recBits (fs.take k)).length ≤ (recBits fs).length := by
  have h : recBits fs = recBits (fs.take k) ++ recBits (fs.drop k) := by
    unfold recBits; rw [← List.flatMap_append, List.take_append_drop]
  rw [h, List.length_append]; omega
theorem wsum_bits (fs : List (Int × Int)) (h : ∀ p ∈ fs, 1 ≤ p.1) : wsum (fs.map (·.1)) = (recBits fs).length := by
  rw [recBits_length]
  induction fs with
  | nil => rfl
  | cons p l ih =>
    have := ih (fun q hq => h q (by simp [hq]))
    have hp := h p (by simp)
    simp only [wsum, List.map_cons, List.sum_cons] at *
    omega
theorem flds_get0 (fs : List (Int × Int)) (k : Nat) (h : k < fs.length) : (flds fs)[k * 2]? = some (.int .i64 fs[k].1) := by
  induction fs generalizing k with
  | nil => simp at h
  | cons p l ih =>
    rcases k with _ | k
    · simp [flds]
    · have := ih k (by simpa using h)
      simp only [flds, List.flatMap_cons] at *
      rw [show (k + 1) * 2 = k * 2 + 2 by omega]
      simpa using this
theorem flds_get1 (fs : List (Int × Int)) (k : Nat) (h : k < fs.length) : (flds fs)[k * 2 + 1]? = some (.int .i64 fs[k].2) := by
  induction fs generalizing k with
  | nil => simp at h
  | cons p l ih =>
    rcases k with _ | k
    · simp [flds]
    · have := ih k (by simpa using h)
      simp only [flds, List.flatMap_cons] at *
      rw [show (k + 1) * 2 + 1 = k * 2 + 1 + 2 by omega]
      simpa using this
theorem FieldsOk.ws {fs : List (Int × Int)} (h : FieldsOk fs) : ∀ x ∈ fs.map (·.1), 1 ≤ x ∧ x ≤ 60 := by
  intro x hx
  obtain ⟨p, hp, rfl⟩ := List.mem_map.1 hx
  have := h.2 p hp; omega
theorem csize' (v : Value) (fs : List (Int × Int)) (w : World) (h : Has w 1 v fs.length (ints (fs.map (·.1)))) (hok : FieldsOk fs) :
    Calls Tryz.prog 96 #[v] w fun e w' => e = .returned (.tuple #[.int .i64 (recSize fs : Nat), .int .i64 0]) ∧ w = w' := by
  have h1 := csize v (fs.map (·.1)) w (by simpa using h) hok.ws (by simpa using hok.1)
  rw [wsum_bits fs (fun p hp => (hok.2 p hp).1)] at h1
  have e : (((recBits fs).length : Int) + 7) / 8 = ((recSize fs : Nat) : Int) := by unfold recSize; omega
  rwa [e] at h1
theorem recSize_le (fs : List (Int × Int)) (hok : FieldsOk fs) : recSize fs ≤ 1000 := by
  have h1 := wsum_bd (fs.map (·.1)) hok.ws
  rw [wsum_bits fs (fun p hp => (hok.2 p hp).1)] at h1
  have := hok.1
  simp only [List.length_map] at h1
  unfold recSize; omega
theorem infoU8 : (Tryz.prog.info? 5).map (fun i => (i.zero, i.size, i.bytes)) = some (some (.int .u8 0), 1, 1) := by kernel_rfl
set_option maxRecDepth 100000 in
/-- 'make([]byte, n)'. -/
theorem make_bytes (X : World) (n : Nat) (h : n ≤ 1000) : (Instr.makeSlice 55 (.int .i64 (n : Int)) (.int .i64 (n : Int))).run Tryz.prog X = .ok (.slice (some ⟨X.heap.size, 0, none⟩) n n) (X.alloc (.cells ((List.range n).map fun j => Value.int .u8 (byteOf [] j)).toArray 5)) := by
  obtain ⟨i0, hi, hz0, hz1, hz2⟩ := info_parts infoU8
  rw [run_make X 55 5 i0 (.int .u8 0) Tryz.underlying55 hi hz0 .i64 .i64 n n (by omega) (by omega) (by rw [hz2]; omega) (by omega)]
  simp only [Int.toNat_natCast, hz1]
  congr 3
  apply Array.ext
  · simp [madeCells, Value.cells]
  · intro j h1 h2; simp [madeCells, Value.cells, byteOf, Nat.mod_one]
theorem strip_start (X : World) (n : Nat) : Strip ((X.alloc (.cells ((List.range n).map fun j => Value.int .u8 (byteOf [] j)).toArray 5)).alloc (.cells #[.slice (some ⟨X.heap.size, 0, none⟩) n n, .int .i64 0] 183)) (X.heap.size + 1) X.heap.size n [] := by
  refine ⟨?_, ?_, ?_, ?_, by omega, ?_, fun i => by simp⟩
  · rw [World.cell?_alloc_at _ _ _ _ (by simp)]; rfl
  · rw [World.cell?_alloc_at _ _ _ _ (by simp)]; rfl
  · exact World.frozen?_alloc_at _ _ _ _ (by simp)
  · exact World.frozen?_alloc_at _ _ _ _ (by simp)
  · rw [Below.heap_alloc _ _ _ (by simp)]; exact heap_alloc_new _ _
theorem Strip.on {w w' : World} {S g n : Nat} {bs : List Nat} (h : Strip w S g n bs) (hb : Below w.heap.size w w') : Strip w' S g n bs := by
  have h1 := World.block_lt_of_cell? w _ h.c0
  have h2 := (Array.getElem?_eq_some_iff.1 h.row).1
  refine ⟨cell_on hb h.c0, cell_on hb h.c1, ?_, ?_, h.ne, ?_, h.bits⟩
  · rw [hb.frozen (p := ⟨S, 0, none⟩) h1]; exact h.f0
  · rw [hb.frozen (p := ⟨S, 1, none⟩) h1]; exact h.f1
  · rw [hb.block g h2]; exact h.row
theorem recBits_take (fs : List (Int × Int)) (k : Nat) (h : k < fs.length) : recBits (fs.take (k + 1)) = recBits (fs.take k) ++ fieldBits fs[k].1.toNat fs[k].2.toNat := by
  rw [take_snoc _ _ h, recBits_snoc]
theorem recBits_room (fs : List (Int × Int)) (k m : Nat) (h : k < fs.length) (hm : m < fs[k].1.toNat) : (recBits (fs.take k) ++ (fieldBits fs[k].1.toNat fs[k].2.toNat).take m).length < 8 * recSize fs := by
  have h1 := recBits_take_le fs (k + 1)
  rw [recBits_take fs k h] at h1
  simp only [List.length_append, List.length_take, fieldBits_length] at *
  unfold recSize; omega
theorem and_one (x : Nat) (h : x < 9223372036854775808) : bits BinOp.and IntKind.i64 (x : Int) 1 = ((x % 2 : Nat) : Int) := by
  have := bits_mask .i64 63 (by decide) (fun n h0 h1 => IntWalk.i64_in n (by omega)) 1 (by decide) (x : Int) (by omega) (by omega)
  simpa using this
set_option maxRecDepth 100000 in
set_option maxHeartbeats 2000000 in
theorem cpack (v : Value) (fs : List (Int × Int)) (w : World) (h : Has w 2 v fs.length (flds fs)) (hok : FieldsOk fs) :
    Calls Tryz.prog 77 #[v] w fun e w' => ∃ v', e = .returned (.tuple #[v', .int .i64 0]) ∧ w'.ownsRow w.heap.size 5 1 v' (recSize fs) (recBytes fs) ∧ Below w.heap.size w w' := by
  obtain ⟨hl, a, cap, rfl, hn, hm, hc⟩ := h
  unfold maxLen at hm
  obtain ⟨hlen, hok⟩ := hok
  have HOK := Lib.hid hok
  clear hok
  go_enter Tryz.func77, Tryz.ntmps77
  go_wp2_with fail
  go_loopw [4, 6, 15] (fun v _ i wr => ∃ k : Nat, k ≤ fs.length ∧ i = .int .i64 k ∧ wr.ownsRow w.heap.size 3 1 v k (ints ((fs.map (·.1)).take k)) ∧ Below w.heap.size w wr) (fun _ _ i _ => fs.length - (intOf i).toNat)
  case atStart => exact ⟨0, by omega, rfl, World.ownsRow_nil _ _ _ _, Below.refl _ _⟩
  case round =>
    obtain ⟨k, hk, rfl, hown, hb⟩ := hrel
    have hsz := hb.size
    by_cases h1 : k < fs.length
    · obtain ⟨b, off, rfl, hcc⟩ := hc (by simp; omega)
      have g0 := cell_on hb (hcc _ _ (flds_get0 fs k h1))
      have g1 := cell_on hb (hcc _ _ (flds_get1 fs k h1))
      rw [← Nat.add_assoc] at g1
      have hbl := block_on hb (hcc _ _ (flds_get0 fs k h1))
      have Hsnoc := Lib.hid (take_snoc (fs.map (·.1)) k (by simpa using h1))
      have Hb := Lib.hid hb
      have Hown := Lib.hid hown
      clear hb hown hcc hc
      go_wp2_with (at_builtin; refine wp_app1 (w0 := wr) 22 3 1 8 _ elInt Tryz.underlying22 w.heap.size _ _ _ Hown.out (by repeat (first | exact Below.refl _ _ | refine Below.drew ?_ | refine Below.alloc ?_ (by first | (simp; done) | (simp; omega)) _ | refine Below.setCell ?_ (by first | (simp; done) | (simp; omega)) _)) [.int .i64 fs[k].1] rfl _ _ rfl rfl rfl (by first | exact heap_alloc_new _ _ | (simp only [heap_drew, heap_drewN]; exact heap_alloc_new _ _)) (by simp) rfl rfl (by omega) (by omega) hsz ?_; intro v3 w3 hown3 hgrow3 hb3)
      go_roundw
      case rel =>
        refine ⟨k + 1, by omega, by go_num, ?_, Hb.out.trans hb3⟩
        rw [Hsnoc.out, ← ints_snoc, List.getElem_map]
        exact hown3
      case measure => simp [intOf]; omega
    · obtain rfl : k = fs.length := by omega
      rw [List.take_of_length_le (by simp)] at hown
      have hH := Has.of_owns hown
      have hmapl : fs.length = (fs.map (·.1)).length := by simp
      rw [hmapl] at hH
      have Hsz := Lib.hid (csize' u4 fs wr (hmapl ▸ hH) ⟨hlen, HOK.out⟩)
      have Hc := Lib.hid hc
      have hrs : recSize fs ≤ 1000 := recSize_le fs ⟨hlen, HOK.out⟩
      have Hb := Lib.hid hb
      clear hown hH hmapl hc hb
      have hmk := fun X => make_bytes X (recSize fs) hrs
      go_wp2_with (go_at_call 96; with_reducible refine Hsz.out.mono ?_; rintro e w' ⟨rfl, rfl⟩)
      have hst := strip_start wr (recSize fs)
      have hB1 : Below w.heap.size w ((wr.alloc (.cells ((List.range (recSize fs)).map fun j => Value.int .u8 (byteOf [] j)).toArray 5)).alloc (.cells #[.slice (some ⟨wr.heap.size, 0, none⟩) (recSize fs) (recSize fs), .int .i64 0] 183)) :=
        (Hb.out.alloc hsz _).alloc (by simp; omega) _
      generalize wr.heap.size = g at *
      go_loopw [11, 12, 39] (fun _ _ i wq => ∃ k : Nat, k ≤ fs.length ∧ i = .int .i64 k ∧ Strip wq (g + 1) g (recSize fs) (recBits (fs.take k)) ∧ Below w.heap.size w wq) (fun _ _ i _ => fs.length - (intOf i).toNat)
      case atStart => exact ⟨0, by omega, rfl, hst, hB1⟩
      case round =>
        clear hst hB1 hmk Hsz Hb h1 hk
        obtain ⟨k, hk, rfl, hst, hb⟩ := hrel
        have hsz2 := hb.size
        by_cases h1 : k < fs.length
        · obtain ⟨b, off, rfl, hcc⟩ := Hc.out (by simp; omega)
          have g0 := cell_on hb (hcc _ _ (flds_get0 fs k h1))
          have g1 := cell_on hb (hcc _ _ (flds_get1 fs k h1))
          rw [← Nat.add_assoc] at g1
          have hbl := block_on hb (hcc _ _ (flds_get0 fs k h1))
          obtain ⟨o1, o2, o3, o4⟩ := HOK.out _ (List.getElem_mem h1)
          have Htk := Lib.hid (recBits_take fs k h1)
          have Hroom := Lib.hid (recBits_room fs k · h1)
          have hgw : g < wr.heap.size := (Array.getElem?_eq_some_iff.1 hst.row).1
          have hgw1 : g + 1 < wr.heap.size := World.block_lt_of_cell? wr _ hst.c0
          have Hst := Lib.hid hst
          have Hb := Lib.hid hb
          generalize fs[k] = p at *
          obtain ⟨W, V⟩ := p
          obtain ⟨W, rfl⟩ := Int.eq_ofNat_of_zero_le (show 0 ≤ W by simp at o1; omega)
          obtain ⟨V, rfl⟩ := Int.eq_ofNat_of_zero_le (show 0 ≤ V by simpa using o3)
          simp only [Int.toNat_natCast] at *
          have hv1 : V < 2 ^ W := by exact_mod_cast o4
          have hv0 : (V : Int) / 2 ^ W = 0 := by
            have : ((V / 2 ^ W : Nat) : Int) = 0 := by rw [Nat.div_eq_of_lt hv1]; rfl
            simpa using this
          have Hv1 := Lib.hid hv1
          have w1 : 1 ≤ W := by omega
          have w2 : W ≤ 60 := by omega
          clear o1 o2 o3 o4 hv1 hb hst Hc hcc
          go_wp2_with fail
          have hst2 := (Hst.out.on (Below.alloc (Below.refl _ _) (Nat.le_refl _) (.cells #[.int .i64 W, .int .i64 V] 158)))
          have hX1 : (wr.alloc (.cells #[.int .i64 W, .int .i64 V] 158)).cell? ⟨wr.heap.size, 1, none⟩ = some (.int .i64 V) := by
            rw [World.cell?_alloc_at _ _ _ _ rfl]; rfl
          have hB2 : Below w.heap.size w (wr.alloc (.cells #[.int .i64 W, .int .i64 V] 158)) := Hb.out.alloc hsz2 _
          have hBk := Lib.hid Hb
          generalize wr.heap.size = X at *
          go_loopw [12] (fun c wz => ∃ m : Nat, m ≤ W ∧ c = .int .i64 ((W : Int) - 1 - m) ∧ Strip wz (g + 1) g (recSize fs) (recBits (fs.take k) ++ (fieldBits W V).take m) ∧ Below w.heap.size w wz ∧ wz.cell? ⟨X, 1, none⟩ = some (.int .i64 V)) (fun c _ => (intOf c + 1).toNat)
          case atStart => exact ⟨0, by omega, by go_num, by simpa using hst2, hB2, hX1⟩
          case round =>
            obtain ⟨m, hm, rfl, hst3, hb3, hx3⟩ := hrel
            clear hst2 hX1 hB2
            by_cases h2 : m < W
            · have e1 : ((W : Int) - 1 - m) = ((W - 1 - m : Nat) : Int) := by omega
              have hroom := Hroom.out m h2
              have Htm := Lib.hid (fieldBits_take W V m h2)
              have hq : V / 2 ^ (W - 1 - m) < 9223372036854775808 := by
                have h60 : 2 ^ W ≤ 2 ^ 60 := Nat.pow_le_pow_right (by decide) w2
                rw [show (2 : Nat) ^ 60 = 1152921504606846976 from by decide] at h60
                have := Nat.div_le_self V (2 ^ (W - 1 - m))
                have := Hv1.out
                omega
              have hsh : ((V : Int) / 2 ^ (W - 1 - m)) = ((V / 2 ^ (W - 1 - m) : Nat) : Int) := by simp
              have han := and_one _ hq
              have Hput := Lib.hid (fun b hb => cput' (g + 1) g (recSize fs) _ b wr hst3 hb hroom (by omega))
              have Hb3 := Lib.hid hb3
              rw [e1]
              obtain ⟨c, hc⟩ : ∃ c, W - 1 - m = c := ⟨_, rfl⟩
              rw [hc] at hsh han Htm ⊢
              have hcW : c < W := by omega
              have hmc := Lib.hid hc
              rw [hc] at hq
              obtain ⟨q, hqq⟩ : ∃ q, V / 2 ^ c = q := ⟨_, rfl⟩
              rw [hqq] at hsh han Htm
              obtain ⟨bt, hbt, hb1⟩ : ∃ bt, q % 2 = bt ∧ bt ≤ 1 := ⟨_, rfl, by omega⟩
              rw [hbt] at han Htm
              clear hst3 hb3 hroom e1 hc hq hqq hbt
              go_wp2_with (go_at_call 97; with_reducible refine (Hput.out _ hb1).mono ?_; rintro e w5 ⟨rfl, hst5, hwr5⟩)
              go_roundw
              case rel =>
                have e2 := hmc.out
                refine ⟨m + 1, by omega, congrArg _ (show (c : Int) - 1 = W - 1 - ((m + 1 : Nat) : Int) by omega), ?_, Hb3.out.trans (hwr5.below Hb3.out.size fun j hj => by rcases hj with rfl | rfl <;> omega), hwr5.cell hx3 (by omega)⟩
                rw [Htm.out, ← List.append_assoc]; exact hst5
              case measure => simp [intOf]
            · obtain rfl : m = W := by omega
              have e3 : ((m : Int) - 1 - m) = -1 := by omega
              rw [e3]
              rw [List.take_of_length_le (l := fieldBits m V) (by rw [fieldBits_length]; omega)] at hst3
              have Hst3 := Lib.hid hst3
              have Hb3 := Lib.hid hb3
              clear e3 hst3 hb3
              go_wp2_with fail
              go_roundw
              case rel => exact ⟨k + 1, by omega, by go_num, by rw [Htk.out]; exact Hst3.out, Hb3.out⟩
              case measure => simp [intOf]; omega
        · obtain rfl : k = fs.length := by omega
          rw [List.take_of_length_le (by omega)] at hst
          have hc0 := hst.c0
          have hgw1 : g + 1 < wr.heap.size := World.block_lt_of_cell? wr _ hst.c0
          have Hst := Lib.hid hst
          have Hb := Lib.hid hb
          clear hst hb Hc
          go_wp2_with fail
          go_ret2
          refine ⟨_, rfl, ⟨by simp [recBytes, recB_length], .inr ⟨g, recSize fs, _, rfl, hsz, Hst.out.row, Nat.le_refl _, by unfold maxLen; omega, by simp, ?_⟩⟩, Hb.out⟩
          rw [List.take_of_length_le (by simp)]
          simp [recBytes, recB, u8s]
end Go.Proofs.YtjdedflfdlhkdaaGreatDoor

namespace Go.Proofs.YtjdedflfdlhkdaaGreatDoor
open Go.ChangeShapes Go.WideShapes Go.ChangeAt Go.RowKit
set_option linter.unusedVariables false

theorem Has.at {w w' : World} {sz n : Nat} {v : Value} {xs : List Value} (h : Has w sz v n xs) (hk : 0 < xs.length → ∀ b off n' cap, v = .slice (some ⟨b, off, none⟩) n' cap → w'.heap[b]? = w.heap[b]?) : Has w' sz v n xs := by
  obtain ⟨hl, a, cap, rfl, h1, h2, h3⟩ := h
  refine ⟨hl, a, cap, rfl, h1, h2, fun hp => ?_⟩
  obtain ⟨b, off, rfl, hc⟩ := h3 hp
  refine ⟨b, off, rfl, fun j u hu => ?_⟩
  rw [World.cell?_of_block (w := w) (a := ⟨b, off + j, none⟩) (hk hp b off n cap rfl)]; exact hc j u hu
end Go.Proofs.YtjdedflfdlhkdaaGreatDoor

namespace Go.Proofs.YtjdedflfdlhkdaaGreatDoor
open Go.ChangeShapes Go.WideShapes Go.ChangeAt Go.RowKit
set_option linter.unusedVariables false

/-- Bit i of bytes; a number out of bits; what 'Unpack' reads. -/
def bitAt (bs : List Nat) (i : Nat) : Nat := bs.getD (i / 8) 0 / 2 ^ (7 - i % 8) % 2
theorem bitAt_le (bs : List Nat) (i : Nat) : bitAt bs i ≤ 1 := by unfold bitAt; omega
def valOf (l : List Nat) : Nat := l.foldl (fun v b => 2 * v + b) 0
def bitsAt (bs : List Nat) (p m : Nat) : List Nat := (List.range m).map fun i => bitAt bs (p + i)
theorem valOf_snoc (l : List Nat) (b : Nat) : valOf (l ++ [b]) = 2 * valOf l + b := by simp [valOf]
theorem bitsAt_snoc (bs : List Nat) (p m : Nat) : bitsAt bs p (m + 1) = bitsAt bs p m ++ [bitAt bs (p + m)] := by simp [bitsAt, List.range_succ]
theorem valOf_lt (bs : List Nat) (p : Nat) : ∀ m, valOf (bitsAt bs p m) < 2 ^ m
  | 0 => by simp [bitsAt, valOf]
  | m + 1 => by
    have := valOf_lt bs p m
    have := bitAt_le bs (p + m)
    rw [bitsAt_snoc, valOf_snoc, Nat.pow_succ]; omega
def unpackV (bs : List Nat) : Nat → List Int → List Int
  | _, [] => []
  | p, w :: ws => (valOf (bitsAt bs p w.toNat) : Int) :: unpackV bs (p + w.toNat) ws
def sumW (ws : List Int) : Nat := (ws.map Int.toNat).sum
theorem sumW_snoc (ws : List Int) (x : Int) : sumW (ws ++ [x]) = sumW ws + x.toNat := by simp [sumW]
theorem unpackV_length (bs : List Nat) : ∀ (ws : List Int) (p : Nat), (unpackV bs p ws).length = ws.length
  | [], _ => rfl
  | w :: ws, p => by simp [unpackV, unpackV_length bs ws]
theorem unpackV_snoc (bs : List Nat) (x : Int) : ∀ (ws : List Int) (p : Nat), unpackV bs p (ws ++ [x]) = unpackV bs p ws ++ [(valOf (bitsAt bs (p + sumW ws) x.toNat) : Int)]
  | [], p => by simp [unpackV, sumW]
  | w :: ws, p => by
    rw [List.cons_append, unpackV, unpackV_snoc bs x ws, unpackV, List.cons_append]
    have e : sumW (w :: ws) = w.toNat + sumW ws := by simp [sumW]
    rw [e, Nat.add_assoc]
def restZero (bs : List Nat) (p : Nat) : Prop := ∀ i, p ≤ i → i < 8 * bs.length → bitAt bs i = 0
theorem wsum_sumW (ws : List Int) (h : ∀ x ∈ ws, 1 ≤ x ∧ x ≤ 60) : wsum ws = (sumW ws : Nat) := by
  induction ws with
  | nil => rfl
  | cons a l ih =>
    have h1 := h a (by simp)
    have h2 := ih fun x hx => h x (by simp [hx])
    simp only [wsum, sumW, List.sum_cons, List.map_cons] at *
    omega
/-- A strip that is read. -/
structure Src (w : World) (S : Nat) (vb : Value) (bs : List Nat) (p : Nat) : Prop where
  c0 : w.cell? ⟨S, 0, none⟩ = some vb
  c1 : w.cell? ⟨S, 1, none⟩ = some (.int .i64 p)
  f1 : w.frozen? ⟨S, 1, none⟩ = false
  has : Has w 1 vb bs.length (u8s bs)
  ne : 0 < bs.length → ∀ b off n cap, vb = .slice (some ⟨b, off, none⟩) n cap → b < S
set_option maxRecDepth 100000 in
set_option maxHeartbeats 2000000 in
theorem ctake (S : Nat) (vb : Value) (bs : List Nat) (p : Nat) (w : World) (h : Src w S vb bs p) (hlt : p < 8 * bs.length) (hbs : ∀ b ∈ bs, b < 256) (hn : bs.length ≤ 1000000) :
    Calls Tryz.prog 104 #[.pointer (some ⟨S, 0, none⟩)] w fun e w' => e = .returned (.int .i64 (bitAt bs p)) ∧ ∃ m, w' = (w.setCell ⟨S, 1, none⟩ (.int .i64 (p + 1))).drewN m := by
  obtain ⟨hc0, hc1, hf1, ⟨_, a, cap, rfl, hn1, hn2, hc⟩, hne⟩ := h
  obtain ⟨g, off, rfl, hcc⟩ := hc (by simp; omega)
  have hq : p / 8 < bs.length := by omega
  have hcell := hcc (p / 8) _ (u8s_get bs (p / 8) hq)
  have hB := hbs bs[p / 8] (List.getElem_mem hq)
  have hbit : Hid (bitAt bs p = bs[p / 8] / 2 ^ (7 - p % 8) % 2) := by
    unfold bitAt; rw [List.getD_eq_getElem?_getD, List.getElem?_eq_getElem hq]; rfl
  have hgS : g ≠ S := by have := hne (by omega) _ _ _ _ rfl; omega
  generalize bs[p / 8] = B at *
  obtain ⟨q, r, hq', hr, e1, e2⟩ : ∃ q r : Nat, q = p / 8 ∧ r = p % 8 ∧ r < 8 ∧ q < bs.length := ⟨p / 8, p % 8, rfl, rfl, by omega, hq⟩
  rw [← hr] at hbit
  rw [← hq'] at hcell
  have w1 : IntKind.i64.wrap (↑p / 8) = ↑q := by rw [IntWalk.i64_in _ (by omega)]; omega
  have w2' : (p : Int).tmod 8 = ↑r := by rw [Int.tmod_eq_emod_of_nonneg (by omega)]; omega
  have w3 : IntKind.i64.wrap (7 - ↑r) = ((7 - r : Nat) : Int) := by rw [IntWalk.i64_in _ (by omega)]; omega
  have hdl : B / 2 ^ (7 - r) ≤ B := Nat.div_le_self _ _
  obtain ⟨sh, hs⟩ : ∃ sh, B / 2 ^ (7 - r) = sh := ⟨_, rfl⟩
  rw [hs] at hbit hdl
  have w4 : (B : Int) / 2 ^ (7 - r) = (sh : Int) := by rw [← hs]; simp
  have w5 : IntKind.u8.wrap (sh : Int) = (sh : Int) := IntWalk.u8_in _ (by omega)
  have w6 : min (7 - r) 64 = 7 - r := by omega
  have w7 : IntKind.i64.wrap (sh : Int) = (sh : Int) := IntWalk.i64_in _ (by omega)
  have han := and_one sh (by omega)
  clear hq' hr hs hq hcc hc hne
  go_enter Tryz.func104, Tryz.ntmps104
  go_wp2
  go_quiet (fail)
  clear w1 w2' w3 w4 w5 w6 w7 han
  go_wp2
  go_ret
  exact ⟨ret_int (by rw [hbit.out]; simp), nq, rfl⟩
theorem owns_wrote {F : Nat → Prop} {w w' : World} {base e sz n : Nat} {v : Value} {xs : List Value} (hown : w.ownsRow base e sz v n xs) (hw : Wrote F w w') (hF : ∀ k, F k → k < base) : w'.ownsRow base e sz v n xs := by
  obtain ⟨hl, h⟩ := hown
  refine ⟨hl, ?_⟩
  rcases h with h | ⟨g, cap, cur, rfl, hg, hh, r⟩
  · exact .inl h
  · exact .inr ⟨g, cap, cur, rfl, hg, by rw [hw.block g (Array.getElem?_eq_some_iff.1 hh).1 (fun hf => by have := hF g hf; omega)]; exact hh, r⟩
theorem owns_base' {w : World} {b b' : Nat} {e : TypeId} {sz n : Nat} {v : Value} {xs : List Value} (h : w.ownsRow b e sz v n xs) (hb : b' ≤ b) : w.ownsRow b' e sz v n xs := by
  obtain ⟨hl, h⟩ := h
  refine ⟨hl, ?_⟩
  rcases h with h | ⟨g, cap, cur, rfl, hg, r⟩
  · exact .inl h
  · exact .inr ⟨g, cap, cur, rfl, Nat.le_trans hb hg, r⟩
theorem Src.low {w w' : World} {S p : Nat} {vb : Value} {bs : List Nat} (h : Src w S vb bs p) (hb : Below (S + 1) w w') : Src w' S vb bs p := by
  refine ⟨?_, ?_, ?_, h.has.at fun hp b off n' cap hv => hb.block b (by have := h.ne (by simpa using hp) b off n' cap hv; omega), h.ne⟩
  · rw [hb.cell (p := ⟨S, 0, none⟩) (Nat.lt_succ_self _)]; exact h.c0
  · rw [hb.cell (p := ⟨S, 1, none⟩) (Nat.lt_succ_self _)]; exact h.c1
  · rw [hb.frozen (p := ⟨S, 1, none⟩) (Nat.lt_succ_self _)]; exact h.f1
theorem ctake' (S : Nat) (vb : Value) (bs : List Nat) (p : Nat) (w : World) (h : Src w S vb bs p) (hlt : p < 8 * bs.length) (hbs : ∀ b ∈ bs, b < 256) (hn : bs.length ≤ 1000000) :
    Calls Tryz.prog 104 #[.pointer (some ⟨S, 0, none⟩)] w fun e w' => e = .returned (.int .i64 (bitAt bs p)) ∧ Src w' S vb bs (p + 1) ∧ Wrote (fun k => k = S) w w' := by
  refine (ctake S vb bs p w h hlt hbs hn).mono ?_
  rintro e w' ⟨rfl, m, rfl⟩
  have hw : Wrote (fun k => k = S) w ((w.setCell ⟨S, 1, none⟩ (.int .i64 (p + 1))).drewN m) := ((Wrote.refl (fun k => k = S) w).setCell (p := ⟨S, 1, none⟩) rfl _).drewN _
  refine ⟨rfl, ⟨?_, ?_, ?_, ?_, h.ne⟩, hw⟩
  · rw [World.cell?_drewN, World.cell?_setCell_other _ _ _ _ (by simp)]; exact h.c0
  · rw [World.cell?_drewN, World.cell?_setCell_same _ _ _ h.c1]; simp
  · rw [World.frozen?_drewN, World.frozen?_setCell]; exact h.f1
  · refine h.has.at fun hp b off n' cap hv => ?_
    have hlt := h.ne (by simpa using hp) b off n' cap hv
    have : 0 < (u8s bs).length := hp
    obtain ⟨_, a, cap', hv', _, _, h3⟩ := h.has
    obtain ⟨b', off', ha, hc⟩ := h3 hp
    subst ha
    rw [hv] at hv'
    simp only [Value.slice.injEq, Option.some.injEq, Addr.mk.injEq, and_true] at hv'
    obtain ⟨⟨rfl, rfl⟩, -, -⟩ := hv'
    have hbl := World.block_lt_of_cell? w _ (hc 0 _ (List.getElem?_eq_getElem hp))
    exact hw.block _ hbl (by omega)
theorem Src.start (w : World) (vb : Value) (bs : List Nat) (h : Has w 1 vb bs.length (u8s bs)) (T : TypeId) : Src (w.alloc (.cells #[vb, .int .i64 0] T)) w.heap.size vb bs 0 := by
  refine ⟨?_, ?_, ?_, h.below ((Below.refl _ _).alloc (Nat.le_refl _) _), ?_⟩
  · rw [World.cell?_alloc_at _ _ _ _ rfl]; rfl
  · rw [World.cell?_alloc_at _ _ _ _ rfl]; rfl
  · exact World.frozen?_alloc_at _ _ _ _ rfl
  · intro hp b off n cap hv
    obtain ⟨_, a, cap', hv', _, _, h3⟩ := h
    obtain ⟨b', off', ha, hc⟩ := h3 (by simpa using hp)
    subst ha
    rw [hv] at hv'
    simp only [Value.slice.injEq, Option.some.injEq, Addr.mk.injEq, and_true] at hv'
    obtain ⟨⟨rfl, rfl⟩, -, -⟩ := hv'
    exact World.block_lt_of_cell? w _ (hc 0 _ (u8s_get bs 0 hp))
def UnpPost (w : World) (ws : List Int) (bs : List Nat) (e : Ending) (w' : World) : Prop :=
  ((∃ v', e = .returned (.tuple #[v', .int .i64 0]) ∧ restZero bs (sumW ws) ∧ w'.ownsRow w.heap.size 3 1 v' ws.length (ints (unpackV bs 0 ws))) ∨ (e = .returned (.tuple #[.slice none 0 0, .int .i64 4]) ∧ ¬ restZero bs (sumW ws))) ∧ Below w.heap.size w w'
theorem sumW_take (ws : List Int) (k : Nat) (h : k < ws.length) : sumW (ws.take (k + 1)) = sumW (ws.take k) + ws[k].toNat := by rw [take_snoc _ _ h, sumW_snoc]
theorem sumW_take_le (ws : List Int) (k : Nat) : sumW (ws.take k) ≤ sumW ws := by
  have e : sumW ws = sumW (ws.take k) + sumW (ws.drop k) := by
    unfold sumW
    conv => lhs; rw [← List.take_append_drop k ws]
    rw [List.map_append, List.sum_append]
  omega
set_option maxRecDepth 100000 in
set_option maxHeartbeats 4000000 in
theorem cunpack (v1 vb : Value) (ws : List Int) (bs : List Nat) (w : World) (h1 : Has w 1 v1 ws.length (ints ws)) (hw : ∀ x ∈ ws, 1 ≤ x ∧ x ≤ 60) (hlen : ws.length ≤ 40) (hb : Has w 1 vb bs.length (u8s bs)) (hbs : ∀ b ∈ bs, b < 256)
    (hn : (bs.length : Int) = (wsum ws + 7) / 8) : Calls Tryz.prog 85 #[v1, vb] w (UnpPost w ws bs) := by
  have hsz := csize v1 ws w h1 hw hlen
  rw [← hn] at hsz
  have Hsz := Lib.hid hsz
  have hsum := wsum_sumW ws hw
  have hwb := wsum_bd ws hw
  have hle : sumW ws ≤ 8 * bs.length := by omega
  have hn3 : bs.length ≤ 1000 := by omega
  have Hst := Lib.hid fun T => Src.start w vb bs hb T
  have HW := Lib.hid hw
  have Hbs := Lib.hid hbs
  obtain ⟨⟨hl1, hnil⟩, a1, cap1, rfl, hn1, hm1, hc1⟩ := h1
  obtain ⟨⟨hl2, hnil2⟩, a2, cap2, rfl, hn2, hm2, hc2⟩ := hb
  have Hc1 := Lib.hid hc1
  unfold maxLen at hm1 hm2
  clear hsz hc1 hc2 hl1 hl2 hnil hnil2 hn hw hbs hsum hwb
  go_enter Tryz.func85, Tryz.ntmps85
  go_wp2_with fail
  refine Hsz.out.mono ?_
  rintro e w' ⟨rfl, rfl⟩
  go_wp2_with fail
  have hst := Hst.out 183
  have hB0 : Below w.heap.size w (w.alloc (.cells #[.slice a2 bs.length cap2, .int .i64 0] 183)) := (Below.refl _ _).alloc (Nat.le_refl _) _
  have hs0 : w.heap.size + 1 ≤ (w.alloc (.cells #[.slice a2 bs.length cap2, .int .i64 0] 183)).heap.size := by simp
  generalize hS : w.heap.size = S at *
  have HS := Lib.hid hS
  clear hS Hst
  generalize w.alloc (.cells #[.slice a2 bs.length cap2, .int .i64 0] 183) = wA at *
  go_loopw [9, 11, 12, 30, 35] (fun out _ _ i _ wr => ∃ k : Nat, k ≤ ws.length ∧ i = .int .i64 k ∧ Src wr S (.slice a2 bs.length cap2) bs (sumW (ws.take k)) ∧ wr.ownsRow (S + 1) 3 1 out k (ints (unpackV bs 0 (ws.take k))) ∧ Below S w wr ∧ S + 1 ≤ wr.heap.size) (fun _ _ _ i _ _ => ws.length - (intOf i).toNat)
  case atStart => exact ⟨0, by omega, rfl, hst, World.ownsRow_nil _ _ _ _, hB0, hs0⟩
  case round =>
    clear hst hB0 hs0 Hsz
    obtain ⟨k, hk, rfl, hst, hown, hb, hsz⟩ := hrel
    have Hst := Lib.hid hst
    have Hown := Lib.hid hown
    have Hb := Lib.hid hb
    clear hst hown hb
    by_cases hlt : k < ws.length
    · obtain ⟨b, off, rfl, hcc⟩ := Hc1.out (by simp; omega)
      have g0 := cell_on (HS.out ▸ Hb.out) (hcc _ _ (ints_get ws k hlt))
      obtain ⟨o1, o2⟩ := HW.out _ (List.getElem_mem hlt)
      have Htk := Lib.hid (sumW_take ws k hlt)
      have hle2 := sumW_take_le ws (k + 1)
      rw [Htk.out] at hle2
      have Hsn := Lib.hid (unpackV_snoc bs ws[k] (ws.take k) 0)
      rw [← take_snoc ws k hlt, Nat.zero_add] at Hsn
      generalize ws[k] = W at *
      obtain ⟨W, rfl⟩ := Int.eq_ofNat_of_zero_le (show 0 ≤ W by omega)
      simp only [Int.toNat_natCast] at Htk hle2 Hsn
      generalize sumW (ws.take k) = p0 at *
      clear hcc
      go_wp2_with fail
      go_loopw [12, 35] (fun v i wq => ∃ m : Nat, m ≤ W ∧ i = .int .i64 m ∧ v = .int .i64 (valOf (bitsAt bs p0 m)) ∧ Src wq S (.slice a2 bs.length cap2) bs (p0 + m) ∧ wq.ownsRow (S + 1) 3 1 u9 k (ints (unpackV bs 0 (ws.take k))) ∧ Below S w wq ∧ S + 1 ≤ wq.heap.size) (fun _ i _ => W - (intOf i).toNat)
      case atStart => exact ⟨0, by omega, rfl, rfl, Hst.out, Hown.out, Hb.out, hsz⟩
      case round =>
        clear Hst Hown Hb g0 hsz
        obtain ⟨m, hm, rfl, rfl, hst, hown, hb, hsz⟩ := hrel
        have Hst := Lib.hid hst
        have Hown := Lib.hid hown
        have Hb := Lib.hid hb
        clear hst hown hb
        by_cases hmW : m < W
        · have Ht := Lib.hid (ctake' S _ bs (p0 + m) wr Hst.out (by omega) Hbs.out (by omega))
          have hb1 := bitAt_le bs (p0 + m)
          have hv := valOf_lt bs p0 m
          have hv60 : 2 ^ m ≤ 2 ^ 59 := Nat.pow_le_pow_right (by decide) (by omega)
          rw [show (2 : Nat) ^ 59 = 576460752303423488 from by decide] at hv60
          have Hvs := Lib.hid (valOf_snoc (bitsAt bs p0 m) (bitAt bs (p0 + m)))
          rw [← bitsAt_snoc] at Hvs
          generalize valOf (bitsAt bs p0 m) = V at *
          generalize bitAt bs (p0 + m) = bt at *
          have hV : V < 576460752303423488 := by omega
          have hor : bits BinOp.or IntKind.i64 ((V : Int) * 2) (bt : Int) = (V : Int) * 2 + bt := bits_join .i64 63 (by decide) (fun n h0 h1 => IntWalk.i64_in n (by omega)) 1 _ _ (by omega) (by omega) (by omega) (by omega) (by omega) (by omega)
          clear hv hv60
          go_wp2_with fail
          refine Ht.out.mono ?_
          rintro e w2 ⟨rfl, hst2, hwr⟩
          have Hst2 := Lib.hid hst2
          have Hown2 := Lib.hid (owns_wrote Hown.out hwr (fun k hk => by omega))
          have Hb2 := Lib.hid (Hb.out.trans (hwr.below (by omega) (fun k hk => by omega)))
          have hsz2 := hwr.size
          clear hst2 hwr Ht
          go_wp2_with fail
          go_roundw
          case rel => exact ⟨m + 1, by omega, by go_num, by rw [Hvs.out]; go_num, Hst2.out, Hown2.out, Hb2.out, by omega⟩
          case measure => simp [intOf]; omega
        · obtain rfl : m = W := by omega
          have hv := valOf_lt bs p0 m
          have Hsn2 : Hid (unpackV bs 0 (ws.take (k + 1)) = unpackV bs 0 (ws.take k) ++ [(valOf (bitsAt bs p0 m) : Int)]) := Hsn.out
          generalize valOf (bitsAt bs p0 m) = V at *
          clear Hsn hv
          go_wp2_with (at_builtin; refine wp_app1 (w0 := wr) 22 3 1 8 _ elInt Tryz.underlying22 (S + 1) _ _ _ Hown.out (by repeat (first | exact Below.refl _ _ | refine Below.drew ?_ | refine Below.alloc ?_ (by first | (simp; done) | (simp; omega)) _ | refine Below.setCell ?_ (by first | (simp; done) | (simp; omega)) _)) [.int .i64 V] rfl _ _ rfl rfl rfl (by first | exact heap_alloc_new _ _ | (simp only [heap_drew, heap_drewN]; exact heap_alloc_new _ _)) (by simp) rfl rfl (by omega) (by omega) hsz ?_; intro v3 w3 hown3 hgrow3 hb3)
          go_roundw
          case rel => exact ⟨k + 1, by omega, by go_num, by rw [Htk.out]; exact Hst.out.low hb3, by rw [Hsn2.out, ← ints_snoc]; exact hown3, Hb.out.trans (hb3.mono (Nat.le_succ _)), by have := hb3.size; omega⟩
          case measure => simp [intOf]; omega
    · obtain rfl : k = ws.length := by omega
      rw [List.take_length] at Hst Hown
      clear Hc1
      go_wp2_with fail
      obtain ⟨P0, hP0⟩ : ∃ P0, sumW ws = P0 := ⟨_, rfl⟩
      rw [hP0] at Hst hle
      have HP0 := Lib.hid hP0
      clear hP0
      go_loopw [] (fun wq => ∃ p : Nat, P0 ≤ p ∧ p ≤ 8 * bs.length ∧ (∀ i, P0 ≤ i → i < p → bitAt bs i = 0) ∧ Src wq S (.slice a2 bs.length cap2) bs p ∧ wq.ownsRow (S + 1) 3 1 u9 ws.length (ints (unpackV bs 0 ws)) ∧ Below S w wq ∧ S + 1 ≤ wq.heap.size) (fun wq => 8 * bs.length - (intOf ((wq.cell? ⟨S, 1, none⟩).getD undef)).toNat)
      case atStart => exact ⟨P0, Nat.le_refl _, by omega, fun i h1 h2 => by omega, Hst.out, Hown.out, Hb.out, hsz⟩
      case round =>
        clear Hst Hown Hb hsz
        obtain ⟨p, hp0, hp1, hz, hst, hown, hb, hsz⟩ := hrel
        have Hst := Lib.hid hst
        have Hown := Lib.hid hown
        have Hb := Lib.hid hb
        have Hz := Lib.hid hz
        have c1 := hst.c1
        clear hst hown hb hz
        by_cases hpl : p < 8 * bs.length
        · have Ht := Lib.hid (ctake' S _ bs p wr Hst.out hpl Hbs.out (by omega))
          have hb1 := bitAt_le bs p
          obtain ⟨bt, hbt⟩ : ∃ bt, bitAt bs p = bt := ⟨_, rfl⟩
          rw [hbt] at Ht hb1
          have Hbt := Lib.hid hbt
          have hpl' : (p : Int) < 8 * bs.length := by omega
          clear hbt
          rcases (show bt = 0 ∨ bt = 1 by omega) with rfl | rfl
          · go_wp2_with fail
            refine Ht.out.mono ?_
            rintro e w2 ⟨rfl, hst2, hwr⟩
            have Hst2 := Lib.hid hst2
            have Hown2 := Lib.hid (owns_wrote Hown.out hwr (fun k hk => by omega))
            have Hb2 := Lib.hid (Hb.out.trans (hwr.below (by omega) (fun k hk => by omega)))
            have hsz2 := hwr.size
            have Hm := Lib.hid hst2.c1
            have Hc1' := Lib.hid c1
            clear hst2 hwr Ht c1
            go_wp2_with fail
            go_roundw
            case rel => exact ⟨p + 1, by omega, by omega, fun i h1 h2 => by
              by_cases e : i < p
              · exact Hz.out i h1 e
              · have : i = p := by omega
                rw [this]; exact Hbt.out, Hst2.out, Hown2.out, Hb2.out, by omega⟩
            case measure => rw [Hm.out, Hc1'.out]; simp [intOf]; omega
          · go_wp2_with fail
            refine Ht.out.mono ?_
            rintro e w2 ⟨rfl, hst2, hwr⟩
            have Hb2 := Lib.hid (Hb.out.trans (hwr.below (by omega) (fun k hk => by omega)))
            clear hst2 hwr Ht c1
            go_wp2_with fail
            go_ret2
            have hnz : ¬ restZero bs (sumW ws) := fun h => by have := h p (by have := HP0.out; omega) hpl; rw [Hbt.out] at this; cases this
            exact ⟨Or.inr ⟨rfl, hnz⟩, HS.out ▸ Hb2.out⟩
        · have hpe : p = 8 * bs.length := by omega
          have Hpe := Lib.hid hpe
          have hpl' : ¬ (p : Int) < 8 * bs.length := by omega
          have hpd : decide ((p : Int) < 8 * bs.length) = false := by simpa using hpl'
          clear hpe hpl hpl'
          go_wp2_with fail
          go_ret2
          exact ⟨Or.inl ⟨_, rfl, fun i h1 h2 => Hz.out i (by have := HP0.out; omega) (by have := Hpe.out; omega), HS.out ▸ owns_base' Hown.out (by have := HS.out; omega)⟩, HS.out ▸ Hb.out⟩
end Go.Proofs.YtjdedflfdlhkdaaGreatDoor

namespace Go.Proofs.YtjdedflfdlhkdaaGreatDoor
set_option linter.unusedVariables false

theorem byteOf_bit (bs : List Nat) (h : Bits bs) (j r : Nat) (hr : r < 8) : byteOf bs j / 2 ^ (7 - r) % 2 = bs.getD (8 * j + r) 0 := by
  have h0 := h (8 * j); have h1 := h (8 * j + 1); have h2 := h (8 * j + 2); have h3 := h (8 * j + 3)
  have h4 := h (8 * j + 4); have h5 := h (8 * j + 5); have h6 := h (8 * j + 6); have h7 := h (8 * j + 7)
  unfold byteOf
  have hr' : r = 0 ∨ r = 1 ∨ r = 2 ∨ r = 3 ∨ r = 4 ∨ r = 5 ∨ r = 6 ∨ r = 7 := by omega
  rcases hr' with rfl | rfl | rfl | rfl | rfl | rfl | rfl | rfl <;> (simp only [Nat.add_zero, Nat.reduceSub, Nat.reducePow, Nat.sub_zero, Nat.div_one, Nat.sub_self, Nat.pow_zero]; omega)
theorem recBits_bits (fs : List (Int × Int)) : Bits (recBits fs) := by
  intro i
  rw [List.getD_eq_getElem?_getD]
  by_cases h : i < (recBits fs).length
  · rw [List.getElem?_eq_getElem h]
    have hm : (recBits fs)[i] ∈ recBits fs := List.getElem_mem h
    simp only [recBits, List.mem_flatMap] at hm
    obtain ⟨p, _, hp⟩ := hm
    exact fieldBits_bits _ _ _ hp
  · rw [List.getElem?_eq_none (by omega)]; simp
theorem bitAt_recB (fs : List (Int × Int)) (i : Nat) (h : i < 8 * recSize fs) : bitAt (recB fs) i = (recBits fs).getD i 0 := by
  unfold bitAt
  have hq : i / 8 < recSize fs := by omega
  have e : (recB fs).getD (i / 8) 0 = byteOf (recBits fs) (i / 8) := by
    rw [List.getD_eq_getElem?_getD, List.getElem?_eq_getElem (by rw [recB_length]; exact hq)]
    simp [recB]
  rw [e, byteOf_bit _ (recBits_bits fs) _ _ (Nat.mod_lt _ (by decide))]
  rw [show 8 * (i / 8) + i % 8 = i by omega]
theorem valOf_up (w v : Nat) (hv : v < 2 ^ w) : ∀ m, m ≤ w → valOf ((List.range m).map fun i => v / 2 ^ (w - 1 - i) % 2) = v / 2 ^ (w - m)
  | 0, _ => by simp [valOf, Nat.div_eq_of_lt hv]
  | m + 1, h => by
    have ih := valOf_up w v hv m (by omega)
    rw [List.range_succ, List.map_append, List.map_singleton, valOf_snoc, ih]
    rw [show w - m = (w - (m + 1)) + 1 by omega, show w - 1 - m = w - (m + 1) by omega, Nat.pow_succ, ← Nat.div_div_eq_div_mul]
    omega
theorem valOf_fieldBits (w v : Nat) (hv : v < 2 ^ w) : valOf (fieldBits w v) = v := by
  unfold fieldBits
  rw [valOf_up w v hv w (Nat.le_refl _)]; simp
theorem sumW_fields (fs : List (Int × Int)) : sumW (fs.map (·.1)) = (recBits fs).length := by
  rw [recBits_length, sumW, List.map_map]; rfl
theorem recBits_len_le (fs : List (Int × Int)) : (recBits fs).length ≤ 8 * recSize fs := by unfold recSize; omega
theorem unpack_back : ∀ (fs pre : List (Int × Int)), (∀ p ∈ fs, 0 ≤ p.2 ∧ p.2 < 2 ^ p.1.toNat) → unpackV (recB (pre ++ fs)) (recBits pre).length (fs.map (·.1)) = fs.map (·.2)
  | [], pre, _ => rfl
  | p :: fs, pre, h => by
    have hp := h p (by simp)
    have ih := unpack_back fs (pre ++ [p]) fun q hq => h q (by simp [hq])
    have e1 : pre ++ [p] ++ fs = pre ++ p :: fs := by simp
    rw [e1] at ih
    have e2 : (recBits (pre ++ [p])).length = (recBits pre).length + p.1.toNat := by simp [recBits, fieldBits_length]
    rw [e2] at ih
    simp only [List.map_cons, unpackV]
    rw [ih]
    congr 1
    have hall : recBits (pre ++ p :: fs) = recBits pre ++ (fieldBits p.1.toNat p.2.toNat ++ recBits fs) := by simp [recBits]
    have hb : bitsAt (recB (pre ++ p :: fs)) (recBits pre).length p.1.toNat = fieldBits p.1.toNat p.2.toNat := by
      apply List.ext_getElem
      · simp [bitsAt, fieldBits_length]
      · intro i h1 h2
        rw [fieldBits_length] at h2
        simp only [bitsAt, List.getElem_map, List.getElem_range]
        have hlen := recBits_len_le (pre ++ p :: fs)
        rw [hall] at hlen
        simp only [List.length_append, fieldBits_length] at hlen
        rw [bitAt_recB _ _ (by omega), hall, List.getD_eq_getElem?_getD, List.getElem?_append_right (by omega), Nat.add_sub_cancel_left, List.getElem?_append_left (by rw [fieldBits_length]; exact h2), List.getElem?_eq_getElem (by rw [fieldBits_length]; exact h2)]
        rfl
    have hv : p.2.toNat < 2 ^ p.1.toNat := by
      have h2 : (p.2.toNat : Int) < ((2 ^ p.1.toNat : Nat) : Int) := by
        rw [Int.toNat_of_nonneg hp.1]; simpa using hp.2
      omega
    rw [hb, valOf_fieldBits _ _ hv]
    omega
theorem rest_back (fs : List (Int × Int)) : restZero (recB fs) (sumW (fs.map (·.1))) := by
  intro i h1 h2
  rw [sumW_fields] at h1
  rw [recB_length] at h2
  rw [bitAt_recB _ _ h2, getD_past _ _ h1]
/-- What comes back packs to what it came from. -/
theorem fieldBits_valOf (l : List Nat) (h : ∀ b ∈ l, b ≤ 1) : fieldBits l.length (valOf l) = l := by
  have key : ∀ (n : Nat) (l : List Nat), l.length = n → (∀ b ∈ l, b ≤ 1) → fieldBits l.length (valOf l) = l := by
    intro n
    induction n with
    | zero => intro l hl _; have := List.eq_nil_of_length_eq_zero hl; subst this; rfl
    | succ n ih =>
      intro l hl hb
      obtain ⟨l', b, rfl⟩ : ∃ l' b, l = l' ++ [b] := ⟨l.dropLast, l.getLast (by intro e; subst e; simp at hl), (List.dropLast_concat_getLast _).symm⟩
      have hl' : l'.length = n := by simpa using hl
      have ih' := ih l' hl' fun x hx => hb x (by simp [hx])
      have hb1 := hb b (by simp)
      rw [valOf_snoc]
      have e : fieldBits (l' ++ [b]).length (2 * valOf l' + b) = fieldBits l'.length (valOf l') ++ [b] := by
        unfold fieldBits
        rw [List.length_append, List.length_singleton, List.range_succ, List.map_append, List.map_singleton]
        congr 1
        · apply List.map_congr_left
          intro i hi
          have hi' := List.mem_range.1 hi
          rw [show l'.length + 1 - 1 - i = (l'.length - 1 - i) + 1 by omega, Nat.pow_succ, Nat.mul_comm (2 ^ _) 2, ← Nat.div_div_eq_div_mul, show (2 * valOf l' + b) / 2 = valOf l' by omega]
        · congr 1
          rw [show l'.length + 1 - 1 - l'.length = 0 by omega]; simp; omega
      rw [e, ih']
  exact key _ l rfl h
def zipF (ws : List Int) (vs : List Int) : List (Int × Int) := ws.zip vs
theorem bitsAt_length (bs : List Nat) (p m : Nat) : (bitsAt bs p m).length = m := by simp [bitsAt]
theorem bitsAt_bits (bs : List Nat) (p m : Nat) : ∀ b ∈ bitsAt bs p m, b ≤ 1 := by
  intro b hb; simp only [bitsAt, List.mem_map] at hb; obtain ⟨i, _, rfl⟩ := hb; exact bitAt_le _ _
theorem bitsAt_add (bs : List Nat) (p m k : Nat) : bitsAt bs p (m + k) = bitsAt bs p m ++ bitsAt bs (p + m) k := by
  unfold bitsAt
  rw [List.range_add, List.map_append, List.map_map]
  congr 1
  apply List.map_congr_left
  intro i _
  simp [Nat.add_assoc]
theorem recBits_unpack (bs : List Nat) : ∀ (ws : List Int) (p : Nat), (∀ x ∈ ws, 1 ≤ x) → recBits (ws.zip (unpackV bs p ws)) = bitsAt bs p (sumW ws)
  | [], p, _ => by simp [recBits, sumW, bitsAt]
  | w :: ws, p, h => by
    have ih := recBits_unpack bs ws (p + w.toNat) fun x hx => h x (by simp [hx])
    have e : sumW (w :: ws) = w.toNat + sumW ws := by simp [sumW]
    rw [e, bitsAt_add, unpackV, List.zip_cons_cons]
    have hc : recBits ((w, (valOf (bitsAt bs p w.toNat) : Int)) :: ws.zip (unpackV bs (p + w.toNat) ws)) = fieldBits w.toNat (valOf (bitsAt bs p w.toNat)) ++ recBits (ws.zip (unpackV bs (p + w.toNat) ws)) := by simp [recBits]
    rw [hc, ih]
    congr 1
    have := fieldBits_valOf (bitsAt bs p w.toNat) (bitsAt_bits _ _ _)
    rw [bitsAt_length] at this
    exact this
theorem byte_of_bits (B : Nat) (h : B < 256) : B / 128 % 2 * 128 + B / 64 % 2 * 64 + B / 32 % 2 * 32 + B / 16 % 2 * 16 + B / 8 % 2 * 8 + B / 4 % 2 * 4 + B / 2 % 2 * 2 + B % 2 = B := by omega
theorem bitsAt_getD (bs : List Nat) (m i : Nat) (hz : restZero bs m) (hi : i < 8 * bs.length) : (bitsAt bs 0 m).getD i 0 = bitAt bs i := by
  rw [List.getD_eq_getElem?_getD]
  by_cases h : i < m
  · simp [bitsAt, h]
  · rw [List.getElem?_eq_none (by rw [bitsAt_length]; omega), hz i (by omega) hi]; rfl
theorem recB_unpack (bs : List Nat) (ws : List Int) (hw : ∀ x ∈ ws, 1 ≤ x ∧ x ≤ 60) (hb : ∀ b ∈ bs, b < 256) (hn : (bs.length : Int) = (wsum ws + 7) / 8) (hz : restZero bs (sumW ws)) :
    recB (ws.zip (unpackV bs 0 ws)) = bs := by
  have e := recBits_unpack bs ws 0 fun x hx => (hw x hx).1
  have hs := wsum_sumW ws hw
  have hsz : recSize (ws.zip (unpackV bs 0 ws)) = bs.length := by unfold recSize; rw [e, bitsAt_length]; omega
  unfold recB
  rw [hsz, e]
  apply List.ext_getElem
  · simp
  · intro j h1 h2
    have hj : j < bs.length := h2
    simp only [List.getElem_map, List.getElem_range]
    unfold byteOf
    have g : ∀ k, k < 8 → (bitsAt bs 0 (sumW ws)).getD (8 * j + k) 0 = bs[j] / 2 ^ (7 - k) % 2 := fun k hk => by
      rw [bitsAt_getD bs _ _ hz (by omega)]
      unfold bitAt
      rw [show (8 * j + k) / 8 = j by omega, show (8 * j + k) % 8 = k by omega, List.getD_eq_getElem?_getD, List.getElem?_eq_getElem hj]; rfl
    have g0 := g 0 (by omega)
    rw [Nat.add_zero] at g0
    rw [g0, g 1 (by omega), g 2 (by omega), g 3 (by omega), g 4 (by omega), g 5 (by omega), g 6 (by omega), g 7 (by omega)]
    have := byte_of_bits bs[j] (hb _ (List.getElem_mem hj))
    simpa using this
theorem unpack_ok (bs : List Nat) (ws : List Int) (hl : ws.length ≤ 40) (hw : ∀ x ∈ ws, 1 ≤ x ∧ x ≤ 60) : FieldsOk (ws.zip (unpackV bs 0 ws)) := by
  refine ⟨by rw [List.length_zip, unpackV_length]; omega, ?_⟩
  have key : ∀ (ws : List Int) (p : Nat), (∀ x ∈ ws, 1 ≤ x ∧ x ≤ 60) → ∀ q ∈ ws.zip (unpackV bs p ws), 1 ≤ q.1 ∧ q.1 ≤ 60 ∧ 0 ≤ q.2 ∧ q.2 < 2 ^ q.1.toNat := by
    intro ws
    induction ws with
    | nil => intro p _ q hq; simp at hq
    | cons w ws ih =>
      intro p h q hq
      rw [unpackV, List.zip_cons_cons] at hq
      rcases List.mem_cons.1 hq with rfl | hq
      · have h1 := h w (by simp)
        have h2 := valOf_lt bs p w.toNat
        refine ⟨h1.1, h1.2, by simp, ?_⟩
        have : ((valOf (bitsAt bs p w.toNat) : Nat) : Int) < ((2 ^ w.toNat : Nat) : Int) := Int.ofNat_lt.2 h2
        simpa using this
      · exact ih _ (fun x hx => h x (by simp [hx])) q hq
  exact key ws 0 hw
end Go.Proofs.YtjdedflfdlhkdaaGreatDoor

namespace Go.Proofs.YtjdedflfdlhkdaaGreatDoor
open Go.ChangeShapes Go.WideShapes Go.ChangeAt Go.RowKit
set_option linter.unusedVariables false

theorem Has.pre {w : World} {sz n : Nat} {a : Option Addr} {cap : Nat} {xs : List Value} (h : Has w sz (.slice a n cap) n xs) (m : Nat) (hm : m ≤ n) (ha : a ≠ none) : Has w sz (.slice a m cap) m (xs.take (m * sz)) := by
  obtain ⟨⟨hl, hnil⟩, a', cap', he, h1, h2, h3⟩ := h
  simp only [Value.slice.injEq] at he
  obtain ⟨rfl, -, rfl⟩ := he
  have hmul : m * sz ≤ n * sz := Nat.mul_le_mul_right _ hm
  refine ⟨⟨by rw [List.length_take]; omega, fun _ _ h => by simp only [Value.slice.injEq] at h; exact absurd h.1 ha⟩, a, cap, rfl, by omega, h2, fun hp => ?_⟩
  rw [List.length_take] at hp
  obtain ⟨b, off, e, hc⟩ := h3 (by omega)
  refine ⟨b, off, e, fun j u hu => hc j u ?_⟩
  rw [List.getElem?_take] at hu
  split at hu
  · exact hu
  · cases hu
theorem flat_take {α : Type} (f : α → List Value) (m : Nat) (hf : ∀ a, (f a).length = m) : ∀ (l : List α) (k : Nat), (l.flatMap f).take (k * m) = (l.take k).flatMap f
  | [], k => by simp
  | a :: t, 0 => by simp
  | a :: t, k + 1 => by
    rw [List.flatMap_cons, List.take_succ_cons, List.flatMap_cons, ← flat_take f m hf t k, List.take_append, hf, show (k + 1) * m - m = k * m by rw [Nat.succ_mul]; omega, List.take_of_length_le (by rw [hf, Nat.succ_mul]; omega)]
/-- 'make' of n elements of one cell. -/
theorem run_mk {P : Program} {t e : TypeId} {bytes : Nat} {z : Value} (hE : (P.info? e).map (fun i => (i.zero, i.size, i.bytes)) = some (some z, 1, bytes)) (ht : P.underlying t = some (.slice e)) (hz : z.cells = #[z]) (X : World) (n : Nat) (h : n * bytes ≤ 140737488355328) (hn : n ≤ 1000000) :
    (Instr.makeSlice t (.int .i64 (n : Int)) (.int .i64 (n : Int))).run P X = .ok (.slice (some ⟨X.heap.size, 0, none⟩) n n) (X.alloc (.cells (List.replicate n z).toArray e)) := by
  obtain ⟨i0, hi, hz0, hz1, hz2⟩ := info_parts hE
  rw [run_make X t e i0 z ht hi hz0 .i64 .i64 n n (by omega) (by omega) (by rw [hz2]; have h2 : ((bytes * n : Nat) : Int) ≤ 281474976710656 := by rw [Nat.mul_comm]; omega
                                                                            simpa using h2) (by omega)]
  simp only [Int.toNat_natCast, hz1]
  congr 3
  apply Array.ext
  · simp [madeCells, hz]
  · intro j h1 h2; simp [madeCells, hz, Nat.mod_one]
/-- A row at a block below B is kept where nothing below B has changed. -/
theorem owns_low {w w' : World} {base e sz n g cap B : Nat} {xs : List Value} (hown : w.ownsRow base e sz (.slice (some ⟨g, 0, none⟩) n cap) n xs) (hb : Below B w w') (hg : g < B) : w'.ownsRow base e sz (.slice (some ⟨g, 0, none⟩) n cap) n xs := by
  obtain ⟨hl, h⟩ := hown
  refine ⟨hl, ?_⟩
  rcases h with h | ⟨g', cap', cur, he, hg', hh, hn, hm, hs, ht⟩
  · exact .inl h
  · simp only [Value.slice.injEq, Option.some.injEq, Addr.mk.injEq, and_true, true_and] at he
    obtain ⟨rfl, rfl⟩ := he
    exact .inr ⟨g, cap, cur, rfl, hg', by rw [hb.block g hg]; exact hh, hn, hm, hs, ht⟩
theorem owns_block_at {w : World} {base e sz n g cap : Nat} {xs : List Value} (hown : w.ownsRow base e sz (.slice (some ⟨g, 0, none⟩) n cap) n xs) : ∃ cs, w.heap[g]? = some (.cells cs e (0, 0)) := by
  obtain ⟨hl, h⟩ := hown
  rcases h with ⟨h, _⟩ | ⟨g', cap', cur, he, hg', hh, _⟩
  · cases h
  · simp only [Value.slice.injEq, Option.some.injEq, Addr.mk.injEq, and_true, true_and] at he
    obtain ⟨rfl, rfl⟩ := he
    exact ⟨cur, hh⟩
theorem infoInt : (Tryz.prog.info? 3).map (fun i => (i.zero, i.size, i.bytes)) = some (some (.int .i64 0), 1, 8) := by kernel_rfl
theorem zeros_ints (n : Nat) : List.replicate n (Value.int .i64 0) = ints (List.replicate n 0) := by simp [ints]
end Go.Proofs.YtjdedflfdlhkdaaGreatDoor

namespace Go.Proofs.YtjdedflfdlhkdaaGreatDoor
open Go.ChangeShapes Go.WideShapes Go.ChangeAt Go.RowKit
set_option linter.unusedVariables false
set_option linter.unusedSimpArgs false

set_option maxRecDepth 100000 in
set_option maxHeartbeats 1000000 in
theorem cmul64 (n : Nat) (hn : n ≤ 48) (w : World) :
    Calls Tryz.prog 115 #[.int .u64 1, .int .u64 n] w fun e w' => e = .returned (.tuple #[.int .u64 0, .int .u64 n]) ∧ w = w' := by
  have wr : ∀ x : Int, 0 ≤ x → x < 9223372036854775808 → IntKind.u64.wrap x = x := fun x h0 h1 => by rw [IntKind.wrap_u64]; omega
  have mk := fun (x : Int) (h0 : 0 ≤ x) (h1 : x < 9223372036854775808) => bits_mask .u64 63 (by decide) (fun n h0 h1 => wr n h0 (by omega)) 32 (by decide) x h0 (by omega)
  have a1 : bits BinOp.and IntKind.u64 1 4294967295 = 1 := by have := mk 1 (by omega) (by omega); simpa using this
  have a2 : bits BinOp.and IntKind.u64 (n : Int) 4294967295 = n := by
    have := mk n (by omega) (by omega)
    rw [show (2 : Int) ^ 32 = 4294967296 from rfl] at this
    rw [show (4294967295 : Int) = 4294967296 - 1 from rfl, this]; omega
  have a3 : bits BinOp.and IntKind.u64 0 4294967295 = 0 := by have := mk 0 (by omega) (by omega); simpa using this
  have d0 : (n : Int) / 4294967296 = 0 := by omega
  have w0 : IntKind.u64.wrap (n : Int) = n := wr _ (by omega) (by omega)
  have w1 : IntKind.u64.wrap 0 = 0 := rfl
  clear wr mk
  go_enter Tryz.func115, Tryz.ntmps115
  go_wp2
  go_ret2
  exact ⟨rfl, rfl⟩
set_option maxRecDepth 100000 in
set_option maxHeartbeats 1000000 in
theorem cmul (n : Nat) (hn : n ≤ 48) (w : World) :
    Calls Tryz.prog 103 #[.int .u64 1, .int .u64 n] w fun e w' => e = .returned (.tuple #[.int .u64 0, .int .u64 n]) ∧ w = w' := by
  have w0 : IntKind.u64.wrap (n : Int) = n := by rw [IntKind.wrap_u64]; omega
  have w1 : IntKind.u64.wrap 1 = 1 := rfl
  go_enter Tryz.func103, Tryz.ntmps103
  go_wp2_with fail
  refine (cmul64 n hn w).mono ?_
  rintro e w' ⟨rfl, rfl⟩
  go_wp2_with fail
  go_ret2
  exact ⟨rfl, rfl⟩
def repUp (n k : Nat) (x : Int) : List Int := List.replicate k x ++ List.replicate (n - k) 0
theorem repUp_length (n k : Nat) (x : Int) (h : k ≤ n) : (repUp n k x).length = n := by simp [repUp]; omega
theorem repUp_copy (n k : Nat) (x : Int) (h : k ≤ n) : splice (ints (repUp n k x)) k (ints (List.replicate (min k (n - k)) x)) = ints (repUp n (k + min k (n - k)) x) := by
  unfold splice repUp
  have e1 : (ints (List.replicate k x ++ List.replicate (n - k) 0)).take k = ints (List.replicate k x) := by
    simp [ints, List.take_append]
  have e2 : (ints (List.replicate k x ++ List.replicate (n - k) 0)).drop (k + (ints (List.replicate (min k (n - k)) x)).length) = ints (List.replicate (n - (k + min k (n - k))) 0) := by
    simp [ints, List.drop_append, List.drop_replicate]
    omega
  rw [e1, e2]
  simp only [ints, List.map_append, List.map_replicate]
  rw [← List.append_assoc, List.replicate_append_replicate]
theorem repUp_first (n : Nat) (x : Int) (h : 1 ≤ n) : splice (ints (repUp n 0 x)) 0 (ints [x]) = ints (repUp n 1 x) := by
  unfold splice repUp
  obtain ⟨m, rfl⟩ : ∃ m, n = m + 1 := ⟨n - 1, by omega⟩
  simp [ints, List.replicate_succ]
theorem repUp_get (n k j : Nat) (x : Int) (v : Value) (c : Nat) (hc : c ≤ k) (h : (ints (List.replicate c x))[j]? = some v) : (ints (repUp n k x))[j]? = some v := by
  have hj : j < c := by have := (List.getElem?_eq_some_iff.1 h).1; simpa using this
  rw [ints_get _ j (by simpa using hj)] at h
  rw [ints_get _ j (by simp [repUp]; omega), ← h]
  unfold repUp
  rw [List.getElem_append_left (by simp; omega)]
  simp
set_option maxRecDepth 100000 in
set_option maxHeartbeats 2000000 in
theorem crepeat (v : Value) (x : Int) (n : Nat) (w : World) (h : Has w 1 v 1 (ints [x])) (h1 : 1 ≤ n) (h48 : n ≤ 48) :
    Calls Tryz.prog 84 #[v, .int .i64 n] w fun e w' => ∃ v', e = .returned v' ∧ w'.ownsRow w.heap.size 3 1 v' n (ints (List.replicate n x)) ∧ Below w.heap.size w w' := by
  have mk := fun X => run_mk infoInt Tryz.underlying22 rfl X n (by omega) (by omega)
  obtain ⟨_, a, cap, rfl, _, _, hc⟩ := h
  obtain ⟨b, off, rfl, hcc⟩ := hc (by simp [ints])
  have g0 := hcc 0 _ rfl
  rw [Nat.add_zero] at g0
  have G0 := Lib.hid g0
  have w0 : IntKind.u64.wrap (n : Int) = n := by rw [IntKind.wrap_u64]; omega
  have w1 : IntKind.u64.wrap 1 = 1 := rfl
  have hbl := World.block_lt_of_cell? w _ g0
  have e0 : (List.replicate n (Value.int .i64 0)) = ints (repUp n 0 x) := by rw [zeros_ints]; simp [repUp]
  rw [e0] at mk
  have hl0 := repUp_length n 0 x (Nat.zero_le _)
  have Hl0 := Lib.hid hl0
  clear hc hcc e0 g0 hl0
  generalize hz : ints (repUp n 0 x) = zz at *
  have Hz := Lib.hid hz
  have hzl : zz.length = n := by rw [← hz]; simpa using Hl0.out
  have Hzl := Lib.hid hzl
  clear hz hzl
  go_enter Tryz.func84, Tryz.ntmps84
  go_wp2_with (first | (go_at_call 103; refine (cmul n h48 w).mono ?_; rintro e w' ⟨rfl, rfl⟩) | (with_reducible refine wpList_copy_splice rfl _ _ _ _ rfl 3 Tryz.underlying22 (by kernel_rfl) _ _ _ _ _ _ rfl rfl w.heap.size 0 zz 3 (by exact heap_alloc_new _ _) (ints [x]) ?_ ?_ ?_ ?_ w.heap.size w ((Below.refl _ _).alloc (Nat.le_refl _) _) (Nat.le_refl _) ?_) | fail)
  case refine_1 => show 1 = min 1 n; omega
  case refine_2 =>
    intro j v hj
    match j, hj with
    | 0, hj => simp [ints] at hj; subst hj; exact G0.out
    | j + 1, hj => simp [ints] at hj
  case refine_3 => rw [Hzl.out]; simp; omega
  case refine_4 => intro v hv; simp [ints] at hv; subst hv; rfl
  intro w2 hrow hb2
  have Hrow : Hid (w2.heap[w.heap.size]? = some (.cells (ints (repUp n 1 x)).toArray 3 (0, 0))) := by
    have h := hrow.out
    rw [← Hz.out, repUp_first n x h1] at h
    exact h
  have Hb2 := Lib.hid hb2
  clear hrow hb2 mk w0 w1 Hz Hzl G0
  go_wp2_with fail
  go_loopw [8] (fun c wr => ∃ k : Nat, 1 ≤ k ∧ k ≤ n ∧ c = .int .i64 k ∧ wr.heap[w.heap.size]? = some (.cells (ints (repUp n k x)).toArray 3 (0, 0)) ∧ Below w.heap.size w wr) (fun c _ => n - (intOf c).toNat)
  case atStart => exact ⟨1, by omega, h1, rfl, Hrow.out, Hb2.out⟩
  case round =>
    clear Hrow Hb2
    obtain ⟨k, hk1, hkn, rfl, hrow, hb⟩ := hrel
    have Hrow := Lib.hid hrow
    have Hb := Lib.hid hb
    clear hrow hb
    by_cases hlt : k < n
    · have hnk : ¬ n = k := by omega
      have hcl : (ints (List.replicate (min k (n - k)) x)).length = Nat.min k (n - k) := by rw [ints_length, List.length_replicate]
      have hadd : IntKind.i64.wrap ((k : Int) + ((min k (n - k) : Nat) : Int)) = ((k + min k (n - k) : Nat) : Int) := by rw [IntWalk.i64_in _ (by omega)]; omega
      have Hcp := Lib.hid (repUp_copy n k x hkn)
      have Hget := Lib.hid fun (X : World) (hX : X.heap[w.heap.size]? = some (.cells (ints (repUp n k x)).toArray 3 (0, 0))) (j : Nat) (v : Value) (hj : (ints (List.replicate (min k (n - k)) x))[j]? = some v) => (show X.cell? ((⟨w.heap.size, 0, none⟩ : Addr).add j) = some v by
        rw [addr_add _ _ rfl, Nat.zero_add, cell_of_row X _ _ _ _ _ hX]
        have := repUp_get n k j x v _ (Nat.min_le_left _ _) hj
        simpa using this)
      have hcc : (ints (List.replicate (min k (n - k)) x)).length = min k (n - k) := by simp
      have Hcl := Lib.hid hcl
      have Hcc := Lib.hid hcc
      have Hfit := Lib.hid (show k + (ints (List.replicate (min k (n - k)) x)).length ≤ (ints (repUp n k x)).length by rw [ints_length, ints_length, repUp_length n k x hkn]; simp; omega)
      have Hone := Lib.hid (show ∀ v ∈ ints (List.replicate (min k (n - k)) x), v.oneCell' = true from fun v hv => List.all_eq_true.1 (ints_one _) v hv)
      clear hcl hcc
      generalize ints (repUp n k x) = cur at *
      generalize ints (List.replicate (min k (n - k)) x) = cs at *
      go_wp2_with fail
      go_region_held3 (fun _ => True) (trivial) ((first | (refine step_copy_splice rfl _ _ _ _ (by rfl) 3 Tryz.underlying22 (by kernel_rfl) (some ⟨w.heap.size, k, none⟩) (some ⟨w.heap.size, 0, none⟩) (n - k) (n - k) k n (by rfl) (by rfl) w.heap.size k cur 3 Hrow.out cs Hcl.out (fun _ => ⟨rfl, _, rfl, Hget.out _ Hrow.out⟩) Hfit.out Hone.out w.heap.size w (Below.drew Hb.out) (Nat.le_refl _) ?_; intro w3 hrow3 hb3) | fail))
      have hcc := Hcc.out
      have Hw : Hid (IntKind.i64.wrap ((k : Int) + (cs.length : Int)) = ((k + min k (n - k) : Nat) : Int)) := by rw [hcc]; exact hadd
      have Hrow3 := Lib.hid hrow3.out
      rw [Hcp.out] at Hrow3
      clear hcc hadd hrow3
      go_roundw
      case rel =>
        repeat apply Exists.intro
        refine ⟨⟨k + min k (n - k), by omega, by omega, ?_, Hrow3.out, hb3⟩, rfl⟩
        exact congrArg _ Hw.out
      case measure => rw [Hw.out]; simp [intOf]; omega
    · obtain rfl : k = n := by omega
      have e : repUp k k x = List.replicate k x := by simp [repUp]
      rw [e] at Hrow
      have Hown : Hid (wr.ownsRow w.heap.size 3 1 (.slice (some ⟨w.heap.size, 0, none⟩) k k) k (ints (List.replicate k x))) :=
        ⟨by simp, .inr ⟨_, k, _, rfl, Nat.le_refl _, Hrow.out, Nat.le_refl _, by unfold maxLen; omega, by simp, by simp [ints]⟩⟩
      clear Hrow e
      go_wp2_with fail
      go_ret
      exact ⟨_, rfl, Hown.out, Hb.out⟩
end Go.Proofs.YtjdedflfdlhkdaaGreatDoor

namespace Go.Proofs.YtjdedflfdlhkdaaGreatDoor
open Go.ChangeShapes Go.WideShapes Go.ChangeAt Go.RowKit
set_option linter.unusedVariables false
set_option linter.unusedSimpArgs false

set_option maxRecDepth 100000 in
set_option maxHeartbeats 2000000 in
theorem crepeat0 (v : Value) (x : Int) (w : World) (h : Has w 1 v 1 (ints [x])) :
    Calls Tryz.prog 84 #[v, .int .i64 0] w fun e w' => ∃ v', e = .returned v' ∧ w'.ownsRow w.heap.size 3 1 v' 0 (ints (List.replicate 0 x)) ∧ Below w.heap.size w w' := by
  have mk : ∀ X : World, (Instr.makeSlice 22 (.int .i64 0) (.int .i64 0)).run Tryz.prog X = .ok (.slice (some ⟨X.heap.size, 0, none⟩) 0 0) (X.alloc (.cells #[] 3)) := fun X => run_mk infoInt Tryz.underlying22 rfl X 0 (by omega) (by omega)
  obtain ⟨_, a, cap, rfl, _, _, hc⟩ := h
  obtain ⟨b, off, rfl, hcc⟩ := hc (by simp [ints])
  have g0 := hcc 0 _ rfl
  rw [Nat.add_zero] at g0
  have w0 : IntKind.u64.wrap 0 = 0 := rfl
  have w1 : IntKind.u64.wrap 1 = 1 := rfl
  have hbl := World.block_lt_of_cell? w _ g0
  have CM := Lib.hid (cmul 0 (by omega) w)
  clear hc hcc g0
  go_enter Tryz.func84, Tryz.ntmps84
  go_wp2_with (first | (go_at_call 103; refine CM.out.mono ?_; rintro e w' ⟨rfl, rfl⟩) | (with_reducible refine wpList_copy_splice rfl _ _ _ _ rfl 3 Tryz.underlying22 (by kernel_rfl) _ _ _ _ _ _ rfl rfl w.heap.size 0 [] 3 (by exact heap_alloc_new _ _) [] ?_ ?_ ?_ ?_ w.heap.size w ((Below.refl _ _).alloc (Nat.le_refl _) _) (Nat.le_refl _) ?_) | fail)
  case refine_1 => rfl
  case refine_3 => simp
  case refine_4 => intro v hv; simp at hv
  intro w2 hrow hb2
  have Hrow : Hid (w2.heap[w.heap.size]? = some (.cells #[] 3 (0, 0))) := by
    show _ = _
    have h := hrow.out
    simpa [splice] using h
  have Hb2 := Lib.hid hb2
  clear hrow hb2 mk w0 w1
  go_wp2_with fail
  go_loopw [8] (fun c wr => c = .int .i64 0 ∧ w2 = wr) (fun _ _ => 0)
  case atStart => exact ⟨rfl, rfl⟩
  case round =>
    obtain ⟨rfl, rfl⟩ := hrel
    have Hown : Hid (w2.ownsRow w.heap.size 3 1 (.slice (some ⟨w.heap.size, 0, none⟩) 0 0) 0 (ints (List.replicate 0 x))) :=
      ⟨by simp, .inr ⟨_, 0, _, rfl, Nat.le_refl _, Hrow.out, Nat.le_refl _, by unfold maxLen; omega, by simp, by simp [ints]⟩⟩
    clear Hrow
    go_wp2_with fail
    go_ret
    exact ⟨_, rfl, Hown.out, Hb2.out⟩
theorem crepeatE (v : Value) (x : Int) (n : Nat) (w : World) (h : Has w 1 v 1 (ints [x])) (h48 : n ≤ 48) :
    Calls Tryz.prog 84 #[v, .int .i64 n] w fun e w' => ∃ v', e = .returned v' ∧ w'.ownsRow w.heap.size 3 1 v' n (ints (List.replicate n x)) ∧ Below w.heap.size w w' := by
  by_cases h0 : n = 0
  · subst h0; exact crepeat0 v x w h
  · exact crepeat v x n w h (by omega) h48
theorem recB_lt (F : List (Int × Int)) : ∀ b ∈ recB F, b < 256 := fun b hb => by
  simp only [recB, List.mem_map, List.mem_range] at hb
  obtain ⟨j, _, rfl⟩ := hb
  exact byteOf_lt _ (recBits_bits F) j
theorem cunpackF (v1 vb : Value) (F : List (Int × Int)) (w : World) (hok : FieldsOk F) (h1 : Has w 1 v1 F.length (ints (F.map (·.1)))) (hb : Has w 1 vb (recSize F) (u8s (recB F))) :
    Calls Tryz.prog 85 #[v1, vb] w fun e w' => ∃ v', e = .returned (.tuple #[v', .int .i64 0]) ∧ w'.ownsRow w.heap.size 3 1 v' F.length (ints (F.map (·.2))) ∧ Below w.heap.size w w' := by
  have hbl := recB_length F
  have el : (F.map (·.1)).length = F.length := by simp
  refine (cunpack v1 vb (F.map (·.1)) (recB F) w (by rw [el]; exact h1) hok.ws (by rw [el]; exact hok.1) (by rw [hbl]; exact hb) (recB_lt F) (by
    rw [hbl, wsum_bits F (fun p hp => (hok.2 p hp).1)]
    unfold recSize; omega)).mono ?_
  rintro e w4 ⟨h, hb2⟩
  have hz := rest_back F
  rcases h with ⟨vu, rfl, _, hown⟩ | ⟨_, hnz⟩
  case inr => exact absurd hz hnz
  have hvb := unpack_back F [] (fun p hp => ⟨(hok.2 p hp).2.2.1, (hok.2 p hp).2.2.2⟩)
  have e0 : (recBits ([] : List (Int × Int))).length = 0 := rfl
  rw [List.nil_append, e0] at hvb
  rw [hvb, el] at hown
  exact ⟨vu, rfl, hown, hb2⟩
end Go.Proofs.YtjdedflfdlhkdaaGreatDoor

namespace Go.Proofs.YtjdedflfdlhkdaaGreatDoor
open Go.ChangeShapes Go.WideShapes Go.ChangeAt Go.RowKit
set_option linter.unusedVariables false
set_option linter.unusedSimpArgs false

/-- Has b what a has? -/
def Le (a b : List Ent) : Prop := mergeL b a = b
section
variable {a b c : List Ent}
theorem Le.refl (h : MayL a) : Le a a := mergeL_idem h
theorem Le.trans (ha : MayL a) (hb : MayL b) (hc : MayL c) (h : Le a b) (k : Le b c) : Le a c := by
  unfold Le at *
  rw [← k, mergeL_assoc hc hb ha, h]
theorem Le.left (ha : MayL a) (hb : MayL b) : Le a (mergeL a b) := by
  unfold Le
  rw [mergeL_comm ha hb]
  exact mergeL_absorb hb ha
theorem Le.right (ha : MayL a) (hb : MayL b) : Le b (mergeL a b) := mergeL_absorb ha hb
theorem Le.lub (ha : MayL a) (hb : MayL b) (hc : MayL c) (h : Le a c) (k : Le b c) : Le (mergeL a b) c := by
  unfold Le at *
  rw [← mergeL_assoc hc ha hb, h, k]
theorem Le.anti (ha : MayL a) (hb : MayL b) (h : Le a b) (k : Le b a) : a = b := by
  unfold Le at *
  rw [← k, mergeL_comm ha hb, h]
end
end Go.Proofs.YtjdedflfdlhkdaaGreatDoor

namespace Go.Proofs.YtjdedflfdlhkdaaGreatDoor
open Go.ChangeShapes Go.WideShapes Go.ChangeAt Go.RowKit
set_option linter.unusedVariables false
set_option linter.unusedSimpArgs false

theorem andNot255 (a : Int) (h : 0 ≤ a) (h' : a ≤ 9223372036854775807) : (bits BinOp.andNot IntKind.u64 a 255 == 0) = decide (a ≤ 255) := by
  rw [u64_andNot a 255 h (by omega) (by omega) (by omega)]
  obtain ⟨n, rfl⟩ := Int.eq_ofNat_of_zero_le h
  have e : n &&& (18446744073709551615 - Int.toNat 255) = n % 18446744073709551616 / 256 * 256 := nat_hi64_8 n
  rw [Int.toNat_natCast, e]
  rw [Bool.eq_iff_iff]
  simp only [beq_iff_eq, decide_eq_true_eq]
  omega
theorem lmay (a : Int) (hw : (Lit.int .i64 a).wf = true) (w : World) :
    Calls Tryz.prog 35 #[.int .i64 a] w fun e w' => e = .returned (.bool (decide (0 ≤ a ∧ a ≤ 255))) ∧ w = w' := by
  have hb := wf64_iff.1 hw
  have H := Lib.hid (andNot255 a)
  go_enter Tryz.func35, Tryz.ntmps35
  go_wp2
  all_goals go_ret
  · exact ⟨ret_bool (by rw [H.out (by omega) (by omega)]; simp; omega), rfl⟩
  · exact ⟨ret_bool (by simp; omega), rfl⟩
theorem lmay_true (a : Int) (h0 : 0 ≤ a) (h1 : a ≤ 255) (w : World) :
    Calls Tryz.prog 35 #[.int .i64 a] w fun e w' => e = .returned (.bool true) ∧ w = w' := by
  have := lmay a (wf64_iff.2 (by omega)) w
  rwa [show decide (0 ≤ a ∧ a ≤ 255) = true by simp; omega] at this

/-- The library's IndexFunc and ContainsFunc, where nothing is found. -/
theorem cIxNone {w : World} {v : Value} {l : List Int} (g : Nat) (lb : Array Value) (eg : ∀ args w, (callFunc g args).run Tryz.prog w = .ok (.enter g args) w)
    (hp : ∀ x ∈ l, Calls Tryz.prog g (#[.int .i64 x] ++ lb) w fun e w' => e = .returned (.bool false) ∧ w = w') (h : Has w 1 v l.length (ints l)) :
    Calls Tryz.prog 59 #[v, .func (.func g) #[] lb] w fun e w' => e = .returned (.int .i64 (-1)) ∧ w = w' := by
  have HP := Lib.hid hp
  obtain ⟨⟨hl, _⟩, a, cap, rfl, hn, hm, hc⟩ := h
  unfold maxLen at hm
  have HC := Lib.hid hc
  clear hp hc
  go_enter Tryz.func59, Tryz.ntmps59
  go_wp2_with fail
  go_loopw [5, 8] (fun _ i wr => ∃ k : Nat, k ≤ l.length ∧ i = .int .i64 k ∧ w = wr) (fun _ i _ => l.length - (intOf i).toNat)
  case atStart => exact ⟨0, by omega, rfl, rfl⟩
  case round =>
    obtain ⟨k, hk, rfl, rfl⟩ := hrel
    by_cases hlt : k < l.length
    · have hltz : (k : Int) < (l.length : Int) := by omega
      obtain ⟨b, off, rfl, hcc⟩ := HC.out (by rw [ints_length]; omega)
      have x0 := hcc k _ (ints_get l k hlt)
      have CC := Lib.hid (HP.out l[k] (List.getElem_mem hlt))
      generalize l[k] = y at *
      clear hcc
      go_wp2_with (go_at_fn g; refine CC.out.mono ?_; rintro e w' ⟨rfl, rfl⟩)
      go_roundw
      case rel => exact ⟨k + 1, by omega, by go_num, by first | rfl | trivial⟩
      case measure => simp [intOf]; omega
    · obtain rfl : k = l.length := by omega
      go_wp2
      go_ret
      first | exact ⟨rfl, rfl⟩ | exact ⟨rfl, trivial⟩
set_option maxRecDepth 100000 in
set_option maxHeartbeats 1000000 in
theorem cHasNone {w : World} {v : Value} {l : List Int} (g : Nat) (lb : Array Value) (eg : ∀ args w, (callFunc g args).run Tryz.prog w = .ok (.enter g args) w)
    (hp : ∀ x ∈ l, Calls Tryz.prog g (#[.int .i64 x] ++ lb) w fun e w' => e = .returned (.bool false) ∧ w = w') (h : Has w 1 v l.length (ints l)) :
    Calls Tryz.prog 47 #[v, .func (.func g) #[] lb] w fun e w' => e = .returned (.bool false) ∧ w = w' := by
  have C := Lib.hid (cIxNone g lb eg hp h)
  clear h hp
  go_enter Tryz.func47, Tryz.ntmps47
  go_wp2_with (go_at_call 59; refine C.out.mono ?_; rintro e w' ⟨rfl, rfl⟩)
  go_ret
  exact ⟨rfl, rfl⟩
end Go.Proofs.YtjdedflfdlhkdaaGreatDoor
