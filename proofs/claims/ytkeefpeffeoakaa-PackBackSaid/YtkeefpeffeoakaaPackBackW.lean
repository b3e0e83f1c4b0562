/- PackBack: the walk. -/
import Derived.Test.YtkeefpeffeoakaaPackBackL
namespace Go.Proofs.Ytkeefpeffeoakaa.packBack
open Go.ChangeShapes Go.WideShapes Go.ChangeAt Go.RowKit
set_option linter.unusedVariables false

theorem u8_bytes (fs : List (Int × Int)) : ∀ b ∈ recB fs, b < 256 := by
  intro b hb
  simp only [recB, List.mem_map] at hb
  obtain ⟨j, _, rfl⟩ := hb
  exact byteOf_lt _ (recBits_bits fs) j
theorem has_blk {wx wp : World} {m n sz : Nat} {cs : List Value} {e : TypeId} (hnew : wx.heap[wp.heap.size]? = some (.cells cs.toArray e (0, 0))) (hm : m = wp.heap.size) (hl : cs.length = n * sz) (hn : n ≤ maxLen) :
    Has wx sz (.slice (some ⟨m, 0, none⟩) n n) n cs := by
  subst hm
  refine ⟨⟨hl, fun n cap h => by simp at h⟩, _, n, rfl, Nat.le_refl _, hn, fun _ => ⟨_, 0, rfl, fun j u hu => ?_⟩⟩
  rw [cell_of_row wx _ _ _ _ _ hnew]; simpa using hu
theorem owns_some {w : World} {base e sz n : Nat} {v : Value} {xs : List Value} (h : w.ownsRow base e sz v n xs) (hn : 0 < n) : ∃ g cap, v = .slice (some ⟨g, 0, none⟩) n cap ∧ base ≤ g ∧ g < w.heap.size ∧ (∀ j, w.frozen? ⟨g, j, none⟩ = false) ∧ ∀ j u, xs[j]? = some u → w.cell? ⟨g, j, none⟩ = some u := by
  obtain ⟨hl, h⟩ := h
  rcases h with ⟨_, h⟩ | ⟨g, cap, cur, rfl, hg, hh, hn', hm, hs, ht⟩
  · omega
  · refine ⟨g, cap, rfl, hg, (Array.getElem?_eq_some_iff.1 hh).1, fun j => by simp [World.frozen?, hh], fun j u hu => ?_⟩
    rw [cell_of_row w g j _ _ _ hh]
    rw [← ht, List.getElem?_take] at hu
    split at hu
    · simpa using hu
    · cases hu
theorem one_fields : FieldsOk [(3, 5)] := ⟨by decide, fun p hp => by simp at hp; subst hp; decide⟩
theorem one_bytes : recB [(3, 5)] = [160] := by decide
theorem vals_back (fs : List (Int × Int)) (h : FieldsOk fs) : unpackV (recB fs) 0 (fs.map (·.1)) = fs.map (·.2) := by
  have := unpack_back fs [] fun p hp => ⟨(h.2 p hp).2.2.1, (h.2 p hp).2.2.2⟩
  simpa [recBits] using this
set_option maxRecDepth 100000 in
set_option maxHeartbeats 4000000 in
theorem walk (w : World) (v0 : Value) (z0 : List Int) (A0 : Has w 1 v0 z0.length (ints z0) ∧ ∀ z ∈ z0, -9223372036854775808 ≤ z ∧ z ≤ 9223372036854775807)
    (v1 : Value) (z1 : List Int) (A1 : Has w 1 v1 z1.length (ints z1) ∧ ∀ z ∈ z1, -9223372036854775808 ≤ z ∧ z ≤ 9223372036854775807) :
    Calls Try.prog 4 #[v0, v1] w fun e w' => e = .returned (.bool true) ∧ Below w.heap.size w w' := by
  have hA0 := Lib.hid A0.1; have hA1 := Lib.hid A1.1
  clear A0 A1
  have Hok := Lib.hid (widths_ok z0)
  have hle := widths_le z0
  have Hf1 := Lib.hid (fields_ok (widths z0) z1 (by omega) Hok.out)
  go_enter Try.func4, Try.ntmps4
  go_wp2_with fail
  refine (cwidths v0 z0 w hA0.out).mono ?_
  rintro e w1 ⟨vw, rfl, hown, hb1⟩
  obtain ⟨a, cap, rfl⟩ := owns_slice hown
  have Hw := Lib.hid (Has.of_owns hown)
  have Hb1 := Lib.hid hb1
  clear hown hb1
  go_wp2_with fail
  refine (cfieldsOf _ v1 (widths z0) z1 w1 Hw (hA1.out.below Hb1.out) Hok.out (by omega)).mono ?_
  rintro e w2 ⟨vf, rfl, hown, hb2⟩
  obtain ⟨af, capf, rfl⟩ := owns_slice hown
  have Hf := Lib.hid (Has.of_owns hown)
  have Hb2 := Lib.hid (Hb1.out.trans (hb2.mono Hb1.out.size))
  have Hw2 := Lib.hid (Hw.out.below hb2)
  clear hown hb2 Hb1 Hw
  have hmap := fields_map (widths z0) z1
  have hfl := fieldsOf_length (widths z0) z1
  generalize fieldsOf (widths z0) z1 = fs at *
  have Hmap := Lib.hid hmap
  have Hfl := Lib.hid hfl
  clear hmap hfl
  have hfl20 : fs.length ≤ 20 := by have := Hfl.out; omega
  go_wp2_with fail
  refine (cpack _ fs w2 Hf.out Hf1.out).mono ?_
  rintro e w3 ⟨vp, rfl, hown, hb2⟩
  have Hp := Lib.hid (Has.of_owns hown)
  have Hb3 := Lib.hid (Hb2.out.trans (hb2.mono Hb2.out.size))
  have Hw3 := Lib.hid (Hw2.out.below hb2)
  have Hf3 := Lib.hid (Hf.out.below hb2)
  clear hown hb2 Hb2 Hw2 Hf
  go_wp2_with fail
  have hbl := recB_length fs
  have hus := cunpack _ vp (widths z0) (recB fs) w3 Hw3.out Hok.out (by omega) (by rw [hbl]; exact Hp.out) (u8_bytes fs) (by
    rw [hbl]
    have e := wsum_bits fs (fun p hp => (Hf1.out.2 p hp).1)
    rw [Hmap.out] at e
    rw [e]; unfold recSize; omega)
  refine hus.mono ?_
  clear hus hbl
  rintro e w4 ⟨h, hb2⟩
  have hz := rest_back fs
  rw [Hmap.out] at hz
  rcases h with ⟨vu, rfl, _, hown⟩ | ⟨_, hnz⟩
  case inr => exact absurd hz hnz
  have hvb := vals_back fs Hf1.out
  rw [Hmap.out] at hvb
  rw [hvb, ← Hfl.out] at hown
  obtain ⟨au, capu, rfl⟩ := owns_slice hown
  have Hu := Lib.hid (Has.of_owns hown)
  have Hb4 := Lib.hid (Hb3.out.trans (hb2.mono Hb3.out.size))
  have Hf4 := Lib.hid (Hf3.out.below hb2)
  clear hown hb2 Hb3 Hw3 Hf3 hz hvb Hp Hf1
  obtain ⟨_, ad, cap, he, _, _, hc⟩ := Hu.out
  simp only [Value.slice.injEq] at he
  obtain ⟨rfl, -, rfl⟩ := he
  have HcU := Lib.hid hc
  obtain ⟨_, ad, cap, he, _, _, hc'⟩ := Hf4.out
  simp only [Value.slice.injEq] at he
  obtain ⟨rfl, -, rfl⟩ := he
  have HcF := Lib.hid hc'
  clear hc hc' Hu Hf4
  go_wp2_with fail
  go_loopw [11] (fun i wr => ∃ k : Nat, k ≤ fs.length ∧ i = .int .i64 k ∧ Below w4.heap.size w4 wr) (fun i _ => fs.length - (intOf i).toNat)
  case atStart => exact ⟨0, by omega, rfl, Below.refl _ _⟩
  case round =>
    obtain ⟨k, hk, rfl, hb⟩ := hrel
    have Hb := Lib.hid hb
    clear hb
    by_cases hlt : k < fs.length
    · obtain ⟨b1, o1, rfl, h1⟩ := HcU.out (by simp; omega)
      obtain ⟨b2, o2, rfl, h2⟩ := HcF.out (by simp; omega)
      have g1 := cell_on Hb.out (h1 k (.int .i64 fs[k].2) (by rw [ints_get _ k (by simpa using hlt)]; simp))
      have g2 := cell_on Hb.out (h2 _ _ (flds_get1 fs k hlt))
      rw [← Nat.add_assoc] at g2
      have hne : (fs[k].2 != fs[k].2) = false := by simp
      generalize fs[k].2 = x at *
      clear h1 h2
      go_wp2_with fail
      go_quiet (fail)
      go_wp2_with fail
      go_roundw
      case rel => exact ⟨k + 1, by omega, by go_num, below_drewN Hb.out _⟩
      case measure => simp [intOf]; omega
    · clear HcU HcF
      go_wp2_with fail
      refine (cpack _ [(3, 5)] _ (has_blk (by exact heap_alloc_new _ _) rfl (by decide) (by decide)) one_fields).mono ?_
      rintro e w5 ⟨vo, rfl, hown, hb2⟩
      have hown' : w5.ownsRow (wr.alloc (.cells #[.int .i64 3, .int .i64 5] 37)).heap.size 5 1 vo 1 [.int .u8 160] := hown
      obtain ⟨g, co, rfl, -, -, -, hgc⟩ := owns_some hown' (by decide)
      have o1 := hgc 0 _ rfl
      have HB : Hid (Below w.heap.size w w5) := by
        have h1 := Hb4.out.trans (Hb.out.mono Hb4.out.size)
        exact (h1.alloc h1.size (.cells #[.int .i64 3, .int .i64 5] 37)).trans (hb2.mono (Nat.le_trans h1.size (by simp)))
      clear hown hown' hgc hb2
      go_wp2_with fail
      go_ret
      exact ⟨rfl, HB.out⟩
end Go.Proofs.Ytkeefpeffeoakaa.packBack
