/- PackOrder: the walk. -/
import Derived.Test.YtjinbcbpaoophaaPackLem
import Derived.Test.YtjinbcbpaoophaaOrd
namespace Go.Proofs.Ytjinbcbpaoophaa.packOrder
open Go.ChangeShapes Go.WideShapes Go.ChangeAt Go.RowKit
set_option linter.unusedVariables false

def vals (fs : List (Int × Int)) : List Nat := fs.map fun p => p.2.toNat
theorem val_at (fs : List (Int × Int)) (h : ∀ p ∈ fs, 0 ≤ p.2 ∧ p.2 < 2 ^ p.1.toNat) (k : Nat) (hk : k < fs.length) (hk' : k < (vals fs).length) : fs[k].2 = (((vals fs)[k] : Nat) : Int) := by
  have := h _ (List.getElem_mem hk)
  simp only [vals, List.getElem_map]; omega
theorem ok_vals {fs : List (Int × Int)} (h : FieldsOk fs) : ∀ p ∈ fs, 0 ≤ p.2 ∧ p.2 < 2 ^ p.1.toNat := fun p hp => ⟨(h.2 p hp).2.2.1, (h.2 p hp).2.2.2⟩
set_option maxRecDepth 100000 in
set_option maxHeartbeats 4000000 in
theorem walk (w : World) (v0 : Value) (z0 : List Int) (A0 : Has w 1 v0 z0.length (ints z0) ∧ ∀ z ∈ z0, -9223372036854775808 ≤ z ∧ z ≤ 9223372036854775807)
    (v1 : Value) (z1 : List Int) (A1 : Has w 1 v1 z1.length (ints z1) ∧ ∀ z ∈ z1, -9223372036854775808 ≤ z ∧ z ≤ 9223372036854775807)
    (v2 : Value) (z2 : List Int) (A2 : Has w 1 v2 z2.length (ints z2) ∧ ∀ z ∈ z2, -9223372036854775808 ≤ z ∧ z ≤ 9223372036854775807) :
    Calls Try.prog 7 #[v0, v1, v2] w fun e w' => e = .returned (.bool true) ∧ Below w.heap.size w w' := by
  have hA0 := Lib.hid A0.1; have hA1 := Lib.hid A1.1; have hA2 := Lib.hid A2.1
  clear A0 A1 A2
  have hle := widths_le z0
  obtain ⟨ws, hws⟩ : ∃ ws, ws = widths z0 ++ [5] := ⟨_, rfl⟩
  have hwl : ws.length = (widths z0).length + 1 := by rw [hws]; simp
  have hok : ∀ x ∈ ws, 1 ≤ x ∧ x ≤ 60 := by
    intro x hx
    rw [hws] at hx
    rcases List.mem_append.1 hx with h | h
    · exact widths_ok z0 x h
    · simp at h; omega
  have hwl2 : ws.length ≤ 21 := by omega
  have hwl3 : 1 ≤ ws.length := by omega
  have Hf1 := Lib.hid (fields_ok ws z1 (by omega) hok)
  have Hf2 := Lib.hid (fields_ok ws z2 (by omega) hok)
  have Hok := Lib.hid hok
  have Hws := Lib.hid hws
  have Hwl := Lib.hid hwl
  clear hok hws hwl
  go_enter Try.func7, Try.ntmps7
  go_wp2_with fail
  refine (cwidths v0 z0 w hA0.out).mono ?_
  rintro e w1 ⟨vw, rfl, hown, hb1⟩
  have Hown := Lib.hid hown
  have Hb1 := Lib.hid hb1
  have hsz := hb1.size
  clear hown hb1
  go_wp2_with (at_builtin; refine wp_app1 (w0 := w1) 29 3 1 8 _ elInt Try.underlying29 w.heap.size _ _ _ Hown.out (by repeat (first | exact Below.refl _ _ | refine Below.drew ?_ | refine Below.alloc ?_ (by simp) _ | refine Below.setCell ?_ (by simp) _)) [.int .i64 5] rfl _ _ rfl rfl rfl (by first | exact heap_alloc_new _ _ | (simp only [heap_drew, heap_drewN]; exact heap_alloc_new _ _)) (by simp) rfl rfl (by omega) (by omega) hsz ?_; intro v3 w3 hown3 hgrow3 hb3)
  rw [ints_snoc, ← Hws.out, ← Hwl.out] at hown3
  have Hw := Lib.hid (Has.of_owns hown3)
  have Hb3 := Lib.hid (Hb1.out.trans hb3)
  clear Hown hown3 hgrow3 hb3 Hb1 hsz
  go_wp2_with fail
  refine (cfieldsOf _ v1 ws z1 w3 Hw.out (hA1.out.below Hb3.out) Hok.out (by omega)).mono ?_
  rintro e w4 ⟨vf, rfl, hown, hb2⟩
  obtain ⟨af, capf, rfl⟩ := owns_slice hown
  have Hf := Lib.hid (Has.of_owns hown)
  have Hb4 := Lib.hid (Hb3.out.trans (hb2.mono Hb3.out.size))
  have Hw4 := Lib.hid (Hw.out.below hb2)
  clear hown hb2
  go_wp2_with fail
  refine (cfieldsOf _ v2 ws z2 w4 Hw4.out (hA2.out.below Hb4.out) Hok.out (by omega)).mono ?_
  rintro e w5 ⟨vg, rfl, hown, hb2⟩
  obtain ⟨ag, capg, rfl⟩ := owns_slice hown
  have Hg5 := Lib.hid (Has.of_owns hown)
  have Hb5 := Lib.hid (Hb4.out.trans (hb2.mono Hb4.out.size))
  have Hf5 := Lib.hid (Hf.out.below hb2)
  clear hown hb2
  go_wp2_with fail
  refine (cpack _ _ w5 Hf5.out Hf1.out).mono ?_
  rintro e w6 ⟨vp, rfl, hown, hb2⟩
  obtain ⟨a1, cap1, rfl⟩ := owns_slice hown
  have Hp := Lib.hid (Has.of_owns hown)
  have Hb6 := Lib.hid (Hb5.out.trans (hb2.mono Hb5.out.size))
  have Hf6 := Lib.hid (Hf5.out.below hb2)
  have Hg6 := Lib.hid (Hg5.out.below hb2)
  clear hown hb2
  go_wp2_with fail
  refine (cpack _ _ w6 Hg6.out Hf2.out).mono ?_
  rintro e w7 ⟨vq, rfl, hown, hb2⟩
  obtain ⟨a2, cap2, rfl⟩ := owns_slice hown
  have Hq7 := Lib.hid (Has.of_owns hown)
  have Hb7 := Lib.hid (Hb6.out.trans (hb2.mono Hb6.out.size))
  have Hf7 := Lib.hid (Hf6.out.below hb2)
  have Hg7 := Lib.hid (Hg6.out.below hb2)
  have Hp7 := Lib.hid (Hp.out.below hb2)
  clear hown hb2 Hf6 Hg6 Hp Hf5 Hg5 Hf Hw4 Hw hA0 hA1 hA2 Hb3 Hb4 Hb5 Hb6
  have Hcmp := Lib.hid (cmp_records (fieldsOf ws z1) (fieldsOf ws z2) (by rw [fields_map, fields_map]) (ok_vals Hf1.out) (ok_vals Hf2.out))
  have hs12 : recSize (fieldsOf ws z2) = recSize (fieldsOf ws z1) := size_fields ws z2 z1
  have hs0 := size_zero ws z1 Hok.out
  have hs1 : 1 ≤ recSize (fieldsOf ws z1) := by omega
  have hl1 := fieldsOf_length ws z1
  have hl2 := fieldsOf_length ws z2
  have hl3 := recB_length (fieldsOf ws z1)
  have hl4 := recB_length (fieldsOf ws z2)
  have hrs := recSize_le _ Hf1.out
  rw [hs12] at hl4
  rw [hs12] at Hq7 ⊢
  clear hs0 hs12
  rw [hl1] at Hf7
  rw [hl2] at Hg7
  rw [hl1, hl2]
  have hv1 : (vals (fieldsOf ws z1)).length = ws.length := by simp [vals, hl1]
  have hv2 : (vals (fieldsOf ws z2)).length = ws.length := by simp [vals, hl2]
  have V1 := Lib.hid (val_at _ (ok_vals Hf1.out))
  have V2 := Lib.hid (val_at _ (ok_vals Hf2.out))
  have HC : Hid (cmpN (recB (fieldsOf ws z1)) (recB (fieldsOf ws z2)) = cmpN (vals (fieldsOf ws z1)) (vals (fieldsOf ws z2))) := Hcmp.out
  clear Hcmp Hf1 Hf2 Hok
  generalize fieldsOf ws z1 = fs at *
  generalize fieldsOf ws z2 = gs at *
  generalize recSize fs = n at *
  obtain ⟨_, _, _, he, _, _, hc1⟩ := Hf7.out
  simp only [Value.slice.injEq] at he
  obtain ⟨rfl, -, rfl⟩ := he
  obtain ⟨_, _, _, he, _, _, hc2⟩ := Hg7.out
  simp only [Value.slice.injEq] at he
  obtain ⟨rfl, -, rfl⟩ := he
  obtain ⟨_, _, _, he, _, _, hc3⟩ := Hp7.out
  simp only [Value.slice.injEq] at he
  obtain ⟨rfl, -, rfl⟩ := he
  obtain ⟨_, _, _, he, _, _, hc4⟩ := Hq7.out
  simp only [Value.slice.injEq] at he
  obtain ⟨rfl, -, rfl⟩ := he
  obtain ⟨b1, o1, rfl, hd1⟩ := hc1 (by simp; omega)
  obtain ⟨b2, o2, rfl, hd2⟩ := hc2 (by simp; omega)
  obtain ⟨b3, o3, rfl, hd3⟩ := hc3 (by simp [recBytes]; omega)
  obtain ⟨b4, o4, rfl, hd4⟩ := hc4 (by simp [recBytes]; omega)
  have C1 := Lib.hid hd1; have C2 := Lib.hid hd2; have C3 := Lib.hid hd3; have C4 := Lib.hid hd4
  clear hd1 hd2 hd3 hd4 hc1 hc2 hc3 hc4 Hf7 Hg7 Hp7 Hq7
  have Hl1 := Lib.hid hl1; have Hl2 := Lib.hid hl2; have Hl3 := Lib.hid hl3; have Hl4 := Lib.hid hl4; have Hv1 := Lib.hid hv1; have Hv2 := Lib.hid hv2
  clear hl1 hl2 hl3 hl4 hv1 hv2
  go_wp2_with fail
  go_loopw [14, 15] (fun c i wr => ∃ k : Nat, k ≤ ws.length ∧ i = .int .i64 ((k : Int) - 1) ∧ c = .int .i64 (cmpN ((vals fs).drop k) ((vals gs).drop k)) ∧ Below w7.heap.size w7 wr) (fun _ i _ => (intOf i + 1).toNat)
  case atStart => exact ⟨ws.length, Nat.le_refl _, rfl, congrArg _ (by have := Hv1.out; have := Hv2.out; rw [List.drop_of_length_le (by omega)]; rfl), Below.refl _ _⟩
  case round =>
    obtain ⟨k, hk, rfl, rfl, hb⟩ := hrel
    have Hb := Lib.hid hb
    clear hb
    rcases k with _ | k
    · rw [show (((0 : Nat) : Int) - 1) = -1 from rfl]
      rw [List.drop_zero, List.drop_zero]
      rename World => wb
      have Hbb := Hb
      clear Hb
      go_wp2_with fail
      go_loopw [16, 17] (fun c i wr => ∃ k : Nat, k ≤ n ∧ i = .int .i64 ((k : Int) - 1) ∧ c = .int .i64 (cmpN ((recB fs).drop k) ((recB gs).drop k)) ∧ Below wb.heap.size wb wr) (fun _ i _ => (intOf i + 1).toNat)
      case atStart => exact ⟨n, Nat.le_refl _, rfl, congrArg _ (by have := Hl3.out; have := Hl4.out; rw [List.drop_of_length_le (by omega)]; rfl), Below.refl _ _⟩
      case round =>
        obtain ⟨k, hk, rfl, rfl, hb⟩ := hrel
        have Hb := Lib.hid hb
        clear hb
        rcases k with _ | k
        · rw [show (((0 : Nat) : Int) - 1) = -1 from rfl]
          have hc := HC.out
          rw [List.drop_zero, List.drop_zero]
          have hb7 := Hb7.out.trans ((Hbb.out.mono Hb7.out.size).trans (Hb.out.mono (Nat.le_trans Hb7.out.size Hbb.out.size)))
          have HB := Lib.hid hb7
          rw [hc]
          clear hc hb7
          go_wp2
          go_ret
          exact ⟨rfl, HB.out⟩
        · have hk1 : k < (recB fs).length := by have := Hl3.out; omega
          have hk2 : k < (recB gs).length := by have := Hl4.out; omega
          have Hd := Lib.hid (cmpN_drop (recB fs) (recB gs) k hk1 hk2)
          rw [show (((k + 1 : Nat) : Int) - 1) = (k : Int) by omega]
          have g1 := cell_on Hb.out (cell_on Hbb.out (C3.out _ _ (u8s_get (recB fs) k hk1)))
          have g2 := cell_on Hb.out (cell_on Hbb.out (C4.out _ _ (u8s_get (recB gs) k hk2)))
          generalize hx : (recB fs)[k] = x at *
          generalize hy : (recB gs)[k] = y at *
          clear hx hy
          generalize cmpN ((recB fs).drop (k + 1)) ((recB gs).drop (k + 1)) = c0 at *
          by_cases h1 : x < y
          · have d1 : decide (x < y) = true := by simp; omega
            have d2 : decide (y < x) = false := by simp; omega
            rw [if_pos h1] at Hd
            clear h1
            go_wp2
            go_quiet (fail)
            go_wp2
            go_roundw
            case rel => exact ⟨k, by omega, rfl, by rw [Hd.out], below_drewN Hb.out _⟩
            case measure => simp [intOf]
          · by_cases h2 : x > y
            · rw [if_neg h1, if_pos h2] at Hd
              have d1 : decide (x < y) = false := by simp; omega
              have d2 : decide (y < x) = true := by simp; omega
              clear h2
              clear h1
              go_wp2
              go_quiet (fail)
              go_wp2
              go_quiet (fail)
              go_wp2
              go_roundw
              case rel => exact ⟨k, by omega, rfl, by rw [Hd.out], below_drewN Hb.out _⟩
              case measure => simp [intOf]
            · rw [if_neg h1, if_neg h2] at Hd
              have d1 : decide (x < y) = false := by simp; omega
              have d2 : decide (y < x) = false := by simp; omega
              clear h2
              clear h1
              go_wp2
              go_quiet (fail)
              go_wp2
              go_quiet (fail)
              go_wp2
              go_roundw
              case rel => exact ⟨k, by omega, rfl, by rw [Hd.out], below_drewN Hb.out _⟩
              case measure => simp [intOf]
    · have hk1 : k < (vals fs).length := by have := Hv1.out; omega
      have hk2 : k < (vals gs).length := by have := Hv2.out; omega
      have Hd := Lib.hid (cmpN_drop (vals fs) (vals gs) k hk1 hk2)
      rw [show (((k + 1 : Nat) : Int) - 1) = (k : Int) by omega]
      have g1 := by have h := cell_on Hb.out (C1.out _ _ (flds_get1 fs k (by have := Hl1.out; have := Hv1.out; omega))); rw [V1.out k _ hk1, ← Nat.add_assoc] at h; exact h
      have g2 := by have h := cell_on Hb.out (C2.out _ _ (flds_get1 gs k (by have := Hl2.out; have := Hv2.out; omega))); rw [V2.out k _ hk2, ← Nat.add_assoc] at h; exact h
      generalize hx : (vals fs)[k] = x at *
      generalize hy : (vals gs)[k] = y at *
      clear hx hy
      generalize cmpN ((vals fs).drop (k + 1)) ((vals gs).drop (k + 1)) = c0 at *
      by_cases h1 : x < y
      · have d1 : decide (x < y) = true := by simp; omega
        have d2 : decide (y < x) = false := by simp; omega
        rw [if_pos h1] at Hd
        clear h1
        go_wp2
        go_quiet (fail)
        go_wp2
        go_roundw
        case rel => exact ⟨k, by omega, rfl, by rw [Hd.out], below_drewN Hb.out _⟩
        case measure => simp [intOf]
      · by_cases h2 : x > y
        · rw [if_neg h1, if_pos h2] at Hd
          have d1 : decide (x < y) = false := by simp; omega
          have d2 : decide (y < x) = true := by simp; omega
          clear h2
          clear h1
          go_wp2
          go_quiet (fail)
          go_wp2
          go_quiet (fail)
          go_wp2
          go_roundw
          case rel => exact ⟨k, by omega, rfl, by rw [Hd.out], below_drewN Hb.out _⟩
          case measure => simp [intOf]
        · rw [if_neg h1, if_neg h2] at Hd
          have d1 : decide (x < y) = false := by simp; omega
          have d2 : decide (y < x) = false := by simp; omega
          clear h2
          clear h1
          go_wp2
          go_quiet (fail)
          go_wp2
          go_quiet (fail)
          go_wp2
          go_roundw
          case rel => exact ⟨k, by omega, rfl, by rw [Hd.out], below_drewN Hb.out _⟩
          case measure => simp [intOf]
end Go.Proofs.Ytjinbcbpaoophaa.packOrder
