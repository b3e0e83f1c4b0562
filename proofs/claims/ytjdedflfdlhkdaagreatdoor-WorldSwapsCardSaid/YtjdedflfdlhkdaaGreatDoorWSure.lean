/- World: the laws' WorldSure. -/
import Derived.Test.YtjdedflfdlhkdaaGreatDoorKav
import Derived.Test.YtjdedflfdlhkdaaGreatDoorWSureL
import Derived.Test.YtjdedflfdlhkdaaGreatDoorSameI
namespace Go.Proofs.YtjdedflfdlhkdaaGreatDoor
open Go.ChangeShapes Go.WideShapes Go.ChangeAt Go.RowKit
set_option linter.unusedVariables false
set_option linter.unusedSimpArgs false

theorem TldsH.all {w : World} {out : Value} {l : List Tld} {sv fv rv : Nat → Value} (h : TldsH w out l sv fv rv) (hpos : 0 < l.length) : ∃ b o cap, out = .slice (some ⟨b, o, none⟩) l.length cap ∧ l.length ≤ cap ∧ cap ≤ maxLen ∧
    ∀ k (hk : k < l.length) j u, j < 11 → (l[k].cells (sv k) (fv k) (rv k))[j]? = some u → w.cell? ⟨b, o + k * 11 + j, none⟩ = some u := by
  obtain ⟨⟨hl0, _⟩, a, cap, rfl, h1, h2, hcc⟩ := h.row
  obtain ⟨b, o, rfl, hcell⟩ := hcc (by rw [hl0]; omega)
  exact ⟨b, o, cap, rfl, h1, h2, fun k hk j u hj hu => by rw [Nat.add_assoc]; exact hcell _ u (by rw [tldsC_get l sv fv rv k j hk hj]; exact hu)⟩
theorem cfgS_ok : cfgS.Ok := ⟨by decide, by decide, by decide, by decide, by decide, by decide, by decide⟩
set_option maxRecDepth 100000 in
set_option maxHeartbeats 8000000 in
theorem cWorldSure (w : World) (hL : OrdVar w) : Calls Tryz.prog 15 #[] w fun e w' => e = .returned (.bool true) ∧ Below w.heap.size w w' := by
  have hb1 : Below w.heap.size w ((w.alloc (.cells #[.int .i64 5] 3)).alloc (.cells #[.int .i64 1, .slice none 0 0, .int .i64 1, .slice (some ⟨w.heap.size, 0, none⟩) 1 1, .int .i64 3] 25)) := ((Below.refl _ _).alloc (Nat.le_refl _) _).alloc (by simp) _
  have hm0 : ((w.alloc (.cells #[.int .i64 5] 3)).alloc (.cells #[.int .i64 1, .slice none 0 0, .int .i64 1, .slice (some ⟨w.heap.size, 0, none⟩) 1 1, .int .i64 3] 25)).heap[w.heap.size]? = some (.cells #[.int .i64 5] 3) := by rw [Below.heap_alloc _ _ _ (by simp), heap_alloc_new]
  have hR : Rdy ((w.alloc (.cells #[.int .i64 5] 3)).alloc (.cells #[.int .i64 1, .slice none 0 0, .int .i64 1, .slice (some ⟨w.heap.size, 0, none⟩) 1 1, .int .i64 3] 25)) cfgS (.slice none 0 0) (.slice (some ⟨w.heap.size, 0, none⟩) 1 1) :=
    ⟨⟨⟨⟨rfl, fun n c h => by simp at h; exact ⟨h.1.symm, h.2.symm⟩⟩, none, 0, rfl, Nat.le_refl _, Nat.zero_le _, fun h => absurd h (by simp [cfgS, labInts, ints])⟩, ⟨⟨rfl, fun n c h => by simp at h⟩, some ⟨w.heap.size, 0, none⟩, 1, rfl, Nat.le_refl _, by decide, fun _ => ⟨w.heap.size, 0, rfl, fun j u hu => by rw [cell_of_row _ _ _ _ _ _ hm0]; simpa [cfgS, ints] using hu⟩⟩⟩,
      fun b off n c h => by simp at h, fun b off n c h => by simp only [Value.slice.injEq, Option.some.injEq, Addr.mk.injEq] at h; obtain ⟨⟨rfl, -, -⟩, -⟩ := h; simp; omega, hL.on hb1 hL.pos⟩
  have HR := Lib.hid hR
  have Hb1 := Lib.hid hb1
  clear hb1 hm0 hR
  go_enter Tryz.func15, Tryz.ntmps15
  go_upto_region 3 with (fail)
  have hc : ((w.alloc (.cells #[.int .i64 5] 3)).alloc (.cells #[.int .i64 1, .slice none 0 0, .int .i64 1, .slice (some ⟨w.heap.size, 0, none⟩) 1 1, .int .i64 3] 25)).heap[w.heap.size + 1]? = some (.cells #[.int .i64 1, .slice none 0 0, .int .i64 1, .slice (some ⟨w.heap.size, 0, none⟩) 1 1, .int .i64 3] 25) := by
    have := heap_alloc_new (w.alloc (.cells #[.int .i64 5] 3)) (.cells #[.int .i64 1, .slice none 0 0, .int .i64 1, .slice (some ⟨w.heap.size, 0, none⟩) 1 1, .int .i64 3] 25)
    simpa using this
  obtain ⟨⟨x0, x1, x2, x3, x4⟩, -⟩ := five_at hc
  have hsz : w.heap.size + 1 + 1 = ((w.alloc (.cells #[.int .i64 5] 3)).alloc (.cells #[.int .i64 1, .slice none 0 0, .int .i64 1, .slice (some ⟨w.heap.size, 0, none⟩) 1 1, .int .i64 3] 25)).heap.size := by simp
  rw [hsz]
  clear hc hsz
  generalize ((w.alloc (.cells #[.int .i64 5] 3)).alloc (.cells #[.int .i64 1, .slice none 0 0, .int .i64 1, .slice (some ⟨w.heap.size, 0, none⟩) 1 1, .int .i64 3] 25)) = W1 at *
  have hb2 : Below W1.heap.size W1 (W1.alloc (.cells (stps stepsS).toArray 48)) := (Below.refl _ _).alloc (Nat.le_refl _) _
  have CP := Lib.hid (cPlayR cfgS_ok (HR.out.on hb2) (.slice (some ⟨W1.heap.size, 0, none⟩) 6 6) stepsS (has_block (wp := W1) (cs := stps stepsS) (heap_alloc_new _ _) rfl rfl (by decide)) (fun b off n' c' hv => by simp only [Value.slice.injEq, Option.some.injEq, Addr.mk.injEq] at hv; obtain ⟨⟨rfl, -, -⟩, -⟩ := hv; simp) (by decide))
  have Hb2 := Lib.hid (Hb1.out.trans (hb2.mono Hb1.out.size))
  replace x0 := cell_on hb2 x0
  replace x1 := cell_on hb2 x1
  replace x2 := cell_on hb2 x2
  replace x3 := cell_on hb2 x3
  replace x4 := cell_on hb2 x4
  have hst : (stps stepsS).toArray = #[.int .i64 1, .int .i64 0, .int .i64 0, .int .i64 2, .int .i64 0, .int .i64 0, .int .i64 0, .int .i64 0, .int .i64 9, .int .i64 0, .int .i64 0, .int .i64 0, .int .i64 0, .int .i64 0, .int .i64 0, .int .i64 0, .int .i64 10, .int .i64 0, .int .i64 0, .int .i64 0, .int .i64 0, .int .i64 0, .int .i64 0, .int .i64 0, .int .i64 9, .int .i64 0, .int .i64 0, .int .i64 0, .int .i64 0, .int .i64 0, .int .i64 0, .int .i64 0, .int .i64 10, .int .i64 0, .int .i64 0, .int .i64 0, .int .i64 0, .int .i64 3, .int .i64 0, .int .i64 0, .int .i64 2, .int .i64 0, .int .i64 0, .int .i64 1, .int .i64 0, .int .i64 0, .int .i64 0, .int .i64 0] := rfl
  rw [hst] at x0 x1 x2 x3 x4 CP Hb2
  have hcf : cfgS.cells (.slice none 0 0) (.slice (some ⟨w.heap.size, 0, none⟩) 1 1) = #[.int .i64 1, .slice none 0 0, .int .i64 1, .slice (some ⟨w.heap.size, 0, none⟩) 1 1, .int .i64 3] := rfl
  rw [hcf] at CP
  clear hb2 hst hcf HR Hb1
  go_wp2_with fail
  refine CP.out.mono ?_
  rintro e w3 ⟨out, sv, fv, rv, rfl, hT, hb3⟩
  have hl6 : (wFold cfgS stepsS).2.length = 6 := by rw [wFold_len]; rfl
  have g1 := sure1
  have g2 := sure2
  have g3 := sure3
  have g4 := sure4
  have g5 := sure5
  have g6 := sure6
  generalize (wFold cfgS stepsS).2 = T at *
  obtain ⟨b, o, cap, rfl, hc1, hc2, hcell⟩ := hT.all (by omega)
  have gd : ∀ k (hk : k < T.length), T.getD k (noT 0) = T[k] := fun k hk => by simp [List.getD_eq_getElem?_getD, hk]
  rw [gd 1 (by omega)] at g1 g2
  rw [gd 4 (by omega)] at g3
  rw [gd 5 (by omega)] at g4 g5 g6
  have y1 := hcell 1 (by omega) 8 (sv 1) (by omega) rfl
  have y2 := hcell 1 (by omega) 10 (rv 1) (by omega) rfl
  have y3 := hcell 4 (by omega) 1 _ (by omega) rfl
  have y4 := hcell 5 (by omega) 0 _ (by omega) rfl
  have y5 := hcell 5 (by omega) 4 _ (by omega) rfl
  have y6 := hcell 5 (by omega) 6 _ (by omega) rfl
  rw [g3] at y3
  rw [g4] at y4
  rw [g5] at y5
  rw [g6] at y6
  have hS := hT.s 1 (by omega)
  have hRp := hT.r 1 (by omega)
  rw [g1] at hS
  rw [g2] at hRp
  obtain ⟨sa, sc, hsv⟩ : ∃ a cap, sv 1 = .slice a 2 cap := by obtain ⟨_, a, cap, he, _⟩ := hS; exact ⟨a, cap, he⟩
  rw [hsv] at y1
  have hb4 : Below w3.heap.size w3 (w3.alloc (.cells #[.int .i64 5] 3)) := (Below.refl _ _).alloc (Nat.le_refl _) _
  have HSI := Lib.hid (csameInts (rv 1) (.slice (some ⟨w3.heap.size, 0, none⟩) 1 1) [5] [5] (w3.alloc (.cells #[.int .i64 5] 3)) (hRp.below hb4) (has_block (wp := w3) (cs := ints [5]) (heap_alloc_new _ _) rfl rfl (by decide)))
  have Hb4 := Lib.hid (Hb2.out.trans ((hb3.trans (hb4.mono hb3.size)).mono Hb2.out.size))
  rw [hl6] at hc1
  rw [hl6]
  have k3 := Lib.hid (fun (Y : World) (hY : Below w3.heap.size w3 Y) => cell_on hY y3)
  have k4 := Lib.hid (fun (Y : World) (hY : Below w3.heap.size w3 Y) => cell_on hY y4)
  have k5 := Lib.hid (fun (Y : World) (hY : Below w3.heap.size w3 Y) => cell_on hY y5)
  have k6 := Lib.hid (fun (Y : World) (hY : Below w3.heap.size w3 Y) => cell_on hY y6)
  have H34 := Lib.hid hb4
  clear hT hb3 hcell gd g1 g2 g3 g4 g5 g6 hS hRp hsv hb4 CP Hb2 x0 x1 x2 x3 x4 y3 y4 y5 y6 hl6
  go_wp2_with fail
  refine HSI.out.mono ?_
  rintro e w5 ⟨rfl, hb5⟩
  have h35 := H34.out.trans (hb5.mono H34.out.size)
  have y3 := k3.out _ h35
  have y4 := k4.out _ h35
  have y5 := k5.out _ h35
  have y6 := k6.out _ h35
  have HB5 := Lib.hid (Hb4.out.trans (hb5.mono Hb4.out.size))
  clear hb5 h35
  go_wp2_with fail
  go_ret
  exact ⟨rfl, HB5.out⟩
end Go.Proofs.YtjdedflfdlhkdaaGreatDoor
