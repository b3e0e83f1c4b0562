/- Lines: the search for a line's word. -/
import Derived.Test.YtjnjecednkiakaaDoorDeskB
import Derived.BigQuiet
namespace Go.Proofs.YtjnjecednkiakaaDoor
open Go.ChangeShapes Go.WideShapes Go.ChangeAt Go.RowKit
set_option linter.unusedVariables false
set_option linter.unusedSimpArgs false

/-- The first word that is this one. -/
def findW (p : List UInt8) : Option Nat := (List.range 11).find? fun k => wordOf k == p
def ixW (p : List UInt8) : Int := match findW p with
  | some k => (k : Int)
  | none => -1
theorem findW_some {p : List UInt8} {k : Nat} (hk : k < 11) (h : (wordOf k == p) = true) (hj : ∀ j, j < k → (wordOf j == p) = false) : findW p = some k := by
  unfold findW
  rw [List.find?_range_eq_some]
  exact ⟨h, by simpa using hk, fun j hjk => by rw [hj j hjk]; rfl⟩
theorem findW_none {p : List UInt8} (hj : ∀ j, j < 11 → (wordOf j == p) = false) : findW p = none := by
  unfold findW
  rw [List.find?_range_eq_none]
  intro j hjk
  rw [hj j hjk]; rfl
set_option maxRecDepth 100000 in
set_option maxHeartbeats 4000000 in
theorem cRd1 (a b p : ByteArray) (pb g n : Nat) (X : World) (hn : 0 < n) (hp : X.cell? ⟨pb, 0, none⟩ = some (.slice (some ⟨g, 0, none⟩) n n)) (hg : X.cell? ⟨g, 0, none⟩ = some (.string p)) :
    Calls Tryd.prog 19 #[.agg #[.string a, .string b], .pointer (some ⟨pb, 0, none⟩)] X fun e w' => e = .returned (.bool (a.data.toList == p.data.toList)) ∧ Below X.heap.size X w' := by
  have h1 : pb < X.heap.size := World.block_lt_of_cell? X _ hp
  have h2 : g < X.heap.size := World.block_lt_of_cell? X _ hg
  have hnz : (0 : Int) < (n : Int) := by omega
  go_enter Tryd.func19, Tryd.ntmps19
  go_upto_region 1 with (fail)
  go_quiet (fail)
  go_wp2_with fail
  go_ret
  refine ⟨?_, ((Below.refl _ _).alloc (Nat.le_refl _) _).trans ⟨rfl, rfl, rfl, Nat.le_refl _, fun _ _ => rfl⟩⟩
  rw [← ByteArray.toList_eq, ← ByteArray.toList_eq]
  rfl
set_option maxRecDepth 100000 in
set_option maxHeartbeats 8000000 in
/-- The library's IndexFunc over the words, the closure Read$1. -/
theorem cIndexW (p : ByteArray) (pb g n : Nat) (w : World) (hW : WordsVar w) (hn : 0 < n) (hp : w.cell? ⟨pb, 0, none⟩ = some (.slice (some ⟨g, 0, none⟩) n n)) (hg : w.cell? ⟨g, 0, none⟩ = some (.string p)) :
    Calls Tryd.prog 18 #[.slice (some ⟨0, 0, none⟩) 11 11, .func (.func 19) #[] #[.pointer (some ⟨pb, 0, none⟩)]] w fun e w' => e = .returned (.int .i64 (ixW p.data.toList)) ∧ Below w.heap.size w w' := by
  have HW := Lib.hid hW
  have HCL : Hid (∀ (a b : ByteArray) (X : World), Below w.heap.size w X → Calls Tryd.prog 19 #[.agg #[.string a, .string b], .pointer (some ⟨pb, 0, none⟩)] X fun e w' => e = .returned (.bool (a.data.toList == p.data.toList)) ∧ Below X.heap.size X w') :=
    fun a b X hX => cRd1 a b p pb g n X hn (cell_on hX hp) (cell_on hX hg)
  clear hW hp hg hn
  go_enter Tryd.func18, Tryd.ntmps18
  go_wp2_with fail
  go_loopw [5, 8] (fun _ i wr => ∃ k : Nat, k ≤ 11 ∧ i = .int .i64 k ∧ Below w.heap.size w wr ∧ Hid (∀ j, j < k → (wordOf j == p.data.toList) = false)) (fun _ i _ => 11 - (intOf i).toNat)
  case atStart => exact ⟨0, by omega, rfl, Below.refl _ _, fun j h => absurd h (by omega)⟩
  case round =>
    obtain ⟨k, hk, rfl, hb, hall⟩ := hrel
    have HB := Lib.hid hb
    by_cases hlt : k < 11
    · obtain ⟨x0, x1⟩ := HW.out k hlt
      replace x0 := cell_on hb x0
      replace x1 := cell_on hb x1
      have CC := Lib.hid (HCL.out ⟨(wordOf k).toArray⟩ ⟨(ltrsOf k).toArray⟩ wr hb)
      have hltz : (k : Int) < 11 := by omega
      have HLT := Lib.hid hlt
      clear hb hlt hk
      cases hq : wordOf k == p.data.toList with
      | true =>
        simp only [List.toList_toArray, hq] at CC
        go_wp2_with fail
        refine CC.out.mono ?_
        rintro e w' ⟨rfl, hb'⟩
        have HB' := Lib.hid hb'
        clear hb'
        go_wp2_with fail
        go_ret
        refine ⟨?_, HB.out.trans (HB'.out.mono HB.out.size)⟩
        unfold ixW
        rw [findW_some HLT.out hq hall.out]
        rfl
      | false =>
        simp only [List.toList_toArray, hq] at CC
        go_wp2_with fail
        refine CC.out.mono ?_
        rintro e w' ⟨rfl, hb'⟩
        have HB' := Lib.hid hb'
        clear hb'
        go_wp2_with fail
        go_roundw
        case rel =>
          refine ⟨k + 1, HLT.out, by go_num, HB.out.trans (HB'.out.mono HB.out.size), fun j hjk => ?_⟩
          by_cases ejk : j = k
          · subst ejk; exact hq
          · exact hall.out j (by omega)
        case measure => have := HLT.out; first | (simp [intOf]; done) | (simp [intOf]; omega)
    · obtain rfl : k = 11 := by omega
      go_wp2_with fail
      go_ret
      refine ⟨?_, HB.out⟩
      unfold ixW
      rw [findW_none hall.out]
      rfl
end Go.Proofs.YtjnjecednkiakaaDoor
