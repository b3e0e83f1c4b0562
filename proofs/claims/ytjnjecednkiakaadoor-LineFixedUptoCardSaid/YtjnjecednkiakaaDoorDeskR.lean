/- Lines: Read, plainly; Atoi and Split at once. -/
import Derived.Test.YtjnjecednkiakaaDoorDeskI
import Derived.Lib.AppendIntMem
import Derived.Lib.SmallJoins
import Derived.Lib.SplitLaws
namespace Go.Proofs.YtjnjecednkiakaaDoor
open Go.ChangeShapes Go.WideShapes Go.ChangeAt Go.RowKit
set_option linter.unusedVariables false
set_option linter.unusedSimpArgs false

def stK (k : Nat) : Nat → Int := fun o => if o = 0 then 1 + (k : Int) else 0
def readM (l : List UInt8) : Option (Nat → Int) := match spl l with
  | [] => none
  | p :: ps => match findW p with
    | none => none
    | some k => if ps.length = (offsOf k).length then readP (offsOf k) ps (stK k) else none
def outOf (r : Option (Nat → Int)) : Value := match r with
  | some f => .tuple #[stepV f, .int .i64 0]
  | none => .tuple #[stepV fun _ => 0, .int .i64 4]
/-- What the library's listed variables hold. -/
structure LibVars (W : World) : Prop where
  words : WordsVar W
  tab : Lib.TabIs Tryd.prog W "internal/strconv.uint64pow10" .u64 Lib.pow10Tab
  syn : ∃ ev, W.cell? ⟨3, 0, none⟩ = some ev ∧ (ev = .nilIface ∨ ∃ te pe, ev = .iface te pe)
  rng : ∃ ev, W.cell? ⟨4, 0, none⟩ = some ev ∧ (ev = .nilIface ∨ ∃ te pe, ev = .iface te pe)
  mx : ∃ m, W.cell? ⟨6, 0, none⟩ = some (.int .i64 m)
theorem LibVars.below {w w' : World} (h : LibVars w) (hb : Below w.heap.size w w') : LibVars w' := by
  obtain ⟨e1, h1, h1'⟩ := h.syn
  obtain ⟨e2, h2, h2'⟩ := h.rng
  obtain ⟨m, h3⟩ := h.mx
  exact ⟨h.words.below hb, Lib.tabBelow_of_tabIs h.tab w' hb, ⟨e1, cell_on hb h1, h1'⟩, ⟨e2, cell_on hb h2, h2'⟩, ⟨m, cell_on hb h3⟩⟩
theorem atoi_range {l : List UInt8} {v : Int} (h : Lib.atoiAll l = .ok v) : -9223372036854775808 ≤ v ∧ v ≤ 9223372036854775807 := by
  unfold Lib.atoiAll at h
  split at h
  · cases h
  · simp only at h
    split at h
    · cases h
    · cases h
    · split at h
      · cases h
      · split at h
        · cases h
        · simp only [Lib.NumEnd.ok.injEq] at h
          subst h
          split <;> omega
/-- strconv.Atoi at every string. -/
theorem cAtoi (p : ByteArray) (hp : p.size ≤ 281474976710656) (w : World) (hL : LibVars w) :
    Calls Tryd.prog 20 #[.string p] w fun e w' => Below w.heap.size w w' ∧ ((∃ v, e = .returned (.tuple #[.int .i64 v, .nilIface]) ∧ Lib.atoiAll p.data.toList = .ok v) ∨
      (∃ v N, e = .returned (.tuple #[.int .i64 v, .iface 81 (.pointer (some ⟨N, 0, none⟩))]) ∧ ∀ x, Lib.atoiAll p.data.toList ≠ .ok x)) := by
  cases h : Lib.atoiAll p.data.toList with
  | ok v =>
    refine (Tryd.strconv_Atoi_ok p (by omega) v h w).mono ?_
    rintro e w' ⟨rfl, hw⟩
    refine ⟨?_, .inl ⟨v, rfl, rfl⟩⟩
    rcases hw with rfl | ⟨t, rfl⟩
    · exact Below.refl _ _
    · exact Go.Joins.below_bytesWorld _ _ _ _ (Nat.le_refl _)
  | «syntax» =>
    obtain ⟨ev, h1, h2⟩ := hL.syn
    refine (Tryd.strconv_Atoi_syntax p hp h ev w h1 h2).mono ?_
    rintro e w' ⟨N, rfl, _, _, hb⟩
    exact ⟨hb, .inr ⟨_, N, rfl, fun x hx => by cases hx⟩⟩
  | range =>
    obtain ⟨ev, h1, h2⟩ := hL.rng
    refine (Tryd.strconv_Atoi_range p hp h ev w h1 h2).mono ?_
    rintro e w' ⟨N, rfl, _, _, hb⟩
    exact ⟨hb, .inr ⟨_, N, rfl, fun x hx => by cases hx⟩⟩
theorem cItoa (n : Int) (h0 : -9223372036854775808 ≤ n) (h1 : n ≤ 9223372036854775807) (w : World) (hL : LibVars w) :
    Calls Tryd.prog 15 #[.int .i64 n] w fun e w' => e = .returned (.string ⟨(Lib.itoa n).toArray⟩) ∧ Below w.heap.size w w' := by
  refine (Tryd.strconv_Itoa n h0 h1 w hL.tab).mono ?_
  rintro e w' ⟨rfl, q, os, rfl⟩
  exact ⟨rfl, Lib.below_grow _ _ (Nat.le_refl _) q os⟩
/-- Cut at blanks: a row of strings. -/
theorem cSplit (s : ByteArray) (hs : s.size < 4294967281) (w : World) (hL : LibVars w) :
    Calls Tryd.prog 17 #[.string s, .string ⟨#[32]⟩] w fun e w' => e = .returned (.slice (some ⟨w.heap.size, 0, none⟩) (spl s.data.toList).length (spl s.data.toList).length) ∧
      w' = w.alloc (.cells (strs (spl s.data.toList)).toArray 9) := by
  obtain ⟨m, hm⟩ := hL.mx
  refine (Tryd.strings_Split s ⟨#[32]⟩ m w hs hm (by decide)).mono ?_
  rintro e w' ⟨rfl, rfl⟩
  have hl := Lib.splitB_all ⟨#[32]⟩ (by decide) 0 _ s rfl
  have hq := splitB_spl s
  have e1 : (spl s.data.toList).length = Lib.countB s ⟨#[32]⟩ + 1 := by rw [← hq, List.length_map, hl]
  refine ⟨by rw [e1], ?_⟩
  congr 3
  unfold strs
  rw [← hq, List.map_map]
  exact List.map_congr_left fun x _ => by simp
theorem spl_size (l : List UInt8) : (∀ p ∈ spl l, p.length ≤ l.length) ∧ (spl l).length ≤ l.length + 1 := by
  induction l with
  | nil => simp [spl]
  | cons c r ih =>
    obtain ⟨i1, i2⟩ := ih
    unfold spl
    split
    · refine ⟨fun p hp => ?_, by simp; omega⟩
      rcases List.mem_cons.1 hp with rfl | hp
      · simp
      · have := i1 p hp; simp; omega
    · unfold headTo
      split
      · rename_i h; exact absurd h (spl_ne r)
      · rename_i a t h
        rw [h] at i1 i2
        refine ⟨fun p hp => ?_, by simp at *; omega⟩
        rcases List.mem_cons.1 hp with rfl | hp
        · have := i1 a List.mem_cons_self; simp; omega
        · have := i1 p (List.mem_cons_of_mem _ hp); simp; omega
end Go.Proofs.YtjnjecednkiakaaDoor
