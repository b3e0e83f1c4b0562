/- Lines, plainly: what is read is what was shown, and the other way round. -/
import Derived.Test.YtjnjecednkiakaaDoorDeskR
namespace Go.Proofs.YtjnjecednkiakaaDoor
open Go.Lib
set_option linter.unusedVariables false
set_option linter.unusedSimpArgs false

/-- The step of the law. -/
def stepL (x : Nat) (a b c d : Int) : Nat → Int := fun o => if o = 0 then (x : Int) + 1 else match (offsOf x).idxOf? o with
  | some j => [a, b, c, d].getD j 0
  | none => 0
theorem stepL_zero (x : Nat) (hx : x < 11) (a b c d : Int) : stepL x a b c d 0 = (x : Int) + 1 := by simp [stepL]
theorem stepL_none (x : Nat) (a b c d : Int) (o : Nat) (h1 : 1 ≤ o) (h : o ∉ offsOf x) : stepL x a b c d o = 0 := by
  unfold stepL
  rw [if_neg (by omega), List.idxOf?_eq_none_iff.2 h]
theorem stepL_range (x : Nat) (hx : x < 11) (a b c d : Int) (ha : -9223372036854775808 ≤ a ∧ a ≤ 9223372036854775807) (hb : -9223372036854775808 ≤ b ∧ b ≤ 9223372036854775807) (hc : -9223372036854775808 ≤ c ∧ c ≤ 9223372036854775807) (hd : -9223372036854775808 ≤ d ∧ d ≤ 9223372036854775807) (o : Nat) :
    -9223372036854775808 ≤ stepL x a b c d o ∧ stepL x a b c d o ≤ 9223372036854775807 := by
  unfold stepL
  split
  · omega
  · split
    · rename_i j _
      match j with
      | 0 => exact ha
      | 1 => exact hb
      | 2 => exact hc
      | 3 => exact hd
      | j + 4 => simp
    · omega
/-- Reading into fields. -/
theorem fold_at (st0 : Nat → Int) : ∀ (os : List Nat) (st : Nat → Int) (o : Nat), (os.foldl (fun s o => setP s o (st0 o)) st) o = if o ∈ os then st0 o else st o
  | [], st, o => by simp
  | x :: os, st, o => by
    rw [List.foldl_cons, fold_at st0 os]
    by_cases h : o ∈ os
    · simp [h]
    · by_cases e : o = x
      · subst e; simp [setP]
      · simp [h, e, setP]
theorem find_word (x : Nat) (hx : x < 11) : findW (wordOf x) = some x :=
  findW_some hx (by simp) fun j hj => by
    rw [beq_eq_false_iff_ne]
    exact fun e => by have := words_inj j (by omega) x hx e; omega
theorem line_spl (st : Nat → Int) (x : Nat) (hx : x < 11) : spl (lineP st (wordOf x, offsOf x)) = wordOf x :: (offsOf x).map fun o => itoa (st o) :=
  spl_join _ _ (word_ok x hx).1 fun y hy => by
    obtain ⟨o, _, rfl⟩ := List.mem_map.1 hy
    exact itoa_ok _
/-- What was shown is read back. -/
theorem read_line (st : Nat → Int) (hst : ∀ o, -9223372036854775808 ≤ st o ∧ st o ≤ 9223372036854775807) (x : Nat) (hx : x < 11) (h0 : st 0 = (x : Int) + 1) (hz : ∀ o, o < 8 → 1 ≤ o → o ∉ offsOf x → st o = 0) :
    ∃ f, readM (lineP st (wordOf x, offsOf x)) = some f ∧ ∀ o, o < 8 → f o = st o := by
  unfold readM
  rw [line_spl st x hx]
  simp only [find_word x hx, List.length_map, if_true]
  refine ⟨_, readP_line st (offsOf x) (stK x) (fun o _ => hst o), fun o ho => ?_⟩
  rw [fold_at]
  by_cases h : o ∈ offsOf x
  · rw [if_pos h]
  · rw [if_neg h]
    unfold stK
    by_cases e : o = 0
    · subst e; rw [if_pos rfl, h0]; omega
    · rw [if_neg e, hz o ho (by omega) h]
theorem spl_snoc (l : List UInt8) : spl (l ++ [32]) = spl l ++ [[]] := by
  induction l with
  | nil => rfl
  | cons c r ih =>
    show spl (c :: (r ++ [32])) = _
    unfold spl
    split
    · rw [ih]; rfl
    · rw [ih]
      cases h : spl r with
      | nil => exact absurd h (spl_ne r)
      | cons a t => rfl
theorem read_behind (st : Nat → Int) (x : Nat) (hx : x < 11) : readM (lineP st (wordOf x, offsOf x) ++ [32]) = none := by
  unfold readM
  rw [spl_snoc, line_spl st x hx, List.cons_append]
  simp only [find_word x hx, List.length_append, List.length_map, List.length_cons, List.length_nil]
  rw [if_neg (by omega)]
theorem find_nil : findW [] = none := findW_none (by decide)
theorem read_ahead (l : List UInt8) : readM (32 :: l) = none := by
  unfold readM
  have : spl (32 :: l) = [] :: spl l := by conv => lhs; unfold spl; rw [if_pos rfl]
  rw [this]
  simp only [find_nil]
/-- What has been read is written so. -/
theorem readP_back : ∀ (os : List Nat) (ps : List (List UInt8)) (st f : Nat → Int), os.Nodup → ps.length = os.length → readP os ps st = some f → ps = os.map (fun o => itoa (f o)) ∧ ∀ o, o ∉ os → f o = st o
  | [], [], st, f, _, _, h => by
    simp only [readP, Option.some.injEq] at h
    subst h
    exact ⟨rfl, fun _ _ => rfl⟩
  | [], p :: ps, st, f, _, hl, h => by simp at hl
  | o :: os, [], st, f, _, hl, h => by simp at hl
  | o :: os, p :: ps, st, f, hn, hl, h => by
    rw [List.nodup_cons] at hn
    unfold readP at h
    split at h
    · rename_i n hn2
      split at h
      · rename_i hi
        obtain ⟨h1, h2⟩ := readP_back os ps _ f hn.2 (by simpa using hl) h
        refine ⟨?_, fun x hx => ?_⟩
        · rw [List.map_cons, ← h1, h2 o hn.1]
          simp [setP, hi]
        · rw [h2 x (fun h => hx (List.mem_cons_of_mem _ h))]
          unfold setP
          rw [if_neg (fun e : x = o => hx (by rw [e]; exact List.mem_cons_self))]
      · cases h
    · cases h
theorem readP_range : ∀ (os : List Nat) (ps : List (List UInt8)) (st f : Nat → Int), (∀ o, -9223372036854775808 ≤ st o ∧ st o ≤ 9223372036854775807) → readP os ps st = some f → ∀ o, -9223372036854775808 ≤ f o ∧ f o ≤ 9223372036854775807
  | [], ps, st, f, hs, h => by
    simp only [readP, Option.some.injEq] at h
    subst h
    exact hs
  | o :: os, [], st, f, hs, h => by
    simp only [readP, Option.some.injEq] at h
    subst h
    exact hs
  | o :: os, p :: ps, st, f, hs, h => by
    unfold readP at h
    split at h
    · rename_i n hn
      split at h
      · refine readP_range os ps _ f (fun x => ?_) h
        unfold setP
        split
        · exact atoi_range hn
        · exact hs x
      · cases h
    · cases h
theorem read_shown (l : List UInt8) (f : Nat → Int) (h : readM l = some f) :
    ∃ x : Nat, x < 11 ∧ f 0 = (x : Int) + 1 ∧ (∀ o, -9223372036854775808 ≤ f o ∧ f o ≤ 9223372036854775807) ∧ (∀ o, o < 8 → 1 ≤ o → o ∉ offsOf x → f o = 0) ∧ lineP f (wordOf x, offsOf x) = l := by
  unfold readM at h
  split at h
  · cases h
  · rename_i p ps hsp
    split at h
    · cases h
    · rename_i x hf
      split at h
      · rename_i hl
        have hx : x < 11 := by
          have := List.mem_of_find?_eq_some hf
          simpa using this
        have hw : wordOf x = p := by
          have := List.find?_some hf
          simpa using this
        obtain ⟨h1, h2⟩ := readP_back _ ps _ f (offs_ok x hx).2.1 hl h
        refine ⟨x, hx, ?_, readP_range _ _ _ f (fun o => ?_) h, fun o ho h1o hno => ?_, ?_⟩
        · rw [h2 0 (fun h0 => by have := ((offs_ok x hx).1 0 h0).1; omega)]
          simp only [stK, if_true]; omega
        · unfold stK; split <;> omega
        · rw [h2 o hno]
          unfold stK
          rw [if_neg (by omega)]
        · unfold lineP
          simp only
          rw [← h1, hw, ← hsp]
          exact join_spl l
      · cases h
/-- The line of the law. -/
theorem hold_line : ∃ f, readM [104, 111, 108, 100, 32, 49, 32, 48, 32, 45, 55, 32, 51] = some f ∧ f 0 = 3 ∧ f 3 = -7 ∧ f 4 = 3 := by
  have e : ([104, 111, 108, 100, 32, 49, 32, 48, 32, 45, 55, 32, 51] : List UInt8) = lineP (stepL 2 1 0 (-7) 3) (wordOf 2, offsOf 2) := by
    show _ = Lib.join (wordOf 2 :: [itoa 1, itoa 0, itoa (-7), itoa 3]) [32]
    have e1 : itoa 1 = [49] := by unfold itoa; rw [if_neg (by omega)]; exact decDigits_lt 1 (by omega)
    have e2 : itoa 0 = [48] := by unfold itoa; rw [if_neg (by omega)]; exact decDigits_lt 0 (by omega)
    have e3 : itoa (-7) = [45, 55] := by unfold itoa; rw [if_pos (by omega)]; exact congrArg (fun t => (45 : UInt8) :: t) (decDigits_lt 7 (by omega))
    have e4 : itoa 3 = [51] := by unfold itoa; rw [if_neg (by omega)]; exact decDigits_lt 3 (by omega)
    rw [e1, e2, e3, e4]
    rfl
  obtain ⟨f, h1, h2⟩ := read_line (stepL 2 1 0 (-7) 3) (stepL_range 2 (by omega) _ _ _ _ (by omega) (by omega) (by omega) (by omega)) 2 (by omega) (stepL_zero 2 (by omega) _ _ _ _) (fun o _ h h' => stepL_none 2 _ _ _ _ o h h')
  rw [e]
  exact ⟨f, h1, (h2 0 (by omega)).trans rfl, (h2 3 (by omega)).trans rfl, (h2 4 (by omega)).trans rfl⟩
end Go.Proofs.YtjnjecednkiakaaDoor
