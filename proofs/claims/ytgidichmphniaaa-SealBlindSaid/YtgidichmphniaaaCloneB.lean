/- slices.Clone at '[]byte'. No statement of its own. -/
import Derived.Test.YtgidichmphniaaaTag
import Derived.Test.YtgidichmphniaaaEql
import Derived.Test.YtgidichmphniaaaU8
namespace Go.Proofs.Ytgidichmphniaaa
open Go.ChangeShapes Go.WideShapes Go.ChangeAt Go.RowKit
set_option linter.unusedVariables false
set_option maxRecDepth 100000 in
set_option maxHeartbeats 1000000 in
theorem cclone_u8 (v : Value) (n : Nat) (xs : List Value) (w : World) (h : Has w 1 v n xs) (h1 : xs.all Value.oneCell' = true) (hbytes : n * 1 ≤ 140737488355328) :
    Calls Try.prog 18 #[v] w fun e w' => ∃ v', e = .returned v' ∧ w'.ownsRow w.heap.size 5 1 v' n xs ∧ Below w.heap.size w w' := by
  obtain ⟨⟨hl, hnil⟩, a, cap, rfl, hn, hm, hc⟩ := h
  have q := fun w a n c n' c' => eql_nil Try.underlying30 w a n c n' c'
  have H1 := Lib.hid h1
  cases a with
  | none =>
    obtain ⟨rfl, rfl⟩ := hnil _ _ rfl
    obtain rfl : xs = [] := List.eq_nil_of_length_eq_zero (by simpa using hl)
    clear hc hnil hl h1
    go_enter Try.func18, Try.ntmps18
    go_wp2
    go_ret
    exact ⟨_, rfl, World.ownsRow_nil _ _ _ _, Below.refl _ _⟩
  | some a =>
    have Hs : Hid (∀ X, Below w.heap.size w X → Has X 1 (.slice (some a) n cap) n xs) := fun X hX => Has.below ⟨⟨hl, hnil⟩, some a, cap, rfl, hn, hm, hc⟩ hX
    have hn' : 0 + n ≤ maxLen := by omega
    have Hl := Lib.hid hl
    clear hc hnil hl h1
    go_enter Try.func18, Try.ntmps18
    go_wp2_with (at_builtin; refine wp_appN (w0 := w.alloc (.cells #[] 5)) 30 5 1 1 _ elByte Try.underlying30 w.heap.size _ _ _ (World.ownsRow_made w #[] 0 (Nat.le_refl _) (Nat.zero_le _) rfl) (by repeat (first | exact Below.refl _ _ | refine Below.drew ?_ | refine Below.alloc ?_ (by first | (simp; done) | (simp; omega)) _ | refine Below.setCell ?_ (by first | (simp; done) | (simp; omega)) _)) _ _ _ (Hs.out _ ((Below.refl _ _).alloc (Nat.le_refl _) _)) rfl _ _ rfl rfl rfl H1.out (by omega) hn' (by simp) ?_; intro v3 w3 hown3 hgrow3 hb3)
    go_wp2
    go_ret
    exact ⟨_, rfl, by simpa using hown3, ((Below.refl _ w).alloc (Nat.le_refl _) _).trans hb3⟩

end Go.Proofs.Ytgidichmphniaaa
