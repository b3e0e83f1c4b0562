/- sort.Search; Split. -/
import Derived.Test.YtkodpijedinanaaShare
namespace Go.Proofs.Ytkodpijedinanaa
open Go.ChangeShapes Go.WideShapes Go.ChangeAt Go.RowKit
set_option linter.unusedVariables false

set_option maxRecDepth 100000 in
set_option maxHeartbeats 1000000 in
/-- sort.Search over a predicate that is handed as a closure over two variables. -/
theorem csearch (b3 b2 : Nat) (F : Int → Bool) (n : Int) (w : World) (hn0 : 0 ≤ n) (hn : n ≤ 1048577)
    (hF : ∀ (x : Int) (X : World), 0 ≤ x → x < n → Below w.heap.size w X → Calls Try.prog 26 #[.int .i64 x, .pointer (some ⟨b3, 0, none⟩), .pointer (some ⟨b2, 0, none⟩)] X fun e w' => e = .returned (.bool (F x)) ∧ ∃ m, w' = X.drewN m) :
    Calls Try.prog 25 #[.int .i64 n, .func (.func 26) #[] #[.pointer (some ⟨b3, 0, none⟩), .pointer (some ⟨b2, 0, none⟩)]] w fun e w' => ∃ r : Int, e = .returned (.int .i64 r) ∧ 0 ≤ r ∧ r ≤ n ∧ (0 < r → F (r - 1) = false) ∧ (r < n → F r = true) ∧ Below w.heap.size w w' := by
  have HF := Lib.hid hF
  clear hF
  go_enter Try.func25, Try.ntmps25
  go_wp2_with fail
  go_loopw [5, 6, 7] (fun i j _ wr => ∃ a b : Int, i = .int .i64 a ∧ j = .int .i64 b ∧ 0 ≤ a ∧ a ≤ b ∧ b ≤ n ∧ Hid ((0 < a → F (a - 1) = false) ∧ (b < n → F b = true)) ∧ Below w.heap.size w wr) (fun i j _ _ => (intOf j - intOf i).toNat)
  case atStart => exact ⟨0, n, rfl, rfl, by omega, hn0, by omega, ⟨fun h => by omega, fun h => by omega⟩, Below.refl _ _⟩
  case round =>
    obtain ⟨a, b, rfl, rfl, ha, hab, hbn, hI, hb⟩ := hrel
    have Hb := Lib.hid hb
    clear hb
    by_cases h1 : a < b
    · have hm1 : a ≤ (a + b) / 2 := by omega
      have hm2 : (a + b) / 2 < b := by omega
      obtain ⟨c, hc⟩ : ∃ c, (a + b) / 2 = c := ⟨_, rfl⟩
      rw [hc] at hm1 hm2
      have w1 : IntKind.u64.wrap (a + b) = a + b := IntWalk.u64_in _ (by omega)
      cases hFc : F c
      · have Hc := Lib.hid (show Calls Try.prog 26 #[.int .i64 c, .pointer (some ⟨b3, 0, none⟩), .pointer (some ⟨b2, 0, none⟩)] wr fun e w' => e = .returned (.bool false) ∧ ∃ m, w' = wr.drewN m from hFc ▸ HF.out c wr (by omega) (by omega) Hb.out)
        have HFc := Lib.hid hFc
        clear hFc
        go_wp2_with (go_at_call 26; refine Hc.out.mono ?_; rintro e w' ⟨rfl, m, rfl⟩)
        exact ⟨⟨c + 1, b, rfl, rfl, by omega, by omega, hbn, ⟨fun _ => by rw [show c + 1 - 1 = c by omega]; exact HFc.out, hI.2⟩, below_drewN Hb.out _⟩, by simp [intOf]; omega⟩
      · have Hc := Lib.hid (show Calls Try.prog 26 #[.int .i64 c, .pointer (some ⟨b3, 0, none⟩), .pointer (some ⟨b2, 0, none⟩)] wr fun e w' => e = .returned (.bool true) ∧ ∃ m, w' = wr.drewN m from hFc ▸ HF.out c wr (by omega) (by omega) Hb.out)
        have HFc := Lib.hid hFc
        clear hFc
        go_wp2_with (go_at_call 26; refine Hc.out.mono ?_; rintro e w' ⟨rfl, m, rfl⟩)
        exact ⟨⟨a, c, rfl, rfl, by omega, by omega, by omega, ⟨hI.1, fun _ => HFc.out⟩, below_drewN Hb.out _⟩, by simp [intOf]; omega⟩
    · obtain rfl : a = b := by omega
      go_wp2
      go_ret
      exact ⟨a, rfl, ha, hbn, hI.1, hI.2, Hb.out⟩
/-- What each gets: at a level L, with a rest r. -/
def give1 (L r w : Int) : Int := if L < w ∧ 0 < r then min w L + 1 else min w L
def rest1 (L r w : Int) : Int := if L < w ∧ 0 < r then r - 1 else r
def give (L : Int) : Int → List Int → List Int
  | _, [] => []
  | r, w :: ws => give1 L r w :: give L (rest1 L r w) ws
def restA (L : Int) : Int → List Int → Int
  | r, [] => r
  | r, w :: ws => restA L (rest1 L r w) ws
theorem give_snoc (L : Int) : ∀ (r : Int) (ws : List Int) (w : Int), give L r (ws ++ [w]) = give L r ws ++ [give1 L (restA L r ws) w]
  | _, [], _ => rfl
  | r, a :: ws, w => by simp [give, restA, give_snoc L _ ws w]
theorem restA_snoc (L : Int) : ∀ (r : Int) (ws : List Int) (w : Int), restA L r (ws ++ [w]) = rest1 L (restA L r ws) w
  | _, [], _ => rfl
  | r, a :: ws, w => by simp [restA, restA_snoc L _ ws w]
theorem give_length (L : Int) : ∀ (r : Int) (ws : List Int), (give L r ws).length = ws.length
  | _, [] => rfl
  | r, a :: ws => by simp [give, give_length L _ ws]
theorem restA_bd (L : Int) : ∀ (r : Int) (ws : List Int), 0 ≤ r → 0 ≤ restA L r ws ∧ restA L r ws ≤ r
  | r, [], h => ⟨h, Int.le_refl _⟩
  | r, a :: ws, h => by
    have h1 : 0 ≤ rest1 L r a ∧ rest1 L r a ≤ r := by unfold rest1; split <;> omega
    have := restA_bd L (rest1 L r a) ws h1.1
    simp only [restA]; omega
/-- L is the level. -/
def Lev (total : Int) (ws : List Int) (L : Int) : Prop := 0 ≤ L ∧ L ≤ 1048576 ∧ least ws L ≤ total ∧ (L < 1048576 → total < least ws (L + 1))
end Go.Proofs.Ytkodpijedinanaa
