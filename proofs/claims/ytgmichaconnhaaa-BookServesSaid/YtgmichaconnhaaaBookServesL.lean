/- Books: the plain law of 'BookServes'. -/
import Derived.Test.YtgmichaconnhaaaBookL
namespace Go.Proofs.Ytgmichaconnhaaa
open Go.ChangeShapes Go.WideShapes Go.ChangeAt Go.RowKit
set_option linter.unusedVariables false
set_option linter.unusedSimpArgs false

/-- Where three may each have something, and there are three, each gets something. -/
theorem shareV_some {t m x y z : Int} (ht : 3 ≤ t) (hm : 1 ≤ m ∧ m ≤ 1048576) (hq : shareV t [m, m, m] = [x, y, z]) : 1 ≤ x ∧ 1 ≤ y ∧ 1 ≤ z := by
  have hw : ∀ w ∈ [m, m, m], 0 ≤ w := fun w hw => by simp at hw; omega
  obtain ⟨h0, h1, h2, h3⟩ := levelOf_lev t [m, m, m] hw (by omega)
  have hl : 1 ≤ levelOf t [m, m, m] := by
    generalize levelOf t [m, m, m] = L at *
    by_cases h : 1 ≤ L
    · exact h
    · obtain rfl : L = 0 := by omega
      have := h3 (by omega)
      simp only [least, List.map_cons, List.map_nil, List.sum_cons, List.sum_nil] at this
      omega
  have key : ∀ r, 1 ≤ give1 (levelOf t [m, m, m]) r m := fun r => by
    have := give1_bd (levelOf t [m, m, m]) r m h0 (by omega)
    omega
  have hg : shareV t [m, m, m] = [give1 (levelOf t [m, m, m]) (t - least [m, m, m] (levelOf t [m, m, m])) m, give1 (levelOf t [m, m, m]) (rest1 (levelOf t [m, m, m]) (t - least [m, m, m] (levelOf t [m, m, m])) m) m,
      give1 (levelOf t [m, m, m]) (rest1 (levelOf t [m, m, m]) (rest1 (levelOf t [m, m, m]) (t - least [m, m, m] (levelOf t [m, m, m])) m) m) m] := rfl
  rw [hg] at hq
  simp only [List.cons.injEq, and_true] at hq
  obtain ⟨rfl, rfl, rfl⟩ := hq
  exact ⟨key _, key _, key _⟩
def srvRounds (j : Nat) : List Cal := List.replicate j ⟨3, 0, 0⟩
def srvWants (a b c : Int) : List Cal := [⟨2, 0, a⟩, ⟨2, 1, b⟩, ⟨2, 2, c⟩]
def srvCals (n a b c : Int) (j : Nat) : List Cal := [⟨1, 0, n⟩] ++ srvWants a b c ++ srvRounds j
theorem srvCals_length (n a b c : Int) (j : Nat) : (srvCals n a b c j).length = 4 + j := by simp [srvCals, srvWants, srvRounds]; omega
theorem srvCals_succ (n a b c : Int) (j : Nat) : srvCals n a b c (j + 1) = srvCals n a b c j ++ [⟨3, 0, 0⟩] := by
  simp only [srvCals, srvRounds, List.replicate_succ', List.append_assoc]
theorem srvCals_ok {n a b c : Int} {j : Nat} (hn : 1 ≤ n ∧ n ≤ 1000) (ha : 0 ≤ a ∧ a ≤ 1000) (hb : 0 ≤ b ∧ b ≤ 1000) (hc : 0 ≤ c ∧ c ≤ 1000) : ∀ x ∈ srvCals n a b c j, CalOk 3 x := by
  intro x hx
  simp only [srvCals, srvWants, srvRounds, List.mem_append, List.mem_cons, List.not_mem_nil, or_false, List.mem_replicate] at hx
  rcases hx with (rfl | rfl | rfl | rfl) | ⟨-, rfl⟩
  · exact Or.inl ⟨rfl, hn⟩
  · exact Or.inr (Or.inl ⟨rfl, by simp, by simp, ha⟩)
  · exact Or.inr (Or.inl ⟨rfl, by simp, by simp, hb⟩)
  · exact Or.inr (Or.inl ⟨rfl, by simp, by simp, hc⟩)
  · exact Or.inr (Or.inr rfl)
/-- The book behind j rounds. -/
theorem serves_at {top t n a b c : Int} (htop : 1 ≤ top ∧ top ≤ 1048576) (ht : 1 ≤ t) (ha : 0 ≤ a) (hb : 0 ≤ b) (hc : 0 ≤ c) (hn : 3 * (a + b + c) + 1 ≤ n) : ∀ j : Nat,
    ∃ rs g0 g1 g2 q0 q1 q2, (bkFold (Bk.new 3 top t) (srvCals n a b c j)).1 = ⟨top, t, (j : Int), rs, n, [a, b, c], [g0, g1, g2], [q0, q1, q2]⟩ ∧ rs = n - g0 - g1 - g2 ∧
      (0 ≤ g0 ∧ g0 ≤ a ∧ (a ≤ g0 ∨ (j : Int) ≤ g0 * t)) ∧ (0 ≤ g1 ∧ g1 ≤ b ∧ (b ≤ g1 ∨ (j : Int) ≤ g1 * t)) ∧ (0 ≤ g2 ∧ g2 ≤ c ∧ (c ≤ g2 ∨ (j : Int) ≤ g2 * t)) ∧ 0 ≤ q0 ∧ 0 ≤ q1 ∧ 0 ≤ q2
  | 0 => ⟨n, 0, 0, 0, 0, 0, 0, by
      have h : (bkFold (Bk.new 3 top t) (srvCals n a b c 0)).1 = ⟨top, t, 0, 0 + n, 0 + n, [max 0 a, max 0 b, max 0 c], [0, 0, 0], [0, 0, 0]⟩ := rfl
      rw [h, show max 0 a = a by omega, show max 0 b = b by omega, show max 0 c = c by omega, Int.zero_add]; rfl, by omega, by simp; omega, by simp; omega, by simp; omega, by omega, by omega, by omega⟩
  | j + 1 => by
    obtain ⟨rs, g0, g1, g2, q0, q1, q2, e, hr, hA, hB, hC, h0, h1, h2⟩ := serves_at htop ht ha hb hc hn j
    have hs : bkFold (Bk.new 3 top t) (srvCals n a b c (j + 1)) = bkStep (bkFold (Bk.new 3 top t) (srvCals n a b c j)) ⟨3, 0, 0⟩ := by
      rw [srvCals_succ]; unfold bkFold; rw [List.foldl_append]; rfl
    have hs1 : (bkFold (Bk.new 3 top t) (srvCals n a b c (j + 1))).1 = (bkFold (Bk.new 3 top t) (srvCals n a b c j)).1.rounded := by rw [hs]; rfl
    rw [hs1, e]
    have hnext : ∃ p0 p1 p2, Bk.next ⟨top, t, (j : Int), rs, n, [a, b, c], [g0, g1, g2], [q0, q1, q2]⟩ = ⟨top, t, (j : Int) + 1, rs, n, [a, b, c], [g0, g1, g2], [p0, p1, p2]⟩ ∧ 0 ≤ p0 ∧ 0 ≤ p1 ∧ 0 ≤ p2 ∧
        ((j : Int) % t = 0 → 3 ≤ rs → 1 ≤ p0 ∧ 1 ≤ p1 ∧ 1 ≤ p2) := by
      unfold Bk.next Bk.epoch
      by_cases hbg : Bk.begins ⟨top, t, (j : Int), rs, n, [a, b, c], [g0, g1, g2], [q0, q1, q2]⟩ = true
      · rw [if_pos hbg]
        obtain ⟨x, y, z, hq⟩ := list3 (show (shareV rs [top, top, top]).length = 3 by rw [shareV_length]; rfl)
        have hs := (shareV_ok rs 3 top (by omega) ⟨by omega, htop.2⟩).1
        have e3 : List.replicate 3 top = [top, top, top] := rfl
        rw [e3, hq] at hs
        refine ⟨x, y, z, ?_, by have := (hs 0).1; simpa using this, by have := (hs 1).1; simpa using this, by have := (hs 2).1; simpa using this, fun _ h3 => shareV_some h3 htop hq⟩
        show Bk.mk top t ((j : Int) + 1) rs n [a, b, c] [g0, g1, g2] (shareV rs [top, top, top]) = _
        rw [hq]
      · rw [if_neg hbg]
        refine ⟨q0, q1, q2, rfl, h0, h1, h2, fun hz => absurd ?_ hbg⟩
        simp [Bk.begins, hz]
    obtain ⟨p0, p1, p2, en, k0, k1, k2, hp⟩ := hnext
    rw [rounded3 en rfl]
    have one : ∀ w g p : Int, 0 ≤ g → g ≤ w → 0 ≤ p → ((j : Int) % t = 0 → 3 ≤ rs → 1 ≤ p) → (w ≤ g ∨ (j : Int) ≤ g * t) → (3 ≤ rs ∨ w ≤ g) →
        0 ≤ g + min (w - g) p ∧ g + min (w - g) p ≤ w ∧ (w ≤ g + min (w - g) p ∨ ((j + 1 : Nat) : Int) ≤ (g + min (w - g) p) * t) := by
      intro w g p hg hgw hp0 hp1 hd hrs
      refine ⟨by omega, by omega, ?_⟩
      by_cases hw : w ≤ g + min (w - g) p
      · exact .inl hw
      · have hmin : min (w - g) p = p := by omega
        rw [hmin] at hw ⊢
        have hd' : (j : Int) ≤ g * t := by rcases hd with h | h <;> omega
        have hrs' : 3 ≤ rs := by rcases hrs with h | h <;> omega
        right
        rw [Int.add_mul]
        by_cases hz : (j : Int) % t = 0
        · have h1p := hp1 hz hrs'
          have : 1 * t ≤ p * t := Int.mul_le_mul_of_nonneg_right h1p (by omega)
          omega
        · have hne : (j : Int) ≠ g * t := fun h => hz (by rw [h]; exact Int.mul_emod_left _ _)
          have : 0 ≤ p * t := Int.mul_nonneg hp0 (by omega)
          omega
    have r0 : 3 ≤ rs ∨ a ≤ g0 := by omega
    have r1 : 3 ≤ rs ∨ b ≤ g1 := by omega
    have r2 : 3 ≤ rs ∨ c ≤ g2 := by omega
    have oA := one a g0 p0 hA.1 hA.2.1 k0 (fun x y => (hp x y).1) hA.2.2 r0
    have oB := one b g1 p1 hB.1 hB.2.1 k1 (fun x y => (hp x y).2.1) hB.2.2 r1
    have oC := one c g2 p2 hC.1 hC.2.1 k2 (fun x y => (hp x y).2.2) hC.2.2 r2
    exact ⟨_, _, _, _, _, _, _, by rw [Int.natCast_add]; rfl, by omega, oA, oB, oC, by omega, by omega, by omega⟩
theorem serves_last {top t n a b c : Int} (htop : 1 ≤ top ∧ top ≤ 1048576) (ht : 1 ≤ t) (ha : 0 ≤ a ∧ a ≤ 39) (hb : 0 ≤ b ∧ b ≤ 39) (hc : 0 ≤ c ∧ c ≤ 39) (hn : 3 * (a + b + c) + 1 ≤ n) (j : Nat) (hj : (j : Int) + 1 = 40 * t) :
    ∃ rp, (bkOuts (Bk.new 3 top t) (srvCals n a b c (j + 1)))[4 + j]? = some ([a, b, c], rp) := by
  rw [bkOuts_get _ _ _ (by rw [srvCals_length]; omega)]
  have hget : ∀ h, (srvCals n a b c (j + 1))[4 + j]'h = ⟨3, 0, 0⟩ := fun h => by
    have h2 : (srvCals n a b c (j + 1))[4 + j]? = some ⟨3, 0, 0⟩ := by
      rw [srvCals_succ, List.getElem?_append_right (by rw [srvCals_length]; omega), srvCals_length, Nat.sub_self]; rfl
    rw [List.getElem?_eq_getElem h] at h2; exact Option.some.inj h2
  have htk : (srvCals n a b c (j + 1)).take (4 + j) = srvCals n a b c j := by
    rw [srvCals_succ, ← srvCals_length n a b c j, List.take_left]
  rw [hget, htk]
  obtain ⟨rs, g0, g1, g2, q0, q1, q2, e, hr, hA, hB, hC, h0, h1, h2⟩ := serves_at htop ht ha.1 hb.1 hc.1 hn (j + 1)
  have hs1 : (bkFold (Bk.new 3 top t) (srvCals n a b c (j + 1))).1 = (bkFold (Bk.new 3 top t) (srvCals n a b c j)).1.rounded := by
    rw [srvCals_succ]; unfold bkFold; rw [List.foldl_append]; rfl
  rw [hs1] at e
  have fin : ∀ w g : Int, w ≤ 39 → g ≤ w → (w ≤ g ∨ ((j + 1 : Nat) : Int) ≤ g * t) → g = w := by
    intro w g hw hg h
    rcases h with h | h
    · omega
    · have hlt : g ≤ 39 := by omega
      have : g * t ≤ 39 * t := Int.mul_le_mul_of_nonneg_right hlt (by omega)
      omega
  have eA := fin a g0 ha.2 hA.2.1 hA.2.2
  have eB := fin b g1 hb.2 hB.2.1 hB.2.2
  have eC := fin c g2 hc.2 hC.2.1 hC.2.2
  subst eA eB eC
  exact ⟨_, by unfold Bk.out; rw [if_pos rfl, e]⟩
end Go.Proofs.Ytgmichaconnhaaa
