/- Books: three branches in plain numbers; the plain law of 'BookMore'. -/
import Derived.Test.YtgmichaconnhaaaBooked
namespace Go.Proofs.Ytgmichaconnhaaa
open Go.ChangeShapes Go.WideShapes Go.ChangeAt Go.RowKit
set_option linter.unusedVariables false
set_option linter.unusedSimpArgs false

theorem rounded3 {b : Bk} {m t r rs al a0 a1 a2 g0 g1 g2 q0 q1 q2 : Int} (hn : b.next = ⟨m, t, r, rs, al, [a0, a1, a2], [g0, g1, g2], [q0, q1, q2]⟩) (hw : b.wants.length = 3) :
    b.rounded = ⟨m, t, r, rs - min (a0 - g0) q0 - min (a1 - g1) q1 - min (a2 - g2) q2, al, [a0, a1, a2], [g0 + min (a0 - g0) q0, g1 + min (a1 - g1) q1, g2 + min (a2 - g2) q2], [q0 - min (a0 - g0) q0, q1 - min (a1 - g1) q1, q2 - min (a2 - g2) q2]⟩ := by
  unfold Bk.rounded
  rw [hw, hn]
  rfl
theorem list3 {l : List Int} (h : l.length = 3) : ∃ x y z, l = [x, y, z] := by
  match l, h with
  | [x, y, z], _ => exact ⟨x, y, z, rfl⟩
def moreCals (n a b c : Int) : List Cal := [⟨1, 0, n⟩, ⟨2, 0, a⟩, ⟨3, 0, 0⟩, ⟨2, 1, b⟩, ⟨2, 2, c⟩, ⟨3, 0, 0⟩, ⟨3, 0, 0⟩]
theorem moreCals_ok {n a b c : Int} (hn : 1 ≤ n ∧ n ≤ 1000) (ha : 0 ≤ a ∧ a ≤ 1000) (hb : 0 ≤ b ∧ b ≤ 1000) (hc : 0 ≤ c ∧ c ≤ 1000) : ∀ x ∈ moreCals n a b c, CalOk 3 x := by
  intro x hx
  simp only [moreCals, List.mem_cons, List.not_mem_nil, or_false] at hx
  rcases hx with rfl | rfl | rfl | rfl | rfl | rfl | rfl
  · exact Or.inl ⟨rfl, hn⟩
  · exact Or.inr (Or.inl ⟨rfl, by simp, by simp, ha⟩)
  · exact Or.inr (Or.inr rfl)
  · exact Or.inr (Or.inl ⟨rfl, by simp, by simp, hb⟩)
  · exact Or.inr (Or.inl ⟨rfl, by simp, by simp, hc⟩)
  · exact Or.inr (Or.inr rfl)
  · exact Or.inr (Or.inr rfl)
/-- What the plays come to. -/
theorem more_outs {top n a b c x y z : Int} (ht : 0 ≤ top ∧ top ≤ 1048576) (hn : 0 ≤ n) (ha : 0 ≤ a) (hb : 0 ≤ b) (hc : 0 ≤ c) (hq : shareV n [top, top, top] = [x, y, z]) :
    bkOuts (Bk.new 3 top 4) (moreCals n a b c) = [([], -1), ([], -1), ([min a x, 0, 0], n), ([], -1), ([], -1), ([min a x, min b y, min c z], -1), ([min a x, min b y, min c z], -1)] := by
  have hs := (shareV_ok n 3 top hn ht).1
  have e3 : List.replicate 3 top = [top, top, top] := rfl
  rw [e3, hq] at hs
  have x0 : 0 ≤ x := by have := (hs 0).1; simpa using this
  have y0 : 0 ≤ y := by have := (hs 1).1; simpa using this
  have z0 : 0 ≤ z := by have := (hs 2).1; simpa using this
  -- the books, step by step
  have s2 : (bkFold (Bk.new 3 top 4) ((moreCals n a b c).take 2)) = (⟨top, 4, 0, 0 + n, 0 + n, [max 0 a, 0, 0], [0, 0, 0], [0, 0, 0]⟩, [([], -1), ([], -1)]) := rfl
  have hA : max 0 a = a := by omega
  rw [hA, Int.zero_add] at s2
  have n2 : Bk.next ⟨top, 4, 0, n, n, [a, 0, 0], [0, 0, 0], [0, 0, 0]⟩ = ⟨top, 4, 1, n, n, [a, 0, 0], [0, 0, 0], [x, y, z]⟩ := by
    have hb : Bk.begins ⟨top, 4, 0, n, n, [a, 0, 0], [0, 0, 0], [0, 0, 0]⟩ = true := rfl
    unfold Bk.next Bk.epoch
    rw [if_pos hb]
    show Bk.mk top 4 1 n n [a, 0, 0] [0, 0, 0] (shareV n [top, top, top]) = _
    rw [hq]
  have r2 := rounded3 n2 rfl
  have p2 : Bk.report ⟨top, 4, 0, n, n, [a, 0, 0], [0, 0, 0], [0, 0, 0]⟩ = n := rfl
  have m0 : (0 : Int) + min (a - 0) x = min a x := by omega
  have m1 : (0 : Int) + min (0 - 0) y = 0 := by omega
  have m2 : (0 : Int) + min (0 - 0) z = 0 := by omega
  rw [m0, m1, m2] at r2
  generalize n - min (a - 0) x - min (0 - 0) y - min (0 - 0) z = R3 at r2
  have k0 : x - min (a - 0) x = x - min a x := by omega
  have k1 : y - min (0 - 0) y = y := by omega
  have k2 : z - min (0 - 0) z = z := by omega
  rw [k0, k1, k2] at r2
  have s3 : bkFold (Bk.new 3 top 4) ((moreCals n a b c).take 3) = bkStep (bkFold (Bk.new 3 top 4) ((moreCals n a b c).take 2)) ⟨3, 0, 0⟩ := rfl
  have t3 : bkStep (⟨top, 4, 0, n, n, [a, 0, 0], [0, 0, 0], [0, 0, 0]⟩, [([], -1), ([], -1)]) ⟨3, 0, 0⟩ = (Bk.rounded ⟨top, 4, 0, n, n, [a, 0, 0], [0, 0, 0], [0, 0, 0]⟩, [([], -1), ([], -1)] ++ [((Bk.rounded ⟨top, 4, 0, n, n, [a, 0, 0], [0, 0, 0], [0, 0, 0]⟩).granted, Bk.report ⟨top, 4, 0, n, n, [a, 0, 0], [0, 0, 0], [0, 0, 0]⟩)]) := rfl
  rw [s2, t3, r2, p2] at s3
  have s5 : bkFold (Bk.new 3 top 4) ((moreCals n a b c).take 5) = bkStep (bkStep (bkFold (Bk.new 3 top 4) ((moreCals n a b c).take 3)) ⟨2, 1, b⟩) ⟨2, 2, c⟩ := rfl
  rw [s3] at s5
  have t5 : bkStep (bkStep ((⟨top, 4, 1, R3, n, [a, 0, 0], [min a x, 0, 0], [x - min a x, y, z]⟩ : Bk), [([], -1), ([], -1)] ++ [([min a x, 0, 0], n)]) ⟨2, 1, b⟩) ⟨2, 2, c⟩ = (⟨top, 4, 1, R3, n, [a, max 0 b, max 0 c], [min a x, 0, 0], [x - min a x, y, z]⟩, [([], -1), ([], -1), ([min a x, 0, 0], n), ([], -1), ([], -1)]) := rfl
  rw [t5, show max 0 b = b by omega, show max 0 c = c by omega] at s5
  have n5 : Bk.next ⟨top, 4, 1, R3, n, [a, b, c], [min a x, 0, 0], [x - min a x, y, z]⟩ = ⟨top, 4, 1 + 1, R3, n, [a, b, c], [min a x, 0, 0], [x - min a x, y, z]⟩ := rfl
  have r5 := rounded3 n5 rfl
  have p5 : Bk.report ⟨top, 4, 1, R3, n, [a, b, c], [min a x, 0, 0], [x - min a x, y, z]⟩ = -1 := rfl
  rw [show min a x + min (a - min a x) (x - min a x) = min a x by omega, show (0 : Int) + min (b - 0) y = min b y by omega, show (0 : Int) + min (c - 0) z = min c z by omega,
    show x - min a x - min (a - min a x) (x - min a x) = x - min a x by omega, show y - min (b - 0) y = y - min b y by omega, show z - min (c - 0) z = z - min c z by omega] at r5
  generalize R3 - min (a - min a x) (x - min a x) - min (b - 0) y - min (c - 0) z = R6 at r5
  have s6 : bkFold (Bk.new 3 top 4) ((moreCals n a b c).take 6) = bkStep (bkFold (Bk.new 3 top 4) ((moreCals n a b c).take 5)) ⟨3, 0, 0⟩ := rfl
  have t6 : ∀ (B : Bk) o, bkStep (B, o) ⟨3, 0, 0⟩ = (B.rounded, o ++ [(B.rounded.granted, B.report)]) := fun _ _ => rfl
  rw [s5, t6, r5, p5] at s6
  have n6 : Bk.next ⟨top, 4, 1 + 1, R6, n, [a, b, c], [min a x, min b y, min c z], [x - min a x, y - min b y, z - min c z]⟩ = ⟨top, 4, 1 + 1 + 1, R6, n, [a, b, c], [min a x, min b y, min c z], [x - min a x, y - min b y, z - min c z]⟩ := rfl
  have r6 := rounded3 n6 rfl
  have p6 : Bk.report ⟨top, 4, 1 + 1, R6, n, [a, b, c], [min a x, min b y, min c z], [x - min a x, y - min b y, z - min c z]⟩ = -1 := rfl
  rw [show min a x + min (a - min a x) (x - min a x) = min a x by omega, show min b y + min (b - min b y) (y - min b y) = min b y by omega, show min c z + min (c - min c z) (z - min c z) = min c z by omega] at r6
  have s7 : bkOuts (Bk.new 3 top 4) (moreCals n a b c) = (bkStep (bkFold (Bk.new 3 top 4) ((moreCals n a b c).take 6)) ⟨3, 0, 0⟩).2 := rfl
  rw [s6, t6, r6, p6] at s7
  rw [s7]
  rfl
theorem shareV_mono {n m : Int} {ws : List Int} (hw : ∀ w ∈ ws, 0 ≤ w ∧ w ≤ 1048576) (hn : 0 ≤ n) (hnm : n ≤ m) (i : Nat) (h1 : i < (shareV n ws).length) (h2 : i < (shareV m ws).length) : (shareV n ws)[i] ≤ (shareV m ws)[i] := by
  unfold shareV at h1 h2 ⊢
  have ha := levelOf_lev n ws (fun w h => (hw w h).1) hn
  have hb := levelOf_lev m ws (fun w h => (hw w h).1) (by omega)
  generalize levelOf n ws = L at *
  generalize levelOf m ws = M at *
  exact share_grows hw ha hb hnm i h1 h2
/-- Of two plays, the rulings of the second grant no less. -/
def NoLess (xs ys : List (List Int × Int)) : Prop := xs.length = ys.length ∧ ∀ (i : Nat) (p q : List Int × Int), xs[i]? = some p → ys[i]? = some q → p.1.length = q.1.length ∧ ∀ (k : Nat) (u v : Int), p.1[k]? = some u → q.1[k]? = some v → u ≤ v
theorem more_noLess {top n m a b c : Int} (ht : 0 ≤ top ∧ top ≤ 1048576) (hn : 0 ≤ n) (hnm : n ≤ m) (ha : 0 ≤ a) (hb : 0 ≤ b) (hc : 0 ≤ c) :
    NoLess (bkOuts (Bk.new 3 top 4) (moreCals n a b c)) (bkOuts (Bk.new 3 top 4) (moreCals m a b c)) := by
  have hw : ∀ w ∈ [top, top, top], 0 ≤ w ∧ w ≤ 1048576 := fun w hw => by simp at hw; omega
  obtain ⟨x, y, z, hq⟩ := list3 (show (shareV n [top, top, top]).length = 3 by rw [shareV_length]; rfl)
  obtain ⟨x', y', z', hq'⟩ := list3 (show (shareV m [top, top, top]).length = 3 by rw [shareV_length]; rfl)
  have hg := fun i h1 h2 => shareV_mono hw hn hnm i h1 h2
  have hx : x ≤ x' := by have := hg 0 (by rw [hq]; simp) (by rw [hq']; simp); simpa [hq, hq'] using this
  have hy : y ≤ y' := by have := hg 1 (by rw [hq]; simp) (by rw [hq']; simp); simpa [hq, hq'] using this
  have hz : z ≤ z' := by have := hg 2 (by rw [hq]; simp) (by rw [hq']; simp); simpa [hq, hq'] using this
  rw [more_outs ht hn ha hb hc hq, more_outs ht (by omega) ha hb hc hq']
  refine ⟨rfl, fun i p q hp hq => ?_⟩
  have h3 : ∀ (u v w u' v' w' : Int), u ≤ u' → v ≤ v' → w ≤ w' → ([u, v, w] : List Int).length = ([u', v', w'] : List Int).length ∧ ∀ (k : Nat) (s t : Int), ([u, v, w] : List Int)[k]? = some s → ([u', v', w'] : List Int)[k]? = some t → s ≤ t := by
    intro u v w u' v' w' h1 h2 h3
    refine ⟨rfl, fun k s t hs ht => ?_⟩
    match k, hs, ht with
    | 0, hs, ht => simp at hs ht; omega
    | 1, hs, ht => simp at hs ht; omega
    | 2, hs, ht => simp at hs ht; omega
    | k + 3, hs, ht => simp at hs
  match i, hp, hq with
  | 0, hp, hq => simp at hp hq; subst hp; subst hq; exact ⟨rfl, fun k u v h => by simp at h⟩
  | 1, hp, hq => simp at hp hq; subst hp; subst hq; exact ⟨rfl, fun k u v h => by simp at h⟩
  | 2, hp, hq => simp at hp hq; subst hp; subst hq; exact h3 _ _ _ _ _ _ (by omega) (by omega) (by omega)
  | 3, hp, hq => simp at hp hq; subst hp; subst hq; exact ⟨rfl, fun k u v h => by simp at h⟩
  | 4, hp, hq => simp at hp hq; subst hp; subst hq; exact ⟨rfl, fun k u v h => by simp at h⟩
  | 5, hp, hq => simp at hp hq; subst hp; subst hq; exact h3 _ _ _ _ _ _ (by omega) (by omega) (by omega)
  | 6, hp, hq => simp at hp hq; subst hp; subst hq; exact h3 _ _ _ _ _ _ (by omega) (by omega) (by omega)
  | i + 7, hp, hq => simp at hp
end Go.Proofs.Ytgmichaconnhaaa
