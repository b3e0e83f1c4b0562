/- World, plain: who asks is served. -/
import Derived.Test.YtjdedflfdlhkdaaDoorFullL
namespace Go.Proofs.YtjdedflfdlhkdaaDoor
set_option linter.unusedVariables false
set_option linter.unusedSimpArgs false

/-- Where four may each have something, and there are four, each gets something. -/
theorem shareV_four {t m x y z u : Int} (ht : 4 ≤ t) (hm : 1 ≤ m ∧ m ≤ 1048576) (hq : shareV t [m, m, m, m] = [x, y, z, u]) : 1 ≤ x ∧ 1 ≤ y ∧ 1 ≤ z ∧ 1 ≤ u := by
  have hw : ∀ w ∈ [m, m, m, m], 0 ≤ w := fun w hw => by simp at hw; omega
  obtain ⟨h0, h1, h2, h3⟩ := levelOf_lev t [m, m, m, m] hw (by omega)
  have hl : 1 ≤ levelOf t [m, m, m, m] := by
    generalize levelOf t [m, m, m, m] = L at *
    by_cases h : 1 ≤ L
    · exact h
    · obtain rfl : L = 0 := by omega
      have := h3 (by omega)
      simp only [least, List.map_cons, List.map_nil, List.sum_cons, List.sum_nil] at this
      omega
  have key : ∀ r, 1 ≤ give1 (levelOf t [m, m, m, m]) r m := fun r => by
    have := give1_bd (levelOf t [m, m, m, m]) r m h0 (by omega)
    omega
  unfold shareV at hq
  simp only [give, List.cons.injEq, and_true] at hq
  obtain ⟨rfl, rfl, rfl, rfl⟩ := hq
  exact ⟨key _, key _, key _, key _⟩
theorem rounded4 {b : Bk} {m t r rs al a0 a1 a2 a3 g0 g1 g2 g3 q0 q1 q2 q3 : Int} (hn : b.next = ⟨m, t, r, rs, al, [a0, a1, a2, a3], [g0, g1, g2, g3], [q0, q1, q2, q3]⟩) (hw : b.wants.length = 4) :
    b.rounded = ⟨m, t, r, rs - min (a0 - g0) q0 - min (a1 - g1) q1 - min (a2 - g2) q2 - min (a3 - g3) q3, al, [a0, a1, a2, a3], [g0 + min (a0 - g0) q0, g1 + min (a1 - g1) q1, g2 + min (a2 - g2) q2, g3 + min (a3 - g3) q3], [q0 - min (a0 - g0) q0, q1 - min (a1 - g1) q1, q2 - min (a2 - g2) q2, q3 - min (a3 - g3) q3]⟩ := by
  unfold Bk.rounded
  rw [hw, hn]
  rfl
theorem list4 {l : List Int} (h : l.length = 4) : ∃ x y z u, l = [x, y, z, u] := by
  match l, h with
  | [x, y, z, u], _ => exact ⟨x, y, z, u, rfl⟩
/-- What the asks of all make of a book. -/
def Bk.hears (b : Bk) (a : Nat → Int) : Bk := (((b.want 0 (a 0)).want 1 (a 1)).want 2 (a 2)).want 3 (a 3)
theorem comes_ask (c : Cfg) (u s : Wld) (i k : Nat) (hk : k < c.items) : ((s.comes c (askMsg c u i)).bk k) = (s.bk k).want i (u.asks i k) ∧ (s.comes c (askMsg c u i)).asks = s.asks := by
  have e : s.comes c (askMsg c u i) = s.wants i ((List.range c.items).map (u.asks i)) := by
    unfold Wld.comes
    exact if_pos (show (askMsg c u i).t = c.n from rfl)
  rw [e]
  refine ⟨?_, rfl⟩
  simp only [Wld.wants, List.length_map, List.length_range, if_pos hk]
  rw [getD_map_range _ _ _ hk]
theorem comes_rum_bk (c : Cfg) (s : Wld) (x : Let) (h : ∃ st, x.m = .rum st) (k : Nat) : (s.comes c x).bk k = s.bk k ∧ (s.comes c x).asks = s.asks := by
  obtain ⟨st, hs⟩ := h
  unfold Wld.comes
  rw [hs]
  exact ⟨rfl, rfl⟩
theorem allOf_rums (c : Cfg) (k : Nat) : ∀ (l : List Let) (s : Wld), (∀ x ∈ l, ∃ st, x.m = .rum st) → (s.allOf c l).bk k = s.bk k ∧ (s.allOf c l).asks = s.asks
  | [], s, _ => ⟨rfl, rfl⟩
  | x :: t, s, h => by
    obtain ⟨a, b⟩ := comes_rum_bk c s x (h x List.mem_cons_self) k
    obtain ⟨d, e⟩ := allOf_rums c k t (s.comes c x) (fun y hy => h y (List.mem_cons_of_mem _ hy))
    rw [allOf_cons]
    exact ⟨d.trans a, e.trans b⟩
theorem allOf_row (c : Cfg) (u s : Wld) (i k : Nat) (hk : k < c.items) : (s.allOf c (rowMsg c u i)).bk k = (s.bk k).want i (u.asks i k) ∧ (s.allOf c (rowMsg c u i)).asks = s.asks := by
  unfold rowMsg
  rw [allOf_cons]
  obtain ⟨a, b⟩ := comes_ask c u s i k hk
  obtain ⟨d, e⟩ := allOf_rums c k (((List.range c.n).filter (· ≠ i)).map (rumMsg u i)) (s.comes c (askMsg c u i)) (fun x hx => by
    obtain ⟨j, _, rfl⟩ := List.mem_map.1 hx
    exact ⟨_, rfl⟩)
  exact ⟨d.trans a, e.trans b⟩
theorem full_bk (c : Cfg) (hn : c.n = 4) (S : List Stp) (k : Nat) (hk : k < c.items) : (wFold c (fullOf S)).1.bk k = (((wFold c S).1.bk k).rounded).hears (fun i => (wFold c S).1.asks i k) ∧ (wFold c (fullOf S)).1.asks = (wFold c S).1.asks := by
  obtain ⟨o, e⟩ := full_all c hn S
  rw [e]
  generalize (wFold c S).1 = s at *
  show ((s.ticked c).allOf c (tickMsgs c s)).bk k = _ ∧ ((s.ticked c).allOf c (tickMsgs c s)).asks = _
  unfold tickMsgs
  rw [allOf_append, hn]
  obtain ⟨-, g2, g3, -⟩ := allOf_gives c s 4 ((s.ticked c).allOf c ((List.range 4).flatMap (rowMsg c s))) (by omega)
  rw [g2, g3]
  have hr : (List.range 4).flatMap (rowMsg c s) = rowMsg c s 0 ++ (rowMsg c s 1 ++ (rowMsg c s 2 ++ rowMsg c s 3)) := by
    simp [List.range_succ]
  rw [hr, allOf_append, allOf_append, allOf_append]
  obtain ⟨a3, b3⟩ := allOf_row c s ((((s.ticked c).allOf c (rowMsg c s 0)).allOf c (rowMsg c s 1)).allOf c (rowMsg c s 2)) 3 k hk
  obtain ⟨a2, b2⟩ := allOf_row c s (((s.ticked c).allOf c (rowMsg c s 0)).allOf c (rowMsg c s 1)) 2 k hk
  obtain ⟨a1, b1⟩ := allOf_row c s ((s.ticked c).allOf c (rowMsg c s 0)) 1 k hk
  obtain ⟨a0, b0⟩ := allOf_row c s (s.ticked c) 0 k hk
  rw [a3, a2, a1, a0, b3, b2, b1, b0]
  exact ⟨rfl, rfl⟩
/-- Steps that ask nothing of shelves leave them without holds and uses. -/
def NoUse (s : Wld) : Prop := ∀ i k, (s.sh i k).used = 0 ∧ (s.sh i k).hs = []
theorem gain_noUse (s : Shf) (n : Int) (h : s.used = 0 ∧ s.hs = []) : (s.next ⟨1, n, 0, 0⟩).used = 0 ∧ (s.next ⟨1, n, 0, 0⟩).hs = [] := by
  unfold Shf.next Shf.order
  split
  · exact h
  · rw [if_pos rfl]
    split <;> exact h
theorem noUse_step {c : Cfg} {s : Wld} (h : NoUse s) (p : Stp) (hp : p.kind = 1 ∨ p.kind = 9 ∨ p.kind = 10) : NoUse (s.step c p).2 := by
  unfold Wld.step
  split
  · intro i k
    show (s.sh i k).ticked.used = 0 ∧ (s.sh i k).ticked.hs = []
    obtain ⟨a, b⟩ := h i k
    unfold Shf.ticked
    rw [b]
    exact ⟨a, rfl⟩
  split
  · unfold Wld.deliver
    split
    · exact h
    split
    · exact h
    split
    · exact h
    · rename_i x hx
      unfold Wld.comes
      split
      · split
        · exact h
        · intro i k
          simp only [Wld.gains]
          split
          · next hh => rw [← hh.1]; exact gain_noUse _ _ (h _ k)
          · exact h i k
      · exact h
  split
  · unfold Wld.lose; split <;> exact h
  split
  · exact h
  split
  · exact h
  simp only
  unfold Wld.client
  rw [if_neg (by omega)]
  split
  · exact h
  rw [if_pos (by omega)]
  split
  · exact h
  split <;> exact h
theorem noUse_fold (c : Cfg) (S : List Stp) : (∀ p ∈ S, p.kind = 1 ∨ p.kind = 9 ∨ p.kind = 10) → NoUse (wFold c S).1 := by
  induction S using snoc_ind with
  | h0 => exact fun _ _ _ => ⟨rfl, rfl⟩
  | hs l p ih =>
    intro h
    rw [wFold_snoc]
    exact noUse_step (ih fun q hq => h q (List.mem_append_left _ hq)) p (h p (List.mem_append_right _ List.mem_cons_self))
/-- Some full ticks. -/
def fullN (S : List Stp) : Nat → List Stp
  | 0 => S
  | j + 1 => fullOf (fullN S j)
theorem fullN_len (S : List Stp) : ∀ j, (fullN S j).length = S.length + 21 * j
  | 0 => by simp [fullN]
  | j + 1 => by rw [fullN, fullOf_len, fullN_len S j]; omega
theorem fullOf_kinds {S : List Stp} (h : ∀ p ∈ S, p.kind = 1 ∨ p.kind = 9 ∨ p.kind = 10) : ∀ p ∈ fullOf S, p.kind = 1 ∨ p.kind = 9 ∨ p.kind = 10 := by
  intro p hp
  unfold fullOf at hp
  rcases List.mem_append.1 hp with hp | hp
  · rcases List.mem_append.1 hp with hp | hp
    · exact h p hp
    · rw [List.mem_singleton] at hp; subst hp; exact .inr (.inl rfl)
  · obtain ⟨i, _, rfl⟩ := List.mem_map.1 hp
    exact .inr (.inr rfl)
theorem fullN_kinds {S : List Stp} (h : ∀ p ∈ S, p.kind = 1 ∨ p.kind = 9 ∨ p.kind = 10) : ∀ j, ∀ p ∈ fullN S j, p.kind = 1 ∨ p.kind = 9 ∨ p.kind = 10
  | 0 => h
  | j + 1 => fullOf_kinds (fullN_kinds h j)
/-- Two branches ask. -/
def srvS (x y : Int) : List Stp := [⟨1, 1, 0, x, 0, 0, 0, 0⟩, ⟨1, 3, 0, y, 0, 0, 0, 0⟩]
theorem srv_kinds (x y : Int) : ∀ p ∈ srvS x y, p.kind = 1 ∨ p.kind = 9 ∨ p.kind = 10 := by
  intro p hp
  simp only [srvS, List.mem_cons, List.not_mem_nil, or_false] at hp
  rcases hp with rfl | rfl <;> exact .inl rfl
structure SrvC (c : Cfg) (x y : Int) : Prop where
  ok : c.Ok
  n : c.n = 4
  m : c.minted = [3 * (x + y), 5]
  cap : 1 ≤ c.cap ∧ c.cap ≤ 9
  t : c.ticks = 1 ∨ c.ticks = 2
  x : 1 ≤ x ∧ x ≤ 4
  y : 1 ≤ y ∧ y ≤ 4
theorem srv_items {c : Cfg} {x y : Int} (h : SrvC c x y) : c.items = 2 := by unfold Cfg.items; rw [h.m]; rfl
def srvA (x y : Int) (i k : Nat) : Int := if i = 1 ∧ k = 0 then x else if i = 3 ∧ k = 0 then y else 0
theorem srv_start {c : Cfg} {x y : Int} (h : SrvC c x y) : (wFold c (srvS x y)).1.asks = srvA x y ∧ (wFold c (srvS x y)).1.bk 0 = ⟨c.cap, c.ticks, 0, 3 * (x + y), 3 * (x + y), [0, 0, 0, 0], [0, 0, 0, 0], [0, 0, 0, 0]⟩ := by
  have hi := srv_items h
  have hx := h.x
  have hy := h.y
  have e1 : ∀ (s : Wld) (w : Nat) (z : Int), (w : Int) < (c.n : Int) → 1 ≤ z → z ≤ 4 → s.asks w 0 = 0 → (s.step c ⟨1, w, 0, z, 0, 0, 0, 0⟩).2 = { s with asks := upd2 s.asks w 0 (s.asks w 0 + z) } := fun s w z hw h1 h2 h3 => by
    unfold Wld.step
    rw [if_neg (by simp), if_neg (by simp), if_neg (by simp), if_neg (by simp), if_neg (by simp only; omega)]
    simp only
    unfold Wld.client
    rw [if_neg (by simp), if_neg (by simp only [hi]; omega), if_pos rfl]
    simp only [Int.toNat_zero, Int.toNat_natCast]
    rw [if_neg (by omega), if_neg (by rw [h3]; omega)]
  have e2 : (wFold c (srvS x y)).1 = (((wld0 c).step c ⟨1, (1 : Nat), 0, x, 0, 0, 0, 0⟩).2.step c ⟨1, (3 : Nat), 0, y, 0, 0, 0, 0⟩).2 := rfl
  have hn := h.n
  rw [e2, e1 (wld0 c) 1 x (by omega) hx.1 hx.2 rfl, e1 _ 3 y (by omega) hy.1 hy.2 (by simp [upd2, wld0])]
  refine ⟨?_, ?_⟩
  · funext i k
    simp only [upd2, wld0, srvA]
    by_cases h3 : i = 3 ∧ k = 0
    · obtain ⟨rfl, rfl⟩ := h3; simp
    · by_cases h1 : i = 1 ∧ k = 0
      · obtain ⟨rfl, rfl⟩ := h1; simp
      · simp [h1, h3]
  · show (Bk.new c.n c.cap c.ticks).stock (c.minted.getD 0 0) = _
    rw [h.m, h.n]
    simp [Bk.new, Bk.stock, zerosI, List.replicate]
/-- The book behind j + 1 full ticks. -/
theorem srv_at {c : Cfg} {x y : Int} (h : SrvC c x y) : ∀ j : Nat, j ≤ 10 → (wFold c (fullN (srvS x y) j)).1.asks = srvA x y ∧
    ∃ rs a1 a3 g1 g3 q0 q1 q2 q3, (wFold c (fullN (srvS x y) j)).1.bk 0 = ⟨c.cap, c.ticks, (j : Int), rs, 3 * (x + y), [0, a1, 0, a3], [0, g1, 0, g3], [q0, q1, q2, q3]⟩ ∧ rs = 3 * (x + y) - g1 - g3 ∧
      (if j = 0 then a1 = 0 ∧ a3 = 0 else a1 = x ∧ a3 = y) ∧ (0 ≤ g1 ∧ g1 ≤ a1 ∧ (x ≤ g1 ∨ (j : Int) ≤ g1 * c.ticks + c.ticks)) ∧ (0 ≤ g3 ∧ g3 ≤ a3 ∧ (y ≤ g3 ∨ (j : Int) ≤ g3 * c.ticks + c.ticks)) ∧ 0 ≤ q0 ∧ 0 ≤ q1 ∧ 0 ≤ q2 ∧ 0 ≤ q3
  | 0, _ => by
    obtain ⟨a, b⟩ := srv_start h
    refine ⟨a, 3 * (x + y), 0, 0, 0, 0, 0, 0, 0, 0, b, by omega, by simp, ?_, ?_, by omega, by omega, by omega, by omega⟩
    · have := h.t; refine ⟨by omega, by omega, .inr ?_⟩; rcases this with e | e <;> rw [e] <;> simp
    · have := h.t; refine ⟨by omega, by omega, .inr ?_⟩; rcases this with e | e <;> rw [e] <;> simp
  | j + 1, hj => by
    obtain ⟨ha, rs, a1, a3, g1, g3, q0, q1, q2, q3, e, hr, hw, h1, h3, k0, k1, k2, k3⟩ := srv_at h j (by omega)
    have hit := srv_items h
    obtain ⟨eb, ea⟩ := full_bk c h.n (fullN (srvS x y) j) 0 (by omega)
    refine ⟨ea.trans ha, ?_⟩
    show ∃ rs a1 a3 g1 g3 q0 q1 q2 q3, (wFold c (fullOf (fullN (srvS x y) j))).1.bk 0 = _ ∧ _
    rw [eb, e, ha]
    have hx := h.x
    have hy := h.y
    have hcap : 1 ≤ (c.cap : Int) ∧ (c.cap : Int) ≤ 9 := by have := h.cap; omega
    have ht : (c.ticks : Int) = 1 ∨ (c.ticks : Int) = 2 := by have := h.t; omega
    generalize (c.cap : Int) = top at *
    generalize (c.ticks : Int) = t at *
    have ha13 : (0 ≤ a1 ∧ a1 ≤ x) ∧ (0 ≤ a3 ∧ a3 ≤ y) := by split at hw <;> omega
    have hrs : 4 ≤ rs := by omega
    have hnext : ∃ p0 p1 p2 p3, Bk.next ⟨top, t, (j : Int), rs, 3 * (x + y), [0, a1, 0, a3], [0, g1, 0, g3], [q0, q1, q2, q3]⟩ = ⟨top, t, (j : Int) + 1, rs, 3 * (x + y), [0, a1, 0, a3], [0, g1, 0, g3], [p0, p1, p2, p3]⟩ ∧ 0 ≤ p0 ∧ 0 ≤ p1 ∧ 0 ≤ p2 ∧ 0 ≤ p3 ∧
        ((j : Int) % t = 0 → 1 ≤ p0 ∧ 1 ≤ p1 ∧ 1 ≤ p2 ∧ 1 ≤ p3) := by
      unfold Bk.next Bk.epoch
      by_cases hbg : Bk.begins ⟨top, t, (j : Int), rs, 3 * (x + y), [0, a1, 0, a3], [0, g1, 0, g3], [q0, q1, q2, q3]⟩ = true
      · rw [if_pos hbg]
        obtain ⟨z0, z1, z2, z3, hq⟩ := list4 (show (shareV rs [top, top, top, top]).length = 4 by rw [shareV_length]; rfl)
        have hs := shareV_four hrs ⟨hcap.1, by omega⟩ hq
        refine ⟨z0, z1, z2, z3, ?_, by omega, by omega, by omega, by omega, fun _ => hs⟩
        show Bk.mk top t ((j : Int) + 1) rs (3 * (x + y)) [0, a1, 0, a3] [0, g1, 0, g3] (shareV rs [top, top, top, top]) = _
        rw [hq]
      · rw [if_neg hbg]
        refine ⟨q0, q1, q2, q3, rfl, k0, k1, k2, k3, fun hz => absurd ?_ hbg⟩
        simp [Bk.begins, hz]
    obtain ⟨p0, p1, p2, p3, en, m0, m1, m2, m3, hp⟩ := hnext
    rw [rounded4 en rfl]
    have hh : (Bk.hears ⟨top, t, (j : Int) + 1, rs - min (0 - 0) p0 - min (a1 - g1) p1 - min (0 - 0) p2 - min (a3 - g3) p3, 3 * (x + y), [0, a1, 0, a3], [0 + min (0 - 0) p0, g1 + min (a1 - g1) p1, 0 + min (0 - 0) p2, g3 + min (a3 - g3) p3], [p0 - min (0 - 0) p0, p1 - min (a1 - g1) p1, p2 - min (0 - 0) p2, p3 - min (a3 - g3) p3]⟩ (fun i => srvA x y i 0)) =
        ⟨top, t, (j : Int) + 1, rs - min (0 - 0) p0 - min (a1 - g1) p1 - min (0 - 0) p2 - min (a3 - g3) p3, 3 * (x + y), [max 0 0, max a1 x, max 0 0, max a3 y], [0 + min (0 - 0) p0, g1 + min (a1 - g1) p1, 0 + min (0 - 0) p2, g3 + min (a3 - g3) p3], [p0 - min (0 - 0) p0, p1 - min (a1 - g1) p1, p2 - min (0 - 0) p2, p3 - min (a3 - g3) p3]⟩ := by
      simp [Bk.hears, Bk.want, srvA]
    rw [hh]
    have f0 : max (0 : Int) 0 = 0 := by omega
    have f1 : (0 : Int) + min (0 - 0) p0 = 0 := by omega
    have f2 : (0 : Int) + min (0 - 0) p2 = 0 := by omega
    have f3 : max a1 x = x := by omega
    have f4 : max a3 y = y := by omega
    rw [f0, f1, f2, f3, f4]
    have one : ∀ w a g p : Int, 0 ≤ g → g ≤ a → a ≤ w → (j = 0 ∨ a = w) → 0 ≤ p → ((j : Int) % t = 0 → 1 ≤ p) → (w ≤ g ∨ (j : Int) ≤ g * t + t) →
        (w ≤ g + min (a - g) p ∨ ((j + 1 : Nat) : Int) ≤ (g + min (a - g) p) * t + t) := by
      intro w a g p hg hga haw hja hp0 hp1 hd
      rcases hja with hj0 | rfl
      · right
        have : 0 ≤ (g + min (a - g) p) * t := Int.mul_nonneg (by omega) (by omega)
        omega
      · rcases hd with hd | hd
        · left; omega
        · by_cases hw' : a ≤ g + min (a - g) p
          · exact .inl hw'
          · have hmin : min (a - g) p = p := by omega
            rw [hmin] at hw' ⊢
            right
            rw [Int.add_mul]
            rcases ht with rfl | rfl
            · have := hp1 (by omega)
              omega
            · by_cases hz : (j : Int) % 2 = 0
              · have := hp1 hz; omega
              · omega
    have hja : ∀ q : Int × Int, (j = 0 ∨ (a1 = x ∧ a3 = y)) := fun _ => by
      by_cases h0 : j = 0
      · exact .inl h0
      · rw [if_neg h0] at hw; exact .inr hw
    have o1 := one x a1 g1 p1 h1.1 h1.2.1 ha13.1.2 (by rcases hja (0, 0) with q | q; exact .inl q; exact .inr q.1) m1 (fun z => (hp z).2.1) h1.2.2
    have o3 := one y a3 g3 p3 h3.1 h3.2.1 ha13.2.2 (by rcases hja (0, 0) with q | q; exact .inl q; exact .inr q.2) m3 (fun z => (hp z).2.2.2) h3.2.2
    exact ⟨_, x, y, _, _, _, _, _, _, by rw [Int.natCast_add]; rfl, by omega, by simp, ⟨by omega, by omega, o1⟩, ⟨by omega, by omega, o3⟩, by omega, by omega, by omega, by omega⟩
structure SrvOk (s : Wld) (x y : Int) : Prop where
  a : (s.sh 1 0).free = x
  b : (s.sh 3 0).free = y
  c : (s.sh 0 0).free = 0
  d : s.asks 1 0 = x
theorem srv_fin {c : Cfg} {x y : Int} (h : SrvC c x y) (j : Nat) (hj : j + 1 = 10) : SrvOk (wFold c (fullN (srvS x y) (j + 1))).1 x y := by
  obtain ⟨ha, rs, a1, a3, g1, g3, q0, q1, q2, q3, e, hr, hw, h1, h3, -⟩ := srv_at h (j + 1) (by omega)
  have hit := srv_items h
  have hn := h.n
  have hlen : (fullN (srvS x y) j).length = 2 + 21 * j := by rw [fullN_len]; rfl
  have hlen2 : (fullN (srvS x y) (j + 1)).length = 2 + 21 * (j + 1) := by rw [fullN_len]; rfl
  have t1 := wFold_tinv c h.ok (fullN (srvS x y) j) (fullN (srvS x y) j).length (Nat.le_refl _) (by omega)
  have w1 := wFold_ok c h.ok (fullN (srvS x y) j) (fullN (srvS x y) j).length (Nat.le_refl _) (by omega)
  have t2 := wFold_tinv c h.ok (fullN (srvS x y) (j + 1)) (fullN (srvS x y) (j + 1)).length (Nat.le_refl _) (by omega)
  rw [List.take_of_length_le (Nat.le_refl _)] at t1 w1 t2
  have g : ∀ i k, i < 4 → k < c.items → (wFold c (fullN (srvS x y) (j + 1))).1.gain i k = ((wFold c (fullN (srvS x y) (j + 1))).1.bk k).granted.getD i 0 := full_gain c hn (fullN (srvS x y) j) (tinv_tick t1 w1)
  have nu := noUse_fold c (fullN (srvS x y) (j + 1)) (fullN_kinds (srv_kinds x y) (j + 1))
  generalize (wFold c (fullN (srvS x y) (j + 1))).1 = s at *
  have free : ∀ i, i < 4 → (s.sh i 0).free = (s.bk 0).granted.getD i 0 := fun i hi => by
    have a := t2.sh i 0 (by omega) (by omega)
    obtain ⟨u1, u2⟩ := nu i 0
    rw [g i 0 hi (by omega)] at a
    unfold Shf.all Shf.held at a
    rw [u1, u2, heldL_nil] at a
    omega
  have ht : (c.ticks : Int) = 1 ∨ (c.ticks : Int) = 2 := by have := h.t; omega
  have hx := h.x
  have hy := h.y
  rw [if_neg (by omega)] at hw
  obtain ⟨hw1, hw3⟩ := hw
  have e1 : g1 = x := by
    rcases h1.2.2 with q | q
    · omega
    · rcases ht with e' | e' <;> rw [e'] at q <;> omega
  have e3 : g3 = y := by
    rcases h3.2.2 with q | q
    · omega
    · rcases ht with e' | e' <;> rw [e'] at q <;> omega
  refine ⟨?_, ?_, ?_, ?_⟩
  · rw [free 1 (by omega), e, ← e1]; rfl
  · rw [free 3 (by omega), e, ← e3]; rfl
  · rw [free 0 (by omega), e]; rfl
  · rw [ha]; simp [srvA]
theorem srv_ok {c : Cfg} {x y : Int} (h : SrvC c x y) : SrvOk (wFold c (fullN (srvS x y) (9 + 1))).1 x y := srv_fin h 9 rfl
end Go.Proofs.YtjdedflfdlhkdaaDoor
