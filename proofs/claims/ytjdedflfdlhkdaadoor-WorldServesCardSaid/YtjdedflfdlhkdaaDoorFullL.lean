/- World, plain: behind a tick all of whose frames come. -/
import Derived.Test.YtjdedflfdlhkdaaDoorSumsL
import Derived.Test.YtjdedflfdlhkdaaDoorSwapL
namespace Go.Proofs.YtjdedflfdlhkdaaDoor
set_option linter.unusedVariables false
set_option linter.unusedSimpArgs false

/-- All letters of l come, in order. -/
def Wld.allOf (c : Cfg) (s : Wld) (l : List Let) : Wld := l.foldl (fun t x => t.comes c x) s
def Wld.opAt (s : Wld) (o : Int → Int → Int) : Wld := { s with op := o }
theorem allOf_nil (c : Cfg) (s : Wld) : s.allOf c [] = s := rfl
theorem allOf_cons (c : Cfg) (s : Wld) (x : Let) (l : List Let) : s.allOf c (x :: l) = (s.comes c x).allOf c l := rfl
theorem allOf_append (c : Cfg) (s : Wld) (l m : List Let) : s.allOf c (l ++ m) = (s.allOf c l).allOf c m := by unfold Wld.allOf; rw [List.foldl_append]
theorem comes_opAt (c : Cfg) (s : Wld) (o : Int → Int → Int) (x : Let) : (s.opAt o).comes c x = (s.comes c x).opAt o := by
  unfold Wld.comes
  cases x.m with
  | nums l => simp only; split <;> rfl
  | rum st => rfl
theorem allOf_same (c : Cfg) (l : List Let) : ∀ s : Wld, (s.allOf c l).ls = s.ls ∧ (s.allOf c l).op = s.op ∧ (s.allOf c l).lost = s.lost := by
  induction l with
  | nil => intro s; exact ⟨rfl, rfl, rfl⟩
  | cons x t ih =>
    intro s
    obtain ⟨a, b, d⟩ := ih (s.comes c x)
    obtain ⟨e, f, g⟩ := comes_same c s x
    rw [allOf_cons]
    exact ⟨a.trans e, b.trans f, d.trans g⟩
theorem full_to (c : Cfg) (hn : c.n = 4) (S : List Stp) (hf : Fresh (wFold c S).1) : ∀ m, m ≤ 20 → ∃ o, (wFold c (fullTo S m)).1 = (((wFold c S).1.ticked c).allOf c ((tickMsgs c (wFold c S).1).take m)).opAt o ∧ ∀ a b, o a b ≤ (((wFold c S).1.ls.length + m : Nat) : Int) := by
  intro m
  have hll := ls_len c hn S
  induction m with
  | zero =>
    intro _
    have e : fullTo S 0 = S ++ [tk9] := by simp [fullTo]
    rw [e, wFold_snoc]
    refine ⟨(wFold c S).1.op, ?_, fun a b => by simpa using hf.op a b⟩
    rfl
  | succ m ih =>
    intro hm
    obtain ⟨o, he, ho⟩ := ih (by omega)
    rw [fullTo_succ, wFold_snoc, ← hll]
    show ∃ o', (((wFold c (fullTo S m)).1.step c (dlv ((wFold c S).1.ls.length + m))).2 = _) ∧ _
    rw [he]
    generalize (wFold c S).1 = s at *
    obtain ⟨a1, a2, a3⟩ := allOf_same c ((tickMsgs c s).take m) (s.ticked c)
    have hl20 := tickMsgs_len c s hn
    have hls : ((((s.ticked c).allOf c ((tickMsgs c s).take m)).opAt o).ls) = s.ls ++ tickMsgs c s := a1
    have hlt : s.ls.length + m < ((((s.ticked c).allOf c ((tickMsgs c s).take m)).opAt o).ls).length := by rw [hls, List.length_append]; omega
    have hdue : (((s.ticked c).allOf c ((tickMsgs c s).take m)).opAt o).due ((s.ls.length + m : Nat) : Int) = 0 := by
      unfold Wld.due
      rw [if_neg (by omega), if_neg]
      rintro (q | q)
      · have q' : s.lost (s.ls.length + m) = true := by
          have e2 : ((((s.ticked c).allOf c ((tickMsgs c s).take m)).opAt o).lost) = s.lost := a3
          rw [e2, Int.toNat_natCast] at q; exact q
        have := hf.lost _ q'
        omega
      · unfold Wld.old at q
        have q' := of_decide_eq_true q
        have := ho ((((s.ticked c).allOf c ((tickMsgs c s).take m)).opAt o).from' ((s.ls.length + m : Nat) : Int).toNat) ((((s.ticked c).allOf c ((tickMsgs c s).take m)).opAt o).to' ((s.ls.length + m : Nat) : Int).toNat)
        have e3 : ((((s.ticked c).allOf c ((tickMsgs c s).take m)).opAt o).op) = o := rfl
        rw [e3] at q'
        rw [Int.toNat_natCast] at q' this
        omega
    have hx : (((((s.ticked c).allOf c ((tickMsgs c s).take m)).opAt o).ls)[s.ls.length + m]'hlt) = (tickMsgs c s)[m]'(by omega) := by
      have e4 : ∀ (L : List Let) (h1 : s.ls.length + m < L.length), L = s.ls ++ tickMsgs c s → L[s.ls.length + m]'h1 = (tickMsgs c s)[m]'(by omega) := by
        intro L h1 h2
        subst h2
        rw [List.getElem_append_right (by omega)]
        congr 1; omega
      exact e4 _ hlt hls
    have hst : (((s.ticked c).allOf c ((tickMsgs c s).take m)).opAt o).step c (dlv (s.ls.length + m)) = (((s.ticked c).allOf c ((tickMsgs c s).take m)).opAt o).deliver c ((s.ls.length + m : Nat) : Int) := rfl
    rw [hst, deliver_at c _ _ hlt, if_pos hdue, hx]
    refine ⟨updW o ((((s.ticked c).allOf c ((tickMsgs c s).take m)).opAt o).from' (s.ls.length + m)) ((((s.ticked c).allOf c ((tickMsgs c s).take m)).opAt o).to' (s.ls.length + m)) ((s.ls.length + m : Nat) + 1), ?_, fun a b => ?_⟩
    · rw [List.take_succ_eq_append_getElem (by omega), allOf_append, allOf_cons, allOf_nil]
      show (Wld.opAt _ _).comes c _ = _
      rw [comes_opAt, comes_opAt]
      rfl
    · unfold updW
      split
      · omega
      · have := ho a b; omega
theorem fullTo_20 (S : List Stp) : fullTo S 20 = fullOf S := rfl
theorem fold_fresh (c : Cfg) (S : List Stp) : Fresh (wFold c S).1 := by
  induction S using snoc_ind with
  | h0 => exact fresh0 c
  | hs l p ih => rw [wFold_snoc]; exact fresh_step ih p
/-- Behind a tick all of whose frames come: what was sent has come. -/
theorem full_all (c : Cfg) (hn : c.n = 4) (S : List Stp) : ∃ o, (wFold c (fullOf S)).1 = (((wFold c S).1.ticked c).allOf c (tickMsgs c (wFold c S).1)).opAt o := by
  obtain ⟨o, h, _⟩ := full_to c hn S (fold_fresh c S) 20 (Nat.le_refl _)
  refine ⟨o, ?_⟩
  rw [← fullTo_20, h, List.take_of_length_le (by rw [tickMsgs_len c _ hn]; omega)]
/-- Letters of branches change no gains. -/
def NoGive (c : Cfg) (x : Let) : Prop := ∀ l, x.m = .nums l → x.t = c.n
theorem comes_noGive (c : Cfg) (s : Wld) (x : Let) (h : NoGive c x) : (s.comes c x).gain = s.gain ∧ (s.comes c x).sh = s.sh := by
  unfold Wld.comes
  cases hx : x.m with
  | nums l => simp only; rw [if_pos (h l hx)]; exact ⟨rfl, rfl⟩
  | rum st => exact ⟨rfl, rfl⟩
theorem allOf_noGive (c : Cfg) : ∀ (l : List Let) (s : Wld), (∀ x ∈ l, NoGive c x) → (s.allOf c l).gain = s.gain ∧ (s.allOf c l).sh = s.sh
  | [], s, _ => ⟨rfl, rfl⟩
  | x :: t, s, h => by
    obtain ⟨a, b⟩ := comes_noGive c s x (h x List.mem_cons_self)
    obtain ⟨d, e⟩ := allOf_noGive c t (s.comes c x) (fun y hy => h y (List.mem_cons_of_mem _ hy))
    rw [allOf_cons]
    exact ⟨d.trans a, e.trans b⟩
theorem rows_noGive (c : Cfg) (s : Wld) (n : Nat) : ∀ x ∈ (List.range n).flatMap (rowMsg c s), NoGive c x := by
  intro x hx l hl
  obtain ⟨i, hi, hx⟩ := List.mem_flatMap.1 hx
  unfold rowMsg at hx
  rcases List.mem_cons.1 hx with rfl | hx
  · rfl
  · obtain ⟨j, hj, rfl⟩ := List.mem_map.1 hx
    simp [rumMsg] at hl
/-- Grants come to the first m branches. -/
theorem allOf_gives (c : Cfg) (u : Wld) : ∀ m (s : Wld), m ≤ c.n →
    (∀ i k, (s.allOf c ((List.range m).map (giveMsg c u))).gain i k = if i < m ∧ k < c.items ∧ s.gain i k < (u.bk k).rounded.granted.getD i 0 then (u.bk k).rounded.granted.getD i 0 else s.gain i k) ∧
    (s.allOf c ((List.range m).map (giveMsg c u))).bk = s.bk ∧ (s.allOf c ((List.range m).map (giveMsg c u))).asks = s.asks ∧ (s.allOf c ((List.range m).map (giveMsg c u))).st = s.st
  | 0, s, _ => ⟨fun i k => by rw [if_neg (by omega)]; rfl, rfl, rfl, rfl⟩
  | m + 1, s, hm => by
    obtain ⟨h1, h2, h3, h4⟩ := allOf_gives c u m s (by omega)
    rw [List.range_succ, List.map_append, List.map_cons, List.map_nil, allOf_append, allOf_cons, allOf_nil]
    have hne : ¬ (giveMsg c u m).t = c.n := by simp only [giveMsg]; omega
    have e : ∀ t : Wld, t.comes c (giveMsg c u m) = t.gains m ((List.range c.items).map fun k => ((u.bk k).rounded.granted.getD m 0)) := fun t => by
      unfold Wld.comes
      show (if (giveMsg c u m).t = c.n then _ else _) = _
      rw [if_neg hne]; rfl
    rw [e]
    refine ⟨fun i k => ?_, h2, h3, h4⟩
    simp only [Wld.gains, List.length_map, List.length_range]
    by_cases hi : i = m
    · subst hi
      have h1i : (s.allOf c ((List.range i).map (giveMsg c u))).gain i k = s.gain i k := by rw [h1]; exact if_neg (fun h => Nat.lt_irrefl _ h.1)
      rw [h1i]
      by_cases hk : k < c.items
      · rw [getD_map_range _ _ _ hk]
        by_cases hq : s.gain i k < (u.bk k).rounded.granted.getD i 0
        · rw [if_pos ⟨rfl, hk, hq⟩, if_pos ⟨by omega, hk, hq⟩]
        · rw [if_neg (fun h => hq h.2.2), if_neg (fun h => hq h.2.2)]
      · rw [if_neg (fun h => hk h.2.1), if_neg (fun h => hk h.2.1)]
    · rw [if_neg (fun h => hi h.1), h1]
      by_cases hq : i < m ∧ k < c.items ∧ s.gain i k < (u.bk k).rounded.granted.getD i 0
      · rw [if_pos hq, if_pos ⟨by omega, hq.2⟩]
      · rw [if_neg hq, if_neg (fun h => hq ⟨by omega, h.2⟩)]
/-- Letters of branches leave grants and reserves as they are. -/
theorem comes_granted (c : Cfg) (s : Wld) (x : Let) (k : Nat) : ((s.comes c x).bk k).granted = (s.bk k).granted ∧ ((s.comes c x).bk k).res = (s.bk k).res := by
  unfold Wld.comes
  cases hx : x.m with
  | nums l =>
    simp only
    split
    · simp only [Wld.wants]; split <;> exact ⟨rfl, rfl⟩
    · exact ⟨rfl, rfl⟩
  | rum st => exact ⟨rfl, rfl⟩
theorem allOf_granted (c : Cfg) : ∀ (l : List Let) (s : Wld) (k : Nat), ((s.allOf c l).bk k).granted = (s.bk k).granted ∧ ((s.allOf c l).bk k).res = (s.bk k).res
  | [], s, k => ⟨rfl, rfl⟩
  | x :: t, s, k => by
    obtain ⟨a, b⟩ := comes_granted c s x k
    obtain ⟨d, e⟩ := allOf_granted c t (s.comes c x) k
    rw [allOf_cons]
    exact ⟨d.trans a, e.trans b⟩
/-- Behind a tick all of whose frames come each has what it was granted. -/
theorem full_gain (c : Cfg) (hn : c.n = 4) (S : List Stp) (ht : TInv c ((wFold c S).1.ticked c)) : ∀ i k, i < 4 → k < c.items → (wFold c (fullOf S)).1.gain i k = ((wFold c (fullOf S)).1.bk k).granted.getD i 0 := by
  obtain ⟨o, e⟩ := full_all c hn S
  intro i k hi hk
  rw [e]
  generalize (wFold c S).1 = s at *
  show ((s.ticked c).allOf c (tickMsgs c s)).gain i k = (((s.ticked c).allOf c (tickMsgs c s)).bk k).granted.getD i 0
  rw [(allOf_granted c _ _ k).1]
  unfold tickMsgs
  rw [allOf_append, hn]
  obtain ⟨h1, _⟩ := allOf_gives c s 4 ((s.ticked c).allOf c ((List.range 4).flatMap (rowMsg c s))) (by omega)
  rw [h1, (allOf_noGive c _ _ (rows_noGive c s 4)).1]
  have := ht.gr i k (by omega) hk
  have e2 : ((s.ticked c).bk k) = (s.bk k).rounded := rfl
  rw [e2] at this ⊢
  split
  · rfl
  · next hq =>
    have hq' : ¬ ((s.ticked c).gain i k < (s.bk k).rounded.granted.getD i 0) := fun h => hq ⟨hi, hk, h⟩
    omega
/-- Sums: what the law wants. -/
structure SumsOk (c : Cfg) (s u : Wld) (k : Nat) : Prop where
  a : ∀ i, i < 4 → 0 ≤ (s.sh i k).free ∧ 0 ≤ (s.sh i k).held ∧ 0 ≤ (s.sh i k).used ∧ (s.sh i k).free ≤ 100 ∧ (s.sh i k).held ≤ 100 ∧ (s.sh i k).used ≤ 100
  b : ∀ i, i < 4 → 0 ≤ (u.sh i k).free ∧ 0 ≤ (u.sh i k).held ∧ 0 ≤ (u.sh i k).used ∧ (u.sh i k).free ≤ 100 ∧ (u.sh i k).held ≤ 100 ∧ (u.sh i k).used ≤ 100
  r : 0 ≤ (s.bk k).res ∧ (s.bk k).res ≤ c.minted.getD k 0
  q : 0 ≤ (u.bk k).res ∧ (u.bk k).res ≤ c.minted.getD k 0
  had : hasAll s k 4 + (s.bk k).res ≤ c.minted.getD k 0
  now : hasAll u k 4 + (u.bk k).res = c.minted.getD k 0
theorem hasAll_bd {s : Wld} {k : Nat} (h : ∀ i, i < 4 → 0 ≤ (s.sh i k).free ∧ 0 ≤ (s.sh i k).held ∧ 0 ≤ (s.sh i k).used ∧ (s.sh i k).free ≤ 100 ∧ (s.sh i k).held ≤ 100 ∧ (s.sh i k).used ≤ 100) : ∀ j, j ≤ 4 → 0 ≤ hasAll s k j ∧ hasAll s k j ≤ 300 * j
  | 0, _ => by simp [hasAll]
  | j + 1, hj => by
    have ih := hasAll_bd h j (by omega)
    have b := h j (by omega)
    simp only [hasAll, Shf.all]
    omega
theorem sums_each {c : Cfg} {K : Nat} {s : Wld} (hn : c.n = 4) (h : TInv c s) (w : WOk c K s) (k : Nat) (hk : k < c.items) (hm : c.minted.getD k 0 ≤ 59) : (∀ i, i < 4 → 0 ≤ (s.sh i k).free ∧ 0 ≤ (s.sh i k).held ∧ 0 ≤ (s.sh i k).used ∧ (s.sh i k).free ≤ 100 ∧ (s.sh i k).held ≤ 100 ∧ (s.sh i k).used ≤ 100) ∧ 0 ≤ (s.bk k).res := by
  have q := sold_ok hn h w k hk hm
  refine ⟨fun i hi => ?_, (w.bk k hk).res.1⟩
  have := q.bd i hi
  omega
theorem sums_ok (c : Cfg) (hc : c.Ok) (hn : c.n = 4) (S : List Stp) (hS : S.length ≤ 900) (k : Nat) (hk : k < c.items) (hm : c.minted.getD k 0 ≤ 59) : SumsOk c (wFold c S).1 (wFold c (fullOf S)).1 k := by
  have t1 := wFold_tinv c hc S S.length (Nat.le_refl _) (by omega)
  have w1 := wFold_ok c hc S S.length (Nat.le_refl _) (by omega)
  have hfl := fullOf_len S
  have t2 := wFold_tinv c hc (fullOf S) (fullOf S).length (Nat.le_refl _) (by omega)
  have w2 := wFold_ok c hc (fullOf S) (fullOf S).length (Nat.le_refl _) (by omega)
  rw [List.take_of_length_le (Nat.le_refl _)] at t1 w1 t2 w2
  have g := full_gain c hn S (tinv_tick t1 w1)
  obtain ⟨a, ar⟩ := sums_each hn t1 w1 k hk hm
  obtain ⟨b, br⟩ := sums_each hn t2 w2 k hk hm
  have had := (has_all hn t1 w1 k hk).1
  have now := (has_all hn t2 w2 k hk).2 (fun i hi => g i k hi hk)
  have h1 := hasAll_bd a 4 (by omega)
  have h2 := hasAll_bd b 4 (by omega)
  exact ⟨a, b, ⟨ar, by omega⟩, ⟨br, by omega⟩, had, now⟩
end Go.Proofs.YtjdedflfdlhkdaaDoor
