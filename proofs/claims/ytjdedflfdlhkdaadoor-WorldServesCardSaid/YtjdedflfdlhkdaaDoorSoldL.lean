/- World, plain: nobody has more than it was granted, nor is granted more than it asked for; of each item what was granted and what is left is what was minted. -/
import Derived.Test.YtjdedflfdlhkdaaDoorKan
import Derived.Test.YtjdedflfdlhkdaaDoorKau
import Derived.Test.YtjdedflfdlhkdaaDoorHoldSumsL
namespace Go.Proofs.YtjdedflfdlhkdaaDoor
set_option linter.unusedVariables false
set_option linter.unusedSimpArgs false

theorem ticked_all (s : Shf) : s.ticked.all = s.all := by
  have := next_all s ⟨7, 0, 0, 0⟩
  have e : s.next ⟨7, 0, 0, 0⟩ = s.ticked := by unfold Shf.next Shf.order; simp
  rw [e] at this
  rw [this]
  unfold gain
  rw [if_neg (by simp)]; omega
theorem gain_all (s : Shf) (h : s.Ok) (n : Int) (h1 : 1 ≤ n) (h2 : s.all + n ≤ 1048576) : (s.next ⟨1, n, 0, 0⟩).all = s.all + n := by
  unfold Shf.all at h2
  have hh := h.nonneg
  have h3 := h.free
  have h4 := h.used
  have e : s.next ⟨1, n, 0, 0⟩ = { s with free := s.free + n } := by
    unfold Shf.next Shf.order
    rw [if_neg (by simp only; omega), if_pos rfl, if_neg (by show ¬ (1048576 < s.free + s.held + s.used + n); omega)]
  rw [e]
  simp only [Shf.all, Shf.held]; omega
theorem other_all (s : Shf) (o : Ord) (h : o.kind ≠ 1) : (s.next o).all = s.all := by
  rw [next_all]; unfold gain; rw [if_neg (fun hh => h hh.1)]; omega
/-- A round of a book: grants grow, wants stay, nothing is lost. -/
structure BkGo (n : Nat) (b b' : Bk) : Prop where
  w : b'.wants = b.wants
  g : ∀ i, b.granted.getD i 0 ≤ b'.granted.getD i 0
  sum : b'.res + b'.granted.sum = b.res + b.granted.sum
  all : b'.all = b.all
theorem BkGo.refl (n : Nat) (b : Bk) : BkGo n b b := ⟨rfl, fun _ => Int.le_refl _, rfl, rfl⟩
theorem BkGo.trans {n : Nat} {a b c : Bk} (h : BkGo n a b) (k : BkGo n b c) : BkGo n a c := ⟨k.w.trans h.w, fun i => Int.le_trans (h.g i) (k.g i), k.sum.trans h.sum, k.all.trans h.all⟩
theorem BkGo.pay {n : Nat} {b : Bk} (h : BkOk n b) (k : Nat) (hk : k < n) : BkGo n b (b.pay k) := by
  obtain ⟨d0, d1, d2, d3⟩ := due_bd h k
  have hg : k < b.granted.length := by rw [h.lg]; exact hk
  refine ⟨rfl, fun i => ?_, ?_, rfl⟩
  · simp only [Bk.pay]
    by_cases e : k = i
    · subst e; rw [getD_set_same hg]; omega
    · rw [getD_set_ne e]; omega
  · simp only [Bk.pay]
    rw [sum_set _ _ hg]; omega
theorem BkGo.payTo {n : Nat} {b : Bk} (h : BkOk n b) : ∀ k, k ≤ n → BkGo n b (b.payTo k)
  | 0, _ => BkGo.refl n b
  | k + 1, hk => by rw [Bk.payTo_succ]; exact (BkGo.payTo h k (by omega)).trans (BkGo.pay (h.payTo k (by omega)) k (by omega))
theorem BkGo.rounded {n : Nat} {b : Bk} (h : BkOk n b) : BkGo n b b.rounded := by
  unfold Bk.rounded
  rw [h.lw]
  have hn : BkGo n b b.next := by unfold Bk.next Bk.epoch; split <;> exact ⟨rfl, fun _ => Int.le_refl _, rfl, rfl⟩
  exact hn.trans (BkGo.payTo h.next n (Nat.le_refl _))
/-- What always holds. -/
structure TInv (c : Cfg) (s : Wld) : Prop where
  sh : ∀ i k, i < c.n → k < c.items → (s.sh i k).all = s.gain i k
  gr : ∀ i k, i < c.n → k < c.items → s.gain i k ≤ (s.bk k).granted.getD i 0
  wa : ∀ i k, i < c.n → k < c.items → (s.bk k).wants.getD i 0 ≤ s.asks i k
  sum : ∀ k, k < c.items → (s.bk k).res + (s.bk k).granted.sum = c.minted.getD k 0
  ls : ∀ x ∈ s.ls, ∀ l, x.m = .nums l → (x.t = c.n → ∀ k, k < c.items → l.getD k 0 ≤ s.asks x.f k) ∧ (x.t ≠ c.n → ∀ k, k < c.items → l.getD k 0 ≤ (s.bk k).granted.getD x.t 0)
theorem tinv0 (c : Cfg) : TInv c (wld0 c) := by
  have hz : ∀ n j, (zerosI n).getD j 0 = 0 := fun n j => by unfold zerosI; rw [List.getD_eq_getElem?_getD, List.getElem?_replicate]; split <;> rfl
  refine ⟨fun i k _ _ => rfl, fun i k _ _ => ?_, fun i k _ _ => ?_, fun k _ => ?_, fun x hx => by simp [wld0] at hx⟩
  · show (0 : Int) ≤ (zerosI c.n).getD i 0
    rw [hz]; omega
  · show (zerosI c.n).getD i 0 ≤ 0
    rw [hz]; omega
  · show 0 + c.minted.getD k 0 + (zerosI c.n).sum = _
    rw [zeros_sum]; omega
theorem getD_map_range (n : Nat) (f : Nat → Int) (k : Nat) (h : k < n) : ((List.range n).map f).getD k 0 = f k := by simp [List.getD_eq_getElem?_getD, h]
theorem tinv_tick {c : Cfg} {K : Nat} {s : Wld} (h : TInv c s) (w : WOk c K s) : TInv c (s.ticked c) := by
  have hb : ∀ k, k < c.items → BkGo c.n (s.bk k) (s.bk k).rounded := fun k hk => BkGo.rounded (w.bk k hk)
  refine ⟨fun i k hi hk => ?_, fun i k hi hk => Int.le_trans (h.gr i k hi hk) ((hb k hk).g i), fun i k hi hk => ?_, fun k hk => ?_, fun x hx l hl => ?_⟩
  · simp only [Wld.ticked]; rw [ticked_all]; exact h.sh i k hi hk
  · simp only [Wld.ticked]; rw [(hb k hk).w]; exact h.wa i k hi hk
  · simp only [Wld.ticked]; rw [(hb k hk).sum]; exact h.sum k hk
  · simp only [Wld.ticked] at hx ⊢
    rcases List.mem_append.1 hx with hx | hx
    · have := h.ls x hx l hl
      exact ⟨this.1, fun ht k hk => Int.le_trans (this.2 ht k hk) ((hb k hk).g _)⟩
    · unfold tickMsgs at hx
      rcases List.mem_append.1 hx with hx | hx
      · obtain ⟨i, hi, hx⟩ := List.mem_flatMap.1 hx
        unfold rowMsg at hx
        rcases List.mem_cons.1 hx with rfl | hx
        · simp only [askMsg, Msg.nums.injEq] at hl
          subst hl
          refine ⟨fun _ k hk => ?_, fun ht => absurd rfl ht⟩
          rw [getD_map_range _ _ _ hk]; exact Int.le_refl _
        · obtain ⟨j, _, rfl⟩ := List.mem_map.1 hx
          simp [rumMsg] at hl
      · obtain ⟨i, hi, rfl⟩ := List.mem_map.1 hx
        rw [List.mem_range] at hi
        simp only [giveMsg, Msg.nums.injEq] at hl
        subst hl
        refine ⟨fun ht => by simp only [giveMsg] at ht; omega, fun _ k hk => ?_⟩
        rw [getD_map_range _ _ _ hk]
        exact Int.le_refl _
theorem tinv_same {c : Cfg} {s s' : Wld} (h : TInv c s) (h1 : ∀ i k, (s'.sh i k).all = (s.sh i k).all) (h2 : s'.gain = s.gain) (h3 : s'.bk = s.bk) (h4 : ∀ i k, s.asks i k ≤ s'.asks i k) (h5 : s'.ls = s.ls) : TInv c s' :=
  ⟨fun i k hi hk => by rw [h1, h2]; exact h.sh i k hi hk, fun i k hi hk => by rw [h2, h3]; exact h.gr i k hi hk, fun i k hi hk => by rw [h3]; exact Int.le_trans (h.wa i k hi hk) (h4 i k), fun k hk => by rw [h3]; exact h.sum k hk, fun x hx l hl => by
    rw [h5] at hx
    have := h.ls x hx l hl
    exact ⟨fun ht k hk => Int.le_trans (this.1 ht k hk) (h4 _ _), fun ht k hk => by rw [h3]; exact this.2 ht k hk⟩⟩
theorem tinv_comes {c : Cfg} {K : Nat} {s : Wld} (h : TInv c s) (w : WOk c K s) (x : Let) (hx : x ∈ s.ls) : TInv c (s.comes c x) := by
  have hxo := w.ls x hx
  have hm := hxo.m
  unfold Wld.comes
  cases hxm : x.m with
  | nums l =>
    rw [hxm] at hm
    simp only at hm ⊢
    have hl := h.ls x hx l hxm
    split
    · next ht =>
      have hf : x.f < c.n := by rcases hm.1 with q | q <;> omega
      have hlen : l.length = c.items := hm.2.1
      refine ⟨h.sh, fun i k hi hk => ?_, fun i k hi hk => ?_, fun k hk => ?_, fun y hy l' hl' => ?_⟩
      · simp only [Wld.wants]; split <;> exact h.gr i k hi hk
      · simp only [Wld.wants]
        split
        · simp only [Bk.want]
          by_cases e : x.f = i
          · subst e
            rw [getD_set_same (by rw [(w.bk k hk).lw]; exact hi)]
            have a := h.wa _ k hi hk
            have b := hl.1 ht k hk
            omega
          · rw [getD_set_ne e]; exact h.wa i k hi hk
        · exact h.wa i k hi hk
      · simp only [Wld.wants]; split <;> exact h.sum k hk
      · have := h.ls y hy l' hl'
        refine ⟨this.1, fun ht k hk => ?_⟩
        simp only [Wld.wants]
        split <;> exact this.2 ht k hk
    · next ht =>
      have hti : x.t < c.n := by rcases hm.1 with q | q <;> omega
      have hlen : l.length = c.items := hm.2.1
      refine ⟨fun i k hi hk => ?_, fun i k hi hk => ?_, h.wa, h.sum, h.ls⟩
      · simp only [Wld.gains]
        split
        · next hh =>
          obtain ⟨rfl, h1, h2⟩ := hh
          have e := h.sh _ k hi hk
          have hb : l.getD k 0 ≤ 1048576 := by
            have : l.getD k 0 = l[k]'h1 := by simp [List.getD_eq_getElem?_getD, h1]
            rw [this]; exact (hm.2.2 _ (List.getElem_mem _)).2
          rw [gain_all _ (w.sh _ k hi hk) _ (by omega) (by rw [e]; omega), e]; omega
        · exact h.sh i k hi hk
      · simp only [Wld.gains]
        split
        · next hh =>
          obtain ⟨rfl, h1, h2⟩ := hh
          exact hl.2 ht k hk
        · exact h.gr i k hi hk
  | rum st =>
    simp only
    exact tinv_same h (fun _ _ => rfl) rfl rfl (fun _ _ => Int.le_refl _) rfl
theorem tinv_step {c : Cfg} {K : Nat} {s : Wld} (h : TInv c s) (w : WOk c K s) (p : Stp) : TInv c (s.step c p).2 := by
  have hs : ∀ s' : Wld, s'.sh = s.sh → s'.gain = s.gain → s'.bk = s.bk → s'.asks = s.asks → s'.ls = s.ls → TInv c s' := fun s' a b d e f => tinv_same h (fun i k => by rw [a]) b d (fun i k => by rw [e]; exact Int.le_refl _) f
  unfold Wld.step
  split
  · exact tinv_tick h w
  split
  · unfold Wld.deliver
    split
    · exact h
    split
    · exact h
    split
    · exact h
    · rename_i x hx
      exact tinv_comes (s := s.opens p.id.toNat) (K := K) (hs (s.opens p.id.toNat) rfl rfl rfl rfl rfl) (opens_ok w _) x (List.mem_of_getElem? hx)
  split
  · unfold Wld.lose
    split
    · exact hs _ rfl rfl rfl rfl rfl
    · exact h
  split
  · exact h
  split
  · exact h
  rename_i h9 h10 h11 hk hw
  simp only
  unfold Wld.client
  split
  · unfold Wld.entry
    repeat' split
    all_goals first | exact h | exact hs _ rfl rfl rfl rfl rfl
  split
  · exact h
  split
  · split
    · exact h
    split
    · exact h
    · refine tinv_same h (fun _ _ => rfl) rfl rfl (fun i k => ?_) rfl
      simp only [upd2]
      split
      · next hh => rw [hh.1, hh.2]; omega
      · exact Int.le_refl _
  · next hk1 =>
    refine tinv_same h (fun i k => ?_) rfl rfl (fun _ _ => Int.le_refl _) rfl
    simp only [upd2]
    split
    · next hh => rw [hh.1, hh.2, other_all _ _ hk1]
    · rfl
theorem wFold_tinv (c : Cfg) (hc : c.Ok) (l : List Stp) : ∀ n, n ≤ l.length → n ≤ 1000 → TInv c (wFold c (l.take n)).1 := by
  intro n
  induction n with
  | zero => intro _ _; exact tinv0 c
  | succ n ih =>
    intro h1 h2
    rw [List.take_succ_eq_append_getElem (by omega), wFold_snoc]
    exact tinv_step (ih (by omega) (by omega)) (wFold_ok c hc l n (by omega) (by omega)) _
/-- What the first j branches have used of item k. -/
def usedTo (s : Wld) (k : Nat) : Nat → Int
  | 0 => 0
  | j + 1 => usedTo s k j + (s.sh j k).used
structure SoldOk (c : Cfg) (s : Wld) (k : Nat) : Prop where
  bd : ∀ i, i < 4 → 0 ≤ (s.sh i k).free ∧ 0 ≤ (s.sh i k).held ∧ 0 ≤ (s.sh i k).used ∧ (s.sh i k).free + (s.sh i k).held + (s.sh i k).used ≤ s.asks i k ∧ (s.sh i k).free + (s.sh i k).held + (s.sh i k).used ≤ 100
  all : usedTo s k 4 ≤ c.minted.getD k 0
  asks : ∀ i, i < 4 → s.asks i k ≤ 1048576
theorem sold_ok {c : Cfg} {K : Nat} {s : Wld} (hn : c.n = 4) (h : TInv c s) (w : WOk c K s) (k : Nat) (hk : k < c.items) (hm : c.minted.getD k 0 ≤ 59) : SoldOk c s k := by
  have hb := w.bk k hk
  have hsum := h.sum k hk
  have hres := hb.res.1
  have hg := fun i => (hb.want i)
  have hle := fun i => (le_sum (s.bk k).granted i (fun j => (hb.want j).1)).2
  have each : ∀ i, i < 4 → 0 ≤ (s.sh i k).free ∧ 0 ≤ (s.sh i k).held ∧ 0 ≤ (s.sh i k).used ∧ (s.sh i k).free + (s.sh i k).held + (s.sh i k).used ≤ (s.bk k).granted.getD i 0 := fun i hi => by
    have q := w.sh i k (by omega) hk
    have e := h.sh i k (by omega) hk
    have g := h.gr i k (by omega) hk
    unfold Shf.all at e
    exact ⟨q.free, q.nonneg, q.used, by omega⟩
  refine ⟨fun i hi => ?_, ?_, fun i hi => (w.asks i k (by omega) hk).2⟩
  · have a := each i hi
    have b := hg i
    have d := h.wa i k (by omega) hk
    have e := hle i
    exact ⟨a.1, a.2.1, a.2.2.1, by omega, by omega⟩
  · have hl : (s.bk k).granted.length = 4 := by rw [hb.lg, hn]
    have a0 := each 0 (by omega)
    have a1 := each 1 (by omega)
    have a2 := each 2 (by omega)
    have a3 := each 3 (by omega)
    match hgr : (s.bk k).granted, hl with
    | [x0, x1, x2, x3], _ =>
      rw [hgr] at a0 a1 a2 a3 hsum
      simp only [List.getD_cons_zero, List.getD_cons_succ, List.sum_cons, List.sum_nil] at a0 a1 a2 a3 hsum
      simp only [usedTo]
      omega
theorem used_bd {c : Cfg} {s : Wld} {k : Nat} (h : SoldOk c s k) : ∀ j, j ≤ 4 → 0 ≤ usedTo s k j ∧ usedTo s k j ≤ 100 * j
  | 0, _ => by simp [usedTo]
  | j + 1, hj => by
    have ih := used_bd h j (by omega)
    have b := h.bd j (by omega)
    simp only [usedTo]
    omega
end Go.Proofs.YtjdedflfdlhkdaaDoor
