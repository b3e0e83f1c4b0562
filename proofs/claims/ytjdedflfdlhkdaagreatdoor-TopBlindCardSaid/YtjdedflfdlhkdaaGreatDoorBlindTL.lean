/- World, plain: nobody learns of others more than reports and labels tell. -/
import Derived.Test.YtjdedflfdlhkdaaGreatDoorWViewL
namespace Go.Proofs.YtjdedflfdlhkdaaGreatDoor
set_option linter.unusedVariables false

inductive All2 (R : Let → Let → Prop) : List Let → List Let → Prop
  | nil : All2 R [] []
  | cons {x y : Let} {l m : List Let} : R x y → All2 R l m → All2 R (x :: l) (y :: m)
theorem All2.append {R : Let → Let → Prop} {a b l m : List Let} (h : All2 R a b) (k : All2 R l m) : All2 R (a ++ l) (b ++ m) := by
  induction h with
  | nil => exact k
  | cons h1 _ ih => exact .cons h1 ih
theorem All2.get {R : Let → Let → Prop} {l m : List Let} (h : All2 R l m) : l.length = m.length ∧ ∀ (i : Nat) (x y : Let), l[i]? = some x → m[i]? = some y → R x y := by
  induction h with
  | nil => exact ⟨rfl, fun i x y h => by simp at h⟩
  | cons h1 _ ih =>
    refine ⟨by rw [List.length_cons, List.length_cons, ih.1], fun i x y hx hy => ?_⟩
    cases i with
    | zero =>
      simp only [List.getElem?_cons_zero, Option.some.injEq] at hx hy
      subst hx hy; exact h1
    | succ i => rw [List.getElem?_cons_succ] at hx hy; exact ih.2 i x y hx hy
theorem all2_map {R : Let → Let → Prop} (f g : Nat → Let) : ∀ (l : List Nat), (∀ i ∈ l, R (f i) (g i)) → All2 R (l.map f) (l.map g)
  | [], _ => .nil
  | a :: t, h => .cons (h a List.mem_cons_self) (all2_map f g t fun i hi => h i (List.mem_cons_of_mem _ hi))
theorem all2_flat {R : Let → Let → Prop} (f g : Nat → List Let) : ∀ (l : List Nat), (∀ i ∈ l, All2 R (f i) (g i)) → All2 R (l.flatMap f) (l.flatMap g)
  | [], _ => .nil
  | a :: t, h => by rw [List.flatMap_cons, List.flatMap_cons]; exact (h a List.mem_cons_self).append (all2_flat f g t fun i hi => h i (List.mem_cons_of_mem _ hi))
def Sees (c : Cfg) (X j : Nat) : Prop := ∃ i, i < c.n ∧ X.testBit i = true ∧ lb c.labs j i = true
structure LetR (c : Cfg) (X : Nat) (x y : Let) : Prop where
  f : x.f = y.f
  t : x.t = y.t
  m : (∃ l l', x.m = .nums l ∧ y.m = .nums l' ∧ l.length = l'.length ∧ (x.t = c.n → X.testBit x.f = true → l = l') ∧ (x.t ≠ c.n → X.testBit x.t = true → l = l')) ∨ (∃ st st', x.m = .rum st ∧ y.m = .rum st' ∧ ∀ j, Sees c X j → st j = st' j)
structure BkR (n X : Nat) (b b' : Bk) : Prop where
  m : b.most = b'.most
  t : b.ticks = b'.ticks
  r : b.round = b'.round
  w : ∀ i, i < n → X.testBit i = true → b.wants.getD i 0 = b'.wants.getD i 0
  g : ∀ i, i < n → X.testBit i = true → b.granted.getD i 0 = b'.granted.getD i 0
  q : ∀ i, i < n → X.testBit i = true → b.quota.getD i 0 = b'.quota.getD i 0
structure WR (c : Cfg) (X : Nat) (s u : Wld) : Prop where
  sh : ∀ i, X.testBit i = true → s.sh i = u.sh i
  asks : ∀ i, X.testBit i = true → s.asks i = u.asks i
  gain : ∀ i, X.testBit i = true → s.gain i = u.gain i
  st : ∀ i j, Sees c X j → s.st i j = u.st i j
  bk : ∀ k, k < c.items → BkR c.n X (s.bk k) (u.bk k)
  ls : All2 (LetR c X) s.ls u.ls
  op : s.op = u.op
  lost : s.lost = u.lost
theorem WR.zero (c : Cfg) (X : Nat) : WR c X (wld0 c) (wld0 c) := ⟨fun _ _ => rfl, fun _ _ => rfl, fun _ _ => rfl, fun _ _ _ => rfl, fun _ _ => ⟨rfl, rfl, rfl, fun _ _ _ => rfl, fun _ _ _ => rfl, fun _ _ _ => rfl⟩, .nil, rfl, rfl⟩
structure HidW (c : Cfg) (X : Nat) (s u : Wld) : Prop where
  sh : ∀ i, X.testBit i = true → s.sh i = u.sh i
  asks : ∀ i, X.testBit i = true → s.asks i = u.asks i
  gain : ∀ i, X.testBit i = true → s.gain i = u.gain i
  st : ∀ i j, Sees c X j → s.st i j = u.st i j
  bk : u.bk = s.bk
  ls : u.ls = s.ls
  op : u.op = s.op
  lost : u.lost = s.lost
theorem HidW.refl (c : Cfg) (X : Nat) (s : Wld) : HidW c X s s := ⟨fun _ _ => rfl, fun _ _ => rfl, fun _ _ => rfl, fun _ _ _ => rfl, rfl, rfl, rfl, rfl⟩
theorem WR.hid {c : Cfg} {X : Nat} {s u s' u' : Wld} (h : WR c X s u) (a : HidW c X s s') (b : HidW c X u u') : WR c X s' u' :=
  ⟨fun i hi => ((a.sh i hi).symm.trans (h.sh i hi)).trans (b.sh i hi), fun i hi => ((a.asks i hi).symm.trans (h.asks i hi)).trans (b.asks i hi), fun i hi => ((a.gain i hi).symm.trans (h.gain i hi)).trans (b.gain i hi), fun i j hj => ((a.st i j hj).symm.trans (h.st i j hj)).trans (b.st i j hj),
   fun k hk => by rw [a.bk, b.bk]; exact h.bk k hk, by rw [a.ls, b.ls]; exact h.ls, by rw [a.op, b.op]; exact h.op, by rw [a.lost, b.lost]; exact h.lost⟩
theorem hid_client {c : Cfg} {X : Nat} (s : Wld) (i : Nat) (p : Stp) (hi : X.testBit i = false) (hp : (p.kind = 7 ∨ p.kind = 8) → ¬ Sees c X p.label.toNat) : HidW c X s (s.client c i p).2 := by
  have ne : ∀ x, X.testBit x = true → x ≠ i := fun x hx e => by subst e; rw [hi] at hx; simp at hx
  unfold Wld.client
  split
  · rename_i hk
    have hs := hp hk
    unfold Wld.entry
    split
    · exact HidW.refl _ _ _
    split
    · exact HidW.refl _ _ _
    split
    · refine ⟨fun _ _ => rfl, fun _ _ => rfl, fun _ _ => rfl, fun x j hj => ?_, rfl, rfl, rfl, rfl⟩
      show _ = upd2 s.st _ _ _ x j
      rw [upd2_ne _ _ (fun e => hs (by rw [← e.2]; exact hj))]
    split <;> exact HidW.refl _ _ _
  split
  · exact HidW.refl _ _ _
  split
  · split
    · exact HidW.refl _ _ _
    split
    · exact HidW.refl _ _ _
    · refine ⟨fun _ _ => rfl, fun x hx => ?_, fun _ _ => rfl, fun _ _ _ => rfl, rfl, rfl, rfl, rfl⟩
      funext k
      show _ = upd2 s.asks _ _ _ x k
      rw [upd2_ne _ _ (fun e => ne x hx e.1)]
  · refine ⟨fun x hx => ?_, fun _ _ => rfl, fun _ _ => rfl, fun _ _ _ => rfl, rfl, rfl, rfl, rfl⟩
    funext k
    show _ = upd2 s.sh _ _ _ x k
    rw [upd2_ne _ _ (fun e => ne x hx e.1)]
theorem client_told {c : Cfg} (s : Wld) (i : Nat) (p : Stp) : (s.client c i p).1.sent = [] ∧ (s.client c i p).1.report = [] := by
  unfold Wld.client Wld.entry
  repeat' split
  all_goals exact ⟨rfl, rfl⟩
theorem client_same {c : Cfg} {X : Nat} {s u : Wld} (h : WR c X s u) (i : Nat) (hin : i < c.n) (p : Stp) (hi : X.testBit i = true) : (s.client c i p).1 = (u.client c i p).1 ∧ WR c X (s.client c i p).2 (u.client c i p).2 := by
  have e1 := h.sh i hi
  have e2 := h.asks i hi
  unfold Wld.client
  split
  · unfold Wld.entry
    split
    · exact ⟨rfl, h⟩
    split
    · exact ⟨rfl, h⟩
    rename_i hl
    have hs : Sees c X p.label.toNat := ⟨i, hin, hi, by simpa using hl⟩
    have e3 := h.st i _ hs
    split
    · refine ⟨rfl, h.sh, h.asks, h.gain, fun x j hj => ?_, h.bk, h.ls, h.op, h.lost⟩
      show upd2 s.st _ _ _ x j = upd2 u.st _ _ _ x j
      simp only [upd2]
      rw [e3]
      split
      · rfl
      · exact h.st x j hj
    · rw [e3]
      split
      · exact ⟨rfl, h⟩
      · exact ⟨rfl, h⟩
  split
  · exact ⟨rfl, h⟩
  split
  · split
    · exact ⟨rfl, h⟩
    rw [e2]
    split
    · exact ⟨rfl, h⟩
    · refine ⟨rfl, h.sh, fun x hx => ?_, h.gain, h.st, h.bk, h.ls, h.op, h.lost⟩
      funext k
      show upd2 s.asks _ _ _ x k = upd2 u.asks _ _ _ x k
      simp only [upd2]
      rw [h.asks x hx]
  · simp only
    rw [e1]
    refine ⟨rfl, fun x hx => ?_, h.asks, h.gain, h.st, h.bk, h.ls, h.op, h.lost⟩
    funext k
    show upd2 s.sh _ _ _ x k = upd2 u.sh _ _ _ x k
    simp only [upd2]
    rw [h.sh x hx]
theorem client_hid {c : Cfg} {X : Nat} {s u : Wld} (h : WR c X s u) (i : Nat) (p : Stp) (hi : X.testBit i = false) : WR c X (s.client c i p).2 (u.client c i p).2 := by
  by_cases hk : (p.kind = 7 ∨ p.kind = 8) ∧ Sees c X p.label.toNat
  · obtain ⟨hk, hs⟩ := hk
    have e3 := h.st i _ hs
    unfold Wld.client
    rw [if_pos hk, if_pos hk]
    unfold Wld.entry
    split
    · exact h
    split
    · exact h
    split
    · refine ⟨h.sh, h.asks, h.gain, fun x j hj => ?_, h.bk, h.ls, h.op, h.lost⟩
      show upd2 s.st _ _ _ x j = upd2 u.st _ _ _ x j
      simp only [upd2]
      rw [e3]
      split
      · rfl
      · exact h.st x j hj
    · rw [e3]
      split
      · exact h
      · exact h
  · have hp : (p.kind = 7 ∨ p.kind = 8) → ¬ Sees c X p.label.toNat := fun a b => hk ⟨a, b⟩
    exact h.hid (hid_client s i p hi hp) (hid_client u i p hi hp)
theorem due_eq {n X : Nat} {b b' : Bk} (h : BkR n X b b') (i : Nat) (hi : i < n) (hX : X.testBit i = true) : b.due i = b'.due i := by
  unfold Bk.due; rw [h.w i hi hX, h.g i hi hX, h.q i hi hX]
theorem BkR.pay {n X : Nat} {b b' : Bk} (h : BkR n X b b') (o : BkOk n b) (o' : BkOk n b') (k : Nat) (hk : k < n) : BkR n X (b.pay k) (b'.pay k) := by
  refine ⟨h.m, h.t, h.r, h.w, fun i hi hX => ?_, fun i hi hX => ?_⟩
  · simp only [Bk.pay]
    by_cases e : k = i
    · subst e
      rw [getD_set_same (by rw [o.lg]; exact hk), getD_set_same (by rw [o'.lg]; exact hk), h.g k hk hX, due_eq h k hk hX]
    · rw [getD_set_ne e, getD_set_ne e]; exact h.g i hi hX
  · simp only [Bk.pay]
    by_cases e : k = i
    · subst e
      rw [getD_set_same (by rw [o.lq]; exact hk), getD_set_same (by rw [o'.lq]; exact hk), h.q k hk hX, due_eq h k hk hX]
    · rw [getD_set_ne e, getD_set_ne e]; exact h.q i hi hX
theorem BkR.payTo {n X : Nat} {b b' : Bk} (h : BkR n X b b') (o : BkOk n b) (o' : BkOk n b') : ∀ k, k ≤ n → BkR n X (b.payTo k) (b'.payTo k)
  | 0, _ => h
  | k + 1, hk => by rw [Bk.payTo_succ, Bk.payTo_succ]; exact (BkR.payTo h o o' k (by omega)).pay (o.payTo k (by omega)) (o'.payTo k (by omega)) k (by omega)
theorem BkR.begins {n X : Nat} {b b' : Bk} (h : BkR n X b b') : b.begins = b'.begins := by unfold Bk.begins; rw [h.r, h.t]
theorem BkR.rounded {n X : Nat} {b b' : Bk} (h : BkR n X b b') (o : BkOk n b) (o' : BkOk n b') (hr : b.begins = true → b.res = b'.res) : BkR n X b.rounded b'.rounded := by
  have hn : BkR n X b.next b'.next := by
    unfold Bk.next Bk.epoch
    by_cases e : b.begins = true
    · rw [if_pos e, if_pos (by rw [← h.begins]; exact e)]
      refine ⟨h.m, h.t, by show b.round + 1 = b'.round + 1; rw [h.r], h.w, h.g, fun i _ _ => ?_⟩
      show (shareV b.res (List.replicate b.wants.length b.most)).getD i 0 = (shareV b'.res (List.replicate b'.wants.length b'.most)).getD i 0
      rw [hr e, h.m, o.lw, o'.lw]
    · rw [if_neg e, if_neg (by rw [← h.begins]; exact e)]
      exact ⟨h.m, h.t, by show b.round + 1 = b'.round + 1; rw [h.r], h.w, h.g, h.q⟩
  unfold Bk.rounded
  rw [o.lw, o'.lw]
  exact hn.payTo o.next o'.next n (Nat.le_refl _)
theorem filter_same (f g : Nat → Int) : ∀ (l : List Nat), (∀ k ∈ l, (0 ≤ f k ↔ 0 ≤ g k)) → (l.map f).filter (fun r => decide (0 ≤ r)) = (l.map g).filter (fun r => decide (0 ≤ r)) → ∀ k ∈ l, 0 ≤ f k → f k = g k
  | [], _, _, k, hk, _ => by simp at hk
  | a :: t, h, he, k, hk, h0 => by
    have ha := h a List.mem_cons_self
    by_cases q : 0 ≤ f a
    · have q' := ha.1 q
      rw [List.map_cons, List.map_cons, List.filter_cons_of_pos (by simpa using q), List.filter_cons_of_pos (by simpa using q'), List.cons.injEq] at he
      rcases List.mem_cons.1 hk with rfl | hk
      · exact he.1
      · exact filter_same f g t (fun k hk => h k (List.mem_cons_of_mem _ hk)) he.2 k hk h0
    · have q' : ¬ 0 ≤ g a := fun x => q (ha.2 x)
      rw [List.map_cons, List.map_cons, List.filter_cons_of_neg (by simpa using q), List.filter_cons_of_neg (by simpa using q')] at he
      rcases List.mem_cons.1 hk with rfl | hk
      · exact absurd h0 q
      · exact filter_same f g t (fun k hk => h k (List.mem_cons_of_mem _ hk)) he k hk h0
theorem res_same {c : Cfg} {X K : Nat} {s u : Wld} (h : WR c X s u) (ws : WOk c K s) (wu : WOk c K u) (hr : reportsOf c s = reportsOf c u) (k : Nat) (hk : k < c.items) (hb : (s.bk k).begins = true) : (s.bk k).res = (u.bk k).res := by
  have key := filter_same (fun k => (s.bk k).report) (fun k => (u.bk k).report) (List.range c.items) (fun k hk => by
    have hk := List.mem_range.1 hk
    have a := (ws.bk k hk).res.1
    have b := (wu.bk k hk).res.1
    simp only [Bk.report]
    rw [← (h.bk k hk).begins]
    split <;> omega) hr k (List.mem_range.2 hk)
  have hb' : (u.bk k).begins = true := by rw [← (h.bk k hk).begins]; exact hb
  simp only [Bk.report, if_pos hb, if_pos hb'] at key
  exact key (ws.bk k hk).res.1
theorem tick_same {c : Cfg} {X K : Nat} {s u : Wld} (h : WR c X s u) (ws : WOk c K s) (wu : WOk c K u) (hr : reportsOf c s = reportsOf c u) : WR c X (s.ticked c) (u.ticked c) := by
  have hb : ∀ k, k < c.items → BkR c.n X (s.bk k).rounded (u.bk k).rounded := fun k hk => (h.bk k hk).rounded (ws.bk k hk) (wu.bk k hk) (res_same h ws wu hr k hk)
  refine ⟨fun i hi => ?_, h.asks, h.gain, h.st, hb, ?_, h.op, h.lost⟩
  · funext k
    show (s.sh i k).ticked = (u.sh i k).ticked
    rw [h.sh i hi]
  · refine h.ls.append ?_
    unfold tickMsgs
    refine (all2_flat _ _ _ fun i hi => ?_).append (all2_map _ _ _ fun i hi => ?_)
    · unfold rowMsg
      refine .cons ⟨rfl, rfl, .inl ⟨_, _, rfl, rfl, by simp, fun _ hX => ?_, fun hne => absurd rfl hne⟩⟩ (all2_map _ _ _ fun j hj => ⟨rfl, rfl, .inr ⟨_, _, rfl, rfl, fun j hj => h.st i j hj⟩⟩)
      rw [h.asks i hX]
    · have hi := List.mem_range.1 hi
      refine ⟨rfl, rfl, .inl ⟨_, _, rfl, rfl, by simp, fun e _ => absurd e (by simp only [giveMsg]; omega), fun _ hX => ?_⟩⟩
      refine List.map_congr_left fun k hk => ?_
      exact (hb k (List.mem_range.1 hk)).g i hi hX
theorem comes_rel {c : Cfg} {X K : Nat} {s u : Wld} (h : WR c X s u) (ws : WOk c K s) (wu : WOk c K u) {x y : Let} (hx : LetR c X x y) (ox : x.Ok c K) (oy : y.Ok c K) : WR c X (s.comes c x) (u.comes c y) := by
  unfold Wld.comes
  rcases hx.m with ⟨l, l', e1, e2, hl, ha, hg⟩ | ⟨st, st', e1, e2, hs⟩
  · have mo := ox.m
    rw [e1] at mo
    simp only at mo
    rw [e1, e2]
    simp only
    rw [← hx.t]
    split
    · rename_i ht
      have hf : x.f < c.n := by rcases mo.1 with q | q <;> omega
      refine ⟨h.sh, h.asks, h.gain, h.st, fun k hk => ?_, h.ls, h.op, h.lost⟩
      have hb := h.bk k hk
      simp only [Wld.wants]
      rw [← hl, mo.2.1, if_pos hk, if_pos hk, ← hx.f]
      refine ⟨hb.m, hb.t, hb.r, fun i hi hX => ?_, hb.g, hb.q⟩
      simp only [Bk.want]
      by_cases e : x.f = i
      · rw [e] at hf ⊢
        rw [getD_set_same (by rw [(ws.bk k hk).lw]; exact hf), getD_set_same (by rw [(wu.bk k hk).lw]; exact hf), hb.w i hi hX, ha ht (by rw [e]; exact hX)]
      · rw [getD_set_ne e, getD_set_ne e]; exact hb.w i hi hX
    · rename_i ht
      refine ⟨fun i hX => ?_, h.asks, fun i hX => ?_, h.st, h.bk, h.ls, h.op, h.lost⟩
      · funext k
        simp only [Wld.gains]
        by_cases e : i = x.t
        · have := hg ht (by rw [← e]; exact hX)
          subst this
          rw [← e, h.sh i hX, h.gain i hX]
        · rw [if_neg (fun q => e q.1), if_neg (fun q => e q.1), h.sh i hX]
      · funext k
        simp only [Wld.gains]
        by_cases e : i = x.t
        · have := hg ht (by rw [← e]; exact hX)
          subst this
          rw [← e, h.gain i hX]
        · rw [if_neg (fun q => e q.1), if_neg (fun q => e q.1), h.gain i hX]
  · rw [e1, e2]
    simp only
    rw [← hx.t, ← hx.f]
    refine ⟨h.sh, h.asks, h.gain, fun i j hj => ?_, h.bk, h.ls, h.op, h.lost⟩
    show updF s.st x.t (fun j => mergeL (s.st x.t j) (heardL c.labs x.f x.t st j)) i j = updF u.st x.t (fun j => mergeL (u.st x.t j) (heardL c.labs x.f x.t st' j)) i j
    by_cases e : i = x.t
    · rw [e, updF_same, updF_same, h.st x.t j hj]
      unfold heardL
      rw [hs j hj]
    · rw [updF_ne _ _ e, updF_ne _ _ e, h.st i j hj]
theorem flat_same (f g : Nat → List (Int × Int)) : ∀ (l : List Nat), (∀ i ∈ l, f i = g i) → l.flatMap f = l.flatMap g
  | [], _ => rfl
  | a :: t, h => by rw [List.flatMap_cons, List.flatMap_cons, h a List.mem_cons_self, flat_same f g t fun i hi => h i (List.mem_cons_of_mem _ hi)]
theorem frame_same {c : Cfg} {X K : Nat} {x y : Let} (hx : LetR c X x y) (ox : x.Ok c K) (ht : x.t < c.n) (hX : X.testBit x.t = true) : x.enc c.labs = y.enc c.labs := by
  unfold Let.enc
  congr 1
  unfold Let.fields
  rcases hx.m with ⟨l, l', e1, e2, hl, ha, hg⟩ | ⟨st, st', e1, e2, hs⟩
  · rw [e1, e2, hg (by omega) hX]
  · rw [e1, e2]
    simp only
    rw [← hx.f, ← hx.t]
    unfold rumF
    refine flat_same _ _ _ fun j hj => ?_
    have hm := (shr_mem c.labs x.f x.t c.labs.length j).1 hj
    rw [hs j ⟨x.t, ht, hX, hm.2.2⟩]
structure TR (n X : Nat) (t u : Tld) : Prop where
  who : t.who = u.who
  sent : t.sent = u.sent
  report : t.report = u.report
  all : mine n X t = true → t = u
theorem TR.seen {n X : Nat} {t u : Tld} (h : TR n X t u) : seenT n X t = seenT n X u := by
  unfold seenT
  have e : mine n X t = mine n X u := by unfold mine; rw [h.who]
  by_cases q : mine n X t = true
  · rw [if_pos q, if_pos (by rw [← e]; exact q), h.all q]
  · rw [if_neg q, if_neg (by rw [← e]; exact q), h.who, h.sent, h.report]
theorem TR.same {n X : Nat} (t : Tld) : TR n X t t := ⟨rfl, rfl, rfl, fun _ => rfl⟩
theorem map_f {R : Let → Let → Prop} {α : Type} (f : Let → α) (hR : ∀ x y, R x y → f x = f y) {l m : List Let} (h : All2 R l m) : l.map f = m.map f := by
  induction h with
  | nil => rfl
  | cons h1 _ ih => rw [List.map_cons, List.map_cons, hR _ _ h1, ih]
theorem due_rel {c : Cfg} {X : Nat} {s u : Wld} (h : WR c X s u) (id : Int) : s.due id = u.due id ∧ (∀ i, s.from' i = u.from' i) ∧ (∀ i, s.to' i = u.to' i) := by
  have hf : s.ls.map (·.f) = u.ls.map (·.f) := map_f _ (fun _ _ q => q.f) h.ls
  have ht : s.ls.map (·.t) = u.ls.map (·.t) := map_f _ (fun _ _ q => q.t) h.ls
  have e1 : ∀ i, s.from' i = u.from' i := fun i => by unfold Wld.from'; rw [hf]
  have e2 : ∀ i, s.to' i = u.to' i := fun i => by unfold Wld.to'; rw [ht]
  refine ⟨?_, e1, e2⟩
  unfold Wld.due Wld.old
  rw [h.ls.get.1, h.lost, h.op, e1, e2]
theorem opens_rel {c : Cfg} {X : Nat} {s u : Wld} (h : WR c X s u) (i : Nat) : WR c X (s.opens i) (u.opens i) := by
  obtain ⟨-, e1, e2⟩ := due_rel h 0
  refine ⟨h.sh, h.asks, h.gain, h.st, h.bk, h.ls, ?_, h.lost⟩
  show updW s.op (s.from' i) (s.to' i) (i + 1) = updW u.op (u.from' i) (u.to' i) (i + 1)
  rw [h.op, e1, e2]
theorem deliver_rel {c : Cfg} {X K : Nat} {s u : Wld} (h : WR c X s u) (ws : WOk c K s) (wu : WOk c K u) (id : Int) : TR c.n X (s.deliver c id).1 (u.deliver c id).1 ∧ WR c X (s.deliver c id).2 (u.deliver c id).2 := by
  obtain ⟨e0, e1, e2⟩ := due_rel h id
  unfold Wld.deliver
  rw [← e0]
  split
  · exact ⟨.same _, h⟩
  split
  · rw [e2]; exact ⟨.same _, h⟩
  have hl := h.ls.get.1
  cases hx : s.ls[id.toNat]? with
  | none =>
    have : u.ls[id.toNat]? = none := by rw [List.getElem?_eq_none_iff] at hx ⊢; omega
    rw [this]
    exact ⟨.same _, h⟩
  | some x =>
    have hlt := (List.getElem?_eq_some_iff.1 hx).1
    have hy : u.ls[id.toNat]? = some (u.ls[id.toNat]'(by omega)) := List.getElem?_eq_getElem _
    rw [hy]
    have hR := h.ls.get.2 id.toNat x _ hx hy
    generalize (u.ls[id.toNat]'(by omega)) = y at *
    have ox := ws.ls x (List.mem_of_getElem? hx)
    have oy := wu.ls y (List.mem_of_getElem? hy)
    refine ⟨⟨?_, rfl, rfl, fun hm => ?_⟩, comes_rel (opens_rel h _) (opens_ok ws _) (opens_ok wu _) hR ox oy⟩
    · show ((x.t : Nat) : Int) = ((y.t : Nat) : Int); rw [hR.t]
    · unfold mine at hm
      simp only [Int.toNat_natCast, Bool.and_eq_true, decide_eq_true_eq] at hm
      show ({ noT 0 with who := ((x.t : Nat) : Int), frame := x.enc c.labs } : Tld) = { noT 0 with who := ((y.t : Nat) : Int), frame := y.enc c.labs }
      rw [frame_same hR ox (by omega) hm.2, hR.t]
theorem lose_rel {c : Cfg} {X : Nat} {s u : Wld} (h : WR c X s u) (id : Int) : TR c.n X (s.lose id).1 (u.lose id).1 ∧ WR c X (s.lose id).2 (u.lose id).2 := by
  obtain ⟨e0, -, -⟩ := due_rel h id
  unfold Wld.lose
  rw [← e0]
  split
  · refine ⟨.same _, h.sh, h.asks, h.gain, h.st, h.bk, h.ls, h.op, ?_⟩
    show updF s.lost _ _ = updF u.lost _ _
    rw [h.lost]
  · exact ⟨.same _, h⟩
structure Priv (c : Cfg) (X : Nat) (p q : Stp) : Prop where
  who : p.who = q.who
  in' : 0 ≤ p.who ∧ p.who < c.n
  not : X.testBit p.who.toNat = false
  kinds : ((1 ≤ p.kind ∧ p.kind ≤ 6) ∧ (1 ≤ q.kind ∧ q.kind ≤ 6)) ∨ ((7 ≤ p.kind ∧ p.kind ≤ 8) ∧ (7 ≤ q.kind ∧ q.kind ≤ 8) ∧ p.label = q.label ∧ ¬ Sees c X p.label.toNat)
def Alike (c : Cfg) (X : Nat) (p q : Stp) : Prop := p = q ∨ Priv c X p q
theorem step_client {c : Cfg} (s : Wld) (p : Stp) (hk : 1 ≤ p.kind ∧ p.kind ≤ 8) (hw : 0 ≤ p.who ∧ p.who < c.n) : s.step c p = ({ (s.client c p.who.toNat p).1 with who := p.who }, (s.client c p.who.toNat p).2) := by
  unfold Wld.step
  rw [if_neg (by omega), if_neg (by omega), if_neg (by omega), if_neg (by omega), if_neg (by omega)]
theorem step_rel {c : Cfg} {X K : Nat} (hn : c.n = 4) {s u : Wld} (h : WR c X s u) (ws : WOk c K s) (wu : WOk c K u) {p q : Stp} (a : Alike c X p q) (hr : (s.step c p).1.report = (u.step c q).1.report) : TR c.n X (s.step c p).1 (u.step c q).1 ∧ WR c X (s.step c p).2 (u.step c q).2 := by
  rcases a with rfl | a
  · by_cases h9 : p.kind = 9
    · rw [step_tick h9, step_tick h9] at hr ⊢
      have hs : (s.tick c).1.sent = (u.tick c).1.sent := by rw [sent_tick c hn, sent_tick c hn, h.ls.get.1]
      refine ⟨?_, tick_same h ws wu hr⟩
      have e : (s.tick c).1 = (u.tick c).1 := by
        unfold Wld.tick at hs hr ⊢
        simp only at hs hr ⊢
        rw [hs, hr]
      rw [e]; exact .same _
    by_cases h10 : p.kind = 10
    · have e : ∀ t : Wld, t.step c p = t.deliver c p.id := fun t => by unfold Wld.step; rw [if_neg h9, if_pos h10]
      rw [e, e]; exact deliver_rel h ws wu p.id
    by_cases h11 : p.kind = 11
    · have e : ∀ t : Wld, t.step c p = t.lose p.id := fun t => by unfold Wld.step; rw [if_neg h9, if_neg h10, if_pos h11]
      rw [e, e]; exact lose_rel h p.id
    by_cases hk : p.kind < 1 ∨ 11 < p.kind
    · have e : ∀ t : Wld, t.step c p = (noT 3, t) := fun t => by unfold Wld.step; rw [if_neg h9, if_neg h10, if_neg h11, if_pos hk]
      rw [e, e]; exact ⟨.same _, h⟩
    by_cases hw : p.who < 0 ∨ (c.n : Int) ≤ p.who
    · have e : ∀ t : Wld, t.step c p = (noT 2, t) := fun t => by unfold Wld.step; rw [if_neg h9, if_neg h10, if_neg h11, if_neg hk, if_pos hw]
      rw [e, e]; exact ⟨.same _, h⟩
    rw [step_client s p (by omega) (by omega), step_client u p (by omega) (by omega)]
    obtain ⟨s1, s2⟩ := client_told (c := c) s p.who.toNat p
    obtain ⟨u1, u2⟩ := client_told (c := c) u p.who.toNat p
    cases hX : X.testBit p.who.toNat with
    | true =>
      obtain ⟨e, r⟩ := client_same h p.who.toNat (by omega) p hX
      refine ⟨?_, r⟩
      rw [e]; exact .same _
    | false =>
      refine ⟨⟨rfl, by simp only [s1, u1], by simp only [s2, u2], fun hm => ?_⟩, client_hid h _ p hX⟩
      unfold mine at hm
      simp only [hX, Bool.and_false] at hm
      simp at hm
  · have k1 : 1 ≤ p.kind ∧ p.kind ≤ 8 := by rcases a.kinds with q | q <;> omega
    have k2 : 1 ≤ q.kind ∧ q.kind ≤ 8 := by rcases a.kinds with q | q <;> omega
    have hw := a.in'
    rw [step_client s p k1 hw, step_client u q k2 (by rw [← a.who]; exact hw)]
    obtain ⟨s1, s2⟩ := client_told (c := c) s p.who.toNat p
    obtain ⟨u1, u2⟩ := client_told (c := c) u q.who.toNat q
    refine ⟨⟨a.who, by simp only [s1, u1], by simp only [s2, u2], fun hm => ?_⟩, ?_⟩
    · unfold mine at hm
      simp only [a.not, Bool.and_false] at hm
      simp at hm
    · have n2 : X.testBit q.who.toNat = false := by rw [← a.who]; exact a.not
      refine h.hid (hid_client s _ p a.not fun hk => ?_) (hid_client u _ q n2 fun hk => ?_)
      · rcases a.kinds with z | z
        · omega
        · exact z.2.2.2
      · rcases a.kinds with z | z
        · omega
        · rw [← z.2.2.1]; exact z.2.2.2
theorem runs_rel {c : Cfg} {X : Nat} (hc : c.Ok) (hn : c.n = 4) (S T : List Stp) (hl : S.length = T.length) (h3 : S.length ≤ 900) (ha : ∀ (i : Nat) (p q : Stp), S[i]? = some p → T[i]? = some q → Alike c X p q) (hr : ∀ (i : Nat) (t u : Tld), (wFold c S).2[i]? = some t → (wFold c T).2[i]? = some u → t.report = u.report) :
    ∀ n, n ≤ S.length → WR c X (wFold c (S.take n)).1 (wFold c (T.take n)).1 := by
  intro n
  induction n with
  | zero => intro _; exact WR.zero c X
  | succ n ih =>
    intro h1
    have hS : n < S.length := by omega
    have hT : n < T.length := by omega
    rw [List.take_succ_eq_append_getElem hS, List.take_succ_eq_append_getElem hT, wFold_snoc, wFold_snoc]
    have r := hr n _ _ (told_at c S n hS) (told_at c T n hT)
    exact (step_rel hn (ih (by omega)) (wFold_ok c hc S n (by omega) (by omega)) (wFold_ok c hc T n (by omega) (by omega)) (ha n _ _ (List.getElem?_eq_getElem hS) (List.getElem?_eq_getElem hT)) r).2
theorem blind {c : Cfg} {X : Nat} (hc : c.Ok) (hn : c.n = 4) (S T : List Stp) (hl : S.length = T.length) (h3 : S.length ≤ 900) (ha : ∀ (i : Nat) (p q : Stp), S[i]? = some p → T[i]? = some q → Alike c X p q) (hr : ∀ (i : Nat) (t u : Tld), (wFold c S).2[i]? = some t → (wFold c T).2[i]? = some u → t.report = u.report) :
    viewOf c.n X (wFold c S).2 = viewOf c.n X (wFold c T).2 := by
  unfold viewOf
  apply List.ext_getElem?
  intro i
  rw [List.getElem?_map, List.getElem?_map]
  rcases Nat.lt_or_ge i S.length with hS | hS
  · have hT : i < T.length := by omega
    have r := hr i _ _ (told_at c S i hS) (told_at c T i hT)
    rw [told_at c S i hS, told_at c T i hT]
    simp only [Option.map_some, Option.some.injEq]
    exact (step_rel hn (runs_rel hc hn S T hl h3 ha hr i (by omega)) (wFold_ok c hc S i (by omega) (by omega)) (wFold_ok c hc T i (by omega) (by omega)) (ha i _ _ (List.getElem?_eq_getElem hS) (List.getElem?_eq_getElem hT)) r).1.seen
  · rw [List.getElem?_eq_none (by rw [wFold_len]; exact hS), List.getElem?_eq_none (by rw [wFold_len]; omega)]
end Go.Proofs.YtjdedflfdlhkdaaGreatDoor
