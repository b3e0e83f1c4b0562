/- Clocks: events, what 'Play' gives, and the plain law of 'ClockOwn'. -/
import Derived.Test.YtkeefpeffeoakaaTag
namespace Go.Proofs.Ytkeefpeffeoakaa
set_option linter.unusedVariables false

/-- An event: kind, site, what is heard; a 'Happening' has the same form. -/
structure Ev where
  kind : Int
  who : Int
  of' : Int
def Ev.cells (x : Ev) : List Value := [.int .i64 x.kind, .int .i64 x.who, .int .i64 x.of']
theorem Ev.cells_length (x : Ev) : x.cells.length = 3 := rfl
def evs (l : List Ev) : List Value := l.flatMap Ev.cells
/-- 'Events'. -/
def evOf (sent : List Int) (h : Ev) : Ev :=
  if 1 + pick h.kind 3 = 3 then (if sent.length = 0 then ⟨1, pick h.who 4, 0⟩ else ⟨3, pick h.who 4, sent.getD (pick h.of' sent.length).toNat 0⟩) else ⟨1 + pick h.kind 3, pick h.who 4, 0⟩
def evStep (s : List Ev × List Int) (h : Ev) : List Ev × List Int :=
  (s.1 ++ [evOf s.2 h], if (evOf s.2 h).kind = 2 then s.2 ++ [(s.1.length : Int)] else s.2)
def events (l : List Ev) (n : Nat) : List Ev := ((l.take n).foldl evStep ([], [])).1
/-- Events that may be. -/
def EvOk (ahead : List Ev) (x : Ev) : Prop :=
  1 ≤ x.kind ∧ x.kind ≤ 3 ∧ 0 ≤ x.who ∧ x.who ≤ 3 ∧ (x.kind = 3 → 0 ≤ x.of' ∧ x.of' < ahead.length ∧ ∃ y, ahead[x.of'.toNat]? = some y ∧ y.kind = 2)
def EvsOk (l : List Ev) : Prop := ∀ i x, l[i]? = some x → EvOk (l.take i) x
theorem EvOk.grow {a b : List Ev} {x : Ev} (h : EvOk a x) : EvOk (a ++ b) x := by
  obtain ⟨h1, h2, h3, h4, h5⟩ := h
  refine ⟨h1, h2, h3, h4, fun e => ?_⟩
  obtain ⟨p, q, y, hy, hk⟩ := h5 e
  refine ⟨p, by simp; omega, y, ?_, hk⟩
  rw [List.getElem?_append_left (by omega)]; exact hy
theorem EvsOk.snoc {l : List Ev} {x : Ev} (h : EvsOk l) (hx : EvOk l x) : EvsOk (l ++ [x]) := by
  intro i y hy
  by_cases hi : i < l.length
  · rw [List.getElem?_append_left hi] at hy
    rw [List.take_append_of_le_length (by omega)]
    exact h i y hy
  · have : i = l.length := by have := (List.getElem?_eq_some_iff.1 hy).1; simp at this; omega
    subst this
    simp at hy
    subst hy
    rw [List.take_append_of_le_length (Nat.le_refl _), List.take_length]
    exact hx
/-- What was sent. -/
def SentOk (out : List Ev) (sent : List Int) : Prop := ∀ j ∈ sent, 0 ≤ j ∧ j < out.length ∧ ∃ y, out[j.toNat]? = some y ∧ y.kind = 2
theorem evStep_ok (s : List Ev × List Int) (h : Ev) (ho : EvsOk s.1) (hs : SentOk s.1 s.2) : EvsOk (evStep s h).1 ∧ SentOk (evStep s h).1 (evStep s h).2 := by
  obtain ⟨p0, p1⟩ := pick_bd h.kind 3 (by omega)
  obtain ⟨q0, q1⟩ := pick_bd h.who 4 (by omega)
  have hx : EvOk s.1 (evOf s.2 h) := by
    unfold evOf
    split
    · split
      · exact ⟨by simp, by simp, by simpa using q0, by simp; omega, fun e => by simp at e⟩
      · obtain ⟨r0, r1⟩ := pick_bd h.of' s.2.length (by omega)
        refine ⟨by simp, by simp, by simpa using q0, by simp; omega, fun _ => ?_⟩
        have hlt : (pick h.of' s.2.length).toNat < s.2.length := by omega
        have := hs (s.2.getD (pick h.of' s.2.length).toNat 0) (by rw [List.getD_eq_getElem?_getD, List.getElem?_eq_getElem hlt]; exact List.getElem_mem hlt)
        exact this
    · exact ⟨by simp; omega, by simp; omega, by simpa using q0, by simp; omega, fun e => by simp at e; omega⟩
  refine ⟨ho.snoc hx, ?_⟩
  have hold : SentOk (s.1 ++ [evOf s.2 h]) s.2 := fun j hj => by
    obtain ⟨a, b, y, hy, hk⟩ := hs j hj
    exact ⟨a, by simp; omega, y, by rw [List.getElem?_append_left (by omega)]; exact hy, hk⟩
  unfold evStep
  simp only
  split
  · intro j hj
    rcases List.mem_append.1 hj with hj | hj
    · exact hold j hj
    · simp at hj; subst hj
      exact ⟨by omega, by simp; omega, evOf s.2 h, by simp, by assumption⟩
  · exact hold
theorem evFold_ok (l : List Ev) : ∀ s : List Ev × List Int, EvsOk s.1 → SentOk s.1 s.2 → EvsOk (l.foldl evStep s).1 ∧ SentOk (l.foldl evStep s).1 (l.foldl evStep s).2 := by
  induction l with
  | nil => intro s h1 h2; exact ⟨h1, h2⟩
  | cons a t ih => intro s h1 h2; obtain ⟨h3, h4⟩ := evStep_ok s a h1 h2; exact ih _ h3 h4
theorem evFold_length (l : List Ev) : ∀ s : List Ev × List Int, (l.foldl evStep s).1.length = s.1.length + l.length ∧ (l.foldl evStep s).2.length ≤ s.2.length + l.length := by
  induction l with
  | nil => intro s; simp
  | cons a t ih =>
    intro s
    have := ih (evStep s a)
    have h2 : (evStep s a).2.length ≤ s.2.length + 1 := by unfold evStep; simp only; split <;> simp
    simp only [List.foldl_cons, List.length_cons]
    have h1 : (evStep s a).1.length = s.1.length + 1 := by simp [evStep]
    omega
theorem events_ok (l : List Ev) (n : Nat) : EvsOk (events l n) ∧ (events l n).length = min n l.length := by
  have h1 := evFold_ok (l.take n) ([], []) (fun i x h => by simp at h) (fun j h => by simp at h)
  have h2 := (evFold_length (l.take n) ([], [])).1
  exact ⟨h1.1, by unfold events; rw [h2]; simp⟩

/-- 'joined'. -/
def ckJoin (a b : List Int) : List Int := List.zipWith max a b
@[simp] theorem ckJoin_length (a b : List Int) : (ckJoin a b).length = min a.length b.length := by simp [ckJoin]
/-- What an event does to a clock. -/
def ckEv (now out : List (List Int)) (x : Ev) : List Int :=
  let c := if x.kind = 3 then ckJoin (now.getD x.who.toNat []) (out.getD x.of'.toNat []) else now.getD x.who.toNat []
  c.set x.who.toNat (c.getD x.who.toNat 0 + 1)
def ckStep (s : List (List Int) × List (List Int)) (x : Ev) : List (List Int) × List (List Int) := (s.1.set x.who.toNat (ckEv s.1 s.2 x), s.2 ++ [ckEv s.1 s.2 x])
def ckStart (n : Nat) : List (List Int) × List (List Int) := (List.replicate n (List.replicate n 0), [])
def ckPlay (n : Nat) (l : List Ev) : List (List Int) := (l.foldl ckStep (ckStart n)).2
/-- How many events of a site. -/
def evCount (l : List Ev) (k : Nat) : Int := (l.countP fun x => x.who.toNat = k : Nat)
theorem evCount_snoc (l : List Ev) (x : Ev) (k : Nat) : evCount (l ++ [x]) k = evCount l k + if x.who.toNat = k then 1 else 0 := by
  unfold evCount
  rw [List.countP_append]
  by_cases h : x.who.toNat = k <;> simp [h]
theorem evCount_le (l : List Ev) (k : Nat) : 0 ≤ evCount l k ∧ evCount l k ≤ l.length := by
  have := List.countP_le_length (p := fun x : Ev => decide (x.who.toNat = k)) (l := l)
  unfold evCount; omega
/-- A clock that counts no more than there were. -/
def CkUnder (m : List Ev) (n : Nat) (c : List Int) : Prop := c.length = n ∧ ∀ k (h : k < c.length), 0 ≤ c[k] ∧ c[k] ≤ evCount m k
/-- What holds behind events l at n sites. -/
structure CkInv (n : Nat) (l : List Ev) (s : List (List Int) × List (List Int)) : Prop where
  nows : s.1.length = n
  now : ∀ i c, s.1[i]? = some c → CkUnder l n c ∧ c.getD i 0 = evCount l i
  outs : s.2.length = l.length
  out : ∀ i c x, s.2[i]? = some c → l[i]? = some x → CkUnder (l.take (i + 1)) n c ∧ c.getD x.who.toNat 0 = evCount (l.take (i + 1)) x.who.toNat
theorem CkUnder.more {m : List Ev} {n : Nat} {c : List Int} (h : CkUnder m n c) (x : Ev) : CkUnder (m ++ [x]) n c :=
  ⟨h.1, fun k hk => by have := h.2 k hk; rw [evCount_snoc]; split <;> omega⟩
theorem CkUnder.take {l : List Ev} {n : Nat} {c : List Int} (j : Nat) (h : CkUnder (l.take j) n c) : CkUnder l n c := by
  refine ⟨h.1, fun k hk => ?_⟩
  have := h.2 k hk
  have e : evCount l k = evCount (l.take j) k + evCount (l.drop j) k := by
    unfold evCount
    conv => lhs; rw [← List.take_append_drop j l]
    rw [List.countP_append]; omega
  have := (evCount_le (l.drop j) k).1
  omega
theorem ckEv_ok {n : Nat} {l : List Ev} {s : List (List Int) × List (List Int)} (h : CkInv n l s) (x : Ev) (hx : EvOk l x) (hn : x.who < n) :
    CkUnder (l ++ [x]) n (ckEv s.1 s.2 x) ∧ (ckEv s.1 s.2 x).getD x.who.toNat 0 = evCount (l ++ [x]) x.who.toNat := by
  obtain ⟨h1, h2, h3, h4, h5⟩ := hx
  have hw : x.who.toNat < s.1.length := by rw [h.nows]; omega
  obtain ⟨hu, hc⟩ := h.now x.who.toNat _ (List.getElem?_eq_getElem hw)
  have g0 : s.1.getD x.who.toNat [] = s.1[x.who.toNat] := by simp [List.getD_eq_getElem?_getD, List.getElem?_eq_getElem hw]
  have key : ∀ c : List Int, CkUnder l n c → c.getD x.who.toNat 0 = evCount l x.who.toNat → CkUnder (l ++ [x]) n (c.set x.who.toNat (c.getD x.who.toNat 0 + 1)) ∧ (c.set x.who.toNat (c.getD x.who.toNat 0 + 1)).getD x.who.toNat 0 = evCount (l ++ [x]) x.who.toNat := by
    intro c hcu hcc
    have hwc : x.who.toNat < c.length := by rw [hcu.1]; omega
    refine ⟨⟨by simpa using hcu.1, fun k hk => ?_⟩, ?_⟩
    · have hk' : k < c.length := by simpa using hk
      have hb := hcu.2 k hk'
      rw [evCount_snoc, List.getElem_set]
      by_cases e : x.who.toNat = k
      · rw [if_pos e, if_pos e, hcc, e]
        have := (evCount_le l k).1
        omega
      · rw [if_neg e, if_neg e]; omega
    · rw [evCount_snoc, if_pos rfl, ← hcc]
      simp [List.getD_eq_getElem?_getD, hwc]
  unfold ckEv
  simp only
  split
  · next h3' =>
    obtain ⟨p, q, y, hy, hk⟩ := h5 h3'
    have ho : x.of'.toNat < s.2.length := by rw [h.outs]; omega
    have hyl : l[x.of'.toNat]? = some y := hy
    obtain ⟨hou, _⟩ := h.out x.of'.toNat _ y (List.getElem?_eq_getElem ho) hyl
    have hou' := hou.take
    have g1 : s.2.getD x.of'.toNat [] = s.2[x.of'.toNat] := by simp [List.getD_eq_getElem?_getD, List.getElem?_eq_getElem ho]
    rw [g0, g1]
    refine key _ ⟨by rw [ckJoin_length, hu.1, hou'.1]; omega, fun k hk => ?_⟩ ?_
    · have hka : k < s.1[x.who.toNat].length := by rw [ckJoin_length] at hk; omega
      have hkb : k < s.2[x.of'.toNat].length := by rw [ckJoin_length] at hk; omega
      have a := hu.2 k hka
      have b := hou'.2 k hkb
      simp only [ckJoin, List.getElem_zipWith]
      omega
    · have hka : x.who.toNat < s.1[x.who.toNat].length := by rw [hu.1]; omega
      have hkb : x.who.toNat < s.2[x.of'.toNat].length := by rw [hou'.1]; omega
      have b := hou'.2 _ hkb
      have hc' : s.1[x.who.toNat][x.who.toNat] = evCount l x.who.toNat := by rw [← hc]; simp [List.getD_eq_getElem?_getD, hka]
      simp only [ckJoin, List.getD_eq_getElem?_getD, List.getElem?_zipWith, List.getElem?_eq_getElem hka, List.getElem?_eq_getElem hkb]
      simp
      omega
  · rw [g0]
    exact key _ hu hc
theorem ckStep_ok {n : Nat} {l : List Ev} {s : List (List Int) × List (List Int)} (h : CkInv n l s) (x : Ev) (hx : EvOk l x) (hn : x.who < n) : CkInv n (l ++ [x]) (ckStep s x) := by
  obtain ⟨hu, hc⟩ := ckEv_ok h x hx hn
  have hw0 := hx.2.2.1
  refine ⟨by simp [ckStep, h.nows], fun i c hi => ?_, by simp [ckStep, h.outs], fun i c y hi hy => ?_⟩
  · simp only [ckStep, List.getElem?_set] at hi
    by_cases e : x.who.toNat = i
    · rw [if_pos e] at hi
      split at hi
      · simp at hi; subst hi; rw [← e]; exact ⟨hu, hc⟩
      · cases hi
    · rw [if_neg e] at hi
      obtain ⟨a, b⟩ := h.now i c hi
      exact ⟨a.more x, by rw [b, evCount_snoc, if_neg e]; omega⟩
  · simp only [ckStep] at hi
    by_cases hlt : i < l.length
    · rw [List.getElem?_append_left (by rw [h.outs]; exact hlt)] at hi
      rw [List.getElem?_append_left hlt] at hy
      rw [List.take_append_of_le_length (by omega)]
      exact h.out i c y hi hy
    · have hil : i = l.length := by have := (List.getElem?_eq_some_iff.1 hy).1; simp at this; omega
      subst hil
      rw [← h.outs] at hi
      simp at hi hy
      subst hi; subst hy
      rw [List.take_of_length_le (by simp)]
      exact ⟨hu, hc⟩
theorem ckStart_ok (n : Nat) : CkInv n [] (ckStart n) := by
  refine ⟨by simp [ckStart], fun i c hi => ?_, rfl, fun i c x hi => by simp [ckStart] at hi⟩
  simp only [ckStart, List.getElem?_replicate] at hi
  split at hi
  · simp at hi; subst hi
    refine ⟨⟨by simp, fun k hk => ?_⟩, ?_⟩
    · have := (evCount_le [] k).1; simp only [List.getElem_replicate]; omega
    · have : evCount [] i = 0 := rfl
      rw [this, List.getD_eq_getElem?_getD, List.getElem?_replicate]; split <;> rfl
  · cases hi
theorem ckFold_ok (n : Nat) (l : List Ev) (hl : EvsOk l) (hn : ∀ x ∈ l, x.who < n) : ∀ k, k ≤ l.length → CkInv n (l.take k) ((l.take k).foldl ckStep (ckStart n)) := by
  intro k
  induction k with
  | zero => intro _; exact ckStart_ok n
  | succ k ih =>
    intro hk
    have h := ih (by omega)
    rw [foldl_take _ _ _ _ (by omega), take_snoc _ _ (by omega)]
    exact ckStep_ok h _ (hl k _ (List.getElem?_eq_getElem _)) (hn _ (List.getElem_mem _))
end Go.Proofs.Ytkeefpeffeoakaa
