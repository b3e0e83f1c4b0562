/- Gossip, plain: the last word; what is erased; what others write. -/
import Derived.Test.YtngedkfljpkoiaaGosL
namespace Go.Proofs.Ytngedkfljpkoiaa
set_option linter.unusedVariables false
set_option linter.unusedSimpArgs false

theorem turn_write {labs : List Nat} {st : St} {t : Trn} (h1 : t.kind = 1) (hin : lb labs t.label t.who = true) : turnOf labs st t = (0, putSt st t false) := by
  unfold turnOf
  rw [if_neg (by omega), lb_getD, if_pos hin, if_pos h1]
theorem turn_erase {labs : List Nat} {st : St} {t : Trn} (h1 : t.kind = 2) (hin : lb labs t.label t.who = true) (hl : liveK (st t.who t.label) t.key = true) : turnOf labs st t = (0, putSt st t true) := by
  unfold turnOf
  rw [if_neg (by omega), lb_getD, if_pos hin, if_neg (by omega), if_pos hl]
theorem good_rounds {labs : List Nat} {ts : List Trn} (hok : ∀ t ∈ ts, t.Ok labs.length) (hl : 0 < labs.length) (hn : ts.length ≤ 100) : GoodSt labs (stAfter labs noSt (ts ++ roundL 2)) 200 ∧ Same4 labs (stAfter labs noSt (ts ++ roundL 2)) := by
  constructor
  · refine (after_good (noSt_good labs) (fun t ht => ?_) ?_).le ?_
    · rcases List.mem_append.1 ht with h | h
      · exact hok t h
      · exact roundL_ok hl t h
    · rw [List.length_append, roundL_length]; omega
    · rw [List.length_append, roundL_length]; omega
  · rw [stAfter_append, rounds_eq (play_good hok (by omega)).may]
    exact round_same (play_good hok (by omega)).may
theorem last_says {labs : List Nat} {ts : List Trn} {t : Trn} (hok : ∀ t ∈ ts, t.Ok labs.length) (hn : ts.length ≤ 100) (ht : t.Ok labs.length) (h1 : t.kind = 1) (hin : lb labs t.label t.who = true) :
    ∃ T, ∀ i, i < 4 → lb labs t.label i = true → look (stAfter labs noSt (ts ++ roundL 2 ++ [t] ++ roundL 2) i t.label) t.key = some ⟨t.key, t.value, T, t.who, false⟩ := by
  obtain ⟨hg, hs⟩ := good_rounds hok (Nat.lt_of_le_of_lt (Nat.zero_le _) ht.label) hn
  refine ⟨maxT (stAfter labs noSt (ts ++ roundL 2) t.who t.label) + 1, fun i hi hb => ?_⟩
  rw [stAfter_append, stAfter_append]
  generalize stAfter labs noSt (ts ++ roundL 2) = st at *
  show look (stAfter labs (turnOf labs st t).2 (roundL 2) i t.label) t.key = _
  rw [turn_write h1 hin, rounds_eq (put_good hg ht (by omega) hin).may, write_last hg (hs.knows hg ht.who hin) ht (by omega) hin i hi hb]
  rfl
theorem erase_says {labs : List Nat} {ts : List Trn} {t u : Trn} (hok : ∀ t ∈ ts, t.Ok labs.length) (hn : ts.length ≤ 100) (ht : t.Ok labs.length) (hu : u.Ok labs.length) (h1 : t.kind = 1) (h2 : u.kind = 2) (hw : u.who = t.who) (hl : u.label = t.label) (hk : u.key = t.key) (hin : lb labs t.label t.who = true) :
    (turnOf labs (stAfter labs noSt (ts ++ roundL 2 ++ [t])) u).1 = 0 ∧ ∃ e : Ent, e.g = true ∧ ∀ i, i < 4 → lb labs t.label i = true → look (stAfter labs noSt (ts ++ roundL 2 ++ [t, u] ++ roundL 2) i t.label) t.key = some e := by
  obtain ⟨hg, hs⟩ := good_rounds hok (Nat.lt_of_le_of_lt (Nat.zero_le _) ht.label) hn
  have e0 : ts ++ roundL 2 ++ [t, u] ++ roundL 2 = ts ++ roundL 2 ++ [t] ++ [u] ++ roundL 2 := by simp
  rw [e0, stAfter_append labs (ts ++ roundL 2) [t]]
  generalize hA : stAfter labs noSt (ts ++ roundL 2) = st at *
  have hB : stAfter labs st [t] = putSt st t false := by
    show (turnOf labs st t).2 = _
    rw [turn_write h1 hin]
  rw [hB]
  have hg2 := put_good (gone := false) hg ht (by omega) hin
  have hk2 := (hs.knows hg ht.who hin).put (gone := false) hg ht (by omega) hin
  have hin2 : lb labs u.label u.who = true := by rw [hw, hl]; exact hin
  have hlive : liveK (putSt st t false u.who u.label) u.key = true := by
    unfold liveK; rw [hw, hl, hk, put_look hg]; rfl
  have hT := turn_erase (st := putSt st t false) h2 hin2 hlive
  refine ⟨by rw [hT], putE (putSt st t false) u true, rfl, fun i hi hb => ?_⟩
  rw [stAfter_append, stAfter_append, stAfter_append, hA, hB]
  show look (stAfter labs (turnOf labs (putSt st t false) u).2 (roundL 2) i t.label) t.key = _
  rw [hT, rounds_eq (put_good hg2 hu (by omega) hin2).may, ← hl, ← hk]
  rw [← hl, ← hw] at hk2
  rw [← hl] at hb
  exact write_last hg2 hk2 hu (by omega) hin2 i hi hb
theorem code_says (labs : List Nat) (A R : List Trn) (t u : Trn) : (codesOf labs noSt (A ++ [t, u] ++ R))[A.length + 1]? = some (turnOf labs (stAfter labs noSt (A ++ [t])) u).1 := by
  have e : A ++ [t, u] ++ R = A ++ (t :: u :: R) := by simp
  rw [e, codesOf_append, List.getElem?_append_right (by rw [codesOf_length]; omega), codesOf_length, show A.length + 1 - A.length = 1 by omega, stAfter_append]
  rfl
/-- What may differ: turns of others, for others. -/
def Alike (labs : List Nat) (c : Nat) (t u : Trn) : Prop := t = u ∨ (t.kind ≠ 3 ∧ u.kind ≠ 3 ∧ t.label = u.label ∧ t.who = u.who ∧ ∀ i, i < 4 → c.testBit i = true → lb labs t.label i = false)
/-- Under labels of the chosen branches all is the same. -/
def Agree (labs : List Nat) (c : Nat) (s s' : St) : Prop := ∀ j, (∃ i, i < 4 ∧ c.testBit i = true ∧ lb labs j i = true) → ∀ i, s i j = s' i j
theorem tell_agree {labs : List Nat} {c who to' : Nat} {s s' : St} (h : Agree labs c s s') : Agree labs c (tellN labs who to' s labs.length) (tellN labs who to' s' labs.length) := fun j hj i => by
  rw [tell_get, tell_get, h j hj to', h j hj who, h j hj i]
theorem putE_agree {s s' : St} {t : Trn} {gone : Bool} (h : s t.who t.label = s' t.who t.label) : putE s t gone = putE s' t gone := by unfold putE; rw [h]
theorem turn_alike {labs : List Nat} {c : Nat} {s s' : St} {t u : Trn} (h : Agree labs c s s') (a : Alike labs c t u) : Agree labs c (turnOf labs s t).2 (turnOf labs s' u).2 := by
  rcases a with rfl | ⟨k1, k2, hl, hw, hb⟩
  · intro j hj i
    unfold turnOf
    split
    · exact tell_agree h j hj i
    · by_cases hjl : j = t.label
      · subst hjl
        have e1 : s t.who t.label = s' t.who t.label := h _ hj _
        rw [e1]
        split
        · split
          · simp only [put_get]; rw [e1, putE_agree e1, h _ hj i]
          · split
            · simp only [put_get]; rw [e1, putE_agree e1, h _ hj i]
            · exact h _ hj i
        · exact h _ hj i
      · have g : ∀ (x : St) (gone : Bool), putSt x t gone i j = x i j := fun x gone => by rw [put_get, if_neg (fun hh => hjl hh.2)]
        have e : ∀ x : St, (if inL (labs.getD t.label 0) t.who = true then (if t.kind = 1 then (0, putSt x t false) else if liveK (x t.who t.label) t.key = true then ((0 : Int), putSt x t true) else (6, x)) else (11, x)).2 i j = x i j := fun x => by
          split
          · split
            · exact g _ _
            · split
              · exact g _ _
              · rfl
          · rfl
        rw [e, e]; exact h _ hj i
  · intro j hj i
    have hne : j ≠ t.label := by
      rintro rfl
      obtain ⟨x, hx, hc, hx2⟩ := hj
      rw [hb x hx hc] at hx2; simp at hx2
    have e : ∀ (x : St) (v : Trn), v.kind ≠ 3 → v.label = t.label → (turnOf labs x v).2 i j = x i j := fun x v hk hv => by
      have g : ∀ (gone : Bool), putSt x v gone i j = x i j := fun gone => by rw [put_get, if_neg (fun hh => hne (hh.2.trans hv))]
      unfold turnOf
      rw [if_neg hk]
      split
      · split
        · exact g _
        · split
          · exact g _
          · rfl
      · rfl
    rw [e s t k1 rfl, e s' u k2 hl.symm]; exact h _ hj i
theorem after_alike {labs : List Nat} {c : Nat} : ∀ {ts us : List Trn} {s s' : St}, ts.length = us.length → (∀ k (h : k < ts.length) (h' : k < us.length), Alike labs c ts[k] us[k]) → Agree labs c s s' → Agree labs c (stAfter labs s ts) (stAfter labs s' us)
  | [], [], _, _, _, _, h => h
  | [], _ :: _, _, _, hl, _, _ => by simp at hl
  | _ :: _, [], _, _, hl, _, _ => by simp at hl
  | t :: ts, u :: us, s, s', hl, ha, h => by
    have h0 := turn_alike h (ha 0 (by simp) (by simp))
    exact after_alike (ts := ts) (us := us) (by simpa using hl) (fun k hk hk' => ha (k + 1) (by simp; omega) (by simp; omega)) h0
/-- What chosen branches have is the same. -/
theorem blind_says {labs : List Nat} {c : Nat} {ts us : List Trn} (hok : ∀ t ∈ ts, t.Ok labs.length) (hok2 : ∀ t ∈ us, t.Ok labs.length) (hn : ts.length ≤ 900) (hl : ts.length = us.length) (ha : ∀ k (h : k < ts.length) (h' : k < us.length), Alike labs c ts[k] us[k]) (i j : Nat) (hi : i < 4) (hc : c.testBit i = true) :
    stAfter labs noSt ts i j = stAfter labs noSt us i j := by
  by_cases hb : lb labs j i = true
  · exact after_alike hl ha (fun _ _ _ => rfl) j ⟨i, hi, hc, hb⟩ i
  · have hb : lb labs j i = false := by simpa using hb
    rw [(play_good hok hn).own i j hb, (play_good hok2 (by omega)).own i j hb]
end Go.Proofs.Ytngedkfljpkoiaa
