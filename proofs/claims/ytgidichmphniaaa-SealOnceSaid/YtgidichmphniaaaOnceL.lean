/- Package seal: the plain law of 'SealOnce'. -/
import Derived.Test.YtgidichmphniaaaSealL
namespace Go.Proofs.Ytgidichmphniaaa
set_option linter.unusedVariables false
set_option linter.unusedSimpArgs false

/-- An opening that came to something. -/
theorem out_ok {o : Off} {x : Mv} (hk : x.kind ≠ 1) (h : (o.out x).code = 0) : 0 ≤ x.id ∧ x.id < o.ls.length ∧ (o.at' x.id).t = x.t ∧ o.op (o.at' x.id).f (o.at' x.id).t ≤ x.id ∧ (o.out x).d = (o.at' x.id).d ∧
    o.next x = ⟨o.ls, updW o.op (o.at' x.id).f (o.at' x.id).t (x.id + 1)⟩ := by
  unfold Off.out at h ⊢
  unfold Off.next
  simp only [if_neg hk] at h ⊢
  by_cases c2 : x.id < 0 ∨ (o.ls.length : Int) ≤ x.id
  · simp [if_pos c2] at h
  · simp only [if_neg c2] at h ⊢
    by_cases c3 : (o.at' x.id).t ≠ x.t
    · simp [if_pos c3] at h
    · simp only [if_neg c3] at h ⊢
      by_cases c4 : x.id < o.op (o.at' x.id).f (o.at' x.id).t
      · simp [if_pos c4] at h
      · simp only [if_neg c4]
        exact ⟨by omega, by omega, Classical.byContradiction fun h => c3 h, by omega, trivial, trivial⟩
theorem out_bad {o : Off} {x : Mv} (hk : x.kind ≠ 1) (h : (o.out x).code ≠ 0) : (o.out x).d = [] ∧ o.next x = o := by
  unfold Off.out at h ⊢
  unfold Off.next
  simp only [if_neg hk] at h ⊢
  by_cases c2 : x.id < 0 ∨ (o.ls.length : Int) ≤ x.id
  · simp [if_pos c2]
  · simp only [if_neg c2] at h ⊢
    by_cases c3 : (o.at' x.id).t ≠ x.t
    · simp [if_pos c3]
    · simp only [if_neg c3] at h ⊢
      by_cases c4 : x.id < o.op (o.at' x.id).f (o.at' x.id).t
      · simp [if_pos c4]
      · simp [if_neg c4] at h
/-- What was posted so far, and what was opened. -/
structure OnceAt (l : List Mv) (k : Nat) (P : List Int) : Prop where
  len : P.length = (offFold (l.take k)).1.ls.length
  ix : ∀ j, j < P.length → ∃ (i : Nat) (hi : i < l.length), i < k ∧ P[j]? = some (i : Int) ∧ (offFold (l.take k)).1.ls[j]? = some l[i].ltr
  op : ∀ (m : Nat) (hm : m < l.length), m < k → l[m].kind ≠ 1 → ((offFold (l.take m)).1.out l[m]).code = 0 →
    0 ≤ l[m].id ∧ l[m].id < P.length ∧ l[m].id < (offFold (l.take k)).1.op ((offFold (l.take k)).1.at' l[m].id).f ((offFold (l.take k)).1.at' l[m].id).t
  le : P.length ≤ k
theorem OnceAt.start (l : List Mv) : OnceAt l 0 [] := ⟨rfl, fun j hj => by simp at hj, fun m hm h => by omega, Nat.le_refl _⟩
theorem at_grow {o : Off} {y : Ltr} {op' : Int → Int → Int} {id : Int} (h0 : 0 ≤ id) (h1 : id < o.ls.length) : (⟨o.ls ++ [y], op'⟩ : Off).at' id = o.at' id := by
  have hi : id.toNat < o.ls.length := by omega
  unfold Off.at'
  simp only [List.getD_eq_getElem?_getD]
  rw [List.getElem?_append_left hi]
theorem OnceAt.post {l : List Mv} {k : Nat} {P : List Int} (h : OnceAt l k P) (hk : k < l.length) (hx : l[k].kind = 1) : OnceAt l (k + 1) (P ++ [(k : Int)]) := by
  have e : (offFold (l.take (k + 1))).1 = ⟨(offFold (l.take k)).1.ls ++ [l[k].ltr], (offFold (l.take k)).1.op⟩ := by
    rw [offFold_take l k hk]; simp only [offStep, Off.next, if_pos hx]
  have hl := h.len
  refine ⟨by rw [e]; simp [hl], fun j hj => ?_, fun m hm hmk hm1 hc => ?_, by have := h.le; simp; omega⟩
  · rw [e]
    by_cases hjP : j < P.length
    · obtain ⟨i, hi, q1, q2, q3⟩ := h.ix j hjP
      exact ⟨i, hi, by omega, by rw [List.getElem?_append_left hjP]; exact q2, by simp only; rw [List.getElem?_append_left (by omega)]; exact q3⟩
    · have hj' : j = P.length := by simp at hj; omega
      subst hj'
      exact ⟨k, hk, by omega, by simp, by rw [hl]; simp⟩
  · have hmk' : m < k := by
      have : m ≠ k := by rintro rfl; exact hm1 hx
      omega
    obtain ⟨q1, q2, q3⟩ := h.op m hm hmk' hm1 hc
    rw [e, at_grow q1 (by omega)]
    exact ⟨q1, by simp; omega, q3⟩
theorem OnceAt.bad {l : List Mv} {k : Nat} {P : List Int} (h : OnceAt l k P) (hk : k < l.length) (hx : l[k].kind ≠ 1) (hc : ((offFold (l.take k)).1.out l[k]).code ≠ 0) : OnceAt l (k + 1) P := by
  have e : (offFold (l.take (k + 1))).1 = (offFold (l.take k)).1 := by
    rw [offFold_take l k hk]; exact (out_bad hx hc).2
  refine ⟨by rw [e]; exact h.len, fun j hj => ?_, fun m hm hmk hm1 hcm => ?_, by have := h.le; omega⟩
  · obtain ⟨i, hi, q1, q2, q3⟩ := h.ix j hj
    exact ⟨i, hi, by omega, q2, by rw [e]; exact q3⟩
  · have hmk' : m < k := by
      have : m ≠ k := by rintro rfl; exact hc hcm
      omega
    rw [e]; exact h.op m hm hmk' hm1 hcm
theorem OnceAt.good {l : List Mv} {k : Nat} {P : List Int} (h : OnceAt l k P) (hk : k < l.length) (hx : l[k].kind ≠ 1) (hc : ((offFold (l.take k)).1.out l[k]).code = 0) : OnceAt l (k + 1) P := by
  obtain ⟨g1, g2, g3, g4, g5, g6⟩ := out_ok hx hc
  have e : (offFold (l.take (k + 1))).1 = ⟨(offFold (l.take k)).1.ls, updW (offFold (l.take k)).1.op ((offFold (l.take k)).1.at' l[k].id).f ((offFold (l.take k)).1.at' l[k].id).t (l[k].id + 1)⟩ := by
    rw [offFold_take l k hk]; exact g6
  have ea : ∀ id, (offFold (l.take (k + 1))).1.at' id = (offFold (l.take k)).1.at' id := fun id => by rw [e]; rfl
  have hl := h.len
  refine ⟨by rw [e]; exact h.len, fun j hj => ?_, fun m hm hmk hm1 hcm => ?_, by have := h.le; omega⟩
  · obtain ⟨i, hi, q1, q2, q3⟩ := h.ix j hj
    exact ⟨i, hi, by omega, q2, by rw [e]; exact q3⟩
  · rw [ea]
    rw [e]
    simp only [updW]
    by_cases hmk' : m = k
    · subst hmk'
      rw [if_pos ⟨rfl, rfl⟩]
      exact ⟨g1, by omega, by omega⟩
    · obtain ⟨q1, q2, q3⟩ := h.op m hm (by omega) hm1 hcm
      refine ⟨q1, q2, ?_⟩
      split
      · next hh =>
        rw [hh.1, hh.2] at q3
        omega
      · exact q3
/-- THE PLAIN LAW: the letter that is opened: where it was posted, whose it is, what it holds. -/
theorem OnceAt.opened {l : List Mv} {k : Nat} {P : List Int} (h : OnceAt l k P) (hk : k < l.length) (hx : l[k].kind ≠ 1) (hc : ((offFold (l.take k)).1.out l[k]).code = 0) :
    ∃ (j i : Nat) (hi : i < l.length), l[k].id = j ∧ j < P.length ∧ P[j]? = some (i : Int) ∧ i < k ∧ l[i].t = l[k].t ∧ l[i].d = ((offFold (l.take k)).1.out l[k]).d ∧ (offFold (l.take k)).1.at' l[k].id = l[i].ltr := by
  obtain ⟨g1, g2, g3, g4, g5, g6⟩ := out_ok hx hc
  obtain ⟨i, hi, q1, q2, q3⟩ := h.ix l[k].id.toNat (by have := h.len; omega)
  have ea : (offFold (l.take k)).1.at' l[k].id = l[i].ltr := by
    unfold Off.at'
    simp only [List.getD_eq_getElem?_getD, q3, Option.getD_some]
  refine ⟨l[k].id.toNat, i, hi, by omega, by have := h.len; omega, q2, q1, ?_, ?_, ea⟩
  · rw [ea] at g3; exact g3
  · rw [g5, ea]; rfl
/-- What was opened ahead of it, and is not less, is of another way. -/
theorem OnceAt.apart {l : List Mv} {k : Nat} {P : List Int} (h : OnceAt l k P) (hk : k < l.length) (hx : l[k].kind ≠ 1) (hc : ((offFold (l.take k)).1.out l[k]).code = 0) (m : Nat) (hm : m < l.length) (hmk : m < k) (hm1 : l[m].kind ≠ 1) (hcm : ((offFold (l.take m)).1.out l[m]).code = 0) (hge : l[k].id ≤ l[m].id) :
    ∃ (j i : Nat) (hi : i < l.length), l[m].id = j ∧ j < P.length ∧ P[j]? = some (i : Int) ∧ ¬ (l[i].f = ((offFold (l.take k)).1.at' l[k].id).f ∧ l[i].t = ((offFold (l.take k)).1.at' l[k].id).t) := by
  obtain ⟨g1, g2, g3, g4, g5, g6⟩ := out_ok hx hc
  obtain ⟨q1, q2, q3⟩ := h.op m hm hmk hm1 hcm
  obtain ⟨i, hi, r1, r2, r3⟩ := h.ix l[m].id.toNat (by omega)
  have ea : (offFold (l.take k)).1.at' l[m].id = l[i].ltr := by
    unfold Off.at'
    simp only [List.getD_eq_getElem?_getD, r3, Option.getD_some]
  refine ⟨l[m].id.toNat, i, hi, by omega, by omega, r2, fun hh => ?_⟩
  rw [ea] at q3
  have e1 : l[i].ltr.f = l[i].f := rfl
  have e2 : l[i].ltr.t = l[i].t := rfl
  rw [e1, e2, hh.1, hh.2] at q3
  omega
theorem post_out {o : Off} {x : Mv} (hk : x.kind = 1) : o.out x = ⟨0, o.ls.length, x.d.length, []⟩ := by unfold Off.out; rw [if_pos hk]
end Go.Proofs.Ytgidichmphniaaa
