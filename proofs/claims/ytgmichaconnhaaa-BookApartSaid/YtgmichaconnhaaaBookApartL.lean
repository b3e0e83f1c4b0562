/- Books: the plain law of 'BookApart'. -/
import Derived.Test.YtgmichaconnhaaaBookSumsL
namespace Go.Proofs.Ytgmichaconnhaaa
open Go.ChangeShapes Go.WideShapes Go.ChangeAt Go.RowKit
set_option linter.unusedVariables false
set_option linter.unusedSimpArgs false

/-- Two books that differ in what one branch has, and in the reserve. -/
structure Sim (w : Nat) (a b : Bk) : Prop where
  most : a.most = b.most
  ticks : a.ticks = b.ticks
  round : a.round = b.round
  wants : ∀ k, k ≠ w → a.wants.getD k 0 = b.wants.getD k 0
  granted : ∀ k, k ≠ w → a.granted.getD k 0 = b.granted.getD k 0
  quota : ∀ k, k ≠ w → a.quota.getD k 0 = b.quota.getD k 0
theorem Sim.refl (w : Nat) (a : Bk) : Sim w a a := ⟨rfl, rfl, rfl, fun _ _ => rfl, fun _ _ => rfl, fun _ _ => rfl⟩
theorem getD_set2 {l m : List Int} {k j : Nat} {x y : Int} (hl : k < l.length) (hm : k < m.length) (hxy : k = j → x = y) (hlm : l.getD j 0 = m.getD j 0) : (l.set k x).getD j 0 = (m.set k y).getD j 0 := by
  by_cases e : k = j
  · subst e
    rw [getD_set_same hl, getD_set_same hm, hxy rfl]
  · rw [getD_set_ne e, getD_set_ne e]; exact hlm
theorem Sim.pay {w n : Nat} {a b : Bk} (h : Sim w a b) (ha : BkOk n a) (hb : BkOk n b) (k : Nat) (hk : k < n) : Sim w (a.pay k) (b.pay k) := by
  have hd : k ≠ w → a.due k = b.due k := fun e => by unfold Bk.due; rw [h.wants k e, h.granted k e, h.quota k e]
  refine ⟨h.most, h.ticks, h.round, h.wants, fun j hj => ?_, fun j hj => ?_⟩
  · exact getD_set2 (by rw [ha.lg]; exact hk) (by rw [hb.lg]; exact hk) (fun e => by subst e; rw [h.granted k hj, hd hj]) (h.granted j hj)
  · exact getD_set2 (by rw [ha.lq]; exact hk) (by rw [hb.lq]; exact hk) (fun e => by subst e; rw [h.quota k hj, hd hj]) (h.quota j hj)
theorem Sim.payTo {w n : Nat} {a b : Bk} (h : Sim w a b) (ha : BkOk n a) (hb : BkOk n b) : ∀ k, k ≤ n → Sim w (a.payTo k) (b.payTo k)
  | 0, _ => h
  | k + 1, hk => by
    rw [Bk.payTo_succ, Bk.payTo_succ]
    exact (Sim.payTo h ha hb k (by omega)).pay (ha.payTo k (by omega)) (hb.payTo k (by omega)) k (by omega)
theorem Sim.begins {w : Nat} {a b : Bk} (h : Sim w a b) : a.begins = b.begins := by unfold Bk.begins; rw [h.round, h.ticks]
theorem Sim.next {w n : Nat} {a b : Bk} (h : Sim w a b) (ha : BkOk n a) (hb : BkOk n b) (hr : a.report = b.report) : Sim w a.next b.next := by
  unfold Bk.next Bk.epoch
  unfold Bk.report at hr
  rw [← h.begins] at hr ⊢
  by_cases hbg : a.begins = true
  · rw [if_pos hbg, if_pos hbg] at hr
    rw [if_pos hbg, if_pos hbg]
    exact ⟨h.most, h.ticks, by simp only; rw [h.round], h.wants, h.granted, fun k _ => by simp only; rw [hr, ha.lw, hb.lw, h.most]⟩
  · rw [if_neg hbg, if_neg hbg]
    exact ⟨h.most, h.ticks, by simp only; rw [h.round], h.wants, h.granted, h.quota⟩
theorem Sim.rounded {w n : Nat} {a b : Bk} (h : Sim w a b) (ha : BkOk n a) (hb : BkOk n b) (hr : a.report = b.report) : Sim w a.rounded b.rounded := by
  unfold Bk.rounded
  rw [ha.lw, hb.lw]
  exact (h.next ha hb hr).payTo ha.next hb.next n (Nat.le_refl _)
/-- Two calls that differ at most in what one branch wants. -/
def Alike (w : Nat) (c d : Cal) : Prop := d = c ∨ (c.kind = 2 ∧ c.who = w ∧ d.kind = 2 ∧ d.who = w)
theorem Alike.kind {w : Nat} {c d : Cal} (h : Alike w c d) : c.kind = d.kind := by
  rcases h with rfl | ⟨h1, _, h2, _⟩
  · rfl
  · rw [h1, h2]
theorem Sim.want {w n : Nat} {a b : Bk} (h : Sim w a b) (ha : BkOk n a) (hb : BkOk n b) (who : Nat) (x y : Int) (hw : who < n) (hxy : who ≠ w → x = y) : Sim w (a.want who x) (b.want who y) := by
  refine ⟨h.most, h.ticks, h.round, fun j hj => ?_, h.granted, h.quota⟩
  exact getD_set2 (by rw [ha.lw]; exact hw) (by rw [hb.lw]; exact hw) (fun e => by subst e; rw [h.wants who hj, hxy hj]) (h.wants j hj)
theorem Sim.step {w n : Nat} {a b : Bk} (h : Sim w a b) (ha : BkOk n a) (hb : BkOk n b) {c d : Cal} (hcd : Alike w c d) (hc : CalOk n c) (hd : CalOk n d) (hr : (a.out c).2 = (b.out d).2) : Sim w (a.step c) (b.step d) := by
  rcases hcd with rfl | ⟨h1, h2, h3, h4⟩
  · rcases hc with ⟨e, _, _⟩ | ⟨e, q1, q2, q3, q4⟩ | e
    · unfold Bk.step
      rw [if_pos e, if_pos e]
      exact ⟨h.most, h.ticks, h.round, h.wants, h.granted, h.quota⟩
    · unfold Bk.step
      rw [if_neg (by omega), if_pos e, if_neg (by omega), if_pos e]
      exact h.want ha hb _ _ _ (by omega) (fun _ => rfl)
    · unfold Bk.step
      unfold Bk.out at hr
      rw [if_pos e, if_pos e] at hr
      rw [if_neg (by omega), if_neg (by omega), if_neg (by omega), if_neg (by omega)]
      exact h.rounded ha hb hr
  · have hn : w < n := by
      rcases hc with ⟨e, _, _⟩ | ⟨e, q1, q2, q3, q4⟩ | e <;> omega
    unfold Bk.step
    rw [if_neg (by omega), if_pos h1, if_neg (by omega), if_pos h3, h2, h4]
    exact h.want ha hb _ _ _ (by simpa using hn) (fun e => absurd (by simp) e)
/-- What a round grants the others is the same. -/
theorem Sim.out {w n : Nat} {a b : Bk} (h : Sim w a b) (ha : BkOk n a) (hb : BkOk n b) {c d : Cal} (hcd : Alike w c d) (h3 : c.kind = 3) (hr : (a.out c).2 = (b.out d).2) (k : Nat) (hk : k ≠ w) : (a.out c).1.getD k 0 = (b.out d).1.getD k 0 := by
  have hd3 : d.kind = 3 := by rw [← hcd.kind]; exact h3
  unfold Bk.out at hr ⊢
  rw [if_pos h3, if_pos hd3] at hr ⊢
  exact (h.rounded ha hb hr).granted k hk
/-- The other calls of the law. -/
def apartOf (w : Nat) (os : List Int) (i : Nat) (c : Cal) : Cal := if c.kind = 2 ∧ c.who = w ∧ i < os.length then ⟨c.kind, c.who, pick (os.getD i 0) 60⟩ else c
def aparts (w : Nat) (os : List Int) (cs : List Cal) : List Cal := cs.mapIdx (apartOf w os)
theorem apart_alike (w : Nat) (os : List Int) (i : Nat) (c : Cal) : Alike w c (apartOf w os i c) := by
  unfold apartOf
  split
  · next h => exact .inr ⟨h.1, h.2.1, h.1, h.2.1⟩
  · exact .inl rfl
theorem apart_ok {n w : Nat} (os : List Int) (i : Nat) {c : Cal} (h : CalOk n c) : CalOk n (apartOf w os i c) := by
  unfold apartOf
  split
  · next e =>
    have hp := pick_bd (os.getD i 0) 60 (by omega)
    rcases h with ⟨q, _, _⟩ | ⟨q, q1, q2, q3, q4⟩ | q
    · omega
    · exact .inr (.inl ⟨q, q1, q2, by simp only; omega, by simp only; omega⟩)
    · omega
  · exact h
theorem aparts_length (w : Nat) (os : List Int) (cs : List Cal) : (aparts w os cs).length = cs.length := by simp [aparts]
theorem aparts_get (w : Nat) (os : List Int) (cs : List Cal) (i : Nat) (h : i < cs.length) : (aparts w os cs)[i]'(by rw [aparts_length]; exact h) = apartOf w os i cs[i] := by simp [aparts]
theorem aparts_ok {n w : Nat} (os : List Int) {cs : List Cal} (h : ∀ c ∈ cs, CalOk n c) : ∀ c ∈ aparts w os cs, CalOk n c := by
  intro c hc
  obtain ⟨i, hi, rfl⟩ := List.mem_iff_getElem.1 hc
  have hi' : i < cs.length := by rw [aparts_length] at hi; exact hi
  rw [aparts_get w os cs i hi']
  exact apart_ok os i (h _ (List.getElem_mem hi'))
theorem aparts_snoc (w : Nat) (os : List Int) (cs : List Cal) (k : Nat) (h : k < cs.length) : aparts w os (cs.take (k + 1)) = aparts w os (cs.take k) ++ [apartOf w os k cs[k]] := by
  rw [take_snoc _ _ h]
  unfold aparts
  rw [List.mapIdx_append]
  simp [List.length_take, Nat.min_eq_left (Nat.le_of_lt h)]
theorem apart_step {b0 : Bk} {w : Nat} {os : List Int} {cs : List Cal} (hb : BkOk 3 b0) (h0 : b0.all = 0) (h1 : b0.round = 0) (hcs : ∀ c ∈ cs, CalOk 3 c) (hlen : cs.length ≤ 300) (k : Nat) (hk : k < cs.length)
    (hS : Sim w (bkFold b0 (cs.take k)).1 (bkFold b0 ((aparts w os cs).take k)).1) (hr : ((bkFold b0 (cs.take k)).1.out cs[k]).2 = ((bkFold b0 ((aparts w os cs).take k)).1.out (apartOf w os k cs[k])).2) :
    Sim w (bkFold b0 (cs.take (k + 1))).1 (bkFold b0 ((aparts w os cs).take (k + 1))).1 ∧
      (cs[k].kind = 3 → ∀ j, j ≠ w → ((bkFold b0 (cs.take k)).1.out cs[k]).1.getD j 0 = ((bkFold b0 ((aparts w os cs).take k)).1.out (apartOf w os k cs[k])).1.getD j 0) := by
  have ha := (bkFold_ok hb h0 h1 cs hcs hlen k (by omega)).1
  have hb' := (bkFold_ok hb h0 h1 (aparts w os cs) (aparts_ok os hcs) (by rw [aparts_length]; exact hlen) k (by rw [aparts_length]; omega)).1
  have hc := hcs _ (List.getElem_mem hk)
  have e1 : bkFold b0 (cs.take (k + 1)) = bkStep (bkFold b0 (cs.take k)) cs[k] := foldl_take _ _ _ _ hk
  have e2 : bkFold b0 ((aparts w os cs).take (k + 1)) = bkStep (bkFold b0 ((aparts w os cs).take k)) ((aparts w os cs)[k]'(by rw [aparts_length]; exact hk)) := foldl_take _ _ _ _ (by rw [aparts_length]; exact hk)
  rw [aparts_get w os cs k hk] at e2
  rw [e1, e2]
  exact ⟨hS.step ha hb' (apart_alike w os k _) hc (apart_ok os k hc) hr, fun h3 j hj => hS.out ha hb' (apart_alike w os k _) h3 hr j hj⟩
end Go.Proofs.Ytgmichaconnhaaa
