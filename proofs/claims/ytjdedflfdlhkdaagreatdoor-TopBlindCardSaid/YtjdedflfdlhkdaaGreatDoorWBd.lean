/- World, plain: what is told is small. -/
import Derived.Test.YtjdedflfdlhkdaaGreatDoorKau
import Derived.Test.YtjdedflfdlhkdaaGreatDoorWViewL
namespace Go.Proofs.YtjdedflfdlhkdaaGreatDoor
set_option linter.unusedVariables false

theorem recB_small {labs : List Nat} {x : Let} {c : Cfg} {K : Nat} (hc : c.Ok) (hx : x.Ok c K) : (x.enc c.labs).length ≤ 1000 := by
  unfold Let.enc
  rw [recB_length]
  have hm := hx.m
  have hit := hc.items
  have hln := hc.len
  cases h : x.m with
  | nums l =>
    rw [h] at hm
    have e : x.fields c.labs = askF l := by unfold Let.fields; rw [h]
    rw [e, askF_size, hm.2.1]
    unfold Cfg.items
    omega
  | rum st =>
    have e : x.fields c.labs = rumF c.labs x.f x.t st := by unfold Let.fields; rw [h]
    rw [e, rum_size]
    have hs : (shr c.labs x.f x.t c.labs.length).length ≤ c.labs.length := shr_len _ _ _ _
    omega
theorem step_bd {c : Cfg} {K : Nat} {s : Wld} (hc : c.Ok) (h : WOk c K s) (p : Stp) : (s.step c p).1.sent.length ≤ 1000000 ∧ (s.step c p).1.frame.length ≤ 1000000 ∧ (s.step c p).1.report.length ≤ 1000000 := by
  by_cases h9 : p.kind = 9
  · rw [step_tick h9]
    refine ⟨?_, by simp [Wld.tick, noT], ?_⟩
    · show (envs c.labs s.ls.length (tickMsgs c s)).length ≤ _
      rw [envs_len]
      have hn := hc.n
      have : (tickMsgs c s).length ≤ c.n * (1 + c.n) + c.n := by
        unfold tickMsgs
        rw [List.length_append, List.length_map, List.length_range]
        refine Nat.add_le_add_right ?_ _
        have hg : ∀ (l : List Nat), (l.flatMap (rowMsg c s)).length ≤ l.length * (1 + c.n) := by
          intro l
          induction l with
          | nil => simp
          | cons a t ih =>
            rw [List.flatMap_cons, List.length_append, List.length_cons, Nat.succ_mul]
            have : (rowMsg c s a).length ≤ 1 + c.n := by
              unfold rowMsg
              rw [List.length_cons, List.length_map]
              have := List.length_filter_le (fun x => decide (x ≠ a)) (List.range c.n)
              rw [List.length_range] at this
              omega
            omega
        simpa using hg (List.range c.n)
      have hn2 : c.n * (1 + c.n) ≤ 4 * (1 + 4) := Nat.mul_le_mul hn.2 (by omega)
      omega
    · show (reportsOf c s).length ≤ _
      unfold reportsOf
      have h1 := List.length_filter_le (fun r => decide (0 ≤ r)) ((List.range c.items).map fun k => (s.bk k).report)
      rw [List.length_map, List.length_range] at h1
      have h3 : c.items ≤ 3 := hc.items.2
      omega
  · rw [step_sent h9]
    refine ⟨by simp, ?_, ?_⟩
    · unfold Wld.step
      rw [if_neg h9]
      split
      · unfold Wld.deliver
        repeat' split
        · simp [noT]
        · simp [noT]
        · simp [noT]
        · rename_i x hx
          have := recB_small (labs := c.labs) hc (h.ls x (List.mem_of_getElem? hx))
          simp only; omega
      split
      · unfold Wld.lose; split <;> simp [noT]
      split
      · simp [noT]
      split
      · simp [noT]
      simp only
      unfold Wld.client Wld.entry
      repeat' split
      all_goals simp [noT]
    · unfold Wld.step
      rw [if_neg h9]
      split
      · unfold Wld.deliver
        repeat' split
        all_goals simp [noT]
      split
      · unfold Wld.lose; split <;> simp [noT]
      split
      · simp [noT]
      split
      · simp [noT]
      simp only
      unfold Wld.client Wld.entry
      repeat' split
      all_goals simp [noT]
theorem wFold_bd {c : Cfg} (hc : c.Ok) (l : List Stp) (hl : l.length ≤ 300 := by omega) : ∀ t ∈ (wFold c l).2, t.sent.length ≤ 1000000 ∧ t.frame.length ≤ 1000000 ∧ t.report.length ≤ 1000000 := fun t ht => by
  obtain ⟨i, hi, rfl⟩ := List.getElem_of_mem ht
  have hi' : i < l.length := by rw [← wFold_len c l]; exact hi
  have := told_at c l i hi'
  rw [List.getElem?_eq_getElem hi, Option.some.injEq] at this
  rw [this]
  exact step_bd hc (wFold_ok c hc l i (by omega) (by omega)) _
end Go.Proofs.YtjdedflfdlhkdaaGreatDoor
