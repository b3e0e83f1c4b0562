/- Package hold: the library's Delete on rows of holds. -/
import Derived.Test.YtgmichaconnhaaaHoldN
namespace Go.Proofs.Ytgmichaconnhaaa
open Go.ChangeShapes Go.WideShapes Go.ChangeAt Go.RowKit
set_option linter.unusedVariables false
set_option linter.unusedSimpArgs false

theorem hcs_erase (l : List Hd) (i : Nat) : hcs (l.eraseIdx i) = (hcs l).take (i * 3) ++ (hcs l).drop ((i + 1) * 3) := by
  rw [hcs_take, hcs_drop, ← hcs_append, List.eraseIdx_eq_take_drop_succ]
/-- Behind the append and the clearing. -/
theorem owns_erased {w : World} {base g cap : Nat} {l : List Hd} (i : Nat) (hi : i < l.length) (h : w.ownsRow base 146 3 (.slice (some ⟨g, 0, none⟩) l.length cap) l.length (hcs l)) :
    ∃ xs, (w.setCells g (i * 3) ((hcs l).drop ((i + 1) * 3))).ownsRow base 146 3 (.slice (some ⟨g, 0, none⟩) l.length cap) l.length xs ∧ xs.take ((l.length - 1) * 3) = hcs (l.eraseIdx i) := by
  have hlen := hcs_length l
  have h1 := owns_write h (i * 3) ((hcs l).drop ((i + 1) * 3)) (by rw [List.length_drop]; omega)
  refine ⟨_, h1, ?_⟩
  have e1 : ((hcs l).take (i * 3) ++ (hcs l).drop ((i + 1) * 3)).length = (l.length - 1) * 3 := by rw [List.length_append, List.length_take, List.length_drop]; omega
  rw [List.take_append_of_le_length (by rw [e1]; exact Nat.le_refl _), List.take_of_length_le (by rw [e1]; exact Nat.le_refl _), hcs_erase]
theorem owns_cleared {w : World} {base g cap n : Nat} {l : List Hd} {xs zs : List Value} (h : w.ownsRow base 146 3 (.slice (some ⟨g, 0, none⟩) n cap) n xs) (hx : xs.take ((n - 1) * 3) = hcs l) (hn : 0 < n) (hz : zs.length = 3) :
    (w.setCells g ((n - 1) * 3) zs).ownsRow base 146 3 (.slice (some ⟨g, 0, none⟩) (n - 1) cap) l.length (hcs l) := by
  have hxl := h.1
  have e2 : l.length = n - 1 := by
    have := congrArg List.length hx
    rw [List.length_take, hcs_length] at this
    omega
  have h1 := owns_cut (owns_write h ((n - 1) * 3) zs (by rw [hz]; omega)) (show n - 1 ≤ n by omega)
  have e1 : (xs.take ((n - 1) * 3)).length = (n - 1) * 3 := by rw [List.length_take]; omega
  rw [List.append_assoc, List.take_append_of_le_length (by rw [e1]; exact Nat.le_refl _), List.take_of_length_le (by rw [e1]; exact Nat.le_refl _), hx] at h1
  rw [e2]; exact h1
set_option maxRecDepth 100000 in
set_option maxHeartbeats 4000000 in
theorem cDelete {w : World} {base : Nat} {v : Value} {l : List Hd} (i : Nat) (hi : i < l.length) (h : w.ownsRow base 146 3 v l.length (hcs l)) :
    Calls Try.prog 84 #[v, .int .i64 i, .int .i64 ((i : Int) + 1)] w fun e w' => ∃ v', e = .returned v' ∧ w'.ownsRow base 146 3 v' (l.eraseIdx i).length (hcs (l.eraseIdx i)) ∧ Below base w w' ∧ Chc [146] w w' := by
  obtain ⟨gg, cap, rfl, ⟨c1, c2⟩, -, hfz⟩ := hd_get h i hi
  have hd : w.drew.ownsRow base 146 3 (.slice (some ⟨gg, 0, none⟩) l.length cap) l.length (hcs l) := h
  obtain ⟨xs, hX, hx⟩ := owns_erased i hi hd
  have hXc := owns_chc_write hd (i * 3) ((hcs l).drop ((i + 1) * 3))
  obtain ⟨zs, hz, hcl⟩ := run_clear_hold hX (l.length - 1) (by omega) (cap - (l.length - 1))
  rw [show l.length - (l.length - 1) = 1 by omega] at hz
  have hF := Lib.hid (owns_cleared hX hx (by omega) (by omega))
  have hG := Lib.hid (owns_chc_write hX ((l.length - 1) * 3) zs)
  have hXC := Lib.hid hXc
  have hb0 : Hid (Below w.heap.size w w.drew) := (Below.refl _ _).drew
  obtain ⟨info, hinfo, _, hsz, _, _, _⟩ := elHold
  have hnl : Hid (((hcs l).drop ((i + 1) * 3)).length = (l.length - (i + 1)) * 3) := by
    show _ = _
    rw [List.length_drop, hcs_length]; omega
  have hone : Hid (∀ u ∈ (hcs l).drop ((i + 1) * 3), u.oneCell' = true) := fun u hu => hcs_one l u (List.mem_of_mem_drop hu)
  have hcells : ∀ (j : Nat) (u : Value), (hcs l)[j]? = some u → w.drew.cell? ⟨gg, j, none⟩ = some u := fun j u hu => by
    obtain ⟨_, _, _, _, _, _, hcc⟩ := Has.of_owns h
    obtain ⟨g', cap', he, _, _, _, hcc⟩ := owns_some h (by omega)
    simp only [Value.slice.injEq, Option.some.injEq, Addr.mk.injEq, and_true, true_and] at he
    obtain ⟨rfl, rfl⟩ := he
    exact hcc j u hu
  obtain ⟨A, hA, hsrc⟩ : ∃ A : Addr, (if cap = i + 1 then some (⟨gg, 0, none⟩ : Addr) else some ⟨gg, (i + 1) * 3, none⟩) = some A ∧ Hid (∀ t u, ((hcs l).drop ((i + 1) * 3))[t]? = some u → w.drew.cell? (A.add t) = some u) := by
    by_cases hc : cap = i + 1
    · refine ⟨⟨gg, 0, none⟩, by simp [hc], fun t u hu => ?_⟩
      have h0 := (List.getElem?_eq_some_iff.1 hu).1
      rw [hnl.out] at h0
      omega
    · refine ⟨⟨gg, (i + 1) * 3, none⟩, by simp [hc], fun t u hu => ?_⟩
      rw [List.getElem?_drop] at hu
      rw [Addr.add_lit]
      exact hcells _ u hu
  have hspare : Hid (∀ t, t < ((hcs l).drop ((i + 1) * 3)).length → (w.drew.cell? ⟨gg, 0 + i * 3 + t, none⟩).isSome = true ∧ w.drew.frozen? ⟨gg, 0 + i * 3 + t, none⟩ = false) := fun t ht => by
    rw [hnl.out] at ht
    have : i * 3 + t < (hcs l).length := by rw [hcs_length]; omega
    refine ⟨?_, hfz _⟩
    rw [hcells (0 + i * 3 + t) _ (by rw [Nat.zero_add]; exact List.getElem?_eq_getElem this)]; rfl
  have hic : i ≤ cap := by omega
  have hjc : i + 1 ≤ cap := by omega
  have hjz : (i : Int) + 1 ≤ l.length := by omega
  have hj0 : 0 ≤ (i : Int) + 1 := by omega
  obtain ⟨W1, hW1⟩ : ∃ W1, Hid (W1 = w.drew.setCells gg (0 + i * 3) ((hcs l).drop ((i + 1) * 3))) := ⟨w.drew.setCells gg (0 + i * 3) ((hcs l).drop ((i + 1) * 3)), (rfl : w.drew.setCells gg (0 + i * 3) ((hcs l).drop ((i + 1) * 3)) = w.drew.setCells gg (0 + i * 3) ((hcs l).drop ((i + 1) * 3)))⟩
  have eW : w.drew.setCells gg (i * 3) ((hcs l).drop ((i + 1) * 3)) = W1 := by rw [hW1.out, Nat.zero_add]
  rw [eW] at hF hG hcl hXC
  have hne : ((i : Int) == (i : Int) + 1) = false := by rw [beq_eq_false_iff_ne]; omega
  generalize hnews : (hcs l).drop ((i + 1) * 3) = news at *
  have e9 : i + (l.length - (i + 1)) = l.length - 1 := by omega
  clear hnews h hd hX hx hXc hcells eW hz
  unfold maxLen at c2
  go_enter Try.func84, Try.ntmps84
  go_wp2_with fail
  go_region_law (refine step_append_room rfl (.tmp 22) (.tmp 25) 101 rfl 146 info 3 Try.underlying101 hinfo hsz gg 0 i cap (by simp [Act.eval, Act.put]) A (l.length - (i + 1)) (cap - (i + 1)) news (by simp [Act.eval, Act.put]) hnl.out hsrc.out hone.out (by omega) hspare.out ?_; rw [← hW1.out, e9])
  go_wp2_with fail
  go_ret
  exact ⟨_, rfl, hF.out, ((Below.refl base w).drew.trans hXC.out.2).trans hG.out.2, ((Chc.refl _ w).drew.trans hXC.out.1).trans hG.out.1⟩
end Go.Proofs.Ytgmichaconnhaaa
