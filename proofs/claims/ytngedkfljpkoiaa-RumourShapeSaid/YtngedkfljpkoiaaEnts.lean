/- Package reg: the laws' EntriesOf, merge. -/
import Derived.Test.YtngedkfljpkoiaaSameE
import Derived.Test.YtngedkfljpkoiaaJoinE
namespace Go.Proofs.Ytngedkfljpkoiaa
open Go.ChangeShapes Go.WideShapes Go.ChangeAt Go.RowKit
set_option linter.unusedVariables false
set_option linter.unusedSimpArgs false

theorem mergeL_one (a : List Ent) (e : Ent) : mergeL a [e] = mergeOne a e := rfl
theorem SixL.one {e : Ent} (h : e.Ok) (h0 : 0 ≤ e.k ∧ e.k < 6) : SixL [e] := ⟨⟨fun x hx => by simp at hx; subst hx; exact h, by simp⟩, fun x hx => by simp at hx; subst hx; exact h0⟩
theorem entsTo_succ (l : List Ent) (k : Nat) (hk : k < l.length) : mergeL [] ((l.take (k + 1)).map EntPick) = mergeL (mergeL [] ((l.take k).map EntPick)) [EntPick l[k]] := by
  rw [take_snoc l k hk, List.map_append, List.map_cons, List.map_nil, mergeL_snoc, mergeL_one]
set_option maxRecDepth 100000 in
set_option maxHeartbeats 4000000 in
theorem centriesOf (v : Value) (l : List Ent) (w : World) (h : Has w 5 v l.length (ents l)) :
    Calls Try.prog 25 #[v] w fun e w' => ∃ v', e = .returned (.tuple #[v', .bool true]) ∧ w'.ownsRow w.heap.size 41 5 v' (entsOf l).length (ents (entsOf l)) ∧ Below w.heap.size w w' := by
  have H := Lib.hid h
  obtain ⟨_, ad, cap, rfl, _, hcm, _⟩ := h
  unfold maxLen at hcm
  go_enter Try.func25, Try.ntmps25
  go_wp2_with fail
  have fin : Hid (∀ (k : Nat) (wr : World) (v : Value), mergeL [] ((l.take k).map EntPick) = entsOf l → wr.ownsRow w.heap.size 41 5 v (mergeL [] ((l.take k).map EntPick)).length (ents (mergeL [] ((l.take k).map EntPick))) → Below w.heap.size w wr → Calls Try.prog 15 #[v] wr fun e w' => e = .returned (.bool true) ∧ w'.ownsRow w.heap.size 41 5 v (entsOf l).length (ents (entsOf l)) ∧ Below w.heap.size w w') := fun k wr v he ho hb => by
    rw [he] at ho
    refine (cmay v (entsOf l) wr (Has.of_owns ho) (entsOf_six l).may (by have := (entsOf_six l).len; omega)).mono ?_
    rintro e w' ⟨rfl, hb'⟩
    exact ⟨rfl, owns_below ho hb', hb.trans (hb'.mono hb.size)⟩
  go_loopw [4, 5, 6, 7] (fun out i _ _ wr => ∃ k : Nat, k ≤ l.length ∧ k ≤ 30 ∧ i = .int .i64 k ∧ Hid (wr.ownsRow w.heap.size 41 5 out (mergeL [] ((l.take k).map EntPick)).length (ents (mergeL [] ((l.take k).map EntPick)))) ∧ Hid (Below w.heap.size w wr)) (fun _ i _ _ _ => l.length - (intOf i).toNat)
  case atStart => exact ⟨0, by omega, by omega, rfl, World.ownsRow_nil _ _ _ _, Below.refl _ _⟩
  case round =>
    obtain ⟨k, hk, hk30, rfl, HO, HB⟩ := hrel
    by_cases h1 : k < l.length
    · by_cases h2 : k < 30
      · obtain ⟨b, off, cap', he, -, x0, x1, x2, x3, x4⟩ := ent_get H.out k h1
        simp only [Value.slice.injEq] at he
        obtain ⟨rfl, -, rfl⟩ := he
        replace x0 := cell_on HB.out x0
        replace x1 := cell_on HB.out x1
        replace x2 := cell_on HB.out x2
        replace x3 := cell_on HB.out x3
        replace x4 := cell_on HB.out x4
        have hsucc := Lib.hid (entsTo_succ l k h1)
        have CE := Lib.hid (centryOf l[k] wr)
        have hok := entPick_ok l[k]
        have hsix := entsTo_six l k
        unfold Ent.val at CE
        generalize EntPick l[k] = e1 at *
        generalize l[k] = x at *
        generalize mergeL [] ((l.take k).map EntPick) = cur at *
        have e1z : (k : Int) < (l.length : Int) := by omega
        have e2z : (k : Int) < 30 := by omega
        clear fin
        go_wp2_with fail
        refine CE.out.mono ?_
        rintro e w5 ⟨rfl, hb5⟩
        have HB5 : Hid (Below w.heap.size w w5) := HB.out.trans (hb5.mono HB.out.size)
        have hbx := ent_box (w := w5) e1
        have hnew := heap_alloc_new w5 (.cells #[.int .i64 e1.k, .int .i64 e1.v, .int .i64 e1.t, .int .i64 e1.h, .bool e1.g] 41)
        have CM := Lib.hid (cmerge _ (.slice (some ⟨w5.heap.size, 0, none⟩) 1 1) cur [e1] _ (Has.of_owns (owns_below (owns_below HO.out hb5) hbx)) (has_block (wp := w5) (cs := ents [e1]) hnew rfl rfl (by decide)) hsix.may (SixL.one hok.1 hok.2).may (by have := hsix.len; omega) (by simp) (by have := (hsix.merge (SixL.one hok.1 hok.2)).len; omega))
        have HB6 : Hid (Below w.heap.size w (w5.alloc (.cells #[.int .i64 e1.k, .int .i64 e1.v, .int .i64 e1.t, .int .i64 e1.h, .bool e1.g] 41))) := HB5.out.trans (hbx.mono HB5.out.size)
        clear hb5 CE x0 x1 x2 x3 x4 hbx hnew hsix hok HB5
        go_wp2_with fail
        refine CM.out.mono ?_
        rintro e w7 ⟨v7, rfl, hown7, hb7⟩
        obtain ⟨a7, c7, rfl⟩ := owns_slice hown7
        have HO7 := Lib.hid (owns_base hown7 HB6.out.size)
        have HB7 : Hid (Below w.heap.size w w7) := HB6.out.trans (hb7.mono HB6.out.size)
        clear hown7 hb7 CM HB6 HO HB
        go_wp2_with fail
        go_roundw
        case rel => exact ⟨k + 1, by omega, by omega, by go_num, by rw [hsucc.out]; exact HO7, HB7⟩
        case measure => first | (simp [intOf]; done) | (simp [intOf]; omega)
      · obtain rfl : k = 30 := by omega
        have e1z : (30 : Int) < (l.length : Int) := by omega
        have CF := Lib.hid (fin.out 30 wr _ rfl HO.out HB.out)
        clear fin HO HB
        go_wp2_with fail
        refine CF.out.mono ?_
        rintro e w' ⟨rfl, ho, hb⟩
        have HO := Lib.hid ho
        have HB := Lib.hid hb
        clear ho hb CF
        go_wp2_with fail
        go_ret2
        exact ⟨_, rfl, HO.out, HB.out⟩
    · obtain rfl : k = l.length := by omega
      have he : mergeL [] ((l.take l.length).map EntPick) = entsOf l := by unfold entsOf; rw [List.take_of_length_le hk30, List.take_of_length_le (Nat.le_refl _)]
      have CF := Lib.hid (fin.out l.length wr _ he HO.out HB.out)
      clear fin HO HB he
      go_wp2_with fail
      refine CF.out.mono ?_
      rintro e w' ⟨rfl, ho, hb⟩
      have HO := Lib.hid ho
      have HB := Lib.hid hb
      clear ho hb CF
      go_wp2_with fail
      go_ret2
      exact ⟨_, rfl, HO.out, HB.out⟩
end Go.Proofs.Ytngedkfljpkoiaa
