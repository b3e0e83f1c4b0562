/- The laws' StoreOf. -/
import Derived.Test.YtngedkfljpkoiaaFrmI
import Derived.Test.YtngedkfljpkoiaaFrmH
import Derived.Test.YtngedkfljpkoiaaEnts
namespace Go.Proofs.Ytngedkfljpkoiaa
open Go.ChangeShapes Go.WideShapes Go.ChangeAt Go.RowKit
set_option linter.unusedVariables false
set_option linter.unusedSimpArgs false

theorem entsOf_v (l : List Ent) : EightL (entsOf l) ∧ ∀ e ∈ entsOf l, e.v ≤ 255 := by
  have h6 := entsOf_six l
  refine ⟨⟨h6.may, fun e he => ?_⟩, fun e he => ?_⟩
  · have := h6.six e he; omega
  · rcases mergeL_mem he with h | h
    · simp at h
    · obtain ⟨x, _, rfl⟩ := List.mem_map.1 h
      have := pick_bd x.v 3 (by omega)
      unfold EntPick
      simp only
      split <;> omega
/-- Entries of three labels. -/
def three (a b c : List Ent) (j : Nat) : List Ent := entsOf (if j = 0 then a else if j = 1 then b else c)
set_option maxRecDepth 100000 in
set_option maxHeartbeats 4000000 in
theorem cStoreOf {w : World} {va vb vc : Value} {a b c : List Ent} (ha : Has w 5 va a.length (ents a)) (hb : Has w 5 vb b.length (ents b)) (hc : Has w 5 vc c.length (ents c)) :
    Calls Try.prog 18 #[va, vb, vc] w fun e w' => ∃ g vs, e = .returned (.tuple #[.slice (some ⟨g, 0, none⟩) 3 3, .bool true]) ∧ StoreH w' (.slice (some ⟨g, 0, none⟩) 3 3) 3 vs (three a b c) ∧ (∀ j, j < 3 → w'.cell? ⟨g, j, none⟩ = some (vs j)) ∧ Below w.heap.size w w' := by
  have Ca := Lib.hid (centriesOf va a w ha)
  have Hb := Lib.hid hb
  have Hc := Lib.hid hc
  obtain ⟨_, aa, ca, rfl, _, _, _⟩ := ha
  obtain ⟨_, ab, cb, rfl, _, _, _⟩ := hb
  obtain ⟨_, ac, cc, rfl, _, _, _⟩ := hc
  go_enter Try.func18, Try.ntmps18
  go_wp2_with fail
  refine Ca.out.mono ?_
  rintro e w1 ⟨v1, rfl, hown1, hb1⟩
  obtain ⟨a1, c1, rfl⟩ := owns_slice hown1
  have H1 := Lib.hid (Has.of_owns hown1)
  have Cb := Lib.hid (centriesOf _ b w1 (Hb.out.below hb1))
  have Hc1 := Lib.hid (Hc.out.below hb1)
  have B1 := Lib.hid hb1
  clear Ca hown1 hb1 Hb Hc
  go_wp2_with fail
  refine Cb.out.mono ?_
  rintro e w2 ⟨v2, rfl, hown2, hb2⟩
  obtain ⟨a2, c2, rfl⟩ := owns_slice hown2
  have H2 := Lib.hid (Has.of_owns hown2)
  have Cc := Lib.hid (centriesOf _ c w2 (Hc1.out.below hb2))
  have H12 := Lib.hid (H1.out.below hb2)
  have B2 := Lib.hid (B1.out.trans (hb2.mono B1.out.size))
  clear Cb hown2 hb2 Hc1 H1 B1
  go_wp2_with fail
  refine Cc.out.mono ?_
  rintro e w3 ⟨v3, rfl, hown3, hb3⟩
  obtain ⟨a3, c3, rfl⟩ := owns_slice hown3
  have H3 := Has.of_owns hown3
  have hbx : Below w3.heap.size w3 (w3.alloc (.cells #[.slice a1 (entsOf a).length c1, .slice a2 (entsOf b).length c2, .slice a3 (entsOf c).length c3] 33)) := (Below.refl _ _).alloc (Nat.le_refl _) _
  have hnew := heap_alloc_new w3 (.cells #[.slice a1 (entsOf a).length c1, .slice a2 (entsOf b).length c2, .slice a3 (entsOf c).length c3] 33)
  have hfin : Hid (∃ vs, StoreH (w3.alloc (.cells #[.slice a1 (entsOf a).length c1, .slice a2 (entsOf b).length c2, .slice a3 (entsOf c).length c3] 33)) (.slice (some ⟨w3.heap.size, 0, none⟩) 3 3) 3 vs (three a b c) ∧ (∀ j, j < 3 → (w3.alloc (.cells #[.slice a1 (entsOf a).length c1, .slice a2 (entsOf b).length c2, .slice a3 (entsOf c).length c3] 33)).cell? ⟨w3.heap.size, j, none⟩ = some (vs j)) ∧ Below w.heap.size w (w3.alloc (.cells #[.slice a1 (entsOf a).length c1, .slice a2 (entsOf b).length c2, .slice a3 (entsOf c).length c3] 33))) := by
    refine ⟨fun j => if j = 0 then .slice a1 (entsOf a).length c1 else if j = 1 then .slice a2 (entsOf b).length c2 else .slice a3 (entsOf c).length c3, ⟨?_, fun j hj => ?_, fun j hj => ?_⟩, fun j hj => ?_, ?_⟩
    · exact has_block (wp := w3) (n := 3) (sz := 1) hnew rfl rfl (by decide)
    · rcases (show j = 0 ∨ j = 1 ∨ j = 2 by omega) with rfl | rfl | rfl
      · exact (H12.out.below hb3).below hbx
      · exact (H2.out.below hb3).below hbx
      · exact H3.below hbx
    · exact entsOf_v _
    · rw [cell_of_row _ _ _ _ _ _ hnew]
      rcases (show j = 0 ∨ j = 1 ∨ j = 2 by omega) with rfl | rfl | rfl <;> rfl
    · exact (B2.out.trans (hb3.mono B2.out.size)).trans (hbx.mono (B2.out.trans (hb3.mono B2.out.size)).size)
  obtain ⟨vs, hfin⟩ := hfin
  have Hfin := Lib.hid hfin
  clear Cc hown3 hb3 H12 H2 H3 B2 hbx hnew hfin
  go_wp2_with fail
  go_ret2
  exact ⟨_, vs, rfl, Hfin.out⟩
end Go.Proofs.Ytngedkfljpkoiaa
