/- Package reg: the library's Insert of one entry where there is no room; all cases. -/
import Derived.Test.YtngedkfljpkoiaaIns
namespace Go.Proofs.Ytngedkfljpkoiaa
open Go.ChangeShapes Go.WideShapes Go.ChangeAt Go.RowKit
set_option linter.unusedVariables false
set_option linter.unusedSimpArgs false

/-- What is behind the two copies into the new row. -/
theorem insG_cells (l : List Ent) (i : Nat) (hi : i < l.length) (e : Ent) (Z : List Value) (hZ : Z.length = (l.length + 1 - i) * 5) :
    (((((ents l).take (i * 5) ++ Z).take (i * 5) ++ e.cells ++ ((ents l).take (i * 5) ++ Z).drop (i * 5 + e.cells.length)).take ((i + 1) * 5)) ++ (ents l).drop (i * 5) ++
      (((ents l).take (i * 5) ++ Z).take (i * 5) ++ e.cells ++ ((ents l).take (i * 5) ++ Z).drop (i * 5 + e.cells.length)).drop ((i + 1) * 5 + ((ents l).drop (i * 5)).length)) = ents (l.take i ++ [e] ++ l.drop i) := by
  have hl := ents_length l
  have e0 : ((ents l).drop (i * 5)).length = (l.length - i) * 5 := by rw [List.length_drop, hl]; omega
  have e1 : ((ents l).take (i * 5)).length = i * 5 := by rw [List.length_take, hl]; omega
  have e2 : ((ents l).take (i * 5) ++ Z).take (i * 5) = (ents l).take (i * 5) := by
    rw [List.take_append_of_le_length (by rw [e1]; exact Nat.le_refl _), List.take_of_length_le (by rw [e1]; exact Nat.le_refl _)]
  rw [e2, Ent.cells_length]
  have e3 : ((ents l).take (i * 5) ++ e.cells).length = (i + 1) * 5 := by rw [List.length_append, e1, Ent.cells_length]; omega
  have e4 : (((ents l).take (i * 5) ++ Z).drop (i * 5 + 5)).length = (l.length - i) * 5 := by rw [List.length_drop, List.length_append, e1, hZ]; omega
  rw [List.take_append_of_le_length (by rw [e3]; exact Nat.le_refl _), List.take_of_length_le (by rw [e3]; exact Nat.le_refl _)]
  have e5 : ((ents l).take (i * 5) ++ e.cells ++ ((ents l).take (i * 5) ++ Z).drop (i * 5 + 5)).drop ((i + 1) * 5 + ((ents l).drop (i * 5)).length) = [] := List.drop_of_length_le (by rw [List.length_append, e3, e4, e0]; exact Nat.le_refl _)
  rw [e5, List.append_nil, ents_take, ents_drop, ents_append, ents_append]
  simp [ents]
set_option maxRecDepth 100000 in
set_option maxHeartbeats 4000000 in
theorem cInsGrow {w : World} {base gg cap : Nat} {l : List Ent} (h : w.ownsRow base 41 5 (.slice (some ⟨gg, 0, none⟩) l.length cap) l.length (ents l)) (hbs : base ≤ w.heap.size) (hlen : l.length ≤ 1000) (i : Nat) (hi : i < l.length) (hroom : cap < l.length + 1) (e : Ent) (vb : Nat) (hv : w.heap[vb]? = some (.cells e.cells.toArray 41 (0, 0))) :
    Calls Try.prog 60 #[.slice (some ⟨gg, 0, none⟩) l.length cap, .int .i64 i, .slice (some ⟨vb, 0, none⟩) 1 1] w fun x w' => ∃ v', x = .returned v' ∧ w'.ownsRow base 41 5 v' (l.length + 1) (ents (l.take i ++ [e] ++ l.drop i)) ∧ Below base w w' := by
  obtain ⟨hcs, hfz, cur, hcur, hcsz, hbg, hnc, hm⟩ := owns_cells h
  have hl := ents_length l
  obtain ⟨info, hinfo, hz0, hsz, hby, hzs, _⟩ := elEntry
  have hgw : gg < w.heap.size := (Array.getElem?_eq_some_iff.1 hcur).1
  have hvw : vb < w.heap.size := (Array.getElem?_eq_some_iff.1 hv).1
  have hkk : (l.length : Int) + 1 - (i : Int) = ((l.length + 1 - i : Nat) : Int) := by omega
  have hik : i + (l.length + 1 - i) = l.length + 1 := by omega
  have hold : (Builtin.firstCells info.size i (.slice (some ⟨gg, 0, none⟩) i cap)).run Try.prog w.drew = .ok ((ents l).take (i * 5)).toArray w.drew := by
    rw [hsz]
    exact run_firstCells_some w.drew 5 i ⟨gg, 0, none⟩ i cap ((ents l).take (i * 5)) (by rw [List.length_take, hl]; omega) (fun j v hj => by
      rw [Addr.add_lit, Nat.zero_add]
      rw [List.getElem?_take] at hj
      split at hj
      · exact hcs j v hj
      · cases hj)
  have hrz : ∀ ty, (Builtin.append_ #[33, 3] ty #[.slice (some ⟨gg, 0, none⟩) i cap, .int .i64 ((l.length : Int) + 1 - (i : Int))]).run Try.prog w =
      .ok (.slice (some ⟨w.heap.size, 0, none⟩) (l.length + 1) (grownCap w (l.length + 1) cap 41)) (w.drew.alloc (.cells (((ents l).take (i * 5)).toArray ++ Builtin.zeroCells (Value.agg #[.int .i64 0, .int .i64 0, .int .i64 0, .int .i64 0, .bool false]).cells (l.length + 1 - i) ++ Builtin.zeroCells (Value.agg #[.int .i64 0, .int .i64 0, .int .i64 0, .int .i64 0, .bool false]).cells (grownCap w (l.length + 1) cap 41 - (l.length + 1))) 41)) := fun ty => by
    have hh := Lib.run_append_grow_zeros w 33 3 ty 41 info _ .i64 .i64 Try.underlying33 Try.underlying3 hinfo hz0 (some ⟨gg, 0, none⟩) i cap ((ents l).take (i * 5)) hold (l.length + 1 - i) (by omega) (by omega) (by omega) (by omega) (by rw [hby]; omega) (by rw [hby, hik]; exact growslice_fits_wide hroom (by omega))
    rw [hik] at hh
    rw [hkk]
    exact hh
  have hGn : l.length + 1 ≤ grownCap w (l.length + 1) cap 41 := grownCap_ge w _ _ _
  have hG63 : grownCap w (l.length + 1) cap 41 ≤ maxLen := grownCap_le_maxLen w (l.length + 1) cap 41 (by unfold maxLen; omega)
  generalize grownCap w (l.length + 1) cap 41 = G at *
  obtain ⟨ROW, hROW⟩ : ∃ ROW : Array Value, ROW = ((ents l).take (i * 5)).toArray ++ Builtin.zeroCells (Value.agg #[.int .i64 0, .int .i64 0, .int .i64 0, .int .i64 0, .bool false]).cells (l.length + 1 - i) ++ Builtin.zeroCells (Value.agg #[.int .i64 0, .int .i64 0, .int .i64 0, .int .i64 0, .bool false]).cells (G - (l.length + 1)) := ⟨_, rfl⟩
  rw [← hROW] at hrz
  have hz1 : (Builtin.zeroCells (Value.agg #[.int .i64 0, .int .i64 0, .int .i64 0, .int .i64 0, .bool false]).cells (l.length + 1 - i)).size = (l.length + 1 - i) * 5 := by rw [size_zeroCells]; rfl
  have hz2 : (Builtin.zeroCells (Value.agg #[.int .i64 0, .int .i64 0, .int .i64 0, .int .i64 0, .bool false]).cells (G - (l.length + 1))).size = (G - (l.length + 1)) * 5 := by rw [size_zeroCells]; rfl
  have e1 : ((ents l).take (i * 5)).length = i * 5 := by rw [List.length_take, hl]; omega
  have hRs : ROW.size = G * 5 := by
    rw [hROW, Array.size_append, Array.size_append, hz1, hz2, List.size_toArray, e1]
    omega
  have hRt : ROW.toList.take ((l.length + 1) * 5) = (ents l).take (i * 5) ++ (Builtin.zeroCells (Value.agg #[.int .i64 0, .int .i64 0, .int .i64 0, .int .i64 0, .bool false]).cells (l.length + 1 - i)).toList := by
    rw [hROW, Array.toList_append, Array.toList_append, List.toList_toArray]
    have e5 : ((ents l).take (i * 5) ++ (Builtin.zeroCells (Value.agg #[.int .i64 0, .int .i64 0, .int .i64 0, .int .i64 0, .bool false]).cells (l.length + 1 - i)).toList).length = (l.length + 1) * 5 := by
      rw [List.length_append, e1, Array.length_toList, hz1]; omega
    rw [List.take_append_of_le_length (by rw [e5]; exact Nat.le_refl _), List.take_of_length_le (by rw [e5]; exact Nat.le_refl _)]
  have hZl : ((Builtin.zeroCells (Value.agg #[.int .i64 0, .int .i64 0, .int .i64 0, .int .i64 0, .bool false]).cells (l.length + 1 - i)).toList).length = (l.length + 1 - i) * 5 := by rw [Array.length_toList, hz1]
  generalize (Builtin.zeroCells (Value.agg #[.int .i64 0, .int .i64 0, .int .i64 0, .int .i64 0, .bool false]).cells (l.length + 1 - i)).toList = Z at *
  have hX : (w.drew.alloc (.cells ROW 41)).ownsRow base 41 5 (.slice (some ⟨w.heap.size, 0, none⟩) (l.length + 1) G) (l.length + 1) ((ents l).take (i * 5) ++ Z) :=
    ⟨by rw [List.length_append, e1, hZl]; omega, .inr ⟨w.heap.size, G, ROW, rfl, hbs, heap_alloc_new w.drew _, hGn, hG63, hRs, hRt⟩⟩
  have e0 : ((ents l).drop (i * 5)).length = (l.length - i) * 5 := by rw [List.length_drop, hl]; omega
  have h1 := owns_write hX (i * 5) e.cells (by rw [Ent.cells_length]; omega)
  have h2 := owns_write h1 ((i + 1) * 5) ((ents l).drop (i * 5)) (by rw [e0]; omega)
  rw [insG_cells l i hi e Z hZl] at h2
  have c1 := (owns_chc_write hX (i * 5) e.cells).2
  have c2 := (owns_chc_write h1 ((i + 1) * 5) ((ents l).drop (i * 5))).2
  have c0 : Below base w (w.drew.alloc (.cells ROW 41)) := ((Below.refl base w).drew).alloc hbs _
  have hbW : Below w.heap.size w (w.drew.alloc (.cells ROW 41)) := ((Below.refl w.heap.size w).drew).alloc (Nat.le_refl _) _
  have hvW : (w.drew.alloc (.cells ROW 41)).heap[vb]? = some (.cells e.cells.toArray 41 (0, 0)) := by rw [hbW.block vb hvw]; exact hv
  obtain ⟨hcsX, hfzX, _⟩ := owns_cells hX
  obtain ⟨hcs1, hfz1, _⟩ := owns_cells h1
  have hXl := hX.1
  have h1l := h1.1
  have hcgW : ∀ j v, (ents l)[j]? = some v → ((w.drew.alloc (.cells ROW 41)).setCells w.heap.size (i * 5) e.cells).cell? ⟨gg, j, none⟩ = some v := fun j v hj => by
    rw [World.cell?_of_block (w := w) (a := ⟨gg, j, none⟩) (by rw [heap_setCells_ne _ _ _ _ _ (show gg ≠ w.heap.size by omega)]; exact hbW.block gg hgw)]
    exact hcs j v hj
  obtain ⟨W1, hW1⟩ : ∃ W1, W1 = w.drew.alloc (.cells ROW 41) := ⟨_, rfl⟩
  rw [← hW1] at hrz h1 h2 c1 c2 c0 hvW hcsX hfzX hcs1 hfz1 hcgW
  have hcpA : ∀ ty dc, (Builtin.copy_ #[33, 33] ty #[.slice (some ⟨w.heap.size, i * 5, none⟩) (l.length + 1 - i) dc, .slice (some ⟨vb, 0, none⟩) 1 1]).run Try.prog W1 = .ok (goInt (Nat.min 1 (l.length + 1 - i))) (W1.setCells w.heap.size (i * 5) e.cells) := fun ty dc =>
    run_copy_n W1 _ _ ty 41 5 w.heap.size (i * 5) (l.length + 1 - i) dc ⟨vb, 0, none⟩ 1 1 e.cells Try.underlying33 sizeEntry (by rw [Ent.cells_length]; simp only [Nat.min_def]; split <;> omega)
      (fun j v hj => by rw [Addr.add_lit, Nat.zero_add, cell_of_row W1 vb j _ _ _ hvW]; simpa using hj)
      (fun j hj => by rw [hcsX _ _ (List.getElem?_eq_getElem (by rw [hXl]; rw [Ent.cells_length] at hj; omega))]; rfl) (fun j hj => hfzX _) (fun v hv => by simp [Ent.cells] at hv; rcases hv with rfl | rfl | rfl | rfl | rfl <;> rfl)
  obtain ⟨W2, hW2⟩ : ∃ W2, W2 = W1.setCells w.heap.size (i * 5) e.cells := ⟨_, rfl⟩
  rw [← hW2] at hcpA h2 c1 c2 hcs1 hfz1 hcgW
  have hcpB : ∀ ty dc sc, (Builtin.copy_ #[33, 33] ty #[.slice (some ⟨w.heap.size, (i + 1) * 5, none⟩) (l.length - i) dc, .slice (some ⟨gg, i * 5, none⟩) (l.length - i) sc]).run Try.prog W2.drew = .ok (goInt (Nat.min (l.length - i) (l.length - i))) (W2.drew.setCells w.heap.size ((i + 1) * 5) ((ents l).drop (i * 5))) := fun ty dc sc =>
    run_copy_n W2.drew _ _ ty 41 5 w.heap.size ((i + 1) * 5) (l.length - i) dc ⟨gg, i * 5, none⟩ (l.length - i) sc ((ents l).drop (i * 5)) Try.underlying33 sizeEntry (by rw [e0]; simp only [Nat.min_def]; split <;> rfl)
      (fun j v hj => by
        rw [Addr.add_lit]
        rw [List.getElem?_drop] at hj
        exact hcgW (i * 5 + j) v hj)
      (fun j hj => by
        have := hcs1 ((i + 1) * 5 + j) _ (List.getElem?_eq_getElem (by rw [h1l]; rw [e0] at hj; omega))
        show (W2.cell? ⟨w.heap.size, (i + 1) * 5 + j, none⟩).isSome = true
        rw [this]; rfl)
      (fun j hj => hfz1 _) (fun v hv => ents_one l v (List.mem_of_mem_drop hv))
  have HF : Hid ((W2.drew.setCells w.heap.size ((i + 1) * 5) ((ents l).drop (i * 5))).ownsRow base 41 5 (.slice (some ⟨w.heap.size, 0, none⟩) (l.length + 1) G) (l.length + 1) (ents (l.take i ++ [e] ++ l.drop i))) := by
    rw [← drew_cells]; exact h2
  have HC : Hid (Below base w (W2.drew.setCells w.heap.size ((i + 1) * 5) ((ents l).drop (i * 5)))) := by
    rw [← drew_cells]; exact ((c0.trans c1).trans c2).drew
  have hq2 : ((i : Int) == (l.length : Int)) = false := by rw [beq_eq_false_iff_ne]; omega
  have hG2 : G ≤ 9223372036854775807 := by unfold maxLen at hG63; omega
  unfold maxLen at hm
  have hw1 : IntKind.i64.wrap ((i : Int) + 1) = (i : Int) + 1 := IntWalk.i64_in _ (by omega)
  have hw2 : IntKind.i64.wrap ((l.length : Int) + 1) = (l.length : Int) + 1 := IntWalk.i64_in _ (by omega)
  have hw3 : IntKind.i64.wrap ((l.length : Int) + 1 - (i : Int)) = (l.length : Int) + 1 - (i : Int) := IntWalk.i64_in _ (by omega)
  have hb1 : (0 : Int) ≤ (i : Int) + 1 := by omega
  have hin : i ≤ l.length := by omega
  have hrz2 : decide ((cap : Int) < (l.length : Int) + 1) = true := by simp; omega
  have htn : ((i : Int) + 1).toNat = i + 1 := by omega
  have hb2 : ¬ (G = i + 1) := by omega
  have hb3 : (i : Int) ≤ (l.length : Int) + 1 := by omega
  have hb4 : ¬ (G = i) := by omega
  have hb5 : (i : Int) + 1 ≤ (l.length : Int) + 1 := by omega
  have hb7 : ¬ (cap = i) := by omega
  have hb8 : (i : Int) ≤ (l.length : Int) := by omega
  have hb9 : i ≤ cap := by omega
  clear h hX h1 h2 c0 c1 c2 hcs hfz hcur hcsz hcs1 hfz1 hcsX hfzX hXl h1l hcgW hvW hbW hW1 hW2 hRt hRs hROW hold hkk hik hv hz0 hinfo hsz hby hzs hZl e1 e0 hl hz1 hz2 hG63
  go_enter Try.func60, Try.ntmps60
  go_wp2_with (first
    | (at_builtin; refine wpList_append_n _ rfl _ _ 33 3 rfl _ _ rfl rfl _ _ (hrz _) ?_)
    | (at_builtin; refine wpList_copy_n _ rfl _ _ 33 33 rfl _ _ rfl rfl (hcpA _ _) ?_))
  go_region_law (refine step_copy_n rfl _ _ 33 33 rfl _ _ (by simp [Act.eval, Act.put]) (by simp [Act.eval, Act.put]) (hcpB _ _ _) ?_)
  go_wp2_with fail
  go_ret
  exact ⟨_, rfl, HF.out, HC.out⟩
/-- All cases. -/
theorem cInsert {w : World} {base : Nat} {v : Value} {l : List Ent} (h : w.ownsRow base 41 5 v l.length (ents l)) (hbs : base ≤ w.heap.size) (hlen : l.length ≤ 1000) (i : Nat) (hi : i ≤ l.length) (e : Ent) (vb : Nat) (hne : v.ownBlock ≠ some vb) (hv : w.heap[vb]? = some (.cells e.cells.toArray 41 (0, 0))) :
    Calls Try.prog 60 #[v, .int .i64 i, .slice (some ⟨vb, 0, none⟩) 1 1] w fun x w' => ∃ v', x = .returned v' ∧ w'.ownsRow base 41 5 v' (l.length + 1) (ents (l.take i ++ [e] ++ l.drop i)) ∧ Below base w w' := by
  by_cases hl : i = l.length
  · subst hl
    exact cInsEnd h hbs hlen e vb hv
  · have hi' : i < l.length := by omega
    have hx : ∃ g c, v = .slice (some ⟨g, 0, none⟩) l.length c := by
      obtain ⟨_, hh⟩ := h
      rcases hh with ⟨_, hh⟩ | ⟨g, c, cur, hh, _⟩
      · omega
      · exact ⟨g, c, hh⟩
    obtain ⟨g, c, rfl⟩ := hx
    by_cases hr : l.length + 1 ≤ c
    · exact cInsShift h i hi' hr e vb (fun hh => hne (by rw [hh]; rfl)) hv
    · exact cInsGrow h hbs hlen i hi' (by omega) e vb hv
end Go.Proofs.Ytngedkfljpkoiaa
