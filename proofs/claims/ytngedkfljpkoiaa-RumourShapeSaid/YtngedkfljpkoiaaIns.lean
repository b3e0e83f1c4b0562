/- Package reg: the library's Insert of one entry. -/
import Derived.Test.YtngedkfljpkoiaaReg
import Derived.Test.YtngedkfljpkoiaaRowW
import Derived.Deep.RegionLaw
namespace Go.Proofs.Ytngedkfljpkoiaa
open Go.ChangeShapes Go.WideShapes Go.ChangeAt Go.RowKit
set_option linter.unusedVariables false
set_option linter.unusedSimpArgs false

theorem Ent.cells_length (e : Ent) : e.cells.length = 5 := rfl
def ents (l : List Ent) : List Value := l.flatMap Ent.cells
theorem ents_length (l : List Ent) : (ents l).length = l.length * 5 := flat_length Ent.cells 5 Ent.cells_length l
theorem ents_append (l m : List Ent) : ents (l ++ m) = ents l ++ ents m := by simp [ents]
theorem ents_take : ∀ (l : List Ent) (k : Nat), (ents l).take (k * 5) = ents (l.take k)
  | [], k => by simp [ents]
  | a :: t, 0 => by simp [ents]
  | a :: t, k + 1 => by
    have ih := ents_take t k
    rw [List.take_succ_cons]
    show ((Ent.cells a) ++ ents t).take ((k + 1) * 5) = Ent.cells a ++ ents (t.take k)
    rw [List.take_append, Ent.cells_length, show (k + 1) * 5 - 5 = k * 5 by omega, ih, List.take_of_length_le (by rw [Ent.cells_length]; omega)]
theorem ents_drop : ∀ (l : List Ent) (k : Nat), (ents l).drop (k * 5) = ents (l.drop k)
  | [], k => by simp [ents]
  | a :: t, 0 => by simp [ents]
  | a :: t, k + 1 => by
    have ih := ents_drop t k
    rw [List.drop_succ_cons]
    show ((Ent.cells a) ++ ents t).drop ((k + 1) * 5) = ents (t.drop k)
    rw [List.drop_append, Ent.cells_length, show (k + 1) * 5 - 5 = k * 5 by omega, ih, List.drop_of_length_le (by rw [Ent.cells_length]; omega), List.nil_append]
theorem ents_one (l : List Ent) : ∀ u ∈ ents l, u.oneCell' = true := by
  intro u hu
  simp only [ents, List.mem_flatMap] at hu
  obtain ⟨p, _, h⟩ := hu
  simp [Ent.cells] at h
  rcases h with rfl | rfl | rfl | rfl | rfl <;> rfl
theorem elEntry : Elem Try.prog 41 5 40 (.agg #[.int .i64 0, .int .i64 0, .int .i64 0, .int .i64 0, .bool false]) := .of (by kernel_rfl) rfl (by decide)
/-- What is behind the two copies. -/
theorem ins_cells (l : List Ent) (i : Nat) (hi : i < l.length) (e : Ent) (J : List Value) (hJ : J.length = 5) :
    (((ents l ++ J).take ((i + 1) * 5) ++ (ents l).drop (i * 5) ++ (ents l ++ J).drop ((i + 1) * 5 + ((ents l).drop (i * 5)).length)).take (i * 5) ++ e.cells ++
      ((ents l ++ J).take ((i + 1) * 5) ++ (ents l).drop (i * 5) ++ (ents l ++ J).drop ((i + 1) * 5 + ((ents l).drop (i * 5)).length)).drop (i * 5 + e.cells.length)) = ents (l.take i ++ [e] ++ l.drop i) := by
  have hl := ents_length l
  have e0 : ((ents l).drop (i * 5)).length = (l.length - i) * 5 := by rw [List.length_drop, hl]; omega
  have e1 : (ents l ++ J).drop ((i + 1) * 5 + ((ents l).drop (i * 5)).length) = [] := List.drop_of_length_le (by rw [List.length_append, hl, hJ, e0]; omega)
  have e2 : ((ents l ++ J).take ((i + 1) * 5)).length = (i + 1) * 5 := by rw [List.length_take, List.length_append, hl, hJ]; omega
  rw [e1, List.append_nil, Ent.cells_length]
  rw [List.take_append_of_le_length (by rw [e2]; omega), List.take_take, Nat.min_eq_left (by omega), List.take_append_of_le_length (by rw [hl]; omega), ents_take]
  rw [show i * 5 + 5 = (i + 1) * 5 by omega, List.drop_append, e2, Nat.sub_self, List.drop_zero, List.drop_of_length_le (by rw [e2]; exact Nat.le_refl _), List.nil_append, ents_drop]
  rw [ents_append, ents_append]
  simp [ents]
/-- At the end. -/
theorem ins_end (l : List Ent) (e : Ent) : ents l ++ e.cells = ents (l.take l.length ++ [e] ++ l.drop l.length) := by
  rw [List.take_length, List.drop_length, List.append_nil, ents_append]; simp [ents]
set_option maxRecDepth 100000 in
set_option maxHeartbeats 4000000 in
theorem cInsEnd {w : World} {base : Nat} {v : Value} {l : List Ent} (h : w.ownsRow base 41 5 v l.length (ents l)) (hbs : base ≤ w.heap.size) (hlen : l.length ≤ 1000) (e : Ent) (vb : Nat) (hv : w.heap[vb]? = some (.cells e.cells.toArray 41 (0, 0))) :
    Calls Try.prog 60 #[v, .int .i64 l.length, .slice (some ⟨vb, 0, none⟩) 1 1] w fun x w' => ∃ v', x = .returned v' ∧ w'.ownsRow base 41 5 v' (l.length + 1) (ents (l.take l.length ++ [e] ++ l.drop l.length)) ∧ Below base w w' := by
  have hsrc : Has w 5 (.slice (some ⟨vb, 0, none⟩) 1 1) 1 e.cells := ⟨⟨rfl, fun n c hh => by simp at hh⟩, _, 1, rfl, Nat.le_refl _, by unfold maxLen; omega, fun _ => ⟨vb, 0, rfl, fun j u hu => by rw [Nat.zero_add, cell_of_row w vb j _ _ _ hv]; simpa using hu⟩⟩
  have hone : e.cells.all Value.oneCell' = true := by simp [Ent.cells, Value.oneCell']
  obtain ⟨a, cap, rfl⟩ := owns_slice h
  have hcap : l.length ≤ cap ∧ cap ≤ maxLen := by
    obtain ⟨_, _, _, he, h1, h2, _⟩ := Has.of_owns h
    simp only [Value.slice.injEq] at he
    obtain ⟨-, -, rfl⟩ := he
    exact ⟨h1, h2⟩
  unfold maxLen at hcap
  have H := Lib.hid h
  have HS := Lib.hid hsrc
  have HO := Lib.hid hone
  rw [← ins_end l e]
  have hca : a = none → l.length = 0 := fun ha => by
    obtain ⟨⟨_, hn⟩, _⟩ := Has.of_owns h
    subst ha
    exact (hn _ _ rfl).1
  cases a with
  | none =>
    have h0 := hca rfl
    rw [h0] at H ⊢
    have hc0 : cap = 0 := by
      obtain ⟨⟨_, hn⟩, _⟩ := Has.of_owns h
      exact (hn _ _ rfl).2
    subst hc0
    clear h hsrc hone hca hcap
    go_enter Try.func60, Try.ntmps60
    go_wp2_with (refine wp_appN (w0 := w) 33 41 5 40 _ elEntry Try.underlying33 base _ _ _ H.out (Below.refl _ _) _ 1 e.cells HS.out rfl _ _ rfl rfl rfl HO.out (by omega) (by unfold maxLen; omega) hbs ?_; intro v3 w3 hown3 hgrow3 hb3)
    go_ret
    exact ⟨_, rfl, hown3, hb3⟩
  | some ad =>
    obtain ⟨gg, _, e0, hgs, -⟩ : ∃ g c, (Value.slice (some ad) l.length cap) = .slice (some ⟨g, 0, none⟩) l.length c ∧ True ∧ True := by
      obtain ⟨_, hh⟩ := h
      rcases hh with ⟨hh, _⟩ | ⟨g, c, cur, hh, _⟩
      · cases hh
      · exact ⟨g, c, hh, trivial, trivial⟩
    simp only [Value.slice.injEq, Option.some.injEq, true_and] at e0
    obtain ⟨rfl, rfl⟩ := e0
    clear h hsrc hone hca
    go_enter Try.func60, Try.ntmps60
    go_wp2_with (refine wp_appN (w0 := w) 33 41 5 40 _ elEntry Try.underlying33 base _ _ _ H.out (Below.refl _ _) _ 1 e.cells HS.out rfl _ _ rfl rfl rfl HO.out (by omega) (by unfold maxLen; omega) hbs ?_; intro v3 w3 hown3 hgrow3 hb3)
    all_goals (go_ret; exact ⟨_, rfl, hown3, hb3⟩)
theorem ovl (w : World) (vb g o la ca lb cb : Nat) (cs cur : Array Value) (e1 e2 : TypeId) (hvb : w.heap[vb]? = some (.cells cs e1 (0, 0))) (hg : w.heap[g]? = some (.cells cur e2 (0, 0))) (hne : vb ≠ g) (hc : cur.size ≠ 0) :
    (callFunc 66 #[.slice (some ⟨vb, 0, none⟩) la ca, .slice (some ⟨g, o, none⟩) lb cb]).run Try.prog w = .ok (.value (.bool false)) w := by
  rw [run_callFunc_extern Try.func66 (by kernel_rfl) (by kernel_rfl) (by kernel_rfl) (e := Extern.SlicesOverlaps.overlaps #[33, 33] #[4]) (by kernel_rfl),
      Lib.run_overlaps_apart w 33 4 41 Try.underlying33 5 (fun w => by kernel_rfl) ⟨vb, 0, none⟩ ⟨g, o, none⟩ la ca lb cb hne e1 e2 cs.size cur.size (by simp [World.shape?, hvb]) (by simp [World.shape?, hg]) hc (by simp [World.frozen?, hvb]) (by simp [World.frozen?, hvb])]
  rfl
theorem heap_setCells_ne (g : Nat) : ∀ (vs : List Value) (o : Nat) (w : World) (k : Nat), k ≠ g → (w.setCells g o vs).heap[k]? = w.heap[k]?
  | [], _, _, _, _ => rfl
  | v :: vs, o, w, k, hk => (heap_setCells_ne g vs (o + 1) (w.setCell ⟨g, o, none⟩ v) k hk).trans (Below.heap_setCell _ _ _ _ hk)
theorem sizeEntry : (Try.prog.info? 41).map (·.size) = some 5 := by kernel_rfl
theorem drew_cells (b : Nat) : ∀ (vs : List Value) (o : Nat) (w : World), (w.setCells b o vs).drew = w.drew.setCells b o vs
  | [], _, _ => rfl
  | v :: vs, o, w => drew_cells b vs (o + 1) (w.setCell ⟨b, o, none⟩ v)
set_option maxRecDepth 100000 in
set_option maxHeartbeats 4000000 in
theorem cInsShift {w : World} {base gg cap : Nat} {l : List Ent} (h : w.ownsRow base 41 5 (.slice (some ⟨gg, 0, none⟩) l.length cap) l.length (ents l)) (i : Nat) (hi : i < l.length) (hroom : l.length + 1 ≤ cap) (e : Ent) (vb : Nat) (hne : vb ≠ gg) (hv : w.heap[vb]? = some (.cells e.cells.toArray 41 (0, 0))) :
    Calls Try.prog 60 #[.slice (some ⟨gg, 0, none⟩) l.length cap, .int .i64 i, .slice (some ⟨vb, 0, none⟩) 1 1] w fun x w' => ∃ v', x = .returned v' ∧ w'.ownsRow base 41 5 v' (l.length + 1) (ents (l.take i ++ [e] ++ l.drop i)) ∧ Below base w w' := by
  have hd : w.drew.ownsRow base 41 5 (.slice (some ⟨gg, 0, none⟩) l.length cap) l.length (ents l) := h
  obtain ⟨J, hJ, hX⟩ := owns_ext hd hroom
  have hl := ents_length l
  have e0 : ((ents l).drop (i * 5)).length = (l.length - i) * 5 := by rw [List.length_drop, hl]; omega
  have h1 := owns_write hX ((i + 1) * 5) ((ents l).drop (i * 5)) (by rw [e0]; omega)
  have h2 := owns_write h1 (i * 5) e.cells (by rw [Ent.cells_length]; omega)
  rw [ins_cells l i hi e J hJ] at h2
  have c1 := (owns_chc_write hX ((i + 1) * 5) ((ents l).drop (i * 5))).2
  have c2 := (owns_chc_write h1 (i * 5) e.cells).2
  have HF := Lib.hid h2
  have HC : Hid (Below base w ((w.drew.setCells gg ((i + 1) * 5) ((ents l).drop (i * 5))).setCells gg (i * 5) e.cells)) := ((Below.refl base w).drew.trans c1).trans c2
  obtain ⟨hcs, hfz, cur, hcur, hcsz, _, _, hm⟩ := owns_cells hX
  obtain ⟨hcs1, hfz1, cur1, hcur1, hcsz1, _, _, _⟩ := owns_cells h1
  have hov : ∀ lb cb, (callFunc 66 #[.slice (some ⟨vb, 0, none⟩) 1 1, .slice (some ⟨gg, (i + 1) * 5, none⟩) lb cb]).run Try.prog w = .ok (.value (.bool false)) w := fun lb cb =>
    ovl w vb gg ((i + 1) * 5) 1 1 lb cb _ cur _ _ hv hcur hne (by omega)
  have hxl : (ents l ++ J).length = (l.length + 1) * 5 := by rw [List.length_append, hl, hJ]; omega
  have hsome : ∀ j, j < (l.length + 1) * 5 → (w.drew.cell? ⟨gg, j, none⟩).isSome = true := fun j hj => by
    rw [hcs j _ (List.getElem?_eq_getElem (by rw [hxl]; exact hj))]; rfl
  have hcp1 : ∀ ty dc sc, (Builtin.copy_ #[33, 33] ty #[.slice (some ⟨gg, (i + 1) * 5, none⟩) (l.length - i) dc, .slice (some ⟨gg, i * 5, none⟩) (l.length + 1 - i) sc]).run Try.prog w.drew = .ok (goInt (Nat.min (l.length + 1 - i) (l.length - i))) (w.drew.setCells gg ((i + 1) * 5) ((ents l).drop (i * 5))) := fun ty dc sc =>
    run_copy_n w.drew _ _ ty 41 5 gg ((i + 1) * 5) (l.length - i) dc ⟨gg, i * 5, none⟩ (l.length + 1 - i) sc ((ents l).drop (i * 5)) Try.underlying33 sizeEntry (by rw [e0]; simp only [Nat.min_def]; split <;> omega)
      (fun j v hj => by
        rw [Addr.add_lit]
        rw [List.getElem?_drop] at hj
        exact hcs (i * 5 + j) v (by rw [List.getElem?_append_left (by have := (List.getElem?_eq_some_iff.1 hj).1; exact this)]; exact hj))
      (fun j hj => hsome _ (by rw [e0] at hj; omega)) (fun j hj => hfz _) (fun v hv => ents_one l v (List.mem_of_mem_drop hv))
  obtain ⟨W1, hW1⟩ : ∃ W1, W1 = w.drew.setCells gg ((i + 1) * 5) ((ents l).drop (i * 5)) := ⟨_, rfl⟩
  have hv1 : W1.heap[vb]? = some (.cells e.cells.toArray 41 (0, 0)) := by
    rw [hW1, heap_setCells_ne _ _ _ _ _ hne]; exact hv
  rw [← hW1] at hcp1 HF HC hfz1 hcs1
  have hx1l := h1.1
  have hcp2 : ∀ (W : World), (∀ x, W.cell? x = W1.cell? x) → (∀ x, W.frozen? x = W1.frozen? x) → ∀ ty dc, (Builtin.copy_ #[33, 33] ty #[.slice (some ⟨gg, i * 5, none⟩) (l.length + 1 - i) dc, .slice (some ⟨vb, 0, none⟩) 1 1]).run Try.prog W = .ok (goInt (Nat.min 1 (l.length + 1 - i))) (W.setCells gg (i * 5) e.cells) := fun W hWc hWf ty dc =>
    run_copy_n W _ _ ty 41 5 gg (i * 5) (l.length + 1 - i) dc ⟨vb, 0, none⟩ 1 1 e.cells Try.underlying33 sizeEntry (by rw [Ent.cells_length]; simp only [Nat.min_def]; split <;> omega)
      (fun j v hj => by rw [Addr.add_lit, hWc, Nat.zero_add, cell_of_row W1 vb j _ _ _ hv1]; simpa using hj)
      (fun j hj => by rw [hWc, hcs1 _ _ (List.getElem?_eq_getElem (by rw [hx1l]; rw [Ent.cells_length] at hj; omega))]; rfl) (fun j hj => by rw [hWf]; exact hfz1 _) (fun v hv => by simp [Ent.cells] at hv; rcases hv with rfl | rfl | rfl | rfl | rfl <;> rfl)
  have hz2 : ((i : Int) == (l.length : Int)) = false := by rw [beq_eq_false_iff_ne]; omega
  unfold maxLen at hm
  have hw1 : IntKind.i64.wrap ((i : Int) + 1) = (i : Int) + 1 := IntWalk.i64_in _ (by omega)
  have hw2 : IntKind.i64.wrap ((l.length : Int) + 1) = (l.length : Int) + 1 := IntWalk.i64_in _ (by omega)
  have hb1 : (0 : Int) ≤ (i : Int) + 1 := by omega
  have hin : i ≤ l.length := by omega
  have hrz : ((l.length : Int) + 1) ≤ (cap : Int) := by omega
  have hrz2 : decide ((cap : Int) < (l.length : Int) + 1) = false := by simp; omega
  have htn : ((i : Int) + 1).toNat = i + 1 := by omega
  have htn2 : ((l.length : Int) + 1).toNat = l.length + 1 := by omega
  have hb2 : ¬ (cap = i + 1) := by omega
  have hb3 : (i : Int) ≤ (l.length : Int) + 1 := by omega
  have hb4 : ¬ (cap = i) := by omega
  have hb5 : (i : Int) + 1 ≤ (l.length : Int) + 1 := by omega
  have hb6 : 0 ≤ (l.length : Int) + 1 := by omega
  clear h hd hX h1 h2 c1 c2 hcs hfz hcur hcsz hcs1 hfz1 hcur1 hcsz1 hsome hxl hx1l hv1 hW1
  go_enter Try.func60, Try.ntmps60
  go_wp2_with (simp only [hov])
  go_region_law (refine step_copy_n rfl _ _ 33 33 rfl _ _ (by simp [Act.eval, Act.put]) (by simp [Act.eval, Act.put]) (hcp1 _ _ _) ?_)
  go_wp2_with (at_builtin; refine wpList_copy_n _ rfl _ _ 33 33 rfl _ _ rfl rfl (hcp2 _ (fun _ => rfl) (fun _ => rfl) _ _) ?_)
  go_ret
  exact ⟨_, rfl, HF.out, HC.out⟩
end Go.Proofs.Ytngedkfljpkoiaa
