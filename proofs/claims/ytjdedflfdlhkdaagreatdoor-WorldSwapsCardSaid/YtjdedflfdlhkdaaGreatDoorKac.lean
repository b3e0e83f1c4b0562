/- Texts that the claim imports, laid together: Ins InsG Eql Five MergeM MergeB Merge Join. No statement of their own. -/
import Derived.Deep.RegionLaw
import Derived.BigQuiet
import Derived.Shelf.Abstract
import Derived.Test.YtjdedflfdlhkdaaGreatDoorKaa
import Derived.Test.YtjdedflfdlhkdaaGreatDoorKab
namespace Go.Proofs.YtjdedflfdlhkdaaGreatDoor
open Go.ChangeShapes Go.WideShapes Go.ChangeAt Go.RowKit
set_option linter.unusedVariables false
set_option linter.unusedSimpArgs false

theorem Ent.cells_length (e : Ent) : e.cells.length = 5 := rfl
def ents (l : List Ent) : List Value := l.flatMap Ent.cells
theorem ents_length (l : List Ent) : (ents l).length = l.length * 5 := flat_length Ent.cells 5 Ent.cells_length l
theorem ents_append (l m : List Ent) : ents (l ++ m) = ents l ++ ents m := by simp [ents]
theorem ents_take : ∀ (l : List Ent) (k : Nat), (ents l).take (k * 5) = ents (l.take k)
  | [], k => by simp [ents]
  | a :: t, 0 => by simp [ents]
  | a :: t, k + 1 => by
    have ih := ents_take t k
    rw [List.take_succ_cons]
    show ((Ent.cells a) ++ ents t).take ((k + 1) * 5) = Ent.cells a ++ ents (t.take k)
    rw [List.take_append, Ent.cells_length, show (k + 1) * 5 - 5 = k * 5 by omega, ih, List.take_of_length_le (by rw [Ent.cells_length]; omega)]
theorem ents_drop : ∀ (l : List Ent) (k : Nat), (ents l).drop (k * 5) = ents (l.drop k)
  | [], k => by simp [ents]
  | a :: t, 0 => by simp [ents]
  | a :: t, k + 1 => by
    have ih := ents_drop t k
    rw [List.drop_succ_cons]
    show ((Ent.cells a) ++ ents t).drop ((k + 1) * 5) = ents (t.drop k)
    rw [List.drop_append, Ent.cells_length, show (k + 1) * 5 - 5 = k * 5 by omega, ih, List.drop_of_length_le (by rw [Ent.cells_length]; omega), List.nil_append]
theorem ents_one (l : List Ent) : ∀ u ∈ ents l, u.oneCell' = true := by
  intro u hu
  simp only [ents, List.mem_flatMap] at hu
  obtain ⟨p, _, h⟩ := hu
  simp [Ent.cells] at h
  rcases h with rfl | rfl | rfl | rfl | rfl <;> rfl
theorem elEntry : Elem Tryz.prog 77 5 40 (.agg #[.int .i64 0, .int .i64 0, .int .i64 0, .int .i64 0, .bool false]) := .of (by kernel_rfl) rfl (by decide)
/-- What is behind the two copies. -/
theorem ins_cells (l : List Ent) (i : Nat) (hi : i < l.length) (e : Ent) (J : List Value) (hJ : J.length = 5) :
    (((ents l ++ J).take ((i + 1) * 5) ++ (ents l).drop (i * 5) ++ (ents l ++ J).drop ((i + 1) * 5 + ((ents l).drop (i * 5)).length)).take (i * 5) ++ e.cells ++
      ((ents l ++ J).take ((i + 1) * 5) ++ (ents l).drop (i * 5) ++ (ents l ++ J).drop ((i + 1) * 5 + ((ents l).drop (i * 5)).length)).drop (i * 5 + e.cells.length)) = ents (l.take i ++ [e] ++ l.drop i) := by
  have hl := ents_length l
  have e0 : ((ents l).drop (i * 5)).length = (l.length - i) * 5 := by rw [List.length_drop, hl]; omega
  have e1 : (ents l ++ J).drop ((i + 1) * 5 + ((ents l).drop (i * 5)).length) = [] := List.drop_of_length_le (by rw [List.length_append, hl, hJ, e0]; omega)
  have e2 : ((ents l ++ J).take ((i + 1) * 5)).length = (i + 1) * 5 := by rw [List.length_take, List.length_append, hl, hJ]; omega
  rw [e1, List.append_nil, Ent.cells_length]
  rw [List.take_append_of_le_length (by rw [e2]; omega), List.take_take, Nat.min_eq_left (by omega), List.take_append_of_le_length (by rw [hl]; omega), ents_take]
  rw [show i * 5 + 5 = (i + 1) * 5 by omega, List.drop_append, e2, Nat.sub_self, List.drop_zero, List.drop_of_length_le (by rw [e2]; exact Nat.le_refl _), List.nil_append, ents_drop]
  rw [ents_append, ents_append]
  simp [ents]
/-- At the end. -/
theorem ins_end (l : List Ent) (e : Ent) : ents l ++ e.cells = ents (l.take l.length ++ [e] ++ l.drop l.length) := by
  rw [List.take_length, List.drop_length, List.append_nil, ents_append]; simp [ents]
set_option maxRecDepth 100000 in
set_option maxHeartbeats 4000000 in
theorem cInsEnd {w : World} {base : Nat} {v : Value} {l : List Ent} (h : w.ownsRow base 77 5 v l.length (ents l)) (hbs : base ≤ w.heap.size) (hlen : l.length ≤ 1000) (e : Ent) (vb : Nat) (hv : w.heap[vb]? = some (.cells e.cells.toArray 77 (0, 0))) :
    Calls Tryz.prog 108 #[v, .int .i64 l.length, .slice (some ⟨vb, 0, none⟩) 1 1] w fun x w' => ∃ v', x = .returned v' ∧ w'.ownsRow base 77 5 v' (l.length + 1) (ents (l.take l.length ++ [e] ++ l.drop l.length)) ∧ Below base w w' := by
  have hsrc : Has w 5 (.slice (some ⟨vb, 0, none⟩) 1 1) 1 e.cells := ⟨⟨rfl, fun n c hh => by simp at hh⟩, _, 1, rfl, Nat.le_refl _, by unfold maxLen; omega, fun _ => ⟨vb, 0, rfl, fun j u hu => by rw [Nat.zero_add, cell_of_row w vb j _ _ _ hv]; simpa using hu⟩⟩
  have hone : e.cells.all Value.oneCell' = true := by simp [Ent.cells, Value.oneCell']
  obtain ⟨a, cap, rfl⟩ := owns_slice h
  have hcap : l.length ≤ cap ∧ cap ≤ maxLen := by
    obtain ⟨_, _, _, he, h1, h2, _⟩ := Has.of_owns h
    simp only [Value.slice.injEq] at he
    obtain ⟨-, -, rfl⟩ := he
    exact ⟨h1, h2⟩
  unfold maxLen at hcap
  have H := Lib.hid h
  have HS := Lib.hid hsrc
  have HO := Lib.hid hone
  rw [← ins_end l e]
  have hca : a = none → l.length = 0 := fun ha => by
    obtain ⟨⟨_, hn⟩, _⟩ := Has.of_owns h
    subst ha
    exact (hn _ _ rfl).1
  cases a with
  | none =>
    have h0 := hca rfl
    rw [h0] at H ⊢
    have hc0 : cap = 0 := by
      obtain ⟨⟨_, hn⟩, _⟩ := Has.of_owns h
      exact (hn _ _ rfl).2
    subst hc0
    clear h hsrc hone hca hcap
    go_enter Tryz.func108, Tryz.ntmps108
    go_wp2_with (refine wp_appN (w0 := w) 43 77 5 40 _ elEntry Tryz.underlying43 base _ _ _ H.out (Below.refl _ _) _ 1 e.cells HS.out rfl _ _ rfl rfl rfl HO.out (by omega) (by unfold maxLen; omega) hbs ?_; intro v3 w3 hown3 hgrow3 hb3)
    go_ret
    exact ⟨_, rfl, hown3, hb3⟩
  | some ad =>
    obtain ⟨gg, _, e0, hgs, -⟩ : ∃ g c, (Value.slice (some ad) l.length cap) = .slice (some ⟨g, 0, none⟩) l.length c ∧ True ∧ True := by
      obtain ⟨_, hh⟩ := h
      rcases hh with ⟨hh, _⟩ | ⟨g, c, cur, hh, _⟩
      · cases hh
      · exact ⟨g, c, hh, trivial, trivial⟩
    simp only [Value.slice.injEq, Option.some.injEq, true_and] at e0
    obtain ⟨rfl, rfl⟩ := e0
    clear h hsrc hone hca
    go_enter Tryz.func108, Tryz.ntmps108
    go_wp2_with (refine wp_appN (w0 := w) 43 77 5 40 _ elEntry Tryz.underlying43 base _ _ _ H.out (Below.refl _ _) _ 1 e.cells HS.out rfl _ _ rfl rfl rfl HO.out (by omega) (by unfold maxLen; omega) hbs ?_; intro v3 w3 hown3 hgrow3 hb3)
    all_goals (go_ret; exact ⟨_, rfl, hown3, hb3⟩)
theorem ovl (w : World) (vb g o la ca lb cb : Nat) (cs cur : Array Value) (e1 e2 : TypeId) (hvb : w.heap[vb]? = some (.cells cs e1 (0, 0))) (hg : w.heap[g]? = some (.cells cur e2 (0, 0))) (hne : vb ≠ g) (hc : cur.size ≠ 0) :
    (callFunc 116 #[.slice (some ⟨vb, 0, none⟩) la ca, .slice (some ⟨g, o, none⟩) lb cb]).run Tryz.prog w = .ok (.value (.bool false)) w := by
  rw [run_callFunc_extern Tryz.func116 (by kernel_rfl) (by kernel_rfl) (by kernel_rfl) (e := Extern.SlicesOverlaps.overlaps #[43, 43] #[4]) (by kernel_rfl),
      Lib.run_overlaps_apart w 43 4 77 Tryz.underlying43 5 (fun w => by kernel_rfl) ⟨vb, 0, none⟩ ⟨g, o, none⟩ la ca lb cb hne e1 e2 cs.size cur.size (by simp [World.shape?, hvb]) (by simp [World.shape?, hg]) hc (by simp [World.frozen?, hvb]) (by simp [World.frozen?, hvb])]
  rfl
theorem heap_setCells_ne (g : Nat) : ∀ (vs : List Value) (o : Nat) (w : World) (k : Nat), k ≠ g → (w.setCells g o vs).heap[k]? = w.heap[k]?
  | [], _, _, _, _ => rfl
  | v :: vs, o, w, k, hk => (heap_setCells_ne g vs (o + 1) (w.setCell ⟨g, o, none⟩ v) k hk).trans (Below.heap_setCell _ _ _ _ hk)
theorem sizeEntry : (Tryz.prog.info? 77).map (·.size) = some 5 := by kernel_rfl
theorem drew_cells (b : Nat) : ∀ (vs : List Value) (o : Nat) (w : World), (w.setCells b o vs).drew = w.drew.setCells b o vs
  | [], _, _ => rfl
  | v :: vs, o, w => drew_cells b vs (o + 1) (w.setCell ⟨b, o, none⟩ v)
set_option maxRecDepth 100000 in
set_option maxHeartbeats 4000000 in
theorem cInsShift {w : World} {base gg cap : Nat} {l : List Ent} (h : w.ownsRow base 77 5 (.slice (some ⟨gg, 0, none⟩) l.length cap) l.length (ents l)) (i : Nat) (hi : i < l.length) (hroom : l.length + 1 ≤ cap) (e : Ent) (vb : Nat) (hne : vb ≠ gg) (hv : w.heap[vb]? = some (.cells e.cells.toArray 77 (0, 0))) :
    Calls Tryz.prog 108 #[.slice (some ⟨gg, 0, none⟩) l.length cap, .int .i64 i, .slice (some ⟨vb, 0, none⟩) 1 1] w fun x w' => ∃ v', x = .returned v' ∧ w'.ownsRow base 77 5 v' (l.length + 1) (ents (l.take i ++ [e] ++ l.drop i)) ∧ Below base w w' := by
  have hd : w.drew.ownsRow base 77 5 (.slice (some ⟨gg, 0, none⟩) l.length cap) l.length (ents l) := h
  obtain ⟨J, hJ, hX⟩ := owns_ext hd hroom
  have hl := ents_length l
  have e0 : ((ents l).drop (i * 5)).length = (l.length - i) * 5 := by rw [List.length_drop, hl]; omega
  have h1 := owns_write hX ((i + 1) * 5) ((ents l).drop (i * 5)) (by rw [e0]; omega)
  have h2 := owns_write h1 (i * 5) e.cells (by rw [Ent.cells_length]; omega)
  rw [ins_cells l i hi e J hJ] at h2
  have c1 := (owns_chc_write hX ((i + 1) * 5) ((ents l).drop (i * 5))).2
  have c2 := (owns_chc_write h1 (i * 5) e.cells).2
  have HF := Lib.hid h2
  have HC : Hid (Below base w ((w.drew.setCells gg ((i + 1) * 5) ((ents l).drop (i * 5))).setCells gg (i * 5) e.cells)) := ((Below.refl base w).drew.trans c1).trans c2
  obtain ⟨hcs, hfz, cur, hcur, hcsz, _, _, hm⟩ := owns_cells hX
  obtain ⟨hcs1, hfz1, cur1, hcur1, hcsz1, _, _, _⟩ := owns_cells h1
  have hov : ∀ lb cb, (callFunc 116 #[.slice (some ⟨vb, 0, none⟩) 1 1, .slice (some ⟨gg, (i + 1) * 5, none⟩) lb cb]).run Tryz.prog w = .ok (.value (.bool false)) w := fun lb cb =>
    ovl w vb gg ((i + 1) * 5) 1 1 lb cb _ cur _ _ hv hcur hne (by omega)
  have hxl : (ents l ++ J).length = (l.length + 1) * 5 := by rw [List.length_append, hl, hJ]; omega
  have hsome : ∀ j, j < (l.length + 1) * 5 → (w.drew.cell? ⟨gg, j, none⟩).isSome = true := fun j hj => by
    rw [hcs j _ (List.getElem?_eq_getElem (by rw [hxl]; exact hj))]; rfl
  have hcp1 : ∀ ty dc sc, (Builtin.copy_ #[43, 43] ty #[.slice (some ⟨gg, (i + 1) * 5, none⟩) (l.length - i) dc, .slice (some ⟨gg, i * 5, none⟩) (l.length + 1 - i) sc]).run Tryz.prog w.drew = .ok (goInt (Nat.min (l.length + 1 - i) (l.length - i))) (w.drew.setCells gg ((i + 1) * 5) ((ents l).drop (i * 5))) := fun ty dc sc =>
    run_copy_n w.drew _ _ ty 77 5 gg ((i + 1) * 5) (l.length - i) dc ⟨gg, i * 5, none⟩ (l.length + 1 - i) sc ((ents l).drop (i * 5)) Tryz.underlying43 sizeEntry (by rw [e0]; simp only [Nat.min_def]; split <;> omega)
      (fun j v hj => by
        rw [Addr.add_lit]
        rw [List.getElem?_drop] at hj
        exact hcs (i * 5 + j) v (by rw [List.getElem?_append_left (by have := (List.getElem?_eq_some_iff.1 hj).1; exact this)]; exact hj))
      (fun j hj => hsome _ (by rw [e0] at hj; omega)) (fun j hj => hfz _) (fun v hv => ents_one l v (List.mem_of_mem_drop hv))
  obtain ⟨W1, hW1⟩ : ∃ W1, W1 = w.drew.setCells gg ((i + 1) * 5) ((ents l).drop (i * 5)) := ⟨_, rfl⟩
  have hv1 : W1.heap[vb]? = some (.cells e.cells.toArray 77 (0, 0)) := by
    rw [hW1, heap_setCells_ne _ _ _ _ _ hne]; exact hv
  rw [← hW1] at hcp1 HF HC hfz1 hcs1
  have hx1l := h1.1
  have hcp2 : ∀ (W : World), (∀ x, W.cell? x = W1.cell? x) → (∀ x, W.frozen? x = W1.frozen? x) → ∀ ty dc, (Builtin.copy_ #[43, 43] ty #[.slice (some ⟨gg, i * 5, none⟩) (l.length + 1 - i) dc, .slice (some ⟨vb, 0, none⟩) 1 1]).run Tryz.prog W = .ok (goInt (Nat.min 1 (l.length + 1 - i))) (W.setCells gg (i * 5) e.cells) := fun W hWc hWf ty dc =>
    run_copy_n W _ _ ty 77 5 gg (i * 5) (l.length + 1 - i) dc ⟨vb, 0, none⟩ 1 1 e.cells Tryz.underlying43 sizeEntry (by rw [Ent.cells_length]; simp only [Nat.min_def]; split <;> omega)
      (fun j v hj => by rw [Addr.add_lit, hWc, Nat.zero_add, cell_of_row W1 vb j _ _ _ hv1]; simpa using hj)
      (fun j hj => by rw [hWc, hcs1 _ _ (List.getElem?_eq_getElem (by rw [hx1l]; rw [Ent.cells_length] at hj; omega))]; rfl) (fun j hj => by rw [hWf]; exact hfz1 _) (fun v hv => by simp [Ent.cells] at hv; rcases hv with rfl | rfl | rfl | rfl | rfl <;> rfl)
  have hz2 : ((i : Int) == (l.length : Int)) = false := by rw [beq_eq_false_iff_ne]; omega
  unfold maxLen at hm
  have hw1 : IntKind.i64.wrap ((i : Int) + 1) = (i : Int) + 1 := IntWalk.i64_in _ (by omega)
  have hw2 : IntKind.i64.wrap ((l.length : Int) + 1) = (l.length : Int) + 1 := IntWalk.i64_in _ (by omega)
  have hb1 : (0 : Int) ≤ (i : Int) + 1 := by omega
  have hin : i ≤ l.length := by omega
  have hrz : ((l.length : Int) + 1) ≤ (cap : Int) := by omega
  have hrz2 : decide ((cap : Int) < (l.length : Int) + 1) = false := by simp; omega
  have htn : ((i : Int) + 1).toNat = i + 1 := by omega
  have htn2 : ((l.length : Int) + 1).toNat = l.length + 1 := by omega
  have hb2 : ¬ (cap = i + 1) := by omega
  have hb3 : (i : Int) ≤ (l.length : Int) + 1 := by omega
  have hb4 : ¬ (cap = i) := by omega
  have hb5 : (i : Int) + 1 ≤ (l.length : Int) + 1 := by omega
  have hb6 : 0 ≤ (l.length : Int) + 1 := by omega
  clear h hd hX h1 h2 c1 c2 hcs hfz hcur hcsz hcs1 hfz1 hcur1 hcsz1 hsome hxl hx1l hv1 hW1
  go_enter Tryz.func108, Tryz.ntmps108
  go_wp2_with (simp only [hov])
  go_region_law (refine step_copy_n rfl _ _ 43 43 rfl _ _ (by simp [Act.eval, Act.put]) (by simp [Act.eval, Act.put]) (hcp1 _ _ _) ?_)
  go_wp2_with (at_builtin; refine wpList_copy_n _ rfl _ _ 43 43 rfl _ _ rfl rfl (hcp2 _ (fun _ => rfl) (fun _ => rfl) _ _) ?_)
  go_ret
  exact ⟨_, rfl, HF.out, HC.out⟩
end Go.Proofs.YtjdedflfdlhkdaaGreatDoor

namespace Go.Proofs.YtjdedflfdlhkdaaGreatDoor
open Go.ChangeShapes Go.WideShapes Go.ChangeAt Go.RowKit
set_option linter.unusedVariables false
set_option linter.unusedSimpArgs false

/-- What is behind the two copies into the new row. -/
theorem insG_cells (l : List Ent) (i : Nat) (hi : i < l.length) (e : Ent) (Z : List Value) (hZ : Z.length = (l.length + 1 - i) * 5) :
    (((((ents l).take (i * 5) ++ Z).take (i * 5) ++ e.cells ++ ((ents l).take (i * 5) ++ Z).drop (i * 5 + e.cells.length)).take ((i + 1) * 5)) ++ (ents l).drop (i * 5) ++
      (((ents l).take (i * 5) ++ Z).take (i * 5) ++ e.cells ++ ((ents l).take (i * 5) ++ Z).drop (i * 5 + e.cells.length)).drop ((i + 1) * 5 + ((ents l).drop (i * 5)).length)) = ents (l.take i ++ [e] ++ l.drop i) := by
  have hl := ents_length l
  have e0 : ((ents l).drop (i * 5)).length = (l.length - i) * 5 := by rw [List.length_drop, hl]; omega
  have e1 : ((ents l).take (i * 5)).length = i * 5 := by rw [List.length_take, hl]; omega
  have e2 : ((ents l).take (i * 5) ++ Z).take (i * 5) = (ents l).take (i * 5) := by
    rw [List.take_append_of_le_length (by rw [e1]; exact Nat.le_refl _), List.take_of_length_le (by rw [e1]; exact Nat.le_refl _)]
  rw [e2, Ent.cells_length]
  have e3 : ((ents l).take (i * 5) ++ e.cells).length = (i + 1) * 5 := by rw [List.length_append, e1, Ent.cells_length]; omega
  have e4 : (((ents l).take (i * 5) ++ Z).drop (i * 5 + 5)).length = (l.length - i) * 5 := by rw [List.length_drop, List.length_append, e1, hZ]; omega
  rw [List.take_append_of_le_length (by rw [e3]; exact Nat.le_refl _), List.take_of_length_le (by rw [e3]; exact Nat.le_refl _)]
  have e5 : ((ents l).take (i * 5) ++ e.cells ++ ((ents l).take (i * 5) ++ Z).drop (i * 5 + 5)).drop ((i + 1) * 5 + ((ents l).drop (i * 5)).length) = [] := List.drop_of_length_le (by rw [List.length_append, e3, e4, e0]; exact Nat.le_refl _)
  rw [e5, List.append_nil, ents_take, ents_drop, ents_append, ents_append]
  simp [ents]
set_option maxRecDepth 100000 in
set_option maxHeartbeats 4000000 in
theorem cInsGrow {w : World} {base gg cap : Nat} {l : List Ent} (h : w.ownsRow base 77 5 (.slice (some ⟨gg, 0, none⟩) l.length cap) l.length (ents l)) (hbs : base ≤ w.heap.size) (hlen : l.length ≤ 1000) (i : Nat) (hi : i < l.length) (hroom : cap < l.length + 1) (e : Ent) (vb : Nat) (hv : w.heap[vb]? = some (.cells e.cells.toArray 77 (0, 0))) :
    Calls Tryz.prog 108 #[.slice (some ⟨gg, 0, none⟩) l.length cap, .int .i64 i, .slice (some ⟨vb, 0, none⟩) 1 1] w fun x w' => ∃ v', x = .returned v' ∧ w'.ownsRow base 77 5 v' (l.length + 1) (ents (l.take i ++ [e] ++ l.drop i)) ∧ Below base w w' := by
  obtain ⟨hcs, hfz, cur, hcur, hcsz, hbg, hnc, hm⟩ := owns_cells h
  have hl := ents_length l
  obtain ⟨info, hinfo, hz0, hsz, hby, hzs, _⟩ := elEntry
  have hgw : gg < w.heap.size := (Array.getElem?_eq_some_iff.1 hcur).1
  have hvw : vb < w.heap.size := (Array.getElem?_eq_some_iff.1 hv).1
  have hkk : (l.length : Int) + 1 - (i : Int) = ((l.length + 1 - i : Nat) : Int) := by omega
  have hik : i + (l.length + 1 - i) = l.length + 1 := by omega
  have hold : (Builtin.firstCells info.size i (.slice (some ⟨gg, 0, none⟩) i cap)).run Tryz.prog w.drew = .ok ((ents l).take (i * 5)).toArray w.drew := by
    rw [hsz]
    exact run_firstCells_some w.drew 5 i ⟨gg, 0, none⟩ i cap ((ents l).take (i * 5)) (by rw [List.length_take, hl]; omega) (fun j v hj => by
      rw [Addr.add_lit, Nat.zero_add]
      rw [List.getElem?_take] at hj
      split at hj
      · exact hcs j v hj
      · cases hj)
  have hrz : ∀ ty, (Builtin.append_ #[43, 3] ty #[.slice (some ⟨gg, 0, none⟩) i cap, .int .i64 ((l.length : Int) + 1 - (i : Int))]).run Tryz.prog w =
      .ok (.slice (some ⟨w.heap.size, 0, none⟩) (l.length + 1) (grownCap w (l.length + 1) cap 77)) (w.drew.alloc (.cells (((ents l).take (i * 5)).toArray ++ Builtin.zeroCells (Value.agg #[.int .i64 0, .int .i64 0, .int .i64 0, .int .i64 0, .bool false]).cells (l.length + 1 - i) ++ Builtin.zeroCells (Value.agg #[.int .i64 0, .int .i64 0, .int .i64 0, .int .i64 0, .bool false]).cells (grownCap w (l.length + 1) cap 77 - (l.length + 1))) 77)) := fun ty => by
    have hh := Lib.run_append_grow_zeros w 43 3 ty 77 info _ .i64 .i64 Tryz.underlying43 Tryz.underlying3 hinfo hz0 (some ⟨gg, 0, none⟩) i cap ((ents l).take (i * 5)) hold (l.length + 1 - i) (by omega) (by omega) (by omega) (by omega) (by rw [hby]; omega) (by rw [hby, hik]; exact growslice_fits_wide hroom (by omega))
    rw [hik] at hh
    rw [hkk]
    exact hh
  have hGn : l.length + 1 ≤ grownCap w (l.length + 1) cap 77 := grownCap_ge w _ _ _
  have hG63 : grownCap w (l.length + 1) cap 77 ≤ maxLen := grownCap_le_maxLen w (l.length + 1) cap 77 (by unfold maxLen; omega)
  generalize grownCap w (l.length + 1) cap 77 = G at *
  obtain ⟨ROW, hROW⟩ : ∃ ROW : Array Value, ROW = ((ents l).take (i * 5)).toArray ++ Builtin.zeroCells (Value.agg #[.int .i64 0, .int .i64 0, .int .i64 0, .int .i64 0, .bool false]).cells (l.length + 1 - i) ++ Builtin.zeroCells (Value.agg #[.int .i64 0, .int .i64 0, .int .i64 0, .int .i64 0, .bool false]).cells (G - (l.length + 1)) := ⟨_, rfl⟩
  rw [← hROW] at hrz
  have hz1 : (Builtin.zeroCells (Value.agg #[.int .i64 0, .int .i64 0, .int .i64 0, .int .i64 0, .bool false]).cells (l.length + 1 - i)).size = (l.length + 1 - i) * 5 := by rw [size_zeroCells]; rfl
  have hz2 : (Builtin.zeroCells (Value.agg #[.int .i64 0, .int .i64 0, .int .i64 0, .int .i64 0, .bool false]).cells (G - (l.length + 1))).size = (G - (l.length + 1)) * 5 := by rw [size_zeroCells]; rfl
  have e1 : ((ents l).take (i * 5)).length = i * 5 := by rw [List.length_take, hl]; omega
  have hRs : ROW.size = G * 5 := by
    rw [hROW, Array.size_append, Array.size_append, hz1, hz2, List.size_toArray, e1]
    omega
  have hRt : ROW.toList.take ((l.length + 1) * 5) = (ents l).take (i * 5) ++ (Builtin.zeroCells (Value.agg #[.int .i64 0, .int .i64 0, .int .i64 0, .int .i64 0, .bool false]).cells (l.length + 1 - i)).toList := by
    rw [hROW, Array.toList_append, Array.toList_append, List.toList_toArray]
    have e5 : ((ents l).take (i * 5) ++ (Builtin.zeroCells (Value.agg #[.int .i64 0, .int .i64 0, .int .i64 0, .int .i64 0, .bool false]).cells (l.length + 1 - i)).toList).length = (l.length + 1) * 5 := by
      rw [List.length_append, e1, Array.length_toList, hz1]; omega
    rw [List.take_append_of_le_length (by rw [e5]; exact Nat.le_refl _), List.take_of_length_le (by rw [e5]; exact Nat.le_refl _)]
  have hZl : ((Builtin.zeroCells (Value.agg #[.int .i64 0, .int .i64 0, .int .i64 0, .int .i64 0, .bool false]).cells (l.length + 1 - i)).toList).length = (l.length + 1 - i) * 5 := by rw [Array.length_toList, hz1]
  generalize (Builtin.zeroCells (Value.agg #[.int .i64 0, .int .i64 0, .int .i64 0, .int .i64 0, .bool false]).cells (l.length + 1 - i)).toList = Z at *
  have hX : (w.drew.alloc (.cells ROW 77)).ownsRow base 77 5 (.slice (some ⟨w.heap.size, 0, none⟩) (l.length + 1) G) (l.length + 1) ((ents l).take (i * 5) ++ Z) :=
    ⟨by rw [List.length_append, e1, hZl]; omega, .inr ⟨w.heap.size, G, ROW, rfl, hbs, heap_alloc_new w.drew _, hGn, hG63, hRs, hRt⟩⟩
  have e0 : ((ents l).drop (i * 5)).length = (l.length - i) * 5 := by rw [List.length_drop, hl]; omega
  have h1 := owns_write hX (i * 5) e.cells (by rw [Ent.cells_length]; omega)
  have h2 := owns_write h1 ((i + 1) * 5) ((ents l).drop (i * 5)) (by rw [e0]; omega)
  rw [insG_cells l i hi e Z hZl] at h2
  have c1 := (owns_chc_write hX (i * 5) e.cells).2
  have c2 := (owns_chc_write h1 ((i + 1) * 5) ((ents l).drop (i * 5))).2
  have c0 : Below base w (w.drew.alloc (.cells ROW 77)) := ((Below.refl base w).drew).alloc hbs _
  have hbW : Below w.heap.size w (w.drew.alloc (.cells ROW 77)) := ((Below.refl w.heap.size w).drew).alloc (Nat.le_refl _) _
  have hvW : (w.drew.alloc (.cells ROW 77)).heap[vb]? = some (.cells e.cells.toArray 77 (0, 0)) := by rw [hbW.block vb hvw]; exact hv
  obtain ⟨hcsX, hfzX, _⟩ := owns_cells hX
  obtain ⟨hcs1, hfz1, _⟩ := owns_cells h1
  have hXl := hX.1
  have h1l := h1.1
  have hcgW : ∀ j v, (ents l)[j]? = some v → ((w.drew.alloc (.cells ROW 77)).setCells w.heap.size (i * 5) e.cells).cell? ⟨gg, j, none⟩ = some v := fun j v hj => by
    rw [World.cell?_of_block (w := w) (a := ⟨gg, j, none⟩) (by rw [heap_setCells_ne _ _ _ _ _ (show gg ≠ w.heap.size by omega)]; exact hbW.block gg hgw)]
    exact hcs j v hj
  obtain ⟨W1, hW1⟩ : ∃ W1, W1 = w.drew.alloc (.cells ROW 77) := ⟨_, rfl⟩
  rw [← hW1] at hrz h1 h2 c1 c2 c0 hvW hcsX hfzX hcs1 hfz1 hcgW
  have hcpA : ∀ ty dc, (Builtin.copy_ #[43, 43] ty #[.slice (some ⟨w.heap.size, i * 5, none⟩) (l.length + 1 - i) dc, .slice (some ⟨vb, 0, none⟩) 1 1]).run Tryz.prog W1 = .ok (goInt (Nat.min 1 (l.length + 1 - i))) (W1.setCells w.heap.size (i * 5) e.cells) := fun ty dc =>
    run_copy_n W1 _ _ ty 77 5 w.heap.size (i * 5) (l.length + 1 - i) dc ⟨vb, 0, none⟩ 1 1 e.cells Tryz.underlying43 sizeEntry (by rw [Ent.cells_length]; simp only [Nat.min_def]; split <;> omega)
      (fun j v hj => by rw [Addr.add_lit, Nat.zero_add, cell_of_row W1 vb j _ _ _ hvW]; simpa using hj)
      (fun j hj => by rw [hcsX _ _ (List.getElem?_eq_getElem (by rw [hXl]; rw [Ent.cells_length] at hj; omega))]; rfl) (fun j hj => hfzX _) (fun v hv => by simp [Ent.cells] at hv; rcases hv with rfl | rfl | rfl | rfl | rfl <;> rfl)
  obtain ⟨W2, hW2⟩ : ∃ W2, W2 = W1.setCells w.heap.size (i * 5) e.cells := ⟨_, rfl⟩
  rw [← hW2] at hcpA h2 c1 c2 hcs1 hfz1 hcgW
  have hcpB : ∀ ty dc sc, (Builtin.copy_ #[43, 43] ty #[.slice (some ⟨w.heap.size, (i + 1) * 5, none⟩) (l.length - i) dc, .slice (some ⟨gg, i * 5, none⟩) (l.length - i) sc]).run Tryz.prog W2.drew = .ok (goInt (Nat.min (l.length - i) (l.length - i))) (W2.drew.setCells w.heap.size ((i + 1) * 5) ((ents l).drop (i * 5))) := fun ty dc sc =>
    run_copy_n W2.drew _ _ ty 77 5 w.heap.size ((i + 1) * 5) (l.length - i) dc ⟨gg, i * 5, none⟩ (l.length - i) sc ((ents l).drop (i * 5)) Tryz.underlying43 sizeEntry (by rw [e0]; simp only [Nat.min_def]; split <;> rfl)
      (fun j v hj => by
        rw [Addr.add_lit]
        rw [List.getElem?_drop] at hj
        exact hcgW (i * 5 + j) v hj)
      (fun j hj => by
        have := hcs1 ((i + 1) * 5 + j) _ (List.getElem?_eq_getElem (by rw [h1l]; rw [e0] at hj; omega))
        show (W2.cell? ⟨w.heap.size, (i + 1) * 5 + j, none⟩).isSome = true
        rw [this]; rfl)
      (fun j hj => hfz1 _) (fun v hv => ents_one l v (List.mem_of_mem_drop hv))
  have HF : Hid ((W2.drew.setCells w.heap.size ((i + 1) * 5) ((ents l).drop (i * 5))).ownsRow base 77 5 (.slice (some ⟨w.heap.size, 0, none⟩) (l.length + 1) G) (l.length + 1) (ents (l.take i ++ [e] ++ l.drop i))) := by
    rw [← drew_cells]; exact h2
  have HC : Hid (Below base w (W2.drew.setCells w.heap.size ((i + 1) * 5) ((ents l).drop (i * 5)))) := by
    rw [← drew_cells]; exact ((c0.trans c1).trans c2).drew
  have hq2 : ((i : Int) == (l.length : Int)) = false := by rw [beq_eq_false_iff_ne]; omega
  have hG2 : G ≤ 9223372036854775807 := by unfold maxLen at hG63; omega
  unfold maxLen at hm
  have hw1 : IntKind.i64.wrap ((i : Int) + 1) = (i : Int) + 1 := IntWalk.i64_in _ (by omega)
  have hw2 : IntKind.i64.wrap ((l.length : Int) + 1) = (l.length : Int) + 1 := IntWalk.i64_in _ (by omega)
  have hw3 : IntKind.i64.wrap ((l.length : Int) + 1 - (i : Int)) = (l.length : Int) + 1 - (i : Int) := IntWalk.i64_in _ (by omega)
  have hb1 : (0 : Int) ≤ (i : Int) + 1 := by omega
  have hin : i ≤ l.length := by omega
  have hrz2 : decide ((cap : Int) < (l.length : Int) + 1) = true := by simp; omega
  have htn : ((i : Int) + 1).toNat = i + 1 := by omega
  have hb2 : ¬ (G = i + 1) := by omega
  have hb3 : (i : Int) ≤ (l.length : Int) + 1 := by omega
  have hb4 : ¬ (G = i) := by omega
  have hb5 : (i : Int) + 1 ≤ (l.length : Int) + 1 := by omega
  have hb7 : ¬ (cap = i) := by omega
  have hb8 : (i : Int) ≤ (l.length : Int) := by omega
  have hb9 : i ≤ cap := by omega
  clear h hX h1 h2 c0 c1 c2 hcs hfz hcur hcsz hcs1 hfz1 hcsX hfzX hXl h1l hcgW hvW hbW hW1 hW2 hRt hRs hROW hold hkk hik hv hz0 hinfo hsz hby hzs hZl e1 e0 hl hz1 hz2 hG63
  go_enter Tryz.func108, Tryz.ntmps108
  go_wp2_with (first
    | (at_builtin; refine wpList_append_n _ rfl _ _ 43 3 rfl _ _ rfl rfl _ _ (hrz _) ?_)
    | (at_builtin; refine wpList_copy_n _ rfl _ _ 43 43 rfl _ _ rfl rfl (hcpA _ _) ?_))
  go_region_law (refine step_copy_n rfl _ _ 43 43 rfl _ _ (by simp [Act.eval, Act.put]) (by simp [Act.eval, Act.put]) (hcpB _ _ _) ?_)
  go_wp2_with fail
  go_ret
  exact ⟨_, rfl, HF.out, HC.out⟩
/-- All cases. -/
theorem cInsert {w : World} {base : Nat} {v : Value} {l : List Ent} (h : w.ownsRow base 77 5 v l.length (ents l)) (hbs : base ≤ w.heap.size) (hlen : l.length ≤ 1000) (i : Nat) (hi : i ≤ l.length) (e : Ent) (vb : Nat) (hne : v.ownBlock ≠ some vb) (hv : w.heap[vb]? = some (.cells e.cells.toArray 77 (0, 0))) :
    Calls Tryz.prog 108 #[v, .int .i64 i, .slice (some ⟨vb, 0, none⟩) 1 1] w fun x w' => ∃ v', x = .returned v' ∧ w'.ownsRow base 77 5 v' (l.length + 1) (ents (l.take i ++ [e] ++ l.drop i)) ∧ Below base w w' := by
  by_cases hl : i = l.length
  · subst hl
    exact cInsEnd h hbs hlen e vb hv
  · have hi' : i < l.length := by omega
    have hx : ∃ g c, v = .slice (some ⟨g, 0, none⟩) l.length c := by
      obtain ⟨_, hh⟩ := h
      rcases hh with ⟨_, hh⟩ | ⟨g, c, cur, hh, _⟩
      · omega
      · exact ⟨g, c, hh⟩
    obtain ⟨g, c, rfl⟩ := hx
    by_cases hr : l.length + 1 ≤ c
    · exact cInsShift h i hi' hr e vb (fun hh => hne (by rw [hh]; rfl)) hv
    · exact cInsGrow h hbs hlen i hi' (by omega) e vb hv
end Go.Proofs.YtjdedflfdlhkdaaGreatDoor

namespace Go.Proofs.YtjdedflfdlhkdaaGreatDoor
open Go.ChangeShapes Go.WideShapes Go.ChangeAt Go.RowKit
set_option linter.unusedVariables false
theorem eql_nil {P : Program} {t e : TypeId} (ht : P.underlying t = some (.slice e)) (w : World) (a : Option Addr) (n c n' c' : Nat) : (binOp .eql t (.slice a n c) (.slice none n' c')).run P w = .ok (.bool a.isNone) w := Lib.run_eql_slice_nil w _ _ a n c n' c' ht
end Go.Proofs.YtjdedflfdlhkdaaGreatDoor

namespace Go.Proofs.YtjdedflfdlhkdaaGreatDoor
open Go.ChangeShapes Go.WideShapes Go.ChangeAt Go.RowKit
set_option linter.unusedVariables false
set_option linter.unusedSimpArgs false

theorem five_at {W : World} {b : Nat} {a0 a1 a2 a3 a4 : Value} {e : TypeId} (h : W.heap[b]? = some (.cells #[a0, a1, a2, a3, a4] e (0, 0))) : (W.cell? ⟨b, 0, none⟩ = some a0 ∧ W.cell? ⟨b, 1, none⟩ = some a1 ∧ W.cell? ⟨b, 2, none⟩ = some a2 ∧ W.cell? ⟨b, 3, none⟩ = some a3 ∧ W.cell? ⟨b, 4, none⟩ = some a4) ∧ ∀ j, W.frozen? ⟨b, j, none⟩ = false :=
  ⟨⟨by rw [cell_of_row W _ _ _ _ _ h]; rfl, by rw [cell_of_row W _ _ _ _ _ h]; rfl, by rw [cell_of_row W _ _ _ _ _ h]; rfl, by rw [cell_of_row W _ _ _ _ _ h]; rfl, by rw [cell_of_row W _ _ _ _ _ h]; rfl⟩, fun j => by simp [World.frozen?, h]⟩
theorem five_put {w : World} {S : Nat} {a0 a1 a2 a3 a4 : Value} {e : TypeId} (h : w.heap[S]? = some (.cells #[a0, a1, a2, a3, a4] e (0, 0))) (x0 x1 x2 x3 x4 : Value) :
    (((((w.setCell ⟨S, 0, none⟩ x0).setCell ⟨S, 1, none⟩ x1).setCell ⟨S, 2, none⟩ x2).setCell ⟨S, 3, none⟩ x3).setCell ⟨S, 4, none⟩ x4).heap[S]? = some (.cells #[x0, x1, x2, x3, x4] e (0, 0)) :=
  heap_setCell_same _ S 4 _ _ x4 (heap_setCell_same _ S 3 _ _ x3 (heap_setCell_same _ S 2 _ _ x2 (heap_setCell_same _ S 1 _ _ x1 (heap_setCell_same _ S 0 _ _ x0 h))))
end Go.Proofs.YtjdedflfdlhkdaaGreatDoor

namespace Go.Proofs.YtjdedflfdlhkdaaGreatDoor
open Go.ChangeShapes Go.WideShapes Go.ChangeAt Go.RowKit
set_option linter.unusedVariables false
set_option linter.unusedSimpArgs false

set_option maxRecDepth 100000 in
set_option maxHeartbeats 1000000 in
theorem cclone_ent (v : Value) (n : Nat) (xs : List Value) (w : World) (h : Has w 5 v n xs) (h1 : xs.all Value.oneCell' = true) (hbytes : n * 40 ≤ 140737488355328) :
    Calls Tryz.prog 105 #[v] w fun e w' => ∃ v', e = .returned v' ∧ w'.ownsRow w.heap.size 77 5 v' n xs ∧ Below w.heap.size w w' := by
  obtain ⟨⟨hl, hnil⟩, a, cap, rfl, hn, hm, hc⟩ := h
  have q := fun w a n c n' c' => eql_nil Tryz.underlying43 w a n c n' c'
  have H1 := Lib.hid h1
  cases a with
  | none =>
    obtain ⟨rfl, rfl⟩ := hnil _ _ rfl
    obtain rfl : xs = [] := List.eq_nil_of_length_eq_zero (by simpa using hl)
    clear hc hnil hl h1
    go_enter Tryz.func105, Tryz.ntmps105
    go_wp2
    go_ret
    exact ⟨_, rfl, World.ownsRow_nil _ _ _ _, Below.refl _ _⟩
  | some a =>
    have Hs : Hid (∀ X, Below w.heap.size w X → Has X 5 (.slice (some a) n cap) n xs) := fun X hX => Has.below ⟨⟨hl, hnil⟩, some a, cap, rfl, hn, hm, hc⟩ hX
    have hn' : 0 + n ≤ maxLen := by omega
    have Hl := Lib.hid hl
    clear hc hnil hl h1
    go_enter Tryz.func105, Tryz.ntmps105
    go_wp2_with (at_builtin; refine wp_appN (w0 := w.alloc (.cells #[] 77)) 43 77 5 40 _ elEntry Tryz.underlying43 w.heap.size _ _ _ (World.ownsRow_made w #[] 0 (Nat.le_refl _) (Nat.zero_le _) rfl) (by repeat (first | exact Below.refl _ _ | refine Below.drew ?_ | refine Below.alloc ?_ (by first | (simp; done) | (simp; omega)) _ | refine Below.setCell ?_ (by first | (simp; done) | (simp; omega)) _)) _ _ _ (Hs.out _ ((Below.refl _ _).alloc (Nat.le_refl _) _)) rfl _ _ rfl rfl rfl H1.out (by omega) hn' (by simp) ?_; intro v3 w3 hown3 hgrow3 hb3)
    go_wp2
    go_ret
    exact ⟨_, rfl, by simpa using hown3, ((Below.refl _ w).alloc (Nat.le_refl _) _).trans hb3⟩

theorem ents_all (l : List Ent) : (ents l).all Value.oneCell' = true := List.all_eq_true.2 (ents_one l)
/-- What entry k of a row reads. -/
theorem ent_get {w : World} {v : Value} {l : List Ent} {n : Nat} (h : Has w 5 v n (ents l)) (k : Nat) (hk : k < l.length) :
    ∃ b off cap, v = .slice (some ⟨b, off, none⟩) n cap ∧ (n ≤ cap ∧ cap ≤ maxLen) ∧ (w.cell? ⟨b, off + k * 5, none⟩ = some (.int .i64 l[k].k) ∧ w.cell? ⟨b, off + k * 5 + 1, none⟩ = some (.int .i64 l[k].v) ∧ w.cell? ⟨b, off + k * 5 + 2, none⟩ = some (.int .i64 l[k].t) ∧ w.cell? ⟨b, off + k * 5 + 3, none⟩ = some (.int .i64 l[k].h) ∧ w.cell? ⟨b, off + k * 5 + 4, none⟩ = some (.bool l[k].g)) := by
  obtain ⟨⟨hl, _⟩, a, cap, rfl, h1, h2, hc⟩ := h
  obtain ⟨b, off, rfl, hcc⟩ := hc (by rw [ents_length]; omega)
  have g := fun j (hj : j < 5) u (hu : (l[k].cells)[j]? = some u) => hcc (k * 5 + j) u (by unfold ents; rw [flat_get Ent.cells 5 Ent.cells_length l k hk j hj]; exact hu)
  have g0 := g 0 (by omega) _ rfl
  have g1 := g 1 (by omega) _ rfl
  have g2 := g 2 (by omega) _ rfl
  have g3 := g 3 (by omega) _ rfl
  have g4 := g 4 (by omega) _ rfl
  rw [Nat.add_zero] at g0
  rw [← Nat.add_assoc] at g1 g2 g3 g4
  exact ⟨b, off, cap, rfl, ⟨h1, h2⟩, g0, g1, g2, g3, g4⟩
theorem ent_box {w : World} (x : Ent) : Below w.heap.size w (w.alloc (.cells #[.int .i64 x.k, .int .i64 x.v, .int .i64 x.t, .int .i64 x.h, .bool x.g] 77)) := (Below.refl _ _).alloc (Nat.le_refl _) _
theorem cin (n m : Int) (h0 : 0 ≤ n) (h1 : n ≤ m) (w : World) : Calls Tryz.prog 43 #[.int .i64 n, .int .i64 m] w fun e w' => e = .returned (.bool true) ∧ w = w' := by
  go_enter Tryz.func43, Tryz.ntmps43
  go_wp2_with fail
  go_ret
  exact ⟨rfl, rfl⟩
set_option maxRecDepth 100000 in
set_option maxHeartbeats 2000000 in
theorem cone (x : Ent) (hx : x.Ok) (w : World) : Calls Tryz.prog 32 #[.agg #[.int .i64 x.k, .int .i64 x.v, .int .i64 x.t, .int .i64 x.h, .bool x.g]] w fun e w' => e = .returned (.bool true) ∧ Below w.heap.size w w' := by
  have hb := ent_box (w := w) x
  obtain ⟨⟨x0, x1, x2, x3, x4⟩, -⟩ := five_at (heap_alloc_new w (.cells #[.int .i64 x.k, .int .i64 x.v, .int .i64 x.t, .int .i64 x.h, .bool x.g] 77))
  have Ck := Lib.hid fun X => cin x.k 1048576 hx.k.1 hx.k.2 X
  have Cv := Lib.hid fun X => cin x.v 1048576 hx.v.1 hx.v.2 X
  have Ct := Lib.hid fun X => cin x.t 1048576 hx.t.1 hx.t.2 X
  have Ch := Lib.hid fun X => cin x.h 7 hx.h.1 hx.h.2 X
  have hg := hx.g
  obtain ⟨k, v, t, h, g⟩ := x
  simp only at *
  cases g with
  | false =>
    clear hg hx
    go_enter Tryz.func32, Tryz.ntmps32
    go_wp2_with fail
    refine (Ck.out _).mono ?_
    rintro e w' ⟨rfl, rfl⟩
    go_wp2_with fail
    refine (Cv.out _).mono ?_
    rintro e w' ⟨rfl, rfl⟩
    go_wp2_with fail
    refine (Ct.out _).mono ?_
    rintro e w' ⟨rfl, rfl⟩
    go_wp2_with fail
    refine (Ch.out _).mono ?_
    rintro e w' ⟨rfl, rfl⟩
    go_wp2_with fail
    go_ret
    exact ⟨rfl, hb⟩
  | true =>
    obtain rfl := hg rfl
    clear hg hx
    go_enter Tryz.func32, Tryz.ntmps32
    go_wp2_with fail
    refine (Ck.out _).mono ?_
    rintro e w' ⟨rfl, rfl⟩
    go_wp2_with fail
    refine (Cv.out _).mono ?_
    rintro e w' ⟨rfl, rfl⟩
    go_wp2_with fail
    refine (Ct.out _).mono ?_
    rintro e w' ⟨rfl, rfl⟩
    go_wp2_with fail
    refine (Ch.out _).mono ?_
    rintro e w' ⟨rfl, rfl⟩
    go_wp2_with fail
    go_ret
    exact ⟨rfl, hb⟩
theorem MayL.lt {l : List Ent} (h : MayL l) (i j : Nat) (hi : i < l.length) (hj : j < l.length) (hij : i < j) : l[i].k < l[j].k := List.pairwise_iff_getElem.1 h.sorted i j hi hj hij
set_option maxRecDepth 100000 in
set_option maxHeartbeats 4000000 in
theorem cmay (v : Value) (l : List Ent) (w : World) (h : Has w 5 v l.length (ents l)) (hm : MayL l) (hlen : l.length ≤ 8) :
    Calls Tryz.prog 16 #[v] w fun e w' => e = .returned (.bool true) ∧ Below w.heap.size w w' := by
  have H := Lib.hid h
  have HM := Lib.hid hm
  obtain ⟨_, a, cap, rfl, hcn, hcm, _⟩ := h
  unfold maxLen at hcm
  clear hm
  go_enter Tryz.func16, Tryz.ntmps16
  go_wp2_with fail
  go_loopw [3, 7] (fun _ i wr => ∃ k : Nat, k ≤ l.length ∧ i = .int .i64 k ∧ Hid (Below w.heap.size w wr)) (fun _ i _ => l.length - (intOf i).toNat)
  case atStart => exact ⟨0, by omega, rfl, Below.refl _ _⟩
  case round =>
    obtain ⟨k, hk, rfl, HB⟩ := hrel
    by_cases hlt : k < l.length
    · obtain ⟨b, off, cap', he, -, x0, x1, x2, x3, x4⟩ := ent_get H.out k hlt
      simp only [Value.slice.injEq] at he
      obtain ⟨rfl, -, rfl⟩ := he
      replace x0 := cell_on HB.out x0
      replace x1 := cell_on HB.out x1
      replace x2 := cell_on HB.out x2
      replace x3 := cell_on HB.out x3
      replace x4 := cell_on HB.out x4
      have hbl := World.block_lt_of_cell? wr _ x0
      have hltz : (k : Int) < (l.length : Int) := by omega
      have hxok := HM.out.ok _ (List.getElem_mem hlt)
      have hb := ent_box (w := wr) l[k]
      have hprev : 0 < k → ∃ p : Int, wr.cell? ⟨b, off + (k - 1) * 5, none⟩ = some (.int .i64 p) ∧ p < l[k].k := fun hk0 => by
        obtain ⟨b', off', cap'', he, -, y0, -⟩ := ent_get H.out (k - 1) (by omega)
        simp only [Value.slice.injEq, Option.some.injEq, Addr.mk.injEq, and_true, true_and] at he
        obtain ⟨⟨rfl, rfl⟩, rfl⟩ := he
        exact ⟨_, cell_on HB.out y0, HM.out.lt (k - 1) k (by omega) hlt (by omega)⟩
      have hE := heap_alloc_new wr (.cells #[.int .i64 l[k].k, .int .i64 l[k].v, .int .i64 l[k].t, .int .i64 l[k].h, .bool l[k].g] 77)
      have CO := Lib.hid fun X => cone l[k] hxok X
      generalize l[k] = x at *
      obtain ⟨⟨z0, z1, z2, z3, z4⟩, -⟩ := five_at hE
      have Hb := Lib.hid hb
      have Hprev := Lib.hid hprev
      clear hE hb hxok hprev
      go_upto_region 4 with (fail)
      generalize hW : wr.alloc (.cells #[.int .i64 x.k, .int .i64 x.v, .int .i64 x.t, .int .i64 x.h, .bool x.g] 77) = W at *
      have CS : Hid (∀ X : Ext W, Calls Tryz.prog 32 #[.agg #[.int .i64 x.k, .int .i64 x.v, .int .i64 x.t, .int .i64 x.h, .bool x.g]] X.1 fun e w' => e = .returned (.bool true) ∧ Below X.1.heap.size X.1 w') := fun X => CO.out X.1
      have p0 := ext_cell z0
      have p1 := ext_cell z1
      have p2 := ext_cell z2
      have p3 := ext_cell z3
      have p4 := ext_cell z4
      clear x0 x1 x2 x3 x4 z0 z1 z2 z3 z4 hW
      by_cases hk0 : 0 < k
      · obtain ⟨p, hp, hpx⟩ := Hprev.out hk0
        have p5 := ext_cell (cell_on Hb.out hp)
        have hz0 : (0 : Int) < (k : Int) := by omega
        have hw : IntKind.i64.wrap ((k : Int) - 1) = ((k - 1 : Nat) : Int) := by rw [show (k : Int) - 1 = ((k - 1 : Nat) : Int) by omega]; exact IntWalk.i64_in _ (by omega)
        have hk1 : ((k - 1 : Nat) : Int) < (l.length : Int) := by omega
        have hd : decide (x.k ≤ p) = false := by simp; omega
        refine wp_region_grow (by kernel_rfl) (by kernel_rfl) ?_
        repeat (go_big_quiet_step ((go_at_call 32; with_reducible exact grow_of (CS.out _))))
        refine wpQuiet_nil ?_
        intro w8 hb8
        have Hb8 : Hid (Below w.heap.size w w8) := (HB.out.trans (Hb.out.mono HB.out.size)).trans (hb8.mono (Nat.le_trans HB.out.size Hb.out.size))
        clear p0 p1 p2 p3 p4 p5 hb8 CS
        go_wp2_with fail
        go_roundw
        case rel => exact ⟨k + 1, by omega, by go_num, Hb8⟩
        case measure => first | (simp [intOf]; done) | (simp [intOf]; omega)
      · obtain rfl : k = 0 := by omega
        refine wp_region_grow (by kernel_rfl) (by kernel_rfl) ?_
        repeat (go_big_quiet_step ((go_at_call 32; with_reducible exact grow_of (CS.out _))))
        refine wpQuiet_nil ?_
        intro w8 hb8
        have Hb8 : Hid (Below w.heap.size w w8) := (HB.out.trans (Hb.out.mono HB.out.size)).trans (hb8.mono (Nat.le_trans HB.out.size Hb.out.size))
        clear p0 p1 p2 p3 p4 hb8 CS
        go_wp2_with fail
        go_roundw
        case rel => exact ⟨0 + 1, by omega, by go_num, Hb8⟩
        case measure => first | (simp [intOf]; done) | (simp [intOf]; omega)
    · obtain rfl : k = l.length := by omega
      go_wp2_with fail
      go_ret
      exact ⟨ret_bool (by simp; omega), HB.out⟩
end Go.Proofs.YtjdedflfdlhkdaaGreatDoor

namespace Go.Proofs.YtjdedflfdlhkdaaGreatDoor
open Go.ChangeShapes Go.WideShapes Go.ChangeAt Go.RowKit
set_option linter.unusedVariables false
set_option linter.unusedSimpArgs false

def foundK (l : List Ent) (k : Int) : Bool := match l[posK l k]? with | some x => x.k == k | none => false
set_option maxRecDepth 100000 in
set_option maxHeartbeats 2000000 in
theorem cKeyDiff (x : Ent) (key : Int) (h0 : 0 ≤ x.k ∧ x.k ≤ 1048576) (h1 : 0 ≤ key ∧ key ≤ 1048576) (X : World) :
    Calls Tryz.prog 107 #[.agg #[.int .i64 x.k, .int .i64 x.v, .int .i64 x.t, .int .i64 x.h, .bool x.g], .int .i64 key] X fun e w' => e = .returned (.int .i64 (x.k - key)) ∧ Below X.heap.size X w' := by
  have hb := ent_box (w := X) x
  obtain ⟨⟨x0, x1, x2, x3, x4⟩, -⟩ := five_at (heap_alloc_new X (.cells #[.int .i64 x.k, .int .i64 x.v, .int .i64 x.t, .int .i64 x.h, .bool x.g] 77))
  have hw : IntKind.i64.wrap (x.k - key) = x.k - key := IntWalk.i64_in _ (by omega)
  go_enter Tryz.func107, Tryz.ntmps107
  go_wp2_with fail
  go_ret
  exact ⟨rfl, hb⟩
theorem diff_eg : ∀ args w, (callFunc 107 args).run Tryz.prog w = .ok (.enter 107 args) w := enters_of Tryz.func107 (by kernel_rfl) rfl
set_option maxRecDepth 100000 in
set_option maxHeartbeats 4000000 in
theorem cSearch {w : World} {v : Value} {l : List Ent} (h : Has w 5 v l.length (ents l)) (hm : MayL l) (hlen : l.length ≤ 1000) (key : Int) (hk : 0 ≤ key ∧ key ≤ 1048576) :
    Calls Tryz.prog 106 #[v, .int .i64 key, .func (.func 107) #[] #[]] w fun e w' => e = .returned (.tuple #[.int .i64 (posK l key), .bool (foundK l key)]) ∧ Below w.heap.size w w' := by
  have H := Lib.hid h
  have HM := Lib.hid hm
  have HP := Lib.hid (fun i hi h1 h2 => posK_eq l key i hi h1 h2)
  obtain ⟨_, a, cap, rfl, hcn, hcm, _⟩ := h
  unfold maxLen at hcm
  clear hm
  go_enter Tryz.func106, Tryz.ntmps106
  go_wp2_with fail
  go_loopw [9, 10, 11] (fun s9 s10 _ wr => ∃ i j : Nat, s9 = .int .i64 i ∧ s10 = .int .i64 j ∧ i ≤ j ∧ j ≤ l.length ∧ Hid (∀ x (hx : x < l.length), x < i → l[x].k < key) ∧ Hid (∀ x (hx : x < l.length), j ≤ x → key ≤ l[x].k) ∧ Hid (Below w.heap.size w wr)) (fun s9 s10 _ _ => (intOf s10).toNat - (intOf s9).toNat)
  case atStart => exact ⟨0, l.length, rfl, rfl, by omega, by omega, fun x _ h => absurd h (by omega), fun x hx h => absurd h (by omega), Below.refl _ _⟩
  case round =>
    obtain ⟨i, j, rfl, rfl, hij, hjl, HI, HJ, HB⟩ := hrel
    by_cases hlt : i < j
    · have hltz : (i : Int) < (j : Int) := by omega
      have hw0 : IntKind.i64.wrap ((i : Int) + (j : Int)) = (i : Int) + (j : Int) := IntWalk.i64_in _ (by omega)
      obtain ⟨b, off, cap', he, -, x0, x1, x2, x3, x4⟩ := ent_get H.out ((i + j) / 2) (by omega)
      simp only [Value.slice.injEq] at he
      obtain ⟨rfl, -, rfl⟩ := he
      replace x0 := cell_on HB.out x0
      replace x1 := cell_on HB.out x1
      replace x2 := cell_on HB.out x2
      replace x3 := cell_on HB.out x3
      replace x4 := cell_on HB.out x4
      have hxok := HM.out.ok _ (List.getElem_mem (show (i + j) / 2 < l.length by omega))
      have CD := Lib.hid fun X => cKeyDiff l[(i + j) / 2] key hxok.k hk X
      obtain ⟨y, hy⟩ : ∃ y, Hid (y = l[(i + j) / 2]) := ⟨l[(i + j) / 2], (rfl : l[(i + j) / 2] = l[(i + j) / 2])⟩
      rw [← hy.out] at x0 x1 x2 x3 x4 CD
      obtain ⟨m, hm⟩ : ∃ m, m = (i + j) / 2 := ⟨_, rfl⟩
      have hm1 : i ≤ m := by omega
      have hm2 : m < j := by omega
      have hmlz : (m : Int) < (l.length : Int) := by omega
      clear hxok
      go_upto_region 5 with (fail)
      rw [show ((i : Int) + (j : Int)) / 2 = ((m : Nat) : Int) by omega]
      have hyk : Hid (∀ hm' : m < l.length, l[m].k = y.k) := fun hm' => by rw [hy.out]; subst hm; rfl
      rw [← hm] at x0 x1 x2 x3 x4
      clear hm
      have hw1 : IntKind.i64.wrap ((m : Int) + 1) = (m : Int) + 1 := IntWalk.i64_in _ (by omega)
      by_cases hc : y.k < key
      · have hd : decide (y.k - key < 0) = true := by simp; omega
        have hfin : Hid (∀ x (hx : x < l.length), x < m + 1 → l[x].k < key) := fun x hx hxm => by
          by_cases e : x = m
          · subst e; rw [hyk.out hx]; exact hc
          · have := HM.out.lt x m hx (by omega) (by omega); rw [hyk.out (by omega)] at this; omega
        clear hc
        go_wp2_with fail
        refine (CD.out _).mono ?_
        rintro e w5 ⟨rfl, hb5⟩
        have HB5 : Hid (Below w.heap.size w w5) := HB.out.trans (hb5.mono HB.out.size)
        clear hb5 x0 x1 x2 x3 x4 CD
        go_wp2_with fail
        go_roundw
        case rel => exact ⟨m + 1, j, by go_num, rfl, by omega, by omega, hfin, HJ, HB5⟩
        case measure => first | (simp [intOf]; done) | (simp [intOf]; omega)
      · have hd : decide (y.k - key < 0) = false := by simp; omega
        have hfin : Hid (∀ x (hx : x < l.length), m ≤ x → key ≤ l[x].k) := fun x hx hxm => by
          by_cases e : x = m
          · subst e; rw [hyk.out hx]; omega
          · have := HM.out.lt m x (by omega) hx (by omega); rw [hyk.out (by omega)] at this; omega
        clear hc
        go_wp2_with fail
        refine (CD.out _).mono ?_
        rintro e w5 ⟨rfl, hb5⟩
        have HB5 : Hid (Below w.heap.size w w5) := HB.out.trans (hb5.mono HB.out.size)
        clear hb5 x0 x1 x2 x3 x4 CD
        go_wp2_with fail
        go_roundw
        case rel => exact ⟨i, m, rfl, by go_num, by omega, by omega, HI, hfin, HB5⟩
        case measure => first | (simp [intOf]; done) | (simp [intOf]; omega)
    · obtain rfl : i = j := by omega
      have hpos := Lib.hid (HP.out i hjl (fun x hx hxi => HI.out x hx hxi) (fun hx => by have := HJ.out i hx (Nat.le_refl _); omega))
      clear HP HI HJ
      by_cases hin : i < l.length
      · have hinz : (i : Int) < (l.length : Int) := by omega
        obtain ⟨b, off, cap', he, -, x0, x1, x2, x3, x4⟩ := ent_get H.out i hin
        simp only [Value.slice.injEq] at he
        obtain ⟨rfl, -, rfl⟩ := he
        replace x0 := cell_on HB.out x0
        replace x1 := cell_on HB.out x1
        replace x2 := cell_on HB.out x2
        replace x3 := cell_on HB.out x3
        replace x4 := cell_on HB.out x4
        have hxok := HM.out.ok _ (List.getElem_mem hin)
        have CD := Lib.hid fun X => cKeyDiff l[i] key hxok.k hk X
        have hfound : Hid (foundK l key = (l[i].k == key)) := by
          show _ = _
          unfold foundK; rw [hpos.out, List.getElem?_eq_getElem hin]
        generalize l[i] = y at *
        clear hxok
        go_wp2_with fail
        refine (CD.out _).mono ?_
        rintro e w5 ⟨rfl, hb5⟩
        have HB5 : Hid (Below w.heap.size w w5) := HB.out.trans (hb5.mono HB.out.size)
        have hfe : Hid ((y.k - key == 0) = (y.k == key)) := by
          show _ = _
          rw [Bool.eq_iff_iff, beq_iff_eq, beq_iff_eq]; omega
        clear hb5 x0 x1 x2 x3 x4 CD
        go_wp2_with fail
        go_ret2
        rw [hpos.out, hfound.out, ← hfe.out]
        exact ⟨rfl, HB5.out⟩
      · obtain rfl : i = l.length := by omega
        have hfound : Hid (foundK l key = false) := by
          show _ = _
          unfold foundK; rw [hpos.out, List.getElem?_eq_none (Nat.le_refl _)]
        go_wp2_with fail
        go_ret2
        rw [hpos.out, hfound.out]
        exact ⟨rfl, HB.out⟩
end Go.Proofs.YtjdedflfdlhkdaaGreatDoor

namespace Go.Proofs.YtjdedflfdlhkdaaGreatDoor
open Go.ChangeShapes Go.WideShapes Go.ChangeAt Go.RowKit
set_option linter.unusedVariables false
set_option linter.unusedSimpArgs false

theorem mergeL_take_len (a b : List Ent) (k : Nat) : (mergeL a (b.take k)).length ≤ (mergeL a b).length := by
  have h : mergeL a b = mergeL (mergeL a (b.take k)) (b.drop k) := by
    unfold mergeL; rw [← List.foldl_append, List.take_append_drop]
  rw [h]; exact (mergeL_len _ _).1
theorem mergeL_take_succ (a b : List Ent) (k : Nat) (hk : k < b.length) : mergeL a (b.take (k + 1)) = mergeOne (mergeL a (b.take k)) b[k] := by
  rw [take_snoc b k hk, mergeL_snoc]
theorem found_yes {l : List Ent} {k : Int} (h : foundK l k = true) : ∃ hx : posK l k < l.length, l[posK l k].k = k := by
  unfold foundK at h
  cases hp : l[posK l k]? with
  | none => rw [hp] at h; cases h
  | some x =>
    rw [hp] at h
    obtain ⟨hx, rfl⟩ := List.getElem?_eq_some_iff.1 hp
    exact ⟨hx, by simpa using h⟩
theorem found_no {l : List Ent} {k : Int} (h : foundK l k = false) (hx : posK l k < l.length) : l[posK l k].k ≠ k := by
  unfold foundK at h
  rw [List.getElem?_eq_getElem hx] at h
  simpa using h
/-- One entry of a row is written. -/
theorem ent_set {w : World} {base n g cap : Nat} {l : List Ent} (h : w.ownsRow base 77 5 (.slice (some ⟨g, 0, none⟩) n cap) n (ents l)) (k : Nat) (hk : k < l.length) (x : Ent) :
    (w.setCells g (k * 5) x.cells).ownsRow base 77 5 (.slice (some ⟨g, 0, none⟩) n cap) n (ents (l.set k x)) := by
  have hn : n = l.length := by have := h.1; rw [ents_length] at this; omega
  have := owns_write h (k * 5) x.cells (by rw [Ent.cells_length]; omega)
  rw [Ent.cells_length, show k * 5 + 5 = (k + 1) * 5 by omega, ents_take, ents_drop] at this
  rw [set_split l k x hk, ents_append, ents_append, show ents [x] = x.cells by simp [ents]]
  exact this
theorem ent_own {w : World} {base n : Nat} {v : Value} {l : List Ent} (h : w.ownsRow base 77 5 v n (ents l)) (k : Nat) (hk : k < l.length) :
    ∃ g cap, v = .slice (some ⟨g, 0, none⟩) n cap ∧ (n ≤ cap ∧ cap ≤ maxLen) ∧ (w.cell? ⟨g, k * 5, none⟩ = some (.int .i64 l[k].k) ∧ w.cell? ⟨g, k * 5 + 1, none⟩ = some (.int .i64 l[k].v) ∧ w.cell? ⟨g, k * 5 + 2, none⟩ = some (.int .i64 l[k].t) ∧ w.cell? ⟨g, k * 5 + 3, none⟩ = some (.int .i64 l[k].h) ∧ w.cell? ⟨g, k * 5 + 4, none⟩ = some (.bool l[k].g)) ∧ (∀ j, w.frozen? ⟨g, j, none⟩ = false) ∧ base ≤ g := by
  have hn : n = l.length := by have := h.1; rw [ents_length] at this; omega
  obtain ⟨g, cap, rfl, hg, _, hfz, _⟩ := owns_some h (by omega)
  obtain ⟨b, off, cap', he, hc, y⟩ := ent_get (Has.of_owns h) k hk
  simp only [Value.slice.injEq, Option.some.injEq, Addr.mk.injEq, and_true, true_and] at he
  obtain ⟨⟨rfl, rfl⟩, rfl⟩ := he
  simp only [Nat.zero_add] at y
  exact ⟨g, cap, rfl, hc, y, hfz, hg⟩
/-- What stands behind k entries. -/
structure MergeAt (w wr : World) (a b : List Ent) (k : Nat) (v : Value) : Prop where
  own : wr.ownsRow w.heap.size 77 5 v (mergeL a (b.take k)).length (ents (mergeL a (b.take k)))
  hb : Below w.heap.size w wr
set_option maxRecDepth 100000 in
set_option maxHeartbeats 8000000 in
theorem cmerge (va vb : Value) (a b : List Ent) (w : World) (ha : Has w 5 va a.length (ents a)) (hb : Has w 5 vb b.length (ents b)) (hma : MayL a) (hmb : MayL b) (hla : a.length ≤ 8) (hlb : b.length ≤ 8) (hlen : (mergeL a b).length ≤ 8) :
    Calls Tryz.prog 88 #[va, vb] w fun e w' => ∃ v', e = .returned (.tuple #[v', .int .i64 0]) ∧ w'.ownsRow w.heap.size 77 5 v' (mergeL a b).length (ents (mergeL a b)) ∧ Below w.heap.size w w' := by
  have HA := Lib.hid ha
  have HB := Lib.hid hb
  have HMa := Lib.hid hma
  have HMb := Lib.hid hmb
  obtain ⟨_, aa, ca, rfl, _, _, _⟩ := ha
  obtain ⟨_, ab, cb, rfl, hcn, hcm, _⟩ := hb
  unfold maxLen at hcm
  clear hma hmb
  go_enter Tryz.func88, Tryz.ntmps88
  go_wp2_with fail
  refine (cmay _ a w HA.out HMa.out hla).mono ?_
  rintro e w1 ⟨rfl, hb1⟩
  go_wp2_with fail
  refine (cmay _ b w1 (HB.out.below hb1) HMb.out hlb).mono ?_
  rintro e w2 ⟨rfl, hb2⟩
  have Hb2 : Hid (Below w.heap.size w w2) := hb1.trans (hb2.mono hb1.size)
  clear hb1 hb2
  go_wp2_with fail
  refine (cclone_ent _ a.length (ents a) w2 (HA.out.below Hb2.out) (ents_all a) (by omega)).mono ?_
  rintro e w3 ⟨v3, rfl, hown3, hb3⟩
  have H0 : Hid (MergeAt w w3 a b 0 v3) := ⟨owns_base hown3 Hb2.out.size, Hb2.out.trans (hb3.mono Hb2.out.size)⟩
  clear hown3 hb3 Hb2
  go_wp2_with fail
  go_loopw [6, 9, 10, 23] (fun out _ _ i wr => ∃ k : Nat, k ≤ b.length ∧ i = .int .i64 k ∧ Hid (MergeAt w wr a b k out)) (fun _ _ _ i _ => b.length - (intOf i).toNat)
  case atStart => exact ⟨0, by omega, rfl, H0⟩
  case round =>
    clear H0
    obtain ⟨k, hk, rfl, HP⟩ := hrel
    by_cases hlt : k < b.length
    · obtain ⟨bb, off, cap', he, -, x0, x1, x2, x3, x4⟩ := ent_get HB.out k hlt
      simp only [Value.slice.injEq] at he
      obtain ⟨rfl, -, rfl⟩ := he
      replace x0 := cell_on HP.out.hb x0
      replace x1 := cell_on HP.out.hb x1
      replace x2 := cell_on HP.out.hb x2
      replace x3 := cell_on HP.out.hb x3
      replace x4 := cell_on HP.out.hb x4
      have hbl := World.block_lt_of_cell? wr _ x0
      have hltz : (k : Int) < (b.length : Int) := by omega
      have hxok := HMb.out.ok _ (List.getElem_mem hlt)
      have hmay : MayL (mergeL a (b.take k)) := mergeL_may HMa.out fun e he => HMb.out.ok e (List.mem_of_mem_take he)
      have hml : (mergeL a (b.take k)).length ≤ 8 := Nat.le_trans (mergeL_take_len a b k) hlen
      have hsucc := mergeL_take_succ a b k hlt
      have hfin : Hid (∀ (w' : World) (v' : Value), w'.ownsRow w.heap.size 77 5 v' (mergeOne (mergeL a (b.take k)) b[k]).length (ents (mergeOne (mergeL a (b.take k)) b[k])) → Below w.heap.size w w' → MergeAt w w' a b (k + 1) v') := fun w' v' h1 h2 => ⟨by rw [hsucc]; exact h1, h2⟩
      have HOW := Lib.hid HP.out.own
      have HBW := Lib.hid HP.out.hb
      generalize b[k] = e0 at *
      generalize mergeL a (b.take k) = cur at *
      have hbx := ent_box (w := wr) e0
      have hE := heap_alloc_new wr (.cells #[.int .i64 e0.k, .int .i64 e0.v, .int .i64 e0.t, .int .i64 e0.h, .bool e0.g] 77)
      obtain ⟨⟨z0, z1, z2, z3, z4⟩, -⟩ := five_at hE
      have HO1 := Lib.hid (owns_below HOW.out hbx)
      have HB1 : Hid (Below w.heap.size w (wr.alloc (.cells #[.int .i64 e0.k, .int .i64 e0.v, .int .i64 e0.t, .int .i64 e0.h, .bool e0.g] 77))) := HBW.out.trans (hbx.mono HBW.out.size)
      have CS := Lib.hid (cSearch (Has.of_owns HO1.out) hmay (by omega) e0.k hxok.k)
      have hEl : wr.heap.size < (wr.alloc (.cells #[.int .i64 e0.k, .int .i64 e0.v, .int .i64 e0.t, .int .i64 e0.h, .bool e0.g] 77)).heap.size := by simp
      have Z0 := Lib.hid z0
      have Z1 := Lib.hid z1
      have Z2 := Lib.hid z2
      have Z3 := Lib.hid z3
      have Z4 := Lib.hid z4
      have hpl := posK_le cur e0.k
      have Hmo1 := Lib.hid (mergeOne_none cur e0)
      have Hmo2 := Lib.hid (mergeOne_some cur e0)
      have Hfy := Lib.hid (fun h => found_yes (l := cur) (k := e0.k) h)
      have Hfn := Lib.hid (fun h hx => found_no (l := cur) (k := e0.k) h hx)
      clear HP hmay hsucc hxok hbx hE HOW HBW
      go_upto_region 7 with (fail)
      generalize wr.alloc (.cells #[.int .i64 e0.k, .int .i64 e0.v, .int .i64 e0.t, .int .i64 e0.h, .bool e0.g] 77) = W at *
      go_wp2_with fail
      refine CS.out.mono ?_
      rintro e w5 ⟨rfl, hb5⟩
      replace Z0 := cell_on hb5 Z0.out
      replace Z1 := cell_on hb5 Z1.out
      replace Z2 := cell_on hb5 Z2.out
      replace Z3 := cell_on hb5 Z3.out
      replace Z4 := cell_on hb5 Z4.out
      have HO5 := Lib.hid (owns_below HO1.out hb5)
      have HB5 : Hid (Below w.heap.size w w5) := HB1.out.trans (hb5.mono HB1.out.size)
      have hEl5 : wr.heap.size < w5.heap.size := Nat.lt_of_lt_of_le hEl hb5.size
      generalize posK cur e0.k = p at *
      clear hb5 CS z0 z1 z2 z3 z4 HO1 HB1 x0 x1 x2 x3 x4
      obtain ⟨av, cv, rfl⟩ := owns_slice HO5.out
      cases hf : foundK cur e0.k with
      | false =>
        have hmo := Hmo1.out (fun hx => Hfn.out hf hx)
        have hz : w5.heap.size = w5.heap.size := rfl
        have hnb : (Value.slice av cur.length cv).ownBlock ≠ some w5.heap.size := fun hh => by
          have := (HO5.out.lt _ hh).2; omega
        have hbx5 := ent_box (w := w5) e0
        have hE5 := heap_alloc_new w5 (.cells #[.int .i64 e0.k, .int .i64 e0.v, .int .i64 e0.t, .int .i64 e0.h, .bool e0.g] 77)
        have CI := Lib.hid (cInsert (owns_below HO5.out hbx5) (Nat.le_trans HB5.out.size hbx5.size) (by omega) p hpl e0 w5.heap.size hnb hE5)
        have hlm : Hid ((mergeOne cur e0).length = cur.length + 1) := by
          show _ = _
          rw [hmo]; simp; omega
        rw [← hmo] at CI
        have Hbx5 := Lib.hid hbx5
        clear hmo hnb hbx5 hE5 hz Hmo1 Hmo2 Hfy Hfn hf
        go_wp2_with fail
        refine CI.out.mono ?_
        rintro e w6 ⟨v6, rfl, hown6, hb6⟩
        rw [← hlm.out] at hown6
        have hP' := hfin.out w6 v6 hown6 ((HB5.out.trans (Hbx5.out.mono HB5.out.size)).trans hb6)
        clear CI hown6 hb6 Z0 Z1 Z2 Z3 Z4
        go_wp2_with fail
        go_roundw
        case rel => exact ⟨k + 1, by omega, by go_num, hP'⟩
        case measure => first | (simp [intOf]; done) | (simp [intOf]; omega)
      | true =>
        obtain ⟨hpx, hpk⟩ := Hfy.out hf
        have hmo := Hmo2.out hpx hpk
        obtain ⟨g, cp, he, ⟨c1, c2⟩, ⟨y0, y1, y2, y3, y4⟩, gfz, hgb⟩ := ent_own HO5.out p hpx
        simp only [Value.slice.injEq] at he
        obtain ⟨rfl, -, rfl⟩ := he
        have hpz : (p : Int) < (cur.length : Int) := by omega
        unfold maxLen at c2
        have CN : Hid (∀ X : Ext w5, Calls Tryz.prog 109 #[.agg #[.int .i64 e0.k, .int .i64 e0.v, .int .i64 e0.t, .int .i64 e0.h, .bool e0.g], .agg #[.int .i64 cur[p].k, .int .i64 cur[p].v, .int .i64 cur[p].t, .int .i64 cur[p].h, .bool cur[p].g]] X.1 fun e w' => e = .returned (.bool (newer e0 cur[p])) ∧ Below X.1.heap.size X.1 w') := fun X => cnewer e0 cur[p] X.1
        have hset := Lib.hid (fun (X : World) (hX : Below w5.heap.size w5 X) => ent_set (owns_below HO5.out hX) p hpx e0)
        have hsb := Lib.hid (fun (X : World) (hX : Below w5.heap.size w5 X) => (owns_chc_write (owns_below HO5.out hX) (p * 5) e0.cells).2)
        have Hmo := Lib.hid hmo
        have hlm1 : Hid (cur.length = (cur.set p e0).length) := by show _ = _; simp
        generalize cur[p] = x0 at *
        clear hmo hpk Hmo1 Hmo2 Hfy Hfn hf
        go_upto_region 10 with (fail)
        have p0 := ext_cell Z0
        have p1 := ext_cell Z1
        have p2 := ext_cell Z2
        have p3 := ext_cell Z3
        have p4 := ext_cell Z4
        have q0 := ext_cell y0
        have q1 := ext_cell y1
        have q2 := ext_cell y2
        have q3 := ext_cell y3
        have q4 := ext_cell y4
        refine wp_region_grow (by kernel_rfl) (by kernel_rfl) ?_
        repeat (go_big_quiet_step ((go_at_call 109; with_reducible exact grow_of (CN.out _))))
        refine wpQuiet_nil ?_
        intro w8 hb8
        replace Z0 := cell_on hb8 Z0
        replace Z1 := cell_on hb8 Z1
        replace Z2 := cell_on hb8 Z2
        replace Z3 := cell_on hb8 Z3
        replace Z4 := cell_on hb8 Z4
        replace y0 := cell_on hb8 y0
        replace y1 := cell_on hb8 y1
        replace y2 := cell_on hb8 y2
        replace y3 := cell_on hb8 y3
        replace y4 := cell_on hb8 y4
        obtain ⟨_, _, he, -, -, gfz8, -⟩ := ent_own (owns_below HO5.out hb8) p hpx
        simp only [Value.slice.injEq, Option.some.injEq, Addr.mk.injEq, and_true, true_and] at he
        obtain ⟨rfl, rfl⟩ := he
        have HO8 := Lib.hid (owns_below HO5.out hb8)
        have HB8 : Hid (Below w.heap.size w w8) := HB5.out.trans (hb8.mono HB5.out.size)
        have hs8 := Lib.hid (hset.out w8 hb8)
        have hc8 := Lib.hid (hsb.out w8 hb8)
        have f0 := gfz8 (p * 5)
        have f1 := gfz8 (p * 5 + 1)
        have f2 := gfz8 (p * 5 + 2)
        have f3 := gfz8 (p * 5 + 3)
        have f4 := gfz8 (p * 5 + 4)
        clear p0 p1 p2 p3 p4 q0 q1 q2 q3 q4 CN hb8 gfz gfz8 hset hsb
        cases hnw : newer e0 x0 with
        | true =>
          rw [hnw, if_pos rfl] at Hmo
          have h9 := hs8.out
          have hl9 : Hid ((mergeOne cur e0).length = cur.length) := by rw [Hmo.out]; exact hlm1.out.symm
          rw [← Hmo.out] at h9
          have hP' : Hid (∀ W', W' = w8.setCells g (p * 5) e0.cells → MergeAt w W' a b (k + 1) (.slice (some ⟨g, 0, none⟩) cur.length cv)) := fun W' hW' => by
            subst hW'
            refine hfin.out _ _ ?_ (HB8.out.trans hc8.out)
            rw [hl9.out]; exact h9
          clear h9 hs8 hc8 HO8
          go_wp2_with fail
          go_roundw
          case rel => exact ⟨k + 1, by omega, by go_num, hP'.out _ rfl⟩
          case measure => first | (simp [intOf]; done) | (simp [intOf]; omega)
        | false =>
          rw [hnw, if_neg (by simp)] at Hmo
          have hP' : Hid (MergeAt w w8 a b (k + 1) (.slice (some ⟨g, 0, none⟩) cur.length cv)) := hfin.out _ _ (by rw [Hmo.out]; exact HO8.out) HB8.out
          clear hs8 hc8 HO8
          go_wp2_with fail
          go_roundw
          case rel => exact ⟨k + 1, by omega, by go_num, hP'⟩
          case measure => first | (simp [intOf]; done) | (simp [intOf]; omega)
    · obtain rfl : k = b.length := by omega
      have HO : Hid (wr.ownsRow w.heap.size 77 5 u6 (mergeL a b).length (ents (mergeL a b))) := by have := HP.out.own; rwa [List.take_length] at this
      have HBw := Lib.hid HP.out.hb
      obtain ⟨ao, co, rfl⟩ := owns_slice HO.out
      have hl8 : ((mergeL a b).length : Int) ≤ 8 := by omega
      have hd8 : decide (8 < ((mergeL a b).length : Int)) = false := by simp; omega
      clear HP
      go_wp2_with fail
      go_ret2
      exact ⟨_, rfl, HO.out, HBw.out⟩
end Go.Proofs.YtjdedflfdlhkdaaGreatDoor

namespace Go.Proofs.YtjdedflfdlhkdaaGreatDoor
set_option linter.unusedVariables false
set_option linter.unusedSimpArgs false

theorem nw_iff (a b : Ent) : newer a b = true ↔ (b.t < a.t ∨ (a.t = b.t ∧ (b.h < a.h ∨ (a.h = b.h ∧ (flagI a.g < flagI b.g ∨ (flagI a.g = flagI b.g ∧ b.v < a.v)))))) := by
  simp only [newer, orI, cmpI]
  repeat' split
  all_goals first | omega | (simp_all; try omega)
theorem nw_irrefl (a : Ent) : newer a a = false := by
  rw [Bool.eq_false_iff, ne_eq, nw_iff]; omega
theorem nw_asymm {a b : Ent} (h : newer a b = true) : newer b a = false := by
  rw [Bool.eq_false_iff, ne_eq, nw_iff]; rw [nw_iff] at h; omega
theorem nw_trans {a b c : Ent} (h : newer a b = true) (k : newer b c = true) : newer a c = true := by
  rw [nw_iff] at *; omega
theorem nw_flag (a b : Bool) : flagI a = flagI b ↔ a = b := by cases a <;> cases b <;> simp [flagI]
theorem nw_total {a b : Ent} (hk : a.k = b.k) (h1 : newer a b = false) (h2 : newer b a = false) : a = b := by
  rw [Bool.eq_false_iff, ne_eq, nw_iff] at h1 h2
  have hg := nw_flag a.g b.g
  have h3 : a.t = b.t := by omega
  have h4 : a.h = b.h := by omega
  have h5 : a.v = b.v := by omega
  have h6 : a.g = b.g := hg.1 (by omega)
  cases a; cases b; simp_all
/-- The newer of two. -/
def mx (x y : Ent) : Ent := if newer y x = true then y else x
theorem mx_k {x y : Ent} (h : x.k = y.k) : (mx x y).k = x.k := by unfold mx; split <;> simp [h]
theorem mx_comm {x y : Ent} (h : x.k = y.k) : mx x y = mx y x := by
  unfold mx
  by_cases c1 : newer y x = true
  · rw [if_pos c1, if_neg (by rw [nw_asymm c1]; simp)]
  · rw [if_neg c1]
    by_cases c2 : newer x y = true
    · rw [if_pos c2]
    · rw [if_neg c2]; exact nw_total h (by simpa using c2) (by simpa using c1)
theorem mx_idem (x : Ent) : mx x x = x := by unfold mx; split <;> rfl
theorem mx_assoc {x y z : Ent} (h1 : x.k = y.k) (h2 : y.k = z.k) : mx (mx x y) z = mx x (mx y z) := by
  unfold mx
  by_cases c1 : newer y x = true
  · rw [if_pos c1]
    by_cases c2 : newer z y = true
    · rw [if_pos c2, if_pos (nw_trans c2 c1)]
    · rw [if_neg c2, if_pos c1]
  · rw [if_neg c1]
    by_cases c2 : newer z y = true
    · rw [if_pos c2]
    · rw [if_neg c2, if_neg c1]
      by_cases c3 : newer z x = true
      · exfalso
        by_cases c4 : newer x y = true
        · exact c2 (nw_trans c3 c4)
        · have := nw_total h1 (by simpa using c4) (by simpa using c1)
          rw [← this] at c2; exact c2 c3
      · rw [if_neg c3]
def jn : Option Ent → Option Ent → Option Ent
  | none, y => y
  | some x, none => some x
  | some x, some y => some (mx x y)
/-- An option of this key. -/
def Of (k : Int) (o : Option Ent) : Prop := ∀ x, o = some x → x.k = k
theorem jn_comm {k : Int} {a b : Option Ent} (ha : Of k a) (hb : Of k b) : jn a b = jn b a := by
  cases a with
  | none => cases b <;> rfl
  | some x => cases b with
    | none => rfl
    | some y => simp only [jn]; rw [mx_comm (by rw [ha x rfl, hb y rfl])]
theorem jn_idem (a : Option Ent) : jn a a = a := by cases a with
  | none => rfl
  | some x => simp only [jn, mx_idem]
theorem jn_assoc {k : Int} {a b c : Option Ent} (ha : Of k a) (hb : Of k b) (hc : Of k c) : jn (jn a b) c = jn a (jn b c) := by
  cases a with
  | none => rfl
  | some x => cases b with
    | none => rfl
    | some y => cases c with
      | none => rfl
      | some z => simp only [jn]; rw [mx_assoc (by rw [ha x rfl, hb y rfl]) (by rw [hb y rfl, hc z rfl])]
theorem look_of (l : List Ent) (k : Int) : Of k (look l k) := fun x hx => (look_some hx).2
theorem jn_of {k : Int} {a b : Option Ent} (ha : Of k a) (hb : Of k b) : Of k (jn a b) := by
  intro x hx
  cases a with
  | none => exact hb x hx
  | some y => cases b with
    | none => exact ha x hx
    | some z =>
      simp only [jn, Option.some.injEq] at hx
      rw [← hx, mx_k (by rw [ha y rfl, hb z rfl])]; exact ha y rfl
theorem newest_jn (o : Option Ent) (e : Ent) : some (newest o e) = jn o (some e) := by
  cases o with
  | none => rfl
  | some x => rfl
theorem look_mergeL {a : List Ent} (ha : MayL a) : ∀ (b : List Ent), MayL b → ∀ k, look (mergeL a b) k = jn (look a k) (look b k) := by
  intro b
  induction b generalizing a with
  | nil => intro _ k; show look a k = jn (look a k) none; cases look a k <;> rfl
  | cons e t ih =>
    intro hb k
    have hbs := hb.sorted
    rw [List.pairwise_cons] at hbs
    have hbt : MayL t := ⟨fun x hx => hb.ok x (List.mem_cons_of_mem _ hx), hbs.2⟩
    have h1 := ih (mergeOne_may ha (hb.ok e List.mem_cons_self)) hbt k
    have e0 : mergeL a (e :: t) = mergeL (mergeOne a e) t := rfl
    rw [e0, h1, look_merge a e ha.sorted, look_cons]
    by_cases c : k = e.k
    · rw [if_pos c, if_pos c.symm, newest_jn, look_none (l := t) fun x hx => by have := hbs.1 x hx; omega]
      cases look a k <;> rfl
    · rw [if_neg c, if_neg (fun h => c h.symm)]
theorem mergeL_comm {a b : List Ent} (ha : MayL a) (hb : MayL b) : mergeL a b = mergeL b a :=
  look_ext _ _ (mergeL_may ha hb.ok).sorted (mergeL_may hb ha.ok).sorted fun k => by
    rw [look_mergeL ha b hb, look_mergeL hb a ha, jn_comm (look_of a k) (look_of b k)]
theorem mergeL_assoc {a b c : List Ent} (ha : MayL a) (hb : MayL b) (hc : MayL c) : mergeL (mergeL a b) c = mergeL a (mergeL b c) :=
  have hab := mergeL_may ha hb.ok
  have hbc := mergeL_may hb hc.ok
  look_ext _ _ (mergeL_may hab hc.ok).sorted (mergeL_may ha hbc.ok).sorted fun k => by
    rw [look_mergeL hab c hc, look_mergeL ha b hb, look_mergeL ha _ hbc, look_mergeL hb c hc, jn_assoc (look_of a k) (look_of b k) (look_of c k)]
theorem mergeL_idem {a : List Ent} (ha : MayL a) : mergeL a a = a :=
  look_ext _ _ (mergeL_may ha ha.ok).sorted ha.sorted fun k => by rw [look_mergeL ha a ha, jn_idem]
theorem mergeL_absorb {a b : List Ent} (ha : MayL a) (hb : MayL b) : mergeL (mergeL a b) b = mergeL a b := by
  rw [mergeL_assoc ha hb hb, mergeL_idem hb]
/-- Few keys, few entries. -/
theorem sorted_len : ∀ (l : List Ent) (lo hi : Int), l.Pairwise (fun a b => a.k < b.k) → (∀ e ∈ l, lo ≤ e.k ∧ e.k < hi) → lo ≤ hi → (l.length : Int) ≤ hi - lo
  | [], lo, hi, _, _, h => by simp; omega
  | a :: t, lo, hi, hs, hb, h => by
    rw [List.pairwise_cons] at hs
    have h0 := hb a List.mem_cons_self
    have := sorted_len t (a.k + 1) hi hs.2 (fun e he => ⟨by have := hs.1 e he; omega, (hb e (List.mem_cons_of_mem _ he)).2⟩) (by omega)
    simp only [List.length_cons]; omega
/-- Entries of the laws: keys below 6. -/
structure SixL (l : List Ent) : Prop where
  may : MayL l
  six : ∀ e ∈ l, 0 ≤ e.k ∧ e.k < 6
theorem SixL.len {l : List Ent} (h : SixL l) : l.length ≤ 6 := by
  have := sorted_len l 0 6 h.may.sorted h.six (by omega); omega
theorem SixL.nil : SixL [] := ⟨⟨fun e he => by simp at he, List.Pairwise.nil⟩, fun e he => by simp at he⟩
theorem mergeL_mem {a b : List Ent} {x : Ent} (h : x ∈ mergeL a b) : x ∈ a ∨ x ∈ b := by
  induction b generalizing a with
  | nil => exact .inl h
  | cons e t ih =>
    rcases ih (a := mergeOne a e) h with h | h
    · rcases mergeOne_mem a e x h with rfl | h
      · exact .inr List.mem_cons_self
      · exact .inl h
    · exact .inr (List.mem_cons_of_mem _ h)
theorem SixL.merge {a b : List Ent} (ha : SixL a) (hb : SixL b) : SixL (mergeL a b) :=
  ⟨mergeL_may ha.may hb.may.ok, fun x hx => by
    rcases mergeL_mem hx with h | h
    · exact ha.six x h
    · exact hb.six x h⟩
end Go.Proofs.YtjdedflfdlhkdaaGreatDoor
