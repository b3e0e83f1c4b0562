/- Texts that the claim imports, laid together: Ins InsG Eql Five MergeM MrH MrI MergeB. No statement of their own. -/
import Derived.Deep.RegionLaw
import Derived.BigQuiet
import Derived.Shelf.Abstract
import Derived.Orders
import Derived.Conc.CompanyDraw
import Derived.Test.YtkodpijedinanaaKah
import Derived.Test.YtkodpijedinanaaKai
namespace Go.Proofs.Ytkodpijedinanaa
open Go.ChangeShapes Go.WideShapes Go.ChangeAt Go.RowKit
set_option linter.unusedVariables false
set_option linter.unusedSimpArgs false

theorem Ent.cells_length (e : Ent) : e.cells.length = 5 := rfl
def ents (l : List Ent) : List Value := l.flatMap Ent.cells
theorem ents_length (l : List Ent) : (ents l).length = l.length * 5 := flat_length Ent.cells 5 Ent.cells_length l
theorem ents_append (l m : List Ent) : ents (l ++ m) = ents l ++ ents m := by simp [ents]
theorem ents_take : ∀ (l : List Ent) (k : Nat), (ents l).take (k * 5) = ents (l.take k)
  | [], k => by simp [ents]
  | a :: t, 0 => by simp [ents]
  | a :: t, k + 1 => by
    have ih := ents_take t k
    rw [List.take_succ_cons]
    show ((Ent.cells a) ++ ents t).take ((k + 1) * 5) = Ent.cells a ++ ents (t.take k)
    rw [List.take_append, Ent.cells_length, show (k + 1) * 5 - 5 = k * 5 by omega, ih, List.take_of_length_le (by rw [Ent.cells_length]; omega)]
theorem ents_drop : ∀ (l : List Ent) (k : Nat), (ents l).drop (k * 5) = ents (l.drop k)
  | [], k => by simp [ents]
  | a :: t, 0 => by simp [ents]
  | a :: t, k + 1 => by
    have ih := ents_drop t k
    rw [List.drop_succ_cons]
    show ((Ent.cells a) ++ ents t).drop ((k + 1) * 5) = ents (t.drop k)
    rw [List.drop_append, Ent.cells_length, show (k + 1) * 5 - 5 = k * 5 by omega, ih, List.drop_of_length_le (by rw [Ent.cells_length]; omega), List.nil_append]
theorem ents_one (l : List Ent) : ∀ u ∈ ents l, u.oneCell' = true := by
  intro u hu
  simp only [ents, List.mem_flatMap] at hu
  obtain ⟨p, _, h⟩ := hu
  simp [Ent.cells] at h
  rcases h with rfl | rfl | rfl | rfl | rfl <;> rfl
theorem elEntry : Elem Try.prog 42 5 40 (.agg #[.int .i64 0, .int .i64 0, .int .i64 0, .int .i64 0, .bool false]) := .of (by kernel_rfl) rfl (by decide)
/-- What is behind the two copies. -/
theorem ins_cells (l : List Ent) (i : Nat) (hi : i < l.length) (e : Ent) (J : List Value) (hJ : J.length = 5) :
    (((ents l ++ J).take ((i + 1) * 5) ++ (ents l).drop (i * 5) ++ (ents l ++ J).drop ((i + 1) * 5 + ((ents l).drop (i * 5)).length)).take (i * 5) ++ e.cells ++
      ((ents l ++ J).take ((i + 1) * 5) ++ (ents l).drop (i * 5) ++ (ents l ++ J).drop ((i + 1) * 5 + ((ents l).drop (i * 5)).length)).drop (i * 5 + e.cells.length)) = ents (l.take i ++ [e] ++ l.drop i) := by
  have hl := ents_length l
  have e0 : ((ents l).drop (i * 5)).length = (l.length - i) * 5 := by rw [List.length_drop, hl]; omega
  have e1 : (ents l ++ J).drop ((i + 1) * 5 + ((ents l).drop (i * 5)).length) = [] := List.drop_of_length_le (by rw [List.length_append, hl, hJ, e0]; omega)
  have e2 : ((ents l ++ J).take ((i + 1) * 5)).length = (i + 1) * 5 := by rw [List.length_take, List.length_append, hl, hJ]; omega
  rw [e1, List.append_nil, Ent.cells_length]
  rw [List.take_append_of_le_length (by rw [e2]; omega), List.take_take, Nat.min_eq_left (by omega), List.take_append_of_le_length (by rw [hl]; omega), ents_take]
  rw [show i * 5 + 5 = (i + 1) * 5 by omega, List.drop_append, e2, Nat.sub_self, List.drop_zero, List.drop_of_length_le (by rw [e2]; exact Nat.le_refl _), List.nil_append, ents_drop]
  rw [ents_append, ents_append]
  simp [ents]
/-- At the end. -/
theorem ins_end (l : List Ent) (e : Ent) : ents l ++ e.cells = ents (l.take l.length ++ [e] ++ l.drop l.length) := by
  rw [List.take_length, List.drop_length, List.append_nil, ents_append]; simp [ents]
set_option maxRecDepth 100000 in
set_option maxHeartbeats 4000000 in
theorem cInsEnd {w : World} {base : Nat} {v : Value} {l : List Ent} (h : w.ownsRow base 42 5 v l.length (ents l)) (hbs : base ≤ w.heap.size) (hlen : l.length ≤ 1000) (e : Ent) (vb : Nat) (hv : w.heap[vb]? = some (.cells e.cells.toArray 42 (0, 0))) :
    Calls Try.prog 30 #[v, .int .i64 l.length, .slice (some ⟨vb, 0, none⟩) 1 1] w fun x w' => ∃ v', x = .returned v' ∧ w'.ownsRow base 42 5 v' (l.length + 1) (ents (l.take l.length ++ [e] ++ l.drop l.length)) ∧ Below base w w' := by
  have hsrc : Has w 5 (.slice (some ⟨vb, 0, none⟩) 1 1) 1 e.cells := ⟨⟨rfl, fun n c hh => by simp at hh⟩, _, 1, rfl, Nat.le_refl _, by unfold maxLen; omega, fun _ => ⟨vb, 0, rfl, fun j u hu => by rw [Nat.zero_add, cell_of_row w vb j _ _ _ hv]; simpa using hu⟩⟩
  have hone : e.cells.all Value.oneCell' = true := by simp [Ent.cells, Value.oneCell']
  obtain ⟨a, cap, rfl⟩ := owns_slice h
  have hcap : l.length ≤ cap ∧ cap ≤ maxLen := by
    obtain ⟨_, _, _, he, h1, h2, _⟩ := Has.of_owns h
    simp only [Value.slice.injEq] at he
    obtain ⟨-, -, rfl⟩ := he
    exact ⟨h1, h2⟩
  unfold maxLen at hcap
  have H := Lib.hid h
  have HS := Lib.hid hsrc
  have HO := Lib.hid hone
  rw [← ins_end l e]
  have hca : a = none → l.length = 0 := fun ha => by
    obtain ⟨⟨_, hn⟩, _⟩ := Has.of_owns h
    subst ha
    exact (hn _ _ rfl).1
  cases a with
  | none =>
    have h0 := hca rfl
    rw [h0] at H ⊢
    have hc0 : cap = 0 := by
      obtain ⟨⟨_, hn⟩, _⟩ := Has.of_owns h
      exact (hn _ _ rfl).2
    subst hc0
    clear h hsrc hone hca hcap
    go_enter Try.func30, Try.ntmps30
    go_wp2_with (refine wp_appN (w0 := w) 35 42 5 40 _ elEntry Try.underlying35 base _ _ _ H.out (Below.refl _ _) _ 1 e.cells HS.out rfl _ _ rfl rfl rfl HO.out (by omega) (by unfold maxLen; omega) hbs ?_; intro v3 w3 hown3 hgrow3 hb3)
    go_ret
    exact ⟨_, rfl, hown3, hb3⟩
  | some ad =>
    obtain ⟨gg, _, e0, hgs, -⟩ : ∃ g c, (Value.slice (some ad) l.length cap) = .slice (some ⟨g, 0, none⟩) l.length c ∧ True ∧ True := by
      obtain ⟨_, hh⟩ := h
      rcases hh with ⟨hh, _⟩ | ⟨g, c, cur, hh, _⟩
      · cases hh
      · exact ⟨g, c, hh, trivial, trivial⟩
    simp only [Value.slice.injEq, Option.some.injEq, true_and] at e0
    obtain ⟨rfl, rfl⟩ := e0
    clear h hsrc hone hca
    go_enter Try.func30, Try.ntmps30
    go_wp2_with (refine wp_appN (w0 := w) 35 42 5 40 _ elEntry Try.underlying35 base _ _ _ H.out (Below.refl _ _) _ 1 e.cells HS.out rfl _ _ rfl rfl rfl HO.out (by omega) (by unfold maxLen; omega) hbs ?_; intro v3 w3 hown3 hgrow3 hb3)
    all_goals (go_ret; exact ⟨_, rfl, hown3, hb3⟩)
theorem ovl (w : World) (vb g o la ca lb cb : Nat) (cs cur : Array Value) (e1 e2 : TypeId) (hvb : w.heap[vb]? = some (.cells cs e1 (0, 0))) (hg : w.heap[g]? = some (.cells cur e2 (0, 0))) (hne : vb ≠ g) (hc : cur.size ≠ 0) :
    (callFunc 52 #[.slice (some ⟨vb, 0, none⟩) la ca, .slice (some ⟨g, o, none⟩) lb cb]).run Try.prog w = .ok (.value (.bool false)) w := by
  rw [run_callFunc_extern Try.func52 (by kernel_rfl) (by kernel_rfl) (by kernel_rfl) (e := Extern.SlicesOverlaps.overlaps #[35, 35] #[4]) (by kernel_rfl),
      Lib.run_overlaps_apart w 35 4 42 Try.underlying35 5 (fun w => by kernel_rfl) ⟨vb, 0, none⟩ ⟨g, o, none⟩ la ca lb cb hne e1 e2 cs.size cur.size (by simp [World.shape?, hvb]) (by simp [World.shape?, hg]) hc (by simp [World.frozen?, hvb]) (by simp [World.frozen?, hvb])]
  rfl
theorem heap_setCells_ne (g : Nat) : ∀ (vs : List Value) (o : Nat) (w : World) (k : Nat), k ≠ g → (w.setCells g o vs).heap[k]? = w.heap[k]?
  | [], _, _, _, _ => rfl
  | v :: vs, o, w, k, hk => (heap_setCells_ne g vs (o + 1) (w.setCell ⟨g, o, none⟩ v) k hk).trans (Below.heap_setCell _ _ _ _ hk)
theorem sizeEntry : (Try.prog.info? 42).map (·.size) = some 5 := by kernel_rfl
theorem drew_cells (b : Nat) : ∀ (vs : List Value) (o : Nat) (w : World), (w.setCells b o vs).drew = w.drew.setCells b o vs
  | [], _, _ => rfl
  | v :: vs, o, w => drew_cells b vs (o + 1) (w.setCell ⟨b, o, none⟩ v)
set_option maxRecDepth 100000 in
set_option maxHeartbeats 4000000 in
theorem cInsShift {w : World} {base gg cap : Nat} {l : List Ent} (h : w.ownsRow base 42 5 (.slice (some ⟨gg, 0, none⟩) l.length cap) l.length (ents l)) (i : Nat) (hi : i < l.length) (hroom : l.length + 1 ≤ cap) (e : Ent) (vb : Nat) (hne : vb ≠ gg) (hv : w.heap[vb]? = some (.cells e.cells.toArray 42 (0, 0))) :
    Calls Try.prog 30 #[.slice (some ⟨gg, 0, none⟩) l.length cap, .int .i64 i, .slice (some ⟨vb, 0, none⟩) 1 1] w fun x w' => ∃ v', x = .returned v' ∧ w'.ownsRow base 42 5 v' (l.length + 1) (ents (l.take i ++ [e] ++ l.drop i)) ∧ Below base w w' := by
  have hd : w.drew.ownsRow base 42 5 (.slice (some ⟨gg, 0, none⟩) l.length cap) l.length (ents l) := h
  obtain ⟨J, hJ, hX⟩ := owns_ext hd hroom
  have hl := ents_length l
  have e0 : ((ents l).drop (i * 5)).length = (l.length - i) * 5 := by rw [List.length_drop, hl]; omega
  have h1 := owns_write hX ((i + 1) * 5) ((ents l).drop (i * 5)) (by rw [e0]; omega)
  have h2 := owns_write h1 (i * 5) e.cells (by rw [Ent.cells_length]; omega)
  rw [ins_cells l i hi e J hJ] at h2
  have c1 := (owns_chc_write hX ((i + 1) * 5) ((ents l).drop (i * 5))).2
  have c2 := (owns_chc_write h1 (i * 5) e.cells).2
  have HF := Lib.hid h2
  have HC : Hid (Below base w ((w.drew.setCells gg ((i + 1) * 5) ((ents l).drop (i * 5))).setCells gg (i * 5) e.cells)) := ((Below.refl base w).drew.trans c1).trans c2
  obtain ⟨hcs, hfz, cur, hcur, hcsz, _, _, hm⟩ := owns_cells hX
  obtain ⟨hcs1, hfz1, cur1, hcur1, hcsz1, _, _, _⟩ := owns_cells h1
  have hov : ∀ lb cb, (callFunc 52 #[.slice (some ⟨vb, 0, none⟩) 1 1, .slice (some ⟨gg, (i + 1) * 5, none⟩) lb cb]).run Try.prog w = .ok (.value (.bool false)) w := fun lb cb =>
    ovl w vb gg ((i + 1) * 5) 1 1 lb cb _ cur _ _ hv hcur hne (by omega)
  have hxl : (ents l ++ J).length = (l.length + 1) * 5 := by rw [List.length_append, hl, hJ]; omega
  have hsome : ∀ j, j < (l.length + 1) * 5 → (w.drew.cell? ⟨gg, j, none⟩).isSome = true := fun j hj => by
    rw [hcs j _ (List.getElem?_eq_getElem (by rw [hxl]; exact hj))]; rfl
  have hcp1 : ∀ ty dc sc, (Builtin.copy_ #[35, 35] ty #[.slice (some ⟨gg, (i + 1) * 5, none⟩) (l.length - i) dc, .slice (some ⟨gg, i * 5, none⟩) (l.length + 1 - i) sc]).run Try.prog w.drew = .ok (goInt (Nat.min (l.length + 1 - i) (l.length - i))) (w.drew.setCells gg ((i + 1) * 5) ((ents l).drop (i * 5))) := fun ty dc sc =>
    run_copy_n w.drew _ _ ty 42 5 gg ((i + 1) * 5) (l.length - i) dc ⟨gg, i * 5, none⟩ (l.length + 1 - i) sc ((ents l).drop (i * 5)) Try.underlying35 sizeEntry (by rw [e0]; simp only [Nat.min_def]; split <;> omega)
      (fun j v hj => by
        rw [Addr.add_lit]
        rw [List.getElem?_drop] at hj
        exact hcs (i * 5 + j) v (by rw [List.getElem?_append_left (by have := (List.getElem?_eq_some_iff.1 hj).1; exact this)]; exact hj))
      (fun j hj => hsome _ (by rw [e0] at hj; omega)) (fun j hj => hfz _) (fun v hv => ents_one l v (List.mem_of_mem_drop hv))
  obtain ⟨W1, hW1⟩ : ∃ W1, W1 = w.drew.setCells gg ((i + 1) * 5) ((ents l).drop (i * 5)) := ⟨_, rfl⟩
  have hv1 : W1.heap[vb]? = some (.cells e.cells.toArray 42 (0, 0)) := by
    rw [hW1, heap_setCells_ne _ _ _ _ _ hne]; exact hv
  rw [← hW1] at hcp1 HF HC hfz1 hcs1
  have hx1l := h1.1
  have hcp2 : ∀ (W : World), (∀ x, W.cell? x = W1.cell? x) → (∀ x, W.frozen? x = W1.frozen? x) → ∀ ty dc, (Builtin.copy_ #[35, 35] ty #[.slice (some ⟨gg, i * 5, none⟩) (l.length + 1 - i) dc, .slice (some ⟨vb, 0, none⟩) 1 1]).run Try.prog W = .ok (goInt (Nat.min 1 (l.length + 1 - i))) (W.setCells gg (i * 5) e.cells) := fun W hWc hWf ty dc =>
    run_copy_n W _ _ ty 42 5 gg (i * 5) (l.length + 1 - i) dc ⟨vb, 0, none⟩ 1 1 e.cells Try.underlying35 sizeEntry (by rw [Ent.cells_length]; simp only [Nat.min_def]; split <;> omega)
      (fun j v hj => by rw [Addr.add_lit, hWc, Nat.zero_add, cell_of_row W1 vb j _ _ _ hv1]; simpa using hj)
      (fun j hj => by rw [hWc, hcs1 _ _ (List.getElem?_eq_getElem (by rw [hx1l]; rw [Ent.cells_length] at hj; omega))]; rfl) (fun j hj => by rw [hWf]; exact hfz1 _) (fun v hv => by simp [Ent.cells] at hv; rcases hv with rfl | rfl | rfl | rfl | rfl <;> rfl)
  have hz2 : ((i : Int) == (l.length : Int)) = false := by rw [beq_eq_false_iff_ne]; omega
  unfold maxLen at hm
  have hw1 : IntKind.i64.wrap ((i : Int) + 1) = (i : Int) + 1 := IntWalk.i64_in _ (by omega)
  have hw2 : IntKind.i64.wrap ((l.length : Int) + 1) = (l.length : Int) + 1 := IntWalk.i64_in _ (by omega)
  have hb1 : (0 : Int) ≤ (i : Int) + 1 := by omega
  have hin : i ≤ l.length := by omega
  have hrz : ((l.length : Int) + 1) ≤ (cap : Int) := by omega
  have hrz2 : decide ((cap : Int) < (l.length : Int) + 1) = false := by simp; omega
  have htn : ((i : Int) + 1).toNat = i + 1 := by omega
  have htn2 : ((l.length : Int) + 1).toNat = l.length + 1 := by omega
  have hb2 : ¬ (cap = i + 1) := by omega
  have hb3 : (i : Int) ≤ (l.length : Int) + 1 := by omega
  have hb4 : ¬ (cap = i) := by omega
  have hb5 : (i : Int) + 1 ≤ (l.length : Int) + 1 := by omega
  have hb6 : 0 ≤ (l.length : Int) + 1 := by omega
  clear h hd hX h1 h2 c1 c2 hcs hfz hcur hcsz hcs1 hfz1 hcur1 hcsz1 hsome hxl hx1l hv1 hW1
  go_enter Try.func30, Try.ntmps30
  go_wp2_with (simp only [hov])
  go_region_law (refine step_copy_n rfl _ _ 35 35 rfl _ _ (by simp [Act.eval, Act.put]) (by simp [Act.eval, Act.put]) (hcp1 _ _ _) ?_)
  go_wp2_with (at_builtin; refine wpList_copy_n _ rfl _ _ 35 35 rfl _ _ rfl rfl (hcp2 _ (fun _ => rfl) (fun _ => rfl) _ _) ?_)
  go_ret
  exact ⟨_, rfl, HF.out, HC.out⟩
end Go.Proofs.Ytkodpijedinanaa

namespace Go.Proofs.Ytkodpijedinanaa
open Go.ChangeShapes Go.WideShapes Go.ChangeAt Go.RowKit
set_option linter.unusedVariables false
set_option linter.unusedSimpArgs false

/-- What is behind the two copies into the new row. -/
theorem insG_cells (l : List Ent) (i : Nat) (hi : i < l.length) (e : Ent) (Z : List Value) (hZ : Z.length = (l.length + 1 - i) * 5) :
    (((((ents l).take (i * 5) ++ Z).take (i * 5) ++ e.cells ++ ((ents l).take (i * 5) ++ Z).drop (i * 5 + e.cells.length)).take ((i + 1) * 5)) ++ (ents l).drop (i * 5) ++
      (((ents l).take (i * 5) ++ Z).take (i * 5) ++ e.cells ++ ((ents l).take (i * 5) ++ Z).drop (i * 5 + e.cells.length)).drop ((i + 1) * 5 + ((ents l).drop (i * 5)).length)) = ents (l.take i ++ [e] ++ l.drop i) := by
  have hl := ents_length l
  have e0 : ((ents l).drop (i * 5)).length = (l.length - i) * 5 := by rw [List.length_drop, hl]; omega
  have e1 : ((ents l).take (i * 5)).length = i * 5 := by rw [List.length_take, hl]; omega
  have e2 : ((ents l).take (i * 5) ++ Z).take (i * 5) = (ents l).take (i * 5) := by
    rw [List.take_append_of_le_length (by rw [e1]; exact Nat.le_refl _), List.take_of_length_le (by rw [e1]; exact Nat.le_refl _)]
  rw [e2, Ent.cells_length]
  have e3 : ((ents l).take (i * 5) ++ e.cells).length = (i + 1) * 5 := by rw [List.length_append, e1, Ent.cells_length]; omega
  have e4 : (((ents l).take (i * 5) ++ Z).drop (i * 5 + 5)).length = (l.length - i) * 5 := by rw [List.length_drop, List.length_append, e1, hZ]; omega
  rw [List.take_append_of_le_length (by rw [e3]; exact Nat.le_refl _), List.take_of_length_le (by rw [e3]; exact Nat.le_refl _)]
  have e5 : ((ents l).take (i * 5) ++ e.cells ++ ((ents l).take (i * 5) ++ Z).drop (i * 5 + 5)).drop ((i + 1) * 5 + ((ents l).drop (i * 5)).length) = [] := List.drop_of_length_le (by rw [List.length_append, e3, e4, e0]; exact Nat.le_refl _)
  rw [e5, List.append_nil, ents_take, ents_drop, ents_append, ents_append]
  simp [ents]
set_option maxRecDepth 100000 in
set_option maxHeartbeats 4000000 in
theorem cInsGrow {w : World} {base gg cap : Nat} {l : List Ent} (h : w.ownsRow base 42 5 (.slice (some ⟨gg, 0, none⟩) l.length cap) l.length (ents l)) (hbs : base ≤ w.heap.size) (hlen : l.length ≤ 1000) (i : Nat) (hi : i < l.length) (hroom : cap < l.length + 1) (e : Ent) (vb : Nat) (hv : w.heap[vb]? = some (.cells e.cells.toArray 42 (0, 0))) :
    Calls Try.prog 30 #[.slice (some ⟨gg, 0, none⟩) l.length cap, .int .i64 i, .slice (some ⟨vb, 0, none⟩) 1 1] w fun x w' => ∃ v', x = .returned v' ∧ w'.ownsRow base 42 5 v' (l.length + 1) (ents (l.take i ++ [e] ++ l.drop i)) ∧ Below base w w' := by
  obtain ⟨hcs, hfz, cur, hcur, hcsz, hbg, hnc, hm⟩ := owns_cells h
  have hl := ents_length l
  obtain ⟨info, hinfo, hz0, hsz, hby, hzs, _⟩ := elEntry
  have hgw : gg < w.heap.size := (Array.getElem?_eq_some_iff.1 hcur).1
  have hvw : vb < w.heap.size := (Array.getElem?_eq_some_iff.1 hv).1
  have hkk : (l.length : Int) + 1 - (i : Int) = ((l.length + 1 - i : Nat) : Int) := by omega
  have hik : i + (l.length + 1 - i) = l.length + 1 := by omega
  have hold : (Builtin.firstCells info.size i (.slice (some ⟨gg, 0, none⟩) i cap)).run Try.prog w.drew = .ok ((ents l).take (i * 5)).toArray w.drew := by
    rw [hsz]
    exact run_firstCells_some w.drew 5 i ⟨gg, 0, none⟩ i cap ((ents l).take (i * 5)) (by rw [List.length_take, hl]; omega) (fun j v hj => by
      rw [Addr.add_lit, Nat.zero_add]
      rw [List.getElem?_take] at hj
      split at hj
      · exact hcs j v hj
      · cases hj)
  have hrz : ∀ ty, (Builtin.append_ #[35, 3] ty #[.slice (some ⟨gg, 0, none⟩) i cap, .int .i64 ((l.length : Int) + 1 - (i : Int))]).run Try.prog w =
      .ok (.slice (some ⟨w.heap.size, 0, none⟩) (l.length + 1) (grownCap w (l.length + 1) cap 42)) (w.drew.alloc (.cells (((ents l).take (i * 5)).toArray ++ Builtin.zeroCells (Value.agg #[.int .i64 0, .int .i64 0, .int .i64 0, .int .i64 0, .bool false]).cells (l.length + 1 - i) ++ Builtin.zeroCells (Value.agg #[.int .i64 0, .int .i64 0, .int .i64 0, .int .i64 0, .bool false]).cells (grownCap w (l.length + 1) cap 42 - (l.length + 1))) 42)) := fun ty => by
    have hh := Lib.run_append_grow_zeros w 35 3 ty 42 info _ .i64 .i64 Try.underlying35 Try.underlying3 hinfo hz0 (some ⟨gg, 0, none⟩) i cap ((ents l).take (i * 5)) hold (l.length + 1 - i) (by omega) (by omega) (by omega) (by omega) (by rw [hby]; omega) (by rw [hby, hik]; exact growslice_fits_wide hroom (by omega))
    rw [hik] at hh
    rw [hkk]
    exact hh
  have hGn : l.length + 1 ≤ grownCap w (l.length + 1) cap 42 := grownCap_ge w _ _ _
  have hG63 : grownCap w (l.length + 1) cap 42 ≤ maxLen := grownCap_le_maxLen w (l.length + 1) cap 42 (by unfold maxLen; omega)
  generalize grownCap w (l.length + 1) cap 42 = G at *
  obtain ⟨ROW, hROW⟩ : ∃ ROW : Array Value, ROW = ((ents l).take (i * 5)).toArray ++ Builtin.zeroCells (Value.agg #[.int .i64 0, .int .i64 0, .int .i64 0, .int .i64 0, .bool false]).cells (l.length + 1 - i) ++ Builtin.zeroCells (Value.agg #[.int .i64 0, .int .i64 0, .int .i64 0, .int .i64 0, .bool false]).cells (G - (l.length + 1)) := ⟨_, rfl⟩
  rw [← hROW] at hrz
  have hz1 : (Builtin.zeroCells (Value.agg #[.int .i64 0, .int .i64 0, .int .i64 0, .int .i64 0, .bool false]).cells (l.length + 1 - i)).size = (l.length + 1 - i) * 5 := by rw [size_zeroCells]; rfl
  have hz2 : (Builtin.zeroCells (Value.agg #[.int .i64 0, .int .i64 0, .int .i64 0, .int .i64 0, .bool false]).cells (G - (l.length + 1))).size = (G - (l.length + 1)) * 5 := by rw [size_zeroCells]; rfl
  have e1 : ((ents l).take (i * 5)).length = i * 5 := by rw [List.length_take, hl]; omega
  have hRs : ROW.size = G * 5 := by
    rw [hROW, Array.size_append, Array.size_append, hz1, hz2, List.size_toArray, e1]
    omega
  have hRt : ROW.toList.take ((l.length + 1) * 5) = (ents l).take (i * 5) ++ (Builtin.zeroCells (Value.agg #[.int .i64 0, .int .i64 0, .int .i64 0, .int .i64 0, .bool false]).cells (l.length + 1 - i)).toList := by
    rw [hROW, Array.toList_append, Array.toList_append, List.toList_toArray]
    have e5 : ((ents l).take (i * 5) ++ (Builtin.zeroCells (Value.agg #[.int .i64 0, .int .i64 0, .int .i64 0, .int .i64 0, .bool false]).cells (l.length + 1 - i)).toList).length = (l.length + 1) * 5 := by
      rw [List.length_append, e1, Array.length_toList, hz1]; omega
    rw [List.take_append_of_le_length (by rw [e5]; exact Nat.le_refl _), List.take_of_length_le (by rw [e5]; exact Nat.le_refl _)]
  have hZl : ((Builtin.zeroCells (Value.agg #[.int .i64 0, .int .i64 0, .int .i64 0, .int .i64 0, .bool false]).cells (l.length + 1 - i)).toList).length = (l.length + 1 - i) * 5 := by rw [Array.length_toList, hz1]
  generalize (Builtin.zeroCells (Value.agg #[.int .i64 0, .int .i64 0, .int .i64 0, .int .i64 0, .bool false]).cells (l.length + 1 - i)).toList = Z at *
  have hX : (w.drew.alloc (.cells ROW 42)).ownsRow base 42 5 (.slice (some ⟨w.heap.size, 0, none⟩) (l.length + 1) G) (l.length + 1) ((ents l).take (i * 5) ++ Z) :=
    ⟨by rw [List.length_append, e1, hZl]; omega, .inr ⟨w.heap.size, G, ROW, rfl, hbs, heap_alloc_new w.drew _, hGn, hG63, hRs, hRt⟩⟩
  have e0 : ((ents l).drop (i * 5)).length = (l.length - i) * 5 := by rw [List.length_drop, hl]; omega
  have h1 := owns_write hX (i * 5) e.cells (by rw [Ent.cells_length]; omega)
  have h2 := owns_write h1 ((i + 1) * 5) ((ents l).drop (i * 5)) (by rw [e0]; omega)
  rw [insG_cells l i hi e Z hZl] at h2
  have c1 := (owns_chc_write hX (i * 5) e.cells).2
  have c2 := (owns_chc_write h1 ((i + 1) * 5) ((ents l).drop (i * 5))).2
  have c0 : Below base w (w.drew.alloc (.cells ROW 42)) := ((Below.refl base w).drew).alloc hbs _
  have hbW : Below w.heap.size w (w.drew.alloc (.cells ROW 42)) := ((Below.refl w.heap.size w).drew).alloc (Nat.le_refl _) _
  have hvW : (w.drew.alloc (.cells ROW 42)).heap[vb]? = some (.cells e.cells.toArray 42 (0, 0)) := by rw [hbW.block vb hvw]; exact hv
  obtain ⟨hcsX, hfzX, _⟩ := owns_cells hX
  obtain ⟨hcs1, hfz1, _⟩ := owns_cells h1
  have hXl := hX.1
  have h1l := h1.1
  have hcgW : ∀ j v, (ents l)[j]? = some v → ((w.drew.alloc (.cells ROW 42)).setCells w.heap.size (i * 5) e.cells).cell? ⟨gg, j, none⟩ = some v := fun j v hj => by
    rw [World.cell?_of_block (w := w) (a := ⟨gg, j, none⟩) (by rw [heap_setCells_ne _ _ _ _ _ (show gg ≠ w.heap.size by omega)]; exact hbW.block gg hgw)]
    exact hcs j v hj
  obtain ⟨W1, hW1⟩ : ∃ W1, W1 = w.drew.alloc (.cells ROW 42) := ⟨_, rfl⟩
  rw [← hW1] at hrz h1 h2 c1 c2 c0 hvW hcsX hfzX hcs1 hfz1 hcgW
  have hcpA : ∀ ty dc, (Builtin.copy_ #[35, 35] ty #[.slice (some ⟨w.heap.size, i * 5, none⟩) (l.length + 1 - i) dc, .slice (some ⟨vb, 0, none⟩) 1 1]).run Try.prog W1 = .ok (goInt (Nat.min 1 (l.length + 1 - i))) (W1.setCells w.heap.size (i * 5) e.cells) := fun ty dc =>
    run_copy_n W1 _ _ ty 42 5 w.heap.size (i * 5) (l.length + 1 - i) dc ⟨vb, 0, none⟩ 1 1 e.cells Try.underlying35 sizeEntry (by rw [Ent.cells_length]; simp only [Nat.min_def]; split <;> omega)
      (fun j v hj => by rw [Addr.add_lit, Nat.zero_add, cell_of_row W1 vb j _ _ _ hvW]; simpa using hj)
      (fun j hj => by rw [hcsX _ _ (List.getElem?_eq_getElem (by rw [hXl]; rw [Ent.cells_length] at hj; omega))]; rfl) (fun j hj => hfzX _) (fun v hv => by simp [Ent.cells] at hv; rcases hv with rfl | rfl | rfl | rfl | rfl <;> rfl)
  obtain ⟨W2, hW2⟩ : ∃ W2, W2 = W1.setCells w.heap.size (i * 5) e.cells := ⟨_, rfl⟩
  rw [← hW2] at hcpA h2 c1 c2 hcs1 hfz1 hcgW
  have hcpB : ∀ ty dc sc, (Builtin.copy_ #[35, 35] ty #[.slice (some ⟨w.heap.size, (i + 1) * 5, none⟩) (l.length - i) dc, .slice (some ⟨gg, i * 5, none⟩) (l.length - i) sc]).run Try.prog W2.drew = .ok (goInt (Nat.min (l.length - i) (l.length - i))) (W2.drew.setCells w.heap.size ((i + 1) * 5) ((ents l).drop (i * 5))) := fun ty dc sc =>
    run_copy_n W2.drew _ _ ty 42 5 w.heap.size ((i + 1) * 5) (l.length - i) dc ⟨gg, i * 5, none⟩ (l.length - i) sc ((ents l).drop (i * 5)) Try.underlying35 sizeEntry (by rw [e0]; simp only [Nat.min_def]; split <;> rfl)
      (fun j v hj => by
        rw [Addr.add_lit]
        rw [List.getElem?_drop] at hj
        exact hcgW (i * 5 + j) v hj)
      (fun j hj => by
        have := hcs1 ((i + 1) * 5 + j) _ (List.getElem?_eq_getElem (by rw [h1l]; rw [e0] at hj; omega))
        show (W2.cell? ⟨w.heap.size, (i + 1) * 5 + j, none⟩).isSome = true
        rw [this]; rfl)
      (fun j hj => hfz1 _) (fun v hv => ents_one l v (List.mem_of_mem_drop hv))
  have HF : Hid ((W2.drew.setCells w.heap.size ((i + 1) * 5) ((ents l).drop (i * 5))).ownsRow base 42 5 (.slice (some ⟨w.heap.size, 0, none⟩) (l.length + 1) G) (l.length + 1) (ents (l.take i ++ [e] ++ l.drop i))) := by
    rw [← drew_cells]; exact h2
  have HC : Hid (Below base w (W2.drew.setCells w.heap.size ((i + 1) * 5) ((ents l).drop (i * 5)))) := by
    rw [← drew_cells]; exact ((c0.trans c1).trans c2).drew
  have hq2 : ((i : Int) == (l.length : Int)) = false := by rw [beq_eq_false_iff_ne]; omega
  have hG2 : G ≤ 9223372036854775807 := by unfold maxLen at hG63; omega
  unfold maxLen at hm
  have hw1 : IntKind.i64.wrap ((i : Int) + 1) = (i : Int) + 1 := IntWalk.i64_in _ (by omega)
  have hw2 : IntKind.i64.wrap ((l.length : Int) + 1) = (l.length : Int) + 1 := IntWalk.i64_in _ (by omega)
  have hw3 : IntKind.i64.wrap ((l.length : Int) + 1 - (i : Int)) = (l.length : Int) + 1 - (i : Int) := IntWalk.i64_in _ (by omega)
  have hb1 : (0 : Int) ≤ (i : Int) + 1 := by omega
  have hin : i ≤ l.length := by omega
  have hrz2 : decide ((cap : Int) < (l.length : Int) + 1) = true := by simp; omega
  have htn : ((i : Int) + 1).toNat = i + 1 := by omega
  have hb2 : ¬ (G = i + 1) := by omega
  have hb3 : (i : Int) ≤ (l.length : Int) + 1 := by omega
  have hb4 : ¬ (G = i) := by omega
  have hb5 : (i : Int) + 1 ≤ (l.length : Int) + 1 := by omega
  have hb7 : ¬ (cap = i) := by omega
  have hb8 : (i : Int) ≤ (l.length : Int) := by omega
  have hb9 : i ≤ cap := by omega
  clear h hX h1 h2 c0 c1 c2 hcs hfz hcur hcsz hcs1 hfz1 hcsX hfzX hXl h1l hcgW hvW hbW hW1 hW2 hRt hRs hROW hold hkk hik hv hz0 hinfo hsz hby hzs hZl e1 e0 hl hz1 hz2 hG63
  go_enter Try.func30, Try.ntmps30
  go_wp2_with (first
    | (at_builtin; refine wpList_append_n _ rfl _ _ 35 3 rfl _ _ rfl rfl _ _ (hrz _) ?_)
    | (at_builtin; refine wpList_copy_n _ rfl _ _ 35 35 rfl _ _ rfl rfl (hcpA _ _) ?_))
  go_region_law (refine step_copy_n rfl _ _ 35 35 rfl _ _ (by simp [Act.eval, Act.put]) (by simp [Act.eval, Act.put]) (hcpB _ _ _) ?_)
  go_wp2_with fail
  go_ret
  exact ⟨_, rfl, HF.out, HC.out⟩
/-- All cases. -/
theorem cInsert {w : World} {base : Nat} {v : Value} {l : List Ent} (h : w.ownsRow base 42 5 v l.length (ents l)) (hbs : base ≤ w.heap.size) (hlen : l.length ≤ 1000) (i : Nat) (hi : i ≤ l.length) (e : Ent) (vb : Nat) (hne : v.ownBlock ≠ some vb) (hv : w.heap[vb]? = some (.cells e.cells.toArray 42 (0, 0))) :
    Calls Try.prog 30 #[v, .int .i64 i, .slice (some ⟨vb, 0, none⟩) 1 1] w fun x w' => ∃ v', x = .returned v' ∧ w'.ownsRow base 42 5 v' (l.length + 1) (ents (l.take i ++ [e] ++ l.drop i)) ∧ Below base w w' := by
  by_cases hl : i = l.length
  · subst hl
    exact cInsEnd h hbs hlen e vb hv
  · have hi' : i < l.length := by omega
    have hx : ∃ g c, v = .slice (some ⟨g, 0, none⟩) l.length c := by
      obtain ⟨_, hh⟩ := h
      rcases hh with ⟨_, hh⟩ | ⟨g, c, cur, hh, _⟩
      · omega
      · exact ⟨g, c, hh⟩
    obtain ⟨g, c, rfl⟩ := hx
    by_cases hr : l.length + 1 ≤ c
    · exact cInsShift h i hi' hr e vb (fun hh => hne (by rw [hh]; rfl)) hv
    · exact cInsGrow h hbs hlen i hi' (by omega) e vb hv
end Go.Proofs.Ytkodpijedinanaa

namespace Go.Proofs.Ytkodpijedinanaa
open Go.ChangeShapes Go.WideShapes Go.ChangeAt Go.RowKit
set_option linter.unusedVariables false
theorem eql_nil {P : Program} {t e : TypeId} (ht : P.underlying t = some (.slice e)) (w : World) (a : Option Addr) (n c n' c' : Nat) : (binOp .eql t (.slice a n c) (.slice none n' c')).run P w = .ok (.bool a.isNone) w := Lib.run_eql_slice_nil w _ _ a n c n' c' ht
end Go.Proofs.Ytkodpijedinanaa

namespace Go.Proofs.Ytkodpijedinanaa
open Go.ChangeShapes Go.WideShapes Go.ChangeAt Go.RowKit
set_option linter.unusedVariables false
set_option linter.unusedSimpArgs false

theorem five_at {W : World} {b : Nat} {a0 a1 a2 a3 a4 : Value} {e : TypeId} (h : W.heap[b]? = some (.cells #[a0, a1, a2, a3, a4] e (0, 0))) : (W.cell? ⟨b, 0, none⟩ = some a0 ∧ W.cell? ⟨b, 1, none⟩ = some a1 ∧ W.cell? ⟨b, 2, none⟩ = some a2 ∧ W.cell? ⟨b, 3, none⟩ = some a3 ∧ W.cell? ⟨b, 4, none⟩ = some a4) ∧ ∀ j, W.frozen? ⟨b, j, none⟩ = false :=
  ⟨⟨by rw [cell_of_row W _ _ _ _ _ h]; rfl, by rw [cell_of_row W _ _ _ _ _ h]; rfl, by rw [cell_of_row W _ _ _ _ _ h]; rfl, by rw [cell_of_row W _ _ _ _ _ h]; rfl, by rw [cell_of_row W _ _ _ _ _ h]; rfl⟩, fun j => by simp [World.frozen?, h]⟩
theorem five_put {w : World} {S : Nat} {a0 a1 a2 a3 a4 : Value} {e : TypeId} (h : w.heap[S]? = some (.cells #[a0, a1, a2, a3, a4] e (0, 0))) (x0 x1 x2 x3 x4 : Value) :
    (((((w.setCell ⟨S, 0, none⟩ x0).setCell ⟨S, 1, none⟩ x1).setCell ⟨S, 2, none⟩ x2).setCell ⟨S, 3, none⟩ x3).setCell ⟨S, 4, none⟩ x4).heap[S]? = some (.cells #[x0, x1, x2, x3, x4] e (0, 0)) :=
  heap_setCell_same _ S 4 _ _ x4 (heap_setCell_same _ S 3 _ _ x3 (heap_setCell_same _ S 2 _ _ x2 (heap_setCell_same _ S 1 _ _ x1 (heap_setCell_same _ S 0 _ _ x0 h))))
end Go.Proofs.Ytkodpijedinanaa

namespace Go.Proofs.Ytkodpijedinanaa
open Go.ChangeShapes Go.WideShapes Go.ChangeAt Go.RowKit
set_option linter.unusedVariables false
set_option linter.unusedSimpArgs false

set_option maxRecDepth 100000 in
set_option maxHeartbeats 1000000 in
theorem cclone_ent (v : Value) (n : Nat) (xs : List Value) (w : World) (h : Has w 5 v n xs) (h1 : xs.all Value.oneCell' = true) (hbytes : n * 40 ≤ 140737488355328) :
    Calls Try.prog 24 #[v] w fun e w' => ∃ v', e = .returned v' ∧ w'.ownsRow w.heap.size 42 5 v' n xs ∧ Below w.heap.size w w' := by
  obtain ⟨⟨hl, hnil⟩, a, cap, rfl, hn, hm, hc⟩ := h
  have q := fun w a n c n' c' => eql_nil Try.underlying35 w a n c n' c'
  have H1 := Lib.hid h1
  cases a with
  | none =>
    obtain ⟨rfl, rfl⟩ := hnil _ _ rfl
    obtain rfl : xs = [] := List.eq_nil_of_length_eq_zero (by simpa using hl)
    clear hc hnil hl h1
    go_enter Try.func24, Try.ntmps24
    go_wp2
    go_ret
    exact ⟨_, rfl, World.ownsRow_nil _ _ _ _, Below.refl _ _⟩
  | some a =>
    have Hs : Hid (∀ X, Below w.heap.size w X → Has X 5 (.slice (some a) n cap) n xs) := fun X hX => Has.below ⟨⟨hl, hnil⟩, some a, cap, rfl, hn, hm, hc⟩ hX
    have hn' : 0 + n ≤ maxLen := by omega
    have Hl := Lib.hid hl
    clear hc hnil hl h1
    go_enter Try.func24, Try.ntmps24
    go_wp2_with (at_builtin; refine wp_appN (w0 := w.alloc (.cells #[] 42)) 35 42 5 40 _ elEntry Try.underlying35 w.heap.size _ _ _ (World.ownsRow_made w #[] 0 (Nat.le_refl _) (Nat.zero_le _) rfl) (by repeat (first | exact Below.refl _ _ | refine Below.drew ?_ | refine Below.alloc ?_ (by first | (simp; done) | (simp; omega)) _ | refine Below.setCell ?_ (by first | (simp; done) | (simp; omega)) _)) _ _ _ (Hs.out _ ((Below.refl _ _).alloc (Nat.le_refl _) _)) rfl _ _ rfl rfl rfl H1.out (by omega) hn' (by simp) ?_; intro v3 w3 hown3 hgrow3 hb3)
    go_wp2
    go_ret
    exact ⟨_, rfl, by simpa using hown3, ((Below.refl _ w).alloc (Nat.le_refl _) _).trans hb3⟩

theorem ents_all (l : List Ent) : (ents l).all Value.oneCell' = true := List.all_eq_true.2 (ents_one l)
/-- What entry k of a row reads. -/
theorem ent_get {w : World} {v : Value} {l : List Ent} {n : Nat} (h : Has w 5 v n (ents l)) (k : Nat) (hk : k < l.length) :
    ∃ b off cap, v = .slice (some ⟨b, off, none⟩) n cap ∧ (n ≤ cap ∧ cap ≤ maxLen) ∧ (w.cell? ⟨b, off + k * 5, none⟩ = some (.int .i64 l[k].k) ∧ w.cell? ⟨b, off + k * 5 + 1, none⟩ = some (.int .i64 l[k].v) ∧ w.cell? ⟨b, off + k * 5 + 2, none⟩ = some (.int .i64 l[k].t) ∧ w.cell? ⟨b, off + k * 5 + 3, none⟩ = some (.int .i64 l[k].h) ∧ w.cell? ⟨b, off + k * 5 + 4, none⟩ = some (.bool l[k].g)) := by
  obtain ⟨⟨hl, _⟩, a, cap, rfl, h1, h2, hc⟩ := h
  obtain ⟨b, off, rfl, hcc⟩ := hc (by rw [ents_length]; omega)
  have g := fun j (hj : j < 5) u (hu : (l[k].cells)[j]? = some u) => hcc (k * 5 + j) u (by unfold ents; rw [flat_get Ent.cells 5 Ent.cells_length l k hk j hj]; exact hu)
  have g0 := g 0 (by omega) _ rfl
  have g1 := g 1 (by omega) _ rfl
  have g2 := g 2 (by omega) _ rfl
  have g3 := g 3 (by omega) _ rfl
  have g4 := g 4 (by omega) _ rfl
  rw [Nat.add_zero] at g0
  rw [← Nat.add_assoc] at g1 g2 g3 g4
  exact ⟨b, off, cap, rfl, ⟨h1, h2⟩, g0, g1, g2, g3, g4⟩
theorem ent_box {w : World} (x : Ent) : Below w.heap.size w (w.alloc (.cells #[.int .i64 x.k, .int .i64 x.v, .int .i64 x.t, .int .i64 x.h, .bool x.g] 42)) := (Below.refl _ _).alloc (Nat.le_refl _) _
theorem cin (n m : Int) (h0 : 0 ≤ n) (h1 : n ≤ m) (w : World) : Calls Try.prog 57 #[.int .i64 n, .int .i64 m] w fun e w' => e = .returned (.bool true) ∧ w = w' := by
  go_enter Try.func57, Try.ntmps57
  go_wp2_with fail
  go_ret
  exact ⟨rfl, rfl⟩
set_option maxRecDepth 100000 in
set_option maxHeartbeats 2000000 in
theorem cone (x : Ent) (hx : x.Ok) (w : World) : Calls Try.prog 32 #[.agg #[.int .i64 x.k, .int .i64 x.v, .int .i64 x.t, .int .i64 x.h, .bool x.g]] w fun e w' => e = .returned (.bool true) ∧ Below w.heap.size w w' := by
  have hb := ent_box (w := w) x
  obtain ⟨⟨x0, x1, x2, x3, x4⟩, -⟩ := five_at (heap_alloc_new w (.cells #[.int .i64 x.k, .int .i64 x.v, .int .i64 x.t, .int .i64 x.h, .bool x.g] 42))
  have Ck := Lib.hid fun X => cin x.k 1048576 hx.k.1 hx.k.2 X
  have Cv := Lib.hid fun X => cin x.v 1048576 hx.v.1 hx.v.2 X
  have Ct := Lib.hid fun X => cin x.t 1048576 hx.t.1 hx.t.2 X
  have Ch := Lib.hid fun X => cin x.h 7 hx.h.1 hx.h.2 X
  have hg := hx.g
  obtain ⟨k, v, t, h, g⟩ := x
  simp only at *
  cases g with
  | false =>
    clear hg hx
    go_enter Try.func32, Try.ntmps32
    go_wp2_with fail
    refine (Ck.out _).mono ?_
    rintro e w' ⟨rfl, rfl⟩
    go_wp2_with fail
    refine (Cv.out _).mono ?_
    rintro e w' ⟨rfl, rfl⟩
    go_wp2_with fail
    refine (Ct.out _).mono ?_
    rintro e w' ⟨rfl, rfl⟩
    go_wp2_with fail
    refine (Ch.out _).mono ?_
    rintro e w' ⟨rfl, rfl⟩
    go_wp2_with fail
    go_ret
    exact ⟨rfl, hb⟩
  | true =>
    obtain rfl := hg rfl
    clear hg hx
    go_enter Try.func32, Try.ntmps32
    go_wp2_with fail
    refine (Ck.out _).mono ?_
    rintro e w' ⟨rfl, rfl⟩
    go_wp2_with fail
    refine (Cv.out _).mono ?_
    rintro e w' ⟨rfl, rfl⟩
    go_wp2_with fail
    refine (Ct.out _).mono ?_
    rintro e w' ⟨rfl, rfl⟩
    go_wp2_with fail
    refine (Ch.out _).mono ?_
    rintro e w' ⟨rfl, rfl⟩
    go_wp2_with fail
    go_ret
    exact ⟨rfl, hb⟩
theorem MayL.lt {l : List Ent} (h : MayL l) (i j : Nat) (hi : i < l.length) (hj : j < l.length) (hij : i < j) : l[i].k < l[j].k := List.pairwise_iff_getElem.1 h.sorted i j hi hj hij
set_option maxRecDepth 100000 in
set_option maxHeartbeats 4000000 in
theorem cmay (v : Value) (l : List Ent) (w : World) (h : Has w 5 v l.length (ents l)) (hm : MayL l) (hlen : l.length ≤ 8) :
    Calls Try.prog 17 #[v] w fun e w' => e = .returned (.bool true) ∧ Below w.heap.size w w' := by
  have H := Lib.hid h
  have HM := Lib.hid hm
  obtain ⟨_, a, cap, rfl, hcn, hcm, _⟩ := h
  unfold maxLen at hcm
  clear hm
  go_enter Try.func17, Try.ntmps17
  go_wp2_with fail
  go_loopw [3, 7] (fun _ i wr => ∃ k : Nat, k ≤ l.length ∧ i = .int .i64 k ∧ Hid (Below w.heap.size w wr)) (fun _ i _ => l.length - (intOf i).toNat)
  case atStart => exact ⟨0, by omega, rfl, Below.refl _ _⟩
  case round =>
    obtain ⟨k, hk, rfl, HB⟩ := hrel
    by_cases hlt : k < l.length
    · obtain ⟨b, off, cap', he, -, x0, x1, x2, x3, x4⟩ := ent_get H.out k hlt
      simp only [Value.slice.injEq] at he
      obtain ⟨rfl, -, rfl⟩ := he
      replace x0 := cell_on HB.out x0
      replace x1 := cell_on HB.out x1
      replace x2 := cell_on HB.out x2
      replace x3 := cell_on HB.out x3
      replace x4 := cell_on HB.out x4
      have hbl := World.block_lt_of_cell? wr _ x0
      have hltz : (k : Int) < (l.length : Int) := by omega
      have hxok := HM.out.ok _ (List.getElem_mem hlt)
      have hb := ent_box (w := wr) l[k]
      have hprev : 0 < k → ∃ p : Int, wr.cell? ⟨b, off + (k - 1) * 5, none⟩ = some (.int .i64 p) ∧ p < l[k].k := fun hk0 => by
        obtain ⟨b', off', cap'', he, -, y0, -⟩ := ent_get H.out (k - 1) (by omega)
        simp only [Value.slice.injEq, Option.some.injEq, Addr.mk.injEq, and_true, true_and] at he
        obtain ⟨⟨rfl, rfl⟩, rfl⟩ := he
        exact ⟨_, cell_on HB.out y0, HM.out.lt (k - 1) k (by omega) hlt (by omega)⟩
      have hE := heap_alloc_new wr (.cells #[.int .i64 l[k].k, .int .i64 l[k].v, .int .i64 l[k].t, .int .i64 l[k].h, .bool l[k].g] 42)
      have CO := Lib.hid fun X => cone l[k] hxok X
      generalize l[k] = x at *
      obtain ⟨⟨z0, z1, z2, z3, z4⟩, -⟩ := five_at hE
      have Hb := Lib.hid hb
      have Hprev := Lib.hid hprev
      clear hE hb hxok hprev
      go_upto_region 4 with (fail)
      generalize hW : wr.alloc (.cells #[.int .i64 x.k, .int .i64 x.v, .int .i64 x.t, .int .i64 x.h, .bool x.g] 42) = W at *
      have CS : Hid (∀ X : Ext W, Calls Try.prog 32 #[.agg #[.int .i64 x.k, .int .i64 x.v, .int .i64 x.t, .int .i64 x.h, .bool x.g]] X.1 fun e w' => e = .returned (.bool true) ∧ Below X.1.heap.size X.1 w') := fun X => CO.out X.1
      have p0 := ext_cell z0
      have p1 := ext_cell z1
      have p2 := ext_cell z2
      have p3 := ext_cell z3
      have p4 := ext_cell z4
      clear x0 x1 x2 x3 x4 z0 z1 z2 z3 z4 hW
      by_cases hk0 : 0 < k
      · obtain ⟨p, hp, hpx⟩ := Hprev.out hk0
        have p5 := ext_cell (cell_on Hb.out hp)
        have hz0 : (0 : Int) < (k : Int) := by omega
        have hw : IntKind.i64.wrap ((k : Int) - 1) = ((k - 1 : Nat) : Int) := by rw [show (k : Int) - 1 = ((k - 1 : Nat) : Int) by omega]; exact IntWalk.i64_in _ (by omega)
        have hk1 : ((k - 1 : Nat) : Int) < (l.length : Int) := by omega
        have hd : decide (x.k ≤ p) = false := by simp; omega
        refine wp_region_grow (by kernel_rfl) (by kernel_rfl) ?_
        repeat (go_big_quiet_step ((go_at_call 32; with_reducible exact grow_of (CS.out _))))
        refine wpQuiet_nil ?_
        intro w8 hb8
        have Hb8 : Hid (Below w.heap.size w w8) := (HB.out.trans (Hb.out.mono HB.out.size)).trans (hb8.mono (Nat.le_trans HB.out.size Hb.out.size))
        clear p0 p1 p2 p3 p4 p5 hb8 CS
        go_wp2_with fail
        go_roundw
        case rel => exact ⟨k + 1, by omega, by go_num, Hb8⟩
        case measure => first | (simp [intOf]; done) | (simp [intOf]; omega)
      · obtain rfl : k = 0 := by omega
        refine wp_region_grow (by kernel_rfl) (by kernel_rfl) ?_
        repeat (go_big_quiet_step ((go_at_call 32; with_reducible exact grow_of (CS.out _))))
        refine wpQuiet_nil ?_
        intro w8 hb8
        have Hb8 : Hid (Below w.heap.size w w8) := (HB.out.trans (Hb.out.mono HB.out.size)).trans (hb8.mono (Nat.le_trans HB.out.size Hb.out.size))
        clear p0 p1 p2 p3 p4 hb8 CS
        go_wp2_with fail
        go_roundw
        case rel => exact ⟨0 + 1, by omega, by go_num, Hb8⟩
        case measure => first | (simp [intOf]; done) | (simp [intOf]; omega)
    · obtain rfl : k = l.length := by omega
      go_wp2_with fail
      go_ret
      exact ⟨ret_bool (by simp; omega), HB.out⟩
end Go.Proofs.Ytkodpijedinanaa

namespace Go.Proofs.Ytkodpijedinanaa.Sim
open Go Go.Conc
set_option linter.unusedVariables false
set_option linter.unusedSimpArgs false

/-- A list of entries, in blocks that stay. -/
structure REnt (K : Blk) (W : World) (v : Value) (l : List Ent) : Prop where
  has : Has W 5 v l.length (ents l)
  vis : ∀ a n c, v = .slice (some a) n c → (n = 0 ∧ c = 0) ∨ (K a.block ∧ ∃ cs e z, W.heap[a.block]? = some (.cells cs e z) ∧ NoRng z)
theorem REnt.mono {K K' : Blk} {W : World} {v : Value} {l : List Ent} (h : REnt K W v l) (hK : ∀ b, K b → K' b) : REnt K' W v l :=
  ⟨h.has, fun a n c e => (h.vis a n c e).imp id fun ⟨h1, h2⟩ => ⟨hK _ h1, h2⟩⟩
theorem REnt.kept {K : Blk} {W W1 : World} {v : Value} {l : List Ent} (h : REnt K W v l) (hk : ∀ b o, K b → W.heap[b]? = some o → W1.heap[b]? = some o) : REnt K W1 v l := by
  obtain ⟨⟨hl, a, cap, rfl, h1, h2, h3⟩, hv⟩ := h
  refine ⟨⟨hl, a, cap, rfl, h1, h2, fun hp => ?_⟩, fun a n c e => (hv a n c e).imp id fun ⟨h4, cs, e', z, h5, h6⟩ => ⟨h4, cs, e', z, hk _ _ h4 h5, h6⟩⟩
  obtain ⟨b, off, rfl, hc⟩ := h3 hp
  refine ⟨b, off, rfl, fun j u hu => ?_⟩
  have hu' := hc j u hu
  rcases hv _ _ _ rfl with ⟨hn, _⟩ | ⟨h4, cs, e', z, h5, h6⟩
  · have := hl.1; omega
  · have h7 := hk _ _ h4 h5
    simp only [World.cell?, h5] at hu'
    simp only [World.cell?, h7]
    exact hu'
theorem REnt.rely {Own : Blk} {Sh : Shd} {K : Blk} {W W1 : World} {v : Value} {l : List Ent} (h : REnt K W v l) (hr : Rely Own Sh W W1) (hK : ∀ b, K b → Own b ∨ Sh b) : REnt K W1 v l :=
  h.kept fun b o hb ho => hr.kept b o (hK b hb) ho
theorem sanV_ent (V : Vis) (base : Nat) (l : List Ent) {u : Value} (h : u ∈ ents l) : sanV V base u = u := by
  simp only [ents, List.mem_flatMap, Ent.cells, List.mem_cons, List.not_mem_nil, or_false] at h
  obtain ⟨e, _, rfl | rfl | rfl | rfl | rfl⟩ := h <;> rw [sanV]
theorem vrel_ent {ρ : Ren} {l : List Ent} {u u' : Value} (h : u ∈ ents l) (hv : VRel ρ u u') : u' = u := by
  simp only [ents, List.mem_flatMap, Ent.cells, List.mem_cons, List.not_mem_nil, or_false] at h
  obtain ⟨e, _, rfl | rfl | rfl | rfl | rfl⟩ := h <;> (cases hv; rfl)
/-- Into a fresh shadow. -/
theorem REnt.into {K : Blk} {W : World} {v : Value} {l : List Ent} (h : REnt K W v l) {V : Vis} (hK : ∀ b, K b → (∃ cs e z, W.heap[b]? = some (.cells cs e z) ∧ NoRng z) → V.sh b ∧ ¬ V.opq b) (τ : Tape) (d : Nat) : Has (lay (fresh V W) τ d) 5 (sanV V W.heap.size v) l.length (ents l) := by
  obtain ⟨⟨hl, a, cap, rfl, h1, h2, h3⟩, hv⟩ := h
  cases a with
  | none =>
    rw [sanV]
    exact ⟨hl, none, cap, rfl, h1, h2, fun hp => by obtain ⟨_, _, e, _⟩ := h3 hp; cases e⟩
  | some a =>
    rw [sanV]
    split
    · rename_i hs
      refine ⟨⟨hl.1, fun n c e => by simp at e⟩, _, cap, rfl, h1, h2, fun hp => ?_⟩
      obtain ⟨b, off, e, hc⟩ := h3 hp
      cases e
      refine ⟨W.heap.size + b, off, rfl, fun j u hu => ?_⟩
      have hno : ¬ V.opq b := by
        rcases hv _ _ _ rfl with ⟨hn, _⟩ | ⟨h4, h5⟩
        · have := hl.1; omega
        · exact (hK _ h4 h5).2
      have := fresh_cell (V := V) (a := ⟨b, off + j, none⟩) hno (hc j u hu)
      rw [sanV_ent V _ l (List.mem_of_getElem? hu)] at this
      exact this
    · rename_i hs
      rcases hv _ _ _ rfl with ⟨hn, rfl⟩ | ⟨h4, h5⟩
      · rw [if_pos ⟨hn, rfl⟩]
        refine ⟨⟨hl.1, fun n c e => by simp at e⟩, _, 0, by rw [hn], by omega, Nat.zero_le _, fun hp => ?_⟩
        have := hl.1; omega
      · exact absurd (.inr (.inl (hK _ h4 h5).1)) hs
/-- And back. -/
theorem ent_back {ρ : Ren} {w W : World} (hw : WRel ρ w W) {v VV : Value} (hv : VRel ρ v VV) {l : List Ent} (h : Has w 5 v l.length (ents l)) (hrow : ∀ a n c, v = .slice (some a) n c → (n = 0 ∧ c = 0) ∨ Rowed w a.block) {K : Blk} (hK : ∀ a b, ρ a b → Rowed w a → K b) : REnt K W VV l := by
  obtain ⟨hl, a, cap, rfl, h1, h2, h3⟩ := h
  obtain ⟨m, hm⟩ : ∃ m, l.length = m := ⟨_, rfl⟩
  suffices hs : Has W 5 VV m (ents l) ∧ ∀ a n c, VV = .slice (some a) n c → (n = 0 ∧ c = 0) ∨ (K a.block ∧ ∃ cs e z, W.heap[a.block]? = some (.cells cs e z) ∧ NoRng z) from ⟨by rw [hm]; exact hs.1, hs.2⟩
  rw [hm] at hl h1 hv hrow
  clear hm
  cases hv with
  | sliceNil n c =>
    exact ⟨⟨hl, none, cap, rfl, h1, h2, fun hp => by obtain ⟨_, _, e, _⟩ := h3 hp; cases e⟩, fun a n c e => by cases e⟩
  | sliceE a b =>
    refine ⟨⟨⟨hl.1, fun n c e => by cases e⟩, _, 0, rfl, h1, h2, fun hp => ?_⟩, fun a n c e => .inl (by cases e; exact ⟨by omega, rfl⟩)⟩
    have := hl.1; omega
  | @slice a b n c hab =>
    obtain ⟨hab, hoff, hsp⟩ := hab
    have hfull : ∀ x y, ρ x y → Rowed w x → ∃ cs ds e z z', w.heap[x]? = some (.cells cs e z) ∧ W.heap[y]? = some (.cells ds e z') ∧ RowRel ρ cs ds ∧ NoRng z' := fun x y hxy ⟨cs, e, z, hx⟩ => by
      obtain ⟨o, o', q1, q2, q3⟩ := hw.dom x y hxy
      rw [hx] at q1
      cases q1
      cases q3 with
      | cells e hr hf hz => exact ⟨_, _, _, _, _, hx, q2, hr, hz⟩
    refine ⟨⟨⟨hl.1, fun n c e => by cases e⟩, _, cap, rfl, h1, h2, fun hp => ?_⟩, fun a' n c e => ?_⟩
    · obtain ⟨x, off, e, hc⟩ := h3 hp
      cases e
      refine ⟨b.block, b.off, by obtain ⟨b1, b2, b3⟩ := b; simp only at hsp; rw [← hsp], fun j u hu => ?_⟩
      have hu' := hc j u hu
      obtain ⟨cs, ds, e, z, z', q1, q2, q3, q4⟩ := hfull x b.block hab (rowed_cell (a := ⟨x, off + j, none⟩) (hc j u hu))
      simp only [World.cell?, q1] at hu'
      simp only [World.cell?, q2]
      have hoff' : off = b.off := hoff
      rw [if_neg (by simp)] at hu' ⊢
      rw [← hoff']
      obtain ⟨u2, hu2, hr2⟩ := RowRel.at q3 hu'
      rw [hu2, vrel_ent (List.mem_of_getElem? hu) hr2]
    · cases e
      rcases hrow _ _ _ rfl with hz | hR
      · exact .inl hz
      · obtain ⟨cs, ds, e, z, z', q1, q2, q3, q4⟩ := hfull _ _ hab hR
        exact .inr ⟨hK _ _ hab hR, ds, e, z', q2, q4⟩
theorem rowed_of_owns {w : World} {base e sz n : Nat} {v : Value} {xs : List Value} (h : w.ownsRow base e sz v n xs) : ∀ a n c, v = .slice (some a) n c → (n = 0 ∧ c = 0) ∨ Rowed w a.block := by
  obtain ⟨hl, h⟩ := h
  rcases h with ⟨rfl, rfl⟩ | ⟨g, cap, cur, rfl, hg, hh, hn, hm, hs, ht⟩
  · intro a n c e; cases e
  · intro a n c e
    cases e
    exact .inr ⟨_, _, _, hh⟩
end Go.Proofs.Ytkodpijedinanaa.Sim

namespace Go.Proofs.Ytkodpijedinanaa.Sim
open Go Go.Conc
set_option linter.unusedVariables false
set_option linter.unusedSimpArgs false

/-- A slot holds so. -/
def Sl (A : Act) (s : Nat) (v : Value) : Prop := A.tmps[s]? = some v
theorem Sl.eval {A : Act} {s : Nat} {v : Value} (h : Sl A s v) : A.eval (.tmp s) = v := by
  show A.tmps.getD s undef = v
  rw [Array.getD_eq_getD_getElem?, show A.tmps[s]? = some v from h]; rfl
theorem put_size (A : Act) (d : Option Tmp) (v : Value) : (A.put d v).tmps.size = A.tmps.size := by
  unfold Act.put; cases d <;> simp
theorem put_defers (A : Act) (d : Option Tmp) (v : Value) : (A.put d v).defers = A.defers := by
  unfold Act.put; cases d <;> rfl
theorem Sl.ne {A : Act} {s d : Nat} {v u : Value} (h : Sl A s v) (hne : s ≠ d) : Sl (A.put (some d) u) s v := by
  show (A.tmps.setIfInBounds d u)[s]? = some v
  rw [Array.getElem?_setIfInBounds_ne (fun e => hne e.symm)]; exact h
theorem Sl.same {A : Act} {d : Nat} {u : Value} (h : d < A.tmps.size) : Sl (A.put (some d) u) d u := by
  show (A.tmps.setIfInBounds d u)[d]? = some u
  rw [Array.getElem?_setIfInBounds_self_of_lt h]
theorem Sl.none {A : Act} {s : Nat} {v u : Value} (h : Sl A s v) : Sl (A.put none u) s v := h
def depsOf (ops : Array Oper) (i : Nat) : List Nat := ((ops[i]?).map fun o => (o.after.toList.filter (Region.binds .any)).map (·.on)).getD []
theorem ready_deps {ops : Array Oper} {L : Array Bool} {i : Nat} (h : i ∈ Region.ready .any ops L) : i < ops.size ∧ L.getD i true = false ∧ ∀ d ∈ depsOf ops i, L.getD d false = true := by
  unfold Region.ready at h
  simp only [List.mem_filter, List.mem_range, Bool.and_eq_true, Bool.not_eq_true'] at h
  obtain ⟨h1, h2, h3⟩ := h
  refine ⟨h1, h2, fun d hd => ?_⟩
  unfold depsOf at hd
  cases ho : ops[i]? with
  | none => rw [ho] at hd; simp at hd
  | some o =>
    rw [ho] at hd h3
    simp only [Option.map_some, Option.getD_some, List.mem_map, List.mem_filter] at hd h3
    obtain ⟨e, ⟨he, hb⟩, rfl⟩ := hd
    have := (Array.all_eq_true_iff_forall_mem.1 h3) e (by simpa using he)
    simpa [hb] using this
theorem listed_all {ops : Array Oper} {L : Array Bool} (hL : L.size = ops.size) (hd : ∀ j, j < ops.size → ∀ d ∈ depsOf ops j, d < j) (h : Region.ready .any ops L = []) : ∀ j, j < ops.size → L.getD j false = true := by
  intro j
  induction j using Nat.strongRecOn with
  | _ j ih =>
    intro hj
    refine Classical.byContradiction fun hn => ?_
    have hlt : j < L.size := by omega
    have hf : L.getD j true = false := by
      simp only [Array.getD_eq_getD_getElem?, Array.getElem?_eq_getElem hlt, Option.getD_some] at hn ⊢
      simpa using hn
    have : j ∈ Region.ready .any ops L := by
      unfold Region.ready
      simp only [List.mem_filter, List.mem_range, Bool.and_eq_true, Bool.not_eq_true']
      refine ⟨hj, hf, ?_⟩
      rw [Array.getElem?_eq_getElem hj]
      simp only [Option.map_some, Option.getD_some]
      refine Array.all_eq_true_iff_forall_mem.2 fun e he => ?_
      cases hb : Region.binds .any e with
      | false => rfl
      | true =>
        have hmem : e.on ∈ depsOf ops j := by
          unfold depsOf
          rw [Array.getElem?_eq_getElem hj]
          simp only [Option.map_some, Option.getD_some, List.mem_map, List.mem_filter]
          exact ⟨e, ⟨by simpa using he, hb⟩, rfl⟩
        have hlt' := hd j hj _ hmem
        simp [ih _ hlt' (by omega)]
    rw [h] at this
    cases this
theorem getD_set {L : Array Bool} {i j : Nat} (hi : i < L.size) : (L.setIfInBounds i true).getD j false = true ↔ j = i ∨ L.getD j false = true := by
  by_cases e : j = i
  · subst e
    simp [Array.getD_eq_getD_getElem?, hi]
  · have : (L.setIfInBounds i true).getD j false = L.getD j false := by
      rw [Array.getD_eq_getD_getElem?, Array.getD_eq_getD_getElem?, Array.getElem?_setIfInBounds_ne (fun h => e h.symm)]
    rw [this]; simp [e]
theorem count_set : ∀ (l : List Bool) (i : Nat), l[i]? = some false → (l.set i true).count false + 1 = l.count false
  | [], i, h => by simp at h
  | a :: l, 0, h => by
    simp only [List.getElem?_cons_zero, Option.some.injEq] at h
    subst h
    simp
  | a :: l, i + 1, h => by
    simp only [List.getElem?_cons_succ] at h
    have := count_set l i h
    simp only [List.set_cons_succ, List.count_cons]
    omega
section
variable {P : Program} {main : Bool} {Sh : Shd} {Ju : Blk → Goroutine → World → Prop} {RB : List Frame} {B : Frame} {k : List Item}
theorem lin_any {ops : Array Oper} {I : Array Bool → Blk → Act → World → Prop}
    (hstep : ∀ L i l, i < ops.size → L.getD i true = false → (∀ d ∈ depsOf ops i, L.getD d false = true) → (∀ O A W, I (L.setIfInBounds i true) O A W → Ju O (G (B.at A (.inRegion ops l :: k)) RB) W) → ∀ O A W, I L O A W → Ju O (G (B.at A (.inRegion ops (i :: l) :: k)) RB) W)
    (hend : ∀ L, Region.ready .any ops L = [] → ∀ O A W, I L O A W → Ju O (G (B.at A (.inRegion ops [] :: k)) RB) W) (hsz : ∀ L O A W, I L O A W → L.size = ops.size) :
    ∀ (fuel t : Nat) (L : Array Bool) O A W, I L O A W → L.toList.count false ≤ fuel → Ju O (G (B.at A (.inRegion ops (Region.linearise.go .any ops fuel t L []) :: k)) RB) W := by
  intro fuel
  induction fuel with
  | zero =>
    intro t L O A W hI hf
    have hall : Region.ready .any ops L = [] := by
      have hs := hsz L O A W hI
      have h1 : L.toList.count false = 0 := by omega
      unfold Region.ready
      rw [List.filter_eq_nil_iff]
      intro j hj
      simp only [List.mem_range] at hj
      have hlt : j < L.size := by omega
      have : L[j] = true := by
        have h2 := List.count_eq_zero.1 h1
        cases hb : L[j] with
        | true => rfl
        | false => exact absurd (by rw [← hb]; simp) h2
      simp [Array.getD_eq_getD_getElem?, hlt, this]
    exact hend L hall O A W hI
  | succ fuel ih =>
    intro t L O A W hI hf
    simp only [Region.linearise.go]
    change Ju O (G (B.at A (.inRegion ops (match (Region.ready .any ops L)[t % (Region.ready .any ops L).length]? with
      | some i => Region.linearise.go .any ops fuel (t / (Region.ready .any ops L).length) (L.setIfInBounds i true) [i]
      | none => [].reverse) :: k)) RB) W
    cases hi : (Region.ready .any ops L)[t % (Region.ready .any ops L).length]? with
    | none =>
      have hnil : Region.ready .any ops L = [] := by
        cases hr : Region.ready .any ops L with
        | nil => rfl
        | cons x xs =>
          rw [hr] at hi
          have hlt : t % (x :: xs).length < (x :: xs).length := Nat.mod_lt _ (by simp)
          simp at hi
          simp at hlt
          omega
      exact hend L hnil O A W hI
    | some i =>
      have hmem : i ∈ Region.ready .any ops L := List.mem_of_getElem? hi
      obtain ⟨h1, h2, h3⟩ := ready_deps hmem
      simp only []
      rw [linearise_go_acc, List.reverse_singleton, List.singleton_append]
      have hs := hsz L O A W hI
      refine hstep L i _ h1 h2 h3 (fun O A W hI' => ih _ _ O A W hI' ?_) O A W hI
      have hlt : i < L.size := by omega
      have hf : L.toList[i]? = some false := by
        rw [Array.getElem?_toList, Array.getElem?_eq_getElem hlt]
        rw [Array.getD_eq_getD_getElem?, Array.getElem?_eq_getElem hlt] at h2
        simpa using h2
      have := count_set _ _ hf
      rw [Array.toList_setIfInBounds]
      omega
/-- A region that draws its order. -/
theorem rt_draw (hJ : Jud P main Sh Ju) (hm : P.follows .mixedOrders = true) {Own : Blk} {A : Act} {Z : World → Prop} (hz : Stable Own Sh Z) {id : Nat} {ops : Array Oper} {I : Array Bool → Blk → Act → World → Prop}
    (hstep : ∀ L i l, i < ops.size → L.getD i true = false → (∀ d ∈ depsOf ops i, L.getD d false = true) → (∀ O A W, I (L.setIfInBounds i true) O A W → Ju O (G (B.at A (.inRegion ops l :: k)) RB) W) → ∀ O A W, I L O A W → Ju O (G (B.at A (.inRegion ops (i :: l) :: k)) RB) W)
    (hend : ∀ L, Region.ready .any ops L = [] → ∀ O A W, I L O A W → Ju O (G (B.at A (.inRegion ops [] :: k)) RB) W) (hsz : ∀ L O A W, I L O A W → L.size = ops.size)
    (h0 : ∀ W d, Z W → I (Array.replicate ops.size false) Own A { W with drawn := d }) : Rt Ju RB B (.code (.region id ops true) :: k) Own A Z := fun W z => by
  refine hJ _ _ _ (.step rfl (fun W1 hr => ⟨_, _, _, stepG_region_draw, ?_, rfl⟩) fun W1 hr g' W' es he => ?_)
  · exact ⟨Nat.le_refl _, fun _ _ _ _ => rfl, fun _ _ _ _ _ => rfl, .refl _, rfl, rfl, rfl, fun e he => by simp at he⟩
  · rw [stepG_region_draw] at he
    simp only [GStep.go.injEq] at he
    obtain ⟨rfl, rfl, rfl⟩ := he
    have e1 : Grow Own W1 { W1 with drawn := W1.drawn + 1 } = Own := grow_self Own W1
    rw [e1]
    refine .stop ?_
    simp only [Region.schedule, hm, Bool.true_or, if_true]
    refine lin_any hstep hend hsz _ _ _ _ _ _ (h0 W1 _ (hz W W1 hr z)) ?_
    simp
end
end Go.Proofs.Ytkodpijedinanaa.Sim

namespace Go.Proofs.Ytkodpijedinanaa
open Go.ChangeShapes Go.WideShapes Go.ChangeAt Go.RowKit
set_option linter.unusedVariables false
set_option linter.unusedSimpArgs false

def foundK (l : List Ent) (k : Int) : Bool := match l[posK l k]? with | some x => x.k == k | none => false
set_option maxRecDepth 100000 in
set_option maxHeartbeats 2000000 in
theorem cKeyDiff (x : Ent) (key : Int) (h0 : 0 ≤ x.k ∧ x.k ≤ 1048576) (h1 : 0 ≤ key ∧ key ≤ 1048576) (X : World) :
    Calls Try.prog 29 #[.agg #[.int .i64 x.k, .int .i64 x.v, .int .i64 x.t, .int .i64 x.h, .bool x.g], .int .i64 key] X fun e w' => e = .returned (.int .i64 (x.k - key)) ∧ Below X.heap.size X w' := by
  have hb := ent_box (w := X) x
  obtain ⟨⟨x0, x1, x2, x3, x4⟩, -⟩ := five_at (heap_alloc_new X (.cells #[.int .i64 x.k, .int .i64 x.v, .int .i64 x.t, .int .i64 x.h, .bool x.g] 42))
  have hw : IntKind.i64.wrap (x.k - key) = x.k - key := IntWalk.i64_in _ (by omega)
  go_enter Try.func29, Try.ntmps29
  go_wp2_with fail
  go_ret
  exact ⟨rfl, hb⟩
theorem diff_eg : ∀ args w, (callFunc 29 args).run Try.prog w = .ok (.enter 29 args) w := enters_of Try.func29 (by kernel_rfl) rfl
set_option maxRecDepth 100000 in
set_option maxHeartbeats 4000000 in
theorem cSearch {w : World} {v : Value} {l : List Ent} (h : Has w 5 v l.length (ents l)) (hm : MayL l) (hlen : l.length ≤ 1000) (key : Int) (hk : 0 ≤ key ∧ key ≤ 1048576) :
    Calls Try.prog 28 #[v, .int .i64 key, .func (.func 29) #[] #[]] w fun e w' => e = .returned (.tuple #[.int .i64 (posK l key), .bool (foundK l key)]) ∧ Below w.heap.size w w' := by
  have H := Lib.hid h
  have HM := Lib.hid hm
  have HP := Lib.hid (fun i hi h1 h2 => posK_eq l key i hi h1 h2)
  obtain ⟨_, a, cap, rfl, hcn, hcm, _⟩ := h
  unfold maxLen at hcm
  clear hm
  go_enter Try.func28, Try.ntmps28
  go_wp2_with fail
  go_loopw [9, 10, 11] (fun s9 s10 _ wr => ∃ i j : Nat, s9 = .int .i64 i ∧ s10 = .int .i64 j ∧ i ≤ j ∧ j ≤ l.length ∧ Hid (∀ x (hx : x < l.length), x < i → l[x].k < key) ∧ Hid (∀ x (hx : x < l.length), j ≤ x → key ≤ l[x].k) ∧ Hid (Below w.heap.size w wr)) (fun s9 s10 _ _ => (intOf s10).toNat - (intOf s9).toNat)
  case atStart => exact ⟨0, l.length, rfl, rfl, by omega, by omega, fun x _ h => absurd h (by omega), fun x hx h => absurd h (by omega), Below.refl _ _⟩
  case round =>
    obtain ⟨i, j, rfl, rfl, hij, hjl, HI, HJ, HB⟩ := hrel
    by_cases hlt : i < j
    · have hltz : (i : Int) < (j : Int) := by omega
      have hw0 : IntKind.i64.wrap ((i : Int) + (j : Int)) = (i : Int) + (j : Int) := IntWalk.i64_in _ (by omega)
      obtain ⟨b, off, cap', he, -, x0, x1, x2, x3, x4⟩ := ent_get H.out ((i + j) / 2) (by omega)
      simp only [Value.slice.injEq] at he
      obtain ⟨rfl, -, rfl⟩ := he
      replace x0 := cell_on HB.out x0
      replace x1 := cell_on HB.out x1
      replace x2 := cell_on HB.out x2
      replace x3 := cell_on HB.out x3
      replace x4 := cell_on HB.out x4
      have hxok := HM.out.ok _ (List.getElem_mem (show (i + j) / 2 < l.length by omega))
      have CD := Lib.hid fun X => cKeyDiff l[(i + j) / 2] key hxok.k hk X
      obtain ⟨y, hy⟩ : ∃ y, Hid (y = l[(i + j) / 2]) := ⟨l[(i + j) / 2], (rfl : l[(i + j) / 2] = l[(i + j) / 2])⟩
      rw [← hy.out] at x0 x1 x2 x3 x4 CD
      obtain ⟨m, hm⟩ : ∃ m, m = (i + j) / 2 := ⟨_, rfl⟩
      have hm1 : i ≤ m := by omega
      have hm2 : m < j := by omega
      have hmlz : (m : Int) < (l.length : Int) := by omega
      clear hxok
      go_upto_region 5 with (fail)
      rw [show ((i : Int) + (j : Int)) / 2 = ((m : Nat) : Int) by omega]
      have hyk : Hid (∀ hm' : m < l.length, l[m].k = y.k) := fun hm' => by rw [hy.out]; subst hm; rfl
      rw [← hm] at x0 x1 x2 x3 x4
      clear hm
      have hw1 : IntKind.i64.wrap ((m : Int) + 1) = (m : Int) + 1 := IntWalk.i64_in _ (by omega)
      by_cases hc : y.k < key
      · have hd : decide (y.k - key < 0) = true := by simp; omega
        have hfin : Hid (∀ x (hx : x < l.length), x < m + 1 → l[x].k < key) := fun x hx hxm => by
          by_cases e : x = m
          · subst e; rw [hyk.out hx]; exact hc
          · have := HM.out.lt x m hx (by omega) (by omega); rw [hyk.out (by omega)] at this; omega
        clear hc
        go_wp2_with fail
        refine (CD.out _).mono ?_
        rintro e w5 ⟨rfl, hb5⟩
        have HB5 : Hid (Below w.heap.size w w5) := HB.out.trans (hb5.mono HB.out.size)
        clear hb5 x0 x1 x2 x3 x4 CD
        go_wp2_with fail
        go_roundw
        case rel => exact ⟨m + 1, j, by go_num, rfl, by omega, by omega, hfin, HJ, HB5⟩
        case measure => first | (simp [intOf]; done) | (simp [intOf]; omega)
      · have hd : decide (y.k - key < 0) = false := by simp; omega
        have hfin : Hid (∀ x (hx : x < l.length), m ≤ x → key ≤ l[x].k) := fun x hx hxm => by
          by_cases e : x = m
          · subst e; rw [hyk.out hx]; omega
          · have := HM.out.lt m x (by omega) hx (by omega); rw [hyk.out (by omega)] at this; omega
        clear hc
        go_wp2_with fail
        refine (CD.out _).mono ?_
        rintro e w5 ⟨rfl, hb5⟩
        have HB5 : Hid (Below w.heap.size w w5) := HB.out.trans (hb5.mono HB.out.size)
        clear hb5 x0 x1 x2 x3 x4 CD
        go_wp2_with fail
        go_roundw
        case rel => exact ⟨i, m, rfl, by go_num, by omega, by omega, HI, hfin, HB5⟩
        case measure => first | (simp [intOf]; done) | (simp [intOf]; omega)
    · obtain rfl : i = j := by omega
      have hpos := Lib.hid (HP.out i hjl (fun x hx hxi => HI.out x hx hxi) (fun hx => by have := HJ.out i hx (Nat.le_refl _); omega))
      clear HP HI HJ
      by_cases hin : i < l.length
      · have hinz : (i : Int) < (l.length : Int) := by omega
        obtain ⟨b, off, cap', he, -, x0, x1, x2, x3, x4⟩ := ent_get H.out i hin
        simp only [Value.slice.injEq] at he
        obtain ⟨rfl, -, rfl⟩ := he
        replace x0 := cell_on HB.out x0
        replace x1 := cell_on HB.out x1
        replace x2 := cell_on HB.out x2
        replace x3 := cell_on HB.out x3
        replace x4 := cell_on HB.out x4
        have hxok := HM.out.ok _ (List.getElem_mem hin)
        have CD := Lib.hid fun X => cKeyDiff l[i] key hxok.k hk X
        have hfound : Hid (foundK l key = (l[i].k == key)) := by
          show _ = _
          unfold foundK; rw [hpos.out, List.getElem?_eq_getElem hin]
        generalize l[i] = y at *
        clear hxok
        go_wp2_with fail
        refine (CD.out _).mono ?_
        rintro e w5 ⟨rfl, hb5⟩
        have HB5 : Hid (Below w.heap.size w w5) := HB.out.trans (hb5.mono HB.out.size)
        have hfe : Hid ((y.k - key == 0) = (y.k == key)) := by
          show _ = _
          rw [Bool.eq_iff_iff, beq_iff_eq, beq_iff_eq]; omega
        clear hb5 x0 x1 x2 x3 x4 CD
        go_wp2_with fail
        go_ret2
        rw [hpos.out, hfound.out, ← hfe.out]
        exact ⟨rfl, HB5.out⟩
      · obtain rfl : i = l.length := by omega
        have hfound : Hid (foundK l key = false) := by
          show _ = _
          unfold foundK; rw [hpos.out, List.getElem?_eq_none (Nat.le_refl _)]
        go_wp2_with fail
        go_ret2
        rw [hpos.out, hfound.out]
        exact ⟨rfl, HB.out⟩
end Go.Proofs.Ytkodpijedinanaa
