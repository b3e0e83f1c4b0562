/- Tallies of three branches: copies, most, Merge. -/
import Derived.Test.YtkeefpeffeoakaaTallyD
import Derived.Test.YtkeefpeffeoakaaApp
import Derived.Deep.RegionLaw
namespace Go.Proofs.Ytkeefpeffeoakaa
open Go.ChangeShapes Go.WideShapes Go.ChangeAt Go.RowKit
set_option linter.unusedVariables false

def rowVs (g c : Nat → Nat) (k : Nat) : List Value := (List.range k).map fun i => .slice (some ⟨g i, 0, none⟩) 3 (c i)
theorem rowVs_snoc (g c : Nat → Nat) (k g' c' : Nat) : rowVs g c k ++ [.slice (some ⟨g', 0, none⟩) 3 c'] = rowVs (fun i => if i = k then g' else g i) (fun i => if i = k then c' else c i) (k + 1) := by
  unfold rowVs
  rw [List.range_succ, List.map_append]
  congr 1
  · apply List.map_congr_left
    intro i hi
    have : i ≠ k := by simp at hi; omega
    simp [this]
  · simp
/-- A copy behind k rows. -/
structure CopyAt (w wr : World) (R X k : Nat) (v : Value) (g c : Nat → Nat) (gu cu : Nat) (t : Tl) : Prop where
  x0 : wr.cell? ⟨X, 0, none⟩ = some v
  x1 : wr.cell? ⟨X, 1, none⟩ = some (.slice (some ⟨gu, 0, none⟩) 3 cu)
  xb : ∃ cs, wr.heap[X]? = some (.cells cs 48 (0, 0))
  hm : wr.ownsRow w.heap.size 22 1 v k (rowVs g c k)
  hr : ∀ i, i < k → wr.ownsRow w.heap.size 3 1 (.slice (some ⟨g i, 0, none⟩) 3 (c i)) 3 (ints (row3 (t.m i)))
  hu : wr.ownsRow w.heap.size 3 1 (.slice (some ⟨gu, 0, none⟩) 3 cu) 3 (ints (row3 t.u))
  d : ∀ i j, i < k → j < k → i ≠ j → g i ≠ g j
  du : ∀ i, i < k → g i ≠ gu
  hb : Below w.heap.size w wr
  lo : w.heap.size ≤ R ∧ R < X
  rb : wr.heap[R]? = some (.cells #[.slice none 0 0, .slice none 0 0] 48 (0, 0))
theorem CopyAt.rc {w wr : World} {R X k : Nat} {v : Value} {g c : Nat → Nat} {gu cu : Nat} {t : Tl} (h : CopyAt w wr R X k v g c gu cu t) :
    (wr.cell? ⟨R, 0, none⟩ = some (.slice none 0 0) ∧ wr.cell? ⟨R, 1, none⟩ = some (.slice none 0 0)) ∧ wr.frozen? ⟨R, 0, none⟩ = false ∧ wr.frozen? ⟨R, 1, none⟩ = false :=
  ⟨⟨by rw [cell_of_row wr _ _ _ _ _ h.rb]; rfl, by rw [cell_of_row wr _ _ _ _ _ h.rb]; rfl⟩, by simp [World.frozen?, h.rb], by simp [World.frozen?, h.rb]⟩
theorem CopyAt.xf {w wr : World} {R X k : Nat} {v : Value} {g c : Nat → Nat} {gu cu : Nat} {t : Tl} (h : CopyAt w wr R X k v g c gu cu t) (j : Nat) : wr.frozen? ⟨X, j, none⟩ = false := by
  obtain ⟨cs, hcs⟩ := h.xb
  simp [World.frozen?, hcs]
theorem CopyAt.on {w wr w' : World} {R X k : Nat} {v : Value} {g c : Nat → Nat} {gu cu : Nat} {t : Tl} (h : CopyAt w wr R X k v g c gu cu t) (hb : Below wr.heap.size wr w') : CopyAt w w' R X k v g c gu cu t := by
  obtain ⟨cs, hcs⟩ := h.xb
  exact ⟨cell_on hb h.x0, cell_on hb h.x1, ⟨cs, by rw [hb.block X (Array.getElem?_eq_some_iff.1 hcs).1]; exact hcs⟩, owns_below h.hm hb, fun i hi => owns_below (h.hr i hi) hb, owns_below h.hu hb, h.d, h.du, h.hb.trans (hb.mono h.hb.size), h.lo, by rw [hb.block _ (Array.getElem?_eq_some_iff.1 h.rb).1]; exact h.rb⟩
theorem chg_cell {T : List TypeId} {w w' : World} (hc : Chg T w w') {b o : Nat} {u : Value} {cs : Array Value} {e : TypeId} {r : Nat × Nat} (hb : w.heap[b]? = some (.cells cs e r)) (he : e ∉ T) (h : w.cell? ⟨b, o, none⟩ = some u) : w'.cell? ⟨b, o, none⟩ = some u := by
  rw [World.cell?_of_block (w := w) (a := ⟨b, o, none⟩) (by
    rw [hb]
    exact hc.block _ _ hb fun cs' e' r' heq => by
      simp only [Obj.cells.injEq] at heq
      obtain ⟨-, rfl, -⟩ := heq
      exact he)]
  exact h
theorem copy_step {w wr w2 w3 : World} {R X k : Nat} {v v' : Value} {g c : Nat → Nat} {gu cu g' c' : Nat} {t : Tl} (h : CopyAt w wr R X k v g c gu cu t)
    (hc2 : w2.ownsRow wr.heap.size 3 1 (.slice (some ⟨g', 0, none⟩) 3 c') 3 (ints (row3 (t.m k)))) (hb2 : Below wr.heap.size wr w2)
    (hown : w3.ownsRow w.heap.size 22 1 v' (k + 1) (rowVs g c k ++ [.slice (some ⟨g', 0, none⟩) 3 c'])) (hg : w2.grownBy w3 v.ownBlock) (hb3 : Below w.heap.size w2 w3) :
    CopyAt w (w3.setCell ⟨X, 0, none⟩ v') R X (k + 1) v' (fun i => if i = k then g' else g i) (fun i => if i = k then c' else c i) gu cu t := by
  have h2 := h.on hb2
  have hch := Chg.grown (T := [22]) h2.hm hg (by simp)
  have hglo : wr.heap.size ≤ g' := by
    obtain ⟨g'', cp', he, hgg, _⟩ := owns_some hc2 (by omega)
    simp only [Value.slice.injEq, Option.some.injEq, Addr.mk.injEq, and_true, true_and] at he
    obtain ⟨rfl, rfl⟩ := he
    exact hgg
  obtain ⟨cs, hcs⟩ := h2.xb
  have hcs3 : w3.heap[X]? = some (.cells cs 48 (0, 0)) := hch.block _ _ hcs fun cs' e' r' heq => by
    simp only [Obj.cells.injEq] at heq
    obtain ⟨-, rfl, -⟩ := heq
    decide
  have hch2 := Chg.setCell (T := [48]) (p := ⟨X, 0, none⟩) hcs3 (by simp) v'
  have x0 := chg_cell hch hcs (by decide) h2.x0
  have x1 := chg_cell hch hcs (by decide) h2.x1
  refine ⟨World.cell?_setCell_same _ _ _ x0, by rw [World.cell?_setCell_other _ _ _ _ (by simp)]; exact x1, ⟨_, heap_setCell_same _ _ _ _ _ _ hcs3⟩, ?_, fun i hi => ?_, owns_chg (owns_chg h2.hu hch (by decide)) hch2 (by decide), fun i j hi hj hij => ?_, fun i hi => ?_, ?_, h.lo, ?_⟩
  · rw [← rowVs_snoc]
    exact owns_chg hown hch2 (by decide)
  · by_cases e : i = k
    · subst e
      simp only [if_true]
      exact owns_chg (owns_chg (owns_base hc2 h.hb.size) hch (by decide)) hch2 (by decide)
    · simp only [if_neg e]
      exact owns_chg (owns_chg (h2.hr i (by omega)) hch (by decide)) hch2 (by decide)
  · by_cases e1 : i = k <;> by_cases e2 : j = k
    · omega
    · have := owns_lt' (h.hr j (by omega))
      simp only [if_pos e1, if_neg e2]; omega
    · have := owns_lt' (h.hr i (by omega))
      simp only [if_neg e1, if_pos e2]; omega
    · simp only [if_neg e1, if_neg e2]; exact h.d i j (by omega) (by omega) hij
  · by_cases e1 : i = k
    · have := owns_lt' h.hu
      simp only [if_pos e1]; omega
    · simp only [if_neg e1]; exact h.du i (by omega)
  · exact ((h2.hb.trans (hb3.mono (Nat.le_refl _)))).setCell (show w.heap.size ≤ X by have := h.lo; omega) _
  · rw [Below.heap_setCell _ _ _ _ (show R ≠ X by have := h.lo; omega)]
    exact hch.block _ _ h2.rb fun cs' e' r' heq => by
      simp only [Obj.cells.injEq] at heq
      obtain ⟨-, rfl, -⟩ := heq
      decide
theorem copy_x {w wr w2 w3 : World} {R X k : Nat} {v : Value} {g c : Nat → Nat} {gu cu : Nat} {t : Tl} (h : CopyAt w wr R X k v g c gu cu t) (hb2 : Below wr.heap.size wr w2) (hg : w2.grownBy w3 v.ownBlock) : w3.cell? ⟨X, 0, none⟩ = some v ∧ w3.frozen? ⟨X, 0, none⟩ = false := by
  have h2 := h.on hb2
  have hch := Chg.grown (T := [22]) h2.hm hg (by simp)
  obtain ⟨cs, hcs⟩ := h2.xb
  have hcs3 : w3.heap[X]? = some (.cells cs 48 (0, 0)) := hch.block _ _ hcs fun cs' e' r' heq => by
    simp only [Obj.cells.injEq] at heq
    obtain ⟨-, rfl, -⟩ := heq
    decide
  exact ⟨chg_cell hch hcs (by decide) h2.x0, by simp [World.frozen?, hcs3]⟩
theorem copy_done {w wr : World} {R X gm cm gu cu : Nat} {g c : Nat → Nat} {t : Tl} (h : CopyAt w wr R X 3 (.slice (some ⟨gm, 0, none⟩) 3 cm) g c gu cu t) (a b : Value) :
    TlOwn ((wr.setCell ⟨R, 0, none⟩ a).setCell ⟨R, 1, none⟩ b) w.heap.size gm cm gu cu g c t ∧ Below w.heap.size w ((wr.setCell ⟨R, 0, none⟩ a).setCell ⟨R, 1, none⟩ b) := by
  have h1 := Chg.setCell (T := [48]) (p := ⟨R, 0, none⟩) h.rb (by simp) a
  have hr1 := heap_setCell_same wr R 0 _ _ a h.rb
  have h2 := Chg.setCell (T := [48]) (p := ⟨R, 1, none⟩) hr1 (by simp) b
  have hc := h1.trans h2
  exact ⟨⟨owns_chg h.hm hc (by decide), fun i hi => owns_chg (h.hr i hi) hc (by decide), owns_chg h.hu hc (by decide), h.d, h.du⟩, (h.hb.setCell h.lo.1 _).setCell h.lo.1 _⟩
set_option maxRecDepth 100000 in
set_option maxHeartbeats 4000000 in
theorem ctcopied (bm om cm bu ou cu : Nat) (t : Tl) (w : World) (h : TlAt w bm om cm bu ou cu t) :
    Calls Try.prog 37 #[tlV bm om cm bu ou cu] w fun e w' => ∃ gm cm' gu cu' g c, e = .returned (tlV gm 0 cm' gu 0 cu') ∧ TlOwn w' w.heap.size gm cm' gu cu' g c t ∧ Below w.heap.size w w' := by
  have H := Lib.hid h
  obtain ⟨c1, c2⟩ := h.cm
  obtain ⟨c3, c4⟩ := h.cu
  unfold maxLen at c2 c4
  clear h
  go_enter Try.func37, Try.ntmps37
  go_wp2_with fail
  have hb0 : Below w.heap.size w ((w.alloc (.cells #[.slice (some ⟨bm, om, none⟩) 3 cm, .slice (some ⟨bu, ou, none⟩) 3 cu] 48)).alloc (.cells #[.slice none 0 0, .slice none 0 0] 48)) := (by repeat (first | exact Below.refl _ _ | refine Below.drew ?_ | refine Below.alloc ?_ (by first | (simp; done) | (simp; omega)) _ | refine Below.setCell ?_ (by first | (simp; done) | (simp; omega)) _))
  refine (cclone_int _ 3 (ints (row3 t.u)) _ ((H.out.u.on hb0).has H.out.cu.1 H.out.cu.2) (ints_one _) (by omega)).mono ?_
  rintro e w1 ⟨v', rfl, hown, hb1⟩
  obtain ⟨gu, cu', rfl, hg0, hg1, -, -⟩ := owns_some hown (by omega)
  have z0 := cell_on hb1 (show ((w.alloc (.cells #[.slice (some ⟨bm, om, none⟩) 3 cm, .slice (some ⟨bu, ou, none⟩) 3 cu] 48)).alloc (.cells #[.slice none 0 0, .slice none 0 0] 48)).cell? ⟨w.heap.size, 0, none⟩ = some (.slice (some ⟨bm, om, none⟩) 3 cm) by rw [World.cell?_alloc_past _ _ _ (by simp), World.cell?_alloc_at _ _ _ _ rfl]; rfl)
  have hsz : w.heap.size + 2 ≤ w1.heap.size := by have := hb1.size; simpa using this
  have hz1 : w.heap.size < w1.heap.size := by omega
  have hb1' : Below w.heap.size w w1 := hb0.trans (hb1.mono hb0.size)
  have H0 : Hid (CopyAt w (w1.alloc (.cells #[.slice none 0 0, .slice (some ⟨gu, 0, none⟩) 3 cu'] 48)) (w.heap.size + 1) w1.heap.size 0 (.slice none 0 0) (fun _ => 0) (fun _ => 0) gu cu' t) := by
    have ha : Below w1.heap.size w1 (w1.alloc (.cells #[.slice none 0 0, .slice (some ⟨gu, 0, none⟩) 3 cu'] 48)) := (Below.refl _ _).alloc (Nat.le_refl _) _
    exact ⟨by rw [World.cell?_alloc_at _ _ _ _ rfl]; rfl, by rw [World.cell?_alloc_at _ _ _ _ rfl]; rfl, ⟨_, heap_alloc_new _ _⟩, World.ownsRow_nil _ _ _ _, fun i hi => by omega, owns_below (owns_base hown hb0.size) ha, fun i j hi => by omega, fun i hi => by omega, hb1'.trans (ha.mono hb1'.size), by omega, by
      rw [ha.block _ (by omega), hb1.block _ (by simp)]
      have := heap_alloc_new (w.alloc (.cells #[.slice (some ⟨bm, om, none⟩) 3 cm, .slice (some ⟨bu, ou, none⟩) 3 cu] 48)) (.cells #[.slice none 0 0, .slice none 0 0] 48)
      simpa using this⟩
  clear hown hg0 hg1 hb0 hb1 hb1'
  go_wp2_with fail
  generalize w1.heap.size = X at *
  go_loopw [5, 13] (fun _ i wr => ∃ (k : Nat) (v : Value) (g c : Nat → Nat), k ≤ 3 ∧ i = .int .i64 k ∧ CopyAt w wr (w.heap.size + 1) X k v g c gu cu' t) (fun _ i _ => 3 - (intOf i).toNat)
  case atStart => exact ⟨0, _, _, _, by omega, rfl, H0.out⟩
  case round =>
    clear H0
    obtain ⟨k, v, g, c, hk, rfl, hC⟩ := hrel
    have HC := Lib.hid hC
    clear hC
    by_cases hlt : k < 3
    · obtain ⟨b', o', c', q1, q2, q3⟩ := (H.out.m.on HC.out.hb).c k hlt
      have x0 := HC.out.x0
      have CC : Hid (∀ X, Below wr.heap.size wr X → Calls Try.prog 43 #[.slice (some ⟨b', o', none⟩) 3 c'] X fun e w' => ∃ v', e = .returned v' ∧ w'.ownsRow X.heap.size 3 1 v' 3 (ints (row3 (t.m k))) ∧ Below X.heap.size X w') := fun X hX => cclone_int _ 3 (ints (row3 (t.m k))) X ((q3.on hX).has q2.1 q2.2) (ints_one _) (by omega)
      clear q2 q3
      go_upto_region 5 with (fail)
      go_region_law (first
        | (go_simp; go_at_call 43; refine (CC.out _ (by repeat (first | exact Below.refl _ _ | refine Below.drew ?_ | refine Below.alloc ?_ (by first | (simp; done) | (simp; omega)) _ | refine Below.setCell ?_ (by first | (simp; done) | (simp; omega)) _))).mono ?_; rintro e w5 ⟨v5, rfl, hown5, hb5'⟩; have hb5 : Below wr.heap.size wr w5 := (Below.drew (Below.refl _ _)).trans hb5'; obtain ⟨g5, c5, rfl, -⟩ := owns_some hown5 (by omega); have x05 := cell_on hb5 x0; have hX5 := block_on hb5 x0; clear hb5')
        | (refine step_appN (w0 := w5) (wanted_of_none (by rfl)) 46 22 1 24 _ elInts Try.underlying46 w.heap.size v k (rowVs g c k) (owns_below HC.out.hm hb5) (by repeat (first | exact Below.refl _ _ | refine Below.drew ?_ | refine Below.alloc ?_ (by first | (simp; done) | (simp; omega)) _ | refine Below.setCell ?_ (by first | (simp; done) | (simp; omega)) _)) _ 1 [.slice (some ⟨g5, 0, none⟩) 3 c5] (has_block (wp := w5) (by first | exact heap_alloc_new _ _ | (simp only [heap_drew, heap_drewN]; exact heap_alloc_new _ _)) rfl (by rfl) (by decide)) _ _ (by rfl) (by rfl) (by rfl) (by simp [Value.oneCell']) (by omega) (by unfold maxLen; omega) (Nat.le_trans HC.out.hb.size hb5.size) ?_; intro v6 w6 hown6 hgrow6 hb6; obtain ⟨a6, c6, rfl⟩ := owns_slice hown6; obtain ⟨x06, f06⟩ := copy_x HC.out hb5 hgrow6))
      all_goals
        go_wp2_with fail
        go_roundw
        case rel => exact ⟨k + 1, _, _, _, by omega, by go_num, copy_step HC.out hown5 hb5 hown6 hgrow6 hb6⟩
        case measure => simp [intOf]; omega
    · obtain rfl : k = 3 := by omega
      have x0 := HC.out.x0
      have x1 := HC.out.x1
      obtain ⟨gm, c6, rfl, -⟩ := owns_some HC.out.hm (by omega)
      obtain ⟨⟨r0, r1⟩, f0, f1⟩ := HC.out.rc
      go_wp2_with fail
      refine bodyPost_ret (v := tlV gm 0 c6 gu 0 cu') (by simp [results, Try.results37, go_sem, r0, r1]) rfl ?_
      obtain ⟨d1, d2⟩ := copy_done HC.out (.slice (some ⟨gm, 0, none⟩) 3 c6) (.slice (some ⟨gu, 0, none⟩) 3 cu')
      exact ⟨_, _, _, _, g, c, rfl, d1, d2⟩
end Go.Proofs.Ytkeefpeffeoakaa
