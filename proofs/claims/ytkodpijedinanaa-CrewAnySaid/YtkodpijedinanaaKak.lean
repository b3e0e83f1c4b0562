/- Texts that the claim imports, laid together: Merge MergeV MrJ. No statement of their own. -/
import Derived.Test.YtkodpijedinanaaKah
import Derived.Test.YtkodpijedinanaaKaj
namespace Go.Proofs.Ytkodpijedinanaa
open Go.ChangeShapes Go.WideShapes Go.ChangeAt Go.RowKit
set_option linter.unusedVariables false
set_option linter.unusedSimpArgs false

theorem mergeL_take_len (a b : List Ent) (k : Nat) : (mergeL a (b.take k)).length ≤ (mergeL a b).length := by
  have h : mergeL a b = mergeL (mergeL a (b.take k)) (b.drop k) := by
    unfold mergeL; rw [← List.foldl_append, List.take_append_drop]
  rw [h]; exact (mergeL_len _ _).1
theorem mergeL_take_succ (a b : List Ent) (k : Nat) (hk : k < b.length) : mergeL a (b.take (k + 1)) = mergeOne (mergeL a (b.take k)) b[k] := by
  rw [take_snoc b k hk, mergeL_snoc]
theorem found_yes {l : List Ent} {k : Int} (h : foundK l k = true) : ∃ hx : posK l k < l.length, l[posK l k].k = k := by
  unfold foundK at h
  cases hp : l[posK l k]? with
  | none => rw [hp] at h; cases h
  | some x =>
    rw [hp] at h
    obtain ⟨hx, rfl⟩ := List.getElem?_eq_some_iff.1 hp
    exact ⟨hx, by simpa using h⟩
theorem found_no {l : List Ent} {k : Int} (h : foundK l k = false) (hx : posK l k < l.length) : l[posK l k].k ≠ k := by
  unfold foundK at h
  rw [List.getElem?_eq_getElem hx] at h
  simpa using h
/-- One entry of a row is written. -/
theorem ent_set {w : World} {base n g cap : Nat} {l : List Ent} (h : w.ownsRow base 42 5 (.slice (some ⟨g, 0, none⟩) n cap) n (ents l)) (k : Nat) (hk : k < l.length) (x : Ent) :
    (w.setCells g (k * 5) x.cells).ownsRow base 42 5 (.slice (some ⟨g, 0, none⟩) n cap) n (ents (l.set k x)) := by
  have hn : n = l.length := by have := h.1; rw [ents_length] at this; omega
  have := owns_write h (k * 5) x.cells (by rw [Ent.cells_length]; omega)
  rw [Ent.cells_length, show k * 5 + 5 = (k + 1) * 5 by omega, ents_take, ents_drop] at this
  rw [set_split l k x hk, ents_append, ents_append, show ents [x] = x.cells by simp [ents]]
  exact this
theorem ent_own {w : World} {base n : Nat} {v : Value} {l : List Ent} (h : w.ownsRow base 42 5 v n (ents l)) (k : Nat) (hk : k < l.length) :
    ∃ g cap, v = .slice (some ⟨g, 0, none⟩) n cap ∧ (n ≤ cap ∧ cap ≤ maxLen) ∧ (w.cell? ⟨g, k * 5, none⟩ = some (.int .i64 l[k].k) ∧ w.cell? ⟨g, k * 5 + 1, none⟩ = some (.int .i64 l[k].v) ∧ w.cell? ⟨g, k * 5 + 2, none⟩ = some (.int .i64 l[k].t) ∧ w.cell? ⟨g, k * 5 + 3, none⟩ = some (.int .i64 l[k].h) ∧ w.cell? ⟨g, k * 5 + 4, none⟩ = some (.bool l[k].g)) ∧ (∀ j, w.frozen? ⟨g, j, none⟩ = false) ∧ base ≤ g := by
  have hn : n = l.length := by have := h.1; rw [ents_length] at this; omega
  obtain ⟨g, cap, rfl, hg, _, hfz, _⟩ := owns_some h (by omega)
  obtain ⟨b, off, cap', he, hc, y⟩ := ent_get (Has.of_owns h) k hk
  simp only [Value.slice.injEq, Option.some.injEq, Addr.mk.injEq, and_true, true_and] at he
  obtain ⟨⟨rfl, rfl⟩, rfl⟩ := he
  simp only [Nat.zero_add] at y
  exact ⟨g, cap, rfl, hc, y, hfz, hg⟩
/-- What stands behind k entries. -/
structure MergeAt (w wr : World) (a b : List Ent) (k : Nat) (v : Value) : Prop where
  own : wr.ownsRow w.heap.size 42 5 v (mergeL a (b.take k)).length (ents (mergeL a (b.take k)))
  hb : Below w.heap.size w wr
set_option maxRecDepth 100000 in
set_option maxHeartbeats 8000000 in
theorem cmerge (va vb : Value) (a b : List Ent) (w : World) (ha : Has w 5 va a.length (ents a)) (hb : Has w 5 vb b.length (ents b)) (hma : MayL a) (hmb : MayL b) (hla : a.length ≤ 8) (hlb : b.length ≤ 8) (hlen : (mergeL a b).length ≤ 8) :
    Calls Try.prog 15 #[va, vb] w fun e w' => ∃ v', e = .returned (.tuple #[v', .int .i64 0]) ∧ w'.ownsRow w.heap.size 42 5 v' (mergeL a b).length (ents (mergeL a b)) ∧ Below w.heap.size w w' := by
  have HA := Lib.hid ha
  have HB := Lib.hid hb
  have HMa := Lib.hid hma
  have HMb := Lib.hid hmb
  obtain ⟨_, aa, ca, rfl, _, _, _⟩ := ha
  obtain ⟨_, ab, cb, rfl, hcn, hcm, _⟩ := hb
  unfold maxLen at hcm
  clear hma hmb
  go_enter Try.func15, Try.ntmps15
  go_wp2_with fail
  refine (cmay _ a w HA.out HMa.out hla).mono ?_
  rintro e w1 ⟨rfl, hb1⟩
  go_wp2_with fail
  refine (cmay _ b w1 (HB.out.below hb1) HMb.out hlb).mono ?_
  rintro e w2 ⟨rfl, hb2⟩
  have Hb2 : Hid (Below w.heap.size w w2) := hb1.trans (hb2.mono hb1.size)
  clear hb1 hb2
  go_wp2_with fail
  refine (cclone_ent _ a.length (ents a) w2 (HA.out.below Hb2.out) (ents_all a) (by omega)).mono ?_
  rintro e w3 ⟨v3, rfl, hown3, hb3⟩
  have H0 : Hid (MergeAt w w3 a b 0 v3) := ⟨owns_base hown3 Hb2.out.size, Hb2.out.trans (hb3.mono Hb2.out.size)⟩
  clear hown3 hb3 Hb2
  go_wp2_with fail
  go_loopw [6, 9, 10, 23] (fun out _ _ i wr => ∃ k : Nat, k ≤ b.length ∧ i = .int .i64 k ∧ Hid (MergeAt w wr a b k out)) (fun _ _ _ i _ => b.length - (intOf i).toNat)
  case atStart => exact ⟨0, by omega, rfl, H0⟩
  case round =>
    clear H0
    obtain ⟨k, hk, rfl, HP⟩ := hrel
    by_cases hlt : k < b.length
    · obtain ⟨bb, off, cap', he, -, x0, x1, x2, x3, x4⟩ := ent_get HB.out k hlt
      simp only [Value.slice.injEq] at he
      obtain ⟨rfl, -, rfl⟩ := he
      replace x0 := cell_on HP.out.hb x0
      replace x1 := cell_on HP.out.hb x1
      replace x2 := cell_on HP.out.hb x2
      replace x3 := cell_on HP.out.hb x3
      replace x4 := cell_on HP.out.hb x4
      have hbl := World.block_lt_of_cell? wr _ x0
      have hltz : (k : Int) < (b.length : Int) := by omega
      have hxok := HMb.out.ok _ (List.getElem_mem hlt)
      have hmay : MayL (mergeL a (b.take k)) := mergeL_may HMa.out fun e he => HMb.out.ok e (List.mem_of_mem_take he)
      have hml : (mergeL a (b.take k)).length ≤ 8 := Nat.le_trans (mergeL_take_len a b k) hlen
      have hsucc := mergeL_take_succ a b k hlt
      have hfin : Hid (∀ (w' : World) (v' : Value), w'.ownsRow w.heap.size 42 5 v' (mergeOne (mergeL a (b.take k)) b[k]).length (ents (mergeOne (mergeL a (b.take k)) b[k])) → Below w.heap.size w w' → MergeAt w w' a b (k + 1) v') := fun w' v' h1 h2 => ⟨by rw [hsucc]; exact h1, h2⟩
      have HOW := Lib.hid HP.out.own
      have HBW := Lib.hid HP.out.hb
      generalize b[k] = e0 at *
      generalize mergeL a (b.take k) = cur at *
      have hbx := ent_box (w := wr) e0
      have hE := heap_alloc_new wr (.cells #[.int .i64 e0.k, .int .i64 e0.v, .int .i64 e0.t, .int .i64 e0.h, .bool e0.g] 42)
      obtain ⟨⟨z0, z1, z2, z3, z4⟩, -⟩ := five_at hE
      have HO1 := Lib.hid (owns_below HOW.out hbx)
      have HB1 : Hid (Below w.heap.size w (wr.alloc (.cells #[.int .i64 e0.k, .int .i64 e0.v, .int .i64 e0.t, .int .i64 e0.h, .bool e0.g] 42))) := HBW.out.trans (hbx.mono HBW.out.size)
      have CS := Lib.hid (cSearch (Has.of_owns HO1.out) hmay (by omega) e0.k hxok.k)
      have hEl : wr.heap.size < (wr.alloc (.cells #[.int .i64 e0.k, .int .i64 e0.v, .int .i64 e0.t, .int .i64 e0.h, .bool e0.g] 42)).heap.size := by simp
      have Z0 := Lib.hid z0
      have Z1 := Lib.hid z1
      have Z2 := Lib.hid z2
      have Z3 := Lib.hid z3
      have Z4 := Lib.hid z4
      have hpl := posK_le cur e0.k
      have Hmo1 := Lib.hid (mergeOne_none cur e0)
      have Hmo2 := Lib.hid (mergeOne_some cur e0)
      have Hfy := Lib.hid (fun h => found_yes (l := cur) (k := e0.k) h)
      have Hfn := Lib.hid (fun h hx => found_no (l := cur) (k := e0.k) h hx)
      clear HP hmay hsucc hxok hbx hE HOW HBW
      go_upto_region 7 with (fail)
      generalize wr.alloc (.cells #[.int .i64 e0.k, .int .i64 e0.v, .int .i64 e0.t, .int .i64 e0.h, .bool e0.g] 42) = W at *
      go_wp2_with fail
      refine CS.out.mono ?_
      rintro e w5 ⟨rfl, hb5⟩
      replace Z0 := cell_on hb5 Z0.out
      replace Z1 := cell_on hb5 Z1.out
      replace Z2 := cell_on hb5 Z2.out
      replace Z3 := cell_on hb5 Z3.out
      replace Z4 := cell_on hb5 Z4.out
      have HO5 := Lib.hid (owns_below HO1.out hb5)
      have HB5 : Hid (Below w.heap.size w w5) := HB1.out.trans (hb5.mono HB1.out.size)
      have hEl5 : wr.heap.size < w5.heap.size := Nat.lt_of_lt_of_le hEl hb5.size
      generalize posK cur e0.k = p at *
      clear hb5 CS z0 z1 z2 z3 z4 HO1 HB1 x0 x1 x2 x3 x4
      obtain ⟨av, cv, rfl⟩ := owns_slice HO5.out
      cases hf : foundK cur e0.k with
      | false =>
        have hmo := Hmo1.out (fun hx => Hfn.out hf hx)
        have hz : w5.heap.size = w5.heap.size := rfl
        have hnb : (Value.slice av cur.length cv).ownBlock ≠ some w5.heap.size := fun hh => by
          have := (HO5.out.lt _ hh).2; omega
        have hbx5 := ent_box (w := w5) e0
        have hE5 := heap_alloc_new w5 (.cells #[.int .i64 e0.k, .int .i64 e0.v, .int .i64 e0.t, .int .i64 e0.h, .bool e0.g] 42)
        have CI := Lib.hid (cInsert (owns_below HO5.out hbx5) (Nat.le_trans HB5.out.size hbx5.size) (by omega) p hpl e0 w5.heap.size hnb hE5)
        have hlm : Hid ((mergeOne cur e0).length = cur.length + 1) := by
          show _ = _
          rw [hmo]; simp; omega
        rw [← hmo] at CI
        have Hbx5 := Lib.hid hbx5
        clear hmo hnb hbx5 hE5 hz Hmo1 Hmo2 Hfy Hfn hf
        go_wp2_with fail
        refine CI.out.mono ?_
        rintro e w6 ⟨v6, rfl, hown6, hb6⟩
        rw [← hlm.out] at hown6
        have hP' := hfin.out w6 v6 hown6 ((HB5.out.trans (Hbx5.out.mono HB5.out.size)).trans hb6)
        clear CI hown6 hb6 Z0 Z1 Z2 Z3 Z4
        go_wp2_with fail
        go_roundw
        case rel => exact ⟨k + 1, by omega, by go_num, hP'⟩
        case measure => first | (simp [intOf]; done) | (simp [intOf]; omega)
      | true =>
        obtain ⟨hpx, hpk⟩ := Hfy.out hf
        have hmo := Hmo2.out hpx hpk
        obtain ⟨g, cp, he, ⟨c1, c2⟩, ⟨y0, y1, y2, y3, y4⟩, gfz, hgb⟩ := ent_own HO5.out p hpx
        simp only [Value.slice.injEq] at he
        obtain ⟨rfl, -, rfl⟩ := he
        have hpz : (p : Int) < (cur.length : Int) := by omega
        unfold maxLen at c2
        have CN : Hid (∀ X : Ext w5, Calls Try.prog 31 #[.agg #[.int .i64 e0.k, .int .i64 e0.v, .int .i64 e0.t, .int .i64 e0.h, .bool e0.g], .agg #[.int .i64 cur[p].k, .int .i64 cur[p].v, .int .i64 cur[p].t, .int .i64 cur[p].h, .bool cur[p].g]] X.1 fun e w' => e = .returned (.bool (newer e0 cur[p])) ∧ Below X.1.heap.size X.1 w') := fun X => cnewer e0 cur[p] X.1
        have hset := Lib.hid (fun (X : World) (hX : Below w5.heap.size w5 X) => ent_set (owns_below HO5.out hX) p hpx e0)
        have hsb := Lib.hid (fun (X : World) (hX : Below w5.heap.size w5 X) => (owns_chc_write (owns_below HO5.out hX) (p * 5) e0.cells).2)
        have Hmo := Lib.hid hmo
        have hlm1 : Hid (cur.length = (cur.set p e0).length) := by show _ = _; simp
        generalize cur[p] = x0 at *
        clear hmo hpk Hmo1 Hmo2 Hfy Hfn hf
        go_upto_region 10 with (fail)
        have p0 := ext_cell Z0
        have p1 := ext_cell Z1
        have p2 := ext_cell Z2
        have p3 := ext_cell Z3
        have p4 := ext_cell Z4
        have q0 := ext_cell y0
        have q1 := ext_cell y1
        have q2 := ext_cell y2
        have q3 := ext_cell y3
        have q4 := ext_cell y4
        refine wp_region_grow (by kernel_rfl) (by kernel_rfl) ?_
        repeat (go_big_quiet_step ((go_at_call 31; with_reducible exact grow_of (CN.out _))))
        refine wpQuiet_nil ?_
        intro w8 hb8
        replace Z0 := cell_on hb8 Z0
        replace Z1 := cell_on hb8 Z1
        replace Z2 := cell_on hb8 Z2
        replace Z3 := cell_on hb8 Z3
        replace Z4 := cell_on hb8 Z4
        replace y0 := cell_on hb8 y0
        replace y1 := cell_on hb8 y1
        replace y2 := cell_on hb8 y2
        replace y3 := cell_on hb8 y3
        replace y4 := cell_on hb8 y4
        obtain ⟨_, _, he, -, -, gfz8, -⟩ := ent_own (owns_below HO5.out hb8) p hpx
        simp only [Value.slice.injEq, Option.some.injEq, Addr.mk.injEq, and_true, true_and] at he
        obtain ⟨rfl, rfl⟩ := he
        have HO8 := Lib.hid (owns_below HO5.out hb8)
        have HB8 : Hid (Below w.heap.size w w8) := HB5.out.trans (hb8.mono HB5.out.size)
        have hs8 := Lib.hid (hset.out w8 hb8)
        have hc8 := Lib.hid (hsb.out w8 hb8)
        have f0 := gfz8 (p * 5)
        have f1 := gfz8 (p * 5 + 1)
        have f2 := gfz8 (p * 5 + 2)
        have f3 := gfz8 (p * 5 + 3)
        have f4 := gfz8 (p * 5 + 4)
        clear p0 p1 p2 p3 p4 q0 q1 q2 q3 q4 CN hb8 gfz gfz8 hset hsb
        cases hnw : newer e0 x0 with
        | true =>
          rw [hnw, if_pos rfl] at Hmo
          have h9 := hs8.out
          have hl9 : Hid ((mergeOne cur e0).length = cur.length) := by rw [Hmo.out]; exact hlm1.out.symm
          rw [← Hmo.out] at h9
          have hP' : Hid (∀ W', W' = w8.setCells g (p * 5) e0.cells → MergeAt w W' a b (k + 1) (.slice (some ⟨g, 0, none⟩) cur.length cv)) := fun W' hW' => by
            subst hW'
            refine hfin.out _ _ ?_ (HB8.out.trans hc8.out)
            rw [hl9.out]; exact h9
          clear h9 hs8 hc8 HO8
          go_wp2_with fail
          go_roundw
          case rel => exact ⟨k + 1, by omega, by go_num, hP'.out _ rfl⟩
          case measure => first | (simp [intOf]; done) | (simp [intOf]; omega)
        | false =>
          rw [hnw, if_neg (by simp)] at Hmo
          have hP' : Hid (MergeAt w w8 a b (k + 1) (.slice (some ⟨g, 0, none⟩) cur.length cv)) := hfin.out _ _ (by rw [Hmo.out]; exact HO8.out) HB8.out
          clear hs8 hc8 HO8
          go_wp2_with fail
          go_roundw
          case rel => exact ⟨k + 1, by omega, by go_num, hP'⟩
          case measure => first | (simp [intOf]; done) | (simp [intOf]; omega)
    · obtain rfl : k = b.length := by omega
      have HO : Hid (wr.ownsRow w.heap.size 42 5 u6 (mergeL a b).length (ents (mergeL a b))) := by have := HP.out.own; rwa [List.take_length] at this
      have HBw := Lib.hid HP.out.hb
      obtain ⟨ao, co, rfl⟩ := owns_slice HO.out
      have hl8 : ((mergeL a b).length : Int) ≤ 8 := by omega
      have hd8 : decide (8 < ((mergeL a b).length : Int)) = false := by simp; omega
      clear HP
      go_wp2_with fail
      go_ret2
      exact ⟨_, rfl, HO.out, HBw.out⟩
end Go.Proofs.Ytkodpijedinanaa

namespace Go.Proofs.Ytkodpijedinanaa
open Go.ChangeShapes Go.WideShapes Go.ChangeAt Go.RowKit
set_option linter.unusedVariables false
set_option linter.unusedSimpArgs false
set_option maxRecDepth 100000 in
set_option maxHeartbeats 8000000 in
theorem cmergeW (va vb : Value) (a b : List Ent) (w : World) (ha : Has w 5 va a.length (ents a)) (hb : Has w 5 vb b.length (ents b)) (hma : MayL a) (hmb : MayL b) (hla : a.length ≤ 8) (hlb : b.length ≤ 8) (hlen : (mergeL a b).length ≤ 8) :
    Sim.CallsW Try.prog 15 #[va, vb] w fun e w' => ∃ v', e = .returned (.tuple #[v', .int .i64 0]) ∧ w'.ownsRow w.heap.size 42 5 v' (mergeL a b).length (ents (mergeL a b)) ∧ Below w.heap.size w w' := by
  have HA := Lib.hid ha
  have HB := Lib.hid hb
  have HMa := Lib.hid hma
  have HMb := Lib.hid hmb
  obtain ⟨_, aa, ca, rfl, _, _, _⟩ := ha
  obtain ⟨_, ab, cb, rfl, hcn, hcm, _⟩ := hb
  unfold maxLen at hcm
  clear hma hmb
  refine Sim.callsW_of Try.func15 rfl ?_
  simp only [Try.ntmps15, List.size_toArray, List.length_cons, List.length_nil, Nat.reduceAdd, Nat.reduceSub, Array.replicate_succ, Array.replicate_zero, List.push_toArray, List.append_toArray, List.nil_append, List.cons_append]
  go_wp2_with fail
  refine (cmay _ a w HA.out HMa.out hla).mono ?_
  rintro e w1 ⟨rfl, hb1⟩
  go_wp2_with fail
  refine (cmay _ b w1 (HB.out.below hb1) HMb.out hlb).mono ?_
  rintro e w2 ⟨rfl, hb2⟩
  have Hb2 : Hid (Below w.heap.size w w2) := hb1.trans (hb2.mono hb1.size)
  clear hb1 hb2
  go_wp2_with fail
  refine (cclone_ent _ a.length (ents a) w2 (HA.out.below Hb2.out) (ents_all a) (by omega)).mono ?_
  rintro e w3 ⟨v3, rfl, hown3, hb3⟩
  have H0 : Hid (MergeAt w w3 a b 0 v3) := ⟨owns_base hown3 Hb2.out.size, Hb2.out.trans (hb3.mono Hb2.out.size)⟩
  clear hown3 hb3 Hb2
  go_wp2_with fail
  go_loopw [6, 9, 10, 23] (fun out _ _ i wr => ∃ k : Nat, k ≤ b.length ∧ i = .int .i64 k ∧ Hid (MergeAt w wr a b k out)) (fun _ _ _ i _ => b.length - (intOf i).toNat)
  case atStart => exact ⟨0, by omega, rfl, H0⟩
  case round =>
    clear H0
    obtain ⟨k, hk, rfl, HP⟩ := hrel
    by_cases hlt : k < b.length
    · obtain ⟨bb, off, cap', he, -, x0, x1, x2, x3, x4⟩ := ent_get HB.out k hlt
      simp only [Value.slice.injEq] at he
      obtain ⟨rfl, -, rfl⟩ := he
      replace x0 := cell_on HP.out.hb x0
      replace x1 := cell_on HP.out.hb x1
      replace x2 := cell_on HP.out.hb x2
      replace x3 := cell_on HP.out.hb x3
      replace x4 := cell_on HP.out.hb x4
      have hbl := World.block_lt_of_cell? wr _ x0
      have hltz : (k : Int) < (b.length : Int) := by omega
      have hxok := HMb.out.ok _ (List.getElem_mem hlt)
      have hmay : MayL (mergeL a (b.take k)) := mergeL_may HMa.out fun e he => HMb.out.ok e (List.mem_of_mem_take he)
      have hml : (mergeL a (b.take k)).length ≤ 8 := Nat.le_trans (mergeL_take_len a b k) hlen
      have hsucc := mergeL_take_succ a b k hlt
      have hfin : Hid (∀ (w' : World) (v' : Value), w'.ownsRow w.heap.size 42 5 v' (mergeOne (mergeL a (b.take k)) b[k]).length (ents (mergeOne (mergeL a (b.take k)) b[k])) → Below w.heap.size w w' → MergeAt w w' a b (k + 1) v') := fun w' v' h1 h2 => ⟨by rw [hsucc]; exact h1, h2⟩
      have HOW := Lib.hid HP.out.own
      have HBW := Lib.hid HP.out.hb
      generalize b[k] = e0 at *
      generalize mergeL a (b.take k) = cur at *
      have hbx := ent_box (w := wr) e0
      have hE := heap_alloc_new wr (.cells #[.int .i64 e0.k, .int .i64 e0.v, .int .i64 e0.t, .int .i64 e0.h, .bool e0.g] 42)
      obtain ⟨⟨z0, z1, z2, z3, z4⟩, -⟩ := five_at hE
      have HO1 := Lib.hid (owns_below HOW.out hbx)
      have HB1 : Hid (Below w.heap.size w (wr.alloc (.cells #[.int .i64 e0.k, .int .i64 e0.v, .int .i64 e0.t, .int .i64 e0.h, .bool e0.g] 42))) := HBW.out.trans (hbx.mono HBW.out.size)
      have CS := Lib.hid (cSearch (Has.of_owns HO1.out) hmay (by omega) e0.k hxok.k)
      have hEl : wr.heap.size < (wr.alloc (.cells #[.int .i64 e0.k, .int .i64 e0.v, .int .i64 e0.t, .int .i64 e0.h, .bool e0.g] 42)).heap.size := by simp
      have Z0 := Lib.hid z0
      have Z1 := Lib.hid z1
      have Z2 := Lib.hid z2
      have Z3 := Lib.hid z3
      have Z4 := Lib.hid z4
      have hpl := posK_le cur e0.k
      have Hmo1 := Lib.hid (mergeOne_none cur e0)
      have Hmo2 := Lib.hid (mergeOne_some cur e0)
      have Hfy := Lib.hid (fun h => found_yes (l := cur) (k := e0.k) h)
      have Hfn := Lib.hid (fun h hx => found_no (l := cur) (k := e0.k) h hx)
      clear HP hmay hsucc hxok hbx hE HOW HBW
      go_upto_region 7 with (fail)
      generalize wr.alloc (.cells #[.int .i64 e0.k, .int .i64 e0.v, .int .i64 e0.t, .int .i64 e0.h, .bool e0.g] 42) = W at *
      go_wp2_with fail
      refine CS.out.mono ?_
      rintro e w5 ⟨rfl, hb5⟩
      replace Z0 := cell_on hb5 Z0.out
      replace Z1 := cell_on hb5 Z1.out
      replace Z2 := cell_on hb5 Z2.out
      replace Z3 := cell_on hb5 Z3.out
      replace Z4 := cell_on hb5 Z4.out
      have HO5 := Lib.hid (owns_below HO1.out hb5)
      have HB5 : Hid (Below w.heap.size w w5) := HB1.out.trans (hb5.mono HB1.out.size)
      have hEl5 : wr.heap.size < w5.heap.size := Nat.lt_of_lt_of_le hEl hb5.size
      generalize posK cur e0.k = p at *
      clear hb5 CS z0 z1 z2 z3 z4 HO1 HB1 x0 x1 x2 x3 x4
      obtain ⟨av, cv, rfl⟩ := owns_slice HO5.out
      cases hf : foundK cur e0.k with
      | false =>
        have hmo := Hmo1.out (fun hx => Hfn.out hf hx)
        have hz : w5.heap.size = w5.heap.size := rfl
        have hnb : (Value.slice av cur.length cv).ownBlock ≠ some w5.heap.size := fun hh => by
          have := (HO5.out.lt _ hh).2; omega
        have hbx5 := ent_box (w := w5) e0
        have hE5 := heap_alloc_new w5 (.cells #[.int .i64 e0.k, .int .i64 e0.v, .int .i64 e0.t, .int .i64 e0.h, .bool e0.g] 42)
        have CI := Lib.hid (cInsert (owns_below HO5.out hbx5) (Nat.le_trans HB5.out.size hbx5.size) (by omega) p hpl e0 w5.heap.size hnb hE5)
        have hlm : Hid ((mergeOne cur e0).length = cur.length + 1) := by
          show _ = _
          rw [hmo]; simp; omega
        rw [← hmo] at CI
        have Hbx5 := Lib.hid hbx5
        clear hmo hnb hbx5 hE5 hz Hmo1 Hmo2 Hfy Hfn hf
        go_wp2_with fail
        refine CI.out.mono ?_
        rintro e w6 ⟨v6, rfl, hown6, hb6⟩
        rw [← hlm.out] at hown6
        have hP' := hfin.out w6 v6 hown6 ((HB5.out.trans (Hbx5.out.mono HB5.out.size)).trans hb6)
        clear CI hown6 hb6 Z0 Z1 Z2 Z3 Z4
        go_wp2_with fail
        go_roundw
        case rel => exact ⟨k + 1, by omega, by go_num, hP'⟩
        case measure => first | (simp [intOf]; done) | (simp [intOf]; omega)
      | true =>
        obtain ⟨hpx, hpk⟩ := Hfy.out hf
        have hmo := Hmo2.out hpx hpk
        obtain ⟨g, cp, he, ⟨c1, c2⟩, ⟨y0, y1, y2, y3, y4⟩, gfz, hgb⟩ := ent_own HO5.out p hpx
        simp only [Value.slice.injEq] at he
        obtain ⟨rfl, -, rfl⟩ := he
        have hpz : (p : Int) < (cur.length : Int) := by omega
        unfold maxLen at c2
        have CN : Hid (∀ X : Ext w5, Calls Try.prog 31 #[.agg #[.int .i64 e0.k, .int .i64 e0.v, .int .i64 e0.t, .int .i64 e0.h, .bool e0.g], .agg #[.int .i64 cur[p].k, .int .i64 cur[p].v, .int .i64 cur[p].t, .int .i64 cur[p].h, .bool cur[p].g]] X.1 fun e w' => e = .returned (.bool (newer e0 cur[p])) ∧ Below X.1.heap.size X.1 w') := fun X => cnewer e0 cur[p] X.1
        have hset := Lib.hid (fun (X : World) (hX : Below w5.heap.size w5 X) => ent_set (owns_below HO5.out hX) p hpx e0)
        have hsb := Lib.hid (fun (X : World) (hX : Below w5.heap.size w5 X) => (owns_chc_write (owns_below HO5.out hX) (p * 5) e0.cells).2)
        have Hmo := Lib.hid hmo
        have hlm1 : Hid (cur.length = (cur.set p e0).length) := by show _ = _; simp
        generalize cur[p] = x0 at *
        clear hmo hpk Hmo1 Hmo2 Hfy Hfn hf
        go_upto_region 10 with (fail)
        have p0 := ext_cell Z0
        have p1 := ext_cell Z1
        have p2 := ext_cell Z2
        have p3 := ext_cell Z3
        have p4 := ext_cell Z4
        have q0 := ext_cell y0
        have q1 := ext_cell y1
        have q2 := ext_cell y2
        have q3 := ext_cell y3
        have q4 := ext_cell y4
        refine wp_region_grow (by kernel_rfl) (by kernel_rfl) ?_
        repeat (go_big_quiet_step ((go_at_call 31; with_reducible exact grow_of (CN.out _))))
        refine wpQuiet_nil ?_
        intro w8 hb8
        replace Z0 := cell_on hb8 Z0
        replace Z1 := cell_on hb8 Z1
        replace Z2 := cell_on hb8 Z2
        replace Z3 := cell_on hb8 Z3
        replace Z4 := cell_on hb8 Z4
        replace y0 := cell_on hb8 y0
        replace y1 := cell_on hb8 y1
        replace y2 := cell_on hb8 y2
        replace y3 := cell_on hb8 y3
        replace y4 := cell_on hb8 y4
        obtain ⟨_, _, he, -, -, gfz8, -⟩ := ent_own (owns_below HO5.out hb8) p hpx
        simp only [Value.slice.injEq, Option.some.injEq, Addr.mk.injEq, and_true, true_and] at he
        obtain ⟨rfl, rfl⟩ := he
        have HO8 := Lib.hid (owns_below HO5.out hb8)
        have HB8 : Hid (Below w.heap.size w w8) := HB5.out.trans (hb8.mono HB5.out.size)
        have hs8 := Lib.hid (hset.out w8 hb8)
        have hc8 := Lib.hid (hsb.out w8 hb8)
        have f0 := gfz8 (p * 5)
        have f1 := gfz8 (p * 5 + 1)
        have f2 := gfz8 (p * 5 + 2)
        have f3 := gfz8 (p * 5 + 3)
        have f4 := gfz8 (p * 5 + 4)
        clear p0 p1 p2 p3 p4 q0 q1 q2 q3 q4 CN hb8 gfz gfz8 hset hsb
        cases hnw : newer e0 x0 with
        | true =>
          rw [hnw, if_pos rfl] at Hmo
          have h9 := hs8.out
          have hl9 : Hid ((mergeOne cur e0).length = cur.length) := by rw [Hmo.out]; exact hlm1.out.symm
          rw [← Hmo.out] at h9
          have hP' : Hid (∀ W', W' = w8.setCells g (p * 5) e0.cells → MergeAt w W' a b (k + 1) (.slice (some ⟨g, 0, none⟩) cur.length cv)) := fun W' hW' => by
            subst hW'
            refine hfin.out _ _ ?_ (HB8.out.trans hc8.out)
            rw [hl9.out]; exact h9
          clear h9 hs8 hc8 HO8
          go_wp2_with fail
          go_roundw
          case rel => exact ⟨k + 1, by omega, by go_num, hP'.out _ rfl⟩
          case measure => first | (simp [intOf]; done) | (simp [intOf]; omega)
        | false =>
          rw [hnw, if_neg (by simp)] at Hmo
          have hP' : Hid (MergeAt w w8 a b (k + 1) (.slice (some ⟨g, 0, none⟩) cur.length cv)) := hfin.out _ _ (by rw [Hmo.out]; exact HO8.out) HB8.out
          clear hs8 hc8 HO8
          go_wp2_with fail
          go_roundw
          case rel => exact ⟨k + 1, by omega, by go_num, hP'⟩
          case measure => first | (simp [intOf]; done) | (simp [intOf]; omega)
    · obtain rfl : k = b.length := by omega
      have HO : Hid (wr.ownsRow w.heap.size 42 5 u6 (mergeL a b).length (ents (mergeL a b))) := by have := HP.out.own; rwa [List.take_length] at this
      have HBw := Lib.hid HP.out.hb
      obtain ⟨ao, co, rfl⟩ := owns_slice HO.out
      have hl8 : ((mergeL a b).length : Int) ≤ 8 := by omega
      have hd8 : decide (8 < ((mergeL a b).length : Int)) = false := by simp; omega
      clear HP
      go_wp2_with fail
      go_ret2
      exact ⟨_, rfl, HO.out, HBw.out⟩
end Go.Proofs.Ytkodpijedinanaa

namespace Go.Proofs.Ytkodpijedinanaa.Sim
open Go Go.Conc
set_option linter.unusedVariables false
set_option linter.unusedSimpArgs false

theorem fns_ok : FnsOk2 Try.prog := ⟨fnsOk2 (by kernel_rfl), _, Try.f52.params, Try.f52.resultTypes, Try.func52, rfl, by kernel_rfl, by kernel_rfl, by kernel_rfl⟩
/-- All rows that one has, to be read. -/
def allVis (Own : Blk) (Sh : Shd) (W : World) : Vis := ⟨fun _ => False, fun b => (Sh b ∨ Own b) ∧ ∃ cs e z, W.heap[b]? = some (.cells cs e z) ∧ NoRng z, fun _ => False⟩
theorem allVis_ok (Own : Blk) (Sh : Shd) (W : World) : (∀ b, (allVis Own Sh W).own b → False) ∧ (allVis Own Sh W).Ok (fun _ => False) (rdo Own Sh) W :=
  ⟨fun _ h => h, fun b h => (by
    rcases h with h | ⟨_, cs, e, z, h, hz⟩ | h
    · exact h.elim
    · exact ⟨cs, e, z, h, fun _ => hz⟩
    · exact h.elim), fun _ h => h, fun b h => h.1⟩
/-- What is said of a result that is a list of entries. -/
def EntQ (l : List Ent) (v : Value) (w : World) : Prop := Has w 5 v l.length (ents l) ∧ ∀ a n c, v = .slice (some a) n c → (n = 0 ∧ c = 0) ∨ Rowed w a.block
theorem entQ_of {w : World} {base e n : Nat} {v : Value} {l : List Ent} (h : w.ownsRow base e 5 v n (ents l)) (hn : n = l.length) : EntQ l v w := by
  subst hn
  exact ⟨Has.of_owns h, rowed_of_owns h⟩
theorem back_ent {V : Vis} {Own : Blk} {Sh : Shd} {ρ : Ren} {w W' : World} {F Oc : Blk} (h1 : WRel ρ w W') (h4 : ∀ a b, ρ a b → ¬ F a → Oc b) (h5 : ∀ a b, ρ a b → F a → ¬ Opq w a → Sh b ∨ Own b) {v VV : Value} (hv : VRel ρ v VV) {l : List Ent} {τ : Tape} {d : Nat} (hq : EntQ l v (lay w τ d)) :
    REnt (fun b => (Own b ∨ Oc b) ∨ Sh b) W' VV l :=
  ent_back h1 hv hq.1 hq.2 fun a b hab hR => by
    by_cases hF : F a
    · rcases h5 a b hab hF hR.not with h | h
      · exact .inr h
      · exact .inl (.inl h)
    · exact .inl (.inr (h4 a b hab hF))
theorem tuple2 {ρ : Ren} {v VV : Value} {n : Int} (h : VRel ρ (.tuple #[v, .int .i64 n]) VV) : ∃ V', VV = .tuple #[V', .int .i64 n] ∧ VRel ρ v V' := by
  generalize hc : Value.tuple #[v, .int .i64 n] = x at h
  cases h with
  | tuple h1 h2 =>
    cases hc
    rename_i d
    obtain ⟨V', x, rfl⟩ : ∃ V' x, d = #[V', x] := by
      obtain ⟨l⟩ := d
      simp at h1
      match l, h1 with
      | [a, b], _ => exact ⟨a, b, rfl⟩
    have e0 := h2 0 v V' rfl rfl
    have e1 := h2 1 (.int .i64 n) x rfl rfl
    cases e1
    exact ⟨V', rfl, e0⟩
  | _ => simp at hc
section
variable {main : Bool} {Sh : Shd} {Ju : Blk → Goroutine → World → Prop} {RB : List Frame} {B : Frame} {Own : Blk} {A : Act} {k : List Item} {Z : World → Prop}
set_option maxRecDepth 100000 in
/-- reg.Merge. -/
theorem rt_merge (hJ : Jud Try.prog main Sh Ju) (hz : Stable Own Sh Z) (hB : B.kind ≠ .early) {ops : Array Oper} {i : Nat} {l : List Nat} {o : Oper} (ho : ops[i]? = some o) (hg : o.guard = none) {x y : Operand} {ats : Array TypeId}
    (hop : o.op = .call { callee := .value (.func 15), args := #[x, y], argTypes := ats }) {va vb : Value} (hx : A.eval x = va) (hy : A.eval y = vb) {a b : List Ent} (ha : ∀ W, Z W → REnt (fun b => Own b ∨ Sh b) W va a) (hb : ∀ W, Z W → REnt (fun b => Own b ∨ Sh b) W vb b)
    (hma : MayL a) (hmb : MayL b) (hla : a.length ≤ 8) (hlb : b.length ≤ 8) (hlen : (mergeL a b).length ≤ 8) (hgl : ∀ W, Z W → Try.prog.globals.size ≤ W.heap.size)
    (hn : ∀ O V', (∀ x, Own x → O x) → (∀ x, O x → Own x ∨ ∃ W, Z W ∧ W.heap.size ≤ x) → Rt Ju RB B (.inRegion ops l :: k) O (A.put o.dst (.tuple #[V', .int .i64 0])) fun W => Z W ∧ REnt (fun b => O b ∨ Sh b) W V' (mergeL a b)) : Rt Ju RB B (.inRegion ops (i :: l) :: k) Own A Z := by
  have hK : ∀ W b, (Own b ∨ Sh b) → (∃ cs e z, W.heap[b]? = some (.cells cs e z) ∧ NoRng z) → (allVis Own Sh W).sh b ∧ ¬ (allVis Own Sh W).opq b := fun W b h1 h2 => ⟨⟨h1.symm, h2⟩, fun h => h⟩
  refine rt_call fns_ok hJ hz hB ho hg hop Try.func15 (by kernel_rfl) rfl (by kernel_rfl) (by kernel_rfl) (argsR := #[va, vb]) (by simp [hx, hy]) (V := allVis Own Sh) (fun W _ => allVis_ok _ _ _) hgl
    (Q := fun W v w' => ∃ v', v = .tuple #[v', .int .i64 0] ∧ EntQ (mergeL a b) v' w') (fun W z τ d => ?_) fun W z O VV W' hb' => ?_
  · rw [show (#[va, vb] : Array Value).map (sanV (allVis Own Sh W) W.heap.size) = #[sanV (allVis Own Sh W) W.heap.size va, sanV (allVis Own Sh W) W.heap.size vb] from by simp]
    refine (cmergeW _ _ a b _ ((ha W z).into (hK W) τ d) ((hb W z).into (hK W) τ d) hma hmb hla hlb hlen).mono ?_
    rintro e w' ⟨v', rfl, h1, h2⟩
    exact ⟨_, rfl, v', rfl, entQ_of h1 rfl⟩
  · obtain ⟨hr, ρ, v, w, F, Oc, rfl, h0, h1, h2, h3, h4, h5, h6, τ, d, v', rfl, hq⟩ := hb'
    obtain ⟨V', rfl, hv⟩ := tuple2 h6
    exact hn _ V' (fun x h => .inl h) (fun x h => h.imp id fun h => ⟨W, z, h0 x h⟩) W' ⟨hz W W' hr z, back_ent (V := allVis Own Sh W) h1 h4 h5 hv hq⟩
end
end Go.Proofs.Ytkodpijedinanaa.Sim
