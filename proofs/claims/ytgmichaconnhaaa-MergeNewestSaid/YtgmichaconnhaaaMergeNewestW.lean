/- MergeNewest: the walk. -/
import Derived.Test.YtgmichaconnhaaaNewestL
import Derived.Test.YtgmichaconnhaaaEnts
namespace Go.Proofs.Ytgmichaconnhaaa.mergeNewest
open Go.ChangeShapes Go.WideShapes Go.ChangeAt Go.RowKit
set_option linter.unusedVariables false
set_option linter.unusedSimpArgs false

def eqb (a b : Ent) : Bool := a.k == b.k && a.v == b.v && a.t == b.t && a.h == b.h && a.g == b.g
theorem eqb_self (a : Ent) : eqb a a = true := by simp [eqb]
theorem eql_ent (k1 v1 t1 h1 k2 v2 t2 h2 : Int) (g1 g2 : Bool) (X : World) : (binOp .eql 73 (.agg #[.int .i64 k1, .int .i64 v1, .int .i64 t1, .int .i64 h1, .bool g1]) (.agg #[.int .i64 k2, .int .i64 v2, .int .i64 t2, .int .i64 h2, .bool g2])).run Try.prog X = .ok (.bool (eqb ⟨k1, v1, t1, h1, g1⟩ ⟨k2, v2, t2, h2, g2⟩)) X := by
  have hp : Try.prog.stoodInHeld 73 = false := by kernel_rfl
  have hf : Try.prog.underlying 73 = some (.struct (Try.prog.fieldsOf 73)) := by kernel_rfl
  simp only [binOp]
  simp only [Op.equal, Op.maxDepth, Sem.run_bind]
  rw [run_equalIn_struct _ _ _ _ _ hf hp]
  have u1 := Try.underlying3
  have u2 := Try.underlying4
  simp [go_sem, Try.underlying73, part, eqb]
  repeat' split
  all_goals simp_all
theorem entsOf_le (l : List Ent) : (entsOf l).length ≤ l.length := by
  have := (mergeL_len [] ((l.take 30).map EntPick)).2
  unfold entsOf
  simp at this ⊢
  omega
theorem turned_same (l : List Ent) (n r : Nat) (hn : n = min l.length 30) : entsOf (turned l n r n) = entsOf l := by
  have h1 : l.take 30 = l.take n := by
    by_cases h : l.length ≤ 30
    · rw [List.take_of_length_le h, List.take_of_length_le (by omega)]
    · rw [show n = 30 by omega]
  have h2 : (turned l n r n).take 30 = turned l n r n := List.take_of_length_le (by rw [turned_length]; omega)
  unfold entsOf
  rw [h1, h2]
  by_cases h0 : n = 0
  · subst h0; rfl
  · refine merge_set (fun e he => by obtain ⟨x, _, rfl⟩ := List.mem_map.1 he; exact (entPick_ok x).1) fun x => ?_
    rw [List.mem_map, List.mem_map]
    constructor
    · rintro ⟨y, hy, rfl⟩; exact ⟨y, (turned_mem l n r (by omega) (by omega) y).1 hy, rfl⟩
    · rintro ⟨y, hy, rfl⟩; exact ⟨y, (turned_mem l n r (by omega) (by omega) y).2 hy, rfl⟩
theorem turned_succ (l : List Ent) (n r i : Nat) (h : (i + r) % n < l.length) : turned l n r (i + 1) = l[(i + r) % n] :: turned l n r i := by
  simp only [turned, List.getElem?_eq_getElem h]
theorem elNote : Elem Try.prog 75 5 40 (.agg #[.int .i64 0, .int .i64 0, .int .i64 0, .int .i64 0, .bool false]) := .of (by kernel_rfl) rfl (by decide)
set_option maxRecDepth 100000 in
set_option maxHeartbeats 8000000 in
theorem walk (w : World) (v0 : Value) (l : List Ent) (A0 : Has w 5 v0 l.length (ents l)) (turn : Int) (w1 : (Lit.int .i64 turn).wf = true) :
    Calls Try.prog 13 #[v0, .int .i64 turn] w fun e w' => e = .returned (.bool true) ∧ Below w.heap.size w w' := by
  have H := Lib.hid A0
  have C0 := Lib.hid (centriesOf v0 l w A0)
  have sa := entsOf_six l
  have Sa := Lib.hid sa
  have hal := entsOf_le l
  have hd1 : decide ((l.length : Int) < ((entsOf l).length : Int)) = false := by simp; omega
  obtain ⟨_, al, cl, rfl, _, hcm, _⟩ := A0
  unfold maxLen at hcm
  obtain ⟨n, hn⟩ : ∃ n, n = min l.length 30 := ⟨_, rfl⟩
  have hnl : n ≤ l.length := by omega
  have hn30 : n ≤ 30 := by omega
  have Stand := Lib.hid (fun (i : Nat) (hi : i < n) => newest_stands ((l.take 30).map EntPick) (fun e he => by obtain ⟨x, _, rfl⟩ := List.mem_map.1 he; exact (entPick_ok x).1) (EntPick (l[i]'(Nat.lt_of_lt_of_le hi hnl))) (List.mem_map.2 ⟨l[i]'(Nat.lt_of_lt_of_le hi hnl), List.mem_take_iff_getElem.2 ⟨i, by omega, rfl⟩, rfl⟩))
  have Mem := Lib.hid (fun (x : Ent) (hx : x ∈ entsOf l) => show ∃ i, ∃ hi : i < n, EntPick (l[i]'(Nat.lt_of_lt_of_le hi hnl)) = x from by
    rcases mergeL_mem hx with hh | hh
    · simp at hh
    · obtain ⟨y, hy, rfl⟩ := List.mem_map.1 hh
      obtain ⟨i, hi, rfl⟩ := List.mem_take_iff_getElem.1 hy
      exact ⟨i, by omega, rfl⟩)
  have ea : mergeL [] ((l.take 30).map EntPick) = entsOf l := rfl
  rw [ea] at Stand
  have Hn := Lib.hid hn
  generalize haa : entsOf l = a at *
  have Ea := Lib.hid haa
  clear sa ea hn haa
  go_enter Try.func13, Try.ntmps13
  go_wp2_with fail
  refine C0.out.mono ?_
  rintro e w2 ⟨va, rfl, hown, hb2⟩
  obtain ⟨aa, ca, rfl⟩ := owns_slice hown
  have HA : Hid (Has w2 5 (.slice aa a.length ca) a.length (ents a)) := Has.of_owns hown
  have HL := Lib.hid (H.out.below hb2)
  have B2 := Lib.hid hb2
  have hca : a.length ≤ ca ∧ ca ≤ 9223372036854775807 := by
    obtain ⟨_, _, _, he, h1, h2, _⟩ := HA.out
    simp only [Value.slice.injEq] at he
    obtain ⟨-, -, rfl⟩ := he
    exact ⟨h1, h2⟩
  clear hown hb2 C0 H
  go_upto_region 6 with (fail)
  all_goals
    have hn := Hn.out
    first | rw [show (l.length : Int) = (n : Int) by omega] | rw [show (30 : Int) = (n : Int) by omega]
    clear hn
    go_loopw [8, 9, 10, 11] (fun i _ _ _ wr => ∃ k : Nat, k ≤ n ∧ i = .int .i64 k ∧ Hid (Below w2.heap.size w2 wr)) (fun i _ _ _ _ => n - (intOf i).toNat)
    case atStart => exact ⟨0, by omega, rfl, Below.refl _ _⟩
    case round =>
      obtain ⟨k, hk, rfl, HB⟩ := hrel
      by_cases hlt : k < n
      · have hltz : (k : Int) < (n : Int) := by omega
        have hltz2 : (k : Int) < (l.length : Int) := by omega
        obtain ⟨b, off, cap, he, -, x0, x1, x2, x3, x4⟩ := ent_get HL.out k (by omega)
        simp only [Value.slice.injEq] at he
        obtain ⟨rfl, -, rfl⟩ := he
        replace x0 := cell_on HB.out x0
        replace x1 := cell_on HB.out x1
        replace x2 := cell_on HB.out x2
        replace x3 := cell_on HB.out x3
        replace x4 := cell_on HB.out x4
        have CE := Lib.hid (centryOf l[k] wr)
        have hst := Stand.out k hlt
        unfold Ent.val at CE
        generalize EntPick l[k] = e0 at *
        generalize l[k] = x at *
        have Hst := Lib.hid hst
        clear hst
        go_wp2_with fail
        refine CE.out.mono ?_
        rintro e w5 ⟨rfl, hb5⟩
        have hbx := ent_box (w := w5) e0
        have hE := heap_alloc_new w5 (.cells #[.int .i64 e0.k, .int .i64 e0.v, .int .i64 e0.t, .int .i64 e0.h, .bool e0.g] 73)
        obtain ⟨⟨z0, z1, z2, z3, z4⟩, -⟩ := five_at hE
        have HB5 : Hid (Below w2.heap.size w2 (w5.alloc (.cells #[.int .i64 e0.k, .int .i64 e0.v, .int .i64 e0.t, .int .i64 e0.h, .bool e0.g] 73))) := (HB.out.trans (hb5.mono HB.out.size)).trans (hbx.mono (HB.out.trans (hb5.mono HB.out.size)).size)
        clear CE hb5 x0 x1 x2 x3 x4 hbx hE HB
        go_upto_region 9 with (fail)
        generalize w5.alloc (.cells #[.int .i64 e0.k, .int .i64 e0.v, .int .i64 e0.t, .int .i64 e0.h, .bool e0.g] 73) = W at *
        have Z0 := Lib.hid z0
        have Z1 := Lib.hid z1
        have Z2 := Lib.hid z2
        have Z3 := Lib.hid z3
        have Z4 := Lib.hid z4
        generalize w5.heap.size = E at *
        clear z0 z1 z2 z3 z4
        go_wp2_with fail
        go_loopw [10, 11] (fun had j wr => ∃ (jj : Nat) (hb : Bool), jj ≤ a.length ∧ j = .int .i64 jj ∧ had = .bool hb ∧ Hid (∀ x (hx : x < a.length), x < jj → a[x].k = e0.k → hb = true) ∧ Hid (Below W.heap.size W wr)) (fun _ j _ => a.length - (intOf j).toNat)
        case atStart => exact ⟨0, false, by omega, rfl, rfl, fun x _ h => absurd h (by omega), Below.refl _ _⟩
        case round =>
          obtain ⟨j, hb, hj, rfl, rfl, HH, HBj⟩ := hrel
          by_cases hjl : j < a.length
          · have hjz : (j : Int) < (a.length : Int) := by omega
            obtain ⟨ba, oa, capa, he, -, y0, y1, y2, y3, y4⟩ := ent_get (HA.out.below HB5.out) j hjl
            simp only [Value.slice.injEq] at he
            obtain ⟨rfl, -, rfl⟩ := he
            replace y0 := cell_on HBj.out y0
            replace y1 := cell_on HBj.out y1
            replace y2 := cell_on HBj.out y2
            replace y3 := cell_on HBj.out y3
            replace y4 := cell_on HBj.out y4
            have z0 := cell_on HBj.out Z0.out
            have z1 := cell_on HBj.out Z1.out
            have z2 := cell_on HBj.out Z2.out
            have z3 := cell_on HBj.out Z3.out
            have z4 := cell_on HBj.out Z4.out
            have hnew : Hid (a[j].k = e0.k → newer e0 a[j] = false) := fun hk => by
              obtain ⟨x', hx', hn'⟩ := Hst.out
              rw [← hk, look_at Sa.out.may j hjl] at hx'
              simp only [Option.some.injEq] at hx'
              rw [hx']; exact hn'
            have hnx : Hid (∀ x (hx : x < a.length), x < j + 1 → ¬ x = j → x < j) := fun x hx h1 h2 => by omega
            have CN := Lib.hid (fun X => cnewer e0 a[j] X)
            have hjk : Hid (∀ hj' : j < a.length, a[j].k = a[j].k) := fun _ => rfl
            obtain ⟨y, hy⟩ : ∃ y, Hid (y = a[j]) := ⟨a[j], (rfl : a[j] = a[j])⟩
            rw [← hy.out] at y0 y1 y2 y3 y4 hnew CN
            unfold Ent.val at CN
            by_cases hc : y.k = e0.k
            · have hcb : (y.k == e0.k) = true := by simpa using hc
              have hnf := hnew.out hc
              rw [hnf] at CN
              have hfin : Hid (∀ x (hx : x < a.length), x < j + 1 → a[x].k = e0.k → true = true) := fun _ _ _ _ => rfl
              clear hc hnew hnx hjk
              go_upto_region 13 with (fail)
              go_quiet (fail)
              go_upto_region 15 with (fail)
              obtain ⟨w9, hw9⟩ : ∃ x, x = wr.drewN nq := ⟨_, rfl⟩
              rw [← hw9]
              have hdr : Below wr.heap.size wr w9 := by rw [hw9]; exact below_drewN (Below.refl _ _) _
              have CS : Hid (∀ X : Ext w9, Calls Try.prog 30 #[.agg #[.int .i64 e0.k, .int .i64 e0.v, .int .i64 e0.t, .int .i64 e0.h, .bool e0.g], .agg #[.int .i64 y.k, .int .i64 y.v, .int .i64 y.t, .int .i64 y.h, .bool y.g]] X.1 fun e w' => e = .returned (.bool false) ∧ Below X.1.heap.size X.1 w') := fun X => CN.out X.1
              have p0 := ext_cell (cell_on hdr z0)
              have p1 := ext_cell (cell_on hdr z1)
              have p2 := ext_cell (cell_on hdr z2)
              have p3 := ext_cell (cell_on hdr z3)
              have p4 := ext_cell (cell_on hdr z4)
              have q0 := ext_cell (cell_on hdr y0)
              have q1 := ext_cell (cell_on hdr y1)
              have q2 := ext_cell (cell_on hdr y2)
              have q3 := ext_cell (cell_on hdr y3)
              have q4 := ext_cell (cell_on hdr y4)
              have HB9 : Hid (Below W.heap.size W w9) := HBj.out.trans (hdr.mono HBj.out.size)
              clear y0 y1 y2 y3 y4 z0 z1 z2 z3 z4 hdr hw9
              refine wp_region_grow (by kernel_rfl) (by kernel_rfl) ?_
              repeat (go_big_quiet_step ((go_at_call 30; with_reducible exact grow_of (CS.out _))))
              refine wpQuiet_nil ?_
              intro w8 hb8
              have HB8 : Hid (Below W.heap.size W w8) := HB9.out.trans (hb8.mono HB9.out.size)
              clear p0 p1 p2 p3 p4 q0 q1 q2 q3 q4 hb8 CS CN
              go_wp2_with fail
              go_roundw
              case rel => exact ⟨j + 1, true, by omega, by go_num, rfl, hfin, HB8⟩
              case measure => first | (simp [intOf]; done) | (simp [intOf]; omega)
            · have hcb : (y.k == e0.k) = false := by rw [beq_eq_false_iff_ne]; exact hc
              have hfin : Hid (∀ x (hx : x < a.length), x < j + 1 → a[x].k = e0.k → hb = true) := fun x hx h1 h2 => by
                by_cases e : x = j
                · subst e; rw [← hy.out] at h2; exact absurd h2 hc
                · exact HH.out x hx (by omega) h2
              clear hc hnew hnx hjk CN
              go_upto_region 13 with (fail)
              go_quiet (fail)
              go_wp2_with fail
              go_roundw
              case rel => exact ⟨j + 1, hb, by omega, by go_num, rfl, hfin, below_drewN HBj.out _⟩
              case measure => first | (simp [intOf]; done) | (simp [intOf]; omega)
          · obtain rfl : j = a.length := by omega
            have hbt : hb = true := by
              obtain ⟨x', hx', -⟩ := Hst.out
              obtain ⟨hm, hk'⟩ := look_some hx'
              obtain ⟨i, hi, rfl⟩ := List.mem_iff_getElem.1 hm
              exact HH.out i hi hi hk'
            subst hbt
            have HB6 : Hid (Below w2.heap.size w2 wr) := HB5.out.trans (HBj.out.mono HB5.out.size)
            clear HH HBj
            go_wp2_with fail
            go_roundw
            case rel => exact ⟨k + 1, by omega, by go_num, HB6⟩
            case measure => first | (simp [intOf]; done) | (simp [intOf]; omega)
      · obtain rfl : k = n := by omega
        obtain ⟨w6, hw6⟩ : ∃ x, x = wr := ⟨_, rfl⟩
        rw [← hw6] at HB ⊢
        have HW := Lib.hid HB.out
        clear hw6 HB
        go_upto_region 20 with (fail)
        go_loopw [12, 13, 14] (fun i _ _ wr => ∃ j : Nat, j ≤ a.length ∧ i = .int .i64 j ∧ Hid (Below w2.heap.size w2 wr)) (fun i _ _ _ => a.length - (intOf i).toNat)
        case atStart => exact ⟨0, by omega, rfl, HW⟩
        case round =>
          clear HW
          obtain ⟨j, hj, rfl, HB⟩ := hrel
          by_cases hjl : j < a.length
          · have hjz : (j : Int) < (a.length : Int) := by omega
            obtain ⟨i0, hi0, hpk⟩ := Mem.out a[j] (List.getElem_mem hjl)
            have Hpk := Lib.hid hpk
            clear hpk
            obtain ⟨w7, hw7⟩ : ∃ x, x = wr := ⟨_, rfl⟩
            rw [← hw7] at HB
            rw [← hw7]
            clear hw7
            go_wp2_with fail
            go_loopw [13, 14] (fun wrt i wr => ∃ (ii : Nat) (hb : Bool), ii ≤ k ∧ i = .int .i64 ii ∧ wrt = .bool hb ∧ Hid (i0 < ii → hb = true) ∧ Hid (Below w7.heap.size w7 wr)) (fun _ i _ => k - (intOf i).toNat)
            case atStart => exact ⟨0, false, by omega, rfl, rfl, fun h => absurd h (by omega), Below.refl _ _⟩
            case round =>
              obtain ⟨i, hb, hi, rfl, rfl, HH, HBi⟩ := hrel
              by_cases hil : i < k
              · have hiz : (i : Int) < (k : Int) := by omega
                have hiz2 : (i : Int) < (l.length : Int) := by omega
                have HB7 : Hid (Below w2.heap.size w2 wr) := HB.out.trans (HBi.out.mono HB.out.size)
                obtain ⟨b, off, cap, he, -, x0, x1, x2, x3, x4⟩ := ent_get (HL.out.below HB7.out) i (by omega)
                simp only [Value.slice.injEq] at he
                obtain ⟨rfl, -, rfl⟩ := he
                obtain ⟨ba, oa, capa, he, -, y0, y1, y2, y3, y4⟩ := ent_get (HA.out.below HB7.out) j hjl
                simp only [Value.slice.injEq] at he
                obtain ⟨rfl, -, rfl⟩ := he
                cases hb with
                | true =>
                  have hfin : Hid (i0 < i + 1 → true = true) := fun _ => rfl
                  have CE : Hid (∀ X : Ext wr, Calls Try.prog 29 #[(l[i]'(by omega)).val] X.1 fun e w' => e = .returned (EntPick (l[i]'(by omega))).val ∧ Below X.1.heap.size X.1 w') := fun X => centryOf _ X.1
                  clear x0 x1 x2 x3 x4 y0 y1 y2 y3 y4
                  go_upto_region 26 with (fail)
                  refine wp_region_grow (by kernel_rfl) (by kernel_rfl) ?_
                  repeat (go_big_quiet_step ((go_at_call 29; with_reducible exact grow_of (CE.out _))))
                  refine wpQuiet_nil ?_
                  intro w8 hb8
                  have HB8 : Hid (Below w7.heap.size w7 w8) := HBi.out.trans (hb8.mono HBi.out.size)
                  clear hb8 CE
                  go_wp2_with fail
                  go_roundw
                  case rel => exact ⟨i + 1, true, by omega, by go_num, rfl, hfin, HB8⟩
                  case measure => first | (simp [intOf]; done) | (simp [intOf]; omega)
                | false =>
                  have CE0 := Lib.hid fun X => centryOf (l[i]'(by omega)) X
                  have hne : Hid (∀ hl : i < l.length, i0 < i + 1 → eqb (EntPick l[i]) a[j] = true) := fun hl hlt => by
                    by_cases e : i0 = i
                    · subst e; rw [Hpk.out]; exact eqb_self _
                    · exact absurd (HH.out (by omega)) (by simp)
                  have hne2 := Lib.hid (hne.out (by omega))
                  unfold Ent.val at CE0
                  generalize EntPick (l[i]'(by omega)) = e0 at *
                  generalize (l[i]'(by omega)) = x at *
                  have HE := eql_ent e0.k e0.v e0.t e0.h a[j].k a[j].v a[j].t a[j].h e0.g a[j].g
                  obtain ⟨q, hq⟩ : ∃ q, Hid (q = eqb e0 a[j]) := ⟨eqb e0 a[j], (rfl : eqb e0 a[j] = eqb e0 a[j])⟩
                  have hee : eqb ⟨e0.k, e0.v, e0.t, e0.h, e0.g⟩ ⟨a[j].k, a[j].v, a[j].t, a[j].h, a[j].g⟩ = q := hq.out.symm
                  rw [hee] at HE
                  have hfin : Hid (i0 < i + 1 → q = true) := fun h => by rw [hq.out]; exact hne2.out h
                  have CE : Hid (∀ X : Ext wr, Calls Try.prog 29 #[.agg #[.int .i64 x.k, .int .i64 x.v, .int .i64 x.t, .int .i64 x.h, .bool x.g]] X.1 fun e w' => e = .returned (.agg #[.int .i64 e0.k, .int .i64 e0.v, .int .i64 e0.t, .int .i64 e0.h, .bool e0.g]) ∧ Below X.1.heap.size X.1 w') := fun X => CE0.out X.1
                  have p0 := ext_cell x0
                  have p1 := ext_cell x1
                  have p2 := ext_cell x2
                  have p3 := ext_cell x3
                  have p4 := ext_cell x4
                  have q0 := ext_cell y0
                  have q1 := ext_cell y1
                  have q2 := ext_cell y2
                  have q3 := ext_cell y3
                  have q4 := ext_cell y4
                  clear x0 x1 x2 x3 x4 y0 y1 y2 y3 y4 hee hne hne2 CE0 hq HH
                  generalize a[j].k = ak at *
                  generalize a[j].v = av at *
                  generalize a[j].t = at' at *
                  generalize a[j].h = ah at *
                  generalize a[j].g = ag at *
                  go_upto_region 26 with (fail)
                  refine wp_region_grow (by kernel_rfl) (by kernel_rfl) ?_
                  repeat (go_big_quiet_step ((go_at_call 29; with_reducible exact grow_of (CE.out _))))
                  refine wpQuiet_nil ?_
                  intro w8 hb8
                  have HB8 : Hid (Below w7.heap.size w7 w8) := HBi.out.trans (hb8.mono HBi.out.size)
                  clear hb8 CE p0 p1 p2 p3 p4 q0 q1 q2 q3 q4 HE
                  go_wp2_with fail
                  go_roundw
                  case rel => exact ⟨i + 1, q, by omega, by go_num, rfl, hfin, HB8⟩
                  case measure => first | (simp [intOf]; done) | (simp [intOf]; omega)
              · obtain rfl : i = k := by omega
                have hbt := HH.out hi0
                subst hbt
                have HB8 : Hid (Below w2.heap.size w2 wr) := HB.out.trans (HBi.out.mono HB.out.size)
                clear HH HBi
                go_wp2_with fail
                go_roundw
                case rel => exact ⟨j + 1, by omega, by go_num, HB8⟩
                case measure => first | (simp [intOf]; done) | (simp [intOf]; omega)
          · obtain rfl : j = a.length := by omega
            obtain ⟨w8, hw8⟩ : ∃ x, x = wr := ⟨_, rfl⟩
            rw [← hw8] at HB ⊢
            have HW := Lib.hid HB.out
            clear hw8 HB
            go_upto_region 31 with (fail)
            obtain ⟨r, hr⟩ : ∃ r : Nat, 0 < k → (r : Int) = pick turn k := ⟨(pick turn k).toNat, fun h => by have := pick_bd turn k (by omega); omega⟩
            have Hr := Lib.hid hr
            clear hr
            go_loopw [15, 16] (fun oth i wr => ∃ ii : Nat, ii ≤ k ∧ i = .int .i64 ii ∧ Hid (wr.ownsRow w2.heap.size 75 5 oth ii (ents (turned l k r ii))) ∧ Hid (Below w2.heap.size w2 wr)) (fun _ i _ => k - (intOf i).toNat)
            case atStart => exact ⟨0, by omega, rfl, World.ownsRow_nil _ _ _ _, HW⟩
            case round =>
              clear HW
              obtain ⟨i, hi, rfl, HO, HB⟩ := hrel
              by_cases hil : i < k
              · have hiz : (i : Int) < (k : Int) := by omega
                have hkp : (0 : Int) < (k : Int) := by omega
                obtain ⟨q0, q1⟩ := pick_bd turn k (by omega)
                have hrk := Hr.out (by omega)
                have hrlt : r < k := by omega
                have hmod : (i + r) % k < k := Nat.mod_lt _ (by omega)
                have CP := Lib.hid fun X => picked turn k (by omega) (by omega) X
                obtain ⟨b, off, cap, he, -, x0, x1, x2, x3, x4⟩ := ent_get (HL.out.below HB.out) ((i + r) % k) (by omega)
                simp only [Value.slice.injEq] at he
                obtain ⟨rfl, -, rfl⟩ := he
                have hsucc := turned_succ l k r i (by omega)
                have hx : Hid (∀ h : (i + r) % k < l.length, l[(i + r) % k] = l[(i + r) % k]) := fun _ => rfl
                generalize l[(i + r) % k]'(by omega) = x at *
                have Hsucc := Lib.hid hsucc
                generalize hmm : (i + r) % k = mm at *
                have hw1 : IntKind.i64.wrap ((i : Int) + (r : Int)) = (i : Int) + (r : Int) := IntWalk.i64_in _ (by omega)
                have hmz : (mm : Int) < (l.length : Int) := by omega
                have hmz2 : ((i : Int) + (r : Int)) % (k : Int) < (l.length : Int) := by have := Int.emod_lt_of_pos ((i : Int) + (r : Int)) hkp; omega
                have hmz3 : 0 ≤ ((i : Int) + (r : Int)) % (k : Int) := Int.emod_nonneg _ (by omega)
                rw [← hrk] at CP
                clear hsucc hrk q0 q1 hx
                go_wp2_with fail
                refine (CP.out _).mono ?_
                rintro e w' ⟨rfl, rfl⟩
                rename World => wr
                have hbx : Below wr.heap.size wr (wr.alloc (.cells #[.int .i64 x.k, .int .i64 x.v, .int .i64 x.t, .int .i64 x.h, .bool x.g] 75)) := (Below.refl _ _).alloc (Nat.le_refl _) _
                have hnewb := heap_alloc_new wr (.cells #[.int .i64 x.k, .int .i64 x.v, .int .i64 x.t, .int .i64 x.h, .bool x.g] 75)
                have hown1 := Lib.hid (owns_block (wp := wr) (cs := x.cells) (n := 1) (sz := 5) hnewb rfl rfl (by decide) HB.out.size)
                have hsrc := Lib.hid ((Has.of_owns HO.out).below hbx)
                have hone := Lib.hid (ents_all (turned l k r i))
                have hszz : w2.heap.size ≤ (wr.alloc (.cells #[.int .i64 x.k, .int .i64 x.v, .int .i64 x.t, .int .i64 x.h, .bool x.g] 75)).heap.size := Nat.le_trans HB.out.size hbx.size
                have Hbx := Lib.hid hbx
                obtain ⟨ao, co, rfl⟩ := owns_slice HO.out
                have hi30 : i ≤ 30 := by omega
                clear hbx hnewb CP
                go_wp2_with (refine wp_appN (w0 := wr.alloc (.cells #[.int .i64 x.k, .int .i64 x.v, .int .i64 x.t, .int .i64 x.h, .bool x.g] 75)) 64 75 5 40 _ elNote Try.underlying64 w2.heap.size _ _ _ hown1.out (Below.refl _ _) _ i (ents (turned l k r i)) hsrc.out (by rfl) _ _ (by rfl) (by rfl) (by rfl) hone.out (by omega) (by unfold maxLen; omega) hszz ?_; intro v3 w3 hown3 hgrow3 hb3)
                have hP : Hid (w3.ownsRow w2.heap.size 75 5 v3 (i + 1) (ents (turned l k r (i + 1)))) := by
                  rw [Hsucc.out, show i + 1 = 1 + i by omega]
                  exact hown3
                have HB3 : Hid (Below w2.heap.size w2 w3) := (HB.out.trans (Hbx.out.mono HB.out.size)).trans hb3
                clear hown3 hgrow3 hb3
                go_roundw
                case rel => exact ⟨i + 1, by omega, by go_num, hP, HB3⟩
                case measure => first | (simp [intOf]; done) | (simp [intOf]; omega)
              · obtain rfl : i = k := by omega
                obtain ⟨ao, co, rfl⟩ := owns_slice HO.out
                have CZ := Lib.hid (centriesOf (.slice ao i co) (turned l i r i) wr (by rw [turned_length]; exact Has.of_owns HO.out))
                rw [turned_same l i r Hn.out, Ea.out] at CZ
                go_wp2_with fail
                refine CZ.out.mono ?_
                rintro e w9 ⟨vz, rfl, hown9, hb9⟩
                have HB9 : Hid (Below w2.heap.size w2 w9) := HB.out.trans (hb9.mono HB.out.size)
                have HZ := Lib.hid (Has.of_owns hown9)
                have HA9 := Lib.hid (HA.out.below HB9.out)
                clear CZ hown9 hb9 HO HB
                go_wp2_with fail
                refine (csameEntries _ _ a w9 HA9.out HZ.out).mono ?_
                rintro e w10 ⟨rfl, hb10⟩
                have HB10 : Hid (Below w.heap.size w w10) := B2.out.trans ((HB9.out.trans (hb10.mono HB9.out.size)).mono B2.out.size)
                clear hb10
                go_wp2_with fail
                go_ret
                exact ⟨rfl, HB10.out⟩
end Go.Proofs.Ytgmichaconnhaaa.mergeNewest
