/- HoldOnce: the walk. -/
import Derived.Test.YtgmichaconnhaaaHOnceL
import Derived.Test.YtgmichaconnhaaaRefusedL
import Derived.Test.YtgmichaconnhaaaOpenWish
import Derived.Test.YtgmichaconnhaaaRow
namespace Go.Proofs.Ytgmichaconnhaaa.holdOnce
open Go.ChangeShapes Go.WideShapes Go.ChangeAt Go.RowKit
set_option linter.unusedVariables false
set_option linter.unusedSimpArgs false

def bools (l : List Bool) : List Value := l.map Value.bool
theorem bools_set (l : List Bool) (i : Nat) (b : Bool) : (bools l).set i (.bool b) = bools (l.set i b) := by simp [bools, List.map_set]
theorem infoBool : (Try.prog.info? 4).map (fun i => (i.zero, i.size, i.bytes)) = some (some (.bool false), 1, 1) := by kernel_rfl
/-- What was ended is not open. -/
def EndedOk (s : Shf) (eb : List Bool) : Prop := eb.length = 200 ∧ ∀ i : Nat, eb[i]? = some true → (i : Int) ≤ s.made ∧ ¬ s.has i
theorem EndedOk.next {s : Shf} {eb : List Bool} (h : EndedOk s eb) (o : Ord) : EndedOk (s.next o) eb :=
  ⟨h.1, fun i hi => by
    obtain ⟨h1, h2⟩ := h.2 i hi
    have h3 := (next_made s o).1
    refine ⟨by omega, fun hh => ?_⟩
    rcases next_has s o i hh with h4 | h4
    · exact h2 h4
    · omega⟩
theorem EndedOk.ends {s : Shf} {eb : List Bool} (h : EndedOk s eb) (o : Ord) (j : Nat) (hj : (j : Int) ≤ s.made) (hn : ¬ (s.next o).has j) : EndedOk (s.next o) (eb.set j true) := by
  have h0 := h.next o
  refine ⟨by simp [h.1], fun i hi => ?_⟩
  rw [List.getElem?_set] at hi
  by_cases e : j = i
  · subst e
    have h3 := (next_made s o).1
    exact ⟨by omega, hn⟩
  · rw [if_neg e] at hi
    exact h0.2 i hi
theorem EndedOk.open {s : Shf} {eb : List Bool} (h : EndedOk s eb) (j : Nat) (hj : j < 200) (hh : s.has j) : eb[j]? = some false := by
  have hl : j < eb.length := by rw [h.1]; exact hj
  rw [List.getElem?_eq_getElem hl]
  cases e : eb[j] with
  | false => rfl
  | true => exact absurd hh (h.2 j (by rw [List.getElem?_eq_getElem hl, e])).2
set_option maxRecDepth 100000 in
set_option maxHeartbeats 8000000 in
theorem walk (w : World) (v0 : Value) (ll : List Ord) (A1 : Has w 4 v0 ll.length (ords ll)) :
    Calls Try.prog 4 #[v0] w fun e w' => e = .returned (.bool true) ∧ Below w.heap.size w w' := by
  have CL := Lib.hid (cordersOf v0 ll 150 w A1 (by omega))
  have hok := ordersOf_ok ll 150
  have hl60 := ordersOf_len ll 150
  have hsm := ordersOf_small ll 150
  generalize ordersOf ll 150 = l at *
  have Hok := Lib.hid hok
  have Hsm := Lib.hid hsm
  clear A1 hok hsm
  have hmk : ∀ X : World, (Instr.makeSlice 35 (.int .i64 200) (.int .i64 200)).run Try.prog X = .ok (.slice (some ⟨X.heap.size, 0, none⟩) 200 200) (X.alloc (.cells (List.replicate 200 (.bool false)).toArray 4)) := fun X => run_mk infoBool Try.underlying35 rfl X 200 (by omega) (by omega)
  generalize hzs : (List.replicate 200 (Value.bool false)).toArray = zs at hmk
  have Hzs := Lib.hid hzs
  clear hzs
  go_enter Try.func4, Try.ntmps4
  go_wp2_with fail
  refine CL.out.mono ?_
  rintro e w1 ⟨vl, rfl, hown, hb1⟩
  obtain ⟨al, cl, rfl⟩ := owns_slice hown
  have HL := Lib.hid (Has.of_owns hown)
  have Hb1 := Lib.hid hb1
  clear hown hb1 CL
  have CM := Lib.hid (cstocked _ l w1 HL.out Hok.out (by omega))
  go_wp2_with fail
  refine CM.out.mono ?_
  rintro e w2 ⟨va, rfl, hown, hb2⟩
  have HO := Lib.hid hown
  have HL2 := Lib.hid (HL.out.below hb2)
  have Hw2 : Hid (Below w.heap.size w w2) := Hb1.out.trans (hb2.mono Hb1.out.size)
  obtain ⟨aS, cS, rfl⟩ := owns_slice hown
  clear hown hb2 CM HL Hb1
  go_wp2_with fail
  refine (cshelfSure w2).mono ?_
  rintro e w5 ⟨rfl, hb5⟩
  have HO5 := Lib.hid (owns_below HO.out hb5)
  have HL5 := Lib.hid (HL2.out.below hb5)
  have Hw5 : Hid (Below w.heap.size w w5) := Hw2.out.trans (hb5.mono Hw2.out.size)
  clear hb5 HO HL2 Hw2
  go_wp2_with fail
  have hE : (w5.alloc (.cells zs 4)).ownsRow w5.heap.size 4 1 (.slice (some ⟨w5.heap.size, 0, none⟩) 200 200) 200 (bools (List.replicate 200 false)) :=
    owns_block (wp := w5) (cs := bools (List.replicate 200 false)) (by rw [show (bools (List.replicate 200 false)).toArray = (List.replicate 200 (.bool false)).toArray by simp [bools], Hzs.out]; exact heap_alloc_new _ _) rfl (by simp [bools]) (by unfold maxLen; omega) (Nat.le_refl _)
  have HE := Lib.hid hE
  have Hb6 : Hid (Below w5.heap.size w5 (w5.alloc (.cells zs 4))) := (Below.refl _ _).alloc (Nat.le_refl _) _
  clear hE hmk
  generalize w5.alloc (.cells zs 4) = w6 at *
  go_loopw [6, 8, 9] (fun ma i _ wr => ∃ (k : Nat) (eb : List Bool), k ≤ l.length ∧ i = .int .i64 k ∧ ma = .int .i64 (shfFold (l.take k)).1.made ∧ Hid (EndedOk (shfFold (l.take k)).1 eb) ∧ Hid (wr.ownsRow w5.heap.size 4 1 (.slice (some ⟨w5.heap.size, 0, none⟩) 200 200) 200 (bools eb)) ∧ Hid (Below w5.heap.size w5 wr)) (fun _ i _ _ => l.length - (intOf i).toNat)
  case atStart => exact ⟨0, List.replicate 200 false, by omega, rfl, rfl, ⟨by simp, fun i hi => by rw [List.getElem?_replicate] at hi; split at hi <;> simp at hi⟩, HE, Hb6⟩
  case round =>
    clear HE Hb6
    obtain ⟨k, eb, hk, rfl, rfl, HK, HE, HB⟩ := hrel
    by_cases hlt : k < l.length
    · obtain ⟨b, off, cap, he, -, x0, x1, x2, x3⟩ := ord_get HL5.out k hlt
      simp only [Value.slice.injEq] at he
      obtain ⟨rfl, -, rfl⟩ := he
      obtain ⟨g, cap', he, -, y0, y1, y2, y3, y4⟩ := stk_at HO5.out k hlt
      simp only [Value.slice.injEq] at he
      obtain ⟨rfl, -, rfl⟩ := he
      replace x0 := cell_on HB.out x0
      replace x3 := cell_on HB.out x3
      replace y0 := cell_on HB.out y0
      replace y1 := cell_on HB.out y1
      have hso := fold_ok l k (by omega)
      have hmk1 := fold_made l k (by omega)
      have hm0 := hso.made
      have hxo := Hok.out _ (List.getElem_mem hlt)
      have hid9 := (Hsm.out _ (List.getElem_mem hlt)).2.2
      have hst : (shfFold (l.take (k + 1))).1 = (shfFold (l.take k)).1.next l[k] := by rw [shfFold_take l k hlt]; rfl
      have Hst := Lib.hid hst
      have hltz : (k : Int) < (l.length : Int) := by omega
      generalize (shfFold (l.take k)).1 = s at *
      generalize l[k] = o at *
      have Hso := Lib.hid hso
      clear x1 x2 y2 y3 y4 hst hso
      have hm1 : IntKind.i64.wrap (s.made + 1) = s.made + 1 := IntWalk.i64_in _ (by omega)
      obtain ⟨hk0, hk7⟩ := hxo.kind
      by_cases h3 : o.kind = 3
      · rw [h3] at x0
        by_cases hc : (s.out o).code = 0
        · obtain ⟨i1, i2⟩ := hold_id h3 hc
          rw [hc] at y0
          rw [i1] at y1
          have hne : (s.made + 1 != s.made + 1) = false := by simp
          clear x3
          go_wp2_with fail
          go_roundw
          case rel => exact ⟨k + 1, eb, by omega, by go_num, by rw [Hst.out, i2], by rw [Hst.out]; exact HK.out.next o, HE, HB⟩
          case measure => first | (simp [intOf]; done) | (simp [intOf]; omega)
        · have hcb : ((s.out o).code == 0) = false := by rw [beq_eq_false_iff_ne]; exact hc
          have i2 := made_same (s := s) (o := o) (.inr hc)
          clear x3 y1
          generalize (s.out o).code = co at *
          go_wp2_with fail
          go_roundw
          case rel => exact ⟨k + 1, eb, by omega, by go_num, by rw [Hst.out, i2], by rw [Hst.out]; exact HK.out.next o, HE, HB⟩
          case measure => first | (simp [intOf]; done) | (simp [intOf]; omega)
      · have i2 := made_same (s := s) (o := o) (.inl h3)
        have h3b : (o.kind == 3) = false := by rw [beq_eq_false_iff_ne]; exact h3
        by_cases h45 : o.kind = 4 ∨ o.kind = 5
        · obtain ⟨q1, q2, q3⟩ := end_code Hso.out h45 (hxo.ids h45)
          obtain ⟨d0, -⟩ := hxo.id
          have d1 := hxo.ids h45
          obtain ⟨j, hj⟩ : ∃ j : Nat, o.id = (j : Int) := ⟨o.id.toNat, by omega⟩
          rw [hj] at x3 q1 q2 q3 d1 hid9
          have hj9 : j ≤ 9 := by omega
          by_cases hc : (s.out o).code = 0
          · obtain ⟨r1, r2, r3⟩ := q1 hc
            rw [hc] at y0
            have hf := HK.out.open j (by omega) r2
            obtain ⟨ge, ce, he, -, -, hfz, hcc⟩ := owns_some HE.out (by omega)
            simp only [Value.slice.injEq, Option.some.injEq, Addr.mk.injEq, and_true, true_and] at he
            obtain ⟨rfl, rfl⟩ := he
            have z0 := hcc j (.bool false) (by unfold bools; rw [List.getElem?_map, hf]; rfl)
            have f0 := hfz j
            have hjz : (j : Int) < 200 := by omega
            have HE2 : Hid ((wr.setCell ⟨w5.heap.size, j, none⟩ (.bool true)).ownsRow w5.heap.size 4 1 (.slice (some ⟨w5.heap.size, 0, none⟩) 200 200) 200 (bools (eb.set j true))) := by
              rw [← bools_set]; exact owns_set HE.out j _
            have HB2 : Hid (Below w5.heap.size w5 (wr.setCell ⟨w5.heap.size, j, none⟩ (.bool true))) := HB.out.setCell (Nat.le_refl _) _
            have HK2 : Hid (EndedOk (shfFold (l.take (k + 1))).1 (eb.set j true)) := by rw [Hst.out]; exact HK.out.ends o j r1 r3
            have hd : decide (s.made < (j : Int)) = false := by simp; omega
            clear q1 q2 q3 hcc hfz y1 hf
            rcases h45 with h4 | h4
            all_goals
              rw [h4] at x0
              go_wp2_with fail
              go_roundw
              case rel => exact ⟨k + 1, eb.set j true, by omega, by go_num, by rw [Hst.out, i2], HK2, HE2, HB2⟩
              case measure => first | (simp [intOf]; done) | (simp [intOf]; omega)
          · have hcb : ((s.out o).code == 0) = false := by rw [beq_eq_false_iff_ne]; exact hc
            have hfin : Hid (EndedOk (shfFold (l.take (k + 1))).1 eb) := by rw [Hst.out]; exact HK.out.next o
            clear q1 y1
            generalize (s.out o).code = co at *
            by_cases hc6 : co = 6
            · have := q2 hc6
              have hd : decide ((j : Int) ≤ s.made) = false := by simp; omega
              subst hc6
              clear q2 q3
              rcases h45 with h4 | h4
              all_goals
                rw [h4] at x0
                go_wp2_with fail
                go_roundw
                case rel => exact ⟨k + 1, eb, by omega, by go_num, by rw [Hst.out, i2], hfin, HE, HB⟩
                case measure => first | (simp [intOf]; done) | (simp [intOf]; omega)
            · have hc6b : (co == 6) = false := by rw [beq_eq_false_iff_ne]; exact hc6
              by_cases hc10 : co = 10
              · have := q3 hc10
                have hd : decide (s.made < (j : Int)) = false := by simp; omega
                subst hc10
                clear q2 q3
                rcases h45 with h4 | h4
                all_goals
                  rw [h4] at x0
                  go_wp2_with fail
                  go_roundw
                  case rel => exact ⟨k + 1, eb, by omega, by go_num, by rw [Hst.out, i2], hfin, HE, HB⟩
                  case measure => first | (simp [intOf]; done) | (simp [intOf]; omega)
              · have hc10b : (co == 10) = false := by rw [beq_eq_false_iff_ne]; exact hc10
                clear q2 q3
                rcases h45 with h4 | h4
                all_goals
                  rw [h4] at x0
                  go_wp2_with fail
                  go_roundw
                  case rel => exact ⟨k + 1, eb, by omega, by go_num, by rw [Hst.out, i2], hfin, HE, HB⟩
                  case measure => first | (simp [intOf]; done) | (simp [intOf]; omega)
        · have h4b : (o.kind == 4) = false := by rw [beq_eq_false_iff_ne]; omega
          have h5b : (o.kind == 5) = false := by rw [beq_eq_false_iff_ne]; omega
          have hfin : Hid (EndedOk (shfFold (l.take (k + 1))).1 eb) := by rw [Hst.out]; exact HK.out.next o
          generalize o.kind = kd at *
          clear x3 y0 y1 h3 h45
          go_wp2_with fail
          go_roundw
          case rel => exact ⟨k + 1, eb, by omega, by go_num, by rw [Hst.out, i2], hfin, HE, HB⟩
          case measure => first | (simp [intOf]; done) | (simp [intOf]; omega)
    · obtain rfl : k = l.length := by omega
      go_wp2_with fail
      go_ret
      exact ⟨rfl, Hw5.out.trans (HB.out.mono Hw5.out.size)⟩
end Go.Proofs.Ytgmichaconnhaaa.holdOnce
