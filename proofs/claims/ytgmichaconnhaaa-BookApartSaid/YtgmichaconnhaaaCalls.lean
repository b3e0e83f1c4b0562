/- Books: the laws' Calls. -/
import Derived.Test.YtgmichaconnhaaaBooked
namespace Go.Proofs.Ytgmichaconnhaaa
open Go.ChangeShapes Go.WideShapes Go.ChangeAt Go.RowKit
set_option linter.unusedVariables false
set_option linter.unusedSimpArgs false

/-- A plea, turned into a call. -/
def callOf (p : Cal) : Cal := if pick p.kind 6 = 0 then ⟨1, 0, 1 + pick p.count 40⟩ else if pick p.kind 6 ≤ 3 then ⟨2, pick p.who 3, pick p.count 60⟩ else ⟨3, 0, 0⟩
def callsOf (l : List Cal) (n : Nat) : List Cal := (l.take n).map callOf
theorem callOf_ok (p : Cal) : CalOk 3 (callOf p) := by
  unfold callOf
  have h1 := pick_bd p.count 40 (by omega)
  have h2 := pick_bd p.who 3 (by omega)
  have h3 := pick_bd p.count 60 (by omega)
  split
  · exact Or.inl ⟨rfl, by simp only; omega, by simp only; omega⟩
  · split
    · exact Or.inr (Or.inl ⟨rfl, by simp only; omega, by simp only; omega, by simp only; omega, by simp only; omega⟩)
    · exact Or.inr (Or.inr rfl)
theorem callsOf_ok (l : List Cal) (n : Nat) : (∀ c ∈ callsOf l n, CalOk 3 c) ∧ (callsOf l n).length ≤ n := by
  refine ⟨fun c hc => ?_, by simp [callsOf]; omega⟩
  simp only [callsOf, List.mem_map] at hc
  obtain ⟨p, _, rfl⟩ := hc
  exact callOf_ok p
theorem cals_snoc (l : List Cal) (c : Cal) : cals (l ++ [c]) = cals l ++ c.cells := by simp [cals, Cal.cells]
theorem calls_next {w : World} {base : Nat} {v : Value} (l : List Cal) (k : Nat) (h : k < l.length) {c : Cal} (hc : callOf l[k] = c) (hown : w.ownsRow base 46 3 v (k + 1) (cals ((l.take k).map callOf) ++ c.cells)) :
    w.ownsRow base 46 3 v (k + 1) (cals ((l.take (k + 1)).map callOf)) := by
  rw [take_snoc _ _ h, List.map_append, List.map_cons, List.map_nil, hc, cals_snoc]; exact hown
set_option maxRecDepth 100000 in
set_option maxHeartbeats 4000000 in
theorem ccalls (v : Value) (l : List Cal) (n : Nat) (w : World) (h : Has w 3 v l.length (cals l)) (hn : n ≤ 1000) :
    Calls Try.prog 18 #[v, .int .i64 n] w fun e w' => ∃ v', e = .returned v' ∧ w'.ownsRow w.heap.size 46 3 v' (callsOf l n).length (cals (callsOf l n)) ∧ Below w.heap.size w w' := by
  obtain ⟨⟨hl2, hnil⟩, ad, cap, rfl, hcn, hcm, hc⟩ := h
  have Hc := Lib.hid hc
  unfold maxLen at hcm
  clear hc hl2 hnil
  go_enter Try.func18, Try.ntmps18
  go_wp2_with fail
  go_loopw [5, 6, 7, 26, 36] (fun out i _ _ _ wr => ∃ k : Nat, k ≤ l.length ∧ k ≤ n ∧ i = .int .i64 k ∧ wr.ownsRow w.heap.size 46 3 out k (cals ((l.take k).map callOf)) ∧ Below w.heap.size w wr) (fun _ i _ _ _ _ => l.length - (intOf i).toNat)
  case atStart => exact ⟨0, by omega, by omega, rfl, World.ownsRow_nil _ _ _ _, Below.refl _ _⟩
  case round =>
    obtain ⟨k, hk, hkn, rfl, ho, hb⟩ := hrel
    have Ho := Lib.hid ho
    have Hb := Lib.hid hb
    have hszw := hb.size
    clear ho hb
    by_cases h1 : k < l.length
    · by_cases h2 : k < n
      · obtain ⟨b, off, rfl, hcc⟩ := Hc.out (by simp [cals_length]; omega)
        have x0 := cell_on Hb.out (hcc (k * 3 + 0) (.int .i64 l[k].kind) (by unfold cals; rw [flat_get Cal.cells 3 Cal.cells_length l k h1 0 (by omega)]; rfl))
        have x1 := cell_on Hb.out (hcc (k * 3 + 1) (.int .i64 l[k].who) (by unfold cals; rw [flat_get Cal.cells 3 Cal.cells_length l k h1 1 (by omega)]; rfl))
        have x2 := cell_on Hb.out (hcc (k * 3 + 2) (.int .i64 l[k].count) (by unfold cals; rw [flat_get Cal.cells 3 Cal.cells_length l k h1 2 (by omega)]; rfl))
        rw [Nat.add_zero] at x0
        rw [← Nat.add_assoc] at x1 x2
        have hbl := World.block_lt_of_cell? wr _ x0
        have Hnx := Lib.hid fun (c : Cal) (hc : callOf l[k] = c) X base v => calls_next (w := X) (base := base) (v := v) l k h1 hc
        have hcall : callOf l[k] = if pick l[k].kind 6 = 0 then ⟨1, 0, 1 + pick l[k].count 40⟩ else if pick l[k].kind 6 ≤ 3 then ⟨2, pick l[k].who 3, pick l[k].count 60⟩ else ⟨3, 0, 0⟩ := rfl
        generalize l[k] = x at *
        obtain ⟨kd, wh, ct⟩ := x
        simp only at *
        obtain ⟨p0, p1⟩ := pick_bd kd 6 (by omega)
        obtain ⟨q0, q1⟩ := pick_bd wh 3 (by omega)
        obtain ⟨r0, r1⟩ := pick_bd ct 40 (by omega)
        obtain ⟨s0, s1⟩ := pick_bd ct 60 (by omega)
        have P6 := Lib.hid fun X => picked kd 6 (by omega) (by omega) X
        have P3 := Lib.hid fun X => picked wh 3 (by omega) (by omega) X
        have P40 := Lib.hid fun X => picked ct 40 (by omega) (by omega) X
        have P60 := Lib.hid fun X => picked ct 60 (by omega) (by omega) X
        generalize pick kd 6 = p at *
        generalize pick wh 3 = q at *
        generalize pick ct 40 = r at *
        generalize pick ct 60 = s at *
        have Hcall := Lib.hid hcall
        clear hcc hcall
        go_wp2_with fail
        with_reducible refine (P6.out _).mono ?_
        rintro e w' ⟨rfl, rfl⟩
        have hblk : (wr.alloc (Obj.cells #[Value.int IntKind.i64 3, Value.int IntKind.i64 0, Value.int IntKind.i64 0] 46)).heap[wr.heap.size]? = some (.cells #[.int .i64 3, .int .i64 0, .int .i64 0] 46 (0, 0)) := heap_alloc_new _ _
        obtain ⟨y0, y1, y2, z0, z1, z2⟩ := three_cells hblk
        clear hblk
        rcases (show p = 0 ∨ (1 ≤ p ∧ p ≤ 3) ∨ (p = 4 ∨ p = 5) by omega) with e0 | e0 | e0
        · subst e0
          rw [if_pos rfl] at Hcall
          go_wp2_with fail
          with_reducible refine (P40.out _).mono ?_
          rintro e w' ⟨rfl, rfl⟩
          go_wp2_with (at_builtin; refine wp_app1 (w0 := wr) 39 46 3 24 _ elCall Try.underlying39 w.heap.size _ _ _ Ho.out (by repeat (first | exact Below.refl _ _ | refine Below.drew ?_ | refine Below.alloc ?_ (by first | (simp; done) | (simp; omega)) _ | refine Below.setCell ?_ (by first | (simp; done) | (simp; omega)) _)) [.int .i64 1, .int .i64 0, .int .i64 (1 + r)] rfl _ _ rfl rfl rfl (by first | exact heap_alloc_new _ _ | (simp only [heap_drew, heap_drewN]; exact heap_alloc_new _ _)) (by simp) rfl rfl (by omega) (by omega) hszw ?_; intro v3 w3 hown3 hgrow3 hb3)
          go_roundw
          case rel => exact ⟨k + 1, by omega, by omega, by go_num, Hnx.out _ Hcall.out _ _ _ hown3, Hb.out.trans hb3⟩
          case measure => simp [intOf]; omega
        · rw [if_neg (by omega), if_pos e0.2] at Hcall
          have d0 : (p == 0) = false := by rw [beq_eq_false_iff_ne]; omega
          rcases (show p = 1 ∨ p = 2 ∨ p = 3 by omega) with rfl | rfl | rfl
          all_goals
            go_wp2_with fail
            go_region_held3 (fun X => X.cell? ⟨b, off + k * 3, none⟩ = some (.int .i64 kd) ∧ X.cell? ⟨b, off + k * 3 + 1, none⟩ = some (.int .i64 wh) ∧ X.cell? ⟨b, off + k * 3 + 2, none⟩ = some (.int .i64 ct))
              (go_keep)
              (first | (go_at_call 17; with_reducible refine (P3.out _).mono ?_; rintro e w' ⟨rfl, rfl⟩) | (go_at_call 17; with_reducible refine (P60.out _).mono ?_; rintro e w' ⟨rfl, rfl⟩) | fail)
            all_goals
              go_wp2_with (at_builtin; refine wp_app1 (w0 := wr) 39 46 3 24 _ elCall Try.underlying39 w.heap.size _ _ _ Ho.out (by repeat (first | exact Below.refl _ _ | refine Below.drew ?_ | refine Below.alloc ?_ (by first | (simp; done) | (simp; omega)) _ | refine Below.setCell ?_ (by first | (simp; done) | (simp; omega)) _)) [.int .i64 2, .int .i64 q, .int .i64 s] rfl _ _ rfl rfl rfl (by first | exact heap_alloc_new _ _ | (simp only [heap_drew, heap_drewN]; exact heap_alloc_new _ _)) (by simp) rfl rfl (by omega) (by omega) hszw ?_; intro v3 w3 hown3 hgrow3 hb3)
              go_roundw
              case rel => exact ⟨k + 1, by omega, by omega, by go_num, Hnx.out _ Hcall.out _ _ _ hown3, Hb.out.trans hb3⟩
              case measure => simp [intOf]; omega
        · rw [if_neg (by omega), if_neg (by omega)] at Hcall
          rcases e0 with rfl | rfl
          all_goals
            go_wp2_with (at_builtin; refine wp_app1 (w0 := wr) 39 46 3 24 _ elCall Try.underlying39 w.heap.size _ _ _ Ho.out (by repeat (first | exact Below.refl _ _ | refine Below.drew ?_ | refine Below.alloc ?_ (by first | (simp; done) | (simp; omega)) _ | refine Below.setCell ?_ (by first | (simp; done) | (simp; omega)) _)) [.int .i64 3, .int .i64 0, .int .i64 0] rfl _ _ rfl rfl rfl (by first | exact heap_alloc_new _ _ | (simp only [heap_drew, heap_drewN]; exact heap_alloc_new _ _)) (by simp) rfl rfl (by omega) (by omega) hszw ?_; intro v3 w3 hown3 hgrow3 hb3)
            go_roundw
            case rel => exact ⟨k + 1, by omega, by omega, by go_num, Hnx.out _ Hcall.out _ _ _ hown3, Hb.out.trans hb3⟩
            case measure => simp [intOf]; omega
      · obtain rfl : k = n := by omega
        have HO : Hid (wr.ownsRow w.heap.size 46 3 u5 (callsOf l k).length (cals (callsOf l k))) := by
          rw [show (callsOf l k).length = k by simp [callsOf]; omega]; exact Ho.out
        clear Ho
        go_wp2
        go_ret
        exact ⟨_, rfl, HO.out, Hb.out⟩
    · obtain rfl : k = l.length := by omega
      have HO : Hid (wr.ownsRow w.heap.size 46 3 u5 (callsOf l n).length (cals (callsOf l n))) := by
        have h := Ho.out
        rw [List.take_length] at h
        unfold callsOf
        rw [List.take_of_length_le (by omega), List.length_map]; exact h
      clear Ho
      go_wp2
      go_ret
      exact ⟨_, rfl, HO.out, Hb.out⟩
end Go.Proofs.Ytgmichaconnhaaa
