/- Texts that the claim imports, laid together: ShareC ShareLaw Book Reg MergeL Chc RowW. No statement of their own. -/
import Derived.Laws.IdiomCopy
import Derived.Laws.Externs
import Derived.Lib.Overlaps
import Derived.Lib.AppendZerosOnto
import Derived.Deep.DeepAppendWide
import Derived.Test.YtjdedflfdlhkdaaGreatDoorKaa
namespace Go.Proofs.YtjdedflfdlhkdaaGreatDoor
open Go.ChangeShapes Go.WideShapes Go.ChangeAt Go.RowKit
set_option linter.unusedVariables false

theorem owns_mono {w : World} {base base' e sz n : Nat} {v : Value} {xs : List Value} (h : w.ownsRow base e sz v n xs) (hb : base' ≤ base) : w.ownsRow base' e sz v n xs := by
  obtain ⟨hl, h⟩ := h
  refine ⟨hl, ?_⟩
  rcases h with h | ⟨g, cap, cur, rfl, hg, r⟩
  · exact .inl h
  · exact .inr ⟨g, cap, cur, rfl, Nat.le_trans hb hg, r⟩
set_option maxRecDepth 100000 in
set_option maxHeartbeats 2000000 in
theorem csplit (v : Value) (ws : List Int) (total : Int) (w : World) (h : Has w 1 v ws.length (ints ws)) (hw : ∀ x ∈ ws, 0 ≤ x ∧ x ≤ 1048576) (hlen : ws.length ≤ 16) (h0 : 0 ≤ total) (h1 : total ≤ 1048576) :
    Calls Tryz.prog 83 #[.int .i64 total, v] w fun e w' => ∃ v' L, e = .returned (.tuple #[v', .int .i64 0]) ∧ Lev total ws L ∧ w'.ownsRow w.heap.size 3 1 v' ws.length (ints (give L (total - least ws L) ws)) ∧ Below w.heap.size w w' := by
  have hmf : ∀ (fn : Fn) (first cap : Array Value) (w : World), (Instr.makeFunc fn first cap).run Tryz.prog w = .ok (.func fn first cap) w := fun _ _ _ _ => rfl
  have Hh := Lib.hid h
  obtain ⟨_, a, cap, hv, _, _, _⟩ := h
  have Hv := Lib.hid hv
  have HW := Lib.hid hw
  have hv' : v = .slice a ws.length cap := hv
  subst hv'
  clear hw hv
  obtain ⟨w2, hw2⟩ : ∃ w2, w2 = (w.alloc (.cells #[.int .i64 total] 3)).alloc (.cells #[.slice a ws.length cap] 22) := ⟨_, rfl⟩
  have c2 : w2.cell? ⟨w.heap.size, 0, none⟩ = some (.int .i64 total) := by
    rw [hw2, World.cell?_alloc_past _ _ _ (by simp), World.cell?_alloc_at _ _ _ _ rfl]; rfl
  have c3 : w2.cell? ⟨w.heap.size + 1, 0, none⟩ = some (.slice a ws.length cap) := by
    rw [hw2, World.cell?_alloc_at _ _ _ _ (by simp)]; rfl
  have hs2 : w2.heap.size = w.heap.size + 2 := by rw [hw2]; simp
  have Hb2 : Hid (Below w.heap.size w w2) := by rw [hw2]; exact (by repeat (first | exact Below.refl _ _ | refine Below.drew ?_ | refine Below.alloc ?_ (by first | (simp; done) | (simp; omega)) _ | refine Below.setCell ?_ (by first | (simp; done) | (simp; omega)) _))
  have hH2 := Lib.hid (Hh.out.below Hb2.out)
  go_enter Tryz.func83, Tryz.ntmps83
  go_upto_region 3 with (fail)
  rw [← hw2]
  clear hw2
  have Hbd := Lib.hid hs2
  have hs2' : w.heap.size + 2 ≤ w2.heap.size := by omega
  have lt2 : w.heap.size < w2.heap.size := by omega
  have lt3 : w.heap.size + 1 < w2.heap.size := by omega
  clear hs2
  go_wp2_with (at_builtin; refine wp_appN (w0 := w2.alloc (.cells #[.int .i64 total] 3)) 22 3 1 8 _ elInt Tryz.underlying22 (w.heap.size + 2) _ 1 [.int .i64 total] (owns_block (by first | exact heap_alloc_new _ _ | (simp only [heap_drew, heap_drewN]; exact heap_alloc_new _ _)) rfl (by simp) (by unfold maxLen; omega) hs2') (Below.refl _ _) (.slice a ws.length cap) ws.length (ints ws) (hH2.out.below (by repeat (first | exact Below.refl _ _ | refine Below.drew ?_ | refine Below.alloc ?_ (by first | (simp; done) | (simp; omega)) _ | refine Below.setCell ?_ (by first | (simp; done) | (simp; omega)) _))) rfl _ _ rfl rfl rfl (ints_one ws) (by omega) (by unfold maxLen; omega) (by simp; omega) ?_; intro v3 w3 hown3 hgrow3 hb3; obtain ⟨a3, cap3, rfl⟩ := owns_slice hown3)
  have hHl : Has w3 1 (.slice a3 (1 + ws.length) cap3) (total :: ws).length (ints (total :: ws)) := by
    have := Has.of_owns hown3
    rw [List.length_cons, Nat.add_comm ws.length 1]; exact this
  have hbb : Below (w.heap.size + 2) w2 w3 := Below.trans ((Below.refl _ _).alloc hs2' _) hb3
  have Hb3 : Hid (Below w.heap.size w w3) := Hb2.out.trans (hbb.mono (by omega))
  have d2 : w3.cell? ⟨w.heap.size, 0, none⟩ = some (.int .i64 total) := by rw [hbb.cell (p := ⟨w.heap.size, 0, none⟩) (by simp)]; exact c2
  have d3 : w3.cell? ⟨w.heap.size + 1, 0, none⟩ = some (.slice a ws.length cap) := by rw [hbb.cell (p := ⟨w.heap.size + 1, 0, none⟩) (by simp)]; exact c3
  have lt2' : w.heap.size < w3.heap.size := by have := hbb.size; omega
  have lt3' : w.heap.size + 1 < w3.heap.size := by have := hbb.size; omega
  have hH3 := Lib.hid (Hh.out.below Hb3.out)
  clear hown3 hgrow3 hb3 hbb c2 c3 lt2 lt3 hH2 Hb2 Hbd hs2'
  obtain ⟨_, a', cap', he, _, hm', hc'⟩ := hHl
  simp only [Value.slice.injEq] at he
  obtain ⟨rfl, -, rfl⟩ := he
  unfold maxLen at hm'
  have HC := Lib.hid hc'
  have hall : ∀ x ∈ total :: ws, 0 ≤ x ∧ x ≤ 1048576 := fun x hx => by
    rcases List.mem_cons.1 hx with rfl | hx
    · exact ⟨h0, h1⟩
    · exact HW.out x hx
  have HA := Lib.hid hall
  clear hc' hall
  go_wp2_with fail
  go_loop [7, 22] (fun x i => ∃ k : Nat, k ≤ 1 + ws.length ∧ i = .int .i64 k) (fun _ i => 1 + ws.length - (intOf i).toNat)
  case atStart => exact ⟨0, by omega, rfl⟩
  case round =>
    obtain ⟨k, hk, rfl⟩ := hrel
    by_cases hlt : k < 1 + ws.length
    · have hlt' : k < (total :: ws).length := by simp; omega
      obtain ⟨b, off, rfl, hcc⟩ := HC.out (by simp)
      have g := hcc _ _ (ints_get (total :: ws) k hlt')
      obtain ⟨x1, x2⟩ := HA.out _ (List.getElem_mem hlt')
      generalize (total :: ws)[k] = x at *
      clear hcc HC
      go_wp2
      go_round
      case rel => exact ⟨k + 1, by omega, by go_num⟩
      case measure => simp [intOf]; omega
    · have hkk : k = 1 + ws.length := by omega
      clear hk HC HA
      have hF : ∀ (x : Int) (X : World), 0 ≤ x → x < 1048577 → Below w3.heap.size w3 X → Calls Tryz.prog 101 #[.int .i64 x, .pointer (some ⟨w.heap.size + 1, 0, none⟩), .pointer (some ⟨w.heap.size, 0, none⟩)] X fun e w' => e = .returned (.bool (decide (total < least ws x))) ∧ ∃ m, w' = X.drewN m :=
        fun x X hx0 hx1 hX => cover _ _ _ ws total x X (hH3.out.below hX) HW.out hlen hx0 (by omega) (cell_on hX d3) (cell_on hX d2)
      have HS := Lib.hid (csearch (w.heap.size + 1) w.heap.size (fun x => decide (total < least ws x)) 1048577 w3 (by omega) (by omega) hF)
      clear hF
      go_wp2_with (go_at_call 100; refine HS.out.mono ?_; rintro e w4 ⟨r, rfl, hr0, hr1, hr2, hr3, hb4⟩)
      have hl0 : least ws 0 ≤ total := by
        have : ∀ l : List Int, (∀ x ∈ l, 0 ≤ x ∧ x ≤ 1048576) → least l 0 = 0 := fun l => by
          induction l with
          | nil => intro _; rfl
          | cons a t ih =>
            intro h
            have h1 := h a (by simp)
            have h2 := ih (fun x hx => h x (by simp [hx]))
            simp only [least, List.map_cons, List.sum_cons] at *
            omega
        rw [this ws HW.out]; exact h0
      have hr4 : 1 ≤ r := by
        rcases Int.lt_or_le 0 r with h | h
        · omega
        · obtain rfl : r = 0 := by omega
          have := of_decide_eq_true (hr3 (by omega))
          omega
      have HLev : Lev total ws (r - 1) := ⟨by omega, by omega, by have := of_decide_eq_false (hr2 (by omega)); omega, fun h => by
        rw [show r - 1 + 1 = r by omega]; exact of_decide_eq_true (hr3 (by omega))⟩
      have HL := Lib.hid HLev
      have e2 := cell_on hb4 d2
      have e3 := cell_on hb4 d3
      have Hb4 : Hid (Below w.heap.size w w4) := Hb3.out.trans (hb4.mono Hb3.out.size)
      have hH4 := Lib.hid (hH3.out.below hb4)
      clear hr2 hr3 HLev hl0 hb4 d2 d3 lt2' lt3' hH3 HS Hb3
      obtain ⟨L, hL⟩ : ∃ L, r - 1 = L := ⟨_, rfl⟩
      have wL : IntKind.i64.wrap (r - 1) = L := by rw [IntWalk.i64_in _ (by omega)]; exact hL
      rw [hL] at HL ⊢
      have b0 : 0 ≤ L := by omega
      have b1 : L ≤ 1048576 := by omega
      clear hL wL hr0 hr1 hr4
      obtain ⟨lb0, lb1⟩ := least_bd ws L HW.out (by omega)
      obtain ⟨R, hR⟩ : ∃ R, total - least ws L = R := ⟨_, rfl⟩
      have hR0 : 0 ≤ R := by have := HL.out.2.2.1; omega
      have hR1 : R ≤ 1048592 := by omega
      have wR : IntKind.i64.wrap (total - least ws L) = R := by rw [IntWalk.i64_in _ (by omega)]; exact hR
      have HRR := Lib.hid hR
      have Hl := Lib.hid (fun X (hX : Has X 1 (.slice a ws.length cap) ws.length (ints ws)) => (cleast _ ws L X hX HW.out hlen (by omega) (by omega)).mono fun _ _ h => same_symm h)
      clear hR
      go_quiet ((go_at_call 102; exact Calls.quiet_of_same (Hl.out _ (hH4.out.below (below_drewN (Below.refl _ _) _)))))
      clear wR lb0 lb1 Hl
      have e3' : (w4.drewN nq).cell? ⟨w.heap.size + 1, 0, none⟩ = some (.slice a ws.length cap) := e3
      have Hb5 : Hid (Below w.heap.size w (w4.drewN nq)) := below_drewN Hb4.out nq
      have hH5 := Lib.hid (hH4.out.below (below_drewN (Below.refl _ _) nq))
      obtain ⟨w5, hw5⟩ : ∃ w5, w4.drewN nq = w5 := ⟨_, rfl⟩
      rw [hw5] at e3' Hb5 hH5 ⊢
      clear hw5 e2 e3 Hb4 hH4
      obtain ⟨_, a5, cap5, he, _, _, hc5⟩ := hH5.out
      simp only [Value.slice.injEq] at he
      obtain ⟨rfl, -, rfl⟩ := he
      have HC5 := Lib.hid hc5
      clear hc5
      go_wp2_with fail
      go_loopw [9, 10, 12, 13, 43] (fun rr v _ _ i wr => ∃ k : Nat, k ≤ ws.length ∧ i = .int .i64 k ∧ rr = .int .i64 (restA L R (ws.take k)) ∧ wr.ownsRow w5.heap.size 3 1 v k (ints (give L R (ws.take k))) ∧ Below w5.heap.size w5 wr) (fun _ _ _ _ i _ => ws.length - (intOf i).toNat)
      case atStart => exact ⟨0, by omega, rfl, rfl, World.ownsRow_nil _ _ _ _, Below.refl _ _⟩
      case round =>
        obtain ⟨k, hk, rfl, rfl, hown, hb⟩ := hrel
        have hsz : w5.heap.size ≤ wr.heap.size := hb.size
        obtain ⟨ra0, ra1⟩ := restA_bd L R (ws.take k) hR0
        have Hb := Lib.hid hb
        have Hown := Lib.hid hown
        clear hb hown
        by_cases hlt : k < ws.length
        · obtain ⟨b, off, rfl, hcc⟩ := HC5.out (by simp; omega)
          have g := cell_on Hb.out (hcc _ _ (ints_get ws k hlt))
          have hg := Lib.hid (take_snoc ws k hlt)
          obtain ⟨x1, x2⟩ := HW.out _ (List.getElem_mem hlt)
          have G1 := Lib.hid (give_snoc L R (ws.take k) ws[k])
          have G2 := Lib.hid (restA_snoc L R (ws.take k) ws[k])
          rw [← hg.out] at G1 G2
          have Hbl := Lib.hid (World.block_lt_of_cell? _ _ g)
          generalize ws[k] = x at *
          generalize restA L R (ws.take k) = rr at *
          clear hcc HC5 hg
          by_cases c1 : L < x
          · by_cases c2 : 0 < rr
            · have E1 := Lib.hid (show give1 L rr x = L + 1 by unfold give1; rw [if_pos ⟨c1, c2⟩]; omega)
              have E2 := Lib.hid (show rest1 L rr x = rr - 1 by unfold rest1; rw [if_pos ⟨c1, c2⟩])
              go_wp2_with (at_builtin; refine wp_app1 (w0 := wr) 22 3 1 8 _ elInt Tryz.underlying22 w5.heap.size _ _ _ Hown.out (by repeat (first | exact Below.refl _ _ | refine Below.drew ?_ | refine Below.alloc ?_ (by first | (simp; done) | (simp; omega)) _ | refine Below.setCell ?_ (by first | (simp; done) | (simp; omega)) _)) [.int .i64 (L + 1)] rfl _ _ rfl rfl rfl (by first | exact heap_alloc_new _ _ | (simp only [heap_drew, heap_drewN]; exact heap_alloc_new _ _)) (by simp) rfl rfl (by omega) (by omega) hsz ?_; intro v3 w3 hown3 hgrow3 hb3)
              go_roundw
              case rel =>
                refine ⟨k + 1, by omega, by go_num, by rw [G2.out, E2.out], ?_, Hb.out.trans hb3⟩
                rw [G1.out, E1.out, ← ints_snoc]
                exact hown3
              case measure => simp [intOf]; omega
            · have E1 := Lib.hid (show give1 L rr x = L by unfold give1; rw [if_neg (by omega)]; omega)
              have E2 := Lib.hid (show rest1 L rr x = rr by unfold rest1; rw [if_neg (by omega)])
              go_wp2_with (at_builtin; refine wp_app1 (w0 := wr) 22 3 1 8 _ elInt Tryz.underlying22 w5.heap.size _ _ _ Hown.out (by repeat (first | exact Below.refl _ _ | refine Below.drew ?_ | refine Below.alloc ?_ (by first | (simp; done) | (simp; omega)) _ | refine Below.setCell ?_ (by first | (simp; done) | (simp; omega)) _)) [.int .i64 (L)] rfl _ _ rfl rfl rfl (by first | exact heap_alloc_new _ _ | (simp only [heap_drew, heap_drewN]; exact heap_alloc_new _ _)) (by simp) rfl rfl (by omega) (by omega) hsz ?_; intro v3 w3 hown3 hgrow3 hb3)
              go_roundw
              case rel =>
                refine ⟨k + 1, by omega, by go_num, by rw [G2.out, E2.out], ?_, Hb.out.trans hb3⟩
                rw [G1.out, E1.out, ← ints_snoc]
                exact hown3
              case measure => simp [intOf]; omega
          · have E1 := Lib.hid (show give1 L rr x = x by unfold give1; rw [if_neg (by omega)]; omega)
            have E2 := Lib.hid (show rest1 L rr x = rr by unfold rest1; rw [if_neg (by omega)])
            go_wp2_with (at_builtin; refine wp_app1 (w0 := wr) 22 3 1 8 _ elInt Tryz.underlying22 w5.heap.size _ _ _ Hown.out (by repeat (first | exact Below.refl _ _ | refine Below.drew ?_ | refine Below.alloc ?_ (by first | (simp; done) | (simp; omega)) _ | refine Below.setCell ?_ (by first | (simp; done) | (simp; omega)) _)) [.int .i64 (x)] rfl _ _ rfl rfl rfl (by first | exact heap_alloc_new _ _ | (simp only [heap_drew, heap_drewN]; exact heap_alloc_new _ _)) (by simp) rfl rfl (by omega) (by omega) hsz ?_; intro v3 w3 hown3 hgrow3 hb3)
            go_roundw
            case rel =>
              refine ⟨k + 1, by omega, by go_num, by rw [G2.out, E2.out], ?_, Hb.out.trans hb3⟩
              rw [G1.out, E1.out, ← ints_snoc]
              exact hown3
            case measure => simp [intOf]; omega
        · obtain rfl : k = ws.length := by omega
          have ht := List.take_length (l := ws)
          rw [ht] at Hown
          have Hfin : Hid (Below w.heap.size w wr) := Hb5.out.trans (Hb.out.mono Hb5.out.size)
          clear HC5 ht
          go_wp2
          go_ret2
          exact ⟨_, L, rfl, HL.out, by rw [HRR.out]; exact owns_mono Hown.out Hb5.out.size, Hfin.out⟩
end Go.Proofs.YtjdedflfdlhkdaaGreatDoor

namespace Go.Proofs.YtjdedflfdlhkdaaGreatDoor
set_option linter.unusedVariables false

theorem least_mono (ws : List Int) (l m : Int) (h : l ≤ m) : least ws l ≤ least ws m := by
  induction ws with
  | nil => exact Int.le_refl _
  | cons a t ih => simp only [least, List.map_cons, List.sum_cons] at *; omega
theorem Lev.unique {t : Int} {ws : List Int} {L M : Int} (h : Lev t ws L) (k : Lev t ws M) : L = M := by
  have key : ∀ {L M : Int}, Lev t ws L → Lev t ws M → ¬ L < M := fun {L M} h k hlt => by
    have h1 := h.2.2.2 (by have := k.2.1; omega)
    have h2 := least_mono ws (L + 1) M (by omega)
    have := k.2.2.1
    omega
  have := key h k
  have := key k h
  omega
theorem give1_bd (L r w : Int) (hL : 0 ≤ L) (hw : 0 ≤ w) : 0 ≤ give1 L r w ∧ give1 L r w ≤ w ∧ min w L ≤ give1 L r w ∧ give1 L r w ≤ min w (L + 1) := by
  unfold give1; split <;> omega
theorem give_get (L : Int) : ∀ (r : Int) (ws : List Int) (i : Nat) (h : i < ws.length) (h' : i < (give L r ws).length), ∃ r', (give L r ws)[i] = give1 L r' ws[i]
  | r, w :: ws, 0, _, _ => ⟨r, rfl⟩
  | r, w :: ws, i + 1, h, h' => by
    obtain ⟨r', e⟩ := give_get L (rest1 L r w) ws i (by simpa using h) (by simpa [give] using h')
    exact ⟨r', by simpa [give] using e⟩
/-- How many want more than a level. -/
def above (L : Int) (ws : List Int) : Int := (ws.map fun w => if L < w then (1 : Int) else 0).sum
theorem least_succ (ws : List Int) (L : Int) : least ws (L + 1) = least ws L + above L ws := by
  induction ws with
  | nil => rfl
  | cons a t ih =>
    simp only [least, above, List.map_cons, List.sum_cons] at *
    split <;> omega
theorem above_nonneg (L : Int) (ws : List Int) : 0 ≤ above L ws := by
  induction ws with
  | nil => exact Int.le_refl _
  | cons a t ih => simp only [above, List.map_cons, List.sum_cons] at *; split <;> omega
theorem give_sum (L : Int) : ∀ (r : Int) (ws : List Int), (give L r ws).sum = least ws L + (r - restA L r ws)
  | r, [] => by simp [give, least, restA]
  | r, w :: ws => by
    have ih := give_sum L (rest1 L r w) ws
    simp only [give, List.sum_cons, restA, least, List.map_cons] at *
    unfold give1 rest1 at *
    split <;> simp_all <;> omega
theorem restA_zero (L : Int) : ∀ (r : Int) (ws : List Int), 0 ≤ r → r ≤ above L ws → restA L r ws = 0
  | r, [], h, k => by simp [above] at k; simp [restA]; omega
  | r, w :: ws, h, k => by
    simp only [restA]
    apply restA_zero
    · unfold rest1; split <;> omega
    · simp only [above, List.map_cons, List.sum_cons] at *
      unfold rest1
      have := above_nonneg L ws
      simp only [above] at this
      split <;> split at k <;> omega
theorem sum_le (ws : List Int) (L : Int) : least ws L ≤ ws.sum := by
  induction ws with
  | nil => exact Int.le_refl _
  | cons a t ih => simp only [least, List.map_cons, List.sum_cons] at *; omega
theorem least_all (ws : List Int) (L : Int) (h : ∀ w ∈ ws, w ≤ L) : least ws L = ws.sum := by
  induction ws with
  | nil => rfl
  | cons a t ih =>
    have h1 := h a (by simp)
    have := ih (fun w hw => h w (by simp [hw]))
    simp only [least, List.map_cons, List.sum_cons] at *; omega
/-- All is given that is wanted, as far as there is. -/
theorem share_sum {t : Int} {ws : List Int} {L : Int} (hw : ∀ x ∈ ws, 0 ≤ x ∧ x ≤ 1048576) (h : Lev t ws L) : (give L (t - least ws L) ws).sum = min t ws.sum := by
  rw [give_sum]
  obtain ⟨h0, h1, h2, h3⟩ := h
  by_cases hl : L < 1048576
  · have h4 := h3 hl
    rw [least_succ] at h4
    rw [restA_zero L _ ws (by omega) (by omega)]
    have := sum_le ws (L + 1)
    rw [least_succ] at this
    omega
  · have e := least_all ws L (fun w hw' => by have := hw w hw'; omega)
    have hz : above L ws = 0 := by
      have := sum_le ws (L + 1); rw [least_succ] at this
      have := above_nonneg L ws
      omega
    have hr : ∀ (r : Int) (l : List Int), above L l = 0 → restA L r l = r := fun r l => by
      induction l generalizing r with
      | nil => intro _; rfl
      | cons a t ih =>
        intro hz
        have hn := above_nonneg L t
        have hz' : ¬ L < a ∧ above L t = 0 := by
          simp only [above, List.map_cons, List.sum_cons] at hz hn ⊢
          split at hz <;> omega
        simp only [restA, rest1]
        rw [if_neg (by omega)]
        exact ih r hz'.2
    rw [hr _ _ hz]
    omega
/-- With more to give nobody gets less. -/
theorem give_mono (L : Int) : ∀ (r s : Int) (ws : List Int) (i : Nat) (h1 : i < (give L r ws).length) (h2 : i < (give L s ws).length), r ≤ s → (give L r ws)[i] ≤ (give L s ws)[i]
  | r, s, w :: ws, 0, _, _, h => by simp only [give, List.getElem_cons_zero]; unfold give1; split <;> split <;> omega
  | r, s, w :: ws, i + 1, h1, h2, h => by
    simp only [give, List.getElem_cons_succ]
    apply give_mono
    unfold rest1; split <;> split <;> omega
theorem share_grows {t u : Int} {ws : List Int} {L M : Int} (hw : ∀ x ∈ ws, 0 ≤ x ∧ x ≤ 1048576) (h : Lev t ws L) (k : Lev u ws M) (htu : t ≤ u) (i : Nat) (h1 : i < (give L (t - least ws L) ws).length) (h2 : i < (give M (u - least ws M) ws).length) :
    (give L (t - least ws L) ws)[i] ≤ (give M (u - least ws M) ws)[i] := by
  have hi : i < ws.length := by rw [give_length] at h1; exact h1
  have hLM : L ≤ M := by
    rcases Int.lt_or_le M L with hlt | hle
    · have h3 := k.2.2.2 (by have := h.2.1; omega)
      have h4 := least_mono ws (M + 1) L (by omega)
      have := h.2.2.1
      omega
    · exact hle
  rcases Int.lt_or_eq_of_le hLM with hlt | rfl
  · obtain ⟨r, e1⟩ := give_get L (t - least ws L) ws i hi h1
    obtain ⟨s, e2⟩ := give_get M (u - least ws M) ws i hi h2
    rw [e1, e2]
    have b := hw _ (List.getElem_mem hi)
    have c1 := give1_bd L r ws[i] h.1 b.1
    have c2 := give1_bd M s ws[i] k.1 b.1
    omega
  · exact give_mono L _ _ ws i h1 h2 (by omega)
end Go.Proofs.YtjdedflfdlhkdaaGreatDoor

namespace Go.Proofs.YtjdedflfdlhkdaaGreatDoor
open Go.ChangeShapes Go.WideShapes Go.ChangeAt Go.RowKit
set_option linter.unusedVariables false
set_option linter.unusedSimpArgs false

/-- The level of a split, and the split. -/
def levDown (t : Int) (ws : List Int) : Nat → Nat
  | 0 => 0
  | n + 1 => if least ws ((n + 1 : Nat) : Int) ≤ t then n + 1 else levDown t ws n
theorem levDown_ok (t : Int) (ws : List Int) (h0 : least ws 0 ≤ t) : ∀ n, levDown t ws n ≤ n ∧ least ws (levDown t ws n : Nat) ≤ t ∧ (levDown t ws n < n → t < least ws ((levDown t ws n : Nat) + 1))
  | 0 => ⟨Nat.le_refl _, h0, fun h => absurd h (Nat.lt_irrefl _)⟩
  | n + 1 => by
    obtain ⟨a, b, c⟩ := levDown_ok t ws h0 n
    unfold levDown
    split
    · next h => exact ⟨Nat.le_refl _, h, fun h => absurd h (Nat.lt_irrefl _)⟩
    · next h =>
      refine ⟨by omega, b, fun _ => ?_⟩
      by_cases e : levDown t ws n < n
      · exact c e
      · have e' : levDown t ws n = n := by omega
        rw [e']
        have : ((n + 1 : Nat) : Int) = (n : Int) + 1 := by omega
        rw [this] at h; omega
def levelOf (t : Int) (ws : List Int) : Int := (levDown t ws 1048576 : Nat)
theorem least_zero (ws : List Int) (h : ∀ x ∈ ws, 0 ≤ x) : least ws 0 = 0 := by
  unfold least
  induction ws with
  | nil => rfl
  | cons a l ih =>
    have h1 := h a (by simp)
    have h2 := ih fun x hx => h x (by simp [hx])
    simp only [List.map_cons, List.sum_cons]; omega
theorem levelOf_lev (t : Int) (ws : List Int) (h : ∀ x ∈ ws, 0 ≤ x) (ht : 0 ≤ t) : Lev t ws (levelOf t ws) := by
  obtain ⟨a, b, c⟩ := levDown_ok t ws (by rw [least_zero ws h]; exact ht) 1048576
  unfold levelOf
  generalize levDown t ws 1048576 = L at *
  exact ⟨by omega, by omega, b, fun hl => c (by omega)⟩
def shareV (t : Int) (ws : List Int) : List Int := give (levelOf t ws) (t - least ws (levelOf t ws)) ws
theorem shareV_eq {t : Int} {ws : List Int} {L : Int} (h : ∀ x ∈ ws, 0 ≤ x) (ht : 0 ≤ t) (hL : Lev t ws L) : give L (t - least ws L) ws = shareV t ws := by
  rw [hL.unique (levelOf_lev t ws h ht)]; rfl
theorem shareV_length (t : Int) (ws : List Int) : (shareV t ws).length = ws.length := give_length _ _ _
/-- A book. -/
structure Bk where
  most : Int
  ticks : Int
  round : Int
  res : Int
  all : Int
  wants : List Int
  granted : List Int
  quota : List Int
def zerosI (n : Nat) : List Int := List.replicate n 0
def Bk.new (n : Nat) (most ticks : Int) : Bk := ⟨most, ticks, 0, 0, 0, zerosI n, zerosI n, zerosI n⟩
def Bk.stock (b : Bk) (c : Int) : Bk := { b with res := b.res + c, all := b.all + c }
def Bk.want (b : Bk) (who : Nat) (c : Int) : Bk := { b with wants := b.wants.set who (max (b.wants.getD who 0) c) }
def Bk.begins (b : Bk) : Bool := b.round % b.ticks == 0
def Bk.epoch (b : Bk) : Bk := if b.begins = true then { b with quota := shareV b.res (List.replicate b.wants.length b.most) } else b
def Bk.due (b : Bk) (k : Nat) : Int := min (b.wants.getD k 0 - b.granted.getD k 0) (b.quota.getD k 0)
def Bk.pay (b : Bk) (k : Nat) : Bk := { b with granted := b.granted.set k (b.granted.getD k 0 + b.due k), quota := b.quota.set k (b.quota.getD k 0 - b.due k), res := b.res - b.due k }
def Bk.payTo (b : Bk) (k : Nat) : Bk := (List.range k).foldl Bk.pay b
def Bk.next (b : Bk) : Bk := { b.epoch with round := b.round + 1 }
def Bk.rounded (b : Bk) : Bk := b.next.payTo b.wants.length
def Bk.report (b : Bk) : Int := if b.begins = true then b.res else -1
theorem Bk.payTo_succ (b : Bk) (k : Nat) : b.payTo (k + 1) = (b.payTo k).pay k := by simp [Bk.payTo, List.range_succ, List.foldl_append]
/-- What always holds of it. -/
structure BkOk (n : Nat) (b : Bk) : Prop where
  lw : b.wants.length = n
  lg : b.granted.length = n
  lq : b.quota.length = n
  most : 0 ≤ b.most ∧ b.most ≤ 1048576
  ticks : 1 ≤ b.ticks ∧ b.ticks ≤ 8
  round : 0 ≤ b.round
  res : 0 ≤ b.res ∧ b.res ≤ b.all ∧ b.all ≤ 1048576
  want : ∀ k, 0 ≤ b.granted.getD k 0 ∧ b.granted.getD k 0 ≤ b.wants.getD k 0 ∧ b.wants.getD k 0 ≤ 1048576
  quota : ∀ k, 0 ≤ b.quota.getD k 0
  sum : b.quota.sum ≤ b.res
theorem getD_set_same {l : List Int} {k : Nat} (h : k < l.length) (x : Int) : (l.set k x).getD k 0 = x := by simp [List.getD_eq_getElem?_getD, h]
theorem getD_set_ne {l : List Int} {k j : Nat} (h : k ≠ j) (x : Int) : (l.set k x).getD j 0 = l.getD j 0 := by simp [List.getD_eq_getElem?_getD, List.getElem?_set_ne h]
theorem getD_past' {l : List Int} {k : Nat} (h : l.length ≤ k) : l.getD k 0 = 0 := by simp [List.getD_eq_getElem?_getD, List.getElem?_eq_none h]
theorem sum_set : ∀ (l : List Int) (k : Nat) (h : k < l.length) (x : Int), (l.set k x).sum = l.sum - l.getD k 0 + x
  | a :: t, 0, _, x => by simp; omega
  | a :: t, k + 1, h, x => by
    have ih := sum_set t k (by simpa using h) x
    simp only [List.set_cons_succ, List.sum_cons, List.getD_cons_succ, ih]; omega
theorem le_sum : ∀ (l : List Int) (k : Nat), (∀ j, 0 ≤ l.getD j 0) → 0 ≤ l.sum ∧ l.getD k 0 ≤ l.sum
  | [], k, _ => by simp
  | a :: t, k, h => by
    have h0 := h 0
    have ht : ∀ j, 0 ≤ t.getD j 0 := fun j => by have := h (j + 1); simpa using this
    simp at h0
    rcases k with _ | k
    · have := (le_sum t 0 ht).1
      simp; omega
    · have := le_sum t k ht
      simp only [List.sum_cons, List.getD_cons_succ]; omega
theorem due_bd {n : Nat} {b : Bk} (h : BkOk n b) (k : Nat) : 0 ≤ b.due k ∧ b.due k ≤ b.wants.getD k 0 - b.granted.getD k 0 ∧ b.due k ≤ b.quota.getD k 0 ∧ b.due k ≤ b.res := by
  have h1 := h.want k
  have h2 := h.quota k
  have h3 := (le_sum b.quota k h.quota).2
  have h4 := h.sum
  unfold Bk.due; omega
theorem BkOk.pay {n : Nat} {b : Bk} (h : BkOk n b) (k : Nat) (hk : k < n) : BkOk n (b.pay k) := by
  obtain ⟨d0, d1, d2, d3⟩ := due_bd h k
  have hg : k < b.granted.length := by rw [h.lg]; exact hk
  have hq : k < b.quota.length := by rw [h.lq]; exact hk
  have hw := h.want k
  have hqk := h.quota k
  refine ⟨h.lw, by simp [Bk.pay, h.lg], by simp [Bk.pay, h.lq], h.most, h.ticks, h.round, ?_, fun j => ?_, fun j => ?_, ?_⟩
  · have := h.res; simp only [Bk.pay]; omega
  · simp only [Bk.pay]
    by_cases e : k = j
    · subst e; rw [getD_set_same hg]; omega
    · rw [getD_set_ne e]; exact h.want j
  · simp only [Bk.pay]
    by_cases e : k = j
    · subst e; rw [getD_set_same hq]; omega
    · rw [getD_set_ne e]; exact h.quota j
  · have := h.sum
    simp only [Bk.pay]
    rw [sum_set _ _ hq]; omega
theorem BkOk.payTo {n : Nat} {b : Bk} (h : BkOk n b) : ∀ k, k ≤ n → BkOk n (b.payTo k)
  | 0, _ => h
  | k + 1, hk => by rw [Bk.payTo_succ]; exact (BkOk.payTo h k (by omega)).pay k (by omega)
theorem shareV_ok (t : Int) (n : Nat) (m : Int) (ht : 0 ≤ t) (hm : 0 ≤ m ∧ m ≤ 1048576) : (∀ k, 0 ≤ (shareV t (List.replicate n m)).getD k 0 ∧ (shareV t (List.replicate n m)).getD k 0 ≤ m) ∧ (shareV t (List.replicate n m)).sum ≤ t := by
  have hws : ∀ x ∈ List.replicate n m, 0 ≤ x ∧ x ≤ 1048576 := fun x hx => by rw [List.mem_replicate] at hx; omega
  have hL := levelOf_lev t (List.replicate n m) (fun x hx => (hws x hx).1) ht
  refine ⟨fun k => ?_, ?_⟩
  · by_cases h : k < (shareV t (List.replicate n m)).length
    · rw [List.getD_eq_getElem?_getD, List.getElem?_eq_getElem h]
      unfold shareV at h ⊢
      have hk : k < (List.replicate n m).length := by rw [give_length] at h; exact h
      obtain ⟨r', e⟩ := give_get (levelOf t (List.replicate n m)) _ _ k hk h
      have hb := give1_bd (levelOf t (List.replicate n m)) r' _ hL.1 (hws _ (List.getElem_mem hk)).1
      simp only [Option.getD_some]
      rw [e]
      simp only [List.getElem_replicate] at hb ⊢
      omega
    · rw [getD_past' (by omega)]; omega
  · have := share_sum hws hL
    unfold shareV
    rw [this]; omega
theorem BkOk.next {n : Nat} {b : Bk} (h : BkOk n b) : BkOk n b.next := by
  unfold Bk.next Bk.epoch
  split
  · obtain ⟨h1, h2⟩ := shareV_ok b.res b.wants.length b.most h.res.1 h.most
    exact ⟨h.lw, h.lg, by simp [shareV_length, h.lw], h.most, h.ticks, by have := h.round; simp only; omega, h.res, h.want, fun k => (h1 k).1, h2⟩
  · exact ⟨h.lw, h.lg, h.lq, h.most, h.ticks, by have := h.round; simp only; omega, h.res, h.want, h.quota, h.sum⟩
theorem BkOk.rounded {n : Nat} {b : Bk} (h : BkOk n b) : BkOk n b.rounded := by
  unfold Bk.rounded; rw [h.lw]; exact h.next.payTo n (Nat.le_refl _)
theorem zeros_sum : ∀ n, (zerosI n).sum = 0
  | 0 => rfl
  | n + 1 => by unfold zerosI; rw [List.replicate_succ, List.sum_cons]; have := zeros_sum n; unfold zerosI at this; omega
theorem BkOk.new (n : Nat) (most ticks : Int) (hm : 0 ≤ most ∧ most ≤ 1048576) (ht : 1 ≤ ticks ∧ ticks ≤ 8) : BkOk n (Bk.new n most ticks) := by
  have hz : ∀ k, (zerosI n).getD k 0 = 0 := fun k => by
    unfold zerosI; rw [List.getD_eq_getElem?_getD, List.getElem?_replicate]; split <;> rfl
  refine ⟨by simp [Bk.new, zerosI], by simp [Bk.new, zerosI], by simp [Bk.new, zerosI], hm, ht, by simp [Bk.new], by simp [Bk.new], fun k => by simp only [Bk.new]; rw [hz k]; omega, fun k => by simp only [Bk.new]; rw [hz k]; omega, ?_⟩
  have : (zerosI n).sum = 0 := zeros_sum n
  simp only [Bk.new]; omega
theorem BkOk.stock {n : Nat} {b : Bk} (h : BkOk n b) (c : Int) (h0 : 0 ≤ c) (h1 : b.all + c ≤ 1048576) : BkOk n (b.stock c) :=
  ⟨h.lw, h.lg, h.lq, h.most, h.ticks, h.round, by have := h.res; simp only [Bk.stock]; omega, h.want, h.quota, by have := h.sum; simp only [Bk.stock]; omega⟩
theorem BkOk.want' {n : Nat} {b : Bk} (h : BkOk n b) (who : Nat) (c : Int) (hw : who < n) (h1 : c ≤ 1048576) : BkOk n (b.want who c) := by
  refine ⟨by simp [Bk.want, h.lw], h.lg, h.lq, h.most, h.ticks, h.round, h.res, fun j => ?_, h.quota, h.sum⟩
  simp only [Bk.want]
  by_cases e : who = j
  · subst e; rw [getD_set_same (by rw [h.lw]; exact hw)]; have := h.want who; omega
  · rw [getD_set_ne e]; exact h.want j
end Go.Proofs.YtjdedflfdlhkdaaGreatDoor

namespace Go.Proofs.YtjdedflfdlhkdaaGreatDoor
open Go.ChangeShapes Go.WideShapes Go.ChangeAt Go.RowKit
set_option linter.unusedVariables false

/-- An entry: key, value, time, who, gone. -/
structure Ent where
  k : Int
  v : Int
  t : Int
  h : Int
  g : Bool
def Ent.cells (e : Ent) : List Value := [.int .i64 e.k, .int .i64 e.v, .int .i64 e.t, .int .i64 e.h, .bool e.g]
def Ent.val (e : Ent) : Value := .agg #[.int .i64 e.k, .int .i64 e.v, .int .i64 e.t, .int .i64 e.h, .bool e.g]
def cmpI (a b : Int) : Int := if a < b then -1 else if b < a then 1 else 0
theorem ccompare (a b : Int) (w : World) :
    Calls Tryz.prog 119 #[.int .i64 a, .int .i64 b] w fun e w' => e = .returned (.int .i64 (cmpI a b)) ∧ w = w' := by
  have hnan : ∀ (x : Int) (X : World), Calls Tryz.prog 122 #[.int .i64 x] X fun e w' => e = .returned (.bool false) ∧ X = w' := fun x X => by
    go_enter Tryz.func122, Tryz.ntmps122
    go_wp2
    go_ret
    exact ⟨rfl, rfl⟩
  have Hn := Lib.hid hnan
  clear hnan
  have H1 := Lib.hid (show ∀ _ : a < b, cmpI a b = -1 from fun h => by simp [cmpI, h])
  have H2 := Lib.hid (show ∀ _ : b < a, cmpI a b = 1 from fun h => by unfold cmpI; rw [if_neg (by omega), if_pos h])
  have H3 := Lib.hid (show ∀ _ : a = b, cmpI a b = 0 from fun h => by unfold cmpI; rw [if_neg (by omega), if_neg (by omega)])
  by_cases h1 : a < b
  · go_enter Tryz.func119, Tryz.ntmps119
    go_wp2_with (go_at_call 122; with_reducible refine (Hn.out _ _).mono ?_; rintro e w' ⟨rfl, rfl⟩)
    go_ret
    rw [H1.out h1]; exact ⟨rfl, rfl⟩
  · by_cases h2 : b < a
    · go_enter Tryz.func119, Tryz.ntmps119
      go_wp2_with (go_at_call 122; with_reducible refine (Hn.out _ _).mono ?_; rintro e w' ⟨rfl, rfl⟩)
      go_ret
      rw [H2.out h2]; exact ⟨rfl, rfl⟩
    · go_enter Tryz.func119, Tryz.ntmps119
      go_wp2_with (go_at_call 122; with_reducible refine (Hn.out _ _).mono ?_; rintro e w' ⟨rfl, rfl⟩)
      go_ret
      rw [H3.out (by omega)]; exact ⟨rfl, rfl⟩
def flagI (b : Bool) : Int := if b then 1 else 0
theorem cflag (b : Bool) (w : World) :
    Calls Tryz.prog 120 #[.bool b] w fun e w' => e = .returned (.int .i64 (flagI b)) ∧ w = w' := by
  cases b
  · go_enter Tryz.func120, Tryz.ntmps120
    go_wp2
    go_ret
    exact ⟨rfl, rfl⟩
  · go_enter Tryz.func120, Tryz.ntmps120
    go_wp2
    go_ret
    exact ⟨rfl, rfl⟩
/-- The first that is not 0. -/
def orI : List Int → Int
  | [] => 0
  | z :: l => if z = 0 then orI l else z
theorem cor (v : Value) (zs : List Int) (w : World) (h : Has w 1 v zs.length (ints zs)) :
    Calls Tryz.prog 118 #[v] w fun e w' => e = .returned (.int .i64 (orI zs)) ∧ w = w' := by
  obtain ⟨hl, a, cap, rfl, hn, hm, hc⟩ := h
  unfold maxLen at hm
  go_enter Tryz.func118, Tryz.ntmps118
  go_wp2
  go_loop [5, 8] (fun x i => ∃ k : Nat, k ≤ zs.length ∧ i = .int .i64 k ∧ orI zs = orI (zs.drop k)) (fun _ i => zs.length - (intOf i).toNat)
  case atStart => exact ⟨0, by omega, rfl, rfl⟩
  case round =>
    obtain ⟨k, hk, rfl, ho⟩ := hrel
    have Ho := Lib.hid ho
    clear ho
    by_cases h1 : k < zs.length
    · obtain ⟨b, off, rfl, hcc⟩ := hc (by simp; omega)
      have g := hcc _ _ (ints_get zs k h1)
      have Hd := Lib.hid (show orI (zs.drop k) = if zs[k] = 0 then orI (zs.drop (k + 1)) else zs[k] by rw [List.drop_eq_getElem_cons h1]; rfl)
      clear hc hcc
      by_cases h2 : zs[k] = 0
      · have h2' : (zs[k] != 0) = false := by simp [h2]
        have Hr := Lib.hid (show orI zs = orI (zs.drop (k + 1)) by rw [Ho.out, Hd.out, if_pos h2])
        clear h2
        go_wp2
        go_round
        case rel => exact ⟨k + 1, by omega, by go_num, Hr.out⟩
        case measure => simp [intOf]; omega
      · have h2' : (zs[k] != 0) = true := by simp [h2]
        have Hr := Lib.hid (show orI zs = zs[k] by rw [Ho.out, Hd.out, if_neg h2])
        clear h2
        go_wp2
        go_ret
        exact ⟨ret_int Hr.out.symm, rfl⟩
    · obtain rfl : k = zs.length := by omega
      have Hr := Lib.hid (show orI zs = 0 by rw [Ho.out, List.drop_length]; rfl)
      clear hc
      go_wp2
      go_ret
      exact ⟨ret_int Hr.out.symm, rfl⟩
def newer (a b : Ent) : Bool := decide (0 < orI [cmpI a.t b.t, cmpI a.h b.h, cmpI (flagI b.g) (flagI a.g), cmpI a.v b.v])
set_option maxRecDepth 100000 in
set_option maxHeartbeats 2000000 in
theorem cnewer (a b : Ent) (w : World) :
    Calls Tryz.prog 109 #[a.val, b.val] w fun e w' => e = .returned (.bool (newer a b)) ∧ Below w.heap.size w w' := by
  obtain ⟨k1, v1, t1, h1, g1⟩ := a
  obtain ⟨k2, v2, t2, h2, g2⟩ := b
  have Hc := Lib.hid (fun (x y : Int) (X : World) => (ccompare x y X).mono fun _ _ h => same_symm h)
  have Hf := Lib.hid (fun (x : Bool) (X : World) => (cflag x X).mono fun _ _ h => same_symm h)
  unfold Ent.val
  go_enter Tryz.func109, Tryz.ntmps109
  go_wp2
  refine wp_still_tail 22 (by kernel_rfl) (by kernel_rfl) ?_
  simp only [List.take_succ_cons, List.take_zero, List.drop_succ_cons, List.drop_zero]
  repeat (first | still_step | still_call (Hc.out _ _ _) | still_call (Hf.out _ _))
  refine wpStill_nil ?_
  go_wp2_with fail
  refine (cor _ [cmpI t1 t2, cmpI h1 h2, cmpI (flagI g2) (flagI g1), cmpI v1 v2] _ (has_block (by first | exact heap_alloc_new _ _ | (simp only [heap_drew, heap_drewN]; exact heap_alloc_new _ _)) (by simp) (by simp) (by unfold maxLen; simp))).mono ?_
  rintro e w' ⟨rfl, rfl⟩
  go_wp2
  go_ret
  exact ⟨ret_bool rfl, (by repeat (first | exact Below.refl _ _ | refine Below.drew ?_ | refine Below.alloc ?_ (by first | (simp; done) | (simp; omega)) _ | refine Below.setCell ?_ (by first | (simp; done) | (simp; omega)) _))⟩
end Go.Proofs.YtjdedflfdlhkdaaGreatDoor

namespace Go.Proofs.YtjdedflfdlhkdaaGreatDoor
set_option linter.unusedVariables false
set_option linter.unusedSimpArgs false

structure Ent.Ok (e : Ent) : Prop where
  k : 0 ≤ e.k ∧ e.k ≤ 1048576
  v : 0 ≤ e.v ∧ e.v ≤ 1048576
  t : 0 ≤ e.t ∧ e.t ≤ 1048576
  h : 0 ≤ e.h ∧ e.h ≤ 7
  g : e.g = true → e.v = 0
structure MayL (l : List Ent) : Prop where
  ok : ∀ e ∈ l, e.Ok
  sorted : l.Pairwise (fun a b => a.k < b.k)
/-- How many stand ahead of a key. -/
def posK : List Ent → Int → Nat
  | [], _ => 0
  | a :: t, k => if a.k < k then posK t k + 1 else 0
theorem posK_le : ∀ (l : List Ent) (k : Int), posK l k ≤ l.length
  | [], _ => Nat.le_refl _
  | a :: t, k => by
    unfold posK
    have := posK_le t k
    split <;> simp <;> omega
theorem posK_eq : ∀ (l : List Ent) (k : Int) (i : Nat), i ≤ l.length → (∀ x (hx : x < l.length), x < i → l[x].k < k) → (∀ hx : i < l.length, ¬ l[i].k < k) → posK l k = i
  | [], k, i, hi, _, _ => by simp at hi; simp [posK, hi]
  | a :: t, k, 0, hi, h1, h2 => by
    have := h2 (by simp)
    simp only [List.getElem_cons_zero] at this
    simp [posK, this]
  | a :: t, k, i + 1, hi, h1, h2 => by
    have h0 := h1 0 (by simp) (by omega)
    simp only [List.getElem_cons_zero] at h0
    have ih := posK_eq t k i (by simpa using hi) (fun x hx hxi => by have := h1 (x + 1) (by simpa using hx) (by omega); simpa using this) (fun hx => by have := h2 (by simpa using hx); simpa using this)
    simp [posK, h0, ih]
/-- One entry is merged. -/
def mergeOne : List Ent → Ent → List Ent
  | [], e => [e]
  | a :: t, e => if a.k < e.k then a :: mergeOne t e else if a.k = e.k then (if newer e a = true then e :: t else a :: t) else e :: a :: t
def mergeL (a b : List Ent) : List Ent := b.foldl mergeOne a
theorem mergeOne_none : ∀ (l : List Ent) (e : Ent), (∀ hx : posK l e.k < l.length, l[posK l e.k].k ≠ e.k) → mergeOne l e = l.take (posK l e.k) ++ [e] ++ l.drop (posK l e.k)
  | [], e, _ => rfl
  | a :: t, e, h => by
    by_cases c : a.k < e.k
    · have hp : posK (a :: t) e.k = posK t e.k + 1 := by simp [posK, c]
      have ih := mergeOne_none t e fun hx => by have := h (by rw [hp]; simpa using hx); simpa [hp] using this
      simp [mergeOne, c, hp, ih]
    · have hp : posK (a :: t) e.k = 0 := by simp [posK, c]
      have h0 := h (by rw [hp]; simp)
      simp only [hp, List.getElem_cons_zero] at h0
      simp [mergeOne, c, hp, h0]
theorem mergeOne_some : ∀ (l : List Ent) (e : Ent) (hx : posK l e.k < l.length), l[posK l e.k].k = e.k → mergeOne l e = if newer e l[posK l e.k] = true then l.set (posK l e.k) e else l
  | [], e, hx, _ => by simp at hx
  | a :: t, e, hx, h => by
    by_cases c : a.k < e.k
    · have hp : posK (a :: t) e.k = posK t e.k + 1 := by simp [posK, c]
      have hx' : posK t e.k < t.length := by rw [hp] at hx; simpa using hx
      have ih := mergeOne_some t e hx' (by simpa [hp] using h)
      simp only [mergeOne, c, hp, if_true, List.getElem_cons_succ, List.set_cons_succ]
      rw [ih]
      split <;> rfl
    · have hp : posK (a :: t) e.k = 0 := by simp [posK, c]
      simp only [hp, List.getElem_cons_zero] at h
      have c2 : ¬ a.k < e.k := c
      simp only [mergeOne, if_neg c2, if_pos h, hp, List.getElem_cons_zero, List.set_cons_zero]
theorem mergeOne_mem : ∀ (l : List Ent) (e x : Ent), x ∈ mergeOne l e → x = e ∨ x ∈ l
  | [], e, x, h => by simp [mergeOne] at h; exact .inl h
  | a :: t, e, x, h => by
    unfold mergeOne at h
    split at h
    · rcases List.mem_cons.1 h with h | h
      · exact .inr (by rw [h]; exact List.mem_cons_self)
      · rcases mergeOne_mem t e x h with h | h
        · exact .inl h
        · exact .inr (List.mem_cons_of_mem _ h)
    · split at h
      · split at h
        · rcases List.mem_cons.1 h with h | h
          · exact .inl h
          · exact .inr (List.mem_cons_of_mem _ h)
        · exact .inr h
      · rcases List.mem_cons.1 h with h | h
        · exact .inl h
        · exact .inr h
theorem mergeOne_may {l : List Ent} {e : Ent} (h : MayL l) (he : e.Ok) : MayL (mergeOne l e) := by
  refine ⟨fun x hx => ?_, ?_⟩
  · rcases mergeOne_mem l e x hx with rfl | hx
    · exact he
    · exact h.ok x hx
  · have hs := h.sorted
    clear h
    induction l with
    | nil => simp [mergeOne]
    | cons a t ih =>
      rw [List.pairwise_cons] at hs
      unfold mergeOne
      split
      · next c =>
        rw [List.pairwise_cons]
        refine ⟨fun x hx => ?_, ih hs.2⟩
        rcases mergeOne_mem t e x hx with rfl | hx
        · exact c
        · exact hs.1 x hx
      · next c =>
        split
        · next c2 =>
          split
          · rw [List.pairwise_cons]
            exact ⟨fun x hx => by have := hs.1 x hx; omega, hs.2⟩
          · rw [List.pairwise_cons]; exact hs
        · next c2 =>
          rw [List.pairwise_cons, List.pairwise_cons]
          exact ⟨fun x hx => by
            rcases List.mem_cons.1 hx with rfl | hx
            · omega
            · have := hs.1 x hx; omega, hs⟩
theorem mergeL_may {a b : List Ent} (ha : MayL a) (hb : ∀ e ∈ b, e.Ok) : MayL (mergeL a b) := by
  induction b generalizing a with
  | nil => exact ha
  | cons e t ih => exact ih (mergeOne_may ha (hb e List.mem_cons_self)) fun x hx => hb x (List.mem_cons_of_mem _ hx)
theorem mergeOne_len (l : List Ent) (e : Ent) : l.length ≤ (mergeOne l e).length ∧ (mergeOne l e).length ≤ l.length + 1 := by
  induction l with
  | nil => simp [mergeOne]
  | cons a t ih =>
    unfold mergeOne
    split
    · simp; omega
    · split
      · split <;> simp
      · simp
theorem mergeL_len (a b : List Ent) : a.length ≤ (mergeL a b).length ∧ (mergeL a b).length ≤ a.length + b.length := by
  induction b generalizing a with
  | nil => simp [mergeL]
  | cons e t ih =>
    have h1 := ih (mergeOne a e)
    have h2 := mergeOne_len a e
    unfold mergeL at *
    simp only [List.foldl_cons, List.length_cons]
    omega
theorem mergeL_snoc (a b : List Ent) (e : Ent) : mergeL a (b ++ [e]) = mergeOne (mergeL a b) e := by unfold mergeL; rw [List.foldl_append]; rfl
/-- What stands under a key. -/
def look (l : List Ent) (k : Int) : Option Ent := l.find? (fun x => x.k == k)
def newest (o : Option Ent) (e : Ent) : Ent := match o with | none => e | some x => if newer e x = true then e else x
theorem look_none {l : List Ent} {k : Int} (h : ∀ x ∈ l, x.k ≠ k) : look l k = none := by
  unfold look; rw [List.find?_eq_none]; intro x hx; simpa using h x hx
theorem look_some {l : List Ent} {k : Int} {e : Ent} (h : look l k = some e) : e ∈ l ∧ e.k = k := by
  unfold look at h
  exact ⟨List.mem_of_find?_eq_some h, by have := List.find?_some h; simpa using this⟩
theorem look_cons (a : Ent) (t : List Ent) (k : Int) : look (a :: t) k = if a.k = k then some a else look t k := by
  unfold look
  rw [List.find?_cons]
  by_cases c : a.k = k
  · rw [if_pos c]; simp [c]
  · rw [if_neg c]
    have : (a.k == k) = false := by rw [beq_eq_false_iff_ne]; exact c
    rw [this]
theorem look_merge (l : List Ent) (e : Ent) (hs : l.Pairwise (fun a b => a.k < b.k)) (k : Int) : look (mergeOne l e) k = if k = e.k then some (newest (look l k) e) else look l k := by
  induction l with
  | nil =>
    rw [show mergeOne [] e = [e] from rfl, look_cons]
    by_cases c : k = e.k
    · rw [if_pos c.symm, if_pos c]; rfl
    · rw [if_neg (fun h => c h.symm), if_neg c]
  | cons a t ih =>
    rw [List.pairwise_cons] at hs
    unfold mergeOne
    by_cases c1 : a.k < e.k
    · rw [if_pos c1, look_cons, look_cons, ih hs.2]
      by_cases c2 : a.k = k
      · rw [if_pos c2, if_pos c2, if_neg (by omega)]
      · rw [if_neg c2, if_neg c2]
    · rw [if_neg c1]
      by_cases c2 : a.k = e.k
      · rw [if_pos c2]
        by_cases c3 : k = e.k
        · rw [if_pos c3, look_cons a t k, if_pos (show a.k = k by omega)]
          simp only [newest]
          by_cases c4 : newer e a = true
          · rw [if_pos c4, if_pos c4, look_cons, if_pos c3.symm]
          · rw [if_neg c4, if_neg c4, look_cons, if_pos (show a.k = k by omega)]
        · rw [if_neg c3]
          by_cases c4 : newer e a = true
          · rw [if_pos c4, look_cons, look_cons, if_neg (fun h => c3 h.symm), if_neg (by omega)]
          · rw [if_neg c4]
      · rw [if_neg c2, look_cons]
        by_cases c3 : k = e.k
        · have e0 : look (a :: t) k = none := look_none fun x hx => by
            rcases List.mem_cons.1 hx with h0 | h0
            · rw [h0]; omega
            · have := hs.1 x h0; omega
          rw [if_pos c3.symm, if_pos c3, e0]; rfl
        · rw [if_neg (fun h => c3 h.symm), if_neg c3]
/-- Lists that look the same are the same. -/
theorem look_ext : ∀ (l m : List Ent), l.Pairwise (fun a b => a.k < b.k) → m.Pairwise (fun a b => a.k < b.k) → (∀ k, look l k = look m k) → l = m
  | [], [], _, _, _ => rfl
  | [], b :: m, _, _, h => by have := h b.k; rw [look_cons, if_pos rfl] at this; simp [look] at this
  | a :: l, [], _, _, h => by have := h a.k; rw [look_cons, if_pos rfl] at this; simp [look] at this
  | a :: l, b :: m, h1, h2, h => by
    rw [List.pairwise_cons] at h1 h2
    have e1 : a.k = b.k := by
      have ha := h a.k
      have hb := h b.k
      rw [look_cons, if_pos rfl, look_cons] at ha
      rw [look_cons b, if_pos rfl, look_cons] at hb
      apply Classical.byContradiction
      intro hne
      rw [if_neg (fun hh => hne hh.symm)] at ha
      rw [if_neg hne] at hb
      have q1 := h2.1 _ (look_some ha.symm).1
      have q2 := h1.1 _ (look_some hb).1
      omega
    have e2 : a = b := by
      have ha := h a.k
      rw [look_cons, if_pos rfl, look_cons, if_pos e1.symm] at ha
      simpa using ha
    subst e2
    rw [look_ext l m h1.2 h2.2 fun k => by
      have hk := h k
      rw [look_cons, look_cons] at hk
      by_cases c : a.k = k
      · rw [look_none, look_none]
        · intro x hx; have := h2.1 x hx; omega
        · intro x hx; have := h1.1 x hx; omega
      · rwa [if_neg c, if_neg c] at hk]
end Go.Proofs.YtjdedflfdlhkdaaGreatDoor

namespace Go.Proofs.YtjdedflfdlhkdaaGreatDoor
open Go.ChangeShapes Go.WideShapes Go.ChangeAt Go.RowKit
set_option linter.unusedVariables false
set_option linter.unusedSimpArgs false

/-- Of the blocks of cells that were there only those of a type in T may have changed. -/
structure Chc (T : List TypeId) (w w' : World) : Prop where
  size : w.heap.size ≤ w'.heap.size
  block : ∀ (k : Nat) (cs : Array Value) (e : TypeId) (r : Nat × Nat), w.heap[k]? = some (.cells cs e r) → e ∉ T → w'.heap[k]? = some (.cells cs e r)
theorem Chc.refl (T : List TypeId) (w : World) : Chc T w w := ⟨Nat.le_refl _, fun _ _ _ _ h _ => h⟩
theorem Chc.trans {T : List TypeId} {a b c : World} (h : Chc T a b) (k : Chc T b c) : Chc T a c :=
  ⟨Nat.le_trans h.size k.size, fun i cs e r hi he => k.block i cs e r (h.block i cs e r hi he) he⟩
theorem Chc.of_below {T : List TypeId} {w w' : World} (h : Below w.heap.size w w') : Chc T w w' :=
  ⟨h.size, fun k cs e r hk _ => by rw [h.block k (Array.getElem?_eq_some_iff.1 hk).1]; exact hk⟩
theorem Chc.of_chg {T : List TypeId} {w w' : World} (h : Chg T w w') : Chc T w w' :=
  ⟨h.size, fun k cs e r hk he => h.block k _ hk fun cs' e' r' heq => by
    simp only [Obj.cells.injEq] at heq
    obtain ⟨-, rfl, -⟩ := heq
    exact he⟩
theorem Chc.mono {T U : List TypeId} {a w : World} (h : Chc T a w) (hs : ∀ e ∈ T, e ∈ U) : Chc U a w :=
  ⟨h.size, fun k cs e r hk he => h.block k cs e r hk fun hm => he (hs e hm)⟩
theorem Chc.setCell {T : List TypeId} {w : World} {p : Addr} {cs : Array Value} {e : TypeId} {r : Nat × Nat} (hp : w.heap[p.block]? = some (.cells cs e r)) (he : e ∈ T) (u : Value) : Chc T w (w.setCell p u) := .of_chg (.setCell hp he u)
theorem Chc.grown {T : List TypeId} {w w' : World} {base e sz n : Nat} {v : Value} {xs : List Value} (hown : w.ownsRow base e sz v n xs) (hg : w.grownBy w' v.ownBlock) (he : e ∈ T) : Chc T w w' := .of_chg (.grown hown hg he)
/-- A map is written. -/
theorem Chc.map {T : List TypeId} {w w' : World} {b : Nat} {es : Array MapEntry} {c : Nat} (hb : w.heap[b]? = some (.map es c)) (hg : w.grownBy w' (some b)) : Chc T w w' :=
  ⟨hg.size, fun k cs e r hk he => by
    rw [hg.block k (Array.getElem?_eq_some_iff.1 hk).1 (fun hh => by
      simp only [Option.some.injEq] at hh
      subst hh
      rw [hb] at hk; cases hk)]; exact hk⟩
theorem Chc.drew {T : List TypeId} {a w : World} (h : Chc T a w) : Chc T a w.drew := ⟨h.size, h.block⟩
theorem Chc.drewN {T : List TypeId} {a w : World} (n : Nat) (h : Chc T a w) : Chc T a (w.drewN n) := ⟨h.size, h.block⟩
theorem Chc.alloc {T : List TypeId} {a w : World} (h : Chc T a w) (o : Obj) : Chc T a (w.alloc o) :=
  h.trans (.of_below ((Below.refl _ _).alloc (Nat.le_refl _) o))
theorem Chc.cell {T : List TypeId} {w w' : World} (hc : Chc T w w') {b o : Nat} {u : Value} {cs : Array Value} {e : TypeId} {r : Nat × Nat} (hb : w.heap[b]? = some (.cells cs e r)) (he : e ∉ T) (h : w.cell? ⟨b, o, none⟩ = some u) : w'.cell? ⟨b, o, none⟩ = some u := by
  rw [World.cell?_of_block (w := w) (a := ⟨b, o, none⟩) (by rw [hb]; exact hc.block _ _ _ _ hb he)]
  exact h
section
variable {w w' : World} {e : TypeId} {sz n : Nat} {v : Value} {xs : List Value}
theorem HasT.chc {T : List TypeId} (h : HasT w e sz v n xs) (hc : Chc T w w') (he : e ∉ T) : HasT w' e sz v n xs := by
  obtain ⟨⟨hl, a, cap, rfl, h1, h2, h3⟩, ht⟩ := h
  have hblk : ∀ b off n' cap', Value.slice a n cap = .slice (some ⟨b, off, none⟩) n' cap' → ∃ cs r, w.heap[b]? = some (.cells cs e r) ∧ w'.heap[b]? = some (.cells cs e r) := fun b off n' cap' hv => by
    obtain ⟨cs, r, hh⟩ := ht b off n' cap' hv
    exact ⟨cs, r, hh, hc.block _ _ _ _ hh he⟩
  refine ⟨⟨hl, a, cap, rfl, h1, h2, fun hp => ?_⟩, fun b off n' cap' hv => ?_⟩
  · obtain ⟨b, off, rfl, hcc⟩ := h3 hp
    refine ⟨b, off, rfl, fun j u hu => ?_⟩
    obtain ⟨cs, r, q1, q2⟩ := hblk b off n cap rfl
    rw [World.cell?_of_block (w := w) (a := ⟨b, off + j, none⟩) (by rw [q2, q1])]
    exact hcc j u hu
  · obtain ⟨cs, r, q1, q2⟩ := hblk b off n' cap' hv
    exact ⟨cs, r, q2⟩
end
theorem owns_chc {T : List TypeId} {w w' : World} {base e sz n : Nat} {v : Value} {xs : List Value} (hown : w.ownsRow base e sz v n xs) (hc : Chc T w w') (he : e ∉ T) : w'.ownsRow base e sz v n xs := by
  obtain ⟨hl, h⟩ := hown
  refine ⟨hl, ?_⟩
  rcases h with h | ⟨g, cap, cur, rfl, hg, hh, hn, hm, hs, ht⟩
  · exact .inl h
  · exact .inr ⟨g, cap, cur, rfl, hg, hc.block _ _ _ _ hh he, hn, hm, hs, ht⟩
/-- Two lists, related place by place. -/
def Both {α β : Type} (R : α → β → Prop) (l : List α) (m : List β) : Prop := l.length = m.length ∧ ∀ (i : Nat) (a : α) (b : β), l[i]? = some a → m[i]? = some b → R a b
section
variable {α β : Type} {R S : α → β → Prop} {l : List α} {m : List β}
theorem Both.nil (R : α → β → Prop) : Both R [] [] := ⟨rfl, fun i a b h => by simp at h⟩
theorem Both.mono (h : Both R l m) (hi : ∀ a b, a ∈ l → b ∈ m → R a b → S a b) : Both S l m := ⟨h.1, fun i a b ha hb => hi a b (List.mem_of_getElem? ha) (List.mem_of_getElem? hb) (h.2 i a b ha hb)⟩
theorem Both.snoc (h : Both R l m) {a : α} {b : β} (hr : R a b) : Both R (l ++ [a]) (m ++ [b]) := by
  refine ⟨by simp [h.1], fun i v' a' hv ha => ?_⟩
  rcases Nat.lt_trichotomy i l.length with hlt | rfl | hgt
  · rw [List.getElem?_append_left hlt] at hv
    rw [List.getElem?_append_left (by rw [← h.1]; exact hlt)] at ha
    exact h.2 i v' a' hv ha
  · rw [List.getElem?_append_right (Nat.le_refl _)] at hv
    rw [List.getElem?_append_right (by rw [h.1]; exact Nat.le_refl _), h.1] at ha
    simp at hv ha
    subst hv; subst ha; exact hr
  · rw [List.getElem?_eq_none (by simp; omega)] at hv; cases hv
theorem Both.get (h : Both R l m) (i : Nat) (hi : i < m.length) : ∃ a, l[i]? = some a ∧ R a m[i] :=
  have hv : i < l.length := by rw [h.1]; exact hi
  ⟨l[i], List.getElem?_eq_getElem hv, h.2 i _ _ (List.getElem?_eq_getElem hv) (List.getElem?_eq_getElem hi)⟩
theorem Both.get' (h : Both R l m) (i : Nat) (hi : i < l.length) : ∃ b, m[i]? = some b ∧ R l[i] b :=
  have hv : i < m.length := by rw [← h.1]; exact hi
  ⟨m[i], List.getElem?_eq_getElem hv, h.2 i _ _ (List.getElem?_eq_getElem hi) (List.getElem?_eq_getElem hv)⟩
end
end Go.Proofs.YtjdedflfdlhkdaaGreatDoor

namespace Go.Proofs.YtjdedflfdlhkdaaGreatDoor
open Go.ChangeShapes Go.WideShapes Go.ChangeAt Go.RowKit
set_option linter.unusedVariables false
set_option linter.unusedSimpArgs false

theorem set_split {α : Type} (l : List α) (i : Nat) (x : α) (hi : i < l.length) : l.set i x = l.take i ++ [x] ++ l.drop (i + 1) := by
  rw [List.set_eq_take_append_cons_drop, if_pos hi]; simp
section
variable {w : World}
theorem heap_setCells (g : Nat) (e : TypeId) : ∀ (vs : List Value) (o : Nat) (cur : Array Value) (w : World), w.heap[g]? = some (.cells cur e (0, 0)) → o + vs.length ≤ cur.size →
    (w.setCells g o vs).heap[g]? = some (.cells (cur.toList.take o ++ vs ++ cur.toList.drop (o + vs.length)).toArray e (0, 0))
  | [], o, cur, w, h, hl => by simpa [World.setCells] using h
  | v :: vs, o, cur, w, h, hl => by
    simp only [List.length_cons] at hl
    have h1 := heap_setCell_same w g o cur e v h
    have h2 := heap_setCells g e vs (o + 1) _ _ h1 (by simp; omega)
    show ((w.setCell ⟨g, o, none⟩ v).setCells g (o + 1) vs).heap[g]? = _
    rw [h2]
    have e1 : (cur.toList.take o ++ [v]).length = o + 1 := by simp; omega
    have e2 : (cur.setIfInBounds o v).toList = cur.toList.take o ++ [v] ++ cur.toList.drop (o + 1) := by rw [Array.toList_setIfInBounds, set_split _ _ _ (by simp; omega)]
    have e3 : (cur.setIfInBounds o v).toList.take (o + 1) = cur.toList.take o ++ [v] := by
      rw [e2, List.take_append_of_le_length (by rw [e1]; exact Nat.le_refl _), List.take_of_length_le (by rw [e1]; exact Nat.le_refl _)]
    have e4 : (cur.setIfInBounds o v).toList.drop (o + 1 + vs.length) = cur.toList.drop (o + (v :: vs).length) := by
      rw [e2, List.drop_append, List.drop_of_length_le (by rw [e1]; omega), List.nil_append, e1, List.drop_drop]
      congr 1
      simp only [List.length_cons]; omega
    rw [e3, e4]
    simp
theorem take_mid {α : Type} (A vs : List α) (o N : Nat) (h : o + vs.length ≤ N) (hN : N ≤ A.length) : (A.take o ++ vs ++ A.drop (o + vs.length)).take N = (A.take N).take o ++ vs ++ (A.take N).drop (o + vs.length) := by
  have e1 : (A.take o ++ vs).length = o + vs.length := by simp; omega
  rw [List.take_append, e1, List.take_of_length_le (by rw [e1]; exact h), List.take_take, Nat.min_eq_left (by omega), List.drop_take]
/-- Cells of an owned row are written. -/
theorem owns_write {base e sz n g cap : Nat} {xs : List Value} (h : w.ownsRow base e sz (.slice (some ⟨g, 0, none⟩) n cap) n xs) (o : Nat) (vs : List Value) (ho : o + vs.length ≤ n * sz) :
    (w.setCells g o vs).ownsRow base e sz (.slice (some ⟨g, 0, none⟩) n cap) n (xs.take o ++ vs ++ xs.drop (o + vs.length)) := by
  obtain ⟨hl, h⟩ := h
  refine ⟨by simp; omega, ?_⟩
  rcases h with ⟨h, _⟩ | ⟨g', cap', cur, he, hg, hh, hn, hm, hs, ht⟩
  · cases h
  · simp only [Value.slice.injEq, Option.some.injEq, Addr.mk.injEq, and_true, true_and] at he
    obtain ⟨rfl, rfl⟩ := he
    have hcap : n * sz ≤ cap * sz := Nat.mul_le_mul_right _ hn
    refine .inr ⟨g, cap, _, rfl, hg, heap_setCells g e vs o cur w hh (by omega), hn, hm, by simp; omega, ?_⟩
    rw [List.toList_toArray, take_mid _ _ _ _ ho (by simp; omega), ht]
theorem owns_cut {base e sz n m g cap : Nat} {xs : List Value} (h : w.ownsRow base e sz (.slice (some ⟨g, 0, none⟩) n cap) n xs) (hm' : m ≤ n) :
    w.ownsRow base e sz (.slice (some ⟨g, 0, none⟩) m cap) m (xs.take (m * sz)) := by
  obtain ⟨hl, h⟩ := h
  have hms : m * sz ≤ n * sz := Nat.mul_le_mul_right _ hm'
  refine ⟨by simp; omega, ?_⟩
  rcases h with ⟨h, _⟩ | ⟨g', cap', cur, he, hg, hh, hn, hm, hs, ht⟩
  · cases h
  · simp only [Value.slice.injEq, Option.some.injEq, Addr.mk.injEq, and_true, true_and] at he
    obtain ⟨rfl, rfl⟩ := he
    exact .inr ⟨g, cap, cur, rfl, hg, hh, by omega, hm, hs, by rw [← ht, List.take_take, Nat.min_eq_left hms]⟩
theorem Chc.setCells {T : List TypeId} {g : Nat} {e : TypeId} (he : e ∈ T) : ∀ (vs : List Value) (o : Nat) (w : World) (cs : Array Value), w.heap[g]? = some (.cells cs e (0, 0)) → Chc T w (w.setCells g o vs)
  | [], o, w, cs, h => Chc.refl _ _
  | v :: vs, o, w, cs, h => (Chc.setCell (p := ⟨g, o, none⟩) h he v).trans (Chc.setCells he vs (o + 1) _ _ (heap_setCell_same w g o cs e v h))
theorem below_cells {B g : Nat} {a : World} (hb : B ≤ g) : ∀ (vs : List Value) (o : Nat) (w : World), Below B a w → Below B a (w.setCells g o vs)
  | [], o, w, h => h
  | v :: vs, o, w, h => below_cells hb vs (o + 1) _ (h.setCell hb v)
theorem owns_chc_write {base e sz n g cap : Nat} {xs : List Value} (h : w.ownsRow base e sz (.slice (some ⟨g, 0, none⟩) n cap) n xs) (o : Nat) (vs : List Value) : Chc [e] w (w.setCells g o vs) ∧ Below base w (w.setCells g o vs) := by
  obtain ⟨hl, h⟩ := h
  rcases h with ⟨h, _⟩ | ⟨g', cap', cur, he, hg, hh, hn, hm, hs, ht⟩
  · cases h
  · simp only [Value.slice.injEq, Option.some.injEq, Addr.mk.injEq, and_true, true_and] at he
    obtain ⟨rfl, rfl⟩ := he
    exact ⟨Chc.setCells (by simp) vs o w _ hh, below_cells hg vs o w (Below.refl _ _)⟩
/-- A row with room for one more, made longer by what lies there. -/
theorem owns_ext {base e sz n g cap : Nat} {xs : List Value} (h : w.ownsRow base e sz (.slice (some ⟨g, 0, none⟩) n cap) n xs) (hn : n + 1 ≤ cap) :
    ∃ J : List Value, J.length = sz ∧ w.ownsRow base e sz (.slice (some ⟨g, 0, none⟩) (n + 1) cap) (n + 1) (xs ++ J) := by
  obtain ⟨hl, h⟩ := h
  rcases h with ⟨h, _⟩ | ⟨g', cap', cur, he, hg, hh, hn', hm, hs, ht⟩
  · cases h
  · simp only [Value.slice.injEq, Option.some.injEq, Addr.mk.injEq, and_true, true_and] at he
    obtain ⟨rfl, rfl⟩ := he
    have hmul : (n + 1) * sz ≤ cap * sz := Nat.mul_le_mul_right _ hn
    have e1 : (n + 1) * sz = n * sz + sz := Nat.succ_mul n sz
    have hJ : ((cur.toList.drop (n * sz)).take sz).length = sz := by rw [List.length_take, List.length_drop, Array.length_toList]; omega
    refine ⟨(cur.toList.drop (n * sz)).take sz, hJ, by rw [List.length_append, hJ, hl]; omega, .inr ⟨g, cap, cur, rfl, hg, hh, hn, hm, hs, ?_⟩⟩
    rw [← ht, e1, List.take_add]
/-- The cells of an owned row. -/
theorem owns_cells {base e sz n g cap : Nat} {xs : List Value} (h : w.ownsRow base e sz (.slice (some ⟨g, 0, none⟩) n cap) n xs) : (∀ j u, xs[j]? = some u → w.cell? ⟨g, j, none⟩ = some u) ∧ (∀ j, w.frozen? ⟨g, j, none⟩ = false) ∧ ∃ cur, w.heap[g]? = some (.cells cur e (0, 0)) ∧ cur.size = cap * sz ∧ base ≤ g ∧ n ≤ cap ∧ cap ≤ maxLen := by
  obtain ⟨hl, h⟩ := h
  rcases h with ⟨h, _⟩ | ⟨g', cap', cur, he, hg, hh, hn', hm, hs, ht⟩
  · cases h
  · simp only [Value.slice.injEq, Option.some.injEq, Addr.mk.injEq, and_true, true_and] at he
    obtain ⟨rfl, rfl⟩ := he
    refine ⟨fun j u hu => ?_, fun j => by simp [World.frozen?, hh], cur, hh, hs, hg, hn', hm⟩
    rw [cell_of_row w g j _ _ _ hh]
    rw [← ht, List.getElem?_take] at hu
    split at hu
    · simpa using hu
    · cases hu
end
/-- 'copy' of whole elements. -/
theorem run_copy_n {P : Program} (w : World) (dT sT ty elem : TypeId) (size b o dLen dCap : Nat) (a : Addr) (sLen sCap : Nat) (cs : List Value)
    (hu : P.underlying dT = some (.slice elem)) (hs : (P.info? elem).map (·.size) = some size) (hn : cs.length = Nat.min sLen dLen * size)
    (hsrc : ∀ j v, cs[j]? = some v → w.cell? (a.add j) = some v) (hc : ∀ j, j < cs.length → (w.cell? ⟨b, o + j, none⟩).isSome = true) (hf : ∀ j, j < cs.length → w.frozen? ⟨b, o + j, none⟩ = false) (h1 : ∀ v ∈ cs, v.oneCell' = true) :
    (Builtin.copy_ #[dT, sT] ty #[.slice (some ⟨b, o, none⟩) dLen dCap, .slice (some a) sLen sCap]).run P w = .ok (goInt (Nat.min sLen dLen)) (w.setCells b o cs) := by
  have hl := run_loadCells_list (P := P) w a cs hsrc
  have hst := run_storeCells_cells (P := P) b o cs 0 w (by simpa using hc) (by simpa using hf) h1
  cases hq : P.info? elem with
  | none => simp [hq] at hs
  | some i =>
    have hi : i.size = size := by simpa [hq] using hs
    rw [hn] at hl
    simp [Builtin.copy_, run_underlying hu, Builtin.lenOf, Builtin.firstCells, sizeOf, typeInfo, hq, hi, hl, hst]
section
variable {P : Program}
/-- 'copy' in a walk, its run being known. -/
theorem wp_copy_n (w : World) {o : Oper} {a : Act} {K : Act → World → Prop} {Q : Exit → Act → World → Prop} (d s : Operand) (t t' : TypeId)
    (ho : o.op = .call { callee := .builtin .copy, args := #[d, s], argTypes := #[t, t'] }) (v u : Value) (hd : a.eval d = v) (hs : a.eval s = u) {v' : Value} {w' : World}
    (hr : (Builtin.copy_ #[t, t'] o.type #[v, u]).run P w = .ok v' w') (h : K (a.put o.dst v') w') : o.wp P a w K Q := by
  unfold Oper.wp execOp
  simp only [ho, resolve, invoke, builtin, Sem.run_bind, Sem.run_pure, Result.andThen_ok, List.map_toArray, List.map_cons, List.map_nil, hd, hs, hr]
  exact h
theorem wpList_copy_n (w : World) {ops : Array Oper} {rest : List Oper} {o : Oper} {a : Act} {Q : Exit → Act → World → Prop} (hgd : o.guard = none) (d s : Operand) (t t' : TypeId)
    (ho : o.op = .call { callee := .builtin .copy, args := #[d, s], argTypes := #[t, t'] }) (v u : Value) (hd : a.eval d = v) (hs : a.eval s = u) {v' : Value} {w' : World}
    (hr : (Builtin.copy_ #[t, t'] o.type #[v, u]).run P w = .ok v' w') (h : wpList P ops Q rest (a.put o.dst v') w') : wpList P ops Q (o :: rest) a w :=
  wpList_plain hgd fun _ hK => wp_copy_n w d s t t' ho v u hd hs hr (hK _ _ h)
theorem step_copy_n {ops : Array Oper} {o : Oper} {a : Act} {w : World} {K : Act → World → Prop} {Q : Exit → Act → World → Prop} {E : Prop}
    (hg : o.guard = none) (d x : Operand) (dT sT : TypeId) (hop : o.op = Op.call { callee := Callee.builtin Builtin.copy, args := #[d, x], argTypes := #[dT, sT] })
    (v u : Value) (hd : a.eval d = v) (hx : a.eval x = u) {v' : Value} {w' : World} (hr : (Builtin.copy_ #[dT, sT] o.type #[v, u]).run P w = .ok v' w') (hK : K (a.put o.dst v') w') :
    if Region.wanted o (yielded ops a.tmps) = true then Oper.wp P o a w K Q else E := by
  have hw : Region.wanted o (yielded ops a.tmps) = true := by simp [Region.wanted, hg]
  rw [if_pos hw]
  unfold Oper.wp
  simp [execOp, hop, resolve, invoke, builtin, hd, hx, hr, Result.andThen]
  exact hK
/-- 'append' in a walk, its run being known. -/
theorem wpList_append_n (w : World) {ops : Array Oper} {rest : List Oper} {o : Oper} {a : Act} {Q : Exit → Act → World → Prop} (hgd : o.guard = none) (s x : Operand) (t tn : TypeId)
    (ho : o.op = .call { callee := .builtin .append, args := #[s, x], argTypes := #[t, tn] }) (vs vx : Value) (hs : a.eval s = vs) (hx : a.eval x = vx)
    (v' : Value) (w' : World) (hr : (Builtin.append_ #[t, tn] o.type #[vs, vx]).run P w = .ok v' w') (h : wpList P ops Q rest (a.put o.dst v') w') : wpList P ops Q (o :: rest) a w :=
  wpList_plain hgd fun _ hK => by
    have := hK _ _ h
    unfold Oper.wp execOp
    simp only [ho, resolve, invoke, builtin, Sem.run_bind, Sem.run_pure, Result.andThen_ok, List.map_toArray, List.map_cons, List.map_nil, hs, hx, hr]
    exact this
end
end Go.Proofs.YtjdedflfdlhkdaaGreatDoor
