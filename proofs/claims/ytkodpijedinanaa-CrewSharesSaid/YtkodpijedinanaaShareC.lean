/- Split. -/
import Derived.Test.YtkodpijedinanaaShareB
namespace Go.Proofs.Ytkodpijedinanaa
open Go.ChangeShapes Go.WideShapes Go.ChangeAt Go.RowKit
set_option linter.unusedVariables false

theorem owns_mono {w : World} {base base' e sz n : Nat} {v : Value} {xs : List Value} (h : w.ownsRow base e sz v n xs) (hb : base' ≤ base) : w.ownsRow base' e sz v n xs := by
  obtain ⟨hl, h⟩ := h
  refine ⟨hl, ?_⟩
  rcases h with h | ⟨g, cap, cur, rfl, hg, r⟩
  · exact .inl h
  · exact .inr ⟨g, cap, cur, rfl, Nat.le_trans hb hg, r⟩
set_option maxRecDepth 100000 in
set_option maxHeartbeats 2000000 in
theorem csplit (v : Value) (ws : List Int) (total : Int) (w : World) (h : Has w 1 v ws.length (ints ws)) (hw : ∀ x ∈ ws, 0 ≤ x ∧ x ≤ 1048576) (hlen : ws.length ≤ 16) (h0 : 0 ≤ total) (h1 : total ≤ 1048576) :
    Calls Try.prog 14 #[.int .i64 total, v] w fun e w' => ∃ v' L, e = .returned (.tuple #[v', .int .i64 0]) ∧ Lev total ws L ∧ w'.ownsRow w.heap.size 3 1 v' ws.length (ints (give L (total - least ws L) ws)) ∧ Below w.heap.size w w' := by
  have hmf : ∀ (fn : Fn) (first cap : Array Value) (w : World), (Instr.makeFunc fn first cap).run Try.prog w = .ok (.func fn first cap) w := fun _ _ _ _ => rfl
  have Hh := Lib.hid h
  obtain ⟨_, a, cap, hv, _, _, _⟩ := h
  have Hv := Lib.hid hv
  have HW := Lib.hid hw
  have hv' : v = .slice a ws.length cap := hv
  subst hv'
  clear hw hv
  obtain ⟨w2, hw2⟩ : ∃ w2, w2 = (w.alloc (.cells #[.int .i64 total] 3)).alloc (.cells #[.slice a ws.length cap] 22) := ⟨_, rfl⟩
  have c2 : w2.cell? ⟨w.heap.size, 0, none⟩ = some (.int .i64 total) := by
    rw [hw2, World.cell?_alloc_past _ _ _ (by simp), World.cell?_alloc_at _ _ _ _ rfl]; rfl
  have c3 : w2.cell? ⟨w.heap.size + 1, 0, none⟩ = some (.slice a ws.length cap) := by
    rw [hw2, World.cell?_alloc_at _ _ _ _ (by simp)]; rfl
  have hs2 : w2.heap.size = w.heap.size + 2 := by rw [hw2]; simp
  have Hb2 : Hid (Below w.heap.size w w2) := by rw [hw2]; exact (by repeat (first | exact Below.refl _ _ | refine Below.drew ?_ | refine Below.alloc ?_ (by first | (simp; done) | (simp; omega)) _ | refine Below.setCell ?_ (by first | (simp; done) | (simp; omega)) _))
  have hH2 := Lib.hid (Hh.out.below Hb2.out)
  go_enter Try.func14, Try.ntmps14
  go_upto_region 3 with (fail)
  rw [← hw2]
  clear hw2
  have Hbd := Lib.hid hs2
  have hs2' : w.heap.size + 2 ≤ w2.heap.size := by omega
  have lt2 : w.heap.size < w2.heap.size := by omega
  have lt3 : w.heap.size + 1 < w2.heap.size := by omega
  clear hs2
  go_wp2_with (at_builtin; refine wp_appN (w0 := w2.alloc (.cells #[.int .i64 total] 3)) 22 3 1 8 _ elInt Try.underlying22 (w.heap.size + 2) _ 1 [.int .i64 total] (owns_block (by first | exact heap_alloc_new _ _ | (simp only [heap_drew, heap_drewN]; exact heap_alloc_new _ _)) rfl (by simp) (by unfold maxLen; omega) hs2') (Below.refl _ _) (.slice a ws.length cap) ws.length (ints ws) (hH2.out.below (by repeat (first | exact Below.refl _ _ | refine Below.drew ?_ | refine Below.alloc ?_ (by first | (simp; done) | (simp; omega)) _ | refine Below.setCell ?_ (by first | (simp; done) | (simp; omega)) _))) rfl _ _ rfl rfl rfl (ints_one ws) (by omega) (by unfold maxLen; omega) (by simp; omega) ?_; intro v3 w3 hown3 hgrow3 hb3; obtain ⟨a3, cap3, rfl⟩ := owns_slice hown3)
  have hHl : Has w3 1 (.slice a3 (1 + ws.length) cap3) (total :: ws).length (ints (total :: ws)) := by
    have := Has.of_owns hown3
    rw [List.length_cons, Nat.add_comm ws.length 1]; exact this
  have hbb : Below (w.heap.size + 2) w2 w3 := Below.trans ((Below.refl _ _).alloc hs2' _) hb3
  have Hb3 : Hid (Below w.heap.size w w3) := Hb2.out.trans (hbb.mono (by omega))
  have d2 : w3.cell? ⟨w.heap.size, 0, none⟩ = some (.int .i64 total) := by rw [hbb.cell (p := ⟨w.heap.size, 0, none⟩) (by simp)]; exact c2
  have d3 : w3.cell? ⟨w.heap.size + 1, 0, none⟩ = some (.slice a ws.length cap) := by rw [hbb.cell (p := ⟨w.heap.size + 1, 0, none⟩) (by simp)]; exact c3
  have lt2' : w.heap.size < w3.heap.size := by have := hbb.size; omega
  have lt3' : w.heap.size + 1 < w3.heap.size := by have := hbb.size; omega
  have hH3 := Lib.hid (Hh.out.below Hb3.out)
  clear hown3 hgrow3 hb3 hbb c2 c3 lt2 lt3 hH2 Hb2 Hbd hs2'
  obtain ⟨_, a', cap', he, _, hm', hc'⟩ := hHl
  simp only [Value.slice.injEq] at he
  obtain ⟨rfl, -, rfl⟩ := he
  unfold maxLen at hm'
  have HC := Lib.hid hc'
  have hall : ∀ x ∈ total :: ws, 0 ≤ x ∧ x ≤ 1048576 := fun x hx => by
    rcases List.mem_cons.1 hx with rfl | hx
    · exact ⟨h0, h1⟩
    · exact HW.out x hx
  have HA := Lib.hid hall
  clear hc' hall
  go_wp2_with fail
  go_loop [7, 22] (fun x i => ∃ k : Nat, k ≤ 1 + ws.length ∧ i = .int .i64 k) (fun _ i => 1 + ws.length - (intOf i).toNat)
  case atStart => exact ⟨0, by omega, rfl⟩
  case round =>
    obtain ⟨k, hk, rfl⟩ := hrel
    by_cases hlt : k < 1 + ws.length
    · have hlt' : k < (total :: ws).length := by simp; omega
      obtain ⟨b, off, rfl, hcc⟩ := HC.out (by simp)
      have g := hcc _ _ (ints_get (total :: ws) k hlt')
      obtain ⟨x1, x2⟩ := HA.out _ (List.getElem_mem hlt')
      generalize (total :: ws)[k] = x at *
      clear hcc HC
      go_wp2
      go_round
      case rel => exact ⟨k + 1, by omega, by go_num⟩
      case measure => simp [intOf]; omega
    · have hkk : k = 1 + ws.length := by omega
      clear hk HC HA
      have hF : ∀ (x : Int) (X : World), 0 ≤ x → x < 1048577 → Below w3.heap.size w3 X → Calls Try.prog 26 #[.int .i64 x, .pointer (some ⟨w.heap.size + 1, 0, none⟩), .pointer (some ⟨w.heap.size, 0, none⟩)] X fun e w' => e = .returned (.bool (decide (total < least ws x))) ∧ ∃ m, w' = X.drewN m :=
        fun x X hx0 hx1 hX => cover _ _ _ ws total x X (hH3.out.below hX) HW.out hlen hx0 (by omega) (cell_on hX d3) (cell_on hX d2)
      have HS := Lib.hid (csearch (w.heap.size + 1) w.heap.size (fun x => decide (total < least ws x)) 1048577 w3 (by omega) (by omega) hF)
      clear hF
      go_wp2_with (go_at_call 25; refine HS.out.mono ?_; rintro e w4 ⟨r, rfl, hr0, hr1, hr2, hr3, hb4⟩)
      have hl0 : least ws 0 ≤ total := by
        have : ∀ l : List Int, (∀ x ∈ l, 0 ≤ x ∧ x ≤ 1048576) → least l 0 = 0 := fun l => by
          induction l with
          | nil => intro _; rfl
          | cons a t ih =>
            intro h
            have h1 := h a (by simp)
            have h2 := ih (fun x hx => h x (by simp [hx]))
            simp only [least, List.map_cons, List.sum_cons] at *
            omega
        rw [this ws HW.out]; exact h0
      have hr4 : 1 ≤ r := by
        rcases Int.lt_or_le 0 r with h | h
        · omega
        · obtain rfl : r = 0 := by omega
          have := of_decide_eq_true (hr3 (by omega))
          omega
      have HLev : Lev total ws (r - 1) := ⟨by omega, by omega, by have := of_decide_eq_false (hr2 (by omega)); omega, fun h => by
        rw [show r - 1 + 1 = r by omega]; exact of_decide_eq_true (hr3 (by omega))⟩
      have HL := Lib.hid HLev
      have e2 := cell_on hb4 d2
      have e3 := cell_on hb4 d3
      have Hb4 : Hid (Below w.heap.size w w4) := Hb3.out.trans (hb4.mono Hb3.out.size)
      have hH4 := Lib.hid (hH3.out.below hb4)
      clear hr2 hr3 HLev hl0 hb4 d2 d3 lt2' lt3' hH3 HS Hb3
      obtain ⟨L, hL⟩ : ∃ L, r - 1 = L := ⟨_, rfl⟩
      have wL : IntKind.i64.wrap (r - 1) = L := by rw [IntWalk.i64_in _ (by omega)]; exact hL
      rw [hL] at HL ⊢
      have b0 : 0 ≤ L := by omega
      have b1 : L ≤ 1048576 := by omega
      clear hL wL hr0 hr1 hr4
      obtain ⟨lb0, lb1⟩ := least_bd ws L HW.out (by omega)
      obtain ⟨R, hR⟩ : ∃ R, total - least ws L = R := ⟨_, rfl⟩
      have hR0 : 0 ≤ R := by have := HL.out.2.2.1; omega
      have hR1 : R ≤ 1048592 := by omega
      have wR : IntKind.i64.wrap (total - least ws L) = R := by rw [IntWalk.i64_in _ (by omega)]; exact hR
      have HRR := Lib.hid hR
      have Hl := Lib.hid (fun X (hX : Has X 1 (.slice a ws.length cap) ws.length (ints ws)) => (cleast _ ws L X hX HW.out hlen (by omega) (by omega)).mono fun _ _ h => same_symm h)
      clear hR
      go_quiet ((go_at_call 27; exact Calls.quiet_of_same (Hl.out _ (hH4.out.below (below_drewN (Below.refl _ _) _)))))
      clear wR lb0 lb1 Hl
      have e3' : (w4.drewN nq).cell? ⟨w.heap.size + 1, 0, none⟩ = some (.slice a ws.length cap) := e3
      have Hb5 : Hid (Below w.heap.size w (w4.drewN nq)) := below_drewN Hb4.out nq
      have hH5 := Lib.hid (hH4.out.below (below_drewN (Below.refl _ _) nq))
      obtain ⟨w5, hw5⟩ : ∃ w5, w4.drewN nq = w5 := ⟨_, rfl⟩
      rw [hw5] at e3' Hb5 hH5 ⊢
      clear hw5 e2 e3 Hb4 hH4
      obtain ⟨_, a5, cap5, he, _, _, hc5⟩ := hH5.out
      simp only [Value.slice.injEq] at he
      obtain ⟨rfl, -, rfl⟩ := he
      have HC5 := Lib.hid hc5
      clear hc5
      go_wp2_with fail
      go_loopw [9, 10, 12, 13, 43] (fun rr v _ _ i wr => ∃ k : Nat, k ≤ ws.length ∧ i = .int .i64 k ∧ rr = .int .i64 (restA L R (ws.take k)) ∧ wr.ownsRow w5.heap.size 3 1 v k (ints (give L R (ws.take k))) ∧ Below w5.heap.size w5 wr) (fun _ _ _ _ i _ => ws.length - (intOf i).toNat)
      case atStart => exact ⟨0, by omega, rfl, rfl, World.ownsRow_nil _ _ _ _, Below.refl _ _⟩
      case round =>
        obtain ⟨k, hk, rfl, rfl, hown, hb⟩ := hrel
        have hsz : w5.heap.size ≤ wr.heap.size := hb.size
        obtain ⟨ra0, ra1⟩ := restA_bd L R (ws.take k) hR0
        have Hb := Lib.hid hb
        have Hown := Lib.hid hown
        clear hb hown
        by_cases hlt : k < ws.length
        · obtain ⟨b, off, rfl, hcc⟩ := HC5.out (by simp; omega)
          have g := cell_on Hb.out (hcc _ _ (ints_get ws k hlt))
          have hg := Lib.hid (take_snoc ws k hlt)
          obtain ⟨x1, x2⟩ := HW.out _ (List.getElem_mem hlt)
          have G1 := Lib.hid (give_snoc L R (ws.take k) ws[k])
          have G2 := Lib.hid (restA_snoc L R (ws.take k) ws[k])
          rw [← hg.out] at G1 G2
          have Hbl := Lib.hid (World.block_lt_of_cell? _ _ g)
          generalize ws[k] = x at *
          generalize restA L R (ws.take k) = rr at *
          clear hcc HC5 hg
          by_cases c1 : L < x
          · by_cases c2 : 0 < rr
            · have E1 := Lib.hid (show give1 L rr x = L + 1 by unfold give1; rw [if_pos ⟨c1, c2⟩]; omega)
              have E2 := Lib.hid (show rest1 L rr x = rr - 1 by unfold rest1; rw [if_pos ⟨c1, c2⟩])
              go_wp2_with (at_builtin; refine wp_app1 (w0 := wr) 22 3 1 8 _ elInt Try.underlying22 w5.heap.size _ _ _ Hown.out (by repeat (first | exact Below.refl _ _ | refine Below.drew ?_ | refine Below.alloc ?_ (by first | (simp; done) | (simp; omega)) _ | refine Below.setCell ?_ (by first | (simp; done) | (simp; omega)) _)) [.int .i64 (L + 1)] rfl _ _ rfl rfl rfl (by first | exact heap_alloc_new _ _ | (simp only [heap_drew, heap_drewN]; exact heap_alloc_new _ _)) (by simp) rfl rfl (by omega) (by omega) hsz ?_; intro v3 w3 hown3 hgrow3 hb3)
              go_roundw
              case rel =>
                refine ⟨k + 1, by omega, by go_num, by rw [G2.out, E2.out], ?_, Hb.out.trans hb3⟩
                rw [G1.out, E1.out, ← ints_snoc]
                exact hown3
              case measure => simp [intOf]; omega
            · have E1 := Lib.hid (show give1 L rr x = L by unfold give1; rw [if_neg (by omega)]; omega)
              have E2 := Lib.hid (show rest1 L rr x = rr by unfold rest1; rw [if_neg (by omega)])
              go_wp2_with (at_builtin; refine wp_app1 (w0 := wr) 22 3 1 8 _ elInt Try.underlying22 w5.heap.size _ _ _ Hown.out (by repeat (first | exact Below.refl _ _ | refine Below.drew ?_ | refine Below.alloc ?_ (by first | (simp; done) | (simp; omega)) _ | refine Below.setCell ?_ (by first | (simp; done) | (simp; omega)) _)) [.int .i64 (L)] rfl _ _ rfl rfl rfl (by first | exact heap_alloc_new _ _ | (simp only [heap_drew, heap_drewN]; exact heap_alloc_new _ _)) (by simp) rfl rfl (by omega) (by omega) hsz ?_; intro v3 w3 hown3 hgrow3 hb3)
              go_roundw
              case rel =>
                refine ⟨k + 1, by omega, by go_num, by rw [G2.out, E2.out], ?_, Hb.out.trans hb3⟩
                rw [G1.out, E1.out, ← ints_snoc]
                exact hown3
              case measure => simp [intOf]; omega
          · have E1 := Lib.hid (show give1 L rr x = x by unfold give1; rw [if_neg (by omega)]; omega)
            have E2 := Lib.hid (show rest1 L rr x = rr by unfold rest1; rw [if_neg (by omega)])
            go_wp2_with (at_builtin; refine wp_app1 (w0 := wr) 22 3 1 8 _ elInt Try.underlying22 w5.heap.size _ _ _ Hown.out (by repeat (first | exact Below.refl _ _ | refine Below.drew ?_ | refine Below.alloc ?_ (by first | (simp; done) | (simp; omega)) _ | refine Below.setCell ?_ (by first | (simp; done) | (simp; omega)) _)) [.int .i64 (x)] rfl _ _ rfl rfl rfl (by first | exact heap_alloc_new _ _ | (simp only [heap_drew, heap_drewN]; exact heap_alloc_new _ _)) (by simp) rfl rfl (by omega) (by omega) hsz ?_; intro v3 w3 hown3 hgrow3 hb3)
            go_roundw
            case rel =>
              refine ⟨k + 1, by omega, by go_num, by rw [G2.out, E2.out], ?_, Hb.out.trans hb3⟩
              rw [G1.out, E1.out, ← ints_snoc]
              exact hown3
            case measure => simp [intOf]; omega
        · obtain rfl : k = ws.length := by omega
          have ht := List.take_length (l := ws)
          rw [ht] at Hown
          have Hfin : Hid (Below w.heap.size w wr) := Hb5.out.trans (Hb.out.mono Hb5.out.size)
          clear HC5 ht
          go_wp2
          go_ret2
          exact ⟨_, L, rfl, HL.out, by rw [HRR.out]; exact owns_mono Hown.out Hb5.out.size, Hfin.out⟩
end Go.Proofs.Ytkodpijedinanaa
