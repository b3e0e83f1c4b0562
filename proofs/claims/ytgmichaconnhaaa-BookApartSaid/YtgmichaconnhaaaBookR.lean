/- Books: the walk of Round. -/
import Derived.Test.YtgmichaconnhaaaBookW
namespace Go.Proofs.Ytgmichaconnhaaa
open Go.ChangeShapes Go.WideShapes Go.ChangeAt Go.RowKit
set_option linter.unusedVariables false
set_option linter.unusedSimpArgs false

/-- What the epoch's statement reads of the book, and its cell of quotas. -/
theorem five_on {w w' : World} {S : Nat} {a b c d : Value} (hb : Below w.heap.size w w') (h3 : w.cell? ⟨S, 3, none⟩ = some a) (h0 : w.cell? ⟨S, 0, none⟩ = some b) (h5 : w.cell? ⟨S, 5, none⟩ = some c) (h7 : w.cell? ⟨S, 7, none⟩ = some d) (f7 : w.frozen? ⟨S, 7, none⟩ = false) :
    w'.cell? ⟨S, 3, none⟩ = some a ∧ w'.cell? ⟨S, 0, none⟩ = some b ∧ w'.cell? ⟨S, 5, none⟩ = some c ∧ w'.cell? ⟨S, 7, none⟩ = some d ∧ w'.frozen? ⟨S, 7, none⟩ = false :=
  ⟨cell_on hb h3, cell_on hb h0, cell_on hb h5, cell_on hb h7, by rw [hb.frozen (p := ⟨S, 7, none⟩) (World.block_lt_of_cell? w _ h7)]; exact f7⟩
theorem pay_due (b : Bk) (k : Nat) : b.due k = min (b.wants.getD k 0 - b.granted.getD k 0) (b.quota.getD k 0) := rfl
theorem row_get {w : World} {b n g c k : Nat} {l : List Int} (h : w.ownsRow b 3 1 (.slice (some ⟨g, 0, none⟩) n c) n (ints l)) (hk : k < n) : w.cell? ⟨g, k, none⟩ = some (.int .i64 (l.getD k 0)) ∧ w.frozen? ⟨g, k, none⟩ = false := by
  have hl : l.length = n := by have := h.1; simpa using this
  obtain ⟨g', cp', he, -, -, hgf, hgc⟩ := owns_some h (by omega)
  simp only [Value.slice.injEq, Option.some.injEq, Addr.mk.injEq, and_true, true_and] at he
  obtain ⟨rfl, rfl⟩ := he
  refine ⟨?_, hgf k⟩
  rw [hgc k _ (ints_get l k (by omega))]
  simp [List.getD_eq_getElem?_getD, hl, hk]
theorem wrote_fresh {F : Nat → Prop} {a w : World} (h : Wrote F a w) {p : Addr} (hp : F p.block ∨ a.heap.size ≤ p.block) (u : Value) : Wrote F a (w.setCell p u) := by
  rcases hp with hp | hp
  · exact h.setCell hp u
  · exact ⟨h.os, h.tape, h.output, by have := h.size; simpa [World.setCell] using this, fun k hk hf => by
      rw [Below.heap_setCell _ _ _ _ (by omega)]; exact h.block k hk hf⟩
theorem three_on {w w' : World} {S : Nat} {a b c : Value} (hb : Below w.heap.size w w') (h3 : w.cell? ⟨S, 3, none⟩ = some a) (h0 : w.cell? ⟨S, 0, none⟩ = some b) (h5 : w.cell? ⟨S, 5, none⟩ = some c) :
    w'.cell? ⟨S, 3, none⟩ = some a ∧ w'.cell? ⟨S, 0, none⟩ = some b ∧ w'.cell? ⟨S, 5, none⟩ = some c := ⟨cell_on hb h3, cell_on hb h0, cell_on hb h5⟩
theorem three_set {w : World} {S : Nat} {a b c : Value} (u : Value) (h3 : w.cell? ⟨S, 3, none⟩ = some a) (h0 : w.cell? ⟨S, 0, none⟩ = some b) (h5 : w.cell? ⟨S, 5, none⟩ = some c) :
    (w.setCell ⟨S, 7, none⟩ u).cell? ⟨S, 3, none⟩ = some a ∧ (w.setCell ⟨S, 7, none⟩ u).cell? ⟨S, 0, none⟩ = some b ∧ (w.setCell ⟨S, 7, none⟩ u).cell? ⟨S, 5, none⟩ = some c := by
  refine ⟨?_, ?_, ?_⟩ <;> rw [World.cell?_setCell_other _ _ _ _ (by simp)] <;> assumption
set_option maxRecDepth 100000 in
set_option maxHeartbeats 4000000 in
theorem cround {w : World} {S gw gg gq cq n : Nat} {b : Bk} (h : BookAt w S gw gg gq cq n b) (hok : BkOk n b) (h1 : 1 ≤ n) (h8 : n ≤ 8) (hr : b.round ≤ 1000) :
    Calls Try.prog 67 #[.pointer (some ⟨S, 0, none⟩)] w fun e w' => ∃ v' gq' cq', e = .returned (.tuple #[v', .int .i64 b.report]) ∧ w'.ownsRow w.heap.size 3 1 v' n (ints b.rounded.granted) ∧ BookAt w' S gw gg gq' cq' n b.rounded ∧ (gq' = gq ∨ w.heap.size ≤ gq') ∧ Wrote (bkF S gw gg gq) w w' ∧ (∀ bk off m c, v' = .slice (some ⟨bk, off, none⟩) m c → bk ≠ gq') := by
  have c1 := h.c1
  have c2 := h.c2
  have c3 := h.c3
  have c0 := h.c0
  have c5 := h.c5
  have f2 := h.fz 2
  have hrd := hok.round
  obtain ⟨t1, t2⟩ := hok.ticks
  have H := Lib.hid h
  have Hok := Lib.hid hok
  have hlt := h.lt.1
  have hbg : Hid (b.begins = (b.round % b.ticks == 0)) := rfl
  have hne0 : ¬ b.ticks = 0 := by omega
  have htm : b.round.tmod b.ticks = b.round % b.ticks := Int.tmod_eq_emod_of_nonneg hrd
  have hrep : Hid (b.report = if b.begins = true then b.res else -1) := rfl
  have hnx : Hid (b.next = { (if b.begins = true then { b with quota := shareV b.res (List.replicate b.wants.length b.most) } else b) with round := b.round + 1 }) := rfl
  cases hbb : b.begins
  case' true =>
    have hm0 : (b.round % b.ticks == 0) = true := by rw [← hbg.out]; exact hbb
    rw [hbb] at hrep hnx
    clear h hok hbb hbg
    go_enter Try.func67, Try.ntmps67
    go_wp2_with fail
    go_quiet (fail)
    go_upto_region 4 with (fail)
    have hbW : Below w.heap.size w (w.drewN nq) := below_drewN (Below.refl _ _) _
    have HW : Hid (BookAt (w.drewN nq) S gw gg gq cq n b) := H.out.kept rfl rfl rfl rfl
    clear c1 c2 c3 c0 c5 f2
    generalize hWW : w.drewN nq = W1 at *
    have HWW := Lib.hid hWW
    clear hWW
    have HbW := Lib.hid hbW
    have hltW := HW.out.lt.1
    have r3 := Lib.hid HW.out.c3
    have r0 := Lib.hid HW.out.c0
    have r5 := Lib.hid HW.out.c5
    have r7 := Lib.hid HW.out.c7
    have g7 := Lib.hid (HW.out.fz 7)
    have c3 := r3.out
    have c0 := r0.out
    have c5 := r5.out
    have c7 := r7.out
    have f7 := g7.out
    have hres := Hok.out.res
    have hmost := Hok.out.most
    generalize hmo : b.most = mo at *
    generalize hre : b.res = re at *
    have Hmo := Lib.hid hmo
    have Hre := Lib.hid hre
    clear hmo hre hbW
    have hbA : Hid (Below W1.heap.size W1 (W1.alloc (.cells #[.int .i64 mo] 3))) := (Below.refl _ _).alloc (Nat.le_refl _) _
    have hbD : Hid (Below W1.heap.size W1 (W1.alloc (.cells #[.int .i64 mo] 3)).drew) := Below.drew hbA.out
    go_region_held3 (fun X => X.cell? ⟨S, 3, none⟩ = some (.int .i64 re) ∧ X.cell? ⟨S, 0, none⟩ = some (.int .i64 mo) ∧ X.cell? ⟨S, 5, none⟩ = some (.slice (some ⟨gw, 0, none⟩) n n))
      (first | exact three_set _ k3 k0 k5 | exact three_on (w := W1) (Below.drew (Below.refl _ _)) r3.out r0.out r5.out | exact three_on (w := W1) hbD.out r3.out r0.out r5.out | exact three_on (hbD.out.trans (hb5.mono hbD.out.size)) r3.out r0.out r5.out | exact ⟨k3, k0, k5⟩ | (go_keep; done))
      ((first | (go_at_call 39; refine (crepeat _ mo n _ (has_block (by first | exact heap_alloc_new _ _ | (simp only [heap_drew, heap_drewN]; exact heap_alloc_new _ _)) rfl (by rfl) (by decide)) h1 (by omega)).mono ?_; rintro e w5 ⟨v5, rfl, hown5, hb5⟩) | (go_at_call 79; refine (csplit v5 (List.replicate n mo) re w5 (by simpa using Has.of_owns hown5) (fun x hx => by rw [List.mem_replicate] at hx; omega) (by simp; omega) (by omega) (by omega)).mono ?_; rintro e w6 ⟨v6, L, rfl, hL, hown6, hb6⟩; rw [List.length_replicate] at hown6; obtain ⟨g6, c6, rfl, -⟩ := owns_some hown6 (by omega); obtain ⟨k3, k0, k5, k7, kf⟩ := five_on ((hbD.out.trans (hb5.mono hbD.out.size)).trans (hb6.mono (hbD.out.trans (hb5.mono hbD.out.size)).size)) r3.out r0.out r5.out r7.out g7.out) | fail))
    have hb16 : Below W1.heap.size W1 w6 := (hbD.out.trans (hb5.mono hbD.out.size)).trans (hb6.mono (hbD.out.trans (hb5.mono hbD.out.size)).size)
    have hsq : give L (re - least (List.replicate n mo) L) (List.replicate n mo) = shareV re (List.replicate n mo) := shareV_eq (fun x hx => by rw [List.mem_replicate] at hx; omega) (by omega) hL
    rw [hsq] at hown6
    have hlw := Hok.out.lw
    have HB6 : Hid (BookAt (w6.setCell ⟨S, 7, none⟩ (.slice (some ⟨g6, 0, none⟩) n c6)) S gw gg g6 c6 n { b with quota := shareV re (List.replicate n mo) }) := HW.out.newQuota hb16 (owns_mono hown6 (hbD.out.trans (hb5.mono hbD.out.size)).size)
    have HB7 : Hid (BookAt ((w6.setCell ⟨S, 7, none⟩ (.slice (some ⟨g6, 0, none⟩) n c6)).setCell ⟨S, 2, none⟩ (.int .i64 (b.round + 1))) S gw gg g6 c6 n b.next) := by
      have h := HB6.out.setRound (b.round + 1)
      have e := hnx.out
      simp only [if_true] at e
      rw [hlw] at e
      have hm := Hmo.out
      have hr' := Hre.out
      rw [e]
      subst hm; subst hr'
      exact h
    have hg6 : W1.heap.size ≤ g6 := by
      obtain ⟨g', cp', he, hgg, -⟩ := owns_some hown6 (by omega)
      simp only [Value.slice.injEq, Option.some.injEq, Addr.mk.injEq, and_true, true_and] at he
      obtain ⟨rfl, rfl⟩ := he
      exact Nat.le_trans (hbD.out.trans (hb5.mono hbD.out.size)).size hgg
    have Hgq : Hid (g6 = gq ∨ w.heap.size ≤ g6) := Or.inr (Nat.le_trans HbW.out.size hg6)
    have hbw6 : Below w.heap.size w w6 := HbW.out.trans (hb16.mono HbW.out.size)
    have Hwr : Hid (Wrote (bkF S gw gg gq) w ((w6.setCell ⟨S, 7, none⟩ (.slice (some ⟨g6, 0, none⟩) n c6)).setCell ⟨S, 2, none⟩ (.int .i64 (b.round + 1)))) :=
      ((Wrote.of_below hbw6 (fun k h1 h2 => by omega)).setCell (p := ⟨S, 7, none⟩) (Or.inl rfl) _).setCell (p := ⟨S, 2, none⟩) (Or.inl rfl) _
    have k2 := HB6.out.c2
    have kf2 := HB6.out.fz 2
    have Hrep := Lib.hid (show b.report = re by have e := hrep.out; simpa using e)
    clear c3 c0 c5 c7 f7 hnx hrep hlw hown6 hown5 hb5 hb6 hb16 hbw6 hg6 hsq hL k3 k0 k5 k7 kf r3 r0 r5 r7 g7 HB6 HW HbW hbA hbD hm0 htm
    generalize hW6 : w6.setCell ⟨S, 7, none⟩ (.slice (some ⟨g6, 0, none⟩) n c6) = W6 at *
    go_upto_region 6 with (fail)
    generalize W6.setCell ⟨S, 2, none⟩ (.int .i64 (b.round + 1)) = W7 at *
  case' false =>
    have hm0 : (b.round % b.ticks == 0) = false := by rw [← hbg.out]; exact hbb
    rw [hbb] at hrep hnx
    have HB7 : Hid (∀ nq, BookAt ((w.drewN nq).setCell ⟨S, 2, none⟩ (.int .i64 (b.round + 1))) S gw gg gq cq n b.next) := fun nq => by
      have h := (H.out.kept rfl rfl rfl rfl : BookAt (w.drewN nq) S gw gg gq cq n b).setRound (b.round + 1)
      have e := hnx.out
      simp only [Bool.false_eq_true, if_false] at e
      rw [e]; exact h
    have Hwr : Hid (∀ nq, Wrote (bkF S gw gg gq) w ((w.drewN nq).setCell ⟨S, 2, none⟩ (.int .i64 (b.round + 1)))) := fun nq => ((Wrote.refl _ _).drewN nq).setCell (p := ⟨S, 2, none⟩) (Or.inl rfl) _
    have Hrep := Lib.hid (show b.report = -1 by have e := hrep.out; simpa using e)
    clear h hok hbb hbg hnx hrep
    go_enter Try.func67, Try.ntmps67
    go_wp2_with fail
    go_quiet (fail)
    go_upto_region 6 with (fail)
    have HB7 := Lib.hid (HB7.out nq)
    have Hwr := Lib.hid (Hwr.out nq)
    clear c1 c2 c3 c0 c5 f2 hm0 htm
    generalize (w.drewN nq).setCell ⟨S, 2, none⟩ (.int .i64 (b.round + 1)) = W7 at *
    obtain ⟨g6, hg6⟩ : ∃ x, x = gq := ⟨_, rfl⟩
    obtain ⟨c6, hc6⟩ : ∃ x, x = cq := ⟨_, rfl⟩
    have HB7 : Hid (BookAt W7 S gw gg g6 c6 n b.next) := by rw [hg6, hc6]; exact HB7.out
    have Hgq : Hid (g6 = gq ∨ w.heap.size ≤ g6) := Or.inl hg6
    clear hg6 hc6
  all_goals
    have hsz7 := Hwr.out.size
    have k5 := HB7.out.c5
    have Hnx := Lib.hid Hok.out.next
    have Hlw := Lib.hid Hok.out.lw
    clear hlt
    go_wp2_with fail
    go_loopw [5, 6, 7, 56] (fun _ _ _ i wr => ∃ k : Nat, k ≤ n ∧ i = .int .i64 k ∧ BookAt wr S gw gg g6 c6 n (b.next.payTo k) ∧ Wrote (bkF S gw gg gq) w wr) (fun _ _ _ i _ => n - (intOf i).toNat)
    case atStart => exact ⟨0, by omega, rfl, HB7.out, Hwr.out⟩
    case round =>
      clear HB7 Hwr k5
      obtain ⟨k, hk, rfl, hB, hwr⟩ := hrel
      have HB := Lib.hid hB
      have Hwr := Lib.hid hwr
      clear hB hwr
      by_cases hlt : k < n
      · have hko := Hnx.out.payTo k (by omega)
        have hP : Hid (b.next.payTo (k + 1) = (b.next.payTo k).pay k) := Bk.payTo_succ _ _
        generalize b.next.payTo k = x at *
        obtain ⟨d0, d1, d2, d3⟩ := due_bd hko k
        obtain ⟨w0, w1, w2⟩ := hko.want k
        have hq0 := hko.quota k
        have hrs := hko.res
        have hqs := hko.sum
        have hql := (le_sum x.quota k hko.quota).2
        have hdue : Hid (x.due k = min (x.wants.getD k 0 - x.granted.getD k 0) (x.quota.getD k 0)) := rfl
        obtain ⟨a1, -⟩ := row_get HB.out.rw hlt
        obtain ⟨a2, b2⟩ := row_get HB.out.rg hlt
        obtain ⟨a3, b3⟩ := row_get HB.out.rq hlt
        have k3 := HB.out.c3
        have k6 := HB.out.c6
        have k7 := HB.out.c7
        have kf3 := HB.out.fz 3
        have e1 := HB.out.d1
        have e2 := HB.out.d2
        have e3 := HB.out.d3
        have e4 := HB.out.d4
        have e5 := HB.out.d5
        have e6 := HB.out.d6
        have hpay : Hid (x.pay k = { x with granted := x.granted.set k (x.granted.getD k 0 + x.due k), quota := x.quota.set k (x.quota.getD k 0 - x.due k), res := x.res - x.due k }) := rfl
        have hst : Hid (∀ X, BookAt X S gw gg g6 c6 n x → BookAt (((X.setCell ⟨gg, k, none⟩ (.int .i64 (x.granted.getD k 0 + x.due k))).setCell ⟨g6, k, none⟩ (.int .i64 (x.quota.getD k 0 - x.due k))).setCell ⟨S, 3, none⟩ (.int .i64 (x.res - x.due k))) S gw gg g6 c6 n (x.pay k)) := fun X hX => by
          rw [hpay.out]
          exact ((hX.setGranted k _).setQuota k _).setRes _
        have hmin : (if x.quota.getD k 0 < x.wants.getD k 0 - x.granted.getD k 0 then x.quota.getD k 0 else x.wants.getD k 0 - x.granted.getD k 0) = x.due k := by rw [hdue.out]; split <;> omega
        generalize x.due k = d at *
        generalize x.wants.getD k 0 = wk at *
        generalize x.granted.getD k 0 = gk at *
        generalize x.quota.getD k 0 = qk at *
        generalize x.res = re' at *
        have ws1 : IntKind.i64.wrap (wk - gk) = wk - gk := IntWalk.i64_in _ (by omega)
        have hqk : qk ≤ 1048576 := by omega
        clear hdue hpay hko hqs hql
        go_wp2_with fail
        go_quiet (fail)
        go_wp2_with fail
        go_roundw
        case rel => exact ⟨k + 1, by omega, by go_num, by rw [hP.out]; exact (hst.out _ HB.out).kept rfl rfl rfl rfl, (((Hwr.out.setCell (p := ⟨gg, k, none⟩) (Or.inr (Or.inr (Or.inl rfl))) _ |> fun h => wrote_fresh (p := ⟨g6, k, none⟩) h (by
            rcases Hgq.out with h | h
            · exact Or.inl (Or.inr (Or.inr (Or.inr h)))
            · exact Or.inr h) _).setCell (p := ⟨S, 3, none⟩) (Or.inl rfl) _).drewN _)⟩
        case measure => simp [intOf]; omega
      · obtain rfl : k = n := by omega
        have hrd : Hid (BookAt wr S gw gg g6 c6 k b.rounded) := by
          have h := HB.out
          unfold Bk.rounded
          rw [Hlw.out]; exact h
        have HC := Lib.hid (cclone_int _ k (ints b.rounded.granted) wr (Has.of_owns hrd.out.rg) (ints_one _) (by omega))
        have k6 := hrd.out.c6
        have Hrd := hrd
        clear HB
        go_wp2_with fail
        refine HC.out.mono ?_
        rintro e w9 ⟨v9, rfl, hown, hb⟩
        have Hown := Lib.hid (owns_mono hown Hwr.out.size)
        have Hrd9 := Lib.hid (Hrd.out.on hb)
        have Hwr9 := Lib.hid (Hwr.out.trans ((Wrote.of_below (F := bkF S gw gg gq) hb (fun j h1 h2 => by omega))))
        have Haw : Hid (∀ bk off m c, v9 = .slice (some ⟨bk, off, none⟩) m c → bk ≠ g6) := fun bk off m c hv => by
          have hg := Hrd.out.lt.2.2.2
          obtain ⟨_, ho⟩ := hown
          rcases ho with ⟨rfl, _⟩ | ⟨g, cap, cur, rfl, hgg, _⟩
          · simp at hv
          · simp only [Value.slice.injEq, Option.some.injEq, Addr.mk.injEq] at hv
            obtain ⟨⟨rfl, -, -⟩, -, -⟩ := hv
            omega
        clear hown hb HC k6 hrd Hrd Hwr
        go_wp2_with fail
        go_ret2
        exact ⟨_, g6, c6, by rw [Hrep.out]; rfl, Hown.out, Hrd9.out, Hgq.out, Hwr9.out, Haw.out⟩
end Go.Proofs.Ytgmichaconnhaaa
