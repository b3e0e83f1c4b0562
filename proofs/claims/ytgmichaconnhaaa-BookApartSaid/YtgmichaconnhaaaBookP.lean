/- Books: the walk of Play. -/
import Derived.Test.YtgmichaconnhaaaBookC
namespace Go.Proofs.Ytgmichaconnhaaa
open Go.ChangeShapes Go.WideShapes Go.ChangeAt Go.RowKit
set_option linter.unusedVariables false
set_option linter.unusedSimpArgs false

def bkStep (s : Bk × List (List Int × Int)) (c : Cal) : Bk × List (List Int × Int) := (s.1.step c, s.2 ++ [s.1.out c])
def bkFold (b : Bk) (l : List Cal) : Bk × List (List Int × Int) := l.foldl bkStep (b, [])
def bkOuts (b : Bk) (l : List Cal) : List (List Int × Int) := (bkFold b l).2
theorem elRul : Elem Try.prog 48 3 40 (.agg #[.int .i64 0, .slice none 0 0, .int .i64 0]) := .of (by kernel_rfl) rfl (by decide)
theorem owns_wrote2 {F : Nat → Prop} {w w' : World} {base e sz n : Nat} {v : Value} {xs : List Value} (hown : w.ownsRow base e sz v n xs) (hw : Wrote F w w') (hF : ∀ g cs r, base ≤ g → w.heap[g]? = some (.cells cs e r) → ¬ F g) : w'.ownsRow base e sz v n xs := by
  obtain ⟨hl, h⟩ := hown
  refine ⟨hl, ?_⟩
  rcases h with h | ⟨g, cap, cur, rfl, hg, hh, r⟩
  · exact .inl h
  · exact .inr ⟨g, cap, cur, rfl, hg, by rw [hw.block g (Array.getElem?_eq_some_iff.1 hh).1 (hF g _ _ hg hh)]; exact hh, r⟩
/-- What stands behind k calls. -/
structure PlayB (w wr : World) (S gw gg gq cq n B : Nat) (b0 : Bk) (l : List Cal) (k : Nat) (out : Value) (rs : List Rul) : Prop where
  bk : BookAt wr S gw gg gq cq n (bkFold b0 (l.take k)).1
  ok : BkOk n (bkFold b0 (l.take k)).1
  all : (bkFold b0 (l.take k)).1.all ≤ 1000 * k
  rd : (bkFold b0 (l.take k)).1.round ≤ k
  ho : wr.ownsRow B 48 3 out k (ruls rs)
  rl : ∀ r ∈ rs, RulAt wr r ∧ Away (bkF S gw gg gq) r.gv
  er : rs.map Rul.erase = (bkFold b0 (l.take k)).2
  hb : Below w.heap.size w wr
  lo : w.heap.size ≤ S ∧ w.heap.size ≤ gw ∧ w.heap.size ≤ gg ∧ w.heap.size ≤ gq
  hi : S < B ∧ gw < B ∧ gg < B ∧ B ≤ wr.heap.size
theorem PlayB.on {w wr w' : World} {S gw gg gq cq n B : Nat} {b0 : Bk} {l : List Cal} {k : Nat} {out : Value} {rs : List Rul} (h : PlayB w wr S gw gg gq cq n B b0 l k out rs) (hb : Below wr.heap.size wr w') : PlayB w w' S gw gg gq cq n B b0 l k out rs :=
  ⟨h.bk.on hb, h.ok, h.all, h.rd, owns_below h.ho hb, fun r hr => ⟨(h.rl r hr).1.below hb, (h.rl r hr).2⟩, h.er, h.hb.trans (hb.mono h.hb.size), h.lo, by have := h.hi; have := hb.size; omega⟩
theorem PlayB.out6 {w wr w6 : World} {S gw gg gq cq n B : Nat} {b0 : Bk} {l : List Cal} {k : Nat} {out : Value} {rs : List Rul} (h : PlayB w wr S gw gg gq cq n B b0 l k out rs) (hW : Wrote (bkF S gw gg gq) wr w6) : w6.ownsRow B 48 3 out k (ruls rs) :=
  owns_wrote2 h.ho hW (fun g cs r hg' hh hf => by
    have := h.hi
    rcases hf with rfl | rfl | rfl | rfl
    · omega
    · omega
    · omega
    · obtain ⟨cs', hcs⟩ := owns_block_at h.bk.rq
      rw [hcs] at hh
      simp only [Option.some.injEq, Obj.cells.injEq] at hh
      exact absurd hh.2.1 (by decide))
theorem playB_step {w wr w6 w7 : World} {S gw gg gq cq gq' cq' n B : Nat} {b0 : Bk} {l : List Cal} {k : Nat} {out out' : Value} {rs : List Rul} {r : Rul} (h : PlayB w wr S gw gg gq cq n B b0 l k out rs) (hk : k < l.length) (hc : CalOk n l[k]) (hk300 : k ≤ 300)
    (hr : RulAt w6 r) (he : r.erase = (bkFold b0 (l.take k)).1.out l[k]) (hB : BookAt w6 S gw gg gq' cq' n ((bkFold b0 (l.take k)).1.step l[k])) (hq : gq' = gq ∨ wr.heap.size ≤ gq') (hW : Wrote (bkF S gw gg gq) wr w6) (ha : Away (fun j => j < wr.heap.size ∨ j = gq') r.gv)
    (hown : w7.ownsRow B 48 3 out' (k + 1) (ruls rs ++ r.cells)) (hg : w6.grownBy w7 out.ownBlock) (hb : Below B w6 w7) : PlayB w w7 S gw gg gq' cq' n B b0 l (k + 1) out' (rs ++ [r]) := by
  obtain ⟨l1, l2, l3, l4⟩ := h.bk.lt
  have ho6 := owns_wrote2 h.ho hW (fun g cs r hg' hh hf => by
    have := h.hi
    rcases hf with rfl | rfl | rfl | rfl
    · omega
    · omega
    · omega
    · obtain ⟨cs', hcs⟩ := owns_block_at h.bk.rq
      rw [hcs] at hh
      simp only [Option.some.injEq, Obj.cells.injEq] at hh
      exact absurd hh.2.1 (by decide))
  have hch := Chg.grown (T := [48]) ho6 hg (by simp)
  have keep : ∀ {g c : Nat} {xs : List Value}, w6.ownsRow 0 3 1 (.slice (some ⟨g, 0, none⟩) n c) n xs → w7.heap[g]? = w6.heap[g]? := fun hx => by
    obtain ⟨cs, hcs⟩ := owns_block_at hx
    rw [hcs]
    exact hch.block _ _ hcs fun cs' e' r' heq => by
      simp only [Obj.cells.injEq] at heq
      obtain ⟨-, rfl, -⟩ := heq
      decide
  have hstep : bkFold b0 (l.take (k + 1)) = bkStep (bkFold b0 (l.take k)) l[k] := foldl_take _ _ _ _ hk
  obtain ⟨s1, s2, s3⟩ := h.ok.step l[k] hc (by have := h.all; omega)
  have hlo := h.lo
  have hhi := h.hi
  have haway : ∀ x ∈ rs, Away (bkF S gw gg gq') x.gv := fun x hx b off m c hv hf => by
    have h1 := (h.rl x hx).2 b off m c hv
    rcases hf with rfl | rfl | rfl | rfl
    · exact h1 (Or.inl rfl)
    · exact h1 (Or.inr (Or.inl rfl))
    · exact h1 (Or.inr (Or.inr (Or.inl rfl)))
    · rcases hq with rfl | hq
      · exact h1 (Or.inr (Or.inr (Or.inr rfl)))
      · obtain ⟨cs, r', hh⟩ := (h.rl x hx).1.has.2 b off m c hv
        have := (Array.getElem?_eq_some_iff.1 hh).1
        omega
  have hsz := hW.size
  have hsz2 := hb.size
  refine ⟨?_, ?_, ?_, ?_, ?_, fun x hx => ?_, ?_, ?_, ?_, ?_⟩
  · rw [hstep]
    exact hB.kept (hb.block S (by omega)) (keep hB.rw) (keep hB.rg) (keep hB.rq)
  · rw [hstep]; exact s1
  · rw [hstep]; have := h.all; simp only [bkStep]; omega
  · rw [hstep]; have := h.rd; simp only [bkStep]; omega
  · have : ruls rs ++ r.cells = ruls (rs ++ [r]) := flat_snoc _ _ _
    rw [← this]; exact hown
  · rcases List.mem_append.1 hx with hx | hx
    · exact ⟨((h.rl x hx).1.wrote hW (h.rl x hx).2).chg hch, haway x hx⟩
    · simp at hx; subst hx
      refine ⟨hr.chg hch, fun b off m c hv hf => ha b off m c hv ?_⟩
      rcases hf with rfl | rfl | rfl | rfl
      · exact Or.inl l1
      · exact Or.inl l2
      · exact Or.inl l3
      · exact Or.inr rfl
  · rw [hstep, List.map_append, h.er]
    simp [bkStep, he]
  · have h1 : Below w.heap.size wr w6 := hW.below h.hb.size fun j hj => by rcases hj with rfl | rfl | rfl | rfl <;> omega
    exact (h.hb.trans h1).trans (hb.mono (by omega))
  · rcases hq with rfl | hq
    · exact hlo
    · have := h.hb.size; omega
  · omega
set_option maxRecDepth 100000 in
set_option maxHeartbeats 4000000 in
theorem cbplay (n : Nat) (most ticks : Int) (v : Value) (l : List Cal) (w : World) (h : Has w 3 v l.length (cals l)) (hl : ∀ c ∈ l, CalOk n c) (h1 : 1 ≤ n) (h8 : n ≤ 8) (hm : 0 ≤ most ∧ most ≤ 1048576) (ht : 1 ≤ ticks ∧ ticks ≤ 8) (hlen : l.length ≤ 300) :
    Calls Try.prog 33 #[.int .i64 n, .int .i64 most, .int .i64 ticks, v] w fun e w' => ∃ v' rs, e = .returned (.tuple #[v', .int .i64 0]) ∧ w'.ownsRow w.heap.size 48 3 v' l.length (ruls rs) ∧ (∀ r ∈ rs, RulAt w' r) ∧ rs.map Rul.erase = bkOuts (Bk.new n most ticks) l ∧ Below w.heap.size w w' := by
  have Hl := Lib.hid hl
  have Hnew := Lib.hid (cnewBook n most ticks w h1 h8)
  have Hok0 := Lib.hid (BkOk.new n most ticks hm ht)
  obtain ⟨⟨hl2, hnil⟩, ad, cap, rfl, hcn, hcm, hc⟩ := h
  have Hc := Lib.hid hc
  obtain ⟨m0, m1⟩ := hm
  obtain ⟨t0, t1⟩ := ht
  unfold maxLen at hcm
  clear hl hc hl2 hnil
  go_enter Try.func33, Try.ntmps33
  go_wp2_with fail
  refine Hnew.out.mono ?_
  rintro e w1 ⟨S, gw, gg, gq, rfl, hB, hlo, hb1⟩
  have hsz1 := hb1.size
  obtain ⟨l1, l2, l3, l4⟩ := hB.lt
  have H0 : Hid (PlayB w w1 S gw gg gq n n w1.heap.size (Bk.new n most ticks) l 0 (.slice none 0 0) []) :=
    ⟨hB, Hok0.out, by simp [bkFold, Bk.new], by simp [bkFold, Bk.new], World.ownsRow_nil _ _ _ _, fun r hr => by simp at hr, rfl, hb1, hlo, by omega⟩
  generalize hbk : Bk.new n most ticks = b0 at *
  have Hbk := Lib.hid hbk
  generalize hB1 : w1.heap.size = B at *
  clear hB hlo hb1 Hnew hbk hB1 l1 l2 l3 l4 hsz1 Hok0
  go_wp2_with fail
  go_loopw [11, 13, 45] (fun out _ i wr => ∃ (k gq cq : Nat) (rs : List Rul), k ≤ l.length ∧ i = .int .i64 k ∧ PlayB w wr S gw gg gq cq n B b0 l k out rs) (fun _ _ i _ => l.length - (intOf i).toNat)
  case atStart => exact ⟨0, gq, n, [], by omega, rfl, H0.out⟩
  case round =>
    clear H0
    obtain ⟨k, gq, cq, rs, hk, rfl, hP⟩ := hrel
    have HP := Lib.hid hP
    clear hP
    by_cases hlt : k < l.length
    · obtain ⟨b, off, rfl, hcc⟩ := Hc.out (by simp [cals, flat_length Cal.cells 3 Cal.cells_length]; omega)
      have x0 := cell_on HP.out.hb (hcc (k * 3 + 0) (.int .i64 l[k].kind) (by unfold cals; rw [flat_get Cal.cells 3 Cal.cells_length l k hlt 0 (by omega)]; rfl))
      have x1 := cell_on HP.out.hb (hcc (k * 3 + 1) (.int .i64 l[k].who) (by unfold cals; rw [flat_get Cal.cells 3 Cal.cells_length l k hlt 1 (by omega)]; rfl))
      have x2 := cell_on HP.out.hb (hcc (k * 3 + 2) (.int .i64 l[k].count) (by unfold cals; rw [flat_get Cal.cells 3 Cal.cells_length l k hlt 2 (by omega)]; rfl))
      rw [Nat.add_zero] at x0
      rw [← Nat.add_assoc] at x1 x2
      have hbl := World.block_lt_of_cell? wr _ x0
      have HK := Lib.hid (Hl.out _ (List.getElem_mem hlt))
      have hall := HP.out.all
      have hrd := HP.out.rd
      have Hcall := Lib.hid fun X (hX : Below wr.heap.size wr X) => ccall ((HP.out.on hX).bk) HP.out.ok h1 h8 (by omega) (by omega) l[k] HK.out
      clear hcc hall hrd
      go_upto_region 10 with (fail)
      have hbx : Below wr.heap.size wr (wr.alloc (.cells #[.int .i64 l[k].kind, .int .i64 l[k].who, .int .i64 l[k].count] 46)) := (Below.refl _ _).alloc (Nat.le_refl _) _
      go_wp2_with fail
      refine (Hcall.out _ hbx).mono ?_
      rintro e w6 ⟨r, gq', cq', rfl, hr, he, hB, hq, hW, ha⟩
      have HP3 := Lib.hid (HP.out.on hbx)
      have Ho6 := Lib.hid (HP3.out.out6 hW)
      have hszB : B ≤ w6.heap.size := Nat.le_trans HP3.out.hi.2.2.2 hW.size
      obtain ⟨gv, g, rp⟩ := r
      obtain ⟨ag, cg, hgv⟩ := hr.sl
      simp only at hgv
      subst hgv
      have Hr := Lib.hid hr
      have He := Lib.hid he
      have HB := Lib.hid hB
      have Hq := Lib.hid hq
      have HW := Lib.hid hW
      have Ha := Lib.hid ha
      clear hr he hB hq hW ha hbx Hcall x0 x1 x2
      go_wp2_with (at_builtin; refine wp_app1 (w0 := w6) 41 48 3 40 _ elRul Try.underlying41 B _ _ _ Ho6.out (by repeat (first | exact Below.refl _ _ | refine Below.drew ?_ | refine Below.alloc ?_ (by first | (simp; done) | (simp; omega)) _ | refine Below.setCell ?_ (by first | (simp; done) | (simp; omega)) _)) [.int .i64 0, .slice ag g.length cg, .int .i64 rp] rfl _ _ rfl rfl rfl (by first | exact heap_alloc_new _ _ | (simp only [heap_drew, heap_drewN]; exact heap_alloc_new _ _)) (by simp) rfl rfl (by omega) (by omega) hszB ?_; intro v7 w7 hown7 hgrow7 hb7)
      go_roundw
      case rel => exact ⟨k + 1, gq', cq', _, by omega, by go_num, playB_step HP3.out hlt HK.out (by omega) Hr.out He.out HB.out Hq.out HW.out Ha.out hown7 hgrow7 hb7⟩
      case measure => simp [intOf]; omega
    · obtain rfl : k = l.length := by omega
      have ho := Lib.hid (owns_mono HP.out.ho (show w.heap.size ≤ B by have := HP.out.lo; have := HP.out.hi; omega))
      have hr := Lib.hid fun r hr => (HP.out.rl r hr).1
      have he : Hid (rs.map Rul.erase = bkOuts b0 l) := by
        have := HP.out.er
        rw [List.take_length] at this
        exact this
      have hB := Lib.hid HP.out.hb
      clear HP Hc
      go_wp2
      go_ret2
      exact ⟨_, rs, rfl, ho.out, hr.out, by rw [Hbk.out]; exact he.out, hB.out⟩
end Go.Proofs.Ytgmichaconnhaaa
