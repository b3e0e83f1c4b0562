/- Books: the laws' booked. -/
import Derived.Test.YtgmichaconnhaaaBookP
import Derived.Test.YtgmichaconnhaaaSameI
import Derived.Test.YtgmichaconnhaaaApp
import Derived.Test.YtgmichaconnhaaaGrow
namespace Go.Proofs.Ytgmichaconnhaaa
open Go.ChangeShapes Go.WideShapes Go.ChangeAt Go.RowKit
set_option linter.unusedVariables false
set_option linter.unusedSimpArgs false

theorem elCall : Elem Try.prog 46 3 24 (.agg #[.int .i64 0, .int .i64 0, .int .i64 0]) := .of (by kernel_rfl) rfl (by decide)
theorem cals_one (l : List Cal) : (cals l).all Value.oneCell' = true := by
  rw [List.all_eq_true]; intro v hv
  simp only [cals, List.mem_flatMap] at hv
  obtain ⟨p, _, h⟩ := hv
  simp [Cal.cells] at h
  rcases h with rfl | rfl | rfl <;> rfl
theorem cals_length (l : List Cal) : (cals l).length = l.length * 3 := flat_length Cal.cells 3 Cal.cells_length l
/-- What holds behind k calls. -/
theorem bkFold_ok {n : Nat} {b : Bk} (hb : BkOk n b) (h0 : b.all = 0) (h1 : b.round = 0) (l : List Cal) (hl : ∀ c ∈ l, CalOk n c) (hlen : l.length ≤ 300) : ∀ k, k ≤ l.length → BkOk n (bkFold b (l.take k)).1 ∧ (bkFold b (l.take k)).1.all ≤ 1000 * k ∧ (bkFold b (l.take k)).1.round ≤ k
  | 0, _ => ⟨hb, by simp [bkFold, h0], by simp [bkFold, h1]⟩
  | k + 1, hk => by
    obtain ⟨a, b', c⟩ := bkFold_ok hb h0 h1 l hl hlen k (by omega)
    have e : bkFold b (l.take (k + 1)) = bkStep (bkFold b (l.take k)) l[k] := foldl_take _ _ _ _ (by omega)
    rw [e]
    obtain ⟨s1, s2, s3⟩ := a.step l[k] (hl _ (List.getElem_mem _)) (by omega)
    exact ⟨s1, by simp only [bkStep]; omega, by simp only [bkStep]; omega⟩
theorem bkFold_length (b : Bk) (l : List Cal) : ∀ k, k ≤ l.length → (bkFold b (l.take k)).2.length = k
  | 0, _ => rfl
  | k + 1, hk => by
    have e : bkFold b (l.take (k + 1)) = bkStep (bkFold b (l.take k)) l[k] := foldl_take _ _ _ _ (by omega)
    rw [e]
    simp [bkStep, bkFold_length b l k (by omega)]
theorem bkOuts_length (b : Bk) (l : List Cal) : (bkOuts b l).length = l.length := by
  have := bkFold_length b l l.length (Nat.le_refl _)
  rw [List.take_length] at this; exact this
/-- The i-th ruling. -/
theorem bkOuts_get (b : Bk) (l : List Cal) (i : Nat) (hi : i < l.length) : (bkOuts b l)[i]? = some ((bkFold b (l.take i)).1.out l[i]) := by
  have key : ∀ k, k ≤ l.length → i < k → (bkFold b (l.take k)).2[i]? = some ((bkFold b (l.take i)).1.out l[i]) := by
    intro k
    induction k with
    | zero => intro _ h; omega
    | succ k ih =>
      intro hk hik
      have e : bkFold b (l.take (k + 1)) = bkStep (bkFold b (l.take k)) l[k] := foldl_take _ _ _ _ (by omega)
      have hlen := bkFold_length b l k (by omega)
      rw [e]
      simp only [bkStep]
      by_cases h : i < k
      · rw [List.getElem?_append_left (by omega)]; exact ih (by omega) h
      · have : i = k := by omega
        subst this
        rw [List.getElem?_append_right (by omega), hlen, Nat.sub_self]; rfl
  have := key l.length (Nat.le_refl _) hi
  rw [List.take_length] at this; exact this
theorem out_length {n : Nat} {b : Bk} (h : BkOk n b) (c : Cal) (hc : c.kind = 3) : (b.out c).1.length = n := by
  unfold Bk.out; rw [if_pos hc]; exact h.rounded.lg
theorem one_share : shareV 3 [5] = [3] := by
  have h := shareV_eq (t := 3) (ws := [5]) (L := 3) (by intro x hx; simp at hx; omega) (by omega) ⟨by omega, by omega, by decide, fun _ => by decide⟩
  rw [← h]; rfl
def oneCals : List Cal := [⟨1, 0, 3⟩, ⟨2, 0, 2⟩, ⟨3, 0, 0⟩]
theorem one_calls : ∀ c ∈ oneCals, CalOk 1 c := by
  intro c hc
  simp only [oneCals, List.mem_cons, List.not_mem_nil, or_false] at hc
  rcases hc with rfl | rfl | rfl
  · exact Or.inl ⟨rfl, by decide, by decide⟩
  · exact Or.inr (Or.inl ⟨rfl, by decide, by decide, by decide, by decide⟩)
  · exact Or.inr (Or.inr rfl)
theorem one_outs : (bkOuts (Bk.new 1 5 1) oneCals)[2]? = some ([2], 3) := by
  rw [bkOuts_get _ _ 2 (by decide)]
  have e1 : (bkFold (Bk.new 1 5 1) (oneCals.take 2)).1 = ⟨5, 1, 0, 3, 3, [2], [0], [0]⟩ := rfl
  rw [e1]
  have e2 : oneCals[2] = ⟨3, 0, 0⟩ := rfl
  rw [e2]
  have e3 : Bk.next ⟨5, 1, 0, 3, 3, [2], [0], [0]⟩ = ⟨5, 1, 1, 3, 3, [2], [0], [3]⟩ := by
    have hb : Bk.begins ⟨5, 1, 0, 3, 3, [2], [0], [0]⟩ = true := rfl
    unfold Bk.next Bk.epoch
    rw [if_pos hb]
    show Bk.mk 5 1 1 3 3 [2] [0] (shareV 3 [5]) = _
    rw [one_share]
  unfold Bk.out Bk.rounded
  rw [if_pos rfl, e3]
  rfl
/-- What 'booked' gives. -/
def BookedPost (w : World) (most ticks : Int) (l : List Cal) (e : Ending) (w' : World) : Prop :=
  ∃ a c rs, e = .returned (.tuple #[.slice a l.length c, .bool true]) ∧ Has w' 3 (.slice a l.length c) l.length (ruls rs) ∧ (∀ r ∈ rs, RulAt w' r) ∧ rs.map Rul.erase = bkOuts (Bk.new 3 most ticks) l ∧ Below w.heap.size w w'
theorem csameR (v1 v2 : Value) (E : List Int) (w : World) (h1 : Has w 1 v1 E.length (ints E)) (h2 : Has w 1 v2 E.length (ints E)) :
    Calls Try.prog 20 #[v1, v2] w fun e w' => e = .returned (.bool true) ∧ Below w.heap.size w w' :=
  (csameInts v1 v2 E E w h1 h2).mono fun _ _ h => by simpa using h
set_option maxRecDepth 100000 in
set_option maxHeartbeats 4000000 in
theorem cbooked (most ticks : Int) (v : Value) (l : List Cal) (w : World) (h : Has w 3 v l.length (cals l)) (hl : ∀ c ∈ l, CalOk 3 c) (hm : 0 ≤ most ∧ most ≤ 1048576) (ht : 1 ≤ ticks ∧ ticks ≤ 8) (hlen : l.length ≤ 300) :
    Calls Try.prog 19 #[.int .i64 most, .int .i64 ticks, v] w (BookedPost w most ticks l) := by
  have Hl := Lib.hid hl
  have hsz0 : w.heap.size ≤ w.heap.size := Nat.le_refl _
  have Hh := Lib.hid h
  have Hok := Lib.hid (bkFold_ok (BkOk.new 3 most ticks hm ht) rfl rfl l hl hlen)
  obtain ⟨⟨hl2, hnil⟩, ad, cap, rfl, hcn, hcm, hc⟩ := h
  have Hc := Lib.hid hc
  clear hc hl2 hnil hl
  unfold maxLen at hcm
  go_enter Try.func19, Try.ntmps19
  go_wp2_with (refine wp_appN (w0 := w) 39 46 3 24 _ elCall Try.underlying39 w.heap.size _ _ _ (World.ownsRow_nil _ _ _ _) (by repeat (first | exact Below.refl _ _ | refine Below.drew ?_ | refine Below.alloc ?_ (by first | (simp; done) | (simp; omega)) _ | refine Below.setCell ?_ (by first | (simp; done) | (simp; omega)) _)) _ _ _ Hh.out rfl _ _ rfl rfl rfl (cals_one _) (by omega) (by unfold maxLen; omega) hsz0 ?_; intro v1 w1 hown1 hgrow1 hb1)
  rw [List.nil_append, Nat.zero_add] at hown1
  have Hp := Lib.hid (Has.of_owns hown1)
  have Hb1 := Lib.hid hb1
  have HcA := Lib.hid Hh.out
  clear hown1 hgrow1 hb1 hsz0
  refine (cbplay 3 most ticks v1 l w1 Hp.out Hl.out (by omega) (by omega) hm ht hlen).mono ?_
  rintro e w2 ⟨v2, rs, rfl, hown, hr, he, hb2⟩
  obtain ⟨a2, c2, rfl⟩ := owns_slice hown
  have H2 := Lib.hid (Has.of_owns hown)
  have Hr := Lib.hid hr
  have He := Lib.hid he
  have Hb2 := Lib.hid (Hb1.out.trans (hb2.mono Hb1.out.size))
  clear hown hr he hb2 Hp Hb1
  go_wp2_with fail
  go_loopw [10] (fun i wr => ∃ k : Nat, k ≤ l.length ∧ i = .int .i64 k ∧ Below w2.heap.size w2 wr) (fun i _ => l.length - (intOf i).toNat)
  case atStart => exact ⟨0, by omega, rfl, Below.refl _ _⟩
  case round =>
    obtain ⟨k, hk, rfl, hb⟩ := hrel
    have Hb := Lib.hid hb
    clear hb
    by_cases hlt : k < l.length
    · obtain ⟨b, off, rfl, hcc⟩ := Hc.out (by rw [cals_length]; omega)
      have x0 := cell_on Hb.out (cell_on Hb2.out (hcc (k * 3 + 0) (.int .i64 l[k].kind) (by unfold cals; rw [flat_get Cal.cells 3 Cal.cells_length l k hlt 0 (by omega)]; rfl)))
      rw [Nat.add_zero] at x0
      have hrl : rs.length = l.length := by have := congrArg List.length He.out; rwa [List.length_map, bkOuts_length] at this
      have hkr : k < rs.length := by omega
      obtain ⟨_, ad, cap', he, _, _, hc2⟩ := H2.out
      simp only [Value.slice.injEq] at he
      obtain ⟨rfl, -, rfl⟩ := he
      obtain ⟨b2, off2, rfl, hcc2⟩ := hc2 (by unfold ruls; rw [flat_length Rul.cells 3 Rul.cells_length]; omega)
      have y1 := cell_on Hb.out (hcc2 (k * 3 + 1) rs[k].gv (by unfold ruls; rw [flat_get Rul.cells 3 Rul.cells_length rs k hkr 1 (by omega)]; rfl))
      rw [← Nat.add_assoc] at y1
      obtain ⟨ag, cg, hgv⟩ := (Hr.out _ (List.getElem_mem hkr)).sl
      rw [hgv] at y1
      have hout := bkOuts_get (Bk.new 3 most ticks) l k hlt
      rw [← He.out, List.getElem?_map, List.getElem?_eq_getElem hkr] at hout
      simp only [Option.map_some, Option.some.injEq] at hout
      have hgl : l[k].kind = 3 → rs[k].g.length = 3 := fun h3 => by
        have h := out_length (Hok.out k (by omega)).1 l[k] h3
        rw [← hout] at h; exact h
      clear hcc hcc2 hc2 hout hgv
      by_cases hk3 : l[k].kind = 3
      · have hg3 := hgl hk3
        rw [hk3] at x0
        rw [hg3] at y1
        clear hgl hg3 hk3
        go_wp2_with fail
        go_roundw
        case rel => exact ⟨k + 1, by omega, by go_num, Hb.out⟩
        case measure => simp [intOf]; omega
      · have hk3' : (l[k].kind == 3) = false := by simpa using hk3
        clear hgl hk3
        go_wp2_with fail
        go_roundw
        case rel => exact ⟨k + 1, by omega, by go_num, Hb.out⟩
        case measure => simp [intOf]; omega
    · obtain rfl : k = l.length := by omega
      clear Hc
      go_wp2_with fail
      refine (cbplay 1 5 1 _ oneCals _ (has_block (cs := cals oneCals) (by first | exact heap_alloc_new _ _ | (simp only [heap_drew, heap_drewN]; exact heap_alloc_new _ _)) rfl (by rfl) (by decide)) one_calls (by omega) (by omega) (by omega) (by omega) (by decide)).mono ?_
      rintro e w4 ⟨v4, rs4, rfl, hown, hr, he, hb4⟩
      have hb34 : Below wr.heap.size wr w4 := ((Below.refl _ _).alloc (Nat.le_refl _) _).trans (hb4.mono (by simp))
      have ho2 := one_outs
      rw [← he, List.getElem?_map] at ho2
      obtain ⟨r2, hr2, hre⟩ : ∃ r, rs4[2]? = some r ∧ r.erase = ([2], 3) := by
        cases hx : rs4[2]? with
        | none => rw [hx] at ho2; cases ho2
        | some r => rw [hx] at ho2; exact ⟨r, rfl, by simpa using ho2⟩
      have hk2 : 2 < rs4.length := (List.getElem?_eq_some_iff.1 hr2).1
      have hr2' : rs4[2] = r2 := (List.getElem?_eq_some_iff.1 hr2).2
      obtain ⟨gv, g, rp⟩ := r2
      simp only [Rul.erase, Prod.mk.injEq] at hre
      obtain ⟨rfl, rfl⟩ := hre
      have hR := hr _ (List.mem_of_getElem? hr2)
      obtain ⟨ag, cg, hgv⟩ := hR.sl
      simp only at hgv
      subst hgv
      have hHg := Lib.hid hR.has.has
      obtain ⟨g4, c4, rfl, -, hg4, -, hgc⟩ := owns_some hown (by decide)
      have y1 := hgc 7 (.slice ag 1 cg) (by
        have := flat_get Rul.cells 3 Rul.cells_length rs4 2 hk2 1 (by omega)
        rw [hr2'] at this; exact this)
      have y2 := hgc 8 (.int .i64 3) (by
        have := flat_get Rul.cells 3 Rul.cells_length rs4 2 hk2 2 (by omega)
        rw [hr2'] at this; exact this)
      have H4 := Lib.hid ((H2.out.below Hb.out).below hb34)
      have Hr4 := Lib.hid fun r hr => ((Hr.out r hr).below Hb.out).below hb34
      have hb24 := Hb2.out.trans (Hb.out.mono Hb2.out.size)
      have Hb4 := Lib.hid (hb24.trans (hb34.mono hb24.size))
      clear hgc hown hr he hb4 hb34 ho2 hr2 hr2' hR H2 Hr Hb hb24 hk2
      go_wp2_with (go_at_call 20; refine (csameR _ _ [2] _ (Has.below hHg.out ((Below.refl _ _).alloc (Nat.le_refl _) _)) (has_block (by first | exact heap_alloc_new _ _ | (simp only [heap_drew, heap_drewN]; exact heap_alloc_new _ _)) rfl (by rfl) (by decide))).mono ?_; rintro e w5 ⟨rfl, hb5⟩)
      have hb45 : Below w4.heap.size w4 w5 := ((Below.refl _ _).alloc (Nat.le_refl _) _).trans (hb5.mono (by simp))
      have H5 := Lib.hid (H4.out.below hb45)
      have Hr5 := Lib.hid fun r hr => (Hr4.out r hr).below hb45
      have Hb5 := Lib.hid (Hb4.out.trans (hb45.mono Hb4.out.size))
      clear hb5 hb45 H4 Hr4 Hb4 hHg y1 y2
      go_ret2
      exact ⟨a2, c2, rs, rfl, H5.out, Hr5.out, He.out, Hb5.out⟩
end Go.Proofs.Ytgmichaconnhaaa
