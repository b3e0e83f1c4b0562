/- GossipErases: the walk. -/
import Derived.Test.YtngedkfljpkoiaaGosO
import Derived.Test.YtngedkfljpkoiaaGosE
namespace Go.Proofs.Ytngedkfljpkoiaa.gossipErases
open Go.ChangeShapes Go.WideShapes Go.ChangeAt Go.RowKit
set_option linter.unusedVariables false
set_option linter.unusedSimpArgs false

set_option maxRecDepth 100000 in
set_option maxHeartbeats 8000000 in
theorem walk (w : World) (v0 : Value) (ls : List Int) (A0 : Has w 1 v0 ls.length (ints ls) ∧ ∀ x ∈ ls, -9223372036854775808 ≤ x ∧ x ≤ 9223372036854775807) (v1 : Value) (l : List Tk) (A1 : Has w 6 v1 l.length (tks l))
    (a2 a3 a4 : Int) (w2 : (Lit.int .i64 a2).wf = true) (w3 : (Lit.int .i64 a3).wf = true) (w4 : (Lit.int .i64 a4).wf = true) :
    Calls Try.prog 7 #[v0, v1, .int .i64 a2, .int .i64 a3, .int .i64 a4] w fun e w' => e = .returned (.bool true) ∧ Below w.heap.size w w' := by
  have C0 := Lib.hid (cLabelsOf A0.1)
  have H1 := Lib.hid A1
  have hlen := labsOf_len ls
  have Hlab := Lib.hid (labsOf_lt ls)
  have P2 := Lib.hid fun X => picked a2 4 (by omega) (by omega) X
  have P3 := Lib.hid fun X => picked a3 5 (by omega) (by omega) X
  have P4 := Lib.hid fun X => picked a4 9 (by omega) (by omega) X
  have hd2 := (pn_eq a2 4 (by omega)).2
  have hd3 := (pn_eq a3 5 (by omega)).2
  have hd4 := (pn_eq a4 9 (by omega)).2
  rw [← (pn_eq a2 4 (by omega)).1] at P2
  rw [← (pn_eq a3 5 (by omega)).1] at P3
  rw [← (pn_eq a4 9 (by omega)).1] at P4
  have hd2' : pn a2 4 < 4 := by omega
  generalize pn a2 4 = d2 at *
  generalize pn a3 5 = d3 at *
  generalize pn a4 9 = d4 at *
  generalize labsOf ls = labs at *
  clear A0 A1 w2 w3 w4
  go_enter Try.func7, Try.ntmps7
  go_wp2_with fail
  refine C0.out.mono ?_
  rintro e w2 ⟨gl, cl, rfl, hownL, hb2⟩
  clear C0
  go_wp2_with fail
  refine (P2.out _).mono ?_
  rintro e w' ⟨rfl, rfl⟩
  rename World => w2
  have x0 := lab_cell (labs := labs) (Has.of_owns hownL) 0 (by omega)
  have xf : w2.frozen? ⟨gl, 0, none⟩ = false := by
    obtain ⟨g, c, he, _, _, hf, _⟩ := owns_some hownL (by omega)
    simp only [Value.slice.injEq, Option.some.injEq, Addr.mk.injEq, and_true, true_and] at he
    obtain ⟨rfl, rfl⟩ := he
    exact hf 0
  have hl16 := Hlab.out _ (List.getElem_mem (show 0 < labs.length by omega))
  go_upto_region 3 with (fail)
  refine wp_still_tail 7 (by kernel_rfl) (by kernel_rfl) ?_
  simp only [List.take_succ_cons, List.take_zero, List.drop_succ_cons, List.drop_zero]
  repeat still_step
  refine wpStill_nil ?_
  go_upto_region 4 with (fail)
  obtain ⟨ho3, hb3⟩ := own_add hownL hlen Hlab.out hd2' (by omega)
  have Hb3 := Lib.hid (hb2.trans hb3)
  have HT3 := Lib.hid (H1.out.below (hb2.trans hb3))
  have HL3 := Lib.hid (Has.of_owns ho3)
  have Hlab3 := Lib.hid (addTo_lt hd2' Hlab.out (by omega))
  have hlen3 : (addTo labs d2).length = 3 := by rw [addTo_len]; exact hlen
  have Hin := Lib.hid (addTo_in (labs := labs) (b := d2) (by omega))
  generalize (w2.setCell ⟨gl, 0, none⟩ (.int .i64 (bits BinOp.or IntKind.i64 ((labs[0]'(by omega) : Nat) : Int) (wrap64 (2 ^ d2))))).drew = w3 at *
  generalize bits BinOp.or IntKind.i64 ((labs[0]'(by omega) : Nat) : Int) (wrap64 (2 ^ d2)) = yy at *
  generalize addTo labs d2 = L at *
  clear x0 xf hl16 ho3 hb3 hb2 hownL H1 Hlab
  go_wp2_with fail
  refine (P3.out _).mono ?_
  rintro e w' ⟨rfl, rfl⟩
  have C4 := Lib.hid (cTurns 40 HT3.out (by omega))
  clear HT3
  rename World => w3
  have hT40 := turnsOf_len l 40
  have HokT := Lib.hid (turnsOf_ok l 40)
  generalize turnsOf l 40 = ts at *
  have Hone := Lib.hid (trns_one ts)
  have Hr2 := Lib.hid (trns_one (roundL 2))
  go_wp2_with fail
  refine C4.out.mono ?_
  rintro e w4 ⟨v4, rfl, hown4, hb4⟩
  obtain ⟨a4', c4, rfl⟩ := owns_slice hown4
  clear C4
  go_wp2_with fail
  refine (cround 2 (by omega) w4).mono ?_
  rintro e w5 ⟨v5, rfl, hown5, hb5⟩
  obtain ⟨a5, c5, rfl⟩ := owns_slice hown5
  have hown4' := owns_below hown4 hb5
  have hb45 := hb4.trans (hb5.mono hb4.size)
  have hsz5 := hb45.size
  go_wp2_with (refine wp_appN (w0 := w5) 25 38 6 48 _ elTurn Try.underlying25 w3.heap.size _ _ _ hown4' (by repeat (first | exact Below.refl _ _ | refine Below.drew ?_ | refine Below.alloc ?_ (by first | (simp; done) | (simp; omega)) _ | refine Below.setCell ?_ (by first | (simp; done) | (simp; omega)) _)) _ _ _ (Has.of_owns hown5) rfl _ _ rfl rfl rfl Hr2.out (by omega) (by unfold maxLen; omega) hsz5 ?_; intro v6 w6 hown6 hgrow6 hb6)
  have hb46 := hb45.trans hb6
  have hsz6 := hb46.size
  rw [← trns_append] at hown6
  refine (P4.out _).mono ?_
  rintro e w' ⟨rfl, rfl⟩
  rename World => w6
  have hnew := heap_alloc_new w6 (.cells #[.int .i64 1, .int .i64 d2, .int .i64 0, .int .i64 0, .int .i64 d3, .int .i64 d4, .int .i64 2, .int .i64 d2, .int .i64 0, .int .i64 0, .int .i64 d3, .int .i64 0] 38)
  have hba : Below w6.heap.size w6 (w6.alloc (.cells #[.int .i64 1, .int .i64 d2, .int .i64 0, .int .i64 0, .int .i64 d3, .int .i64 d4, .int .i64 2, .int .i64 d2, .int .i64 0, .int .i64 0, .int .i64 d3, .int .i64 0] 38)) := (Below.refl _ _).alloc (Nat.le_refl _) _
  have hsrc := has_block (wp := w6) (cs := trns [⟨1, d2, 0, 0, d3, d4⟩, ⟨2, d2, 0, 0, d3, 0⟩]) (n := 2) (sz := 6) hnew rfl rfl (by decide)
  have hone2 := Lib.hid (trns_one [⟨1, d2, 0, 0, d3, d4⟩, ⟨2, d2, 0, 0, d3, 0⟩])
  have hown6' := owns_below hown6 hba
  have hsz6' := Nat.le_trans hsz6 hba.size
  go_wp2_with (refine wp_appN (w0 := w6.alloc (.cells #[.int .i64 1, .int .i64 d2, .int .i64 0, .int .i64 0, .int .i64 d3, .int .i64 d4, .int .i64 2, .int .i64 d2, .int .i64 0, .int .i64 0, .int .i64 d3, .int .i64 0] 38)) 25 38 6 48 _ elTurn Try.underlying25 w3.heap.size _ _ _ hown6' (by repeat (first | exact Below.refl _ _ | refine Below.drew ?_ | refine Below.alloc ?_ (by first | (simp; done) | (simp; omega)) _ | refine Below.setCell ?_ (by first | (simp; done) | (simp; omega)) _)) _ _ _ hsrc rfl _ _ rfl rfl rfl hone2.out (by omega) (by unfold maxLen; omega) hsz6' ?_; intro v7 w7 hown7 hgrow7 hb7)
  obtain ⟨a7, c7, rfl⟩ := owns_slice hown7
  have hb47 := (hb46.trans (hba.mono hsz6)).trans hb7
  rw [← trns_append (ts ++ roundL 2) [⟨1, d2, 0, 0, d3, d4⟩, ⟨2, d2, 0, 0, d3, 0⟩]] at hown7
  clear hown6' hsz6' hone2 hsrc hba hnew
  clear hown4 hown5 hown4' hown6 hb4 hb5 hb45 hb46 hb6 hb7 hsz5 hsz6 hgrow6 hgrow7 P2
  have Hown7 := Lib.hid hown7
  have Hb47 := Lib.hid hb47
  have hsz7 := hb47.size
  clear hown7 hb47
  refine (cround 2 (by omega) w7).mono ?_
  rintro e w8 ⟨v8, rfl, hown8, hb8⟩
  obtain ⟨a8, c8, rfl⟩ := owns_slice hown8
  have hown7' := owns_below Hown7.out hb8
  have hsz8 := (Hb47.out.trans (hb8.mono hsz7)).size
  go_wp2_with (refine wp_appN (w0 := w8) 25 38 6 48 _ elTurn Try.underlying25 w3.heap.size _ _ _ hown7' (by repeat (first | exact Below.refl _ _ | refine Below.drew ?_ | refine Below.alloc ?_ (by first | (simp; done) | (simp; omega)) _ | refine Below.setCell ?_ (by first | (simp; done) | (simp; omega)) _)) _ _ _ (Has.of_owns hown8) rfl _ _ rfl rfl rfl Hr2.out (by omega) (by unfold maxLen; omega) hsz8 ?_; intro v9 w9 hown9 hgrow9 hb9)
  rw [← trns_append] at hown9
  have hB9 := (Hb47.out.trans (hb8.mono hsz7)).trans hb9
  have hok9 : ∀ t ∈ ts ++ roundL 2 ++ [⟨1, d2, 0, 0, d3, d4⟩, ⟨2, d2, 0, 0, d3, 0⟩] ++ roundL 2, t.Ok 3 := fun t ht => by
    rcases List.mem_append.1 ht with h | h
    · rcases List.mem_append.1 h with h | h
      · rcases List.mem_append.1 h with h | h
        · exact HokT.out t h
        · exact roundL_ok (by omega) t h
      · simp only [List.mem_cons, List.not_mem_nil, or_false] at h
        rcases h with rfl | rfl
        · exact ⟨by simp, by simp only; omega, by simp, by simp, by simp only; omega, by simp only; omega⟩
        · exact ⟨by simp, by simp only; omega, by simp, by simp, by simp only; omega, by simp⟩
    · exact roundL_ok (by omega) t h
  have el : ts.length + 2 * 16 + 2 + 2 * 16 = (ts ++ roundL 2 ++ [(⟨1, d2, 0, 0, d3, d4⟩ : Trn), ⟨2, d2, 0, 0, d3, 0⟩] ++ roundL 2).length := by simp only [List.length_append, roundL_length, List.length_cons, List.length_nil]
  have hsay := erase_says (labs := L) (t := ⟨1, d2, 0, 0, d3, d4⟩) (u := ⟨2, d2, 0, 0, d3, 0⟩) (by rw [hlen3]; exact HokT.out) (by omega) (by rw [hlen3]; exact hok9 _ (by simp)) (by rw [hlen3]; exact hok9 _ (by simp)) rfl rfl rfl rfl rfl Hin.out
  have hcode := code_says L (ts ++ roundL 2) (roundL 2) ⟨1, d2, 0, 0, d3, d4⟩ ⟨2, d2, 0, 0, d3, 0⟩
  rw [hsay.1, List.length_append, roundL_length] at hcode
  replace hsay := hsay.2
  generalize ts ++ roundL 2 ++ [(⟨1, d2, 0, 0, d3, d4⟩ : Trn), ⟨2, d2, 0, 0, d3, 0⟩] ++ roundL 2 = tt at *
  have ho9 : w9.ownsRow w3.heap.size 38 6 v9 tt.length (trns tt) := by rw [← el]; exact hown9
  refine (cgossiped (w := w9) (labs := L) (ts := tt) (by rw [hlen3]; exact HL3.out.below hB9) (by rw [← el]; exact Has.of_owns hown9) (by omega) Hlab3.out (by omega) (by rw [hlen3]; exact hok9)).mono ?_
  rintro e w10 ⟨vc, vs, rfl, hP⟩
  obtain ⟨gs, cs, g, rfl, hS⟩ := hP.stores
  obtain ⟨gc, cc, rfl, -, -, -, hcc⟩ := owns_some hP.codes (by omega)
  have y0 : w10.cell? ⟨gc, ts.length + 33, none⟩ = some (.int .i64 0) := hcc (ts.length + 33) _ (by unfold ints; rw [List.getElem?_map, show ts.length + 33 = ts.length + 2 * 16 + 1 by omega, hcode]; rfl)
  have hcb : tt.length ≤ cc ∧ cc ≤ maxLen := by
    obtain ⟨_, _, _, he, h1, h2, _⟩ := Has.of_owns hP.codes
    simp only [Value.slice.injEq] at he
    obtain ⟨-, -, rfl⟩ := he
    exact ⟨h1, h2⟩
  obtain ⟨hcb1, hcb2⟩ := hcb
  unfold maxLen at hcb2
  have hB10 := hB9.trans (hP.hb.mono hB9.size)
  have HL := Lib.hid (HL3.out.below hB10)
  have Hb10 := Lib.hid (Hb3.out.trans (hB10.mono Hb3.out.size))
  have HS := Lib.hid hS
  obtain ⟨e0, he0, hsay⟩ := hsay
  have Hsay := Lib.hid hsay
  have He0 := Lib.hid he0
  obtain ⟨k1, k2⟩ := HS.out.c1
  unfold maxLen at k2
  have hclz : cl ≤ 9223372036854775807 := by
    obtain ⟨_, _, _, he, h1, h2, _⟩ := HL.out
    simp only [Value.slice.injEq] at he
    obtain ⟨-, -, rfl⟩ := he
    exact h2
  have hwi : IntKind.i64.wrap ((ts.length : Int) + 34 - 1) = ((ts.length + 33 : Nat) : Int) := by rw [show (ts.length : Int) + 34 - 1 = ((ts.length + 33 : Nat) : Int) by push_cast; omega]; exact IntWalk.i64_in _ (by omega)
  have hgood := play_good (labs := L) (ts := tt) (by rw [hlen3]; exact hok9) (by omega)
  have Hown := Lib.hid hgood.own
  generalize stAfter L noSt tt = st at *
  clear hS hsay hB9 hB10 hP ho9 hown9 hok9 Hown7 Hb47 hown7' hown8 hb8 hb9 HL3 Hb3 Hr2 Hone HokT Hin hsz7 hsz8 hgrow9 hcc hcode hgood he0
  go_wp2_with fail
  clear y0
  go_loopw [18, 19, 20] (fun i _ _ wr => ∃ k : Nat, k ≤ 4 ∧ i = .int .i64 k ∧ Hid (Below w10.heap.size w10 wr)) (fun i _ _ _ => 4 - (intOf i).toNat)
  case atStart => exact ⟨0, by omega, rfl, Below.refl _ _⟩
  case round =>
    obtain ⟨i, hi, rfl, HB⟩ := hrel
    by_cases hlt : i < 4
    · have hltz : (i : Int) < 4 := by omega
      have X0 := Lib.hid (cell_on HB.out (lab_cell (labs := L) HL.out 0 (by omega)))
      have hl16 := Hlab3.out _ (List.getElem_mem (show 0 < L.length by omega))
      have hbi := bit_in (L[0]'(by omega)) i (by omega)
      have Hlk := Lib.hid (Hsay.out i hlt)
      have Hno := Lib.hid (Hown.out i 0)
      rw [lb_at (show 0 < L.length by omega)] at Hlk Hno
      generalize L[0]'(by omega) = lab at *
      obtain ⟨w11, hw11⟩ : ∃ x, x = wr := ⟨_, rfl⟩
      rw [← hw11] at HB X0 ⊢
      clear hw11
      have S1 := HS.out.on HB.out
      obtain ⟨a1, c1, d1, E1⟩ := S1.ent i 0 hlt (by omega)
      have r1 := S1.row i hlt
      have hE := S1.eight i 0 hlt (by omega)
      have HE := Lib.hid hE.may
      have HE1 := Lib.hid E1
      have hle := hE.len
      generalize st i 0 = es at *
      have R1 := Lib.hid r1
      have D1 := Lib.hid d1
      clear S1 E1 hE r1 d1
      go_wp2_with fail
      go_loopw [19, 20] (fun f j wr => ∃ (k : Nat) (fb : Bool), k ≤ es.length ∧ j = .int .i64 k ∧ f = .bool fb ∧ Hid (∀ x (hx : x < es.length), x < k → es[x].k = d3 → fb = true) ∧ Hid (Below w11.heap.size w11 wr)) (fun _ j _ => es.length - (intOf j).toNat)
      case atStart => exact ⟨0, false, by omega, rfl, rfl, fun x _ h => absurd h (by omega), Below.refl _ _⟩
      case round =>
        obtain ⟨j, fb, hj, rfl, rfl, HH, HBj⟩ := hrel
        have r1 := cell_on HBj.out R1.out
        have d1 := cell_on HBj.out D1.out
        by_cases hjl : j < es.length
        · have hjz : (j : Int) < (es.length : Int) := by omega
          obtain ⟨b, off, cap, he, -, x0, x1, x2, x3, x4⟩ := ent_get (HE1.out.below HBj.out) j hjl
          simp only [Value.slice.injEq] at he
          obtain ⟨rfl, -, rfl⟩ := he
          have hmem : inL lab i = true := by
            cases hq : inL lab i with
            | true => rfl
            | false => have := Hno.out hq; rw [this] at hjl; simp at hjl
          have hlk := Hlk.out hmem
          have hg : es[j].k = d3 → es[j].g = true := fun hk => by
            have h1 := look_at HE.out j hjl
            rw [hk, hlk] at h1
            simp only [Option.some.injEq] at h1
            rw [← h1]; exact He0.out
          have hnx : ∀ q : Bool, (es[j].k = d3 → q = true) → (fb = true → q = true) → Hid (∀ x (hx : x < es.length), x < j + 1 → es[x].k = d3 → q = true) := fun q h1 h2 x hx hxk hxe => by
            by_cases e : x = j
            · subst e; exact h1 hxe
            · exact h2 (HH.out x hx (by omega) hxe)
          have Hnx := Lib.hid hnx
          have Hg := Lib.hid hg
          clear hnx hg hlk hmem
          generalize es[j] = x at *
          by_cases hk : x.k = d3
          · have hkz : (x.k == (d3 : Int)) = true := by rw [hk]; simp
            have hgt := Hg.out hk
            rw [hgt] at x4
            have hfin := Lib.hid (Hnx.out true (fun _ => rfl) (fun _ => rfl))
            clear Hnx Hg HH hgt
            go_wp2_with fail
            go_roundw
            case rel => exact ⟨j + 1, true, by omega, by go_num, rfl, hfin.out, HBj⟩
            case measure => first | (simp [intOf]; done) | (simp [intOf]; omega)
          · have hkz : (x.k == (d3 : Int)) = false := by rw [beq_eq_false_iff_ne]; exact hk
            have hfin := Lib.hid (Hnx.out fb (fun h => absurd h hk) (fun h => h))
            clear Hnx Hg HH
            go_wp2_with fail
            go_roundw
            case rel => exact ⟨j + 1, fb, by omega, by go_num, rfl, hfin.out, HBj⟩
            case measure => first | (simp [intOf]; done) | (simp [intOf]; omega)
        · obtain rfl : j = es.length := by omega
          have hft : inL lab i = true → fb = true := fun hm => by
            obtain ⟨hme, hke⟩ := look_some (Hlk.out hm)
            obtain ⟨x, hx, hxe⟩ := List.mem_iff_getElem.1 hme
            exact HH.out x hx hx (by rw [hxe]; exact hke)
          have x0 := cell_on HBj.out X0.out
          have HB8 : Hid (Below w10.heap.size w10 wr) := HB.out.trans (HBj.out.mono HB.out.size)
          clear HH
          cases hi1 : inL lab i with
          | false =>
            rw [hi1] at hbi
            clear hft
            go_wp2_with fail
            go_roundw
            case rel => exact ⟨i + 1, by omega, by go_num, HB8⟩
            case measure => first | (simp [intOf]; done) | (simp [intOf]; omega)
          | true =>
            rw [hi1] at hbi
            have hft' := hft hi1
            subst hft'
            clear hft
            go_wp2_with fail
            go_roundw
            case rel => exact ⟨i + 1, by omega, by go_num, HB8⟩
            case measure => first | (simp [intOf]; done) | (simp [intOf]; omega)
    · obtain rfl : i = 4 := by omega
      have hfin : Hid (Below w.heap.size w wr) := Hb10.out.trans (HB.out.mono Hb10.out.size)
      clear HB
      go_wp2_with fail
      go_ret
      exact ⟨rfl, hfin.out⟩
end Go.Proofs.Ytngedkfljpkoiaa.gossipErases
