/- The laws' LabelsOf, gossiped, round. -/
import Derived.Test.YtngedkfljpkoiaaGosQ
import Derived.Test.YtngedkfljpkoiaaMem
namespace Go.Proofs.Ytngedkfljpkoiaa
open Go.ChangeShapes Go.WideShapes Go.ChangeAt Go.RowKit
set_option linter.unusedVariables false
set_option linter.unusedSimpArgs false

/-- What the laws make of integers: three labels. -/
def labsK (l : List Int) : Nat → List Nat
  | 0 => [15, 6, 9]
  | k + 1 => match l[k]? with
    | some x => (labsK l k).set k (pick x 16).toNat
    | none => labsK l k
def labsOf (l : List Int) : List Nat := labsK l 3
theorem labsK_len (l : List Int) : ∀ k, (labsK l k).length = 3
  | 0 => rfl
  | k + 1 => by
    unfold labsK
    cases l[k]? with
    | none => exact labsK_len l k
    | some x => simp [labsK_len l k]
theorem labsK_lt (l : List Int) : ∀ k, ∀ x ∈ labsK l k, x < 16
  | 0 => by simp [labsK]
  | k + 1 => by
    unfold labsK
    cases l[k]? with
    | none => exact labsK_lt l k
    | some x =>
      intro y hy
      rcases List.mem_or_eq_of_mem_set hy with h | h
      · exact labsK_lt l k y h
      · subst h
        have := pick_bd x 16 (by omega)
        omega
theorem labsK_all {l : List Int} {k : Nat} (h : l.length = k) (h3 : k ≤ 3) : labsK l k = labsOf l := by
  have s : ∀ j, k ≤ j → labsK l (j + 1) = labsK l j := fun j hj => by
    show (match l[j]? with | some x => (labsK l j).set j (pick x 16).toNat | none => labsK l j) = _
    rw [List.getElem?_eq_none (by omega)]
  unfold labsOf
  rcases (show k = 0 ∨ k = 1 ∨ k = 2 ∨ k = 3 by omega) with rfl | rfl | rfl | rfl
  · rw [s 2 (by omega), s 1 (by omega), s 0 (by omega)]
  · rw [s 2 (by omega), s 1 (by omega)]
  · rw [s 2 (by omega)]
  · rfl
theorem labInts_set (l : List Nat) (k : Nat) (x : Nat) : (labInts l).set k x = labInts (l.set k x) := by simp [labInts, List.map_set]
theorem labInts_length (l : List Nat) : (labInts l).length = l.length := by simp [labInts]
set_option maxRecDepth 100000 in
set_option maxHeartbeats 4000000 in
theorem cLabelsOf {w : World} {v : Value} {l : List Int} (h : Has w 1 v l.length (ints l)) :
    Calls Try.prog 10 #[v] w fun e w' => ∃ g cap, e = .returned (.slice (some ⟨g, 0, none⟩) 3 cap) ∧ w'.ownsRow w.heap.size 3 1 (.slice (some ⟨g, 0, none⟩) 3 cap) 3 (ints (labInts (labsOf l))) ∧ Below w.heap.size w w' := by
  obtain ⟨⟨hl, _⟩, a, cap, rfl, hn, hm, hc⟩ := h
  unfold maxLen at hm
  have HC := Lib.hid hc
  have P := Lib.hid fun (a : Int) X => picked a 16 (by omega) (by omega) X
  have hb0 : Below w.heap.size w (w.alloc (.cells #[.int .i64 15, .int .i64 6, .int .i64 9] 3)) := (Below.refl _ _).alloc (Nat.le_refl _) _
  have hown0 : Hid ((w.alloc (.cells #[.int .i64 15, .int .i64 6, .int .i64 9] 3)).ownsRow w.heap.size 3 1 (.slice (some ⟨w.heap.size, 0, none⟩) 3 3) 3 (ints (labInts (labsK l 0)))) :=
    owns_block (wp := w) (cs := ints (labInts (labsK l 0))) (heap_alloc_new _ _) rfl rfl (by decide) (Nat.le_refl _)
  have Hb0 := Lib.hid hb0
  clear hc hb0
  go_enter Try.func10, Try.ntmps10
  go_wp2_with fail
  go_loopw [4] (fun i wr => ∃ k : Nat, k ≤ 3 ∧ k ≤ l.length ∧ i = .int .i64 k ∧ wr.ownsRow w.heap.size 3 1 (.slice (some ⟨w.heap.size, 0, none⟩) 3 3) 3 (ints (labInts (labsK l k))) ∧ Below w.heap.size w wr) (fun i _ => 3 - (intOf i).toNat)
  case atStart => exact ⟨0, by omega, by omega, rfl, hown0.out, Hb0.out⟩
  case round =>
    clear hown0 Hb0
    obtain ⟨k, hk, hkl, rfl, ho, hb⟩ := hrel
    have HO := Lib.hid ho
    have HB := Lib.hid hb
    have hbl : w.heap.size < wr.heap.size := by
      obtain ⟨_, _, he, _, h2, _⟩ := owns_some ho (by omega)
      simp only [Value.slice.injEq, Option.some.injEq, Addr.mk.injEq] at he
      omega
    clear ho hb
    by_cases h3 : k < 3
    · by_cases hlt : k < l.length
      · have h3z : (k : Int) < 3 := by omega
        have hltz : (k : Int) < (l.length : Int) := by omega
        obtain ⟨b, off, rfl, hcc⟩ := HC.out (by rw [ints_length]; omega)
        have x0 := cell_on HB.out (hcc k _ (ints_get l k hlt))
        have hset : Hid (labsK l (k + 1) = (labsK l k).set k (pick l[k] 16).toNat) := by
          show (match l[k]? with | some x => (labsK l k).set k (pick x 16).toNat | none => labsK l k) = _
          rw [List.getElem?_eq_getElem hlt]
        have hpk := pick_bd l[k] 16 (by omega)
        have Pk := Lib.hid (P.out l[k])
        generalize l[k] = y at *
        obtain ⟨q, hq⟩ : ∃ q : Nat, pick y 16 = q := ⟨(pick y 16).toNat, by omega⟩
        rw [hq] at hset Pk
        have y0 : ∃ u, wr.cell? ⟨w.heap.size, k, none⟩ = some u := by
          obtain ⟨g, c, he, _, _, _, hcc2⟩ := owns_some HO.out (by omega)
          simp only [Value.slice.injEq, Option.some.injEq, Addr.mk.injEq, and_true, true_and] at he
          obtain ⟨rfl, rfl⟩ := he
          exact ⟨_, hcc2 k _ (ints_get _ k (by rw [labInts_length, labsK_len]; omega))⟩
        obtain ⟨u, y0⟩ := y0
        have yf : wr.frozen? ⟨w.heap.size, k, none⟩ = false := by
          obtain ⟨g, c, he, _, _, hf, _⟩ := owns_some HO.out (by omega)
          simp only [Value.slice.injEq, Option.some.injEq, Addr.mk.injEq, and_true, true_and] at he
          obtain ⟨rfl, rfl⟩ := he
          exact hf k
        have hfin : Hid ((wr.setCell ⟨w.heap.size, k, none⟩ (.int .i64 q)).ownsRow w.heap.size 3 1 (.slice (some ⟨w.heap.size, 0, none⟩) 3 3) 3 (ints (labInts (labsK l (k + 1)))) ∧ Below w.heap.size w (wr.setCell ⟨w.heap.size, k, none⟩ (.int .i64 q))) := by
          refine ⟨?_, HB.out.setCell (Nat.le_refl _) _⟩
          rw [hset.out, ← labInts_set, ← ints_set]
          exact owns_set HO.out k _
        clear hcc hpk hq hset P
        go_wp2_with (go_at_call 16; refine (Pk.out _).mono ?_; rintro e w' ⟨rfl, rfl⟩)
        go_roundw
        case rel => exact ⟨k + 1, by omega, by omega, by go_num, hfin.out⟩
        case measure => simp [intOf]; omega
      · obtain rfl : k = l.length := by omega
        have h3z : ((l.length : Nat) : Int) < 3 := by omega
        have hfin : Hid (wr.ownsRow w.heap.size 3 1 (.slice (some ⟨w.heap.size, 0, none⟩) 3 3) 3 (ints (labInts (labsOf l))) ∧ Below w.heap.size w wr) := by
          rw [← labsK_all rfl (by omega)]; exact ⟨HO.out, HB.out⟩
        clear HO HB P HC
        go_wp2
        go_ret
        exact ⟨_, _, rfl, hfin.out⟩
    · obtain rfl : k = 3 := by omega
      have hfin : Hid (wr.ownsRow w.heap.size 3 1 (.slice (some ⟨w.heap.size, 0, none⟩) 3 3) 3 (ints (labInts (labsOf l))) ∧ Below w.heap.size w wr) := ⟨HO.out, HB.out⟩
      clear HO HB P HC
      go_wp2
      go_ret
      exact ⟨_, _, rfl, hfin.out⟩
theorem labInts_one (l : List Nat) : (ints (labInts l)).all Value.oneCell' = true := ints_one _
theorem elTurn : Elem Try.prog 38 6 48 (.agg #[.int .i64 0, .int .i64 0, .int .i64 0, .int .i64 0, .int .i64 0, .int .i64 0]) := .of (by kernel_rfl) rfl (by decide)
theorem Played.from {w W w' : World} {labs : List Nat} {ts : List Trn} {vc vs : Value} (h : Played W w' labs ts vc vs) (hb : Below w.heap.size w W) : Played w w' labs ts vc vs := by
  obtain ⟨h1, ⟨g, vv, h2, h3⟩, h4⟩ := h
  exact ⟨owns_base h1 hb.size, ⟨g, vv, owns_base h2 hb.size, h3⟩, hb.trans (h4.mono hb.size)⟩
theorem Played.on {w w' w'' : World} {labs : List Nat} {ts : List Trn} {vc vs : Value} (h : Played w w' labs ts vc vs) (hb : Below w'.heap.size w' w'') : Played w w'' labs ts vc vs := by
  obtain ⟨h1, ⟨g, vv, h2, h3⟩, h4⟩ := h
  exact ⟨owns_below h1 hb, ⟨g, vv, owns_below h2 hb, fun i hi => (h3 i hi).on hb⟩, h4.trans (hb.mono h4.size)⟩
set_option maxRecDepth 100000 in
set_option maxHeartbeats 4000000 in
theorem cgossiped {w : World} {vl vt : Value} {labs : List Nat} {ts : List Trn} (hl : Has w 1 vl labs.length (ints (labInts labs))) (ht : Has w 6 vt ts.length (trns ts)) (hlen : labs.length ≤ 4) (hlab : ∀ x ∈ labs, x < 16) (hts : ts.length ≤ 300) (hok : ∀ t ∈ ts, t.Ok labs.length) :
    Calls Try.prog 12 #[vl, vt] w fun e w' => ∃ vc vs, e = .returned (.tuple #[vc, vs, .bool true]) ∧ Played w w' labs ts vc vs := by
  have HL := Lib.hid hl
  have HT := Lib.hid ht
  have Hlab := Lib.hid hlab
  have Hok := Lib.hid hok
  have H1 := Lib.hid (trns_one ts)
  have H2 := Lib.hid (labInts_one labs)
  obtain ⟨_, la, cl, rfl, hc1, hc2, _⟩ := hl
  obtain ⟨_, ta, tc, rfl, hd1, hd2, _⟩ := ht
  have hszw : w.heap.size ≤ w.heap.size := Nat.le_refl _
  clear hlab hok
  go_enter Try.func12, Try.ntmps12
  go_wp2_with (first | ((refine wp_appN (w0 := w) 22 3 1 8 _ elInt Try.underlying22 w.heap.size _ _ _ (World.ownsRow_nil _ _ _ _) (by repeat (first | exact Below.refl _ _ | refine Below.drew ?_ | refine Below.alloc ?_ (by first | (simp; done) | (simp; omega)) _ | refine Below.setCell ?_ (by first | (simp; done) | (simp; omega)) _)) _ _ _ HL.out rfl _ _ rfl rfl rfl H2.out (by omega) (by unfold maxLen; omega) hszw ?_; intro v2 w2 hown2 hgrow2 hb2); have hsz2 := hb2.size) | (refine wp_appN (w0 := w2) 25 38 6 48 _ elTurn Try.underlying25 w2.heap.size _ _ _ (World.ownsRow_nil _ _ _ _) (by repeat (first | exact Below.refl _ _ | refine Below.drew ?_ | refine Below.alloc ?_ (by first | (simp; done) | (simp; omega)) _ | refine Below.setCell ?_ (by first | (simp; done) | (simp; omega)) _)) _ _ _ (HT.out.below hb2) rfl _ _ rfl rfl rfl H1.out (by omega) (by unfold maxLen; omega) (Nat.le_refl _) ?_; intro v3 w3 hown3 hgrow3 hb3) | fail)
  rw [List.nil_append, Nat.zero_add] at hown2 hown3
  refine (cgPlay (HasT.of_owns (owns_below hown2 hb3)) (Has.of_owns hown3) hlen Hlab.out hts Hok.out).mono ?_
  rintro e w4 ⟨vc, vs, rfl, hP⟩
  have HP := Lib.hid (hP.from (hb2.trans (hb3.mono hb2.size)))
  obtain ⟨ac, cc, rfl⟩ := owns_slice HP.out.codes
  obtain ⟨g, vv, ho, hst⟩ := HP.out.all
  obtain ⟨gs, cs, rfl, -, -, -, hcc⟩ := owns_some ho (by omega)
  have S0 : ∀ i, i < 4 → w4.cell? ⟨gs, i, none⟩ = some (.slice (some ⟨g i, 0, none⟩) labs.length labs.length) := fun i hi => hcc i _ (by simp [hi])
  have S := Lib.hid S0
  have hbnd : 4 ≤ cs ∧ cs ≤ maxLen := by
    obtain ⟨_, _, _, he, h1, h2, _⟩ := Has.of_owns ho
    simp only [Value.slice.injEq] at he
    obtain ⟨-, -, rfl⟩ := he
    exact ⟨h1, h2⟩
  obtain ⟨hcs1, hcs2⟩ := hbnd
  unfold maxLen at hcs2
  have hnn : ((ts.length : Int) == (ts.length : Int)) = true := by simp
  have hll : ((labs.length : Int) == (labs.length : Int)) = true := by simp
  clear hP hown2 hown3 hb2 hb3 hgrow2 hgrow3 ho hst hcc S0 HL HT H1 H2
  go_wp2_with fail
  go_loopw [10] (fun i wr => ∃ k : Nat, k ≤ 4 ∧ i = .int .i64 k ∧ w4 = wr) (fun i _ => 4 - (intOf i).toNat)
  case atStart => exact ⟨0, by omega, rfl, rfl⟩
  case round =>
    obtain ⟨k, hk, rfl, rfl⟩ := hrel
    by_cases hlt : k < 4
    · have hltz : (k : Int) < 4 := by omega
      have s0 := S.out k hlt
      go_wp2_with fail
      go_roundw
      case rel => exact ⟨k + 1, by omega, by go_num, by first | rfl | trivial⟩
      case measure => simp [intOf]; omega
    · obtain rfl : k = 4 := by omega
      go_wp2
      go_ret3
      exact ⟨_, _, rfl, HP.out⟩
/-- Everyone tells everyone. -/
def tl (i k : Nat) : Trn := ⟨3, i, k, 0, 0, 0⟩
def tells (n : Nat) : List Trn := (List.range n).map fun x => tl (x / 4) (x % 4)
theorem tells_snoc (n : Nat) : tells (n + 1) = tells n ++ [tl (n / 4) (n % 4)] := by unfold tells; rw [List.range_succ, List.map_append]; rfl
def roundL (n : Nat) : List Trn := (List.range n).flatMap fun _ => tells 16
theorem roundL_snoc (n : Nat) : roundL (n + 1) = roundL n ++ tells 16 := by unfold roundL; rw [List.range_succ, List.flatMap_append]; simp
theorem tells_length (n : Nat) : (tells n).length = n := by simp [tells]
theorem roundL_length : ∀ n, (roundL n).length = n * 16
  | 0 => rfl
  | n + 1 => by rw [roundL_snoc, List.length_append, roundL_length n, tells_length]; omega
theorem tells_ok {m n : Nat} (hn : n ≤ 16) (hm : 0 < m) : ∀ t ∈ tells n, t.Ok m := fun t ht => by
  simp only [tells, List.mem_map, List.mem_range] at ht
  obtain ⟨x, hx, rfl⟩ := ht
  unfold tl
  exact ⟨by simp, by simp only; omega, by simp only; omega, hm, by simp, by simp⟩
theorem roundL_ok {m n : Nat} (hm : 0 < m) : ∀ t ∈ roundL n, t.Ok m := fun t ht => by
  simp only [roundL, List.mem_flatMap] at ht
  obtain ⟨x, hx, h⟩ := ht
  exact tells_ok (Nat.le_refl _) hm t h
set_option maxRecDepth 100000 in
set_option maxHeartbeats 4000000 in
theorem cround (n : Nat) (hn : n ≤ 10) (w : World) :
    Calls Try.prog 13 #[.int .i64 n] w fun e w' => ∃ v, e = .returned v ∧ w'.ownsRow w.heap.size 38 6 v (n * 16) (trns (roundL n)) ∧ Below w.heap.size w w' := by
  have step : ∀ (X : World) (v : Value) (l : List Trn) (i k : Nat) (x : Nat), (x = i * 4 + k ∧ k < 4) → X.ownsRow w.heap.size 38 6 v (l.length + x + 1) (trns (l ++ tells x) ++ [.int .i64 3, .int .i64 i, .int .i64 k, .int .i64 0, .int .i64 0, .int .i64 0]) → X.ownsRow w.heap.size 38 6 v (l.length + (x + 1)) (trns (l ++ tells (x + 1))) := fun X v l i k x hx ho => by
    rw [tells_snoc, ← List.append_assoc]
    have e1 : x / 4 = i := by omega
    have e2 : x % 4 = k := by omega
    rw [e1, e2]
    have := flat_snoc Trn.cells (l ++ tells x) (tl i k)
    unfold trns at ho ⊢
    rw [← this]
    exact ho
  have Step := Lib.hid step
  clear step
  go_enter Try.func13, Try.ntmps13
  go_wp2_with fail
  go_loopw [3, 4, 5, 6] (fun out i _ _ wr => ∃ k : Nat, k ≤ n ∧ i = .int .i64 k ∧ wr.ownsRow w.heap.size 38 6 out ((roundL k).length + 0) (trns (roundL k ++ tells 0)) ∧ Below w.heap.size w wr) (fun _ i _ _ _ => n - (intOf i).toNat)
  case atStart => exact ⟨0, by omega, rfl, World.ownsRow_nil _ _ _ _, Below.refl _ _⟩
  case round =>
    obtain ⟨x, hx, rfl, ho, hb⟩ := hrel
    have HO := Lib.hid ho
    have HB := Lib.hid hb
    clear ho hb
    by_cases hxl : x < n
    · have hxz : (x : Int) < (n : Int) := by omega
      have hrl := roundL_length x
      go_wp2_with fail
      go_loopw [3, 5, 6] (fun out i _ wr => ∃ k : Nat, k ≤ 4 ∧ i = .int .i64 k ∧ wr.ownsRow w.heap.size 38 6 out ((roundL x).length + k * 4) (trns (roundL x ++ tells (k * 4))) ∧ Below w.heap.size w wr) (fun _ i _ _ => 4 - (intOf i).toNat)
      case atStart => exact ⟨0, by omega, rfl, HO.out, HB.out⟩
      case round =>
        clear HO HB
        obtain ⟨i, hi, rfl, ho, hb⟩ := hrel
        have HO := Lib.hid ho
        have HB := Lib.hid hb
        clear ho hb
        by_cases hil : i < 4
        · have hiz : (i : Int) < 4 := by omega
          go_wp2_with fail
          go_loopw [3, 6] (fun out i' wr => ∃ k : Nat, k ≤ 4 ∧ i' = .int .i64 k ∧ wr.ownsRow w.heap.size 38 6 out ((roundL x).length + (i * 4 + k)) (trns (roundL x ++ tells (i * 4 + k))) ∧ Below w.heap.size w wr) (fun _ i _ => 4 - (intOf i).toNat)
          case atStart => exact ⟨0, by omega, rfl, HO.out, HB.out⟩
          case round =>
            clear HO HB
            obtain ⟨k, hk, rfl, ho, hb⟩ := hrel
            have HO := Lib.hid ho
            have HB := Lib.hid hb
            have hszw := hb.size
            clear ho hb
            by_cases hkl : k < 4
            · have hkz : (k : Int) < 4 := by omega
              go_wp2_with (at_builtin; refine wp_app1 (w0 := wr) 25 38 6 48 _ elTurn Try.underlying25 w.heap.size _ _ _ HO.out (by repeat (first | exact Below.refl _ _ | refine Below.drew ?_ | refine Below.alloc ?_ (by first | (simp; done) | (simp; omega)) _ | refine Below.setCell ?_ (by first | (simp; done) | (simp; omega)) _)) [.int .i64 3, .int .i64 i, .int .i64 k, .int .i64 0, .int .i64 0, .int .i64 0] rfl _ _ rfl rfl rfl (by first | exact heap_alloc_new _ _ | (simp only [heap_drew, heap_drewN]; exact heap_alloc_new _ _)) (by simp) rfl rfl (by omega) (by omega) hszw ?_; intro v6 w6 hown6 hgrow6 hb6)
              have hfin := Step.out _ _ _ i k (i * 4 + k) ⟨rfl, hkl⟩ hown6
              have hb6' := HB.out.trans hb6
              go_roundw
              case rel => first | exact ⟨k + 1, by omega, by go_num, hfin, hb6'⟩ | ((repeat apply Exists.intro); exact ⟨⟨k + 1, by omega, by go_num, hfin, hb6'⟩, rfl⟩)
              case measure => simp [intOf]; omega
            · obtain rfl : k = 4 := by omega
              have hfin := HO.out
              rw [show i * 4 + 4 = (i + 1) * 4 by omega] at hfin
              have Hfin := Lib.hid hfin
              clear hfin HO
              go_wp2_with fail
              go_roundw
              case rel => first | exact ⟨i + 1, by omega, by go_num, Hfin.out, HB.out⟩ | ((repeat apply Exists.intro); exact ⟨⟨i + 1, by omega, by go_num, Hfin.out, HB.out⟩, rfl⟩)
              case measure => simp [intOf]; omega
        · obtain rfl : i = 4 := by omega
          have hfin := HO.out
          have e1 : (roundL x).length + 4 * 4 = (roundL (x + 1)).length + 0 := by rw [roundL_length, roundL_length]; omega
          have e2 : roundL x ++ tells (4 * 4) = roundL (x + 1) ++ tells 0 := by rw [roundL_snoc]; simp [tells]
          rw [e1, e2] at hfin
          have Hfin := Lib.hid hfin
          clear hfin HO e1 e2
          go_wp2_with fail
          go_roundw
          case rel => first | exact ⟨x + 1, by omega, by go_num, Hfin.out, HB.out⟩ | ((repeat apply Exists.intro); exact ⟨⟨x + 1, by omega, by go_num, Hfin.out, HB.out⟩, rfl⟩)
          case measure => simp [intOf]; omega
    · obtain rfl : x = n := by omega
      have hfin := HO.out
      have e1 : (roundL x).length + 0 = x * 16 := by rw [roundL_length]; omega
      have e2 : roundL x ++ tells 0 = roundL x := by simp [tells]
      rw [e1, e2] at hfin
      have Hfin := Lib.hid hfin
      clear hfin HO e1 e2
      go_wp2
      go_ret
      exact ⟨_, rfl, Hfin.out, HB.out⟩
end Go.Proofs.Ytngedkfljpkoiaa
