/- CrewShares in company: the whole account; every schedule. Written by tools/gen_crewM.py. -/
import Derived.Test.YtkodpijedinanaaCwL
namespace Go.Proofs.Ytkodpijedinanaa.Sim
open Go Go.Conc Go.ChangeShapes Go.WideShapes Go.ChangeAt Go.RowKit
set_option linter.unusedVariables false
set_option linter.unusedSimpArgs false

set_option maxRecDepth 100000 in
set_option maxHeartbeats 8000000 in
/-- Behind the first call. -/
theorem shares_rest {W0 : World} {lo M : Nat} {F Sh Own : Blk} {ρ : Ren} {a A : Act} {w : World} {n tc uc g8 b0 : Nat} {ta ua : Option Addr} {J : Job} {rO : Array Value} (hsz : a.tmps.size = 112) (hdf : a.defers = [])
    (h5 : a.tmps[5]?.getD undef = .slice ta n tc) (h6 : a.tmps[6]?.getD undef = .slice ua n uc) (h8 : a.tmps[8]?.getD undef = .slice (some ⟨g8, 0, none⟩) n n) (h9 : a.tmps[9]?.getD undef = .int .i64 0)
    (hJo : J.Ok) (hAt : J.At w) (hJn : J.n = n) (hv0 : J.v0 = .slice ta n tc) (hv1 : J.v1 = .slice ua n uc) (hO : w.heap[g8]? = some (.cells rO 22 (0, 0))) (hT : ∀ j, j < n → Told J w b0 rO j) :
    Pt Try.prog F Sh (MGo Try.prog W0 lo (fun v W1 => v = .bool true ∧ BaseOk W0 lo W1) M (fun _ => none) Sh) [] (base 3) [.code (tl (tl (tl (tl (tl c3)))))] Own ρ a A w := by
  have hB : (base 3).kind ≠ .early := by simp [base]
  have hJ := jud_mgo Try.prog W0 lo (fun v W1 => v = .bool true ∧ BaseOk W0 lo W1) M (fun _ => none) Sh
  have e := act_lit (lit112 a.tmps hsz) hdf
  rw [show a.tmps.getD 5 undef = .slice ta n tc from ev_of h5, show a.tmps.getD 6 undef = .slice ua n uc from ev_of h6, show a.tmps.getD 8 undef = .slice (some ⟨g8, 0, none⟩) n n from ev_of h8, show a.tmps.getD 9 undef = .int .i64 0 from ev_of h9] at e
  rw [e]
  clear e h5 h6 h8 h9 hsz hdf
  refine pt_seqE hJ (x := hd (tl (tl (tl (tl (tl c3)))))) (y := (tl (tl (tl (tl (tl (tl c3))))))) (by rfl) (q5' hJ hB rfl fun ρ1 A1 w1 Own1 y0 y1 y2 y3 y4 y7 y9 y10 y11 y12 y13 y14 y15 y16 y17 y18 y19 y20 y21 y22 y23 y24 y25 y26 y27 y28 y29 y30 y31 y32 y33 y34 y35 y36 y37 y38 y39 y40 y41 y42 y43 y44 y45 y46 y47 y48 y49 y50 y51 y52 y53 y54 y55 y56 y57 y58 y59 y60 y61 y62 y63 y64 y65 y66 y67 y68 y69 y70 y71 y72 y73 y74 y75 y76 y77 y78 y79 y80 y81 y82 y83 y84 y85 y86 y87 y88 y89 y90 y91 y92 y93 y94 y95 y96 y97 y98 y99 y100 y101 y102 y103 y104 y105 y106 y107 y108 y109 y110 y111 hl1 ho1 hr1 => ?_)
  have k1 : KeptC w w1 := .heap hr1
  have hO1 : w1.heap[g8]? = some (.cells rO 22 (0, 0)) := by rw [hr1]; exact hO
  have hT1 : ∀ j, j < n → Told J w1 b0 rO j := fun j hj => by
    obtain ⟨sv, L, h1, h2, h3⟩ := hT j hj
    exact ⟨sv, L, h1, h2, h3.on fun g _ _ => by rw [hr1]⟩
  replace hAt := hAt.keptC k1
  clear hO hT k1 hr1 hl1 ho1
  refine pt_seqE hJ (x := hd (tl (tl (tl (tl (tl (tl c3))))))) (y := (tl (tl (tl (tl (tl (tl (tl c3)))))))) (by rfl) (q6' hJ hB rfl hJo hAt hJn hv0 hv1 hO1 hT1 fun ρ2 A2 w2 Own2 z0 z1 z2 z3 z4 z5 z6 z7 z8 z9 z10 z11 z12 z13 z14 z15 z16 z17 z18 z19 z20 z21 z22 z23 z24 z25 z26 z27 z28 z29 z30 z31 z32 z33 z34 z35 z36 z37 z38 z39 z40 z41 z42 z43 z44 z45 z46 z47 z48 z49 z50 z51 z52 z53 z54 z55 z56 z57 z58 z59 z60 z61 z62 z63 z64 z65 z66 z67 z68 z69 z70 z71 z72 z73 z74 z75 z76 z77 z78 z79 z80 z81 z82 z83 z84 z85 z86 z87 z88 z89 z90 z91 z92 z93 z94 z95 z96 z97 z98 z99 z100 z101 z102 z103 z104 z105 z106 z107 z108 z109 z110 z111 hl2 ho2 hr2 => ?_)
  exact shares_two rfl rfl
set_option maxRecDepth 100000 in
set_option maxHeartbeats 8000000 in
/-- Behind the first call, in its region. -/
theorem first_back {W0 : World} {lo M : Nat} {F Sh Own : Blk} {ρ : Ren} {a A : Act} {w : World} {n tc uc g8 b0 : Nat} {ta ua : Option Addr} {J : Job} {rO : Array Value} (hsz : a.tmps.size = 112) (hdf : a.defers = [])
    (h5 : a.tmps[5]?.getD undef = .slice ta n tc) (h6 : a.tmps[6]?.getD undef = .slice ua n uc) (h50 : a.tmps[50]?.getD undef = .tuple #[.slice (some ⟨g8, 0, none⟩) n n, .int .i64 0])
    (hJo : J.Ok) (hAt : J.At w) (hJn : J.n = n) (hv0 : J.v0 = .slice ta n tc) (hv1 : J.v1 = .slice ua n uc) (hO : w.heap[g8]? = some (.cells rO 22 (0, 0))) (hT : ∀ j, j < n → Told J w b0 rO j) :
    Pt Try.prog F Sh (MGo Try.prog W0 lo (fun v W1 => v = .bool true ∧ BaseOk W0 lo W1) M (fun _ => none) Sh) [] (base 3) [.inRegion opsA [3, 4, 5, 6, 7], .code (tl (tl (tl (tl (tl c3)))))] Own ρ a A w := by
  have hB : (base 3).kind ≠ .early := by simp [base]
  have hJ := jud_mgo Try.prog W0 lo (fun v W1 => v = .bool true ∧ BaseOk W0 lo W1) M (fun _ => none) Sh
  have e1 : (opsA[3]!).op = .move (.tmp 50) := by rfl
  refine pt_op0 fns_ok hJ hB (o := opsA[3]!) (by rfl) (by kernel_rfl) (by rfl) (.tuple #[.slice (some ⟨g8, 0, none⟩) n n, .int .i64 0]) w (fun τ d => ?_) fun ρ1 x1 Own1 hl1 ho1 hv1 => ?_
  · unfold execOp
    rw [e1]
    simp [h50, go_sem]
  clear e1 ho1 hv1
  rw [show (opsA[3]!).dst = some 47 from by rfl]
  replace h5 := (ev_put_ne (.tuple #[.slice (some ⟨g8, 0, none⟩) n n, .int .i64 0]) (show 5 ≠ 47 by decide)).trans h5
  replace h6 := (ev_put_ne (.tuple #[.slice (some ⟨g8, 0, none⟩) n n, .int .i64 0]) (show 6 ≠ 47 by decide)).trans h6
  have h47 := ev_put_at (a := a) (show 47 < a.tmps.size by rw [hsz]; decide) (.tuple #[.slice (some ⟨g8, 0, none⟩) n n, .int .i64 0])
  replace hsz := (put_sz a (some 47) (.tuple #[.slice (some ⟨g8, 0, none⟩) n n, .int .i64 0])).trans hsz
  replace hdf := (put_df a (some 47) (.tuple #[.slice (some ⟨g8, 0, none⟩) n n, .int .i64 0])).trans hdf
  generalize a.put (some 47) (.tuple #[.slice (some ⟨g8, 0, none⟩) n n, .int .i64 0]) = a_1 at *
  have e2 : (opsA[4]!).op = .extract (.tmp 47) 0 := by rfl
  refine pt_op0 fns_ok hJ hB (o := opsA[4]!) (by rfl) (by kernel_rfl) (by rfl) (.slice (some ⟨g8, 0, none⟩) n n) w (fun τ d => ?_) fun ρ2 x2 Own2 hl2 ho2 hv2 => ?_
  · unfold execOp
    rw [e2]
    simp [h47, go_sem]
  clear e2 ho2 hv2
  rw [show (opsA[4]!).dst = some 51 from by rfl]
  replace h5 := (ev_put_ne (.slice (some ⟨g8, 0, none⟩) n n) (show 5 ≠ 51 by decide)).trans h5
  replace h6 := (ev_put_ne (.slice (some ⟨g8, 0, none⟩) n n) (show 6 ≠ 51 by decide)).trans h6
  replace h47 := (ev_put_ne (.slice (some ⟨g8, 0, none⟩) n n) (show 47 ≠ 51 by decide)).trans h47
  have h51 := ev_put_at (a := a_1) (show 51 < a_1.tmps.size by rw [hsz]; decide) (.slice (some ⟨g8, 0, none⟩) n n)
  replace hsz := (put_sz a_1 (some 51) (.slice (some ⟨g8, 0, none⟩) n n)).trans hsz
  replace hdf := (put_df a_1 (some 51) (.slice (some ⟨g8, 0, none⟩) n n)).trans hdf
  generalize a_1.put (some 51) (.slice (some ⟨g8, 0, none⟩) n n) = a_2 at *
  have e3 : (opsA[5]!).op = .extract (.tmp 47) 1 := by rfl
  refine pt_op0 fns_ok hJ hB (o := opsA[5]!) (by rfl) (by kernel_rfl) (by rfl) (.int .i64 0) w (fun τ d => ?_) fun ρ3 x3 Own3 hl3 ho3 hv3 => ?_
  · unfold execOp
    rw [e3]
    simp [h47, go_sem]
  clear e3 ho3 hv3
  rw [show (opsA[5]!).dst = some 52 from by rfl]
  replace h5 := (ev_put_ne (.int .i64 0) (show 5 ≠ 52 by decide)).trans h5
  replace h6 := (ev_put_ne (.int .i64 0) (show 6 ≠ 52 by decide)).trans h6
  replace h51 := (ev_put_ne (.int .i64 0) (show 51 ≠ 52 by decide)).trans h51
  have h52 := ev_put_at (a := a_2) (show 52 < a_2.tmps.size by rw [hsz]; decide) (.int .i64 0)
  replace hsz := (put_sz a_2 (some 52) (.int .i64 0)).trans hsz
  replace hdf := (put_df a_2 (some 52) (.int .i64 0)).trans hdf
  generalize a_2.put (some 52) (.int .i64 0) = a_3 at *
  have e4 : (opsA[6]!).op = .assign (.tmp 51) := by rfl
  refine pt_op0 fns_ok hJ hB (o := opsA[6]!) (by rfl) (by kernel_rfl) (by rfl) (.slice (some ⟨g8, 0, none⟩) n n) w (fun τ d => ?_) fun ρ4 x4 Own4 hl4 ho4 hv4 => ?_
  · unfold execOp
    rw [e4]
    simp [h51, go_sem]
  clear e4 ho4 hv4
  rw [show (opsA[6]!).dst = some 8 from by rfl]
  replace h5 := (ev_put_ne (.slice (some ⟨g8, 0, none⟩) n n) (show 5 ≠ 8 by decide)).trans h5
  replace h6 := (ev_put_ne (.slice (some ⟨g8, 0, none⟩) n n) (show 6 ≠ 8 by decide)).trans h6
  replace h52 := (ev_put_ne (.slice (some ⟨g8, 0, none⟩) n n) (show 52 ≠ 8 by decide)).trans h52
  have h8 := ev_put_at (a := a_3) (show 8 < a_3.tmps.size by rw [hsz]; decide) (.slice (some ⟨g8, 0, none⟩) n n)
  replace hsz := (put_sz a_3 (some 8) (.slice (some ⟨g8, 0, none⟩) n n)).trans hsz
  replace hdf := (put_df a_3 (some 8) (.slice (some ⟨g8, 0, none⟩) n n)).trans hdf
  generalize a_3.put (some 8) (.slice (some ⟨g8, 0, none⟩) n n) = a_4 at *
  have e5 : (opsA[7]!).op = .assign (.tmp 52) := by rfl
  refine pt_op0 fns_ok hJ hB (o := opsA[7]!) (by rfl) (by kernel_rfl) (by rfl) (.int .i64 0) w (fun τ d => ?_) fun ρ5 x5 Own5 hl5 ho5 hv5 => ?_
  · unfold execOp
    rw [e5]
    simp [h52, go_sem]
  clear e5 ho5 hv5
  rw [show (opsA[7]!).dst = some 9 from by rfl]
  replace h5 := (ev_put_ne (.int .i64 0) (show 5 ≠ 9 by decide)).trans h5
  replace h6 := (ev_put_ne (.int .i64 0) (show 6 ≠ 9 by decide)).trans h6
  replace h8 := (ev_put_ne (.int .i64 0) (show 8 ≠ 9 by decide)).trans h8
  have h9 := ev_put_at (a := a_4) (show 9 < a_4.tmps.size by rw [hsz]; decide) (.int .i64 0)
  replace hsz := (put_sz a_4 (some 9) (.int .i64 0)).trans hsz
  replace hdf := (put_df a_4 (some 9) (.int .i64 0)).trans hdf
  generalize a_4.put (some 9) (.int .i64 0) = a_5 at *
  exact pt_region_end hJ (shares_rest hsz hdf h5 h6 h8 h9 hJo hAt hJn hv0 hv1 hO hT)
set_option maxRecDepth 100000 in
set_option maxHeartbeats 8000000 in
/-- The first call. -/
theorem first_call {W0 : World} {lo M : Nat} {F Sh Own : Blk} {ρ : Ren} {a A : Act} {w : World} {n tc uc : Nat} {ta ua : Option Addr} {J : Job} (hsz : a.tmps.size = 112) (hdf : a.defers = [])
    (h5 : a.tmps[5]?.getD undef = .slice ta n tc) (h6 : a.tmps[6]?.getD undef = .slice ua n uc) (hJo : J.Ok) (hAt : J.At w) (hJn : J.n = n) (hv0 : J.v0 = .slice ta n tc) (hv1 : J.v1 = .slice ua n uc) :
    Pt Try.prog F Sh (MGo Try.prog W0 lo (fun v W1 => v = .bool true ∧ BaseOk W0 lo W1) M (fun _ => none) Sh) [] (base 3) [.code (tl (tl (tl (tl c3))))] Own ρ a A w := by
  have hB : (base 3).kind ≠ .early := by simp [base]
  have hJ := jud_mgo Try.prog W0 lo (fun v W1 => v = .bool true ∧ BaseOk W0 lo W1) M (fun _ => none) Sh
  refine pt_seqE hJ (x := hd (tl (tl (tl (tl c3))))) (y := (tl (tl (tl (tl (tl c3)))))) (by rfl) ?_
  refine pt_regionE hJ (ops := opsA) (reg_eta (c := hd (tl (tl (tl (tl c3))))) (by rfl)) (l := [0, 1, 2, 3, 4, 5, 6, 7]) (by rfl) ?_
  have e1 : (opsA[0]!).op = .move (.tmp 5) := by rfl
  refine pt_op0 fns_ok hJ hB (o := opsA[0]!) (by rfl) (by kernel_rfl) (by rfl) (.slice ta n tc) w (fun τ d => ?_) fun ρ1 x1 Own1 hl1 ho1 hv1 => ?_
  · unfold execOp
    rw [e1]
    simp [h5, go_sem]
  clear e1 ho1 hv1
  rw [show (opsA[0]!).dst = some 48 from by rfl]
  replace h5 := (ev_put_ne (.slice ta n tc) (show 5 ≠ 48 by decide)).trans h5
  replace h6 := (ev_put_ne (.slice ta n tc) (show 6 ≠ 48 by decide)).trans h6
  have h48 := ev_put_at (a := a) (show 48 < a.tmps.size by rw [hsz]; decide) (.slice ta n tc)
  replace hsz := (put_sz a (some 48) (.slice ta n tc)).trans hsz
  replace hdf := (put_df a (some 48) (.slice ta n tc)).trans hdf
  generalize a.put (some 48) (.slice ta n tc) = a_1 at *
  have e2 : (opsA[1]!).op = .move (.tmp 6) := by rfl
  refine pt_op0 fns_ok hJ hB (o := opsA[1]!) (by rfl) (by kernel_rfl) (by rfl) (.slice ua n uc) w (fun τ d => ?_) fun ρ2 x2 Own2 hl2 ho2 hv2 => ?_
  · unfold execOp
    rw [e2]
    simp [h6, go_sem]
  clear e2 ho2 hv2
  rw [show (opsA[1]!).dst = some 49 from by rfl]
  replace h5 := (ev_put_ne (.slice ua n uc) (show 5 ≠ 49 by decide)).trans h5
  replace h6 := (ev_put_ne (.slice ua n uc) (show 6 ≠ 49 by decide)).trans h6
  replace h48 := (ev_put_ne (.slice ua n uc) (show 48 ≠ 49 by decide)).trans h48
  have h49 := ev_put_at (a := a_1) (show 49 < a_1.tmps.size by rw [hsz]; decide) (.slice ua n uc)
  replace hsz := (put_sz a_1 (some 49) (.slice ua n uc)).trans hsz
  replace hdf := (put_df a_1 (some 49) (.slice ua n uc)).trans hdf
  generalize a_1.put (some 49) (.slice ua n uc) = a_2 at *
  refine pt_mat fun ⟨Wx, mx⟩ => ?_
  have hD := mx.D
  have hrel := mx.row
  clear mx
  refine pt_call hJ hB (o := opsA[2]!) (by rfl) (by rfl) (f := 7) (args := #[.tmp 48, .tmp 49]) (by rfl) (by kernel_rfl) Try.func7 (by kernel_rfl) (c := c7) (by rfl) fun A' => ?_
  have hnt : Try.f7.ntmps - (#[.tmp 48, .tmp 49] : Array Operand).size = 65 := by kernel_rfl
  have e1 : (#[.tmp 48, .tmp 49] : Array Operand).map a_2.eval ++ Array.replicate 65 undef = #[.slice ta n tc, .slice ua n uc, undef, undef, undef, undef, undef, undef, undef, undef, undef, undef, undef, undef, undef, undef, undef, undef, undef, undef, undef, undef, undef, undef, undef, undef, undef, undef, undef, undef, undef, undef, undef, undef, undef, undef, undef, undef, undef, undef, undef, undef, undef, undef, undef, undef, undef, undef, undef, undef, undef, undef, undef, undef, undef, undef, undef, undef, undef, undef, undef, undef, undef, undef, undef, undef, undef] := by
    simp only [List.map_toArray, List.map_cons, List.map_nil, ev_of h48, ev_of h49]
    kernel_rfl
  rw [hnt, e1]
  refine splits (J := J) hJo hJn hv0 hv1 (fun ρ' w' => Ren.le ρ2 ρ' ∧ J.At w') (fun ρ ρ' w w' h1 h2 h3 => ⟨h3.1.trans h1, h3.2.keptC h2⟩) ?_ hAt ⟨Ren.le.refl _, hAt⟩
  intro F Sh Own ρ a1 A1 w W g b rO hg hO hs hT ha4 ha5 m todo
  have hJ := jud_mgo Try.prog W0 lo (fun v W1 => v = .bool true ∧ BaseOk W0 lo W1) (M + n) (fun _ => none) Sh
  refine leave2 hJ (b := 7) Try.func7 (t := 4) (u := 5) (by kernel_rfl) (o := opsA[2]!) (by rfl) m (hrel.mono hg.1) hdf hD ?_
  rw [ha4, ha5, show (opsA[2]!).dst = some 50 from by rfl]
  exact first_back ((put_sz _ _ _).trans hsz) ((put_df _ _ _).trans hdf) ((ev_put_ne _ (by decide)).trans h5) ((ev_put_ne _ (by decide)).trans h6) (ev_put_at (by rw [hsz]; decide) _) hJo hg.2 hJn hv0 hv1 hO hT
set_option maxRecDepth 100000 in
set_option maxHeartbeats 8000000 in
/-- From the beginning. -/
theorem shares_all {W0 : World} {lo M : Nat} {F Sh Own : Blk} {ρ : Ren} {A : Act} {w : World} {v0 v1 : Value} {zs : List Int} {us0 : List Value} {m : Nat} {wss : Nat → List Int}
    (A0 : Has w 1 v0 zs.length (ints zs)) (A1 : Has w 1 v1 m us0) (hr : ∀ i, i < m → ∃ vi, us0[i]? = some vi ∧ Has w 1 vi (wss i).length (ints (wss i))) :
    Pt Try.prog F Sh (MGo Try.prog W0 lo (fun v W1 => v = .bool true ∧ BaseOk W0 lo W1) M (fun _ => none) Sh) [] (base 3) [.code c3] Own ρ ⟨#[v0, v1, undef, undef, undef, undef, undef, undef, undef, undef, undef, undef, undef, undef, undef, undef, undef, undef, undef, undef, undef, undef, undef, undef, undef, undef, undef, undef, undef, undef, undef, undef, undef, undef, undef, undef, undef, undef, undef, undef, undef, undef, undef, undef, undef, undef, undef, undef, undef, undef, undef, undef, undef, undef, undef, undef, undef, undef, undef, undef, undef, undef, undef, undef, undef, undef, undef, undef, undef, undef, undef, undef, undef, undef, undef, undef, undef, undef, undef, undef, undef, undef, undef, undef, undef, undef, undef, undef, undef, undef, undef, undef, undef, undef, undef, undef, undef, undef, undef, undef, undef, undef, undef, undef, undef, undef, undef, undef, undef, undef, undef, undef], []⟩ A w := by
  have hB : (base 3).kind ≠ .early := by simp [base]
  have hJ := jud_mgo Try.prog W0 lo (fun v W1 => v = .bool true ∧ BaseOk W0 lo W1) M (fun _ => none) Sh
  refine pt_seqE hJ (x := hd c3) (y := (tl c3)) (by rfl) (q0' hJ hB rfl fun ρ1 A1' w1 Own1 y2 y3 y4 y5 y6 y7 y8 y9 y10 y11 y12 y13 y14 y15 y16 y17 y18 y19 y20 y21 y22 y23 y24 y25 y26 y27 y28 y29 y30 y31 y32 y33 y34 y35 y36 y37 y38 y39 y40 y41 y42 y43 y44 y45 y46 y47 y48 y49 y50 y51 y52 y53 y54 y55 y56 y57 y58 y59 y60 y61 y62 y63 y64 y65 y66 y67 y68 y69 y70 y71 y72 y73 y74 y75 y76 y77 y78 y79 y80 y81 y82 y83 y84 y85 y86 y87 y88 y89 y90 y91 y92 y93 y94 y95 y96 y97 y98 y99 y100 y101 y102 y103 y104 y105 y106 y107 y108 y109 y110 y111 hl1 ho1 hr1 => ?_)
  refine pt_seqE hJ (x := hd (tl c3)) (y := (tl (tl c3))) (by rfl) (q1' hJ hB rfl fun ρ2 A2' w2 Own2 z2 z3 z4 z6 z7 z8 z9 z10 z11 z12 z13 z14 z15 z16 z17 z18 z19 z20 z21 z22 z23 z24 z25 z26 z27 z28 z29 z30 z31 z32 z33 z34 z35 z36 z37 z38 z39 z40 z41 z42 z43 z44 z45 z46 z47 z48 z49 z50 z51 z52 z53 z54 z55 z56 z57 z58 z59 z60 z61 z62 z63 z64 z65 z66 z67 z68 z69 z70 z71 z72 z73 z74 z75 z76 z77 z78 z79 z80 z81 z82 z83 z84 z85 z86 z87 z88 z89 z90 z91 z92 z93 z94 z95 z96 z97 z98 z99 z100 z101 z102 z103 z104 z105 z106 z107 z108 z109 z110 z111 hl2 ho2 hr2 => ?_)
  refine pt_seqE hJ (x := hd (tl (tl c3))) (y := (tl (tl (tl c3)))) (by rfl) (q2' hJ hB rfl fun ρ3 A3' w3 Own3 t2 t3 t4 t7 t8 t9 t10 t11 t12 t13 t14 t15 t16 t17 t18 t19 t20 t21 t22 t23 t24 t25 t26 t27 t28 t29 t30 t31 t32 t33 t34 t35 t36 t37 t38 t39 t40 t41 t42 t43 t44 t45 t46 t47 t48 t49 t50 t51 t52 t53 t54 t55 t56 t57 t58 t59 t60 t61 t62 t63 t64 t65 t66 t67 t68 t69 t70 t71 t72 t73 t74 t75 t76 t77 t78 t79 t80 t81 t82 t83 t84 t85 t86 t87 t88 t89 t90 t91 t92 t93 t94 t95 t96 t97 t98 t99 t100 t101 t102 t103 t104 t105 t106 t107 t108 t109 t110 t111 hl3 ho3 hr3 => ?_)
  have k : KeptC w w3 := .heap (hr3.trans (hr2.trans hr1))
  refine pt_seqE hJ (x := hd (tl (tl (tl c3)))) (y := (tl (tl (tl (tl c3))))) (by rfl) (q3' hJ hB rfl (Has.keptC A0 k) (Has.keptC A1 k) (fun i hi => by obtain ⟨vi, h1, h2⟩ := hr i hi; exact ⟨vi, h1, Has.keptC h2 k⟩) fun ρ4 A4' w4 Own4 s0 s1 s2 s3 s4 s7 s8 s9 s10 s11 s12 s13 s14 s15 s16 s17 s18 s19 s20 s21 s22 s23 s24 s25 s26 s27 s28 s29 s30 s31 s32 s33 s34 s35 s36 s37 s38 s39 s40 s41 s42 s43 s44 s45 s46 s47 s48 s49 s50 s51 s52 s53 s54 s55 s56 s57 s58 s59 s60 s61 s62 s63 s64 s65 s66 s67 s68 s69 s70 s71 s72 s73 s74 s75 s76 s77 s78 s79 s80 s81 s82 s83 s84 s85 s86 s87 s88 s89 s90 s91 s92 s93 s94 s95 s96 s97 s98 s99 s100 s101 s102 s103 s104 s105 s106 s107 s108 s109 s110 s111 n vt vu us hl4 ho4 hr4 => ?_)
  obtain ⟨h12, hnz, hin, hk⟩ := hr4
  obtain ⟨ta, tc, rfl⟩ := owns_slice hin.t
  obtain ⟨ua, uc, rfl⟩ := owns_slice hin.u
  have hJo : Job.Ok { n := n, v0 := .slice ta n tc, v1 := .slice ua n uc, zs := tsOf zs n, us := us, ws := fun i => wantsOf (wss i) } := by
    refine ⟨by show n ≤ 200; omega, tsOf_len hnz, fun z hz => ?_, fun i x hx => ?_, fun i => ?_⟩
    · simp only [tsOf, List.mem_map] at hz
      obtain ⟨y, _, rfl⟩ := hz
      have := pick_bd y 200 (by omega)
      omega
    · have := wantsOf_ok _ x hx
      omega
    · have := wantsOf_le (wss i)
      show (wantsOf (wss i)).length ≤ 16
      omega
  have hAt : Job.At { n := n, v0 := .slice ta n tc, v1 := .slice ua n uc, zs := tsOf zs n, us := us, ws := fun i => wantsOf (wss i) } w4 := by
    refine ⟨HasP.of_owns hin.t, HasP.of_owns hin.u, fun i hi => ?_⟩
    obtain ⟨vi, h1, h2, _⟩ := hin.rows i hi
    exact ⟨vi, h1, HasP.of_owns h2⟩
  exact first_call rfl rfl rfl rfl hJo hAt rfl rfl rfl
/-- What holds at the beginning. -/
theorem inv_start (P : Program) (W : World) (g : Goroutine) : Inv P W W.heap.size (fun _ => False) (fun b => b < W.heap.size) (fun _ => none) [] g #[g] W #[] := by
  have hag : ∀ γ b, (agents (fun _ => False) (fun b => b < W.heap.size) [] γ).1 b → False := fun γ b h => by
    cases γ with
    | zero => exact h
    | succ j => simp [agents] at h
  have hsh : ∀ γ b, (agents (fun _ => False) (fun b => b < W.heap.size) [] γ).2 b → b < W.heap.size := fun γ b h => by
    cases γ with
    | zero => exact h
    | succ j => simp [agents] at h
  have htouch : ∀ i x, touchAt #[] i = some x → False := fun i x h => by
    obtain ⟨op, hop, _⟩ := touch_of h
    simp at hop
  refine ⟨rfl, rfl, fun i x h => by simp at h, ⟨fun γ δ b h => (hag γ b h).elim, fun γ δ b h => (hag γ b h).elim, fun γ b h => hsh γ b h, fun γ b h => h.elim (fun h => (hag γ b h).elim) (hsh γ b), fun γ b h => (hag γ b h).elim⟩, ⟨fun said => ?_, ?_, fun i x h => (htouch i x h).elim, fun γ i x p h => (htouch i x h).elim, fun i op x h => by simp at h⟩, ⟨rfl, rfl, rfl, fun b _ => rfl, Nat.le_refl _⟩, fun i => by simp⟩
  · rintro ⟨i, j, hij, ⟨a, b, ha, hb, hc⟩, n1, n2⟩
    exact htouch i a ha
  · intro op hop
    simp at hop
set_option maxRecDepth 100000 in
/-- ████ CrewShares, on every schedule. -/
theorem shares_run (W : World) (hg : Try.prog.globals.size ≤ W.heap.size) (v0 v1 : Value) {zs : List Int} {m : Nat} {us : List Value} {wss : Nat → List Int} (h : InW W v0 v1 zs m us wss) :
    Ends Try.prog (Conc.Good Try.prog fun v W' => v = .bool true ∧ BaseOk W W.heap.size W') (solo (G (Frame.enter Try.prog 3 #[v0, v1] .normal) []) W) #[] := by
  have hent : Frame.enter Try.prog 3 #[v0, v1] .normal = (base 3).at { tmps := #[v0, v1] ++ Array.replicate 110 undef, defers := [] } [.code c3] := by
    have := enter_at (P := Try.prog) (f := 3) (c := c3) #[v0, v1] Try.func3 (by rfl)
    rw [this]
    have hnt : Try.f3.ntmps - (#[v0, v1] : Array Value).size = 110 := by kernel_rfl
    rw [hnt]
  obtain ⟨s0, s1, sr⟩ := h.shadow
  have m0 := mat_start W hg #[v0, v1] 110
  have e1 : (#[v0, v1] : Array Value).map (sanV (isRow W) W.heap.size) ++ Array.replicate 110 undef = #[sh W v0, sh W v1, undef, undef, undef, undef, undef, undef, undef, undef, undef, undef, undef, undef, undef, undef, undef, undef, undef, undef, undef, undef, undef, undef, undef, undef, undef, undef, undef, undef, undef, undef, undef, undef, undef, undef, undef, undef, undef, undef, undef, undef, undef, undef, undef, undef, undef, undef, undef, undef, undef, undef, undef, undef, undef, undef, undef, undef, undef, undef, undef, undef, undef, undef, undef, undef, undef, undef, undef, undef, undef, undef, undef, undef, undef, undef, undef, undef, undef, undef, undef, undef, undef, undef, undef, undef, undef, undef, undef, undef, undef, undef, undef, undef, undef, undef, undef, undef, undef, undef, undef, undef, undef, undef, undef, undef, undef, undef, undef, undef, undef, undef] := by
    simp only [List.map_toArray, List.map_cons, List.map_nil]
    kernel_rfl
  rw [e1] at m0
  have hM : MGo Try.prog W W.heap.size (fun v W1 => v = .bool true ∧ BaseOk W W.heap.size W1) 0 (fun _ => none) (fun b => b < W.heap.size) (fun _ => False) (G ((base 3).at { tmps := #[v0, v1] ++ Array.replicate 110 undef, defers := [] } [.code c3]) []) W :=
    shares_all s0 s1 sr W m0
  rw [hent, solo_eq_crowd]
  exact main_ends hM [] _ W none #[] rfl (inv_start _ _ _) (.refl _ _ _)
end Go.Proofs.Ytkodpijedinanaa.Sim
