/- crew.Splits in company: the whole account. Written by tools/gen_crewH.py. -/
import Derived.Test.YtkodpijedinanaaCwG
namespace Go.Proofs.Ytkodpijedinanaa.Sim
open Go Go.Conc Go.ChangeShapes Go.WideShapes Go.ChangeAt Go.RowKit
set_option linter.unusedVariables false
set_option linter.unusedSimpArgs false

theorem cnt_none : ∀ n, cnt (fun _ => false) n = 0
  | 0 => rfl
  | n + 1 => by unfold cnt; rw [cnt_none n]; rfl
theorem pendOf_all (N0 c : Nat) (pr : Nat → Prm) (got : Nat → Bool) (n : Nat) (h : ∀ j, j < n → got j = true) : pendOf N0 c pr got n = fun _ => none := by
  funext a
  unfold pendOf
  rw [if_neg]
  rintro ⟨h1, h2, h3⟩
  rw [h _ (by omega)] at h3
  cases h3
/-- The channel that a variable of the shadow's holds. -/
theorem Mat.chanAt {P : Program} {F Own Sh : Blk} {ρ : Ren} {a A : Act} {w W : World} (m : Mat P F Own Sh ρ a A w W) {t : Tmp} {p x : Nat} (ht : a.tmps.getD t undef = .pointer (some ⟨p, 0, none⟩)) (hc : w.cell? ⟨p, 0, none⟩ = some (.chan (some x))) : ∃ c, ρ x c := by
  have hv := m.row.getD t
  rw [ht] at hv
  generalize A.tmps.getD t undef = y at hv
  cases hv with
  | @ptr _ b hab =>
    obtain ⟨o, o', h1, h2, h3⟩ := m.wr.dom _ _ hab.1
    unfold World.cell? at hc
    rw [h1] at hc
    cases h3 with
    | cells e hr hf =>
      simp only at hc
      split at hc
      · cases hc
      · obtain ⟨u, hu, hvu⟩ := hr.at hc
        cases hvu with
        | chan h => exact ⟨_, h⟩
    | number l h => cases hc
    | chan => cases hc
set_option maxRecDepth 100000 in
set_option maxHeartbeats 8000000 in
/-- The call of crew.Splits: it returns what the workers told, each in its place. -/
theorem splits {W0 : World} {lo N0 : Nat} {Post : Value → World → Prop} {RB : List Frame} {n c0 c1 : Nat} {a0 a1 : Option Addr} {J : Job} (hJo : J.Ok) (hJn : J.n = n) (hv0 : J.v0 = .slice a0 n c0) (hv1 : J.v1 = .slice a1 n c1) (Gi : Ren → World → Prop) (hG : ∀ ρ ρ' w w', Ren.le ρ ρ' → KeptC w w' → Gi ρ w → Gi ρ' w')
    (hret : ∀ (F Sh Own : Blk) (ρ : Ren) (a A : Act) (w W : World) (g8 b0 : Nat) (rO : Array Value), Gi ρ w → w.heap[g8]? = some (.cells rO 22 (0, 0)) → rO.size = n → (∀ j, j < n → Told J w b0 rO j) → a.tmps.getD 4 undef = .slice (some ⟨g8, 0, none⟩) n n → a.tmps.getD 5 undef = .int .i64 0 → Mat Try.prog F Own Sh ρ a A w W →
      ∀ todo, MGo Try.prog W0 lo Post (N0 + n) (fun _ => none) Sh Own (G { (base 7).at A todo with mode := .returning } RB) W)
    {F Sh Own : Blk} {ρ : Ren} {A : Act} {w : World} (hAt : J.At w) (g : Gi ρ w) :
    Pt Try.prog F Sh (MGo Try.prog W0 lo Post N0 (fun _ => none) Sh) RB (base 7) [.code c7] Own ρ ⟨#[.slice a0 n c0, .slice a1 n c1, undef, undef, undef, undef, undef, undef, undef, undef, undef, undef, undef, undef, undef, undef, undef, undef, undef, undef, undef, undef, undef, undef, undef, undef, undef, undef, undef, undef, undef, undef, undef, undef, undef, undef, undef, undef, undef, undef, undef, undef, undef, undef, undef, undef, undef, undef, undef, undef, undef, undef, undef, undef, undef, undef, undef, undef, undef, undef, undef, undef, undef, undef, undef, undef, undef], []⟩ A w := by
  have hB : (base 7).kind ≠ .early := by simp [base]
  have hn := hJo.n
  have hJ := jud_mgo Try.prog W0 lo Post N0 (fun _ => none) Sh
  refine pt_seqE hJ (x := hd c7) (y := tl c7) (by rfl) (s0' hJ hB rfl fun ρ1 A1 w1 Own1 y0 y1 y4 y5 y6 y7 y8 y9 y10 y11 y12 y13 y14 y15 y16 y17 y18 y19 y20 y21 y22 y23 y24 y25 y26 y27 y28 y29 y30 y31 y32 y33 y34 y35 y36 y37 y38 y39 y40 y41 y42 y43 y44 y45 y46 y47 y48 y49 y50 y51 y52 y53 y54 y55 y56 y57 y58 y59 y60 y61 y62 y63 y64 y65 y66 p2 p3 hl1 ho1 hr1 => ?_)
  obtain ⟨h2, h3, k1⟩ := hr1
  replace g := hG _ _ _ _ hl1 (.of k1) g
  replace hAt := hAt.keptC (.of k1)
  clear hl1 ho1 k1
  refine pt_seqE hJ (x := hd (tl c7)) (y := tl (tl c7)) (by rfl) (s1' hJ hB rfl h2 h3 (by omega) fun ρ2 A2 w2 Own2 z0 z1 z4 z5 z6 z7 z8 z9 z10 z11 z12 z13 z14 z15 z16 z17 z18 z19 z20 z21 z22 z23 z24 z25 z26 z27 z28 z29 z30 z31 z32 z33 z34 z35 z36 z37 z38 z39 z40 z41 z42 z43 z44 z45 z46 z47 z48 z49 z50 z51 z52 z53 z54 z55 z56 z57 z58 z59 z60 z61 z62 z63 z64 z65 z66 hl2 ho2 hr2 => ?_)
  have k2 : KeptC w1 w2 := .heap hr2
  replace g := hG _ _ _ _ hl2 k2 g
  replace hAt := hAt.keptC k2
  replace h2 := k2.cell _ _ h2
  replace h3 := k2.cell _ _ h3
  clear hl2 ho2 hr2 k2
  refine pt_mat fun ⟨Wx, mx⟩ => ?_
  have hFlt : ∀ x, F x → x < w2.heap.size := fun x hx => mx.lt hx
  clear mx
  refine pt_seqE hJ (x := hd (tl (tl c7))) (y := tl (tl (tl c7))) (by rfl) (s2' hJ hB rfl fun ρ3 A3 w3 Own3 t0 t1 t4 t5 t7 t8 t9 t10 t11 t12 t13 t14 t15 t16 t17 t18 t19 t20 t21 t22 t23 t24 t25 t26 t27 t28 t29 t30 t31 t32 t33 t34 t35 t36 t37 t38 t39 t40 t41 t42 t43 t44 t45 t46 t47 t48 t49 t50 t51 t52 t53 t54 t55 t56 t57 t58 t59 t60 t61 t62 t63 t64 t65 t66 p6 x hl3 ho3 hr3 => ?_)
  obtain ⟨h6, hch, hxs, k3⟩ := hr3
  replace g := hG _ _ _ _ hl3 (.of k3) g
  replace hAt := hAt.keptC (.of k3)
  replace h2 := (KeptC.of k3).cell _ _ h2
  replace h3 := (KeptC.of k3).cell _ _ h3
  refine pt_low fun hlow => pt_mat fun ⟨Wx, mx⟩ => ?_
  obtain ⟨c, hxc⟩ := mx.chanAt (t := 6) (by rfl) h6
  have hlo : lo ≤ c := hlow c (mx.own x c hxc fun hF => by have := hFlt x hF; omega)
  clear mx hlow hFlt hl3 ho3 k3 hxs
  have S : Spl J p2 p3 p6 x c ρ3 w3 := ⟨hAt, by rw [hv0]; exact h2, by rw [hv1]; exact h3, h6, ⟨0, false, hch⟩, hxc⟩
  clear hAt h2 h3 h6 hxc
  refine pt_shareAll fun F' Sh' Own' w4 hFF hPl hFlt k4 => ?_
  have hFx : F' x := hPl x (.inr ⟨_, _, _, _, _, k4.chan _ _ _ _ _ _ hch⟩)
  replace g := hG _ _ _ _ (Ren.le.refl _) k4 g
  replace S := S.on (Ren.le.refl _) k4
  clear hPl hFF hFlt k4 hch
  have hJ := jud_mgo Try.prog W0 lo Post N0 (fun _ => none) Sh'
  refine pt_seqE hJ (x := hd (tl (tl (tl c7)))) (y := tl (tl (tl (tl c7)))) (by rfl) ?_
  refine pt_seqE hJ (x := hd (hd (tl (tl (tl c7))))) (y := tl (hd (tl (tl (tl c7))))) (by rfl) (s3' hJ hB rfl (n := n) (by have := S.h2; rw [hv0] at this; exact this) fun ρ5 A5 w5 Own5 s0 s1 s4 s5 s7 s8 s9 s10 s11 s12 s13 s14 s15 s16 s17 s18 s19 s20 s21 s22 s23 s24 s27 s28 s29 s30 s31 s32 s33 s34 s35 s36 s37 s38 s39 s40 s41 s42 s43 s44 s45 s46 s47 s48 s49 s50 s51 s52 s53 s54 s55 s56 s57 s58 s59 s60 s61 s62 s63 s64 s65 s66 hl5 ho5 hr5 => ?_)
  replace g := hG _ _ _ _ hl5 (.heap hr5) g
  replace S := S.on hl5 (.heap hr5)
  clear hl5 ho5 hr5
  refine pt_blockE hJ (id := 0) (x := hd (tl (hd (tl (tl (tl c7)))))) (by rfl) ?_
  refine pt_loopE hJ (x := bd1) (by rfl) ?_
  rw [← pendOf_zero N0 c J.pr (fun _ => false)]
  refine loop1 (W0 := W0) (lo := lo) (N0 := N0) (Post := Post) (RB := RB) (k0 := [.code (tl (tl (tl (tl c7))))]) (p2 := p2) (p3 := p3) (p6 := p6) (x := x) (c := c) (n := n) hJo hJn hlo Gi hG ?_ n 0 (by omega) F' Sh' Own5 ρ5 A5 w5 _ _ _ _ _ _ _ _ _ _ _ _ _ _ _ _ _ _ _ _ _ _ _ _ _ _ _ _ _ _ _ _ _ _ _ _ _ _ _ _ _ _ _ _ _ _ _ _ _ _ _ _ _ _ _ _ _ _ _ _ _ _ hFx S g
  clear S g hFx
  intro F Sh Own ρ A w y0 y1 y4 y5 y7 y8 y9 y10 y11 y12 y13 y14 y15 y16 y17 y18 y19 y20 y21 y22 y23 y24 y27 y28 y29 y30 y31 y32 y33 y34 y35 y36 y37 y38 y39 y40 y41 y42 y43 y44 y45 y46 y47 y48 y49 y50 y51 y52 y53 y54 y55 y56 y57 y58 y59 y60 y61 y62 y63 y64 y65 y66 hFx S g
  have hJ := jud_mgo Try.prog W0 lo Post (N0 + n) (pendOf N0 c J.pr (fun _ => false) n) Sh
  have q2 : w.cell? ⟨p2, 0, none⟩ = some (.slice a0 n c0) := by have := S.h2; rw [hv0] at this; exact this
  refine pt_seqE hJ (x := hd (tl (tl (tl (tl c7))))) (y := tl (tl (tl (tl (tl c7))))) (by rfl) (s9' hJ hB rfl q2 (by omega) fun ρ1 A1 w1 Own1 z0 z1 z3 z4 z5 z7 z9 z10 z11 z12 z13 z14 z15 z16 z17 z18 z19 z20 z21 z22 z23 z24 z25 z26 z27 z28 z29 z30 z31 z32 z33 z34 z35 z36 z37 z38 z39 z40 z41 z42 z43 z44 z45 z46 z47 z48 z49 z50 z51 z52 z53 z54 z55 z56 z57 z58 z59 z60 z61 z62 z63 z64 z65 z66 g8 hl1 ho1 hr1 => ?_)
  obtain ⟨e8, l8, k1⟩ := hr1
  refine pt_seqE hJ (x := hd (tl (tl (tl (tl (tl c7)))))) (y := tl (tl (tl (tl (tl (tl c7)))))) (by rfl) (s10' hJ hB rfl ((KeptC.of k1).cell _ _ q2) (by omega) fun ρ2 A2 w2 Own2 t0 t1 t3 t4 t5 t7 t10 t11 t12 t13 t14 t15 t16 t17 t18 t19 t20 t21 t22 t23 t24 t25 t26 t27 t28 t29 t30 t31 t32 t33 t34 t35 t36 t37 t38 t39 t40 t41 t42 t43 t44 t45 t46 t47 t48 t49 t50 t51 t52 t53 t54 t55 t56 t57 t58 t59 t60 t61 t62 t63 t64 t65 t66 g9 hl2 ho2 hr2 => ?_)
  obtain ⟨e9, l9, k2⟩ := hr2
  have hs8 := (Array.getElem?_eq_some_iff.1 e8).1
  have hs9 := (Array.getElem?_eq_some_iff.1 e9).1
  have hs1 := k1.size
  have hle := hl1.trans hl2
  have R : Rcv J p2 p3 p6 x c w w2.heap.size g8 g9 n (fun _ => false) (Array.replicate n (.slice none 0 0)) (Array.replicate n (.int .i64 0)) ρ2 w2 :=
    { base := .of (k1.trans k2), spl := S.on hle (.of (k1.trans k2)), l8 := l8, l9 := by omega, b8 := by omega, b9 := hs9, ne := by omega, sz := Nat.le_refl _, hO := by rw [k2.block _ hs8]; exact e8, hC := e9, sO := by simp, sC := by simp, told := fun j _ h => (by cases h), zero := fun j hj => (by simp [Array.getElem?_replicate, hj]) }
  have q2' := (KeptC.of (k1.trans k2)).cell _ _ q2
  clear e8 e9 l8 l9 k1 k2 hs8 hs9 hs1 hl1 hl2 ho1 ho2 q2
  generalize w2.heap.size = b0 at R
  refine pt_seqE hJ (x := hd (tl (tl (tl (tl (tl (tl c7))))))) (y := tl (tl (tl (tl (tl (tl (tl c7))))))) (by rfl) ?_
  refine pt_seqE hJ (x := hd (hd (tl (tl (tl (tl (tl (tl c7)))))))) (y := tl (hd (tl (tl (tl (tl (tl (tl c7)))))))) (by rfl) (s11' hJ hB rfl q2' fun ρ3 A3 w3 Own3 s0 s1 s2 s3 s4 s5 s7 s10 s11 s12 s13 s14 s15 s16 s17 s18 s19 s20 s21 s22 s23 s24 s25 s26 s27 s28 s29 s30 s31 s32 s33 s34 s35 s36 s37 s40 s41 s42 s43 s44 s45 s46 s47 s48 s49 s50 s51 s52 s53 s54 s55 s56 s57 s58 s59 s60 s61 s62 s63 s64 s65 s66 hl3 ho3 hr3 => ?_)
  replace R := R.heap hl3 hr3
  replace hle := hle.trans hl3
  clear hl3 ho3 hr3 q2'
  refine pt_blockE hJ (id := 2) (x := hd (tl (hd (tl (tl (tl (tl (tl (tl c7))))))))) (by rfl) ?_
  refine pt_loopE hJ (x := bd2) (by rfl) ?_
  refine loop2 (W0 := W0) (lo := lo) (N0 := N0) (M := N0 + n) (Post := Post) (RB := RB) (k0 := [.code (tl (tl (tl (tl (tl (tl (tl c7)))))))]) (p2 := p2) (p3 := p3) (p6 := p6) (x := x) (c := c) (n := n) (b0 := b0) (g8 := g8) (g9 := g9) (by omega) hlo hFx (ρ0 := ρ) S ?_ n 0 (by omega) Own3 ρ3 A3 w3 _ _ _ _ _ _ _ _ _ _ _ _ _ _ _ _ _ _ _ _ _ _ _ _ _ _ _ _ _ _ _ _ _ _ _ _ _ _ _ _ _ _ _ _ _ _ _ _ _ _ _ _ _ _ _ _ _ _ _ _ _ _ _ _ _ hle (cnt_none n) R
  clear R hle
  intro Own' ρ' A' w' got rO rC y0 y1 y2 y3 y4 y5 y7 y10 y11 y12 y13 y14 y15 y16 y17 y18 y19 y20 y21 y22 y23 y24 y25 y26 y27 y28 y29 y30 y31 y32 y33 y34 y35 y36 y37 y40 y41 y42 y43 y44 y45 y46 y47 y48 y49 y50 y51 y52 y53 y54 y55 y56 y57 y58 y59 y60 y61 y62 y63 y64 y65 y66 hle hall R
  rw [pendOf_all _ _ _ _ _ hall]
  have hJ := jud_mgo Try.prog W0 lo Post (N0 + n) (fun _ => none) Sh
  refine pt_seqE hJ (x := hd (tl (tl (tl (tl (tl (tl (tl c7)))))))) (y := tl (tl (tl (tl (tl (tl (tl (tl c7)))))))) (by rfl) (s16' hJ hB rfl (by omega) R.hC R.sC R.zero fun ρ4 A4 w4 Own4 z0 z1 z2 z3 z4 z5 z6 z7 z9 z10 z11 z12 z13 z14 z15 z16 z17 z18 z19 z20 z21 z22 z23 z24 z25 z26 z27 z28 z29 z30 z31 z32 z33 z34 z35 z36 z37 z38 z39 z40 z41 z42 z43 z44 z45 z46 z47 z48 z49 z50 z51 z52 z53 z54 z55 z56 z57 z58 z59 z60 z61 z62 z63 z64 z65 z66 hl4 ho4 hr4 => ?_)
  replace R := R.heap hl4 hr4
  replace hle := hle.trans hl4
  clear hl4 ho4 hr4
  refine pt_seqE hJ (x := hd (tl (tl (tl (tl (tl (tl (tl (tl c7))))))))) (y := .ret) (by rfl) (s22' hJ hB rfl fun ρ5 A5 w5 Own5 t0 t1 t2 t3 t6 t7 t8 t9 t10 t11 t12 t13 t14 t15 t16 t17 t18 t19 t20 t21 t22 t23 t24 t25 t26 t27 t28 t29 t30 t31 t32 t33 t34 t35 t36 t37 t38 t39 t40 t41 t42 t43 t44 t45 t46 t47 t48 t49 t50 t51 t52 t53 t54 t55 t56 t57 t58 t59 t60 t61 t62 t63 t64 t65 t66 hl5 ho5 hr5 => ?_)
  replace R := R.heap hl5 hr5
  replace hle := hle.trans hl5
  refine pt_ret hJ fun W m todo => ?_
  exact hret _ _ _ _ _ _ w5 W g8 b0 rO (hG _ _ _ _ hle R.base g) R.hO R.sO (fun j hj => R.told j hj (hall j hj)) (by rfl) (by rfl) m todo
end Go.Proofs.Ytkodpijedinanaa.Sim
