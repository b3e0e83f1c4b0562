/- crew.Splits in company: the account of the first loop (a worker for each). Written by tools/gen_crewE.py. -/
import Derived.Test.YtkodpijedinanaaCwA
import Derived.Test.YtkodpijedinanaaCwD
namespace Go.Proofs.Ytkodpijedinanaa.Sim
open Go Go.Conc Go.ChangeShapes Go.WideShapes Go.ChangeAt Go.RowKit
set_option linter.unusedVariables false
set_option linter.unusedSimpArgs false

theorem row4 {ρ : Ren} {a b c d a' b' c' d' : Value} (h1 : VRel ρ a a') (h2 : VRel ρ b b') (h3 : VRel ρ c c') (h4 : VRel ρ d d') : RowRel ρ #[a, b, c, d] #[a', b', c', d'] := by
  have := ((((RowRel.nil ρ).push h1).push h2).push h3).push h4
  simpa using this
/-- Who has yet to tell. -/
def pendOf (N0 c : Nat) (pr : Nat → Prm) (got : Nat → Bool) (j : Nat) : Nat → Option (Nat × Prm) := fun a => if N0 ≤ a ∧ a < N0 + j ∧ got (a - N0) = false then some (c, pr (a - N0)) else none
theorem pendOf_next (N0 c : Nat) (pr : Nat → Prm) (j : Nat) : updP (pendOf N0 c pr (fun _ => false) j) (N0 + j) (some (c, pr j)) = pendOf N0 c pr (fun _ => false) (j + 1) := by
  funext a
  unfold updP pendOf
  by_cases h : a = N0 + j
  · subst h
    rw [if_pos rfl, if_pos ⟨by omega, by omega, rfl⟩, Nat.add_sub_cancel_left]
  · rw [if_neg h]
    by_cases h2 : N0 ≤ a ∧ a < N0 + j ∧ False = False
    · rw [if_pos ⟨h2.1, h2.2.1, rfl⟩, if_pos ⟨h2.1, by omega, rfl⟩]
    · have : ¬ (N0 ≤ a ∧ a < N0 + j) := fun h => h2 ⟨h.1, h.2, rfl⟩
      rw [if_neg (fun h => this ⟨h.1, h.2.1⟩), if_neg (fun h2 => this ⟨h2.1, by omega⟩)]
theorem pendOf_zero (N0 c : Nat) (pr : Nat → Prm) (got : Nat → Bool) : pendOf N0 c pr got 0 = fun _ => none := by
  funext a
  unfold pendOf
  rw [if_neg (by omega)]
/-- What comes in. -/
structure Job where
  n : Nat
  v0 : Value
  v1 : Value
  zs : List Int
  us : List Value
  ws : Nat → List Int
structure Job.Ok (J : Job) : Prop where
  n : J.n ≤ 200
  len : J.zs.length = J.n
  zb : ∀ z ∈ J.zs, 0 ≤ z ∧ z ≤ 1048576
  wb : ∀ i, ∀ x ∈ J.ws i, 0 ≤ x ∧ x ≤ 1048576
  wl : ∀ i, (J.ws i).length ≤ 16
structure Job.At (J : Job) (w : World) : Prop where
  a0 : HasP w J.v0 J.n (ints J.zs)
  a1 : HasP w J.v1 J.n J.us
  rows : ∀ i, i < J.n → ∃ vi, J.us[i]? = some vi ∧ HasP w vi (J.ws i).length (ints (J.ws i))
theorem Job.At.keptC {J : Job} {w w' : World} (h : J.At w) (k : KeptC w w') : J.At w' := ⟨h.a0.keptC k, h.a1.keptC k, fun i hi => by
  obtain ⟨vi, h1, h2⟩ := h.rows i hi
  exact ⟨vi, h1, h2.keptC k⟩⟩
def Job.pr (J : Job) (i : Nat) : Prm := Res i (J.zs[i]?.getD 0) (J.ws i)
/-- What main knows in the first loop. -/
structure Spl (J : Job) (p2 p3 p6 x c : Nat) (ρ : Ren) (w : World) : Prop where
  job : J.At w
  h2 : w.cell? ⟨p2, 0, none⟩ = some J.v0
  h3 : w.cell? ⟨p3, 0, none⟩ = some J.v1
  h6 : w.cell? ⟨p6, 0, none⟩ = some (.chan (some x))
  ch : ∃ s tm, w.heap[x]? = some (.chan 0 #[] false s s tm)
  hx : ρ x c
theorem Spl.on {J : Job} {p2 p3 p6 x c : Nat} {ρ ρ' : Ren} {w w' : World} (h : Spl J p2 p3 p6 x c ρ w) (hl : Ren.le ρ ρ') (k : KeptC w w') : Spl J p2 p3 p6 x c ρ' w' :=
  ⟨h.job.keptC k, k.cell _ _ h.h2, k.cell _ _ h.h3, k.cell _ _ h.h6, by obtain ⟨s, tm, q⟩ := h.ch; exact ⟨s, tm, k.chan _ _ _ _ _ _ q⟩, hl _ _ h.hx⟩
theorem us_clip {J : Job} {w : World} (h : J.At w) {F : Blk} (hF : ∀ x, Plain w x → F x) : ∀ u ∈ J.us, clipV F u = u := fun u hu => by
  obtain ⟨i, hi⟩ := List.getElem?_of_mem hu
  have hlen : J.us.length = J.n * 1 := h.a1.has.1.1
  have hlt : i < J.n := by have := (List.getElem?_eq_some_iff.1 hi).1; omega
  obtain ⟨vi, h1, h2⟩ := h.rows i hlt
  rw [hi] at h1
  cases h1
  exact clip_slice h2 hF
set_option maxRecDepth 100000 in
set_option maxHeartbeats 4000000 in
/-- A worker, from main's shadow. -/
theorem worker_of {J : Job} (hJo : J.Ok) {F Own Sh : Blk} {ρ : Ren} {a A : Act} {w W : World} {lo c p2 p7 p3 p6 x i : Nat} (m : Mat Try.prog F Own Sh ρ a A w W) (S : Spl J p2 p3 p6 x c ρ w) (hF : ∀ x, Plain w x → F x) (hlo : lo ≤ c) (hi : i < J.n) (h7 : w.cell? ⟨p7, 0, none⟩ = some (.int .i64 i))
    {caps : Array Value} (hr : RowRel ρ #[.pointer (some ⟨p2, 0, none⟩), .pointer (some ⟨p7, 0, none⟩), .pointer (some ⟨p3, 0, none⟩), .pointer (some ⟨p6, 0, none⟩)] caps) :
    Goes' Try.prog false Sh (AtSnd Try.prog lo c (J.pr i) Sh) (fun _ => False) (born Try.prog { target := .fn (.func 13) caps, args := #[] }) W := by
  obtain ⟨vi, hu, hvi⟩ := S.job.rows i hi
  have hil : i < J.zs.length := by rw [hJo.len]; exact hi
  have hz : J.zs[i]? = some J.zs[i] := List.getElem?_eq_getElem hil
  have hzb := hJo.zb _ (List.getElem_mem hil)
  have hcx : ∃ s tm, (clip F w).heap[x]? = some (.chan 0 #[] false s s tm) := by
    obtain ⟨s, tm, q⟩ := S.ch
    exact ⟨s, tm, by rw [clip_get, q]; rfl⟩
  have hFx : F x := by
    obtain ⟨s, tm, q⟩ := S.ch
    exact hF x (.inr ⟨_, _, _, _, _, q⟩)
  have hpr : J.pr i = Res i J.zs[i] (J.ws i) := by unfold Job.pr; rw [hz]; rfl
  rw [hpr]
  refine born_goes Try.func13 (by kernel_rfl) (cd := c13) (by rfl) m hr ?_
  have hsz : caps.size = 4 := by rw [← hr.1]; rfl
  have e1 : (#[.pointer (some ⟨p2, 0, none⟩), .pointer (some ⟨p7, 0, none⟩), .pointer (some ⟨p3, 0, none⟩), .pointer (some ⟨p6, 0, none⟩)] : Array Value).map (clipV F) ++ Array.replicate (Try.f13.ntmps - caps.size) undef =
      #[.pointer (some ⟨p2, 0, none⟩), .pointer (some ⟨p7, 0, none⟩), .pointer (some ⟨p3, 0, none⟩), .pointer (some ⟨p6, 0, none⟩), undef, undef, undef, undef, undef, undef, undef, undef, undef, undef, undef, undef, undef, undef, undef, undef, undef, undef, undef] := by
    have f2 : clipV F (.pointer (some ⟨p2, 0, none⟩)) = .pointer (some ⟨p2, 0, none⟩) := by rw [clipV, if_pos (hF _ (plain_of_cell S.h2))]
    have f7 : clipV F (.pointer (some ⟨p7, 0, none⟩)) = .pointer (some ⟨p7, 0, none⟩) := by rw [clipV, if_pos (hF _ (plain_of_cell h7))]
    have f3 : clipV F (.pointer (some ⟨p3, 0, none⟩)) = .pointer (some ⟨p3, 0, none⟩) := by rw [clipV, if_pos (hF _ (plain_of_cell S.h3))]
    have f6 : clipV F (.pointer (some ⟨p6, 0, none⟩)) = .pointer (some ⟨p6, 0, none⟩) := by rw [clipV, if_pos (hF _ (plain_of_cell S.h6))]
    have hnt : Try.f13.ntmps = 23 := by kernel_rfl
    rw [hsz, hnt]
    simp only [List.map_toArray, List.map_cons, List.map_nil, f2, f7, f3, f6]
    rfl
  rw [e1]
  have g0 := has_clip S.job.a0 hF (ints_clip F _)
  have g1 := has_clip S.job.a1 hF (us_clip S.job hF)
  have gi := has_clip hvi hF (ints_clip F _)
  refine worker_run (n := J.n) (fun x hx => ?_) (by rw [clip_cell F w _ S.h2, clip_slice S.job.a0 hF]) (by rw [clip_cell F w _ h7, clipV]) (by rw [clip_cell F w _ S.h3, clip_slice S.job.a1 hF]) (by rw [clip_cell F w _ S.h6, clipV, if_pos hFx]) ⟨S.hx, hFx⟩ hFx hlo hcx hi g0 g1 hz hu gi (hJo.wb i) (hJo.wl i) hzb.1 hzb.2
  rw [clip_size]
  exact m.lt hx
noncomputable def ops7 : Array Oper := opsOf (tl (hd (hd (tl (tl bd1)))))
set_option maxRecDepth 100000 in
set_option maxHeartbeats 4000000 in
/-- The first loop. -/
theorem loop1 {W0 : World} {lo N0 : Nat} {Post : Value → World → Prop} {RB : List Frame} {k0 : List Item} {p2 p3 p6 x c n : Nat} {J : Job} (hJo : J.Ok) (hJn : J.n = n) (hlo : lo ≤ c) (G : Ren → World → Prop) (hG : ∀ ρ ρ' w w', Ren.le ρ ρ' → KeptC w w' → G ρ w → G ρ' w')
    (hcont : ∀ (F Sh Own : Blk) (ρ : Ren) (A : Act) (w : World) (y0 y1 y4 y5 y7 y8 y9 y10 y11 y12 y13 y14 y15 y16 y17 y18 y19 y20 y21 y22 y23 y24 y27 y28 y29 y30 y31 y32 y33 y34 y35 y36 y37 y38 y39 y40 y41 y42 y43 y44 y45 y46 y47 y48 y49 y50 y51 y52 y53 y54 y55 y56 y57 y58 y59 y60 y61 y62 y63 y64 y65 y66 : Value), F x → Spl J p2 p3 p6 x c ρ w → G ρ w → Pt Try.prog F Sh (MGo Try.prog W0 lo Post (N0 + n) (pendOf N0 c J.pr (fun _ => false) n) Sh) RB (base 7) k0 Own ρ ⟨#[y0, y1, .pointer (some ⟨p2, 0, none⟩), .pointer (some ⟨p3, 0, none⟩), y4, y5, .pointer (some ⟨p6, 0, none⟩), y7, y8, y9, y10, y11, y12, y13, y14, y15, y16, y17, y18, y19, y20, y21, y22, y23, y24, .int .i64 n, .int .i64 n, y27, y28, y29, y30, y31, y32, y33, y34, y35, y36, y37, y38, y39, y40, y41, y42, y43, y44, y45, y46, y47, y48, y49, y50, y51, y52, y53, y54, y55, y56, y57, y58, y59, y60, y61, y62, y63, y64, y65, y66], []⟩ A w) :
    ∀ (m j : Nat), j + m = n → ∀ (F Sh Own : Blk) (ρ : Ren) (A : Act) (w : World) (u0 u1 u4 u5 u7 u8 u9 u10 u11 u12 u13 u14 u15 u16 u17 u18 u19 u20 u21 u22 u23 u24 u27 u28 u29 u30 u31 u32 u33 u34 u35 u36 u37 u38 u39 u40 u41 u42 u43 u44 u45 u46 u47 u48 u49 u50 u51 u52 u53 u54 u55 u56 u57 u58 u59 u60 u61 u62 u63 u64 u65 u66 : Value), F x → Spl J p2 p3 p6 x c ρ w → G ρ w →
      Pt Try.prog F Sh (MGo Try.prog W0 lo Post (N0 + j) (pendOf N0 c J.pr (fun _ => false) j) Sh) RB (base 7) (.code bd1 :: .inLoop bd1 :: .inBlock 0 :: k0) Own ρ ⟨#[u0, u1, .pointer (some ⟨p2, 0, none⟩), .pointer (some ⟨p3, 0, none⟩), u4, u5, .pointer (some ⟨p6, 0, none⟩), u7, u8, u9, u10, u11, u12, u13, u14, u15, u16, u17, u18, u19, u20, u21, u22, u23, u24, .int .i64 n, .int .i64 j, u27, u28, u29, u30, u31, u32, u33, u34, u35, u36, u37, u38, u39, u40, u41, u42, u43, u44, u45, u46, u47, u48, u49, u50, u51, u52, u53, u54, u55, u56, u57, u58, u59, u60, u61, u62, u63, u64, u65, u66], []⟩ A w := by
  have hB : (base 7).kind ≠ .early := by simp [base]
  intro m
  induction m with
  | zero =>
    intro j hj F Sh Own ρ A w u0 u1 u4 u5 u7 u8 u9 u10 u11 u12 u13 u14 u15 u16 u17 u18 u19 u20 u21 u22 u23 u24 u27 u28 u29 u30 u31 u32 u33 u34 u35 u36 u37 u38 u39 u40 u41 u42 u43 u44 u45 u46 u47 u48 u49 u50 u51 u52 u53 u54 u55 u56 u57 u58 u59 u60 u61 u62 u63 u64 u65 u66 hFx S g
    have hjn : j = n := by omega
    subst hjn
    have hJ := jud_mgo Try.prog W0 lo Post (N0 + j) (pendOf N0 c J.pr (fun _ => false) j) Sh
    refine pt_seqE hJ (x := hd bd1) (y := tl bd1) (by rfl) (l5' hJ hB rfl fun ρ1 A1 w1 Own1 y0 y1 y4 y5 y7 y8 y9 y10 y11 y12 y13 y14 y15 y16 y17 y18 y19 y20 y21 y22 y23 y24 y28 y29 y30 y31 y32 y33 y34 y35 y36 y37 y38 y39 y40 y41 y42 y43 y44 y45 y46 y47 y48 y49 y50 y51 y52 y53 y54 y55 y56 y57 y58 y59 y60 y61 y62 y63 y64 y65 y66 hl1 ho1 hr1 => ?_)
    refine pt_seqE hJ (x := hd (tl bd1)) (y := tl (tl bd1)) (by rfl) ?_
    refine pt_condE hJ (t := 27) (x := .skip) (y := .exit 0) (by rfl) (decide (j < j)) (by rfl) ?_
    rw [show decide (j < j) = false by simp]
    refine pt_exit hJ (k' := k0) (by rfl) ?_
    exact hcont _ _ _ _ _ _ _ _ _ _ _ _ _ _ _ _ _ _ _ _ _ _ _ _ _ _ _ _ _ _ _ _ _ _ _ _ _ _ _ _ _ _ _ _ _ _ _ _ _ _ _ _ _ _ _ _ _ _ _ _ _ _ _ _ _ _ _ _ hFx (S.on hl1 (.heap hr1)) (hG _ _ _ _ hl1 (.heap hr1) g)
  | succ m ih =>
    intro j hj F Sh Own ρ A w u0 u1 u4 u5 u7 u8 u9 u10 u11 u12 u13 u14 u15 u16 u17 u18 u19 u20 u21 u22 u23 u24 u27 u28 u29 u30 u31 u32 u33 u34 u35 u36 u37 u38 u39 u40 u41 u42 u43 u44 u45 u46 u47 u48 u49 u50 u51 u52 u53 u54 u55 u56 u57 u58 u59 u60 u61 u62 u63 u64 u65 u66 hFx S g
    have hjn : j < n := by omega
    have hn := hJo.n
    have hJ := jud_mgo Try.prog W0 lo Post (N0 + j) (pendOf N0 c J.pr (fun _ => false) j) Sh
    refine pt_seqE hJ (x := hd bd1) (y := tl bd1) (by rfl) (l5' hJ hB rfl fun ρ1 A1 w1 Own1 y0 y1 y4 y5 y7 y8 y9 y10 y11 y12 y13 y14 y15 y16 y17 y18 y19 y20 y21 y22 y23 y24 y28 y29 y30 y31 y32 y33 y34 y35 y36 y37 y38 y39 y40 y41 y42 y43 y44 y45 y46 y47 y48 y49 y50 y51 y52 y53 y54 y55 y56 y57 y58 y59 y60 y61 y62 y63 y64 y65 y66 hl1 ho1 hr1 => ?_)
    replace S := S.on hl1 (.heap hr1)
    replace g := hG _ _ _ _ hl1 (.heap hr1) g
    clear hl1 ho1 hr1
    refine pt_seqE hJ (x := hd (tl bd1)) (y := tl (tl bd1)) (by rfl) ?_
    refine pt_condE hJ (t := 27) (x := .skip) (y := .exit 0) (by rfl) (decide (j < n)) (by rfl) ?_
    rw [show decide (j < n) = true by simp [hjn]]
    refine pt_skip hJ ?_
    refine pt_seqE hJ (x := hd (tl (tl bd1))) (y := tl (tl (tl bd1))) (by rfl) ?_
    refine pt_blockE hJ (id := 1) (x := hd (hd (tl (tl bd1)))) (by rfl) ?_
    refine pt_seqE hJ (x := hd (hd (hd (tl (tl bd1))))) (y := tl (hd (hd (tl (tl bd1))))) (by rfl) (l6' hJ hB rfl fun ρ2 A2 w2 Own2 t0 t1 t4 t5 t8 t9 t10 t11 t12 t13 t14 t15 t16 t17 t18 t19 t20 t21 t22 t23 t24 t27 t28 t29 t30 t31 t32 t33 t34 t35 t36 t37 t38 t39 t40 t41 t42 t43 t44 t45 t46 t47 t48 t49 t50 t51 t52 t53 t54 t55 t56 t57 t58 t59 t60 t61 t62 t63 t64 t65 t66 p7 hl2 ho2 hr2 => ?_)
    replace S := S.on hl2 (.of hr2.2)
    replace g := hG _ _ _ _ hl2 (.of hr2.2) g
    have h7 := hr2.1
    clear hl2 ho2 hr2
    refine pt_shareAll fun F' Sh' Own' w3 hFF hPl hFlt k3 => ?_
    replace S := S.on (Ren.le.refl _) k3
    replace g := hG _ _ _ _ (Ren.le.refl _) k3 g
    replace h7 := k3.cell _ _ h7
    have hJ := jud_mgo Try.prog W0 lo Post (N0 + j) (pendOf N0 c J.pr (fun _ => false) j) Sh'
    refine pt_regionE hJ (ops := ops7) (reg_eta (c := tl (hd (hd (tl (tl bd1))))) (by rfl)) (l := [0, 1]) (by rfl) ?_
    refine pt_makeFunc hJ hB (o := ops7[0]!) (by rfl) (by rfl) (f := 13) (caps := #[.tmp 2, .tmp 7, .tmp 3, .tmp 6]) (by rfl) ?_
    rw [show (ops7[0]!).dst = some 29 from by rfl]
    refine pt_mat fun ⟨Wm, mm⟩ => ?_
    have hsz : A2.tmps.size = 67 := by
      have := mm.row.1
      simpa [Act.put] using this.symm
    refine pt_spawn (c := c) (pr := J.pr j) hB (o := ops7[1]!) (by rfl) (by rfl) (t := 29) (by rfl) (f := 13) (caps := (#[.tmp 2, .tmp 7, .tmp 3, .tmp 6] : Array Operand).map A2.eval) (by simp [Act.put, Array.getD_eq_getD_getElem?, hsz]) (fun W mw => ?_) ?_
    · refine worker_of hJo mw S hPl hlo (by omega) h7 ?_
      have q : ∀ (t : Nat) (v : Value), t ≠ 29 → (⟨#[t0, t1, .pointer (some ⟨p2, 0, none⟩), .pointer (some ⟨p3, 0, none⟩), t4, t5, .pointer (some ⟨p6, 0, none⟩), .pointer (some ⟨p7, 0, none⟩), t8, t9, t10, t11, t12, t13, t14, t15, t16, t17, t18, t19, t20, t21, t22, t23, t24, .int .i64 n, .int .i64 j, t27, t28, t29, t30, t31, t32, t33, t34, t35, t36, t37, t38, t39, t40, t41, t42, t43, t44, t45, t46, t47, t48, t49, t50, t51, t52, t53, t54, t55, t56, t57, t58, t59, t60, t61, t62, t63, t64, t65, t66], []⟩ : Act).tmps.getD t undef = v → VRel ρ2 v (A2.eval (.tmp t)) := fun t v ht hv => by
        have h := mw.row.getD t
        rw [put_ne _ ht, put_ne _ ht, hv] at h
        exact h
      rw [show (#[.tmp 2, .tmp 7, .tmp 3, .tmp 6] : Array Operand).map A2.eval = #[A2.eval (.tmp 2), A2.eval (.tmp 7), A2.eval (.tmp 3), A2.eval (.tmp 6)] by simp]
      exact row4 (q 2 (.pointer (some ⟨p2, 0, none⟩)) (by decide) (by rfl)) (q 7 (.pointer (some ⟨p7, 0, none⟩)) (by decide) (by rfl)) (q 3 (.pointer (some ⟨p3, 0, none⟩)) (by decide) (by rfl)) (q 6 (.pointer (some ⟨p6, 0, none⟩)) (by decide) (by rfl))
    rw [pendOf_next, Nat.add_assoc]
    have hJ := jud_mgo Try.prog W0 lo Post (N0 + (j + 1)) (pendOf N0 c J.pr (fun _ => false) (j + 1)) Sh'
    refine pt_region_end hJ (pt_inBlock hJ ?_)
    rw [show (ops7[1]!).dst = none from by rfl]
    refine l8' hJ hB rfl (by omega) fun ρ4 A4 w4 Own4 z0 z1 z4 z5 z7 z8 z9 z10 z11 z12 z13 z14 z15 z16 z17 z18 z19 z20 z21 z22 z23 z24 z27 z28 z29 z30 z31 z32 z33 z34 z35 z36 z37 z38 z39 z40 z41 z42 z43 z44 z45 z46 z47 z48 z49 z50 z51 z52 z53 z54 z55 z56 z57 z58 z59 z60 z61 z62 z63 z64 z65 z66 hl4 ho4 hr4 => ?_
    refine pt_inLoop hJ ?_
    exact ih (j + 1) (by omega) F' Sh' Own4 ρ4 A4 w4 _ _ _ _ _ _ _ _ _ _ _ _ _ _ _ _ _ _ _ _ _ _ _ _ _ _ _ _ _ _ _ _ _ _ _ _ _ _ _ _ _ _ _ _ _ _ _ _ _ _ _ _ _ _ _ _ _ _ _ _ _ _ (hFF _ hFx) (S.on hl4 (.heap hr4)) (hG _ _ _ _ hl4 (.heap hr4) g)
end Go.Proofs.Ytkodpijedinanaa.Sim
