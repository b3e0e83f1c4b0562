/- crew.Splits in company: the account of the second loop (a receipt for each). Written by tools/gen_crewG.py. -/
import Derived.Test.YtkodpijedinanaaCwF
namespace Go.Proofs.Ytkodpijedinanaa.Sim
open Go Go.Conc Go.ChangeShapes Go.WideShapes Go.ChangeAt Go.RowKit
set_option linter.unusedVariables false
set_option linter.unusedSimpArgs false

noncomputable def ops8 : Array Oper := opsOf (hd (hd (hd (tl (tl bd2)))))
set_option maxRecDepth 100000 in
theorem run_rcv (e : Operand → Value) (W1 : World) (c : Nat) (h : e (.tmp 41) = .chan (some c)) : (execOp e (ops8[1]!)).run Try.prog W1 = .ok (.comm #[rcase c (.agg #[.int .i64 0, .slice none 0 0, .int .i64 0])] true (.recv false)) W1 ∧ (execOp e (ops8[1]!)).events Try.prog W1 #[] = #[] := by
  have e1 : (ops8[1]!).op = .recv 45 (.tmp 41) false := by rfl
  unfold execOp
  rw [e1]
  constructor <;> simp [h, go_sem, rcase]
theorem run_box (e : Operand → Value) (w : World) (τ : Tape) (d : Nat) : (execOp e (ops8[2]!)).run Try.prog (lay w τ d) = .ok (.value (.pointer (some ⟨w.heap.size, 0, none⟩))) (lay (w.alloc (.cells #[.int .i64 0, .slice none 0 0, .int .i64 0] 49)) τ d) := by
  have e2 : (ops8[2]!).op = .alloc 49 := by rfl
  unfold execOp
  rw [e2]
  simp [go_sem]
  exact ⟨rfl, rfl⟩
theorem run_put3 (e : Operand → Value) (w : World) (τ : Tape) (d : Nat) (g : Nat) (i : Nat) (a : Option Addr) (n c : Nat) (h1 : e (.tmp 10) = .pointer (some ⟨g, 0, none⟩)) (h2 : e (.tmp 42) = .agg #[.int .i64 i, .slice a n c, .int .i64 0])
    (hg : w.heap[g]? = some (.cells #[.int .i64 0, .slice none 0 0, .int .i64 0] 49 (0, 0))) :
    (execOp e (ops8[3]!)).run Try.prog (lay w τ d) = .ok .skip (lay (((w.setCell ⟨g, 0, none⟩ (.int .i64 i)).setCell ⟨g, 1, none⟩ (.slice a n c)).setCell ⟨g, 2, none⟩ (.int .i64 0)) τ d) := by
  have e3 : (ops8[3]!).op = .store 49 (.tmp 10) (.tmp 42) := by rfl
  unfold execOp
  rw [e3]
  have g0 : (lay w τ d).cell? ⟨g, 0, none⟩ = some (.int .i64 0) := cell_of_row w _ _ _ _ _ hg
  have g1 : (lay w τ d).cell? ⟨g, 1, none⟩ = some (.slice none 0 0) := cell_of_row w _ _ _ _ _ hg
  have g2 : (lay w τ d).cell? ⟨g, 2, none⟩ = some (.int .i64 0) := cell_of_row w _ _ _ _ _ hg
  have zz : ∀ j, (lay w τ d).frozen? ⟨g, j, none⟩ = false := fun j => by
    show w.frozen? ⟨g, j, none⟩ = false
    simp [World.frozen?, hg]
  simp [go_sem, h1, h2, g0, g1, g2, zz]
  rfl
theorem three_cells {w : World} {g : Nat} {a b c x y z : Value} {e : TypeId} (hg : w.heap[g]? = some (.cells #[a, b, c] e (0, 0))) {W : World} (hW : W = ((w.setCell ⟨g, 0, none⟩ x).setCell ⟨g, 1, none⟩ y).setCell ⟨g, 2, none⟩ z) :
    W.heap[g]? = some (.cells #[x, y, z] e (0, 0)) ∧ W.heap.size = w.heap.size ∧ ∀ b, b ≠ g → W.heap[b]? = w.heap[b]? := by
  subst hW
  have h1 := set_row (i := 0) x hg
  have h2 := set_row (i := 1) y h1
  have h3 := set_row (i := 2) z h2
  refine ⟨by rw [h3]; rfl, by simp only [setCell_size], fun q hq => ?_⟩
  rw [setCell_other _ ⟨g, 2, none⟩ z (k := q) hq, setCell_other _ ⟨g, 1, none⟩ y (k := q) hq, setCell_other _ ⟨g, 0, none⟩ x (k := q) hq]
theorem RowS.on {w w' : World} {lo : Nat} {sv : Value} {xs : List Int} (h : RowS w lo sv xs) (hk : ∀ g, lo ≤ g → g < w.heap.size → w'.heap[g]? = w.heap[g]?) : RowS w' lo sv xs := by
  rcases h with h | ⟨g, cap, row, e, fz, rfl, h1, h2, h3, h4, h5⟩
  · exact .inl h
  · exact .inr ⟨g, cap, row, e, fz, rfl, h1, h2, h3, by rw [hk g h3 (Array.getElem?_eq_some_iff.1 h4).1]; exact h4, h5⟩
theorem RowS.mono {w : World} {lo lo' : Nat} {sv : Value} {xs : List Int} (h : RowS w lo sv xs) (hl : lo' ≤ lo) : RowS w lo' sv xs := by
  rcases h with h | ⟨g, cap, row, e, fz, rfl, h1, h2, h3, h4, h5⟩
  · exact .inl h
  · exact .inr ⟨g, cap, row, e, fz, rfl, h1, h2, Nat.le_trans hl h3, h4, h5⟩
theorem KeptC.off {w0 w w' : World} (h : KeptC w0 w) (hs : w.heap.size ≤ w'.heap.size) (hk : ∀ b, b < w0.heap.size → w'.heap[b]? = w.heap[b]?) : KeptC w0 w' where
  size := Nat.le_trans h.size hs
  cell := fun a v q => by
    have hlt : a.block < w0.heap.size := by
      unfold World.cell? at q
      cases hb : w0.heap[a.block]? with
      | none => rw [hb] at q; cases q
      | some o => exact (Array.getElem?_eq_some_iff.1 hb).1
    have := h.cell _ _ q
    unfold World.cell? at this ⊢
    rw [hk _ hlt]; exact this
  plain := fun x q => by
    have hlt : x < w0.heap.size := by
      rcases q with ⟨c, e, z, q⟩ | ⟨p, f, s, r, t, q⟩ <;> exact (Array.getElem?_eq_some_iff.1 q).1
    have := h.plain _ q
    unfold Plain at this ⊢
    rw [hk _ hlt]; exact this
  chan := fun x p f s r t q => by rw [hk _ (Array.getElem?_eq_some_iff.1 q).1]; exact h.chan _ _ _ _ _ _ q
/-- A result, as it stands in the row of results. -/
def Told (J : Job) (w : World) (b0 : Nat) (rO : Array Value) (j : Nat) : Prop := ∃ sv L, rO[j]? = some sv ∧ Lev (J.zs[j]?.getD 0) (J.ws j) L ∧ RowS w b0 sv (give L (J.zs[j]?.getD 0 - least (J.ws j) L) (J.ws j))
/-- What main knows in the second loop. -/
structure Rcv (J : Job) (p2 p3 p6 x c : Nat) (w0 : World) (b0 g8 g9 n : Nat) (got : Nat → Bool) (rO rC : Array Value) (ρ : Ren) (w : World) : Prop where
  base : KeptC w0 w
  spl : Spl J p2 p3 p6 x c ρ w
  l8 : w0.heap.size ≤ g8
  l9 : w0.heap.size ≤ g9
  b8 : g8 < b0
  b9 : g9 < b0
  ne : g8 ≠ g9
  sz : b0 ≤ w.heap.size
  hO : w.heap[g8]? = some (.cells rO 22 (0, 0))
  hC : w.heap[g9]? = some (.cells rC 26 (0, 0))
  sO : rO.size = n
  sC : rC.size = n
  told : ∀ j, j < n → got j = true → Told J w b0 rO j
  zero : ∀ j, j < n → rC[j]? = some (.int .i64 0)
/-- Other blocks turned, or newer ones. -/
theorem Rcv.on {J : Job} {p2 p3 p6 x c : Nat} {w0 w w' : World} {b0 g8 g9 n : Nat} {got : Nat → Bool} {rO rC : Array Value} {ρ ρ' : Ren} (h : Rcv J p2 p3 p6 x c w0 b0 g8 g9 n got rO rC ρ w) (hl : Ren.le ρ ρ') (k : Kept w w') : Rcv J p2 p3 p6 x c w0 b0 g8 g9 n got rO rC ρ' w' :=
  { h with base := h.base.trans (.of k), spl := h.spl.on hl (.of k), sz := Nat.le_trans h.sz k.size, hO := by rw [k.block _ (Array.getElem?_eq_some_iff.1 h.hO).1]; exact h.hO, hC := by rw [k.block _ (Array.getElem?_eq_some_iff.1 h.hC).1]; exact h.hC,
            told := fun j hj hg => by
              obtain ⟨sv, L, h1, h2, h3⟩ := h.told j hj hg
              exact ⟨sv, L, h1, h2, h3.on fun g _ hg => k.block g hg⟩ }
theorem Rcv.heap {J : Job} {p2 p3 p6 x c : Nat} {w0 w w' : World} {b0 g8 g9 n : Nat} {got : Nat → Bool} {rO rC : Array Value} {ρ ρ' : Ren} (h : Rcv J p2 p3 p6 x c w0 b0 g8 g9 n got rO rC ρ w) (hl : Ren.le ρ ρ') (k : w'.heap = w.heap) : Rcv J p2 p3 p6 x c w0 b0 g8 g9 n got rO rC ρ' w' := h.on hl (Kept.of_heap k)
/-- A result is put in its place. -/
theorem Rcv.put {J : Job} {p2 p3 p6 x c : Nat} {w0 w w' : World} {b0 g8 g9 n i : Nat} {got : Nat → Bool} {rO rC : Array Value} {ρ ρ' : Ren} (h : Rcv J p2 p3 p6 x c w0 b0 g8 g9 n got rO rC ρ w) (hl : Ren.le ρ ρ') {sv : Value} {L : Int} (hS : Spl J p2 p3 p6 x c ρ w0) (hi : i < n) (hL : Lev (J.zs[i]?.getD 0) (J.ws i) L) (hr : RowS w b0 sv (give L (J.zs[i]?.getD 0 - least (J.ws i) L) (J.ws i)))
    (q : w'.heap[g8]? = some (.cells (rO.setIfInBounds i sv) 22 (0, 0)) ∧ w'.heap[g9]? = some (.cells (rC.setIfInBounds i (.int .i64 0)) 26 (0, 0)) ∧ w'.heap.size = w.heap.size ∧ (∀ b, b ≠ g8 → b ≠ g9 → w'.heap[b]? = w.heap[b]?)) :
    Rcv J p2 p3 p6 x c w0 b0 g8 g9 n (upd got i) (rO.setIfInBounds i sv) (rC.setIfInBounds i (.int .i64 0)) ρ' w' := by
  obtain ⟨q1, q2, q3, q4⟩ := q
  have h8 := h.b8
  have h9 := h.b9
  have hl8 := h.l8
  have hl9 := h.l9
  have hb : KeptC w0 w' := h.base.off (by omega) fun b hb => q4 b (by omega) (by omega)
  have hon : ∀ g, b0 ≤ g → g < w.heap.size → w'.heap[g]? = w.heap[g]? := fun g hg _ => q4 g (by omega) (by omega)
  refine { h with base := hb, spl := hS.on hl hb, sz := by rw [q3]; exact h.sz, hO := q1, hC := q2, sO := by simp [h.sO], sC := by simp [h.sC], told := fun j hj hg => ?_, zero := fun j hj => ?_ }
  · by_cases e : j = i
    · subst e
      exact ⟨sv, L, by rw [Array.getElem?_setIfInBounds_self_of_lt (by rw [h.sO]; exact hi)], hL, hr.on hon⟩
    · have hg' : got j = true := by simpa [upd, e] using hg
      obtain ⟨sv', L', h1, h2, h3⟩ := h.told j hj hg'
      exact ⟨sv', L', by rw [Array.getElem?_setIfInBounds_ne (fun x => e x.symm)]; exact h1, h2, h3.on hon⟩
  · by_cases e : j = i
    · subst e
      rw [Array.getElem?_setIfInBounds_self_of_lt (by rw [h.sC]; exact hi)]
    · rw [Array.getElem?_setIfInBounds_ne (fun x => e x.symm)]; exact h.zero j hj
set_option maxRecDepth 100000 in
set_option maxHeartbeats 8000000 in
/-- The second loop. -/
theorem loop2 {W0 : World} {lo N0 M : Nat} {Post : Value → World → Prop} {RB : List Frame} {k0 : List Item} {p2 p3 p6 x c n b0 g8 g9 : Nat} {J : Job} {F Sh : Blk} {w0 : World} (hn : n ≤ 200) (hlo : lo ≤ c) (hFx : F x) {ρ0 : Ren} (hS : Spl J p2 p3 p6 x c ρ0 w0)
    (hcont : ∀ (Own : Blk) (ρ : Ren) (A : Act) (w : World) (got : Nat → Bool) (rO rC : Array Value) (y0 y1 y2 y3 y4 y5 y7 y10 y11 y12 y13 y14 y15 y16 y17 y18 y19 y20 y21 y22 y23 y24 y25 y26 y27 y28 y29 y30 y31 y32 y33 y34 y35 y36 y37 y40 y41 y42 y43 y44 y45 y46 y47 y48 y49 y50 y51 y52 y53 y54 y55 y56 y57 y58 y59 y60 y61 y62 y63 y64 y65 y66 : Value), Ren.le ρ0 ρ → (∀ j, j < n → got j = true) → Rcv J p2 p3 p6 x c w0 b0 g8 g9 n got rO rC ρ w → Pt Try.prog F Sh (MGo Try.prog W0 lo Post M (pendOf N0 c J.pr got n) Sh) RB (base 7) k0 Own ρ ⟨#[y0, y1, y2, y3, y4, y5, .pointer (some ⟨p6, 0, none⟩), y7, .slice (some ⟨g8, 0, none⟩) n n, .slice (some ⟨g9, 0, none⟩) n n, y10, y11, y12, y13, y14, y15, y16, y17, y18, y19, y20, y21, y22, y23, y24, y25, y26, y27, y28, y29, y30, y31, y32, y33, y34, y35, y36, y37, .int .i64 n, .int .i64 n, y40, y41, y42, y43, y44, y45, y46, y47, y48, y49, y50, y51, y52, y53, y54, y55, y56, y57, y58, y59, y60, y61, y62, y63, y64, y65, y66], []⟩ A w) :
    ∀ (m k : Nat), k + m = n → ∀ (Own : Blk) (ρ : Ren) (A : Act) (w : World) (got : Nat → Bool) (rO rC : Array Value) (u0 u1 u2 u3 u4 u5 u7 u10 u11 u12 u13 u14 u15 u16 u17 u18 u19 u20 u21 u22 u23 u24 u25 u26 u27 u28 u29 u30 u31 u32 u33 u34 u35 u36 u37 u40 u41 u42 u43 u44 u45 u46 u47 u48 u49 u50 u51 u52 u53 u54 u55 u56 u57 u58 u59 u60 u61 u62 u63 u64 u65 u66 : Value), Ren.le ρ0 ρ → cnt got n = k → Rcv J p2 p3 p6 x c w0 b0 g8 g9 n got rO rC ρ w →
      Pt Try.prog F Sh (MGo Try.prog W0 lo Post M (pendOf N0 c J.pr got n) Sh) RB (base 7) (.code bd2 :: .inLoop bd2 :: .inBlock 2 :: k0) Own ρ ⟨#[u0, u1, u2, u3, u4, u5, .pointer (some ⟨p6, 0, none⟩), u7, .slice (some ⟨g8, 0, none⟩) n n, .slice (some ⟨g9, 0, none⟩) n n, u10, u11, u12, u13, u14, u15, u16, u17, u18, u19, u20, u21, u22, u23, u24, u25, u26, u27, u28, u29, u30, u31, u32, u33, u34, u35, u36, u37, .int .i64 n, .int .i64 k, u40, u41, u42, u43, u44, u45, u46, u47, u48, u49, u50, u51, u52, u53, u54, u55, u56, u57, u58, u59, u60, u61, u62, u63, u64, u65, u66], []⟩ A w := by
  have hB : (base 7).kind ≠ .early := by simp [base]
  intro m
  induction m with
  | zero =>
    intro k hk Own ρ A w got rO rC u0 u1 u2 u3 u4 u5 u7 u10 u11 u12 u13 u14 u15 u16 u17 u18 u19 u20 u21 u22 u23 u24 u25 u26 u27 u28 u29 u30 u31 u32 u33 u34 u35 u36 u37 u40 u41 u42 u43 u44 u45 u46 u47 u48 u49 u50 u51 u52 u53 u54 u55 u56 u57 u58 u59 u60 u61 u62 u63 u64 u65 u66 hle hc R
    have hkn : k = n := by omega
    subst hkn
    have hJ := jud_mgo Try.prog W0 lo Post M (pendOf N0 c J.pr got k) Sh
    refine pt_seqE hJ (x := hd bd2) (y := tl bd2) (by rfl) (m12' hJ hB rfl fun ρ1 A1 w1 Own1 y0 y1 y2 y3 y4 y5 y7 y10 y11 y12 y13 y14 y15 y16 y17 y18 y19 y20 y21 y22 y23 y24 y25 y26 y27 y28 y29 y30 y31 y32 y33 y34 y35 y36 y37 y41 y42 y43 y44 y45 y46 y47 y48 y49 y50 y51 y52 y53 y54 y55 y56 y57 y58 y59 y60 y61 y62 y63 y64 y65 y66 hl1 ho1 hr1 => ?_)
    refine pt_seqE hJ (x := hd (tl bd2)) (y := tl (tl bd2)) (by rfl) ?_
    refine pt_condE hJ (t := 40) (x := .skip) (y := .exit 2) (by rfl) (decide (k < k)) (by rfl) ?_
    rw [show decide (k < k) = false by simp]
    refine pt_exit hJ (k' := k0) (by rfl) ?_
    exact hcont _ _ _ _ got rO rC _ _ _ _ _ _ _ _ _ _ _ _ _ _ _ _ _ _ _ _ _ _ _ _ _ _ _ _ _ _ _ _ _ _ _ _ _ _ _ _ _ _ _ _ _ _ _ _ _ _ _ _ _ _ _ _ _ _ _ _ _ _ (hle.trans hl1) (cnt_all got _ hc) (R.heap hl1 hr1)
  | succ m ih =>
    intro k hk Own ρ A w got rO rC u0 u1 u2 u3 u4 u5 u7 u10 u11 u12 u13 u14 u15 u16 u17 u18 u19 u20 u21 u22 u23 u24 u25 u26 u27 u28 u29 u30 u31 u32 u33 u34 u35 u36 u37 u40 u41 u42 u43 u44 u45 u46 u47 u48 u49 u50 u51 u52 u53 u54 u55 u56 u57 u58 u59 u60 u61 u62 u63 u64 u65 u66 hle hc R
    have hkn : k < n := by omega
    have hJ := jud_mgo Try.prog W0 lo Post M (pendOf N0 c J.pr got n) Sh
    refine pt_seqE hJ (x := hd bd2) (y := tl bd2) (by rfl) (m12' hJ hB rfl fun ρ1 A1 w1 Own1 y0 y1 y2 y3 y4 y5 y7 y10 y11 y12 y13 y14 y15 y16 y17 y18 y19 y20 y21 y22 y23 y24 y25 y26 y27 y28 y29 y30 y31 y32 y33 y34 y35 y36 y37 y41 y42 y43 y44 y45 y46 y47 y48 y49 y50 y51 y52 y53 y54 y55 y56 y57 y58 y59 y60 y61 y62 y63 y64 y65 y66 hl1 ho1 hr1 => ?_)
    replace R := R.heap hl1 hr1
    replace hle := hle.trans hl1
    clear hl1 ho1 hr1
    refine pt_seqE hJ (x := hd (tl bd2)) (y := tl (tl bd2)) (by rfl) ?_
    refine pt_condE hJ (t := 40) (x := .skip) (y := .exit 2) (by rfl) (decide (k < n)) (by rfl) ?_
    rw [show decide (k < n) = true by simp [hkn]]
    refine pt_skip hJ ?_
    refine pt_seqE hJ (x := hd (tl (tl bd2))) (y := tl (tl (tl bd2))) (by rfl) ?_
    refine pt_blockE hJ (id := 3) (x := hd (hd (tl (tl bd2)))) (by rfl) ?_
    refine pt_seqE hJ (x := hd (hd (hd (tl (tl bd2))))) (y := tl (hd (hd (tl (tl bd2))))) (by rfl) ?_
    refine pt_regionE hJ (ops := ops8) (reg_eta (c := hd (hd (hd (tl (tl bd2))))) (by rfl)) (l := [0, 1, 2, 3]) (by rfl) ?_
    have e0 : (ops8[0]!).op = .load 45 (.tmp 6) := by rfl
    refine pt_op0 fns_ok hJ hB (o := ops8[0]!) (by rfl) (by kernel_rfl) (by rfl) (.chan (some x)) w1 (fun τ d => ?_) fun ρ2 u2 Own2 hl2 ho2 hv2 => ?_
    · unfold execOp
      have hc' : (lay w1 τ d).cell? ⟨p6, 0, none⟩ = some (.chan (some x)) := R.spl.h6
      rw [e0]
      simp [Act.eval, go_sem, hc']
    replace R := R.heap hl2 (w' := w1) rfl
    replace hle := hle.trans hl2
    clear e0 hl2 ho2 hv2
    rw [show (ops8[0]!).dst = some 41 from by rfl]
    refine pt_recv_res hB (o := ops8[1]!) (by rfl) (by rfl) (t := 41) (by rfl) (x := x) (by rfl) R.spl.hx hFx hlo R.spl.ch (z := .agg #[.int .i64 0, .slice none 0 0, .int .i64 0]) (fun e W1 h => run_rcv e W1 c h) (by omega) fun i sv L ρ3 Own3 A3 w3 hi hgi hL hrow hl3 hk3 => ?_
    rw [show (ops8[1]!).dst = some 42 from by rfl]
    replace hrow := hrow.mono R.sz
    replace R := R.on hl3 hk3
    replace hle := hle.trans hl3
    clear hl3 hk3
    have hJ := jud_mgo Try.prog W0 lo Post M (pendOf N0 c J.pr (upd got i) n) Sh
    refine pt_op0 fns_ok hJ hB (o := ops8[2]!) (by rfl) (by kernel_rfl) (by rfl) (.pointer (some ⟨w3.heap.size, 0, none⟩)) (w3.alloc (.cells #[.int .i64 0, .slice none 0 0, .int .i64 0] 49)) (fun τ d => run_box _ w3 τ d) fun ρ4 u4 Own4 hl4 ho4 hv4 => ?_
    rw [show (ops8[2]!).dst = some 10 from by rfl]
    have hnew : (w3.alloc (.cells #[.int .i64 0, .slice none 0 0, .int .i64 0] 49)).heap[w3.heap.size]? = some (.cells #[.int .i64 0, .slice none 0 0, .int .i64 0] 49 (0, 0)) := heap_alloc_new _ _
    have hk4 : Kept w3 (w3.alloc (.cells #[.int .i64 0, .slice none 0 0, .int .i64 0] 49)) := Kept.of_below ((Below.refl _ _).alloc (Nat.le_refl _) _)
    have hp10 : b0 ≤ w3.heap.size := R.sz
    generalize hw4 : (w3.alloc (.cells #[.int .i64 0, .slice none 0 0, .int .i64 0] 49)) = w4 at *
    clear hw4
    clear ho4 hv4
    obtain ⟨sa, sn, sc, rfl⟩ := hrow.slice
    refine pt_op fns_ok hJ hB (o := ops8[3]!) (by rfl) (by kernel_rfl) (by simp [Region.wanted, show (ops8[3]!).guard = none from by rfl]) (v := undef) (w' := ((w4.setCell ⟨w3.heap.size, 0, none⟩ (.int .i64 i)).setCell ⟨w3.heap.size, 1, none⟩ (.slice sa sn sc)).setCell ⟨w3.heap.size, 2, none⟩ (.int .i64 0)) (.inr ⟨rfl, fun τ d => run_put3 _ w4 τ d w3.heap.size i sa sn sc (by rfl) (by rfl) hnew⟩) fun ρ5 u5 Own5 hl5 ho5 hv5 => ?_
    rw [show (ops8[3]!).dst = none from by rfl]
    obtain ⟨t1, t2, t3⟩ := three_cells hnew (x := .int .i64 i) (y := .slice sa sn sc) (z := .int .i64 0) rfl
    generalize (((w4.setCell ⟨w3.heap.size, 0, none⟩ (.int .i64 i)).setCell ⟨w3.heap.size, 1, none⟩ (.slice sa sn sc)).setCell ⟨w3.heap.size, 2, none⟩ (.int .i64 0)) = w5 at *
    have hk5 : Kept w3 w5 := ⟨by rw [t2]; exact hk4.size, fun q hq => by rw [t3 q (by omega)]; exact hk4.block q hq⟩
    replace hrow := hrow.on (w' := w5) fun g _ hg => hk5.block g hg
    replace R := R.on (hl4.trans hl5) hk5
    replace hle := (hle.trans hl4).trans hl5
    have hS5 := hS.on hle (KeptC.refl _)
    generalize w3.heap.size = p10 at *
    clear hl4 hl5 ho5 hv5 hk4 hk5 hnew
    refine pt_region_end hJ ?_
    have c0 : w5.cell? ⟨p10, 0, none⟩ = some (.int .i64 i) := cell_of_row w5 _ _ _ _ _ t1
    have c1 : w5.cell? ⟨p10, 1, none⟩ = some (.slice sa sn sc) := cell_of_row w5 _ _ _ _ _ t1
    have c2 : w5.cell? ⟨p10, 2, none⟩ = some (.int .i64 0) := cell_of_row w5 _ _ _ _ _ t1
    have hb8 := R.b8
    have hb9 := R.b9
    refine m14' hJ hB rfl c0 c1 c2 hi R.hO R.hC R.sO R.sC R.ne (by omega) (by omega) ⟨sa, sn, sc, rfl⟩ fun ρ6 A6 w6 Own6 x0 x1 x2 x3 x4 x5 x7 x10 x11 x12 x13 x14 x15 x16 x17 x18 x19 x20 x21 x22 x23 x24 x25 x26 x27 x28 x29 x30 x31 x32 x33 x34 x35 x36 x37 x40 x41 x42 x43 x44 x45 x46 x47 x48 x49 x50 x51 x52 x53 x54 x55 x56 x57 x58 x59 x60 x61 x62 x63 x64 x65 x66 hl6 ho6 hr6 => ?_
    replace R := R.put hl6 hS5 hi hL hrow hr6
    replace hle := hle.trans hl6
    clear hl6 ho6 hr6 c0 c1 c2 t1 t2 t3 hrow
    refine pt_inBlock hJ ?_
    refine m15' hJ hB rfl (by omega) fun ρ7 A7 w7 Own7 z0 z1 z2 z3 z4 z5 z7 z10 z11 z12 z13 z14 z15 z16 z17 z18 z19 z20 z21 z22 z23 z24 z25 z26 z27 z28 z29 z30 z31 z32 z33 z34 z35 z36 z37 z40 z41 z42 z43 z44 z45 z46 z47 z48 z49 z50 z51 z52 z53 z54 z55 z56 z57 z58 z59 z60 z61 z62 z63 z64 z65 z66 hl7 ho7 hr7 => ?_
    refine pt_inLoop hJ ?_
    exact ih (k + 1) (by omega) Own7 ρ7 A7 w7 (upd got i) _ _ _ _ _ _ _ _ _ _ _ _ _ _ _ _ _ _ _ _ _ _ _ _ _ _ _ _ _ _ _ _ _ _ _ _ _ _ _ _ _ _ _ _ _ _ _ _ _ _ _ _ _ _ _ _ _ _ _ _ _ _ _ _ (hle.trans hl7) (by rw [cnt_upd got i hgi, if_pos hi, hc]) (R.heap hl7 hr7)
end Go.Proofs.Ytkodpijedinanaa.Sim
