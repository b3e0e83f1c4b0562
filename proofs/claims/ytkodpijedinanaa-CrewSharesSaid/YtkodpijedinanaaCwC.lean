/- A worker of crew.Splits in company: from its birth to its end, and what it sends. -/
import Derived.Test.YtkodpijedinanaaCwB
namespace Go.Proofs.Ytkodpijedinanaa.Sim
open Go Go.Conc Go.ChangeShapes Go.WideShapes Go.ChangeAt Go.RowKit
set_option linter.unusedVariables false
set_option linter.unusedSimpArgs false

/-- A slice of numbers in a block of B's. -/
def RowIn (W : World) (B : Blk) (sv : Value) (xs : List Int) : Prop :=
  (∃ a, sv = .slice a 0 0 ∧ xs = []) ∨ ∃ g cap row e fz, sv = .slice (some ⟨g, 0, none⟩) xs.length cap ∧ xs.length ≤ cap ∧ cap ≤ maxLen ∧ B g ∧ W.heap[g]? = some (.cells row e fz) ∧ ∀ (j : Nat) x, xs[j]? = some x → row[j]? = some (.int .i64 x)
/-- What worker i tells. -/
def Res (i : Nat) (z : Int) (ws : List Int) : Prm := fun v W B => ∃ sv L, v = .agg #[.int .i64 i, sv, .int .i64 0] ∧ Lev z ws L ∧ RowIn W B sv (give L (z - least ws L) ws)
/-- A slice that reads so; where it has a place at all, this is a row. -/
structure HasP (w : World) (v : Value) (n : Nat) (xs : List Value) : Prop where
  has : Has w 1 v n xs
  plain : v = .slice none 0 0 ∨ ∃ a c, v = .slice (some a) n c ∧ Plain w a.block
theorem plain_of_cell {w : World} {a : Addr} {v : Value} (h : w.cell? a = some v) : Plain w a.block := by
  unfold World.cell? at h
  split at h
  · exact .inl ⟨_, _, _, by assumption⟩
  · cases h
theorem clip_slice {w : World} {v : Value} {n : Nat} {xs : List Value} (h : HasP w v n xs) {F : Blk} (hF : ∀ x, Plain w x → F x) : clipV F v = v := by
  rcases h.plain with rfl | ⟨a, c, rfl, hp⟩
  · rw [clipV]
  · rw [clipV, if_pos (hF _ hp)]
theorem has_clip {w : World} {v : Value} {n : Nat} {xs : List Value} (h : HasP w v n xs) {F : Blk} (hF : ∀ x, Plain w x → F x) (hx : ∀ u ∈ xs, clipV F u = u) : Has (clip F w) 1 v n xs := by
  obtain ⟨hl, a, cap, rfl, h1, h2, h3⟩ := h.has
  refine ⟨hl, a, cap, rfl, h1, h2, fun hp => ?_⟩
  obtain ⟨b, off, rfl, hc⟩ := h3 hp
  exact ⟨b, off, rfl, fun j u hu => by rw [clip_cell F w _ (hc j u hu), hx u (List.mem_of_getElem? hu)]⟩
theorem ints_clip (F : Blk) (zs : List Int) : ∀ u ∈ ints zs, clipV F u = u := by
  intro u hu
  simp only [ints, List.mem_map] at hu
  obtain ⟨z, _, rfl⟩ := hu
  rw [clipV]
/-- Where a row of the shadow's lies. -/
theorem rowIn_of {P : Program} {F Own Sh : Blk} {ρ : Ren} {a A : Act} {w W : World} (m : Mat P F Own Sh ρ a A w W) {base e : Nat} {sv sv' : Value} {xs : List Int} (h : w.ownsRow base e 1 sv xs.length (ints xs)) (hF : ∀ x, F x → x < base) (hv : VRel ρ sv sv') : RowIn W Own sv' xs := by
  obtain ⟨hl, h⟩ := h
  rcases h with ⟨rfl, h0⟩ | ⟨g, cap, cur, rfl, hg, hh, hn, hm, hs, ht⟩
  · have hx : xs = [] := List.eq_nil_of_length_eq_zero h0
    subst hx
    cases hv with
    | sliceNil => exact .inl ⟨_, rfl, rfl⟩
    | sliceE a => exact .inl ⟨_, rfl, rfl⟩
  · cases hv with
    | @slice _ b n c hab =>
      obtain ⟨h1, h2, h3⟩ := hab
      obtain ⟨o, o', q1, q2, q3⟩ := m.wr.dom _ _ h1
      rw [hh] at q1
      cases q1
      cases q3 with
      | @cells _ d _ x y x' y' hr hf =>
        obtain ⟨bb, bo, bs⟩ := b
        simp only at h2 h3
        subst h2; subst h3
        refine .inr ⟨bb, cap, d, e, (x', y'), rfl, hn, hm, m.own _ _ h1 (fun hFg => absurd (hF _ hFg) (Nat.not_lt.2 hg)), q2, fun j u hu => ?_⟩
        have hj : (ints xs)[j]? = some (.int .i64 u) := by simp [ints, hu]
        rw [← ht, List.getElem?_take] at hj
        split at hj
        · have hcj : cur[j]? = some (.int .i64 u) := by simpa using hj
          obtain ⟨u', hu', hvu⟩ := hr.at hcj
          cases hvu
          exact hu'
        · cases hj
theorem agg3 {ρ : Ren} {k k' : IntKind} {i j : Int} {s v' : Value} (h : VRel ρ (.agg #[.int k i, s, .int k' j]) v') : ∃ s', v' = .agg #[.int k i, s', .int k' j] ∧ VRel ρ s s' := by
  cases h with
  | @agg c d h1 h2 =>
    obtain ⟨l⟩ := d
    match l, h1 with
    | [x, y, z], _ =>
      have a0 := h2 0 _ x rfl rfl
      have a1 := h2 1 _ y rfl rfl
      have a2 := h2 2 _ z rfl rfl
      cases a0
      cases a2
      exact ⟨y, rfl, a1⟩
    | [], h1 => simp at h1
    | [_], h1 => simp at h1
    | [_, _], h1 => simp at h1
    | _ :: _ :: _ :: _ :: _, h1 => simp at h1
def opsOf : Code → Array Oper
  | .region _ ops _ => ops
  | _ => #[]
theorem seq_eta {c : Code} (h : (match c with | .seq _ _ => true | _ => false) = true) : c = .seq (hd c) (tl c) := by
  cases c <;> first | rfl | cases h
section
variable {F Sh Own : Blk} {ρ : Ren} {a A : Act} {w : World} {Ju : Blk → Goroutine → World → Prop} {main : Bool} {RB : List Frame} {B : Frame} {k : List Item}
/-- An operation without a guard. -/
theorem pt_op0 {P : Program} (hF : FnsOk2 P) (hJ : Jud P main Sh Ju) (hB : B.kind ≠ .early) {ops : Array Oper} {i : Nat} {l : List Nat} {o : Oper} (ho : ops[i]? = some o) (hop : okOp P o.op = true) (hg : o.guard = none) (v : Value) (w' : World)
    (hrun : ∀ τ d, (execOp a.eval o).run P (lay w τ d) = .ok (.value v) (lay w' τ d))
    (hn : ∀ ρ' v' Own', Ren.le ρ ρ' → (∀ b, Own b → Own' b) → VRel ρ' v v' → Pt P F Sh Ju RB B (.inRegion ops l :: k) Own' ρ' (a.put o.dst v) (A.put o.dst v') w') : Pt P F Sh Ju RB B (.inRegion ops (i :: l) :: k) Own ρ a A w :=
  pt_op hF hJ hB ho hop (by simp [Region.wanted, hg]) (.inl hrun) hn
end
noncomputable def ops13 : Array Oper := opsOf (tl c13)
theorem reg_eta {c : Code} (h : (match c with | .region _ _ b => !b | _ => false) = true) : ∃ id, c = .region id (opsOf c) false := by
  cases c <;> first
    | cases h
    | (rename_i id ops b; cases b <;> first | (cases h; done) | exact ⟨id, rfl⟩)
set_option maxRecDepth 100000 in
set_option maxHeartbeats 4000000 in
theorem worker_run {F Sh : Blk} {ρ : Ren} {A : Act} {w : World} {lo c : Nat} {p2 p7 p3 p6 x i n : Nat} {z : Int} {v0 v1 vi : Value} {zs : List Int} {us : List Value} {ws : List Int}
    (hFw : ∀ x, F x → x < w.heap.size) (h2 : w.cell? ⟨p2, 0, none⟩ = some v0) (h7 : w.cell? ⟨p7, 0, none⟩ = some (.int .i64 i)) (h3 : w.cell? ⟨p3, 0, none⟩ = some v1) (h6 : w.cell? ⟨p6, 0, none⟩ = some (.chan (some x))) (hx : ρ x c) (hFx : F x) (hlo : lo ≤ c) (hch : ∃ s tm, w.heap[x]? = some (.chan 0 #[] false s s tm))
    (hi : i < n) (A0 : Has w 1 v0 n (ints zs)) (A1 : Has w 1 v1 n us) (hz : zs[i]? = some z) (hu : us[i]? = some vi) (Ai : Has w 1 vi ws.length (ints ws)) (hw : ∀ x ∈ ws, 0 ≤ x ∧ x ≤ 1048576) (hlen : ws.length ≤ 16) (hz0 : 0 ≤ z) (hz1 : z ≤ 1048576) :
    Pt Try.prog F Sh (Goes' Try.prog false Sh (AtSnd Try.prog lo c (Res i z ws) Sh)) [bornF Try.prog] (baseD 13) [.code c13] (fun _ => False) ρ
      ⟨#[.pointer (some ⟨p2, 0, none⟩), .pointer (some ⟨p7, 0, none⟩), .pointer (some ⟨p3, 0, none⟩), .pointer (some ⟨p6, 0, none⟩), undef, undef, undef, undef, undef, undef, undef, undef, undef, undef, undef, undef, undef, undef, undef, undef, undef, undef, undef], []⟩ A w := by
  have hJ := jud_goes Try.prog false Sh (AtSnd Try.prog lo c (Res i z ws) Sh)
  have hB : (baseD 13).kind ≠ .early := by simp [baseD]
  rw [seq_eta (c := c13) (by rfl)]
  refine pt_seq hJ ?_
  refine k0' hJ hB rfl h2 h7 h3 hi A0 A1 hz hu Ai hw hlen hz0 hz1 fun ρ1 A1' w1 Own1 y6 y7 y8 y9 y10 y11 y12 y13 y14 y15 y16 y17 y18 y19 y20 y21 y22 sv L hle hown ⟨hL, hO, hK⟩ => ?_
  have k7 : w1.cell? ⟨p7, 0, none⟩ = some (.int .i64 i) := Kept.cell hK h7
  have k6 : w1.cell? ⟨p6, 0, none⟩ = some (.chan (some x)) := Kept.cell hK h6
  have hcx : ∃ s tm, w1.heap[x]? = some (.chan 0 #[] false s s tm) := by
    obtain ⟨s, tm, hc⟩ := hch
    exact ⟨s, tm, by rw [hK.block _ (hFw _ hFx)]; exact hc⟩
  obtain ⟨id, hid⟩ := reg_eta (c := tl c13) (by rfl)
  rw [hid]
  refine pt_region hJ ?_
  show Pt _ _ _ _ _ _ (.inRegion ops13 (List.range ops13.size) :: []) _ _ _ _ _
  rw [show List.range ops13.size = [0, 1, 2, 3, 4, 5] from by rfl]
  have e0 : (ops13[0]!).op = .load 45 (.tmp 3) := by rfl
  refine pt_op0 fns_ok hJ hB (o := ops13[0]!) (by rfl) (by kernel_rfl) (by rfl) (.chan (some x)) w1 (fun τ d => ?_) fun ρ2 u2 Own2 hl2 ho2 hv2 => ?_
  · unfold execOp
    have hc' : (lay w1 τ d).cell? ⟨p6, 0, none⟩ = some (.chan (some x)) := k6
    rw [e0]
    simp [Act.eval, go_sem, hc']
  clear e0
  rw [show (ops13[0]!).dst = some 18 from by rfl]
  dsimp only [Act.put]
  have e1 : (ops13[1]!).op = .load 3 (.tmp 1) := by rfl
  refine pt_op0 fns_ok hJ hB (o := ops13[1]!) (by rfl) (by kernel_rfl) (by rfl) (.int .i64 i) w1 (fun τ d => ?_) fun ρ3 u3 Own3 hl3 ho3 hv3 => ?_
  · unfold execOp
    have hc' : (lay w1 τ d).cell? ⟨p7, 0, none⟩ = some (.int .i64 i) := k7
    rw [e1]
    simp [Act.eval, go_sem, hc']
  clear e1
  rw [show (ops13[1]!).dst = some 19 from by rfl]
  dsimp only [Act.put]
  have e2 : (ops13[2]!).op = .move (.tmp 4) := by rfl
  refine pt_op0 fns_ok hJ hB (o := ops13[2]!) (by rfl) (by kernel_rfl) (by rfl) sv w1 (fun τ d => ?_) fun ρ4 u4 Own4 hl4 ho4 hv4 => ?_
  · unfold execOp
    rw [e2]
    simp [Act.eval, go_sem]
  clear e2
  rw [show (ops13[2]!).dst = some 20 from by rfl]
  dsimp only [Act.put]
  have e3 : (ops13[3]!).op = .move (.tmp 5) := by rfl
  refine pt_op0 fns_ok hJ hB (o := ops13[3]!) (by rfl) (by kernel_rfl) (by rfl) (.int .i64 0) w1 (fun τ d => ?_) fun ρ5 u5 Own5 hl5 ho5 hv5 => ?_
  · unfold execOp
    rw [e3]
    simp [Act.eval, go_sem]
  clear e3
  rw [show (ops13[3]!).dst = some 21 from by rfl]
  dsimp only [Act.put]
  have e4 : (ops13[4]!).op = .build 49 #[(0, .tmp 19), (1, .tmp 20), (2, .tmp 21)] := by rfl
  obtain ⟨sa, sc, rfl⟩ := owns_slice hO
  refine pt_op0 fns_ok hJ hB (o := ops13[4]!) (by rfl) (by kernel_rfl) (by rfl) (.agg #[.int .i64 i, .slice sa ws.length sc, .int .i64 0]) w1 (fun τ d => ?_) fun ρ6 u6 Own6 hl6 ho6 hv6 => ?_
  · unfold execOp
    rw [e4]
    simp [Act.eval, go_sem]
  clear e4
  rw [show (ops13[4]!).dst = some 22 from by rfl]
  dsimp only [Act.put]
  obtain ⟨s, tm, hc⟩ := hcx
  have hle6 : Ren.le ρ ρ6 := hle.trans (hl2.trans (hl3.trans (hl4.trans (hl5.trans hl6))))
  refine pt_send Try.func13 (by kernel_rfl) (o := ops13[5]!) (by rfl) (by rfl) (t := 18) (u := 22) (by rfl) (x := x) (c := c) (s := s) (tm := tm) (by rfl) (hle6 _ _ hx) hFx hlo hc (by rfl) fun W1 m v' hv => ?_
  obtain ⟨s', rfl, hs'⟩ := agg3 (show VRel ρ6 (.agg #[.int .i64 i, .slice sa ws.length sc, .int .i64 0]) v' from hv)
  have hO' : w1.ownsRow w.heap.size 3 1 (.slice sa ws.length sc) ws.length (ints (give L (z - least ws L) ws)) := hO
  rw [← give_length L (z - least ws L) ws] at hO' hs'
  exact ⟨s', L, rfl, hL, rowIn_of m hO' hFw hs'⟩
end Go.Proofs.Ytkodpijedinanaa.Sim
