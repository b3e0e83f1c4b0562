/- Package wire: reading bits back; (*strip).take. -/
import Derived.Test.YtgmichaconnhaaaSame
import Derived.Test.YtgmichaconnhaaaWireD
import Derived.Test.YtgmichaconnhaaaHasAt
namespace Go.Proofs.Ytgmichaconnhaaa
open Go.ChangeShapes Go.WideShapes Go.ChangeAt Go.RowKit
set_option linter.unusedVariables false

/-- Bit i of bytes; a number out of bits; what 'Unpack' reads. -/
def bitAt (bs : List Nat) (i : Nat) : Nat := bs.getD (i / 8) 0 / 2 ^ (7 - i % 8) % 2
theorem bitAt_le (bs : List Nat) (i : Nat) : bitAt bs i ≤ 1 := by unfold bitAt; omega
def valOf (l : List Nat) : Nat := l.foldl (fun v b => 2 * v + b) 0
def bitsAt (bs : List Nat) (p m : Nat) : List Nat := (List.range m).map fun i => bitAt bs (p + i)
theorem valOf_snoc (l : List Nat) (b : Nat) : valOf (l ++ [b]) = 2 * valOf l + b := by simp [valOf]
theorem bitsAt_snoc (bs : List Nat) (p m : Nat) : bitsAt bs p (m + 1) = bitsAt bs p m ++ [bitAt bs (p + m)] := by simp [bitsAt, List.range_succ]
theorem valOf_lt (bs : List Nat) (p : Nat) : ∀ m, valOf (bitsAt bs p m) < 2 ^ m
  | 0 => by simp [bitsAt, valOf]
  | m + 1 => by
    have := valOf_lt bs p m
    have := bitAt_le bs (p + m)
    rw [bitsAt_snoc, valOf_snoc, Nat.pow_succ]; omega
def unpackV (bs : List Nat) : Nat → List Int → List Int
  | _, [] => []
  | p, w :: ws => (valOf (bitsAt bs p w.toNat) : Int) :: unpackV bs (p + w.toNat) ws
def sumW (ws : List Int) : Nat := (ws.map Int.toNat).sum
theorem sumW_snoc (ws : List Int) (x : Int) : sumW (ws ++ [x]) = sumW ws + x.toNat := by simp [sumW]
theorem unpackV_length (bs : List Nat) : ∀ (ws : List Int) (p : Nat), (unpackV bs p ws).length = ws.length
  | [], _ => rfl
  | w :: ws, p => by simp [unpackV, unpackV_length bs ws]
theorem unpackV_snoc (bs : List Nat) (x : Int) : ∀ (ws : List Int) (p : Nat), unpackV bs p (ws ++ [x]) = unpackV bs p ws ++ [(valOf (bitsAt bs (p + sumW ws) x.toNat) : Int)]
  | [], p => by simp [unpackV, sumW]
  | w :: ws, p => by
    rw [List.cons_append, unpackV, unpackV_snoc bs x ws, unpackV, List.cons_append]
    have e : sumW (w :: ws) = w.toNat + sumW ws := by simp [sumW]
    rw [e, Nat.add_assoc]
def restZero (bs : List Nat) (p : Nat) : Prop := ∀ i, p ≤ i → i < 8 * bs.length → bitAt bs i = 0
theorem wsum_sumW (ws : List Int) (h : ∀ x ∈ ws, 1 ≤ x ∧ x ≤ 60) : wsum ws = (sumW ws : Nat) := by
  induction ws with
  | nil => rfl
  | cons a l ih =>
    have h1 := h a (by simp)
    have h2 := ih fun x hx => h x (by simp [hx])
    simp only [wsum, sumW, List.sum_cons, List.map_cons] at *
    omega
/-- A strip that is read. -/
structure Src (w : World) (S : Nat) (vb : Value) (bs : List Nat) (p : Nat) : Prop where
  c0 : w.cell? ⟨S, 0, none⟩ = some vb
  c1 : w.cell? ⟨S, 1, none⟩ = some (.int .i64 p)
  f1 : w.frozen? ⟨S, 1, none⟩ = false
  has : Has w 1 vb bs.length (u8s bs)
  ne : 0 < bs.length → ∀ b off n cap, vb = .slice (some ⟨b, off, none⟩) n cap → b < S
set_option maxRecDepth 100000 in
set_option maxHeartbeats 2000000 in
theorem ctake (S : Nat) (vb : Value) (bs : List Nat) (p : Nat) (w : World) (h : Src w S vb bs p) (hlt : p < 8 * bs.length) (hbs : ∀ b ∈ bs, b < 256) (hn : bs.length ≤ 1000000) :
    Calls Try.prog 55 #[.pointer (some ⟨S, 0, none⟩)] w fun e w' => e = .returned (.int .i64 (bitAt bs p)) ∧ ∃ m, w' = (w.setCell ⟨S, 1, none⟩ (.int .i64 (p + 1))).drewN m := by
  obtain ⟨hc0, hc1, hf1, ⟨_, a, cap, rfl, hn1, hn2, hc⟩, hne⟩ := h
  obtain ⟨g, off, rfl, hcc⟩ := hc (by simp; omega)
  have hq : p / 8 < bs.length := by omega
  have hcell := hcc (p / 8) _ (u8s_get bs (p / 8) hq)
  have hB := hbs bs[p / 8] (List.getElem_mem hq)
  have hbit : Hid (bitAt bs p = bs[p / 8] / 2 ^ (7 - p % 8) % 2) := by
    unfold bitAt; rw [List.getD_eq_getElem?_getD, List.getElem?_eq_getElem hq]; rfl
  have hgS : g ≠ S := by have := hne (by omega) _ _ _ _ rfl; omega
  generalize bs[p / 8] = B at *
  obtain ⟨q, r, hq', hr, e1, e2⟩ : ∃ q r : Nat, q = p / 8 ∧ r = p % 8 ∧ r < 8 ∧ q < bs.length := ⟨p / 8, p % 8, rfl, rfl, by omega, hq⟩
  rw [← hr] at hbit
  rw [← hq'] at hcell
  have w1 : IntKind.i64.wrap (↑p / 8) = ↑q := by rw [IntWalk.i64_in _ (by omega)]; omega
  have w2' : (p : Int).tmod 8 = ↑r := by rw [Int.tmod_eq_emod_of_nonneg (by omega)]; omega
  have w3 : IntKind.i64.wrap (7 - ↑r) = ((7 - r : Nat) : Int) := by rw [IntWalk.i64_in _ (by omega)]; omega
  have hdl : B / 2 ^ (7 - r) ≤ B := Nat.div_le_self _ _
  obtain ⟨sh, hs⟩ : ∃ sh, B / 2 ^ (7 - r) = sh := ⟨_, rfl⟩
  rw [hs] at hbit hdl
  have w4 : (B : Int) / 2 ^ (7 - r) = (sh : Int) := by rw [← hs]; simp
  have w5 : IntKind.u8.wrap (sh : Int) = (sh : Int) := IntWalk.u8_in _ (by omega)
  have w6 : min (7 - r) 64 = 7 - r := by omega
  have w7 : IntKind.i64.wrap (sh : Int) = (sh : Int) := IntWalk.i64_in _ (by omega)
  have han := and_one sh (by omega)
  clear hq' hr hs hq hcc hc hne
  go_enter Try.func55, Try.ntmps55
  go_wp2
  go_quiet (fail)
  clear w1 w2' w3 w4 w5 w6 w7 han
  go_wp2
  go_ret
  exact ⟨ret_int (by rw [hbit.out]; simp), nq, rfl⟩
theorem owns_wrote {F : Nat → Prop} {w w' : World} {base e sz n : Nat} {v : Value} {xs : List Value} (hown : w.ownsRow base e sz v n xs) (hw : Wrote F w w') (hF : ∀ k, F k → k < base) : w'.ownsRow base e sz v n xs := by
  obtain ⟨hl, h⟩ := hown
  refine ⟨hl, ?_⟩
  rcases h with h | ⟨g, cap, cur, rfl, hg, hh, r⟩
  · exact .inl h
  · exact .inr ⟨g, cap, cur, rfl, hg, by rw [hw.block g (Array.getElem?_eq_some_iff.1 hh).1 (fun hf => by have := hF g hf; omega)]; exact hh, r⟩
theorem owns_base' {w : World} {b b' : Nat} {e : TypeId} {sz n : Nat} {v : Value} {xs : List Value} (h : w.ownsRow b e sz v n xs) (hb : b' ≤ b) : w.ownsRow b' e sz v n xs := by
  obtain ⟨hl, h⟩ := h
  refine ⟨hl, ?_⟩
  rcases h with h | ⟨g, cap, cur, rfl, hg, r⟩
  · exact .inl h
  · exact .inr ⟨g, cap, cur, rfl, Nat.le_trans hb hg, r⟩
theorem Src.low {w w' : World} {S p : Nat} {vb : Value} {bs : List Nat} (h : Src w S vb bs p) (hb : Below (S + 1) w w') : Src w' S vb bs p := by
  refine ⟨?_, ?_, ?_, h.has.at fun hp b off n' cap hv => hb.block b (by have := h.ne (by simpa using hp) b off n' cap hv; omega), h.ne⟩
  · rw [hb.cell (p := ⟨S, 0, none⟩) (Nat.lt_succ_self _)]; exact h.c0
  · rw [hb.cell (p := ⟨S, 1, none⟩) (Nat.lt_succ_self _)]; exact h.c1
  · rw [hb.frozen (p := ⟨S, 1, none⟩) (Nat.lt_succ_self _)]; exact h.f1
theorem ctake' (S : Nat) (vb : Value) (bs : List Nat) (p : Nat) (w : World) (h : Src w S vb bs p) (hlt : p < 8 * bs.length) (hbs : ∀ b ∈ bs, b < 256) (hn : bs.length ≤ 1000000) :
    Calls Try.prog 55 #[.pointer (some ⟨S, 0, none⟩)] w fun e w' => e = .returned (.int .i64 (bitAt bs p)) ∧ Src w' S vb bs (p + 1) ∧ Wrote (fun k => k = S) w w' := by
  refine (ctake S vb bs p w h hlt hbs hn).mono ?_
  rintro e w' ⟨rfl, m, rfl⟩
  have hw : Wrote (fun k => k = S) w ((w.setCell ⟨S, 1, none⟩ (.int .i64 (p + 1))).drewN m) := ((Wrote.refl (fun k => k = S) w).setCell (p := ⟨S, 1, none⟩) rfl _).drewN _
  refine ⟨rfl, ⟨?_, ?_, ?_, ?_, h.ne⟩, hw⟩
  · rw [World.cell?_drewN, World.cell?_setCell_other _ _ _ _ (by simp)]; exact h.c0
  · rw [World.cell?_drewN, World.cell?_setCell_same _ _ _ h.c1]; simp
  · rw [World.frozen?_drewN, World.frozen?_setCell]; exact h.f1
  · refine h.has.at fun hp b off n' cap hv => ?_
    have hlt := h.ne (by simpa using hp) b off n' cap hv
    have : 0 < (u8s bs).length := hp
    obtain ⟨_, a, cap', hv', _, _, h3⟩ := h.has
    obtain ⟨b', off', ha, hc⟩ := h3 hp
    subst ha
    rw [hv] at hv'
    simp only [Value.slice.injEq, Option.some.injEq, Addr.mk.injEq, and_true] at hv'
    obtain ⟨⟨rfl, rfl⟩, -, -⟩ := hv'
    have hbl := World.block_lt_of_cell? w _ (hc 0 _ (List.getElem?_eq_getElem hp))
    exact hw.block _ hbl (by omega)
theorem Src.start (w : World) (vb : Value) (bs : List Nat) (h : Has w 1 vb bs.length (u8s bs)) (T : TypeId) : Src (w.alloc (.cells #[vb, .int .i64 0] T)) w.heap.size vb bs 0 := by
  refine ⟨?_, ?_, ?_, h.below ((Below.refl _ _).alloc (Nat.le_refl _) _), ?_⟩
  · rw [World.cell?_alloc_at _ _ _ _ rfl]; rfl
  · rw [World.cell?_alloc_at _ _ _ _ rfl]; rfl
  · exact World.frozen?_alloc_at _ _ _ _ rfl
  · intro hp b off n cap hv
    obtain ⟨_, a, cap', hv', _, _, h3⟩ := h
    obtain ⟨b', off', ha, hc⟩ := h3 (by simpa using hp)
    subst ha
    rw [hv] at hv'
    simp only [Value.slice.injEq, Option.some.injEq, Addr.mk.injEq, and_true] at hv'
    obtain ⟨⟨rfl, rfl⟩, -, -⟩ := hv'
    exact World.block_lt_of_cell? w _ (hc 0 _ (u8s_get bs 0 hp))
def UnpPost (w : World) (ws : List Int) (bs : List Nat) (e : Ending) (w' : World) : Prop :=
  ((∃ v', e = .returned (.tuple #[v', .int .i64 0]) ∧ restZero bs (sumW ws) ∧ w'.ownsRow w.heap.size 3 1 v' ws.length (ints (unpackV bs 0 ws))) ∨ (e = .returned (.tuple #[.slice none 0 0, .int .i64 4]) ∧ ¬ restZero bs (sumW ws))) ∧ Below w.heap.size w w'
theorem sumW_take (ws : List Int) (k : Nat) (h : k < ws.length) : sumW (ws.take (k + 1)) = sumW (ws.take k) + ws[k].toNat := by rw [take_snoc _ _ h, sumW_snoc]
theorem sumW_take_le (ws : List Int) (k : Nat) : sumW (ws.take k) ≤ sumW ws := by
  have e : sumW ws = sumW (ws.take k) + sumW (ws.drop k) := by
    unfold sumW
    conv => lhs; rw [← List.take_append_drop k ws]
    rw [List.map_append, List.sum_append]
  omega
set_option maxRecDepth 100000 in
set_option maxHeartbeats 4000000 in
theorem cunpack (v1 vb : Value) (ws : List Int) (bs : List Nat) (w : World) (h1 : Has w 1 v1 ws.length (ints ws)) (hw : ∀ x ∈ ws, 1 ≤ x ∧ x ≤ 60) (hlen : ws.length ≤ 40) (hb : Has w 1 vb bs.length (u8s bs)) (hbs : ∀ b ∈ bs, b < 256)
    (hn : (bs.length : Int) = (wsum ws + 7) / 8) : Calls Try.prog 38 #[v1, vb] w (UnpPost w ws bs) := by
  have hsz := csize v1 ws w h1 hw hlen
  rw [← hn] at hsz
  have Hsz := Lib.hid hsz
  have hsum := wsum_sumW ws hw
  have hwb := wsum_bd ws hw
  have hle : sumW ws ≤ 8 * bs.length := by omega
  have hn3 : bs.length ≤ 1000 := by omega
  have Hst := Lib.hid fun T => Src.start w vb bs hb T
  have HW := Lib.hid hw
  have Hbs := Lib.hid hbs
  obtain ⟨⟨hl1, hnil⟩, a1, cap1, rfl, hn1, hm1, hc1⟩ := h1
  obtain ⟨⟨hl2, hnil2⟩, a2, cap2, rfl, hn2, hm2, hc2⟩ := hb
  have Hc1 := Lib.hid hc1
  unfold maxLen at hm1 hm2
  clear hsz hc1 hc2 hl1 hl2 hnil hnil2 hn hw hbs hsum hwb
  go_enter Try.func38, Try.ntmps38
  go_wp2_with fail
  refine Hsz.out.mono ?_
  rintro e w' ⟨rfl, rfl⟩
  go_wp2_with fail
  have hst := Hst.out 114
  have hB0 : Below w.heap.size w (w.alloc (.cells #[.slice a2 bs.length cap2, .int .i64 0] 114)) := (Below.refl _ _).alloc (Nat.le_refl _) _
  have hs0 : w.heap.size + 1 ≤ (w.alloc (.cells #[.slice a2 bs.length cap2, .int .i64 0] 114)).heap.size := by simp
  generalize hS : w.heap.size = S at *
  have HS := Lib.hid hS
  clear hS Hst
  generalize w.alloc (.cells #[.slice a2 bs.length cap2, .int .i64 0] 114) = wA at *
  go_loopw [9, 11, 12, 30, 35] (fun out _ _ i _ wr => ∃ k : Nat, k ≤ ws.length ∧ i = .int .i64 k ∧ Src wr S (.slice a2 bs.length cap2) bs (sumW (ws.take k)) ∧ wr.ownsRow (S + 1) 3 1 out k (ints (unpackV bs 0 (ws.take k))) ∧ Below S w wr ∧ S + 1 ≤ wr.heap.size) (fun _ _ _ i _ _ => ws.length - (intOf i).toNat)
  case atStart => exact ⟨0, by omega, rfl, hst, World.ownsRow_nil _ _ _ _, hB0, hs0⟩
  case round =>
    clear hst hB0 hs0 Hsz
    obtain ⟨k, hk, rfl, hst, hown, hb, hsz⟩ := hrel
    have Hst := Lib.hid hst
    have Hown := Lib.hid hown
    have Hb := Lib.hid hb
    clear hst hown hb
    by_cases hlt : k < ws.length
    · obtain ⟨b, off, rfl, hcc⟩ := Hc1.out (by simp; omega)
      have g0 := cell_on (HS.out ▸ Hb.out) (hcc _ _ (ints_get ws k hlt))
      obtain ⟨o1, o2⟩ := HW.out _ (List.getElem_mem hlt)
      have Htk := Lib.hid (sumW_take ws k hlt)
      have hle2 := sumW_take_le ws (k + 1)
      rw [Htk.out] at hle2
      have Hsn := Lib.hid (unpackV_snoc bs ws[k] (ws.take k) 0)
      rw [← take_snoc ws k hlt, Nat.zero_add] at Hsn
      generalize ws[k] = W at *
      obtain ⟨W, rfl⟩ := Int.eq_ofNat_of_zero_le (show 0 ≤ W by omega)
      simp only [Int.toNat_natCast] at Htk hle2 Hsn
      generalize sumW (ws.take k) = p0 at *
      clear hcc
      go_wp2_with fail
      go_loopw [12, 35] (fun v i wq => ∃ m : Nat, m ≤ W ∧ i = .int .i64 m ∧ v = .int .i64 (valOf (bitsAt bs p0 m)) ∧ Src wq S (.slice a2 bs.length cap2) bs (p0 + m) ∧ wq.ownsRow (S + 1) 3 1 u9 k (ints (unpackV bs 0 (ws.take k))) ∧ Below S w wq ∧ S + 1 ≤ wq.heap.size) (fun _ i _ => W - (intOf i).toNat)
      case atStart => exact ⟨0, by omega, rfl, rfl, Hst.out, Hown.out, Hb.out, hsz⟩
      case round =>
        clear Hst Hown Hb g0 hsz
        obtain ⟨m, hm, rfl, rfl, hst, hown, hb, hsz⟩ := hrel
        have Hst := Lib.hid hst
        have Hown := Lib.hid hown
        have Hb := Lib.hid hb
        clear hst hown hb
        by_cases hmW : m < W
        · have Ht := Lib.hid (ctake' S _ bs (p0 + m) wr Hst.out (by omega) Hbs.out (by omega))
          have hb1 := bitAt_le bs (p0 + m)
          have hv := valOf_lt bs p0 m
          have hv60 : 2 ^ m ≤ 2 ^ 59 := Nat.pow_le_pow_right (by decide) (by omega)
          rw [show (2 : Nat) ^ 59 = 576460752303423488 from by decide] at hv60
          have Hvs := Lib.hid (valOf_snoc (bitsAt bs p0 m) (bitAt bs (p0 + m)))
          rw [← bitsAt_snoc] at Hvs
          generalize valOf (bitsAt bs p0 m) = V at *
          generalize bitAt bs (p0 + m) = bt at *
          have hV : V < 576460752303423488 := by omega
          have hor : bits BinOp.or IntKind.i64 ((V : Int) * 2) (bt : Int) = (V : Int) * 2 + bt := bits_join .i64 63 (by decide) (fun n h0 h1 => IntWalk.i64_in n (by omega)) 1 _ _ (by omega) (by omega) (by omega) (by omega) (by omega) (by omega)
          clear hv hv60
          go_wp2_with fail
          refine Ht.out.mono ?_
          rintro e w2 ⟨rfl, hst2, hwr⟩
          have Hst2 := Lib.hid hst2
          have Hown2 := Lib.hid (owns_wrote Hown.out hwr (fun k hk => by omega))
          have Hb2 := Lib.hid (Hb.out.trans (hwr.below (by omega) (fun k hk => by omega)))
          have hsz2 := hwr.size
          clear hst2 hwr Ht
          go_wp2_with fail
          go_roundw
          case rel => exact ⟨m + 1, by omega, by go_num, by rw [Hvs.out]; go_num, Hst2.out, Hown2.out, Hb2.out, by omega⟩
          case measure => simp [intOf]; omega
        · obtain rfl : m = W := by omega
          have hv := valOf_lt bs p0 m
          have Hsn2 : Hid (unpackV bs 0 (ws.take (k + 1)) = unpackV bs 0 (ws.take k) ++ [(valOf (bitsAt bs p0 m) : Int)]) := Hsn.out
          generalize valOf (bitsAt bs p0 m) = V at *
          clear Hsn hv
          go_wp2_with (at_builtin; refine wp_app1 (w0 := wr) 44 3 1 8 _ elInt Try.underlying44 (S + 1) _ _ _ Hown.out (by repeat (first | exact Below.refl _ _ | refine Below.drew ?_ | refine Below.alloc ?_ (by first | (simp; done) | (simp; omega)) _ | refine Below.setCell ?_ (by first | (simp; done) | (simp; omega)) _)) [.int .i64 V] rfl _ _ rfl rfl rfl (by first | exact heap_alloc_new _ _ | (simp only [heap_drew, heap_drewN]; exact heap_alloc_new _ _)) (by simp) rfl rfl (by omega) (by omega) hsz ?_; intro v3 w3 hown3 hgrow3 hb3)
          go_roundw
          case rel => exact ⟨k + 1, by omega, by go_num, by rw [Htk.out]; exact Hst.out.low hb3, by rw [Hsn2.out, ← ints_snoc]; exact hown3, Hb.out.trans (hb3.mono (Nat.le_succ _)), by have := hb3.size; omega⟩
          case measure => simp [intOf]; omega
    · obtain rfl : k = ws.length := by omega
      rw [List.take_length] at Hst Hown
      clear Hc1
      go_wp2_with fail
      obtain ⟨P0, hP0⟩ : ∃ P0, sumW ws = P0 := ⟨_, rfl⟩
      rw [hP0] at Hst hle
      have HP0 := Lib.hid hP0
      clear hP0
      go_loopw [] (fun wq => ∃ p : Nat, P0 ≤ p ∧ p ≤ 8 * bs.length ∧ (∀ i, P0 ≤ i → i < p → bitAt bs i = 0) ∧ Src wq S (.slice a2 bs.length cap2) bs p ∧ wq.ownsRow (S + 1) 3 1 u9 ws.length (ints (unpackV bs 0 ws)) ∧ Below S w wq ∧ S + 1 ≤ wq.heap.size) (fun wq => 8 * bs.length - (intOf ((wq.cell? ⟨S, 1, none⟩).getD undef)).toNat)
      case atStart => exact ⟨P0, Nat.le_refl _, by omega, fun i h1 h2 => by omega, Hst.out, Hown.out, Hb.out, hsz⟩
      case round =>
        clear Hst Hown Hb hsz
        obtain ⟨p, hp0, hp1, hz, hst, hown, hb, hsz⟩ := hrel
        have Hst := Lib.hid hst
        have Hown := Lib.hid hown
        have Hb := Lib.hid hb
        have Hz := Lib.hid hz
        have c1 := hst.c1
        clear hst hown hb hz
        by_cases hpl : p < 8 * bs.length
        · have Ht := Lib.hid (ctake' S _ bs p wr Hst.out hpl Hbs.out (by omega))
          have hb1 := bitAt_le bs p
          obtain ⟨bt, hbt⟩ : ∃ bt, bitAt bs p = bt := ⟨_, rfl⟩
          rw [hbt] at Ht hb1
          have Hbt := Lib.hid hbt
          have hpl' : (p : Int) < 8 * bs.length := by omega
          clear hbt
          rcases (show bt = 0 ∨ bt = 1 by omega) with rfl | rfl
          · go_wp2_with fail
            refine Ht.out.mono ?_
            rintro e w2 ⟨rfl, hst2, hwr⟩
            have Hst2 := Lib.hid hst2
            have Hown2 := Lib.hid (owns_wrote Hown.out hwr (fun k hk => by omega))
            have Hb2 := Lib.hid (Hb.out.trans (hwr.below (by omega) (fun k hk => by omega)))
            have hsz2 := hwr.size
            have Hm := Lib.hid hst2.c1
            have Hc1' := Lib.hid c1
            clear hst2 hwr Ht c1
            go_wp2_with fail
            go_roundw
            case rel => exact ⟨p + 1, by omega, by omega, fun i h1 h2 => by
              by_cases e : i < p
              · exact Hz.out i h1 e
              · have : i = p := by omega
                rw [this]; exact Hbt.out, Hst2.out, Hown2.out, Hb2.out, by omega⟩
            case measure => rw [Hm.out, Hc1'.out]; simp [intOf]; omega
          · go_wp2_with fail
            refine Ht.out.mono ?_
            rintro e w2 ⟨rfl, hst2, hwr⟩
            have Hb2 := Lib.hid (Hb.out.trans (hwr.below (by omega) (fun k hk => by omega)))
            clear hst2 hwr Ht c1
            go_wp2_with fail
            go_ret2
            have hnz : ¬ restZero bs (sumW ws) := fun h => by have := h p (by have := HP0.out; omega) hpl; rw [Hbt.out] at this; cases this
            exact ⟨Or.inr ⟨rfl, hnz⟩, HS.out ▸ Hb2.out⟩
        · have hpe : p = 8 * bs.length := by omega
          have Hpe := Lib.hid hpe
          have hpl' : ¬ (p : Int) < 8 * bs.length := by omega
          have hpd : decide ((p : Int) < 8 * bs.length) = false := by simpa using hpl'
          clear hpe hpl hpl'
          go_wp2_with fail
          go_ret2
          exact ⟨Or.inl ⟨_, rfl, fun i h1 h2 => Hz.out i (by have := HP0.out; omega) (by have := Hpe.out; omega), HS.out ▸ owns_base' Hown.out (by have := HS.out; omega)⟩, HS.out ▸ Hb.out⟩
end Go.Proofs.Ytgmichaconnhaaa
