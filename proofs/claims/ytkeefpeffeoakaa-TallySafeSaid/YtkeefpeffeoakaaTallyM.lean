/- Tallies of three branches in memory: May, left, Left. -/
import Derived.Test.YtkeefpeffeoakaaTallyL
import Derived.Test.YtkeefpeffeoakaaClone
import Derived.Test.YtkeefpeffeoakaaGrow
import Derived.Test.YtkeefpeffeoakaaRow
namespace Go.Proofs.Ytkeefpeffeoakaa
open Go.ChangeShapes Go.WideShapes Go.ChangeAt Go.RowKit
set_option linter.unusedVariables false

theorem three (P : Nat → Prop) (h0 : P 0) (h1 : P 1) (h2 : P 2) : ∀ i, i < 3 → P i
  | 0, _ => h0
  | 1, _ => h1
  | 2, _ => h2
/-- A row of three numbers at an address. -/
structure Row3 (w : World) (b o : Nat) (f : Nat → Int) : Prop where
  c : ∀ j, j < 3 → w.cell? ⟨b, o + j, none⟩ = some (.int .i64 (f j))
  t : ∃ cs r, w.heap[b]? = some (.cells cs 3 r)
theorem block_kept {w w' : World} {b : Nat} {e : TypeId} (hb : Below w.heap.size w w') (h : ∃ cs r, w.heap[b]? = some (.cells cs e r)) : ∃ cs r, w'.heap[b]? = some (.cells cs e r) := by
  obtain ⟨cs, r, h⟩ := h
  exact ⟨cs, r, by rw [hb.block _ (Array.getElem?_eq_some_iff.1 h).1]; exact h⟩
theorem block_chg {T : List TypeId} {w w' : World} {b : Nat} {e : TypeId} (hc : Chg T w w') (he : e ∉ T) (h : ∃ cs r, w.heap[b]? = some (.cells cs e r)) : w'.heap[b]? = w.heap[b]? ∧ ∃ cs r, w'.heap[b]? = some (.cells cs e r) := by
  obtain ⟨cs, r, h⟩ := h
  have h2 := hc.block _ _ h fun cs' e' r' heq => by
    simp only [Obj.cells.injEq] at heq
    obtain ⟨-, rfl, -⟩ := heq
    exact he
  exact ⟨by rw [h2, h], cs, r, h2⟩
theorem Row3.on {w w' : World} {b o : Nat} {f : Nat → Int} (h : Row3 w b o f) (hb : Below w.heap.size w w') : Row3 w' b o f := ⟨fun j hj => cell_on hb (h.c j hj), block_kept hb h.t⟩
theorem Row3.chg {T : List TypeId} {w w' : World} {b o : Nat} {f : Nat → Int} (h : Row3 w b o f) (hc : Chg T w w') (h1 : 3 ∉ T) : Row3 w' b o f := by
  obtain ⟨e, ht⟩ := block_chg hc h1 h.t
  exact ⟨fun j hj => by rw [World.cell?_of_block (w := w) (a := ⟨b, o + j, none⟩) e]; exact h.c j hj, ht⟩
theorem Row3.has {w : World} {b o c : Nat} {f : Nat → Int} (h : Row3 w b o f) (h3 : 3 ≤ c) (hm : c ≤ maxLen) : Has w 1 (.slice (some ⟨b, o, none⟩) 3 c) 3 (ints (row3 f)) :=
  ⟨⟨rfl, fun n cap h => by simp at h⟩, _, c, rfl, h3, hm, fun _ => ⟨b, o, rfl, fun j u hu => by
    have hj : j < 3 := by have := (List.getElem?_eq_some_iff.1 hu).1; simpa using this
    rw [h.c j hj, ← hu]
    unfold ints
    rw [List.getElem?_map, row3_get f j hj]; rfl⟩⟩
/-- A tally's rows, somewhere. -/
structure Rows3 (w : World) (b o : Nat) (f : Nat → Nat → Int) : Prop where
  c : ∀ i, i < 3 → ∃ b' o' c, w.cell? ⟨b, o + i, none⟩ = some (.slice (some ⟨b', o', none⟩) 3 c) ∧ (3 ≤ c ∧ c ≤ maxLen) ∧ Row3 w b' o' (f i)
  t : ∃ cs r, w.heap[b]? = some (.cells cs 22 r)
theorem Rows3.on {w w' : World} {b o : Nat} {f : Nat → Nat → Int} (h : Rows3 w b o f) (hb : Below w.heap.size w w') : Rows3 w' b o f :=
  ⟨fun i hi => by
    obtain ⟨b', o', c, h1, h2, h3⟩ := h.c i hi
    exact ⟨b', o', c, cell_on hb h1, h2, h3.on hb⟩, block_kept hb h.t⟩
theorem Rows3.chg {T : List TypeId} {w w' : World} {b o : Nat} {f : Nat → Nat → Int} (h : Rows3 w b o f) (hc : Chg T w w') (h1 : 3 ∉ T) (h2 : 22 ∉ T) : Rows3 w' b o f := by
  obtain ⟨e, ht⟩ := block_chg hc h2 h.t
  exact ⟨fun i hi => by
    obtain ⟨b', o', c, q1, q2, q3⟩ := h.c i hi
    exact ⟨b', o', c, by rw [World.cell?_of_block (w := w) (a := ⟨b, o + i, none⟩) e]; exact q1, q2, q3.chg hc h1⟩, ht⟩
/-- A tally in memory. -/
structure TlAt (w : World) (bm om cm bu ou cu : Nat) (t : Tl) : Prop where
  m : Rows3 w bm om t.m
  u : Row3 w bu ou t.u
  cm : 3 ≤ cm ∧ cm ≤ maxLen
  cu : 3 ≤ cu ∧ cu ≤ maxLen
theorem TlAt.on {w w' : World} {bm om cm bu ou cu : Nat} {t : Tl} (h : TlAt w bm om cm bu ou cu t) (hb : Below w.heap.size w w') : TlAt w' bm om cm bu ou cu t := ⟨h.m.on hb, h.u.on hb, h.cm, h.cu⟩
theorem TlAt.chg {T : List TypeId} {w w' : World} {bm om cm bu ou cu : Nat} {t : Tl} (h : TlAt w bm om cm bu ou cu t) (hc : Chg T w w') (h1 : 3 ∉ T) (h2 : 22 ∉ T) : TlAt w' bm om cm bu ou cu t := ⟨h.m.chg hc h1 h2, h.u.chg hc h1, h.cm, h.cu⟩
abbrev tlV (bm om cm bu ou cu : Nat) : Value := .agg #[.slice (some ⟨bm, om, none⟩) 3 cm, .slice (some ⟨bu, ou, none⟩) 3 cu]

set_option maxRecDepth 100000 in
set_option maxHeartbeats 1000000 in
theorem ctf1 (x : Int) (h0 : 0 ≤ x) (h1 : x ≤ 1048576) (w : World) :
    Calls Try.prog 46 #[.int .i64 x] w fun e w' => e = .returned (.bool false) ∧ w = w' := by
  have d1 : decide (x < 0) = false := by simp; omega
  have d2 : decide (1048576 < x) = false := by simp; omega
  go_enter Try.func46, Try.ntmps46
  go_wp2
  go_ret
  exact ⟨rfl, rfl⟩
set_option maxRecDepth 100000 in
set_option maxHeartbeats 1000000 in
theorem ctindex (b o c : Nat) (f : Nat → Int) (w : World) (h : Row3 w b o f) (hc : 3 ≤ c ∧ c ≤ maxLen) (hok : ∀ j, j < 3 → 0 ≤ f j ∧ f j ≤ 1048576) :
    Calls Try.prog 49 #[.slice (some ⟨b, o, none⟩) 3 c, .func (.func 46) #[] #[]] w fun e w' => e = .returned (.int .i64 (-1)) ∧ w = w' := by
  obtain ⟨hn, hm⟩ := hc
  unfold maxLen at hm
  have H := Lib.hid h
  have Hok := Lib.hid hok
  clear hok h
  go_enter Try.func49, Try.ntmps49
  go_wp2_with fail
  go_loopw [5, 8] (fun _ i wr => ∃ k : Nat, k ≤ 3 ∧ i = .int .i64 k ∧ w = wr) (fun _ i _ => 3 - (intOf i).toNat)
  case atStart => exact ⟨0, by omega, rfl, rfl⟩
  case round =>
    obtain ⟨k, hk, rfl, rfl⟩ := hrel
    by_cases h1 : k < 3
    · have g := H.out.c k h1
      obtain ⟨x0, x1⟩ := Hok.out k h1
      generalize f k = x at *
      go_wp2_with (go_at_call 46; refine (ctf1 x x0 x1 w).mono ?_; rintro e w' ⟨rfl, rfl⟩)
      go_roundw
      case rel => exact ⟨k + 1, by omega, by go_num, trivial⟩
      case measure => simp [intOf]; omega
    · obtain rfl : k = 3 := by omega
      go_wp2
      go_ret
      exact ⟨rfl, rfl⟩
set_option maxRecDepth 100000 in
set_option maxHeartbeats 1000000 in
theorem ctcontains (b o c : Nat) (f : Nat → Int) (w : World) (h : Row3 w b o f) (hc : 3 ≤ c ∧ c ≤ maxLen) (hok : ∀ j, j < 3 → 0 ≤ f j ∧ f j ≤ 1048576) :
    Calls Try.prog 45 #[.slice (some ⟨b, o, none⟩) 3 c, .func (.func 46) #[] #[]] w fun e w' => e = .returned (.bool false) ∧ w = w' := by
  have C := Lib.hid (ctindex b o c f w h hc hok)
  clear h hok
  go_enter Try.func45, Try.ntmps45
  go_wp2_with (go_at_call 49; refine C.out.mono ?_; rintro e w' ⟨rfl, rfl⟩)
  go_ret
  exact ⟨rfl, rfl⟩
set_option maxRecDepth 100000 in
set_option maxHeartbeats 1000000 in
theorem ctfine (b o c : Nat) (f : Nat → Int) (w : World) (h : Row3 w b o f) (hc : 3 ≤ c ∧ c ≤ maxLen) (hok : ∀ j, j < 3 → 0 ≤ f j ∧ f j ≤ 1048576) :
    Calls Try.prog 39 #[.slice (some ⟨b, o, none⟩) 3 c, .int .i64 3] w fun e w' => e = .returned (.bool true) ∧ w = w' := by
  have C := Lib.hid (ctcontains b o c f w h hc hok)
  clear h hok
  go_enter Try.func39, Try.ntmps39
  go_wp2_with (go_at_call 45; refine C.out.mono ?_; rintro e w' ⟨rfl, rfl⟩)
  go_ret
  exact ⟨rfl, rfl⟩
set_option maxRecDepth 100000 in
set_option maxHeartbeats 1000000 in
theorem ctmay1 (b o c p : Nat) (f : Nat → Int) (w : World) (h : Row3 w b o f) (hc : 3 ≤ c ∧ c ≤ maxLen) (hok : ∀ j, j < 3 → 0 ≤ f j ∧ f j ≤ 1048576) (hp : w.cell? ⟨p, 0, none⟩ = some (.int .i64 3)) :
    Calls Try.prog 41 #[.slice (some ⟨b, o, none⟩) 3 c, .pointer (some ⟨p, 0, none⟩)] w fun e w' => e = .returned (.bool false) ∧ w = w' := by
  have C := Lib.hid (ctfine b o c f w h hc hok)
  clear h hok
  go_enter Try.func41, Try.ntmps41
  go_wp2_with (go_at_call 39; refine C.out.mono ?_; rintro e w' ⟨rfl, rfl⟩)
  go_ret
  exact ⟨rfl, rfl⟩
set_option maxRecDepth 100000 in
set_option maxHeartbeats 1000000 in
theorem ctindex2 (b o c p : Nat) (f : Nat → Nat → Int) (w : World) (h : Rows3 w b o f) (hc : 3 ≤ c ∧ c ≤ maxLen) (hok : ∀ i j, i < 3 → j < 3 → 0 ≤ f i j ∧ f i j ≤ 1048576) (hp : w.cell? ⟨p, 0, none⟩ = some (.int .i64 3)) :
    Calls Try.prog 47 #[.slice (some ⟨b, o, none⟩) 3 c, .func (.func 41) #[] #[.pointer (some ⟨p, 0, none⟩)]] w fun e w' => e = .returned (.int .i64 (-1)) ∧ w = w' := by
  obtain ⟨hn, hm⟩ := hc
  unfold maxLen at hm
  have H := Lib.hid h
  have Hok := Lib.hid hok
  clear hok h
  go_enter Try.func47, Try.ntmps47
  go_wp2_with fail
  go_loopw [5, 8] (fun _ i wr => ∃ k : Nat, k ≤ 3 ∧ i = .int .i64 k ∧ w = wr) (fun _ i _ => 3 - (intOf i).toNat)
  case atStart => exact ⟨0, by omega, rfl, rfl⟩
  case round =>
    obtain ⟨k, hk, rfl, rfl⟩ := hrel
    by_cases h1 : k < 3
    · obtain ⟨b', o', c', g, g1, g2⟩ := H.out.c k h1
      have C := Lib.hid (ctmay1 b' o' c' p (f k) w g2 g1 (fun j hj => Hok.out k j h1 hj) hp)
      clear g1 g2
      go_wp2_with (go_at_call 41; refine C.out.mono ?_; rintro e w' ⟨rfl, rfl⟩)
      go_roundw
      case rel => exact ⟨k + 1, by omega, by go_num, trivial⟩
      case measure => simp [intOf]; omega
    · obtain rfl : k = 3 := by omega
      go_wp2
      go_ret
      exact ⟨rfl, rfl⟩
set_option maxRecDepth 100000 in
set_option maxHeartbeats 1000000 in
theorem ctcontains2 (b o c p : Nat) (f : Nat → Nat → Int) (w : World) (h : Rows3 w b o f) (hc : 3 ≤ c ∧ c ≤ maxLen) (hok : ∀ i j, i < 3 → j < 3 → 0 ≤ f i j ∧ f i j ≤ 1048576) (hp : w.cell? ⟨p, 0, none⟩ = some (.int .i64 3)) :
    Calls Try.prog 40 #[.slice (some ⟨b, o, none⟩) 3 c, .func (.func 41) #[] #[.pointer (some ⟨p, 0, none⟩)]] w fun e w' => e = .returned (.bool false) ∧ w = w' := by
  have C := Lib.hid (ctindex2 b o c p f w h hc hok hp)
  clear h hok
  go_enter Try.func40, Try.ntmps40
  go_wp2_with (go_at_call 47; refine C.out.mono ?_; rintro e w' ⟨rfl, rfl⟩)
  go_ret
  exact ⟨rfl, rfl⟩
set_option maxRecDepth 100000 in
set_option maxHeartbeats 2000000 in
theorem ctMay (bm om cm bu ou cu : Nat) (t : Tl) (w : World) (h : TlAt w bm om cm bu ou cu t) (hin : TlIn t 1048576) :
    Calls Try.prog 25 #[tlV bm om cm bu ou cu] w fun e w' => e = .returned (.bool true) ∧ Below w.heap.size w w' := by
  have H := Lib.hid h
  have Hin := Lib.hid hin
  obtain ⟨c1, c2⟩ := h.cm
  obtain ⟨c3, c4⟩ := h.cu
  unfold maxLen at c2 c4
  clear h hin
  go_enter Try.func25, Try.ntmps25
  go_wp2_with fail
  have hb : Below w.heap.size w ((w.alloc (.cells #[.slice (some ⟨bm, om, none⟩) 3 cm, .slice (some ⟨bu, ou, none⟩) 3 cu] 48)).alloc (.cells #[.int .i64 3] 3)) := (by repeat (first | exact Below.refl _ _ | refine Below.drew ?_ | refine Below.alloc ?_ (by first | (simp; done) | (simp; omega)) _ | refine Below.setCell ?_ (by first | (simp; done) | (simp; omega)) _))
  refine (ctfine bu ou cu t.u _ (H.out.u.on hb) H.out.cu Hin.out.2).mono ?_
  rintro e w' ⟨rfl, rfl⟩
  go_wp2_with fail
  refine (ctcontains2 bm om cm _ t.m _ (H.out.m.on hb) H.out.cm Hin.out.1 (by rw [World.cell?_alloc_at _ _ _ _ (by simp)]; rfl)).mono ?_
  rintro e w' ⟨rfl, rfl⟩
  go_wp2
  go_ret
  exact ⟨rfl, hb⟩
end Go.Proofs.Ytkeefpeffeoakaa
