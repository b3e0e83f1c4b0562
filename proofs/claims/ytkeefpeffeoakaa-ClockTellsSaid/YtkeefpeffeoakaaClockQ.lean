/- Clocks: the walks of joined, odd and Play. -/
import Derived.Test.YtkeefpeffeoakaaClockP
import Derived.Test.YtkeefpeffeoakaaClone
import Derived.Test.YtkeefpeffeoakaaGrow
import Derived.Test.YtkeefpeffeoakaaRow
namespace Go.Proofs.Ytkeefpeffeoakaa
open Go.ChangeShapes Go.WideShapes Go.ChangeAt Go.RowKit
set_option linter.unusedVariables false

def joinUp (a b : List Int) (k : Nat) : List Int := ckJoin (a.take k) (b.take k) ++ a.drop k
theorem joinUp_length (a b : List Int) (k : Nat) (hl : a.length = b.length) : (joinUp a b k).length = a.length := by
  simp [joinUp]; omega
theorem joinUp_get (a b : List Int) (k : Nat) (hl : a.length = b.length) (hk : k < a.length) (hk' : k < (joinUp a b k).length) : (joinUp a b k)[k] = a[k] := by
  have e : (ckJoin (a.take k) (b.take k)).length = k := by simp; omega
  have := List.getElem_of_eq (show joinUp a b k = ckJoin (a.take k) (b.take k) ++ a.drop k from rfl) hk'
  rw [this, List.getElem_append_right (by omega)]
  simp [e]
theorem joinUp_set (a b : List Int) (k : Nat) (hl : a.length = b.length) (hk : k < a.length) (hk2 : k < b.length) : (joinUp a b k).set k (if a[k] < b[k] then b[k] else a[k]) = joinUp a b (k + 1) := by
  have em : (if a[k] < b[k] then b[k] else a[k]) = max a[k] b[k] := by split <;> omega
  rw [em]
  have e : (ckJoin (a.take k) (b.take k)).length = k := by simp; omega
  unfold joinUp
  rw [List.set_append_right _ _ (by omega), e, Nat.sub_self]
  rw [List.drop_eq_getElem_cons hk, List.set_cons_zero, take_snoc _ _ hk, take_snoc _ _ hk2]
  have e2 : ckJoin (a.take k ++ [a[k]]) (b.take k ++ [b[k]]) = ckJoin (a.take k) (b.take k) ++ [max a[k] b[k]] := by
    unfold ckJoin
    rw [List.zipWith_append (by simp; omega)]
    rfl
  rw [e2, List.append_assoc]
  rfl
theorem joinUp_all (a b : List Int) (hl : a.length = b.length) : joinUp a b b.length = ckJoin a b := by
  unfold joinUp
  rw [List.take_of_length_le (by omega), List.take_of_length_le (Nat.le_refl _), List.drop_of_length_le (by omega), List.append_nil]
set_option maxRecDepth 100000 in
set_option maxHeartbeats 2000000 in
theorem cjoined (v1 v2 : Value) (a b : List Int) (w : World) (h1 : Has w 1 v1 a.length (ints a)) (h2 : Has w 1 v2 b.length (ints b)) (hl : a.length = b.length) (h0 : 1 ≤ a.length) (hm : a.length ≤ 1000) :
    Calls Try.prog 31 #[v1, v2] w fun e w' => ∃ v', e = .returned v' ∧ w'.ownsRow w.heap.size 3 1 v' (ckJoin a b).length (ints (ckJoin a b)) ∧ Below w.heap.size w w' := by
  have C := Lib.hid (cclone_int v1 a.length (ints a) w h1 (ints_one a) (by omega))
  obtain ⟨⟨hl2, hnil⟩, ad, cap, rfl, hn, hcm, hc⟩ := h2
  have Hc := Lib.hid hc
  have Hl := Lib.hid hl
  have hle : a.length ≤ b.length := by omega
  have hle' : b.length ≤ a.length := by omega
  unfold maxLen at hcm
  clear hc hnil hl2 h1 hl
  go_enter Try.func31, Try.ntmps31
  go_wp2_with fail
  refine C.out.mono ?_
  rintro e w1 ⟨v', rfl, hown, hb1⟩
  obtain ⟨g, cp, rfl, hg0, hg1, -, -⟩ := owns_some hown (by omega)
  have e0 : joinUp a b 0 = a := by simp [joinUp, ckJoin]
  have Hst : Hid (w1.ownsRow w.heap.size 3 1 (.slice (some ⟨g, 0, none⟩) a.length cp) a.length (ints (joinUp a b 0))) := by rw [e0]; exact hown
  have Hb1 := Lib.hid hb1
  clear hown hb1 e0 C
  go_wp2_with fail
  go_loopw [6, 7, 12] (fun _ _ i wr => ∃ k : Nat, k ≤ b.length ∧ i = .int .i64 k ∧ wr.ownsRow w.heap.size 3 1 (.slice (some ⟨g, 0, none⟩) a.length cp) a.length (ints (joinUp a b k)) ∧ Below w.heap.size w wr) (fun _ _ i _ => b.length - (intOf i).toNat)
  case atStart => exact ⟨0, by omega, rfl, Hst.out, Hb1.out⟩
  case round =>
    obtain ⟨k, hk, rfl, hown, hb⟩ := hrel
    clear Hst Hb1
    have Hown := Lib.hid hown
    have Hb := Lib.hid hb
    by_cases hlt : k < b.length
    · have hlt2 : k < a.length := by omega
      obtain ⟨bb, off, rfl, hcc⟩ := Hc.out (by simp; omega)
      have g1 := cell_on Hb.out (hcc _ _ (ints_get b k hlt))
      obtain ⟨g', cp', he, hgg, hg3, hgf, hgc⟩ := owns_some hown (by omega)
      simp only [Value.slice.injEq, Option.some.injEq, Addr.mk.injEq, and_true, true_and] at he
      obtain ⟨rfl, rfl⟩ := he
      have hjl : k < (joinUp a b k).length := by rw [joinUp_length _ _ _ Hl.out]; exact hlt2
      have g2 := hgc k _ (ints_get (joinUp a b k) k hjl)
      rw [joinUp_get a b k Hl.out hlt2 hjl] at g2
      have fr := hgf k
      have Hset := Lib.hid (joinUp_set a b k Hl.out hlt2 hlt)
      generalize a[k] = x at *
      generalize b[k] = y at *
      clear hgc hgf hcc hown hb hjl hgg Hc
      go_wp2_with fail
      go_roundw
      case rel => exact ⟨k + 1, by omega, by go_num, by rw [← Hset.out, ← ints_set]; exact owns_set Hown.out k _, Hb.out.setCell hg0 _⟩
      case measure => simp [intOf]; omega
    · obtain rfl : k = b.length := by omega
      rw [joinUp_all a b Hl.out] at hown
      have Hown := Lib.hid hown
      have Hjl := Lib.hid (show a.length = (ckJoin a b).length by have := Hl.out; simp; omega)
      clear hown hb Hc
      go_wp2_with fail
      go_ret
      exact ⟨_, rfl, by rw [← Hjl.out]; exact Hown.out, Hb.out⟩
set_option maxRecDepth 100000 in
set_option maxHeartbeats 2000000 in
theorem codd (n : Nat) (v : Value) (l : List Ev) (x : Ev) (w : World) (h : Has w 3 v l.length (evs l)) (hx : EvOk l x) (hn : x.who < n) (h8 : n ≤ 8) :
    Calls Try.prog 42 #[.int .i64 n, v, .agg #[.int .i64 x.kind, .int .i64 x.who, .int .i64 x.of']] w fun e w' => e = .returned (.int .i64 0) ∧ Below w.heap.size w w' := by
  obtain ⟨⟨hl2, hnil⟩, ad, cap, rfl, hcn, hcm, hc⟩ := h
  obtain ⟨h1, h2, h3, h4, h5⟩ := hx
  obtain ⟨kd, wh, of'⟩ := x
  simp only at *
  unfold maxLen at hcm
  by_cases hk : kd = 3
  · subst hk
    obtain ⟨p, q, y, hy, hyk⟩ := h5 rfl
    obtain ⟨j, rfl⟩ := Int.eq_ofNat_of_zero_le p
    have hj : j < l.length := by omega
    simp only [Int.toNat_natCast] at hy
    obtain ⟨b, off, rfl, hcc⟩ := hc (by simp [evs, flat_length Ev.cells 3 Ev.cells_length]; omega)
    have hyj : l[j] = y := by have := List.getElem?_eq_getElem hj; rw [this] at hy; simpa using hy
    have g1 := hcc (j * 3 + 0) (.int .i64 y.kind) (by unfold evs; rw [flat_get Ev.cells 3 Ev.cells_length l j hj 0 (by omega), hyj]; rfl)
    rw [hyk, Nat.add_zero] at g1
    have hbl := World.block_lt_of_cell? w _ g1
    clear h5 hc hcc hy hyj hnil hl2 hyk p
    go_enter Try.func42, Try.ntmps42
    go_wp2_with fail
    go_ret
    exact ⟨rfl, (by repeat (first | exact Below.refl _ _ | refine Below.drew ?_ | refine Below.alloc ?_ (by first | (simp; done) | (simp; omega)) _ | refine Below.setCell ?_ (by first | (simp; done) | (simp; omega)) _))⟩
  · have hk' : (kd != 3) = true := by simpa using hk
    clear h5 hc hnil hl2
    go_enter Try.func42, Try.ntmps42
    go_wp2_with fail
    go_ret
    exact ⟨rfl, (by repeat (first | exact Below.refl _ _ | refine Below.drew ?_ | refine Below.alloc ?_ (by first | (simp; done) | (simp; omega)) _ | refine Below.setCell ?_ (by first | (simp; done) | (simp; omega)) _))⟩
end Go.Proofs.Ytkeefpeffeoakaa
