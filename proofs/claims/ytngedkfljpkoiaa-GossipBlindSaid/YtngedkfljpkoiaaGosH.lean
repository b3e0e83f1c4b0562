/- Package gossip: the house; there, tell. -/
import Derived.Test.YtngedkfljpkoiaaGosN
namespace Go.Proofs.Ytngedkfljpkoiaa
open Go.ChangeShapes Go.WideShapes Go.ChangeAt Go.RowKit
set_option linter.unusedVariables false
set_option linter.unusedSimpArgs false

/-- Where a house lies. -/
structure Hs where
  la : Option Addr
  cl : Nat
  gs : Nat
  cs : Nat
  g : Nat → Nat
def storeVs (hs : Hs) (m : Nat) : List Value := (List.range 4).map fun i => .slice (some ⟨hs.g i, 0, none⟩) m m
def labInts (labs : List Nat) : List Int := List.map (fun x : Nat => (x : Int)) labs
structure HouseAt (w : World) (base H : Nat) (hs : Hs) (labs : List Nat) (vs : Nat → Nat → Value) (st : Nat → Nat → List Ent) : Prop where
  cells : w.heap[H]? = some (.cells #[.slice hs.la labs.length hs.cl, .slice (some ⟨hs.gs, 0, none⟩) 4 hs.cs] 86 (0, 0))
  row : HasT w 3 1 (.slice hs.la labs.length hs.cl) labs.length (ints (labInts labs))
  len : labs.length ≤ 4
  lab : ∀ x ∈ labs, x < 16
  stores : HasT w 87 1 (.slice (some ⟨hs.gs, 0, none⟩) 4 hs.cs) 4 (storeVs hs labs.length)
  store : ∀ i, i < 4 → StoreAt w (hs.g i) labs.length (vs i) (st i)
  inj : ∀ i j, i < 4 → j < 4 → i ≠ j → hs.g i ≠ hs.g j
  lo : ∀ i, i < 4 → base ≤ hs.g i
section
variable {w w' : World} {base H : Nat} {hs : Hs} {labs : List Nat} {vs : Nat → Nat → Value} {st : Nat → Nat → List Ent}
theorem HouseAt.on (h : HouseAt w base H hs labs vs st) (hb : Below w.heap.size w w') : HouseAt w' base H hs labs vs st :=
  ⟨by rw [hb.block _ (Array.getElem?_eq_some_iff.1 h.cells).1]; exact h.cells, h.row.below hb, h.len, h.lab, h.stores.below hb, fun i hi => (h.store i hi).on hb, h.inj, h.lo⟩
/-- A store is written. -/
theorem HouseAt.put (h : HouseAt w base H hs labs vs st) (i : Nat) (hi : i < 4) {v' : Nat → Value} {l' : Nat → List Ent} (hs' : StoreAt w' (hs.g i) labs.length v' l') (hg : w.grownBy w' (some (hs.g i))) : HouseAt w' base H hs labs (updF vs i v') (updF st i l') ∧ Below base w w' ∧ Chc [33] w w' := by
  have hc := grown_chc (h.store i hi).cells hg
  refine ⟨⟨hc.block _ _ _ _ h.cells (by decide), h.row.chc hc (by decide), h.len, h.lab, h.stores.chc hc (by decide), fun j hj => ?_, h.inj, h.lo⟩, ⟨hg.os, hg.tape, hg.output, hg.size, fun k hk => ?_⟩, hc⟩
  · by_cases e : j = i
    · subst e; rw [updF_same, updF_same]; exact hs'
    · rw [updF_ne _ _ e, updF_ne _ _ e]
      exact (h.store j hj).other (h.store i hi) hg (h.inj j i hj hi e)
  · have h1 := h.lo i hi
    have h2 := (h.store i hi).lt
    exact hg.block k (by omega) (by simp; omega)
/-- What a house reads. -/
theorem HouseAt.head (h : HouseAt w base H hs labs vs st) : w.cell? ⟨H, 0, none⟩ = some (.slice hs.la labs.length hs.cl) ∧ w.cell? ⟨H, 1, none⟩ = some (.slice (some ⟨hs.gs, 0, none⟩) 4 hs.cs) ∧ 4 ≤ hs.cs ∧ hs.cs ≤ maxLen := by
  obtain ⟨_, _, _, he, h1, h2, _⟩ := h.stores.has
  simp only [Value.slice.injEq] at he
  obtain ⟨-, -, rfl⟩ := he
  exact ⟨by rw [cell_of_row w _ _ _ _ _ h.cells]; rfl, by rw [cell_of_row w _ _ _ _ _ h.cells]; rfl, h1, h2⟩
theorem HouseAt.sc (h : HouseAt w base H hs labs vs st) (i : Nat) (hi : i < 4) : w.cell? ⟨hs.gs, i, none⟩ = some (.slice (some ⟨hs.g i, 0, none⟩) labs.length labs.length) := by
  obtain ⟨_, _, _, he, _, _, hc⟩ := h.stores.has
  simp only [Value.slice.injEq] at he
  obtain ⟨rfl, -, rfl⟩ := he
  obtain ⟨b, o, he, hcc⟩ := hc (by simp [storeVs])
  simp only [Option.some.injEq, Addr.mk.injEq, and_true] at he
  obtain ⟨rfl, rfl⟩ := he
  have := hcc i (.slice (some ⟨hs.g i, 0, none⟩) labs.length labs.length) (by simp [storeVs, hi])
  simpa using this
theorem HouseAt.lc (h : HouseAt w base H hs labs vs st) (j : Nat) (hj : j < labs.length) : ∃ b o, hs.la = some ⟨b, o, none⟩ ∧ w.cell? ⟨b, o + j, none⟩ = some (.int .i64 labs[j]) ∧ labs[j] < 16 := by
  obtain ⟨_, _, _, he, _, _, hc⟩ := h.row.has
  simp only [Value.slice.injEq] at he
  obtain ⟨rfl, -, rfl⟩ := he
  obtain ⟨b, o, he, hcc⟩ := hc (by simp [labInts, ints]; omega)
  exact ⟨b, o, he, hcc j _ (by rw [ints_get _ j (by simp [labInts]; exact hj)]; simp [labInts]), h.lab _ (List.getElem_mem hj)⟩
end
set_option maxRecDepth 100000 in
set_option maxHeartbeats 2000000 in
theorem cThere {w : World} {base H : Nat} {hs : Hs} {labs : List Nat} {vs : Nat → Nat → Value} {st : Nat → Nat → List Ent} (h : HouseAt w base H hs labs vs st) (who : Nat) (hw : who < 4) :
    Calls Try.prog 52 #[.pointer (some ⟨H, 0, none⟩), .int .i64 who] w fun e w' => e = .returned (.bool true) ∧ w = w' := by
  obtain ⟨c0, c1, -, -⟩ := h.head
  have hz : (who : Int) < 4 := by omega
  clear h
  go_enter Try.func52, Try.ntmps52
  go_wp2_with fail
  go_ret
  exact ⟨rfl, rfl⟩
/-- What telling comes to, label by label. -/
def tellN (labs : List Nat) (who to' : Nat) (st : Nat → Nat → List Ent) : Nat → (Nat → Nat → List Ent)
  | 0 => st
  | k + 1 => match labs[k]? with
    | some lab => if inL lab who = true ∧ inL lab to' = true then updF (tellN labs who to' st k) to' (updF (tellN labs who to' st k to') k (mergeL (tellN labs who to' st k to' k) (tellN labs who to' st k who k))) else tellN labs who to' st k
    | none => tellN labs who to' st k
set_option maxRecDepth 100000 in
set_option maxHeartbeats 4000000 in
theorem cTell {w : World} {base H : Nat} {hs : Hs} {labs : List Nat} {vs : Nat → Nat → Value} {st : Nat → Nat → List Ent} (h : HouseAt w base H hs labs vs st) (hbs : base ≤ w.heap.size) (who to' : Nat) (hw : who < 4) (ht : to' < 4) :
    Calls Try.prog 53 #[.pointer (some ⟨H, 0, none⟩), .int .i64 who, .int .i64 to'] w fun e w' => e = .returned (.tuple #[]) ∧ ∃ vs', HouseAt w' base H hs labs vs' (tellN labs who to' st labs.length) ∧ Below base w w' ∧ Chc [33] w w' := by
  have H0 := Lib.hid h
  obtain ⟨c0, c1, cc0, cc1⟩ := h.head
  have hlen := h.len
  have hwz : (who : Int) < 4 := by omega
  have htz : (to' : Int) < 4 := by omega
  unfold maxLen at cc1
  clear h
  go_enter Try.func53, Try.ntmps53
  go_wp2_with fail
  go_loopw [6, 7, 13] (fun _ _ i wr => ∃ (k : Nat) (vv : Nat → Nat → Value), k ≤ labs.length ∧ i = .int .i64 k ∧ Hid (HouseAt wr base H hs labs vv (tellN labs who to' st k) ∧ Below base w wr ∧ Chc [33] w wr)) (fun _ _ i _ => labs.length - (intOf i).toNat)
  case atStart => exact ⟨0, vs, by omega, rfl, ⟨H0.out, Below.refl _ _, Chc.refl _ _⟩⟩
  case round =>
    clear c0 c1
    obtain ⟨k, vv, hk, rfl, HP⟩ := hrel
    by_cases hlt : k < labs.length
    · have hltz : (k : Int) < (labs.length : Int) := by omega
      obtain ⟨b, o, hla, x0, hl16⟩ := HP.out.1.lc k hlt
      obtain ⟨d0, d1, -, -⟩ := HP.out.1.head
      have s0 := HP.out.1.sc who hw
      have s1 := HP.out.1.sc to' ht
      have r0 := ((HP.out.1.store who hw).cell k hlt).1
      obtain ⟨_, ak, ck, hvk, _⟩ := ((HP.out.1.store who hw).rows k hlt).has
      have HR := Lib.hid ((HP.out.1.store who hw).rows k hlt).has
      have hE := (HP.out.1.store who hw).ok k hlt
      rw [hvk] at r0 HR
      have hsucc : Hid (tellN labs who to' st (k + 1) = if inL labs[k] who = true ∧ inL labs[k] to' = true then updF (tellN labs who to' st k) to' (updF (tellN labs who to' st k to') k (mergeL (tellN labs who to' st k to' k) (tellN labs who to' st k who k))) else tellN labs who to' st k) := by
        show _ = _
        simp only [tellN, List.getElem?_eq_getElem hlt]
      have CI1 := Lib.hid fun X => cIn labs[k] who (by omega) (by omega) X
      have CI2 := Lib.hid fun X => cIn labs[k] to' (by omega) (by omega) X
      have HE := Lib.hid hE
      generalize labs[k] = lab at *
      clear hE hvk
      rw [hla]
      go_wp2_with fail
      refine (CI1.out _).mono ?_
      rintro e w' ⟨rfl, rfl⟩
      cases hi1 : inL lab who with
      | false =>
        rw [hi1, if_neg (by simp)] at hsucc
        clear CI1 CI2
        go_wp2_with fail
        go_roundw
        case rel => exact ⟨k + 1, vv, by omega, by go_num, by rw [hsucc.out]; exact HP⟩
        case measure => first | (simp [intOf]; done) | (simp [intOf]; omega)
      | true =>
        go_wp2_with fail
        refine (CI2.out _).mono ?_
        rintro e w' ⟨rfl, rfl⟩
        cases hi2 : inL lab to' with
        | false =>
          rw [hi1, hi2, if_neg (by simp)] at hsucc
          clear CI1 CI2
          go_wp2_with fail
          go_roundw
          case rel => exact ⟨k + 1, vv, by omega, by go_num, by rw [hsucc.out]; exact HP⟩
          case measure => first | (simp [intOf]; done) | (simp [intOf]; omega)
        | true =>
          rw [hi1, hi2, if_pos ⟨rfl, rfl⟩] at hsucc
          clear CI1 CI2
          rename World => wr
          have CL := Lib.hid (cLearn (w := wr.drew) ((HP.out.1.store to' ht).on (Below.drew (Below.refl _ _))) k hlt hlen (.slice ak (tellN labs who to' st k who k).length ck) (tellN labs who to' st k who k) HR.out HE.out)
          have HP2 : Hid (HouseAt wr.drew base H hs labs vv (tellN labs who to' st k)) := HP.out.1.on (Below.drew (Below.refl _ _))
          have hkz4 : labs.length ≤ 4 := hlen
          go_upto_region 4 with (fail)
          refine wp_still_tail 18 (by kernel_rfl) (by kernel_rfl) ?_
          simp only [List.take_succ_cons, List.take_zero, List.drop_succ_cons, List.drop_zero]
          repeat still_step
          refine wpStill_nil ?_
          clear s0 s1 r0 x0 d0 d1
          go_wp2_with fail
          refine CL.out.mono ?_
          rintro e w5 ⟨rfl, v', hs5, hg5⟩
          obtain ⟨h5, hb5, hc5⟩ := HP2.out.put to' ht hs5 hg5
          have hfin : Hid (HouseAt w5 base H hs labs (updF vv to' (updF (vv to') k v')) (tellN labs who to' st (k + 1)) ∧ Below base w w5 ∧ Chc [33] w w5) := by
            rw [hsucc.out]
            exact ⟨h5, (HP.out.2.1.drew).trans hb5, (HP.out.2.2.drew).trans hc5⟩
          clear hs5 hg5 h5 hb5 hc5 CL HP2
          go_wp2_with fail
          go_roundw
          case rel => exact ⟨k + 1, _, by omega, by go_num, hfin⟩
          case measure => first | (simp [intOf]; done) | (simp [intOf]; omega)
    · obtain rfl : k = labs.length := by omega
      go_wp2_with fail
      go_end0
      exact ⟨rfl, vv, HP.out⟩
end Go.Proofs.Ytngedkfljpkoiaa
