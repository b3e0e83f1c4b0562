/- Texts that the claim imports, laid together: GosM Bits Lbs GosN NewestL GosF U8 SealM CloneB App Wro. No statement of their own. -/
import Derived.Laws.BitsAllLaws
import Derived.Maps.Own
import Derived.Maps.OwnOps
import Derived.Maps.Views
import Derived.WideKeyPair
import Derived.DeepKeys4
import Derived.Deep.AppendLies
import Derived.Deep.DrawnRows
import Derived.Test.YtjdedflfdlhkdaaGreatDoorKaa
import Derived.Test.YtjdedflfdlhkdaaGreatDoorKab
import Derived.Test.YtjdedflfdlhkdaaGreatDoorKac
namespace Go.Proofs.YtjdedflfdlhkdaaGreatDoor
open Go.ChangeShapes Go.WideShapes Go.ChangeAt Go.RowKit
set_option linter.unusedVariables false
set_option linter.unusedSimpArgs false

/-- Entries with keys that may be, each label's list. -/
structure EightL (l : List Ent) : Prop where
  may : MayL l
  eight : ∀ e ∈ l, 0 ≤ e.k ∧ e.k < 8
theorem EightL.len {l : List Ent} (h : EightL l) : l.length ≤ 8 := by
  have := sorted_len l 0 8 h.may.sorted h.eight (by omega); omega
theorem EightL.nil : EightL [] := ⟨⟨fun e he => by simp at he, List.Pairwise.nil⟩, fun e he => by simp at he⟩
theorem EightL.merge {a b : List Ent} (ha : EightL a) (hb : EightL b) : EightL (mergeL a b) :=
  ⟨mergeL_may ha.may hb.may.ok, fun x hx => by
    rcases mergeL_mem hx with h | h
    · exact ha.eight x h
    · exact hb.eight x h⟩
theorem EightL.one {e : Ent} (h : e.Ok) (h0 : 0 ≤ e.k ∧ e.k < 8) : EightL [e] := ⟨⟨fun x hx => by simp at hx; subst hx; exact h, by simp⟩, fun x hx => by simp at hx; subst hx; exact h0⟩
/-- The latest time. -/
def maxT : List Ent → Int
  | [] => 0
  | a :: t => max a.t (maxT t)
theorem maxT_nonneg : ∀ l : List Ent, 0 ≤ maxT l
  | [] => Int.le_refl _
  | a :: t => by have := maxT_nonneg t; simp only [maxT]; omega
theorem maxT_snoc : ∀ (l : List Ent) (e : Ent), maxT (l ++ [e]) = max (maxT l) e.t
  | [], e => by simp only [List.nil_append, maxT]; omega
  | a :: t, e => by simp only [List.cons_append, maxT, maxT_snoc t e]; omega
theorem maxT_le {l : List Ent} {n : Int} (h0 : 0 ≤ n) (h : ∀ e ∈ l, e.t ≤ n) : maxT l ≤ n := by
  induction l with
  | nil => exact h0
  | cons a t ih =>
    have h1 := h a List.mem_cons_self
    have h2 := ih fun e he => h e (List.mem_cons_of_mem _ he)
    simp only [maxT]; omega
theorem le_maxT {l : List Ent} {e : Ent} (h : e ∈ l) : e.t ≤ maxT l := by
  induction l with
  | nil => simp at h
  | cons a t ih =>
    simp only [maxT]
    rcases List.mem_cons.1 h with rfl | h
    · omega
    · have := ih h; omega
theorem infoEnts : (Tryz.prog.info? 43).map (fun i => (i.zero, i.size, i.bytes)) = some (some (.slice none 0 0), 1, 24) := by kernel_rfl
/-- A store: block g, m labels, what stands under each. -/
structure StoreAt (w : World) (g m : Nat) (vs : Nat → Value) (l : Nat → List Ent) : Prop where
  cells : w.heap[g]? = some (.cells ((List.range m).map vs).toArray 43 (0, 0))
  rows : ∀ j, j < m → HasT w 77 5 (vs j) (l j).length (ents (l j))
  ok : ∀ j, j < m → EightL (l j)
theorem grown_chc {w w' : World} {g : Nat} {cs : Array Value} {e : TypeId} {r : Nat × Nat} (hg : w.heap[g]? = some (.cells cs e r)) (h : w.grownBy w' (some g)) : Chc [e] w w' :=
  ⟨h.size, fun k cs' e' r' hk he => by
    rw [h.block k (Array.getElem?_eq_some_iff.1 hk).1 (fun hh => by
      simp only [Option.some.injEq] at hh
      subst hh
      rw [hg] at hk
      simp only [Option.some.injEq, Obj.cells.injEq] at hk
      exact he (by rw [hk.2.1]; simp))]; exact hk⟩
section
variable {w w' : World} {g m : Nat} {vs : Nat → Value} {l : Nat → List Ent}
theorem StoreAt.on (h : StoreAt w g m vs l) (hb : Below w.heap.size w w') : StoreAt w' g m vs l :=
  ⟨by rw [hb.block _ (Array.getElem?_eq_some_iff.1 h.cells).1]; exact h.cells, fun j hj => (h.rows j hj).below hb, h.ok⟩
/-- Another store is written. -/
theorem StoreAt.other {g' : Nat} {vs' : Nat → Value} {l' : Nat → List Ent} {m' : Nat} (h : StoreAt w g m vs l) (h' : StoreAt w g' m' vs' l') (hg : w.grownBy w' (some g')) (hne : g ≠ g') : StoreAt w' g m vs l := by
  have hc := grown_chc h'.cells hg
  exact ⟨by rw [hg.block g (Array.getElem?_eq_some_iff.1 h.cells).1 (by simpa using hne)]; exact h.cells, fun j hj => (h.rows j hj).chc hc (by decide), h.ok⟩
theorem StoreAt.cell (h : StoreAt w g m vs l) (j : Nat) (hj : j < m) : w.cell? ⟨g, j, none⟩ = some (vs j) ∧ w.frozen? ⟨g, j, none⟩ = false := by
  refine ⟨?_, by simp [World.frozen?, h.cells]⟩
  rw [cell_of_row w _ _ _ _ _ h.cells]
  simp [hj]
theorem StoreAt.lt (h : StoreAt w g m vs l) : g < w.heap.size := (Array.getElem?_eq_some_iff.1 h.cells).1
end
def updF {α : Type} (f : Nat → α) (j : Nat) (v : α) : Nat → α := fun i => if i = j then v else f i
theorem updF_same {α : Type} (f : Nat → α) (j : Nat) (v : α) : updF f j v j = v := by simp [updF]
theorem updF_ne {α : Type} (f : Nat → α) {i j : Nat} (v : α) (h : i ≠ j) : updF f j v i = f i := by simp [updF, h]
theorem range_set (vs : Nat → Value) (m j : Nat) (v : Value) : ((List.range m).map vs).set j v = (List.range m).map (updF vs j v) := by
  apply List.ext_getElem
  · simp
  · intro i h1 h2
    simp at h1
    rw [List.getElem_set]
    by_cases e : j = i
    · subst e; simp [updF]
    · simp [e, updF]; intro hh; exact absurd hh.symm e
/-- A label's list is exchanged. -/
theorem StoreAt.put {w w1 : World} {g m j : Nat} {vs : Nat → Value} {l : Nat → List Ent} {v' : Value} {b : List Ent} (h : StoreAt w g m vs l) (hb : Below w.heap.size w w1) (hv : HasT w1 77 5 v' b.length (ents b)) (hok : EightL b) :
    StoreAt (w1.setCell ⟨g, j, none⟩ v') g m (updF vs j v') (updF l j b) ∧ w.grownBy (w1.setCell ⟨g, j, none⟩ v') (some g) := by
  have h1 := h.on hb
  have hc := Chc.setCell (T := [43]) (p := ⟨g, j, none⟩) h1.cells (by simp) v'
  refine ⟨⟨?_, fun i hi => ?_, fun i hi => ?_⟩, ⟨hb.os, hb.tape, hb.output, by simpa [World.setCell] using hb.size, fun k hk hne => ?_⟩⟩
  · have h2 := heap_setCell_same w1 g j _ _ v' h1.cells
    rw [h2]
    congr 2
    apply Array.ext'
    rw [Array.toList_setIfInBounds, List.toList_toArray, range_set]
  · by_cases e : i = j
    · subst e; rw [updF_same, updF_same]; exact hv.chc hc (by decide)
    · rw [updF_ne _ _ e, updF_ne _ _ e]; exact (h1.rows i hi).chc hc (by decide)
  · by_cases e : i = j
    · subst e; rw [updF_same]; exact hok
    · rw [updF_ne _ _ e]; exact h.ok i hi
  · rw [Below.heap_setCell _ _ _ _ (show k ≠ g by simpa using hne)]
    exact hb.block k hk
set_option maxRecDepth 100000 in
set_option maxHeartbeats 4000000 in
theorem cLearn {w : World} {g m : Nat} {vs : Nat → Value} {l : Nat → List Ent} (h : StoreAt w g m vs l) (j : Nat) (hj : j < m) (hm : m ≤ 4) (v : Value) (b : List Ent) (hv : Has w 5 v b.length (ents b)) (hb : EightL b) :
    Calls Tryz.prog 73 #[.slice (some ⟨g, 0, none⟩) m m, .int .i64 j, v] w fun e w' => e = .returned (.tuple #[]) ∧ ∃ v', StoreAt w' g m (updF vs j v') (updF l j (mergeL (l j) b)) ∧ w.grownBy w' (some g) := by
  have H := Lib.hid h
  obtain ⟨c0, f0⟩ := h.cell j hj
  have ha := h.ok j hj
  have hmg := ha.merge hb
  have CM := Lib.hid (cmerge (vs j) v (l j) b w (h.rows j hj).has hv ha.may hb.may ha.len hb.len hmg.len)
  have Hmg := Lib.hid hmg
  have hjz : (j : Int) < (m : Int) := by omega
  obtain ⟨_, aj, cj, hvj, _⟩ := (h.rows j hj).has
  rw [hvj] at c0 CM
  obtain ⟨_, av, cv, rfl, _⟩ := hv
  clear h ha hmg hb hvj
  go_enter Tryz.func73, Tryz.ntmps73
  go_wp2_with fail
  refine CM.out.mono ?_
  rintro e w1 ⟨v1, rfl, hown, hb1⟩
  obtain ⟨a1, c1, rfl⟩ := owns_slice hown
  have hT := HasT.of_owns hown
  have hfin := H.out.put (j := j) hb1 hT Hmg.out
  have Hfin := Lib.hid hfin
  obtain ⟨k0, kf⟩ := (H.out.on hb1).cell j hj
  obtain ⟨_, aj', cj', hvj, _⟩ := (H.out.rows j hj).has
  clear hown hT hfin CM c0 f0 hb1
  go_wp2_with fail
  go_end0
  exact ⟨rfl, _, Hfin.out⟩
end Go.Proofs.YtjdedflfdlhkdaaGreatDoor

namespace Go.Proofs.YtjdedflfdlhkdaaGreatDoor
set_option linter.unusedVariables false

/-- Byte j of a row of bits (each 0 or 1), the most significant first, unused bits 0. -/
def byteOf (bs : List Nat) (j : Nat) : Nat :=
  bs.getD (8 * j) 0 * 128 + bs.getD (8 * j + 1) 0 * 64 + bs.getD (8 * j + 2) 0 * 32 + bs.getD (8 * j + 3) 0 * 16 + bs.getD (8 * j + 4) 0 * 8 + bs.getD (8 * j + 5) 0 * 4 + bs.getD (8 * j + 6) 0 * 2 + bs.getD (8 * j + 7) 0
/-- Is each of them a bit? -/
def Bits (bs : List Nat) : Prop := ∀ i, bs.getD i 0 ≤ 1
theorem byteOf_lt (bs : List Nat) (h : Bits bs) (j : Nat) : byteOf bs j < 256 := by
  have h0 := h (8 * j); have h1 := h (8 * j + 1); have h2 := h (8 * j + 2); have h3 := h (8 * j + 3)
  have h4 := h (8 * j + 4); have h5 := h (8 * j + 5); have h6 := h (8 * j + 6); have h7 := h (8 * j + 7)
  unfold byteOf; omega
theorem getD_snoc (bs : List Nat) (b i : Nat) : (bs ++ [b]).getD i 0 = if i = bs.length then b else bs.getD i 0 := by
  simp only [List.getD_eq_getElem?_getD]
  by_cases h : i < bs.length
  · rw [List.getElem?_append_left h, if_neg (by omega)]
  · by_cases h' : i = bs.length
    · subst h'; simp
    · rw [if_neg h', List.getElem?_eq_none (by simp; omega), List.getElem?_eq_none (by omega)]
theorem getD_past (bs : List Nat) (i : Nat) (h : bs.length ≤ i) : bs.getD i 0 = 0 := by
  simp [List.getD_eq_getElem?_getD, List.getElem?_eq_none h]
theorem Bits.snoc {bs : List Nat} {b : Nat} (h : Bits bs) (hb : b ≤ 1) : Bits (bs ++ [b]) := by
  intro i; rw [getD_snoc]; split
  · exact hb
  · exact h i
theorem byteOf_other (bs : List Nat) (b j : Nat) (h : j ≠ bs.length / 8) : byteOf (bs ++ [b]) j = byteOf bs j := by
  unfold byteOf
  simp only [getD_snoc]
  repeat rw [if_neg (by omega)]
theorem byteOf_here (bs : List Nat) (b : Nat) (h : Bits bs) (hb : b ≤ 1) : byteOf bs (bs.length / 8) ||| (b <<< (7 - bs.length % 8)) = byteOf (bs ++ [b]) (bs.length / 8) := by
  have hm : byteOf bs (bs.length / 8) % 2 ^ (8 - bs.length % 8) = 0 ∧ byteOf (bs ++ [b]) (bs.length / 8) = byteOf bs (bs.length / 8) + b * 2 ^ (7 - bs.length % 8) := by
    have p : ∀ i, bs.length ≤ i → bs.getD i 0 = 0 := getD_past bs
    generalize hq : bs.length / 8 = q
    have hr : bs.length % 8 = 0 ∨ bs.length % 8 = 1 ∨ bs.length % 8 = 2 ∨ bs.length % 8 = 3 ∨ bs.length % 8 = 4 ∨ bs.length % 8 = 5 ∨ bs.length % 8 = 6 ∨ bs.length % 8 = 7 := by omega
    unfold byteOf
    simp only [getD_snoc]
    rcases hr with hr | hr | hr | hr | hr | hr | hr | hr <;> rw [hr] <;> constructor
    all_goals
      have e0 : bs.length = 8 * q + bs.length % 8 := by omega
      rw [hr] at e0
    all_goals first
      | (simp only [e0, p (8 * q) (by omega), p (8 * q + 1) (by omega), p (8 * q + 2) (by omega), p (8 * q + 3) (by omega), p (8 * q + 4) (by omega), p (8 * q + 5) (by omega), p (8 * q + 6) (by omega), p (8 * q + 7) (by omega)]; (try simp); (try omega); done)
      | (simp only [e0, p (8 * q + 1) (by omega), p (8 * q + 2) (by omega), p (8 * q + 3) (by omega), p (8 * q + 4) (by omega), p (8 * q + 5) (by omega), p (8 * q + 6) (by omega), p (8 * q + 7) (by omega)]; (try simp); (try omega); done)
      | (simp only [e0, p (8 * q + 2) (by omega), p (8 * q + 3) (by omega), p (8 * q + 4) (by omega), p (8 * q + 5) (by omega), p (8 * q + 6) (by omega), p (8 * q + 7) (by omega)]; (try simp); (try omega); done)
      | (simp only [e0, p (8 * q + 3) (by omega), p (8 * q + 4) (by omega), p (8 * q + 5) (by omega), p (8 * q + 6) (by omega), p (8 * q + 7) (by omega)]; (try simp); (try omega); done)
      | (simp only [e0, p (8 * q + 4) (by omega), p (8 * q + 5) (by omega), p (8 * q + 6) (by omega), p (8 * q + 7) (by omega)]; (try simp); (try omega); done)
      | (simp only [e0, p (8 * q + 5) (by omega), p (8 * q + 6) (by omega), p (8 * q + 7) (by omega)]; (try simp); (try omega); done)
      | (simp only [e0, p (8 * q + 6) (by omega), p (8 * q + 7) (by omega)]; (try simp); (try omega); done)
      | (simp only [e0, p (8 * q + 7) (by omega)]; (try simp); (try omega); done)
  rw [hm.2, Nat.shiftLeft_eq]
  have hlt : b * 2 ^ (7 - bs.length % 8) < 2 ^ (8 - bs.length % 8) := by
    have : 2 ^ (8 - bs.length % 8) = 2 * 2 ^ (7 - bs.length % 8) := by
      rw [show 8 - bs.length % 8 = (7 - bs.length % 8) + 1 by omega, Nat.pow_succ]; omega
    have hp := Nat.two_pow_pos (7 - bs.length % 8)
    have : b * 2 ^ (7 - bs.length % 8) ≤ 1 * 2 ^ (7 - bs.length % 8) := Nat.mul_le_mul_right _ hb
    omega
  exact nat_join (8 - bs.length % 8) _ _ hm.1 hlt
end Go.Proofs.YtjdedflfdlhkdaaGreatDoor

namespace Go.Proofs.YtjdedflfdlhkdaaGreatDoor
open Go.ChangeShapes Go.WideShapes Go.ChangeAt Go.RowKit
set_option linter.unusedVariables false
set_option linter.unusedSimpArgs false

theorem andOne (x : Nat) (h : x < 9223372036854775808) : bits BinOp.and IntKind.i64 (x : Int) 1 = ((x % 2 : Nat) : Int) := by
  have := bits_mask .i64 63 (by decide) (fun n h0 h1 => IntWalk.i64_in n (by omega)) 1 (by decide) (x : Int) (by omega) (by omega)
  simpa using this
/-- Is a branch in a label? -/
def inL (label who : Nat) : Bool := label.testBit who
def labInts (labs : List Nat) : List Int := List.map (fun x : Nat => (x : Int)) labs
theorem labInts_length (l : List Nat) : (labInts l).length = l.length := by simp [labInts]
theorem labInts_length' (l : List Nat) : (labInts l).length = l.length := by simp [labInts]
theorem if_congr' {α : Type} {p q : Prop} [Decidable p] [Decidable q] (h : p ↔ q) (a b : α) : (if p then a else b) = if q then a else b := by
  by_cases hp : p
  · rw [if_pos hp, if_pos (h.1 hp)]
  · rw [if_neg hp, if_neg (fun hq => hp (h.2 hq))]
def lb (labs : List Nat) (j i : Nat) : Bool := inL (labs.getD j 0) i
theorem lb_none {labs : List Nat} {j i : Nat} (h : labs.length ≤ j) : lb labs j i = false := by
  unfold lb; rw [List.getD_eq_getElem?_getD, List.getElem?_eq_none h]; simp [inL]
theorem lb_at {labs : List Nat} {j i : Nat} (h : j < labs.length) : lb labs j i = inL labs[j] i := by
  unfold lb; rw [List.getD_eq_getElem?_getD, List.getElem?_eq_getElem h]; rfl
end Go.Proofs.YtjdedflfdlhkdaaGreatDoor

namespace Go.Proofs.YtjdedflfdlhkdaaGreatDoor
open Go.ChangeShapes Go.WideShapes Go.ChangeAt Go.RowKit
set_option linter.unusedVariables false
set_option linter.unusedSimpArgs false

set_option maxRecDepth 100000 in
set_option maxHeartbeats 4000000 in
theorem cNext {w : World} {g m : Nat} {vs : Nat → Value} {l : Nat → List Ent} (h : StoreAt w g m vs l) (j : Nat) (hj : j < m) (hm : m ≤ 4) :
    Calls Tryz.prog 110 #[.slice (some ⟨g, 0, none⟩) m m, .int .i64 j] w fun e w' => e = .returned (.int .i64 (maxT (l j) + 1)) ∧ Below w.heap.size w w' := by
  obtain ⟨c0, f0⟩ := h.cell j hj
  have HR := Lib.hid (h.rows j hj).has
  have hok := (h.ok j hj).may.ok
  have hjz : (j : Int) < (m : Int) := by omega
  obtain ⟨_, aj, cj, hvj, _, hcm, _⟩ := (h.rows j hj).has
  unfold maxLen at hcm
  rw [hvj] at c0 HR
  generalize l j = a at *
  have Hok := Lib.hid hok
  have hT0 : maxT (a.take 0) = 0 := rfl
  have hmb : Hid (∀ k, 0 ≤ maxT (a.take k) ∧ maxT (a.take k) ≤ 1048576) := fun k => ⟨maxT_nonneg _, maxT_le (by omega) fun e he => (Hok.out e (List.mem_of_mem_take he)).t.2⟩
  clear h hok hvj f0
  go_enter Tryz.func110, Tryz.ntmps110
  go_wp2_with fail
  go_loopw [5, 7, 13] (fun t _ i wr => ∃ k : Nat, k ≤ a.length ∧ i = .int .i64 k ∧ t = .int .i64 (maxT (a.take k)) ∧ Hid (Below w.heap.size w wr)) (fun _ _ i _ => a.length - (intOf i).toNat)
  case atStart => exact ⟨0, by omega, rfl, rfl, Below.refl _ _⟩
  case round =>
    obtain ⟨k, hk, rfl, rfl, HB⟩ := hrel
    by_cases hlt : k < a.length
    · have hltz : (k : Int) < (a.length : Int) := by omega
      obtain ⟨b, off, cap, he, -, x0, x1, x2, x3, x4⟩ := ent_get HR.out k hlt
      simp only [Value.slice.injEq] at he
      obtain ⟨rfl, -, rfl⟩ := he
      replace x0 := cell_on HB.out x0
      replace x1 := cell_on HB.out x1
      replace x2 := cell_on HB.out x2
      replace x3 := cell_on HB.out x3
      replace x4 := cell_on HB.out x4
      have hbl := World.block_lt_of_cell? wr _ x0
      have hsn : maxT (a.take (k + 1)) = max (maxT (a.take k)) a[k].t := by rw [take_snoc a k hlt, maxT_snoc]
      have Hsn := Lib.hid hsn
      generalize a[k] = x at *
      generalize maxT (a.take k) = t at *
      have HB2 : Hid (Below w.heap.size w (wr.alloc (.cells #[.int .i64 x.k, .int .i64 x.v, .int .i64 x.t, .int .i64 x.h, .bool x.g] 77))) := HB.out.trans ((ent_box (w := wr) x).mono HB.out.size)
      obtain ⟨⟨z0, z1, z2, z3, z4⟩, -⟩ := five_at (heap_alloc_new wr (.cells #[.int .i64 x.k, .int .i64 x.v, .int .i64 x.t, .int .i64 x.h, .bool x.g] 77))
      clear hsn
      go_wp2_with fail
      all_goals
        go_roundw
        case rel => exact ⟨k + 1, by omega, by go_num, by rw [Hsn.out]; first | rfl | (congr 1; omega), HB2⟩
        case measure => first | (simp [intOf]; done) | (simp [intOf]; omega)
    · obtain rfl : k = a.length := by omega
      obtain ⟨b0, b1⟩ := hmb.out a.length
      rw [List.take_of_length_le (Nat.le_refl _)] at b0 b1 ⊢
      have hw : IntKind.i64.wrap (maxT a + 1) = maxT a + 1 := IntWalk.i64_in _ (by omega)
      go_wp2_with fail
      go_ret
      exact ⟨rfl, HB.out⟩
set_option maxRecDepth 100000 in
set_option maxHeartbeats 4000000 in
theorem cPut {w : World} {g m : Nat} {vs : Nat → Value} {l : Nat → List Ent} (h : StoreAt w g m vs l) (j : Nat) (hj : j < m) (hm : m ≤ 4) (who key value : Int) (gone : Bool) (hok : Ent.Ok ⟨key, value, maxT (l j) + 1, who, gone⟩) (hk : 0 ≤ key ∧ key < 8) :
    Calls Tryz.prog 89 #[.slice (some ⟨g, 0, none⟩) m m, .int .i64 j, .int .i64 who, .int .i64 key, .int .i64 value, .bool gone] w fun e w' => e = .returned (.tuple #[]) ∧ ∃ v', StoreAt w' g m (updF vs j v') (updF l j (mergeL (l j) [⟨key, value, maxT (l j) + 1, who, gone⟩])) ∧ w.grownBy w' (some g) := by
  have H := Lib.hid h
  have CN := Lib.hid (cNext h j hj hm)
  have h8 := Lib.hid (EightL.one hok hk)
  generalize maxT (l j) + 1 = t at *
  clear h hok
  go_enter Tryz.func89, Tryz.ntmps89
  go_wp2_with fail
  refine CN.out.mono ?_
  rintro e w1 ⟨rfl, hb1⟩
  have Hb1 := Lib.hid hb1
  have hb2 := ent_box (w := w1) ⟨key, value, t, who, gone⟩
  have hb3 := ent_box (w := w1.alloc (.cells #[.int .i64 key, .int .i64 value, .int .i64 t, .int .i64 who, .bool gone] 77)) ⟨key, value, t, who, gone⟩
  simp only at hb2 hb3
  obtain ⟨⟨z0, z1, z2, z3, z4⟩, -⟩ := five_at (heap_alloc_new w1 (.cells #[.int .i64 key, .int .i64 value, .int .i64 t, .int .i64 who, .bool gone] 77))
  have hnew := heap_alloc_new (w1.alloc (.cells #[.int .i64 key, .int .i64 value, .int .i64 t, .int .i64 who, .bool gone] 77)) (.cells #[.int .i64 key, .int .i64 value, .int .i64 t, .int .i64 who, .bool gone] 77)
  have hB : Below w.heap.size w ((w1.alloc (.cells #[.int .i64 key, .int .i64 value, .int .i64 t, .int .i64 who, .bool gone] 77)).alloc (.cells #[.int .i64 key, .int .i64 value, .int .i64 t, .int .i64 who, .bool gone] 77)) :=
    (hb1.trans (hb2.mono hb1.size)).trans (hb3.mono (hb1.trans (hb2.mono hb1.size)).size)
  have CL := Lib.hid (cLearn (H.out.on hB) j hj hm (.slice (some ⟨(w1.alloc (.cells #[.int .i64 key, .int .i64 value, .int .i64 t, .int .i64 who, .bool gone] 77)).heap.size, 0, none⟩) 1 1) [⟨key, value, t, who, gone⟩] (has_block (wp := w1.alloc (.cells #[.int .i64 key, .int .i64 value, .int .i64 t, .int .i64 who, .bool gone] 77)) (cs := ents [⟨key, value, t, who, gone⟩]) hnew rfl rfl (by decide)) h8.out)
  have HB := Lib.hid hB
  clear hb1 hb2 hb3 hnew hB CN
  go_wp2_with fail
  have es : (w1.alloc (.cells #[.int .i64 key, .int .i64 value, .int .i64 t, .int .i64 who, .bool gone] 77)).heap.size = w1.heap.size + 1 := by simp
  rw [es] at CL
  refine CL.out.mono ?_
  rintro e w2 ⟨rfl, v', hs, hg⟩
  have hfin : StoreAt w2 g m (updF vs j v') (updF l j (mergeL (l j) [⟨key, value, t, who, gone⟩])) ∧ w.grownBy w2 (some g) := by
    refine ⟨hs, ⟨hg.os.trans HB.out.os, hg.tape.trans HB.out.tape, hg.output.trans HB.out.output, Nat.le_trans HB.out.size hg.size, fun k hk hne => ?_⟩⟩
    rw [hg.block k (Nat.lt_of_lt_of_le hk HB.out.size) hne]; exact HB.out.block k hk
  have Hfin := Lib.hid hfin
  clear hs hg hfin CL
  go_wp2_with fail
  go_end0
  exact ⟨rfl, _, Hfin.out⟩
set_option maxRecDepth 100000 in
set_option maxHeartbeats 2000000 in
theorem cIn (label who : Nat) (hl : label < 256) (hw : who < 8) (w : World) :
    Calls Tryz.prog 38 #[.int .i64 label, .int .i64 who] w fun e w' => e = .returned (.bool (inL label who)) ∧ w = w' := by
  have hlt : label / 2 ^ who < 9223372036854775808 := Nat.lt_of_le_of_lt (Nat.div_le_self _ _) (by omega)
  have hb : Hid (∀ z : Int, z = (label : Int) / 2 ^ who → (bits BinOp.and IntKind.i64 z 1 == 1) = inL label who) := fun z hz => by
    have hc : (label : Int) / 2 ^ who = ((label / 2 ^ who : Nat) : Int) := by push_cast; rfl
    rw [hz, hc, andOne _ hlt, inL, Nat.testBit_eq_decide_div_mod_eq]
    rw [Bool.eq_iff_iff]
    simp only [beq_iff_eq, decide_eq_true_eq]
    omega
  clear hlt
  go_enter Tryz.func38, Tryz.ntmps38
  go_wp2_with fail
  go_ret
  exact ⟨ret_bool (hb.out _ rfl), rfl⟩
end Go.Proofs.YtjdedflfdlhkdaaGreatDoor

namespace Go.Proofs.YtjdedflfdlhkdaaGreatDoor
set_option linter.unusedVariables false
set_option linter.unusedSimpArgs false

theorem rev_ind {α : Type} {P : List α → Prop} (h0 : P []) (h1 : ∀ l a, P l → P (l ++ [a])) : ∀ (k : Nat) (l : List α), l.length = k → P l
  | 0, l, hl => by rw [List.length_eq_zero_iff.1 hl]; exact h0
  | k + 1, l, hl => by
    have hne : l ≠ [] := fun hh => by rw [hh] at hl; simp at hl
    rw [← List.dropLast_concat_getLast hne]
    exact h1 _ _ (rev_ind h0 h1 k _ (by simp; omega))
/-- What was merged is outdone by nothing that was merged. -/
theorem newest_stands (L : List Ent) (hok : ∀ e ∈ L, e.Ok) : ∀ y ∈ L, ∃ x, look (mergeL [] L) y.k = some x ∧ newer y x = false := by
  refine rev_ind (P := fun L => (∀ e ∈ L, e.Ok) → ∀ y ∈ L, ∃ x, look (mergeL [] L) y.k = some x ∧ newer y x = false) (fun _ y hy => by simp at hy) (fun l e ih hok y hy => ?_) _ L rfl hok
  have hl : ∀ x ∈ l, x.Ok := fun x hx => hok x (List.mem_append_left _ hx)
  have hm : MayL (mergeL [] l) := mergeL_may SixL.nil.may hl
  rw [mergeL_snoc, look_merge _ e hm.sorted]
  rcases List.mem_append.1 hy with hy | hy
  · obtain ⟨x, hx, hn⟩ := ih hl y hy
    by_cases c : y.k = e.k
    · rw [if_pos c]
      refine ⟨_, rfl, ?_⟩
      rw [hx]
      simp only [newest]
      by_cases c2 : newer e x = true
      · rw [if_pos c2]
        cases c3 : newer y e with
        | false => rfl
        | true => rw [nw_trans c3 c2] at hn; cases hn
      · rw [if_neg c2]; exact hn
    · rw [if_neg c]; exact ⟨x, hx, hn⟩
  · simp at hy; subst hy
    rw [if_pos rfl]
    refine ⟨_, rfl, ?_⟩
    cases hx : look (mergeL [] l) y.k with
    | none => simp only [newest]; exact nw_irrefl y
    | some x =>
      simp only [newest]
      by_cases c2 : newer y x = true
      · rw [if_pos c2]; exact nw_irrefl y
      · rw [if_neg c2]; simpa using c2
/-- The same members, the same list. -/
theorem merge_set {L M : List Ent} (hL : ∀ e ∈ L, e.Ok) (h : ∀ x, x ∈ L ↔ x ∈ M) : mergeL [] L = mergeL [] M := by
  have hM : ∀ e ∈ M, e.Ok := fun e he => hL e ((h e).2 he)
  have key : ∀ (A B : List Ent), (∀ e ∈ A, e.Ok) → (∀ e ∈ B, e.Ok) → (∀ x, x ∈ A → x ∈ B) → (∀ x, x ∈ B → x ∈ A) → ∀ k x, look (mergeL [] A) k = some x → look (mergeL [] B) k = some x := by
    intro A B hA hB h1 h2 k x hx
    obtain ⟨hm, hk⟩ := look_some hx
    have hxA : x ∈ A := by rcases mergeL_mem hm with hh | hh; simp at hh; exact hh
    obtain ⟨x', hx', hn⟩ := newest_stands B hB x (h1 x hxA)
    rw [hk] at hx'
    obtain ⟨hm', hk'⟩ := look_some hx'
    have hxB : x' ∈ B := by rcases mergeL_mem hm' with hh | hh; simp at hh; exact hh
    obtain ⟨x'', hx'', hn'⟩ := newest_stands A hA x' (h2 x' hxB)
    rw [hk', hx] at hx''
    simp only [Option.some.injEq] at hx''
    subst hx''
    rw [hx', nw_total (by rw [hk, hk']) hn hn']
  refine look_ext _ _ (mergeL_may SixL.nil.may hL).sorted (mergeL_may SixL.nil.may hM).sorted fun k => ?_
  cases hx : look (mergeL [] L) k with
  | some x => exact (key L M hL hM (fun x => (h x).1) (fun x => (h x).2) k x hx).symm
  | none =>
    cases hy : look (mergeL [] M) k with
    | none => rfl
    | some y => rw [key M L hM hL (fun x => (h x).2) (fun x => (h x).1) k y hy] at hx; cases hx
/-- Of a sorted list. -/
theorem look_at {a : List Ent} (ha : MayL a) (k : Nat) (hk : k < a.length) : look a a[k].k = some a[k] := by
  cases hx : look a a[k].k with
  | none =>
    unfold look at hx
    rw [List.find?_eq_none] at hx
    exact absurd (hx a[k] (List.getElem_mem hk)) (by simp)
  | some x =>
    obtain ⟨hm, hkk⟩ := look_some hx
    obtain ⟨j, hj, rfl⟩ := List.mem_iff_getElem.1 hm
    have hpw := List.pairwise_iff_getElem.1 ha.sorted
    rcases Nat.lt_trichotomy j k with h | h | h
    · have := hpw j k hj hk h; omega
    · subst h; rfl
    · have := hpw k j hk hj h; omega
/-- The notes from the other end, from some place on. -/
def turned (l : List Ent) (n r : Nat) : Nat → List Ent
  | 0 => []
  | i + 1 => (match l[(i + r) % n]? with | some x => x | none => ⟨0, 0, 0, 0, false⟩) :: turned l n r i
theorem turned_length (l : List Ent) (n r : Nat) : ∀ i, (turned l n r i).length = i
  | 0 => rfl
  | i + 1 => by simp [turned, turned_length l n r i]
theorem turned_mem (l : List Ent) (n r : Nat) (hn : n ≤ l.length) (h0 : 0 < n) (x : Ent) : x ∈ turned l n r n ↔ x ∈ l.take n := by
  have hin : ∀ i x, x ∈ turned l n r i ↔ ∃ j, j < i ∧ l[(j + r) % n]? = some x := by
    intro i
    induction i with
    | zero => intro x; simp [turned]
    | succ i ih =>
      intro x
      have hlt : (i + r) % n < l.length := Nat.lt_of_lt_of_le (Nat.mod_lt _ h0) hn
      simp only [turned, List.getElem?_eq_getElem hlt, List.mem_cons, ih]
      constructor
      · rintro (rfl | ⟨j, hj, hh⟩)
        · exact ⟨i, by omega, List.getElem?_eq_getElem hlt⟩
        · exact ⟨j, by omega, hh⟩
      · rintro ⟨j, hj, hh⟩
        by_cases e : j = i
        · subst e
          rw [List.getElem?_eq_getElem hlt] at hh
          simp only [Option.some.injEq] at hh
          exact .inl hh.symm
        · exact .inr ⟨j, by omega, hh⟩
  rw [hin]
  constructor
  · rintro ⟨j, hj, hh⟩
    rw [List.mem_take_iff_getElem]
    have hm := Nat.mod_lt (j + r) h0
    obtain ⟨h1, h2⟩ := List.getElem?_eq_some_iff.1 hh
    exact ⟨(j + r) % n, by omega, h2⟩
  · intro hx
    rw [List.mem_take_iff_getElem] at hx
    obtain ⟨i, hi, rfl⟩ := hx
    have hi' : i < n := by omega
    refine ⟨(i + (n - r % n)) % n, Nat.mod_lt _ h0, ?_⟩
    have hr := Nat.mod_lt r h0
    have e : ((i + (n - r % n)) % n + r) % n = i := by
      have h1 : (i + (n - r % n) + r) % n = i := by
        have h2 : i + (n - r % n) + r = i + n * (1 + r / n) := by
          have := Nat.div_add_mod r n
          rw [Nat.mul_add, Nat.mul_one]; omega
        rw [h2, Nat.add_mul_mod_self_left, Nat.mod_eq_of_lt hi']
      rw [Nat.add_mod, Nat.mod_mod, ← Nat.add_mod]; exact h1
    rw [e]
    exact List.getElem?_eq_getElem (by omega)
end Go.Proofs.YtjdedflfdlhkdaaGreatDoor

namespace Go.Proofs.YtjdedflfdlhkdaaGreatDoor
open Go.ChangeShapes Go.WideShapes Go.ChangeAt Go.RowKit
set_option linter.unusedVariables false
set_option linter.unusedSimpArgs false

def liveK (l : List Ent) (k : Int) : Bool := match look l k with | some e => !e.g | none => false
set_option maxRecDepth 100000 in
set_option maxHeartbeats 4000000 in
theorem cFind {w : World} {g m : Nat} {vs : Nat → Value} {l : Nat → List Ent} (h : StoreAt w g m vs l) (j : Nat) (hj : j < m) (hm : m ≤ 4) (key : Int) :
    Calls Tryz.prog 90 #[.slice (some ⟨g, 0, none⟩) m m, .int .i64 j, .int .i64 key] w fun e w' => ∃ x : Ent, e = .returned (.tuple #[.agg #[.int .i64 x.k, .int .i64 x.v, .int .i64 x.t, .int .i64 x.h, .bool x.g], .bool (liveK (l j) key)]) ∧ Below w.heap.size w w' := by
  obtain ⟨c0, f0⟩ := h.cell j hj
  have HR := Lib.hid (h.rows j hj).has
  have HM := Lib.hid (h.ok j hj).may
  have hgl := h.lt
  have hjz : (j : Int) < (m : Int) := by omega
  obtain ⟨_, aj, cj, hvj, _, hcm, _⟩ := (h.rows j hj).has
  unfold maxLen at hcm
  rw [hvj] at c0 HR
  generalize l j = a at *
  have hb0 : Below w.heap.size w (w.alloc (.cells #[.int .i64 0, .int .i64 0, .int .i64 0, .int .i64 0, .bool false] 77)) := (Below.refl _ _).alloc (Nat.le_refl _) _
  have hF := heap_alloc_new w (.cells #[.int .i64 0, .int .i64 0, .int .i64 0, .int .i64 0, .bool false] 77)
  have hs0 : w.heap.size < (w.alloc (.cells #[.int .i64 0, .int .i64 0, .int .i64 0, .int .i64 0, .bool false] 77)).heap.size := by simp
  replace c0 := cell_on hb0 c0
  have HF := Lib.hid hF
  have HB0 := Lib.hid hb0
  clear h hvj f0 hb0 hF
  go_enter Tryz.func90, Tryz.ntmps90
  go_upto_region 1 with (fail)
  generalize w.alloc (.cells #[.int .i64 0, .int .i64 0, .int .i64 0, .int .i64 0, .bool false] 77) = W at *
  go_wp2_with fail
  go_loopw [9, 15] (fun _ i wr => ∃ k : Nat, k ≤ a.length ∧ i = .int .i64 k ∧ Hid (∀ x (hx : x < a.length), x < k → a[x].k ≠ key) ∧ Hid (Below W.heap.size W wr)) (fun _ i _ => a.length - (intOf i).toNat)
  case atStart => exact ⟨0, by omega, rfl, fun x _ hx => absurd hx (by omega), Below.refl _ _⟩
  case round =>
    clear c0
    obtain ⟨k, hk, rfl, HH, HB⟩ := hrel
    have hFr : wr.heap[w.heap.size]? = some (.cells #[.int .i64 0, .int .i64 0, .int .i64 0, .int .i64 0, .bool false] 77 (0, 0)) := by rw [HB.out.block _ hs0]; exact HF.out
    have hFlt := (Array.getElem?_eq_some_iff.1 hFr).1
    have HBw : Hid (Below w.heap.size w wr) := HB0.out.trans (HB.out.mono HB0.out.size)
    by_cases hlt : k < a.length
    · have hltz : (k : Int) < (a.length : Int) := by omega
      obtain ⟨b, off, cap, he, -, x0, x1, x2, x3, x4⟩ := ent_get (HR.out.below HBw.out) k hlt
      simp only [Value.slice.injEq] at he
      obtain ⟨rfl, -, rfl⟩ := he
      have hbl := World.block_lt_of_cell? wr _ x0
      have hlook := Lib.hid (look_at HM.out k hlt)
      have hfin0 : Hid (a[k].k ≠ key → ∀ x (hx : x < a.length), x < k + 1 → a[x].k ≠ key) := fun hne x hx hxk => by
        by_cases e : x = k
        · subst e; exact hne
        · exact HH.out x hx (by omega)
      generalize a[k] = x at *
      have hbx := ent_box (w := wr) x
      obtain ⟨⟨z0, z1, z2, z3, z4⟩, -⟩ := five_at (heap_alloc_new wr (.cells #[.int .i64 x.k, .int .i64 x.v, .int .i64 x.t, .int .i64 x.h, .bool x.g] 77))
      have hFw : (wr.alloc (.cells #[.int .i64 x.k, .int .i64 x.v, .int .i64 x.t, .int .i64 x.h, .bool x.g] 77)).heap[w.heap.size]? = some (.cells #[.int .i64 0, .int .i64 0, .int .i64 0, .int .i64 0, .bool false] 77 (0, 0)) := by rw [hbx.block _ (Array.getElem?_eq_some_iff.1 hFr).1]; exact hFr
      have HB2 : Hid (Below W.heap.size W (wr.alloc (.cells #[.int .i64 x.k, .int .i64 x.v, .int .i64 x.t, .int .i64 x.h, .bool x.g] 77))) := HB.out.trans (hbx.mono HB.out.size)
      have HBw2 : Hid (Below w.heap.size w (wr.alloc (.cells #[.int .i64 x.k, .int .i64 x.v, .int .i64 x.t, .int .i64 x.h, .bool x.g] 77))) := HBw.out.trans (hbx.mono HBw.out.size)
      have HFw := Lib.hid hFw
      clear hbx hFr HB HBw hFw
      by_cases hc : x.k = key
      · have hcb : (x.k == key) = true := by simpa using hc
        have hlv : Hid (liveK a key = !x.g) := by
          show _ = _
          unfold liveK; rw [← hc, hlook.out]
        clear hc hfin0 hlook HH
        obtain ⟨⟨y0, y1, y2, y3, y4⟩, yf⟩ := five_at HFw.out
        have yf0 := yf 0
        have yf1 := yf 1
        have yf2 := yf 2
        have yf3 := yf 3
        have yf4 := yf 4
        clear yf
        go_upto_region 5 with (fail)
        generalize wr.alloc (.cells #[.int .i64 x.k, .int .i64 x.v, .int .i64 x.t, .int .i64 x.h, .bool x.g] 77) = W2 at *
        obtain ⟨⟨t0, t1, t2, t3, t4⟩, -⟩ := five_at (five_put HFw.out (.int .i64 x.k) (.int .i64 x.v) (.int .i64 x.t) (.int .i64 x.h) (.bool x.g))
        have hb6 : Below w.heap.size w (((((W2.setCell ⟨w.heap.size, 0, none⟩ (.int .i64 x.k)).setCell ⟨w.heap.size, 1, none⟩ (.int .i64 x.v)).setCell ⟨w.heap.size, 2, none⟩ (.int .i64 x.t)).setCell ⟨w.heap.size, 3, none⟩ (.int .i64 x.h)).setCell ⟨w.heap.size, 4, none⟩ (.bool x.g)) :=
          ((((HBw2.out.setCell (Nat.le_refl _) _).setCell (Nat.le_refl _) _).setCell (Nat.le_refl _) _).setCell (Nat.le_refl _) _).setCell (Nat.le_refl _) _
        go_region
        all_goals
          clear y0 y1 y2 y3 y4 yf0 yf1 yf2 yf3 yf4 z0 z1 z2 z3 z4 x0 x1 x2 x3 x4
          generalize (((((W2.setCell ⟨w.heap.size, 0, none⟩ (.int .i64 x.k)).setCell ⟨w.heap.size, 1, none⟩ (.int .i64 x.v)).setCell ⟨w.heap.size, 2, none⟩ (.int .i64 x.t)).setCell ⟨w.heap.size, 3, none⟩ (.int .i64 x.h)).setCell ⟨w.heap.size, 4, none⟩ (.bool x.g)) = w6 at *
          have u0 : w6.drew.cell? ⟨w.heap.size, 0, none⟩ = some (.int .i64 x.k) := t0
          have u1 : w6.drew.cell? ⟨w.heap.size, 1, none⟩ = some (.int .i64 x.v) := t1
          have u2 : w6.drew.cell? ⟨w.heap.size, 2, none⟩ = some (.int .i64 x.t) := t2
          have u3 : w6.drew.cell? ⟨w.heap.size, 3, none⟩ = some (.int .i64 x.h) := t3
          have u4 : w6.drew.cell? ⟨w.heap.size, 4, none⟩ = some (.bool x.g) := t4
          have Hb6 : Hid (Below w.heap.size w w6.drew) := hb6.drew
          generalize w6.drew = w7 at *
          clear t0 t1 t2 t3 t4 hb6
          go_wp2_with fail
          refine bodyPost_ret (v := .tuple #[.agg #[.int .i64 x.k, .int .i64 x.v, .int .i64 x.t, .int .i64 x.h, .bool x.g], .bool (!x.g)]) (by simp [results, Tryz.results90, go_sem, u0, u1, u2, u3, u4]) rfl ?_
          rw [hlv.out]
          first | exact ⟨⟨x, rfl⟩, Hb6.out⟩ | exact ⟨x, rfl, Hb6.out⟩
      · have hcb : (x.k == key) = false := by rw [beq_eq_false_iff_ne]; exact hc
        have hfin := Lib.hid (hfin0.out hc)
        clear hc hfin0 hlook HH
        go_wp2_with fail
        go_roundw
        case rel => exact ⟨k + 1, by omega, by go_num, hfin, HB2⟩
        case measure => first | (simp [intOf]; done) | (simp [intOf]; omega)
    · obtain rfl : k = a.length := by omega
      have hlv : Hid (liveK a key = false) := by
        show _ = _
        unfold liveK
        rw [look_none fun x hx => by obtain ⟨i, hi, rfl⟩ := List.mem_iff_getElem.1 hx; exact HH.out i hi hi]
      obtain ⟨⟨y0, y1, y2, y3, y4⟩, yf⟩ := five_at hFr
      have yf0 := yf 0
      have yf1 := yf 1
      have yf2 := yf 2
      have yf3 := yf 3
      have yf4 := yf 4
      obtain ⟨⟨t0, t1, t2, t3, t4⟩, -⟩ := five_at (five_put hFr (.int .i64 0) (.int .i64 0) (.int .i64 0) (.int .i64 0) (.bool false))
      have hb6 : Below w.heap.size w (((((wr.setCell ⟨w.heap.size, 0, none⟩ (.int .i64 0)).setCell ⟨w.heap.size, 1, none⟩ (.int .i64 0)).setCell ⟨w.heap.size, 2, none⟩ (.int .i64 0)).setCell ⟨w.heap.size, 3, none⟩ (.int .i64 0)).setCell ⟨w.heap.size, 4, none⟩ (.bool false)) :=
        ((((HBw.out.setCell (Nat.le_refl _) _).setCell (Nat.le_refl _) _).setCell (Nat.le_refl _) _).setCell (Nat.le_refl _) _).setCell (Nat.le_refl _) _
      clear yf HH hFr
      go_wp2_with fail
      clear y0 y1 y2 y3 y4 yf0 yf1 yf2 yf3 yf4
      generalize (((((wr.setCell ⟨w.heap.size, 0, none⟩ (.int .i64 0)).setCell ⟨w.heap.size, 1, none⟩ (.int .i64 0)).setCell ⟨w.heap.size, 2, none⟩ (.int .i64 0)).setCell ⟨w.heap.size, 3, none⟩ (.int .i64 0)).setCell ⟨w.heap.size, 4, none⟩ (.bool false)) = w6 at *
      refine bodyPost_ret (v := .tuple #[.agg #[.int .i64 0, .int .i64 0, .int .i64 0, .int .i64 0, .bool false], .bool false]) (by simp [results, Tryz.results90, go_sem, t0, t1, t2, t3, t4]) rfl ?_
      rw [hlv.out]
      exact ⟨⟨0, 0, 0, 0, false⟩, rfl, hb6⟩
end Go.Proofs.YtjdedflfdlhkdaaGreatDoor

namespace Go.Proofs.YtjdedflfdlhkdaaGreatDoor
open Go.ChangeShapes Go.WideShapes Go.ChangeAt Go.RowKit
set_option linter.unusedVariables false
def u8s (l : List Nat) : List Value := l.map fun (b : Nat) => Value.int .u8 (b : Int)
@[simp] theorem u8s_length (l : List Nat) : (u8s l).length = l.length := by simp [u8s]
theorem u8s_get (l : List Nat) (j : Nat) (h : j < l.length) : (u8s l)[j]? = some (.int .u8 l[j]) := by simp [u8s, h]
theorem u8s_all (l : List Nat) : (u8s l).all Value.oneCell' = true := by
  rw [List.all_eq_true]; intro v hv; obtain ⟨z, _, rfl⟩ := List.mem_map.1 hv; rfl
theorem elByte : Elem Tryz.prog 5 1 1 (.int .u8 0) := .of (by kernel_rfl) rfl (by decide)
theorem take_succ_eq {α : Type} (l1 l2 : List α) (k : Nat) (h1 : k < l1.length) (h2 : k < l2.length) (h : l1.take k = l2.take k) (he : l1[k] = l2[k]) : l1.take (k + 1) = l2.take (k + 1) := by
  rw [take_snoc _ _ h1, take_snoc _ _ h2, h, he]
end Go.Proofs.YtjdedflfdlhkdaaGreatDoor

namespace Go.Proofs.YtjdedflfdlhkdaaGreatDoor
open Go.ChangeShapes Go.WideShapes Go.ChangeAt Go.RowKit
set_option linter.unusedVariables false
set_option linter.unusedSimpArgs false

theorem arrKey : WideMaps.ArrKey Tryz.prog 167 3 2 := ⟨Tryz.underlying167, by kernel_rfl, by kernel_rfl, by kernel_rfl⟩
theorem sizeSome : ∃ m, Tryz.prog.types.size = m + 1 := ⟨Tryz.prog.types.size - 1, by
  have : 0 < Tryz.prog.types.size := by decide +kernel
  omega⟩
theorem pairKeyed : Maps.Keyed Tryz.prog 167 := Maps.Keyed.of_law (deep_law_laid (by kernel_rfl) (m := 5) (by omega) (by decide +kernel) (by kernel_rfl) (by rw [Tryz.underlying167]))
/-- What a pair reads as, as a key. -/
def pk (a b : Int) : Lit := .string (keyBytes [.int .i64 a, .int .i64 b])
theorem pk_of {a b : Int} (ha : (Lit.int .i64 a).wf = true) (hb : (Lit.int .i64 b).wf = true) : keyOf Tryz.prog 167 (.agg #[.int .i64 a, .int .i64 b]) = some (pk a b) :=
  WideMaps.keyOf_pair arrKey Tryz.underlying3 sizeSome ha hb
theorem pk_inj {a b c d : Int} (ha : (Lit.int .i64 a).wf = true) (hb : (Lit.int .i64 b).wf = true) (hc : (Lit.int .i64 c).wf = true) (hd : (Lit.int .i64 d).wf = true) (h : pk a b = pk c d) : a = c ∧ b = d := by
  have h1 := pk_of ha hb
  rw [h] at h1
  have := pairKeyed.inj h1 (pk_of hc hd)
  simpa using this
theorem zeroInt (w : World) : (zeroValue 3).run Tryz.prog w = .ok (.int .i64 0) w := by kernel_rfl
def updW (f : Int → Int → Int) (a b v : Int) : Int → Int → Int := fun x y => if x = a ∧ y = b then v else f x y
/-- Block b is a map of at most n ways; f: what stands at each. -/
def Ways (w : World) (b n : Nat) (f : Int → Int → Int) : Prop :=
  ∃ D : DataW Unit, w.ownsMap Tryz.prog 167 (plainElem Tryz.prog 3) b n D ∧ Maps.IsMap D ∧ ∀ x y, (Lit.int .i64 x).wf = true → (Lit.int .i64 y).wf = true → D.atKey (pk x y) (.lit (.int .i64 0)) = .lit (.int .i64 (f x y))
theorem Ways.made (w : World) : Ways (w.alloc (.map #[] 0)) w.heap.size 0 fun _ _ => 0 :=
  ⟨.map [], World.ownsMap_made _ _ _ _, Maps.isMap_empty, fun x y _ _ => rfl⟩
theorem Ways.kept {w w' : World} {b n : Nat} {f : Int → Int → Int} (h : Ways w b n f) (hb : w'.heap[b]? = w.heap[b]?) : Ways w' b n f := by
  obtain ⟨D, ⟨es, c, h1, h2, h3, h4⟩, hm, hD⟩ := h
  exact ⟨D, ⟨es, c, by rw [hb]; exact h1, h2, h3, h4⟩, hm, hD⟩
theorem Ways.block {w : World} {b n : Nat} {f : Int → Int → Int} (h : Ways w b n f) : ∃ es c, w.heap[b]? = some (.map es c) := by
  obtain ⟨D, ⟨es, c, h1, _⟩, _⟩ := h
  exact ⟨es, c, h1⟩
theorem Ways.lt {w : World} {b n : Nat} {f : Int → Int → Int} (h : Ways w b n f) : b < w.heap.size := by
  obtain ⟨es, c, h⟩ := h.block
  exact (Array.getElem?_eq_some_iff.1 h).1
theorem Ways.look {w : World} {b n : Nat} {f : Int → Int → Int} (h : Ways w b n f) {x y : Int} (hx : (Lit.int .i64 x).wf = true) (hy : (Lit.int .i64 y).wf = true) :
    (Instr.lookup 127 (.map (some b)) (.agg #[.int .i64 x, .int .i64 y]) false).run Tryz.prog w = .ok (.int .i64 (f x y)) w := by
  obtain ⟨D, h1, hm, hD⟩ := h
  obtain ⟨c, hr, hat, _⟩ := h1.lookup_int pairKeyed Tryz.underlying127 Tryz.underlying3 (zeroInt w) (pk_of hx hy)
  rw [hD x y hx hy] at hat
  simp only [DataW.lit.injEq, Lit.int.injEq, true_and] at hat
  rw [hat]; exact hr
theorem Ways.store {w : World} {b n : Nat} {f : Int → Int → Int} (h : Ways w b n f) (hn : n < maxLen) {x y v : Int} (hx : (Lit.int .i64 x).wf = true) (hy : (Lit.int .i64 y).wf = true) (hv : (Lit.int .i64 v).wf = true) :
    ∃ w', (Instr.mapUpdate 127 (.map (some b)) (.agg #[.int .i64 x, .int .i64 y]) (.int .i64 v)).run Tryz.prog w = .ok () w' ∧ Ways w' b (n + 1) (updW f x y v) ∧ w.grownBy w' (some b) := by
  obtain ⟨D, h1, hm, hD⟩ := h
  obtain ⟨w', hr, ho, hg⟩ := h1.update pairKeyed Tryz.underlying127 hn (pk_of hx hy) (plainElem_int Tryz.underlying3 hv)
  refine ⟨w', hr, ⟨_, ho, hm.put _ _, fun x' y' hx' hy' => ?_⟩, hg⟩
  unfold updW
  by_cases e : x' = x ∧ y' = y
  · obtain ⟨rfl, rfl⟩ := e
    rw [if_pos ⟨rfl, rfl⟩, Maps.atKey_put_same hm (pairKeyed.key (pk_of hx hy))]
  · rw [if_neg e, Maps.atKey_put_other (fun hh => e (pk_inj hx' hy' hx hy hh)), hD x' y' hx' hy']
end Go.Proofs.YtjdedflfdlhkdaaGreatDoor

namespace Go.Proofs.YtjdedflfdlhkdaaGreatDoor
open Go.ChangeShapes Go.WideShapes Go.ChangeAt Go.RowKit
set_option linter.unusedVariables false
set_option maxRecDepth 100000 in
set_option maxHeartbeats 1000000 in
theorem cclone_u8 (v : Value) (n : Nat) (xs : List Value) (w : World) (h : Has w 1 v n xs) (h1 : xs.all Value.oneCell' = true) (hbytes : n * 1 ≤ 140737488355328) :
    Calls Tryz.prog 39 #[v] w fun e w' => ∃ v', e = .returned v' ∧ w'.ownsRow w.heap.size 5 1 v' n xs ∧ Below w.heap.size w w' := by
  obtain ⟨⟨hl, hnil⟩, a, cap, rfl, hn, hm, hc⟩ := h
  have q := fun w a n c n' c' => eql_nil Tryz.underlying55 w a n c n' c'
  have H1 := Lib.hid h1
  cases a with
  | none =>
    obtain ⟨rfl, rfl⟩ := hnil _ _ rfl
    obtain rfl : xs = [] := List.eq_nil_of_length_eq_zero (by simpa using hl)
    clear hc hnil hl h1
    go_enter Tryz.func39, Tryz.ntmps39
    go_wp2
    go_ret
    exact ⟨_, rfl, World.ownsRow_nil _ _ _ _, Below.refl _ _⟩
  | some a =>
    have Hs : Hid (∀ X, Below w.heap.size w X → Has X 1 (.slice (some a) n cap) n xs) := fun X hX => Has.below ⟨⟨hl, hnil⟩, some a, cap, rfl, hn, hm, hc⟩ hX
    have hn' : 0 + n ≤ maxLen := by omega
    have Hl := Lib.hid hl
    clear hc hnil hl h1
    go_enter Tryz.func39, Tryz.ntmps39
    go_wp2_with (at_builtin; refine wp_appN (w0 := w.alloc (.cells #[] 5)) 55 5 1 1 _ elByte Tryz.underlying55 w.heap.size _ _ _ (World.ownsRow_made w #[] 0 (Nat.le_refl _) (Nat.zero_le _) rfl) (by repeat (first | exact Below.refl _ _ | refine Below.drew ?_ | refine Below.alloc ?_ (by first | (simp; done) | (simp; omega)) _ | refine Below.setCell ?_ (by first | (simp; done) | (simp; omega)) _)) _ _ _ (Hs.out _ ((Below.refl _ _).alloc (Nat.le_refl _) _)) rfl _ _ rfl rfl rfl H1.out (by omega) hn' (by simp) ?_; intro v3 w3 hown3 hgrow3 hb3)
    go_wp2
    go_ret
    exact ⟨_, rfl, by simpa using hown3, ((Below.refl _ w).alloc (Nat.le_refl _) _).trans hb3⟩

end Go.Proofs.YtjdedflfdlhkdaaGreatDoor

namespace Go.Proofs.YtjdedflfdlhkdaaGreatDoor
open Go.ChangeShapes Go.WideShapes Go.ChangeAt Go.RowKit
set_option linter.unusedVariables false

section
variable {P : Program} {ops : Array Oper} {o : Oper} {a : Act} {K : Act → World → Prop} {Q : Exit → Act → World → Prop}
theorem wp_appN_at {w0 wx : World} (t e : TypeId) (size bytes : Nat) (z : Value) (hE : Elem P e size bytes z) (ht : P.underlying t = some (.slice e)) (base : Nat) (v : Value) (n : Nat) (xs : List Value)
    (hown : w0.ownsRow base e size v n xs) (hX : Below w0.heap.size w0 wx) (vx : Value) (m : Nat) (ys : List Value) (hsrc : Has wx size vx m ys) (s x : Operand) (ho : o.op = .call { callee := .builtin .append, args := #[s, x], argTypes := #[t, t] })
    (hs : a.eval s = v) (hx : a.eval x = vx) (h1 : ys.all Value.oneCell' = true) (hbytes : (n + m) * bytes ≤ 140737488355328) (hn : n + m ≤ maxLen) (hbase : base ≤ w0.heap.size)
    (h : ∀ v' w', w'.ownsRow base e size v' (n + m) (xs ++ ys) → w0.grownBy w' v.ownBlock → Below base w0 w' → K (a.put o.dst v') w') : o.wp P a wx K Q := by
  obtain ⟨i, hi, hz0, hz1, hz2, hz3, hz4⟩ := hE
  have hbase' := Nat.le_trans hbase hX.size
  obtain ⟨⟨hl, hnil⟩, ad, cap, rfl, hm1, hm2, hc⟩ := hsrc
  have fin : ∀ w', wx.grownBy w' v.ownBlock → w0.grownBy w' v.ownBlock ∧ Below base w0 w' := fun w' h3 => by
    have h3' : w0.grownBy w' v.ownBlock := by
      refine ⟨h3.os.trans hX.os, h3.tape.trans hX.tape, h3.output.trans hX.output, Nat.le_trans hX.size h3.size, fun k hk hne => ?_⟩
      have := hX.size
      rw [h3.block k (by omega) hne]
      exact hX.block k hk
    exact ⟨h3', below_grown hown h3' hbase⟩
  cases ad with
  | none =>
    obtain ⟨rfl, rfl⟩ := hnil _ _ rfl
    obtain rfl : ys = [] := List.eq_nil_of_length_eq_zero (by simpa using hl)
    have hown' := owns_below hown hX
    obtain ⟨f1, f2⟩ := fin wx ⟨rfl, rfl, rfl, Nat.le_refl _, fun _ _ _ => rfl⟩
    have hrun := run_append_owned_none (P := P) (w := wx) base t o.type e i size ht hi v n xs hown'
    have hk := h v wx (by simpa using hown') f1 f2
    unfold Oper.wp
    simp [execOp, ho, resolve, invoke, builtin, hs, hx, hrun, Result.andThen]
    exact hk
  | some ad =>
    refine wp_append_own wx s x t ho base e i z size bytes ht hi hz0 hz1 hz2 hz3 hz4 v n xs hs (owns_below hown hX) ad m cap ys hx hl ?_ (fun u hu => List.all_eq_true.1 h1 u hu) hn hbytes hbase' ?_
    · intro j u hu
      have hp : 0 < ys.length := by have := (List.getElem?_eq_some_iff.1 hu).1; omega
      obtain ⟨b, off, e1, hcc⟩ := hc hp
      simp only [Option.some.injEq] at e1
      subst e1
      rw [addr_add _ _ rfl]
      exact hcc j u hu
    · intro v' w' h2 h3 _
      obtain ⟨f1, f2⟩ := fin w' h3
      exact h v' w' h2 f1 f2
theorem step_appN {E : Prop} {w0 wx : World} (hw : Region.wanted o (yielded ops a.tmps) = true) (t e : TypeId) (size bytes : Nat) (z : Value) (hE : Elem P e size bytes z) (ht : P.underlying t = some (.slice e)) (base : Nat) (v : Value) (n : Nat) (xs : List Value)
    (hown : w0.ownsRow base e size v n xs) (hX : Below w0.heap.size w0 wx) (vx : Value) (m : Nat) (ys : List Value) (hsrc : Has wx size vx m ys) (s x : Operand) (ho : o.op = .call { callee := .builtin .append, args := #[s, x], argTypes := #[t, t] })
    (hs : a.eval s = v) (hx : a.eval x = vx) (h1 : ys.all Value.oneCell' = true) (hbytes : (n + m) * bytes ≤ 140737488355328) (hn : n + m ≤ maxLen) (hbase : base ≤ w0.heap.size)
    (h : ∀ v' w', w'.ownsRow base e size v' (n + m) (xs ++ ys) → w0.grownBy w' v.ownBlock → Below base w0 w' → K (a.put o.dst v') w') :
    if Region.wanted o (yielded ops a.tmps) = true then Oper.wp P o a wx K Q else E := by
  rw [if_pos hw]
  exact wp_appN_at t e size bytes z hE ht base v n xs hown hX vx m ys hsrc s x ho hs hx h1 hbytes hn hbase h
/-- 'append(xs, ys...)' at an operation that is guarded, and wanted. -/
theorem wp_appNg {rest : List Oper} {w0 wx : World} (t e : TypeId) (size bytes : Nat) (z : Value) (hE : Elem P e size bytes z) (ht : P.underlying t = some (.slice e)) (base : Nat) (v : Value) (n : Nat) (xs : List Value)
    (hown : w0.ownsRow base e size v n xs) (hX : Below w0.heap.size w0 wx) (vx : Value) (m : Nat) (ys : List Value) (hsrc : Has wx size vx m ys) (hw : Region.wanted o (yielded ops a.tmps) = true) (s x : Operand) (ho : o.op = .call { callee := .builtin .append, args := #[s, x], argTypes := #[t, t] })
    (hs : a.eval s = v) (hx : a.eval x = vx) (h1 : ys.all Value.oneCell' = true) (hbytes : (n + m) * bytes ≤ 140737488355328) (hn : n + m ≤ maxLen) (hbase : base ≤ w0.heap.size)
    (h : ∀ v' w', w'.ownsRow base e size v' (n + m) (xs ++ ys) → w0.grownBy w' v.ownBlock → Below base w0 w' → wpList P ops Q rest (a.put o.dst v') w') : wpList P ops Q (o :: rest) a wx := by
  unfold wpList
  rw [if_pos hw]
  exact Or.inl (wp_appN_at t e size bytes z hE ht base v n xs hown hX vx m ys hsrc s x ho hs hx h1 hbytes hn hbase h)
theorem wanted_of_none (h : o.guard = none) : Region.wanted o (yielded ops a.tmps) = true := by simp [Region.wanted, h]
end
/-- A part of a row is a row. -/
theorem Has.cut {w : World} {b off n cap : Nat} {zs : List Int} (h : Has w 1 (.slice (some ⟨b, off, none⟩) n cap) zs.length (ints zs)) (i m c off' : Nat) (hoff : off' = off + i) (hj : i + m ≤ zs.length) (hc : m ≤ c) (hc' : c ≤ maxLen) :
    Has w 1 (.slice (some ⟨b, off', none⟩) m c) m (ints ((zs.drop i).take m)) := by
  subst hoff
  obtain ⟨_, a, cap', he, h1, h2, h3⟩ := h
  simp only [Value.slice.injEq] at he
  obtain ⟨rfl, rfl, rfl⟩ := he
  have hl : ((zs.drop i).take m).length = m := by simp; omega
  refine ⟨⟨by simp; omega, fun n cap h => by simp at h⟩, _, c, rfl, hc, hc', fun hp => ⟨b, off + i, rfl, fun k u hu => ?_⟩⟩
  have hk : k < ((zs.drop i).take m).length := by have := (List.getElem?_eq_some_iff.1 hu).1; simpa using this
  rw [ints_get _ _ hk] at hu
  have hk' : i + k < zs.length := by omega
  obtain ⟨b', off', e1, hcc⟩ := h3 (by simp; omega)
  simp only [Option.some.injEq, Addr.mk.injEq, and_true] at e1
  obtain ⟨rfl, rfl⟩ := e1
  rw [Nat.add_assoc, hcc _ _ (ints_get zs _ hk'), ← hu]
  simp [List.getElem_take]
/-- 'xs[k:]' as the model writes it. -/
theorem Has.cutEnd {w : World} {b n cap : Nat} {zs : List Int} (h : Has w 1 (.slice (some ⟨b, 0, none⟩) n cap) zs.length (ints zs)) (k : Nat) (hk : k ≤ zs.length) :
    Has w 1 (.slice (if cap = k then some ⟨b, 0, none⟩ else some ⟨b, k, none⟩) (zs.length - k) (cap - k)) (zs.length - k) (ints ((zs.drop k).take (zs.length - k))) := by
  have hc : zs.length ≤ cap ∧ cap ≤ maxLen := by
    obtain ⟨_, a, cap', he, h1, h2, h3⟩ := h
    simp only [Value.slice.injEq] at he
    obtain ⟨rfl, rfl, rfl⟩ := he
    exact ⟨h1, h2⟩
  have := maxLen
  by_cases e : cap = k
  · rw [if_pos e]
    exact h.cut 0 (zs.length - k) (cap - k) 0 rfl (by omega) (by omega) (by omega) |> fun h' => by
      have e0 : zs.length - k = 0 := by omega
      rw [e0] at h' ⊢
      simpa using h'
  · rw [if_neg e]
    exact h.cut k (zs.length - k) (cap - k) k (by omega) (by omega) (by omega) (by omega)
end Go.Proofs.YtjdedflfdlhkdaaGreatDoor

namespace Go.Proofs.YtjdedflfdlhkdaaGreatDoor
open Go.ChangeShapes Go.WideShapes Go.ChangeAt Go.RowKit
set_option linter.unusedVariables false
set_option linter.unusedSimpArgs false

theorem wof {F : Nat → Prop} {w w' : World} (h : Below w.heap.size w w') : Wrote F w w' := Wrote.of_below h (fun k h1 h2 => by omega)
theorem Wrote.to_below {F : Nat → Prop} {B : Nat} {a b : World} (h : Wrote F a b) (hB : B ≤ a.heap.size) (hF : ∀ k, F k → B ≤ k) : Below B a b := h.below hB hF
theorem Wrote.grown {F : Nat → Prop} {w w' : World} {v : Value} (hg : w.grownBy w' v.ownBlock) (hF : ∀ g, v.ownBlock = some g → F g) : Wrote F w w' :=
  ⟨hg.os, hg.tape, hg.output, hg.size, fun k hk hf => hg.block k hk fun e => hf (hF k e.symm)⟩
theorem Wrote.trans_new {F G : Nat → Prop} {a b c : World} (h : Wrote F a b) (k : Wrote G b c) (hG : ∀ i, i < a.heap.size → G i → F i) : Wrote F a c :=
  ⟨k.os.trans h.os, k.tape.trans h.tape, k.output.trans h.output, Nat.le_trans h.size k.size, fun i hi hf => (k.block i (Nat.lt_of_lt_of_le hi h.size) fun hg => hf (hG i hi hg)).trans (h.block i hi hf)⟩
theorem Wrote.frozen {F : Nat → Prop} {w w' : World} (h : Wrote F w w') {b o : Nat} (hlt : b < w.heap.size) (hb : ¬ F b) : w'.frozen? ⟨b, o, none⟩ = w.frozen? ⟨b, o, none⟩ :=
  World.frozen?_of_block (w := w) (a := ⟨b, o, none⟩) (h.block b hlt hb)
theorem Wrote.setCells {F : Nat → Prop} {g : Nat} {a : World} (hg : F g) : ∀ (vs : List Value) (o : Nat) (w : World), Wrote F a w → Wrote F a (w.setCells g o vs)
  | [], o, w, h => h
  | v :: vs, o, w, h => Wrote.setCells hg vs (o + 1) _ (h.setCell (p := ⟨g, o, none⟩) hg v)
theorem ownBlock_some {b n c : Nat} : (Value.slice (some ⟨b, 0, none⟩) n c).ownBlock = some b := rfl
/-- The block of an owned row. -/
theorem owns_block_of {w : World} {base e sz n : Nat} {v : Value} {xs : List Value} (h : w.ownsRow base e sz v n xs) {g : Nat} (hg : v.ownBlock = some g) : base ≤ g ∧ g < w.heap.size ∧ ∃ cs, w.heap[g]? = some (.cells cs e (0, 0)) := by
  obtain ⟨_, h⟩ := h
  rcases h with ⟨rfl, _⟩ | ⟨g', cap, cur, rfl, hb, hh, _⟩
  · cases hg
  · simp only [Value.ownBlock, Option.some.injEq] at hg
    subst hg
    exact ⟨hb, (Array.getElem?_eq_some_iff.1 hh).1, cur, hh⟩
/-- An owned row whose block has not changed. -/
theorem owns_kept {w w' : World} {base e sz n : Nat} {v : Value} {xs : List Value} (h : w.ownsRow base e sz v n xs) (hk : ∀ g, v.ownBlock = some g → w'.heap[g]? = w.heap[g]?) : w'.ownsRow base e sz v n xs := by
  obtain ⟨hl, h⟩ := h
  refine ⟨hl, ?_⟩
  rcases h with h | ⟨g, cap, cur, rfl, hg, hh, r⟩
  · exact .inl h
  · exact .inr ⟨g, cap, cur, rfl, hg, by rw [hk g rfl]; exact hh, r⟩
theorem owns_wroteF {F : Nat → Prop} {w w' : World} {base e sz n : Nat} {v : Value} {xs : List Value} (h : w.ownsRow base e sz v n xs) (hw : Wrote F w w') (hk : ∀ g, v.ownBlock = some g → ¬ F g) : w'.ownsRow base e sz v n xs :=
  owns_kept h fun g hg => hw.block g (owns_block_of h hg).2.1 (hk g hg)
section
variable {P : Program}
/-- Where the row lies behind an append: where it lay, or in a new block. -/
theorem append_block {w : World} (t ty e : TypeId) (i : TypeInfo) (z : Value) (size bytes : Nat) (ht : P.underlying t = some (.slice e)) (hi : P.info? e = some i) (hz : i.zero = some z)
    (hsize : i.size = size) (hby : i.bytes = bytes) (v : Value) (n : Nat) (xs : List Value) {base : Nat} (hown : w.ownsRow base e size v n xs)
    (a : Addr) (m c : Nat) (news : List Value) (hl : news.length = m * size) (hnews : ∀ j u, news[j]? = some u → w.cell? (a.add j) = some u) (h1 : ∀ u ∈ news, u.oneCell' = true)
    (h63 : n + m ≤ maxLen) (hbytes : (n + m) * bytes ≤ 140737488355328) {v' : Value} {w' : World} (hr : (Builtin.append_ #[t, t] ty #[v, .slice (some a) m c]).run P w = .ok v' w') :
    ∀ g, v'.ownBlock = some g → v.ownBlock = some g ∨ w.heap.size ≤ g := by
  subst hsize
  subst hby
  have hsmall : n + m ≤ 9223372036854775807 := by simp only [maxLen] at h63; omega
  intro g hg
  rcases hown.2 with ⟨rfl, rfl⟩ | ⟨g', cap, cur, rfl, hbg, hg', hnc, hcm, hcs, htake⟩
  · by_cases hm : m = 0
    · subst hm
      have hn : news = [] := List.eq_nil_of_length_eq_zero (by simpa using hl)
      subst hn
      simp [Builtin.append_, run_underlying ht, sizeOf, typeInfo, hi, Builtin.lenOf, Builtin.firstCells, loadCells, loadCellsFrom] at hr
      rw [← hr.1] at hg
      cases hg
    · have hr' := run_append_nil (P := P) w t ty e i z ht hi hz a m c news hl hnews (by omega) (by omega) (by have hb := hbytes; simp only [Nat.zero_add] at hb; omega)
      rw [hr'] at hr
      simp only [Result.ok.injEq] at hr
      rw [← hr.1] at hg
      simp only [Value.ownBlock, Option.some.injEq] at hg
      right; omega
  · by_cases hroom : n + m ≤ cap
    · have hfit : n * i.size + news.length ≤ cur.size := by rw [hl, hcs, ← Nat.add_mul]; exact Nat.mul_le_mul_right _ hroom
      have hr' := run_append_room (P := P) w t ty e i ht hi g' n cap cur hg' a m c news hl hnews h1 hroom hfit
      rw [hr'] at hr
      simp only [Result.ok.injEq] at hr
      rw [← hr.1] at hg
      exact .inl hg
    · have holds : ∀ j u, xs[j]? = some u → w.cell? ((⟨g', 0, none⟩ : Addr).add j) = some u := hown.cells (g := g') rfl
      have hr' := run_append_grow (P := P) w t ty e i z ht hi hz ⟨g', 0, none⟩ n cap xs hown.1 holds a m c news hl hnews (by omega) (by omega) (growslice_fits (by omega) hbytes)
      rw [hr'] at hr
      simp only [Result.ok.injEq] at hr
      rw [← hr.1] at hg
      simp only [Value.ownBlock, Option.some.injEq] at hg
      right; omega
variable {ops : Array Oper} {rest : List Oper} {o : Oper} {a : Act} {K : Act → World → Prop} {Q : Exit → Act → World → Prop}
/-- Where a row lies behind an append. -/
def AtOr (w0 : World) (v v' : Value) : Prop := ∀ g, v'.ownBlock = some g → v.ownBlock = some g ∨ w0.heap.size ≤ g
theorem wp_appF_at {w0 wx : World} (t e : TypeId) (size bytes : Nat) (z : Value) (hE : Elem P e size bytes z) (ht : P.underlying t = some (.slice e)) (v : Value) (n : Nat) (xs : List Value)
    (hown : w0.ownsRow 0 e size v n xs) (hX : Below w0.heap.size w0 wx) (vx : Value) (m : Nat) (ys : List Value) (hsrc : Has wx size vx m ys) (s x : Operand) (ho : o.op = .call { callee := .builtin .append, args := #[s, x], argTypes := #[t, t] })
    (hs : a.eval s = v) (hx : a.eval x = vx) (h1 : ys.all Value.oneCell' = true) (hbytes : (n + m) * bytes ≤ 140737488355328) (hn : n + m ≤ maxLen)
    (h : ∀ v' w', w'.ownsRow 0 e size v' (n + m) (xs ++ ys) → AtOr w0 v v' → w0.grownBy w' v.ownBlock → K (a.put o.dst v') w') : o.wp P a wx K Q := by
  obtain ⟨i, hi, hz0, hz1, hz2, hz3, hz4⟩ := hE
  obtain ⟨⟨hl, hnil⟩, ad, cap, rfl, hm1, hm2, hc⟩ := hsrc
  have fin : ∀ w', wx.grownBy w' v.ownBlock → w0.grownBy w' v.ownBlock := fun w' h3 => by
    refine ⟨h3.os.trans hX.os, h3.tape.trans hX.tape, h3.output.trans hX.output, Nat.le_trans hX.size h3.size, fun k hk hne => ?_⟩
    have := hX.size
    rw [h3.block k (by omega) hne]
    exact hX.block k hk
  have hown' := owns_below hown hX
  cases ad with
  | none =>
    obtain ⟨rfl, rfl⟩ := hnil _ _ rfl
    obtain rfl : ys = [] := List.eq_nil_of_length_eq_zero (by simpa using hl)
    have f1 := fin wx ⟨rfl, rfl, rfl, Nat.le_refl _, fun _ _ _ => rfl⟩
    have hrun := run_append_owned_none (P := P) (w := wx) 0 t o.type e i size ht hi v n xs hown'
    have hk := h v wx (by simpa using hown') (fun g hg => .inl hg) f1
    unfold Oper.wp
    simp [execOp, ho, resolve, invoke, builtin, hs, hx, hrun, Result.andThen]
    exact hk
  | some ad =>
    have hnews : ∀ j u, ys[j]? = some u → wx.cell? (ad.add j) = some u := fun j u hu => by
      have hp : 0 < ys.length := by have := (List.getElem?_eq_some_iff.1 hu).1; omega
      obtain ⟨b, off, e1, hcc⟩ := hc hp
      simp only [Option.some.injEq] at e1
      subst e1
      rw [addr_add _ _ rfl]
      exact hcc j u hu
    have hone : ∀ u ∈ ys, u.oneCell' = true := fun u hu => List.all_eq_true.1 h1 u hu
    obtain ⟨v', w', hr, h2, h3, h4⟩ := run_append_own (P := P) wx 0 t o.type e i z size bytes ht hi hz0 hz1 hz2 hz3 hz4 v n xs hown' ad m cap ys hl hnews hone hn hbytes (Nat.zero_le _)
    have hat := append_block t o.type e i z size bytes ht hi hz0 hz1 hz2 v n xs hown' ad m cap ys hl hnews hone hn hbytes hr
    unfold Oper.wp execOp
    simp only [ho, resolve, invoke, builtin, Sem.run_bind, Sem.run_pure, Result.andThen_ok, List.map_toArray, List.map_cons, List.map_nil, hs, hx, hr]
    exact h v' w' h2 (fun g hg => (hat g hg).imp id fun hh => Nat.le_trans hX.size hh) (fin w' h3)
theorem step_appF {E : Prop} {w0 wx : World} (hw : Region.wanted o (yielded ops a.tmps) = true) (t e : TypeId) (size bytes : Nat) (z : Value) (hE : Elem P e size bytes z) (ht : P.underlying t = some (.slice e)) (v : Value) (n : Nat) (xs : List Value)
    (hown : w0.ownsRow 0 e size v n xs) (hX : Below w0.heap.size w0 wx) (vx : Value) (m : Nat) (ys : List Value) (hsrc : Has wx size vx m ys) (s x : Operand) (ho : o.op = .call { callee := .builtin .append, args := #[s, x], argTypes := #[t, t] })
    (hs : a.eval s = v) (hx : a.eval x = vx) (h1 : ys.all Value.oneCell' = true) (hbytes : (n + m) * bytes ≤ 140737488355328) (hn : n + m ≤ maxLen)
    (h : ∀ v' w', w'.ownsRow 0 e size v' (n + m) (xs ++ ys) → AtOr w0 v v' → w0.grownBy w' v.ownBlock → K (a.put o.dst v') w') :
    if Region.wanted o (yielded ops a.tmps) = true then Oper.wp P o a wx K Q else E := by
  rw [if_pos hw]
  exact wp_appF_at t e size bytes z hE ht v n xs hown hX vx m ys hsrc s x ho hs hx h1 hbytes hn h
theorem wp_appF {w0 wx : World} (t e : TypeId) (size bytes : Nat) (z : Value) (hE : Elem P e size bytes z) (ht : P.underlying t = some (.slice e)) (v : Value) (n : Nat) (xs : List Value)
    (hown : w0.ownsRow 0 e size v n xs) (hX : Below w0.heap.size w0 wx) (vx : Value) (m : Nat) (ys : List Value) (hsrc : Has wx size vx m ys) (hw : Region.wanted o (yielded ops a.tmps) = true) (s x : Operand) (ho : o.op = .call { callee := .builtin .append, args := #[s, x], argTypes := #[t, t] })
    (hs : a.eval s = v) (hx : a.eval x = vx) (h1 : ys.all Value.oneCell' = true) (hbytes : (n + m) * bytes ≤ 140737488355328) (hn : n + m ≤ maxLen)
    (h : ∀ v' w', w'.ownsRow 0 e size v' (n + m) (xs ++ ys) → AtOr w0 v v' → w0.grownBy w' v.ownBlock → wpList P ops Q rest (a.put o.dst v') w') : wpList P ops Q (o :: rest) a wx := by
  unfold wpList
  rw [if_pos hw]
  exact Or.inl (wp_appF_at t e size bytes z hE ht v n xs hown hX vx m ys hsrc s x ho hs hx h1 hbytes hn h)
/-- A row of the call's own: the place alone is told. -/
theorem AtOr.wrote {F : Nat → Prop} {w0 w' : World} {v v' : Value} (hg : w0.grownBy w' v.ownBlock) (hF : ∀ g, v.ownBlock = some g → F g) : Wrote F w0 w' := Wrote.grown hg hF
theorem AtOr.refl (w0 : World) (v : Value) : AtOr w0 v v := fun g h => .inl h
theorem AtOr.trans {a b : World} {u v x : Value} (h : AtOr a u v) (k : AtOr b v x) (hs : a.heap.size ≤ b.heap.size) : AtOr a u x := fun g hg => by
  rcases k g hg with h1 | h1
  · exact h g h1
  · right; omega
end
end Go.Proofs.YtjdedflfdlhkdaaGreatDoor
