/- Package frame: branch; what is asked of stores; the model of a rumour. -/
import Derived.Test.YtngedkfljpkoiaaFrmB
import Derived.Test.YtngedkfljpkoiaaGosM
namespace Go.Proofs.Ytngedkfljpkoiaa
open Go.ChangeShapes Go.WideShapes Go.ChangeAt Go.RowKit
set_option linter.unusedVariables false
set_option linter.unusedSimpArgs false

set_option maxRecDepth 100000 in
set_option maxHeartbeats 2000000 in
theorem cBranch1 (b : Nat) (c : Cfg) (hn : 1 ≤ c.n ∧ c.n ≤ 4) (x : Nat) (hx : x < c.n) (w : World) (hb : w.cell? ⟨b, 0, none⟩ = some (.int .i64 c.n)) :
    Calls Try.prog 45 #[.int .i64 x, .pointer (some ⟨b, 0, none⟩)] w fun e w' => e = .returned (.bool false) ∧ w = w' := by
  have hw : IntKind.i64.wrap ((c.n : Int) - 1) = ((c.n - 1 : Nat) : Int) := by rw [show (c.n : Int) - 1 = ((c.n - 1 : Nat) : Int) by omega]; exact IntWalk.i64_in _ (by omega)
  have F := Lib.hid fun X => cfin x 0 ((c.n - 1 : Nat) : Int) (by omega) (by omega) X
  go_enter Try.func45, Try.ntmps45
  go_wp2_with (go_at_call 32; with_reducible refine (F.out _).mono ?_; rintro e w' ⟨rfl, rfl⟩)
  go_ret
  exact ⟨rfl, rfl⟩
set_option maxRecDepth 100000 in
set_option maxHeartbeats 4000000 in
theorem cBranch {w : World} {c : Cfg} {vl vm : Value} (hc : c.Ok) (v : Value) (f t : Nat) (hf : f < c.n) (ht : t < c.n) (h : Has w 1 v 2 (ints [(f : Int), (t : Int)])) :
    Calls Try.prog 26 #[.agg (c.cells vl vm), v] w fun e w' => e = .returned (.bool true) ∧ Below w.heap.size w w' := by
  have hb := cfg_box w c vl vm
  obtain ⟨x0, -, -, -, -⟩ := cfg_at (heap_alloc_new w (.cells (c.cells vl vm) 48))
  have Hb := Lib.hid hb
  have K1 := Lib.hid (cHasNone (l := [(f : Int), (t : Int)]) 45 #[.pointer (some ⟨w.heap.size, 0, none⟩)] (enters_of Try.func45 (by kernel_rfl) rfl) (w := w.alloc (.cells (c.cells vl vm) 48)) (v := v) (fun x hx => by
      simp only [List.mem_cons, List.not_mem_nil, or_false] at hx
      rcases hx with rfl | rfl
      · exact cBranch1 _ c hc.n f hf _ x0
      · exact cBranch1 _ c hc.n t ht _ x0) (h.below hb))
  obtain ⟨_, a, cp, rfl, _, _, _⟩ := h
  unfold Cfg.cells at *
  clear hb hc x0
  go_enter Try.func26, Try.ntmps26
  go_upto_region 1 with (fail)
  go_wp2_with (go_at_call 33; with_reducible refine K1.out.mono ?_; rintro e w' ⟨rfl, rfl⟩)
  go_ret
  exact ⟨rfl, Hb.out⟩
/-- What stands under labels, of m. -/
structure StoreH (w : World) (v : Value) (m : Nat) (vs : Nat → Value) (l : Nat → List Ent) : Prop where
  row : Has w 1 v m ((List.range m).map vs)
  rows : ∀ j, j < m → Has w 5 (vs j) (l j).length (ents (l j))
  ok : ∀ j, j < m → EightL (l j) ∧ ∀ e ∈ l j, e.v ≤ 255
theorem StoreH.on {w w' : World} {v : Value} {m : Nat} {vs : Nat → Value} {l : Nat → List Ent} (h : StoreH w v m vs l) (hb : Below w.heap.size w w') : StoreH w' v m vs l :=
  ⟨h.row.below hb, fun j hj => (h.rows j hj).below hb, h.ok⟩
theorem cHasNo (v : Value) (l : List Ent) (w : World) (h : Has w 5 v l.length (ents l)) (hl : EightL l) :
    Calls Try.prog 28 #[v] w fun e w' => e = .returned (.bool false) ∧ Below w.heap.size w w' := by
  have C := Lib.hid (cmay v l w h hl.may hl.len)
  obtain ⟨_, a, cp, rfl, _, _, _⟩ := h
  go_enter Try.func28, Try.ntmps28
  go_wp2_with (go_at_call 15; refine C.out.mono ?_; rintro e w' ⟨rfl, hb⟩)
  go_ret
  exact ⟨rfl, hb⟩
set_option maxRecDepth 100000 in
set_option maxHeartbeats 4000000 in
theorem cIxStore {w : World} {v : Value} {m : Nat} {vs : Nat → Value} {l : Nat → List Ent} (h : StoreH w v m vs l) (hm : m ≤ 4) :
    Calls Try.prog 46 #[v, .func (.func 28) #[] #[]] w fun e w' => e = .returned (.int .i64 (-1)) ∧ Below w.heap.size w w' := by
  have H := Lib.hid h
  obtain ⟨_, a, cap, rfl, hn, hmx, _⟩ := h.row
  unfold maxLen at hmx
  have eg : ∀ args w, (callFunc 28 args).run Try.prog w = .ok (.enter 28 args) w := enters_of Try.func28 (by kernel_rfl) rfl
  clear h
  go_enter Try.func46, Try.ntmps46
  go_wp2_with fail
  go_loopw [5, 8] (fun _ i wr => ∃ k : Nat, k ≤ m ∧ i = .int .i64 k ∧ Hid (Below w.heap.size w wr)) (fun _ i _ => m - (intOf i).toNat)
  case atStart => exact ⟨0, by omega, rfl, Below.refl _ _⟩
  case round =>
    obtain ⟨k, hk, rfl, HB⟩ := hrel
    by_cases hlt : k < m
    · have hltz : (k : Int) < (m : Int) := by omega
      obtain ⟨_, _, _, he, _, _, hc⟩ := H.out.row
      simp only [Value.slice.injEq] at he
      obtain ⟨rfl, -, rfl⟩ := he
      obtain ⟨b, off, rfl, hcc⟩ := hc (by simp; omega)
      have x0 := cell_on HB.out (hcc k (vs k) (by simp [hlt]))
      have CC := Lib.hid (cHasNo (vs k) (l k) wr ((H.out.rows k hlt).below HB.out) (H.out.ok k hlt).1)
      obtain ⟨_, ak, ck, hv, _, _, _⟩ := H.out.rows k hlt
      rw [hv] at x0 CC
      clear hcc hc hv
      go_wp2_with (go_at_fn 28; refine CC.out.mono ?_; rintro e w' ⟨rfl, hb⟩)
      have HB2 : Hid (Below w.heap.size w w') := HB.out.trans (hb.mono HB.out.size)
      clear hb CC
      go_roundw
      case rel => exact ⟨k + 1, by omega, by go_num, HB2⟩
      case measure => first | (simp [intOf]; done) | (simp [intOf]; omega)
    · obtain rfl : k = m := by omega
      go_wp2
      go_ret
      exact ⟨rfl, HB.out⟩
set_option maxRecDepth 100000 in
theorem cHasStore {w : World} {v : Value} {m : Nat} {vs : Nat → Value} {l : Nat → List Ent} (h : StoreH w v m vs l) (hm : m ≤ 4) :
    Calls Try.prog 27 #[v, .func (.func 28) #[] #[]] w fun e w' => e = .returned (.bool false) ∧ Below w.heap.size w w' := by
  have C := Lib.hid (cIxStore h hm)
  clear h
  go_enter Try.func27, Try.ntmps27
  go_wp2_with (go_at_call 46; refine C.out.mono ?_; rintro e w' ⟨rfl, hb⟩)
  go_ret
  exact ⟨rfl, hb⟩
/-- The slot of a key. -/
def slotAt (es : List Ent) (k : Nat) : Int := match look es k with | some e => slotOf e | none => 0
def slotsOf (es : List Ent) : List (Int × Int) := (List.range 8).map fun k => (34, slotAt es k)
/-- What a rumour is packed of. -/
def rumF (labs : List Nat) (f t : Nat) (l : Nat → List Ent) : List (Int × Int) := (shr labs f t labs.length).flatMap fun i => slotsOf (l i)
theorem slotsOf_length (es : List Ent) : (slotsOf es).length = 8 := by simp [slotsOf]
theorem slotAt_bd {es : List Ent} (h : EightL es) (hv : ∀ e ∈ es, e.v ≤ 255) (k : Nat) : 0 ≤ slotAt es k ∧ slotAt es k < 17179869184 := by
  unfold slotAt
  cases hl : look es k with
  | none => simp
  | some e =>
    have hm := (look_some hl).1
    have := slotOf_bd (h.may.ok e hm) (hv e hm)
    simp only; omega
end Go.Proofs.Ytngedkfljpkoiaa
