/- desk.fields: a map of seven entries, written in any order. -/
import Derived.Test.YtjnjecednkiakaaDoorDeskM
import Derived.NoCompiler
import Derived.Deep.DeepCutAuto
namespace Go.Proofs.YtjnjecednkiakaaDoor
open Go.ChangeShapes Go.WideShapes Go.ChangeAt Go.RowKit
set_option linter.unusedVariables false
set_option linter.unusedSimpArgs false
set_option maxRecDepth 100000

def opsOf (n : Nat) : Code → Option (Array Oper)
  | .region m o _ => if Nat.beq m n then some o else none
  | .seq a b => match opsOf n a with
    | some c => some c
    | none => opsOf n b
  | _ => none
noncomputable def fOps : Array Oper := (Tryd.f14.body.bind (opsOf 1)).getD #[]
def LL (b0 b1 b2 b3 b4 b5 b6 : Bool) : Array Bool := #[true, true, true, true, b0, true, true, true, b1, true, true, true, b2, true, true, true, b3, true, true, true, b4, true, true, true, b5, true, true, true, b6, false, false]
/-- What the map says of a letter when these entries have been written. -/
def FF (b0 b1 b2 b3 b4 b5 b6 : Bool) (x : Int) : Int := if b0 = true ∧ x = 119 then 2 else if b1 = true ∧ x = 105 then 3 else if b2 = true ∧ x = 99 then 4 else if b3 = true ∧ x = 108 then 5 else if b4 = true ∧ x = 100 then 6 else if b5 = true ∧ x = 98 then 7 else if b6 = true ∧ x = 107 then 8 else 0
theorem fops_rdy : ∀ b0 b1 b2 b3 b4 b5 b6 : Bool, Region.ready .any fOps (LL b0 b1 b2 b3 b4 b5 b6) = cond b0 [] [4] ++ cond b1 [] [8] ++ cond b2 [] [12] ++ cond b3 [] [16] ++ cond b4 [] [20] ++ cond b5 [] [24] ++ cond b6 [] [28] ++ cond (b0 && b1 && b2 && b3 && b4 && b5 && b6) [29] [] := by
  intro b0 b1 b2 b3 b4 b5 b6
  cases b0 <;> cases b1 <;> cases b2 <;> cases b3 <;> cases b4 <;> cases b5 <;> cases b6 <;> kernel_rfl
def cnt (b0 b1 b2 b3 b4 b5 b6 : Bool) : Nat := cond b0 0 1 + cond b1 0 1 + cond b2 0 1 + cond b3 0 1 + cond b4 0 1 + cond b5 0 1 + cond b6 0 1
theorem cnt_zero (b0 b1 b2 b3 b4 b5 b6 : Bool) (h : cnt b0 b1 b2 b3 b4 b5 b6 = 0) : b0 = true ∧ b1 = true ∧ b2 = true ∧ b3 = true ∧ b4 = true ∧ b5 = true ∧ b6 = true := by
  unfold cnt at h
  cases b0 <;> cases b1 <;> cases b2 <;> cases b3 <;> cases b4 <;> cases b5 <;> cases b6 <;> simp_all
theorem FF_0 (b1 b2 b3 b4 b5 b6 : Bool) : (fun x => if x = 119 then ((1 : Nat) : Int) + 1 else FF false b1 b2 b3 b4 b5 b6 x) = FF true b1 b2 b3 b4 b5 b6 := by
  funext x
  by_cases e : x = 119
  · subst e; simp [FF]
  · simp [FF, e]
theorem cnt_0 (b1 b2 b3 b4 b5 b6 : Bool) : cnt false b1 b2 b3 b4 b5 b6 = cnt true b1 b2 b3 b4 b5 b6 + 1 := by
  simp only [cnt, cond_true, cond_false]; try omega
theorem FF_1 (b0 b2 b3 b4 b5 b6 : Bool) : (fun x => if x = 105 then ((2 : Nat) : Int) + 1 else FF b0 false b2 b3 b4 b5 b6 x) = FF b0 true b2 b3 b4 b5 b6 := by
  funext x
  by_cases e : x = 105
  · subst e; simp [FF]
  · simp [FF, e]
theorem cnt_1 (b0 b2 b3 b4 b5 b6 : Bool) : cnt b0 false b2 b3 b4 b5 b6 = cnt b0 true b2 b3 b4 b5 b6 + 1 := by
  simp only [cnt, cond_true, cond_false]; try omega
theorem FF_2 (b0 b1 b3 b4 b5 b6 : Bool) : (fun x => if x = 99 then ((3 : Nat) : Int) + 1 else FF b0 b1 false b3 b4 b5 b6 x) = FF b0 b1 true b3 b4 b5 b6 := by
  funext x
  by_cases e : x = 99
  · subst e; simp [FF]
  · simp [FF, e]
theorem cnt_2 (b0 b1 b3 b4 b5 b6 : Bool) : cnt b0 b1 false b3 b4 b5 b6 = cnt b0 b1 true b3 b4 b5 b6 + 1 := by
  simp only [cnt, cond_true, cond_false]; try omega
theorem FF_3 (b0 b1 b2 b4 b5 b6 : Bool) : (fun x => if x = 108 then ((4 : Nat) : Int) + 1 else FF b0 b1 b2 false b4 b5 b6 x) = FF b0 b1 b2 true b4 b5 b6 := by
  funext x
  by_cases e : x = 108
  · subst e; simp [FF]
  · simp [FF, e]
theorem cnt_3 (b0 b1 b2 b4 b5 b6 : Bool) : cnt b0 b1 b2 false b4 b5 b6 = cnt b0 b1 b2 true b4 b5 b6 + 1 := by
  simp only [cnt, cond_true, cond_false]; try omega
theorem FF_4 (b0 b1 b2 b3 b5 b6 : Bool) : (fun x => if x = 100 then ((5 : Nat) : Int) + 1 else FF b0 b1 b2 b3 false b5 b6 x) = FF b0 b1 b2 b3 true b5 b6 := by
  funext x
  by_cases e : x = 100
  · subst e; simp [FF]
  · simp [FF, e]
theorem cnt_4 (b0 b1 b2 b3 b5 b6 : Bool) : cnt b0 b1 b2 b3 false b5 b6 = cnt b0 b1 b2 b3 true b5 b6 + 1 := by
  simp only [cnt, cond_true, cond_false]; try omega
theorem FF_5 (b0 b1 b2 b3 b4 b6 : Bool) : (fun x => if x = 98 then ((6 : Nat) : Int) + 1 else FF b0 b1 b2 b3 b4 false b6 x) = FF b0 b1 b2 b3 b4 true b6 := by
  funext x
  by_cases e : x = 98
  · subst e; simp [FF]
  · simp [FF, e]
theorem cnt_5 (b0 b1 b2 b3 b4 b6 : Bool) : cnt b0 b1 b2 b3 b4 false b6 = cnt b0 b1 b2 b3 b4 true b6 + 1 := by
  simp only [cnt, cond_true, cond_false]; try omega
theorem FF_6 (b0 b1 b2 b3 b4 b5 : Bool) : (fun x => if x = 107 then ((7 : Nat) : Int) + 1 else FF b0 b1 b2 b3 b4 b5 false x) = FF b0 b1 b2 b3 b4 b5 true := by
  funext x
  by_cases e : x = 107
  · subst e; simp [FF]
  · simp [FF, e]
theorem cnt_6 (b0 b1 b2 b3 b4 b5 : Bool) : cnt b0 b1 b2 b3 b4 b5 false = cnt b0 b1 b2 b3 b4 b5 true + 1 := by
  simp only [cnt, cond_true, cond_false]; try omega
theorem ins_at {m b j t1 t2 : Nat} {w w' : World} {a : Act} {kk : Int} {ps : String} {af : Array Edge} {K : Act → World → Prop} {Q : Exit → Act → World → Prop}
    (hm : a.eval (.tmp t1) = .map (some m)) (hp : a.eval (.tmp t2) = .pointer (some ⟨b, j, none⟩))
    (hr : (Instr.mapUpdate 46 (.map (some m)) (.int .i32 kk) (.pointer (some ⟨b, j, none⟩))).run Tryd.prog w = .ok () w') (h : K a w') :
    Oper.wp Tryd.prog { dst := none, op := .insert 46 (.tmp t1) (.const (.int .i32 kk)) (.tmp t2), type := 0, pos := ps, after := af, guard := none } a w K Q := by
  simp only [Oper.wp, execOp, hm, hp]
  rw [show a.eval (Operand.const (Value.int IntKind.i32 kk)) = Value.int IntKind.i32 kk from rfl]
  go_simp
  exact h
theorem cnt_le (b0 b1 b2 b3 b4 b5 b6 : Bool) : cnt b0 b1 b2 b3 b4 b5 b6 ≤ 7 := by
  unfold cnt
  cases b0 <;> cases b1 <;> cases b2 <;> cases b3 <;> cases b4 <;> cases b5 <;> cases b6 <;> simp
set_option maxHeartbeats 4000000 in
theorem ins_all {b m : Nat} {w0 : World} (hm0 : w0.heap.size ≤ m) {v0 v1 v2 v4 v5 v7 v8 v10 v11 v13 v14 v16 v17 v19 v20 v22 v23 v25 : Value} {Q : Exit → Act → World → Prop}
    (hQ : ∀ w', FMap w' m 7 b (FF true true true true true true true) → Below w0.heap.size w0 w' → Q .normal ⟨#[v0, v1, .map (some m), .map (some m), v4, v5, .pointer (some ⟨b, 1, none⟩), v7, v8, .pointer (some ⟨b, 2, none⟩), v10, v11, .pointer (some ⟨b, 3, none⟩), v13, v14, .pointer (some ⟨b, 4, none⟩), v16, v17, .pointer (some ⟨b, 5, none⟩), v19, v20, .pointer (some ⟨b, 6, none⟩), v22, v23, .pointer (some ⟨b, 7, none⟩), .map (some m)], []⟩ w') :
    ∀ (n : Nat) (b0 b1 b2 b3 b4 b5 b6 : Bool) (w : World), cnt b0 b1 b2 b3 b4 b5 b6 = n → FMap w m (7 - n) b (FF b0 b1 b2 b3 b4 b5 b6) → Below w0.heap.size w0 w → wpAny Tryd.prog .any fOps Q (n + 2) (LL b0 b1 b2 b3 b4 b5 b6) ⟨#[v0, v1, v2, .map (some m), v4, v5, .pointer (some ⟨b, 1, none⟩), v7, v8, .pointer (some ⟨b, 2, none⟩), v10, v11, .pointer (some ⟨b, 3, none⟩), v13, v14, .pointer (some ⟨b, 4, none⟩), v16, v17, .pointer (some ⟨b, 5, none⟩), v19, v20, .pointer (some ⟨b, 6, none⟩), v22, v23, .pointer (some ⟨b, 7, none⟩), v25], []⟩ w := by
  intro n
  induction n with
  | zero =>
    intro b0 b1 b2 b3 b4 b5 b6 w hc hF hb
    obtain ⟨rfl, rfl, rfl, rfl, rfl, rfl, rfl⟩ := cnt_zero _ _ _ _ _ _ _ hc
    refine wpAny_ready (rs := [29]) (by kernel_rfl) (by simp) ?_
    refine AllReady.cons rfl (fun K hK => ?_) AllReady.nil
    go_simp
    refine hK _ _ ?_
    clear hK K
    refine wpAny_ready (rs := [30]) (by kernel_rfl) (by simp) ?_
    refine AllReady.cons rfl (fun K hK => ?_) AllReady.nil
    go_simp
    refine hK _ _ ?_
    refine wpAny_done (by kernel_rfl) ?_ _
    exact hQ w hF hb
  | succ n ih =>
    intro b0 b1 b2 b3 b4 b5 b6 w hc hF hb
    have hle := cnt_le b0 b1 b2 b3 b4 b5 b6
    refine ⟨fun h0 => ?_, ?_⟩
    · rw [fops_rdy] at h0
      simp only [List.append_eq_nil_iff] at h0
      obtain ⟨⟨⟨⟨⟨⟨⟨h0, h1⟩, h2⟩, h3⟩, h4⟩, h5⟩, h6⟩, _⟩ := h0
      have hz : ∀ (b : Bool) (k : Nat), cond b [] [k] = [] → b = true := by intro b k h; cases b <;> simp_all
      have g0 := hz _ _ h0
      have g1 := hz _ _ h1
      have g2 := hz _ _ h2
      have g3 := hz _ _ h3
      have g4 := hz _ _ h4
      have g5 := hz _ _ h5
      have g6 := hz _ _ h6
      subst g0 g1 g2 g3 g4 g5 g6
      cases hc
    · rw [fops_rdy]
      intro i hi
      simp only [List.mem_append] at hi
      rcases hi with ((((((hi | hi) | hi) | hi) | hi) | hi) | hi) | hi
      · cases b0 with
        | true => simp at hi
        | false =>
          have hi' : i = 4 := by simpa using hi
          subst hi'
          refine wpOp_step rfl (fun K hK => ?_)
          rw [if_pos (show Region.wanted _ _ = true from by kernel_rfl)]
          obtain ⟨w', hr, hF', hg⟩ := hF.store (by unfold maxLen; omega) (k := 119) (by decide) 1
          refine ins_at (m := m) (b := b) (j := 1) (kk := 119) rfl rfl hr (hK _ _ ?_)
          rw [FF_0] at hF'
          refine ih true b1 b2 b3 b4 b5 b6 w' (by rw [cnt_0] at hc; omega) ?_ (hb.grown hg hb.size (fun k e => by cases e; exact hm0))
          have e7 : 7 - (n + 1) + 1 = 7 - n := by omega
          rw [e7] at hF'
          exact hF'
      · cases b1 with
        | true => simp at hi
        | false =>
          have hi' : i = 8 := by simpa using hi
          subst hi'
          refine wpOp_step rfl (fun K hK => ?_)
          rw [if_pos (show Region.wanted _ _ = true from by kernel_rfl)]
          obtain ⟨w', hr, hF', hg⟩ := hF.store (by unfold maxLen; omega) (k := 105) (by decide) 2
          refine ins_at (m := m) (b := b) (j := 2) (kk := 105) rfl rfl hr (hK _ _ ?_)
          rw [FF_1] at hF'
          refine ih b0 true b2 b3 b4 b5 b6 w' (by rw [cnt_1] at hc; omega) ?_ (hb.grown hg hb.size (fun k e => by cases e; exact hm0))
          have e7 : 7 - (n + 1) + 1 = 7 - n := by omega
          rw [e7] at hF'
          exact hF'
      · cases b2 with
        | true => simp at hi
        | false =>
          have hi' : i = 12 := by simpa using hi
          subst hi'
          refine wpOp_step rfl (fun K hK => ?_)
          rw [if_pos (show Region.wanted _ _ = true from by kernel_rfl)]
          obtain ⟨w', hr, hF', hg⟩ := hF.store (by unfold maxLen; omega) (k := 99) (by decide) 3
          refine ins_at (m := m) (b := b) (j := 3) (kk := 99) rfl rfl hr (hK _ _ ?_)
          rw [FF_2] at hF'
          refine ih b0 b1 true b3 b4 b5 b6 w' (by rw [cnt_2] at hc; omega) ?_ (hb.grown hg hb.size (fun k e => by cases e; exact hm0))
          have e7 : 7 - (n + 1) + 1 = 7 - n := by omega
          rw [e7] at hF'
          exact hF'
      · cases b3 with
        | true => simp at hi
        | false =>
          have hi' : i = 16 := by simpa using hi
          subst hi'
          refine wpOp_step rfl (fun K hK => ?_)
          rw [if_pos (show Region.wanted _ _ = true from by kernel_rfl)]
          obtain ⟨w', hr, hF', hg⟩ := hF.store (by unfold maxLen; omega) (k := 108) (by decide) 4
          refine ins_at (m := m) (b := b) (j := 4) (kk := 108) rfl rfl hr (hK _ _ ?_)
          rw [FF_3] at hF'
          refine ih b0 b1 b2 true b4 b5 b6 w' (by rw [cnt_3] at hc; omega) ?_ (hb.grown hg hb.size (fun k e => by cases e; exact hm0))
          have e7 : 7 - (n + 1) + 1 = 7 - n := by omega
          rw [e7] at hF'
          exact hF'
      · cases b4 with
        | true => simp at hi
        | false =>
          have hi' : i = 20 := by simpa using hi
          subst hi'
          refine wpOp_step rfl (fun K hK => ?_)
          rw [if_pos (show Region.wanted _ _ = true from by kernel_rfl)]
          obtain ⟨w', hr, hF', hg⟩ := hF.store (by unfold maxLen; omega) (k := 100) (by decide) 5
          refine ins_at (m := m) (b := b) (j := 5) (kk := 100) rfl rfl hr (hK _ _ ?_)
          rw [FF_4] at hF'
          refine ih b0 b1 b2 b3 true b5 b6 w' (by rw [cnt_4] at hc; omega) ?_ (hb.grown hg hb.size (fun k e => by cases e; exact hm0))
          have e7 : 7 - (n + 1) + 1 = 7 - n := by omega
          rw [e7] at hF'
          exact hF'
      · cases b5 with
        | true => simp at hi
        | false =>
          have hi' : i = 24 := by simpa using hi
          subst hi'
          refine wpOp_step rfl (fun K hK => ?_)
          rw [if_pos (show Region.wanted _ _ = true from by kernel_rfl)]
          obtain ⟨w', hr, hF', hg⟩ := hF.store (by unfold maxLen; omega) (k := 98) (by decide) 6
          refine ins_at (m := m) (b := b) (j := 6) (kk := 98) rfl rfl hr (hK _ _ ?_)
          rw [FF_5] at hF'
          refine ih b0 b1 b2 b3 b4 true b6 w' (by rw [cnt_5] at hc; omega) ?_ (hb.grown hg hb.size (fun k e => by cases e; exact hm0))
          have e7 : 7 - (n + 1) + 1 = 7 - n := by omega
          rw [e7] at hF'
          exact hF'
      · cases b6 with
        | true => simp at hi
        | false =>
          have hi' : i = 28 := by simpa using hi
          subst hi'
          refine wpOp_step rfl (fun K hK => ?_)
          rw [if_pos (show Region.wanted _ _ = true from by kernel_rfl)]
          obtain ⟨w', hr, hF', hg⟩ := hF.store (by unfold maxLen; omega) (k := 107) (by decide) 7
          refine ins_at (m := m) (b := b) (j := 7) (kk := 107) rfl rfl hr (hK _ _ ?_)
          rw [FF_6] at hF'
          refine ih b0 b1 b2 b3 b4 b5 true w' (by rw [cnt_6] at hc; omega) ?_ (hb.grown hg hb.size (fun k e => by cases e; exact hm0))
          have e7 : 7 - (n + 1) + 1 = 7 - n := by omega
          rw [e7] at hF'
          exact hF'
      · cases hb7 : (b0 && b1 && b2 && b3 && b4 && b5 && b6) with
        | false => rw [hb7] at hi; cases hi
        | true =>
          simp only [Bool.and_eq_true] at hb7
          obtain ⟨⟨⟨⟨⟨⟨g0, g1⟩, g2⟩, g3⟩, g4⟩, g5⟩, g6⟩ := hb7
          subst g0 g1 g2 g3 g4 g5 g6
          cases hc
set_option maxHeartbeats 4000000 in
/-- desk.fields: the map of a step's fields. -/
theorem cFields (w : World) (b : Nat) : Calls Tryd.prog 14 #[.pointer (some ⟨b, 0, none⟩)] w fun e w' =>
    ∃ m, e = .returned (.map (some m)) ∧ w.heap.size ≤ m ∧ FMap w' m 7 b (FF true true true true true true true) ∧ Below w.heap.size w w' := by
  go_enter Tryd.func14, Tryd.ntmps14
  go_upto_region 1 with (fail)
  refine wp_region_any (by kernel_rfl) ?_
  change wpAny _ _ _ _ _ _ _ (World.drew _)
  refine wpAny_take (i := 1) (v := ?_) rfl (by kernel_rfl) (by kernel_rfl) (by kernel_rfl) (fun _ _ _ h => h) (Or.inl ⟨by rfl, ?_⟩) ?_
  rotate_left
  · intro w; go_simp; with_reducible rfl
  refine wpAny_take (i := 2) (v := ?_) rfl (by kernel_rfl) (by kernel_rfl) (by kernel_rfl) (fun _ _ _ h => h) (Or.inl ⟨by rfl, ?_⟩) ?_
  rotate_left
  · intro w; go_simp; with_reducible rfl
  refine wpAny_take (i := 3) (v := ?_) rfl (by kernel_rfl) (by kernel_rfl) (by kernel_rfl) (fun _ _ _ h => h) (Or.inl ⟨by rfl, ?_⟩) ?_
  rotate_left
  · intro w; go_simp; with_reducible rfl
  refine wpAny_take (i := 5) (v := ?_) rfl (by kernel_rfl) (by kernel_rfl) (by kernel_rfl) (fun _ _ _ h => h) (Or.inl ⟨by rfl, ?_⟩) ?_
  rotate_left
  · intro w; go_simp; with_reducible rfl
  refine wpAny_take (i := 6) (v := ?_) rfl (by kernel_rfl) (by kernel_rfl) (by kernel_rfl) (fun _ _ _ h => h) (Or.inl ⟨by rfl, ?_⟩) ?_
  rotate_left
  · intro w; go_simp; with_reducible rfl
  refine wpAny_take (i := 7) (v := ?_) rfl (by kernel_rfl) (by kernel_rfl) (by kernel_rfl) (fun _ _ _ h => h) (Or.inl ⟨by rfl, ?_⟩) ?_
  rotate_left
  · intro w; go_simp; with_reducible rfl
  refine wpAny_take (i := 9) (v := ?_) rfl (by kernel_rfl) (by kernel_rfl) (by kernel_rfl) (fun _ _ _ h => h) (Or.inl ⟨by rfl, ?_⟩) ?_
  rotate_left
  · intro w; go_simp; with_reducible rfl
  refine wpAny_take (i := 10) (v := ?_) rfl (by kernel_rfl) (by kernel_rfl) (by kernel_rfl) (fun _ _ _ h => h) (Or.inl ⟨by rfl, ?_⟩) ?_
  rotate_left
  · intro w; go_simp; with_reducible rfl
  refine wpAny_take (i := 11) (v := ?_) rfl (by kernel_rfl) (by kernel_rfl) (by kernel_rfl) (fun _ _ _ h => h) (Or.inl ⟨by rfl, ?_⟩) ?_
  rotate_left
  · intro w; go_simp; with_reducible rfl
  refine wpAny_take (i := 13) (v := ?_) rfl (by kernel_rfl) (by kernel_rfl) (by kernel_rfl) (fun _ _ _ h => h) (Or.inl ⟨by rfl, ?_⟩) ?_
  rotate_left
  · intro w; go_simp; with_reducible rfl
  refine wpAny_take (i := 14) (v := ?_) rfl (by kernel_rfl) (by kernel_rfl) (by kernel_rfl) (fun _ _ _ h => h) (Or.inl ⟨by rfl, ?_⟩) ?_
  rotate_left
  · intro w; go_simp; with_reducible rfl
  refine wpAny_take (i := 15) (v := ?_) rfl (by kernel_rfl) (by kernel_rfl) (by kernel_rfl) (fun _ _ _ h => h) (Or.inl ⟨by rfl, ?_⟩) ?_
  rotate_left
  · intro w; go_simp; with_reducible rfl
  refine wpAny_take (i := 17) (v := ?_) rfl (by kernel_rfl) (by kernel_rfl) (by kernel_rfl) (fun _ _ _ h => h) (Or.inl ⟨by rfl, ?_⟩) ?_
  rotate_left
  · intro w; go_simp; with_reducible rfl
  refine wpAny_take (i := 18) (v := ?_) rfl (by kernel_rfl) (by kernel_rfl) (by kernel_rfl) (fun _ _ _ h => h) (Or.inl ⟨by rfl, ?_⟩) ?_
  rotate_left
  · intro w; go_simp; with_reducible rfl
  refine wpAny_take (i := 19) (v := ?_) rfl (by kernel_rfl) (by kernel_rfl) (by kernel_rfl) (fun _ _ _ h => h) (Or.inl ⟨by rfl, ?_⟩) ?_
  rotate_left
  · intro w; go_simp; with_reducible rfl
  refine wpAny_take (i := 21) (v := ?_) rfl (by kernel_rfl) (by kernel_rfl) (by kernel_rfl) (fun _ _ _ h => h) (Or.inl ⟨by rfl, ?_⟩) ?_
  rotate_left
  · intro w; go_simp; with_reducible rfl
  refine wpAny_take (i := 22) (v := ?_) rfl (by kernel_rfl) (by kernel_rfl) (by kernel_rfl) (fun _ _ _ h => h) (Or.inl ⟨by rfl, ?_⟩) ?_
  rotate_left
  · intro w; go_simp; with_reducible rfl
  refine wpAny_take (i := 23) (v := ?_) rfl (by kernel_rfl) (by kernel_rfl) (by kernel_rfl) (fun _ _ _ h => h) (Or.inl ⟨by rfl, ?_⟩) ?_
  rotate_left
  · intro w; go_simp; with_reducible rfl
  refine wpAny_take (i := 25) (v := ?_) rfl (by kernel_rfl) (by kernel_rfl) (by kernel_rfl) (fun _ _ _ h => h) (Or.inl ⟨by rfl, ?_⟩) ?_
  rotate_left
  · intro w; go_simp; with_reducible rfl
  refine wpAny_take (i := 26) (v := ?_) rfl (by kernel_rfl) (by kernel_rfl) (by kernel_rfl) (fun _ _ _ h => h) (Or.inl ⟨by rfl, ?_⟩) ?_
  rotate_left
  · intro w; go_simp; with_reducible rfl
  refine wpAny_take (i := 27) (v := ?_) rfl (by kernel_rfl) (by kernel_rfl) (by kernel_rfl) (fun _ _ _ h => h) (Or.inl ⟨by rfl, ?_⟩) ?_
  rotate_left
  · intro w; go_simp; with_reducible rfl
  refine wpAny_ready (rs := [0]) (by kernel_rfl) (by simp) ?_
  refine AllReady.cons rfl (fun K hK => ?_) AllReady.nil
  go_simp
  refine hK _ _ ?_
  clear hK K
  have e0 : FF false false false false false false false = fun _ => 0 := by funext x; simp [FF]
  refine ins_all (b := b) (w0 := w) (m := w.heap.size) (Nat.le_refl _) ?_ 7 false false false false false false false _ rfl ?_ ?_
  · intro w' hF hb
    have HF := Lib.hid hF
    have HB := Lib.hid hb
    clear hF hb e0
    go_wp2_with fail
    go_ret
    exact ⟨_, rfl, Nat.le_refl _, HF.out, HB.out⟩
  · rw [e0]; exact FMap.made w.drew b
  · exact ((Below.refl _ _).drew).alloc (Nat.le_refl _) _
end Go.Proofs.YtjnjecednkiakaaDoor
