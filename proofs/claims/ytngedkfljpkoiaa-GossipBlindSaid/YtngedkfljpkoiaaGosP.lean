/- Package gossip: Play: what is asked of labels; the model of a play; what stands behind some turns. -/
import Derived.Test.YtngedkfljpkoiaaGosU
import Derived.Test.YtngedkfljpkoiaaRow
namespace Go.Proofs.Ytngedkfljpkoiaa
open Go.ChangeShapes Go.WideShapes Go.ChangeAt Go.RowKit
set_option linter.unusedVariables false
set_option linter.unusedSimpArgs false

theorem andNot255 (a : Int) (h : 0 ≤ a) (h' : a ≤ 9223372036854775807) : (bits BinOp.andNot IntKind.u64 a 255 == 0) = decide (a ≤ 255) := by
  rw [u64_andNot a 255 h (by omega) (by omega) (by omega)]
  obtain ⟨n, rfl⟩ := Int.eq_ofNat_of_zero_le h
  have e : n &&& (18446744073709551615 - Int.toNat 255) = n % 18446744073709551616 / 256 * 256 := nat_hi64_8 n
  rw [Int.toNat_natCast, e]
  rw [Bool.eq_iff_iff]
  simp only [beq_iff_eq, decide_eq_true_eq]
  omega
theorem lmay (a : Int) (hw : (Lit.int .i64 a).wf = true) (w : World) :
    Calls Try.prog 35 #[.int .i64 a] w fun e w' => e = .returned (.bool (decide (0 ≤ a ∧ a ≤ 255))) ∧ w = w' := by
  have hb := wf64_iff.1 hw
  have H := Lib.hid (andNot255 a)
  go_enter Try.func35, Try.ntmps35
  go_wp2
  all_goals go_ret
  · exact ⟨ret_bool (by rw [H.out (by omega) (by omega)]; simp; omega), rfl⟩
  · exact ⟨ret_bool (by simp; omega), rfl⟩
theorem lmay_true (a : Int) (h0 : 0 ≤ a) (h1 : a ≤ 255) (w : World) :
    Calls Try.prog 35 #[.int .i64 a] w fun e w' => e = .returned (.bool true) ∧ w = w' := by
  have := lmay a (wf64_iff.2 (by omega)) w
  rwa [show decide (0 ≤ a ∧ a ≤ 255) = true by simp; omega] at this

set_option maxRecDepth 100000 in
set_option maxHeartbeats 2000000 in
theorem cLabP (b lab : Nat) (hl : lab < 16) (w : World) (hb : w.cell? ⟨b, 0, none⟩ = some (.int .i64 4)) :
    Calls Try.prog 40 #[.int .i64 lab, .pointer (some ⟨b, 0, none⟩)] w fun e w' => e = .returned (.bool false) ∧ w = w' := by
  have hz : (lab : Int) / 16 = 0 := by omega
  go_enter Try.func40, Try.ntmps40
  go_wp2_with (go_at_call 35; refine (lmay_true _ (by omega) (by omega) _).mono ?_; rintro e w' ⟨rfl, rfl⟩)
  go_ret
  refine ⟨ret_bool ?_, rfl⟩
  first | (simp; done) | (simp; omega)
/-- The library's IndexFunc and ContainsFunc, where nothing is found. -/
theorem cIxNone {w : World} {v : Value} {l : List Int} (g : Nat) (lb : Array Value) (eg : ∀ args w, (callFunc g args).run Try.prog w = .ok (.enter g args) w)
    (hp : ∀ x ∈ l, Calls Try.prog g (#[.int .i64 x] ++ lb) w fun e w' => e = .returned (.bool false) ∧ w = w') (h : Has w 1 v l.length (ints l)) :
    Calls Try.prog 49 #[v, .func (.func g) #[] lb] w fun e w' => e = .returned (.int .i64 (-1)) ∧ w = w' := by
  have HP := Lib.hid hp
  obtain ⟨⟨hl, _⟩, a, cap, rfl, hn, hm, hc⟩ := h
  unfold maxLen at hm
  have HC := Lib.hid hc
  clear hp hc
  go_enter Try.func49, Try.ntmps49
  go_wp2_with fail
  go_loopw [5, 8] (fun _ i wr => ∃ k : Nat, k ≤ l.length ∧ i = .int .i64 k ∧ w = wr) (fun _ i _ => l.length - (intOf i).toNat)
  case atStart => exact ⟨0, by omega, rfl, rfl⟩
  case round =>
    obtain ⟨k, hk, rfl, rfl⟩ := hrel
    by_cases hlt : k < l.length
    · have hltz : (k : Int) < (l.length : Int) := by omega
      obtain ⟨b, off, rfl, hcc⟩ := HC.out (by rw [ints_length]; omega)
      have x0 := hcc k _ (ints_get l k hlt)
      have CC := Lib.hid (HP.out l[k] (List.getElem_mem hlt))
      generalize l[k] = y at *
      clear hcc
      go_wp2_with (go_at_fn g; refine CC.out.mono ?_; rintro e w' ⟨rfl, rfl⟩)
      go_roundw
      case rel => exact ⟨k + 1, by omega, by go_num, by first | rfl | trivial⟩
      case measure => simp [intOf]; omega
    · obtain rfl : k = l.length := by omega
      go_wp2
      go_ret
      first | exact ⟨rfl, rfl⟩ | exact ⟨rfl, trivial⟩
set_option maxRecDepth 100000 in
set_option maxHeartbeats 1000000 in
theorem cHasNone {w : World} {v : Value} {l : List Int} (g : Nat) (lb : Array Value) (eg : ∀ args w, (callFunc g args).run Try.prog w = .ok (.enter g args) w)
    (hp : ∀ x ∈ l, Calls Try.prog g (#[.int .i64 x] ++ lb) w fun e w' => e = .returned (.bool false) ∧ w = w') (h : Has w 1 v l.length (ints l)) :
    Calls Try.prog 33 #[v, .func (.func g) #[] lb] w fun e w' => e = .returned (.bool false) ∧ w = w' := by
  have C := Lib.hid (cIxNone g lb eg hp h)
  clear h hp
  go_enter Try.func33, Try.ntmps33
  go_wp2_with (go_at_call 49; refine C.out.mono ?_; rintro e w' ⟨rfl, rfl⟩)
  go_ret
  exact ⟨rfl, rfl⟩
theorem cLabs {w : World} {v : Value} {labs : List Nat} (b : Nat) (hb : w.cell? ⟨b, 0, none⟩ = some (.int .i64 4)) (hl : ∀ x ∈ labs, x < 16) (h : Has w 1 v labs.length (ints (labInts labs))) :
    Calls Try.prog 33 #[v, .func (.func 40) #[] #[.pointer (some ⟨b, 0, none⟩)]] w fun e w' => e = .returned (.bool false) ∧ w = w' :=
  cHasNone (l := labInts labs) _ _ (enters_of Try.func40 (by kernel_rfl) rfl) (fun x hx => by
    simp only [labInts, List.mem_map] at hx
    obtain ⟨y, hy, rfl⟩ := hx
    exact cLabP b y (hl y hy) w hb) (by simpa [labInts] using h)
/-- A play as a model. -/
def stAfter (labs : List Nat) (st : Nat → Nat → List Ent) (ts : List Trn) : Nat → Nat → List Ent := ts.foldl (fun s t => (turnOf labs s t).2) st
def codesOf (labs : List Nat) : (Nat → Nat → List Ent) → List Trn → List Int
  | _, [] => []
  | st, t :: r => (turnOf labs st t).1 :: codesOf labs (turnOf labs st t).2 r
theorem codesOf_append (labs : List Nat) : ∀ (a b : List Trn) (st : Nat → Nat → List Ent), codesOf labs st (a ++ b) = codesOf labs st a ++ codesOf labs (stAfter labs st a) b
  | [], b, st => rfl
  | t :: a, b, st => by
    have ih := codesOf_append labs a b (turnOf labs st t).2
    simp only [List.cons_append, codesOf, ih]; rfl
theorem stAfter_append (labs : List Nat) (a b : List Trn) (st : Nat → Nat → List Ent) : stAfter labs st (a ++ b) = stAfter labs (stAfter labs st a) b := by simp [stAfter]
theorem codesOf_length (labs : List Nat) : ∀ (a : List Trn) (st : Nat → Nat → List Ent), (codesOf labs st a).length = a.length
  | [], st => rfl
  | t :: a, st => by simp [codesOf, codesOf_length labs a]
def noSt : Nat → Nat → List Ent := fun _ _ => []
theorem maxT_merge {a b : List Ent} {n : Int} (ha : maxT a ≤ n) (hb : maxT b ≤ n) : maxT (mergeL a b) ≤ n :=
  maxT_le (Int.le_trans (maxT_nonneg a) ha) fun e he => by
    rcases mergeL_mem he with h | h
    · exact Int.le_trans (le_maxT h) ha
    · exact Int.le_trans (le_maxT h) hb
theorem upd2 {P : List Ent → Prop} {st : Nat → Nat → List Ent} {a b : Nat} {x : List Ent} (h : ∀ i j, P (st i j)) (hx : P x) (i j : Nat) : P (updF st a (updF (st a) b x) i j) := by
  by_cases e : i = a
  · subst e
    rw [updF_same]
    by_cases e' : j = b
    · subst e'; rw [updF_same]; exact hx
    · rw [updF_ne _ _ e']; exact h _ _
  · rw [updF_ne _ _ e]; exact h _ _
theorem tell_all {P : List Ent → Prop} (hm : ∀ a b, P a → P b → P (mergeL a b)) {labs : List Nat} {who to' : Nat} {st : Nat → Nat → List Ent} (h : ∀ i j, P (st i j)) : ∀ k i j, P (tellN labs who to' st k i j)
  | 0, i, j => h i j
  | k + 1, i, j => by
    have ih := tell_all hm (labs := labs) (who := who) (to' := to') h k
    unfold tellN
    cases labs[k]? with
    | none => exact ih i j
    | some lab =>
      simp only
      by_cases hc : inL lab who = true ∧ inL lab to' = true
      · rw [if_pos hc]
        exact upd2 ih (hm _ _ (ih _ _) (ih _ _)) i j
      · rw [if_neg hc]; exact ih i j
theorem tell_maxT {labs : List Nat} {who to' : Nat} {st : Nat → Nat → List Ent} {n : Int} (h : ∀ i j, maxT (st i j) ≤ n) (k i j : Nat) : maxT (tellN labs who to' st k i j) ≤ n :=
  tell_all (P := fun l => maxT l ≤ n) (fun _ _ => maxT_merge) h k i j
theorem turn_maxT {labs : List Nat} {st : Nat → Nat → List Ent} {t : Trn} {n : Int} (h : ∀ i j, maxT (st i j) ≤ n) (i j : Nat) : maxT ((turnOf labs st t).2 i j) ≤ n + 1 := by
  have h' : ∀ i j, maxT (st i j) ≤ n + 1 := fun i j => by have := h i j; omega
  have hp : ∀ gone, maxT (putSt st t gone i j) ≤ n + 1 := fun gone => by
    unfold putSt
    refine upd2 (P := fun l => maxT l ≤ n + 1) h' (maxT_merge (h' _ _) ?_) i j
    have h1 := h t.who t.label
    have h2 := maxT_nonneg (st t.who t.label)
    simp only [maxT, putE]; omega
  unfold turnOf
  split
  · exact tell_maxT h' _ i j
  · split
    · split
      · exact hp false
      · split
        · exact hp true
        · exact h' i j
    · exact h' i j
theorem after_maxT (labs : List Nat) : ∀ (ts : List Trn) (st : Nat → Nat → List Ent) (n : Int), (∀ i j, maxT (st i j) ≤ n) → ∀ i j, maxT (stAfter labs st ts i j) ≤ n + ts.length
  | [], st, n, h, i, j => by simpa [stAfter] using h i j
  | t :: r, st, n, h, i, j => by
    have := after_maxT labs r (turnOf labs st t).2 (n + 1) (fun i j => turn_maxT h i j) i j
    simp only [List.length_cons, stAfter, List.foldl_cons] at this ⊢
    omega
section
variable {w w' : World} {base H : Nat} {hs : Hs} {labs : List Nat} {vs : Nat → Nat → Value} {st : Nat → Nat → List Ent}
theorem StoreAt.chc {T : List TypeId} {g m : Nat} {vs : Nat → Value} {l : Nat → List Ent} (h : StoreAt w g m vs l) (hc : Chc T w w') (h1 : 33 ∉ T) (h2 : 41 ∉ T) : StoreAt w' g m vs l :=
  ⟨hc.block _ _ _ _ h.cells h1, fun j hj => (h.rows j hj).chc hc h2, h.ok⟩
theorem HouseAt.chc {T : List TypeId} (h : HouseAt w base H hs labs vs st) (hc : Chc T w w') (h1 : 33 ∉ T) (h2 : 41 ∉ T) (h3 : 86 ∉ T) (h4 : 3 ∉ T) (h5 : 87 ∉ T) : HouseAt w' base H hs labs vs st :=
  ⟨hc.block _ _ _ _ h.cells h3, h.row.chc hc h4, h.len, h.lab, h.stores.chc hc h5, fun i hi => (h.store i hi).chc hc h1 h2, h.inj, h.lo⟩
end
/-- The house is being built: k stores stand. -/
structure Building (w wr : World) (base H : Nat) (vl : Value) (m k : Nat) (v : Value) (g : Nat → Nat) : Prop where
  house : wr.heap[H]? = some (.cells #[vl, v] 86 (0, 0))
  row : wr.ownsRow base 87 1 v k ((List.range k).map fun i => .slice (some ⟨g i, 0, none⟩) m m)
  store : ∀ i, i < k → wr.heap[g i]? = some (.cells (List.replicate m (Value.slice none 0 0)).toArray 33 (0, 0)) ∧ base ≤ g i
  inj : ∀ i j, i < k → j < k → i ≠ j → g i ≠ g j
  hb : Below base w wr
  hH : base ≤ H
  hsz : base ≤ wr.heap.size
theorem two_cells {W : World} {b : Nat} {a0 a1 : Value} {e : TypeId} (h : W.heap[b]? = some (.cells #[a0, a1] e (0, 0))) : W.cell? ⟨b, 0, none⟩ = some a0 ∧ W.cell? ⟨b, 1, none⟩ = some a1 ∧ W.frozen? ⟨b, 0, none⟩ = false ∧ W.frozen? ⟨b, 1, none⟩ = false :=
  ⟨by rw [cell_of_row W _ _ _ _ _ h]; rfl, by rw [cell_of_row W _ _ _ _ _ h]; rfl, by simp [World.frozen?, h], by simp [World.frozen?, h]⟩
theorem elStore : Elem Try.prog 87 1 24 (.slice none 0 0) := .of (by kernel_rfl) rfl (by decide)
theorem infoEnts : (Try.prog.info? 33).map (fun i => (i.zero, i.size, i.bytes)) = some (some (.slice none 0 0), 1, 24) := by kernel_rfl
theorem elErrno : Elem Try.prog 39 1 8 (.int .i64 0) := .of (by kernel_rfl) rfl (by decide)
theorem elEnts2 : Elem Try.prog 34 1 24 (.slice none 0 0) := .of (by kernel_rfl) rfl (by decide)
theorem range_snoc_map {α : Type} (f : Nat → α) (k : Nat) : (List.range k).map f ++ [f k] = (List.range (k + 1)).map f := by rw [List.range_succ, List.map_append]; rfl
section
variable {w wr w5 w6 : World} {base H m k : Nat} {vl v v6 : Value} {g : Nat → Nat}
/-- What the house's cells read. -/
theorem Building.two (h : Building w wr base H vl m k v g) : wr.cell? ⟨H, 0, none⟩ = some vl ∧ wr.cell? ⟨H, 1, none⟩ = some v ∧ wr.frozen? ⟨H, 1, none⟩ = false := by
  obtain ⟨a, b, -, d⟩ := two_cells h.house
  exact ⟨a, b, d⟩
theorem Building.x (h : Building w wr base H vl m k v g) (h5 : Below wr.heap.size wr w5) (hg : w5.grownBy w6 v.ownBlock) : w6.cell? ⟨H, 1, none⟩ = some v ∧ w6.frozen? ⟨H, 1, none⟩ = false ∧ w6.heap[H]? = some (.cells #[vl, v] 86 (0, 0)) := by
  have hrow := owns_below h.row h5
  have hc := Chc.grown (T := [87]) hrow hg (by simp)
  have h6 := hc.block _ _ _ _ (by rw [h5.block _ (Array.getElem?_eq_some_iff.1 h.house).1]; exact h.house) (by decide)
  obtain ⟨-, b, -, d⟩ := two_cells h6
  exact ⟨b, d, h6⟩
theorem Building.step (h : Building w wr base H vl m k v g) (g' : Nat) (hg' : wr.heap.size ≤ g') (h5 : Below wr.heap.size wr w5) (hnew : w5.heap[g']? = some (.cells (List.replicate m (Value.slice none 0 0)).toArray 33 (0, 0)))
    (hown : w6.ownsRow base 87 1 v6 (k + 1) (((List.range k).map fun i => .slice (some ⟨g i, 0, none⟩) m m) ++ [.slice (some ⟨g', 0, none⟩) m m])) (hg : w5.grownBy w6 v.ownBlock) (hb6 : Below base w5 w6) :
    Building w (w6.setCell ⟨H, 1, none⟩ v6) base H vl m (k + 1) v6 (updF g k g') := by
  have hrow := owns_below h.row h5
  have hc := Chc.grown (T := [87]) hrow hg (by simp)
  obtain ⟨-, -, h6⟩ := h.x h5 hg
  have hc2 := Chc.setCell (T := [86]) (p := ⟨H, 1, none⟩) h6 (by simp) v6
  have hlt : ∀ i, i < k → g i < wr.heap.size := fun i hi => (Array.getElem?_eq_some_iff.1 (h.store i hi).1).1
  refine ⟨heap_setCell_same _ _ _ _ _ _ h6, ?_, fun i hi => ?_, fun i j hi hj hne => ?_, ?_, h.hH, ?_⟩
  · have e : ((List.range k).map fun i => Value.slice (some ⟨g i, 0, none⟩) m m) ++ [Value.slice (some ⟨g', 0, none⟩) m m] = (List.range (k + 1)).map fun i => Value.slice (some ⟨updF g k g' i, 0, none⟩) m m := by
      rw [← range_snoc_map, updF_same]
      congr 1
      apply List.map_congr_left
      intro i hi
      rw [updF_ne]; have := List.mem_range.1 hi; omega
    rw [← e]
    exact owns_chc hown hc2 (by decide)
  · by_cases e : i = k
    · subst e
      rw [updF_same]
      exact ⟨hc2.block _ _ _ _ (hc.block _ _ _ _ hnew (by decide)) (by decide), Nat.le_trans h.hsz hg'⟩
    · rw [updF_ne _ _ e]
      have hik : i < k := by omega
      exact ⟨hc2.block _ _ _ _ (hc.block _ _ _ _ (by rw [h5.block _ (hlt i hik)]; exact (h.store i hik).1) (by decide)) (by decide), (h.store i hik).2⟩
  · by_cases e : i = k
    · subst e
      rw [updF_same, updF_ne _ _ (by omega)]
      have := hlt j (by omega); omega
    · by_cases e' : j = k
      · subst e'
        rw [updF_same, updF_ne _ _ e]
        have := hlt i (by omega); omega
      · rw [updF_ne _ _ e, updF_ne _ _ e']
        exact h.inj i j (by omega) (by omega) hne
  · exact ((h.hb.trans (h5.mono h.hsz)).trans hb6).setCell h.hH _
  · have := h.hsz; have := h5.size; have := hb6.size; simp [World.setCell]; omega
theorem Building.below (h : Building w wr base H vl m k v g) (hb : Below wr.heap.size wr w5) : Building w w5 base H vl m k v g :=
  ⟨by rw [hb.block _ (Array.getElem?_eq_some_iff.1 h.house).1]; exact h.house, owns_below h.row hb, fun i hi => ⟨by rw [hb.block _ (Array.getElem?_eq_some_iff.1 (h.store i hi).1).1]; exact (h.store i hi).1, (h.store i hi).2⟩, h.inj, h.hb.trans (hb.mono h.hsz), h.hH, Nat.le_trans h.hsz hb.size⟩
/-- The house stands. -/
theorem Building.done {labs : List Nat} {la : Option Addr} {cl gs cs : Nat} (h : Building w wr base H (.slice la labs.length cl) labs.length 4 (.slice (some ⟨gs, 0, none⟩) 4 cs) g)
    (hrow : HasT wr 3 1 (.slice la labs.length cl) labs.length (ints (labInts labs))) (hlen : labs.length ≤ 4) (hlab : ∀ x ∈ labs, x < 16) :
    HouseAt wr base H ⟨la, cl, gs, cs, g⟩ labs (fun _ _ => .slice none 0 0) noSt := by
  refine ⟨h.house, hrow, hlen, hlab, HasT.of_owns h.row, fun i hi => ⟨?_, fun j hj => ?_, fun j hj => EightL.nil⟩, h.inj, fun i hi => (h.store i hi).2⟩
  · rw [(h.store i hi).1]
    congr 3
    apply List.ext_getElem <;> simp
  · exact ⟨⟨⟨rfl, fun n c he => by simp only [Value.slice.injEq] at he; exact ⟨he.2.1.symm, he.2.2.symm⟩⟩, none, 0, rfl, Nat.le_refl _, by decide, fun hp => by simp [ents, noSt] at hp⟩, fun b o n' c he => by simp at he⟩
end
end Go.Proofs.Ytngedkfljpkoiaa
