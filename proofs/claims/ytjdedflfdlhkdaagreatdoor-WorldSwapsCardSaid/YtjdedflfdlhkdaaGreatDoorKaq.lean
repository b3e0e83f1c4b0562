/- Texts that the claim imports, laid together: FrmN WTickA WSendW. No statement of their own. -/
import Derived.Test.YtjdedflfdlhkdaaGreatDoorKag
import Derived.Test.YtjdedflfdlhkdaaGreatDoorKak
import Derived.Test.YtjdedflfdlhkdaaGreatDoorKal
import Derived.Test.YtjdedflfdlhkdaaGreatDoorKan
namespace Go.Proofs.YtjdedflfdlhkdaaGreatDoor
set_option linter.unusedVariables false
set_option linter.unusedSimpArgs false

theorem slotsOf_bits (es : List Ent) : ((slotsOf es).flatMap fun p => fieldBits p.1.toNat p.2.toNat).length = 272 := by
  unfold slotsOf
  rw [List.flatMap_map]
  have : ∀ n : Nat, ((List.range n).flatMap fun k => fieldBits (34 : Int).toNat (slotAt es k).toNat).length = n * 34 := by
    intro n
    induction n with
    | zero => rfl
    | succ n ih => rw [List.range_succ, List.flatMap_append, List.length_append, ih, List.flatMap_cons, List.flatMap_nil, List.append_nil, fieldBits_length, Nat.succ_mul]; rfl
  exact this 8
theorem rum_bits (ix : List Nat) (l : Nat → List Ent) : (recBits (ix.flatMap fun i => slotsOf (l i))).length = ix.length * 272 := by
  unfold recBits
  induction ix with
  | nil => rfl
  | cons a t ih => rw [List.flatMap_cons, List.flatMap_append, List.length_append, slotsOf_bits, ih, List.length_cons, Nat.succ_mul]; omega
theorem rum_size (labs : List Nat) (f t : Nat) (l : Nat → List Ent) : recSize (rumF labs f t l) = ((shr labs f t labs.length).length * 272 + 7) / 8 := by
  unfold recSize rumF; rw [rum_bits]
theorem shr_symm (labs : List Nat) (f t : Nat) : ∀ k, shr labs f t k = shr labs t f k
  | 0 => rfl
  | k + 1 => by
    unfold shr
    rw [shr_symm labs f t k]
    by_cases h1 : lb labs k f = true <;> by_cases h2 : lb labs k t = true <;> simp [h1, h2]
theorem rumF_congr (labs : List Nat) (f t : Nat) (l l' : Nat → List Ent) (h : ∀ i, i < labs.length → lb labs i f = true → lb labs i t = true → l i = l' i) : rumF labs f t l = rumF labs f t l' := by
  unfold rumF
  have : ∀ ix : List Nat, (∀ i ∈ ix, l i = l' i) → (ix.flatMap fun i => slotsOf (l i)) = ix.flatMap fun i => slotsOf (l' i) := by
    intro ix hix
    induction ix with
    | nil => rfl
    | cons a t ih => rw [List.flatMap_cons, List.flatMap_cons, hix a List.mem_cons_self, ih fun i hi => hix i (List.mem_cons_of_mem _ hi)]
  exact this _ fun i hi => by
    obtain ⟨h1, h2, h3⟩ := (shr_mem labs f t labs.length i).1 hi
    exact h i h1 h2 h3
end Go.Proofs.YtjdedflfdlhkdaaGreatDoor

namespace Go.Proofs.YtjdedflfdlhkdaaGreatDoor
open Go.ChangeShapes Go.WideShapes Go.ChangeAt Go.RowKit
set_option linter.unusedVariables false
set_option linter.unusedSimpArgs false

section
variable {w w' : World} {c : Cfg} {X : Adr} {own own' : Own} {N : Nat} {s : Wld}
theorem WAt.shCongr (h : WAt w c X own N s) (f : Nat → Nat → Shf) (hf : ∀ i k, i < c.n → k < c.items → f i k = s.sh i k) : WAt w c X own N { s with sh := f } :=
  ⟨h.lt, h.fix, fun i hi => ⟨(h.sh i hi).tag, (h.sh i hi).lt, fun k hk => (by simp only [hf i k hi hk]; exact (h.sh i hi).each k hk), fun k hk => (by simp only [hf i k hi hk]; exact (h.sh i hi).ok k hk)⟩, h.asks, h.gain, h.st, h.bk, h.off, h.lost⟩
theorem WAt.bkCongr (h : WAt w c X own N s) (f : Nat → Bk) (hf : ∀ k, k < c.items → f k = s.bk k) : WAt w c X own N { s with bk := f } :=
  ⟨h.lt, h.fix, h.sh, h.asks, h.gain, h.st, fun k hk => (by simp only [hf k hk]; exact h.bk k hk), h.off, h.lost⟩
theorem WAt.storeH {K : Nat} (h : WAt w c X own N s) (i : Nat) (hi : i < c.n) (hok : ∀ j, j < c.labs.length → EntOk K (s.st i j)) (hl : c.labs.length ≤ 4) : ∃ vs, StoreH w (.slice (some ⟨X.T i, 0, none⟩) c.labs.length c.labs.length) c.labs.length vs (s.st i) := by
  obtain ⟨vs, q1, q2⟩ := (h.st i hi).ex
  refine ⟨vs, ⟨⟨by simp, fun n cap h => by simp at h⟩, _, _, rfl, Nat.le_refl _, by unfold maxLen; omega, fun _ => ⟨_, _, rfl, fun j u hu => ?_⟩⟩, fun j hj => (q1.rows j hj).has, fun j hj => ⟨(hok j hj).may, (hok j hj).v⟩⟩
  rw [cell_of_row w _ _ _ _ _ q1.cells, Nat.zero_add]
  simpa using hu
theorem WAt.asksHas (h : WAt w c X own N s) (i : Nat) (hi : i < c.n) (hl : c.items ≤ 3) : Has w 1 (.slice (some ⟨X.A i, 0, none⟩) c.items c.items) ((List.range c.items).map (s.asks i)).length (ints ((List.range c.items).map (s.asks i))) := by
  have := (h.asks i hi).has (by simp [maxLen]; omega)
  simpa using this
end
/-- Shelves have ticked: those of the first branches, and the first of one. -/
def Wld.tickTo (s : Wld) (m a b : Nat) : Wld := { s with sh := fun i k => if (i < a ∧ k < m) ∨ (i = a ∧ k < b) then (s.sh i k).ticked else s.sh i k }
theorem next_tick (s : Shf) : s.next ⟨7, 0, 0, 0⟩ = s.ticked := by
  unfold Shf.next Shf.order
  simp
theorem tickTo_zero (s : Wld) (m : Nat) : s.tickTo m 0 0 = s := by
  unfold Wld.tickTo
  have : (fun i k => if (i < 0 ∧ k < m) ∨ (i = 0 ∧ k < 0) then (s.sh i k).ticked else s.sh i k) = s.sh := by funext i k; exact if_neg (by omega)
  rw [this]
theorem tickTo_row (s : Wld) (m a : Nat) : s.tickTo m a m = s.tickTo m (a + 1) 0 := by
  unfold Wld.tickTo
  congr 1
  funext i k
  by_cases h : (i < a ∧ k < m) ∨ (i = a ∧ k < m)
  · rw [if_pos h, if_pos (by omega)]
  · rw [if_neg h, if_neg (by omega)]
theorem tickTo_at (s : Wld) (m a b : Nat) : (s.tickTo m a b).sh a b = s.sh a b := by unfold Wld.tickTo; exact if_neg (by omega)
theorem tickTo_succ (s : Wld) (m a b : Nat) : s.tickTo m a (b + 1) = { s.tickTo m a b with sh := upd2 (s.tickTo m a b).sh a b (((s.tickTo m a b).sh a b).next ⟨7, 0, 0, 0⟩) } := by
  rw [tickTo_at, next_tick]
  unfold Wld.tickTo
  congr 1
  funext i k
  by_cases e : i = a ∧ k = b
  · obtain ⟨rfl, rfl⟩ := e
    rw [upd2_same, if_pos (by omega)]
  · rw [upd2_ne _ _ e]
    dsimp only
    by_cases h : (i < a ∧ k < m) ∨ (i = a ∧ k < b)
    · rw [if_pos h, if_pos (by omega)]
    · rw [if_neg h, if_neg (by omega)]
/-- Letters are sent. -/
def Wld.more (s : Wld) (l : List Let) : Wld := { s with ls := s.ls ++ l }
theorem more_nil (s : Wld) : s.more [] = s := by unfold Wld.more; simp
theorem more_snoc (s : Wld) (l : List Let) (x : Let) : s.more (l ++ [x]) = { s.more l with ls := (s.more l).ls ++ [x] } := by unfold Wld.more; simp
theorem envs_snoc (labs : List Nat) (m : Nat) (l : List Let) (x : Let) : envs labs m (l ++ [x]) = envs labs m l ++ [x.env labs (m + l.length)] := by
  unfold envs
  rw [List.length_append, List.length_singleton, List.range_succ, List.zipWith_append (by simp)]
  rfl
theorem envs_length (labs : List Nat) (m : Nat) (l : List Let) : (envs labs m l).length = l.length := by unfold envs; simp
theorem more_length (s : Wld) (l : List Let) : (s.more l).ls.length = s.ls.length + l.length := by unfold Wld.more; simp
/-- The letters of the first branches, and the first of one. -/
def preMsgs (c : Cfg) (s : Wld) (i : Nat) : List Let := (List.range i).flatMap (rowMsg c s)
def rowTo (c : Cfg) (s : Wld) (i j : Nat) : List Let := askMsg c s i :: ((List.range j).filter (· ≠ i)).map (rumMsg s i)
theorem preMsgs_succ (c : Cfg) (s : Wld) (i : Nat) : preMsgs c s (i + 1) = preMsgs c s i ++ rowTo c s i c.n := by
  unfold preMsgs rowTo
  rw [List.range_succ, List.flatMap_append]; simp [rowMsg]
theorem rowTo_zero (c : Cfg) (s : Wld) (i : Nat) : rowTo c s i 0 = [askMsg c s i] := rfl
theorem rowTo_ne (c : Cfg) (s : Wld) (i j : Nat) (h : j ≠ i) : rowTo c s i (j + 1) = rowTo c s i j ++ [rumMsg s i j] := by
  unfold rowTo
  rw [List.range_succ, List.filter_append]
  simp [h]
theorem rowTo_eq (c : Cfg) (s : Wld) (i : Nat) : rowTo c s i (i + 1) = rowTo c s i i := by
  unfold rowTo
  rw [List.range_succ, List.filter_append]
  simp
theorem rowTo_length (c : Cfg) (s : Wld) (i j : Nat) : (rowTo c s i j).length ≤ j + 1 := by
  unfold rowTo
  simp only [List.length_cons, List.length_map]
  have := List.length_filter_le (fun x => decide (x ≠ i)) (List.range j)
  simp only [List.length_range] at this
  omega
theorem preMsgs_length (c : Cfg) (s : Wld) : ∀ i, (preMsgs c s i).length ≤ i * (c.n + 1)
  | 0 => by simp [preMsgs]
  | i + 1 => by
    rw [preMsgs_succ, List.length_append, Nat.succ_mul]
    have h1 := preMsgs_length c s i
    have h2 := rowTo_length c s i c.n
    omega
/-- What a branch was given of the first items. -/
def givL (s : Wld) (k i : Nat) : List Int := (List.range k).map fun k' => (s.bk k').rounded.granted.getD i 0
def giveTo (c : Cfg) (s : Wld) (i : Nat) : List Let := (List.range i).map (giveMsg c s)
theorem giveTo_succ (c : Cfg) (s : Wld) (i : Nat) : giveTo c s (i + 1) = giveTo c s i ++ [giveMsg c s i] := by unfold giveTo; rw [List.range_succ, List.map_append]; rfl
theorem tickMsgs_eq (c : Cfg) (s : Wld) : tickMsgs c s = preMsgs c s c.n ++ giveTo c s c.n := rfl
/-- The books of the first items have gone round. -/
def Wld.rnd (s : Wld) (k : Nat) : Wld := { s with bk := fun k' => if k' < k then (s.bk k').rounded else s.bk k' }
theorem rnd_zero (s : Wld) : s.rnd 0 = s := by
  unfold Wld.rnd
  have : (fun k' => if k' < 0 then (s.bk k').rounded else s.bk k') = s.bk := by funext k; exact if_neg (by omega)
  rw [this]
theorem rnd_at (s : Wld) (k : Nat) : (s.rnd k).bk k = s.bk k := by unfold Wld.rnd; exact if_neg (by omega)
theorem rnd_succ (s : Wld) (k : Nat) : s.rnd (k + 1) = { s.rnd k with bk := updF (s.rnd k).bk k ((s.rnd k).bk k).rounded } := by
  rw [rnd_at]
  unfold Wld.rnd
  congr 1
  funext j
  by_cases e : j = k
  · subst e; rw [updF_same, if_pos (by omega)]
  · rw [updF_ne _ _ e]
    dsimp only
    by_cases h : j < k
    · rw [if_pos h, if_pos (by omega)]
    · rw [if_neg h, if_neg (by omega)]
def repTo (s : Wld) (k : Nat) : List Int := ((List.range k).map fun k => (s.bk k).report).filter (fun r => decide (0 ≤ r))
theorem repTo_yes (s : Wld) (k : Nat) (h : 0 ≤ (s.bk k).report) : repTo s (k + 1) = repTo s k ++ [(s.bk k).report] := by
  unfold repTo; rw [List.range_succ, List.map_append, List.filter_append]; simp [h]
theorem repTo_no (s : Wld) (k : Nat) (h : ¬ 0 ≤ (s.bk k).report) : repTo s (k + 1) = repTo s k := by
  unfold repTo; rw [List.range_succ, List.map_append, List.filter_append]; simp; omega
theorem repTo_length (s : Wld) (k : Nat) : (repTo s k).length ≤ k := by
  unfold repTo
  have := List.length_filter_le (fun r => decide (0 ≤ r)) ((List.range k).map fun k => (s.bk k).report)
  simpa using this
/-- Rows of numbers that lie apart. -/
structure RowsAt (w : World) (own : Own) (B m : Nat) (gv : Nat → Value) (f : Nat → List Int) : Prop where
  rows : ∀ i, i < m → Mrow w own B 3 1 (gv i) (f i).length (ints (f i))
  apart : ∀ i j, i < m → j < m → i ≠ j → ∀ g, (gv i).ownBlock = some g → (gv j).ownBlock ≠ some g
section
variable {w w1 w6 : World} {own own1 : Own} {B m : Nat} {gv : Nat → Value} {f : Nat → List Int}
theorem RowsAt.went (h : RowsAt w own B m gv f) (hu : Went own own1 w w1) : RowsAt w1 own1 B m gv f := ⟨fun i hi => (h.rows i hi).went hu, h.apart⟩
theorem RowsAt.on (h : RowsAt w own B m gv f) (hb : Below w.heap.size w w1) : RowsAt w1 own B m gv f := ⟨fun i hi => (h.rows i hi).on hb, h.apart⟩
theorem RowsAt.set (h : RowsAt w own B m gv f) {R : Nat} (hR : R < B) (j : Nat) (u : Value) : RowsAt (w.setCell ⟨R, j, none⟩ u) own B m gv f := ⟨fun i hi => (h.rows i hi).set hR j u, h.apart⟩
theorem RowsAt.app (h : RowsAt w own B m gv f) (hl : ∀ b, own b ≠ none → b < w.heap.size) (hB : B ≤ w.heap.size) (i : Nat) (hi : i < m) {v6 : Value} {x : Int} (h6 : w6.ownsRow 0 3 1 v6 ((f i).length + 1) (ints (f i) ++ [.int .i64 x])) (ha : AtOr w (gv i) v6) (hg : w.grownBy w6 (gv i).ownBlock) :
    RowsAt w6 own B m (updF gv i v6) (updF f i (f i ++ [x])) := by
  have hv6 : ∀ g, v6.ownBlock = some g → B ≤ g ∧ own g = none := fun g hg6 => by
    rcases ha g hg6 with h1 | h1
    · exact ⟨(owns_block_of (h.rows i hi).row h1).1, (h.rows i hi).free g h1⟩
    · refine ⟨Nat.le_trans hB h1, ?_⟩
      cases ho : own g with
      | none => rfl
      | some t => exact absurd (hl g (by rw [ho]; simp)) (by omega)
  refine ⟨fun j hj => ?_, fun a b hab hb hne g hga hgb => ?_⟩
  · by_cases e : j = i
    · subst e
      rw [updF_same, updF_same, List.length_append, show ints (f j ++ [x]) = ints (f j) ++ [.int .i64 x] by simp [ints]]
      refine ⟨⟨h6.1, ?_⟩, fun g hg6 => (hv6 g hg6).2⟩
      rcases h6.2 with h | ⟨g, cap, cur, he, hg0, r⟩
      · exact .inl h
      · exact .inr ⟨g, cap, cur, he, (hv6 g (by rw [he]; rfl)).1, r⟩
    · rw [updF_ne _ _ e, updF_ne _ _ e]
      have q := h.rows j hj
      exact ⟨owns_kept q.row fun g hgj => hg.block g (owns_block_of q.row hgj).2.1 fun e0 => h.apart j i hj hi e g hgj e0.symm, q.free⟩
  · by_cases ea : a = i
    · subst ea
      have eb : b ≠ a := fun e => hne e.symm
      rw [updF_same] at hga
      rw [updF_ne _ _ eb] at hgb
      rcases ha g hga with h1 | h1
      · exact h.apart a b hab hb hne g h1 hgb
      · have := (owns_block_of (h.rows b hb).row hgb).2.1; omega
    · rw [updF_ne _ _ ea] at hga
      by_cases eb : b = i
      · subst eb
        rw [updF_same] at hgb
        rcases ha g hgb with h1 | h1
        · exact h.apart a b hab hb hne g hga h1
        · have := (owns_block_of (h.rows a hab).row hga).2.1; omega
      · rw [updF_ne _ _ eb] at hgb
        exact h.apart a b hab hb hne g hga hgb
/-- One of them is made anew. -/
theorem RowsAt.fresh (h : RowsAt w own B m gv f) (hu : Went own own1 w w1) (hB : B ≤ w.heap.size) (i : Nat) (hi : i < m) {v : Value} {l : List Int} (hv : w1.ownsRow w.heap.size 3 1 v l.length (ints l)) (hf : ∀ g, v.ownBlock = some g → own1 g = none) : RowsAt w1 own1 B m (updF gv i v) (updF f i l) := by
  refine ⟨fun j hj => ?_, fun a b hab hb hne g hga hgb => ?_⟩
  · by_cases e : j = i
    · subst e; rw [updF_same, updF_same]; exact ⟨owns_base hv hB, hf⟩
    · rw [updF_ne _ _ e, updF_ne _ _ e]; exact (h.rows j hj).went hu
  · have hn : ∀ j, j < m → ∀ g, (gv j).ownBlock = some g → g < w.heap.size := fun j hj g hg => (owns_block_of (h.rows j hj).row hg).2.1
    by_cases ea : a = i
    · subst ea
      have eb : b ≠ a := fun e => hne e.symm
      rw [updF_same] at hga
      rw [updF_ne _ _ eb] at hgb
      have h1 := hn b hb g hgb
      have h2 := (owns_block_of hv hga).1
      omega
    · rw [updF_ne _ _ ea] at hga
      by_cases eb : b = i
      · subst eb
        rw [updF_same] at hgb
        have h1 := hn a hab g hga
        have h2 := (owns_block_of hv hgb).1
        omega
      · rw [updF_ne _ _ eb] at hgb
        exact h.apart a b hab hb hne g hga hgb
end
section
variable {w0 w w1 w6 : World} {own own1 : Own} {c : Cfg} {X : Adr} {N m : Nat} {s : Wld} {sv rv : Value} {l : List Env} {rp : List Int} {gv : Nat → Value} {f : Nat → List Int}
/-- A row of numbers of the tick's own has grown, other than the reports'. -/
theorem WTk.grown (t : WTk w0 own w1 c X own1 N s sv l rv rp) (h : RowsAt w1 own1 (w0.heap.size + 2) m gv f) (i q : Nat) (hi : i < m) (hq : q < m) (hne : i ≠ q) (hrv : gv q = rv) (hg : w1.grownBy w6 (gv i).ownBlock) : WTk w0 own w6 c X own1 N s sv l rv rp := by
  have q1 := h.rows i hi
  have hF : ∀ b, (gv i).ownBlock = some b → w0.heap.size ≤ b ∧ own1 b = none := fun b hb => ⟨by have := (owns_block_of q1.row hb).1; omega, q1.free b hb⟩
  have hR : (gv i).ownBlock ≠ some (w0.heap.size + 1) := fun e => by have := (owns_block_of q1.row e).1; omega
  have hB : (gv i).ownBlock ≠ some w0.heap.size := fun e => by have := (owns_block_of q1.row e).1; omega
  refine ⟨t.g.grown hF hg, t.b1.grown hg hB, t.r.grown hg hR, t.s.grown q1 (by decide) hg, ⟨owns_kept t.p.row fun g hgj => hg.block g (owns_block_of t.p.row hgj).2.1 fun e0 => ?_, t.p.free⟩⟩
  exact h.apart i q hi hq hne g e0.symm (by rw [hrv]; exact hgj)
end
theorem Mrow.notG {w : World} {own : Own} {B : Nat} {e : TypeId} {sz n G : Nat} {v : Value} {xs cs : List Value} (h : Mrow w own B e sz v n xs) (hG : w.heap[G]? = some (.cells cs.toArray 22 (0, 0))) (he : e ≠ 22) : v.ownBlock ≠ some G := fun e0 => by
  obtain ⟨_, _, ds, h1⟩ := owns_block_of h.row e0
  rw [hG] at h1
  simp only [Option.some.injEq, Obj.cells.injEq] at h1
  exact he h1.2.1.symm
theorem Mrow.setG {w : World} {own : Own} {B : Nat} {e : TypeId} {sz n G : Nat} {v : Value} {xs cs : List Value} (h : Mrow w own B e sz v n xs) (hG : w.heap[G]? = some (.cells cs.toArray 22 (0, 0))) (he : e ≠ 22) (j : Nat) (u : Value) : Mrow (w.setCell ⟨G, j, none⟩ u) own B e sz v n xs :=
  ⟨owns_kept h.row fun g hg => Below.heap_setCell _ _ _ _ fun e0 => h.notG hG he (by rw [hg]; exact congrArg some e0), h.free⟩
theorem RowsAt.setG {w : World} {own : Own} {B m G : Nat} {gv : Nat → Value} {f : Nat → List Int} {cs : List Value} (h : RowsAt w own B m gv f) (hG : w.heap[G]? = some (.cells cs.toArray 22 (0, 0))) (j : Nat) (u : Value) : RowsAt (w.setCell ⟨G, j, none⟩ u) own B m gv f :=
  ⟨fun i hi => (h.rows i hi).setG hG (by decide) j u, h.apart⟩
section
variable {w0 w w1 w6 : World} {own own1 own2 : Own} {c : Cfg} {X : Adr} {N M m G : Nat} {s s2 : Wld} {sv rv : Value} {l : List Env} {rp : List Int} {gv : Nat → Value} {f : Nat → List Int} {cs : List Value}
theorem WTk.setG (t : WTk w0 own w1 c X own1 N s sv l rv rp) (m : Mine own1 w1 G (.cells cs.toArray 22 (0, 0))) (hG : w0.heap.size + 2 ≤ G) (j : Nat) (u : Value) : WTk w0 own (w1.setCell ⟨G, j, none⟩ u) c X own1 N s sv l rv rp :=
  ⟨t.g.set (by omega) m.ho j u, t.b1.other (by simp only; omega) u, t.r.other (by simp only; omega) u, t.s.setG m.hb (by decide) j u, t.p.setG m.hb (by decide) j u⟩
/-- Rows lie where a frame that is sent does not write. -/
theorem RowsAt.framed {sv : Value} {Bs ns : Nat} {xs : List Value} (h : RowsAt w1 own1 (w0.heap.size + 2) m gv f) (hs : Mrow w1 own1 Bs 86 4 sv ns xs) (hf : ∀ b o, Mine own1 w1 b o → b ≠ w0.heap.size + 1 → sv.ownBlock ≠ some b → Mine own2 w6 b o) : RowsAt w6 own2 (w0.heap.size + 2) m gv f := by
  refine ⟨fun i hi => ?_, h.apart⟩
  have q := h.rows i hi
  have key : ∀ g, (gv i).ownBlock = some g → ∀ o, w1.heap[g]? = some o → Mine own2 w6 g o := fun g hg o ho => by
    refine hf g o ⟨q.free g hg, ho⟩ (by have := (owns_block_of q.row hg).1; omega) fun e0 => ?_
    obtain ⟨_, _, ds, h1⟩ := owns_block_of q.row hg
    obtain ⟨_, _, es, h2⟩ := owns_block_of hs.row e0
    rw [h1] at h2
    simp only [Option.some.injEq, Obj.cells.injEq] at h2
    exact absurd h2.2.1 (by decide)
  refine ⟨owns_kept q.row fun g hg => ?_, fun g hg => ?_⟩
  · obtain ⟨_, _, ds, h1⟩ := owns_block_of q.row hg
    rw [h1]; exact (key g hg _ h1).hb
  · obtain ⟨_, _, ds, h1⟩ := owns_block_of q.row hg
    exact (key g hg _ h1).ho
end
theorem map_updF (gv : Nat → Value) (n i : Nat) (v : Value) : ((List.range n).map gv).toArray.setIfInBounds i v = ((List.range n).map (updF gv i v)).toArray := by
  apply Array.ext'
  rw [Array.toList_setIfInBounds, List.toList_toArray, List.toList_toArray]
  apply List.ext_getElem (by simp)
  intro j h1 h2
  rw [List.getElem_set]
  simp only [List.getElem_map, List.getElem_range]
  by_cases e : i = j
  · subst e; rw [if_pos rfl, updF_same]
  · rw [if_neg e, updF_ne _ _ (by omega)]
theorem givL_length (s : Wld) (k i : Nat) : (givL s k i).length = k := by simp [givL]
theorem givL_succ (s : Wld) (k i : Nat) : givL s (k + 1) i = givL s k i ++ [(s.bk k).rounded.granted.getD i 0] := by unfold givL; rw [List.range_succ, List.map_append]; rfl
theorem giv_cell {w w6 : World} {own : Own} {B m G : Nat} {gv : Nat → Value} {f : Nat → List Int} {cs : List Value} (h : RowsAt w own B m gv f) (mg : Mine own w G (.cells cs.toArray 22 (0, 0))) (i : Nat) (hi : i < m) (hg : w.grownBy w6 (gv i).ownBlock) {v : Value} (g0 : w.cell? ⟨G, i, none⟩ = some v) (gf : w.frozen? ⟨G, i, none⟩ = false) : w6.cell? ⟨G, i, none⟩ = some v ∧ w6.frozen? ⟨G, i, none⟩ = false := by
  have m6 := mg.grown hg ((h.rows i hi).notG mg.hb (by decide))
  have e : w6.heap[G]? = w.heap[G]? := by rw [m6.hb, mg.hb]
  exact ⟨by rw [World.cell?_of_block (w := w) (a := ⟨G, i, none⟩) e]; exact g0, by rw [World.frozen?_of_block (w := w) (a := ⟨G, i, none⟩) e]; exact gf⟩
theorem filter_ne_length (i : Nat) : ∀ n, i < n → ((List.range n).filter (· ≠ i)).length = n - 1 := by
  intro n
  induction n with
  | zero => intro h; omega
  | succ n ih =>
    intro h
    rw [List.range_succ, List.filter_append, List.length_append]
    by_cases e : n = i
    · subst e
      have : (List.range n).filter (· ≠ n) = List.range n := List.filter_eq_self.2 fun a ha => by have := List.mem_range.1 ha; simp; omega
      rw [this]; simp
    · rw [ih (by omega)]; simp [e]; omega
theorem rowTo_all (c : Cfg) (s : Wld) (i : Nat) (hi : i < c.n) : (rowTo c s i c.n).length = c.n := by
  unfold rowTo
  rw [List.length_cons, List.length_map, filter_ne_length i c.n hi]; omega
theorem preMsgs_len (c : Cfg) (s : Wld) : ∀ i, i ≤ c.n → (preMsgs c s i).length = i * c.n
  | 0, _ => by simp [preMsgs]
  | i + 1, h => by rw [preMsgs_succ, List.length_append, Nat.succ_mul, preMsgs_len c s i (by omega), rowTo_all c s i (by omega)]
theorem tick_put {w0 w1 : World} {own : Own} {t : Tld} {sv rv : Value} (h : TldAt w1 own t sv nil0 rv) (hs : InF (fun b => w0.heap.size + 2 ≤ b) sv) (hr : InF (fun b => w0.heap.size + 2 ≤ b) rv) (x0 x1 x2 x3 x4 x5 x6 x7 x8 x9 x10 : Value) : TldAt (put11 w1 (w0.heap.size + 1) x0 x1 x2 x3 x4 x5 x6 x7 x8 x9 x10) own t sv nil0 rv := by
  have hk : ∀ b, b < w1.heap.size → w0.heap.size + 2 ≤ b → (put11 w1 (w0.heap.size + 1) x0 x1 x2 x3 x4 x5 x6 x7 x8 x9 x10).heap[b]? = w1.heap[b]? := fun b _ hb => by
    have e : ∀ (x : World) (j : Nat) (u : Value), (x.setCell ⟨w0.heap.size + 1, j, none⟩ u).heap[b]? = x.heap[b]? := fun x j u => Below.heap_setCell _ _ _ _ (by simp only; omega)
    unfold Go.Proofs.YtjdedflfdlhkdaaGreatDoor.put11
    simp only [e]
  have hm : ∀ {v : Value}, InF (Fr own w1) v → InF (Fr own (put11 w1 (w0.heap.size + 1) x0 x1 x2 x3 x4 x5 x6 x7 x8 x9 x10)) v := fun hi => hi.mono fun b hb => ⟨hb.1, by rw [put11_size]; exact hb.2⟩
  exact ⟨h.s.kept hs hk, h.f.kept (nil0_in _) hk, h.r.kept hr hk, hm h.si, hm h.fi, hm h.ri⟩
end Go.Proofs.YtjdedflfdlhkdaaGreatDoor

namespace Go.Proofs.YtjdedflfdlhkdaaGreatDoor
open Go.ChangeShapes Go.WideShapes Go.ChangeAt Go.RowKit
set_option linter.unusedVariables false
set_option linter.unusedSimpArgs false

theorem cPostW {w : World} {c : Cfg} {X : Adr} {own : Own} {N : Nat} {s : Wld} (h : WAt w c X own N s) (x : Let) (hx : (x.ltr c.labs).Ok) (ad : Option Addr) (cd : Nat) (hd : HasT w 5 1 (.slice ad (x.enc c.labs).length cd) (x.enc c.labs).length (u8s (x.enc c.labs))) (hN : N ≤ 1000000) :
    Calls Tryz.prog 61 #[.pointer (some ⟨X.O, 0, none⟩), .int .i64 x.f, .int .i64 x.t, .slice ad (x.enc c.labs).length cd] w fun e w' => e = .returned (.int .i64 s.ls.length) ∧ ∃ own', WAt w' c X own' (N + 1) { s with ls := s.ls ++ [x] } ∧ Went own own' w w' := by
  have q := cPost h.offAt (x.ltr c.labs) hx ad cd hd hN fun b hb => .inr hb
  simp only [List.length_map] at q
  refine q.mono ?_
  rintro e w' ⟨he, ho, hw⟩
  exact ⟨he, h.post x ho hw⟩
set_option maxRecDepth 100000 in
set_option maxHeartbeats 8000000 in
theorem cSend {w0 w : World} {own own1 : Own} {c : Cfg} {X : Adr} {N : Nat} {s : Wld} {sa ra : Option Addr} {sc rc rn : Nat} {l : List Env} {rp : List Int} (T : WTk w0 own w c X own1 N s (.slice sa l.length sc) l (.slice ra rn rc) rp)
    (x : Let) (hx : (x.ltr c.labs).Ok) (ad : Option Addr) (cd : Nat) (hd : HasT w 5 1 (.slice ad (x.enc c.labs).length cd) (x.enc c.labs).length (u8s (x.enc c.labs))) (hN : N ≤ 1000000) (hl : l.length ≤ 1000) :
    Calls Tryz.prog 60 #[.int .i64 x.f, .int .i64 x.t, .slice ad (x.enc c.labs).length cd, .int .i64 0, .pointer (some ⟨w0.heap.size + 1, 0, none⟩), .pointer (some ⟨w0.heap.size, 0, none⟩)] w fun e w' => e = .returned (.tuple #[]) ∧ ∃ own' sa' sc', WTk w0 own w' c X own' (N + 1) { s with ls := s.ls ++ [x] } (.slice sa' (l.length + 1) sc') (l ++ [x.env c.labs s.ls.length]) (.slice ra rn rc) rp ∧ ∀ b o, Mine own1 w b o → b ≠ w0.heap.size + 1 → (Value.slice sa l.length sc).ownBlock ≠ some b → Mine own' w' b o := by
  have HT := Lib.hid T
  have hsz : (x.enc c.labs).length = recSize (x.fields c.labs) := by unfold Let.enc; rw [recB_length]
  have hen : Hid (x.env c.labs s.ls.length = ⟨s.ls.length, x.f, x.t, (x.enc c.labs).length⟩) := by show _ = _; unfold Let.env; rw [hsz]
  have hdl : (x.enc c.labs).length ≤ 256 := hx.d
  have hlen := T.g.at'.off.len
  simp only [ltrs_len] at hlen
  have CP : Hid (∀ Y, Below w.heap.size w Y → _) := fun Y hY => cPostW (T.g.on hY).at' x hx ad cd (hd.below hY) hN
  obtain ⟨⟨-, -, -, -, -, -, -, -, z8, -, -⟩, zf⟩ := eleven_at T.r.hb
  have zf8 := zf 8
  have z0 : w.cell? ⟨w0.heap.size, 0, none⟩ = some (.pointer (some ⟨X.W, 0, none⟩)) := by rw [cell_of_row w _ _ _ _ _ T.b1.hb]; rfl
  obtain ⟨-, -, -, -, -, -, -, x7, -⟩ := T.g.at'.head
  rw [hen.out]
  generalize (x.enc c.labs).length = n at *
  generalize s.ls.length = m at *
  have l1 := World.block_lt_of_cell? w _ z8
  have l2 := World.block_lt_of_cell? w _ z0
  have l3 := World.block_lt_of_cell? w _ x7
  clear T hx hd zf hen hsz
  go_enter Tryz.func60, Tryz.ntmps60
  go_upto_region 0 with (fail)
  go_region_law (first
    | (go_simp; go_at_call 61; refine (CP.out _ (by repeat (first | exact Below.refl _ _ | refine Below.drew ?_ | refine Below.alloc ?_ (by first | (simp; done) | (simp; omega)) _ | refine Below.setCell ?_ (by first | (simp; done) | (simp; omega)) _))).mono ?_; rintro e w5 ⟨rfl, own5, hW5, hU5⟩; have hT5 := (HT.out.on (by repeat (first | exact Below.refl _ _ | refine Below.drew ?_ | refine Below.alloc ?_ (by first | (simp; done) | (simp; omega)) _ | refine Below.setCell ?_ (by first | (simp; done) | (simp; omega)) _))).step hW5 hU5; have HT5 := Lib.hid hT5; have HS5 := Lib.hid (own_base hT5.s.row); obtain ⟨⟨-, -, -, -, -, -, -, -, y8, -, -⟩, yf⟩ := eleven_at hT5.r.hb; have yf8 := yf 8; have m1 := World.block_lt_of_cell? w5 _ y8; have HM5 : Hid (∀ b o, Mine own1 w b o → Mine own5 w5 b o) := fun b o m => (m.on (by repeat (first | exact Below.refl _ _ | refine Below.drew ?_ | refine Below.alloc ?_ (by first | (simp; done) | (simp; omega)) _ | refine Below.setCell ?_ (by first | (simp; done) | (simp; omega)) _))).went hU5; clear hT5 yf hW5 hU5)
    | (refine step_appF (w0 := w5) (wanted_of_none (by rfl)) 54 86 4 32 _ elEnv Tryz.underlying54 (.slice sa l.length sc) l.length (envC l) HS5.out (by repeat (first | exact Below.refl _ _ | refine Below.drew ?_ | refine Below.alloc ?_ (by first | (simp; done) | (simp; omega)) _ | refine Below.setCell ?_ (by first | (simp; done) | (simp; omega)) _)) _ 1 [.int .i64 m, .int .i64 x.f, .int .i64 x.t, .int .i64 n] (has_block (wp := w5) (by first | exact heap_alloc_new _ _ | (simp only [heap_drew, heap_drewN]; exact heap_alloc_new _ _)) rfl (by rfl) (by decide)) _ _ (by rfl) (by rfl) (by rfl) (by simp [Value.oneCell']) (by omega) (by unfold maxLen; omega) ?_; intro v6 w6 hown6 hat6 hgrow6; obtain ⟨a6, c6, rfl⟩ := owns_slice hown6; have hfin := HT5.out.sent ⟨m, x.f, x.t, n⟩ hown6 hat6 hgrow6; obtain ⟨u8, uf8⟩ := send_cell HT5.out hgrow6; have Hfin := Lib.hid hfin; have HM6 : Hid (∀ b o, Mine own5 w5 b o → (Value.slice sa l.length sc).ownBlock ≠ some b → Mine own5 w6 b o) := fun b o m h => m.grown hgrow6 h; clear hfin))
  all_goals
    have Hfin2 := Lib.hid (Hfin.out.on (Below.drew (Below.refl _ _)))
    clear HT HT5 HS5 CP
    go_wp2_with fail
    go_end0
    exact ⟨rfl, own5, ⟨a6, c6, by first | exact Hfin.out | exact Hfin2.out⟩, fun b o m h1 h2 => by first | exact (HM6.out b o (HM5.out b o m) h2).other h1 _ | exact ((HM6.out b o (HM5.out b o m) h2).other h1 _).on (Below.drew (Below.refl _ _))⟩
end Go.Proofs.YtjdedflfdlhkdaaGreatDoor
