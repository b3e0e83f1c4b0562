/- A receipt of a worker's result, as a rule of main's account. -/
import Derived.Test.YtkodpijedinanaaCwE
namespace Go.Proofs.Ytkodpijedinanaa.Sim
open Go Go.Conc Go.ChangeShapes Go.WideShapes Go.ChangeAt Go.RowKit
set_option linter.unusedVariables false
set_option linter.unusedSimpArgs false

def upd (got : Nat → Bool) (i : Nat) : Nat → Bool := fun a => if a = i then true else got a
theorem pendOf_got (N0 c : Nat) (pr : Nat → Prm) (got : Nat → Bool) (n i : Nat) : updP (pendOf N0 c pr got n) (N0 + i) none = pendOf N0 c pr (upd got i) n := by
  funext a
  unfold updP pendOf upd
  by_cases h : a = N0 + i
  · subst h
    rw [if_pos rfl, if_neg]
    rw [Nat.add_sub_cancel_left, if_pos rfl]
    rintro ⟨_, _, h⟩
    cases h
  · rw [if_neg h]
    by_cases h2 : N0 ≤ a
    · have : ¬ a - N0 = i := by omega
      simp only [if_neg this]
    · rw [if_neg (fun h => h2 h.1), if_neg (fun h => h2 h.1)]
def cnt (got : Nat → Bool) : Nat → Nat
  | 0 => 0
  | n + 1 => cnt got n + if got n then 1 else 0
theorem cnt_le (got : Nat → Bool) : ∀ n, cnt got n ≤ n
  | 0 => Nat.le_refl _
  | n + 1 => by have := cnt_le got n; unfold cnt; split <;> omega
theorem cnt_upd (got : Nat → Bool) (i : Nat) (hi : got i = false) : ∀ n, cnt (upd got i) n = cnt got n + if i < n then 1 else 0
  | 0 => rfl
  | n + 1 => by
    have ih := cnt_upd got i hi n
    unfold cnt
    rw [ih]
    by_cases h : n = i
    · subst h
      have h1 : upd got n n = true := by simp [upd]
      rw [h1, hi, if_neg (Nat.lt_irrefl n), if_pos (Nat.lt_succ_self n)]
      simp
    · have h1 : upd got i n = got n := by simp [upd, h]
      rw [h1]
      have h2 : (i < n + 1) ↔ (i < n) := by omega
      simp only [h2]
      omega
theorem cnt_all (got : Nat → Bool) : ∀ n, cnt got n = n → ∀ i, i < n → got i = true
  | 0, _, i, hi => by omega
  | n + 1, h, i, hi => by
    have h1 := cnt_le got n
    unfold cnt at h
    have hg : got n = true := by
      cases hq : got n with
      | true => rfl
      | false => rw [hq] at h; simp at h; omega
    rw [hg] at h
    simp at h
    by_cases e : i = n
    · subst e; exact hg
    · exact cnt_all got n h i (by omega)
theorem cnt_some (got : Nat → Bool) : ∀ n, cnt got n < n → ∃ i, i < n ∧ got i = false
  | 0, h => by omega
  | n + 1, h => by
    unfold cnt at h
    cases hq : got n with
    | false => exact ⟨n, by omega, hq⟩
    | true =>
      rw [hq] at h
      simp at h
      obtain ⟨i, h1, h2⟩ := cnt_some got n h
      exact ⟨i, by omega, h2⟩
/-- A slice of numbers of the shadow's, in a block that is none of the older ones. -/
def RowS (w : World) (lo : Nat) (sv : Value) (xs : List Int) : Prop :=
  (sv = .slice none 0 0 ∧ xs = []) ∨ ∃ g cap row e fz, sv = .slice (some ⟨g, 0, none⟩) xs.length cap ∧ xs.length ≤ cap ∧ cap ≤ maxLen ∧ lo ≤ g ∧ w.heap[g]? = some (.cells row e fz) ∧ ∀ (j : Nat) x, xs[j]? = some x → row[j]? = some (.int .i64 x)
theorem RowS.slice {w : World} {lo : Nat} {sv : Value} {xs : List Int} (h : RowS w lo sv xs) : ∃ a n c, sv = .slice a n c := by
  rcases h with ⟨rfl, _⟩ | ⟨g, cap, row, e, fz, rfl, _⟩ <;> exact ⟨_, _, _, rfl⟩
theorem RowS.hasP {w : World} {lo : Nat} {sv : Value} {xs : List Int} (h : RowS w lo sv xs) : HasP w sv xs.length (ints xs) := by
  rcases h with ⟨rfl, rfl⟩ | ⟨g, cap, row, e, fz, rfl, h1, h2, h3, h4, h5⟩
  · exact ⟨⟨⟨rfl, fun n c h => by cases h; exact ⟨rfl, rfl⟩⟩, none, 0, rfl, Nat.le_refl _, Nat.zero_le _, fun h => by simp [ints] at h⟩, .inl rfl⟩
  · refine ⟨⟨⟨by simp, fun n c h => by cases h⟩, _, cap, rfl, h1, h2, fun _ => ⟨g, 0, rfl, fun j u hu => ?_⟩⟩, .inr ⟨_, _, rfl, .inl ⟨_, _, _, h4⟩⟩⟩
    rw [cell_of_row w _ _ _ _ _ h4]
    simp only [ints, List.getElem?_map, Option.map_eq_some_iff] at hu
    obtain ⟨x, hx, rfl⟩ := hu
    rw [Nat.zero_add]
    exact h5 j x hx
section
theorem Mat.more {P : Program} {F Own Sh : Blk} {ρ : Ren} {a A : Act} {w W : World} (m : Mat P F Own Sh ρ a A w W) (Bk : Blk) : Mat P F (fun b => Own b ∨ Bk b) Sh ρ a A w W := { m with own := fun x b h1 h2 => .inl (m.own x b h1 h2) }
/-- A block of another's is one's own from here on, to be read. -/
theorem Mat.take {P : Program} {F Own Sh Bk : Blk} {ρ : Ren} {a A : Act} {w W : World} (m : Mat P F Own Sh ρ a A w W) {g : Nat} {row : Array Value} {e : TypeId} {z : Nat × Nat} (hg : W.heap[g]? = some (.cells row e z)) (hB : Bk g) (ho : ¬ Own g) (hs : ¬ Sh g) :
    Mat P F (fun b => Own b ∨ Bk b) Sh (ρ.ext w.heap.size g) a A { w with heap := w.heap.push (.cells (row.map (sanV (fun _ => false) 0)) e (0, row.size)) } W := by
  have hle := Ren.le_ext ρ w.heap.size g
  have hd : ∀ x b, ρ x b → x < w.heap.size ∧ b ≠ g := fun x b hxb => by
    obtain ⟨_, _, h1, h2, _⟩ := m.wr.dom x b hxb
    refine ⟨(Array.getElem?_eq_some_iff.1 h1).1, fun e => ?_⟩
    subst e
    rcases m.inn x b hxb with h | h
    · exact ho h
    · exact hs h
  have hF : ∀ x, F x → x < w.heap.size := fun x hx => m.lt hx
  have hget : ∀ x, x < w.heap.size → (w.heap.push (.cells (row.map (sanV (fun _ => false) 0)) e (0, row.size)))[x]? = w.heap[x]? := fun x hx => by rw [Array.getElem?_push, if_neg (by omega)]
  refine ⟨m.row.mono hle, m.d, m.D, ⟨fun x b hxb => ?_, fun x b b' h1 h2 => ?_, fun x x' b h1 h2 => ?_⟩, Above.ext m.above m.size, ?_, m.size', fun x hx => ?_, fun x b hxb hn => ?_, fun x b hxb hx => ?_⟩
  · rcases hxb with hxb | ⟨rfl, rfl⟩
    · obtain ⟨o, o', h1, h2, h3⟩ := m.wr.dom x b hxb
      exact ⟨o, o', by rw [hget x (hd x b hxb).1]; exact h1, h2, h3.mono hle⟩
    · refine ⟨.cells (row.map (sanV (fun _ => false) 0)) e (0, row.size), _, by simp, hg, .cells e ⟨by simp, fun i v u h1 h2 => ?_⟩ fun i h1 h2 h3 => ⟨Nat.zero_le _, by simpa using h3⟩⟩
      simp only [Array.getElem?_map, Option.map_eq_some_iff] at h1
      obtain ⟨y, hy, rfl⟩ := h1
      rw [hy] at h2
      cases h2
      exact (sanV_rel (fun _ => false) 0 _).mono fun x b h => by have := h.2; cases this
  · rcases h1 with h1 | ⟨e1, e2⟩ <;> rcases h2 with h2 | ⟨e3, e4⟩
    · exact m.wr.fn _ _ _ h1 h2
    · have := (hd _ _ h1).1; omega
    · have := (hd _ _ h2).1; omega
    · omega
  · rcases h1 with h1 | ⟨e1, e2⟩ <;> rcases h2 with h2 | ⟨e3, e4⟩
    · exact m.wr.inj _ _ _ h1 h2
    · exact absurd e4 (hd _ _ h1).2
    · exact absurd e2 (hd _ _ h2).2
    · omega
  · show P.globals.size ≤ (w.heap.push _).size
    have := m.size
    simp; omega
  · have := hF x hx
    show (∃ c e', (w.heap.push (.cells (row.map (sanV (fun _ => false) 0)) e (0, row.size)))[x]? = _) ∨ ∃ p f s r t, (w.heap.push (.cells (row.map (sanV (fun _ => false) 0)) e (0, row.size)))[x]? = _
    rw [hget x this]
    exact m.fz x hx
  · rcases hxb with hxb | ⟨rfl, rfl⟩
    · exact .inl (m.own x b hxb hn)
    · exact .inr hB
  · rcases hxb with hxb | ⟨rfl, rfl⟩
    · exact m.sh x b hxb hx
    · exact absurd (hF _ hx) (Nat.lt_irrefl _)
theorem Mat.put {P : Program} {F Own Sh : Blk} {ρ : Ren} {a A : Act} {w W : World} (m : Mat P F Own Sh ρ a A w W) (d : Option Tmp) {v v' : Value} (hv : VRel ρ v v') : Mat P F Own Sh ρ (a.put d v) (A.put d v') w W := by
  refine { m with row := ?_, d := ?_, D := ?_ }
  · unfold Act.put
    cases d with
    | none => exact m.row
    | some t => exact m.row.set t hv
  · unfold Act.put; cases d <;> exact m.d
  · unfold Act.put; cases d <;> exact m.D
theorem agg3' {ρ : Ren} {k k' : IntKind} {i j : Int} {s s' : Value} (h : VRel ρ s s') : VRel ρ (.agg #[.int k i, s, .int k' j]) (.agg #[.int k i, s', .int k' j]) := by
  have := (((RowRel.nil ρ).push (.int k i)).push h).push (.int k' j)
  have h2 : RowRel ρ #[.int k i, s, .int k' j] #[.int k i, s', .int k' j] := by simpa using this
  exact .agg h2.1 h2.2
theorem kept_push (w : World) (o : Obj) : Kept w { w with heap := w.heap.push o } := ⟨by show _ ≤ (w.heap.push o).size; simp, fun k hk => by show (w.heap.push o)[k]? = _; rw [Array.getElem?_push, if_neg (by omega)]⟩
/-- Main's receipt of a result. -/
theorem pt_recv_res {P : Program} {W0 : World} {lo M : Nat} {Post : Value → World → Prop} {F Sh Own : Blk} {RB : List Frame} {B : Frame} {ρ : Ren} {a A : Act} {w : World} {k : List Item} {N0 c n : Nat} {J : Job} {got : Nat → Bool}
    (hB : B.kind ≠ .early) {ops : Array Oper} {i : Nat} {l : List Nat} {o : Oper} (ho : ops[i]? = some o) (hg : o.guard = none) {t : Tmp} {ty : TypeId} (hop : o.op = .recv ty (.tmp t) false)
    {x : Nat} (hx : a.tmps.getD t undef = .chan (some x)) (hxc : ρ x c) (hF : F x) (hlo : lo ≤ c) (hch : ∃ s tm, w.heap[x]? = some (.chan 0 #[] false s s tm)) {z : Value}
    (hz : ∀ (e : Operand → Value) W1, e (.tmp t) = .chan (some c) → (execOp e o).run P W1 = .ok (.comm #[rcase c z] true (.recv false)) W1 ∧ (execOp e o).events P W1 #[] = #[])
    (hk : cnt got n < n)
    (hn : ∀ j sv L ρ' Own' A' w', j < n → got j = false → Lev (J.zs[j]?.getD 0) (J.ws j) L → RowS w' w.heap.size sv (give L (J.zs[j]?.getD 0 - least (J.ws j) L) (J.ws j)) → Ren.le ρ ρ' → Kept w w' →
      Pt P F Sh (MGo P W0 lo Post M (pendOf N0 c J.pr (upd got j) n) Sh) RB B (.inRegion ops l :: k) Own' ρ' (a.put o.dst (.agg #[.int .i64 j, sv, .int .i64 0])) A' w') :
    Pt P F Sh (MGo P W0 lo Post M (pendOf N0 c J.pr got n) Sh) RB B (.inRegion ops (i :: l) :: k) Own ρ a A w := by
  obtain ⟨s, tm, hch⟩ := hch
  refine pt_recv hB ho hg hop hx hxc hF hlo hch hz ?_ (fun j y hy => ?_) fun q pr hq W1 v Bk m hpr hBk => ?_
  · obtain ⟨j, h1, h2⟩ := cnt_some got n hk
    exact ⟨N0 + j, _, by unfold pendOf; rw [if_pos ⟨by omega, by omega, by rw [Nat.add_sub_cancel_left]; exact h2⟩]⟩
  · unfold pendOf at hy
    split at hy
    · cases hy; rfl
    · cases hy
  · obtain ⟨j, rfl, hjn, hgj, rfl⟩ : ∃ j, q = N0 + j ∧ j < n ∧ got j = false ∧ pr = J.pr j := by
      unfold pendOf at hq
      split at hq
      · rename_i h
        cases hq
        exact ⟨q - N0, by omega, by omega, h.2.2, rfl⟩
      · cases hq
    rw [pendOf_got]
    obtain ⟨sv', L, rfl, hL, hrow⟩ : Res j (J.zs[j]?.getD 0) (J.ws j) v W1 Bk := hpr
    rcases hrow with ⟨aa, rfl, hxs⟩ | ⟨g, cap, row, e, fz, rfl, h1, h2, h3, h4, h5⟩
    · have hv : VRel ρ (.slice none 0 0) (.slice aa 0 0) := by
        cases aa with
        | none => exact .sliceNil 0 0
        | some a => exact .sliceE a
      exact hn j (.slice none 0 0) L ρ _ _ w hjn hgj hL (.inl ⟨rfl, hxs⟩) (Ren.le.refl _) (Kept.refl _) W1 ((m.more Bk).put o.dst (agg3' hv))
    · obtain ⟨b1, b2, b3⟩ := hBk g h3
      have mt := m.take h4 h3 b2 b3
      refine hn j (.slice (some ⟨w.heap.size, 0, none⟩) (give L (J.zs[j]?.getD 0 - least (J.ws j) L) (J.ws j)).length cap) L _ _ _ _ hjn hgj hL (.inr ⟨_, cap, row.map (sanV (fun _ => false) 0), e, (0, row.size), rfl, h1, h2, Nat.le_refl _, Array.getElem?_push_size, fun i x hi => ?_⟩) (Ren.le_ext _ _ _) (kept_push _ _) W1 (mt.put o.dst (agg3' (.slice _ _ ⟨.inr ⟨rfl, rfl⟩, rfl, rfl⟩)))
      rw [Array.getElem?_map, h5 i x hi, Option.map_some, sanV]
end
end Go.Proofs.Ytkodpijedinanaa.Sim
