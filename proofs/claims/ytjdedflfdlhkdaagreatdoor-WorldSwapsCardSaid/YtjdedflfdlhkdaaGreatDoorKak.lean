/- Texts that the claim imports, laid together: WInv WUp WBegA. No statement of their own. -/
import Derived.Test.YtjdedflfdlhkdaaGreatDoorKah
import Derived.Test.YtjdedflfdlhkdaaGreatDoorKaj
namespace Go.Proofs.YtjdedflfdlhkdaaGreatDoor
open Go.ChangeShapes Go.WideShapes Go.ChangeAt Go.RowKit
set_option linter.unusedVariables false
set_option linter.unusedSimpArgs false

/-- Whose a block is. -/
inductive Tag where
  | fix
  | sh (i : Nat)
  | row (i k : Nat)
  | ask (i : Nat)
  | gain (i : Nat)
  | st (i : Nat)
  | bk (k : Nat)
  | off
  | lost
abbrev Own := Nat → Option Tag
/-- Blocks of the tags in T may have changed; what was free stays so. -/
structure Upd (T : Tag → Prop) (own own' : Own) (w w' : World) : Prop where
  wr : Wrote (fun b => ∃ t, own b = some t ∧ T t) w w'
  same : ∀ b, b < w.heap.size → own' b = own b
  new : ∀ b, w.heap.size ≤ b → own' b ≠ none → b < w'.heap.size
section
variable {T U : Tag → Prop} {own own' : Own} {w w' : World}
theorem Upd.kept (h : Upd T own own' w w') {b : Nat} (hb : b < w.heap.size) (ht : ∀ t, own b = some t → ¬ T t) : w'.heap[b]? = w.heap[b]? ∧ own' b = own b :=
  ⟨h.wr.block b hb fun ⟨t, h1, h2⟩ => ht t h1 h2, h.same b hb⟩
theorem Upd.tag (h : Upd T own own' w w') {b : Nat} {t : Tag} (hb : b < w.heap.size) (ho : own b = some t) (ht : ¬ T t) : w'.heap[b]? = w.heap[b]? ∧ own' b = some t := by
  obtain ⟨h1, h2⟩ := h.kept hb fun t' ht' => by rw [ho] at ht'; cases ht'; exact ht
  exact ⟨h1, by rw [h2]; exact ho⟩
theorem Upd.free (h : Upd T own own' w w') {b : Nat} (hb : b < w.heap.size) (ho : own b = none) : w'.heap[b]? = w.heap[b]? ∧ own' b = none := by
  obtain ⟨h1, h2⟩ := h.kept hb fun t' ht' => by rw [ho] at ht'; cases ht'
  exact ⟨h1, by rw [h2]; exact ho⟩
theorem Upd.of_wrote (hw : Wrote (fun b => ∃ t, own b = some t ∧ T t) w w') (hl : ∀ b, own b ≠ none → b < w.heap.size) : Upd T own own w w' :=
  ⟨hw, fun _ _ => rfl, fun b hb hn => absurd (hl b hn) (by omega)⟩
theorem Upd.of_below (hb : Below w.heap.size w w') (hl : ∀ b, own b ≠ none → b < w.heap.size) : Upd T own own w w' := Upd.of_wrote (wof hb) hl
end
/-- A free block. -/
def Fr (own : Own) (w : World) (b : Nat) : Prop := own b = none ∧ b < w.heap.size
theorem Fr.upd {T : Tag → Prop} {own own' : Own} {w w' : World} {b : Nat} (h : Fr own w b) (hu : Upd T own own' w w') : Fr own' w' b := ⟨(hu.free h.2 h.1).2, Nat.lt_of_lt_of_le h.2 hu.wr.size⟩
theorem Has.kept {w w' : World} {sz n : Nat} {v : Value} {xs : List Value} {F : Nat → Prop} (h : Has w sz v n xs) (hi : InF F v) (hk : ∀ b, b < w.heap.size → F b → w'.heap[b]? = w.heap[b]?) : Has w' sz v n xs := by
  obtain ⟨hl, a, cap, rfl, h1, h2, h3⟩ := h
  refine ⟨hl, a, cap, rfl, h1, h2, fun hp => ?_⟩
  obtain ⟨b, off, rfl, hc⟩ := h3 hp
  refine ⟨b, off, rfl, fun j u hu => ?_⟩
  have := hc j u hu
  rw [World.cell?_of_block (w := w) (a := ⟨b, off + j, none⟩) (hk b (World.block_lt_of_cell? w _ this) (hi b off n cap rfl))]; exact this
theorem Has.upd {T : Tag → Prop} {own own' : Own} {w w' : World} {sz n : Nat} {v : Value} {xs : List Value} (h : Has w sz v n xs) (hi : InF (Fr own w) v) (hu : Upd T own own' w w') : Has w' sz v n xs :=
  h.kept hi fun b _ hb => (hu.free hb.2 hb.1).1
theorem InF.upd {T : Tag → Prop} {own own' : Own} {w w' : World} {v : Value} (hi : InF (Fr own w) v) (hu : Upd T own own' w w') : InF (Fr own' w') v := hi.mono fun _ h => h.upd hu
/-- Where a world lies. -/
structure Adr where
  W : Nat
  R : Nat
  Q : Nat
  vl : Value
  vm : Value
  cb : Nat
  ck : Nat
  B : Nat → Nat
  S : Nat → Nat
  A : Nat → Nat
  G : Nat → Nat
  T : Nat → Nat
  K : Nat → Nat
  O : Nat
  P : Nat
  L : Nat
/-- The table of orders. -/
def OrdVar (w : World) : Prop := w.cell? ⟨0, 0, none⟩ = some (.int .i64 2) ∧ w.cell? ⟨0, 1, none⟩ = some (.int .i64 3) ∧ w.cell? ⟨0, 2, none⟩ = some (.int .i64 4) ∧ w.cell? ⟨0, 3, none⟩ = some (.int .i64 5) ∧ w.cell? ⟨0, 4, none⟩ = some (.int .i64 6)
theorem OrdVar.kept {w w' : World} (h : OrdVar w) (hb : w'.heap[0]? = w.heap[0]?) : OrdVar w' := by
  obtain ⟨h0, h1, h2, h3, h4⟩ := h
  have e : ∀ j, w'.cell? ⟨0, j, none⟩ = w.cell? ⟨0, j, none⟩ := fun j => World.cell?_of_block (w := w) (a := ⟨0, j, none⟩) hb
  exact ⟨by rw [e]; exact h0, by rw [e]; exact h1, by rw [e]; exact h2, by rw [e]; exact h3, by rw [e]; exact h4⟩
/-- What never changes behind the beginning. -/
structure FixAt (w : World) (c : Cfg) (X : Adr) (own : Own) : Prop where
  tw : own X.W = some .fix
  tr : own X.R = some .fix
  tq : own X.Q = some .fix
  tb : ∀ i, i < c.n → own (X.B i) = some .fix
  head : w.heap[X.W]? = some (.cells #[.int .i64 c.n, X.vl, .int .i64 c.ticks, X.vm, .int .i64 c.cap, .slice (some ⟨X.R, 0, none⟩) c.n X.cb, .slice (some ⟨X.Q, 0, none⟩) c.items X.ck, .pointer (some ⟨X.O, 0, none⟩), .map (some X.L)] 95 (0, 0))
  rb : w.ownsRow 0 99 1 (.slice (some ⟨X.R, 0, none⟩) c.n X.cb) c.n ((List.range c.n).map fun i => .pointer (some ⟨X.B i, 0, none⟩))
  rq : w.ownsRow 0 96 1 (.slice (some ⟨X.Q, 0, none⟩) c.items X.ck) c.items ((List.range c.items).map fun k => .pointer (some ⟨X.K k, 0, none⟩))
  br : ∀ i, i < c.n → w.heap[X.B i]? = some (.cells #[.slice (some ⟨X.S i, 0, none⟩) c.items c.items, .slice (some ⟨X.A i, 0, none⟩) c.items c.items, .slice (some ⟨X.G i, 0, none⟩) c.items c.items, .slice (some ⟨X.T i, 0, none⟩) c.labs.length c.labs.length] 103 (0, 0))
  cfg : CfgAt w c X.vl X.vm
  il : InF (Fr own w) X.vl
  im : InF (Fr own w) X.vm
  od : OrdVar w
  io : Fr own w 0
theorem FixAt.keep {w w' : World} {c : Cfg} {X : Adr} {own own' : Own} {T : Tag → Prop} (h : FixAt w c X own) (hu : Upd T own own' w w') (hT : ¬ T .fix) : FixAt w' c X own' := by
  have lt : ∀ {b o}, w.heap[b]? = some o → b < w.heap.size := fun hh => (Array.getElem?_eq_some_iff.1 hh).1
  have kW := hu.tag (lt h.head) h.tw hT
  have kR := hu.tag (owns_block_of h.rb rfl).2.1 h.tr hT
  have kQ := hu.tag (owns_block_of h.rq rfl).2.1 h.tq hT
  have kB : ∀ i, i < c.n → _ := fun i hi => hu.tag (lt (h.br i hi)) (h.tb i hi) hT
  refine ⟨kW.2, kR.2, kQ.2, fun i hi => (kB i hi).2, by rw [kW.1]; exact h.head, owns_kept h.rb fun g hg => ?_, owns_kept h.rq fun g hg => ?_, fun i hi => by rw [(kB i hi).1]; exact h.br i hi, ⟨h.cfg.hl.upd h.il hu, h.cfg.hm.upd h.im hu⟩, h.il.upd hu, h.im.upd hu, h.od.kept (hu.free h.io.2 h.io.1).1, h.io.upd hu⟩
  · simp only [Value.ownBlock, Option.some.injEq] at hg; subst hg; exact kR.1
  · simp only [Value.ownBlock, Option.some.injEq] at hg; subst hg; exact kQ.1
/-- The shelves of a branch. -/
structure ShsAt (w : World) (own : Own) (i S m : Nat) (ss : Nat → Shf) : Prop where
  tag : own S = some (.sh i)
  lt : S < w.heap.size
  each : ∀ k, k < m → ∃ v, Slf w S (k * 4) (.int .i64 (ss k).free) (.int .i64 (ss k).used) (.int .i64 (ss k).made) v ∧ w.ownsRow 0 126 3 v (ss k).hs.length (hcs (ss k).hs) ∧ ∀ g, v.ownBlock = some g → own g = some (.row i k)
  ok : ∀ k, k < m → (ss k).Ok
theorem ShsAt.keep {w w' : World} {own own' : Own} {i S m : Nat} {ss : Nat → Shf} {T : Tag → Prop} (h : ShsAt w own i S m ss) (hu : Upd T own own' w w') (h1 : ¬ T (.sh i)) (h2 : ∀ k, ¬ T (.row i k)) : ShsAt w' own' i S m ss := by
  obtain ⟨kS, tS⟩ := hu.tag h.lt h.tag h1
  refine ⟨tS, Nat.lt_of_lt_of_le h.lt hu.wr.size, fun k hk => ?_, h.ok⟩
  obtain ⟨v, q1, q2, q3⟩ := h.each k hk
  exact ⟨v, q1.same kS, owns_kept q2 fun g hg => (hu.tag (owns_block_of q2 hg).2.1 (q3 g hg) (h2 k)).1, fun g hg => (hu.tag (owns_block_of q2 hg).2.1 (q3 g hg) (h2 k)).2⟩
/-- New blocks are given a tag. -/
def tagNew (own : Own) (w w' : World) (t : Tag) : Own := fun b => if w.heap.size ≤ b ∧ b < w'.heap.size then some t else own b
theorem tagNew_old {own : Own} {w w' : World} {t : Tag} {b : Nat} (hb : b < w.heap.size) : tagNew own w w' t b = own b := by unfold tagNew; rw [if_neg (by omega)]
theorem tagNew_new {own : Own} {w w' : World} {t : Tag} {b : Nat} (h1 : w.heap.size ≤ b) (h2 : b < w'.heap.size) : tagNew own w w' t b = some t := by unfold tagNew; rw [if_pos ⟨h1, h2⟩]
theorem tagNew_upd {own : Own} {w w' : World} {t : Tag} {T : Tag → Prop} (hl : ∀ b, own b ≠ none → b < w.heap.size) (hw : Wrote (fun b => ∃ t, own b = some t ∧ T t) w w') : Upd T own (tagNew own w w' t) w w' :=
  ⟨hw, fun b hb => tagNew_old hb, fun b hb hn => by
    unfold tagNew at hn
    by_cases h : w.heap.size ≤ b ∧ b < w'.heap.size
    · exact h.2
    · rw [if_neg h] at hn; exact absurd (hl b hn) (by omega)⟩
theorem Upd.lt {T : Tag → Prop} {own own' : Own} {w w' : World} (hu : Upd T own own' w w') (hl : ∀ b, own b ≠ none → b < w.heap.size) : ∀ b, own' b ≠ none → b < w'.heap.size := fun b hn => by
  by_cases hb : b < w.heap.size
  · exact Nat.lt_of_lt_of_le hb hu.wr.size
  · exact hu.new b (by omega) hn
/-- What an order on one shelf may write. -/
def ordF (own : Own) (w : World) (i k S : Nat) : Nat → Prop := fun b => b = S ∨ own b = some (.row i k) ∨ w.heap.size ≤ b
theorem ShsAt.shf {w : World} {own : Own} {i S m : Nat} {ss : Nat → Shf} (h : ShsAt w own i S m ss) (k : Nat) (hk : k < m) : ShfAt w (ordF own w i k S) S (k * 4) (ss k) := by
  obtain ⟨v, q1, q2, q3⟩ := h.each k hk
  exact ⟨⟨v, q1, q2, fun g hg => .inr (.inl (q3 g hg))⟩, h.ok k hk, .inl rfl⟩
theorem ShsAt.put {w w' : World} {own : Own} {i S m : Nat} {ss : Nat → Shf} (hl : ∀ b, own b ≠ none → b < w.heap.size) (h : ShsAt w own i S m ss) (k : Nat) (hk : k < m) {s' : Shf} (ho : Ordered (ordF own w i k S) S (k * 4) (ss k) s' w w') :
    ShsAt w' (tagNew own w w' (.row i k)) i S m (updF ss k s') ∧ Upd (fun t => t = .sh i ∨ t = .row i k) own (tagNew own w w' (.row i k)) w w' := by
  have hw : Wrote (fun b => ∃ t, own b = some t ∧ (t = .sh i ∨ t = .row i k)) w w' := ho.hb.wr.mono fun b hb hF => by
    rcases hF with rfl | h1 | h1
    · exact ⟨_, h.tag, .inl rfl⟩
    · exact ⟨_, h1, .inr rfl⟩
    · omega
  have hu : Upd (fun t => t = .sh i ∨ t = .row i k) own (tagNew own w w' (.row i k)) w w' := tagNew_upd hl hw
  refine ⟨⟨by rw [tagNew_old h.lt]; exact h.tag, Nat.lt_of_lt_of_le h.lt hw.size, fun j hj => ?_, fun j hj => ?_⟩, hu⟩
  · by_cases e : j = k
    · subst e
      rw [updF_same]
      obtain ⟨v, q1, q2, q3⟩ := ho.sh.ex
      refine ⟨v, q1, q2, fun g hg => ?_⟩
      have hgl := (owns_block_of q2 hg).2.1
      rcases q3 g hg with rfl | h1 | h1
      · obtain ⟨cs, hcs⟩ := (owns_block_of q2 hg).2.2
        obtain ⟨cs', hcs', _⟩ := q1
        rw [hcs'] at hcs
        simp at hcs
      · rw [tagNew_old (hl g (by rw [h1]; simp))]; exact h1
      · exact tagNew_new h1 hgl
    · rw [updF_ne _ _ e]
      obtain ⟨v, q1, q2, q3⟩ := h.each j hj
      obtain ⟨cs, hcs, c0, c1, c2, c3⟩ := q1
      obtain ⟨cs', hcs', hsz, hn⟩ := ho.hb.near cs hcs
      refine ⟨v, ⟨cs', hcs', ?_, ?_, ?_, ?_⟩, owns_kept q2 fun g hg => ?_, fun g hg => ?_⟩
      · rw [hn _ (by omega)]; exact c0
      · rw [hn _ (by omega)]; exact c1
      · rw [hn _ (by omega)]; exact c2
      · rw [hn _ (by omega)]; exact c3
      · have hgl := (owns_block_of q2 hg).2.1
        refine ho.hb.wr.block g hgl fun hF => ?_
        have hq := q3 g hg
        rcases hF with rfl | h1 | h1
        · rw [h.tag] at hq; cases hq
        · rw [h1] at hq; simp only [Option.some.injEq, Tag.row.injEq, true_and] at hq; exact e hq.symm
        · omega
      · rw [tagNew_old (owns_block_of q2 hg).2.1]; exact q3 g hg
  · by_cases e : j = k
    · subst e; rw [updF_same]; exact ho.sh.ok
    · rw [updF_ne _ _ e]; exact h.ok j hj
/-- A row of numbers. -/
structure IntsAt (w : World) (own : Own) (t : Tag) (A : Nat) (xs : List Int) : Prop where
  tag : own A = some t
  cells : w.heap[A]? = some (.cells (ints xs).toArray 3 (0, 0))
theorem IntsAt.lt {w : World} {own : Own} {t : Tag} {A : Nat} {xs : List Int} (h : IntsAt w own t A xs) : A < w.heap.size := (Array.getElem?_eq_some_iff.1 h.cells).1
theorem IntsAt.keep {w w' : World} {own own' : Own} {t : Tag} {A : Nat} {xs : List Int} {T : Tag → Prop} (h : IntsAt w own t A xs) (hu : Upd T own own' w w') (h1 : ¬ T t) : IntsAt w' own' t A xs := by
  obtain ⟨k, q⟩ := hu.tag h.lt h.tag h1
  exact ⟨q, by rw [k]; exact h.cells⟩
theorem IntsAt.has {w : World} {own : Own} {t : Tag} {A : Nat} {xs : List Int} (h : IntsAt w own t A xs) (hl : xs.length ≤ maxLen) : Has w 1 (.slice (some ⟨A, 0, none⟩) xs.length xs.length) xs.length (ints xs) :=
  ⟨⟨by simp, fun n cap h => by simp at h⟩, _, _, rfl, Nat.le_refl _, hl, fun _ => ⟨A, 0, rfl, fun j u hu => by rw [cell_of_row w _ _ _ _ _ h.cells]; simpa using hu⟩⟩
theorem IntsAt.cell {w : World} {own : Own} {t : Tag} {A : Nat} {xs : List Int} (h : IntsAt w own t A xs) (k : Nat) (hk : k < xs.length) : w.cell? ⟨A, k, none⟩ = some (.int .i64 xs[k]) ∧ w.frozen? ⟨A, k, none⟩ = false :=
  ⟨by rw [cell_of_row w _ _ _ _ _ h.cells]; simpa using ints_get xs k hk, by simp [World.frozen?, h.cells]⟩
theorem IntsAt.put {w : World} {own : Own} {t : Tag} {A : Nat} {xs : List Int} (h : IntsAt w own t A xs) (hl : ∀ b, own b ≠ none → b < w.heap.size) (k : Nat) (x : Int) :
    IntsAt (w.setCell ⟨A, k, none⟩ (.int .i64 x)) own t A (xs.set k x) ∧ Upd (fun u => u = t) own own w (w.setCell ⟨A, k, none⟩ (.int .i64 x)) := by
  refine ⟨⟨h.tag, ?_⟩, Upd.of_wrote ((Wrote.refl _ _).setCell (p := ⟨A, k, none⟩) ⟨t, h.tag, rfl⟩ _) hl⟩
  rw [heap_setCell_same _ A k _ _ _ h.cells, ← ints_set]
  congr 2
  apply Array.ext'
  rw [Array.toList_setIfInBounds, List.toList_toArray]
/-- The entries of a branch. -/
structure StAt (w : World) (own : Own) (i T m : Nat) (l : Nat → List Ent) : Prop where
  tag : own T = some (.st i)
  ex : ∃ vs, StoreAt w T m vs l ∧ ∀ j, j < m → InF (fun b => own b = some (.st i)) (vs j)
theorem hasT_lt {w : World} {e : TypeId} {sz n : Nat} {v : Value} {xs : List Value} (h : HasT w e sz v n xs) {b off n' cap : Nat} (hv : v = .slice (some ⟨b, off, none⟩) n' cap) : b < w.heap.size := by
  obtain ⟨cs, r, hh⟩ := h.2 b off n' cap hv
  exact (Array.getElem?_eq_some_iff.1 hh).1
theorem HasT.kept {w w' : World} {e : TypeId} {sz n : Nat} {v : Value} {xs : List Value} {F : Nat → Prop} (h : HasT w e sz v n xs) (hi : InF F v) (hk : ∀ b, b < w.heap.size → F b → w'.heap[b]? = w.heap[b]?) : HasT w' e sz v n xs :=
  ⟨h.1.kept hi hk, fun b off n' cap hv => by
    obtain ⟨cs, r, hh⟩ := h.2 b off n' cap hv
    exact ⟨cs, r, by rw [hk b (Array.getElem?_eq_some_iff.1 hh).1 (hi b off n' cap hv)]; exact hh⟩⟩
theorem StAt.keep {w w' : World} {own own' : Own} {i T m : Nat} {l : Nat → List Ent} {U : Tag → Prop} (h : StAt w own i T m l) (hu : Upd U own own' w w') (h1 : ¬ U (.st i)) : StAt w' own' i T m l := by
  obtain ⟨vs, q1, q2⟩ := h.ex
  obtain ⟨k, q⟩ := hu.tag q1.lt h.tag h1
  refine ⟨q, vs, ⟨by rw [k]; exact q1.cells, fun j hj => (q1.rows j hj).kept (q2 j hj) fun b hb ho => (hu.tag hb ho h1).1, q1.ok⟩, fun j hj b off n c hv => ?_⟩
  exact (hu.tag (hasT_lt (q1.rows j hj) hv) (q2 j hj b off n c hv) h1).2
theorem StAt.put {w w' : World} {own : Own} {i T m j : Nat} {l : Nat → List Ent} {vs : Nat → Value} {v' : Value} {b : List Ent} (hl : ∀ b, own b ≠ none → b < w.heap.size) (ht : own T = some (.st i)) (h0 : ∀ j, j < m → InF (fun b => own b = some (.st i)) (vs j))
    (hi : InF (fun b => w.heap.size ≤ b) v') (h : StoreAt w' T m (updF vs j v') (updF l j b)) (hj : j < m) (hg : w.grownBy w' (some T)) :
    StAt w' (tagNew own w w' (.st i)) i T m (updF l j b) ∧ Upd (fun t => t = .st i) own (tagNew own w w' (.st i)) w w' := by
  have hw : Wrote (fun b => ∃ t, own b = some t ∧ t = .st i) w w' := ⟨hg.os, hg.tape, hg.output, hg.size, fun k hk hf => hg.block k hk fun e => hf (by simp only [Option.some.injEq] at e; rw [e]; exact ⟨_, ht, rfl⟩)⟩
  have hu : Upd (fun t => t = .st i) own (tagNew own w w' (.st i)) w w' := tagNew_upd hl hw
  have hT : T < w.heap.size := hl T (by rw [ht]; simp)
  refine ⟨⟨by rw [tagNew_old hT]; exact ht, _, h, fun x hx b off n c hv => ?_⟩, hu⟩
  by_cases e : x = j
  · subst e
    rw [updF_same] at hv
    have := h.rows x hx
    rw [updF_same, updF_same] at this
    exact tagNew_new (hi b off n c hv) (hasT_lt this hv)
  · rw [updF_ne _ _ e] at hv
    have ho := h0 x hx b off n c hv
    simp only at ho ⊢
    rw [tagNew_old (hl b (by rw [ho]; simp))]; exact ho
/-- A broker's book. -/
structure BksAt (w : World) (own : Own) (k K n : Nat) (b : Bk) : Prop where
  ex : ∃ gw gg gq cq, BookAt w K gw gg gq cq n b ∧ own K = some (.bk k) ∧ own gw = some (.bk k) ∧ own gg = some (.bk k) ∧ own gq = some (.bk k)
theorem BksAt.keep {w w' : World} {own own' : Own} {k K n : Nat} {b : Bk} {U : Tag → Prop} (h : BksAt w own k K n b) (hu : Upd U own own' w w') (h1 : ¬ U (.bk k)) : BksAt w' own' k K n b := by
  obtain ⟨gw, gg, gq, cq, q, t1, t2, t3, t4⟩ := h.ex
  obtain ⟨l1, l2, l3, l4⟩ := q.lt
  have k1 := hu.tag l1 t1 h1
  have k2 := hu.tag l2 t2 h1
  have k3 := hu.tag l3 t3 h1
  have k4 := hu.tag l4 t4 h1
  exact ⟨gw, gg, gq, cq, q.kept k1.1 k2.1 k3.1 k4.1, k1.2, k2.2, k3.2, k4.2⟩
/-- A book is written; its quotas may lie in a new block. -/
theorem BksAt.put {w w' : World} {own : Own} {k K n gw gg gq cq gq' cq' : Nat} {b b' : Bk} (hl : ∀ b, own b ≠ none → b < w.heap.size) (t1 : own K = some (.bk k)) (t2 : own gw = some (.bk k)) (t3 : own gg = some (.bk k)) (t4 : own gq = some (.bk k))
    (h : BookAt w' K gw gg gq' cq' n b') (hq : gq' = gq ∨ w.heap.size ≤ gq') (hw : Wrote (bkF K gw gg gq) w w') :
    ∃ own', BksAt w' own' k K n b' ∧ Upd (fun t => t = .bk k) own own' w w' ∧ ∀ x, own x = none → x ≠ gq' → own' x = none := by
  have hw' : Wrote (fun b => ∃ t, own b = some t ∧ t = .bk k) w w' := hw.mono fun x hx hF => by
    rcases hF with rfl | rfl | rfl | rfl
    · exact ⟨_, t1, rfl⟩
    · exact ⟨_, t2, rfl⟩
    · exact ⟨_, t3, rfl⟩
    · exact ⟨_, t4, rfl⟩
  have l1 := hl K (by rw [t1]; simp)
  have l2 := hl gw (by rw [t2]; simp)
  have l3 := hl gg (by rw [t3]; simp)
  have l4 := hl gq (by rw [t4]; simp)
  refine ⟨fun x => if x = gq' then some (.bk k) else own x, ⟨gw, gg, gq', cq', h, ?_, ?_, ?_, ?_⟩, ⟨hw', fun x hx => ?_, fun x hx hn => ?_⟩, fun x hx hne => ?_⟩
  · by_cases e : K = gq'
    · simp [e]
    · simp [e, t1]
  · by_cases e : gw = gq'
    · simp [e]
    · simp [e, t2]
  · by_cases e : gg = gq'
    · simp [e]
    · simp [e, t3]
  · simp
  · by_cases e : x = gq'
    · subst e
      rcases hq with rfl | hq
      · simp [t4]
      · omega
    · simp [e]
  · by_cases e : x = gq'
    · subst e; exact h.lt.2.2.2
    · simp only [if_neg e] at hn
      exact absurd (hl x hn) (by omega)
  · simp only [if_neg hne]; exact hx
/-- The frames that were lost. -/
def LostMap (w : World) (b n : Nat) (f : Nat → Bool) : Prop :=
  ∃ D : DataW Unit, w.ownsMap Tryz.prog 3 (plainElem Tryz.prog 4) b n D ∧ Maps.IsMap D ∧ ∀ x : Nat, (Lit.int .i64 x).wf = true → D.atKey (.int .i64 x) (.lit (.bool false)) = .lit (.bool (f x))
theorem intKeyed : Maps.Keyed Tryz.prog 3 := Maps.int_keyed Tryz.underlying3
theorem LostMap.made (w : World) : LostMap (w.alloc (.map #[] 0)) w.heap.size 0 fun _ => false :=
  ⟨.map [], World.ownsMap_made _ _ _ _, Maps.isMap_empty, fun x _ => rfl⟩
theorem LostMap.kept {w w' : World} {b n : Nat} {f : Nat → Bool} (h : LostMap w b n f) (hb : w'.heap[b]? = w.heap[b]?) : LostMap w' b n f := by
  obtain ⟨D, ⟨es, c, h1, h2, h3, h4⟩, hm, hD⟩ := h
  exact ⟨D, ⟨es, c, by rw [hb]; exact h1, h2, h3, h4⟩, hm, hD⟩
theorem LostMap.lt {w : World} {b n : Nat} {f : Nat → Bool} (h : LostMap w b n f) : b < w.heap.size := by
  obtain ⟨D, ⟨es, c, h1, _⟩, _⟩ := h
  exact (Array.getElem?_eq_some_iff.1 h1).1
theorem zeroBool (w : World) : (zeroValue 4).run Tryz.prog w = .ok (.bool false) w := by kernel_rfl
set_option maxRecDepth 100000 in
theorem plainBool_inv {v : Value} {d : DataW Unit} {ps : List MemPlace} (h : plainElem Tryz.prog 4 v = some (d, ps)) : ∃ x, v = .bool x ∧ d = .lit (.bool x) := by
  unfold plainElem at h
  rw [Tryz.underlying4] at h
  cases v <;> simp at h
  exact ⟨_, rfl, h.1.symm⟩
theorem LostMap.look {w : World} {b n : Nat} {f : Nat → Bool} (h : LostMap w b n f) {x : Nat} (hx : (Lit.int .i64 x).wf = true) :
    (Instr.lookup 93 (.map (some b)) (.int .i64 x) false).run Tryz.prog w = .ok (.bool (f x)) w := by
  obtain ⟨D, h1, hm, hD⟩ := h
  obtain ⟨v, ps, hr, hv⟩ := h1.lookup intKeyed Tryz.underlying93 (zeroBool w) (plainElem_bool Tryz.underlying4 false) (Maps.keyOf_int_mk Tryz.underlying3 hx)
  rw [hD x hx] at hv
  obtain ⟨y, rfl, hy⟩ := plainBool_inv hv
  simp only [DataW.lit.injEq, Lit.bool.injEq] at hy
  rw [hr, hy]
theorem LostMap.store {w : World} {b n : Nat} {f : Nat → Bool} (h : LostMap w b n f) (hn : n < maxLen) {x : Nat} (hx : (Lit.int .i64 x).wf = true) :
    ∃ w', (Instr.mapUpdate 93 (.map (some b)) (.int .i64 x) (.bool true)).run Tryz.prog w = .ok () w' ∧ LostMap w' b (n + 1) (updF f x true) ∧ w.grownBy w' (some b) := by
  obtain ⟨D, h1, hm, hD⟩ := h
  obtain ⟨w', hr, ho, hg⟩ := h1.update intKeyed Tryz.underlying93 hn (Maps.keyOf_int_mk Tryz.underlying3 hx) (plainElem_bool Tryz.underlying4 true)
  refine ⟨w', hr, ⟨_, ho, hm.put _ _, fun y hy => ?_⟩, hg⟩
  by_cases e : y = x
  · subst e
    rw [updF_same, Maps.atKey_put_same hm (intKeyed.key (Maps.keyOf_int_mk Tryz.underlying3 hx))]
  · rw [updF_ne _ _ e, Maps.atKey_put_other (fun hh => e (by simp only [Lit.int.injEq, true_and] at hh; omega)), hD y hy]
structure LostAt (w : World) (own : Own) (L N : Nat) (f : Nat → Bool) : Prop where
  tag : own L = some .lost
  ex : ∃ n, LostMap w L n f ∧ n ≤ N
theorem LostAt.keep {w w' : World} {own own' : Own} {L N : Nat} {f : Nat → Bool} {U : Tag → Prop} (h : LostAt w own L N f) (hu : Upd U own own' w w') (h1 : ¬ U .lost) : LostAt w' own' L N f := by
  obtain ⟨n, q, hn⟩ := h.ex
  obtain ⟨k1, k2⟩ := hu.tag q.lt h.tag h1
  exact ⟨k2, n, q.kept k1, hn⟩
/-- The office, told by tags. -/
theorem OffAt.keep {w w' : World} {own own' : Own} {S B N : Nat} {o : Off} {U : Tag → Prop} (h : OffAt w (fun b => own b = some .off) S B N o) (hu : Upd U own own' w w') (h1 : ¬ U .off) : OffAt w' (fun b => own' b = some .off) S B N o := by
  obtain ⟨v, lv, n, q1, q2, q3, q4, q5, q6⟩ := h.ex
  have kS := hu.tag (Array.getElem?_eq_some_iff.1 q1).1 h.lo.1 h1
  have kB := hu.tag q4.lt h.lo.2 h1
  exact ⟨⟨v, lv, n, by rw [kS.1]; exact q1, owns_kept q2 fun g hg => (hu.tag (owns_block_of q2 hg).2.1 (q6 g hg) h1).1, q3.mono fun a b _ _ r => ⟨r.f, r.t, r.d.kept r.i fun x hx ho => (hu.tag hx ho h1).1, fun x off n c hv => (hu.tag (hasT_lt r.d hv) (r.i x off n c hv) h1).2⟩, q4.kept kB.1, q5, fun g hg => (hu.tag (owns_block_of q2 hg).2.1 (q6 g hg) h1).2⟩, h.ok, h.len, ⟨kS.2, kB.2⟩⟩
theorem OffAt.reF {w : World} {F G : Nat → Prop} {S B N : Nat} {o : Off} (h : OffAt w F S B N o) (hF : ∀ b, b < w.heap.size → F b → G b) : OffAt w G S B N o := by
  obtain ⟨v, lv, n, q1, q2, q3, q4, q5, q6⟩ := h.ex
  exact ⟨⟨v, lv, n, q1, q2, q3.mono fun a b _ _ r => ⟨r.f, r.t, r.d, fun x off n c hv => hF x (hasT_lt r.d hv) (r.i x off n c hv)⟩, q4, q5, fun g hg => hF g (owns_block_of q2 hg).2.1 (q6 g hg)⟩, h.ok, h.len, ⟨hF _ (Array.getElem?_eq_some_iff.1 q1).1 h.lo.1, hF _ q4.lt h.lo.2⟩⟩
/-- A world in memory. -/
structure WAt (w : World) (c : Cfg) (X : Adr) (own : Own) (N : Nat) (s : Wld) : Prop where
  lt : ∀ b, own b ≠ none → b < w.heap.size
  fix : FixAt w c X own
  sh : ∀ i, i < c.n → ShsAt w own i (X.S i) c.items (s.sh i)
  asks : ∀ i, i < c.n → IntsAt w own (.ask i) (X.A i) ((List.range c.items).map (s.asks i))
  gain : ∀ i, i < c.n → IntsAt w own (.gain i) (X.G i) ((List.range c.items).map (s.gain i))
  st : ∀ i, i < c.n → StAt w own i (X.T i) c.labs.length (s.st i)
  bk : ∀ k, k < c.items → BksAt w own k (X.K k) c.n (s.bk k)
  off : OffAt w (fun b => own b = some .off) X.O X.P N ⟨s.ls.map (·.ltr c.labs), s.op⟩
  lost : LostAt w own X.L N s.lost
/-- Nothing of the world is written. -/
theorem WAt.keep {w w' : World} {c : Cfg} {X : Adr} {own own' : Own} {N : Nat} {s : Wld} (h : WAt w c X own N s) (hu : Upd (fun _ => False) own own' w w') : WAt w' c X own' N s :=
  ⟨hu.lt h.lt, h.fix.keep hu id, fun i hi => (h.sh i hi).keep hu id fun _ => id, fun i hi => (h.asks i hi).keep hu id, fun i hi => (h.gain i hi).keep hu id, fun i hi => (h.st i hi).keep hu id, fun k hk => (h.bk k hk).keep hu id, h.off.keep hu id, h.lost.keep hu id⟩
theorem WAt.on {w w' : World} {c : Cfg} {X : Adr} {own : Own} {N : Nat} {s : Wld} (h : WAt w c X own N s) (hb : Below w.heap.size w w') : WAt w' c X own N s := h.keep (Upd.of_below hb h.lt)
/-- A block of nobody's is written. -/
theorem WAt.setFree {w : World} {c : Cfg} {X : Adr} {own : Own} {N : Nat} {s : Wld} (h : WAt w c X own N s) {b : Nat} (hb : own b = none) (hX : ∀ v : Value, v = X.vl ∨ v = X.vm → InF (fun g => g ≠ b) v) (h0 : b ≠ 0) (j : Nat) (u : Value) : WAt (w.setCell ⟨b, j, none⟩ u) c X own N s := by
  have e : (w.setCell ⟨b, j, none⟩ u).heap.size = w.heap.size := by simp [World.setCell]
  have hne : ∀ g, g ≠ b → (w.setCell ⟨b, j, none⟩ u).heap[g]? = w.heap[g]? := fun g hg => Below.heap_setCell _ _ _ _ hg
  have hfr : ∀ g, Fr own w g → Fr own (w.setCell ⟨b, j, none⟩ u) g := fun g hg => ⟨hg.1, by rw [e]; exact hg.2⟩
  have ht : ∀ g t, own g = some t → g ≠ b := fun g t hg hh => by rw [hh, hb] at hg; cases hg
  have f := h.fix
  refine ⟨fun g hg => by rw [e]; exact h.lt g hg, ⟨f.tw, f.tr, f.tq, f.tb, by rw [hne _ (ht _ _ f.tw)]; exact f.head, owns_kept f.rb fun g hg => ?_, owns_kept f.rq fun g hg => ?_, fun i hi => by rw [hne _ (ht _ _ (f.tb i hi))]; exact f.br i hi, ⟨f.cfg.hl.kept (hX _ (.inl rfl)) fun g _ hg => hne g hg, f.cfg.hm.kept (hX _ (.inr rfl)) fun g _ hg => hne g hg⟩, f.il.mono hfr, f.im.mono hfr, f.od.kept (hne 0 (Ne.symm h0)), hfr _ f.io⟩, ?_, ?_, ?_, ?_, ?_, ?_, ?_⟩
  · simp only [Value.ownBlock, Option.some.injEq] at hg; subst hg; exact hne _ (ht _ _ f.tr)
  · simp only [Value.ownBlock, Option.some.injEq] at hg; subst hg; exact hne _ (ht _ _ f.tq)
  · intro i hi
    have q := h.sh i hi
    refine ⟨q.tag, by rw [e]; exact q.lt, fun k hk => ?_, q.ok⟩
    obtain ⟨v, q1, q2, q3⟩ := q.each k hk
    exact ⟨v, q1.same (hne _ (ht _ _ q.tag)), owns_kept q2 fun g hg => hne g (ht _ _ (q3 g hg)), q3⟩
  · exact fun i hi => ⟨(h.asks i hi).tag, by rw [hne _ (ht _ _ (h.asks i hi).tag)]; exact (h.asks i hi).cells⟩
  · exact fun i hi => ⟨(h.gain i hi).tag, by rw [hne _ (ht _ _ (h.gain i hi).tag)]; exact (h.gain i hi).cells⟩
  · intro i hi
    obtain ⟨vs, q1, q2⟩ := (h.st i hi).ex
    exact ⟨(h.st i hi).tag, vs, ⟨by rw [hne _ (ht _ _ (h.st i hi).tag)]; exact q1.cells, fun k hk => (q1.rows k hk).kept (q2 k hk) fun g _ hg => hne g (ht _ _ hg), q1.ok⟩, q2⟩
  · intro k hk
    obtain ⟨gw, gg, gq, cq, q, t1, t2, t3, t4⟩ := (h.bk k hk).ex
    exact ⟨gw, gg, gq, cq, q.kept (hne _ (ht _ _ t1)) (hne _ (ht _ _ t2)) (hne _ (ht _ _ t3)) (hne _ (ht _ _ t4)), t1, t2, t3, t4⟩
  · obtain ⟨v, lv, n, q1, q2, q3, q4, q5, q6⟩ := h.off.ex
    exact ⟨⟨v, lv, n, by rw [hne _ (ht _ _ h.off.lo.1)]; exact q1, owns_kept q2 fun g hg => hne g (ht _ _ (q6 g hg)), q3.mono fun a b _ _ r => ⟨r.f, r.t, r.d.kept r.i fun x _ ho => hne x (ht _ _ ho), r.i⟩, q4.kept (hne _ (ht _ _ h.off.lo.2)), q5, q6⟩, h.off.ok, h.off.len, h.off.lo⟩
  · obtain ⟨n, q, hn⟩ := h.lost.ex
    exact ⟨h.lost.tag, n, q.kept (hne _ (ht _ _ h.lost.tag)), hn⟩
end Go.Proofs.YtjdedflfdlhkdaaGreatDoor

namespace Go.Proofs.YtjdedflfdlhkdaaGreatDoor
open Go.ChangeShapes Go.WideShapes Go.ChangeAt Go.RowKit
set_option linter.unusedVariables false
set_option linter.unusedSimpArgs false

theorem Upd.mono {T U : Tag → Prop} {own own' : Own} {w w' : World} (h : Upd T own own' w w') (hT : ∀ t, T t → U t) : Upd U own own' w w' :=
  ⟨h.wr.mono fun b _ ⟨t, h1, h2⟩ => ⟨t, h1, hT t h2⟩, h.same, h.new⟩
theorem Upd.trans {T : Tag → Prop} {own own1 own2 : Own} {w w1 w2 : World} (h : Upd T own own1 w w1) (k : Upd T own1 own2 w1 w2) : Upd T own own2 w w2 :=
  ⟨h.wr.trans_new k.wr fun b hb ⟨t, h1, h2⟩ => ⟨t, by rw [← h.same b hb]; exact h1, h2⟩, fun b hb => by rw [k.same b (Nat.lt_of_lt_of_le hb h.wr.size), h.same b hb], fun b hb hn => by
    by_cases h1 : b < w1.heap.size
    · exact Nat.lt_of_lt_of_le h1 k.wr.size
    · exact k.new b (by omega) hn⟩
/-- The world has gone on; what is nobody's is as it was. -/
abbrev Went (own own' : Own) (w w' : World) : Prop := Upd (fun _ => True) own own' w w'
theorem Upd.went {T : Tag → Prop} {own own' : Own} {w w' : World} (h : Upd T own own' w w') : Went own own' w w' := h.mono fun _ _ => trivial
theorem Went.of_below {own : Own} {w w' : World} (hb : Below w.heap.size w w') (hl : ∀ b, own b ≠ none → b < w.heap.size) : Went own own w w' := Upd.of_below hb hl
section
variable {w w' : World} {c : Cfg} {X : Adr} {own : Own} {N : Nat} {s : Wld}
theorem map_upd (f : Nat → Nat → Int) (i k m : Nat) (x : Int) (hk : k < m) : ((List.range m).map (f i)).set k x = (List.range m).map (upd2 f i k x i) := by
  apply List.ext_getElem (by simp)
  intro j h1 h2
  rw [List.getElem_set]
  simp only [List.getElem_map, List.getElem_range]
  by_cases e : k = j
  · subst e; rw [if_pos rfl, upd2_same]
  · rw [if_neg e, upd2_ne _ _ (by omega)]
theorem map_upd_ne (f : Nat → Nat → Int) (i k m j : Nat) (x : Int) (h : j ≠ i) : (List.range m).map (upd2 f i k x j) = (List.range m).map (f j) := by
  apply List.map_congr_left
  intro a _
  rw [upd2_ne _ _ (by omega)]
/-- An order on a shelf. -/
theorem WAt.order (h : WAt w c X own N s) (i k : Nat) (hi : i < c.n) (hk : k < c.items) {s' : Shf} (ho : Ordered (ordF own w i k (X.S i)) (X.S i) (k * 4) (s.sh i k) s' w w') :
    ∃ own', WAt w' c X own' N { s with sh := upd2 s.sh i k s' } ∧ Went own own' w w' := by
  obtain ⟨q, hu⟩ := (h.sh i hi).put h.lt k hk ho
  refine ⟨_, ⟨hu.lt h.lt, h.fix.keep hu (by simp), fun j hj => ?_, fun j hj => (h.asks j hj).keep hu (by simp), fun j hj => (h.gain j hj).keep hu (by simp), fun j hj => (h.st j hj).keep hu (by simp), fun j hj => (h.bk j hj).keep hu (by simp), h.off.keep hu (by simp), h.lost.keep hu (by simp)⟩, hu.went⟩
  by_cases e : j = i
  · subst e
    have : upd2 s.sh j k s' j = updF (s.sh j) k s' := by funext y; unfold upd2 updF; simp
    simp only [this]; exact q
  · have : upd2 s.sh i k s' j = s.sh j := by funext y; exact upd2_ne _ _ (by omega)
    simp only [this]
    exact (h.sh j hj).keep hu (by simp [e]) (by simp [e])
/-- What a branch asks for. -/
theorem WAt.ask (h : WAt w c X own N s) (i k : Nat) (hi : i < c.n) (hk : k < c.items) (x : Int) : WAt (w.setCell ⟨X.A i, k, none⟩ (.int .i64 x)) c X own N { s with asks := upd2 s.asks i k x } ∧ Went own own w (w.setCell ⟨X.A i, k, none⟩ (.int .i64 x)) := by
  obtain ⟨q, hu⟩ := (h.asks i hi).put h.lt k x
  refine ⟨⟨hu.lt h.lt, h.fix.keep hu (by simp), fun j hj => (h.sh j hj).keep hu (by simp) (by simp), fun j hj => ?_, fun j hj => (h.gain j hj).keep hu (by simp), fun j hj => (h.st j hj).keep hu (by simp), fun j hj => (h.bk j hj).keep hu (by simp), h.off.keep hu (by simp), h.lost.keep hu (by simp)⟩, hu.went⟩
  by_cases e : j = i
  · subst e; rw [map_upd _ _ _ _ _ hk] at q; exact q
  · rw [map_upd_ne _ _ _ _ _ _ e]; exact (h.asks j hj).keep hu (by simp [e])
/-- What a branch gained. -/
theorem WAt.gainSet (h : WAt w c X own N s) (i k : Nat) (hi : i < c.n) (hk : k < c.items) (x : Int) : WAt (w.setCell ⟨X.G i, k, none⟩ (.int .i64 x)) c X own N { s with gain := upd2 s.gain i k x } ∧ Went own own w (w.setCell ⟨X.G i, k, none⟩ (.int .i64 x)) := by
  obtain ⟨q, hu⟩ := (h.gain i hi).put h.lt k x
  refine ⟨⟨hu.lt h.lt, h.fix.keep hu (by simp), fun j hj => (h.sh j hj).keep hu (by simp) (by simp), fun j hj => (h.asks j hj).keep hu (by simp), fun j hj => ?_, fun j hj => (h.st j hj).keep hu (by simp), fun j hj => (h.bk j hj).keep hu (by simp), h.off.keep hu (by simp), h.lost.keep hu (by simp)⟩, hu.went⟩
  by_cases e : j = i
  · subst e; rw [map_upd _ _ _ _ _ hk] at q; exact q
  · rw [map_upd_ne _ _ _ _ _ _ e]; exact (h.gain j hj).keep hu (by simp [e])
/-- Entries are learnt, or put. -/
theorem WAt.learn (h : WAt w c X own N s) (i j : Nat) (hi : i < c.n) (hj : j < c.labs.length) {b : List Ent}
    (hh : ∀ vs, StoreAt w (X.T i) c.labs.length vs (s.st i) → ∃ v', InF (fun b => w.heap.size ≤ b) v' ∧ StoreAt w' (X.T i) c.labs.length (updF vs j v') (updF (s.st i) j b) ∧ w.grownBy w' (some (X.T i))) :
    ∃ own', WAt w' c X own' N { s with st := upd2 s.st i j b } ∧ Went own own' w w' := by
  obtain ⟨vs, q1, q2⟩ := (h.st i hi).ex
  obtain ⟨v', r1, r2, r3⟩ := hh vs q1
  obtain ⟨q, hu⟩ := StAt.put h.lt (h.st i hi).tag q2 r1 r2 hj r3
  refine ⟨_, ⟨hu.lt h.lt, h.fix.keep hu (by simp), fun x hx => (h.sh x hx).keep hu (by simp) (by simp), fun x hx => (h.asks x hx).keep hu (by simp), fun x hx => (h.gain x hx).keep hu (by simp), fun x hx => ?_, fun x hx => (h.bk x hx).keep hu (by simp), h.off.keep hu (by simp), h.lost.keep hu (by simp)⟩, hu.went⟩
  by_cases e : x = i
  · subst e
    have : upd2 s.st x j b x = updF (s.st x) j b := by funext y; unfold upd2 updF; simp
    simp only [this]; exact q
  · have : upd2 s.st i j b x = s.st x := by funext y; exact upd2_ne _ _ (by omega)
    simp only [this]
    exact (h.st x hx).keep hu (by simp [e])
/-- A book. -/
theorem WAt.book (h : WAt w c X own N s) (k : Nat) (hk : k < c.items) {b' : Bk} {own' : Own} (q : BksAt w' own' k (X.K k) c.n b') (hu : Upd (fun t => t = .bk k) own own' w w') :
    WAt w' c X own' N { s with bk := updF s.bk k b' } := by
  refine ⟨hu.lt h.lt, h.fix.keep hu (by simp), fun x hx => (h.sh x hx).keep hu (by simp) (by simp), fun x hx => (h.asks x hx).keep hu (by simp), fun x hx => (h.gain x hx).keep hu (by simp), fun x hx => (h.st x hx).keep hu (by simp), fun x hx => ?_, h.off.keep hu (by simp), h.lost.keep hu (by simp)⟩
  by_cases e : x = k
  · subst e; simp only [updF_same]; exact q
  · simp only [updF_ne _ _ e]; exact (h.bk x hx).keep hu (by simp [e])
/-- What a post may write. -/
def offF (own : Own) (w : World) : Nat → Prop := fun b => own b = some .off ∨ w.heap.size ≤ b
theorem WAt.offAt (h : WAt w c X own N s) : OffAt w (offF own w) X.O X.P N ⟨s.ls.map (·.ltr c.labs), s.op⟩ := h.off.reF fun b _ hb => .inl hb
theorem WAt.moreN (h : WAt w c X own N s) {M : Nat} (hM : N ≤ M) : WAt w c X own M s :=
  { h with off := h.off.mono hM, lost := ⟨h.lost.tag, by obtain ⟨n, q, hn⟩ := h.lost.ex; exact ⟨n, q, Nat.le_trans hn hM⟩⟩ }
/-- A letter is posted. -/
theorem WAt.post (h : WAt w c X own N s) (x : Let) (ho : OffAt w' (offF own w) X.O X.P (N + 1) ⟨s.ls.map (·.ltr c.labs) ++ [x.ltr c.labs], s.op⟩) (hw : Wrote (offF own w) w w') :
    ∃ own', WAt w' c X own' (N + 1) { s with ls := s.ls ++ [x] } ∧ Went own own' w w' := by
  have hu : Upd (fun t => t = .off) own (tagNew own w w' .off) w w' := tagNew_upd h.lt (hw.mono fun b hb hF => by
    rcases hF with h1 | h1
    · exact ⟨_, h1, rfl⟩
    · omega)
  refine ⟨_, ⟨hu.lt h.lt, h.fix.keep hu (by simp), fun x hx => (h.sh x hx).keep hu (by simp) (by simp), fun x hx => (h.asks x hx).keep hu (by simp), fun x hx => (h.gain x hx).keep hu (by simp), fun x hx => (h.st x hx).keep hu (by simp), fun x hx => (h.bk x hx).keep hu (by simp), ?_, ?_⟩, hu.went⟩
  · have := ho.reF (G := fun b => tagNew own w w' .off b = some .off) fun b hb hF => by
      rcases hF with h1 | h1
      · rw [tagNew_old (h.lt b (by rw [h1]; simp))]; exact h1
      · exact tagNew_new h1 hb
    simpa using this
  · have := h.lost.keep hu (by simp)
    exact ⟨this.tag, by obtain ⟨n, q, hn⟩ := this.ex; exact ⟨n, q, by omega⟩⟩
/-- A letter is opened. -/
theorem WAt.opened (h : WAt w c X own N s) (op' : Int → Int → Int) (ho : OffAt w' (fun b => own b = some .off) X.O X.P (N + 1) ⟨s.ls.map (·.ltr c.labs), op'⟩) (hw : Wrote (fun b => own b = some .off) w w') :
    WAt w' c X own (N + 1) { s with op := op' } ∧ Went own own w w' := by
  have hu : Upd (fun t => t = .off) own own w w' := Upd.of_wrote (hw.mono fun b hb hF => ⟨_, hF, rfl⟩) h.lt
  refine ⟨⟨hu.lt h.lt, h.fix.keep hu (by simp), fun x hx => (h.sh x hx).keep hu (by simp) (by simp), fun x hx => (h.asks x hx).keep hu (by simp), fun x hx => (h.gain x hx).keep hu (by simp), fun x hx => (h.st x hx).keep hu (by simp), fun x hx => (h.bk x hx).keep hu (by simp), ho, ?_⟩, hu.went⟩
  have := h.lost.keep hu (by simp)
  exact ⟨this.tag, by obtain ⟨n, q, hn⟩ := this.ex; exact ⟨n, q, by omega⟩⟩
/-- A frame is lost. -/
theorem WAt.lose (h : WAt w c X own N s) (f : Nat → Bool) {n : Nat} (hm : LostMap w' X.L n f) (hn : n ≤ N + 1) (hg : w.grownBy w' (some X.L)) :
    WAt w' c X own (N + 1) { s with lost := f } ∧ Went own own w w' := by
  have hu : Upd (fun t => t = .lost) own own w w' := Upd.of_wrote ⟨hg.os, hg.tape, hg.output, hg.size, fun k hk hf => hg.block k hk fun e => hf (by simp only [Option.some.injEq] at e; rw [e]; exact ⟨_, h.lost.tag, rfl⟩)⟩ h.lt
  exact ⟨⟨hu.lt h.lt, h.fix.keep hu (by simp), fun x hx => (h.sh x hx).keep hu (by simp) (by simp), fun x hx => (h.asks x hx).keep hu (by simp), fun x hx => (h.gain x hx).keep hu (by simp), fun x hx => (h.st x hx).keep hu (by simp), fun x hx => (h.bk x hx).keep hu (by simp), (h.off.keep hu (by simp)).mono (Nat.le_succ _), ⟨h.lost.tag, n, hm, hn⟩⟩, hu.went⟩
/-- The world's cells. -/
theorem WAt.head (h : WAt w c X own N s) : w.cell? ⟨X.W, 0, none⟩ = some (.int .i64 c.n) ∧ w.cell? ⟨X.W, 1, none⟩ = some X.vl ∧ w.cell? ⟨X.W, 2, none⟩ = some (.int .i64 c.ticks) ∧ w.cell? ⟨X.W, 3, none⟩ = some X.vm ∧ w.cell? ⟨X.W, 4, none⟩ = some (.int .i64 c.cap) ∧ w.cell? ⟨X.W, 5, none⟩ = some (.slice (some ⟨X.R, 0, none⟩) c.n X.cb) ∧ w.cell? ⟨X.W, 6, none⟩ = some (.slice (some ⟨X.Q, 0, none⟩) c.items X.ck) ∧ w.cell? ⟨X.W, 7, none⟩ = some (.pointer (some ⟨X.O, 0, none⟩)) ∧ w.cell? ⟨X.W, 8, none⟩ = some (.map (some X.L)) := by
  have q := h.fix.head
  refine ⟨?_, ?_, ?_, ?_, ?_, ?_, ?_, ?_, ?_⟩ <;> rw [cell_of_row w _ _ _ _ _ q] <;> rfl
theorem WAt.branch (h : WAt w c X own N s) (i : Nat) (hi : i < c.n) : w.cell? ⟨X.B i, 0, none⟩ = some (.slice (some ⟨X.S i, 0, none⟩) c.items c.items) ∧ w.cell? ⟨X.B i, 1, none⟩ = some (.slice (some ⟨X.A i, 0, none⟩) c.items c.items) ∧ w.cell? ⟨X.B i, 2, none⟩ = some (.slice (some ⟨X.G i, 0, none⟩) c.items c.items) ∧ w.cell? ⟨X.B i, 3, none⟩ = some (.slice (some ⟨X.T i, 0, none⟩) c.labs.length c.labs.length) := by
  have q := h.fix.br i hi
  refine ⟨?_, ?_, ?_, ?_⟩ <;> rw [cell_of_row w _ _ _ _ _ q] <;> rfl
theorem WAt.ptr (h : WAt w c X own N s) (i : Nat) (hi : i < c.n) : w.cell? ⟨X.R, i, none⟩ = some (.pointer (some ⟨X.B i, 0, none⟩)) ∧ c.n ≤ X.cb ∧ X.cb ≤ maxLen := by
  have q := h.fix.rb
  obtain ⟨_, _, _, he, h1, h2, _⟩ := Has.of_owns q
  simp only [Value.slice.injEq] at he
  obtain ⟨-, -, rfl⟩ := he
  obtain ⟨g, cap, he, -, -, -, hc⟩ := owns_some q (by omega)
  simp only [Value.slice.injEq, Option.some.injEq, Addr.mk.injEq, and_true, true_and] at he
  obtain ⟨rfl, rfl⟩ := he
  exact ⟨hc i _ (by simp [hi]), h1, h2⟩
theorem WAt.bptr (h : WAt w c X own N s) (k : Nat) (hk : k < c.items) : w.cell? ⟨X.Q, k, none⟩ = some (.pointer (some ⟨X.K k, 0, none⟩)) ∧ c.items ≤ X.ck ∧ X.ck ≤ maxLen := by
  have q := h.fix.rq
  obtain ⟨_, _, _, he, h1, h2, _⟩ := Has.of_owns q
  simp only [Value.slice.injEq] at he
  obtain ⟨-, -, rfl⟩ := he
  obtain ⟨g, cap, he, -, -, -, hc⟩ := owns_some q (by omega)
  simp only [Value.slice.injEq, Option.some.injEq, Addr.mk.injEq, and_true, true_and] at he
  obtain ⟨rfl, rfl⟩ := he
  exact ⟨hc k _ (by simp [hk]), h1, h2⟩
theorem map_cell {f : Nat → Int} {m k : Nat} (hk : k < m) : ((List.range m).map f)[k]'(by simpa using hk) = f k := by simp
theorem WAt.askCell (h : WAt w c X own N s) (i k : Nat) (hi : i < c.n) (hk : k < c.items) : w.cell? ⟨X.A i, k, none⟩ = some (.int .i64 (s.asks i k)) ∧ w.frozen? ⟨X.A i, k, none⟩ = false := by
  have := (h.asks i hi).cell k (by simpa using hk)
  rw [map_cell hk] at this; exact this
theorem WAt.gainCell (h : WAt w c X own N s) (i k : Nat) (hi : i < c.n) (hk : k < c.items) : w.cell? ⟨X.G i, k, none⟩ = some (.int .i64 (s.gain i k)) ∧ w.frozen? ⟨X.G i, k, none⟩ = false := by
  have := (h.gain i hi).cell k (by simpa using hk)
  rw [map_cell hk] at this; exact this
theorem ltr_t (labs : List Nat) (ls : List Let) (i : Nat) (hi : i < ls.length) (hi' : i < (ls.map (fun x : Let => x.ltr labs)).length) : ((ls.map (fun x : Let => x.ltr labs))[i]).t = ((((ls.map (·.t)).getD i 0) : Nat) : Int) := by
  simp [Let.ltr, List.getD_eq_getElem?_getD, hi]
theorem ltr_f (labs : List Nat) (ls : List Let) (i : Nat) (hi : i < ls.length) (hi' : i < (ls.map (fun x : Let => x.ltr labs)).length) : ((ls.map (fun x : Let => x.ltr labs))[i]).f = ((((ls.map (·.f)).getD i 0) : Nat) : Int) := by
  simp [Let.ltr, List.getD_eq_getElem?_getD, hi]
theorem ltr_d (labs : List Nat) (ls : List Let) (i : Nat) (hi : i < ls.length) (hi' : i < (ls.map (fun x : Let => x.ltr labs)).length) : ((ls.map (fun x : Let => x.ltr labs))[i]).d = ls[i].enc labs := by
  simp [Let.ltr]
end
end Go.Proofs.YtjdedflfdlhkdaaGreatDoor

namespace Go.Proofs.YtjdedflfdlhkdaaGreatDoor
open Go.ChangeShapes Go.WideShapes Go.ChangeAt Go.RowKit
set_option linter.unusedVariables false
set_option linter.unusedSimpArgs false

theorem elBrp : Elem Tryz.prog 99 1 8 (.pointer none) := .of (by kernel_rfl) rfl (by decide)
theorem elBkp : Elem Tryz.prog 96 1 8 (.pointer none) := .of (by kernel_rfl) rfl (by decide)
def zer (n : Nat) : List Int := (List.range n).map fun _ => (0 : Int)
def headC (c : Cfg) (X : Adr) (vR vQ : Value) : Obj := .cells #[.int .i64 c.n, X.vl, .int .i64 c.ticks, X.vm, .int .i64 c.cap, vR, vQ, .pointer (some ⟨X.O, 0, none⟩), .map (some X.L)] 95 (0, 0)
def brC (c : Cfg) (S A G T : Nat) : Obj := .cells #[.slice (some ⟨S, 0, none⟩) c.items c.items, .slice (some ⟨A, 0, none⟩) c.items c.items, .slice (some ⟨G, 0, none⟩) c.items c.items, .slice (some ⟨T, 0, none⟩) c.labs.length c.labs.length] 103 (0, 0)
def bk0 (c : Cfg) (k : Nat) : Bk := (Bk.new c.n c.cap c.ticks).stock (c.minted.getD k 0)
/-- What the first branches and books are. -/
structure Parts (w : World) (c : Cfg) (X : Adr) (own : Own) (a k : Nat) : Prop where
  tb : ∀ i, i < a → own (X.B i) = some .fix
  br : ∀ i, i < a → w.heap[X.B i]? = some (brC c (X.S i) (X.A i) (X.G i) (X.T i))
  sh : ∀ i, i < a → ShsAt w own i (X.S i) c.items fun _ => shf0
  asks : ∀ i, i < a → IntsAt w own (.ask i) (X.A i) (zer c.items)
  gain : ∀ i, i < a → IntsAt w own (.gain i) (X.G i) (zer c.items)
  st : ∀ i, i < a → StAt w own i (X.T i) c.labs.length fun _ => []
  bk : ∀ j, j < k → BksAt w own j (X.K j) c.n (bk0 c j)
  off : OffAt w (fun b => own b = some .off) X.O X.P 0 ⟨[], fun _ _ => 0⟩
  lost : LostAt w own X.L 0 fun _ => false
/-- In the making: a branches, k books. -/
structure PAt (w0 w : World) (c : Cfg) (X : Adr) (own : Own) (a k : Nat) (vR vQ : Value) : Prop where
  lt : ∀ b, own b ≠ none → b < w.heap.size
  new : ∀ b, own b ≠ none → w0.heap.size ≤ b
  bw : Below w0.heap.size w0 w
  tw : own X.W = some (.row c.n 0)
  head : w.heap[X.W]? = some (headC c X vR vQ)
  rb : w.ownsRow 0 99 1 vR a ((List.range a).map fun i => .pointer (some ⟨X.B i, 0, none⟩))
  rt : ∀ g, vR.ownBlock = some g → own g = some (.row c.n 1)
  rq : w.ownsRow 0 96 1 vQ k ((List.range k).map fun i => .pointer (some ⟨X.K i, 0, none⟩))
  qt : ∀ g, vQ.ownBlock = some g → own g = some (.row c.n 2)
  p : Parts w c X own a k
section
variable {w0 w w' : World} {c : Cfg} {X X' : Adr} {own own' : Own} {a k : Nat} {vR vQ vR' vQ' : Value}
/-- The tags of the world's own cells and of its two rows. -/
def topT (c : Cfg) : Tag → Prop := fun t => ∃ j, t = .row c.n j
theorem lt_of_heap {w : World} {b : Nat} {o : Obj} (hh : w.heap[b]? = some o) : b < w.heap.size := (Array.getElem?_eq_some_iff.1 hh).1
/-- What does not change where the world's own cells or rows do. -/
theorem Parts.keep (h : Parts w c X own a k) (ha : a ≤ c.n) (hu : Upd (topT c) own own' w w') : Parts w' c X own' a k := by
  have n1 : ∀ i, ¬ topT c (.sh i) := fun i ⟨j, e⟩ => by cases e
  have n2 : ∀ i, i < a → ∀ k, ¬ topT c (.row i k) := fun i hi k ⟨j, e⟩ => by simp only [Tag.row.injEq] at e; omega
  have n3 : ¬ topT c .fix := fun ⟨j, e⟩ => by cases e
  have n4 : ∀ i, ¬ topT c (.ask i) := fun i ⟨j, e⟩ => by cases e
  have n5 : ∀ i, ¬ topT c (.gain i) := fun i ⟨j, e⟩ => by cases e
  have n6 : ∀ i, ¬ topT c (.st i) := fun i ⟨j, e⟩ => by cases e
  have n7 : ∀ i, ¬ topT c (.bk i) := fun i ⟨j, e⟩ => by cases e
  have n8 : ¬ topT c .off := fun ⟨j, e⟩ => by cases e
  have n9 : ¬ topT c .lost := fun ⟨j, e⟩ => by cases e
  exact ⟨fun i hi => (hu.tag (lt_of_heap (h.br i hi)) (h.tb i hi) n3).2, fun i hi => by rw [(hu.tag (lt_of_heap (h.br i hi)) (h.tb i hi) n3).1]; exact h.br i hi, fun i hi => (h.sh i hi).keep hu (n1 i) (n2 i hi), fun i hi => (h.asks i hi).keep hu (n4 i), fun i hi => (h.gain i hi).keep hu (n5 i), fun i hi => (h.st i hi).keep hu (n6 i), fun j hj => (h.bk j hj).keep hu (n7 j), h.off.keep hu n8, h.lost.keep hu n9⟩
/-- Other addresses, the same of the first. -/
theorem Parts.adr (h : Parts w c X own a k) (hB : ∀ i, i < a → X'.B i = X.B i) (hS : ∀ i, i < a → X'.S i = X.S i) (hA : ∀ i, i < a → X'.A i = X.A i) (hG : ∀ i, i < a → X'.G i = X.G i) (hT : ∀ i, i < a → X'.T i = X.T i) (hK : ∀ i, i < k → X'.K i = X.K i) (hO : X'.O = X.O) (hP : X'.P = X.P) (hL : X'.L = X.L) : Parts w c X' own a k :=
  ⟨fun i hi => by rw [hB i hi]; exact h.tb i hi, fun i hi => by rw [hB i hi, hS i hi, hA i hi, hG i hi, hT i hi]; exact h.br i hi, fun i hi => by rw [hS i hi]; exact h.sh i hi, fun i hi => by rw [hA i hi]; exact h.asks i hi, fun i hi => by rw [hG i hi]; exact h.gain i hi, fun i hi => by rw [hT i hi]; exact h.st i hi, fun j hj => by rw [hK j hj]; exact h.bk j hj, by rw [hO, hP]; exact h.off, by rw [hL]; exact h.lost⟩
/-- Nothing of it is written. -/
theorem PAt.on (h : PAt w0 w c X own a k vR vQ) (ha : a ≤ c.n) (hb : Below w.heap.size w w') : PAt w0 w' c X own a k vR vQ :=
  ⟨(Upd.of_below (T := topT c) hb h.lt).lt h.lt, h.new, h.bw.trans (hb.mono h.bw.size), h.tw, by rw [hb.block _ (lt_of_heap h.head)]; exact h.head, owns_below h.rb hb, h.rt, owns_below h.rq hb, h.qt, h.p.keep ha (Upd.of_below hb h.lt)⟩
/-- The world is there. -/
theorem PAt.done (h : PAt w0 w c X own c.n c.items (.slice (some ⟨X.R, 0, none⟩) c.n X.cb) (.slice (some ⟨X.Q, 0, none⟩) c.items X.ck)) (hcfg : CfgAt w c X.vl X.vm) (hl : InF (fun b => b < w0.heap.size) X.vl) (hm : InF (fun b => b < w0.heap.size) X.vm) (ho : OrdVar w) (h0 : 0 < w0.heap.size) :
    ∃ own', WAt w c X own' 0 (wld0 c) ∧ ∀ b, b < w0.heap.size → own' b = none := by
  have hfree : ∀ b, b < w0.heap.size → own b = none := fun b hb => by
    cases ho : own b with
    | none => rfl
    | some t => exact absurd (h.new b (by rw [ho]; simp)) (by omega)
  refine ⟨fun b => match own b with | some (.row i j) => if i = c.n then some .fix else some (.row i j) | t => t, ?_, fun b hb => by simp only [hfree b hb]⟩
  have hT : ∀ b t, own b = some t → (∀ j, t ≠ .row c.n j) → (match own b with | some (.row i j) => if i = c.n then some Tag.fix else some (.row i j) | t => t) = some t := fun b t hb ht => by
    rw [hb]
    cases t <;> try rfl
    rename_i i j
    simp only
    rw [if_neg fun e => ht j (by rw [e])]
  have hF : ∀ b j, own b = some (.row c.n j) → (match own b with | some (.row i j) => if i = c.n then some Tag.fix else some (.row i j) | t => t) = some .fix := fun b j hb => by rw [hb]; simp
  have hN : ∀ b, own b = none → (match own b with | some (.row i j) => if i = c.n then some Tag.fix else some (.row i j) | t => t) = none := fun b hb => by rw [hb]
  have hfr : ∀ b, b < w0.heap.size → Fr (fun b => match own b with | some (.row i j) => if i = c.n then some Tag.fix else some (.row i j) | t => t) w b := fun b hb => ⟨hN b (hfree b hb), Nat.lt_of_lt_of_le hb h.bw.size⟩
  refine ⟨fun b hb => h.lt b fun e => hb (hN b e), ⟨hF _ _ h.tw, hF _ 1 (h.rt _ rfl), hF _ 2 (h.qt _ rfl), fun i hi => hT _ _ (h.p.tb i hi) (by simp), h.head, h.rb, h.rq, fun i hi => h.p.br i hi, hcfg, hl.mono hfr, hm.mono hfr, ho, hfr 0 h0⟩, fun i hi => ?_, fun i hi => ⟨hT _ _ (h.p.asks i hi).tag (by simp), (h.p.asks i hi).cells⟩, fun i hi => ⟨hT _ _ (h.p.gain i hi).tag (by simp), (h.p.gain i hi).cells⟩, fun i hi => ?_, fun k hk => ?_, h.p.off.reF fun b _ hb => hT b _ hb (by simp), ⟨hT _ _ h.p.lost.tag (by simp), h.p.lost.ex⟩⟩
  · have q := h.p.sh i hi
    refine ⟨hT _ _ q.tag (by simp), q.lt, fun k hk => ?_, q.ok⟩
    obtain ⟨v, q1, q2, q3⟩ := q.each k hk
    exact ⟨v, q1, q2, fun g hg => hT g _ (q3 g hg) (by simp; omega)⟩
  · obtain ⟨vs, q1, q2⟩ := (h.p.st i hi).ex
    exact ⟨hT _ _ (h.p.st i hi).tag (by simp), vs, q1, fun j hj => (q2 j hj).mono fun b hb => hT b _ hb (by simp)⟩
  · obtain ⟨gw, gg, gq, cq, q, t1, t2, t3, t4⟩ := (h.p.bk k hk).ex
    exact ⟨gw, gg, gq, cq, q, hT _ _ t1 (by simp), hT _ _ t2 (by simp), hT _ _ t3 (by simp), hT _ _ t4 (by simp)⟩
/-- The beginning. -/
theorem PAt.start {w1 : World} {S B L : Nat} (c : Cfg) (vl vm : Value) (hb : Below w0.heap.size w0 w1) (off : OffAt w1 (fun b => w0.heap.size ≤ b ∧ b ≠ L) S B 0 ⟨[], fun _ _ => 0⟩) (lo : LostMap w1 L 0 fun _ => false) (hL : w0.heap.size ≤ L) :
    ∃ X own, (X.vl = vl ∧ X.vm = vm ∧ X.W = w1.heap.size ∧ X.O = S ∧ X.L = L) ∧ PAt w0 (w1.alloc (.cells #[.int .i64 c.n, vl, .int .i64 c.ticks, vm, .int .i64 c.cap, .slice none 0 0, .slice none 0 0, .pointer (some ⟨S, 0, none⟩), .map (some L)] 95)) c X own 0 0 (.slice none 0 0) (.slice none 0 0) := by
  have hx : Below w1.heap.size w1 (w1.alloc (.cells #[.int .i64 c.n, vl, .int .i64 c.ticks, vm, .int .i64 c.cap, .slice none 0 0, .slice none 0 0, .pointer (some ⟨S, 0, none⟩), .map (some L)] 95)) := (Below.refl _ _).alloc (Nat.le_refl _) _
  have hs : (w1.alloc (.cells #[.int .i64 c.n, vl, .int .i64 c.ticks, vm, .int .i64 c.cap, .slice none 0 0, .slice none 0 0, .pointer (some ⟨S, 0, none⟩), .map (some L)] 95)).heap.size = w1.heap.size + 1 := by simp
  have hL1 := lo.lt
  have hb1 := hb.size
  refine ⟨⟨w1.heap.size, 0, 0, vl, vm, 0, 0, fun _ => 0, fun _ => 0, fun _ => 0, fun _ => 0, fun _ => 0, fun _ => 0, S, B, L⟩, fun b => if b = w1.heap.size then some (.row c.n 0) else if b = L then some .lost else if w0.heap.size ≤ b ∧ b < w1.heap.size then some .off else none, ⟨rfl, rfl, rfl, rfl, rfl⟩, ⟨fun b hn => ?_, fun b hn => ?_, hb.trans (hx.mono hb.size), by simp, heap_alloc_new _ _, World.ownsRow_nil _ _ _ _, (fun g hg => by cases hg), World.ownsRow_nil _ _ _ _, (fun g hg => by cases hg), ⟨fun i hi => absurd hi (Nat.not_lt_zero i), fun i hi => absurd hi (Nat.not_lt_zero i), fun i hi => absurd hi (Nat.not_lt_zero i), fun i hi => absurd hi (Nat.not_lt_zero i), fun i hi => absurd hi (Nat.not_lt_zero i), fun i hi => absurd hi (Nat.not_lt_zero i), fun i hi => absurd hi (Nat.not_lt_zero i), ?_, ⟨?_, 0, lo.kept (hx.block _ lo.lt), Nat.le_refl _⟩⟩⟩⟩
  · rw [hs]
    by_cases e1 : b = w1.heap.size
    · omega
    · rw [if_neg e1] at hn
      by_cases e2 : b = L
      · omega
      · rw [if_neg e2] at hn
        by_cases e3 : w0.heap.size ≤ b ∧ b < w1.heap.size
        · omega
        · rw [if_neg e3] at hn; exact absurd rfl hn
  · by_cases e1 : b = w1.heap.size
    · omega
    · rw [if_neg e1] at hn
      by_cases e2 : b = L
      · omega
      · rw [if_neg e2] at hn
        by_cases e3 : w0.heap.size ≤ b ∧ b < w1.heap.size
        · omega
        · rw [if_neg e3] at hn; exact absurd rfl hn
  · have q := off.reF (G := fun b => (if b = w1.heap.size then some (Tag.row c.n 0) else if b = L then some .lost else if w0.heap.size ≤ b ∧ b < w1.heap.size then some .off else none) = some .off) fun b hlt hF => by
      rw [if_neg (by omega), if_neg hF.2, if_pos ⟨hF.1, hlt⟩]
    exact q.on hx
  · simp only
    rw [if_neg (by omega)]; simp
end
end Go.Proofs.YtjdedflfdlhkdaaGreatDoor
