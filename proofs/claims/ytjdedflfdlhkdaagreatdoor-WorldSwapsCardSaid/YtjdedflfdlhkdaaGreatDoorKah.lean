/- Texts that the claim imports, laid together: FrmG WMod HoldM HoldN HoldO WHoldN WHoldP. No statement of their own. -/
import Derived.Deep.RegionLaw
import Derived.Shelf.Abstract
import Derived.Lib.Hide
import Derived.Deep.RegionHeld3
import Derived.Test.YtjdedflfdlhkdaaGreatDoorKaa
import Derived.Test.YtjdedflfdlhkdaaGreatDoorKab
import Derived.Test.YtjdedflfdlhkdaaGreatDoorKad
import Derived.Test.YtjdedflfdlhkdaaGreatDoorKae
import Derived.Test.YtjdedflfdlhkdaaGreatDoorKaf
import Derived.Test.YtjdedflfdlhkdaaGreatDoorKag
namespace Go.Proofs.YtjdedflfdlhkdaaGreatDoor
open Go.ChangeShapes Go.WideShapes Go.ChangeAt Go.RowKit
set_option linter.unusedVariables false
set_option linter.unusedSimpArgs false

theorem rumF_fst (labs : List Nat) (f t : Nat) (l : Nat → List Ent) : (rumF labs f t l).map (·.1) = List.replicate ((shr labs f t labs.length).length * 8) 34 := by
  unfold rumF
  generalize shr labs f t labs.length = ix
  induction ix with
  | nil => rfl
  | cons a s ih =>
    rw [List.flatMap_cons, List.map_append, ih, List.length_cons, show (s.length + 1) * 8 = 8 + s.length * 8 by omega, ← List.replicate_append_replicate]
    rfl
theorem rumF_len (labs : List Nat) (f t : Nat) (l : Nat → List Ent) : (rumF labs f t l).length = (shr labs f t labs.length).length * 8 := by
  unfold rumF; rw [flat8]
theorem rumF_at (labs : List Nat) (f t : Nat) (l : Nat → List Ent) (a r : Nat) (ha : a < (shr labs f t labs.length).length) (hr : r < 8) : ((rumF labs f t l).map (·.2))[a * 8 + r]? = some (slotAt (l (shr labs f t labs.length)[a]) r) := by
  unfold rumF
  generalize shr labs f t labs.length = ix at *
  induction ix generalizing a with
  | nil => simp at ha
  | cons b s ih =>
    rw [List.flatMap_cons, List.map_append]
    cases a with
    | zero =>
      rw [List.getElem?_append_left (by rw [List.length_map, slotsOf_length]; omega)]
      simp [slotsOf, hr]
    | succ a =>
      rw [List.getElem?_append_right (by rw [List.length_map, slotsOf_length]; omega), List.length_map, slotsOf_length, show (a + 1) * 8 + r - 8 = a * 8 + r by omega, ih a (by simpa using ha)]
      rfl
/-- What is heard of a rumour. -/
def heardL (labs : List Nat) (f t : Nat) (l : Nat → List Ent) (j : Nat) : List Ent := if j < labs.length ∧ lb labs j f = true ∧ lb labs j t = true then l j else []
theorem heardP_heardL (labs : List Nat) (f t : Nat) (l : Nat → List Ent) (j : Nat) : heardP (shr labs f t labs.length) l (shr labs f t labs.length).length 0 j = heardL labs f t l j := by
  rw [heardP_end]
  unfold heardL
  by_cases h : j ∈ shr labs f t labs.length
  · rw [if_pos h, if_pos ((shr_mem _ _ _ _ _).1 h)]
  · rw [if_neg h, if_neg (fun hh => h ((shr_mem _ _ _ _ _).2 hh))]
theorem hp_next {ix : List Nat} {l : Nat → List Ent} (hs : ix.Pairwise (· < ·)) (h : ∀ i ∈ ix, EightL (l i)) (a r : Nat) (ha : a < ix.length) (hr : r < 8) :
    ∃ a' r', a' * 8 + r' = a * 8 + r + 1 ∧ a' ≤ ix.length ∧ r' < 8 ∧ (a' = ix.length → r' = 0) ∧ (∀ j, heardP ix l a' r' j = heardP ix l a (r + 1) j) ∧ (0 < r' → ix[a']? = some ix[a]) := by
  by_cases e : r + 1 < 8
  · exact ⟨a, r + 1, by omega, by omega, e, fun h => by omega, fun _ => rfl, fun _ => List.getElem?_eq_getElem ha⟩
  · obtain rfl : r = 7 := by omega
    exact ⟨a + 1, 0, by omega, by omega, by omega, fun _ => rfl, fun j => (heardP_next hs h a ha j).symm, fun h => absurd h (by omega)⟩
theorem heardP_cur {ix : List Nat} {l : Nat → List Ent} (hs : ix.Pairwise (· < ·)) (a r : Nat) (ha : a < ix.length) : heardP ix l a r ix[a] = upTo (l ix[a]) r := by
  unfold heardP; rw [if_neg (idx_notin hs a ha), List.getElem?_eq_getElem ha, if_pos rfl]
theorem own_lt {w : World} {B e sz n : Nat} {v : Value} {xs : List Value} (h : w.ownsRow B e sz v n xs) : ∀ g, v.ownBlock = some g → g < w.heap.size := fun g hg => by
  obtain ⟨hl, h⟩ := h
  rcases h with ⟨rfl, _⟩ | ⟨g', cap, cur, rfl, _, hh, _⟩
  · cases hg
  · simp only [Value.ownBlock, Option.some.injEq] at hg
    subst hg
    exact (Array.getElem?_eq_some_iff.1 hh).1
theorem cell_grown {w w' : World} {o : Option Nat} {b i : Nat} {u : Value} (h : w.grownBy w' o) (hb : b < w.heap.size) (hne : some b ≠ o) (z : w.cell? ⟨b, i, none⟩ = some u) : w'.cell? ⟨b, i, none⟩ = some u := by
  rw [World.cell?_of_block (w := w) (a := ⟨b, i, none⟩) (h.block b hb hne)]; exact z
theorem HAt.keep {w X : World} {g B m cur j : Nat} {vs : Nat → Value} {L : Nat → List Ent} (h : HAt w g B m cur vs L) (hj : j < m) (hb : Below B w X) : X.cell? ⟨g, j, none⟩ = some (vs j) ∧ X.frozen? ⟨g, j, none⟩ = false := by
  have hc : X.heap[g]? = some (.cells ((List.range m).map vs).toArray 43 (0, 0)) := by rw [hb.block g h.gB]; exact h.cells
  refine ⟨?_, by simp [World.frozen?, hc]⟩
  rw [cell_of_row X _ _ _ _ _ hc]
  simp [hj]
structure HeardAt (w w' : World) (g m : Nat) (vs : Nat → Value) (L : Nat → List Ent) : Prop where
  cells : w'.heap[g]? = some (.cells ((List.range m).map vs).toArray 43 (0, 0))
  rows : ∀ j, j < m → Has w' 5 (vs j) (L j).length (ents (L j))
  nil : ∀ j, L j = [] → vs j = .slice none 0 0
  new : w.heap.size ≤ g
  hb : Below w.heap.size w w'
  far : ∀ j, j < m → ∀ b o n c, vs j = .slice (some ⟨b, o, none⟩) n c → w.heap.size ≤ b
theorem HeardAt.cell {w w' : World} {g m : Nat} {vs : Nat → Value} {L : Nat → List Ent} (h : HeardAt w w' g m vs L) (j : Nat) (hj : j < m) : w'.cell? ⟨g, j, none⟩ = some (vs j) := by
  rw [cell_of_row w' _ _ _ _ _ h.cells]
  simp [hj]
end Go.Proofs.YtjdedflfdlhkdaaGreatDoor

namespace Go.Proofs.YtjdedflfdlhkdaaGreatDoor
set_option linter.unusedVariables false
set_option linter.unusedSimpArgs false

/-- What stands in a letter: numbers of items; or what its sender had. -/
inductive Msg where
  | nums (l : List Int)
  | rum (st : Nat → List Ent)
structure Let where
  f : Nat
  t : Nat
  m : Msg
def Let.fields (labs : List Nat) (x : Let) : List (Int × Int) := match x.m with
  | .nums l => askF l
  | .rum st => rumF labs x.f x.t st
def Let.enc (labs : List Nat) (x : Let) : List Nat := recB (x.fields labs)
def Let.ltr (labs : List Nat) (x : Let) : Ltr := ⟨x.f, x.t, x.enc labs⟩
/-- A world: shelves, asks, gains of branches and items; entries of branches and labels; books of items; letters, how far each way was opened, which are lost. -/
structure Wld where
  sh : Nat → Nat → Shf
  asks : Nat → Nat → Int
  gain : Nat → Nat → Int
  st : Nat → Nat → List Ent
  bk : Nat → Bk
  ls : List Let
  op : Int → Int → Int
  lost : Nat → Bool
def upd2 {α : Type} (f : Nat → Nat → α) (i k : Nat) (v : α) : Nat → Nat → α := fun x y => if x = i ∧ y = k then v else f x y
theorem upd2_same {α : Type} (f : Nat → Nat → α) (i k : Nat) (v : α) : upd2 f i k v i k = v := by simp [upd2]
theorem upd2_ne {α : Type} (f : Nat → Nat → α) {i k x y : Nat} (v : α) (h : ¬ (x = i ∧ y = k)) : upd2 f i k v x y = f x y := by simp only [upd2, if_neg h]
def Cfg.items (c : Cfg) : Nat := c.minted.length
def wld0 (c : Cfg) : Wld := ⟨fun _ _ => shf0, fun _ _ => 0, fun _ _ => 0, fun _ _ => [], fun k => (Bk.new c.n c.cap c.ticks).stock (c.minted.getD k 0), [], fun _ _ => 0, fun _ => false⟩
/-- A step. -/
structure Stp where
  kind : Int
  who : Int
  item : Int
  count : Int
  life : Int
  id : Int
  label : Int
  key : Int
structure Env where
  id : Nat
  f : Nat
  t : Nat
  size : Nat
/-- What a step comes to. -/
structure Tld where
  code : Int
  who : Int
  stk : Stk
  value : Int
  sent : List Env
  frame : List Nat
  report : List Int
def stk0 : Stk := ⟨0, 0, 0, 0, 0⟩
def noT (e : Int) : Tld := ⟨e, 0, stk0, 0, [], [], []⟩
def Wld.from' (s : Wld) (i : Nat) : Nat := (s.ls.map (·.f)).getD i 0
def Wld.to' (s : Wld) (i : Nat) : Nat := (s.ls.map (·.t)).getD i 0
def Wld.old (s : Wld) (i : Nat) : Bool := decide ((i : Int) < s.op (s.from' i) (s.to' i))
/-- May a frame still come? -/
def Wld.due (s : Wld) (id : Int) : Int := if id < 0 ∨ (s.ls.length : Int) ≤ id then 6 else if s.lost id.toNat = true ∨ s.old id.toNat = true then 10 else 0
/-- What a branch was given in all. -/
def Wld.gains (s : Wld) (i : Nat) (l : List Int) : Wld :=
  { s with
    sh := fun x k => if x = i ∧ k < l.length ∧ s.gain i k < l.getD k 0 then (s.sh i k).next ⟨1, l.getD k 0 - s.gain i k, 0, 0⟩ else s.sh x k
    gain := fun x k => if x = i ∧ k < l.length ∧ s.gain i k < l.getD k 0 then l.getD k 0 else s.gain x k }
def Wld.wants (s : Wld) (who : Nat) (l : List Int) : Wld :=
  { s with bk := fun k => if k < l.length then (s.bk k).want who (l.getD k 0) else s.bk k }
def Wld.learns (s : Wld) (i : Nat) (L : Nat → List Ent) : Wld := { s with st := updF s.st i fun j => mergeL (s.st i j) (L j) }
/-- A letter comes. -/
def Wld.comes (c : Cfg) (s : Wld) (x : Let) : Wld := match x.m with
  | .nums l => if x.t = c.n then s.wants x.f l else s.gains x.t l
  | .rum st => s.learns x.t (heardL c.labs x.f x.t st)
def Wld.opens (s : Wld) (i : Nat) : Wld := { s with op := updW s.op (s.from' i) (s.to' i) (i + 1) }
def Wld.deliver (c : Cfg) (s : Wld) (id : Int) : Tld × Wld :=
  if s.due id = 6 then (noT 6, s)
  else if s.due id = 10 then ({ noT 10 with who := s.to' id.toNat }, s)
  else match s.ls[id.toNat]? with
    | none => (noT 6, s)
    | some x => ({ noT 0 with who := x.t, frame := x.enc c.labs }, (s.opens id.toNat).comes c x)
def Wld.lose (s : Wld) (id : Int) : Tld × Wld := if s.due id = 0 then (noT 0, { s with lost := updF s.lost id.toNat true }) else (noT (s.due id), s)
/-- The letters of a tick. -/
def askMsg (c : Cfg) (s : Wld) (i : Nat) : Let := ⟨i, c.n, .nums ((List.range c.items).map (s.asks i))⟩
def rumMsg (s : Wld) (i j : Nat) : Let := ⟨i, j, .rum (s.st i)⟩
def rowMsg (c : Cfg) (s : Wld) (i : Nat) : List Let := askMsg c s i :: ((List.range c.n).filter (· ≠ i)).map (rumMsg s i)
def giveMsg (c : Cfg) (s : Wld) (i : Nat) : Let := ⟨c.n, i, .nums ((List.range c.items).map fun k => ((s.bk k).rounded.granted.getD i 0))⟩
def tickMsgs (c : Cfg) (s : Wld) : List Let := (List.range c.n).flatMap (rowMsg c s) ++ (List.range c.n).map (giveMsg c s)
def Let.env (labs : List Nat) (id : Nat) (x : Let) : Env := ⟨id, x.f, x.t, recSize (x.fields labs)⟩
def envs (labs : List Nat) (n0 : Nat) (l : List Let) : List Env := (List.range l.length).zipWith (fun i x => x.env labs (n0 + i)) l
def reportsOf (c : Cfg) (s : Wld) : List Int := ((List.range c.items).map fun k => (s.bk k).report).filter (fun r => decide (0 ≤ r))
def Wld.ticked (c : Cfg) (s : Wld) : Wld :=
  { s with
    sh := fun i k => (s.sh i k).ticked
    bk := fun k => (s.bk k).rounded
    ls := s.ls ++ tickMsgs c s }
def Wld.tick (c : Cfg) (s : Wld) : Tld × Wld := ({ noT 0 with sent := envs c.labs s.ls.length (tickMsgs c s), report := reportsOf c s }, s.ticked c)
def Wld.entry (c : Cfg) (s : Wld) (i : Nat) (p : Stp) : Tld × Wld :=
  if p.label < 0 ∨ (c.labs.length : Int) ≤ p.label ∨ p.key < 0 ∨ 8 ≤ p.key ∨ (p.kind = 7 ∧ (p.count < 0 ∨ 255 < p.count)) then (noT 2, s)
  else if lb c.labs p.label.toNat i = false then (noT 11, s)
  else if p.kind = 7 then (noT 0, { s with st := upd2 s.st i p.label.toNat (mergeL (s.st i p.label.toNat) [⟨p.key, p.count, maxT (s.st i p.label.toNat) + 1, i, false⟩]) })
  else if liveK (s.st i p.label.toNat) p.key = true then ({ noT 0 with value := valK (s.st i p.label.toNat) p.key }, s)
  else (noT 6, s)
def Wld.client (c : Cfg) (s : Wld) (i : Nat) (p : Stp) : Tld × Wld :=
  if p.kind = 7 ∨ p.kind = 8 then s.entry c i p
  else if p.item < 0 ∨ (c.items : Int) ≤ p.item then (noT 2, s)
  else if p.kind = 1 then
    if p.count < 1 ∨ 1048576 < p.count then (noT 2, s)
    else if 1048576 < s.asks i p.item.toNat + p.count then (noT 12, s)
    else (noT 0, { s with asks := upd2 s.asks i p.item.toNat (s.asks i p.item.toNat + p.count) })
  else
    let o : Ord := ⟨p.kind, p.count, p.life, p.id⟩
    let x := (s.sh i p.item.toNat).out o
    ({ noT x.code with stk := { x with code := 0 } }, { s with sh := upd2 s.sh i p.item.toNat ((s.sh i p.item.toNat).next o) })
def Wld.step (c : Cfg) (s : Wld) (p : Stp) : Tld × Wld :=
  if p.kind = 9 then s.tick c
  else if p.kind = 10 then s.deliver c p.id
  else if p.kind = 11 then s.lose p.id
  else if p.kind < 1 ∨ 11 < p.kind then (noT 3, s)
  else if p.who < 0 ∨ (c.n : Int) ≤ p.who then (noT 2, s)
  else ({ (s.client c p.who.toNat p).1 with who := p.who }, (s.client c p.who.toNat p).2)
def wStep (c : Cfg) (a : Wld × List Tld) (p : Stp) : Wld × List Tld := ((a.1.step c p).2, a.2 ++ [(a.1.step c p).1])
def wFold (c : Cfg) (l : List Stp) : Wld × List Tld := l.foldl (wStep c) (wld0 c, [])
end Go.Proofs.YtjdedflfdlhkdaaGreatDoor

namespace Go.Proofs.YtjdedflfdlhkdaaGreatDoor
open Go.ChangeShapes Go.WideShapes Go.ChangeAt Go.RowKit
set_option linter.unusedVariables false
set_option linter.unusedSimpArgs false

def Hd.cells (h : Hd) : List Value := [.int .i64 h.id, .int .i64 h.count, .int .i64 h.life]
theorem Hd.cells_length (h : Hd) : h.cells.length = 3 := rfl
def hcs (l : List Hd) : List Value := l.flatMap Hd.cells
theorem hcs_length (l : List Hd) : (hcs l).length = l.length * 3 := flat_length Hd.cells 3 Hd.cells_length l
theorem hcs_append (l m : List Hd) : hcs (l ++ m) = hcs l ++ hcs m := by simp [hcs]
theorem hcs_take : ∀ (l : List Hd) (k : Nat), (hcs l).take (k * 3) = hcs (l.take k)
  | [], k => by simp [hcs]
  | a :: t, 0 => by simp [hcs]
  | a :: t, k + 1 => by
    have ih := hcs_take t k
    rw [List.take_succ_cons]
    show ((Hd.cells a) ++ hcs t).take ((k + 1) * 3) = Hd.cells a ++ hcs (t.take k)
    rw [List.take_append, Hd.cells_length, show (k + 1) * 3 - 3 = k * 3 by omega, ih, List.take_of_length_le (by rw [Hd.cells_length]; omega)]
theorem hcs_drop : ∀ (l : List Hd) (k : Nat), (hcs l).drop (k * 3) = hcs (l.drop k)
  | [], k => by simp [hcs]
  | a :: t, 0 => by simp [hcs]
  | a :: t, k + 1 => by
    have ih := hcs_drop t k
    rw [List.drop_succ_cons]
    show ((Hd.cells a) ++ hcs t).drop ((k + 1) * 3) = hcs (t.drop k)
    rw [List.drop_append, Hd.cells_length, show (k + 1) * 3 - 3 = k * 3 by omega, ih, List.drop_of_length_le (by rw [Hd.cells_length]; omega), List.nil_append]
theorem hcs_one (l : List Hd) : ∀ u ∈ hcs l, u.oneCell' = true := by
  intro u hu
  simp only [hcs, List.mem_flatMap] at hu
  obtain ⟨p, _, h⟩ := hu
  simp [Hd.cells] at h
  rcases h with rfl | rfl | rfl <;> rfl
section
variable {w : World}
/-- What hold k of a row reads. -/
theorem hd_get {base n : Nat} {v : Value} {l : List Hd} (h : w.ownsRow base 126 3 v n (hcs l)) (k : Nat) (hk : k < l.length) :
    ∃ g cap, v = .slice (some ⟨g, 0, none⟩) n cap ∧ (n ≤ cap ∧ cap ≤ maxLen) ∧ (w.cell? ⟨g, k * 3, none⟩ = some (.int .i64 l[k].id) ∧ w.cell? ⟨g, k * 3 + 1, none⟩ = some (.int .i64 l[k].count) ∧ w.cell? ⟨g, k * 3 + 2, none⟩ = some (.int .i64 l[k].life)) ∧ ∀ j, w.frozen? ⟨g, j, none⟩ = false := by
  have hn : n = l.length := by have := h.1; rw [hcs_length] at this; omega
  obtain ⟨_, _, _, he0, hc1, hc2, _⟩ := Has.of_owns h
  obtain ⟨g, cap, rfl, _, _, hfz, hcc⟩ := owns_some h (by omega)
  simp only [Value.slice.injEq] at he0
  obtain ⟨-, -, rfl⟩ := he0
  refine ⟨g, cap, rfl, ⟨hc1, hc2⟩, ⟨?_, ?_, ?_⟩, hfz⟩
  · have := hcc (k * 3 + 0) (.int .i64 l[k].id) (by unfold hcs; rw [flat_get Hd.cells 3 Hd.cells_length l k hk 0 (by omega)]; rfl)
    rwa [Nat.add_zero] at this
  · exact hcc (k * 3 + 1) (.int .i64 l[k].count) (by unfold hcs; rw [flat_get Hd.cells 3 Hd.cells_length l k hk 1 (by omega)]; rfl)
  · exact hcc (k * 3 + 2) (.int .i64 l[k].life) (by unfold hcs; rw [flat_get Hd.cells 3 Hd.cells_length l k hk 2 (by omega)]; rfl)
end
theorem three_cells {W : World} {b : Nat} {a0 a1 a2 : Value} {e : TypeId} (h : W.heap[b]? = some (.cells #[a0, a1, a2] e (0, 0))) : W.cell? ⟨b, 0, none⟩ = some a0 ∧ W.cell? ⟨b, 1, none⟩ = some a1 ∧ W.cell? ⟨b, 2, none⟩ = some a2 :=
  ⟨by rw [cell_of_row W _ _ _ _ _ h]; rfl, by rw [cell_of_row W _ _ _ _ _ h]; rfl, by rw [cell_of_row W _ _ _ _ _ h]; rfl⟩
/-- One hold of a row is written. -/
theorem hd_set {w : World} {base n g cap : Nat} {l : List Hd} (h : w.ownsRow base 126 3 (.slice (some ⟨g, 0, none⟩) n cap) n (hcs l)) (k : Nat) (hk : k < l.length) (x : Hd) :
    (w.setCells g (k * 3) x.cells).ownsRow base 126 3 (.slice (some ⟨g, 0, none⟩) n cap) n (hcs (l.set k x)) := by
  have hn : n = l.length := by have := h.1; rw [hcs_length] at this; omega
  have := owns_write h (k * 3) x.cells (by rw [Hd.cells_length]; omega)
  rw [Hd.cells_length, show k * 3 + 3 = (k + 1) * 3 by omega, hcs_take, hcs_drop] at this
  rw [set_split l k x hk, hcs_append, hcs_append, show hcs [x] = x.cells by simp [hcs]]
  exact this
theorem elHold : Elem Tryz.prog 126 3 24 (.agg #[.int .i64 0, .int .i64 0, .int .i64 0]) := .of (by kernel_rfl) rfl (by decide)
theorem zeroHold (w : World) : (zeroValue 126).run Tryz.prog w = .ok (.agg #[.int .i64 0, .int .i64 0, .int .i64 0]) w := by kernel_rfl
/-- 'clear' of holds. -/
theorem run_clear_hold {w : World} {base n g cap : Nat} {xs : List Value} (h : w.ownsRow base 126 3 (.slice (some ⟨g, 0, none⟩) n cap) n xs) (i : Nat) (hi : i < n) (cc : Nat) :
    ∃ zs : List Value, zs.length = (n - i) * 3 ∧ ∀ ty, (Builtin.clear_ #[104] ty #[.slice (some ⟨g, i * 3, none⟩) (n - i) cc]).run Tryz.prog w = .ok (.tuple #[]) (w.setCells g (i * 3) zs) := by
  refine ⟨(Builtin.zeroCells #[.int .i64 0, .int .i64 0, .int .i64 0] (n - i)).toList, by simp [Builtin.zeroCells], fun ty => ?_⟩
  obtain ⟨hl, h⟩ := h
  rcases h with ⟨h, _⟩ | ⟨g', cap', cur, he, hg, hh, hn, hm, hs, ht⟩
  · cases h
  simp only [Value.slice.injEq, Option.some.injEq, Addr.mk.injEq, and_true, true_and] at he
  obtain ⟨rfl, rfl⟩ := he
  have hlen : (Builtin.zeroCells #[.int .i64 0, .int .i64 0, .int .i64 0] (n - i)).toList.length = (n - i) * 3 := by simp [Builtin.zeroCells]
  have hst := run_storeCells_cells (P := Tryz.prog) g (i * 3) (Builtin.zeroCells #[.int .i64 0, .int .i64 0, .int .i64 0] (n - i)).toList 0 w
    (fun j hj => by
      rw [hlen] at hj
      rw [cell_of_row w g _ cur _ _ hh, Nat.add_zero]
      have : i * 3 + j < cur.size := by omega
      simp [this])
    (fun j hj => by simp [World.frozen?, hh])
    (fun v hv => by
      simp only [Builtin.zeroCells, Array.toList_map, List.mem_map] at hv
      obtain ⟨j, -, rfl⟩ := hv
      have : j % 3 = 0 ∨ j % 3 = 1 ∨ j % 3 = 2 := by omega
      simp only [List.size_toArray, List.length_cons, List.length_nil]
      rcases this with e | e | e <;> (rw [show j % (0 + 1 + 1 + 1) = j % 3 from rfl, e]; rfl))
  rw [Nat.add_zero] at hst
  obtain ⟨m, hm'⟩ : ∃ m, n - i = m + 1 := ⟨n - i - 1, by omega⟩
  rw [hm'] at hst ⊢
  simp [Builtin.clear_, run_underlying Tryz.underlying104, zeroHold, Value.cells, hst]
def ixOf (p : Hd → Bool) (l : List Hd) : Int := match l.findIdx? p with | some i => (i : Int) | none => -1
theorem ixOf_some {p : Hd → Bool} {l : List Hd} {i : Nat} (h : l.findIdx? p = some i) : ixOf p l = i := by unfold ixOf; rw [h]
theorem ixOf_none {p : Hd → Bool} {l : List Hd} (h : l.findIdx? p = none) : ixOf p l = -1 := by unfold ixOf; rw [h]
set_option maxRecDepth 100000 in
set_option maxHeartbeats 2000000 in
/-- The library's IndexFunc. -/
theorem cIndexFunc {w : World} {base : Nat} {v : Value} {l : List Hd} (p : Hd → Bool) (g : Nat) (lb : Array Value) (eg : ∀ args w, (callFunc g args).run Tryz.prog w = .ok (.enter g args) w)
    (hp : ∀ (X : World) (x : Hd), Below w.heap.size w X → Calls Tryz.prog g (#[.agg #[.int .i64 x.id, .int .i64 x.count, .int .i64 x.life]] ++ lb) X fun e w' => e = .returned (.bool (p x)) ∧ Below X.heap.size X w')
    (h : w.ownsRow base 126 3 v l.length (hcs l)) :
    Calls Tryz.prog 111 #[v, .func (.func g) #[] lb] w fun e w' => e = .returned (.int .i64 (ixOf p l)) ∧ Below w.heap.size w w' := by
  have H := Lib.hid h
  have HP := Lib.hid hp
  obtain ⟨a, cap, rfl⟩ := owns_slice h
  have hbig : l.length ≤ 9223372036854775807 := by
    obtain ⟨_, _, _, he, h1, h2, _⟩ := Has.of_owns h
    unfold maxLen at h2; omega
  clear h hp
  go_enter Tryz.func111, Tryz.ntmps111
  go_wp2_with fail
  go_loopw [5, 8] (fun _ i wr => ∃ k : Nat, k ≤ l.length ∧ i = .int .i64 k ∧ Below w.heap.size w wr ∧ Hid (∀ j (hj : j < l.length), j < k → p l[j] = false)) (fun _ i _ => l.length - (intOf i).toNat)
  case atStart => exact ⟨0, by omega, rfl, Below.refl _ _, fun j _ h => absurd h (by omega)⟩
  case round =>
    obtain ⟨k, hk, rfl, hb, hall⟩ := hrel
    have HB := Lib.hid hb
    by_cases hlt : k < l.length
    · obtain ⟨gg, cap', he, ⟨c1, c2⟩, ⟨x0, x1, x2⟩, -⟩ := hd_get H.out k hlt
      simp only [Value.slice.injEq] at he
      obtain ⟨rfl, -, rfl⟩ := he
      replace x0 := cell_on hb x0
      replace x1 := cell_on hb x1
      replace x2 := cell_on hb x2
      have CC := Lib.hid (HP.out wr l[k] hb)
      have hltz : (k : Int) < (l.length : Int) := by omega
      unfold maxLen at c2
      obtain ⟨y, hy⟩ : ∃ y, Hid (y = l[k]) := ⟨l[k], (rfl : l[k] = l[k])⟩
      rw [← hy.out] at x0 x1 x2 CC
      clear hb
      cases hq : p y with
      | true =>
        rw [hq] at CC
        go_wp2_with (go_at_fn g; refine CC.out.mono ?_; rintro e w' ⟨rfl, hb'⟩)
        go_ret
        refine ⟨?_, HB.out.trans (hb'.mono HB.out.size)⟩
        have : l.findIdx? p = some k := List.findIdx?_eq_some_iff_getElem.2 ⟨hlt, by rw [← hy.out]; exact hq, fun j hj => by rw [hall.out j (by omega) hj]; simp⟩
        rw [ixOf_some this]; rfl
      | false =>
        rw [hq] at CC
        go_wp2_with (go_at_fn g; refine CC.out.mono ?_; rintro e w' ⟨rfl, hb'⟩)
        go_roundw
        case rel =>
          refine ⟨k + 1, by omega, by go_num, HB.out.trans (hb'.mono HB.out.size), fun j hj hjk => ?_⟩
          by_cases ejk : j = k
          · subst ejk; rw [← hy.out]; exact hq
          · exact hall.out j hj (by omega)
        case measure => simp [intOf]; omega
    · obtain rfl : k = l.length := by omega
      clear hb
      go_wp2
      go_ret
      refine ⟨?_, HB.out⟩
      have : l.findIdx? p = none := List.findIdx?_eq_none_iff.2 fun x hx => by
        obtain ⟨j, hj, rfl⟩ := List.mem_iff_getElem.1 hx
        exact hall.out j hj hj
      rw [ixOf_none this]; rfl
end Go.Proofs.YtjdedflfdlhkdaaGreatDoor

namespace Go.Proofs.YtjdedflfdlhkdaaGreatDoor
open Go.ChangeShapes Go.WideShapes Go.ChangeAt Go.RowKit
set_option linter.unusedVariables false
set_option linter.unusedSimpArgs false

/-- What a row holds behind j of its elements: the kept ones in front, the others as they were. -/
structure Kept (p : Hd → Bool) (l lst : List Hd) (i j : Nat) : Prop where
  len : lst.length = l.length
  lt : i < j
  le : j ≤ l.length
  front : lst.take i = (l.take j).filter (fun x => !p x)
  back : lst.drop j = l.drop j
theorem Kept.get {p : Hd → Bool} {l lst : List Hd} {i j : Nat} (h : Kept p l lst i j) (hj : j < l.length) (hj' : j < lst.length) : lst[j] = l[j] := by
  have := congrArg (fun x => x[0]?) h.back
  simp only [List.getElem?_drop, Nat.add_zero] at this
  rw [List.getElem?_eq_getElem hj, List.getElem?_eq_getElem hj'] at this
  simpa using this
theorem Kept.skip {p : Hd → Bool} {l lst : List Hd} {i j : Nat} (h : Kept p l lst i j) (hj : j < l.length) (hp : p l[j] = true) : Kept p l lst i (j + 1) :=
  ⟨h.len, by have := h.lt; omega, by omega, by rw [h.front, take_snoc l j hj, List.filter_append]; simp [hp], by
    have := congrArg (fun x => x.drop 1) h.back
    simpa [List.drop_drop] using this⟩
theorem Kept.keep {p : Hd → Bool} {l lst : List Hd} {i j : Nat} (h : Kept p l lst i j) (hj : j < l.length) (hp : p l[j] = false) : Kept p l (lst.set i l[j]) (i + 1) (j + 1) := by
  have hlt := h.lt
  have hl := h.len
  refine ⟨by simp [h.len], by omega, by omega, ?_, ?_⟩
  · rw [take_snoc l j hj, List.filter_append, ← h.front, set_split _ _ _ (by omega), List.take_append_of_le_length (by simp; omega), List.take_of_length_le (by simp; omega)]
    simp [hp]
  · have := congrArg (fun x => x.drop 1) h.back
    rw [List.drop_set_of_lt (by omega)]
    simpa [List.drop_drop] using this
theorem Kept.start {p : Hd → Bool} {l : List Hd} {i : Nat} (hi : l.findIdx? p = some i) : Kept p l l i (i + 1) := by
  obtain ⟨h1, h2, h3⟩ := List.findIdx?_eq_some_iff_getElem.1 hi
  refine ⟨rfl, by omega, by omega, ?_, rfl⟩
  rw [take_snoc l i h1, List.filter_append]
  simp only [h2, List.filter_cons, List.filter_nil, Bool.not_true, Bool.false_eq_true, if_false, List.append_nil]
  rw [List.filter_eq_self.2]
  intro x hx
  obtain ⟨j, hj, rfl⟩ := List.mem_iff_getElem.1 hx
  simp only [List.length_take] at hj
  rw [List.getElem_take]
  have := h3 j (by omega)
  simpa using this
theorem none_over {p : Hd → Bool} {l : List Hd} (h : l.findIdx? p = none) : l.filter (fun x => !p x) = l := by
  rw [List.filter_eq_self]
  intro x hx
  have := List.findIdx?_eq_none_iff.1 h x hx
  simp [this]
theorem Kept.count {p : Hd → Bool} {l lst : List Hd} {i : Nat} (h : Kept p l lst i l.length) : (l.filter (fun x => !p x)).length = i := by
  have := congrArg List.length h.front
  rw [List.take_of_length_le (Nat.le_refl l.length)] at this
  rw [← this, List.length_take]
  have := h.lt
  have := h.len
  omega
/-- Behind the loop and the clearing. -/
theorem Kept.done {p : Hd → Bool} {l lst : List Hd} {i base g cap : Nat} {w : World} (h : Kept p l lst i l.length) (hown : w.ownsRow base 126 3 (.slice (some ⟨g, 0, none⟩) l.length cap) l.length (hcs lst)) (zs : List Value) (hz : zs.length = (l.length - i) * 3) :
    (w.setCells g (i * 3) zs).ownsRow base 126 3 (.slice (some ⟨g, 0, none⟩) i cap) (l.filter (fun x => !p x)).length (hcs (l.filter (fun x => !p x))) := by
  have hlt := h.lt
  have hl := h.len
  have h1 := owns_write hown (i * 3) zs (by rw [hz]; omega)
  have h2 := owns_cut h1 (show i ≤ l.length by omega)
  rw [h.count]
  have e : ((hcs lst).take (i * 3) ++ zs ++ (hcs lst).drop (i * 3 + zs.length)).take (i * 3) = hcs (l.filter (fun x => !p x)) := by
    have e1 : ((hcs lst).take (i * 3)).length = i * 3 := by rw [List.length_take, hcs_length]; omega
    rw [List.append_assoc, List.take_append_of_le_length (by rw [e1]; exact Nat.le_refl _), List.take_of_length_le (by rw [e1]; exact Nat.le_refl _), hcs_take, h.front, List.take_of_length_le (Nat.le_refl _)]
  rw [e] at h2
  exact h2
set_option maxRecDepth 100000 in
set_option maxHeartbeats 4000000 in
theorem cDeleteFunc {w : World} {base : Nat} {v : Value} {l : List Hd} (p : Hd → Bool) (g : Nat) (lb : Array Value) (eg : ∀ args w, (callFunc g args).run Tryz.prog w = .ok (.enter g args) w)
    (hp : ∀ (X : World) (x : Hd), Calls Tryz.prog g (#[.agg #[.int .i64 x.id, .int .i64 x.count, .int .i64 x.life]] ++ lb) X fun e w' => e = .returned (.bool (p x)) ∧ Below X.heap.size X w')
    (h : w.ownsRow base 126 3 v l.length (hcs l)) (hbs : base ≤ w.heap.size) :
    Calls Tryz.prog 95 #[v, .func (.func g) #[] lb] w fun e w' => ∃ v', e = .returned v' ∧ w'.ownsRow base 126 3 v' (l.filter (fun x => !p x)).length (hcs (l.filter (fun x => !p x))) ∧ Below base w w' ∧ Chc [126] w w' := by
  have CI := Lib.hid (cIndexFunc p g lb eg (fun X x _ => hp X x) h)
  have H := Lib.hid h
  have HP := Lib.hid hp
  cases hi : l.findIdx? p with
  | none =>
    rw [ixOf_none hi] at CI
    have hn := Lib.hid (none_over hi)
    obtain ⟨a, cap, rfl⟩ := owns_slice h
    clear h hp hi
    go_enter Tryz.func95, Tryz.ntmps95
    go_wp2_with fail
    refine CI.out.mono ?_
    rintro e w1 ⟨rfl, hb1⟩
    have HB := Lib.hid hb1
    clear hb1 CI
    go_wp2_with fail
    go_ret
    rw [hn.out]
    exact ⟨_, rfl, owns_below H.out HB.out, HB.out.mono hbs, Chc.of_below HB.out⟩
  | some i0 =>
    rw [ixOf_some hi] at CI
    have K0 := Lib.hid (Kept.start hi)
    have hi0 : i0 < l.length := by have := K0.out.le; omega
    obtain ⟨gg, cap, rfl, ⟨c1, c2⟩, -, -⟩ := hd_get h i0 hi0
    have hne : ((i0 : Int) == -1) = false := beq_eq_false_iff_ne.2 (by omega)
    unfold maxLen at c2
    clear h hp hi
    go_enter Tryz.func95, Tryz.ntmps95
    go_wp2_with fail
    refine CI.out.mono ?_
    rintro e w1 ⟨rfl, hb1⟩
    have hO1 := owns_below H.out hb1
    have HO1 := Lib.hid hO1
    have HB1 : Hid (Below base w w1 ∧ Chc [126] w w1) := ⟨hb1.mono hbs, Chc.of_below hb1⟩
    clear hb1 CI hO1 H
    go_wp2_with fail
    go_loopw [5, 6, 7] (fun s5 s6 _ wr => ∃ (i j : Nat) (lst : List Hd), s5 = .int .i64 i ∧ s6 = .int .i64 j ∧ i < j ∧ j ≤ l.length ∧ Hid (Kept p l lst i j) ∧ Hid (wr.ownsRow base 126 3 (.slice (some ⟨gg, 0, none⟩) l.length cap) l.length (hcs lst)) ∧ Hid (Below base w wr ∧ Chc [126] w wr)) (fun _ s6 _ _ => l.length - (intOf s6).toNat)
    case atStart => exact ⟨i0, i0 + 1, l, rfl, by go_num, by omega, by omega, K0, HO1, HB1⟩
    case round =>
      clear HO1 HB1 K0
      obtain ⟨i, j, lst, rfl, rfl, hij, hjl, HK, HO, HB⟩ := hrel
      have hll := HK.out.len
      by_cases hlt : j < l.length
      · have hltz : (j : Int) < (l.length : Int) := by omega
        obtain ⟨g1, cap1, he, -, ⟨x0, x1, x2⟩, -⟩ := hd_get HO.out j (by omega)
        simp only [Value.slice.injEq, Option.some.injEq, Addr.mk.injEq, and_true, true_and] at he
        obtain ⟨rfl, rfl⟩ := he
        obtain ⟨g2, cap2, he, -, ⟨y0, y1, y2⟩, hfz⟩ := hd_get HO.out i (by omega)
        simp only [Value.slice.injEq, Option.some.injEq, Addr.mk.injEq, and_true, true_and] at he
        obtain ⟨rfl, rfl⟩ := he
        have hf0 := hfz (i * 3)
        have hf1 := hfz (i * 3 + 1)
        have hf2 := hfz (i * 3 + 2)
        have hg := World.block_lt_of_cell? wr _ x0
        rw [HK.out.get hlt (by omega)] at x0 x1 x2
        obtain ⟨y, hy⟩ : ∃ y, Hid (y = l[j]) := ⟨l[j], (rfl : l[j] = l[j])⟩
        rw [← hy.out] at x0 x1 x2
        generalize lst[i] = old at y0 y1 y2
        have CC := Lib.hid (fun X => HP.out X y)
        clear hfz
        cases hq : p y with
        | true =>
          rw [hq] at CC
          go_wp2_with (go_at_fn g; refine (CC.out _).mono ?_; rintro e w' ⟨rfl, hb'⟩)
          have hb2 : Below wr.heap.size wr w' := ((by repeat (first | exact Below.refl _ _ | refine Below.drew ?_ | refine Below.alloc ?_ (by first | (simp; done) | (simp; omega)) _ | refine Below.setCell ?_ (by first | (simp; done) | (simp; omega)) _)) : Below wr.heap.size wr (wr.alloc (.cells #[.int .i64 y.id, .int .i64 y.count, .int .i64 y.life] 126))).trans (hb'.mono (by simp))
          go_roundw
          case rel => exact ⟨i, j + 1, lst, rfl, by go_num, by omega, by omega, HK.out.skip hlt (by rw [← hy.out]; exact hq), owns_below HO.out hb2, HB.out.1.trans (hb2.mono (Nat.le_trans hbs HB.out.2.size)), HB.out.2.trans (Chc.of_below hb2)⟩
          case measure => simp [intOf]; omega
        | false =>
          rw [hq] at CC
          go_wp2_with fail
          refine (CC.out _).mono ?_
          rintro e w' ⟨rfl, hb'⟩
          have hb2 : Below wr.heap.size wr w' := ((by repeat (first | exact Below.refl _ _ | refine Below.drew ?_ | refine Below.alloc ?_ (by first | (simp; done) | (simp; omega)) _ | refine Below.setCell ?_ (by first | (simp; done) | (simp; omega)) _)) : Below wr.heap.size wr (wr.alloc (.cells #[.int .i64 y.id, .int .i64 y.count, .int .i64 y.life] 126))).trans (hb'.mono (by simp))
          replace y0 := cell_on hb2 y0
          replace y1 := cell_on hb2 y1
          replace y2 := cell_on hb2 y2
          obtain ⟨_, _, he, -, -, hfz⟩ := hd_get (owns_below HO.out hb2) i (by omega)
          simp only [Value.slice.injEq, Option.some.injEq, Addr.mk.injEq, and_true, true_and] at he
          obtain ⟨rfl, rfl⟩ := he
          have f0 := hfz (i * 3)
          have f1 := hfz (i * 3 + 1)
          have f2 := hfz (i * 3 + 2)
          obtain ⟨z0, z1, z2⟩ := three_cells (heap_alloc_new wr (.cells #[.int .i64 y.id, .int .i64 y.count, .int .i64 y.life] 126))
          replace z0 := cell_on hb' z0
          replace z1 := cell_on hb' z1
          replace z2 := cell_on hb' z2
          have HO2 := Lib.hid (owns_below HO.out hb2)
          have HB2 : Hid (Below base w w' ∧ Chc [126] w w') := ⟨HB.out.1.trans (hb2.mono (Nat.le_trans hbs HB.out.2.size)), HB.out.2.trans (Chc.of_below hb2)⟩
          clear hfz hb' hb2 x0 x1 x2 hf0 hf1 hf2 HB HO CC
          go_wp2_with fail
          go_roundw
          case rel => 
            have hw := owns_chc_write HO2.out (i * 3) y.cells
            refine ⟨i + 1, j + 1, lst.set i y, by go_num, by go_num, by omega, by omega, ?_, hd_set HO2.out i (by omega) y, HB2.out.1.trans hw.2, HB2.out.2.trans hw.1⟩
            have := HK.out.keep hlt (by rw [← hy.out]; exact hq)
            rw [← hy.out] at this
            exact this
          case measure => simp [intOf]; omega
      · obtain rfl : j = l.length := by omega
        obtain ⟨zs, hz, hcl⟩ := run_clear_hold HO.out i (by omega) (cap - i)
        have HK2 := Lib.hid (HK.out.done HO.out zs hz)
        have hw := Lib.hid (owns_chc_write HO.out (i * 3) zs)
        clear hz
        go_wp2_with fail
        go_ret
        exact ⟨_, rfl, HK2.out, HB.out.1.trans hw.out.2, HB.out.2.trans hw.out.1⟩
end Go.Proofs.YtjdedflfdlhkdaaGreatDoor

namespace Go.Proofs.YtjdedflfdlhkdaaGreatDoor
open Go.ChangeShapes Go.WideShapes Go.ChangeAt Go.RowKit
set_option linter.unusedVariables false
set_option linter.unusedSimpArgs false

theorem hcs_erase (l : List Hd) (i : Nat) : hcs (l.eraseIdx i) = (hcs l).take (i * 3) ++ (hcs l).drop ((i + 1) * 3) := by
  rw [hcs_take, hcs_drop, ← hcs_append, List.eraseIdx_eq_take_drop_succ]
/-- Behind the append and the clearing. -/
theorem owns_erased {w : World} {base g cap : Nat} {l : List Hd} (i : Nat) (hi : i < l.length) (h : w.ownsRow base 126 3 (.slice (some ⟨g, 0, none⟩) l.length cap) l.length (hcs l)) :
    ∃ xs, (w.setCells g (i * 3) ((hcs l).drop ((i + 1) * 3))).ownsRow base 126 3 (.slice (some ⟨g, 0, none⟩) l.length cap) l.length xs ∧ xs.take ((l.length - 1) * 3) = hcs (l.eraseIdx i) := by
  have hlen := hcs_length l
  have h1 := owns_write h (i * 3) ((hcs l).drop ((i + 1) * 3)) (by rw [List.length_drop]; omega)
  refine ⟨_, h1, ?_⟩
  have e1 : ((hcs l).take (i * 3) ++ (hcs l).drop ((i + 1) * 3)).length = (l.length - 1) * 3 := by rw [List.length_append, List.length_take, List.length_drop]; omega
  rw [List.take_append_of_le_length (by rw [e1]; exact Nat.le_refl _), List.take_of_length_le (by rw [e1]; exact Nat.le_refl _), hcs_erase]
theorem owns_cleared {w : World} {base g cap n : Nat} {l : List Hd} {xs zs : List Value} (h : w.ownsRow base 126 3 (.slice (some ⟨g, 0, none⟩) n cap) n xs) (hx : xs.take ((n - 1) * 3) = hcs l) (hn : 0 < n) (hz : zs.length = 3) :
    (w.setCells g ((n - 1) * 3) zs).ownsRow base 126 3 (.slice (some ⟨g, 0, none⟩) (n - 1) cap) l.length (hcs l) := by
  have hxl := h.1
  have e2 : l.length = n - 1 := by
    have := congrArg List.length hx
    rw [List.length_take, hcs_length] at this
    omega
  have h1 := owns_cut (owns_write h ((n - 1) * 3) zs (by rw [hz]; omega)) (show n - 1 ≤ n by omega)
  have e1 : (xs.take ((n - 1) * 3)).length = (n - 1) * 3 := by rw [List.length_take]; omega
  rw [List.append_assoc, List.take_append_of_le_length (by rw [e1]; exact Nat.le_refl _), List.take_of_length_le (by rw [e1]; exact Nat.le_refl _), hx] at h1
  rw [e2]; exact h1
set_option maxRecDepth 100000 in
set_option maxHeartbeats 4000000 in
theorem cDelete {w : World} {base : Nat} {v : Value} {l : List Hd} (i : Nat) (hi : i < l.length) (h : w.ownsRow base 126 3 v l.length (hcs l)) :
    Calls Tryz.prog 113 #[v, .int .i64 i, .int .i64 ((i : Int) + 1)] w fun e w' => ∃ v', e = .returned v' ∧ w'.ownsRow base 126 3 v' (l.eraseIdx i).length (hcs (l.eraseIdx i)) ∧ Below base w w' ∧ Chc [126] w w' := by
  obtain ⟨gg, cap, rfl, ⟨c1, c2⟩, -, hfz⟩ := hd_get h i hi
  have hd : w.drew.ownsRow base 126 3 (.slice (some ⟨gg, 0, none⟩) l.length cap) l.length (hcs l) := h
  obtain ⟨xs, hX, hx⟩ := owns_erased i hi hd
  have hXc := owns_chc_write hd (i * 3) ((hcs l).drop ((i + 1) * 3))
  obtain ⟨zs, hz, hcl⟩ := run_clear_hold hX (l.length - 1) (by omega) (cap - (l.length - 1))
  rw [show l.length - (l.length - 1) = 1 by omega] at hz
  have hF := Lib.hid (owns_cleared hX hx (by omega) (by omega))
  have hG := Lib.hid (owns_chc_write hX ((l.length - 1) * 3) zs)
  have hXC := Lib.hid hXc
  have hb0 : Hid (Below w.heap.size w w.drew) := (Below.refl _ _).drew
  obtain ⟨info, hinfo, _, hsz, _, _, _⟩ := elHold
  have hnl : Hid (((hcs l).drop ((i + 1) * 3)).length = (l.length - (i + 1)) * 3) := by
    show _ = _
    rw [List.length_drop, hcs_length]; omega
  have hone : Hid (∀ u ∈ (hcs l).drop ((i + 1) * 3), u.oneCell' = true) := fun u hu => hcs_one l u (List.mem_of_mem_drop hu)
  have hcells : ∀ (j : Nat) (u : Value), (hcs l)[j]? = some u → w.drew.cell? ⟨gg, j, none⟩ = some u := fun j u hu => by
    obtain ⟨_, _, _, _, _, _, hcc⟩ := Has.of_owns h
    obtain ⟨g', cap', he, _, _, _, hcc⟩ := owns_some h (by omega)
    simp only [Value.slice.injEq, Option.some.injEq, Addr.mk.injEq, and_true, true_and] at he
    obtain ⟨rfl, rfl⟩ := he
    exact hcc j u hu
  obtain ⟨A, hA, hsrc⟩ : ∃ A : Addr, (if cap = i + 1 then some (⟨gg, 0, none⟩ : Addr) else some ⟨gg, (i + 1) * 3, none⟩) = some A ∧ Hid (∀ t u, ((hcs l).drop ((i + 1) * 3))[t]? = some u → w.drew.cell? (A.add t) = some u) := by
    by_cases hc : cap = i + 1
    · refine ⟨⟨gg, 0, none⟩, by simp [hc], fun t u hu => ?_⟩
      have h0 := (List.getElem?_eq_some_iff.1 hu).1
      rw [hnl.out] at h0
      omega
    · refine ⟨⟨gg, (i + 1) * 3, none⟩, by simp [hc], fun t u hu => ?_⟩
      rw [List.getElem?_drop] at hu
      rw [Addr.add_lit]
      exact hcells _ u hu
  have hspare : Hid (∀ t, t < ((hcs l).drop ((i + 1) * 3)).length → (w.drew.cell? ⟨gg, 0 + i * 3 + t, none⟩).isSome = true ∧ w.drew.frozen? ⟨gg, 0 + i * 3 + t, none⟩ = false) := fun t ht => by
    rw [hnl.out] at ht
    have : i * 3 + t < (hcs l).length := by rw [hcs_length]; omega
    refine ⟨?_, hfz _⟩
    rw [hcells (0 + i * 3 + t) _ (by rw [Nat.zero_add]; exact List.getElem?_eq_getElem this)]; rfl
  have hic : i ≤ cap := by omega
  have hjc : i + 1 ≤ cap := by omega
  have hjz : (i : Int) + 1 ≤ l.length := by omega
  have hj0 : 0 ≤ (i : Int) + 1 := by omega
  obtain ⟨W1, hW1⟩ : ∃ W1, Hid (W1 = w.drew.setCells gg (0 + i * 3) ((hcs l).drop ((i + 1) * 3))) := ⟨w.drew.setCells gg (0 + i * 3) ((hcs l).drop ((i + 1) * 3)), (rfl : w.drew.setCells gg (0 + i * 3) ((hcs l).drop ((i + 1) * 3)) = w.drew.setCells gg (0 + i * 3) ((hcs l).drop ((i + 1) * 3)))⟩
  have eW : w.drew.setCells gg (i * 3) ((hcs l).drop ((i + 1) * 3)) = W1 := by rw [hW1.out, Nat.zero_add]
  rw [eW] at hF hG hcl hXC
  have hne : ((i : Int) == (i : Int) + 1) = false := by rw [beq_eq_false_iff_ne]; omega
  generalize hnews : (hcs l).drop ((i + 1) * 3) = news at *
  have e9 : i + (l.length - (i + 1)) = l.length - 1 := by omega
  clear hnews h hd hX hx hXc hcells eW hz
  unfold maxLen at c2
  go_enter Tryz.func113, Tryz.ntmps113
  go_wp2_with fail
  go_region_law (refine step_append_room rfl (.tmp 22) (.tmp 25) 104 rfl 126 info 3 Tryz.underlying104 hinfo hsz gg 0 i cap (by simp [Act.eval, Act.put]) A (l.length - (i + 1)) (cap - (i + 1)) news (by simp [Act.eval, Act.put]) hnl.out hsrc.out hone.out (by omega) hspare.out ?_; rw [← hW1.out, e9])
  go_wp2_with fail
  go_ret
  exact ⟨_, rfl, hF.out, ((Below.refl base w).drew.trans hXC.out.2).trans hG.out.2, ((Chc.refl _ w).drew.trans hXC.out.1).trans hG.out.1⟩
end Go.Proofs.YtjdedflfdlhkdaaGreatDoor

namespace Go.Proofs.YtjdedflfdlhkdaaGreatDoor
open Go.ChangeShapes Go.WideShapes Go.ChangeAt Go.RowKit
set_option linter.unusedVariables false
set_option linter.unusedSimpArgs false

theorem owns_wr_write {w : World} {base e sz n g cap : Nat} {xs : List Value} (h : w.ownsRow base e sz (.slice (some ⟨g, 0, none⟩) n cap) n xs) (o : Nat) (vs : List Value) : Chc [e] w (w.setCells g o vs) ∧ Wrote (fun b => b = g) w (w.setCells g o vs) :=
  ⟨(owns_chc_write h o vs).1, Wrote.setCells (F := fun b => b = g) rfl vs o w (Wrote.refl _ _)⟩
set_option maxRecDepth 100000 in
set_option maxHeartbeats 4000000 in
theorem cDeleteFuncW {w : World} {base : Nat} {v : Value} {l : List Hd} (p : Hd → Bool) (g : Nat) (lb : Array Value) (eg : ∀ args w, (callFunc g args).run Tryz.prog w = .ok (.enter g args) w)
    (hp : ∀ (X : World) (x : Hd), Calls Tryz.prog g (#[.agg #[.int .i64 x.id, .int .i64 x.count, .int .i64 x.life]] ++ lb) X fun e w' => e = .returned (.bool (p x)) ∧ Below X.heap.size X w')
    (h : w.ownsRow base 126 3 v l.length (hcs l)) :
    Calls Tryz.prog 95 #[v, .func (.func g) #[] lb] w fun e w' => ∃ v', e = .returned v' ∧ w'.ownsRow base 126 3 v' (l.filter (fun x => !p x)).length (hcs (l.filter (fun x => !p x))) ∧ (∀ b, v'.ownBlock = some b → v.ownBlock = some b) ∧ Wrote (fun b => v.ownBlock = some b) w w' ∧ Chc [126] w w' := by
  have CI := Lib.hid (cIndexFunc p g lb eg (fun X x _ => hp X x) h)
  have H := Lib.hid h
  have HP := Lib.hid hp
  cases hi : l.findIdx? p with
  | none =>
    rw [ixOf_none hi] at CI
    have hn := Lib.hid (none_over hi)
    obtain ⟨a, cap, rfl⟩ := owns_slice h
    clear h hp hi
    go_enter Tryz.func95, Tryz.ntmps95
    go_wp2_with fail
    refine CI.out.mono ?_
    rintro e w1 ⟨rfl, hb1⟩
    have HB := Lib.hid hb1
    clear hb1 CI
    go_wp2_with fail
    go_ret
    rw [hn.out]
    exact ⟨_, rfl, owns_below H.out HB.out, fun b h => h, wof HB.out, Chc.of_below HB.out⟩
  | some i0 =>
    rw [ixOf_some hi] at CI
    have K0 := Lib.hid (Kept.start hi)
    have hi0 : i0 < l.length := by have := K0.out.le; omega
    obtain ⟨gg, cap, rfl, ⟨c1, c2⟩, -, -⟩ := hd_get h i0 hi0
    have hne : ((i0 : Int) == -1) = false := beq_eq_false_iff_ne.2 (by omega)
    unfold maxLen at c2
    clear h hp hi
    go_enter Tryz.func95, Tryz.ntmps95
    go_wp2_with fail
    refine CI.out.mono ?_
    rintro e w1 ⟨rfl, hb1⟩
    have hO1 := owns_below H.out hb1
    have HO1 := Lib.hid hO1
    have HB1 : Hid (Wrote (fun b => b = gg) w w1 ∧ Chc [126] w w1) := ⟨wof hb1, Chc.of_below hb1⟩
    clear hb1 CI hO1 H
    go_wp2_with fail
    go_loopw [5, 6, 7] (fun s5 s6 _ wr => ∃ (i j : Nat) (lst : List Hd), s5 = .int .i64 i ∧ s6 = .int .i64 j ∧ i < j ∧ j ≤ l.length ∧ Hid (Kept p l lst i j) ∧ Hid (wr.ownsRow base 126 3 (.slice (some ⟨gg, 0, none⟩) l.length cap) l.length (hcs lst)) ∧ Hid (Wrote (fun b => b = gg) w wr ∧ Chc [126] w wr)) (fun _ s6 _ _ => l.length - (intOf s6).toNat)
    case atStart => exact ⟨i0, i0 + 1, l, rfl, by go_num, by omega, by omega, K0, HO1, HB1⟩
    case round =>
      clear HO1 HB1 K0
      obtain ⟨i, j, lst, rfl, rfl, hij, hjl, HK, HO, HB⟩ := hrel
      have hll := HK.out.len
      by_cases hlt : j < l.length
      · have hltz : (j : Int) < (l.length : Int) := by omega
        obtain ⟨g1, cap1, he, -, ⟨x0, x1, x2⟩, -⟩ := hd_get HO.out j (by omega)
        simp only [Value.slice.injEq, Option.some.injEq, Addr.mk.injEq, and_true, true_and] at he
        obtain ⟨rfl, rfl⟩ := he
        obtain ⟨g2, cap2, he, -, ⟨y0, y1, y2⟩, hfz⟩ := hd_get HO.out i (by omega)
        simp only [Value.slice.injEq, Option.some.injEq, Addr.mk.injEq, and_true, true_and] at he
        obtain ⟨rfl, rfl⟩ := he
        have hf0 := hfz (i * 3)
        have hf1 := hfz (i * 3 + 1)
        have hf2 := hfz (i * 3 + 2)
        have hg := World.block_lt_of_cell? wr _ x0
        rw [HK.out.get hlt (by omega)] at x0 x1 x2
        obtain ⟨y, hy⟩ : ∃ y, Hid (y = l[j]) := ⟨l[j], (rfl : l[j] = l[j])⟩
        rw [← hy.out] at x0 x1 x2
        generalize lst[i] = old at y0 y1 y2
        have CC := Lib.hid (fun X => HP.out X y)
        clear hfz
        cases hq : p y with
        | true =>
          rw [hq] at CC
          go_wp2_with (go_at_fn g; refine (CC.out _).mono ?_; rintro e w' ⟨rfl, hb'⟩)
          have hb2 : Below wr.heap.size wr w' := ((by repeat (first | exact Below.refl _ _ | refine Below.drew ?_ | refine Below.alloc ?_ (by first | (simp; done) | (simp; omega)) _ | refine Below.setCell ?_ (by first | (simp; done) | (simp; omega)) _)) : Below wr.heap.size wr (wr.alloc (.cells #[.int .i64 y.id, .int .i64 y.count, .int .i64 y.life] 126))).trans (hb'.mono (by simp))
          go_roundw
          case rel => exact ⟨i, j + 1, lst, rfl, by go_num, by omega, by omega, HK.out.skip hlt (by rw [← hy.out]; exact hq), owns_below HO.out hb2, HB.out.1.trans (wof hb2), HB.out.2.trans (Chc.of_below hb2)⟩
          case measure => simp [intOf]; omega
        | false =>
          rw [hq] at CC
          go_wp2_with fail
          refine (CC.out _).mono ?_
          rintro e w' ⟨rfl, hb'⟩
          have hb2 : Below wr.heap.size wr w' := ((by repeat (first | exact Below.refl _ _ | refine Below.drew ?_ | refine Below.alloc ?_ (by first | (simp; done) | (simp; omega)) _ | refine Below.setCell ?_ (by first | (simp; done) | (simp; omega)) _)) : Below wr.heap.size wr (wr.alloc (.cells #[.int .i64 y.id, .int .i64 y.count, .int .i64 y.life] 126))).trans (hb'.mono (by simp))
          replace y0 := cell_on hb2 y0
          replace y1 := cell_on hb2 y1
          replace y2 := cell_on hb2 y2
          obtain ⟨_, _, he, -, -, hfz⟩ := hd_get (owns_below HO.out hb2) i (by omega)
          simp only [Value.slice.injEq, Option.some.injEq, Addr.mk.injEq, and_true, true_and] at he
          obtain ⟨rfl, rfl⟩ := he
          have f0 := hfz (i * 3)
          have f1 := hfz (i * 3 + 1)
          have f2 := hfz (i * 3 + 2)
          obtain ⟨z0, z1, z2⟩ := three_cells (heap_alloc_new wr (.cells #[.int .i64 y.id, .int .i64 y.count, .int .i64 y.life] 126))
          replace z0 := cell_on hb' z0
          replace z1 := cell_on hb' z1
          replace z2 := cell_on hb' z2
          have HO2 := Lib.hid (owns_below HO.out hb2)
          have HB2 : Hid (Wrote (fun b => b = gg) w w' ∧ Chc [126] w w') := ⟨HB.out.1.trans (wof hb2), HB.out.2.trans (Chc.of_below hb2)⟩
          clear hfz hb' hb2 x0 x1 x2 hf0 hf1 hf2 HB HO CC
          go_wp2_with fail
          go_roundw
          case rel => 
            have hw := owns_wr_write HO2.out (i * 3) y.cells
            refine ⟨i + 1, j + 1, lst.set i y, by go_num, by go_num, by omega, by omega, ?_, hd_set HO2.out i (by omega) y, HB2.out.1.trans hw.2, HB2.out.2.trans hw.1⟩
            have := HK.out.keep hlt (by rw [← hy.out]; exact hq)
            rw [← hy.out] at this
            exact this
          case measure => simp [intOf]; omega
      · obtain rfl : j = l.length := by omega
        obtain ⟨zs, hz, hcl⟩ := run_clear_hold HO.out i (by omega) (cap - i)
        have HK2 := Lib.hid (HK.out.done HO.out zs hz)
        have hw := Lib.hid (owns_wr_write HO.out (i * 3) zs)
        clear hz
        go_wp2_with fail
        go_ret
        exact ⟨_, rfl, HK2.out, fun b h => h, (HB.out.1.trans hw.out.2).mono (fun k _ hk => by subst hk; rfl), HB.out.2.trans hw.out.1⟩
set_option maxRecDepth 100000 in
set_option maxHeartbeats 4000000 in
theorem cDeleteW {w : World} {base : Nat} {v : Value} {l : List Hd} (i : Nat) (hi : i < l.length) (h : w.ownsRow base 126 3 v l.length (hcs l)) :
    Calls Tryz.prog 113 #[v, .int .i64 i, .int .i64 ((i : Int) + 1)] w fun e w' => ∃ v', e = .returned v' ∧ w'.ownsRow base 126 3 v' (l.eraseIdx i).length (hcs (l.eraseIdx i)) ∧ (∀ b, v'.ownBlock = some b → v.ownBlock = some b) ∧ Wrote (fun b => v.ownBlock = some b) w w' ∧ Chc [126] w w' := by
  obtain ⟨gg, cap, rfl, ⟨c1, c2⟩, -, hfz⟩ := hd_get h i hi
  have hd : w.drew.ownsRow base 126 3 (.slice (some ⟨gg, 0, none⟩) l.length cap) l.length (hcs l) := h
  obtain ⟨xs, hX, hx⟩ := owns_erased i hi hd
  have hXc := owns_wr_write hd (i * 3) ((hcs l).drop ((i + 1) * 3))
  obtain ⟨zs, hz, hcl⟩ := run_clear_hold hX (l.length - 1) (by omega) (cap - (l.length - 1))
  rw [show l.length - (l.length - 1) = 1 by omega] at hz
  have hF := Lib.hid (owns_cleared hX hx (by omega) (by omega))
  have hG := Lib.hid (owns_wr_write hX ((l.length - 1) * 3) zs)
  have hXC := Lib.hid hXc
  have hb0 : Hid (Below w.heap.size w w.drew) := (Below.refl _ _).drew
  obtain ⟨info, hinfo, _, hsz, _, _, _⟩ := elHold
  have hnl : Hid (((hcs l).drop ((i + 1) * 3)).length = (l.length - (i + 1)) * 3) := by
    show _ = _
    rw [List.length_drop, hcs_length]; omega
  have hone : Hid (∀ u ∈ (hcs l).drop ((i + 1) * 3), u.oneCell' = true) := fun u hu => hcs_one l u (List.mem_of_mem_drop hu)
  have hcells : ∀ (j : Nat) (u : Value), (hcs l)[j]? = some u → w.drew.cell? ⟨gg, j, none⟩ = some u := fun j u hu => by
    obtain ⟨_, _, _, _, _, _, hcc⟩ := Has.of_owns h
    obtain ⟨g', cap', he, _, _, _, hcc⟩ := owns_some h (by omega)
    simp only [Value.slice.injEq, Option.some.injEq, Addr.mk.injEq, and_true, true_and] at he
    obtain ⟨rfl, rfl⟩ := he
    exact hcc j u hu
  obtain ⟨A, hA, hsrc⟩ : ∃ A : Addr, (if cap = i + 1 then some (⟨gg, 0, none⟩ : Addr) else some ⟨gg, (i + 1) * 3, none⟩) = some A ∧ Hid (∀ t u, ((hcs l).drop ((i + 1) * 3))[t]? = some u → w.drew.cell? (A.add t) = some u) := by
    by_cases hc : cap = i + 1
    · refine ⟨⟨gg, 0, none⟩, by simp [hc], fun t u hu => ?_⟩
      have h0 := (List.getElem?_eq_some_iff.1 hu).1
      rw [hnl.out] at h0
      omega
    · refine ⟨⟨gg, (i + 1) * 3, none⟩, by simp [hc], fun t u hu => ?_⟩
      rw [List.getElem?_drop] at hu
      rw [Addr.add_lit]
      exact hcells _ u hu
  have hspare : Hid (∀ t, t < ((hcs l).drop ((i + 1) * 3)).length → (w.drew.cell? ⟨gg, 0 + i * 3 + t, none⟩).isSome = true ∧ w.drew.frozen? ⟨gg, 0 + i * 3 + t, none⟩ = false) := fun t ht => by
    rw [hnl.out] at ht
    have : i * 3 + t < (hcs l).length := by rw [hcs_length]; omega
    refine ⟨?_, hfz _⟩
    rw [hcells (0 + i * 3 + t) _ (by rw [Nat.zero_add]; exact List.getElem?_eq_getElem this)]; rfl
  have hic : i ≤ cap := by omega
  have hjc : i + 1 ≤ cap := by omega
  have hjz : (i : Int) + 1 ≤ l.length := by omega
  have hj0 : 0 ≤ (i : Int) + 1 := by omega
  obtain ⟨W1, hW1⟩ : ∃ W1, Hid (W1 = w.drew.setCells gg (0 + i * 3) ((hcs l).drop ((i + 1) * 3))) := ⟨w.drew.setCells gg (0 + i * 3) ((hcs l).drop ((i + 1) * 3)), (rfl : w.drew.setCells gg (0 + i * 3) ((hcs l).drop ((i + 1) * 3)) = w.drew.setCells gg (0 + i * 3) ((hcs l).drop ((i + 1) * 3)))⟩
  have eW : w.drew.setCells gg (i * 3) ((hcs l).drop ((i + 1) * 3)) = W1 := by rw [hW1.out, Nat.zero_add]
  rw [eW] at hF hG hcl hXC
  have hne : ((i : Int) == (i : Int) + 1) = false := by rw [beq_eq_false_iff_ne]; omega
  generalize hnews : (hcs l).drop ((i + 1) * 3) = news at *
  have e9 : i + (l.length - (i + 1)) = l.length - 1 := by omega
  clear hnews h hd hX hx hXc hcells eW hz
  unfold maxLen at c2
  go_enter Tryz.func113, Tryz.ntmps113
  go_wp2_with fail
  go_region_law (refine step_append_room rfl (.tmp 22) (.tmp 25) 104 rfl 126 info 3 Tryz.underlying104 hinfo hsz gg 0 i cap (by simp [Act.eval, Act.put]) A (l.length - (i + 1)) (cap - (i + 1)) news (by simp [Act.eval, Act.put]) hnl.out hsrc.out hone.out (by omega) hspare.out ?_; rw [← hW1.out, e9])
  go_wp2_with fail
  go_ret
  exact ⟨_, rfl, hF.out, fun b h => h, (((Wrote.refl (fun b => b = gg) w).drew.trans hXC.out.2).trans hG.out.2).mono (fun k _ hk => by subst hk; rfl), ((Chc.refl _ w).drew.trans hXC.out.1).trans hG.out.1⟩
end Go.Proofs.YtjdedflfdlhkdaaGreatDoor

namespace Go.Proofs.YtjdedflfdlhkdaaGreatDoor
open Go.ChangeShapes Go.WideShapes Go.ChangeAt Go.RowKit
set_option linter.unusedVariables false
set_option linter.unusedSimpArgs false

/-- Four cells of block S from o on: a shelf among others. -/
def Slf (w : World) (S o : Nat) (a0 a1 a2 a3 : Value) : Prop :=
  ∃ cs : Array Value, w.heap[S]? = some (.cells cs 106 (0, 0)) ∧ cs[o]? = some a0 ∧ cs[o + 1]? = some a1 ∧ cs[o + 2]? = some a2 ∧ cs[o + 3]? = some a3
/-- Of what was there only blocks of F may have changed, and of S only these four cells. -/
structure ShW (F : Nat → Prop) (S o : Nat) (w w' : World) : Prop where
  wr : Wrote F w w'
  near : ∀ cs : Array Value, w.heap[S]? = some (.cells cs 106 (0, 0)) → ∃ cs' : Array Value, w'.heap[S]? = some (.cells cs' 106 (0, 0)) ∧ cs'.size = cs.size ∧ ∀ j, (j < o ∨ o + 4 ≤ j) → cs'[j]? = cs[j]?
section
variable {w w' : World} {F G : Nat → Prop} {S o : Nat} {a0 a1 a2 a3 : Value}
theorem Slf.lt (h : Slf w S o a0 a1 a2 a3) : S < w.heap.size := by
  obtain ⟨cs, h, _⟩ := h
  exact (Array.getElem?_eq_some_iff.1 h).1
theorem Slf.same (h : Slf w S o a0 a1 a2 a3) (hb : w'.heap[S]? = w.heap[S]?) : Slf w' S o a0 a1 a2 a3 := by
  obtain ⟨cs, h, r⟩ := h
  exact ⟨cs, by rw [hb]; exact h, r⟩
theorem Slf.on (h : Slf w S o a0 a1 a2 a3) (hb : Below w.heap.size w w') : Slf w' S o a0 a1 a2 a3 := h.same (hb.block S h.lt)
theorem Slf.keep {T : List TypeId} (h : Slf w S o a0 a1 a2 a3) (hc : Chc T w w') (he : 106 ∉ T) : Slf w' S o a0 a1 a2 a3 := by
  obtain ⟨cs, h, r⟩ := h
  exact ⟨cs, hc.block _ _ _ _ h he, r⟩
theorem slf_cells (h : Slf w S o a0 a1 a2 a3) : (w.cell? ⟨S, o, none⟩ = some a0 ∧ w.cell? ⟨S, o + 1, none⟩ = some a1 ∧ w.cell? ⟨S, o + 2, none⟩ = some a2 ∧ w.cell? ⟨S, o + 3, none⟩ = some a3) ∧ ∀ j, w.frozen? ⟨S, j, none⟩ = false := by
  obtain ⟨cs, h, h0, h1, h2, h3⟩ := h
  exact ⟨⟨by rw [cell_of_row w _ _ _ _ _ h]; exact h0, by rw [cell_of_row w _ _ _ _ _ h]; exact h1, by rw [cell_of_row w _ _ _ _ _ h]; exact h2, by rw [cell_of_row w _ _ _ _ _ h]; exact h3⟩, fun j => by simp [World.frozen?, h]⟩
theorem set_get (cs : Array Value) (i j : Nat) (x : Value) : (cs.setIfInBounds i x)[j]? = if i = j ∧ i < cs.size then some x else cs[j]? := by
  rw [Array.getElem?_setIfInBounds]
  by_cases e : i = j
  · subst e
    by_cases hl : i < cs.size
    · rw [if_pos rfl, if_pos hl, if_pos ⟨rfl, hl⟩]
    · rw [if_pos rfl, if_neg hl, if_neg (fun h => hl h.2), Array.getElem?_eq_none (by omega)]
  · rw [if_neg e, if_neg (fun h => e h.1)]
/-- A store into the shelf. -/
theorem slf_set (h : Slf w S o a0 a1 a2 a3) (x : Value) :
    Slf (w.setCell ⟨S, o, none⟩ x) S o x a1 a2 a3 ∧ Slf (w.setCell ⟨S, o + 1, none⟩ x) S o a0 x a2 a3 ∧ Slf (w.setCell ⟨S, o + 2, none⟩ x) S o a0 a1 x a3 ∧ Slf (w.setCell ⟨S, o + 3, none⟩ x) S o a0 a1 a2 x := by
  obtain ⟨cs, h, h0, h1, h2, h3⟩ := h
  have l0 := (Array.getElem?_eq_some_iff.1 h0).1
  have l1 := (Array.getElem?_eq_some_iff.1 h1).1
  have l2 := (Array.getElem?_eq_some_iff.1 h2).1
  have l3 := (Array.getElem?_eq_some_iff.1 h3).1
  refine ⟨⟨_, heap_setCell_same w S _ _ _ x h, ?_, ?_, ?_, ?_⟩, ⟨_, heap_setCell_same w S _ _ _ x h, ?_, ?_, ?_, ?_⟩, ⟨_, heap_setCell_same w S _ _ _ x h, ?_, ?_, ?_, ?_⟩, ⟨_, heap_setCell_same w S _ _ _ x h, ?_, ?_, ?_, ?_⟩⟩ <;> rw [set_get] <;>
    first | (rw [if_pos ⟨rfl, by assumption⟩]) | (rw [if_neg (by omega)]; assumption)
theorem slf_chc (h : Slf w S o a0 a1 a2 a3) (j : Nat) (x : Value) : Chc [106] w (w.setCell ⟨S, j, none⟩ x) := by
  obtain ⟨cs, h, r⟩ := h
  exact Chc.setCell (p := ⟨S, j, none⟩) h (by simp) x
theorem ShW.refl (F : Nat → Prop) (S o : Nat) (w : World) : ShW F S o w w := ⟨Wrote.refl _ _, fun cs h => ⟨cs, h, rfl, fun _ _ => rfl⟩⟩
theorem ShW.trans {a b c : World} (h : ShW F S o a b) (k : ShW F S o b c) : ShW F S o a c :=
  ⟨h.wr.trans k.wr, fun cs hc => by
    obtain ⟨c1, q1, q2, q3⟩ := h.near cs hc
    obtain ⟨c2, r1, r2, r3⟩ := k.near c1 q1
    exact ⟨c2, r1, by omega, fun j hj => by rw [r3 j hj, q3 j hj]⟩⟩
theorem ShW.of_wrote (h : Wrote G w w') (hG : ∀ b, G b → F b) (hS : ¬ G S) : ShW F S o w w' :=
  ⟨h.mono fun k _ hk => hG k hk, fun cs hc => ⟨cs, by rw [h.block S (Array.getElem?_eq_some_iff.1 hc).1 hS]; exact hc, rfl, fun _ _ => rfl⟩⟩
theorem ShW.of_below (h : Below w.heap.size w w') : ShW F S o w w' :=
  ShW.of_wrote (G := fun _ => False) (wof h) (fun _ h => h.elim) (fun h => h)
theorem ShW.drew {a : World} (h : ShW F S o a w) : ShW F S o a w.drew := ⟨h.wr.drew, h.near⟩
theorem ShW.setCell {a : World} (h : ShW F S o a w) (hF : F S) (j : Nat) (hj : o ≤ j ∧ j < o + 4) (x : Value) : ShW F S o a (w.setCell ⟨S, j, none⟩ x) :=
  h.trans ⟨(Wrote.refl F w).setCell (p := ⟨S, j, none⟩) hF x, fun cs hc => ⟨_, heap_setCell_same w S j _ _ x hc, by simp, fun i hi => by rw [set_get, if_neg (by omega)]⟩⟩
/-- A row of another type is written. -/
theorem ShW.row {e : TypeId} (h : Wrote G w w') (hG : ∀ b, G b → F b) (he : ∀ b, G b → ∃ cs, w.heap[b]? = some (.cells cs e (0, 0))) (hne : e ≠ 106) : ShW F S o w w' :=
  ⟨h.mono fun k _ hk => hG k hk, fun cs hc => ⟨cs, by
    rw [h.block S (Array.getElem?_eq_some_iff.1 hc).1 (fun hg => by
      obtain ⟨cs', hh⟩ := he S hg
      rw [hc] at hh
      simp only [Option.some.injEq, Obj.cells.injEq] at hh
      exact hne hh.2.1.symm)]; exact hc, rfl, fun _ _ => rfl⟩⟩
theorem ShW.size (h : ShW F S o w w') : w.heap.size ≤ w'.heap.size := h.wr.size
end
/-- A shelf: its cells, its open holds. -/
structure ShfAt (w : World) (F : Nat → Prop) (S o : Nat) (s : Shf) : Prop where
  ex : ∃ v, Slf w S o (.int .i64 s.free) (.int .i64 s.used) (.int .i64 s.made) v ∧ w.ownsRow 0 126 3 v s.hs.length (hcs s.hs) ∧ ∀ g, v.ownBlock = some g → F g
  ok : s.Ok
  lo : F S
section
variable {w w' : World} {F : Nat → Prop} {S o : Nat} {s : Shf}
theorem ShfAt.on (h : ShfAt w F S o s) (hb : Below w.heap.size w w') : ShfAt w' F S o s := by
  obtain ⟨v, h1, h2, h3⟩ := h.ex
  exact ⟨⟨v, h1.on hb, owns_below h2 hb, h3⟩, h.ok, h.lo⟩
theorem ShfAt.chc {T : List TypeId} (h : ShfAt w F S o s) (hc : Chc T w w') (h1 : 106 ∉ T) (h2 : 126 ∉ T) : ShfAt w' F S o s := by
  obtain ⟨v, q1, q2, q3⟩ := h.ex
  exact ⟨⟨v, q1.keep hc h1, owns_chc q2 hc h2, q3⟩, h.ok, h.lo⟩
theorem ShfAt.lt (h : ShfAt w F S o s) : S < w.heap.size := by
  obtain ⟨v, h1, h2⟩ := h.ex
  exact h1.lt
end
theorem four_cells {W : World} {b : Nat} {a0 a1 a2 a3 : Value} {e : TypeId} (h : W.heap[b]? = some (.cells #[a0, a1, a2, a3] e (0, 0))) : (W.cell? ⟨b, 0, none⟩ = some a0 ∧ W.cell? ⟨b, 1, none⟩ = some a1 ∧ W.cell? ⟨b, 2, none⟩ = some a2 ∧ W.cell? ⟨b, 3, none⟩ = some a3) ∧ ∀ j, W.frozen? ⟨b, j, none⟩ = false :=
  ⟨⟨by rw [cell_of_row W _ _ _ _ _ h]; rfl, by rw [cell_of_row W _ _ _ _ _ h]; rfl, by rw [cell_of_row W _ _ _ _ _ h]; rfl, by rw [cell_of_row W _ _ _ _ _ h]; rfl⟩, fun j => by simp [World.frozen?, h]⟩
theorem five_cells {W : World} {b : Nat} {a0 a1 a2 a3 a4 : Value} {e : TypeId} (h : W.heap[b]? = some (.cells #[a0, a1, a2, a3, a4] e (0, 0))) : (W.cell? ⟨b, 0, none⟩ = some a0 ∧ W.cell? ⟨b, 1, none⟩ = some a1 ∧ W.cell? ⟨b, 2, none⟩ = some a2 ∧ W.cell? ⟨b, 3, none⟩ = some a3 ∧ W.cell? ⟨b, 4, none⟩ = some a4) ∧ ∀ j, W.frozen? ⟨b, j, none⟩ = false :=
  ⟨⟨by rw [cell_of_row W _ _ _ _ _ h]; rfl, by rw [cell_of_row W _ _ _ _ _ h]; rfl, by rw [cell_of_row W _ _ _ _ _ h]; rfl, by rw [cell_of_row W _ _ _ _ _ h]; rfl, by rw [cell_of_row W _ _ _ _ _ h]; rfl⟩, fun j => by simp [World.frozen?, h]⟩
theorem five_set {w : World} {S : Nat} {a0 a1 a2 a3 a4 : Value} {e : TypeId} (h : w.heap[S]? = some (.cells #[a0, a1, a2, a3, a4] e (0, 0))) (x0 x1 x2 x3 x4 : Value) :
    (((((w.setCell ⟨S, 0, none⟩ x0).setCell ⟨S, 1, none⟩ x1).setCell ⟨S, 2, none⟩ x2).setCell ⟨S, 3, none⟩ x3).setCell ⟨S, 4, none⟩ x4).heap[S]? = some (.cells #[x0, x1, x2, x3, x4] e (0, 0)) :=
  heap_setCell_same _ S 4 _ _ x4 (heap_setCell_same _ S 3 _ _ x3 (heap_setCell_same _ S 2 _ _ x2 (heap_setCell_same _ S 1 _ _ x1 (heap_setCell_same _ S 0 _ _ x0 h))))
theorem heldL_take (l : List Hd) (k : Nat) (hk : k < l.length) : heldL (l.take (k + 1)) = heldL (l.take k) + l[k].count := by
  rw [take_snoc l k hk, heldL_append, heldL_cons, heldL_nil]; omega
theorem heldL_take_le {l : List Hd} (h : ∀ x ∈ l, 0 ≤ x.count) (k : Nat) : 0 ≤ heldL (l.take k) ∧ heldL (l.take k) ≤ heldL l := by
  have h1 : heldL (l.take k) + heldL (l.drop k) = heldL l := by rw [← heldL_append, List.take_append_drop]
  have h2 := heldL_nonneg (l := l.take k) fun x hx => h x (List.mem_of_mem_take hx)
  have h3 := heldL_nonneg (l := l.drop k) fun x hx => h x (List.mem_of_mem_drop hx)
  omega
set_option maxRecDepth 100000 in
set_option maxHeartbeats 2000000 in
theorem cHeld {w : World} {F : Nat → Prop} {S o : Nat} {s : Shf} (h : ShfAt w F S o s) :
    Calls Tryz.prog 50 #[.pointer (some ⟨S, o, none⟩)] w fun e w' => e = .returned (.int .i64 s.held) ∧ Below w.heap.size w w' := by
  obtain ⟨v, h1, h2, h3⟩ := h.ex
  have hok := h.ok
  have hsum := hok.sum
  have hfree := hok.free
  have hused := hok.used
  have hnn := Lib.hid fun k => heldL_take_le (l := s.hs) (fun x hx => by have := (hok.hs x hx).2.2.1; omega) k
  have hcnt := Lib.hid fun x hx => hok.hs x hx
  have hfew := hok.few
  obtain ⟨a, cap, rfl⟩ := owns_slice h2
  obtain ⟨⟨-, -, -, s3⟩, -⟩ := slf_cells h1
  have hS := h.lt
  have H2 := Lib.hid h2
  obtain ⟨fr, us, mad, hs⟩ := s
  simp only [Shf.held] at *
  have hz : heldL (hs.take 0) = 0 := rfl
  clear h h1 h2 hok
  go_enter Tryz.func50, Tryz.ntmps50
  go_wp2_with fail
  go_loopw [2, 4, 10] (fun n _ i wr => ∃ k : Nat, k ≤ hs.length ∧ i = .int .i64 k ∧ n = .int .i64 (heldL (hs.take k)) ∧ Hid (Below w.heap.size w wr)) (fun _ _ i _ => hs.length - (intOf i).toNat)
  case atStart => exact ⟨0, by omega, rfl, rfl, Below.refl _ _⟩
  case round =>
    obtain ⟨k, hk, rfl, rfl, HB⟩ := hrel
    by_cases hlt : k < hs.length
    · obtain ⟨gg, cap', he, ⟨c1, c2⟩, ⟨x0, x1, x2⟩, -⟩ := hd_get H2.out k hlt
      simp only [Value.slice.injEq] at he
      obtain ⟨rfl, -, rfl⟩ := he
      have hg := World.block_lt_of_cell? w _ x0
      replace x0 := cell_on HB.out x0
      replace x1 := cell_on HB.out x1
      replace x2 := cell_on HB.out x2
      have hltz : (k : Int) < (hs.length : Int) := by omega
      have b0 := hnn.out k
      have b1 := hnn.out (k + 1)
      have hst := heldL_take hs k hlt
      have Hst := Lib.hid hst
      generalize hs[k] = y at *
      generalize heldL (hs.take k) = m at *
      generalize hm1 : heldL (hs.take (k + 1)) = m1 at *
      have Hm1 := Lib.hid hm1
      clear hm1
      generalize heldL hs = tot at *
      have hwrap : IntKind.i64.wrap (m + y.count) = m + y.count := IntWalk.i64_in _ (by omega)
      go_wp2_with fail
      go_roundw
      case rel => exact ⟨k + 1, by omega, by go_num, by rw [Hm1.out, ← Hst.out], HB.out.alloc HB.out.size _⟩
      case measure => first | (simp [intOf]; done) | (simp [intOf]; omega)
    · obtain rfl : k = hs.length := by omega
      rw [List.take_of_length_le (Nat.le_refl _)]
      go_wp2
      go_ret
      exact ⟨rfl, HB.out⟩
set_option maxRecDepth 100000 in
set_option maxHeartbeats 2000000 in
theorem cStock {w : World} {F : Nat → Prop} {S o : Nat} {s : Shf} (h : ShfAt w F S o s) :
    Calls Tryz.prog 42 #[.pointer (some ⟨S, o, none⟩)] w fun e w' => e = .returned (.agg #[.int .i64 0, .int .i64 0, .int .i64 s.free, .int .i64 s.held, .int .i64 s.used]) ∧ Below w.heap.size w w' := by
  have H := Lib.hid h
  obtain ⟨v, h1, h2, h3⟩ := h.ex
  obtain ⟨⟨s0, s1, -, -⟩, -⟩ := slf_cells h1
  have hS := h.lt
  have CH := Lib.hid fun X (hX : Below w.heap.size w X) => cHeld (H.out.on hX)
  have hb0 : Below w.heap.size w (w.alloc (.cells #[.int .i64 0, .int .i64 0, .int .i64 0, .int .i64 0, .int .i64 0] 37)) := (Below.refl _ _).alloc (Nat.le_refl _) _
  have hnew := heap_alloc_new w (.cells #[.int .i64 0, .int .i64 0, .int .i64 0, .int .i64 0, .int .i64 0] 37)
  have e1 : (w.alloc (.cells #[.int .i64 0, .int .i64 0, .int .i64 0, .int .i64 0, .int .i64 0] 37)).heap.size = w.heap.size + 1 := by simp
  replace s0 := cell_on hb0 s0
  replace s1 := cell_on hb0 s1
  have HB0 := Lib.hid hb0
  have HF := Lib.hid fun (X : World) (hX : Below (w.alloc (.cells #[.int .i64 0, .int .i64 0, .int .i64 0, .int .i64 0, .int .i64 0] 37)).heap.size (w.alloc (.cells #[.int .i64 0, .int .i64 0, .int .i64 0, .int .i64 0, .int .i64 0] 37)) X) => (show X.heap[w.heap.size]? = some (.cells #[.int .i64 0, .int .i64 0, .int .i64 0, .int .i64 0, .int .i64 0] 37 (0, 0)) by rw [hX.block _ (by rw [e1]; omega)]; exact hnew)
  generalize s.held = hd at *
  generalize s.free = fr at *
  generalize s.used = us at *
  clear h h1 h2 hb0 hnew H
  go_enter Tryz.func42, Tryz.ntmps42
  go_upto_region 1 with (fail)
  generalize w.alloc (.cells #[.int .i64 0, .int .i64 0, .int .i64 0, .int .i64 0, .int .i64 0] 37) = W1 at *
  have q0 := Lib.hid s0
  have q1 := Lib.hid s1
  go_region_law (go_simp; go_at_call 50; refine (CH.out _ (HB0.out.drew)).mono ?_; rintro e w5 ⟨rfl, hb5'⟩; have hb5 : Below W1.heap.size W1 w5 := (Below.drew (Below.refl _ _)).trans hb5'; clear hb5'; obtain ⟨⟨z0, z1, z2, z3, z4⟩, hfz⟩ := five_cells (HF.out w5 hb5); have f0 := hfz 0; have f1 := hfz 1; have f2 := hfz 2; have f3 := hfz 3; have f4 := hfz 4; have y0 := cell_on hb5 s0; have y1 := cell_on hb5 s1)
  all_goals
    obtain ⟨⟨t0, t1, t2, t3, t4⟩, -⟩ := five_cells (five_set (HF.out w5 hb5) (.int .i64 0) (.int .i64 0) (.int .i64 fr) (.int .i64 hd) (.int .i64 us))
    have hb6 : Below w.heap.size w (((((w5.setCell ⟨w.heap.size, 0, none⟩ (.int .i64 0)).setCell ⟨w.heap.size, 1, none⟩ (.int .i64 0)).setCell ⟨w.heap.size, 2, none⟩ (.int .i64 fr)).setCell ⟨w.heap.size, 3, none⟩ (.int .i64 hd)).setCell ⟨w.heap.size, 4, none⟩ (.int .i64 us)) :=
      (((((HB0.out.trans (hb5.mono HB0.out.size)).setCell (Nat.le_refl _) _).setCell (Nat.le_refl _) _).setCell (Nat.le_refl _) _).setCell (Nat.le_refl _) _).setCell (Nat.le_refl _) _
    clear z0 z1 z2 z3 z4 f0 f1 f2 f3 f4 y0 y1 hfz
    generalize (((((w5.setCell ⟨w.heap.size, 0, none⟩ (.int .i64 0)).setCell ⟨w.heap.size, 1, none⟩ (.int .i64 0)).setCell ⟨w.heap.size, 2, none⟩ (.int .i64 fr)).setCell ⟨w.heap.size, 3, none⟩ (.int .i64 hd)).setCell ⟨w.heap.size, 4, none⟩ (.int .i64 us)) = w6 at *
    go_wp2_with fail
    refine bodyPost_ret (v := .agg #[.int .i64 0, .int .i64 0, .int .i64 fr, .int .i64 hd, .int .i64 us]) (by simp [results, Tryz.results42, go_sem, t0, t1, t2, t3, t4]) rfl ⟨rfl, hb6⟩
end Go.Proofs.YtjdedflfdlhkdaaGreatDoor
