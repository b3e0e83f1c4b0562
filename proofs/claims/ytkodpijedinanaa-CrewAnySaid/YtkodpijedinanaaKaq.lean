/- Texts that the claim imports, laid together: MrN MrO MrP RegB JoinE MxA. No statement of their own. -/
import Derived.Conc.AppendEvents3
import Derived.Test.YtkodpijedinanaaKai
import Derived.Test.YtkodpijedinanaaKao
import Derived.Test.YtkodpijedinanaaKap
namespace Go.Proofs.Ytkodpijedinanaa.Sim
open Go Go.Conc
set_option linter.unusedVariables false
set_option linter.unusedSimpArgs false

/-- An entry's cells, as a struct. -/
def eAgg (x : Ent) : Value := .agg #[.int .i64 x.k, .int .i64 x.v, .int .i64 x.t, .int .i64 x.h, .bool x.g]
def eCells (x : Ent) : Array Value := #[.int .i64 x.k, .int .i64 x.v, .int .i64 x.t, .int .i64 x.h, .bool x.g]
section
variable {e : Operand → Value} {o : Oper} {x y : Operand} {w : World} {ad : Addr} {v u : Value} {n : Ent}
theorem boxN (hop : o.op = .box 53 x) (hx : e x = eAgg n) : (execOp e o).run Try.prog w = .ok (.value (.pointer (some ⟨w.heap.size, 0, none⟩))) (w.alloc (.cells (eCells n) 53)) ∧ (execOp e o).events Try.prog w #[] = #[] := by
  constructor <;> (unfold execOp; simp only [hop, hx]; simp [go_sem, eAgg, eCells])
theorem allocE (hop : o.op = .alloc 42) : (execOp e o).run Try.prog w = .ok (.value (.pointer (some ⟨w.heap.size, 0, none⟩))) (w.alloc (.cells (eCells ⟨0, 0, 0, 0, false⟩) 42)) ∧ (execOp e o).events Try.prog w #[] = #[] := by
  constructor <;> (unfold execOp; simp only [hop]; simp [go_sem, eCells])
theorem fieldN {b off : Nat} (f : Nat) (hf : f < 5) (hop : o.op = .fieldAddr 53 x f) (hx : e x = .pointer (some ⟨b, off, none⟩)) : (execOp e o).run Try.prog w = .ok (.value (.pointer (some ⟨b, off + f, none⟩))) w ∧ (execOp e o).events Try.prog w #[] = #[] := by
  rcases (show f = 0 ∨ f = 1 ∨ f = 2 ∨ f = 3 ∨ f = 4 from by omega) with rfl | rfl | rfl | rfl | rfl <;> constructor <;> (unfold execOp; simp only [hop, hx]; simp [go_sem])
theorem fieldE {b off : Nat} (f : Nat) (hf : f < 5) (hop : o.op = .fieldAddr 42 x f) (hx : e x = .pointer (some ⟨b, off, none⟩)) : (execOp e o).run Try.prog w = .ok (.value (.pointer (some ⟨b, off + f, none⟩))) w ∧ (execOp e o).events Try.prog w #[] = #[] := by
  rcases (show f = 0 ∨ f = 1 ∨ f = 2 ∨ f = 3 ∨ f = 4 from by omega) with rfl | rfl | rfl | rfl | rfl <;> constructor <;> (unfold execOp; simp only [hop, hx]; simp [go_sem])
theorem load4 (hop : o.op = .load 4 x) (hx : e x = .pointer (some ad)) (hc : w.cell? ad = some v) : (execOp e o).run Try.prog w = .ok (.value v) w ∧ (execOp e o).events Try.prog w #[] = #[⟨.cell ad, false, false⟩] := by
  constructor <;> (unfold execOp; simp only [hop, hx]; simp [go_sem, hc])
theorem buildE (hop : o.op = .build 42 #[(0, .tmp 6), (2, .tmp 9), (3, .tmp 12), (4, .tmp 14)]) {k t h : Int} {g : Bool} (h0 : e (.tmp 6) = .int .i64 k) (h2 : e (.tmp 9) = .int .i64 t) (h3 : e (.tmp 12) = .int .i64 h) (h4 : e (.tmp 14) = .bool g) : (execOp e o).run Try.prog w = .ok (.value (eAgg ⟨k, 0, t, h, g⟩)) w ∧ (execOp e o).events Try.prog w #[] = #[] := by
  constructor <;> (unfold execOp; simp only [hop]; simp [go_sem, h0, h2, h3, h4, eAgg])
theorem build3 (hop : o.op = .build 42 #[(0, .const (.int .i64 3))]) (h3 : e (.const (.int .i64 3)) = .int .i64 3) : (execOp e o).run Try.prog w = .ok (.value (eAgg ⟨3, 0, 0, 0, false⟩)) w ∧ (execOp e o).events Try.prog w #[] = #[] := by
  constructor <;> (unfold execOp; simp only [hop]; simp [go_sem, h3, eAgg])
def reads (b off n : Nat) : Array Event := ((List.range n).map fun i => (⟨.cell ⟨b, off + i, none⟩, false, false⟩ : Event)).toArray
def writes (b off n : Nat) : Array Event := ((List.range n).map fun i => (⟨.cell ⟨b, off + i, none⟩, true, false⟩ : Event)).toArray
theorem loadN {b off : Nat} (hop : o.op = .load 53 x) (hx : e x = .pointer (some ⟨b, off, none⟩)) (h0 : w.cell? ⟨b, off, none⟩ = some (.int .i64 n.k)) (h1 : w.cell? ⟨b, off + 1, none⟩ = some (.int .i64 n.v)) (h2 : w.cell? ⟨b, off + 2, none⟩ = some (.int .i64 n.t)) (h3 : w.cell? ⟨b, off + 3, none⟩ = some (.int .i64 n.h)) (h4 : w.cell? ⟨b, off + 4, none⟩ = some (.bool n.g)) :
    (execOp e o).run Try.prog w = .ok (.value (eAgg n)) w ∧ (execOp e o).events Try.prog w #[] = reads b off 5 := by
  constructor <;> (unfold execOp; simp only [hop, hx]; simp [go_sem, h0, h1, h2, h3, h4, eAgg, reads, List.range_succ])
theorem loadE {b off : Nat} (hop : o.op = .load 42 x) (hx : e x = .pointer (some ⟨b, off, none⟩)) (h0 : w.cell? ⟨b, off, none⟩ = some (.int .i64 n.k)) (h1 : w.cell? ⟨b, off + 1, none⟩ = some (.int .i64 n.v)) (h2 : w.cell? ⟨b, off + 2, none⟩ = some (.int .i64 n.t)) (h3 : w.cell? ⟨b, off + 3, none⟩ = some (.int .i64 n.h)) (h4 : w.cell? ⟨b, off + 4, none⟩ = some (.bool n.g)) :
    (execOp e o).run Try.prog w = .ok (.value (eAgg n)) w ∧ (execOp e o).events Try.prog w #[] = reads b off 5 := by
  constructor <;> (unfold execOp; simp only [hop, hx]; simp [go_sem, h0, h1, h2, h3, h4, eAgg, reads, List.range_succ])
theorem set_row {w : World} {g i : Nat} {r : Array Value} {e : TypeId} {z : Nat × Nat} (v : Value) (h : w.heap[g]? = some (.cells r e z)) : (w.setCell ⟨g, i, none⟩ v).heap[g]? = some (.cells (r.setIfInBounds i v) e z) := by
  rw [setCell_at w ⟨g, i, none⟩ v h]; simp
theorem row_at {W : World} {b i : Nat} {c : Array Value} {t : TypeId} (h : W.heap[b]? = some (.cells c t)) (hi : i < c.size) : ∃ u, W.cell? ⟨b, i, none⟩ = some u := ⟨c[i], by simp [World.cell?, h, hi]⟩
theorem row_fr {W : World} {b i : Nat} {c : Array Value} {t : TypeId} (h : W.heap[b]? = some (.cells c t)) : W.frozen? ⟨b, i, none⟩ = false := by simp [World.frozen?, h]
def put5 (w : World) (b : Nat) (n : Ent) : World := ((((w.setCell ⟨b, 0, none⟩ (.int .i64 n.k)).setCell ⟨b, 1, none⟩ (.int .i64 n.v)).setCell ⟨b, 2, none⟩ (.int .i64 n.t)).setCell ⟨b, 3, none⟩ (.int .i64 n.h)).setCell ⟨b, 4, none⟩ (.bool n.g)
theorem put5_at {w : World} {b : Nat} {m n : Ent} {t : TypeId} (h : w.heap[b]? = some (.cells (eCells m) t)) : (put5 w b n).heap[b]? = some (.cells (eCells n) t) := by
  unfold put5
  rw [set_row _ (set_row _ (set_row _ (set_row _ (set_row _ h))))]
  rfl
theorem put5_other {w : World} {b c : Nat} {n : Ent} (h : c ≠ b) : (put5 w b n).heap[c]? = w.heap[c]? := by
  unfold put5
  rw [heap_setCell_other _ _ _ _ h, heap_setCell_other _ _ _ _ h, heap_setCell_other _ _ _ _ h, heap_setCell_other _ _ _ _ h, heap_setCell_other _ _ _ _ h]
theorem put5_size (w : World) (b : Nat) (n : Ent) : (put5 w b n).heap.size = w.heap.size := by unfold put5; simp
theorem storeE {b : Nat} {m : Ent} {t : TypeId} (hop : o.op = .store 42 x y) (hx : e x = .pointer (some ⟨b, 0, none⟩)) (hy : e y = eAgg n) (h : w.heap[b]? = some (.cells (eCells m) t)) :
    (execOp e o).run Try.prog w = .ok .skip (put5 w b n) ∧ (execOp e o).events Try.prog w #[] = writes b 0 5 := by
  have g1 := set_row (i := 0) (.int .i64 n.k) h
  have g2 := set_row (i := 1) (.int .i64 n.v) g1
  have g3 := set_row (i := 2) (.int .i64 n.t) g2
  have g4 := set_row (i := 3) (.int .i64 n.h) g3
  obtain ⟨u0, c0⟩ := row_at (i := 0) h (by simp [eCells])
  obtain ⟨u1, c1⟩ := row_at (i := 1) g1 (by simp [eCells])
  obtain ⟨u2, c2⟩ := row_at (i := 2) g2 (by simp [eCells])
  obtain ⟨u3, c3⟩ := row_at (i := 3) g3 (by simp [eCells])
  obtain ⟨u4, c4⟩ := row_at (i := 4) g4 (by simp [eCells])
  have f0 := row_fr (i := 0) h
  have f1 := row_fr (i := 1) g1
  have f2 := row_fr (i := 2) g2
  have f3 := row_fr (i := 3) g3
  have f4 := row_fr (i := 4) g4
  clear g1 g2 g3 g4
  have hb := fun (W : World) (es : Array Event) (a : Addr) (g : Bool) => events_store (P := Try.prog) (w := W) (es := es) a (.bool g) .plain rfl
  have hm : (Mode.plain == Mode.atomic) = false := rfl
  constructor <;> (unfold execOp; simp only [hop, hx, hy]; simp [go_sem, eAgg, c0, c1, c2, c3, c4, f0, f1, f2, f3, f4, put5, writes, List.range_succ, hb, hm])
theorem pickB {c a z : Operand} (hop : o.op = .pick c a z) {b : Bool} (hc : e c = .bool b) : (execOp e o).run Try.prog w = .ok (.value (if b then e a else e z)) w ∧ (execOp e o).events Try.prog w #[] = #[] := by
  constructor <;> (unfold execOp; simp only [hop]; simp [go_sem, hc])
theorem lenT {t : TypeId} (ht : t = 33 ∨ t = 38 ∨ t = 35) (hop : o.op = .call { callee := .builtin .len, args := #[x], argTypes := #[t] }) {a : Option Addr} {n c : Nat} (hx : e x = .slice a n c) : (execOp e o).run Try.prog w = .ok (.value (.int .i64 n)) w ∧ (execOp e o).events Try.prog w #[] = #[] := by
  rcases ht with rfl | rfl | rfl <;> constructor <;> (unfold execOp; simp only [hop]; simp [go_sem, hx])
theorem ixN (hop : o.op = .indexAddr 38 x y) {b off n c k : Nat} (hx : e x = .slice (some ⟨b, off, none⟩) n c) (hy : e y = .int .i64 k) (hk : k < n) (hk2 : k ≤ 1000) : (execOp e o).run Try.prog w = .ok (.value (.pointer (some ⟨b, off + k * 5, none⟩))) w ∧ (execOp e o).events Try.prog w #[] = #[] := by
  have hw : IntKind.i64.wrap (k : Int) = k := by rw [IntKind.wrap_i64]; omega
  constructor <;> (unfold execOp; simp only [hop, hx, hy]; simp [go_sem, hk, hw]; try omega)
theorem ixNN (hop : o.op = .indexAddr 33 x y) {b off n c k : Nat} (hx : e x = .slice (some ⟨b, off, none⟩) n c) (hy : e y = .int .i64 k) (hk : k < n) (hk2 : k ≤ 1000) : (execOp e o).run Try.prog w = .ok (.value (.pointer (some ⟨b, off + k, none⟩))) w ∧ (execOp e o).events Try.prog w #[] = #[] := by
  have hw : IntKind.i64.wrap (k : Int) = k := by rw [IntKind.wrap_i64]; omega
  constructor <;> (unfold execOp; simp only [hop, hx, hy]; simp [go_sem, hk, hw]; try omega)
theorem loadNs (hop : o.op = .load 38 x) (hx : e x = .pointer (some ad)) (hc : w.cell? ad = some v) : (execOp e o).run Try.prog w = .ok (.value v) w ∧ (execOp e o).events Try.prog w #[] = #[⟨.cell ad, false, false⟩] := by
  constructor <;> (unfold execOp; simp only [hop, hx]; simp [go_sem, hc])
theorem litE (hop : o.op = .buildSlice 35 1 #[(0, x)]) (hx : e x = eAgg n) : (execOp e o).run Try.prog w = .ok (.value (.slice (some ⟨w.heap.size, 0, none⟩) 1 1)) (w.alloc (.cells (eCells n) 42)) ∧ (execOp e o).events Try.prog w #[] = #[] := by
  constructor <;> (unfold execOp; simp only [hop]; simp [go_sem, hx, eAgg, eCells])
theorem litL (hop : o.op = .buildSlice 34 1 #[(0, x)]) {a : Option Addr} {m c : Nat} (hx : e x = .slice a m c) : (execOp e o).run Try.prog w = .ok (.value (.slice (some ⟨w.heap.size, 0, none⟩) 1 1)) (w.alloc (.cells #[.slice a m c] 35)) ∧ (execOp e o).events Try.prog w #[] = #[] := by
  constructor <;> (unfold execOp; simp only [hop]; simp [go_sem, hx])
theorem litL2 (hop : o.op = .buildSlice 34 2 #[(0, y), (1, x)]) {a a' : Option Addr} {m c m' c' : Nat} (hy : e y = .slice a' m' c') (hx : e x = .slice a m c) : (execOp e o).run Try.prog w = .ok (.value (.slice (some ⟨w.heap.size, 0, none⟩) 2 2)) (w.alloc (.cells #[.slice a' m' c', .slice a m c] 35)) ∧ (execOp e o).events Try.prog w #[] = #[] := by
  constructor <;> (unfold execOp; simp only [hop]; simp [go_sem, hx, hy])
theorem remI (hop : o.op = .binOp .rem 3 x y 3) {n m : Nat} (hx : e x = .int .i64 n) (hy : e y = .int .i64 m) (hm : 0 < m) (hn : n ≤ 1000) : (execOp e o).run Try.prog w = .ok (.value (.int .i64 ((n % m : Nat) : Int))) w ∧ (execOp e o).events Try.prog w #[] = #[] := by
  have hm' : ¬ (m : Int) = 0 := by omega
  have h2 : n % m ≤ n := Nat.mod_le _ _
  have hw : IntKind.i64.wrap ((n : Int).tmod (m : Int)) = ((n % m : Nat) : Int) := by
    rw [show (n : Int).tmod (m : Int) = ((n % m : Nat) : Int) from by rw [Int.tmod_eq_emod_of_nonneg (by omega)]; simp]
    rw [IntKind.wrap_i64]; omega
  constructor <;> (unfold execOp; simp only [hop, hx, hy]; simp [go_sem, hm', hw, show ¬ m = 0 from by omega, show (n : Int).tmod (m : Int) = (n : Int) % (m : Int) from Int.tmod_eq_emod_of_nonneg (by omega)])
end
end Go.Proofs.Ytkodpijedinanaa.Sim

namespace Go.Proofs.Ytkodpijedinanaa.Sim
open Go Go.Conc
set_option linter.unusedVariables false
set_option linter.unusedSimpArgs false

def IsSl (v : Value) : Prop := ∃ a n c, v = .slice a n c
/-- A row of lists that is one's own: all its cells hold slices. -/
structure SRow (lo : Nat) (W : World) (v : Value) (n : Nat) (V : Nat → Value) : Prop where
  row : (v = .slice none 0 0 ∧ n = 0) ∨ ∃ g cap cur, v = .slice (some ⟨g, 0, none⟩) n cap ∧ lo ≤ g ∧ W.heap[g]? = some (.cells cur 35) ∧ n ≤ cap ∧ cap ≤ maxLen ∧ cur.size = cap ∧ (∀ j, j < n → cur[j]? = some (V j)) ∧ ∀ u ∈ cur, IsSl u
/-- What append lists. -/
def ApEv (B : Nat → Prop) (g : Option Nat) (e : Event) : Prop := (∃ ad, e = ⟨.cell ad, false, false⟩ ∧ B ad.block) ∨ (∃ ad, e = ⟨.cell ad, true, false⟩ ∧ some ad.block = g) ∨ e = ⟨.mark .noRoom, false, true⟩
section
variable {P : Program}
theorem ap_load (a : Addr) (B : Nat → Prop) (g : Option Nat) (hB : B a.block) : ∀ (n i : Nat) (acc : Array Value) (w : World) (es : Array Event), (∀ j, j < n → (w.cell? (a.add (i + j))).isSome) → (∀ e ∈ es, ApEv B g e) →
    ∀ e ∈ (loadCellsFrom a i n acc).events P w es, ApEv B g e
  | 0, _, _, _, _, _, h => fun e he => h e (by simpa [loadCellsFrom] using he)
  | n + 1, i, acc, w, es, hc, h => fun e he => by
    simp only [loadCellsFrom, Sem.events_bind] at he
    obtain ⟨u, hu⟩ := Option.isSome_iff_exists.1 (hc 0 (by omega))
    simp only [Nat.add_zero] at hu
    have hr : (load (a.add i)).run P w = .ok u w := by simp [hu]
    rw [hr] at he
    refine ap_load a B g hB n (i + 1) (acc.push u) w _ (fun j hj => by have := hc (j + 1) (by omega); rwa [show i + (j + 1) = i + 1 + j by omega] at this) (fun e' he' => ?_) e he
    rw [events_load, hu] at he'
    rcases Array.mem_push.1 he' with h' | rfl
    · exact h _ h'
    · exact .inl ⟨_, rfl, by rw [addBlock]; exact hB⟩
theorem ap_first (B : Nat → Prop) (g : Option Nat) (size n : Nat) (x : Value) (w : World) (es : Array Event) (hx : ∀ a l c, x = .slice (some a) l c → B a.block ∧ ∀ j, j < n * size → (w.cell? (a.add j)).isSome) (h : ∀ e ∈ es, ApEv B g e) : ∀ e ∈ (Builtin.firstCells size n x).events P w es, ApEv B g e := by
  intro e he
  unfold Builtin.firstCells at he
  split at he
  · rename_i a l c
    obtain ⟨h1, h2⟩ := hx a l c rfl
    exact ap_load a B g h1 _ 0 _ w es (fun j hj => by simpa using h2 j hj) h e he
  · exact h e he
  · exact h e he
  · exact h e he
theorem ap_store (B : Nat → Prop) (g o : Nat) (t : TypeId) : ∀ (vs : List Value) (i : Nat) (cur : Array Value) (w : World) (es : Array Event), w.heap[g]? = some (.cells cur t (0, 0)) → o + i + vs.length ≤ cur.size → (∀ v ∈ vs, v.oneCell' = true) → (∀ e ∈ es, ApEv B (some g) e) →
    ∀ e ∈ (storeCells ⟨g, o, none⟩ vs i).events P w es, ApEv B (some g) e
  | [], _, _, _, _, _, _, _, h => fun e he => h e (by simpa [storeCells] using he)
  | v :: rest, i, cur, w, es, hg, hl, h1, h => fun e he => by
    have hi : o + i < cur.size := by simp at hl; omega
    have hadd : (⟨g, o, none⟩ : Addr).add i = ⟨g, o + i, none⟩ := by unfold Addr.add; split <;> simp_all
    have hcell : w.cell? ⟨g, o + i, none⟩ = some cur[o + i] := by simp [World.cell?, hg, hi]
    have hfro : w.frozen? ⟨g, o + i, none⟩ = false := by simp [World.frozen?, hg]
    have hst : (store ((⟨g, o, none⟩ : Addr).add i) v).run P w = .ok () (w.setRow g (cur.setIfInBounds (o + i) v)) := by
      rw [hadd, run_store P w _ v _ (h1 v (by simp)), hcell]
      simp [hfro, setCell_eq_setRow w g (o + i) cur t (0, 0) v hg]
    have hev : (store ((⟨g, o, none⟩ : Addr).add i) v).events P w es = es.push ⟨.cell ⟨g, o + i, none⟩, true, false⟩ := by
      rw [hadd, events_store P w es _ v _ (h1 v (by simp)), hcell]
      simp only [hfro, Bool.false_eq_true, if_false]
      rfl
    simp only [storeCells, Sem.events_bind, hst, Result.evThen_ok, hev] at he
    refine ap_store B g o t rest (i + 1) (cur.setIfInBounds (o + i) v) (w.setRow g (cur.setIfInBounds (o + i) v)) _ (setRow_heap w g cur _ t _ hg) (by simp at hl ⊢; omega) (fun x hx => h1 x (by simp [hx])) (fun e' he' => ?_) e he
    rcases Array.mem_push.1 he' with h' | rfl
    · exact h _ h'
    · exact .inr (.inl ⟨_, rfl, rfl⟩)
theorem ap_room (B : Nat → Prop) (g : Option Nat) (b : Nat) (w : World) (es : Array Event) (h : ∀ e ∈ es, ApEv B g e) : ∀ e ∈ (askRoom b).events P w es, ApEv B g e := fun e he => by
  rcases Conc.events_askRoom b w es e he with he | ⟨m, rfl, hm⟩
  · exact h e he
  · exact .inr (.inr (by rw [show m = .noRoom from hm]))
end
theorem shaped_alloc (w : World) (o : Obj) : Shaped w (w.alloc o) := fun b c e z h => ⟨c, by
  have hb := (Array.getElem?_eq_some_iff.1 h).1
  show (w.heap.push o)[b]? = _
  rw [Array.getElem?_push_lt hb, ← Array.getElem?_eq_getElem, h], rfl⟩
theorem shaped_drew (w : World) (o : Obj) : Shaped w (w.drew.alloc o) := shaped_alloc w.drew o
theorem shaped_setRow {w : World} {g : Nat} {cur r : Array Value} {e : TypeId} {z : Nat × Nat} (h : w.heap[g]? = some (.cells cur e z)) (hs : r.size = cur.size) : Shaped w (w.setRow g r) := fun b c e' z' hb => by
  by_cases e1 : b = g
  · subst e1
    rw [h] at hb
    cases hb
    exact ⟨r, setRow_heap w b cur r e z h, hs⟩
  · exact ⟨c, by rw [setRow_other w g b r e1]; exact hb, rfl⟩
theorem zero_sl {k : Nat} {u : Value} (h : u ∈ Builtin.zeroCells #[.slice none 0 0] k) : IsSl u := by
  simp [Builtin.zeroCells, Nat.mod_one] at h
  exact ⟨none, 0, 0, by first | exact h.2.symm | exact h.1.symm | exact h.symm | exact h⟩
/-- Lists of entries stay where a row of slices changes. -/
theorem REnt.grown {K : Blk} {W T : World} {x : Value} {l : List Ent} (h : REnt K W x l) {g : Nat} {cur cur' : Array Value} {e e' : TypeId} (hg : W.heap[g]? = some (.cells cur e)) (hs : ∀ u ∈ cur, IsSl u) (hT : ∀ b o, b ≠ g → W.heap[b]? = some o → T.heap[b]? = some o) (hg' : T.heap[g]? = some (.cells cur' e')) : REnt K T x l := by
  obtain ⟨⟨hl, sa, cap, rfl, h1, h2, h3⟩, hv⟩ := h
  refine ⟨⟨hl, sa, cap, rfl, h1, h2, fun hp => ?_⟩, fun a n c e => (hv a n c e).imp id fun ⟨h4, cs, e', z, h5, h6⟩ => ⟨h4, ?_⟩⟩
  · obtain ⟨b, off, rfl, hc⟩ := h3 hp
    refine ⟨b, off, rfl, fun j u hu => ?_⟩
    have hcj := hc j u hu
    have hb : b ≠ g := fun e => by
      subst e
      simp only [World.cell?, hg] at hcj
      have hm := Array.mem_of_getElem? (show cur[off + j]? = some u from hcj)
      obtain ⟨a, n, c, rfl⟩ := hs u hm
      have h8 := List.mem_of_getElem? hu
      simp only [ents, List.mem_flatMap, Ent.cells, List.mem_cons, List.not_mem_nil, or_false] at h8
      obtain ⟨y, _, h8⟩ := h8
      simp at h8
    cases ho : W.heap[b]? with
    | none => simp [World.cell?, ho] at hcj
    | some o =>
      have := hT b o hb ho
      simp only [World.cell?, ho] at hcj
      simp only [World.cell?, this]
      exact hcj
  · by_cases hb : a.block = g
    · rw [hb]; exact ⟨cur', _, _, hg', fun i ⟨h, h'⟩ => by simp at h'⟩
    · exact ⟨cs, e', z, hT _ _ hb h5, h6⟩
/-- What append does to a row of lists that is one's own. -/
theorem sl_append {lo : Nat} {W : World} {v : Value} {n : Nat} {V : Nat → Value} (h : SRow lo W v n V) {ab ao m c : Nat} {news : List Value} (hm : 1 ≤ m) (hl : news.length = m) (hnews : ∀ j u, news[j]? = some u → W.cell? ⟨ab, ao + j, none⟩ = some u) (hsl : ∀ u ∈ news, IsSl u) (hsm : n + m ≤ 1000) (hlo : lo ≤ W.heap.size) {Own : Blk} {Sh : Shd} (hown : ∀ g, v.ownBlock = some g → Own g) (hsrc : Own ab ∨ Sh ab) (ty : TypeId) :
    ∃ v' T, (Builtin.append_ #[34, 34] ty #[v, .slice (some ⟨ab, ao, none⟩) m c]).run Try.prog W = .ok v' T ∧ SRow lo T v' (n + m) (fun j => if j < n then V j else news.getD (j - n) undef) ∧ Did Own Sh W T ((Builtin.append_ #[34, 34] ty #[v, .slice (some ⟨ab, ao, none⟩) m c]).events Try.prog W #[]) ∧
      (∀ g, v'.ownBlock = some g → Grow Own W T g) ∧ (∀ K x l, REnt K W x l → REnt K T x l) ∧ (∀ b, some b ≠ v.ownBlock → b < W.heap.size → T.heap[b]? = W.heap[b]?) := by
  obtain ⟨i, hi, hz, hsz, hby⟩ := info1 (P := Try.prog) (e := 35) (z := .slice none 0 0) (b := 24) (by kernel_rfl)
  have ht := Try.underlying34
  have hl' : news.length = m * i.size := by rw [hsz, Nat.mul_one]; exact hl
  have hn' : ∀ j u, news[j]? = some u → W.cell? ((⟨ab, ao, none⟩ : Addr).add j) = some u := fun j u hu => by rw [Addr.add_lit]; exact hnews j u hu
  have h1 : ∀ u ∈ news, u.oneCell' = true := fun u hu => by obtain ⟨a, n, c, rfl⟩ := hsl u hu; rfl
  have hzc : (Value.slice none 0 0).cells = #[.slice none 0 0] := rfl
  -- a row anew
  have fresh : ∀ (olds : List Value) (cap : Nat), olds.length = n → (∀ u ∈ olds, IsSl u) → (∀ j, j < n → olds[j]? = some (V j)) → n + m ≤ cap → cap ≤ maxLen →
      SRow lo (W.drew.alloc (.cells (olds.toArray ++ news.toArray ++ Builtin.zeroCells #[.slice none 0 0] (cap - (n + m))) 35)) (.slice (some ⟨W.heap.size, 0, none⟩) (n + m) cap) (n + m) (fun j => if j < n then V j else news.getD (j - n) undef) := fun olds cap h2 h3 h4 h5 h6 => by
    refine ⟨.inr ⟨W.heap.size, cap, _, rfl, hlo, heap_alloc_new W.drew _, h5, h6, ?_, fun j hj => ?_, fun u hu => ?_⟩⟩
    · simp only [Array.size_append, List.size_toArray, size_zeroCells, h2, hl]
      show n + m + (cap - (n + m)) * 1 = cap
      omega
    · by_cases hjn : j < n
      · rw [if_pos hjn, Array.getElem?_append_left (by simp; omega), Array.getElem?_append_left (by simp; omega), List.getElem?_toArray]
        exact h4 j hjn
      · rw [if_neg hjn, Array.getElem?_append_left (by simp; omega), Array.getElem?_append_right (by simp; omega), List.getElem?_toArray, List.size_toArray, h2, List.getD_eq_getElem?_getD]
        have : j - n < news.length := by omega
        rw [List.getElem?_eq_getElem this]; rfl
    · rcases Array.mem_append.1 hu with hu | hu
      · rcases Array.mem_append.1 hu with hu | hu
        · exact h3 u (by simpa using hu)
        · exact hsl u (by simpa using hu)
      · exact zero_sl hu
  have fdid : ∀ (ob : Obj) (es : Array Event), (∀ e ∈ es, EvIn Own Sh e) → Did Own Sh W (W.drew.alloc ob) es := fun ob es he => by
    have hd := did_alloc (Own := Own) (Sh := Sh) (W := W.drew) (o := ob) he
    exact ⟨hd.size, hd.kept, hd.cels, hd.shp, hd.tape, hd.os, hd.out, hd.evs⟩
  have fkept : ∀ (ob : Obj) (K : Blk) (x : Value) (l : List Ent), REnt K W x l → REnt K (W.drew.alloc ob) x l := fun ob K x l hx => hx.kept fun b o _ ho => by
    have := heap_alloc_old W.drew ob (show b < W.drew.heap.size from heap_lt ho)
    rw [this]; exact ho
  have evok : ∀ (es : Array Event), (∀ e ∈ es, ApEv (fun b => b = ab ∨ some b = v.ownBlock) v.ownBlock e) → ∀ e ∈ es, EvIn Own Sh e := fun es h e he => by
    rcases h e he with ⟨ad, rfl, h | h⟩ | ⟨ad, rfl, h⟩ | rfl
    · exact .cell ad false (by rcases hsrc with hs | hs; exact .inl (h ▸ hs); exact .inr (.inl ⟨h ▸ hs, rfl⟩))
    · exact .cell ad false (.inl (hown _ h.symm))
    · exact .cell ad true (.inl (hown _ h.symm))
    · exact .noRoom
  have src : ∀ (w' : World), (∀ ad, w'.cell? ad = W.cell? ad) → ∀ a' l' c', Value.slice (some ⟨ab, ao, none⟩) m c = .slice (some a') l' c' → (a'.block = ab ∨ some a'.block = v.ownBlock) ∧ ∀ j, j < m * i.size → (w'.cell? (a'.add j)).isSome := fun w' hw' a' l' c' e => by
    cases e
    exact ⟨.inl rfl, fun j hj => by rw [hw']; exact isSome_of_list hn' (by rw [hl']; exact hj)⟩
  have none0 : ∀ e ∈ (#[] : Array Event), ApEv (fun b => b = ab ∨ some b = v.ownBlock) v.ownBlock e := fun e he => by simp at he
  rcases h.row with ⟨rfl, rfl⟩ | ⟨g, cap, cur, rfl, hgl, hg, hnc, hcm, hcs, hV, hS⟩
  · have nil : ∀ (w' : World) (k sz l₀ c₀ : Nat) a' l' c', Value.slice none l₀ c₀ = .slice (some a') l' c' → (a'.block = ab ∨ some a'.block = (Value.slice none 0 0).ownBlock) ∧ ∀ j, j < k * sz → (w'.cell? (a'.add j)).isSome := fun _ _ _ _ _ _ _ _ e => by cases e
    have hm0 : ¬ m = 0 := by omega
    have h63' : ¬ (9223372036854775807 < (m : Int)) := by omega
    have h48 : m * i.bytes ≤ 281474976710656 := by rw [hby]; omega
    have h48' : ¬ (281474976710656 < Builtin.nextslicecap m 0 * i.bytes) := by rw [nextslicecap_zero (by omega)]; omega
    have hr := run_append_nil (P := Try.prog) W 34 ty 35 i (.slice none 0 0) ht hi hz ⟨ab, ao, none⟩ m c news hl' hn' (by omega) (by omega) h48
    have hf := run_firstCells_some (P := Try.prog) W.drew i.size m ⟨ab, ao, none⟩ m c news hl' (by simpa using hn')
    rw [hzc] at hr
    have hF := fresh [] (grownCap W m 0 35) rfl (fun u hu => by simp at hu) (fun j hj => absurd hj (Nat.not_lt_zero j)) (by rw [Nat.zero_add]; exact grownCap_ge W m 0 _) (grownCap_le_maxLen W m 0 _ (by simp only [maxLen]; omega))
    simp only [Nat.zero_add, Array.empty_append] at hF
    refine ⟨_, _, hr, by simpa using hF, fdid _ _ (evok _ fun ev hev => ?_), fun b hb => by cases hb; exact .inr ⟨Nat.le_refl _, by simp⟩, fkept _, fun b _ hb => heap_alloc_old W.drew _ (show b < W.drew.heap.size from hb)⟩
    simp [Builtin.append_, run_underlying ht, sizeOf, typeInfo, zeroValue, hi, hz, Builtin.lenOf, hm0, h63', h48', Question.forced, run_firstCells_none, hf, newRow] at hev
    refine ap_first _ _ _ _ _ _ _ (by first | exact src _ (fun _ => rfl) | exact nil _ _ _ _ _) (fun e he => ?_) ev hev
    refine ap_first _ _ _ _ _ _ _ (by first | exact src _ (fun _ => rfl) | exact nil _ _ _ _ _) (fun e he => ?_) e he
    exact ap_room _ _ _ _ _ none0 e he
  · have holds : ∀ j u, (cur.toList.take n)[j]? = some u → W.cell? ((⟨g, 0, none⟩ : Addr).add j) = some u := fun j u hu => by
      rw [Addr.add_lit, Nat.zero_add]
      rw [List.getElem?_take] at hu
      split at hu
      · simp only [World.cell?, hg]
        simpa using hu
      · cases hu
    have hlo' : (cur.toList.take n).length = n := by rw [List.length_take, Array.length_toList]; omega
    have own : ∀ (w' : World), (∀ ad, w'.cell? ad = W.cell? ad) → ∀ a' l' c', Value.slice (some ⟨g, 0, none⟩) n cap = .slice (some a') l' c' → (a'.block = ab ∨ some a'.block = (Value.slice (some ⟨g, 0, none⟩) n cap).ownBlock) ∧ ∀ j, j < n * i.size → (w'.cell? (a'.add j)).isSome := fun w' hw' a' l' c' e => by
      cases e
      exact ⟨.inr rfl, fun j hj => by rw [hw']; exact isSome_of_list holds (by rw [hlo']; rw [hsz] at hj; omega)⟩
    by_cases hroom : n + m ≤ cap
    · have hfit : n * i.size + news.length ≤ cur.size := by rw [hsz, hl, hcs]; omega
      have hr := run_append_room (P := Try.prog) W 34 ty 35 i ht hi g n cap cur hg ⟨ab, ao, none⟩ m c news hl' hn' h1 hroom hfit
      have hf := run_firstCells_some (P := Try.prog) W i.size m ⟨ab, ao, none⟩ m c news hl' hn'
      rw [hsz, Nat.mul_one] at hr
      obtain ⟨r, hrr⟩ : ∃ r : Array Value, r = (cur.toList.take n ++ news ++ cur.toList.drop (n + news.length)).toArray := ⟨_, rfl⟩
      rw [← hrr] at hr
      have hrs : r.size = cur.size := by rw [hrr]; simp only [List.size_toArray, List.length_append, List.length_take, List.length_drop, Array.length_toList]; omega
      have hgT := setRow_heap W g cur r 35 (0, 0) hg
      refine ⟨_, _, hr, ⟨.inr ⟨g, cap, r, rfl, hgl, hgT, hroom, hcm, by omega, fun j hj => ?_, fun u hu => ?_⟩⟩, ⟨by simp, fun b _ hb _ => setRow_other W g b r (fun e => hb (e ▸ hown g rfl)), fun b o _ hb _ => ?_, shaped_setRow hg hrs, rfl, rfl, rfl, fun e he => (evok _ (fun ev hev => ?_) e he).grow⟩, fun b hb => by cases hb; exact .inl (hown g rfl), fun K x l hx => hx.grown hg hS (fun b o hb ho => by rw [setRow_other W g b r hb]; exact ho) hgT, fun b hb _ => setRow_other W g b r (fun e => hb (by rw [e]; rfl))⟩
      · rw [hrr, List.getElem?_toArray]
        by_cases hjn : j < n
        · rw [if_pos hjn, List.getElem?_append_left (by rw [List.length_append]; omega), List.getElem?_append_left (by omega), List.getElem?_take_of_lt hjn]
          simpa using hV j hjn
        · rw [if_neg hjn, List.getElem?_append_left (by rw [List.length_append]; omega), List.getElem?_append_right (by omega), hlo', List.getD_eq_getElem?_getD]
          have : j - n < news.length := by omega
          rw [List.getElem?_eq_getElem this]; rfl
      · rw [hrr] at hu
        simp only [List.mem_toArray, List.mem_append] at hu
        rcases hu with (hu | hu) | hu
        · exact hS u (by simpa using List.mem_of_mem_take hu)
        · exact hsl u hu
        · exact hS u (by simpa using List.mem_of_mem_drop hu)
      · have := setRow_other W g b r (fun e => hb (e ▸ hown g rfl))
        simp only [World.cell?, this]
      · simp [Builtin.append_, run_underlying ht, sizeOf, typeInfo, hi, Builtin.lenOf, hroom, hf, Addr.add_lit] at hev
        refine ap_store _ g (n * i.size) 35 news 0 cur W _ hg (by simpa using hfit) h1 (fun e he => ?_) ev hev
        exact ap_first _ _ _ _ _ _ _ (by first | exact src _ (fun _ => rfl) | exact own _ (fun _ => rfl)) none0 e he
    · have hn2 : ¬ (n + m ≤ cap) := hroom
      have h63' : ¬ (9223372036854775807 < ((n : Int) + (m : Int))) := by omega
      have hgf : Builtin.nextslicecap (n + m) cap * i.bytes ≤ 281474976710656 := growslice_fits (by omega) (by rw [hby]; omega)
      have h48' : ¬ (281474976710656 < Builtin.nextslicecap (n + m) cap * i.bytes) := by omega
      have hr := run_append_grow (P := Try.prog) W 34 ty 35 i (.slice none 0 0) ht hi hz ⟨g, 0, none⟩ n cap (cur.toList.take n) (by rw [hlo', hsz, Nat.mul_one]) holds ⟨ab, ao, none⟩ m c news hl' hn' (by omega) (by omega) hgf
      have hf := run_firstCells_some (P := Try.prog) W.drew i.size m ⟨ab, ao, none⟩ m c news hl' (by simpa using hn')
      have hfo := run_firstCells_some (P := Try.prog) W.drew i.size n ⟨g, 0, none⟩ n cap (cur.toList.take n) (by rw [hlo', hsz, Nat.mul_one]) (by simpa using holds)
      rw [hzc] at hr
      have hF := fresh (cur.toList.take n) (grownCap W (n + m) cap 35) hlo' (fun u hu => hS u (by simpa using List.mem_of_mem_take hu)) (fun j hj => by rw [List.getElem?_take_of_lt hj]; simpa using hV j hj) (grownCap_ge W (n + m) cap _) (grownCap_le_maxLen W (n + m) cap _ (by simp only [maxLen]; omega))
      refine ⟨_, _, hr, hF, fdid _ _ (evok _ fun ev hev => ?_), fun b hb => by cases hb; exact .inr ⟨Nat.le_refl _, by simp⟩, fkept _, fun b _ hb => heap_alloc_old W.drew _ (show b < W.drew.heap.size from hb)⟩
      simp [Builtin.append_, run_underlying ht, sizeOf, typeInfo, zeroValue, hi, hz, Builtin.lenOf, hn2, h63', h48', Question.forced, hf, hfo, newRow] at hev
      refine ap_first _ _ _ _ _ _ _ (by first | exact src _ (fun _ => rfl) | exact own _ (fun _ => rfl)) (fun e he => ?_) ev hev
      refine ap_first _ _ _ _ _ _ _ (by first | exact src _ (fun _ => rfl) | exact own _ (fun _ => rfl)) (fun e he => ?_) e he
      exact ap_room _ _ _ _ _ none0 e he
end Go.Proofs.Ytkodpijedinanaa.Sim

namespace Go.Proofs.Ytkodpijedinanaa.Sim
open Go Go.Conc
set_option linter.unusedVariables false
set_option linter.unusedSimpArgs false

section
variable {main : Bool} {Sh : Shd} {Ju : Blk → Goroutine → World → Prop} {RB : List Frame} {B : Frame} {Own : Blk} {A : Act} {k : List Item} {Z : World → Prop}
theorem ju_opx {P : Program} (hJ : Jud P main Sh Ju) (hz : Stable Own Sh Z) (hB : B.kind ≠ .early) {ops : Array Oper} {i : Nat} {l : List Nat} {o : Oper} (ho : ops[i]? = some o) (hw : Region.wanted o (yielded ops A.tmps) = true)
    (h : ∀ W, Z W → ∃ v T, (execOp A.eval o).run P W = .ok (.value v) T ∧ Did Own Sh W T ((execOp A.eval o).events P W #[]) ∧ Ju (Grow Own W T) (G (B.at (A.put o.dst v) (.inRegion ops l :: k)) RB) T) : Rt Ju RB B (.inRegion ops (i :: l) :: k) Own A Z := fun W z => by
  refine hJ _ _ _ (.step rfl (fun W1 hr => ?_) fun W1 hr g' W' es he => ?_)
  · obtain ⟨v, T, h1, h2, h3⟩ := h W1 (hz W W1 hr z)
    exact ⟨_, _, _, stepG_value ho hw hB h1, { h2 with evs := fun e he => h2.evs e (mem_listed he) }, rfl⟩
  · obtain ⟨v, T, h1, h2, h3⟩ := h W1 (hz W W1 hr z)
    rw [stepG_value ho hw hB h1] at he
    simp only [GStep.go.injEq] at he
    obtain ⟨rfl, rfl, rfl⟩ := he
    exact .stop h3
theorem run_app {P : Program} {e : Operand → Value} {o : Oper} {w w' : World} {v xv v' : Value} {s x : Operand} {t : TypeId} (ho : o.op = .call { callee := .builtin .append, args := #[s, x], argTypes := #[t, t] }) (hs : e s = v) (hx : e x = xv)
    (hr : (Builtin.append_ #[t, t] o.type #[v, xv]).run P w = .ok v' w') : (execOp e o).run P w = .ok (.value v') w' := by
  unfold execOp
  simp only [ho, resolve, invoke, builtin, Sem.run_bind, Sem.run_pure, Result.andThen_ok, List.map_toArray, List.map_cons, List.map_nil, hs, hx, hr]
theorem ev_app {P : Program} {e : Operand → Value} {o : Oper} {w : World} {v xv : Value} {s x : Operand} {t : TypeId} (ho : o.op = .call { callee := .builtin .append, args := #[s, x], argTypes := #[t, t] }) (hs : e s = v) (hx : e x = xv) :
    (execOp e o).events P w #[] = (Builtin.append_ #[t, t] o.type #[v, xv]).events P w #[] := by
  unfold execOp
  simp only [ho, resolve, invoke, builtin, Sem.events_bind, Sem.run_pure, Sem.events_pure, Result.evThen_ok, List.map_toArray, List.map_cons, List.map_nil, hs, hx]
  cases (Builtin.append_ #[t, t] o.type #[v, xv]).run P w <;> rfl
/-- append, to a row that is one's own. -/
theorem rt_append (hJ : Jud Try.prog main Sh Ju) (hz : Stable Own Sh Z) (hB : B.kind ≠ .early) {ops : Array Oper} {i : Nat} {l : List Nat} {o : Oper} (ho : ops[i]? = some o) (hg : o.guard = none) {x y : Operand}
    (hop : o.op = .call { callee := .builtin .append, args := #[x, y], argTypes := #[34, 34] }) {lo n ab ao m c : Nat} {v : Value} {V : Nat → Value} {news : List Value} (hx : A.eval x = v) (hy : A.eval y = .slice (some ⟨ab, ao, none⟩) m c)
    (hs : ∀ W, Z W → SRow lo W v n V) (hm : 1 ≤ m) (hl : news.length = m) (hnews : ∀ W, Z W → ∀ j u, news[j]? = some u → W.cell? ⟨ab, ao + j, none⟩ = some u) (hsl : ∀ u ∈ news, IsSl u) (hsm : n + m ≤ 1000) (hlo : ∀ W, Z W → lo ≤ W.heap.size) (hown : ∀ g, v.ownBlock = some g → Own g) (hsrc : Own ab ∨ Sh ab)
    (hn : ∀ W, Z W → ∀ v' T O, SRow lo T v' (n + m) (fun j => if j < n then V j else news.getD (j - n) undef) → (∀ x, Own x → O x) → (∀ g, v'.ownBlock = some g → O g) → (∀ K x l, REnt K W x l → REnt K T x l) → (∀ b, some b ≠ v.ownBlock → b < W.heap.size → T.heap[b]? = W.heap[b]?) → W.heap.size ≤ T.heap.size →
      Ju O (G (B.at (A.put o.dst v') (.inRegion ops l :: k)) RB) T) : Rt Ju RB B (.inRegion ops (i :: l) :: k) Own A Z :=
  ju_opx hJ hz hB ho (by simp [Region.wanted, hg]) fun W z => by
    obtain ⟨v', T, h1, h2, h3, h4, h5, h6⟩ := sl_append (hs W z) hm hl (hnews W z) hsl hsm (hlo W z) (Own := Own) (Sh := Sh) hown hsrc (c := c) o.type
    exact ⟨v', T, run_app hop hx hy h1, by rw [ev_app hop hx hy]; exact h3, hn W z v' T _ h2 (fun _ h => .inl h) h4 h5 h6 h3.size⟩
/-- append of nothing. -/
theorem app_none {e : Operand → Value} {o : Oper} {w : World} {x y : Operand} (hop : o.op = .call { callee := .builtin .append, args := #[x, y], argTypes := #[34, 34] }) {lo n : Nat} {v : Value} {V : Nat → Value} (hx : e x = v) (hy : e y = .slice none 0 0) (h : SRow lo w v n V) :
    (execOp e o).run Try.prog w = .ok (.value v) w ∧ (execOp e o).events Try.prog w #[] = #[] := by
  obtain ⟨i, hi, hz, hsz, hby⟩ := info1 (P := Try.prog) (e := 35) (z := .slice none 0 0) (b := 24) (by kernel_rfl)
  have ht := Try.underlying34
  constructor
  · refine run_app hop hx hy ?_
    rcases h.row with ⟨rfl, rfl⟩ | ⟨g, cap, cur, rfl, _, _, hnc, _⟩
    · simp [Builtin.append_, run_underlying ht, sizeOf, typeInfo, hi, Builtin.lenOf, Builtin.firstCells]
    · simp [Builtin.append_, run_underlying ht, sizeOf, typeInfo, hi, Builtin.lenOf, Builtin.firstCells, hnc, storeCells]
  · rw [ev_app hop hx hy]
    rcases h.row with ⟨rfl, rfl⟩ | ⟨g, cap, cur, rfl, _, _, hnc, _⟩
    · simp [Builtin.append_, run_underlying ht, sizeOf, typeInfo, hi, Builtin.lenOf, Builtin.firstCells]
    · simp [Builtin.append_, run_underlying ht, sizeOf, typeInfo, hi, Builtin.lenOf, Builtin.firstCells, hnc, storeCells]
theorem SRow.rely {lo : Nat} {W W1 : World} {v : Value} {n : Nat} {V : Nat → Value} (h : SRow lo W v n V) (hown : ∀ g, v.ownBlock = some g → Own g) (hr : Rely Own Sh W W1) : SRow lo W1 v n V := by
  rcases h.row with h | ⟨g, cap, cur, rfl, h1, h2, h3⟩
  · exact ⟨.inl h⟩
  · exact ⟨.inr ⟨g, cap, cur, rfl, h1, hr.kept _ _ (.inl (hown g rfl)) h2, h3⟩⟩
theorem SRow.other {lo : Nat} {W T : World} {v : Value} {n : Nat} {V : Nat → Value} (h : SRow lo W v n V) (hT : ∀ b, v.ownBlock = some b → b < W.heap.size → T.heap[b]? = W.heap[b]?) : SRow lo T v n V := by
  rcases h.row with h | ⟨g, cap, cur, rfl, h1, h2, h3⟩
  · exact ⟨.inl h⟩
  · exact ⟨.inr ⟨g, cap, cur, rfl, h1, by rw [hT g rfl (heap_lt h2)]; exact h2, h3⟩⟩
theorem SRow.congr {lo : Nat} {W : World} {v : Value} {n m : Nat} {V V' : Nat → Value} (h : SRow lo W v n V) (hm : m = n) (hV : ∀ j, j < n → V j = V' j) : SRow lo W v m V' := by
  subst hm
  rcases h.row with h | ⟨g, cap, cur, rfl, h1, h2, h3, h4, h5, h6, h7⟩
  · exact ⟨.inl h⟩
  · exact ⟨.inr ⟨g, cap, cur, rfl, h1, h2, h3, h4, h5, fun j hj => by rw [← hV j hj]; exact h6 j hj, h7⟩⟩
end
end Go.Proofs.Ytkodpijedinanaa.Sim

namespace Go.Proofs.Ytkodpijedinanaa
open Go.ChangeShapes Go.WideShapes Go.ChangeAt Go.RowKit
set_option linter.unusedVariables false
def EntPick (n : Ent) : Ent := { k := pick n.k 6, t := pick n.t 4, h := pick n.h 3, g := n.g, v := if n.g then 0 else pick n.v 3 }
set_option maxRecDepth 100000 in
set_option maxHeartbeats 2000000 in
theorem centryOf (n : Ent) (w : World) :
    Calls Try.prog 16 #[n.val] w fun e w' => e = .returned (EntPick n).val ∧ Below w.heap.size w w' := by
  obtain ⟨k1, v1, t1, h1, g1⟩ := n
  have Pk := Lib.hid fun (a n : Int) (h0 : 0 < n) (h1 : n ≤ 1152921504606846976) w => (picked a n h0 h1 w).mono fun _ _ h => same_symm h
  unfold Ent.val EntPick
  cases g1
  · go_enter Try.func16, Try.ntmps16
    go_wp2
    go_region_held3 (fun X => X.cell? ⟨w.heap.size, 0, none⟩ = some (.int .i64 k1) ∧ X.cell? ⟨w.heap.size, 2, none⟩ = some (.int .i64 t1) ∧ X.cell? ⟨w.heap.size, 3, none⟩ = some (.int .i64 h1) ∧ X.cell? ⟨w.heap.size, 4, none⟩ = some (.bool false))
      (go_keep)
      ((go_at_call 5; refine (picked _ _ (by omega) (by omega) _).mono ?_; rintro e w' ⟨rfl, rfl⟩))
    all_goals
      go_wp2_with (go_at_call 5; refine (picked _ _ (by omega) (by omega) _).mono ?_; rintro e w' ⟨rfl, rfl⟩)
      refine bodyPost_ret (v := .agg #[.int .i64 (pick k1 6), .int .i64 (pick v1 3), .int .i64 (pick t1 4), .int .i64 (pick h1 3), .bool false]) (by simp [results, Try.results16, go_sem]) rfl ⟨rfl, (by repeat (first | exact Below.refl _ _ | refine Below.drew ?_ | refine Below.alloc ?_ (by first | (simp; done) | (simp; omega)) _ | refine Below.setCell ?_ (by first | (simp; done) | (simp; omega)) _))⟩
  · go_enter Try.func16, Try.ntmps16
    go_wp2
    go_region_held3 (fun X => X.cell? ⟨w.heap.size, 0, none⟩ = some (.int .i64 k1) ∧ X.cell? ⟨w.heap.size, 2, none⟩ = some (.int .i64 t1) ∧ X.cell? ⟨w.heap.size, 3, none⟩ = some (.int .i64 h1) ∧ X.cell? ⟨w.heap.size, 4, none⟩ = some (.bool true))
      (go_keep)
      ((go_at_call 5; refine (picked _ _ (by omega) (by omega) _).mono ?_; rintro e w' ⟨rfl, rfl⟩))
    all_goals
      go_wp2_with (go_at_call 5; refine (picked _ _ (by omega) (by omega) _).mono ?_; rintro e w' ⟨rfl, rfl⟩)
      refine bodyPost_ret (v := .agg #[.int .i64 (pick k1 6), .int .i64 0, .int .i64 (pick t1 4), .int .i64 (pick h1 3), .bool true]) (by simp [results, Try.results16, go_sem]) rfl ⟨rfl, (by repeat (first | exact Below.refl _ _ | refine Below.drew ?_ | refine Below.alloc ?_ (by first | (simp; done) | (simp; omega)) _ | refine Below.setCell ?_ (by first | (simp; done) | (simp; omega)) _))⟩
/-- An entry in a block of its own. -/
structure Box (w : World) (b : Nat) (e : Ent) : Prop where
  c0 : w.cell? ⟨b, 0, none⟩ = some (.int .i64 e.k)
  c1 : w.cell? ⟨b, 1, none⟩ = some (.int .i64 e.v)
  c2 : w.cell? ⟨b, 2, none⟩ = some (.int .i64 e.t)
  c3 : w.cell? ⟨b, 3, none⟩ = some (.int .i64 e.h)
  c4 : w.cell? ⟨b, 4, none⟩ = some (.bool e.g)
  f : ∀ j, w.frozen? ⟨b, j, none⟩ = false
theorem Box.lt {w : World} {b : Nat} {e : Ent} (h : Box w b e) : b < w.heap.size := World.block_lt_of_cell? w _ h.c0
theorem Box.on {w w' : World} {b : Nat} {e : Ent} (h : Box w b e) (hb : Below w.heap.size w w') : Box w' b e :=
  ⟨cell_on hb h.c0, cell_on hb h.c1, cell_on hb h.c2, cell_on hb h.c3, cell_on hb h.c4, fun j => by rw [hb.frozen (p := ⟨b, j, none⟩) h.lt]; exact h.f j⟩
theorem Box.new (w : World) (k v t h : Int) (g : Bool) (T : TypeId) : Box (w.alloc (.cells #[.int .i64 k, .int .i64 v, .int .i64 t, .int .i64 h, .bool g] T)) w.heap.size ⟨k, v, t, h, g⟩ := by
  refine ⟨?_, ?_, ?_, ?_, ?_, fun j => World.frozen?_alloc_at _ _ _ _ rfl⟩ <;> (rw [World.cell?_alloc_at _ _ _ _ rfl]; rfl)
theorem Box.alloc {w : World} {b : Nat} {e : Ent} (h : Box w b e) (o : Obj) : Box (w.alloc o) b e := h.on (Below.alloc (Below.refl _ _) (Nat.le_refl _) o)
theorem Box.set0 {w : World} {b : Nat} {e : Ent} (h : Box w b e) (k : Int) : Box (w.setCell ⟨b, 0, none⟩ (.int .i64 k)) b ⟨k, e.v, e.t, e.h, e.g⟩ := by
  refine ⟨World.cell?_setCell_same _ _ _ h.c0, ?_, ?_, ?_, ?_, fun j => by rw [World.frozen?_setCell]; exact h.f j⟩
  · rw [World.cell?_setCell_other _ _ _ _ (by simp)]; exact h.c1
  · rw [World.cell?_setCell_other _ _ _ _ (by simp)]; exact h.c2
  · rw [World.cell?_setCell_other _ _ _ _ (by simp)]; exact h.c3
  · rw [World.cell?_setCell_other _ _ _ _ (by simp)]; exact h.c4
theorem Box.set_other {w : World} {b b' o : Nat} {e : Ent} (h : Box w b e) (hne : b' ≠ b) (u : Value) : Box (w.setCell ⟨b', o, none⟩ u) b e := by
  refine ⟨?_, ?_, ?_, ?_, ?_, fun j => by rw [World.frozen?_setCell]; exact h.f j⟩
  · rw [World.cell?_setCell_other _ _ _ _ (by simp)]; exact h.c0
  · rw [World.cell?_setCell_other _ _ _ _ (by simp)]; exact h.c1
  · rw [World.cell?_setCell_other _ _ _ _ (by simp)]; exact h.c2
  · rw [World.cell?_setCell_other _ _ _ _ (by simp)]; exact h.c3
  · rw [World.cell?_setCell_other _ _ _ _ (by simp)]; exact h.c4
end Go.Proofs.Ytkodpijedinanaa

namespace Go.Proofs.Ytkodpijedinanaa
set_option linter.unusedVariables false
set_option linter.unusedSimpArgs false

/-- What the laws make of notes. -/
def entsOf (l : List Ent) : List Ent := mergeL [] ((l.take 30).map EntPick)
theorem entPick_ok (n : Ent) : (EntPick n).Ok ∧ 0 ≤ (EntPick n).k ∧ (EntPick n).k < 6 := by
  have h1 := pick_bd n.k 6 (by omega)
  have h2 := pick_bd n.t 4 (by omega)
  have h3 := pick_bd n.h 3 (by omega)
  have h4 := pick_bd n.v 3 (by omega)
  unfold EntPick
  refine ⟨⟨by simp only; omega, by simp only; split <;> omega, by simp only; omega, by simp only; omega, fun hg => by simp only at hg ⊢; rw [if_pos hg]⟩, by simp only; omega, by simp only; omega⟩
theorem entsTo_six (l : List Ent) (k : Nat) : SixL (mergeL [] ((l.take k).map EntPick)) :=
  ⟨mergeL_may SixL.nil.may fun e he => by obtain ⟨n, _, rfl⟩ := List.mem_map.1 he; exact (entPick_ok n).1, fun x hx => by
    rcases mergeL_mem hx with h | h
    · simp at h
    · obtain ⟨n, _, rfl⟩ := List.mem_map.1 h; exact (entPick_ok n).2⟩
theorem entsOf_six (l : List Ent) : SixL (entsOf l) := entsTo_six l 30
end Go.Proofs.Ytkodpijedinanaa

namespace Go.Proofs.Ytkodpijedinanaa.Sim
open Go Go.Conc
set_option linter.unusedVariables false
set_option linter.unusedSimpArgs false

noncomputable def cEnt : Code := (Try.f16.body).getD .skip
noncomputable def x0E : Code := hd cEnt
noncomputable def x1E : Code := hd (tl cEnt)
noncomputable def x2E : Code := hd (hd (tl (tl cEnt)))
noncomputable def x3E : Code := hd (tl (hd (tl (tl cEnt))))
noncomputable def x4E : Code := hd (tl (tl (tl cEnt)))
theorem cEnt_eq : cEnt = .seq x0E (.seq (.region 1 (regOps x1E) true) (.seq (.seq x2E (.cond (.tmp 18) x3E .skip)) (.seq x4E .ret))) := by kernel_rfl
noncomputable def opsE : Array Oper := regOps x1E
def midE (n : Ent) : Ent := ⟨pick n.k 6, 0, pick n.t 4, pick n.h 3, n.g⟩
def zeroE : Ent := ⟨0, 0, 0, 0, false⟩
theorem Rely.own {Own O : Blk} {Sh : Shd} {W1 W W' : World} (h : Rely Own Sh W1 W) (hO : ∀ x, Own x → O x) (hr : Rely O Sh W W') : Rely Own Sh W1 W' := h.trans (hr.less (fun x hx => hx.imp (hO x) id) (fun _ _ h => .inl h) fun _ h => .inl h)
theorem Rely.set {Own : Blk} {Sh : Shd} {W1 W : World} (h : Rely Own Sh W1 W) {a : Addr} {v : Value} (hb : W1.heap.size ≤ a.block) : Rely Own Sh W1 (W.setCell a v) := by
  have ho : ∀ (b : Nat) (o : Obj), W1.heap[b]? = some o → (W.setCell a v).heap[b]? = W.heap[b]? := fun b o hh => heap_setCell_other _ _ _ _ (by have := heap_lt hh; omega)
  refine ⟨by simpa using h.size, fun b o hb' hh => by rw [ho b o hh]; exact h.kept b o hb' hh, fun b c e z hh => ?_, fun b i u hb' hh => ?_, fun b hb' ⟨s, m, hh⟩ => ?_⟩
  · obtain ⟨c', h1, h2⟩ := h.shp b c e z hh
    exact ⟨c', by rw [ho b _ hh]; exact h1, h2⟩
  · have h1 := h.cel b i u hb' hh
    have hl : b < W1.heap.size := by
      cases hq : W1.heap[b]? with
      | none => simp [World.cell?, hq] at hh
      | some q => exact heap_lt hq
    rw [World.cell?_setCell_other (w := W) (a := a) (b := ⟨b, i, none⟩) (v := v) (fun e => by rw [e] at hb; exact absurd hl (by simpa using hb))]
    exact h1
  · obtain ⟨s', m', h1⟩ := h.grp b hb' ⟨s, m, hh⟩
    refine ⟨s', m', ?_⟩
    show (W.setCell a v).heap[b]? = _
    rw [ho b _ hh]; exact h1
theorem Rely.put5 {Own : Blk} {Sh : Shd} {W1 W : World} (h : Rely Own Sh W1 W) {b : Nat} {n : Ent} (hb : W1.heap.size ≤ b) : Rely Own Sh W1 (put5 W b n) := ((((h.set hb).set hb).set hb).set hb).set hb
theorem tape_set (w : World) (a : Addr) (v : Value) : (w.setCell a v).tape = w.tape := rfl
theorem os_set (w : World) (a : Addr) (v : Value) : (w.setCell a v).os = w.os := rfl
theorem out_set (w : World) (a : Addr) (v : Value) : (w.setCell a v).output = w.output := rfl
theorem did_put5 {Own : Blk} {Sh : Shd} {W : World} {b : Nat} {n m : Ent} {t : TypeId} (h : Own b) (hr : W.heap[b]? = some (.cells (eCells m) t)) : Did Own Sh W (Sim.put5 W b n) (writes b 0 5) where
  size := Nat.le_of_eq (put5_size W b n).symm
  kept := fun c _ hn _ => put5_other (fun e => hn (by rw [e]; exact h))
  cels := fun c o _ hn _ => by
    have hne : c ≠ b := fun e => hn (by rw [e]; exact h)
    have := put5_other (w := W) (n := n) hne
    unfold World.cell?
    rw [this]
  shp := by
    unfold Sim.put5
    exact (shaped_setCell W _ _).trans ((shaped_setCell _ _ _).trans ((shaped_setCell _ _ _).trans ((shaped_setCell _ _ _).trans (shaped_setCell _ _ _))))
  tape := by unfold Sim.put5; rw [tape_set, tape_set, tape_set, tape_set, tape_set]
  os := by unfold Sim.put5; rw [os_set, os_set, os_set, os_set, os_set]
  out := by unfold Sim.put5; rw [out_set, out_set, out_set, out_set, out_set]
  evs := fun e he => by
    simp [writes, List.range_succ] at he
    rcases he with rfl | rfl | rfl | rfl | rfl <;> exact .cell _ true (.inl (.inl h))
def slotE : Nat → Nat
  | 0 => 4
  | 1 => 5
  | 2 => 6
  | 3 => 7
  | 4 => 8
  | 5 => 9
  | 6 => 10
  | 7 => 11
  | 8 => 12
  | 9 => 13
  | 10 => 14
  | 11 => 15
  | _ => 0
def valE (n : Ent) (b1 : Nat) : Nat → Value
  | 0 => (.pointer (some ⟨b1, 0, none⟩))
  | 1 => (.int .i64 n.k)
  | 2 => (.int .i64 (pick n.k 6))
  | 3 => (.pointer (some ⟨b1, 2, none⟩))
  | 4 => (.int .i64 n.t)
  | 5 => (.int .i64 (pick n.t 4))
  | 6 => (.pointer (some ⟨b1, 3, none⟩))
  | 7 => (.int .i64 n.h)
  | 8 => (.int .i64 (pick n.h 3))
  | 9 => (.pointer (some ⟨b1, 4, none⟩))
  | 10 => (.bool n.g)
  | 11 => (eAgg (midE n))
  | _ => undef
theorem slotE_inj (i : Nat) (hi : i < 12) (j : Nat) (hj : j < 12) : slotE i = slotE j → i = j := by
  have D : (List.range 12).all (fun i => (List.range 12).all fun j => slotE i != slotE j || i == j) = true := by decide
  have h := List.all_eq_true.1 (List.all_eq_true.1 D i (List.mem_range.2 hi)) j (List.mem_range.2 hj)
  simp only [Bool.or_eq_true, beq_iff_eq, bne_iff_ne, ne_eq] at h
  intros
  simp_all
theorem slotE_lt : ∀ j, j < 12 → 4 ≤ slotE j ∧ slotE j < 24 := by decide
structure ES (n : Ent) (W1 : World) (Own : Blk) (Sh : Shd) (b1 b2 : Nat) (L : Array Bool) (b3 : Nat) (O : Blk) (A : Act) (W : World) : Prop where
  lsz : L.size = 14
  sz : A.tmps.size = 24
  df : A.defers = []
  s1 : Sl A 1 (.pointer (some ⟨b1, 0, none⟩))
  s2 : Sl A 2 (.pointer (some ⟨b2, 0, none⟩))
  own : ∀ x, Own x → O x
  o1 : O b1
  o2 : O b2
  f1 : W1.heap.size ≤ b1
  f2 : W1.heap.size ≤ b2
  gl : Try.prog.globals.size ≤ W1.heap.size
  h1 : W.heap[b1]? = some (.cells (eCells n) 53)
  h2 : W.heap[b2]? = some (.cells (eCells zeroE) 42)
  rel : Rely Own Sh W1 W
  sl : ∀ j, j < 12 → L.getD j false = true → Sl A (slotE j) (valE n b1 j)
  d13 : L.getD 13 false = true → L.getD 12 false = true
  al : L.getD 12 false = true → Sl A 3 (.pointer (some ⟨b3, 0, none⟩)) ∧ O b3 ∧ b3 ≠ b1 ∧ b3 ≠ b2 ∧ W1.heap.size ≤ b3 ∧ W.heap[b3]? = some (.cells (eCells (if L.getD 13 false = true then midE n else zeroE)) 42)
section
variable {n : Ent} {W1 : World} {Own : Blk} {Sh : Shd} {b1 b2 b3 : Nat} {L : Array Bool} {O : Blk} {A : Act} {W : World}
theorem ES.rely (h : ES n W1 Own Sh b1 b2 L b3 O A W) {W' : World} (hr : Rely O Sh W W') : ES n W1 Own Sh b1 b2 L b3 O A W' :=
  { h with h1 := hr.kept _ _ (.inl h.o1) h.h1, h2 := hr.kept _ _ (.inl h.o2) h.h2, rel := h.rel.own h.own hr, al := fun hl => let ⟨q1, q2, q3, q4, q5, q6⟩ := h.al hl; ⟨q1, q2, q3, q4, q5, hr.kept _ _ (.inl q2) q6⟩ }
theorem ES.more (h : ES n W1 Own Sh b1 b2 L b3 O A W) {O' : Blk} (hO : ∀ x, O x → O' x) : ES n W1 Own Sh b1 b2 L b3 O' A W :=
  { h with own := fun x hx => hO x (h.own x hx), o1 := hO _ h.o1, o2 := hO _ h.o2, al := fun hl => let ⟨q1, q2, q3⟩ := h.al hl; ⟨q1, hO _ q2, q3⟩ }
theorem ES.put (h : ES n W1 Own Sh b1 b2 L b3 O A W) {j : Nat} (hj : j < 12) : ES n W1 Own Sh b1 b2 (L.setIfInBounds j true) b3 O (A.put (some (slotE j)) (valE n b1 j)) W := by
  have hlt : j < L.size := by rw [h.lsz]; omega
  obtain ⟨hs1, hs2⟩ := slotE_lt j hj
  have e13 : (L.setIfInBounds j true).getD 13 false = L.getD 13 false := by
    rw [Array.getD_eq_getD_getElem?, Array.getD_eq_getD_getElem?, Array.getElem?_setIfInBounds_ne (by omega)]
  refine { h with lsz := by simp [h.lsz], sz := (put_size _ _ _).trans h.sz, df := (put_defers _ _ _).trans h.df, s1 := h.s1.ne (by omega), s2 := h.s2.ne (by omega), sl := fun i hi hl => ?_, d13 := fun hl => (getD_set hlt).2 (.inr (h.d13 (((getD_set hlt).1 hl).resolve_left (by omega)))), al := fun hl => ?_ }
  · by_cases e : i = j
    · subst e; exact Sl.same (by rw [h.sz]; exact hs2)
    · exact (h.sl i hi (((getD_set hlt).1 hl).resolve_left e)).ne fun e' => e (slotE_inj i hi j hj e')
  · obtain ⟨q1, q2⟩ := h.al (((getD_set hlt).1 hl).resolve_left (by omega))
    exact ⟨q1.ne (by omega), by rw [e13]; exact q2⟩
end
section
variable {n : Ent} {W1 : World} {Own : Blk} {Sh : Shd} {b1 b2 : Nat} {Ju : Blk → Goroutine → World → Prop} {RB : List Frame} {B : Frame} {k : List Item}
theorem ES.val (hJ : Jud Try.prog true Sh Ju) (hB : B.kind ≠ .early) {L : Array Bool} {j : Nat} {l : List Nat} {o : Oper} (ho : opsE[j]? = some o) (hg : o.guard = none) (hdst : o.dst = some (slotE j)) (hj : j < 12) {es : Array Event} (hev : ∀ e ∈ es, ∀ O : Blk, O b1 → EvIn O Sh e)
    (hrun : ∀ b3 O A W, ES n W1 Own Sh b1 b2 L b3 O A W → (execOp A.eval o).run Try.prog W = .ok (.value (valE n b1 j)) W ∧ (execOp A.eval o).events Try.prog W #[] = es)
    (next : ∀ O A W, (∃ b3, ES n W1 Own Sh b1 b2 (L.setIfInBounds j true) b3 O A W) → Ju O (G (B.at A (.inRegion opsE l :: k)) RB) W) : ∀ O A W, (∃ b3, ES n W1 Own Sh b1 b2 L b3 O A W) → Ju O (G (B.at A (.inRegion opsE (j :: l) :: k)) RB) W := fun O A W ⟨b3, h⟩ => by
  refine rt_val (Own := O) (Z := fun W => ES n W1 Own Sh b1 b2 L b3 O A W) hJ (fun W W' hr z => z.rely hr) hB ho hg (v := valE n b1 j) (fun W z => hrun b3 O A W z) (fun e he => hev e he O h.o1) (fun W z => next _ _ _ ⟨b3, ?_⟩) W h
  rw [hdst]
  exact z.put hj
theorem ES.pickd (hJ : Jud Try.prog true Sh Ju) (hB : B.kind ≠ .early) {L : Array Bool} {j i : Nat} {l : List Nat} {o : Oper} (ho : opsE[j]? = some o) (hg : o.guard = none) (hdst : o.dst = some (slotE j)) (hj : j < 12) (hi : i < 12) (hl : L.getD i false = true) {ats : Array TypeId} {a m : Int} (h0 : 0 < m) (hm : m ≤ 1152921504606846976)
    (hop : o.op = .call { callee := .value (.func 5), args := #[.tmp (slotE i), .const (.int .i64 m)], argTypes := ats }) (hvi : valE n b1 i = .int .i64 a) (hvj : valE n b1 j = .int .i64 (pick a m)) (hc : ∀ A : Act, A.eval (.const (.int .i64 m)) = .int .i64 m)
    (next : ∀ O A W, (∃ b3, ES n W1 Own Sh b1 b2 (L.setIfInBounds j true) b3 O A W) → Ju O (G (B.at A (.inRegion opsE l :: k)) RB) W) : ∀ O A W, (∃ b3, ES n W1 Own Sh b1 b2 L b3 O A W) → Ju O (G (B.at A (.inRegion opsE (j :: l) :: k)) RB) W := fun O A W ⟨b3, h⟩ => by
  refine rt_picked (Own := O) (Z := fun W => ES n W1 Own Sh b1 b2 L b3 O A W) hJ (fun W W' hr z => z.rely hr) hB ho hg hop (a := a) (n := m) (by rw [(h.sl i hi hl).eval]; exact hvi) (hc A) h0 hm (fun W z => Nat.le_trans z.gl z.rel.size) (fun O' hO' W z => next _ _ _ ⟨b3, ?_⟩) W h
  rw [hdst, ← hvj]
  exact (z.more hO').put hj
set_option maxRecDepth 100000 in
set_option maxHeartbeats 8000000 in
theorem ES.step (hJ : Jud Try.prog true Sh Ju) (hB : B.kind ≠ .early) (L : Array Bool) (i : Nat) (l : List Nat) (hi : i < opsE.size) (hnl : L.getD i true = false) (hdeps : ∀ d ∈ depsOf opsE i, L.getD d false = true)
    (next : ∀ O A W, (∃ b3, ES n W1 Own Sh b1 b2 (L.setIfInBounds i true) b3 O A W) → Ju O (G (B.at A (.inRegion opsE l :: k)) RB) W) : ∀ O A W, (∃ b3, ES n W1 Own Sh b1 b2 L b3 O A W) → Ju O (G (B.at A (.inRegion opsE (i :: l) :: k)) RB) W := by
  have hsize : opsE.size = 14 := by kernel_rfl
  rw [hsize] at hi
  rcases (show i = 0 ∨ i = 1 ∨ i = 2 ∨ i = 3 ∨ i = 4 ∨ i = 5 ∨ i = 6 ∨ i = 7 ∨ i = 8 ∨ i = 9 ∨ i = 10 ∨ i = 11 ∨ i = 12 ∨ i = 13 from by omega) with rfl | rfl | rfl | rfl | rfl | rfl | rfl | rfl | rfl | rfl | rfl | rfl | rfl | rfl
  · obtain ⟨o, ho, hop, hg, hdst⟩ : ∃ o, opsE[0]? = some o ∧ o.op = .fieldAddr 53 (.tmp 1) 0 ∧ o.guard = none ∧ o.dst = some 4 := ⟨(opsE[0]?).getD default, by kernel_rfl, by kernel_rfl, by kernel_rfl, by kernel_rfl⟩
    have hD : depsOf opsE 0 = [] := by kernel_rfl
    rw [hD] at hdeps
    exact ES.val hJ hB ho hg hdst (by decide) (es := #[]) (fun e he => by simp at he) (fun b3 O A W h => fieldN 0 (by omega) hop h.s1.eval) next
  · obtain ⟨o, ho, hop, hg, hdst⟩ : ∃ o, opsE[1]? = some o ∧ o.op = .load 3 (.tmp 4) ∧ o.guard = none ∧ o.dst = some 5 := ⟨(opsE[1]?).getD default, by kernel_rfl, by kernel_rfl, by kernel_rfl, by kernel_rfl⟩
    have hD : depsOf opsE 1 = [0] := by kernel_rfl
    rw [hD] at hdeps
    exact ES.val hJ hB ho hg hdst (by decide) (es := #[⟨.cell ⟨b1, 0, none⟩, false, false⟩]) (fun e he O hO => by simp at he; subst he; exact .cell _ _ (.inl hO)) (fun b3 O A W h => load3 (v := (.int .i64 n.k)) hop (h.sl 0 (by omega) (hdeps 0 (by simp))).eval (by simp [World.cell?, h.h1, eCells])) next
  · obtain ⟨o, ho, hop, hg, hdst⟩ : ∃ o, opsE[2]? = some o ∧ o.op = .call { callee := .value (.func 5), args := #[.tmp 5, .const (.int .i64 6)], argTypes := #[3, 3] } ∧ o.guard = none ∧ o.dst = some 6 := ⟨(opsE[2]?).getD default, by kernel_rfl, by kernel_rfl, by kernel_rfl, by kernel_rfl⟩
    have hD : depsOf opsE 2 = [1] := by kernel_rfl
    rw [hD] at hdeps
    exact ES.pickd hJ hB ho hg hdst (i := 1) (by decide) (by decide) (hdeps 1 (by simp)) (by decide) (by decide) hop rfl rfl (fun _ => rfl) next
  · obtain ⟨o, ho, hop, hg, hdst⟩ : ∃ o, opsE[3]? = some o ∧ o.op = .fieldAddr 53 (.tmp 1) 2 ∧ o.guard = none ∧ o.dst = some 7 := ⟨(opsE[3]?).getD default, by kernel_rfl, by kernel_rfl, by kernel_rfl, by kernel_rfl⟩
    have hD : depsOf opsE 3 = [] := by kernel_rfl
    rw [hD] at hdeps
    exact ES.val hJ hB ho hg hdst (by decide) (es := #[]) (fun e he => by simp at he) (fun b3 O A W h => fieldN 2 (by omega) hop h.s1.eval) next
  · obtain ⟨o, ho, hop, hg, hdst⟩ : ∃ o, opsE[4]? = some o ∧ o.op = .load 3 (.tmp 7) ∧ o.guard = none ∧ o.dst = some 8 := ⟨(opsE[4]?).getD default, by kernel_rfl, by kernel_rfl, by kernel_rfl, by kernel_rfl⟩
    have hD : depsOf opsE 4 = [3] := by kernel_rfl
    rw [hD] at hdeps
    exact ES.val hJ hB ho hg hdst (by decide) (es := #[⟨.cell ⟨b1, 2, none⟩, false, false⟩]) (fun e he O hO => by simp at he; subst he; exact .cell _ _ (.inl hO)) (fun b3 O A W h => load3 (v := (.int .i64 n.t)) hop (h.sl 3 (by omega) (hdeps 3 (by simp))).eval (by simp [World.cell?, h.h1, eCells])) next
  · obtain ⟨o, ho, hop, hg, hdst⟩ : ∃ o, opsE[5]? = some o ∧ o.op = .call { callee := .value (.func 5), args := #[.tmp 8, .const (.int .i64 4)], argTypes := #[3, 3] } ∧ o.guard = none ∧ o.dst = some 9 := ⟨(opsE[5]?).getD default, by kernel_rfl, by kernel_rfl, by kernel_rfl, by kernel_rfl⟩
    have hD : depsOf opsE 5 = [4, 2] := by kernel_rfl
    rw [hD] at hdeps
    exact ES.pickd hJ hB ho hg hdst (i := 4) (by decide) (by decide) (hdeps 4 (by simp)) (by decide) (by decide) hop rfl rfl (fun _ => rfl) next
  · obtain ⟨o, ho, hop, hg, hdst⟩ : ∃ o, opsE[6]? = some o ∧ o.op = .fieldAddr 53 (.tmp 1) 3 ∧ o.guard = none ∧ o.dst = some 10 := ⟨(opsE[6]?).getD default, by kernel_rfl, by kernel_rfl, by kernel_rfl, by kernel_rfl⟩
    have hD : depsOf opsE 6 = [] := by kernel_rfl
    rw [hD] at hdeps
    exact ES.val hJ hB ho hg hdst (by decide) (es := #[]) (fun e he => by simp at he) (fun b3 O A W h => fieldN 3 (by omega) hop h.s1.eval) next
  · obtain ⟨o, ho, hop, hg, hdst⟩ : ∃ o, opsE[7]? = some o ∧ o.op = .load 3 (.tmp 10) ∧ o.guard = none ∧ o.dst = some 11 := ⟨(opsE[7]?).getD default, by kernel_rfl, by kernel_rfl, by kernel_rfl, by kernel_rfl⟩
    have hD : depsOf opsE 7 = [6] := by kernel_rfl
    rw [hD] at hdeps
    exact ES.val hJ hB ho hg hdst (by decide) (es := #[⟨.cell ⟨b1, 3, none⟩, false, false⟩]) (fun e he O hO => by simp at he; subst he; exact .cell _ _ (.inl hO)) (fun b3 O A W h => load3 (v := (.int .i64 n.h)) hop (h.sl 6 (by omega) (hdeps 6 (by simp))).eval (by simp [World.cell?, h.h1, eCells])) next
  · obtain ⟨o, ho, hop, hg, hdst⟩ : ∃ o, opsE[8]? = some o ∧ o.op = .call { callee := .value (.func 5), args := #[.tmp 11, .const (.int .i64 3)], argTypes := #[3, 3] } ∧ o.guard = none ∧ o.dst = some 12 := ⟨(opsE[8]?).getD default, by kernel_rfl, by kernel_rfl, by kernel_rfl, by kernel_rfl⟩
    have hD : depsOf opsE 8 = [7, 5] := by kernel_rfl
    rw [hD] at hdeps
    exact ES.pickd hJ hB ho hg hdst (i := 7) (by decide) (by decide) (hdeps 7 (by simp)) (by decide) (by decide) hop rfl rfl (fun _ => rfl) next
  · obtain ⟨o, ho, hop, hg, hdst⟩ : ∃ o, opsE[9]? = some o ∧ o.op = .fieldAddr 53 (.tmp 1) 4 ∧ o.guard = none ∧ o.dst = some 13 := ⟨(opsE[9]?).getD default, by kernel_rfl, by kernel_rfl, by kernel_rfl, by kernel_rfl⟩
    have hD : depsOf opsE 9 = [] := by kernel_rfl
    rw [hD] at hdeps
    exact ES.val hJ hB ho hg hdst (by decide) (es := #[]) (fun e he => by simp at he) (fun b3 O A W h => fieldN 4 (by omega) hop h.s1.eval) next
  · obtain ⟨o, ho, hop, hg, hdst⟩ : ∃ o, opsE[10]? = some o ∧ o.op = .load 4 (.tmp 13) ∧ o.guard = none ∧ o.dst = some 14 := ⟨(opsE[10]?).getD default, by kernel_rfl, by kernel_rfl, by kernel_rfl, by kernel_rfl⟩
    have hD : depsOf opsE 10 = [9] := by kernel_rfl
    rw [hD] at hdeps
    exact ES.val hJ hB ho hg hdst (by decide) (es := #[⟨.cell ⟨b1, 4, none⟩, false, false⟩]) (fun e he O hO => by simp at he; subst he; exact .cell _ _ (.inl hO)) (fun b3 O A W h => load4 (v := (.bool n.g)) hop (h.sl 9 (by omega) (hdeps 9 (by simp))).eval (by simp [World.cell?, h.h1, eCells])) next
  · obtain ⟨o, ho, hop, hg, hdst⟩ : ∃ o, opsE[11]? = some o ∧ o.op = .build 42 #[(0, .tmp 6), (2, .tmp 9), (3, .tmp 12), (4, .tmp 14)] ∧ o.guard = none ∧ o.dst = some 15 := ⟨(opsE[11]?).getD default, by kernel_rfl, by kernel_rfl, by kernel_rfl, by kernel_rfl⟩
    have hD : depsOf opsE 11 = [2, 5, 8, 10] := by kernel_rfl
    rw [hD] at hdeps
    exact ES.val hJ hB ho hg hdst (by decide) (es := #[]) (fun e he => by simp at he) (fun b3 O A W h => buildE hop (h.sl 2 (by omega) (hdeps 2 (by simp))).eval (h.sl 5 (by omega) (hdeps 5 (by simp))).eval (h.sl 8 (by omega) (hdeps 8 (by simp))).eval (h.sl 10 (by omega) (hdeps 10 (by simp))).eval) next
  · obtain ⟨o, ho, hop, hg, hdst⟩ : ∃ o, opsE[12]? = some o ∧ o.op = .alloc 42 ∧ o.guard = none ∧ o.dst = some 3 := ⟨(opsE[12]?).getD default, by kernel_rfl, by kernel_rfl, by kernel_rfl, by kernel_rfl⟩
    have hD : depsOf opsE 12 = [] := by kernel_rfl
    rw [hD] at hdeps
    intro O A W ⟨b3, h⟩
    refine rt_alloc (Own := O) (Z := fun W => ES n W1 Own Sh b1 b2 L b3 O A W) hJ (fun W W' hr z => z.rely hr) hB ho hg (ob := .cells (eCells zeroE) 42) (fun W z => allocE hop) (fun b hb W ⟨z, hz⟩ => next _ _ _ ⟨b, ?_⟩) W h
    rw [hdst]
    have hlt : 12 < L.size := by rw [z.lsz]; omega
    have h12 : ∀ q, (L.setIfInBounds 12 true).getD q false = true → q ≠ 12 → L.getD q false = true := fun q hl hq => ((getD_set hlt).1 hl).resolve_left hq
    have e13 : (L.setIfInBounds 12 true).getD 13 false = L.getD 13 false := by
      rw [Array.getD_eq_getD_getElem?, Array.getD_eq_getD_getElem?, Array.getElem?_setIfInBounds_ne (by omega)]
    have h13 : L.getD 13 false = true → False := fun h13 => by have e := z.d13 h13; rw [getD_none hnl] at e; cases e
    obtain ⟨Wb, zb, rfl⟩ := hb
    exact { z with lsz := by simp [z.lsz], sz := (put_size _ _ _).trans z.sz, df := (put_defers _ _ _).trans z.df, s1 := z.s1.ne (by decide), s2 := z.s2.ne (by decide), own := fun x hx => .inl (z.own x hx), o1 := .inl z.o1, o2 := .inl z.o2, sl := fun i hi hl => (z.sl i hi (h12 i hl (by omega))).ne (by have := slotE_lt i hi; omega), al := fun _ => ⟨Sl.same (by rw [z.sz]; decide), .inr rfl, by have := heap_lt zb.h1; omega, by have := heap_lt zb.h2; omega, zb.rel.size, by rw [e13, if_neg (fun h => h13 h)]; exact hz⟩, d13 := fun hl => (h13 (h12 13 hl (by decide))).elim }
  · obtain ⟨o, ho, hop, hg, hdst⟩ : ∃ o, opsE[13]? = some o ∧ o.op = .store 42 (.tmp 3) (.tmp 15) ∧ o.guard = none ∧ o.dst = none := ⟨(opsE[13]?).getD default, by kernel_rfl, by kernel_rfl, by kernel_rfl, by kernel_rfl⟩
    have hD : depsOf opsE 13 = [12, 11, 8, 0, 1, 2, 3, 4, 5, 6, 7, 8, 9, 10, 11, 12] := by kernel_rfl
    rw [hD] at hdeps
    intro O A W ⟨b3, h⟩
    have hf13 : ¬ L.getD 13 false = true := fun h => by rw [getD_none hnl] at h; cases h
    refine ju_op (Own := O) (Z := fun W => ES n W1 Own Sh b1 b2 L b3 O A W) (P := Try.prog) hJ (fun W W' hr z => z.rely hr) hB ho hg (v := fun _ => undef) (T := fun W => put5 W b3 (midE n)) (fun W z => ?_) (fun W z => ?_) (fun W z => ?_) W h
    · obtain ⟨q1, q2, q3, q4, q5, q6⟩ := z.al (hdeps 12 (by simp))
      rw [if_neg hf13] at q6
      exact .inr ⟨rfl, (storeE hop q1.eval (z.sl 11 (by omega) (hdeps 11 (by simp))).eval q6).1⟩
    · obtain ⟨q1, q2, q3, q4, q5, q6⟩ := z.al (hdeps 12 (by simp))
      rw [if_neg hf13] at q6
      rw [(storeE hop q1.eval (z.sl 11 (by omega) (hdeps 11 (by simp))).eval q6).2]
      exact did_put5 q2 q6
    · obtain ⟨q1, q2, q3, q4, q5, q6⟩ := z.al (hdeps 12 (by simp))
      rw [if_neg hf13] at q6
      rw [hdst]
      have hlt : 13 < L.size := by rw [z.lsz]; omega
      have h13 : ∀ q, (L.setIfInBounds 13 true).getD q false = true → q ≠ 13 → L.getD q false = true := fun q hl hq => ((getD_set hlt).1 hl).resolve_left hq
      have e13 : (L.setIfInBounds 13 true).getD 13 false = true := (getD_set hlt).2 (.inl rfl)
      have hgr : ∀ x, O x → Grow O W (put5 W b3 (midE n)) x := fun x hx => .inl hx
      refine next _ _ _ ⟨b3, { z with lsz := by simp [z.lsz], own := fun x hx => hgr x (z.own x hx), o1 := hgr _ z.o1, o2 := hgr _ z.o2, h1 := by rw [put5_other (fun e => q3 e.symm)]; exact z.h1, h2 := by rw [put5_other (fun e => q4 e.symm)]; exact z.h2, rel := z.rel.put5 q5, sl := fun i hi hl => z.sl i hi (h13 i hl (by omega)), al := fun _ => ⟨q1, hgr _ q2, q3, q4, q5, by rw [if_pos e13]; exact put5_at q6⟩, d13 := fun _ => (getD_set hlt).2 (.inr (hdeps 12 (by simp))) }⟩
end
/-- Back to the caller, with what a cell holds. -/
theorem stepG_leaveE {P : Program} {main : Bool} {b c : Frame} {a : Act} {cs : List Frame} {w : World} {fn : Func} {todo : List Item} {v : Value} {es : Array Event} (hn : b.kind = .normal) (hd : a.defers = []) (hf : P.funcs[b.fn]? = some fn) (hr : (results fn a.tmps).run P w = .ok v w) (he : (results fn a.tmps).events P w #[] = es) :
    stepG P main (G { b.at a todo with mode := .returning } (c :: cs)) w = .go (G (c.finish v) cs) w (seen P b.fn es) := by
  simp [G, stepG, unwind, doReturn, Frame.at, hn, hd, hf, hr, he, GStep.after]
theorem results_E {w : World} {T : Array Value} {b : Nat} {n : Ent} (h2 : T[2]? = some (.pointer (some ⟨b, 0, none⟩))) (h : w.heap[b]? = some (.cells (eCells n) 42)) :
    (results Try.f16 T).run Try.prog w = .ok (eAgg n) w ∧ (results Try.f16 T).events Try.prog w #[] = reads b 0 5 := by
  have hg : T.getD 2 undef = .pointer (some ⟨b, 0, none⟩) := by rw [Array.getD_eq_getD_getElem?, h2]; rfl
  have hres : Try.f16.results = #[.cell 2 42] := by kernel_rfl
  constructor <;> (unfold results; rw [hres]; simp [go_sem, h2, World.cell?, h, eCells, eAgg, reads, List.range_succ])
end Go.Proofs.Ytkodpijedinanaa.Sim
