/- A region that draws its order, whose operations only read and whose callees at most make memory: one walk of the text's order serves every order. -/
import Derived.Test.YtkodpijedinanaaMem
namespace Go.Proofs.Ytkodpijedinanaa
open Go.ChangeShapes Go.WideShapes Go.ChangeAt Go.RowKit
set_option linter.unusedVariables false

/-- The worlds that w may have grown to. -/
def Ext (w : World) := { w' : World // Below w.heap.size w w' }
instance (w : World) : Nonempty (Ext w) := ⟨⟨w, Below.refl _ _⟩⟩
section
variable {P : Program}
theorem wp_region_grow {id : Nat} {Q : Exit → Act → World → Prop} {a : Act} {w : World} {l : List Oper} (hm : P.follows .mixedOrders = true) (hB : Region.lexB .any l.toArray = true)
    (h : wpQuiet P l.toArray (fun w' => ∃ x : Ext w, w' = x.1) (fun a' => ∀ w', Below w.heap.size w w' → Q .normal a' w') l a) : (Code.region id l.toArray true).wp P Q a w := by
  refine wp_region_quiet (C := fun w' => ∃ x : Ext w, w' = x.1) hm hB ⟨⟨w.drew, (Below.refl _ _).drew⟩, rfl⟩ ?_
  have h' : wpQuiet P l.toArray (fun w' => ∃ x : Ext w, w' = x.1) (fun a' => ∀ w', (∃ x : Ext w, w' = x.1) → Q .normal a' w') l a := by
    have e : (fun a' => ∀ w', Below w.heap.size w w' → Q .normal a' w') = (fun a' => ∀ w', (∃ x : Ext w, w' = x.1) → Q .normal a' w') := by
      funext a'
      apply propext
      constructor
      · rintro h w' ⟨x, rfl⟩; exact h _ x.2
      · intro h w' hb; exact h w' ⟨⟨w', hb⟩, rfl⟩
    rw [← e]; exact h
  simpa using h'
theorem wpList_of_quiet {ops : Array Oper} {C : World → Prop} {Q : Act → Prop} {Q' : Exit → Act → World → Prop} (hQ : ∀ a w, C w → Q a → Q' .normal a w) : ∀ (l : List Oper) (a : Act) (w : World), C w → wpQuiet P ops C Q l a → wpList P ops Q' l a w
  | [], a, w, hw, h => hQ a w hw h
  | o :: rest, a, w, hw, h => by
    unfold wpQuiet at h
    unfold wpList
    split at h
    · next hh =>
      rw [if_pos hh]
      exact Or.inl (Oper.wp_of_quiet hw (fun a' w' hw' h' => wpList_of_quiet hQ rest a' w' hw' h') h)
    · next hh =>
      rw [if_neg hh]
      exact wpList_of_quiet hQ rest _ w hw h
/-- The same for a region in the text's order. -/
theorem wp_region_seq {id : Nat} {Q : Exit → Act → World → Prop} {a : Act} {w : World} {l : List Oper}
    (h : wpQuiet P l.toArray (fun w' => ∃ x : Ext w, w' = x.1) (fun a' => ∀ w', Below w.heap.size w w' → Q .normal a' w') l a) : (Code.region id l.toArray false).wp P Q a w :=
  wp_region_lit (wpList_of_quiet (C := fun w' => ∃ x : Ext w, w' = x.1) (fun a' w' ⟨x, hx⟩ hq => hx ▸ hq x.1 x.2) l a w ⟨⟨w, Below.refl _ _⟩, rfl⟩ h)
theorem grow_of {f : FuncId} {args : Array Value} {w : World} {x : Ext w} {v : Value}
    (h : Calls P f args x.1 fun e w' => e = .returned v ∧ Below x.1.heap.size x.1 w') : Calls P f args x.1 fun e w'' => e = .returned v ∧ ∃ y : Ext w, w'' = y.1 :=
  h.mono fun _ w' ⟨he, hb⟩ => ⟨he, ⟨w', x.2.trans (hb.mono x.2.size)⟩, rfl⟩
theorem grow_same {f : FuncId} {args : Array Value} {w : World} {x : Ext w} {v : Value}
    (h : Calls P f args x.1 fun e w' => e = .returned v ∧ x.1 = w') : Calls P f args x.1 fun e w'' => e = .returned v ∧ ∃ y : Ext w, w'' = y.1 :=
  h.mono fun _ w' ⟨he, hb⟩ => ⟨he, x, hb.symm⟩
theorem ext_cell {w : World} {b o : Nat} {u : Value} (h : w.cell? ⟨b, o, none⟩ = some u) : ∀ x : Ext w, x.1.cell? ⟨b, o, none⟩ = some u := fun x => cell_on x.2 h
end
theorem has_block {wx wp : World} {m n sz : Nat} {cs : List Value} {e : TypeId} (hnew : wx.heap[wp.heap.size]? = some (.cells cs.toArray e (0, 0))) (hm : m = wp.heap.size) (hl : cs.length = n * sz) (hn : n ≤ maxLen) :
    Has wx sz (.slice (some ⟨m, 0, none⟩) n n) n cs := by
  subst hm
  refine ⟨⟨hl, fun n cap h => by simp at h⟩, _, n, rfl, Nat.le_refl _, hn, fun _ => ⟨_, 0, rfl, fun j u hu => ?_⟩⟩
  rw [cell_of_row wx _ _ _ _ _ hnew]; simpa using hu
end Go.Proofs.Ytkodpijedinanaa
