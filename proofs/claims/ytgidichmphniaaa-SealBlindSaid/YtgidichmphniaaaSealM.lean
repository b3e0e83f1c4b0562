/- Package seal: the map of ways, letters and the office in memory. -/
import Derived.Test.YtgidichmphniaaaChc
import Derived.Test.YtgidichmphniaaaU8
import Derived.Maps.Own
import Derived.Maps.OwnOps
import Derived.Maps.Views
import Derived.WideKeyPair
import Derived.DeepKeys4
namespace Go.Proofs.Ytgidichmphniaaa
open Go.ChangeShapes Go.WideShapes Go.ChangeAt Go.RowKit
set_option linter.unusedVariables false
set_option linter.unusedSimpArgs false

theorem arrKey : WideMaps.ArrKey Try.prog 60 3 2 := ⟨Try.underlying60, by kernel_rfl, by kernel_rfl, by kernel_rfl⟩
theorem sizeSome : ∃ m, Try.prog.types.size = m + 1 := ⟨Try.prog.types.size - 1, by
  have : 0 < Try.prog.types.size := by decide +kernel
  omega⟩
theorem pairKeyed : Maps.Keyed Try.prog 60 := Maps.Keyed.of_law (deep_law_laid (by kernel_rfl) (m := 5) (by omega) (by decide +kernel) (by kernel_rfl) (by rw [Try.underlying60]))
/-- What a pair reads as, as a key. -/
def pk (a b : Int) : Lit := .string (keyBytes [.int .i64 a, .int .i64 b])
theorem pk_of {a b : Int} (ha : (Lit.int .i64 a).wf = true) (hb : (Lit.int .i64 b).wf = true) : keyOf Try.prog 60 (.agg #[.int .i64 a, .int .i64 b]) = some (pk a b) :=
  WideMaps.keyOf_pair arrKey Try.underlying3 sizeSome ha hb
theorem pk_inj {a b c d : Int} (ha : (Lit.int .i64 a).wf = true) (hb : (Lit.int .i64 b).wf = true) (hc : (Lit.int .i64 c).wf = true) (hd : (Lit.int .i64 d).wf = true) (h : pk a b = pk c d) : a = c ∧ b = d := by
  have h1 := pk_of ha hb
  rw [h] at h1
  have := pairKeyed.inj h1 (pk_of hc hd)
  simpa using this
theorem zeroInt (w : World) : (zeroValue 3).run Try.prog w = .ok (.int .i64 0) w := by kernel_rfl
def updW (f : Int → Int → Int) (a b v : Int) : Int → Int → Int := fun x y => if x = a ∧ y = b then v else f x y
/-- Block b is a map of at most n ways; f: what stands at each. -/
def Ways (w : World) (b n : Nat) (f : Int → Int → Int) : Prop :=
  ∃ D : DataW Unit, w.ownsMap Try.prog 60 (plainElem Try.prog 3) b n D ∧ Maps.IsMap D ∧ ∀ x y, (Lit.int .i64 x).wf = true → (Lit.int .i64 y).wf = true → D.atKey (pk x y) (.lit (.int .i64 0)) = .lit (.int .i64 (f x y))
theorem Ways.made (w : World) : Ways (w.alloc (.map #[] 0)) w.heap.size 0 fun _ _ => 0 :=
  ⟨.map [], World.ownsMap_made _ _ _ _, Maps.isMap_empty, fun x y _ _ => rfl⟩
theorem Ways.kept {w w' : World} {b n : Nat} {f : Int → Int → Int} (h : Ways w b n f) (hb : w'.heap[b]? = w.heap[b]?) : Ways w' b n f := by
  obtain ⟨D, ⟨es, c, h1, h2, h3, h4⟩, hm, hD⟩ := h
  exact ⟨D, ⟨es, c, by rw [hb]; exact h1, h2, h3, h4⟩, hm, hD⟩
theorem Ways.block {w : World} {b n : Nat} {f : Int → Int → Int} (h : Ways w b n f) : ∃ es c, w.heap[b]? = some (.map es c) := by
  obtain ⟨D, ⟨es, c, h1, _⟩, _⟩ := h
  exact ⟨es, c, h1⟩
theorem Ways.lt {w : World} {b n : Nat} {f : Int → Int → Int} (h : Ways w b n f) : b < w.heap.size := by
  obtain ⟨es, c, h⟩ := h.block
  exact (Array.getElem?_eq_some_iff.1 h).1
theorem Ways.look {w : World} {b n : Nat} {f : Int → Int → Int} (h : Ways w b n f) {x y : Int} (hx : (Lit.int .i64 x).wf = true) (hy : (Lit.int .i64 y).wf = true) :
    (Instr.lookup 49 (.map (some b)) (.agg #[.int .i64 x, .int .i64 y]) false).run Try.prog w = .ok (.int .i64 (f x y)) w := by
  obtain ⟨D, h1, hm, hD⟩ := h
  obtain ⟨c, hr, hat, _⟩ := h1.lookup_int pairKeyed Try.underlying49 Try.underlying3 (zeroInt w) (pk_of hx hy)
  rw [hD x y hx hy] at hat
  simp only [DataW.lit.injEq, Lit.int.injEq, true_and] at hat
  rw [hat]; exact hr
theorem Ways.store {w : World} {b n : Nat} {f : Int → Int → Int} (h : Ways w b n f) (hn : n < maxLen) {x y v : Int} (hx : (Lit.int .i64 x).wf = true) (hy : (Lit.int .i64 y).wf = true) (hv : (Lit.int .i64 v).wf = true) :
    ∃ w', (Instr.mapUpdate 49 (.map (some b)) (.agg #[.int .i64 x, .int .i64 y]) (.int .i64 v)).run Try.prog w = .ok () w' ∧ Ways w' b (n + 1) (updW f x y v) ∧ w.grownBy w' (some b) := by
  obtain ⟨D, h1, hm, hD⟩ := h
  obtain ⟨w', hr, ho, hg⟩ := h1.update pairKeyed Try.underlying49 hn (pk_of hx hy) (plainElem_int Try.underlying3 hv)
  refine ⟨w', hr, ⟨_, ho, hm.put _ _, fun x' y' hx' hy' => ?_⟩, hg⟩
  unfold updW
  by_cases e : x' = x ∧ y' = y
  · obtain ⟨rfl, rfl⟩ := e
    rw [if_pos ⟨rfl, rfl⟩, Maps.atKey_put_same hm (pairKeyed.key (pk_of hx hy))]
  · rw [if_neg e, Maps.atKey_put_other (fun hh => e (pk_inj hx' hy' hx hy hh)), hD x' y' hx' hy']
end Go.Proofs.Ytgidichmphniaaa
