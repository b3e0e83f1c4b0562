/- The order of lists of entries. -/
import Derived.Test.YtgmichaconnhaaaLbs
import Derived.Test.YtgmichaconnhaaaJoin
namespace Go.Proofs.Ytgmichaconnhaaa
open Go.ChangeShapes Go.WideShapes Go.ChangeAt Go.RowKit
set_option linter.unusedVariables false
set_option linter.unusedSimpArgs false

/-- Has b what a has? -/
def Le (a b : List Ent) : Prop := mergeL b a = b
section
variable {a b c : List Ent}
theorem Le.refl (h : MayL a) : Le a a := mergeL_idem h
theorem Le.trans (ha : MayL a) (hb : MayL b) (hc : MayL c) (h : Le a b) (k : Le b c) : Le a c := by
  unfold Le at *
  rw [← k, mergeL_assoc hc hb ha, h]
theorem Le.left (ha : MayL a) (hb : MayL b) : Le a (mergeL a b) := by
  unfold Le
  rw [mergeL_comm ha hb]
  exact mergeL_absorb hb ha
theorem Le.right (ha : MayL a) (hb : MayL b) : Le b (mergeL a b) := mergeL_absorb ha hb
theorem Le.lub (ha : MayL a) (hb : MayL b) (hc : MayL c) (h : Le a c) (k : Le b c) : Le (mergeL a b) c := by
  unfold Le at *
  rw [← mergeL_assoc hc ha hb, h, k]
theorem Le.anti (ha : MayL a) (hb : MayL b) (h : Le a b) (k : Le b a) : a = b := by
  unfold Le at *
  rw [← k, mergeL_comm ha hb, h]
end
end Go.Proofs.Ytgmichaconnhaaa
