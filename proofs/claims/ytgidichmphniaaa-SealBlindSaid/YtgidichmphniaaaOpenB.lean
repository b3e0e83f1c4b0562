/- A '[]byte' argument. -/
import Derived.Test.YtgidichmphniaaaOpenR
import Derived.Test.YtgidichmphniaaaU8
namespace Go.Proofs.Ytgidichmphniaaa
open Go.ChangeShapes Go.WideShapes Go.ChangeAt Go.RowKit Go.Joins Go.Deep
set_option linter.unusedVariables false
theorem u8s_flat (l : List Nat) : l.flatMap (fun b : Nat => [Value.int .u8 (b : Int)]) = u8s l := by
  induction l with
  | nil => rfl
  | cons a t ih => rw [List.flatMap_cons, ih]; rfl
theorem read_u8 {H : Type} {enc : TypeId × Value → H} {P : Program} {W : World} {sp : Nat → Bool} {e : TypeId} (he : P.underlying e = some (.int .u8)) (n : Nat) (cs : List Value) (y : DataW H × List MemPlace) (hl : cs.length = 1) (h : DataW.trod enc P W 0 sp true n e cs = some y) :
    ∃ b : Nat, cs = [Value.int .u8 (b : Int)] ∧ b < 256 := by
  obtain ⟨z, rfl, _, hw⟩ := DataW.trod_int he h
  have hz : 0 ≤ z ∧ z ≤ 255 := by simpa [Lit.wf, IntKind.min, IntKind.max, IntKind.signed, IntKind.bits] using hw
  obtain ⟨b, rfl⟩ := Int.eq_ofNat_of_zero_le hz.1
  exact ⟨b, rfl, by omega⟩
theorem open_has_u8 {H : Type} {enc : TypeId × Value → H} {P : Program} {W : World} {sp : Nat → Bool} {t e : TypeId} {base : Nat} {v : Value} {d : DataW H} {ps : List MemPlace} (ht : P.underlying t = some (.slice e)) (he : P.underlying e = some (.int .u8)) (hC : P.cellsOf e = 1)
    (hval : Value.okWide P W .any base t v) (h : DataW.Trod enc P W 0 sp true t v d ps) : ∃ bs : List Nat, Has W 1 v bs.length (u8s bs) ∧ ∀ b ∈ bs, b < 256 := by
  obtain ⟨l, h1, h2⟩ := open_row (fun b : Nat => [Value.int .u8 (b : Int)]) (fun b => b < 256) 1 (fun _ => rfl) (by decide) ht hC (read_u8 he) hval h
  rw [u8s_flat] at h1
  exact ⟨l, h1, h2⟩
end Go.Proofs.Ytgidichmphniaaa
