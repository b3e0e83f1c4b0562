/- A '[][]byte' argument. -/
import Derived.Test.YtgidichmphniaaaOpenMail
namespace Go.Proofs.Ytgidichmphniaaa
open Go.ChangeShapes Go.WideShapes Go.ChangeAt Go.RowKit Go.Joins Go.Deep
set_option linter.unusedVariables false
def OneOf (W : World) (v : Value) (d : List Nat) : Prop := Has W 1 v d.length (u8s d)
theorem flat_one (l : List Value) : l.flatMap (fun v => [v]) = l := by simp
set_option maxRecDepth 100000 in
theorem open_bytes {H : Type} {enc : TypeId × Value → H} {W : World} {sp : Nat → Bool} {base : Nat} {v : Value} {d : DataW H} {ps : List MemPlace}
    (hval : Value.okWide Try.prog W .any base 38 v) (h : DataW.Trod enc Try.prog W 0 sp true 38 v d ps) : ∃ vs : List Value, ∃ ds : List (List Nat), Has W 1 v ds.length vs ∧ Both (OneOf W) vs ds := by
  obtain ⟨vs, h1, h2⟩ := open_row (fun v : Value => [v]) (fun v => ∃ d, OneOf W v d) 1 (fun _ => rfl) (by omega) Try.underlying38 (by kernel_rfl) (fun n cs y hl hr => by
    match cs, hl with
    | [c0], _ =>
      obtain ⟨bs, hb, _⟩ := open_cells (fun b : Nat => [Value.int .u8 (b : Int)]) (fun b => b < 256) 1 (fun _ => rfl) (by decide) Try.underlying30 (by kernel_rfl) (read_u8 Try.underlying5) hr
      rw [u8s_flat] at hb
      exact ⟨c0, rfl, bs, hb⟩) hval h
  rw [flat_one] at h1
  obtain ⟨ds, hd⟩ := both_of vs h2
  exact ⟨vs, ds, by rw [← hd.1]; exact h1, hd⟩
end Go.Proofs.Ytgidichmphniaaa
