/- WorldSwaps: the walk. -/
import Derived.Deep.RegionHeld3
import Derived.BigQuiet
import Derived.Test.YtjdedflfdlhkdaaGreatDoorWEnded
import Derived.Test.YtjdedflfdlhkdaaGreatDoorWSure
import Derived.Test.YtjdedflfdlhkdaaGreatDoorSwapM
import Derived.Test.YtjdedflfdlhkdaaGreatDoorSameI
import Derived.Test.YtjdedflfdlhkdaaGreatDoorSame
import Derived.Test.YtjdedflfdlhkdaaGreatDoorSameE
import Derived.Test.YtjdedflfdlhkdaaGreatDoorPurGet
namespace Go.Proofs.YtjdedflfdlhkdaaGreatDoor.worldSwaps
open Go.ChangeShapes Go.WideShapes Go.ChangeAt Go.RowKit
set_option linter.unusedVariables false
set_option linter.unusedSimpArgs false

theorem stps_two (S : List Stp) (i j : Nat) : stps S ++ [.int .i64 10, .int .i64 0, .int .i64 0, .int .i64 0, .int .i64 0, .int .i64 (i : Int), .int .i64 0, .int .i64 0, .int .i64 10, .int .i64 0, .int .i64 0, .int .i64 0, .int .i64 0, .int .i64 (j : Int), .int .i64 0, .int .i64 0] = stps (S ++ [dlv i, dlv j]) := by
  have e : S ++ [dlv i, dlv j] = (S ++ [dlv i]) ++ [dlv j] := by simp
  rw [e, stps_snoc, stps_snoc, List.append_assoc]; rfl
theorem stps_app (S R : List Stp) : stps S ++ stps R = stps (S ++ R) := by simp [stps]
theorem two_all (i j : Int) : ([.int .i64 10, .int .i64 0, .int .i64 0, .int .i64 0, .int .i64 0, .int .i64 i, .int .i64 0, .int .i64 0, .int .i64 10, .int .i64 0, .int .i64 0, .int .i64 0, .int .i64 0, .int .i64 j, .int .i64 0, .int .i64 0] : List Value).all Value.oneCell' = true := rfl
def regionOf (n : Nat) : Code → Option Code
  | .region m o b => if Nat.beq m n then some (.region m o b) else none
  | .loop c => regionOf n c
  | .seq a b => match regionOf n a with
    | some c => some c
    | none => regionOf n b
  | .block _ c => regionOf n c
  | .scope c => regionOf n c
  | .cond _ a b => match regionOf n a with
    | some c => some c
    | none => regionOf n b
  | _ => none
@[reducible] def SPd (c : Cfg) (gl cl gm B BX BY nx ny : Nat) (Y : World) : Prop := Y.cell? ⟨B, 0, none⟩ = some (.int .i64 c.n) ∧ Y.cell? ⟨B, 1, none⟩ = some (.slice (some ⟨gl, 0, none⟩) 3 cl) ∧ Y.cell? ⟨B, 2, none⟩ = some (.int .i64 c.ticks) ∧ Y.cell? ⟨B, 3, none⟩ = some (.slice (some ⟨gm, 0, none⟩) 2 2) ∧ Y.cell? ⟨B, 4, none⟩ = some (.int .i64 c.cap) ∧ Y.cell? ⟨BX, 0, none⟩ = some (.int .i64 10) ∧ Y.cell? ⟨BX, 1, none⟩ = some (.int .i64 0) ∧ Y.cell? ⟨BX, 2, none⟩ = some (.int .i64 0) ∧ Y.cell? ⟨BX, 3, none⟩ = some (.int .i64 0) ∧ Y.cell? ⟨BX, 4, none⟩ = some (.int .i64 0) ∧ Y.cell? ⟨BX, 5, none⟩ = some (.int .i64 nx) ∧ Y.cell? ⟨BX, 6, none⟩ = some (.int .i64 0) ∧ Y.cell? ⟨BX, 7, none⟩ = some (.int .i64 0) ∧ Y.cell? ⟨BY, 0, none⟩ = some (.int .i64 10) ∧ Y.cell? ⟨BY, 1, none⟩ = some (.int .i64 0) ∧ Y.cell? ⟨BY, 2, none⟩ = some (.int .i64 0) ∧ Y.cell? ⟨BY, 3, none⟩ = some (.int .i64 0) ∧ Y.cell? ⟨BY, 4, none⟩ = some (.int .i64 0) ∧ Y.cell? ⟨BY, 5, none⟩ = some (.int .i64 ny) ∧ Y.cell? ⟨BY, 6, none⟩ = some (.int .i64 0) ∧ Y.cell? ⟨BY, 7, none⟩ = some (.int .i64 0)
noncomputable def regionIn (n : Nat) (c : Option Code) : Code := (c.bind (regionOf n)).getD .skip
end Go.Proofs.YtjdedflfdlhkdaaGreatDoor.worldSwaps
