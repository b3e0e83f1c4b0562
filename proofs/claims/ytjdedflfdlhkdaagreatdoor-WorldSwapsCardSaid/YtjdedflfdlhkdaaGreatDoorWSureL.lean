/- World, plain: the small world of the laws' WorldSure. -/
import Derived.Test.YtjdedflfdlhkdaaGreatDoorKal
import Derived.Test.YtjdedflfdlhkdaaGreatDoorKau
namespace Go.Proofs.YtjdedflfdlhkdaaGreatDoor
set_option linter.unusedVariables false
set_option linter.unusedSimpArgs false
def cfgS : Cfg := ⟨1, [], 1, [5], 3⟩
def stepsS : List Stp := [⟨1, 0, 0, 2, 0, 0, 0, 0⟩, ⟨9, 0, 0, 0, 0, 0, 0, 0⟩, ⟨10, 0, 0, 0, 0, 0, 0, 0⟩, ⟨9, 0, 0, 0, 0, 0, 0, 0⟩, ⟨10, 0, 0, 0, 0, 3, 0, 0⟩, ⟨2, 0, 0, 1, 0, 0, 0, 0⟩]
theorem sure1 : ((wFold cfgS stepsS).2.getD 1 (noT 0)).sent.length = 2 := by decide +kernel
theorem sure2 : ((wFold cfgS stepsS).2.getD 1 (noT 0)).report = [5] := by decide +kernel
theorem sure3 : ((wFold cfgS stepsS).2.getD 4 (noT 0)).who = 0 := by decide +kernel
theorem sure4 : ((wFold cfgS stepsS).2.getD 5 (noT 0)).code = 0 := by decide +kernel
theorem sure5 : ((wFold cfgS stepsS).2.getD 5 (noT 0)).stk.free = 1 := by decide +kernel
theorem sure6 : ((wFold cfgS stepsS).2.getD 5 (noT 0)).stk.used = 1 := by decide +kernel
end Go.Proofs.YtjdedflfdlhkdaaGreatDoor
