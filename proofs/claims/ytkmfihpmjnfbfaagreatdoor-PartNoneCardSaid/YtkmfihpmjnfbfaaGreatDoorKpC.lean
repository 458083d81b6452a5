/-
  PartNone: the configuration is too long.
-/
import Derived.Test.YtkmfihpmjnfbfaaGreatDoorKpB
namespace Go.Proofs.YtkmfihpmjnfbfaaGreatDoor.Run
open Go Go.Proofs Go.Proofs.YtkmfihpmjnfbfaaGreatDoor
theorem restP1 (t : TypeId) (e1 e2 e3 : Int) : (restB Tryz.prog ext0 dfrD glT callP roundP 3 100000 (tailC 1 bodyP) Tryz.f3.results.toList true (rP t e1 e2 e3)).map isTrue = some true := by kernel_rfl
end Go.Proofs.YtkmfihpmjnfbfaaGreatDoor.Run
