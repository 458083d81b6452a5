/-
  KernelNone, run: it answers true whatever its arguments hold.
-/
import Derived.Test.YtkmfihpmjnfbfaaGreatDoorKd
namespace Go.Proofs.YtkmfihpmjnfbfaaGreatDoor.Run
open Go Go.Proofs Go.Proofs.YtkmfihpmjnfbfaaGreatDoor
theorem kernelNone_run (t : TypeId) (e1 e2 e3 a b : Int) : (callQ Tryz.prog ext0 dfrD hkG glT 100000 4 [.agg #[.int .i64 e1, .int .i64 e2, .int .u32 e3], .int .i64 a, .int .i64 b] (hT t)).map isTrue = some true := by kernel_rfl
end Go.Proofs.YtkmfihpmjnfbfaaGreatDoor.Run
