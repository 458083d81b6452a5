/-
  CellNone, run: it answers true whatever its arguments hold; its last call in a run of its own.
-/
import Derived.Test.YtkmfihpmjnfbfaaGreatHok
import Derived.Test.YtkmfihpmjnfbfaaGreatKb
namespace Go.Proofs.YtkmfihpmjnfbfaaGreat.Run
open Go Go.Proofs Go.Proofs.YtkmfihpmjnfbfaaGreat
theorem cellAwake_run : (callQ Tryz.prog extM dfrZ hk0 gl0 100000 16 [] hN).map isTrue = some true := by kernel_rfl
end Go.Proofs.YtkmfihpmjnfbfaaGreat.Run
