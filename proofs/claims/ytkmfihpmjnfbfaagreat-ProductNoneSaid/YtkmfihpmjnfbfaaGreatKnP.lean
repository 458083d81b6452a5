/-
  ProductNone, run: it answers true whatever its arguments hold.
-/
import Derived.Test.YtkmfihpmjnfbfaaGreatKb
namespace Go.Proofs.YtkmfihpmjnfbfaaGreat.Run
open Go Go.Proofs Go.Proofs.YtkmfihpmjnfbfaaGreat
theorem productNone_run (e1 e2 e3 a b : Int) : (callQ Tryz.prog ext0 dfrZ hk0 gl0 100000 4 [.agg #[.int .i64 e1, .int .i64 e2, .int .u32 e3], .int .i64 a, .int .i64 b] hN).map isTrue = some true := by kernel_rfl
theorem productNone_calls (e1 e2 e3 a b : Int) (w : World) : Calls Tryz.prog 4 #[.agg #[.int .i64 e1, .int .i64 e2, .int .u32 e3], .int .i64 a, .int .i64 b] w (fun e W' => e = .returned (.bool true) ∧ Go.RowKit.Below w.heap.size w W') :=
  runQ_calls hk0_ok follows ext0_ok ng dfrZ_ok relN (fun g b h => by cases h) (.cons (.fl rfl) (.cons (.fl rfl) (.cons (.fl rfl) .nil))) (fun b j h => by cases h) (productNone_run e1 e2 e3 a b)
end Go.Proofs.YtkmfihpmjnfbfaaGreat.Run
