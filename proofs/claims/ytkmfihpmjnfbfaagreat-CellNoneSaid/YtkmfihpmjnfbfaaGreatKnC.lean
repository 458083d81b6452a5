/-
  CellNone, run: it answers true whatever its arguments hold.
-/
import Derived.Test.YtkmfihpmjnfbfaaGreatKnCa
namespace Go.Proofs.YtkmfihpmjnfbfaaGreat.Run
open Go Go.Proofs Go.Proofs.YtkmfihpmjnfbfaaGreat
theorem cellNone_run0 (e1 e2 e3 : Int) (a : Nat) : (callQ Tryz.prog extM dfrZ (hkT 16) gl0 100000 3 [.agg #[.int .i64 e1, .int .i64 e2, .int .u32 e3], .int .i64 (.ofNat a)] hN).map isTrue = some true := by kernel_rfl
theorem cellNone_run1 (e1 e2 e3 : Int) : (callQ Tryz.prog extM dfrZ (hkT 16) gl0 100000 3 [.agg #[.int .i64 e1, .int .i64 e2, .int .u32 e3], .int .i64 (.negSucc 0)] hN).map isTrue = some true := by kernel_rfl
theorem cellNone_run2 (e1 e2 e3 : Int) (a : Nat) : (callQ Tryz.prog extM dfrZ (hkT 16) gl0 100000 3 [.agg #[.int .i64 e1, .int .i64 e2, .int .u32 e3], .int .i64 (.negSucc (Nat.succ a))] hN).map isTrue = some true := by kernel_rfl
theorem cellNone_run (e1 e2 e3 a : Int) : (callQ Tryz.prog extM dfrZ (hkT 16) gl0 100000 3 [.agg #[.int .i64 e1, .int .i64 e2, .int .u32 e3], .int .i64 a] hN).map isTrue = some true := by
  cases a with
  | ofNat a => exact cellNone_run0 e1 e2 e3 a
  | negSucc a => cases a with
    | zero => exact cellNone_run1 e1 e2 e3
    | succ a => exact cellNone_run2 e1 e2 e3 a
theorem cellNone_calls (e1 e2 e3 a : Int) (w : World) : Calls Tryz.prog 3 #[.agg #[.int .i64 e1, .int .i64 e2, .int .u32 e3], .int .i64 a] w (fun e W' => e = .returned (.bool true) ∧ Go.RowKit.Below w.heap.size w W') :=
  runQ_calls (hkT_ok hk0_ok follows extM_ok ng dfrZ_ok (fun g b h => by cases h) cellAwake_run) follows extM_ok ng dfrZ_ok relN (fun g b h => by cases h) (.cons (.fl rfl) (.cons (.fl rfl) .nil)) (fun b j h => by cases h) (cellNone_run e1 e2 e3 a)
end Go.Proofs.YtkmfihpmjnfbfaaGreat.Run
