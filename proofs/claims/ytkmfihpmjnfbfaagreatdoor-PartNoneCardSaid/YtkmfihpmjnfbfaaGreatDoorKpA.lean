/-
  PartNone: closed calls that it comes to, each in a run of its own.
-/
import Derived.Test.YtkmfihpmjnfbfaaGreatDoorKd
import Derived.Test.YtkmfihpmjnfbfaaGreatDoorHof
namespace Go.Proofs.YtkmfihpmjnfbfaaGreatDoor.Run
open Go Go.Proofs Go.Proofs.YtkmfihpmjnfbfaaGreatDoor
def wgV (a b c : Bool) (n : Int) : Value := .tuple #[.agg #[.bool a, .bool b, .bool c, .int .i64 n], .int .i64 0]
theorem wg0 : (callQ Tryz.prog ext0 dfrD hk0 gl0 100000 235 [.int .u32 0] hN).map (·.1) = some (wgV false false false 0) := by kernel_rfl
theorem wg1 : (callQ Tryz.prog ext0 dfrD hk0 gl0 100000 235 [.int .u32 515] hN).map (·.1) = some (wgV true true false 2) := by kernel_rfl
theorem wg2 : (callQ Tryz.prog ext0 dfrD hk0 gl0 100000 235 [.int .u32 259] hN).map (·.1) = some (wgV true true false 1) := by kernel_rfl
def raA : List Value := [.slice none 0 0, .agg #[.int .i64 0, .int .i64 2, .bool true]]
def raL : List Value := [.int .i64 0, .int .i64 2, .bool true]
theorem ra0 : (callQ Tryz.prog ext0 dfrD hk0 gl0 100000 205 raA hN).map (isRow 283 1 raL (.int .i64 0)) = some true := by kernel_rfl
def hkP : CallR := hkOr (hkF 235 [.int .u32 0] (wgV false false false 0)) (hkOr (hkF 235 [.int .u32 515] (wgV true true false 2)) (hkOr (hkF 235 [.int .u32 259] (wgV true true false 1)) (hkS 205 raA 283 1 raL (.int .i64 0))))
theorem gl0_ok : GlOk ρN gl0 := fun g b h => by cases h
theorem hkP_ok {gl : Gl} : CallOk Tryz.prog gl hkP :=
  hkOr_ok (hkF_ok hk0_ok follows ext0_ok ng dfrD_ok gl0_ok rfl rfl wg0) (hkOr_ok (hkF_ok hk0_ok follows ext0_ok ng dfrD_ok gl0_ok rfl rfl wg1) (hkOr_ok (hkF_ok hk0_ok follows ext0_ok ng dfrD_ok gl0_ok rfl rfl wg2)
    (hkS_ok hk0_ok follows ext0_ok ng dfrD_ok gl0_ok rfl rfl rfl ra0)))
end Go.Proofs.YtkmfihpmjnfbfaaGreatDoor.Run
