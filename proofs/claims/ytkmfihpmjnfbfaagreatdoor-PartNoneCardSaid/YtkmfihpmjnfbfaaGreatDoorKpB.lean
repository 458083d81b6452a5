/-
  PartNone: what stands ahead of its first test; the call that the test asks; the two ways.
-/
import Derived.Test.YtkmfihpmjnfbfaaGreatDoorKpA
import Derived.Test.YtkmfihpmjnfbfaaGreatDoorSpc
namespace Go.Proofs.YtkmfihpmjnfbfaaGreatDoor.Run
open Go Go.Proofs Go.Proofs.YtkmfihpmjnfbfaaGreatDoor
set_option linter.unusedSimpArgs false
noncomputable def bodyP : Code := (Tryz.f3.body).getD .skip
theorem body3 : Tryz.f3.body = some bodyP := by kernel_rfl
def isG3 (l : List Value) : Bool := match l with
  | [.agg cs, .slice none 0 0] => (match cs.toList with
    | [.chan none, .chan none, .chan none] => true
    | _ => false)
  | _ => false
abbrev evV (e1 e2 e3 : Int) : Value := .agg #[.int .i64 e1, .int .i64 e2, .int .u32 e3]
def cfV : Value := .agg #[ghostV, ghostV, ghostV]
noncomputable abbrev callP : CallR := callQ Tryz.prog ext0 dfrD hkP glT 100000
noncomputable abbrev roundP : RoundR := callQ.goQ Tryz.prog ext0 dfrD hkP glT 100000
noncomputable def stP (t : TypeId) (e1 e2 e3 : Int) : St := ⟨Tr.ofFrom [evV e1 e2 e3, cfV] 0 .e, hT t, [], Tryz.f3.ntmps, false⟩
noncomputable def preP (t : TypeId) (e1 e2 e3 : Int) : Option (St × Option Tmp) := preB Tryz.prog ext0 glT callP roundP 3 100000 1 1 bodyP 5 isG3 (stP t e1 e2 e3)
noncomputable def rP (t : TypeId) (e1 e2 e3 : Int) : St × Option Tmp := (preP t e1 e2 e3).getD (⟨.e, hN, [], 0, false⟩, none)
theorem preP_is (t : TypeId) (e1 e2 e3 : Int) : preP t e1 e2 e3 = some (rP t e1 e2 e3) := by kernel_rfl
end Go.Proofs.YtkmfihpmjnfbfaaGreatDoor.Run
