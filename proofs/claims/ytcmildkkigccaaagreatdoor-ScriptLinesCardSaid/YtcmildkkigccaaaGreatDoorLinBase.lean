import Derived.Test.YtcmildkkigccaaaGreatDoorProg
import Derived.Below
import Derived.Deep.Draws
import Derived.Deep.AppendLies
import Derived.Maps.AppendAt
import Derived.OwnWalk
import Derived.Laws.BytesArg
import Derived.Laws.MakeOwn
import Derived.Laws.OwnMore
import Derived.Deep.OwnRows
import Derived.Tactics
import Derived.Lib.ConvBytes
import Derived.Laws.Slices
import Derived.WalkKit
import Derived.KernelRfl
import Derived.RowKit3
import Derived.Deep.LoopGhost
import Derived.Deep.QuietTactic
import Derived.BigQuiet
import Derived.WideLaws
import Derived.Deep.DeepCutAuto
import Derived.Deep.CutBlock
import Derived.Deep.RegionHeld3
import Derived.Laws.Rows
import Derived.Lib.AppendStr
import Derived.ArgAppend
import Derived.Laws.IdiomCopy
import Derived.OrdersHeld
import Derived.Laws.BitsLemmas
import Derived.RowKit
import Derived.Test.YtcmildkkigccaaaGreatDoorWWords
import Derived.Test.YtcmildkkigccaaaGreatDoorWLast
import Derived.Test.YtcmildkkigccaaaGreatDoorWTab
import Derived.Test.YtcmildkkigccaaaGreatDoorWFour
import Derived.Test.YtcmildkkigccaaaGreatDoorWQPut
import Derived.Test.YtcmildkkigccaaaGreatDoorWApart
import Derived.Test.YtcmildkkigccaaaGreatDoorWArr
import Derived.Test.YtcmildkkigccaaaGreatDoorWZeros
import Derived.Test.YtcmildkkigccaaaGreatDoorWFoot
import Derived.Test.YtcmildkkigccaaaGreatDoorWKept
import Derived.Test.YtcmildkkigccaaaGreatDoorWShare
import Derived.Test.YtcmildkkigccaaaGreatDoorWN
import Derived.Test.YtcmildkkigccaaaGreatDoorWFootNe
import Derived.Test.YtcmildkkigccaaaGreatDoorWAt
import Derived.Test.YtcmildkkigccaaaGreatDoorWEqStruct
import Derived.Test.YtcmildkkigccaaaGreatDoorWRepsOne
import Derived.Test.YtcmildkkigccaaaGreatDoorWInv
import Derived.Test.YtcmildkkigccaaaGreatDoorWInvWords
import Derived.Test.YtcmildkkigccaaaGreatDoorWGuard
import Derived.Test.YtcmildkkigccaaaGreatDoorWNEv
import Derived.Test.YtcmildkkigccaaaGreatDoorWMore
namespace Go.Proofs.YtcmildkkigccaaaGreatDoor.PLin
open Go.RowKit Go.Proofs.YtcmildkkigccaaaGreatDoorW.PrintWords Go.Proofs.YtcmildkkigccaaaGreatDoorW.PrintLast Go.Proofs.YtcmildkkigccaaaGreatDoorW.PrintMore
attribute [local go_sem] max2_int min2_int max_two min_two max_three min_three max_four min_four   -- for this text's walks alone
set_option linter.unusedVariables false
set_option linter.unusedSimpArgs false



def errW : Option Int → Value
  | none => .nilIface
  | some c => .iface 0 (.int .i64 c)
theorem errW_none : errW none = .nilIface := rfl
theorem errW_some (c : Int) : errW (some c) = .iface 0 (.int .i64 c) := rfl

theorem info5 : (Tryz.prog.info? 5).map (fun i => (i.zero, i.size, i.bytes)) = some (some (.int .u8 0), 1, 1) := by kernel_rfl
-- the values' own types


end Go.Proofs.YtcmildkkigccaaaGreatDoor.PLin
