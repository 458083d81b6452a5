import Derived.Test.YtiaegandgjgjhaaDoorProg
import Derived.Below
import Derived.Deep.Draws
import Derived.Deep.AppendLies
import Derived.Maps.AppendAt
import Derived.OwnWalk
import Derived.Laws.BytesArg
import Derived.Laws.MakeOwn
import Derived.Laws.OwnMore
import Derived.Deep.OwnRows
import Derived.Tactics
import Derived.Lib.ConvBytes
import Derived.Laws.Slices
import Derived.WalkKit
import Derived.KernelRfl
import Derived.RowKit3
import Derived.Deep.LoopGhost
import Derived.Deep.QuietTactic
import Derived.BigQuiet
import Derived.WideLaws
import Derived.Deep.DeepCutAuto
import Derived.Deep.CutBlock
import Derived.Deep.RegionHeld3
import Derived.Laws.Rows
import Derived.Lib.AppendStr
import Derived.ArgAppend
import Derived.Laws.IdiomCopy
import Derived.OrdersHeld
import Derived.Laws.BitsLemmas
import Derived.RowKit
import Derived.Test.YtiaegandgjgjhaaDoorWWords
import Derived.Test.YtiaegandgjgjhaaDoorWLast
import Derived.Test.YtiaegandgjgjhaaDoorWTab
import Derived.Test.YtiaegandgjgjhaaDoorWFour
import Derived.Test.YtiaegandgjgjhaaDoorWQPut
import Derived.Test.YtiaegandgjgjhaaDoorWApart
import Derived.Test.YtiaegandgjgjhaaDoorWArr
import Derived.Test.YtiaegandgjgjhaaDoorWZeros
import Derived.Test.YtiaegandgjgjhaaDoorWFoot
import Derived.Test.YtiaegandgjgjhaaDoorWKept
import Derived.Test.YtiaegandgjgjhaaDoorWShare
import Derived.Test.YtiaegandgjgjhaaDoorWN
import Derived.Test.YtiaegandgjgjhaaDoorWFootNe
import Derived.Test.YtiaegandgjgjhaaDoorWAt
import Derived.Test.YtiaegandgjgjhaaDoorWEqStruct
import Derived.Test.YtiaegandgjgjhaaDoorWRepsOne
import Derived.Test.YtiaegandgjgjhaaDoorWInv
import Derived.Test.YtiaegandgjgjhaaDoorWInvWords
import Derived.Test.YtiaegandgjgjhaaDoorWGuard
import Derived.Test.YtiaegandgjgjhaaDoorWNEv
import Derived.Test.YtiaegandgjgjhaaDoorWMore
namespace Go.Proofs.YtiaegandgjgjhaaDoor.PAll
open Go.RowKit Go.Proofs.YtiaegandgjgjhaaDoorW.PrintWords Go.Proofs.YtiaegandgjgjhaaDoorW.PrintLast Go.Proofs.YtiaegandgjgjhaaDoorW.PrintMore
attribute [local go_sem] max2_int min2_int max_two min_two max_three min_three max_four min_four   -- for this text's walks alone
set_option linter.unusedVariables false
set_option linter.unusedSimpArgs false



def errW : Option Int → Value
  | none => .nilIface
  | some c => .iface 0 (.int .i64 c)
theorem errW_none : errW none = .nilIface := rfl
theorem errW_some (c : Int) : errW (some c) = .iface 0 (.int .i64 c) := rfl

theorem info3 : (Tryd.prog.info? 3).map (fun i => (i.zero, i.size, i.bytes)) = some (some (.int .i64 0), 1, 8) := by kernel_rfl
-- the values' own types

-- NOT PRINTED: function 21 (pick_Set_turn)

-- NOT PRINTED: function 8 (pick_New)

-- NOT PRINTED: function 22 (pick_Set_asked)

-- NOT PRINTED: function 10 (pick_Set_Has)
end Go.Proofs.YtiaegandgjgjhaaDoor.PAll
