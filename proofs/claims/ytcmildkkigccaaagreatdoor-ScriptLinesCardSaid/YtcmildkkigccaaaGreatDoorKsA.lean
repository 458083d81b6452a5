/-
  The answers that the document fixes, by a run.
-/
import Derived.Test.YtcmildkkigccaaaGreatDoorKs
namespace Go.Proofs.YtcmildkkigccaaaGreatDoor.Run
open Go Go.Proofs Go.Proofs.YtcmildkkigccaaaGreatDoor
theorem awake_run (t : TypeId) : (callQ Tryz.prog extS dfrD hk0 glT 100000 7 [] (hT t)).map isTrue = some true := by kernel_rfl
theorem awake_calls (w : World) (ht : Lib.TabIs Tryz.prog w "math/bits.deBruijn64tab" .u8 (Lib.deBruijn64tab.map fun n : Nat => (n : Int))) :
    Calls Tryz.prog 7 #[] w (fun e W' => e = .returned (.bool true) ∧ Go.RowKit.Below w.heap.size w W') := by
  obtain ⟨t, hr⟩ := relT ht
  exact runQ_calls hk0_ok follows extS_ok ng dfrD_ok hr glT_ok .nil (roT t) (awake_run t)
end Go.Proofs.YtcmildkkigccaaaGreatDoor.Run
