/-
  The library's table stands through calls that keep what there was.
-/
import Derived.Test.YtcmildkkigccaaaGreatDoorAllBase
import Derived.Test.YtcmildkkigccaaaGreatDoorKsA
import Derived.Lib.LaidTab
namespace Go.Proofs.YtcmildkkigccaaaGreatDoor.PAll
open Go.RowKit
set_option linter.unusedVariables false
/-- math/bits' table. -/
def Tab (w : World) : Prop := Lib.TabIs Tryz.prog w "math/bits.deBruijn64tab" .u8 (Lib.deBruijn64tab.map fun n : Nat => (n : Int))
theorem Tab.below {w w' : World} (h : Tab w) (hb : Below w.heap.size w w') : Tab w' := by
  unfold Tab Lib.TabIs World.var? at *
  cases hg : Tryz.prog.globalNamed "math/bits.deBruijn64tab" with
  | none => simp [hg] at h
  | some g =>
    simp only [hg, Option.bind_some] at h ⊢
    rcases Nat.lt_or_ge g w.heap.size with hlt | hge
    · rw [hb.block g hlt]; exact h
    · rw [Array.getElem?_eq_none hge] at h; cases h
/-- awake, wherever it is called. -/
theorem awake_at {w W : World} (ht : Tab w) (hb : Below w.heap.size w W) : Calls Tryz.prog 7 #[] W (fun e W' => e = .returned (.bool true) ∧ Below w.heap.size w W') :=
  (Run.awake_calls W (ht.below hb)).mono fun e W' h => ⟨h.1, hb.trans (h.2.mono hb.size)⟩
end Go.Proofs.YtcmildkkigccaaaGreatDoor.PAll
