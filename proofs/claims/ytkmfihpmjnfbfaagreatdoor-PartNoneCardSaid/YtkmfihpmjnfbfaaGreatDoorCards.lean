/-
  DERIVED. GIVEN WITH THE SEED: THE CARDS: each row of YtkmfihpmjnfbfaaGreatDoorRows.lean that lists a variable, with what it lists TIED to the program's text (the seventh form; the later family's looks); each row that meets fmt, with fmt's text TOLD by the authors' own Lean function (tested against real Go, not proved from fmt's source: count such statements apart). THE CARD IS WHAT COUNTS. Prove the row's statement (the work); the ties are given (YtkmfihpmjnfbfaaGreatDoorTie.lean); close each card by the builder's one call (the guide's Derived/Test/ToyasCard.lean, 'card_holds'). Laid BY PROGRAM, IN A SANDBOX (cutbox-door.mjs). By AI agents, Wed Nov 11 2026. No macro, syntax, notation, axiom, sorry.
-/
import Derived.Test.YtkmfihpmjnfbfaaGreatDoorRows
import GoSem.ClaimSeven
namespace Go.Proofs.YtkmfihpmjnfbfaaGreatDoor
namespace Rows

/-- THE TIED CARD OF 'priorylaw22.PartNone'. -/
def partNoneCard : Claim7 := { stood := { row := partNoneRow, standIns := [], harness := (true, "ceae3c891bc6eeffe47750382769e8a07ae3b15eb31a2f06a43ccd4b5e18bf72"), looks := true }, kinds := [], alts := [], laidByText := true, laidKinds := [.data], laidTests := true, laidLooks := .later }
def PartNoneCardSaid : Prop := Claim7.holds Tryz.pinned (.plain (OpenSpec.ofChange partNoneSpec)) partNoneCard

/-- THE TIED CARD OF 'priorylaw24.KernelNone'. -/
def kernelNoneCard : Claim7 := { stood := { row := kernelNoneRow, standIns := [], harness := (true, "ceae3c891bc6eeffe47750382769e8a07ae3b15eb31a2f06a43ccd4b5e18bf72"), looks := true }, kinds := [], alts := [], laidByText := true, laidKinds := [.data], laidTests := true, laidLooks := .later }
def KernelNoneCardSaid : Prop := Claim7.holds Tryz.pinned (.plain (OpenSpec.ofChange kernelNoneSpec)) kernelNoneCard

/-- THE SECOND FORM's CARD OF 'priorylaw22.PartNone'. -/
def partNoneUptoCard : Claim7 := { stood := { row := partNoneUptoRow, standIns := [], harness := (true, "ceae3c891bc6eeffe47750382769e8a07ae3b15eb31a2f06a43ccd4b5e18bf72"), looks := true }, kinds := [], alts := [], laidByText := true, laidKinds := [.data], laidTests := true, laidLooks := .later }
def PartNoneUptoCardSaid : Prop := Claim7.holds Tryz.pinned (.plain (OpenSpec.upto partNoneSpec)) partNoneUptoCard

/-- THE SECOND FORM's CARD OF 'priorylaw24.KernelNone'. -/
def kernelNoneUptoCard : Claim7 := { stood := { row := kernelNoneUptoRow, standIns := [], harness := (true, "ceae3c891bc6eeffe47750382769e8a07ae3b15eb31a2f06a43ccd4b5e18bf72"), looks := true }, kinds := [], alts := [], laidByText := true, laidKinds := [.data], laidTests := true, laidLooks := .later }
def KernelNoneUptoCardSaid : Prop := Claim7.holds Tryz.pinned (.plain (OpenSpec.upto kernelNoneSpec)) kernelNoneUptoCard
end Rows
end Go.Proofs.YtkmfihpmjnfbfaaGreatDoor
