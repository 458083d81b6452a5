/-
  DERIVED. GIVEN WITH THE SEED: THE CARDS: each row of YtcmildkkigccaaaGreatDoorRows.lean that lists a variable, with what it lists TIED to the program's text (the seventh form; the later family's looks); each row that meets fmt, with fmt's text TOLD by the authors' own Lean function (tested against real Go, not proved from fmt's source: count such statements apart). THE CARD IS WHAT COUNTS. Prove the row's statement (the work); the ties are given (YtcmildkkigccaaaGreatDoorTie.lean); close each card by the builder's one call (the guide's Derived/Test/ToyasCard.lean, 'card_holds'). Laid BY PROGRAM, IN A SANDBOX (cutbox-door.mjs). By AI agents, Wed Nov 11 2026. No macro, syntax, notation, axiom, sorry.
-/
import Derived.Test.YtcmildkkigccaaaGreatDoorRows
import GoSem.ClaimSeven
namespace Go.Proofs.YtcmildkkigccaaaGreatDoor
namespace Rows

/-- THE TIED CARD OF 'priorylaw27.ScriptPut'. -/
def scriptPutCard : Claim7 := { stood := { row := scriptPutRow, standIns := [], harness := (true, "1c353b818b59d28e52f43ca7fe9f0519eaaf1b2668d49e20a06b86a90e46f4ea"), looks := true }, kinds := [], alts := [], laidByText := true, laidKinds := [.data, .data, .data], laidTests := true, laidLooks := .later }
def ScriptPutCardSaid : Prop := Claim7.holds Tryz.pinned (.plain (OpenSpec.ofChange scriptPutSpec)) scriptPutCard

/-- THE TIED CARD OF 'priorylaw27.ScriptBack'. -/
def scriptBackCard : Claim7 := { stood := { row := scriptBackRow, standIns := [], harness := (true, "1c353b818b59d28e52f43ca7fe9f0519eaaf1b2668d49e20a06b86a90e46f4ea"), looks := true }, kinds := [], alts := [], laidByText := true, laidKinds := [.data, .data, .data], laidTests := true, laidLooks := .later }
def ScriptBackCardSaid : Prop := Claim7.holds Tryz.pinned (.plain (OpenSpec.ofChange scriptBackSpec)) scriptBackCard

/-- THE TIED CARD OF 'priorylaw27.ScriptJoined'. -/
def scriptJoinedCard : Claim7 := { stood := { row := scriptJoinedRow, standIns := [], harness := (true, "1c353b818b59d28e52f43ca7fe9f0519eaaf1b2668d49e20a06b86a90e46f4ea"), looks := true }, kinds := [], alts := [], laidByText := true, laidKinds := [.data, .data, .data], laidTests := true, laidLooks := .later }
def ScriptJoinedCardSaid : Prop := Claim7.holds Tryz.pinned (.plain (OpenSpec.ofChange scriptJoinedSpec)) scriptJoinedCard

/-- THE TIED CARD OF 'priorylaw27.ScriptLines'. -/
def scriptLinesCard : Claim7 := { stood := { row := scriptLinesRow, standIns := [], harness := (true, "1c353b818b59d28e52f43ca7fe9f0519eaaf1b2668d49e20a06b86a90e46f4ea"), looks := true }, kinds := [], alts := [], laidByText := true, laidKinds := [.data, .data, .data], laidTests := true, laidLooks := .later }
def ScriptLinesCardSaid : Prop := Claim7.holds Tryz.pinned (.plain (OpenSpec.ofChange scriptLinesSpec)) scriptLinesCard

/-- THE SECOND FORM's CARD OF 'priorylaw27.ScriptPut'. -/
def scriptPutUptoCard : Claim7 := { stood := { row := scriptPutUptoRow, standIns := [], harness := (true, "1c353b818b59d28e52f43ca7fe9f0519eaaf1b2668d49e20a06b86a90e46f4ea"), looks := true }, kinds := [], alts := [], laidByText := true, laidKinds := [.data, .data, .data], laidTests := true, laidLooks := .later }
def ScriptPutUptoCardSaid : Prop := Claim7.holds Tryz.pinned (.plain (OpenSpec.upto scriptPutSpec)) scriptPutUptoCard

/-- THE SECOND FORM's CARD OF 'priorylaw27.ScriptBack'. -/
def scriptBackUptoCard : Claim7 := { stood := { row := scriptBackUptoRow, standIns := [], harness := (true, "1c353b818b59d28e52f43ca7fe9f0519eaaf1b2668d49e20a06b86a90e46f4ea"), looks := true }, kinds := [], alts := [], laidByText := true, laidKinds := [.data, .data, .data], laidTests := true, laidLooks := .later }
def ScriptBackUptoCardSaid : Prop := Claim7.holds Tryz.pinned (.plain (OpenSpec.upto scriptBackSpec)) scriptBackUptoCard

/-- THE SECOND FORM's CARD OF 'priorylaw27.ScriptJoined'. -/
def scriptJoinedUptoCard : Claim7 := { stood := { row := scriptJoinedUptoRow, standIns := [], harness := (true, "1c353b818b59d28e52f43ca7fe9f0519eaaf1b2668d49e20a06b86a90e46f4ea"), looks := true }, kinds := [], alts := [], laidByText := true, laidKinds := [.data, .data, .data], laidTests := true, laidLooks := .later }
def ScriptJoinedUptoCardSaid : Prop := Claim7.holds Tryz.pinned (.plain (OpenSpec.upto scriptJoinedSpec)) scriptJoinedUptoCard

/-- THE SECOND FORM's CARD OF 'priorylaw27.ScriptLines'. -/
def scriptLinesUptoCard : Claim7 := { stood := { row := scriptLinesUptoRow, standIns := [], harness := (true, "1c353b818b59d28e52f43ca7fe9f0519eaaf1b2668d49e20a06b86a90e46f4ea"), looks := true }, kinds := [], alts := [], laidByText := true, laidKinds := [.data, .data, .data], laidTests := true, laidLooks := .later }
def ScriptLinesUptoCardSaid : Prop := Claim7.holds Tryz.pinned (.plain (OpenSpec.upto scriptLinesSpec)) scriptLinesUptoCard
end Rows
end Go.Proofs.YtcmildkkigccaaaGreatDoor
