/-
  DERIVED. GIVEN WITH THE SEED: THE CARDS: each row of YtiaegandgjgjhaaDoorRows.lean that lists a variable, with what it lists TIED to the program's text (the seventh form; the later family's looks); each row that meets fmt, with fmt's text TOLD by the authors' own Lean function (tested against real Go, not proved from fmt's source: count such statements apart). THE CARD IS WHAT COUNTS. Prove the row's statement (the work); the ties are given (YtiaegandgjgjhaaDoorTie.lean); close each card by the builder's one call (the guide's Derived/Test/ToyasCard.lean, 'card_holds'). Laid BY PROGRAM, IN A SANDBOX (cutbox-door.mjs). By AI agents, Wed Nov 11 2026. No macro, syntax, notation, axiom, sorry.
-/
import Derived.Test.YtiaegandgjgjhaaDoorRows
import GoSem.ClaimSeven
namespace Go.Proofs.YtiaegandgjgjhaaDoor
namespace Rows

/-- THE TIED CARD OF 'priorylaw08.PickSpan'. -/
def pickSpanCard : Claim7 := { stood := { row := pickSpanRow, standIns := [], harness := (true, "1653246ea94244f39a3bb9a49a28a8424ca4dcb42d176b8d44e9b9aa9ccc8556"), looks := false }, kinds := [], alts := [], laidByText := true, laidKinds := [.data], laidTests := true, laidLooks := .later }
def PickSpanCardSaid : Prop := Claim7.holds Tryd.pinned (.plain (OpenSpec.ofChange pickSpanSpec)) pickSpanCard

/-- THE TIED CARD OF 'priorylaw08.PickOrder'. -/
def pickOrderCard : Claim7 := { stood := { row := pickOrderRow, standIns := [], harness := (true, "1653246ea94244f39a3bb9a49a28a8424ca4dcb42d176b8d44e9b9aa9ccc8556"), looks := false }, kinds := [], alts := [], laidByText := true, laidKinds := [.data], laidTests := true, laidLooks := .later }
def PickOrderCardSaid : Prop := Claim7.holds Tryd.pinned (.plain (OpenSpec.ofChange pickOrderSpec)) pickOrderCard

/-- THE TIED CARD OF 'priorylaw08.PickPlays'. -/
def pickPlaysCard : Claim7 := { stood := { row := pickPlaysRow, standIns := [], harness := (true, "1653246ea94244f39a3bb9a49a28a8424ca4dcb42d176b8d44e9b9aa9ccc8556"), looks := false }, kinds := [], alts := [], laidByText := true, laidKinds := [.data], laidTests := true, laidLooks := .later }
def PickPlaysCardSaid : Prop := Claim7.holds Tryd.pinned (.plain (OpenSpec.ofChange pickPlaysSpec)) pickPlaysCard

/-- THE TIED CARD OF 'priorylaw08.PickNone'. -/
def pickNoneCard : Claim7 := { stood := { row := pickNoneRow, standIns := [], harness := (true, "1653246ea94244f39a3bb9a49a28a8424ca4dcb42d176b8d44e9b9aa9ccc8556"), looks := false }, kinds := [], alts := [], laidByText := true, laidKinds := [.data], laidTests := true, laidLooks := .later }
def PickNoneCardSaid : Prop := Claim7.holds Tryd.pinned (.plain (OpenSpec.ofChange pickNoneSpec)) pickNoneCard

/-- THE TIED CARD OF 'priorylaw08.PickAll'. -/
def pickAllCard : Claim7 := { stood := { row := pickAllRow, standIns := [], harness := (true, "1653246ea94244f39a3bb9a49a28a8424ca4dcb42d176b8d44e9b9aa9ccc8556"), looks := false }, kinds := [], alts := [], laidByText := true, laidKinds := [.data], laidTests := true, laidLooks := .later }
def PickAllCardSaid : Prop := Claim7.holds Tryd.pinned (.plain (OpenSpec.ofChange pickAllSpec)) pickAllCard

/-- THE SECOND FORM's CARD OF 'priorylaw08.PickSpan'. -/
def pickSpanUptoCard : Claim7 := { stood := { row := pickSpanUptoRow, standIns := [], harness := (true, "1653246ea94244f39a3bb9a49a28a8424ca4dcb42d176b8d44e9b9aa9ccc8556"), looks := false }, kinds := [], alts := [], laidByText := true, laidKinds := [.data], laidTests := true, laidLooks := .later }
def PickSpanUptoCardSaid : Prop := Claim7.holds Tryd.pinned (.plain (OpenSpec.upto pickSpanSpec)) pickSpanUptoCard

/-- THE SECOND FORM's CARD OF 'priorylaw08.PickOrder'. -/
def pickOrderUptoCard : Claim7 := { stood := { row := pickOrderUptoRow, standIns := [], harness := (true, "1653246ea94244f39a3bb9a49a28a8424ca4dcb42d176b8d44e9b9aa9ccc8556"), looks := false }, kinds := [], alts := [], laidByText := true, laidKinds := [.data], laidTests := true, laidLooks := .later }
def PickOrderUptoCardSaid : Prop := Claim7.holds Tryd.pinned (.plain (OpenSpec.upto pickOrderSpec)) pickOrderUptoCard

/-- THE SECOND FORM's CARD OF 'priorylaw08.PickPlays'. -/
def pickPlaysUptoCard : Claim7 := { stood := { row := pickPlaysUptoRow, standIns := [], harness := (true, "1653246ea94244f39a3bb9a49a28a8424ca4dcb42d176b8d44e9b9aa9ccc8556"), looks := false }, kinds := [], alts := [], laidByText := true, laidKinds := [.data], laidTests := true, laidLooks := .later }
def PickPlaysUptoCardSaid : Prop := Claim7.holds Tryd.pinned (.plain (OpenSpec.upto pickPlaysSpec)) pickPlaysUptoCard

/-- THE SECOND FORM's CARD OF 'priorylaw08.PickNone'. -/
def pickNoneUptoCard : Claim7 := { stood := { row := pickNoneUptoRow, standIns := [], harness := (true, "1653246ea94244f39a3bb9a49a28a8424ca4dcb42d176b8d44e9b9aa9ccc8556"), looks := false }, kinds := [], alts := [], laidByText := true, laidKinds := [.data], laidTests := true, laidLooks := .later }
def PickNoneUptoCardSaid : Prop := Claim7.holds Tryd.pinned (.plain (OpenSpec.upto pickNoneSpec)) pickNoneUptoCard

/-- THE SECOND FORM's CARD OF 'priorylaw08.PickAll'. -/
def pickAllUptoCard : Claim7 := { stood := { row := pickAllUptoRow, standIns := [], harness := (true, "1653246ea94244f39a3bb9a49a28a8424ca4dcb42d176b8d44e9b9aa9ccc8556"), looks := false }, kinds := [], alts := [], laidByText := true, laidKinds := [.data], laidTests := true, laidLooks := .later }
def PickAllUptoCardSaid : Prop := Claim7.holds Tryd.pinned (.plain (OpenSpec.upto pickAllSpec)) pickAllUptoCard
end Rows
end Go.Proofs.YtiaegandgjgjhaaDoor
