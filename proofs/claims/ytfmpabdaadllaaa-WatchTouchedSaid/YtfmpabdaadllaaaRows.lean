/-
  No cell of these rows narrows 'for every input' (looked for: loops, veiled, ifaces, maps, wideKeys, modest, calm, conditions, laid).
  DERIVED. THE GIVEN ROWS OF THIS SEAT. 7 by the template 'for every input the law returns true; each argument reads behind the call as it read before'; 0 by the template 'total and deterministic' (their statements: YtfmpabdaadllaaaTotals.lean).
  GIVEN WITH THE SEED: the statements are not yours to turn. If you find one false, say at which input.
  Laid BY PROGRAM, IN A SANDBOX (cutbox-rows.mjs): the forced cells as the released guide's own fill.sh prints them over the translation 8542965450c51007… (all of the seat's roots in one cut). By AI agents, Wed Nov 11 2026. No macro, syntax, notation, axiom, sorry.
-/
import Derived.Test.YtfmpabdaadllaaaChecked
import GoSem.Claim
import GoSem.ClaimJoined
import GoSem.ClaimMapViews
import Derived.JoinedTies
import Derived.KernelRfl
namespace Go.Proofs.Ytfmpabdaadllaaa
/- THE CELL 'sum', in the pinned program and in every row, IS THE sha256 OF THE DUMP (.gsa) THAT YtfmpabdaadllaaaProg.lean LOADS. Nothing in Lean hashes anything: it is a label: what it is worth is what the hold of that sum in a sandbox is worth. -/
noncomputable def Try.pinned : Pinned := { name := "ytfmpabdaadllaaa", sum := "8542965450c5100763bea421917d48e2a0ad68a353ac46e5c777c2f656f9d01f", checked := Try.checked }
namespace Rows
def none {H : Type} : Left H := { results := [], args := [] }

/-- 'priorylaw28.WatchCut': WHATEVER THE INPUT: true; the input reads as it did. -/
def watchCutSpec : ChangeSpec := { name := "watchCut", fn := fun _ => fun
  | [d1, d2, d3, d4] => { results := [.lit (.bool true)], args := [d1, d2, d3, d4] }
  | _ => none }
def watchCutRow : OpenClaim := { program := "ytfmpabdaadllaaa", sum := "8542965450c5100763bea421917d48e2a0ad68a353ac46e5c777c2f656f9d01f", func := "priory/priorylaw28.WatchCut", spec := "watchCut", unfollowed := true, recurses := true, apart := false }
def WatchCutSaid : Prop := watchCutRow.holds Try.pinned (OpenSpec.ofChange watchCutSpec)

/-- ITS FALSE NEIGHBOUR: 'it returns false'. Refute it at one input. -/
def watchCutWrong : ChangeSpec := { name := "watchCut", fn := fun _ => fun
  | [d1, d2, d3, d4] => { results := [.lit (.bool false)], args := [d1, d2, d3, d4] }
  | _ => none }
def WatchCutWrongFalsely : Prop := watchCutRow.holds Try.pinned (OpenSpec.ofChange watchCutWrong)

/-- 'priorylaw28.WatchEven': WHATEVER THE INPUT: true; the input reads as it did. -/
def watchEvenSpec : ChangeSpec := { name := "watchEven", fn := fun _ => fun
  | [d1, d2, d3, d4, d5] => { results := [.lit (.bool true)], args := [d1, d2, d3, d4, d5] }
  | _ => none }
def watchEvenRow : OpenClaim := { program := "ytfmpabdaadllaaa", sum := "8542965450c5100763bea421917d48e2a0ad68a353ac46e5c777c2f656f9d01f", func := "priory/priorylaw28.WatchEven", spec := "watchEven", unfollowed := true, recurses := true, apart := false }
def WatchEvenSaid : Prop := watchEvenRow.holds Try.pinned (OpenSpec.ofChange watchEvenSpec)

/-- ITS FALSE NEIGHBOUR: 'it returns false'. Refute it at one input. -/
def watchEvenWrong : ChangeSpec := { name := "watchEven", fn := fun _ => fun
  | [d1, d2, d3, d4, d5] => { results := [.lit (.bool false)], args := [d1, d2, d3, d4, d5] }
  | _ => none }
def WatchEvenWrongFalsely : Prop := watchEvenRow.holds Try.pinned (OpenSpec.ofChange watchEvenWrong)

/-- 'priorylaw28.WatchTurns': WHATEVER THE INPUT: true; the input reads as it did. -/
def watchTurnsSpec : ChangeSpec := { name := "watchTurns", fn := fun _ => fun
  | [d1, d2, d3] => { results := [.lit (.bool true)], args := [d1, d2, d3] }
  | _ => none }
def watchTurnsRow : OpenClaim := { program := "ytfmpabdaadllaaa", sum := "8542965450c5100763bea421917d48e2a0ad68a353ac46e5c777c2f656f9d01f", func := "priory/priorylaw28.WatchTurns", spec := "watchTurns", unfollowed := true, recurses := true, apart := false }
def WatchTurnsSaid : Prop := watchTurnsRow.holds Try.pinned (OpenSpec.ofChange watchTurnsSpec)

/-- ITS FALSE NEIGHBOUR: 'it returns false'. Refute it at one input. -/
def watchTurnsWrong : ChangeSpec := { name := "watchTurns", fn := fun _ => fun
  | [d1, d2, d3] => { results := [.lit (.bool false)], args := [d1, d2, d3] }
  | _ => none }
def WatchTurnsWrongFalsely : Prop := watchTurnsRow.holds Try.pinned (OpenSpec.ofChange watchTurnsWrong)

/-- 'priorylaw28.WatchTouched': WHATEVER THE INPUT: true; the input reads as it did. -/
def watchTouchedSpec : ChangeSpec := { name := "watchTouched", fn := fun _ => fun
  | [d] => { results := [.lit (.bool true)], args := [d] }
  | _ => none }
def watchTouchedRow : OpenClaim := { program := "ytfmpabdaadllaaa", sum := "8542965450c5100763bea421917d48e2a0ad68a353ac46e5c777c2f656f9d01f", func := "priory/priorylaw28.WatchTouched", spec := "watchTouched", unfollowed := true, recurses := true, apart := false }
def WatchTouchedSaid : Prop := watchTouchedRow.holds Try.pinned (OpenSpec.ofChange watchTouchedSpec)

/-- ITS FALSE NEIGHBOUR: 'it returns false'. Refute it at one input. -/
def watchTouchedWrong : ChangeSpec := { name := "watchTouched", fn := fun _ => fun
  | [d] => { results := [.lit (.bool false)], args := [d] }
  | _ => none }
def WatchTouchedWrongFalsely : Prop := watchTouchedRow.holds Try.pinned (OpenSpec.ofChange watchTouchedWrong)

/-- 'priorylaw28.WatchView': WHATEVER THE INPUT: true; the input reads as it did. -/
def watchViewSpec : ChangeSpec := { name := "watchView", fn := fun _ => fun
  | [d1, d2, d3, d4] => { results := [.lit (.bool true)], args := [d1, d2, d3, d4] }
  | _ => none }
def watchViewRow : OpenClaim := { program := "ytfmpabdaadllaaa", sum := "8542965450c5100763bea421917d48e2a0ad68a353ac46e5c777c2f656f9d01f", func := "priory/priorylaw28.WatchView", spec := "watchView", unfollowed := true, recurses := true, apart := false }
def WatchViewSaid : Prop := watchViewRow.holds Try.pinned (OpenSpec.ofChange watchViewSpec)

/-- ITS FALSE NEIGHBOUR: 'it returns false'. Refute it at one input. -/
def watchViewWrong : ChangeSpec := { name := "watchView", fn := fun _ => fun
  | [d1, d2, d3, d4] => { results := [.lit (.bool false)], args := [d1, d2, d3, d4] }
  | _ => none }
def WatchViewWrongFalsely : Prop := watchViewRow.holds Try.pinned (OpenSpec.ofChange watchViewWrong)

/-- 'priorylaw28.WatchAll': WHATEVER THE INPUT: true; the input reads as it did. -/
def watchAllSpec : ChangeSpec := { name := "watchAll", fn := fun _ => fun
  | [d1, d2, d3] => { results := [.lit (.bool true)], args := [d1, d2, d3] }
  | _ => none }
def watchAllRow : OpenClaim := { program := "ytfmpabdaadllaaa", sum := "8542965450c5100763bea421917d48e2a0ad68a353ac46e5c777c2f656f9d01f", func := "priory/priorylaw28.WatchAll", spec := "watchAll", unfollowed := true, recurses := true, apart := false }
def WatchAllSaid : Prop := watchAllRow.holds Try.pinned (OpenSpec.ofChange watchAllSpec)

/-- ITS FALSE NEIGHBOUR: 'it returns false'. Refute it at one input. -/
def watchAllWrong : ChangeSpec := { name := "watchAll", fn := fun _ => fun
  | [d1, d2, d3] => { results := [.lit (.bool false)], args := [d1, d2, d3] }
  | _ => none }
def WatchAllWrongFalsely : Prop := watchAllRow.holds Try.pinned (OpenSpec.ofChange watchAllWrong)

/-- 'priorylaw28.WatchParts': WHATEVER THE INPUT: true; the input reads as it did. -/
def watchPartsSpec : ChangeSpec := { name := "watchParts", fn := fun _ => fun
  | [d1, d2] => { results := [.lit (.bool true)], args := [d1, d2] }
  | _ => none }
def watchPartsRow : OpenClaim := { program := "ytfmpabdaadllaaa", sum := "8542965450c5100763bea421917d48e2a0ad68a353ac46e5c777c2f656f9d01f", func := "priory/priorylaw28.WatchParts", spec := "watchParts", unfollowed := true, recurses := true, apart := false }
def WatchPartsSaid : Prop := watchPartsRow.holds Try.pinned (OpenSpec.ofChange watchPartsSpec)

/-- ITS FALSE NEIGHBOUR: 'it returns false'. Refute it at one input. -/
def watchPartsWrong : ChangeSpec := { name := "watchParts", fn := fun _ => fun
  | [d1, d2] => { results := [.lit (.bool false)], args := [d1, d2] }
  | _ => none }
def WatchPartsWrongFalsely : Prop := watchPartsRow.holds Try.pinned (OpenSpec.ofChange watchPartsWrong)

/- THE SECOND FORM. 'bulk': how many values and letters a reading holds, each counted each time it is reached (what is shared counts as often as it is met; a slice's spare places count too). A statement '..UptoSaid' is the law's where the arguments, and the package variables that the reading takes, are together of bulk at most 1048576: NARROWER than '..Said'. Prove '..Said' where nothing that the law and all that it calls make is longer than what came in: it says more and counts as full. Else prove '..UptoSaid'. A law counts once. -/
mutual
def uptoBulk {H : Type} : DataW H → Nat
  | .lit (.string bytes) => bytes.length + 1
  | .lit _ => 1
  | .nil => 1
  | .ptr d => uptoBulk d + 1
  | .slice elems spare => uptoBulkAll elems + uptoBulkAll spare + 1
  | .agg parts => uptoBulkAll parts + 1
  | .iface _ d => uptoBulk d + 1
  | .map entries => uptoBulkEntries entries + 1
  | .held _ => 1
def uptoBulkAll {H : Type} : List (DataW H) → Nat
  | [] => 0
  | d :: r => uptoBulk d + uptoBulkAll r
def uptoBulkEntries {H : Type} : List (Lit × DataW H) → Nat
  | [] => 0
  | x :: r => uptoBulkEntry x + uptoBulkEntries r
def uptoBulkEntry {H : Type} : Lit × DataW H → Nat
  | (.string bytes, d) => bytes.length + uptoBulk d + 1
  | (_, d) => uptoBulk d + 1
 end
def uptoSmall : (H : Type) → List (DataW H) → Bool := fun _ ds => decide (uptoBulkAll ds ≤ 1048576)
def OpenSpec.upto (s : _root_.Go.ChangeSpec) : _root_.Go.OpenSpec := { _root_.Go.OpenSpec.ofChange s with cond := some uptoSmall }

/-- 'priorylaw28.WatchCut', WHERE WHAT IT READS IS OF BULK AT MOST 1048576: true; the input reads as it did. -/
def watchCutUptoRow : OpenClaim := { program := "ytfmpabdaadllaaa", sum := "8542965450c5100763bea421917d48e2a0ad68a353ac46e5c777c2f656f9d01f", func := "priory/priorylaw28.WatchCut", spec := "watchCut", unfollowed := true, recurses := true, apart := false, narrowed := true }
def WatchCutUptoSaid : Prop := watchCutUptoRow.holds Try.pinned (OpenSpec.upto watchCutSpec)

/-- 'priorylaw28.WatchEven', WHERE WHAT IT READS IS OF BULK AT MOST 1048576: true; the input reads as it did. -/
def watchEvenUptoRow : OpenClaim := { program := "ytfmpabdaadllaaa", sum := "8542965450c5100763bea421917d48e2a0ad68a353ac46e5c777c2f656f9d01f", func := "priory/priorylaw28.WatchEven", spec := "watchEven", unfollowed := true, recurses := true, apart := false, narrowed := true }
def WatchEvenUptoSaid : Prop := watchEvenUptoRow.holds Try.pinned (OpenSpec.upto watchEvenSpec)

/-- 'priorylaw28.WatchTurns', WHERE WHAT IT READS IS OF BULK AT MOST 1048576: true; the input reads as it did. -/
def watchTurnsUptoRow : OpenClaim := { program := "ytfmpabdaadllaaa", sum := "8542965450c5100763bea421917d48e2a0ad68a353ac46e5c777c2f656f9d01f", func := "priory/priorylaw28.WatchTurns", spec := "watchTurns", unfollowed := true, recurses := true, apart := false, narrowed := true }
def WatchTurnsUptoSaid : Prop := watchTurnsUptoRow.holds Try.pinned (OpenSpec.upto watchTurnsSpec)

/-- 'priorylaw28.WatchTouched', WHERE WHAT IT READS IS OF BULK AT MOST 1048576: true; the input reads as it did. -/
def watchTouchedUptoRow : OpenClaim := { program := "ytfmpabdaadllaaa", sum := "8542965450c5100763bea421917d48e2a0ad68a353ac46e5c777c2f656f9d01f", func := "priory/priorylaw28.WatchTouched", spec := "watchTouched", unfollowed := true, recurses := true, apart := false, narrowed := true }
def WatchTouchedUptoSaid : Prop := watchTouchedUptoRow.holds Try.pinned (OpenSpec.upto watchTouchedSpec)

/-- 'priorylaw28.WatchView', WHERE WHAT IT READS IS OF BULK AT MOST 1048576: true; the input reads as it did. -/
def watchViewUptoRow : OpenClaim := { program := "ytfmpabdaadllaaa", sum := "8542965450c5100763bea421917d48e2a0ad68a353ac46e5c777c2f656f9d01f", func := "priory/priorylaw28.WatchView", spec := "watchView", unfollowed := true, recurses := true, apart := false, narrowed := true }
def WatchViewUptoSaid : Prop := watchViewUptoRow.holds Try.pinned (OpenSpec.upto watchViewSpec)

/-- 'priorylaw28.WatchAll', WHERE WHAT IT READS IS OF BULK AT MOST 1048576: true; the input reads as it did. -/
def watchAllUptoRow : OpenClaim := { program := "ytfmpabdaadllaaa", sum := "8542965450c5100763bea421917d48e2a0ad68a353ac46e5c777c2f656f9d01f", func := "priory/priorylaw28.WatchAll", spec := "watchAll", unfollowed := true, recurses := true, apart := false, narrowed := true }
def WatchAllUptoSaid : Prop := watchAllUptoRow.holds Try.pinned (OpenSpec.upto watchAllSpec)

/-- 'priorylaw28.WatchParts', WHERE WHAT IT READS IS OF BULK AT MOST 1048576: true; the input reads as it did. -/
def watchPartsUptoRow : OpenClaim := { program := "ytfmpabdaadllaaa", sum := "8542965450c5100763bea421917d48e2a0ad68a353ac46e5c777c2f656f9d01f", func := "priory/priorylaw28.WatchParts", spec := "watchParts", unfollowed := true, recurses := true, apart := false, narrowed := true }
def WatchPartsUptoSaid : Prop := watchPartsUptoRow.holds Try.pinned (OpenSpec.upto watchPartsSpec)

end Rows
end Go.Proofs.Ytfmpabdaadllaaa
