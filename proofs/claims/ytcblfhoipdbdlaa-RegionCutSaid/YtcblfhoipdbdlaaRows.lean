/-
  No cell of these rows narrows 'for every input' (looked for: loops, veiled, ifaces, maps, wideKeys, modest, calm, conditions, laid).
  DERIVED. THE GIVEN ROWS OF THIS SEAT. 7 by the template 'for every input the law returns true; each argument reads behind the call as it read before'; 0 by the template 'total and deterministic' (their statements: YtcblfhoipdbdlaaTotals.lean).
  GIVEN WITH THE SEED: the statements are not yours to turn. If you find one false, say at which input.
  Laid BY PROGRAM, IN A SANDBOX (cutbox-rows.mjs): the forced cells as the released guide's own fill.sh prints them over the translation b959265e56e421f8… (all of the seat's roots in one cut). By AI agents, Wed Nov 11 2026. No macro, syntax, notation, axiom, sorry.
-/
import Derived.Test.YtcblfhoipdbdlaaChecked
import GoSem.Claim
import GoSem.ClaimJoined
import GoSem.ClaimMapViews
import Derived.JoinedTies
import Derived.KernelRfl
namespace Go.Proofs.Ytcblfhoipdbdlaa
/- THE CELL 'sum', in the pinned program and in every row, IS THE sha256 OF THE DUMP (.gsa) THAT YtcblfhoipdbdlaaProg.lean LOADS. Nothing in Lean hashes anything: it is a label: what it is worth is what the hold of that sum in a sandbox is worth. -/
noncomputable def Try.pinned : Pinned := { name := "ytcblfhoipdbdlaa", sum := "b959265e56e421f814a2d1b9c05c5615bed32eae5bf8f3946adfcdc8adb8e47a", checked := Try.checked }
namespace Rows
def none {H : Type} : Left H := { results := [], args := [] }

/-- 'priorylaw14.RegionAdd': WHATEVER THE INPUT: true; the input reads as it did. -/
def regionAddSpec : ChangeSpec := { name := "regionAdd", fn := fun _ => fun
  | [d1, d2] => { results := [.lit (.bool true)], args := [d1, d2] }
  | _ => none }
def regionAddRow : OpenClaim := { program := "ytcblfhoipdbdlaa", sum := "b959265e56e421f814a2d1b9c05c5615bed32eae5bf8f3946adfcdc8adb8e47a", func := "priory/priorylaw14.RegionAdd", spec := "regionAdd", unfollowed := true, recurses := true, apart := false }
def RegionAddSaid : Prop := regionAddRow.holds Try.pinned (OpenSpec.ofChange regionAddSpec)

/-- ITS FALSE NEIGHBOUR: 'it returns false'. Refute it at one input. -/
def regionAddWrong : ChangeSpec := { name := "regionAdd", fn := fun _ => fun
  | [d1, d2] => { results := [.lit (.bool false)], args := [d1, d2] }
  | _ => none }
def RegionAddWrongFalsely : Prop := regionAddRow.holds Try.pinned (OpenSpec.ofChange regionAddWrong)

/-- 'priorylaw14.RegionCut': WHATEVER THE INPUT: true; the input reads as it did. -/
def regionCutSpec : ChangeSpec := { name := "regionCut", fn := fun _ => fun
  | [d1, d2, d3, d4] => { results := [.lit (.bool true)], args := [d1, d2, d3, d4] }
  | _ => none }
def regionCutRow : OpenClaim := { program := "ytcblfhoipdbdlaa", sum := "b959265e56e421f814a2d1b9c05c5615bed32eae5bf8f3946adfcdc8adb8e47a", func := "priory/priorylaw14.RegionCut", spec := "regionCut", unfollowed := true, recurses := true, apart := false }
def RegionCutSaid : Prop := regionCutRow.holds Try.pinned (OpenSpec.ofChange regionCutSpec)

/-- ITS FALSE NEIGHBOUR: 'it returns false'. Refute it at one input. -/
def regionCutWrong : ChangeSpec := { name := "regionCut", fn := fun _ => fun
  | [d1, d2, d3, d4] => { results := [.lit (.bool false)], args := [d1, d2, d3, d4] }
  | _ => none }
def RegionCutWrongFalsely : Prop := regionCutRow.holds Try.pinned (OpenSpec.ofChange regionCutWrong)

/-- 'priorylaw14.RegionOrder': WHATEVER THE INPUT: true; the input reads as it did. -/
def regionOrderSpec : ChangeSpec := { name := "regionOrder", fn := fun _ => fun
  | [d1, d2, d3] => { results := [.lit (.bool true)], args := [d1, d2, d3] }
  | _ => none }
def regionOrderRow : OpenClaim := { program := "ytcblfhoipdbdlaa", sum := "b959265e56e421f814a2d1b9c05c5615bed32eae5bf8f3946adfcdc8adb8e47a", func := "priory/priorylaw14.RegionOrder", spec := "regionOrder", unfollowed := true, recurses := true, apart := false }
def RegionOrderSaid : Prop := regionOrderRow.holds Try.pinned (OpenSpec.ofChange regionOrderSpec)

/-- ITS FALSE NEIGHBOUR: 'it returns false'. Refute it at one input. -/
def regionOrderWrong : ChangeSpec := { name := "regionOrder", fn := fun _ => fun
  | [d1, d2, d3] => { results := [.lit (.bool false)], args := [d1, d2, d3] }
  | _ => none }
def RegionOrderWrongFalsely : Prop := regionOrderRow.holds Try.pinned (OpenSpec.ofChange regionOrderWrong)

/-- 'priorylaw14.RegionCheck': WHATEVER THE INPUT: true; the input reads as it did. -/
def regionCheckSpec : ChangeSpec := { name := "regionCheck", fn := fun _ => fun
  | [d1, d2, d3, d4] => { results := [.lit (.bool true)], args := [d1, d2, d3, d4] }
  | _ => none }
def regionCheckRow : OpenClaim := { program := "ytcblfhoipdbdlaa", sum := "b959265e56e421f814a2d1b9c05c5615bed32eae5bf8f3946adfcdc8adb8e47a", func := "priory/priorylaw14.RegionCheck", spec := "regionCheck", unfollowed := true, recurses := true, apart := false }
def RegionCheckSaid : Prop := regionCheckRow.holds Try.pinned (OpenSpec.ofChange regionCheckSpec)

/-- ITS FALSE NEIGHBOUR: 'it returns false'. Refute it at one input. -/
def regionCheckWrong : ChangeSpec := { name := "regionCheck", fn := fun _ => fun
  | [d1, d2, d3, d4] => { results := [.lit (.bool false)], args := [d1, d2, d3, d4] }
  | _ => none }
def RegionCheckWrongFalsely : Prop := regionCheckRow.holds Try.pinned (OpenSpec.ofChange regionCheckWrong)

/-- 'priorylaw14.RegionBack': WHATEVER THE INPUT: true; the input reads as it did. -/
def regionBackSpec : ChangeSpec := { name := "regionBack", fn := fun _ => fun
  | [d1, d2] => { results := [.lit (.bool true)], args := [d1, d2] }
  | _ => none }
def regionBackRow : OpenClaim := { program := "ytcblfhoipdbdlaa", sum := "b959265e56e421f814a2d1b9c05c5615bed32eae5bf8f3946adfcdc8adb8e47a", func := "priory/priorylaw14.RegionBack", spec := "regionBack", unfollowed := true, recurses := true, apart := false }
def RegionBackSaid : Prop := regionBackRow.holds Try.pinned (OpenSpec.ofChange regionBackSpec)

/-- ITS FALSE NEIGHBOUR: 'it returns false'. Refute it at one input. -/
def regionBackWrong : ChangeSpec := { name := "regionBack", fn := fun _ => fun
  | [d1, d2] => { results := [.lit (.bool false)], args := [d1, d2] }
  | _ => none }
def RegionBackWrongFalsely : Prop := regionBackRow.holds Try.pinned (OpenSpec.ofChange regionBackWrong)

/-- 'priorylaw14.RegionSet': WHATEVER THE INPUT: true; the input reads as it did. -/
def regionSetSpec : ChangeSpec := { name := "regionSet", fn := fun _ => fun
  | [d1, d2, d3, d4] => { results := [.lit (.bool true)], args := [d1, d2, d3, d4] }
  | _ => none }
def regionSetRow : OpenClaim := { program := "ytcblfhoipdbdlaa", sum := "b959265e56e421f814a2d1b9c05c5615bed32eae5bf8f3946adfcdc8adb8e47a", func := "priory/priorylaw14.RegionSet", spec := "regionSet", unfollowed := true, recurses := true, apart := false }
def RegionSetSaid : Prop := regionSetRow.holds Try.pinned (OpenSpec.ofChange regionSetSpec)

/-- ITS FALSE NEIGHBOUR: 'it returns false'. Refute it at one input. -/
def regionSetWrong : ChangeSpec := { name := "regionSet", fn := fun _ => fun
  | [d1, d2, d3, d4] => { results := [.lit (.bool false)], args := [d1, d2, d3, d4] }
  | _ => none }
def RegionSetWrongFalsely : Prop := regionSetRow.holds Try.pinned (OpenSpec.ofChange regionSetWrong)

/-- 'priorylaw14.RegionCovers': WHATEVER THE INPUT: true; the input reads as it did. -/
def regionCoversSpec : ChangeSpec := { name := "regionCovers", fn := fun _ => fun
  | [d1, d2, d3] => { results := [.lit (.bool true)], args := [d1, d2, d3] }
  | _ => none }
def regionCoversRow : OpenClaim := { program := "ytcblfhoipdbdlaa", sum := "b959265e56e421f814a2d1b9c05c5615bed32eae5bf8f3946adfcdc8adb8e47a", func := "priory/priorylaw14.RegionCovers", spec := "regionCovers", unfollowed := true, recurses := true, apart := false }
def RegionCoversSaid : Prop := regionCoversRow.holds Try.pinned (OpenSpec.ofChange regionCoversSpec)

/-- ITS FALSE NEIGHBOUR: 'it returns false'. Refute it at one input. -/
def regionCoversWrong : ChangeSpec := { name := "regionCovers", fn := fun _ => fun
  | [d1, d2, d3] => { results := [.lit (.bool false)], args := [d1, d2, d3] }
  | _ => none }
def RegionCoversWrongFalsely : Prop := regionCoversRow.holds Try.pinned (OpenSpec.ofChange regionCoversWrong)

/- THE SECOND FORM. 'bulk': how many values and letters a reading holds, each counted each time it is reached (what is shared counts as often as it is met; a slice's spare places count too). A statement '..UptoSaid' is the law's where the arguments, and the package variables that the reading takes, are together of bulk at most 1048576: NARROWER than '..Said'. Prove '..Said' where nothing that the law and all that it calls make is longer than what came in: it says more and counts as full. Else prove '..UptoSaid'. A law counts once. -/
mutual
def uptoBulk {H : Type} : DataW H → Nat
  | .lit (.string bytes) => bytes.length + 1
  | .lit _ => 1
  | .nil => 1
  | .ptr d => uptoBulk d + 1
  | .slice elems spare => uptoBulkAll elems + uptoBulkAll spare + 1
  | .agg parts => uptoBulkAll parts + 1
  | .iface _ d => uptoBulk d + 1
  | .map entries => uptoBulkEntries entries + 1
  | .held _ => 1
def uptoBulkAll {H : Type} : List (DataW H) → Nat
  | [] => 0
  | d :: r => uptoBulk d + uptoBulkAll r
def uptoBulkEntries {H : Type} : List (Lit × DataW H) → Nat
  | [] => 0
  | x :: r => uptoBulkEntry x + uptoBulkEntries r
def uptoBulkEntry {H : Type} : Lit × DataW H → Nat
  | (.string bytes, d) => bytes.length + uptoBulk d + 1
  | (_, d) => uptoBulk d + 1
 end
def uptoSmall : (H : Type) → List (DataW H) → Bool := fun _ ds => decide (uptoBulkAll ds ≤ 1048576)
def OpenSpec.upto (s : _root_.Go.ChangeSpec) : _root_.Go.OpenSpec := { _root_.Go.OpenSpec.ofChange s with cond := some uptoSmall }

/-- 'priorylaw14.RegionAdd', WHERE WHAT IT READS IS OF BULK AT MOST 1048576: true; the input reads as it did. -/
def regionAddUptoRow : OpenClaim := { program := "ytcblfhoipdbdlaa", sum := "b959265e56e421f814a2d1b9c05c5615bed32eae5bf8f3946adfcdc8adb8e47a", func := "priory/priorylaw14.RegionAdd", spec := "regionAdd", unfollowed := true, recurses := true, apart := false, narrowed := true }
def RegionAddUptoSaid : Prop := regionAddUptoRow.holds Try.pinned (OpenSpec.upto regionAddSpec)

/-- 'priorylaw14.RegionCut', WHERE WHAT IT READS IS OF BULK AT MOST 1048576: true; the input reads as it did. -/
def regionCutUptoRow : OpenClaim := { program := "ytcblfhoipdbdlaa", sum := "b959265e56e421f814a2d1b9c05c5615bed32eae5bf8f3946adfcdc8adb8e47a", func := "priory/priorylaw14.RegionCut", spec := "regionCut", unfollowed := true, recurses := true, apart := false, narrowed := true }
def RegionCutUptoSaid : Prop := regionCutUptoRow.holds Try.pinned (OpenSpec.upto regionCutSpec)

/-- 'priorylaw14.RegionOrder', WHERE WHAT IT READS IS OF BULK AT MOST 1048576: true; the input reads as it did. -/
def regionOrderUptoRow : OpenClaim := { program := "ytcblfhoipdbdlaa", sum := "b959265e56e421f814a2d1b9c05c5615bed32eae5bf8f3946adfcdc8adb8e47a", func := "priory/priorylaw14.RegionOrder", spec := "regionOrder", unfollowed := true, recurses := true, apart := false, narrowed := true }
def RegionOrderUptoSaid : Prop := regionOrderUptoRow.holds Try.pinned (OpenSpec.upto regionOrderSpec)

/-- 'priorylaw14.RegionCheck', WHERE WHAT IT READS IS OF BULK AT MOST 1048576: true; the input reads as it did. -/
def regionCheckUptoRow : OpenClaim := { program := "ytcblfhoipdbdlaa", sum := "b959265e56e421f814a2d1b9c05c5615bed32eae5bf8f3946adfcdc8adb8e47a", func := "priory/priorylaw14.RegionCheck", spec := "regionCheck", unfollowed := true, recurses := true, apart := false, narrowed := true }
def RegionCheckUptoSaid : Prop := regionCheckUptoRow.holds Try.pinned (OpenSpec.upto regionCheckSpec)

/-- 'priorylaw14.RegionBack', WHERE WHAT IT READS IS OF BULK AT MOST 1048576: true; the input reads as it did. -/
def regionBackUptoRow : OpenClaim := { program := "ytcblfhoipdbdlaa", sum := "b959265e56e421f814a2d1b9c05c5615bed32eae5bf8f3946adfcdc8adb8e47a", func := "priory/priorylaw14.RegionBack", spec := "regionBack", unfollowed := true, recurses := true, apart := false, narrowed := true }
def RegionBackUptoSaid : Prop := regionBackUptoRow.holds Try.pinned (OpenSpec.upto regionBackSpec)

/-- 'priorylaw14.RegionSet', WHERE WHAT IT READS IS OF BULK AT MOST 1048576: true; the input reads as it did. -/
def regionSetUptoRow : OpenClaim := { program := "ytcblfhoipdbdlaa", sum := "b959265e56e421f814a2d1b9c05c5615bed32eae5bf8f3946adfcdc8adb8e47a", func := "priory/priorylaw14.RegionSet", spec := "regionSet", unfollowed := true, recurses := true, apart := false, narrowed := true }
def RegionSetUptoSaid : Prop := regionSetUptoRow.holds Try.pinned (OpenSpec.upto regionSetSpec)

/-- 'priorylaw14.RegionCovers', WHERE WHAT IT READS IS OF BULK AT MOST 1048576: true; the input reads as it did. -/
def regionCoversUptoRow : OpenClaim := { program := "ytcblfhoipdbdlaa", sum := "b959265e56e421f814a2d1b9c05c5615bed32eae5bf8f3946adfcdc8adb8e47a", func := "priory/priorylaw14.RegionCovers", spec := "regionCovers", unfollowed := true, recurses := true, apart := false, narrowed := true }
def RegionCoversUptoSaid : Prop := regionCoversUptoRow.holds Try.pinned (OpenSpec.upto regionCoversSpec)

end Rows
end Go.Proofs.Ytcblfhoipdbdlaa
