/-
  KernelNone: its call; an event, opened for the row.
-/
import Derived.Test.YtkmfihpmjnfbfaaGreatDoorKnK
import Derived.Deep.Slices
import Derived.Lib.SmallJoins
namespace Go.Proofs.YtkmfihpmjnfbfaaGreatDoor.Run
open Go Go.Proofs Go.Proofs.YtkmfihpmjnfbfaaGreatDoor Go.ChangeShapes Go.WideShapes Go.Deep Go.Joins
theorem kernelNone_calls (e1 e2 e3 a b : Int) (w : World) (ht : Lib.TabIs Tryz.prog w "math/bits.deBruijn64tab" .u8 (Lib.deBruijn64tab.map fun n : Nat => (n : Int))) :
    Calls Tryz.prog 4 #[.agg #[.int .i64 e1, .int .i64 e2, .int .u32 e3], .int .i64 a, .int .i64 b] w (fun e W' => e = .returned (.bool true) ∧ Go.RowKit.Below w.heap.size w W') := by
  obtain ⟨t, hr⟩ := relT ht
  exact runQ_calls hkG_ok follows ext0_ok ng dfrD_ok hr glT_ok (.cons (.fl rfl) (.cons (.fl rfl) (.cons (.fl rfl) .nil))) (roT t) (kernelNone_run t e1 e2 e3 a b)
/-- An event. -/
structure S25 where
  f0 : Int
  f1 : Int
  f2 : Int
set_option maxRecDepth 1000000 in
theorem struct_25 {H : Type} {enc : TypeId × Value → H} {w : World} {r : Reach} {base : Nat} {spare : Nat → Bool} {held : Bool} {v : Value} {x : DataW H} {ps : List MemPlace} (hv : Value.okWide Tryz.prog w r base 25 v) (h : DataW.Trod enc Tryz.prog w 0 spare held 25 v x ps) :
    ∃ a : S25, v = .agg #[.int .i64 a.f0, .int .i64 a.f1, .int .u32 a.f2] := by
  obtain ⟨c0, c1, c2, y0, y1, y2, m, rfl, _, _, h0, h1, h2⟩ := open_agg3 Tryz.underlying25 (by kernel_rfl) (by kernel_rfl) hv h
  obtain ⟨a0, e0, _, _⟩ := DataW.trod_int Tryz.underlying3 h0
  obtain ⟨a1, e1, _, _⟩ := DataW.trod_int Tryz.underlying3 h1
  obtain ⟨a2, e2, _⟩ := DataW.trod_int Tryz.underlying23 h2
  simp at e0 e1 e2
  subst e0 e1 e2
  exact ⟨⟨a0, a1, a2⟩, rfl⟩
end Go.Proofs.YtkmfihpmjnfbfaaGreatDoor.Run
