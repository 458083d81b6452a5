/-
  What a run of closed calls wants of this program; an event, opened for a row.
-/
import Derived.Test.YtkmfihpmjnfbfaaGreatEvr
import Derived.WalkKit
import Derived.ProofKit
import Derived.Deep.Slices
import Derived.Lib.SmallJoins
import Derived.Test.YtkmfihpmjnfbfaaGreatRows
import Derived.KernelRfl
import Derived.RecoverIn
import Derived.Tactics
import Derived.Tactics2
import Derived.Shelf.SlMaps.Clone
namespace Go.Proofs.YtkmfihpmjnfbfaaGreat.Run
open Go Go.Proofs Go.Proofs.YtkmfihpmjnfbfaaGreat Go.ChangeShapes Go.WideShapes Go.Deep Go.Joins
set_option linter.unusedSimpArgs false
theorem follows : Tryz.prog.follows .mixedOrders = true := by kernel_rfl
theorem ng : NG Tryz.prog := ng_of (by kernel_rfl)
/-- conf.caught, where nothing gave up. -/
def dfrZ : Dfr := fun f => match f with
  | 74 => some fun h args => match args with | [_] => some h | _ => none
  | _ => none
theorem caught_idle (a : Value) (w : World) (n : Nat) :
    CallsDIn (F0 none) n Tryz.prog 74 #[a] .returning w fun e u' w' => e = .returned (.tuple #[]) ∧ u' = .returning ∧ w' = w := by
  refine callsDIn_of_wpSIn Tryz.func74 rfl trivial fun c₀ cs hu => ?_
  apply wpSIn_seq
  apply wpSIn_region
  simp [wpOpsSIn, go_sem, recoverD, hu, Tryz.ntmps74, Exit.thenS, F0, Fence.wide]
  apply wpSIn_seq
  apply wpSIn_region
  simp [wpOpsSIn, go_sem, Exit.thenS, F0, Fence.wide]
  refine wpSIn_cond (t := false) (by simp [Act.eval, Array.replicate]) ?_
  simp only [Bool.false_eq_true, if_false]
  refine wpSIn_of_wpIn rfl (wpIn_skip ?_)
  cases c₀
  simp_all [bodyPostS, results, Tryz.results74]
theorem dfrZ_ok : DfrOk Tryz.prog dfrZ := by
  intro f d hfd ρ h w args args' h' n hrel ha e
  unfold dfrZ at hfd
  split at hfd
  · cases hfd
    simp only at e
    split at e
    · cases e
      obtain ⟨l'⟩ := args'
      cases ha with
      | cons h1 h2 =>
        cases h2
        refine ⟨(caught_idle _ w n).mono ?_, _, Tryz.func74, rfl⟩
        rintro en u w' ⟨rfl, rfl, rfl⟩
        exact ⟨⟨_, rfl⟩, rfl, ρ, hrel, Fw.refl _ _ _⟩
    · cases e
  · cases hfd
/-- maps.clone, which has no body. -/
def extM : Ext := fun f => match f with
  | 115 => some fun h args => match args with
    | [.iface t (.map (some b))] => (match h.get b with
      | some (.map es clock) => some (.iface t (.map (some h.next)), h.new (.map es clock))
      | _ => none)
    | _ => none
  | _ => none
theorem extM_ok : ExtOk Tryz.prog extM := by
  intro f e hf ρ h w args args' v h' hr ha e1
  unfold extM at hf
  split at hf
  · cases hf
    simp only at e1
    split at e1
    · rename_i t b
      split at e1
      · rename_i es clock hg
        cases e1
        obtain ⟨l'⟩ := args'
        cases ha with
        | cons h1 h2 =>
          cases h2
          obtain ⟨u, rfl, hu⟩ := h1.ifaceInv
          obtain ⟨j, kk, rfl⟩ := hu.mapInv
          obtain ⟨es', q1, q2⟩ := hr.mapAt kk hg
          have := hr.new 0 (o := .map es clock) (x := .map es' clock) (.map (ER.mono (Sub.ext (hr.none (Nat.le_refl _)) _ 0) q2))
          refine ⟨_, .iface t (.map (some w.heap.size)), _, ?_, .iface (.map newCells_ptr), this.1, this.2⟩
          show (callFunc 115 #[.iface t (.map (some j))]).run Tryz.prog w = _
          rw [run_callFunc_extern Tryz.func115 (by kernel_rfl) (by kernel_rfl) (by kernel_rfl) (e := Extern.MapsClone.clone) (by kernel_rfl), run_maps_clone_sl w t q1]
          rfl
      · cases e1
    · cases e1
  · cases hf
/-- An event. -/
structure S25 where
  f0 : Int
  f1 : Int
  f2 : Int
set_option maxRecDepth 1000000 in
theorem struct_25 {H : Type} {enc : TypeId × Value → H} {w : World} {r : Reach} {base : Nat} {spare : Nat → Bool} {held : Bool} {v : Value} {x : DataW H} {ps : List MemPlace} (hv : Value.okWide Tryz.prog w r base 25 v) (h : DataW.Trod enc Tryz.prog w 0 spare held 25 v x ps) :
    ∃ a : S25, v = .agg #[.int .i64 a.f0, .int .i64 a.f1, .int .u32 a.f2] := by
  obtain ⟨c0, c1, c2, y0, y1, y2, m, rfl, _, _, h0, h1, h2⟩ := open_agg3 Tryz.underlying25 (by kernel_rfl) (by kernel_rfl) hv h
  obtain ⟨a0, e0, _, _⟩ := DataW.trod_int Tryz.underlying3 h0
  obtain ⟨a1, e1, _, _⟩ := DataW.trod_int Tryz.underlying3 h1
  obtain ⟨a2, e2, _⟩ := DataW.trod_int Tryz.underlying23 h2
  simp at e0 e1 e2
  subst e0 e1 e2
  exact ⟨⟨a0, a1, a2⟩, rfl⟩
end Go.Proofs.YtkmfihpmjnfbfaaGreat.Run
