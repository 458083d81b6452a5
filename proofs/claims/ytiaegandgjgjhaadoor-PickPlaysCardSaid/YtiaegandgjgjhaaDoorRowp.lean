/-
  A script that came in, as the walk of PickPlays reads it.
-/
import Derived.Test.YtiaegandgjgjhaaDoorRowk
import Derived.Test.YtiaegandgjgjhaaDoorPlw
namespace Go.Proofs.YtiaegandgjgjhaaDoor.PAll
open Go.ChangeShapes Go.WideShapes Go.Deep Go.Joins
open Go.RowKit Go.Proofs.YtiaegandgjgjhaaDoorW.PrintWords Go.Proofs.YtiaegandgjgjhaaDoorW.PrintLast Go.Proofs.YtiaegandgjgjhaaDoorW.PrintMore
set_option linter.unusedVariables false
theorem slice_p37 {H : Type} {enc : TypeId × Value → H} {w : World} {r : Reach} {base : Nat} {spare : Nat → Bool} {held : Bool} {v : Value} {x : DataW H} {ps : List MemPlace} (hv : Value.okWide Tryd.prog w r base 37 v) (h : DataW.Trod enc Tryd.prog w 0 spare held 37 v x ps) :
    ∃ (A : Option Addr) (c : Nat) (l : List S41), v = .slice A l.length c ∧ l.length ≤ c ∧ Kd.C k41 w A l.length l := by
  refine slice_kd Tryd.underlying37 (by kernel_rfl) (fun n cs y hy => ?_) hv h
  obtain ⟨y0, y1, m, _, hlen, h0, h1⟩ := trod_struct2 Tryd.underlying41 hy
  have hC : Tryd.prog.cellsOf 41 = 2 := by kernel_rfl
  have hC3 : Tryd.prog.cellsOf 3 = 1 := by kernel_rfl
  rw [hC] at hlen
  match cs, hlen with
  | [c0, c1], _ =>
    simp only [hC3] at h0 h1
    obtain ⟨a0, e0, _, _⟩ := DataW.trod_int Tryd.underlying3 h0
    obtain ⟨a1, e1, _, _⟩ := DataW.trod_int Tryd.underlying3 h1
    simp at e0 e1
    subst e0 e1
    exact ⟨⟨a0, a1⟩, k41_mk w ⟨a0, a1⟩⟩
end Go.Proofs.YtiaegandgjgjhaaDoor.PAll
