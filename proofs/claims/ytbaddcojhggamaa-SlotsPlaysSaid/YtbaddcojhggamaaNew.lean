/-
  New, Add.
-/
import Derived.Test.YtbaddcojhggamaaMeth
namespace Go.Proofs.Ytbaddcojhggamaa.PAll
open Go.RowKit Go.Shelf Go.Proofs.YtbaddcojhggamaaM Go.Proofs.YtbaddcojhggamaaW.PrintWords Go.Proofs.YtbaddcojhggamaaW.PrintLast Go.Proofs.YtbaddcojhggamaaW.PrintMore
set_option linter.unusedVariables false
set_option linter.unusedSimpArgs false
/-- The table with the process 1. -/
def oneC : Int → Option S36 := fun j => if j = 1 then some ⟨1, 0, 1, 0⟩ else none
theorem new_bad (most : Int) (w : World) (h : most < 1 ∨ 8 < most) : Calls Try.prog 10 #[.int .i64 most] w fun e W' => e = .returned (.tuple #[.pointer none, .int .i64 2]) ∧ W' = w := by
  rcases h with h | h
  · go_enter Try.func10, Try.ntmps10
    go_wp2
    go_ret2
    exact ⟨rfl, rfl⟩
  · go_enter Try.func10, Try.ntmps10
    go_wp2
    go_ret2
    exact ⟨rfl, rfl⟩
set_option maxHeartbeats 1000000 in
theorem new_good (most : Int) (w : World) (h1 : 1 ≤ most) (h8 : most ≤ 8) : Calls Try.prog 10 #[.int .i64 most] w fun e W' => ∃ g m, w.heap.size ≤ g ∧ w.heap.size ≤ m ∧ e = .returned (.tuple #[.pointer (some ⟨g, 0, none⟩), .int .i64 0]) ∧ TabW W' g m most oneC ∧ w.grownBy W' none := by
  have hmm := @run_makeMap Try.prog
  go_enter Try.func10, Try.ntmps10
  go_wp2_with (refine wpList_store rfl _ _ _ 58 (.inr rfl) 3 36 Try.underlying58 Try.underlying3 w.heap.size _ rfl (MapI.made w) 1 rfl (pv ⟨1, 0, 1, 0⟩) rfl ?_; intro W3 hM3 hg3 hs3; have HM3 := Aside0.mk hM3; have HG3 := Aside0.mk hg3; have HS3 := Aside0.mk hs3; clear hM3 hg3 hs3)
  go_ret2
  have hs : W3.heap.size = w.heap.size + 1 := by rw [HS3.out]; simp
  refine ⟨_, w.heap.size, by omega, Nat.le_refl _, rfl, ⟨new_at _ rfl, (HM3.out.same (Below.heap_alloc W3 _ _ (by omega))).congr (fun k => ?_)⟩, ?_⟩
  · unfold oneC
    by_cases h : k = 1
    · rw [if_pos h, if_pos h]; rfl
    · rw [if_neg h, if_neg h]; rfl
  · exact ((World.grownBy_alloc w (.map #[] 0) none).andThen HG3.out (fun j e => by cases e; exact .inl (Nat.le_refl _))).andThen (World.grownBy_alloc W3 _ none) (fun j e => by cases e)
end Go.Proofs.Ytbaddcojhggamaa.PAll
