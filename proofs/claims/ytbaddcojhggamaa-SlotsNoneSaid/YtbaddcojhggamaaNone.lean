/-
  SlotsNone: the plain part and the walk.
-/
import Derived.Test.YtbaddcojhggamaaOrphans
namespace Go.Proofs.Ytbaddcojhggamaa.PAll
open Go.RowKit Go.Shelf Go.Proofs.YtbaddcojhggamaaM Go.Proofs.YtbaddcojhggamaaW.PrintWords Go.Proofs.YtbaddcojhggamaaW.PrintLast Go.Proofs.YtbaddcojhggamaaW.PrintMore
attribute [local go_sem] Oper.semAt_some
attribute [local go_sem high] eqA40 eqA36
set_option linter.unusedVariables false
set_option linter.unusedSimpArgs false
theorem add_none (v : Option Addr) (pid : Int) (w : World) (hn : ∀ W : World, w.grownBy W none → Calls Try.prog 28 #[.pointer v] W fun e W' => e = .returned (.bool true) ∧ W' = W) :
    Calls Try.prog 11 #[.pointer v, .int .i64 pid] w fun e W' => e = .returned (.tuple #[.int .i64 0, .int .i64 1]) ∧ w.grownBy W' none := by
  have HN := Aside0.mk hn
  clear hn
  go_enter Try.func11, Try.ntmps11
  go_wp2_with (go_at_call 22; refine (there_none v pid _ (fun W hW => HN.out W hW)).mono ?_; rintro e w' ⟨rfl, hg⟩; simp only [pv]; have HG := Aside0.mk hg; clear hg)
  go_ret2
  exact ⟨rfl, HG.out.trans (World.grownBy_alloc w' _ none)⟩
set_option maxRecDepth 100000 in
theorem exit_none (v : Option Addr) (pid code : Int) (w : World) (hn : ∀ W : World, w.grownBy W none → Calls Try.prog 28 #[.pointer v] W fun e W' => e = .returned (.bool true) ∧ W' = W) :
    Calls Try.prog 13 #[.pointer v, .int .i64 pid, .int .u32 code] w fun e W' => e = .returned (.tuple #[.slice none 0 0, .int .i64 1]) ∧ w.grownBy W' none := by
  refine (callsIn_wide (n := 4)).1 ?_
  refine callsIn_of_wp_marks Try.func13 rfl trivial ?_ rfl
  simp only [Try.ntmps13, List.size_toArray, List.length_cons, List.length_nil, Nat.reduceAdd, Nat.reduceSub, Array.replicate_succ, Array.replicate_zero, List.push_toArray, List.append_toArray, List.nil_append, List.cons_append]
  have HN := Aside0.mk hn
  clear hn
  have hgA : w.grownBy ((w.alloc (.cells #[.pointer v] 25)).alloc (.cells #[.int .i64 pid] 3)) none := (World.grownBy_alloc w _ none).trans (World.grownBy_alloc _ _ none)
  gi_wp2_with (refine ⟨trivial, ?_⟩; gi_at_call 22; refine (callsIn_wide.2 (there_none v pid _ (fun W hW => HN.out W (hgA.trans hW)))).mono ?_; rintro e w' ⟨rfl, hg⟩; simp only [pv]; have HG := Aside0.mk hg; clear hg)
  exact ⟨_, results_tmp2 rfl _ _ _, rfl, (hgA.trans HG.out).trans (World.grownBy_alloc w' _ none)⟩
set_option maxRecDepth 100000 in
theorem wait_none (v : Option Addr) (pid : Int) (w : World) (hn : ∀ W : World, w.grownBy W none → Calls Try.prog 28 #[.pointer v] W fun e W' => e = .returned (.bool true) ∧ W' = W) :
    Calls Try.prog 12 #[.pointer v, .int .i64 pid] w fun e W' => e = .returned (.tuple #[.slice none 0 0, .int .i64 1]) ∧ w.grownBy W' none := by
  refine (callsIn_wide (n := 4)).1 ?_
  refine callsIn_of_wp_marks Try.func12 rfl trivial ?_ rfl
  simp only [Try.ntmps12, List.size_toArray, List.length_cons, List.length_nil, Nat.reduceAdd, Nat.reduceSub, Array.replicate_succ, Array.replicate_zero, List.push_toArray, List.append_toArray, List.nil_append, List.cons_append]
  have HN := Aside0.mk hn
  clear hn
  have hgA : w.grownBy (w.alloc (.cells #[.int .i64 pid] 3)) none := World.grownBy_alloc w _ none
  gi_wp2_with (refine ⟨trivial, ?_⟩; gi_at_call 22; refine (callsIn_wide.2 (there_none v pid _ (fun W hW => HN.out W (hgA.trans hW)))).mono ?_; rintro e w' ⟨rfl, hg⟩; simp only [pv]; have HG := Aside0.mk hg; clear hg)
  exact ⟨_, results_tmp2 rfl _ _ _, rfl, (hgA.trans HG.out).trans (World.grownBy_alloc w' _ none)⟩
set_option maxRecDepth 100000 in
theorem all_none (v : Option Addr) (w : World) (hn : ∀ W : World, w.grownBy W none → Calls Try.prog 28 #[.pointer v] W fun e W' => e = .returned (.bool true) ∧ W' = W) :
    Calls Try.prog 19 #[.pointer v] w fun e W' => e = .returned (.slice none 0 0) ∧ w.grownBy W' none := by
  refine (callsIn_wide (n := 4)).1 ?_
  refine callsIn_of_wp_marks Try.func19 rfl trivial ?_ rfl
  simp only [Try.ntmps19, List.size_toArray, List.length_cons, List.length_nil, Nat.reduceAdd, Nat.reduceSub, Array.replicate_succ, Array.replicate_zero, List.push_toArray, List.append_toArray, List.nil_append, List.cons_append]
  have HN := Aside0.mk hn
  clear hn
  gi_wp2_with (refine ⟨trivial, ?_⟩; gi_at_call 28; refine (callsIn_wide.2 (HN.out _ (World.grownBy.refl _ none))).mono ?_; rintro e w' ⟨rfl, hw⟩; rw [hw]; clear hw)
  exact ⟨.slice none 0 0, by simp [results, Try.f19, go_sem], rfl, World.grownBy.refl _ none⟩
/-- The walk. -/
theorem grown_ref (w : World) : w.grownBy w none := World.grownBy.refl _ none
set_option maxRecDepth 100000 in
set_option maxHeartbeats 8000000 in
theorem nones_calls (pid code : Int) (w : World) : Calls Try.prog 6 #[.int .i64 pid, .int .u32 code] w fun e W' => e = .returned (.bool true) ∧ Below w.heap.size w W' := by
  refine Calls.mono (R := fun e W' => e = .returned (.bool true) ∧ w.grownBy W' none) ?_ (fun e W' h => ⟨h.1, below_of_grown h.2⟩)
  go_enter Try.func6, Try.ntmps6
  go_wp2
  obtain ⟨w0, hw0⟩ : ∃ w0, w0 = w.alloc (.cells #[.int .i64 0, .map none] 60) := ⟨_, rfl⟩
  have hG0 : w.grownBy w0 none := by rw [hw0]; exact World.grownBy_alloc w _ none
  have hO : w0.heap[w.heap.size]? = some (.cells #[.int .i64 0, .map none] 60 (0, 0)) := by rw [hw0]; exact new_at _ rfl
  rw [← hw0]
  have HN0 : Aside0 (∀ W : World, w0.grownBy W none → Calls Try.prog 28 #[.pointer none] W fun e W' => e = .returned (.bool true) ∧ W' = W) := ⟨fun W _ => none_nil W⟩
  have HN1 : Aside0 (∀ W : World, w0.grownBy W none → Calls Try.prog 28 #[.pointer (some ⟨w.heap.size, 0, none⟩)] W fun e W' => e = .returned (.bool true) ∧ W' = W) := ⟨fun W hW => none_unmade _ 0 W (blk_grown hO hW (by simp))⟩
  have HG0 := Aside0.mk hG0
  clear hG0 hO hw0
  go_loopg [5, 7] 3 (fun kq v5 v7 w' => ∃ i : Int, v7 = .int .i64 i ∧ Aside0 ((i = 0 ∧ v5 = .pointer none ∧ kq = 3) ∨ (i = 1 ∧ kq = 2) ∨ (i = 2 ∧ kq = 1)) ∧ Aside0 (w0.grownBy w' none))
  case atStart => exact ⟨0, rfl, ⟨.inl ⟨rfl, rfl, rfl⟩⟩, ⟨grown_ref _⟩⟩
  case round =>
    obtain ⟨i, rfl, HC, HG⟩ := hrel
    rcases HC.out with ⟨rfl, hv, hk⟩ | ⟨rfl, hk⟩ | ⟨rfl, hk⟩
    · subst hv
      subst hk
      have HNN := HN0
      clear HN0 HC
      go_wp2_with (first | (go_at_call 19; refine (all_none none _ (fun W hW => HNN.out W (HG4.out.trans hW))).mono ?_; rintro e W5 ⟨rfl, hg5⟩; have HG5 := Aside0.mk (HG4.out.trans hg5); clear hg5) | (go_at_call 14; refine (get_none none pid _ (fun W hW => HNN.out W (HG3.out.trans hW))).mono ?_; rintro e W4 ⟨rfl, hg4⟩; simp only [pv]; have HG4 := Aside0.mk ((HG3.out.trans hg4).trans (World.grownBy_alloc W4 (.cells #[.int .i64 0, .int .i64 0, .int .i64 0, .int .u32 0] 36) none)); clear hg4) | (go_at_call 12; refine (wait_none none pid _ (fun W hW => HNN.out W (HG2.out.trans hW))).mono ?_; rintro e W3 ⟨rfl, hg3⟩; have HG3 := Aside0.mk (HG2.out.trans hg3); clear hg3) | (go_at_call 13; refine (exit_none none pid code _ (fun W hW => HNN.out W (HG1.out.trans hW))).mono ?_; rintro e W2 ⟨rfl, hg2⟩; have HG2 := Aside0.mk (HG1.out.trans hg2); clear hg2) | (go_at_call 11; refine (add_none none pid _ (fun W hW => HNN.out W (HG.out.trans hW))).mono ?_; rintro e W1 ⟨rfl, hg1⟩; have HG1 := Aside0.mk (HG.out.trans hg1); clear hg1))
      go_roundg 2
      case measure => omega
      case rel => exact ⟨1, rfl, ⟨.inr (.inl ⟨rfl, rfl⟩)⟩, HG5⟩
    · subst hk
      have HNN := HN1
      clear HN0 HN1 HC
      go_wp2_with (first | (go_at_call 19; refine (all_none (some ⟨w.heap.size, 0, none⟩) _ (fun W hW => HNN.out W (HG4.out.trans hW))).mono ?_; rintro e W5 ⟨rfl, hg5⟩; have HG5 := Aside0.mk (HG4.out.trans hg5); clear hg5) | (go_at_call 14; refine (get_none (some ⟨w.heap.size, 0, none⟩) pid _ (fun W hW => HNN.out W (HG3.out.trans hW))).mono ?_; rintro e W4 ⟨rfl, hg4⟩; simp only [pv]; have HG4 := Aside0.mk ((HG3.out.trans hg4).trans (World.grownBy_alloc W4 (.cells #[.int .i64 0, .int .i64 0, .int .i64 0, .int .u32 0] 36) none)); clear hg4) | (go_at_call 12; refine (wait_none (some ⟨w.heap.size, 0, none⟩) pid _ (fun W hW => HNN.out W (HG2.out.trans hW))).mono ?_; rintro e W3 ⟨rfl, hg3⟩; have HG3 := Aside0.mk (HG2.out.trans hg3); clear hg3) | (go_at_call 13; refine (exit_none (some ⟨w.heap.size, 0, none⟩) pid code _ (fun W hW => HNN.out W (HG1.out.trans hW))).mono ?_; rintro e W2 ⟨rfl, hg2⟩; have HG2 := Aside0.mk (HG1.out.trans hg2); clear hg2) | (go_at_call 11; refine (add_none (some ⟨w.heap.size, 0, none⟩) pid _ (fun W hW => HNN.out W (HG.out.trans hW))).mono ?_; rintro e W1 ⟨rfl, hg1⟩; have HG1 := Aside0.mk (HG.out.trans hg1); clear hg1))
      go_roundg 1
      case measure => omega
      case rel => exact ⟨2, rfl, ⟨.inr (.inr ⟨rfl, rfl⟩)⟩, HG5⟩
    · go_wp2_with (go_at_call 9; refine (awake_calls _).mono ?_; rintro e W9 ⟨rfl, hg9⟩; have HG9 := Aside0.mk hg9; clear hg9)
      go_ret
      exact ⟨rfl, (HG0.out.trans HG.out).trans HG9.out⟩
end Go.Proofs.Ytbaddcojhggamaa.PAll
