/-
  What awake does: the plain part.
-/
import Derived.Test.YtbaddcojhggamaaExit
namespace Go.Proofs.Ytbaddcojhggamaa.PAll
open Go.RowKit Go.Shelf Go.Proofs.YtbaddcojhggamaaM Go.Proofs.YtbaddcojhggamaaW.PrintWords Go.Proofs.YtbaddcojhggamaaW.PrintLast Go.Proofs.YtbaddcojhggamaaW.PrintMore
attribute [local go_sem high] eqA40 eqA36
set_option linter.unusedVariables false
set_option linter.unusedSimpArgs false
def aC1 : Int → Option S36 := (addR oneC 3 1).2.2
def aC2 : Int → Option S36 := (addR aC1 3 2).2.2
def aC3 : Int → Option S36 := (waitR aC2 3 1).2.2
def aC4 : Int → Option S36 := (exitR aC3 3 2 7).2.2
theorem aw1 : addR oneC 3 1 = (2, 0, aC1) := by kernel_rfl
theorem aw2 : addR aC1 3 2 = (3, 0, aC2) := by kernel_rfl
theorem aw3 : addR aC2 3 1 = (0, 3, aC2) := by kernel_rfl
theorem aw4 : waitR aC2 3 1 = ([], 0, aC3) := by kernel_rfl
theorem aw5 : exitR aC3 3 2 7 = ([⟨1, 2, 7⟩], 0, aC4) := by kernel_rfl
theorem aw6 : getR aC4 3 = (⟨3, 1, 1, 0⟩, true) := by kernel_rfl
/-- A call at a table in a later world, in which nothing that is old has turned but the map. -/
theorem gN {w A B : World} {m : Nat} {row : Option Nat} (h : w.grownBy A none) (hm : w.heap.size ≤ m) (hg : A.grownBy B (some m)) : w.grownBy B none :=
  h.andThen hg (fun j e => by cases e; exact .inl hm)
set_option maxRecDepth 100000 in
set_option maxHeartbeats 4000000 in
theorem awake_calls (w : World) : Calls Try.prog 9 #[] w fun e W' => e = .returned (.bool true) ∧ w.grownBy W' none := by
  go_enter Try.func9, Try.ntmps9
  go_wp2_with (first
    | (go_at_call 14; refine (get_calls g m 3 aC4 3 _ HT5.out).mono ?_; rintro e W6 ⟨rfl, hg6⟩; rw [aw6]; simp only [pv]; have hRR := Kd.R_alloc (R_own HR5.out hg6 (fun r e => by cases e)) (.cells #[.int .i64 3, .int .i64 1, .int .i64 1, .int .u32 0] 36); obtain ⟨A6, c6, e6, _, hC6⟩ := Kd.R_reads hRR; cases e6; obtain ⟨ad, e7, y0, y1, y2⟩ := at_T40 hC6 0 (by decide) (by decide); cases e7; have z0 : (W6.alloc (.cells #[.int .i64 3, .int .i64 1, .int .i64 1, .int .u32 0] 36)).cell? ad = some (.int .i64 1) := y0; have z1 : (W6.alloc (.cells #[.int .i64 3, .int .i64 1, .int .i64 1, .int .u32 0] 36)).cell? ⟨ad.block, ad.off + 1, none⟩ = some (.int .i64 2) := y1; have z2 : (W6.alloc (.cells #[.int .i64 3, .int .i64 1, .int .i64 1, .int .u32 0] 36)).cell? ⟨ad.block, ad.off + 2, none⟩ = some (.int .u32 7) := y2; clear y0 y1 y2; have HG6 := Aside0.mk (HG5.out.trans hg6); clear hg6 hRR hC6)
    | (go_at_call 13; refine (exit_calls g m 3 aC3 2 7 _ HT4.out (by decide)).mono ?_; rintro e W5 ⟨v5, rfl, hR5, hT5, hg5⟩; rw [aw5] at hR5 hT5 ⊢; obtain ⟨A5, c5, rfl, _, hC5⟩ := Kd.R_reads hR5; have HR5 := Aside0.mk hR5; clear hR5 hC5; have HT5 := Aside0.mk hT5; have HG5 := Aside0.mk (HG4.out.andThen hg5 (fun j e => by cases e; exact .inl hm)); clear hT5 hg5)
    | (go_at_call 12; refine (wait_calls g m 3 aC2 1 _ HT3.out (by decide)).mono ?_; rintro e W4 ⟨v4, rfl, hR4, hT4, hg4⟩; rw [aw4] at hR4 hT4 ⊢; obtain ⟨A4, c4, rfl, _, hC4⟩ := Kd.R_reads hR4; clear hR4 hC4; have HT4 := Aside0.mk hT4; have HG4 := Aside0.mk (HG3.out.andThen hg4 (fun j e => by cases e; exact .inl hm)); clear hT4 hg4)
    | (go_at_call 11; refine (add_calls g m 3 aC2 1 _ HT2.out (by decide)).mono ?_; rintro e W3 ⟨rfl, hT3, hg3⟩; rw [aw3] at hT3 ⊢; have HT3 := Aside0.mk hT3; have HG3 := Aside0.mk (HG2.out.andThen hg3 (fun j e => by cases e; exact .inl hm)); clear hT3 hg3)
    | (go_at_call 11; refine (add_calls g m 3 aC1 2 _ HT1.out (by decide)).mono ?_; rintro e W2 ⟨rfl, hT2, hg2⟩; rw [aw2] at hT2 ⊢; have HT2 := Aside0.mk hT2; have HG2 := Aside0.mk (HG1.out.andThen hg2 (fun j e => by cases e; exact .inl hm)); clear hT2 hg2)
    | (go_at_call 11; refine (add_calls g m 3 oneC 1 _ HT0.out (by decide)).mono ?_; rintro e W1 ⟨rfl, hT1, hg1⟩; rw [aw1] at hT1 ⊢; have HT1 := Aside0.mk hT1; have HG1 := Aside0.mk (HG0.out.andThen hg1 (fun j e => by cases e; exact .inl hm)); clear hT1 hg1)
    | (go_at_call 10; refine (new_good 3 _ (by decide) (by decide)).mono ?_; rintro e W0 ⟨g, m, hg, hm, rfl, hT0, hg0⟩; have HT0 := Aside0.mk hT0; have HG0 := Aside0.mk hg0; clear hT0 hg0))
  go_ret
  exact ⟨rfl, HG6.out.trans (World.grownBy_alloc W6 _ none)⟩
end Go.Proofs.Ytbaddcojhggamaa.PAll
