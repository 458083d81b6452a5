/-
  SlotsOnce: the plain part and the walk.
-/
import Derived.Test.YtbaddcojhggamaaAwk
namespace Go.Proofs.Ytbaddcojhggamaa.PAll
open Go.RowKit Go.Shelf Go.Proofs.YtbaddcojhggamaaM Go.Proofs.YtbaddcojhggamaaW.PrintWords Go.Proofs.YtbaddcojhggamaaW.PrintLast Go.Proofs.YtbaddcojhggamaaW.PrintMore
attribute [local go_sem high] eqA40 eqA36
set_option linter.unusedVariables false
set_option linter.unusedSimpArgs false
theorem seven {P : Int → Prop} {most : Int} (h2 : 2 ≤ most) (h8 : most ≤ 8) (p2 : P 2) (p3 : P 3) (p4 : P 4) (p5 : P 5) (p6 : P 6) (p7 : P 7) (p8 : P 8) : P most := by
  rcases (show most = 2 ∨ most = 3 ∨ most = 4 ∨ most = 5 ∨ most = 6 ∨ most = 7 ∨ most = 8 by omega) with rfl | rfl | rfl | rfl | rfl | rfl | rfl <;> assumption
def bC1 (most : Int) : Int → Option S36 := (addR oneC most 1).2.2
def bC2 (most : Int) : Int → Option S36 := (waitR (bC1 most) most 1).2.2
def bC3 (most code : Int) : Int → Option S36 := (exitR (bC2 most) most 2 code).2.2
def bC4 (most code : Int) : Int → Option S36 := (addR (bC3 most code) most 1).2.2
def dC2 (most code : Int) : Int → Option S36 := (exitR (bC1 most) most 2 code).2.2
def dC3 (most code : Int) : Int → Option S36 := (waitR (dC2 most code) most 1).2.2
def dC4 (most code : Int) : Int → Option S36 := (addR (dC3 most code) most 1).2.2
section
variable {most : Int} (h2 : 2 ≤ most) (h8 : most ≤ 8) (code : Int)
theorem on1 (h2 : 2 ≤ most) (h8 : most ≤ 8) : addR oneC most 1 = (2, 0, bC1 most) := seven (P := fun most => addR oneC most 1 = (2, 0, bC1 most)) h2 h8 (by kernel_rfl) (by kernel_rfl) (by kernel_rfl) (by kernel_rfl) (by kernel_rfl) (by kernel_rfl) (by kernel_rfl)
theorem on2 (h2 : 2 ≤ most) (h8 : most ≤ 8) : waitR (bC1 most) most 1 = ([], 0, bC2 most) := seven (P := fun most => waitR (bC1 most) most 1 = ([], 0, bC2 most)) h2 h8 (by kernel_rfl) (by kernel_rfl) (by kernel_rfl) (by kernel_rfl) (by kernel_rfl) (by kernel_rfl) (by kernel_rfl)
theorem on3 (h2 : 2 ≤ most) (h8 : most ≤ 8) : exitR (bC2 most) most 2 code = ([⟨1, 2, code⟩], 0, bC3 most code) := seven (P := fun most => exitR (bC2 most) most 2 code = ([⟨1, 2, code⟩], 0, bC3 most code)) h2 h8 (by kernel_rfl) (by kernel_rfl) (by kernel_rfl) (by kernel_rfl) (by kernel_rfl) (by kernel_rfl) (by kernel_rfl)
theorem on4 (h2 : 2 ≤ most) (h8 : most ≤ 8) : addR (bC3 most code) most 1 = (2, 0, bC4 most code) := seven (P := fun most => addR (bC3 most code) most 1 = (2, 0, bC4 most code)) h2 h8 (by kernel_rfl) (by kernel_rfl) (by kernel_rfl) (by kernel_rfl) (by kernel_rfl) (by kernel_rfl) (by kernel_rfl)
theorem od2 (h2 : 2 ≤ most) (h8 : most ≤ 8) : exitR (bC1 most) most 2 code = ([], 0, dC2 most code) := seven (P := fun most => exitR (bC1 most) most 2 code = ([], 0, dC2 most code)) h2 h8 (by kernel_rfl) (by kernel_rfl) (by kernel_rfl) (by kernel_rfl) (by kernel_rfl) (by kernel_rfl) (by kernel_rfl)
theorem odg (h2 : 2 ≤ most) (h8 : most ≤ 8) : getR (dC2 most code) 2 = (⟨2, 1, 3, code⟩, true) := seven (P := fun most => getR (dC2 most code) 2 = (⟨2, 1, 3, code⟩, true)) h2 h8 (by kernel_rfl) (by kernel_rfl) (by kernel_rfl) (by kernel_rfl) (by kernel_rfl) (by kernel_rfl) (by kernel_rfl)
theorem od3 (h2 : 2 ≤ most) (h8 : most ≤ 8) : waitR (dC2 most code) most 1 = ([⟨1, 2, code⟩], 0, dC3 most code) := seven (P := fun most => waitR (dC2 most code) most 1 = ([⟨1, 2, code⟩], 0, dC3 most code)) h2 h8 (by kernel_rfl) (by kernel_rfl) (by kernel_rfl) (by kernel_rfl) (by kernel_rfl) (by kernel_rfl) (by kernel_rfl)
theorem od4 (h2 : 2 ≤ most) (h8 : most ≤ 8) : addR (dC3 most code) most 1 = (2, 0, dC4 most code) := seven (P := fun most => addR (dC3 most code) most 1 = (2, 0, dC4 most code)) h2 h8 (by kernel_rfl) (by kernel_rfl) (by kernel_rfl) (by kernel_rfl) (by kernel_rfl) (by kernel_rfl) (by kernel_rfl)
end
/-- The walk. -/
theorem below_of_grown {w W : World} (h : w.grownBy W none) : Below w.heap.size w W := (Below.refl w.heap.size w).grown h (Nat.le_refl _) (fun _ e => by cases e)
set_option maxRecDepth 100000 in
set_option maxHeartbeats 4000000 in
theorem once_calls (most code : Int) (ahead : Bool) (w : World) : Calls Try.prog 3 #[.int .i64 most, .int .u32 code, .bool ahead] w fun e W' => e = .returned (.bool true) ∧ Below w.heap.size w W' := by
  refine Calls.mono (R := fun e W' => e = .returned (.bool true) ∧ w.grownBy W' none) ?_ (fun e W' h => ⟨h.1, below_of_grown h.2⟩)
  by_cases h2 : 2 ≤ most
  · by_cases h8 : most ≤ 8
    · cases ahead with
      | true =>
        go_enter Try.func3, Try.ntmps3
        go_wp2_with (first
          | (go_at_call 9; refine (awake_calls _).mono ?_; rintro e W9 ⟨rfl, hg9⟩; have HG9 := Aside0.mk hg9; clear hg9)
          | (go_at_call 11; refine (add_calls g m most (bC3 most code) 1 _ HT3.out (by omega)).mono ?_; rintro e W4 ⟨rfl, hT, hg'⟩; rw [on4 code h2 h8] at hT ⊢; have HT4 := Aside0.mk hT; have HG4 := Aside0.mk (HG3.out.andThen hg' (fun j e => by cases e; exact .inl hm)); have HS4 := Aside0.mk hg'; clear hT hg'; have hRX := R_grown_m HR3.out HS4.out (show m < W2.heap.size from HT2.out.lt.2); obtain ⟨AX, qX, eX, _, hCX⟩ := Kd.R_reads hRX; cases eX; obtain ⟨ad, e7, y0, y1, y2⟩ := at_T40 hCX 0 (by simp) (by simp); cases e7; have z0 : W4.cell? ad = some (.int .i64 1) := y0; have z1 : W4.cell? ⟨ad.block, ad.off + 1, none⟩ = some (.int .i64 2) := y1; have z2 : W4.cell? ⟨ad.block, ad.off + 2, none⟩ = some (.int .u32 code) := y2; clear y0 y1 y2 hRX hCX)
          | (go_at_call 13; refine (exit_calls g m most (bC2 most) 2 code _ HT2.out (by omega)).mono ?_; rintro e W3 ⟨v, rfl, hR, hT, hg'⟩; rw [on3 code h2 h8] at hR hT ⊢; obtain ⟨A3, q3, rfl, _, _⟩ := Kd.R_reads hR; have HR3 := Aside0.mk hR; have HT3 := Aside0.mk hT; have HG3 := Aside0.mk (HG2.out.andThen hg' (fun j e => by cases e; exact .inl hm)); have HS3 := Aside0.mk hg'; clear hT hg' hR)
          | (go_at_call 12; refine (wait_calls g m most (bC1 most) 1 _ HT1.out (by omega)).mono ?_; rintro e W2 ⟨v, rfl, hR, hT, hg'⟩; rw [on2 h2 h8] at hR hT ⊢; obtain ⟨A2, q2, rfl, _, _⟩ := Kd.R_reads hR; have HR2 := Aside0.mk hR; have HT2 := Aside0.mk hT; have HG2 := Aside0.mk (HG1.out.andThen hg' (fun j e => by cases e; exact .inl hm)); have HS2 := Aside0.mk hg'; clear hT hg' hR)
          | (go_at_call 11; refine (add_calls g m most oneC 1 _ HT0.out (by omega)).mono ?_; rintro e W1 ⟨rfl, hT, hg'⟩; rw [on1 h2 h8] at hT ⊢; have HT1 := Aside0.mk hT; have HG1 := Aside0.mk (HG0.out.andThen hg' (fun j e => by cases e; exact .inl hm)); have HS1 := Aside0.mk hg'; clear hT hg')
          | (go_at_call 10; refine (new_good most _ (by omega) (by omega)).mono ?_; rintro e W0 ⟨g, m, hg, hm, rfl, hT0, hg0⟩; have HT0 := Aside0.mk hT0; have HG0 := Aside0.mk hg0; clear hT0 hg0))
        go_ret
        exact ⟨rfl, HG4.out.trans HG9.out⟩
      | false =>
        go_enter Try.func3, Try.ntmps3
        go_wp2_with (first
          | (go_at_call 9; refine (awake_calls _).mono ?_; rintro e W9 ⟨rfl, hg9⟩; have HG9 := Aside0.mk hg9; clear hg9)
          | (go_at_call 11; refine (add_calls g m most (dC3 most code) 1 _ HT4.out (by omega)).mono ?_; rintro e W5 ⟨rfl, hT, hg'⟩; rw [od4 code h2 h8] at hT ⊢; have HT5 := Aside0.mk hT; have HG5 := Aside0.mk (HG4.out.andThen hg' (fun j e => by cases e; exact .inl hm)); have HS5 := Aside0.mk hg'; clear hT hg'; have hRX := R_grown_m HR4.out HS5.out HT3.out.lt.2; obtain ⟨AX, qX, eX, _, hCX⟩ := Kd.R_reads hRX; cases eX; obtain ⟨ad, e7, y0, y1, y2⟩ := at_T40 hCX 0 (by simp) (by simp); cases e7; have z0 : W5.cell? ad = some (.int .i64 1) := y0; have z1 : W5.cell? ⟨ad.block, ad.off + 1, none⟩ = some (.int .i64 2) := y1; have z2 : W5.cell? ⟨ad.block, ad.off + 2, none⟩ = some (.int .u32 code) := y2; clear y0 y1 y2 hRX hCX)
          | (go_at_call 12; refine (wait_calls g m most (dC2 most code) 1 _ HT3.out (by omega)).mono ?_; rintro e W4 ⟨v, rfl, hR, hT, hg'⟩; rw [od3 code h2 h8] at hR hT ⊢; obtain ⟨A4, q4, rfl, _, _⟩ := Kd.R_reads hR; have HR4 := Aside0.mk hR; have HT4 := Aside0.mk hT; have HG4 := Aside0.mk (HG3.out.andThen hg' (fun j e => by cases e; exact .inl hm)); have HS4 := Aside0.mk hg'; clear hT hg' hR; have hP4 := blk_grown HP3.out HS4.out (by have := HT2.out.lt.2; have := HSg.out; simp; omega); have p42 := (blk_cell hP4 2).trans rfl; have p43 := (blk_cell hP4 3).trans rfl; clear hP4)
          | (go_at_call 14; refine (get_calls g m most (dC2 most code) 2 _ HT2.out).mono ?_; rintro e W3 ⟨rfl, hg'⟩; rw [odg code h2 h8]; simp only [pv]; have HG3 := Aside0.mk ((HG2.out.trans hg').trans (World.grownBy_alloc W3 (.cells #[.int .i64 2, .int .i64 1, .int .i64 3, .int .u32 code] 36) none)); have HT3 := Aside0.mk ((HT2.out.grown hg' (by simp) (by simp)).grown (World.grownBy_alloc W3 (.cells #[.int .i64 2, .int .i64 1, .int .i64 3, .int .u32 code] 36) none) (by simp) (by simp)); have HP3 := Aside0.mk (new_at (W := W3) (.cells #[.int .i64 2, .int .i64 1, .int .i64 3, .int .u32 code] 36) rfl); have HSg := Aside0.mk hg'.size; clear hg')
          | (go_at_call 13; refine (exit_calls g m most (bC1 most) 2 code _ HT1.out (by omega)).mono ?_; rintro e W2 ⟨v, rfl, hR, hT, hg'⟩; rw [od2 code h2 h8] at hR hT ⊢; obtain ⟨A2, q2, rfl, _, _⟩ := Kd.R_reads hR; have HR2 := Aside0.mk hR; have HT2 := Aside0.mk hT; have HG2 := Aside0.mk (HG1.out.andThen hg' (fun j e => by cases e; exact .inl hm)); have HS2 := Aside0.mk hg'; clear hT hg' hR)
          | (go_at_call 11; refine (add_calls g m most oneC 1 _ HT0.out (by omega)).mono ?_; rintro e W1 ⟨rfl, hT, hg'⟩; rw [on1 h2 h8] at hT ⊢; have HT1 := Aside0.mk hT; have HG1 := Aside0.mk (HG0.out.andThen hg' (fun j e => by cases e; exact .inl hm)); have HS1 := Aside0.mk hg'; clear hT hg')
          | (go_at_call 10; refine (new_good most _ (by omega) (by omega)).mono ?_; rintro e W0 ⟨g, m, hg, hm, rfl, hT0, hg0⟩; have HT0 := Aside0.mk hT0; have HG0 := Aside0.mk hg0; clear hT0 hg0))
        go_ret
        exact ⟨rfl, HG5.out.trans HG9.out⟩
    · go_enter Try.func3, Try.ntmps3
      have h8' : 8 < most := by omega
      go_wp2_with (go_at_call 9; refine (awake_calls _).mono ?_; rintro e W9 ⟨rfl, hg9⟩; have HG9 := Aside0.mk hg9; clear hg9)
      go_ret
      exact ⟨rfl, HG9.out⟩
  · go_enter Try.func3, Try.ntmps3
    have h2' : most < 2 := by omega
    go_wp2_with (go_at_call 9; refine (awake_calls _).mono ?_; rintro e W9 ⟨rfl, hg9⟩; have HG9 := Aside0.mk hg9; clear hg9)
    go_ret
    exact ⟨rfl, HG9.out⟩
end Go.Proofs.Ytbaddcojhggamaa.PAll
