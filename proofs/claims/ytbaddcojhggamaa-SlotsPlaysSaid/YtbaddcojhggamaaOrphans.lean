/-
  SlotsOrphans: the plain part and the walk.
-/
import Derived.Test.YtbaddcojhggamaaOnce
import Derived.Test.YtbaddcojhggamaaAllF15
namespace Go.Proofs.Ytbaddcojhggamaa.PAll
open Go.RowKit Go.Shelf Go.Proofs.YtbaddcojhggamaaM Go.Proofs.YtbaddcojhggamaaW.PrintWords Go.Proofs.YtbaddcojhggamaaW.PrintLast Go.Proofs.YtbaddcojhggamaaW.PrintMore
attribute [local go_sem high] eqA40 eqA36
set_option linter.unusedVariables false
set_option linter.unusedSimpArgs false
section
variable {P : Program} {ops : Array Oper} {rest : List Oper} {o : Oper} {a : Act} {Q : Exit → Act → World → Prop} {α : Type}
/-- An append to a row of the call's own, in a plain walk. -/
theorem R_appendP (d : Kd α) {W : World} (base : Nat) (hgd : o.guard = none) (s x : Operand) (t e : TypeId) (z : Value) (bytes : Nat)
    (ho : o.op = .call { callee := .builtin .append, args := #[s, x], argTypes := #[t, t] })
    (ht : P.underlying t = some (.slice e)) (hinfo : (P.info? e).map (fun i => (i.zero, i.size, i.bytes)) = some (some z, d.sz, bytes)) (hz : z.cells.size = d.sz) (hs0 : 0 < d.sz) (hb0 : 0 < bytes)
    (v : Value) (xs : List α) (p : α) (cs : List Value) (ok okp : Nat → Prop) (hs : a.eval s = v) (hx : a.eval x = .slice (some ⟨W.heap.size, 0, none⟩) 1 1) (hp : d.M W base okp p cs) (hokp : ∀ k, okp k → ok k ∧ some k ≠ v.ownBlock) (hfresh : ∀ k, W.heap.size ≤ k → ok k)
    (HO : d.R e W base ok v xs) (hbase : base ≤ W.heap.size) (hl : (xs.length + 1) * bytes ≤ 140737488355328)
    (h : ∀ v1 w1, d.R e w1 base ok v1 (xs ++ [p]) → W.grownBy w1 v.ownBlock → wpList P ops Q rest (a.put o.dst v1) w1) :
    wpList P ops Q (o :: rest) a (W.alloc (.cells cs.toArray e)) := by
  obtain ⟨h0, inner, hown, hr⟩ := HO
  obtain ⟨i0, hi, hzz⟩ := Option.map_eq_some_iff.1 hinfo
  simp only [Prod.mk.injEq] at hzz
  obtain ⟨hz0, hz1, hz2⟩ := hzz
  have hcs := d.K_len (d.K_of_M hp)
  have hlen : xs.length + 1 ≤ 140737488355328 := Nat.le_trans (Nat.le_mul_of_pos_right _ hb0) hl
  refine wpList_append_own_at (w := W.alloc (.cells cs.toArray e)) hgd s x t ho base e i0 z d.sz bytes ht hi hz0 hz1 hz2 hz hs0 v xs.length inner hs (hown.alloc _) ⟨W.heap.size, 0, none⟩ 1 1 cs hx (by rw [hcs]; simp)
    (by simpa using World.news_of_block (cs := cs.toArray) (t := e) (fr := (0, 0)) (heap_alloc_new W (.cells cs.toArray e))) (d.K_one (d.K_of_M hp)) (by simp only [maxLen]; omega) hl (by simp; omega) ?_
  intro v1 w1 hown1 hg _ hat
  have hg1 : W.grownBy w1 v.ownBlock := World.grownBy.trans (World.grownBy_alloc W _ _) hg
  have hat1 : v1.ownBlock = v.ownBlock ∨ ∃ b, v1.ownBlock = some b ∧ W.heap.size ≤ b := by
    rcases hat with hat | hat
    · exact .inl hat
    · exact .inr ⟨_, hat, by simp⟩
  exact h v1 w1 (Kd.R_appended h0 hr hp hokp hfresh hown1 hg1 hat1) hg1
end
theorem six {P : Int → Prop} {most : Int} (h2 : 3 ≤ most) (h8 : most ≤ 8) (p3 : P 3) (p4 : P 4) (p5 : P 5) (p6 : P 6) (p7 : P 7) (p8 : P 8) : P most := by
  rcases (show most = 3 ∨ most = 4 ∨ most = 5 ∨ most = 6 ∨ most = 7 ∨ most = 8 by omega) with rfl | rfl | rfl | rfl | rfl | rfl <;> assumption
theorem cells_drawn {w w' : World} (h : Drawn0 w w') : w'.heap = w.heap := by obtain ⟨n, rfl⟩ := h; rfl
def gC1 (most : Int) : Int → Option S36 := (addR oneC most 1).2.2
def gC2 (most : Int) : Int → Option S36 := (addR (gC1 most) most 2).2.2
def gZ (most code : Int) (z : Bool) : Int → Option S36 := if z then (exitR (gC2 most) most 3 code).2.2 else gC2 most
def gW (most code : Int) (z v : Bool) : Int → Option S36 := if v then (waitR (gZ most code z) most 1).2.2 else gZ most code z
def gE (most code : Int) (z v : Bool) : Int → Option S36 := (exitR (gW most code z v) most 2 9).2.2
section
variable {most : Int} (code : Int) (h3 : 3 ≤ most) (h8 : most ≤ 8)
theorem or1 (h3 : 3 ≤ most) (h8 : most ≤ 8) : addR oneC most 1 = (2, 0, gC1 most) := six (P := fun most => addR oneC most 1 = (2, 0, gC1 most)) h3 h8 (by kernel_rfl) (by kernel_rfl) (by kernel_rfl) (by kernel_rfl) (by kernel_rfl) (by kernel_rfl)
theorem or2 (h3 : 3 ≤ most) (h8 : most ≤ 8) : addR (gC1 most) most 2 = (3, 0, gC2 most) := six (P := fun most => addR (gC1 most) most 2 = (3, 0, gC2 most)) h3 h8 (by kernel_rfl) (by kernel_rfl) (by kernel_rfl) (by kernel_rfl) (by kernel_rfl) (by kernel_rfl)
theorem orz (h3 : 3 ≤ most) (h8 : most ≤ 8) : exitR (gC2 most) most 3 code = ([], 0, gZ most code true) := six (P := fun most => exitR (gC2 most) most 3 code = ([], 0, gZ most code true)) h3 h8 (by kernel_rfl) (by kernel_rfl) (by kernel_rfl) (by kernel_rfl) (by kernel_rfl) (by kernel_rfl)
theorem orw0 (h3 : 3 ≤ most) (h8 : most ≤ 8) : waitR (gZ most code false) most 1 = ([], 0, gW most code false true) := six (P := fun most => waitR (gZ most code false) most 1 = ([], 0, gW most code false true)) h3 h8 (by kernel_rfl) (by kernel_rfl) (by kernel_rfl) (by kernel_rfl) (by kernel_rfl) (by kernel_rfl)
theorem ore00 (h3 : 3 ≤ most) (h8 : most ≤ 8) : exitR (gW most code false false) most 2 9 = ([], 0, gE most code false false) := six (P := fun most => exitR (gW most code false false) most 2 9 = ([], 0, gE most code false false)) h3 h8 (by kernel_rfl) (by kernel_rfl) (by kernel_rfl) (by kernel_rfl) (by kernel_rfl) (by kernel_rfl)
theorem org00 (h3 : 3 ≤ most) (h8 : most ≤ 8) : getR (gE most code false false) 3 = (⟨3, 1, 1, 0⟩, true) := six (P := fun most => getR (gE most code false false) 3 = (⟨3, 1, 1, 0⟩, true)) h3 h8 (by kernel_rfl) (by kernel_rfl) (by kernel_rfl) (by kernel_rfl) (by kernel_rfl) (by kernel_rfl)
theorem ore01 (h3 : 3 ≤ most) (h8 : most ≤ 8) : exitR (gW most code false true) most 2 9 = ([⟨1, 2, 9⟩], 0, gE most code false true) := six (P := fun most => exitR (gW most code false true) most 2 9 = ([⟨1, 2, 9⟩], 0, gE most code false true)) h3 h8 (by kernel_rfl) (by kernel_rfl) (by kernel_rfl) (by kernel_rfl) (by kernel_rfl) (by kernel_rfl)
theorem org01 (h3 : 3 ≤ most) (h8 : most ≤ 8) : getR (gE most code false true) 3 = (⟨3, 1, 1, 0⟩, true) := six (P := fun most => getR (gE most code false true) 3 = (⟨3, 1, 1, 0⟩, true)) h3 h8 (by kernel_rfl) (by kernel_rfl) (by kernel_rfl) (by kernel_rfl) (by kernel_rfl) (by kernel_rfl)
theorem orw1 (h3 : 3 ≤ most) (h8 : most ≤ 8) : waitR (gZ most code true) most 1 = ([], 0, gW most code true true) := six (P := fun most => waitR (gZ most code true) most 1 = ([], 0, gW most code true true)) h3 h8 (by kernel_rfl) (by kernel_rfl) (by kernel_rfl) (by kernel_rfl) (by kernel_rfl) (by kernel_rfl)
theorem ore10 (h3 : 3 ≤ most) (h8 : most ≤ 8) : exitR (gW most code true false) most 2 9 = ([], 0, gE most code true false) := six (P := fun most => exitR (gW most code true false) most 2 9 = ([], 0, gE most code true false)) h3 h8 (by kernel_rfl) (by kernel_rfl) (by kernel_rfl) (by kernel_rfl) (by kernel_rfl) (by kernel_rfl)
theorem org10 (h3 : 3 ≤ most) (h8 : most ≤ 8) : getR (gE most code true false) 3 = (⟨3, 1, 3, code⟩, true) := six (P := fun most => getR (gE most code true false) 3 = (⟨3, 1, 3, code⟩, true)) h3 h8 (by kernel_rfl) (by kernel_rfl) (by kernel_rfl) (by kernel_rfl) (by kernel_rfl) (by kernel_rfl)
theorem ore11 (h3 : 3 ≤ most) (h8 : most ≤ 8) : exitR (gW most code true true) most 2 9 = ([⟨1, 2, 9⟩], 0, gE most code true true) := six (P := fun most => exitR (gW most code true true) most 2 9 = ([⟨1, 2, 9⟩], 0, gE most code true true)) h3 h8 (by kernel_rfl) (by kernel_rfl) (by kernel_rfl) (by kernel_rfl) (by kernel_rfl) (by kernel_rfl)
theorem org11 (h3 : 3 ≤ most) (h8 : most ≤ 8) : getR (gE most code true true) 3 = (⟨3, 1, 3, code⟩, true) := six (P := fun most => getR (gE most code true true) 3 = (⟨3, 1, 3, code⟩, true)) h3 h8 (by kernel_rfl) (by kernel_rfl) (by kernel_rfl) (by kernel_rfl) (by kernel_rfl) (by kernel_rfl)
end
theorem gb_drawn {w w' : World} (h : Drawn0 w w') : w.grownBy w' none := by obtain ⟨n, rfl⟩ := h; exact ⟨rfl, rfl, rfl, Nat.le_refl _, fun _ _ _ => rfl⟩
theorem C_nil40 (w : World) (A : Option Addr) : Kd.C k40 w A 0 ([] : List S40) := ⟨rfl, by omega, fun h => by omega⟩
set_option maxRecDepth 100000 in
set_option maxHeartbeats 8000000 in
theorem orphans_calls (most : Int) (zombie waits : Bool) (code : Int) (w : World) : Calls Try.prog 4 #[.int .i64 most, .bool zombie, .bool waits, .int .u32 code] w fun e W' => e = .returned (.bool true) ∧ Below w.heap.size w W' := by
  refine Calls.mono (R := fun e W' => e = .returned (.bool true) ∧ w.grownBy W' none) ?_ (fun e W' h => ⟨h.1, below_of_grown h.2⟩)
  by_cases hok : 3 ≤ most ∧ most ≤ 8
  · obtain ⟨h3, h8⟩ := hok
    rcases (show (zombie = false ∧ waits = false) ∨ (zombie = false ∧ waits = true) ∨ (zombie = true ∧ waits = false) ∨ (zombie = true ∧ waits = true) by cases zombie <;> cases waits <;> simp) with ⟨rfl, rfl⟩ | ⟨rfl, rfl⟩ | ⟨rfl, rfl⟩ | ⟨rfl, rfl⟩
    · -- zombie false, waits false
      go_enter Try.func4, Try.ntmps4
      go_wp2_with (first
          | (go_at_call 9; refine (awake_calls _).mono ?_; rintro e W9 ⟨rfl, hg9⟩; have HG9 := Aside0.mk hg9; clear hg9)
          | (go_at_call 15; go_loud (refine (prioryref13_SameReaped.calls 3 Ae qe ([] : List S40) (some ⟨We.heap.size, 0, none⟩) 0 ([] : List S40) true (Wg.alloc (.cells #[.int .i64 3, .int .i64 1, .int .i64 1, .int .u32 0] 36)) ?hCl hqe ?hCw ?hqw (by kernel_rfl)).mono ?_); (case hCl => obtain ⟨A', q', e', _, h'⟩ := Kd.R_reads (R_own HRe.out HEg.out (fun r e => by cases e)); cases e'; exact h'); (case hCw => exact C_nil40 _ _); (case hqw => exact Nat.le_refl _); rintro e Ws ⟨rfl, hd⟩; have hP := HPg.out; rw [← cells_drawn hd] at hP; have p1 := (blk_cell hP 1).trans rfl; have p2 := (blk_cell hP 2).trans rfl; have HEs := Aside0.mk (HEg.out.trans (gb_drawn hd)); clear hd hP)
          | (go_at_call 14; refine (get_calls g m most (gE most code false false) 3 _ (HTe.out.grown (World.grownBy_alloc We (.cells #[] 40) none) (by simp) (by simp))).mono ?_; rintro e Wg ⟨rfl, hg'⟩; rw [org00 code h3 h8]; simp only [pv]; have HEg := Aside0.mk (((World.grownBy_alloc We (.cells #[] 40) none).trans hg').trans (World.grownBy_alloc Wg (.cells #[.int .i64 3, .int .i64 1, .int .i64 1, .int .u32 0] 36) none)); have HPg := Aside0.mk (new_at (W := Wg) (.cells #[.int .i64 3, .int .i64 1, .int .i64 1, .int .u32 0] 36) rfl); clear hg')
          | (go_at_call 13; refine (exit_calls g m most (gW most code false false) 2 9 _ HT2.out (by omega)).mono ?_; rintro e We ⟨v, rfl, hR, hT, hg'⟩; rw [ore00 code h3 h8] at hR hT ⊢; obtain ⟨Ae, qe, rfl, hqe, _⟩ := Kd.R_reads hR; have HRe := Aside0.mk hR; have HTe := Aside0.mk hT; have HGe := Aside0.mk (HG2.out.andThen hg' (fun j e => by cases e; exact .inl hm)); clear hT hg' hR)
          | (go_at_call 11; refine (add_calls g m most (gC1 most) 2 _ HT1.out (by omega)).mono ?_; rintro e W2 ⟨rfl, hT, hg'⟩; rw [or2 h3 h8] at hT ⊢; have HT2 := Aside0.mk hT; have HG2 := Aside0.mk (HG1.out.andThen hg' (fun j e => by cases e; exact .inl hm)); clear hT hg')
          | (go_at_call 11; refine (add_calls g m most oneC 1 _ HT0.out (by omega)).mono ?_; rintro e W1 ⟨rfl, hT, hg'⟩; rw [or1 h3 h8] at hT ⊢; have HT1 := Aside0.mk hT; have HG1 := Aside0.mk (HG0.out.andThen hg' (fun j e => by cases e; exact .inl hm)); clear hT hg')
          | (go_at_call 10; refine (new_good most _ (by omega) (by omega)).mono ?_; rintro e W0 ⟨g, m, hg, hm, rfl, hT0, hg0⟩; have HT0 := Aside0.mk hT0; have HG0 := Aside0.mk hg0; clear hT0 hg0))
      go_ret
      exact ⟨rfl, (HGe.out.trans HEs.out).trans HG9.out⟩
    · -- zombie false, waits true
      go_enter Try.func4, Try.ntmps4
      go_wp2_with (first
          | (go_at_call 9; refine (awake_calls _).mono ?_; rintro e W9 ⟨rfl, hg9⟩; have HG9 := Aside0.mk hg9; clear hg9)
          | (go_at_call 15; go_loud (refine (prioryref13_SameReaped.calls 3 Ae qe [(⟨1, 2, 9⟩ : S40)] Aa qa [(⟨1, 2, 9⟩ : S40)] true (Wg.alloc (.cells #[.int .i64 3, .int .i64 1, .int .i64 1, .int .u32 0] 36)) ?hCl hqe ?hCw ?hqw (by kernel_rfl)).mono ?_); (case hCl => obtain ⟨A', q', e', _, h'⟩ := Kd.R_reads (R_own HRe.out HEg.out (fun r e => by cases e)); cases e'; exact h'); (case hCw => obtain ⟨A', q', e', _, h'⟩ := Kd.R_reads (R_own HRa.out HEb.out (fun r e => by cases e)); cases e'; exact h'); (case hqw => exact hqa); rintro e Ws ⟨rfl, hd⟩; have hP := HPg.out; rw [← cells_drawn hd] at hP; have p1 := (blk_cell hP 1).trans rfl; have p2 := (blk_cell hP 2).trans rfl; have HEs := Aside0.mk (HEg.out.trans (gb_drawn hd)); clear hd hP)
          | (go_at_call 14; refine (get_calls g m most (gE most code false true) 3 _ (HTe.out.grown HEa.out (by simp) (by simp))).mono ?_; rintro e Wg ⟨rfl, hg'⟩; rw [org01 code h3 h8]; simp only [pv]; have HEg := Aside0.mk ((HEa.out.trans hg').trans (World.grownBy_alloc Wg (.cells #[.int .i64 3, .int .i64 1, .int .i64 1, .int .u32 0] 36) none)); have HEb := Aside0.mk (hg'.trans (World.grownBy_alloc Wg (.cells #[.int .i64 3, .int .i64 1, .int .i64 1, .int .u32 0] 36) none)); have HPg := Aside0.mk (new_at (W := Wg) (.cells #[.int .i64 3, .int .i64 1, .int .i64 1, .int .u32 0] 36) rfl); clear hg')
          | ((with_reducible refine gate_builtin (b := .append) (xs := #[.tmp 76, .tmp 79]) rfl ?_); at_builtin; go_loud (refine R_appendP k40 (W := We.alloc (.cells #[] 40)) We.heap.size rfl (.tmp 76) (.tmp 79) 31 40 (.agg #[.int .i64 0, .int .i64 0, .int .u32 0]) 24 rfl Try.underlying31 info40 rfl (by decide) (by decide) (.slice (some ⟨We.heap.size, 0, none⟩) 0 0) ([] : List S40) ⟨1, 2, 9⟩ [.int .i64 1, .int .i64 2, .int .u32 9] (fun _ => True) (fun _ => False) rfl (by simp; rfl) (k40_mkM _ _ _ ⟨1, 2, 9⟩) (fun _ h => h.elim) (fun _ _ => trivial) ⟨fun _ _ => trivial, OwnRow.lit We We.heap.size (R := k40.M _ _ _) (ps := ([] : List S40)) (inner := []) (Reps.none _ _) (Nat.le_refl _) (by simp)⟩ (by simp) (by simp) ?_); intro v1 Wa hRa hga; obtain ⟨Aa, qa, rfl, hqa, _⟩ := Kd.R_reads hRa; have HRa := Aside0.mk hRa; have HEa := Aside0.mk ((World.grownBy_alloc We (.cells #[] 40) none).andThen hga (fun j e => by cases e; exact .inl (Nat.le_refl _))); clear hRa hga)
          | (go_at_call 13; refine (exit_calls g m most (gW most code false true) 2 9 _ HTw.out (by omega)).mono ?_; rintro e We ⟨v, rfl, hR, hT, hg'⟩; rw [ore01 code h3 h8] at hR hT ⊢; obtain ⟨Ae, qe, rfl, hqe, _⟩ := Kd.R_reads hR; have HRe := Aside0.mk hR; have HTe := Aside0.mk hT; have HGe := Aside0.mk (HGw.out.andThen hg' (fun j e => by cases e; exact .inl hm)); clear hT hg' hR)
          | (go_at_call 12; refine (wait_calls g m most (gZ most code false) 1 _ HT2.out (by omega)).mono ?_; rintro e Ww ⟨v, rfl, hR, hT, hg'⟩; rw [orw0 code h3 h8] at hR hT ⊢; obtain ⟨Aw, qw, rfl, hqw, _⟩ := Kd.R_reads hR; have HRw := Aside0.mk hR; have HTw := Aside0.mk hT; have HGw := Aside0.mk (HG2.out.andThen hg' (fun j e => by cases e; exact .inl hm)); clear hT hg' hR)
          | (go_at_call 11; refine (add_calls g m most (gC1 most) 2 _ HT1.out (by omega)).mono ?_; rintro e W2 ⟨rfl, hT, hg'⟩; rw [or2 h3 h8] at hT ⊢; have HT2 := Aside0.mk hT; have HG2 := Aside0.mk (HG1.out.andThen hg' (fun j e => by cases e; exact .inl hm)); clear hT hg')
          | (go_at_call 11; refine (add_calls g m most oneC 1 _ HT0.out (by omega)).mono ?_; rintro e W1 ⟨rfl, hT, hg'⟩; rw [or1 h3 h8] at hT ⊢; have HT1 := Aside0.mk hT; have HG1 := Aside0.mk (HG0.out.andThen hg' (fun j e => by cases e; exact .inl hm)); clear hT hg')
          | (go_at_call 10; refine (new_good most _ (by omega) (by omega)).mono ?_; rintro e W0 ⟨g, m, hg, hm, rfl, hT0, hg0⟩; have HT0 := Aside0.mk hT0; have HG0 := Aside0.mk hg0; clear hT0 hg0))
      go_ret
      exact ⟨rfl, (HGe.out.trans HEs.out).trans HG9.out⟩
    · -- zombie true, waits false
      go_enter Try.func4, Try.ntmps4
      go_wp2_with (first
          | (go_at_call 9; refine (awake_calls _).mono ?_; rintro e W9 ⟨rfl, hg9⟩; have HG9 := Aside0.mk hg9; clear hg9)
          | (go_at_call 15; go_loud (refine (prioryref13_SameReaped.calls 3 Ae qe ([] : List S40) (some ⟨We.heap.size, 0, none⟩) 0 ([] : List S40) true (Wg.alloc (.cells #[.int .i64 3, .int .i64 1, .int .i64 3, .int .u32 code] 36)) ?hCl hqe ?hCw ?hqw (by kernel_rfl)).mono ?_); (case hCl => obtain ⟨A', q', e', _, h'⟩ := Kd.R_reads (R_own HRe.out HEg.out (fun r e => by cases e)); cases e'; exact h'); (case hCw => exact C_nil40 _ _); (case hqw => exact Nat.le_refl _); rintro e Ws ⟨rfl, hd⟩; have hP := HPg.out; rw [← cells_drawn hd] at hP; have p1 := (blk_cell hP 1).trans rfl; have p2 := (blk_cell hP 2).trans rfl; have HEs := Aside0.mk (HEg.out.trans (gb_drawn hd)); clear hd hP)
          | (go_at_call 14; refine (get_calls g m most (gE most code true false) 3 _ (HTe.out.grown (World.grownBy_alloc We (.cells #[] 40) none) (by simp) (by simp))).mono ?_; rintro e Wg ⟨rfl, hg'⟩; rw [org10 code h3 h8]; simp only [pv]; have HEg := Aside0.mk (((World.grownBy_alloc We (.cells #[] 40) none).trans hg').trans (World.grownBy_alloc Wg (.cells #[.int .i64 3, .int .i64 1, .int .i64 3, .int .u32 code] 36) none)); have HPg := Aside0.mk (new_at (W := Wg) (.cells #[.int .i64 3, .int .i64 1, .int .i64 3, .int .u32 code] 36) rfl); clear hg')
          | (go_at_call 13; refine (exit_calls g m most (gW most code true false) 2 9 _ HTz.out (by omega)).mono ?_; rintro e We ⟨v, rfl, hR, hT, hg'⟩; rw [ore10 code h3 h8] at hR hT ⊢; obtain ⟨Ae, qe, rfl, hqe, _⟩ := Kd.R_reads hR; have HRe := Aside0.mk hR; have HTe := Aside0.mk hT; have HGe := Aside0.mk (HGz.out.andThen hg' (fun j e => by cases e; exact .inl hm)); clear hT hg' hR)
          | (go_at_call 13; refine (exit_calls g m most (gC2 most) 3 code _ HT2.out (by omega)).mono ?_; rintro e Wz ⟨v, rfl, hR, hT, hg'⟩; rw [orz code h3 h8] at hR hT ⊢; obtain ⟨Az, qz, rfl, hqz, _⟩ := Kd.R_reads hR; have HRz := Aside0.mk hR; have HTz := Aside0.mk hT; have HGz := Aside0.mk (HG2.out.andThen hg' (fun j e => by cases e; exact .inl hm)); clear hT hg' hR)
          | (go_at_call 11; refine (add_calls g m most (gC1 most) 2 _ HT1.out (by omega)).mono ?_; rintro e W2 ⟨rfl, hT, hg'⟩; rw [or2 h3 h8] at hT ⊢; have HT2 := Aside0.mk hT; have HG2 := Aside0.mk (HG1.out.andThen hg' (fun j e => by cases e; exact .inl hm)); clear hT hg')
          | (go_at_call 11; refine (add_calls g m most oneC 1 _ HT0.out (by omega)).mono ?_; rintro e W1 ⟨rfl, hT, hg'⟩; rw [or1 h3 h8] at hT ⊢; have HT1 := Aside0.mk hT; have HG1 := Aside0.mk (HG0.out.andThen hg' (fun j e => by cases e; exact .inl hm)); clear hT hg')
          | (go_at_call 10; refine (new_good most _ (by omega) (by omega)).mono ?_; rintro e W0 ⟨g, m, hg, hm, rfl, hT0, hg0⟩; have HT0 := Aside0.mk hT0; have HG0 := Aside0.mk hg0; clear hT0 hg0))
      go_ret
      exact ⟨rfl, (HGe.out.trans HEs.out).trans HG9.out⟩
    · -- zombie true, waits true
      go_enter Try.func4, Try.ntmps4
      go_wp2_with (first
          | (go_at_call 9; refine (awake_calls _).mono ?_; rintro e W9 ⟨rfl, hg9⟩; have HG9 := Aside0.mk hg9; clear hg9)
          | (go_at_call 15; go_loud (refine (prioryref13_SameReaped.calls 3 Ae qe [(⟨1, 2, 9⟩ : S40)] Aa qa [(⟨1, 2, 9⟩ : S40)] true (Wg.alloc (.cells #[.int .i64 3, .int .i64 1, .int .i64 3, .int .u32 code] 36)) ?hCl hqe ?hCw ?hqw (by kernel_rfl)).mono ?_); (case hCl => obtain ⟨A', q', e', _, h'⟩ := Kd.R_reads (R_own HRe.out HEg.out (fun r e => by cases e)); cases e'; exact h'); (case hCw => obtain ⟨A', q', e', _, h'⟩ := Kd.R_reads (R_own HRa.out HEb.out (fun r e => by cases e)); cases e'; exact h'); (case hqw => exact hqa); rintro e Ws ⟨rfl, hd⟩; have hP := HPg.out; rw [← cells_drawn hd] at hP; have p1 := (blk_cell hP 1).trans rfl; have p2 := (blk_cell hP 2).trans rfl; have HEs := Aside0.mk (HEg.out.trans (gb_drawn hd)); clear hd hP)
          | (go_at_call 14; refine (get_calls g m most (gE most code true true) 3 _ (HTe.out.grown HEa.out (by simp) (by simp))).mono ?_; rintro e Wg ⟨rfl, hg'⟩; rw [org11 code h3 h8]; simp only [pv]; have HEg := Aside0.mk ((HEa.out.trans hg').trans (World.grownBy_alloc Wg (.cells #[.int .i64 3, .int .i64 1, .int .i64 3, .int .u32 code] 36) none)); have HEb := Aside0.mk (hg'.trans (World.grownBy_alloc Wg (.cells #[.int .i64 3, .int .i64 1, .int .i64 3, .int .u32 code] 36) none)); have HPg := Aside0.mk (new_at (W := Wg) (.cells #[.int .i64 3, .int .i64 1, .int .i64 3, .int .u32 code] 36) rfl); clear hg')
          | ((with_reducible refine gate_builtin (b := .append) (xs := #[.tmp 76, .tmp 79]) rfl ?_); at_builtin; go_loud (refine R_appendP k40 (W := We.alloc (.cells #[] 40)) We.heap.size rfl (.tmp 76) (.tmp 79) 31 40 (.agg #[.int .i64 0, .int .i64 0, .int .u32 0]) 24 rfl Try.underlying31 info40 rfl (by decide) (by decide) (.slice (some ⟨We.heap.size, 0, none⟩) 0 0) ([] : List S40) ⟨1, 2, 9⟩ [.int .i64 1, .int .i64 2, .int .u32 9] (fun _ => True) (fun _ => False) rfl (by simp; rfl) (k40_mkM _ _ _ ⟨1, 2, 9⟩) (fun _ h => h.elim) (fun _ _ => trivial) ⟨fun _ _ => trivial, OwnRow.lit We We.heap.size (R := k40.M _ _ _) (ps := ([] : List S40)) (inner := []) (Reps.none _ _) (Nat.le_refl _) (by simp)⟩ (by simp) (by simp) ?_); intro v1 Wa hRa hga; obtain ⟨Aa, qa, rfl, hqa, _⟩ := Kd.R_reads hRa; have HRa := Aside0.mk hRa; have HEa := Aside0.mk ((World.grownBy_alloc We (.cells #[] 40) none).andThen hga (fun j e => by cases e; exact .inl (Nat.le_refl _))); clear hRa hga)
          | (go_at_call 13; refine (exit_calls g m most (gW most code true true) 2 9 _ HTw.out (by omega)).mono ?_; rintro e We ⟨v, rfl, hR, hT, hg'⟩; rw [ore11 code h3 h8] at hR hT ⊢; obtain ⟨Ae, qe, rfl, hqe, _⟩ := Kd.R_reads hR; have HRe := Aside0.mk hR; have HTe := Aside0.mk hT; have HGe := Aside0.mk (HGw.out.andThen hg' (fun j e => by cases e; exact .inl hm)); clear hT hg' hR)
          | (go_at_call 12; refine (wait_calls g m most (gZ most code true) 1 _ HTz.out (by omega)).mono ?_; rintro e Ww ⟨v, rfl, hR, hT, hg'⟩; rw [orw1 code h3 h8] at hR hT ⊢; obtain ⟨Aw, qw, rfl, hqw, _⟩ := Kd.R_reads hR; have HRw := Aside0.mk hR; have HTw := Aside0.mk hT; have HGw := Aside0.mk (HGz.out.andThen hg' (fun j e => by cases e; exact .inl hm)); clear hT hg' hR)
          | (go_at_call 13; refine (exit_calls g m most (gC2 most) 3 code _ HT2.out (by omega)).mono ?_; rintro e Wz ⟨v, rfl, hR, hT, hg'⟩; rw [orz code h3 h8] at hR hT ⊢; obtain ⟨Az, qz, rfl, hqz, _⟩ := Kd.R_reads hR; have HRz := Aside0.mk hR; have HTz := Aside0.mk hT; have HGz := Aside0.mk (HG2.out.andThen hg' (fun j e => by cases e; exact .inl hm)); clear hT hg' hR)
          | (go_at_call 11; refine (add_calls g m most (gC1 most) 2 _ HT1.out (by omega)).mono ?_; rintro e W2 ⟨rfl, hT, hg'⟩; rw [or2 h3 h8] at hT ⊢; have HT2 := Aside0.mk hT; have HG2 := Aside0.mk (HG1.out.andThen hg' (fun j e => by cases e; exact .inl hm)); clear hT hg')
          | (go_at_call 11; refine (add_calls g m most oneC 1 _ HT0.out (by omega)).mono ?_; rintro e W1 ⟨rfl, hT, hg'⟩; rw [or1 h3 h8] at hT ⊢; have HT1 := Aside0.mk hT; have HG1 := Aside0.mk (HG0.out.andThen hg' (fun j e => by cases e; exact .inl hm)); clear hT hg')
          | (go_at_call 10; refine (new_good most _ (by omega) (by omega)).mono ?_; rintro e W0 ⟨g, m, hg, hm, rfl, hT0, hg0⟩; have HT0 := Aside0.mk hT0; have HG0 := Aside0.mk hg0; clear hT0 hg0))
      go_ret
      exact ⟨rfl, (HGe.out.trans HEs.out).trans HG9.out⟩
  · by_cases h3 : most < 3
    · go_enter Try.func4, Try.ntmps4
      go_wp2_with (go_at_call 9; refine (awake_calls _).mono ?_; rintro e W9 ⟨rfl, hg9⟩; have HG9 := Aside0.mk hg9; clear hg9)
      go_ret
      exact ⟨rfl, HG9.out⟩
    · have h8 : 8 < most := by omega
      go_enter Try.func4, Try.ntmps4
      go_wp2_with (go_at_call 9; refine (awake_calls _).mono ?_; rintro e W9 ⟨rfl, hg9⟩; have HG9 := Aside0.mk hg9; clear hg9)
      go_ret
      exact ⟨rfl, HG9.out⟩
end Go.Proofs.Ytbaddcojhggamaa.PAll
