/-
  SlotsFull: the plain part and the walk.
-/
import Derived.Test.YtbaddcojhggamaaOrphans
import Derived.IntWalk
namespace Go.Proofs.Ytbaddcojhggamaa.PAll
open Go.RowKit Go.Shelf Go.Proofs.YtbaddcojhggamaaM Go.Proofs.YtbaddcojhggamaaW.PrintWords Go.Proofs.YtbaddcojhggamaaW.PrintLast Go.Proofs.YtbaddcojhggamaaW.PrintMore
attribute [local go_sem high] eqA40 eqA36
set_option linter.unusedVariables false
set_option linter.unusedSimpArgs false
/-- The processes are 1 to many, all ready. -/
def FullC (c : Int → Option S36) (many : Int) : Prop := ∃ par : Int → Int, ∀ j, c j = if 1 ≤ j ∧ j ≤ many then some ⟨j, par j, 1, 0⟩ else none
theorem FullC.one : FullC oneC 1 := ⟨fun _ => 0, fun j => by
  unfold oneC
  by_cases h : j = 1
  · subst h; rfl
  · rw [if_neg h, if_neg (by omega)]⟩
theorem FullC.get_in {c : Int → Option S36} {many x : Int} (h : FullC c many) (h1 : 1 ≤ x) (h2 : x ≤ many) : ∃ p, c x = some ⟨x, p, 1, 0⟩ := by
  obtain ⟨par, hp⟩ := h
  exact ⟨par x, by rw [hp, if_pos ⟨h1, h2⟩]⟩
theorem FullC.get_out {c : Int → Option S36} {many x : Int} (h : FullC c many) (h1 : ¬ (1 ≤ x ∧ x ≤ many)) : c x = none := by
  obtain ⟨par, hp⟩ := h
  rw [hp, if_neg h1]
theorem FullC.free {c : Int → Option S36} {mn : Nat} (h : FullC c mn) : ∀ (d n : Nat), 1 ≤ n → n ≤ mn + 1 → freeF c d n = if mn + 1 < n + d then some (mn + 1) else none
  | 0, n, h1, h2 => by unfold freeF; rw [if_neg (by omega)]
  | d + 1, n, h1, h2 => by
    unfold freeF
    by_cases e : n = mn + 1
    · subst e
      rw [h.get_out (by omega), if_pos (by rfl), if_pos (by omega)]
    · obtain ⟨p, hp⟩ := h.get_in (x := n) (by omega) (by omega)
      rw [hp, if_neg (by simp), FullC.free h d (n + 1) (by omega) (by omega)]
      by_cases hc : mn + 1 < n + 1 + d
      · rw [if_pos hc, if_pos (by omega)]
      · rw [if_neg hc, if_neg (by omega)]
theorem FullC.add {c : Int → Option S36} {mn : Nat} (h : FullC c mn) (x : Int) : FullC (upd c ((mn : Int) + 1) (some ⟨(mn : Int) + 1, x, 1, 0⟩)) ((mn : Int) + 1) := by
  obtain ⟨par, hp⟩ := h
  refine ⟨fun j => if j = (mn : Int) + 1 then x else par j, fun j => ?_⟩
  unfold upd
  by_cases e : j = (mn : Int) + 1
  · subst e; rw [if_pos rfl, if_pos (by omega)]; simp only [if_true]
  · rw [if_neg e, hp]; simp only [if_neg e]
    by_cases e2 : 1 ≤ j ∧ j ≤ (mn : Int)
    · rw [if_pos e2, if_pos (by omega)]
    · rw [if_neg e2, if_neg (by omega)]
theorem FullC.add_ok {c : Int → Option S36} {mn : Nat} {most x : Int} (h : FullC c mn) (h1 : 1 ≤ x) (h2 : x ≤ mn) (hm : (mn : Int) < most) : addR c most x = ((mn : Int) + 1, 0, upd c ((mn : Int) + 1) (some ⟨(mn : Int) + 1, x, 1, 0⟩)) := by
  obtain ⟨p, hp⟩ := h.get_in h1 h2
  unfold addR
  rw [hp]
  simp only
  rw [if_neg (by decide), h.free most.toNat 1 (Nat.le_refl _) (by omega), if_pos (by omega)]
  simp
theorem FullC.add_full {c : Int → Option S36} {mn : Nat} {most x : Int} (h : FullC c mn) (h1 : 1 ≤ x) (h2 : x ≤ mn) (hm : (mn : Int) = most) : addR c most x = (0, 3, c) := by
  obtain ⟨p, hp⟩ := h.get_in h1 h2
  unfold addR
  rw [hp]
  simp only
  rw [if_neg (by decide), h.free most.toNat 1 (Nat.le_refl _) (by omega), if_neg (by omega)]
theorem FullC.add_none {c : Int → Option S36} {mn : Int} {most x : Int} (h : FullC c mn) (h1 : ¬ (1 ≤ x ∧ x ≤ mn)) : addR c most x = (0, 4, c) := by
  unfold addR
  rw [h.get_out h1]
theorem FullC.getR_in {c : Int → Option S36} {many x : Int} (h : FullC c many) (h1 : 1 ≤ x) (h2 : x ≤ many) : ∃ p, getR c x = (⟨x, p, 1, 0⟩, true) := by
  obtain ⟨p, hp⟩ := h.get_in h1 h2
  exact ⟨p, by unfold getR; rw [hp]⟩
theorem FullC.getR_out {c : Int → Option S36} {many x : Int} (h : FullC c many) (h1 : ¬ (1 ≤ x ∧ x ≤ many)) : getR c x = (⟨0, 0, 0, 0⟩, false) := by
  unfold getR; rw [h.get_out h1]
theorem FullC.len {c : Int → Option S36} {mn : Nat} (h : FullC c mn) : ∀ n, mn ≤ n → (lstF c n).length = mn := by
  have low : ∀ n, n ≤ mn → (lstF c n).length = n := by
    intro n
    induction n with
    | zero => intro _; rfl
    | succ n ih =>
      intro hn
      obtain ⟨p, hp⟩ := h.get_in (x := (n : Int) + 1) (by omega) (by omega)
      rw [lstF_succ, hp, List.length_append, ih (by omega)]
      rfl
  intro n hn
  induction n with
  | zero => rw [low 0 (by omega)]; omega
  | succ n ih =>
    by_cases e : mn = n + 1
    · rw [low (n + 1) (by omega), e]
    · rw [lstF_succ, h.get_out (by omega), List.length_append, ih (by omega)]
      rfl
/-- The walk. -/
theorem cells_keep {w W : World} {A : Addr} {v : Value} (h : w.cell? A = some v) (hb : Below w.heap.size w W) : W.cell? A = some v := by
  rw [World.cell?_of_block (hb.block _ (World.block_lt_of_cell? w _ h))]; exact h
set_option maxRecDepth 100000 in
set_option maxHeartbeats 8000000 in
theorem full_calls (most : Int) (A : Option Addr) (q : Nat) (l : List Int) (w : World) (hl : Kd.C (Kd.int .i64) w A l.length l) (hq : l.length ≤ q) : Calls Try.prog 8 #[.int .i64 most, .slice A l.length q] w fun e W' => e = .returned (.bool true) ∧ Below w.heap.size w W' := by
  refine Calls.mono (R := fun e W' => e = .returned (.bool true) ∧ w.grownBy W' none) ?_ (fun e W' h => ⟨h.1, below_of_grown h.2⟩)
  have HL := Aside0.mk hl
  have HQ := Aside0.mk hq
  clear hl hq
  by_cases hok : 1 ≤ most ∧ most ≤ 8 ∧ l.length ≤ 20
  · obtain ⟨h1, h8, h20⟩ := hok
    go_enter Try.func8, Try.ntmps8
    go_wp2_with (go_at_call 10; refine (new_good most _ (by omega) (by omega)).mono ?_; rintro e W0 ⟨g, m, hg, hm, rfl, hT0, hg0⟩; have HT0 := Aside0.mk hT0; have HG0 := Aside0.mk hg0; clear hT0 hg0)
    go_loopg [7, 8] (l.length + 1) (fun kq v7 v8 w' => ∃ (mn : Nat) (i : Int) (c' : Int → Option S36), v7 = .int .i64 (mn : Int) ∧ v8 = .int .i64 i ∧ Aside0 (FullC c' mn) ∧ Aside0 (1 ≤ mn ∧ (mn : Int) ≤ most ∧ 0 ≤ i ∧ i + kq = l.length + 1) ∧ Aside0 (TabW w' g m most c') ∧ Aside0 (w.grownBy w' none))
    case atStart => exact ⟨1, 0, oneC, rfl, rfl, ⟨FullC.one⟩, ⟨⟨Nat.le_refl _, by omega, Int.le_refl _, by omega⟩⟩, HT0, HG0⟩
    case round =>
      obtain ⟨mn, i, c', rfl, rfl, HF, HN, HT, HG⟩ := hrel
      by_cases hi1 : i < (l.length : Int)
      · have hi0 : 0 ≤ i := HN.out.2.2.1
        obtain ⟨k1, rfl⟩ : ∃ k1, gk = k1 + 1 := ⟨gk - 1, by have := HN.out.2.2.2; omega⟩
        obtain ⟨ad, eA, y0⟩ := Kd.at_int HL.out i hi0 hi1
        subst eA
        obtain ⟨x, hx⟩ : ∃ x, x = rd l i := ⟨_, rfl⟩
        rw [← hx] at y0
        have HB0 := Aside0.mk y0
        have y1 := cells_keep y0 (below_of_grown HG.out)
        have HB1 := Aside0.mk y1
        have hw1 : IntKind.i64.wrap (i + 1) = i + 1 := (IntWalk.i64_left _).trans (IntWalk.wrap64_in _ (by have := HN.out; omega))
        have hw2 : IntKind.i64.wrap ((mn : Int) + 1) = (mn : Int) + 1 := (IntWalk.i64_left _).trans (IntWalk.wrap64_in _ (by have := HN.out; omega))
        clear y0 hx
        by_cases hin : 1 ≤ x ∧ x ≤ (mn : Int)
        · obtain ⟨pp, hpp⟩ := HF.out.getR_in hin.1 hin.2
          have HGR := Aside0.mk hpp
          by_cases hlt : (mn : Int) < most
          · have HAD := Aside0.mk (HF.out.add_ok hin.1 hin.2 hlt)
            have HGR2 := Aside0.mk (show getR (upd c' ((mn : Int) + 1) (some ⟨(mn : Int) + 1, x, 1, 0⟩)) ((mn : Int) + 1) = (⟨(mn : Int) + 1, x, 1, 0⟩, true) by unfold getR upd; rw [if_pos rfl])
            clear hpp hin
            go_wp2_with (first | (go_at_call 14; refine (get_calls g m most (upd c' (mn + 1) (some ⟨mn + 1, x, 1, 0⟩)) (mn + 1) _ HT2.out).mono ?_; rintro e W3 ⟨rfl, hg3⟩; rw [HGR2.out]; simp only [pv]; have hg3' := hg3.trans (World.grownBy_alloc W3 (.cells #[.int .i64 (mn + 1), .int .i64 x, .int .i64 1, .int .u32 0] 36) none); have HG3 := Aside0.mk (HG2.out.trans hg3'); have HT3 := Aside0.mk (HT2.out.grown hg3' (by simp) (by simp)); have hPn := new_at (W := W3) (.cells #[.int .i64 (mn + 1), .int .i64 x, .int .i64 1, .int .u32 0] 36) rfl; have u0 := (blk_cell hPn 0).trans rfl; have u1 := (blk_cell hPn 1).trans rfl; have u2 := (blk_cell hPn 2).trans rfl; have u3 := (blk_cell hPn 3).trans rfl; have yb := (cells_keep HB0.out (below_of_grown HG3.out)); clear hg3 hg3' hPn) | (go_at_call 11; refine (add_calls g m most c' x _ HT1.out (by omega)).mono ?_; rintro e W2 ⟨rfl, hT2, hg2⟩; rw [HAD.out] at hT2 ⊢; have HG2 := Aside0.mk (HG1.out.andThen hg2 (fun j e => by cases e; exact .inl hm)); have HT2 := Aside0.mk hT2; clear hT2 hg2) | (go_at_call 14; refine (get_calls g m most c' x _ HT.out).mono ?_; rintro e W1 ⟨rfl, hg1⟩; rw [HGR.out]; simp only [pv]; have hg1' := hg1.trans (World.grownBy_alloc W1 (.cells #[.int .i64 x, .int .i64 pp, .int .i64 1, .int .u32 0] 36) none); have HG1 := Aside0.mk (HG.out.trans hg1'); have HT1 := Aside0.mk (HT.out.grown hg1' (by simp) (by simp)); have ya := (cells_keep HB1.out (below_of_grown hg1')); clear hg1 hg1'))
            go_quiet (fail)
            go_wp2
            go_roundg k1
            case measure => omega
            case rel => exact ⟨mn + 1, i + 1, _, by simp, rfl, ⟨by have := HF.out.add x; simpa using this⟩, ⟨by have := HN.out; omega⟩, ⟨HT3.out.same rfl rfl⟩, ⟨HG3.out.trans (gb_drawn ⟨⟨_, rfl⟩⟩)⟩⟩
          · have hme : (mn : Int) = most := by have := HN.out; omega
            have HAD := Aside0.mk (HF.out.add_full hin.1 hin.2 hme)
            clear hpp hin hme
            go_wp2_with (first | (go_at_call 11; refine (add_calls g m most c' x _ HT1.out (by omega)).mono ?_; rintro e W2 ⟨rfl, hT2, hg2⟩; rw [HAD.out] at hT2 ⊢; have HG2 := Aside0.mk (HG1.out.andThen hg2 (fun j e => by cases e; exact .inl hm)); have HT2 := Aside0.mk hT2; clear hT2 hg2) | (go_at_call 14; refine (get_calls g m most c' x _ HT.out).mono ?_; rintro e W1 ⟨rfl, hg1⟩; rw [HGR.out]; simp only [pv]; have hg1' := hg1.trans (World.grownBy_alloc W1 (.cells #[.int .i64 x, .int .i64 pp, .int .i64 1, .int .u32 0] 36) none); have HG1 := Aside0.mk (HG.out.trans hg1'); have HT1 := Aside0.mk (HT.out.grown hg1' (by simp) (by simp)); have ya := (cells_keep HB1.out (below_of_grown hg1')); clear hg1 hg1'))
            go_roundg k1
            case measure => omega
            case rel => exact ⟨mn, i + 1, _, rfl, rfl, HF, ⟨by have := HN.out; omega⟩, HT2, HG2⟩
        · have HGR := Aside0.mk (HF.out.getR_out hin)
          have HAD := Aside0.mk (HF.out.add_none (most := most) hin)
          clear hin
          go_wp2_with (first | (go_at_call 11; refine (add_calls g m most c' x _ HT1.out (by omega)).mono ?_; rintro e W2 ⟨rfl, hT2, hg2⟩; rw [HAD.out] at hT2 ⊢; have HG2 := Aside0.mk (HG1.out.andThen hg2 (fun j e => by cases e; exact .inl hm)); have HT2 := Aside0.mk hT2; clear hT2 hg2) | (go_at_call 14; refine (get_calls g m most c' x _ HT.out).mono ?_; rintro e W1 ⟨rfl, hg1⟩; rw [HGR.out]; simp only [pv]; have hg1' := hg1.trans (World.grownBy_alloc W1 (.cells #[.int .i64 0, .int .i64 0, .int .i64 0, .int .u32 0] 36) none); have HG1 := Aside0.mk (HG.out.trans hg1'); have HT1 := Aside0.mk (HT.out.grown hg1' (by simp) (by simp)); have ya := (cells_keep HB1.out (below_of_grown hg1')); clear hg1 hg1'))
          go_roundg k1
          case measure => omega
          case rel => exact ⟨mn, i + 1, _, rfl, rfl, HF, ⟨by have := HN.out; omega⟩, HT2, HG2⟩
      · have hlen : (lstF c' most.toNat).length = mn := HF.out.len _ (by have := HN.out; omega)
        go_wp2_with (first | (go_at_call 9; refine (awake_calls _).mono ?_; rintro e W9 ⟨rfl, hg9⟩; have HG9 := Aside0.mk hg9; clear hg9) | (go_at_call 19; refine (all_list g m most c' _ HT.out (by omega)).mono ?_; rintro e W1 ⟨v, rfl, hR, hg1⟩; obtain ⟨A1, q1, rfl, _, _⟩ := Kd.R_reads hR; rw [hlen]; have HG1 := Aside0.mk (HG.out.trans hg1); clear hg1 hR))
        go_ret
        exact ⟨rfl, HG1.out.trans HG9.out⟩
  · by_cases hm : most < 1
    · go_enter Try.func8, Try.ntmps8
      go_wp2_with (go_at_call 9; refine (awake_calls _).mono ?_; rintro e W9 ⟨rfl, hg9⟩; have HG9 := Aside0.mk hg9; clear hg9)
      go_ret
      exact ⟨rfl, HG9.out⟩
    · by_cases hm8 : 8 < most
      · go_enter Try.func8, Try.ntmps8
        go_wp2_with (go_at_call 9; refine (awake_calls _).mono ?_; rintro e W9 ⟨rfl, hg9⟩; have HG9 := Aside0.mk hg9; clear hg9)
        go_ret
        exact ⟨rfl, HG9.out⟩
      · have h20 : 20 < l.length := by omega
        have hm1 : ¬ most < 1 := hm
        have h20i : decide (20 < (l.length : Int)) = true := decide_eq_true (by omega)
        go_enter Try.func8, Try.ntmps8
        go_wp2_with (go_at_call 9; refine (awake_calls _).mono ?_; rintro e W9 ⟨rfl, hg9⟩; have HG9 := Aside0.mk hg9; clear hg9)
        go_ret
        exact ⟨rfl, HG9.out⟩
end Go.Proofs.Ytbaddcojhggamaa.PAll
