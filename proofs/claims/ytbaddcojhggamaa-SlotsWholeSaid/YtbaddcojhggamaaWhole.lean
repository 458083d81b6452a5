/-
  SlotsWhole: the walk.
-/
import Derived.Test.YtbaddcojhggamaaFull
import Derived.Test.YtbaddcojhggamaaRight
import Derived.Test.YtbaddcojhggamaaAllF20
import Derived.Test.YtbaddcojhggamaaAllF21
namespace Go.Proofs.Ytbaddcojhggamaa.PAll
open Go.RowKit Go.Shelf Go.Proofs.YtbaddcojhggamaaM Go.Proofs.YtbaddcojhggamaaW.PrintWords Go.Proofs.YtbaddcojhggamaaW.PrintLast Go.Proofs.YtbaddcojhggamaaW.PrintMore
attribute [local go_sem high] eqA40 eqA36
set_option linter.unusedVariables false
set_option linter.unusedSimpArgs false
theorem grown_of_below {w w' : World} (h : Below w.heap.size w w') : w.grownBy w' none := ⟨h.os, h.tape, h.output, h.size, fun k hk _ => h.block k hk⟩
theorem at_pres {c : Tab} {most : Int} {rank : Int → Nat} (h : Inv0 c most rank) (hm : most ≤ 8) {pid : Int} (hp : ∃ p, c pid = some p) : ∃ j : Nat, prioryref13_At.f 64 (lstF c most.toNat) pid = some (j : Int) := by
  obtain ⟨p, hp⟩ := hp
  have hl := lstF_len c most.toNat
  obtain ⟨j, h1, _⟩ := at_in (l := lstF c most.toNat) (by omega) (pid := pid) ⟨p, (h.mem).2 (by rw [(h.key hp).1]; exact hp), (h.key hp).1⟩ (k := 64) (by omega)
  exact ⟨j, h1⟩
theorem at_abs {c : Tab} {most : Int} {rank : Int → Nat} (h : Inv0 c most rank) (hm : most ≤ 8) {pid : Int} (hp : c pid = none) : prioryref13_At.f 64 (lstF c most.toNat) pid = some (-1) := by
  have hl := lstF_len c most.toNat
  refine at_out (by omega) (fun q hq e => ?_) (by omega)
  have := (h.mem).1 hq
  rw [e, hp] at this; cases this
theorem head_lst {c : Tab} {most : Int} {rank : Int → Nat} (h : Inv0 c most rank) (h1 : 1 ≤ most) : 0 < (lstF c most.toNat).length ∧ (rd_T36 (lstF c most.toNat) 0).f0 = 1 ∧ (rd_T36 (lstF c most.toNat) 0).f1 = 0 ∧ (rd_T36 (lstF c most.toNat) 0).f2 ≠ 3 := by
  obtain ⟨p, hp, a, b⟩ := h.one
  obtain ⟨n, hn⟩ : ∃ n, most.toNat = n + 1 := ⟨most.toNat - 1, by omega⟩
  have e : lstF c most.toNat = p :: (List.range n).filterMap (fun j : Nat => c (((j + 1 : Nat) : Int) + 1)) := by
    unfold lstF
    rw [hn, List.range_succ_eq_map, List.filterMap_cons, List.filterMap_map]
    have h0 : c (((0 : Nat) : Int) + 1) = some p := hp
    rw [h0]; rfl
  rw [e]
  exact ⟨by simp, (h.key hp).1, a, b⟩
set_option maxRecDepth 100000 in
set_option maxHeartbeats 16000000 in
theorem whole_calls (most : Int) (A : Option Addr) (q : Nat) (l : List S40) (w : World) (hl : Kd.C k40 w A l.length l) (hq : l.length ≤ q) : Calls Try.prog 7 #[.int .i64 most, .slice A l.length q] w fun e W' => e = .returned (.bool true) ∧ Below w.heap.size w W' := by
  refine Calls.mono (R := fun e W' => e = .returned (.bool true) ∧ w.grownBy W' none) ?_ (fun e W' h => ⟨h.1, below_of_grown h.2⟩)
  have HL := Aside0.mk hl
  have HQ := Aside0.mk hq
  clear hl hq
  by_cases hok : 1 ≤ most ∧ most ≤ 8
  · obtain ⟨h1, h8⟩ := hok
    by_cases h200 : l.length ≤ 200
    · go_enter Try.func7, Try.ntmps7
      go_wp2_with (go_at_call 10; refine (new_good most _ (by omega) (by omega)).mono ?_; rintro e W0 ⟨g, m, hg, hm, rfl, hT0, hg0⟩; have HT0 := Aside0.mk hT0; have HG0 := Aside0.mk hg0; clear hT0 hg0)
      go_loopg [7] (l.length + 1) (fun kq v7 w' => ∃ (i : Int) (c' : Tab) (rank : Int → Nat), v7 = .int .i64 i ∧ Aside0 (Inv c' most rank) ∧ Aside0 (0 ≤ i ∧ i + kq = l.length + 1) ∧ Aside0 (TabW w' g m most c') ∧ Aside0 (w.grownBy w' none))
      case atStart => exact ⟨0, oneC, _, rfl, ⟨inv_one h1⟩, ⟨⟨Int.le_refl _, by omega⟩⟩, HT0, HG0⟩
      case round =>
        obtain ⟨i, c', rank, rfl, HI, HN, HT, HG⟩ := hrel
        clear HT0 HG0
        by_cases hi1 : i < (l.length : Int)
        · have hi0 : 0 ≤ i := HN.out.1
          obtain ⟨k1, rfl⟩ : ∃ k1, gk = k1 + 1 := ⟨gk - 1, by have := HN.out.2; omega⟩
          obtain ⟨ad, eA, y0, y1, y2⟩ := at_T40 HL.out i hi0 hi1
          subst eA
          obtain ⟨o, ho⟩ : ∃ o, o = rd_T40 l i := ⟨_, rfl⟩
          rw [← ho] at y0 y1 y2
          replace y0 := cells_keep y0 (below_of_grown HG.out)
          replace y1 := cells_keep y1 (below_of_grown HG.out)
          replace y2 := cells_keep y2 (below_of_grown HG.out)
          have hw1 : IntKind.i64.wrap (i + 1) = i + 1 := (IntWalk.i64_left _).trans (IntWalk.wrap64_in _ (by have := HN.out; omega))
          obtain ⟨L9, hL9⟩ : ∃ L9, L9 = lstF c' most.toNat := ⟨_, rfl⟩
          have HL9 := Aside0.mk hL9
          clear ho hL9
          obtain ⟨o0, o1, o2⟩ := o
          simp only at y0 y1 y2
          by_cases hd1 : o0 = 1
          · subst hd1
            obtain ⟨c2, hc2⟩ : ∃ c2, c2 = (addR c' most o1).2.2 := ⟨_, rfl⟩
            obtain ⟨lr, hlr⟩ : ∃ lr, lr = ([] : List S40) := ⟨_, rfl⟩
            obtain ⟨rank2, hI2, hTold⟩ : ∃ rank2, Inv c2 most rank2 ∧ Told c' c2 lr := by rw [hc2, hlr]; exact by obtain ⟨rank', h⟩ := inv_add HI.out o1; exact ⟨rank', h, fun r hr => by cases hr⟩
            obtain ⟨L15, hL15⟩ : ∃ L15, L15 = lstF c2 most.toNat := ⟨_, rfl⟩
            obtain ⟨b1, b2, b3, b4⟩ := head_lst hI2.1 h1
            rw [← hL15] at b1 b2 b3 b4
            have hAt : ∀ r ∈ lr, (∃ j : Nat, prioryref13_At.f 64 L9 r.f1 = some (j : Int)) ∧ prioryref13_At.f 64 L15 r.f1 = some (-1) ∧ ∃ j : Nat, prioryref13_At.f 64 L15 r.f0 = some (j : Int) := fun r hr => by
              obtain ⟨x1, x2, x3⟩ := hTold r hr
              rw [HL9.out, hL15]
              exact ⟨at_pres HI.out.1 h8 x1, at_abs hI2.1 h8 x2, at_pres hI2.1 h8 x3⟩
            have hRt : ∀ p ∈ L15, priorylaw13_right.f 64 L15 p.f0 p.f1 p.f2 p.f3 = some true := fun p hp => by rw [hL15] at hp ⊢; exact right_true hI2 h8 hp
            have hlen9 : L9.length ≤ 8 := by rw [HL9.out]; exact Nat.le_trans (lstF_len _ _) (by omega)
            have hlen15 : L15.length ≤ 8 := by rw [hL15]; exact Nat.le_trans (lstF_len _ _) (by omega)
            have HC2 := Aside0.mk hc2
            have HLR := Aside0.mk hlr
            have HL15 := Aside0.mk hL15
            have HI2 := Aside0.mk hI2
            have HAT := Aside0.mk hAt
            have HRT := Aside0.mk hRt
            have HB := Aside0.mk (And.intro b1 (And.intro b2 (And.intro b3 b4)))
            have HLN := Aside0.mk (And.intro hlen9 hlen15)
            clear hc2 hlr hTold hL15 hI2 hAt hRt b1 b2 b3 b4 hlen9 hlen15
            go_wp2_with (first | (go_at_call 19; refine (all_list g m most c2 _ HT2.out (by omega)).mono ?_; rintro e Wb ⟨v15, rfl, hR15, hg3⟩; rw [← HL15.out] at hR15; obtain ⟨A15, q15, rfl, hq15, hC15⟩ := Kd.R_reads hR15; have HC15 := Aside0.mk hC15; obtain ⟨_, _, e9, _, hC9⟩ := Kd.R_reads (R_own HR9b.out hg3 (fun r e => by cases e)); cases e9; have HC9 := Aside0.mk hC9; have HT3 := Aside0.mk (TabW.grown HT2.out hg3 (by simp) (by simp)); have HG3 := Aside0.mk (HG2.out.trans hg3); clear hR15 hC15 hC9 hg3) | (go_at_call 11; refine (add_calls g m most c' o1 _ HT1.out (by omega)).mono ?_; rintro e W2 ⟨rfl, hT2, hg2⟩; rw [← HC2.out] at hT2; have HT2 := Aside0.mk hT2; have HG2 := Aside0.mk (HG1.out.andThen hg2 (fun j e => by cases e; exact .inl hm)); have HR9b := Aside0.mk (R_grown_m HR9.out hg2 (by have := HT.out.lt.2; simp; omega)); clear hT2 hg2) | (go_at_call 19; refine (all_list g m most c' _ (HT.out.grown (World.grownBy_alloc wr (.cells #[.int .i64 1, .int .i64 o1, .int .u32 o2] 53) none) (by simp) (by simp)) (by omega)).mono ?_; rintro e W1 ⟨v9, rfl, hR9, hg1⟩; rw [← HL9.out] at hR9; obtain ⟨A9, q9, rfl, hq9, _⟩ := Kd.R_reads hR9; have hp8 := blk_grown (new_at (W := wr) (.cells #[.int .i64 1, .int .i64 o1, .int .u32 o2] 53) rfl) hg1 (by simp); have x80 := (blk_cell hp8 0).trans rfl; have x81 := (blk_cell hp8 1).trans rfl; have x82 := (blk_cell hp8 2).trans rfl; have HT1 := Aside0.mk ((HT.out.grown (World.grownBy_alloc wr (.cells #[.int .i64 1, .int .i64 o1, .int .u32 o2] 53) none) (by simp) (by simp)).grown hg1 (by simp) (by simp)); have HG1 := Aside0.mk ((HG.out.trans (World.grownBy_alloc wr (.cells #[.int .i64 1, .int .i64 o1, .int .u32 o2] 53) none)).trans hg1); have HR9 := Aside0.mk hR9; clear hR9 hg1 hp8))
            go_loopg [16] (lr.length + 1) (fun kq v16 w' => ∃ i2 : Int, v16 = .int .i64 i2 ∧ Aside0 (0 ≤ i2 ∧ i2 + kq = lr.length + 1) ∧ Aside0 (Wb.grownBy w' none))
            case atStart => exact ⟨0, rfl, ⟨⟨Int.le_refl _, by omega⟩⟩, ⟨World.grownBy.refl _ none⟩⟩
            case round =>
              obtain ⟨i2, rfl, HN2, HX⟩ := hrel
              by_cases hi2 : i2 < (lr.length : Int)
              · exfalso; have h5 := HN2.out.1; have h6 := HLR.out; rw [h6] at hi2; simp at hi2; omega
              · have hz15 := at_T36 HC15.out 0 (by omega) (by have := HB.out.1; omega)
                obtain ⟨ad15, e15, z0, z1, z2, _⟩ := hz15
                subst e15
                rw [HB.out.2.1] at z0
                rw [HB.out.2.2.1] at z1
                obtain ⟨st, hst⟩ : ∃ st, st = (rd_T36 L15 0).f2 := ⟨_, rfl⟩
                rw [← hst] at z2
                have hst3 : ¬ st = 3 := by rw [hst]; exact HB.out.2.2.2
                have z0' : wr.cell? ad15 = some (.int .i64 1) := cells_keep z0 (below_of_grown HX.out)
                have z1' : wr.cell? ⟨ad15.block, ad15.off + 1, none⟩ = some (.int .i64 0) := cells_keep z1 (below_of_grown HX.out)
                have z2' : wr.cell? ⟨ad15.block, ad15.off + 2, none⟩ = some (.int .i64 st) := cells_keep z2 (below_of_grown HX.out)
                have hpos : 0 < L15.length := HB.out.1
                clear z0 z1 z2 hst
                have hposI : decide ((L15.length : Int) < 1) = false := decide_eq_false (by omega)
                go_wp2
                go_loopg [17] (L15.length + 1) (fun kq v17 w' => ∃ i3 : Int, v17 = .int .i64 i3 ∧ Aside0 (0 ≤ i3 ∧ i3 + kq = L15.length + 1) ∧ Aside0 (Wb.grownBy w' none))
                case atStart => exact ⟨0, rfl, ⟨⟨Int.le_refl _, by omega⟩⟩, HX⟩
                case round =>
                  clear z0' z1' z2'
                  obtain ⟨i3, rfl, HN3, HY⟩ := hrel
                  by_cases hi3 : i3 < (L15.length : Int)
                  · have hi30 : 0 ≤ i3 := HN3.out.1
                    obtain ⟨k3, rfl⟩ : ∃ k3, gk = k3 + 1 := ⟨gk - 1, by have := HN3.out.2; omega⟩
                    have hwi3 : IntKind.i64.wrap (i3 + 1) = i3 + 1 := (IntWalk.i64_left _).trans (IntWalk.wrap64_in _ (by have := HN3.out; have := HLN.out.2; omega))
                    obtain ⟨ad16, e16, t0, t1, t2, t3⟩ := at_T36 HC15.out i3 hi30 hi3
                    cases e16
                    obtain ⟨p, hp⟩ : ∃ p, p = rd_T36 L15 i3 := ⟨_, rfl⟩
                    rw [← hp] at t0 t1 t2 t3
                    have hmem : p ∈ L15 := by
                      rw [hp]; unfold rd_T36
                      rw [List.getD_eq_getElem?_getD, List.getElem?_eq_getElem (show i3.toNat < L15.length by omega)]; simp
                    have HRP := Aside0.mk (HRT.out p hmem)
                    replace t0 := cells_keep t0 (below_of_grown HY.out)
                    replace t1 := cells_keep t1 (below_of_grown HY.out)
                    replace t2 := cells_keep t2 (below_of_grown HY.out)
                    replace t3 := cells_keep t3 (below_of_grown HY.out)
                    clear hp hmem
                    go_wp2_with (go_at_call 21; refine (priorylaw13_right.calls 64 (some ad15) q15 L15 p.f0 p.f1 p.f2 p.f3 true _ (Kd.C_below HC15.out (below_of_grown HY.out)) hq15 HRP.out).mono ?_; rintro e Wy ⟨rfl, hb⟩; have HY1 := Aside0.mk (HY.out.trans (grown_of_below hb)); clear hb)
                    go_roundg k3
                    case measure => omega
                    case rel => exact ⟨i3 + 1, rfl, ⟨by have := HN3.out; omega⟩, HY1⟩
                  · go_wp2
                    go_roundg k1
                    case measure => omega
                    case rel => exact ⟨i + 1, c2, rank2, rfl, HI2, ⟨by have := HN.out; omega⟩, ⟨HT3.out.grown HY.out (by simp) (by simp)⟩, ⟨HG3.out.trans HY.out⟩⟩
          · by_cases hd2 : o0 = 2
            · subst hd2
              obtain ⟨c2, hc2⟩ : ∃ c2, c2 = (exitR c' most o1 o2).2.2 := ⟨_, rfl⟩
              obtain ⟨lr, hlr⟩ : ∃ lr, lr = (exitR c' most o1 o2).1 := ⟨_, rfl⟩
              obtain ⟨rank2, hI2, hTold⟩ : ∃ rank2, Inv c2 most rank2 ∧ Told c' c2 lr := by rw [hc2, hlr]; exact ⟨rank, (inv_exit HI.out o1 o2).1, (inv_exit HI.out o1 o2).2⟩
              obtain ⟨L15, hL15⟩ : ∃ L15, L15 = lstF c2 most.toNat := ⟨_, rfl⟩
              obtain ⟨b1, b2, b3, b4⟩ := head_lst hI2.1 h1
              rw [← hL15] at b1 b2 b3 b4
              have hAt : ∀ r ∈ lr, (∃ j : Nat, prioryref13_At.f 64 L9 r.f1 = some (j : Int)) ∧ prioryref13_At.f 64 L15 r.f1 = some (-1) ∧ ∃ j : Nat, prioryref13_At.f 64 L15 r.f0 = some (j : Int) := fun r hr => by
                obtain ⟨x1, x2, x3⟩ := hTold r hr
                rw [HL9.out, hL15]
                exact ⟨at_pres HI.out.1 h8 x1, at_abs hI2.1 h8 x2, at_pres hI2.1 h8 x3⟩
              have hRt : ∀ p ∈ L15, priorylaw13_right.f 64 L15 p.f0 p.f1 p.f2 p.f3 = some true := fun p hp => by rw [hL15] at hp ⊢; exact right_true hI2 h8 hp
              have hlen9 : L9.length ≤ 8 := by rw [HL9.out]; exact Nat.le_trans (lstF_len _ _) (by omega)
              have hlen15 : L15.length ≤ 8 := by rw [hL15]; exact Nat.le_trans (lstF_len _ _) (by omega)
              have HC2 := Aside0.mk hc2
              have HLR := Aside0.mk hlr
              have HL15 := Aside0.mk hL15
              have HI2 := Aside0.mk hI2
              have HAT := Aside0.mk hAt
              have HRT := Aside0.mk hRt
              have HB := Aside0.mk (And.intro b1 (And.intro b2 (And.intro b3 b4)))
              have HLN := Aside0.mk (And.intro hlen9 hlen15)
              clear hc2 hlr hTold hL15 hI2 hAt hRt b1 b2 b3 b4 hlen9 hlen15
              go_wp2_with (first | (go_at_call 19; refine (all_list g m most c2 _ HT2.out (by omega)).mono ?_; rintro e Wb ⟨v15, rfl, hR15, hg3⟩; rw [← HL15.out] at hR15; obtain ⟨A15, q15, rfl, hq15, hC15⟩ := Kd.R_reads hR15; have HC15 := Aside0.mk hC15; obtain ⟨_, _, e9, _, hC9⟩ := Kd.R_reads (R_own HR9b.out hg3 (fun r e => by cases e)); cases e9; have HC9 := Aside0.mk hC9; obtain ⟨_, _, e10, _, hC10⟩ := Kd.R_reads (R_own HR10.out hg3 (fun r e => by cases e)); cases e10; have HC10 := Aside0.mk hC10; clear hC10; have HT3 := Aside0.mk (TabW.grown HT2.out hg3 (by simp) (by simp)); have HG3 := Aside0.mk (HG2.out.trans hg3); clear hR15 hC15 hC9 hg3) | (go_at_call 13; refine (exit_calls g m most c' o1 o2 _ HT1.out (by omega)).mono ?_; rintro e W2 ⟨v10, rfl, hR10, hT2, hg2⟩; rw [← HC2.out] at hT2; rw [← HLR.out] at hR10; obtain ⟨A10, q10, rfl, hq10, _⟩ := Kd.R_reads hR10; have HR10 := Aside0.mk hR10; have HT2 := Aside0.mk hT2; have HG2 := Aside0.mk (HG1.out.andThen hg2 (fun j e => by cases e; exact .inl hm)); have HR9b := Aside0.mk (R_grown_m HR9.out hg2 (by have := HT.out.lt.2; simp; omega)); clear hT2 hg2 hR10) | (go_at_call 19; refine (all_list g m most c' _ (HT.out.grown (World.grownBy_alloc wr (.cells #[.int .i64 2, .int .i64 o1, .int .u32 o2] 53) none) (by simp) (by simp)) (by omega)).mono ?_; rintro e W1 ⟨v9, rfl, hR9, hg1⟩; rw [← HL9.out] at hR9; obtain ⟨A9, q9, rfl, hq9, _⟩ := Kd.R_reads hR9; have hp8 := blk_grown (new_at (W := wr) (.cells #[.int .i64 2, .int .i64 o1, .int .u32 o2] 53) rfl) hg1 (by simp); have x80 := (blk_cell hp8 0).trans rfl; have x81 := (blk_cell hp8 1).trans rfl; have x82 := (blk_cell hp8 2).trans rfl; have HT1 := Aside0.mk ((HT.out.grown (World.grownBy_alloc wr (.cells #[.int .i64 2, .int .i64 o1, .int .u32 o2] 53) none) (by simp) (by simp)).grown hg1 (by simp) (by simp)); have HG1 := Aside0.mk ((HG.out.trans (World.grownBy_alloc wr (.cells #[.int .i64 2, .int .i64 o1, .int .u32 o2] 53) none)).trans hg1); have HR9 := Aside0.mk hR9; clear hR9 hg1 hp8))
              go_loopg [16] (lr.length + 1) (fun kq v16 w' => ∃ i2 : Int, v16 = .int .i64 i2 ∧ Aside0 (0 ≤ i2 ∧ i2 + kq = lr.length + 1) ∧ Aside0 (Wb.grownBy w' none))
              case atStart => exact ⟨0, rfl, ⟨⟨Int.le_refl _, by omega⟩⟩, ⟨World.grownBy.refl _ none⟩⟩
              case round =>
                obtain ⟨i2, rfl, HN2, HX⟩ := hrel
                by_cases hi2 : i2 < (lr.length : Int)
                · have hi20 : 0 ≤ i2 := HN2.out.1
                  obtain ⟨k2, rfl⟩ : ∃ k2, gk = k2 + 1 := ⟨gk - 1, by have := HN2.out.2; omega⟩
                  have hwi : IntKind.i64.wrap (i2 + 1) = i2 + 1 := (IntWalk.i64_left _).trans (IntWalk.wrap64_in _ (by have := HN2.out; have := HC10.out.2.1; omega))
                  obtain ⟨ad10, e10, u0, u1, _⟩ := at_T40 HC10.out i2 hi20 hi2
                  subst e10
                  obtain ⟨r, hr⟩ : ∃ r, r = rd_T40 lr i2 := ⟨_, rfl⟩
                  rw [← hr] at u0 u1
                  have hmem : r ∈ lr := by
                    rw [hr]; unfold rd_T40
                    rw [List.getD_eq_getElem?_getD, List.getElem?_eq_getElem (show i2.toNat < lr.length by omega)]; simp
                  obtain ⟨⟨j1, hj1⟩, hj2, ⟨j3, hj3⟩⟩ := HAT.out r hmem
                  have HJ := Aside0.mk (And.intro hj1 (And.intro hj2 hj3))
                  have n1 : ¬ ((j1 : Int) < 0) := by omega
                  have n3 : ¬ ((j3 : Int) < 0) := by omega
                  have HU := Aside0.mk (And.intro u0 u1)
                  replace u0 := cells_keep u0 (below_of_grown HX.out)
                  replace u1 := cells_keep u1 (below_of_grown HX.out)
                  clear hr hmem hj1 hj2 hj3
                  go_wp2_with (first
                    | (have _ := HX2; go_at_call 20; refine (prioryref13_At.calls 64 A15 q15 L15 r.f0 j3 _ (Kd.C_below HC15.out (below_of_grown HX2.out)) hq15 HJ.out.2.2).mono ?_; rintro e Wx3 ⟨rfl, hd⟩; have HX3 := Aside0.mk (HX2.out.trans (gb_drawn hd)); clear hd)
                    | (have _ := HX1; go_at_call 20; refine (prioryref13_At.calls 64 A15 q15 L15 r.f1 (-1) _ (Kd.C_below HC15.out (below_of_grown HX1.out)) hq15 HJ.out.2.1).mono ?_; rintro e Wx2 ⟨rfl, hd⟩; have HX2 := Aside0.mk (HX1.out.trans (gb_drawn hd)); have u02 := cells_keep HU.out.1 (below_of_grown HX2.out); clear hd)
                    | (go_at_call 20; refine (prioryref13_At.calls 64 A9 q9 L9 r.f1 j1 _ (Kd.C_below HC9.out (below_of_grown HX.out)) hq9 HJ.out.1).mono ?_; rintro e Wx1 ⟨rfl, hd⟩; have HX1 := Aside0.mk (HX.out.trans (gb_drawn hd)); have u11 := cells_keep HU.out.2 (below_of_grown HX1.out); clear hd))
                  go_roundg k2
                  case measure => omega
                  case rel => exact ⟨i2 + 1, rfl, ⟨by have := HN2.out; omega⟩, HX3⟩
                · have hz15 := at_T36 HC15.out 0 (by omega) (by have := HB.out.1; omega)
                  obtain ⟨ad15, e15, z0, z1, z2, _⟩ := hz15
                  subst e15
                  rw [HB.out.2.1] at z0
                  rw [HB.out.2.2.1] at z1
                  obtain ⟨st, hst⟩ : ∃ st, st = (rd_T36 L15 0).f2 := ⟨_, rfl⟩
                  rw [← hst] at z2
                  have hst3 : ¬ st = 3 := by rw [hst]; exact HB.out.2.2.2
                  have z0' : wr.cell? ad15 = some (.int .i64 1) := cells_keep z0 (below_of_grown HX.out)
                  have z1' : wr.cell? ⟨ad15.block, ad15.off + 1, none⟩ = some (.int .i64 0) := cells_keep z1 (below_of_grown HX.out)
                  have z2' : wr.cell? ⟨ad15.block, ad15.off + 2, none⟩ = some (.int .i64 st) := cells_keep z2 (below_of_grown HX.out)
                  have hpos : 0 < L15.length := HB.out.1
                  clear z0 z1 z2 hst
                  have hposI : decide ((L15.length : Int) < 1) = false := decide_eq_false (by omega)
                  go_wp2
                  go_loopg [17] (L15.length + 1) (fun kq v17 w' => ∃ i3 : Int, v17 = .int .i64 i3 ∧ Aside0 (0 ≤ i3 ∧ i3 + kq = L15.length + 1) ∧ Aside0 (Wb.grownBy w' none))
                  case atStart => exact ⟨0, rfl, ⟨⟨Int.le_refl _, by omega⟩⟩, HX⟩
                  case round =>
                    clear z0' z1' z2'
                    obtain ⟨i3, rfl, HN3, HY⟩ := hrel
                    by_cases hi3 : i3 < (L15.length : Int)
                    · have hi30 : 0 ≤ i3 := HN3.out.1
                      obtain ⟨k3, rfl⟩ : ∃ k3, gk = k3 + 1 := ⟨gk - 1, by have := HN3.out.2; omega⟩
                      have hwi3 : IntKind.i64.wrap (i3 + 1) = i3 + 1 := (IntWalk.i64_left _).trans (IntWalk.wrap64_in _ (by have := HN3.out; have := HLN.out.2; omega))
                      obtain ⟨ad16, e16, t0, t1, t2, t3⟩ := at_T36 HC15.out i3 hi30 hi3
                      cases e16
                      obtain ⟨p, hp⟩ : ∃ p, p = rd_T36 L15 i3 := ⟨_, rfl⟩
                      rw [← hp] at t0 t1 t2 t3
                      have hmem : p ∈ L15 := by
                        rw [hp]; unfold rd_T36
                        rw [List.getD_eq_getElem?_getD, List.getElem?_eq_getElem (show i3.toNat < L15.length by omega)]; simp
                      have HRP := Aside0.mk (HRT.out p hmem)
                      replace t0 := cells_keep t0 (below_of_grown HY.out)
                      replace t1 := cells_keep t1 (below_of_grown HY.out)
                      replace t2 := cells_keep t2 (below_of_grown HY.out)
                      replace t3 := cells_keep t3 (below_of_grown HY.out)
                      clear hp hmem
                      go_wp2_with (go_at_call 21; refine (priorylaw13_right.calls 64 (some ad15) q15 L15 p.f0 p.f1 p.f2 p.f3 true _ (Kd.C_below HC15.out (below_of_grown HY.out)) hq15 HRP.out).mono ?_; rintro e Wy ⟨rfl, hb⟩; have HY1 := Aside0.mk (HY.out.trans (grown_of_below hb)); clear hb)
                      go_roundg k3
                      case measure => omega
                      case rel => exact ⟨i3 + 1, rfl, ⟨by have := HN3.out; omega⟩, HY1⟩
                    · go_wp2
                      go_roundg k1
                      case measure => omega
                      case rel => exact ⟨i + 1, c2, rank2, rfl, HI2, ⟨by have := HN.out; omega⟩, ⟨HT3.out.grown HY.out (by simp) (by simp)⟩, ⟨HG3.out.trans HY.out⟩⟩
            · by_cases hd3 : o0 = 3
              · subst hd3
                obtain ⟨c2, hc2⟩ : ∃ c2, c2 = (waitR c' most o1).2.2 := ⟨_, rfl⟩
                obtain ⟨lr, hlr⟩ : ∃ lr, lr = (waitR c' most o1).1 := ⟨_, rfl⟩
                obtain ⟨rank2, hI2, hTold⟩ : ∃ rank2, Inv c2 most rank2 ∧ Told c' c2 lr := by rw [hc2, hlr]; exact ⟨rank, (inv_wait HI.out o1).1, (inv_wait HI.out o1).2⟩
                obtain ⟨L15, hL15⟩ : ∃ L15, L15 = lstF c2 most.toNat := ⟨_, rfl⟩
                obtain ⟨b1, b2, b3, b4⟩ := head_lst hI2.1 h1
                rw [← hL15] at b1 b2 b3 b4
                have hAt : ∀ r ∈ lr, (∃ j : Nat, prioryref13_At.f 64 L9 r.f1 = some (j : Int)) ∧ prioryref13_At.f 64 L15 r.f1 = some (-1) ∧ ∃ j : Nat, prioryref13_At.f 64 L15 r.f0 = some (j : Int) := fun r hr => by
                  obtain ⟨x1, x2, x3⟩ := hTold r hr
                  rw [HL9.out, hL15]
                  exact ⟨at_pres HI.out.1 h8 x1, at_abs hI2.1 h8 x2, at_pres hI2.1 h8 x3⟩
                have hRt : ∀ p ∈ L15, priorylaw13_right.f 64 L15 p.f0 p.f1 p.f2 p.f3 = some true := fun p hp => by rw [hL15] at hp ⊢; exact right_true hI2 h8 hp
                have hlen9 : L9.length ≤ 8 := by rw [HL9.out]; exact Nat.le_trans (lstF_len _ _) (by omega)
                have hlen15 : L15.length ≤ 8 := by rw [hL15]; exact Nat.le_trans (lstF_len _ _) (by omega)
                have HC2 := Aside0.mk hc2
                have HLR := Aside0.mk hlr
                have HL15 := Aside0.mk hL15
                have HI2 := Aside0.mk hI2
                have HAT := Aside0.mk hAt
                have HRT := Aside0.mk hRt
                have HB := Aside0.mk (And.intro b1 (And.intro b2 (And.intro b3 b4)))
                have HLN := Aside0.mk (And.intro hlen9 hlen15)
                clear hc2 hlr hTold hL15 hI2 hAt hRt b1 b2 b3 b4 hlen9 hlen15
                go_wp2_with (first | (go_at_call 19; refine (all_list g m most c2 _ HT2.out (by omega)).mono ?_; rintro e Wb ⟨v15, rfl, hR15, hg3⟩; rw [← HL15.out] at hR15; obtain ⟨A15, q15, rfl, hq15, hC15⟩ := Kd.R_reads hR15; have HC15 := Aside0.mk hC15; obtain ⟨_, _, e9, _, hC9⟩ := Kd.R_reads (R_own HR9b.out hg3 (fun r e => by cases e)); cases e9; have HC9 := Aside0.mk hC9; obtain ⟨_, _, e10, _, hC10⟩ := Kd.R_reads (R_own HR10.out hg3 (fun r e => by cases e)); cases e10; have HC10 := Aside0.mk hC10; clear hC10; have HT3 := Aside0.mk (TabW.grown HT2.out hg3 (by simp) (by simp)); have HG3 := Aside0.mk (HG2.out.trans hg3); clear hR15 hC15 hC9 hg3) | (go_at_call 12; refine (wait_calls g m most c' o1 _ HT1.out (by omega)).mono ?_; rintro e W2 ⟨v10, rfl, hR10, hT2, hg2⟩; rw [← HC2.out] at hT2; rw [← HLR.out] at hR10; obtain ⟨A10, q10, rfl, hq10, _⟩ := Kd.R_reads hR10; have HR10 := Aside0.mk hR10; have HT2 := Aside0.mk hT2; have HG2 := Aside0.mk (HG1.out.andThen hg2 (fun j e => by cases e; exact .inl hm)); have HR9b := Aside0.mk (R_grown_m HR9.out hg2 (by have := HT.out.lt.2; simp; omega)); clear hT2 hg2 hR10) | (go_at_call 19; refine (all_list g m most c' _ (HT.out.grown (World.grownBy_alloc wr (.cells #[.int .i64 3, .int .i64 o1, .int .u32 o2] 53) none) (by simp) (by simp)) (by omega)).mono ?_; rintro e W1 ⟨v9, rfl, hR9, hg1⟩; rw [← HL9.out] at hR9; obtain ⟨A9, q9, rfl, hq9, _⟩ := Kd.R_reads hR9; have hp8 := blk_grown (new_at (W := wr) (.cells #[.int .i64 3, .int .i64 o1, .int .u32 o2] 53) rfl) hg1 (by simp); have x80 := (blk_cell hp8 0).trans rfl; have x81 := (blk_cell hp8 1).trans rfl; have x82 := (blk_cell hp8 2).trans rfl; have HT1 := Aside0.mk ((HT.out.grown (World.grownBy_alloc wr (.cells #[.int .i64 3, .int .i64 o1, .int .u32 o2] 53) none) (by simp) (by simp)).grown hg1 (by simp) (by simp)); have HG1 := Aside0.mk ((HG.out.trans (World.grownBy_alloc wr (.cells #[.int .i64 3, .int .i64 o1, .int .u32 o2] 53) none)).trans hg1); have HR9 := Aside0.mk hR9; clear hR9 hg1 hp8))
                go_loopg [16] (lr.length + 1) (fun kq v16 w' => ∃ i2 : Int, v16 = .int .i64 i2 ∧ Aside0 (0 ≤ i2 ∧ i2 + kq = lr.length + 1) ∧ Aside0 (Wb.grownBy w' none))
                case atStart => exact ⟨0, rfl, ⟨⟨Int.le_refl _, by omega⟩⟩, ⟨World.grownBy.refl _ none⟩⟩
                case round =>
                  obtain ⟨i2, rfl, HN2, HX⟩ := hrel
                  by_cases hi2 : i2 < (lr.length : Int)
                  · have hi20 : 0 ≤ i2 := HN2.out.1
                    obtain ⟨k2, rfl⟩ : ∃ k2, gk = k2 + 1 := ⟨gk - 1, by have := HN2.out.2; omega⟩
                    have hwi : IntKind.i64.wrap (i2 + 1) = i2 + 1 := (IntWalk.i64_left _).trans (IntWalk.wrap64_in _ (by have := HN2.out; have := HC10.out.2.1; omega))
                    obtain ⟨ad10, e10, u0, u1, _⟩ := at_T40 HC10.out i2 hi20 hi2
                    subst e10
                    obtain ⟨r, hr⟩ : ∃ r, r = rd_T40 lr i2 := ⟨_, rfl⟩
                    rw [← hr] at u0 u1
                    have hmem : r ∈ lr := by
                      rw [hr]; unfold rd_T40
                      rw [List.getD_eq_getElem?_getD, List.getElem?_eq_getElem (show i2.toNat < lr.length by omega)]; simp
                    obtain ⟨⟨j1, hj1⟩, hj2, ⟨j3, hj3⟩⟩ := HAT.out r hmem
                    have HJ := Aside0.mk (And.intro hj1 (And.intro hj2 hj3))
                    have n1 : ¬ ((j1 : Int) < 0) := by omega
                    have n3 : ¬ ((j3 : Int) < 0) := by omega
                    have HU := Aside0.mk (And.intro u0 u1)
                    replace u0 := cells_keep u0 (below_of_grown HX.out)
                    replace u1 := cells_keep u1 (below_of_grown HX.out)
                    clear hr hmem hj1 hj2 hj3
                    go_wp2_with (first
                      | (have _ := HX2; go_at_call 20; refine (prioryref13_At.calls 64 A15 q15 L15 r.f0 j3 _ (Kd.C_below HC15.out (below_of_grown HX2.out)) hq15 HJ.out.2.2).mono ?_; rintro e Wx3 ⟨rfl, hd⟩; have HX3 := Aside0.mk (HX2.out.trans (gb_drawn hd)); clear hd)
                      | (have _ := HX1; go_at_call 20; refine (prioryref13_At.calls 64 A15 q15 L15 r.f1 (-1) _ (Kd.C_below HC15.out (below_of_grown HX1.out)) hq15 HJ.out.2.1).mono ?_; rintro e Wx2 ⟨rfl, hd⟩; have HX2 := Aside0.mk (HX1.out.trans (gb_drawn hd)); have u02 := cells_keep HU.out.1 (below_of_grown HX2.out); clear hd)
                      | (go_at_call 20; refine (prioryref13_At.calls 64 A9 q9 L9 r.f1 j1 _ (Kd.C_below HC9.out (below_of_grown HX.out)) hq9 HJ.out.1).mono ?_; rintro e Wx1 ⟨rfl, hd⟩; have HX1 := Aside0.mk (HX.out.trans (gb_drawn hd)); have u11 := cells_keep HU.out.2 (below_of_grown HX1.out); clear hd))
                    go_roundg k2
                    case measure => omega
                    case rel => exact ⟨i2 + 1, rfl, ⟨by have := HN2.out; omega⟩, HX3⟩
                  · have hz15 := at_T36 HC15.out 0 (by omega) (by have := HB.out.1; omega)
                    obtain ⟨ad15, e15, z0, z1, z2, _⟩ := hz15
                    subst e15
                    rw [HB.out.2.1] at z0
                    rw [HB.out.2.2.1] at z1
                    obtain ⟨st, hst⟩ : ∃ st, st = (rd_T36 L15 0).f2 := ⟨_, rfl⟩
                    rw [← hst] at z2
                    have hst3 : ¬ st = 3 := by rw [hst]; exact HB.out.2.2.2
                    have z0' : wr.cell? ad15 = some (.int .i64 1) := cells_keep z0 (below_of_grown HX.out)
                    have z1' : wr.cell? ⟨ad15.block, ad15.off + 1, none⟩ = some (.int .i64 0) := cells_keep z1 (below_of_grown HX.out)
                    have z2' : wr.cell? ⟨ad15.block, ad15.off + 2, none⟩ = some (.int .i64 st) := cells_keep z2 (below_of_grown HX.out)
                    have hpos : 0 < L15.length := HB.out.1
                    clear z0 z1 z2 hst
                    have hposI : decide ((L15.length : Int) < 1) = false := decide_eq_false (by omega)
                    go_wp2
                    go_loopg [17] (L15.length + 1) (fun kq v17 w' => ∃ i3 : Int, v17 = .int .i64 i3 ∧ Aside0 (0 ≤ i3 ∧ i3 + kq = L15.length + 1) ∧ Aside0 (Wb.grownBy w' none))
                    case atStart => exact ⟨0, rfl, ⟨⟨Int.le_refl _, by omega⟩⟩, HX⟩
                    case round =>
                      clear z0' z1' z2'
                      obtain ⟨i3, rfl, HN3, HY⟩ := hrel
                      by_cases hi3 : i3 < (L15.length : Int)
                      · have hi30 : 0 ≤ i3 := HN3.out.1
                        obtain ⟨k3, rfl⟩ : ∃ k3, gk = k3 + 1 := ⟨gk - 1, by have := HN3.out.2; omega⟩
                        have hwi3 : IntKind.i64.wrap (i3 + 1) = i3 + 1 := (IntWalk.i64_left _).trans (IntWalk.wrap64_in _ (by have := HN3.out; have := HLN.out.2; omega))
                        obtain ⟨ad16, e16, t0, t1, t2, t3⟩ := at_T36 HC15.out i3 hi30 hi3
                        cases e16
                        obtain ⟨p, hp⟩ : ∃ p, p = rd_T36 L15 i3 := ⟨_, rfl⟩
                        rw [← hp] at t0 t1 t2 t3
                        have hmem : p ∈ L15 := by
                          rw [hp]; unfold rd_T36
                          rw [List.getD_eq_getElem?_getD, List.getElem?_eq_getElem (show i3.toNat < L15.length by omega)]; simp
                        have HRP := Aside0.mk (HRT.out p hmem)
                        replace t0 := cells_keep t0 (below_of_grown HY.out)
                        replace t1 := cells_keep t1 (below_of_grown HY.out)
                        replace t2 := cells_keep t2 (below_of_grown HY.out)
                        replace t3 := cells_keep t3 (below_of_grown HY.out)
                        clear hp hmem
                        go_wp2_with (go_at_call 21; refine (priorylaw13_right.calls 64 (some ad15) q15 L15 p.f0 p.f1 p.f2 p.f3 true _ (Kd.C_below HC15.out (below_of_grown HY.out)) hq15 HRP.out).mono ?_; rintro e Wy ⟨rfl, hb⟩; have HY1 := Aside0.mk (HY.out.trans (grown_of_below hb)); clear hb)
                        go_roundg k3
                        case measure => omega
                        case rel => exact ⟨i3 + 1, rfl, ⟨by have := HN3.out; omega⟩, HY1⟩
                      · go_wp2
                        go_roundg k1
                        case measure => omega
                        case rel => exact ⟨i + 1, c2, rank2, rfl, HI2, ⟨by have := HN.out; omega⟩, ⟨HT3.out.grown HY.out (by simp) (by simp)⟩, ⟨HG3.out.trans HY.out⟩⟩
              · obtain ⟨c2, hc2⟩ : ∃ c2, c2 = c' := ⟨_, rfl⟩
                obtain ⟨lr, hlr⟩ : ∃ lr, lr = ([] : List S40) := ⟨_, rfl⟩
                obtain ⟨rank2, hI2, hTold⟩ : ∃ rank2, Inv c2 most rank2 ∧ Told c' c2 lr := by rw [hc2, hlr]; exact ⟨rank, HI.out, fun r hr => by cases hr⟩
                obtain ⟨L15, hL15⟩ : ∃ L15, L15 = lstF c2 most.toNat := ⟨_, rfl⟩
                obtain ⟨b1, b2, b3, b4⟩ := head_lst hI2.1 h1
                rw [← hL15] at b1 b2 b3 b4
                have hAt : ∀ r ∈ lr, (∃ j : Nat, prioryref13_At.f 64 L9 r.f1 = some (j : Int)) ∧ prioryref13_At.f 64 L15 r.f1 = some (-1) ∧ ∃ j : Nat, prioryref13_At.f 64 L15 r.f0 = some (j : Int) := fun r hr => by
                  obtain ⟨x1, x2, x3⟩ := hTold r hr
                  rw [HL9.out, hL15]
                  exact ⟨at_pres HI.out.1 h8 x1, at_abs hI2.1 h8 x2, at_pres hI2.1 h8 x3⟩
                have hRt : ∀ p ∈ L15, priorylaw13_right.f 64 L15 p.f0 p.f1 p.f2 p.f3 = some true := fun p hp => by rw [hL15] at hp ⊢; exact right_true hI2 h8 hp
                have hlen9 : L9.length ≤ 8 := by rw [HL9.out]; exact Nat.le_trans (lstF_len _ _) (by omega)
                have hlen15 : L15.length ≤ 8 := by rw [hL15]; exact Nat.le_trans (lstF_len _ _) (by omega)
                have HC2 := Aside0.mk hc2
                have HLR := Aside0.mk hlr
                have HL15 := Aside0.mk hL15
                have HI2 := Aside0.mk hI2
                have HAT := Aside0.mk hAt
                have HRT := Aside0.mk hRt
                have HB := Aside0.mk (And.intro b1 (And.intro b2 (And.intro b3 b4)))
                have HLN := Aside0.mk (And.intro hlen9 hlen15)
                clear hc2 hlr hTold hL15 hI2 hAt hRt b1 b2 b3 b4 hlen9 hlen15
                go_wp2_with (first | (go_at_call 19; refine (all_list g m most c2 _ (show TabW W1 g m most c2 by rw [HC2.out]; exact HT1.out) (by omega)).mono ?_; rintro e Wb ⟨v15, rfl, hR15, hg3⟩; rw [← HL15.out] at hR15; obtain ⟨A15, q15, rfl, hq15, hC15⟩ := Kd.R_reads hR15; have HC15 := Aside0.mk hC15; obtain ⟨_, _, e9, _, hC9⟩ := Kd.R_reads (R_own HR9.out hg3 (fun r e => by cases e)); cases e9; have HC9 := Aside0.mk hC9; have HT3 := Aside0.mk (TabW.grown (show TabW W1 g m most c2 by rw [HC2.out]; exact HT1.out) hg3 (by simp) (by simp)); have HG3 := Aside0.mk (HG1.out.trans hg3); clear hR15 hC15 hC9 hg3) | (go_at_call 19; refine (all_list g m most c' _ (HT.out.grown (World.grownBy_alloc wr (.cells #[.int .i64 o0, .int .i64 o1, .int .u32 o2] 53) none) (by simp) (by simp)) (by omega)).mono ?_; rintro e W1 ⟨v9, rfl, hR9, hg1⟩; rw [← HL9.out] at hR9; obtain ⟨A9, q9, rfl, hq9, _⟩ := Kd.R_reads hR9; have hp8 := blk_grown (new_at (W := wr) (.cells #[.int .i64 o0, .int .i64 o1, .int .u32 o2] 53) rfl) hg1 (by simp); have x80 := (blk_cell hp8 0).trans rfl; have x81 := (blk_cell hp8 1).trans rfl; have x82 := (blk_cell hp8 2).trans rfl; have HT1 := Aside0.mk ((HT.out.grown (World.grownBy_alloc wr (.cells #[.int .i64 o0, .int .i64 o1, .int .u32 o2] 53) none) (by simp) (by simp)).grown hg1 (by simp) (by simp)); have HG1 := Aside0.mk ((HG.out.trans (World.grownBy_alloc wr (.cells #[.int .i64 o0, .int .i64 o1, .int .u32 o2] 53) none)).trans hg1); have HR9 := Aside0.mk hR9; clear hR9 hg1 hp8))
                go_loopg [16] (lr.length + 1) (fun kq v16 w' => ∃ i2 : Int, v16 = .int .i64 i2 ∧ Aside0 (0 ≤ i2 ∧ i2 + kq = lr.length + 1) ∧ Aside0 (Wb.grownBy w' none))
                case atStart => exact ⟨0, rfl, ⟨⟨Int.le_refl _, by omega⟩⟩, ⟨World.grownBy.refl _ none⟩⟩
                case round =>
                  obtain ⟨i2, rfl, HN2, HX⟩ := hrel
                  by_cases hi2 : i2 < (lr.length : Int)
                  · exfalso; have h5 := HN2.out.1; have h6 := HLR.out; rw [h6] at hi2; simp at hi2; omega
                  · have hz15 := at_T36 HC15.out 0 (by omega) (by have := HB.out.1; omega)
                    obtain ⟨ad15, e15, z0, z1, z2, _⟩ := hz15
                    subst e15
                    rw [HB.out.2.1] at z0
                    rw [HB.out.2.2.1] at z1
                    obtain ⟨st, hst⟩ : ∃ st, st = (rd_T36 L15 0).f2 := ⟨_, rfl⟩
                    rw [← hst] at z2
                    have hst3 : ¬ st = 3 := by rw [hst]; exact HB.out.2.2.2
                    have z0' : wr.cell? ad15 = some (.int .i64 1) := cells_keep z0 (below_of_grown HX.out)
                    have z1' : wr.cell? ⟨ad15.block, ad15.off + 1, none⟩ = some (.int .i64 0) := cells_keep z1 (below_of_grown HX.out)
                    have z2' : wr.cell? ⟨ad15.block, ad15.off + 2, none⟩ = some (.int .i64 st) := cells_keep z2 (below_of_grown HX.out)
                    have hpos : 0 < L15.length := HB.out.1
                    clear z0 z1 z2 hst
                    have hposI : decide ((L15.length : Int) < 1) = false := decide_eq_false (by omega)
                    go_wp2
                    go_loopg [17] (L15.length + 1) (fun kq v17 w' => ∃ i3 : Int, v17 = .int .i64 i3 ∧ Aside0 (0 ≤ i3 ∧ i3 + kq = L15.length + 1) ∧ Aside0 (Wb.grownBy w' none))
                    case atStart => exact ⟨0, rfl, ⟨⟨Int.le_refl _, by omega⟩⟩, HX⟩
                    case round =>
                      clear z0' z1' z2'
                      obtain ⟨i3, rfl, HN3, HY⟩ := hrel
                      by_cases hi3 : i3 < (L15.length : Int)
                      · have hi30 : 0 ≤ i3 := HN3.out.1
                        obtain ⟨k3, rfl⟩ : ∃ k3, gk = k3 + 1 := ⟨gk - 1, by have := HN3.out.2; omega⟩
                        have hwi3 : IntKind.i64.wrap (i3 + 1) = i3 + 1 := (IntWalk.i64_left _).trans (IntWalk.wrap64_in _ (by have := HN3.out; have := HLN.out.2; omega))
                        obtain ⟨ad16, e16, t0, t1, t2, t3⟩ := at_T36 HC15.out i3 hi30 hi3
                        cases e16
                        obtain ⟨p, hp⟩ : ∃ p, p = rd_T36 L15 i3 := ⟨_, rfl⟩
                        rw [← hp] at t0 t1 t2 t3
                        have hmem : p ∈ L15 := by
                          rw [hp]; unfold rd_T36
                          rw [List.getD_eq_getElem?_getD, List.getElem?_eq_getElem (show i3.toNat < L15.length by omega)]; simp
                        have HRP := Aside0.mk (HRT.out p hmem)
                        replace t0 := cells_keep t0 (below_of_grown HY.out)
                        replace t1 := cells_keep t1 (below_of_grown HY.out)
                        replace t2 := cells_keep t2 (below_of_grown HY.out)
                        replace t3 := cells_keep t3 (below_of_grown HY.out)
                        clear hp hmem
                        go_wp2_with (go_at_call 21; refine (priorylaw13_right.calls 64 (some ad15) q15 L15 p.f0 p.f1 p.f2 p.f3 true _ (Kd.C_below HC15.out (below_of_grown HY.out)) hq15 HRP.out).mono ?_; rintro e Wy ⟨rfl, hb⟩; have HY1 := Aside0.mk (HY.out.trans (grown_of_below hb)); clear hb)
                        go_roundg k3
                        case measure => omega
                        case rel => exact ⟨i3 + 1, rfl, ⟨by have := HN3.out; omega⟩, HY1⟩
                      · go_wp2
                        go_roundg k1
                        case measure => omega
                        case rel => exact ⟨i + 1, c2, rank2, rfl, HI2, ⟨by have := HN.out; omega⟩, ⟨HT3.out.grown HY.out (by simp) (by simp)⟩, ⟨HG3.out.trans HY.out⟩⟩
        · go_wp2_with (go_at_call 9; refine (awake_calls _).mono ?_; rintro e W9 ⟨rfl, hg9⟩; have HG9 := Aside0.mk hg9; clear hg9)
          go_ret
          exact ⟨rfl, HG.out.trans HG9.out⟩
    · have h201 : 200 < l.length := by omega
      have h201i : decide (200 < (l.length : Int)) = true := decide_eq_true (by omega)
      go_enter Try.func7, Try.ntmps7
      go_wp2_with (first | (go_at_call 9; refine (awake_calls _).mono ?_; rintro e W9 ⟨rfl, hg9⟩; have HG9 := Aside0.mk hg9; clear hg9) | (go_at_call 10; refine (new_good most _ (by omega) (by omega)).mono ?_; rintro e W0 ⟨g, m, hg, hm, rfl, hT0, hg0⟩; have HT0 := Aside0.mk hT0; have HG0 := Aside0.mk hg0; clear hT0 hg0))
      go_ret
      exact ⟨rfl, HG0.out.trans HG9.out⟩
  · go_enter Try.func7, Try.ntmps7
    go_wp2_with (first | (go_at_call 9; refine (awake_calls _).mono ?_; rintro e W9 ⟨rfl, hg9⟩; have HG9 := Aside0.mk hg9; clear hg9) | (go_at_call 10; refine (new_bad most _ (by omega)).mono ?_; rintro e W0 ⟨rfl, rfl⟩))
    go_ret
    exact ⟨rfl, HG9.out⟩
end Go.Proofs.Ytbaddcojhggamaa.PAll
