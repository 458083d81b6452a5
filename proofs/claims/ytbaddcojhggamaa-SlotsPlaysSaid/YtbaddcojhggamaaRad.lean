/-
  The reference's Add.
-/
import Derived.Test.YtbaddcojhggamaaRt
namespace Go.Proofs.Ytbaddcojhggamaa.PAll
open Go.RowKit Go.Shelf Go.Proofs.YtbaddcojhggamaaM Go.Proofs.YtbaddcojhggamaaW.PrintWords Go.Proofs.YtbaddcojhggamaaW.PrintLast Go.Proofs.YtbaddcojhggamaaW.PrintMore
set_option linter.unusedVariables false
set_option linter.unusedSimpArgs false
set_option maxRecDepth 100000 in
set_option maxHeartbeats 8000000 in
theorem radd_calls (c : Tab) (most : Int) (rank : Int → Nat) (hI : Inv c most rank) (h1 : 1 ≤ most) (h8 : most ≤ 8) (parent : Int) (w : World) (g m : Nat) (hT : RTab w g m most (lstF c most.toNat)) (hm : m < w.heap.size) :
    Calls Try.prog 25 #[.pointer (some ⟨g, 0, none⟩), .int .i64 parent] w fun e W' => e = .returned (.tuple #[.int .i64 (addR c most parent).1, .int .i64 (addR c most parent).2.1]) ∧ RTab W' g m most (lstF (addR c most parent).2.2 most.toNat) ∧ w.grownBy W' (some g) := by
  have HIN := Aside0.mk hI
  replace hI := hI.1
  have HI := Aside0.mk hI
  have hlen := lstF_len c most.toNat
  have hLst := lst_of hI
  obtain ⟨L, hL⟩ : ∃ L, L = lstF c most.toNat := ⟨_, rfl⟩
  rw [← hL] at hT hlen hLst
  have HL := Aside0.mk hL
  have HT := Aside0.mk hT
  have HM := Aside0.mk hm
  have HLST := Aside0.mk hLst
  have hl8 : L.length ≤ 8 := by omega
  clear hI hL hT hm hLst hlen
  have same : ∀ W : World, w.grownBy W none → RTab W g m most (lstF c most.toNat) ∧ w.grownBy W (some g) := fun W hW => ⟨by rw [← HL.out]; exact HT.out.grown hW, gb_weak hW g⟩
  have HSM := Aside0.mk same
  clear same
  obtain ⟨A, cc, hb, hLE, hC, hF⟩ := HT.out
  have x0 : w.cell? ⟨g, 0, none⟩ = some (.int .i64 most) := (blk_cell hb 0).trans rfl
  have x1 : w.cell? ⟨g, 1, none⟩ = some (.slice A L.length cc) := (blk_cell hb 1).trans rfl
  have HB := Aside0.mk hb
  have HC := Aside0.mk hC
  have HF := Aside0.mk hF
  clear hb hC hF
  cases hp : c parent with
  | none =>
    have e : addR c most parent = (0, 4, c) := by unfold addR; rw [hp]
    rw [e]
    have HA := Aside0.mk (at_none HLST.out (by omega) hp)
    clear hp e
    go_enter Try.func25, Try.ntmps25
    go_wp2_with (go_at_call 20; refine (prioryref13_At.calls 64 A cc L parent (-1) _ HC.out hLE HA.out).mono ?_; rintro e W1 ⟨rfl, hd⟩; have HG1 := Aside0.mk (gb_drawn hd); clear hd)
    go_ret2
    exact ⟨rfl, HSM.out _ HG1.out⟩
  | some p =>
    have hp0 : p.f0 = parent := (HI.out.key hp).1
    obtain ⟨j, hj1, hj2, hj3⟩ := at_pos HLST.out (by omega) hp hp0
    have hj0 : (0 : Int) ≤ (j : Int) := by omega
    have hj00 : ¬ ((j : Int) < 0) := by omega
    have hjl : (j : Int) < (L.length : Int) := by omega
    have HA := Aside0.mk hj1
    obtain ⟨ad, eA, _, _, y2, _⟩ := at_T36 HC.out (j : Int) hj0 hjl
    subst eA
    rw [rd_nat, hj3] at y2
    obtain ⟨st, hst⟩ : ∃ st, st = p.f2 := ⟨_, rfl⟩
    rw [← hst, Int.toNat_natCast] at y2
    clear hj1 hj2 hj3 hp0
    by_cases hz : st = 3
    · have e : addR c most parent = (0, 9, c) := by unfold addR; rw [hp]; simp only; rw [if_pos (by rw [← hst]; exact hz)]
      rw [e]
      clear hp e hst
      subst hz
      go_enter Try.func25, Try.ntmps25
      go_wp2_with (go_at_call 20; refine (prioryref13_At.calls 64 (some ad) cc L parent (j : Int) _ HC.out hLE HA.out).mono ?_; rintro e W1 ⟨rfl, hd⟩; have HG1 := Aside0.mk (gb_drawn hd); have z2 := cells_keep y2 (below_of_grown HG1.out); have z1 := cells_keep x1 (below_of_grown HG1.out); clear hd)
      go_ret2
      exact ⟨rfl, HSM.out _ HG1.out⟩
    · have HP := Aside0.mk hp
      have HZ := Aside0.mk (show ¬ p.f2 = 3 by rw [← hst]; exact hz)
      have HX := Aside0.mk (And.intro x0 (And.intro x1 y2))
      clear hp hst x0 y2
      have hzb : (st == 3) = false := beq_eq_false_iff_ne.2 hz
      go_enter Try.func25, Try.ntmps25
      go_wp2_with (go_at_call 20; refine (prioryref13_At.calls 64 (some ad) cc L parent (j : Int) _ HC.out hLE HA.out).mono ?_; rintro e W1 ⟨rfl, hd⟩; have HG1 := Aside0.mk (gb_drawn hd); have z2 := cells_keep HX.out.2.2 (below_of_grown HG1.out); have z1 := cells_keep HX.out.2.1 (below_of_grown HG1.out); clear hd)
      clear z2 z1 x1 hz hjl hj0 hj00
      go_loopg [7] (most.toNat + 2) (fun kq v7 w' => ∃ (n : Int) (q : Nat), v7 = .int .i64 n ∧ Aside0 (n = (q : Int) + 1) ∧ Aside0 ((q : Int) ≤ most ∧ q + kq = most.toNat + 2) ∧ Aside0 (∀ i : Nat, 1 ≤ i → i ≤ q → c i ≠ none) ∧ Aside0 (w.grownBy w' none))
      case atStart => exact ⟨1, 0, rfl, ⟨rfl⟩, ⟨⟨by omega, by omega⟩⟩, ⟨fun i a b => by omega⟩, HG1⟩
      case round =>
        clear HG1
        obtain ⟨n, q, rfl, HNQ, HN, HQ, HG⟩ := hrel
        have hn1 : 1 ≤ n := by have := HNQ.out; omega
        have hn9 : n ≤ 9 := by have := HNQ.out; have := HN.out; omega
        have x0 : wr.cell? ⟨g, 0, none⟩ = some (.int .i64 most) := cells_keep HX.out.1 (below_of_grown HG.out)
        have x1 : wr.cell? ⟨g, 1, none⟩ = some (.slice (some ad) L.length cc) := cells_keep HX.out.2.1 (below_of_grown HG.out)
        cases hcq : c n with
        | some p2 =>
          have hk2 := HI.out.key hcq
          obtain ⟨j2, k1, _, _⟩ := at_pos HLST.out (by omega) hcq hk2.1
          have HA2 := Aside0.mk k1
          have HQ2 := Aside0.mk (show ∀ i : Nat, 1 ≤ i → i ≤ q + 1 → c i ≠ none from fun i a b => by
            by_cases e : i = q + 1
            · rw [e, show (((q + 1 : Nat) : Nat) : Int) = n by have := HNQ.out; omega, hcq]; simp
            · exact HQ.out i a (by omega))
          have HN2 := Aside0.mk (show n ≤ most from hk2.2.2)
          obtain ⟨k', rfl⟩ : ∃ k', gk = k' + 1 := ⟨gk - 1, by have := HN.out.2; have := HN2.out; have := HNQ.out; omega⟩
          have hjj : (0 : Int) ≤ (j2 : Int) := by omega
          have hw1 : IntKind.i64.wrap (n + 1) = n + 1 := (IntWalk.i64_left _).trans (IntWalk.wrap64_in _ (by omega))
          clear hcq hk2 k1
          go_wp2_with (go_at_call 20; refine (prioryref13_At.calls 64 (some ad) cc L n (j2 : Int) _ (Kd.C_below HC.out (below_of_grown HG.out)) hLE HA2.out).mono ?_; rintro e W2 ⟨rfl, hd⟩; have HG2 := Aside0.mk (HG.out.trans (gb_drawn hd)); clear hd)
          go_roundg k'
          case measure => omega
          case rel => exact ⟨n + 1, q + 1, rfl, ⟨by have := HNQ.out; omega⟩, ⟨⟨by have := HN2.out; have := HNQ.out; omega, by have := HN.out; omega⟩⟩, HQ2, HG2⟩
        | none =>
          have HA2 := Aside0.mk (at_none HLST.out (by omega) hcq)
          by_cases hgt : most < n
          · have e : addR c most parent = (0, 3, c) := by
              unfold addR; rw [HP.out]; simp only; rw [if_neg HZ.out, freeF_none _ _ (fun i a b => HQ.out i a (by have := HN.out; have := HNQ.out; omega))]
            have HE := Aside0.mk e
            clear hcq e
            go_wp2_with (go_at_call 20; refine (prioryref13_At.calls 64 (some ad) cc L n (-1) _ (Kd.C_below HC.out (below_of_grown HG.out)) hLE HA2.out).mono ?_; rintro e W2 ⟨rfl, hd⟩; have HG2 := Aside0.mk (HG.out.trans (gb_drawn hd)); have x02 := cells_keep x0 (below_of_grown (gb_drawn hd)); clear hd)
            go_ret2
            rw [HE.out]
            exact ⟨rfl, HSM.out _ HG2.out⟩
          · have hq : n ≤ most := by omega
            have e : addR c most parent = (n, 0, upd c n (some ⟨n, parent, 1, 0⟩)) := by
              unfold addR; rw [HP.out]; simp only
              rw [if_neg HZ.out, freeF_some most.toNat 1 (q + 1) (by omega) (by have := HNQ.out; omega) (fun i a b => HQ.out i a (by omega)) (by rw [show (((q + 1 : Nat) : Nat) : Int) = n by have := HNQ.out; omega]; exact hcq)]
              simp only [show (((q + 1 : Nat) : Nat) : Int) = n by have := HNQ.out; omega]
            obtain ⟨rank', hI'⟩ := inv_add HIN.out parent
            rw [e] at hI'
            obtain ⟨a1, a2, a3⟩ := add_cut HI.out (p := q) (by have := HNQ.out; omega) HQ.out (by rw [← HNQ.out]; exact hcq)
            rw [← HL.out, ← HNQ.out] at a2 a3
            rw [← HL.out] at a1
            obtain ⟨F, hF⟩ : ∃ F, F = L.take q ++ [⟨n, parent, 1, 0⟩] ++ L.drop q := ⟨_, rfl⟩
            have hFL : F = lstF (upd c n (some ⟨n, parent, 1, 0⟩)) most.toNat := by
              rw [hF]; exact lst_eq hI'.1 (lst_ins (q := ⟨n, parent, 1, 0⟩) HLST.out hcq a2 a3)
            have HE := Aside0.mk e
            have HFL := Aside0.mk hFL
            have hnq : IntKind.i64.wrap (n - 1) = (q : Int) := (IntWalk.i64_left _).trans ((IntWalk.wrap64_in _ (by omega)).trans (by have := HNQ.out; omega))
            have hnq2 : n - 1 = (q : Int) := by have := HNQ.out; omega
            have hq0 : (0 : Int) ≤ (q : Int) := by omega
            obtain ⟨A2, hA2⟩ : ∃ A2 : Option Addr, A2 = (if cc = q then (some ad) else (some ad : Option Addr).map (·.add (q * 4))) := ⟨_, rfl⟩
            obtain ⟨n2, hn2⟩ : ∃ n2, n2 = L.length - q := ⟨_, rfl⟩
            obtain ⟨c2, hc2⟩ : ∃ c2, c2 = cc - q := ⟨_, rfl⟩
            have hct : ∀ W : World, (Instr.slice 45 (.slice (some ad) L.length cc) none (some (.int .i64 (q : Int))) none).run Try.prog W = .ok (.slice (some ad) q cc) W := by
              obtain ⟨i0, hi1, _⟩ := Option.map_eq_some_iff.1 info36
              exact cut_to (P := Try.prog) 45 36 .i64 Try.underlying45 hi1 (some ad) L.length cc (q : Int) hq0 (by omega) hLE
            have hcf : ∀ W : World, (Instr.slice 45 (.slice (some ad) L.length cc) (some (.int .i64 (q : Int))) none none).run Try.prog W = .ok (.slice A2 n2 c2) W := by
              obtain ⟨i0, hi1, hzz⟩ := Option.map_eq_some_iff.1 info36
              simp only [Prod.mk.injEq] at hzz
              rw [hA2, hn2, hc2]
              exact cut_from (P := Try.prog) 45 36 .i64 Try.underlying45 hi1 4 hzz.2.1 (some ad) L.length cc (q : Int) hq0 (by omega)
            have ht : Kd.C k36 w (some ad) q (L.take q) := by
              have := Kd.C_take (m := q) HC.out a1
              rw [List.length_take, Nat.min_eq_left a1] at this; exact this
            have hd : Kd.C k36 w A2 n2 (L.drop q) := by
              have := Kd.C_drop (m := q) (c := cc) HC.out a1 hLE
              rw [List.length_drop, ← hn2] at this; rw [hA2]; exact this
            obtain ⟨T1, hT1⟩ : ∃ T1, T1 = L.take q := ⟨_, rfl⟩
            obtain ⟨T2, hT2⟩ : ∃ T2, T2 = L.drop q := ⟨_, rfl⟩
            rw [← hT1] at ht
            rw [← hT2] at hd
            have hF2 : F = [] ++ T1 ++ [⟨n, parent, 1, 0⟩] ++ T2 := by rw [hF, hT1, hT2]; rfl
            have hl1 : T1.length ≤ 8 := by rw [hT1, List.length_take]; omega
            have hl2 : n2 ≤ 8 := by omega
            have hB0 : wr.heap[g]? = some (.cells #[.int .i64 most, .slice (some ad) L.length cc] 47 (0, 0)) := blk_grown HB.out HG.out (by simp)
            have HCT := Aside0.mk (And.intro ht hd)
            have HFF := Aside0.mk hF2
            have HLN := Aside0.mk (And.intro hl1 (And.intro hl2 a1))
            have HB0 := Aside0.mk hB0
            have hngt : decide (n > most) = false := decide_eq_false (by omega)
            clear hF hF2 hT1 hT2 ht hd hA2 hn2 hc2 hl1 hl2 hB0 hcq e hFL a1 a2 a3 hI'
            go_wp2_with (first
              | ((with_reducible refine gate_builtin (b := .append) (xs := #[.tmp 57, .tmp 64]) rfl ?_); at_builtin; go_loud (refine Kd.R_append_rows k36 (w0 := W4) Bz rfl (.tmp 57) (.tmp 64) 45 36 (.agg #[.int .i64 0, .int .i64 0, .int .i64 0, .int .u32 0]) 32 rfl Try.underlying45 info36 rfl (by decide) (by omega) v2 ([] ++ T1 ++ [⟨n, parent, 1, 0⟩]) T2 A2 n2 c2 (fun _ => True) (fun _ => False) rfl rfl HR2.out (Kd.C_below HCT.out.2 (below_of_grown HG4.out)) (fun x cs hk => by rw [k36_open hk]; exact k36_mkM _ _ _ x) (fun _ h => h.elim) (fun _ _ => trivial) (Below.refl _ _) HS2.out (by have := HLN.out; simp; omega) ?_); intro v3 W5 ho hbb hg hat; rw [← HFF.out] at ho; obtain ⟨A3, c3, rfl, _, _⟩ := Kd.R_reads ho; have hb5 := blk_grown HB4.out hg (fun e => by have := Kd.R_base HR2.out g e.symm; have := HBZ.out; omega); have y51 := (blk_cell hb5 1).trans rfl; have f51 := blk_frozen hb5 1; have HB5 := Aside0.mk hb5; have HR3 := Aside0.mk ho; have HG5 := Aside0.mk (HG4.out.andThen hg (fun j e => .inl (Nat.le_trans HBZ.out.2 (Kd.R_base HR2.out j e)))); clear ho hbb hg hat hb5)
              | ((with_reducible refine gate_builtin (b := .append) (xs := #[.tmp 50, .tmp 54]) rfl ?_); at_builtin; go_loud (refine R_appendP k36 (W := W3) Bz rfl (.tmp 50) (.tmp 54) 45 36 (.agg #[.int .i64 0, .int .i64 0, .int .i64 0, .int .u32 0]) 32 rfl Try.underlying45 info36 rfl (by decide) (by decide) v1 ([] ++ T1) ⟨n, parent, 1, 0⟩ [.int .i64 n, .int .i64 parent, .int .i64 1, .int .u32 0] (fun _ => True) (fun _ => False) rfl rfl (k36_mkM _ _ _ ⟨n, parent, 1, 0⟩) (fun _ h => h.elim) (fun _ _ => trivial) HR1.out HS1.out (by have := HLN.out; simp; omega) ?_); intro v2 W4 hRa hga; have hb4 := blk_grown HB3.out hga (fun e => by have := Kd.R_base HR1.out g e.symm; have := HBZ.out; omega); have y41 := (blk_cell hb4 1).trans rfl; have HB4 := Aside0.mk hb4; have HR2 := Aside0.mk hRa; have HG4 := Aside0.mk (HG3.out.andThen hga (fun j e => .inl (Nat.le_trans HBZ.out.2 (Kd.R_base HR1.out j e)))); have HS2 := Aside0.mk (Nat.le_trans HS1.out hga.size); clear hRa hga hb4)
              | ((with_reducible refine gate_builtin (b := .append) (xs := #[.tmp 41, .tmp 48]) rfl ?_); at_builtin; rw [← HWZ.out.1]; go_loud (refine Kd.R_append_rows k36 (w0 := Wz) Bz rfl (.tmp 41) (.tmp 48) 45 36 (.agg #[.int .i64 0, .int .i64 0, .int .i64 0, .int .u32 0]) 32 rfl Try.underlying45 info36 rfl (by decide) (by omega) (.slice (some ⟨Bz, 0, none⟩) 0 0) [] T1 (some ad) q cc (fun _ => True) (fun _ => False) (by rw [HWZ.out.2]; rfl) rfl HR0.out (Kd.C_below HCT.out.1 (below_of_grown HGZ.out.1)) (fun x cs hk => by rw [k36_open hk]; exact k36_mkM _ _ _ x) (fun _ h => h.elim) (fun _ _ => trivial) (Below.refl _ _) HGZ.out.2 (by have := HLN.out; simp; omega) ?_); intro v1 W3 ho hbb hg hat; have hb3 := blk_grown HBa.out hg (fun e => by have := Kd.R_base HR0.out g e.symm; have := HBZ.out; omega); have y31 := (blk_cell hb3 1).trans rfl; have HB3 := Aside0.mk hb3; have HR1 := Aside0.mk ho; have HG3 := Aside0.mk (HGZ.out.1.andThen hg (fun j e => .inl (Nat.le_trans HBZ.out.2 (Kd.R_base HR0.out j e)))); have HS1 := Aside0.mk (Nat.le_trans HGZ.out.2 hg.size); clear ho hbb hg hat hb3)
              | (go_at_call 20; refine (prioryref13_At.calls 64 (some ad) cc L n (-1) _ (Kd.C_below HC.out (below_of_grown HG.out)) hLE HA2.out).mono ?_; rintro e W2 ⟨rfl, hd⟩; have HGd := Aside0.mk (gb_drawn hd); have HG2 := Aside0.mk (HG.out.trans HGd.out); have x02 := cells_keep x0 (below_of_grown HGd.out); have HB2 := Aside0.mk (blk_grown HB0.out HGd.out (by simp)); have hBa := blk_alloc HB2.out (.cells #[] 36); have x12 : (W2.alloc (.cells #[] 36)).cell? ⟨g, 1, none⟩ = some (.slice (some ad) L.length cc) := (blk_cell hBa 1).trans rfl; obtain ⟨Wz, hWz⟩ : ∃ Wz, Wz = W2.alloc (.cells #[] 36) := ⟨_, rfl⟩; obtain ⟨Bz, hBz⟩ : ∃ Bz, Bz = W2.heap.size := ⟨_, rfl⟩; have hR0 : k36.R 36 Wz Bz (fun _ => True) (.slice (some ⟨Bz, 0, none⟩) 0 0) ([] : List S36) := (by rw [hWz, hBz]; exact ⟨fun _ _ => trivial, OwnRow.lit W2 W2.heap.size (R := k36.M _ _ _) (ps := ([] : List S36)) (inner := []) (Reps.none _ _) (Nat.le_refl _) (by simp)⟩); have hgz : w.grownBy Wz none := (by rw [hWz]; exact HG2.out.trans (World.grownBy_alloc W2 _ none)); have hBz2 : Bz ≤ Wz.heap.size := (by rw [hWz, hBz]; simp); have HBZ := Aside0.mk (show g < Bz ∧ w.heap.size ≤ Bz by rw [hBz]; exact ⟨blk_lt HB2.out, HG2.out.size⟩); rw [← hWz] at hBa; have HBa := Aside0.mk hBa; have HR0 := Aside0.mk hR0; have HGZ := Aside0.mk (And.intro hgz hBz2); have HWZ := Aside0.mk (And.intro hWz hBz); clear hd hBa hR0 hgz hBz2 hWz hBz))
            go_ret2
            rw [HE.out]
            have hbf := blk_put HB5.out 1 (.slice A3 F.length c3) rfl
            have hgf := (gb_weak HG5.out g).trans (gb_set W5 g 1 (.slice A3 F.length c3))
            refine ⟨rfl, ?_, hgf⟩
            rw [← HFL.out]
            exact RTab.of_own hbf (Kd.R_far (p := ⟨g, 1, none⟩) (Kd.R_bound HR3.out) (fun k hk e => by have h5 := hk.2.1; have h6 := HBZ.out.1; have h7 : k = g := e; omega) _) HBZ.out.1 (Nat.lt_of_lt_of_le HM.out HBZ.out.2)
end Go.Proofs.Ytbaddcojhggamaa.PAll
