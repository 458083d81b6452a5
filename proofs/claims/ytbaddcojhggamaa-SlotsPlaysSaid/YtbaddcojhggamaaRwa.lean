/-
  The reference's Wait.
-/
import Derived.Test.YtbaddcojhggamaaRex
namespace Go.Proofs.Ytbaddcojhggamaa.PAll
open Go.RowKit Go.Shelf Go.Proofs.YtbaddcojhggamaaM Go.Proofs.YtbaddcojhggamaaW.PrintWords Go.Proofs.YtbaddcojhggamaaW.PrintLast Go.Proofs.YtbaddcojhggamaaW.PrintMore
set_option linter.unusedVariables false
set_option linter.unusedSimpArgs false
theorem noserve {c : Tab} {most : Int} {rank : Int → Nat} (h : Inv0 c most rank) {j : Int} {w : S36} (hn : NZ c j) (hj : c j = some w) (hw : w.f2 = 2) : serveR c most w = (none, c) := by
  rcases serveR_spec h hj hw with ⟨e, _⟩ | ⟨q, i, hi, hq, hz, _⟩
  · exact e
  · exact absurd hz (hn w hj hw i q hi hq)
theorem stepS_same {most : Int} {rank : Int → Nat} (r : List S40 × Tab) (n : Nat) (h : Inv0 r.2 most rank) (hn : NZ r.2 (n : Int)) : stepS most r n = r := by
  unfold stepS
  cases hc : r.2 n with
  | none => rfl
  | some w =>
    simp only
    by_cases hw : w.f2 = 2
    · rw [if_pos hw, noserve h hn hc hw]; simp
    · rw [if_neg hw]
theorem wait_mid {c : Tab} {most : Int} {rank : Int → Nat} (h : Inv c most rank) {pid : Int} {p : S36} (hp : c pid = some p) (h1 : p.f2 = 1) (hk : kidsN c most.toNat pid ≠ 0) :
    Inv0 (upd c pid (some { p with f2 := 2 })) most rank ∧ ∀ j, j ≠ pid → NZ (upd c pid (some { p with f2 := 2 })) j := by
  obtain ⟨h0, hnz⟩ := h
  obtain ⟨hp0, hp1, hp2⟩ := h0.key hp
  obtain ⟨c', hc'⟩ : ∃ c', c' = upd c pid (some { p with f2 := 2 }) := ⟨_, rfl⟩
  rw [← hc']
  have sp : c' pid = some { p with f2 := 2 } := by rw [hc', upd_self]
  have get : ∀ {j q}, c' j = some q → (j = pid ∧ q = { p with f2 := 2 }) ∨ (j ≠ pid ∧ c j = some q) := fun {j q} hj => by
    by_cases e : j = pid
    · subst e; rw [sp] at hj; exact .inl ⟨rfl, (Option.some.inj hj).symm⟩
    · rw [hc', upd_ne _ _ e] at hj; exact .inr ⟨e, hj⟩
  have up : ∀ {j q}, c j = some q → ∃ q', c' j = some q' ∧ q'.f1 = q.f1 := fun {j q} hj => by
    by_cases e : j = pid
    · subst e; rw [hp] at hj; cases hj; exact ⟨_, sp, rfl⟩
    · exact ⟨q, by rw [hc', upd_ne _ _ e]; exact hj, rfl⟩
  have kidp : ∃ i q, c i = some q ∧ q.f1 = pid := by
    have hpos : 0 < (lstF c most.toNat).countP (fun q => q.f1 == pid) := Nat.pos_of_ne_zero hk
    obtain ⟨q, hq, hq1⟩ := List.countP_pos_iff.1 hpos
    exact ⟨q.f0, q, (h0.mem).1 hq, by simpa using hq1⟩
  have g0 : Inv0 c' most rank := by
    refine ⟨fun hj => ?_, ?_, fun hj hj1 => ?_, h0.r1, fun hj hz => ?_, fun hj hs => ?_, fun hj hw => ?_⟩
    · rcases get hj with ⟨rfl, rfl⟩ | ⟨_, hj⟩
      · have h5 := h0.key hp; exact h5
      · exact h0.key hj
    · obtain ⟨p1, q1, q2, q3⟩ := h0.one
      by_cases e : (1 : Int) = pid
      · subst e; rw [hp] at q1; cases q1; exact ⟨_, sp, q2, by simp⟩
      · exact ⟨p1, by rw [hc', upd_ne _ _ e]; exact q1, q2, q3⟩
    · rcases get hj with ⟨rfl, rfl⟩ | ⟨_, hj⟩
      · obtain ⟨⟨q, hq⟩, hr⟩ := h0.par hp hj1
        obtain ⟨q', hq', _⟩ := up hq
        exact ⟨⟨q', hq'⟩, hr⟩
      · obtain ⟨⟨q, hq⟩, hr⟩ := h0.par hj hj1
        obtain ⟨q', hq', _⟩ := up hq
        exact ⟨⟨q', hq'⟩, hr⟩
    · intro i q hi
      rcases get hj with ⟨rfl, rfl⟩ | ⟨_, hj⟩
      · exact absurd hz (by simp)
      · rcases get hi with ⟨rfl, rfl⟩ | ⟨_, hi⟩
        · have h5 := h0.zom hj hz hp; exact h5
        · exact h0.zom hj hz hi
    · rcases get hj with ⟨rfl, rfl⟩ | ⟨_, hj⟩
      · have h5 := h0.code hp (by rw [h1]; decide); exact h5
      · exact h0.code hj hs
    · rcases get hj with ⟨rfl, rfl⟩ | ⟨_, hj⟩
      · obtain ⟨i, q, hi, hq1⟩ := kidp
        obtain ⟨q', hq', hf⟩ := up hi
        exact ⟨i, q', hq', hf.trans hq1⟩
      · obtain ⟨i, q, hi, hq⟩ := h0.wt hj hw
        obtain ⟨q', hq', hf⟩ := up hi
        exact ⟨i, q', hq', hf.trans hq⟩
  have nz : ∀ j, j ≠ pid → NZ c' j := fun j hjp q hj hw i r hi hr => by
    rcases get hj with ⟨e, _⟩ | ⟨_, hj⟩
    · exact absurd e hjp
    · rcases get hi with ⟨rfl, rfl⟩ | ⟨_, hi⟩
      · simp
      · exact hnz j q hj hw i r hi hr
  exact ⟨g0, nz⟩
theorem runS_wait {c : Tab} {most : Int} {rank : Int → Nat} (h : Inv c most rank) {pid : Int} {p : S36} (hp : c pid = some p) (h1 : p.f2 = 1) (hk : kidsN c most.toNat pid ≠ 0) {c1 : Tab} {p2 : S36} (hp2 : p2 = { p with f2 := 2 }) (hc1 : c1 = upd c pid (some p2)) :
    ∀ n : Nat, runS most c1 n = if (n : Int) < pid then ([], c1) else ((serveR c1 most p2).1.toList, (serveR c1 most p2).2)
  | 0 => by
    have := (h.1.key hp).2.1
    rw [if_pos (by omega)]; rfl
  | n + 1 => by
    obtain ⟨g0, nz⟩ := wait_mid h hp h1 hk
    rw [← hp2, ← hc1] at g0 nz
    have sp : c1 pid = some p2 := by rw [hc1, upd_self]
    have hw : p2.f2 = 2 := by rw [hp2]
    have ih := runS_wait h hp h1 hk hp2 hc1 n
    show stepS most (runS most c1 n) (n + 1) = _
    rw [ih]
    by_cases e1 : ((n + 1 : Nat) : Int) < pid
    · rw [if_pos (by omega), if_pos e1]
      exact stepS_same ([], c1) (n + 1) g0 (nz _ (by omega))
    · rw [if_neg e1]
      by_cases e2 : ((n + 1 : Nat) : Int) = pid
      · rw [if_pos (by omega)]
        unfold stepS
        simp only [e2, sp, hw, if_true, List.nil_append]
      · rw [if_neg (by omega)]
        rcases serveR_spec g0 sp hw with ⟨e, hn⟩ | ⟨q, i, hi, hq, hz, hqi, e⟩
        · rw [e]
          exact stepS_same (_, c1) (n + 1) g0 (nz _ e2)
        · rw [e]
          obtain ⟨s1, s2, s3, _⟩ := inv0_served g0 sp hw hi hq hz
          exact stepS_same (_, servedC c1 p2 q) (n + 1) s1 (s3 _ (nz _ e2))
theorem any_snoc (pid : Int) {L : List S36} {i : Nat} (h : i < L.length) : (L.take (i + 1)).any (fun q => q.f1 == pid) = ((L.take i).any (fun q => q.f1 == pid) || ((L.getD i z36).f1 == pid)) := by
  rw [List.take_succ_eq_append_getElem h, List.any_append, getD_el h]; simp
theorem any_kids {c : Tab} {n : Nat} {pid : Int} : (lstF c n).any (fun q => q.f1 == pid) = false ↔ kidsN c n pid = 0 := by
  unfold kidsN
  rw [List.countP_eq_zero, List.any_eq_false]
set_option maxRecDepth 100000 in
set_option maxHeartbeats 8000000 in
theorem rwait_calls (c : Tab) (most : Int) (rank : Int → Nat) (hI : Inv c most rank) (h1 : 1 ≤ most) (h8 : most ≤ 8) (pid : Int) (w : World) (g m : Nat) (hT : RTab w g m most (lstF c most.toNat)) (hm : m < w.heap.size) :
    Calls Try.prog 27 #[.pointer (some ⟨g, 0, none⟩), .int .i64 pid] w fun e W' => ∃ v, e = .returned (.tuple #[v, .int .i64 (waitR c most pid).2.1]) ∧ Kd.R k40 40 W' w.heap.size (fun _ => True) v (waitR c most pid).1 ∧ RTab W' g m most (lstF (waitR c most pid).2.2 most.toNat) ∧ w.grownBy W' (some g) := by
  have HIN := Aside0.mk hI
  replace hI := hI.1
  have HI := Aside0.mk hI
  have hlen := lstF_len c most.toNat
  have hLst := lst_of hI
  obtain ⟨L, hL⟩ : ∃ L, L = lstF c most.toNat := ⟨_, rfl⟩
  rw [← hL] at hT hlen hLst
  have HL := Aside0.mk hL
  have HT := Aside0.mk hT
  have HM := Aside0.mk hm
  have HLST := Aside0.mk hLst
  have hl8 : L.length ≤ 8 := by omega
  clear hI hL hT hm hLst hlen
  have same : ∀ W : World, w.grownBy W none → RTab W g m most (lstF c most.toNat) ∧ w.grownBy W (some g) := fun W hW => ⟨by rw [← HL.out]; exact HT.out.grown hW, gb_weak hW g⟩
  have HSM := Aside0.mk same
  clear same
  obtain ⟨A, cc, hb, hLE, hC, hF⟩ := HT.out
  have x1 : w.cell? ⟨g, 1, none⟩ = some (.slice A L.length cc) := (blk_cell hb 1).trans rfl
  have HB := Aside0.mk hb
  have HC := Aside0.mk hC
  have HX1 := Aside0.mk x1
  clear hb hC hF
  -- the loop over the children, wherever it stands
  cases hp : c pid with
  | none =>
    have e : waitR c most pid = ([], 4, c) := by unfold waitR; rw [hp]
    rw [e]
    have HA := Aside0.mk (at_none HLST.out (by omega) hp)
    clear hp e
    go_enter Try.func27, Try.ntmps27
    go_wp2_with (go_at_call 20; refine (prioryref13_At.calls 64 A cc L pid (-1) _ HC.out hLE HA.out).mono ?_; rintro e W1 ⟨rfl, hd⟩; have HG1 := Aside0.mk (gb_drawn hd); clear hd)
    clear x1
    go_loopg [7, 8] (L.length + 1) (fun kq v7 v8 w' => ∃ (b : Bool) (i : Nat), v7 = .bool b ∧ v8 = .int .i64 (i : Int) ∧ Aside0 (i ≤ L.length ∧ i + kq = L.length + 1) ∧ Aside0 (b = (L.take i).any (fun q => q.f1 == pid)) ∧ Aside0 (w.grownBy w' none))
    case atStart => exact ⟨false, 0, rfl, rfl, ⟨⟨Nat.zero_le _, by omega⟩⟩, ⟨rfl⟩, HG1⟩
    case round =>
      clear HG1
      obtain ⟨b, i, rfl, rfl, HN, HBB, HG⟩ := hrel
      have hi0 : (0 : Int) ≤ (i : Int) := by omega
      by_cases hi : i < L.length
      · have hii : (i : Int) < (L.length : Int) := by omega
        obtain ⟨k', rfl⟩ : ∃ k', gk = k' + 1 := ⟨gk - 1, by have := HN.out.2; omega⟩
        have hw1 : IntKind.i64.wrap ((i : Int) + 1) = ((i + 1 : Nat) : Int) := (IntWalk.i64_left _).trans ((IntWalk.wrap64_in _ (by omega)).trans (by omega))
        have hsn := any_snoc pid hi
        rw [← HBB.out] at hsn
        obtain ⟨ad2, eA2, _, y1, _, _⟩ := at_T36 HC.out (i : Int) hi0 hii
        rw [rd_nat, Int.toNat_natCast] at y1
        obtain ⟨x, hx⟩ : ∃ x, x = (L.getD i z36).f1 := ⟨_, rfl⟩
        rw [← hx] at y1 hsn
        have hx1 : wr.cell? ⟨g, 1, none⟩ = some (.slice A L.length cc) := cells_keep HX1.out (below_of_grown HG.out)
        have z1 := cells_keep y1 (below_of_grown HG.out)
        rw [eA2] at hx1
        have HA2 := Aside0.mk eA2
        have HSN := Aside0.mk hsn
        clear y1 hx eA2 hsn
        cases b
        · by_cases e : x = pid
          · subst e
            go_wp2
            go_roundg k'
            case measure => omega
            case rel => exact ⟨true, i + 1, by first | rfl | simp, by first | rfl | simp, ⟨by have := HN.out; omega⟩, ⟨by rw [HSN.out]; simp⟩, HG⟩
          · have heb : (x == pid) = false := beq_eq_false_iff_ne.2 e
            have HSN2 := Aside0.mk (show ((false : Bool) || (x == pid)) = false by rw [heb]; rfl)
            clear e
            go_wp2
            go_roundg k'
            case measure => omega
            case rel => exact ⟨false, i + 1, by first | rfl | simp, by first | rfl | simp, ⟨by have := HN.out; omega⟩, ⟨by rw [HSN.out]; exact HSN2.out.symm⟩, HG⟩
        · go_wp2
          go_roundg k'
          case measure => omega
          case rel => exact ⟨true, i + 1, by first | rfl | simp, by first | rfl | simp, ⟨by have := HN.out; omega⟩, ⟨by rw [HSN.out]; simp⟩, HG⟩
      · have hii : ¬ (i : Int) < (L.length : Int) := by omega
        have hx1 : wr.cell? ⟨g, 1, none⟩ = some (.slice A L.length cc) := cells_keep HX1.out (below_of_grown HG.out)
        cases b
        · go_wp2
          go_ret2
          exact ⟨_, rfl, Kd.R_nil _ _ _ _ _, HSM.out _ HG.out⟩
        · go_wp2
          go_ret2
          exact ⟨_, rfl, Kd.R_nil _ _ _ _ _, HSM.out _ HG.out⟩
  | some p =>
    have hp0 : p.f0 = pid := (HI.out.key hp).1
    obtain ⟨j, hj1, hj2, hj3⟩ := at_pos HLST.out (by omega) hp hp0
    have hj0 : (0 : Int) ≤ (j : Int) := by omega
    have hj00 : ¬ ((j : Int) < 0) := by omega
    have hjl : (j : Int) < (L.length : Int) := by omega
    have HA := Aside0.mk hj1
    have HJ2 := Aside0.mk hj2
    have HJ3 := Aside0.mk hj3
    obtain ⟨ad, eA, _, _, y2, _⟩ := at_T36 HC.out (j : Int) hj0 hjl
    rw [rd_nat, hj3] at y2
    obtain ⟨st, hst⟩ : ∃ st, st = p.f2 := ⟨_, rfl⟩
    rw [← hst, Int.toNat_natCast] at y2
    have HY2 := Aside0.mk y2
    have HEA := Aside0.mk eA
    have HST := Aside0.mk hst
    have HP := Aside0.mk hp
    clear hj1 hj3 hp0 y2 hst hp eA
    go_enter Try.func27, Try.ntmps27
    go_wp2_with (go_at_call 20; refine (prioryref13_At.calls 64 A cc L pid (j : Int) _ HC.out hLE HA.out).mono ?_; rintro e W1 ⟨rfl, hd⟩; have HG1 := Aside0.mk (gb_drawn hd); clear hd)
    clear x1
    go_loopg [7, 8] (L.length + 1) (fun kq v7 v8 w' => ∃ (b : Bool) (i : Nat), v7 = .bool b ∧ v8 = .int .i64 (i : Int) ∧ Aside0 (i ≤ L.length ∧ i + kq = L.length + 1) ∧ Aside0 (b = (L.take i).any (fun q => q.f1 == pid)) ∧ Aside0 (w.grownBy w' none))
    case atStart => exact ⟨false, 0, rfl, rfl, ⟨⟨Nat.zero_le _, by omega⟩⟩, ⟨rfl⟩, HG1⟩
    case round =>
      clear HG1
      obtain ⟨b, i, rfl, rfl, HN, HBB, HG⟩ := hrel
      have hi0 : (0 : Int) ≤ (i : Int) := by omega
      by_cases hi : i < L.length
      · have hii : (i : Int) < (L.length : Int) := by omega
        obtain ⟨k', rfl⟩ : ∃ k', gk = k' + 1 := ⟨gk - 1, by have := HN.out.2; omega⟩
        have hw1 : IntKind.i64.wrap ((i : Int) + 1) = ((i + 1 : Nat) : Int) := (IntWalk.i64_left _).trans ((IntWalk.wrap64_in _ (by omega)).trans (by omega))
        have hsn := any_snoc pid hi
        rw [← HBB.out] at hsn
        obtain ⟨ad2, eA2, _, y1, _, _⟩ := at_T36 HC.out (i : Int) hi0 hii
        rw [rd_nat, Int.toNat_natCast] at y1
        obtain ⟨x, hx⟩ : ∃ x, x = (L.getD i z36).f1 := ⟨_, rfl⟩
        rw [← hx] at y1 hsn
        have hx1 : wr.cell? ⟨g, 1, none⟩ = some (.slice A L.length cc) := cells_keep HX1.out (below_of_grown HG.out)
        have z1 := cells_keep y1 (below_of_grown HG.out)
        rw [eA2] at hx1
        have HA2 := Aside0.mk eA2
        have HSN := Aside0.mk hsn
        clear y1 hx eA2 hsn
        cases b
        · by_cases e : x = pid
          · subst e
            go_wp2
            go_roundg k'
            case measure => omega
            case rel => exact ⟨true, i + 1, by first | rfl | simp, by first | rfl | simp, ⟨by have := HN.out; omega⟩, ⟨by rw [HSN.out]; simp⟩, HG⟩
          · have heb : (x == pid) = false := beq_eq_false_iff_ne.2 e
            have HSN2 := Aside0.mk (show ((false : Bool) || (x == pid)) = false by rw [heb]; rfl)
            clear e
            go_wp2
            go_roundg k'
            case measure => omega
            case rel => exact ⟨false, i + 1, by first | rfl | simp, by first | rfl | simp, ⟨by have := HN.out; omega⟩, ⟨by rw [HSN.out]; exact HSN2.out.symm⟩, HG⟩
        · go_wp2
          go_roundg k'
          case measure => omega
          case rel => exact ⟨true, i + 1, by first | rfl | simp, by first | rfl | simp, ⟨by have := HN.out; omega⟩, ⟨by rw [HSN.out]; simp⟩, HG⟩
      · have hii : ¬ (i : Int) < (L.length : Int) := by omega
        have hx1 : wr.cell? ⟨g, 1, none⟩ = some (.slice A L.length cc) := cells_keep HX1.out (below_of_grown HG.out)
        have hil : i = L.length := by have := HN.out; omega
        have hbk : b = (lstF c most.toNat).any (fun q => q.f1 == pid) := by rw [HBB.out, hil, List.take_length, HL.out]
        clear hil
        have HBK := Aside0.mk hbk
        clear hbk
        cases b
        · have e : waitR c most pid = ([], 4, c) := by unfold waitR; rw [HP.out]; simp only; rw [if_pos (any_kids.1 HBK.out.symm)]
          have HE := Aside0.mk e
          clear e
          go_wp2
          go_ret2
          rw [HE.out]
          exact ⟨_, rfl, Kd.R_nil _ _ _ _ _, HSM.out _ HG.out⟩
        · have hk : ¬ kidsN c most.toNat pid = 0 := fun h => by have := any_kids.2 h; rw [← HBK.out] at this; cases this
          have hA := HEA.out
          subst hA
          have z2 := cells_keep HY2.out (below_of_grown HG.out)
          by_cases hs1 : st = 1
          · have h21 : p.f2 = 1 := by rw [← HST.out]; exact hs1
            obtain ⟨p2, hp2⟩ : ∃ p2 : S36, p2 = { p with f2 := 2 } := ⟨_, rfl⟩
            obtain ⟨c1, hc1⟩ : ∃ c1, c1 = upd c pid (some p2) := ⟨_, rfl⟩
            have hrun := runS_wait HIN.out HP.out h21 hk hp2 hc1 most.toNat
            have hkp := HI.out.key HP.out
            rw [if_neg (by omega)] at hrun
            have e : waitR c most pid = ((runS most c1 most.toNat).1, 0, (runS most c1 most.toNat).2) := by
              unfold waitR; rw [HP.out]; simp only; rw [if_neg hk, if_neg (by rw [h21]; decide), ← hp2, ← hc1, hrun]
            have hI1 := (wait_mid HIN.out HP.out h21 hk).1
            rw [← hp2, ← hc1] at hI1
            obtain ⟨L1, hL1⟩ : ∃ L1, L1 = L.set j p2 := ⟨_, rfl⟩
            have hLL : L1 = lstF c1 most.toNat := by
              refine lst_eq hI1 ?_
              have hs := lst_set HLST.out HJ2.out (p' := p2) (by rw [HJ3.out, hp2])
              rw [show p2.f0 = pid by rw [hp2]; exact hkp.1, ← hc1, ← hL1] at hs
              exact hs
            have HE := Aside0.mk e
            have HI1 := Aside0.mk hI1
            have HLL := Aside0.mk hLL
            have HL1 := Aside0.mk (And.intro hL1 hp2)
            have HB1 := Aside0.mk (blk_grown HB.out HG.out (by simp))
            have hBa := blk_alloc HB1.out (.cells #[] 36)
            have x12 : (wr.alloc (.cells #[] 36)).cell? ⟨g, 1, none⟩ = some (.slice (some ad) L.length cc) := (blk_cell hBa 1).trans rfl
            obtain ⟨Wz, hWz⟩ : ∃ Wz, Wz = wr.alloc (.cells #[] 36) := ⟨_, rfl⟩
            obtain ⟨Bz, hBz⟩ : ∃ Bz, Bz = wr.heap.size := ⟨_, rfl⟩
            have hR0 : k36.R 36 Wz Bz (fun _ => True) (.slice (some ⟨Bz, 0, none⟩) 0 0) ([] : List S36) := (by rw [hWz, hBz]; exact ⟨fun _ _ => trivial, OwnRow.lit wr wr.heap.size (R := k36.M _ _ _) (ps := ([] : List S36)) (inner := []) (Reps.none _ _) (Nat.le_refl _) (by simp)⟩)
            have hgz : w.grownBy Wz none := (by rw [hWz]; exact HG.out.trans (World.grownBy_alloc wr _ none))
            have hBz2 : Bz ≤ Wz.heap.size := (by rw [hWz, hBz]; simp)
            have HBZ := Aside0.mk (show g < Bz ∧ w.heap.size ≤ Bz by rw [hBz]; exact ⟨blk_lt HB1.out, HG.out.size⟩)
            rw [← hWz] at hBa
            have HBa := Aside0.mk hBa
            have HR0 := Aside0.mk hR0
            have HGZ := Aside0.mk (And.intro hgz hBz2)
            have HWZ := Aside0.mk (And.intro hWz hBz)
            subst hs1
            clear e hI1 hLL hL1 hp2 hc1 hrun hkp h21 hk hBa hR0 hgz hBz2 hWz hBz
            go_wp2_with (first
              | ((with_reducible refine gate_builtin (b := .append) (xs := #[.tmp 53, .tmp 57]) rfl ?_); at_builtin; rw [← HWZ.out.1]; go_loud (refine Kd.R_append_rows k36 (w0 := Wz) Bz rfl (.tmp 53) (.tmp 57) 45 36 (.agg #[.int .i64 0, .int .i64 0, .int .i64 0, .int .u32 0]) 32 rfl Try.underlying45 info36 rfl (by decide) (by omega) (.slice (some ⟨Bz, 0, none⟩) 0 0) [] L (some ad) L.length cc (fun _ => True) (fun _ => False) (by rw [HWZ.out.2]; rfl) rfl HR0.out (Kd.C_below HC.out (below_of_grown HGZ.out.1)) (fun x cs hk => by rw [k36_open hk]; exact k36_mkM _ _ _ x) (fun _ h => h.elim) (fun _ _ => trivial) (Below.refl _ _) HGZ.out.2 (by simp; omega) ?_); intro v1 W2 ho hbb hg hat; rw [List.nil_append] at ho; have hb2 := blk_grown HBa.out hg (fun e => by have := Kd.R_base HR0.out g e.symm; have := HBZ.out; omega); obtain ⟨gb, cb, rfl, hgb, _, _⟩ := Kd.R_form ho (by have := HJ2.out; omega); have hgg : g ≠ gb := (by have := HBZ.out.1; omega); have y21 := (blk_cell hb2 1).trans rfl; have f21 := blk_frozen hb2 1; have HB2 := Aside0.mk hb2; have HR2 := Aside0.mk ho; have HG2 := Aside0.mk (HGZ.out.1.andThen hg (fun j e => .inl (Nat.le_trans HBZ.out.2 (Kd.R_base HR0.out j e)))); have HGB := Aside0.mk (Nat.le_trans HBZ.out.2 hgb);
                  (have hb3 := blk_put hb2 1 (.slice (some ⟨gb, 0, none⟩) L.length cb) rfl);
                  (have hR3 := Kd.R_far (p := ⟨g, 1, none⟩) (Kd.R_bound ho) (fun k hk e => by have h5 := hk.2.1; have h6 := HBZ.out.1; have h7 : k = g := e; omega) (.slice (some ⟨gb, 0, none⟩) L.length cb));
                  (have y31 := (blk_cell hb3 1).trans rfl); (obtain ⟨_, _, q2, _, qf⟩ := R_el36 hR3 HJ2.out); (have qf2 := qf 2);
                  (have hb4 := blk_far hb3 (p := ⟨gb, j * 4 + 2, none⟩) hgg (.int .i64 2));
                  (have hR4 := R_set36 hR3 HJ2.out 2 (.int .i64 2) p2 (by decide) (by rw [HJ3.out, HL1.out.2]; rfl));
                  (rw [← HL1.out.1] at hR4);
                  (have HB4 := Aside0.mk hb4); (have HR4 := Aside0.mk hR4);
                  clear ho hbb hg hat hb2 hb3 hR3 qf hb4 hR4)
              | (go_at_call 30; refine (rserve_calls c1 most rank HI1.out h1 h8 _ w g m (.slice (some ⟨gb, 0, none⟩) L.length cb) HB4.out (by rw [← HLL.out]; exact Kd.R_mono (Kd.R_lower HR4.out HBZ.out.2) (fun _ _ => trivial)) (blk_lt HB.out) HM.out (((gb_weak HG2.out g).trans (gb_set _ g 1 _)).andThen (gb_set _ gb (j * 4 + 2) _) (fun q e => by cases e; exact .inl HGB.out))).mono ?_; rintro e W9 ⟨v9, rfl, hR9, hT9, hG9⟩; have HR9 := Aside0.mk hR9; have HT9 := Aside0.mk hT9; have HG9 := Aside0.mk hG9; clear hR9 hT9 hG9))
            go_ret2
            rw [HE.out]
            exact ⟨_, rfl, HR9.out, HT9.out, HG9.out⟩
          · have e : waitR c most pid = ([], 9, c) := by unfold waitR; rw [HP.out]; simp only; rw [if_neg hk, if_pos (by rw [← HST.out]; exact hs1)]
            have hsb : (st != 1) = true := by rw [bne_iff_ne]; exact hs1
            have HE := Aside0.mk e
            clear e hk
            go_wp2
            go_ret2
            rw [HE.out]
            exact ⟨_, rfl, Kd.R_nil _ _ _ _ _, HSM.out _ HG.out⟩
end Go.Proofs.Ytbaddcojhggamaa.PAll
