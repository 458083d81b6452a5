/-
  The reference's Exit.
-/
import Derived.Test.YtbaddcojhggamaaRse
namespace Go.Proofs.Ytbaddcojhggamaa.PAll
open Go.RowKit Go.Shelf Go.Proofs.YtbaddcojhggamaaM Go.Proofs.YtbaddcojhggamaaW.PrintWords Go.Proofs.YtbaddcojhggamaaW.PrintLast Go.Proofs.YtbaddcojhggamaaW.PrintMore
set_option linter.unusedVariables false
set_option linter.unusedSimpArgs false
def midL (f : S36 → S36) (L : List S36) (i : Nat) : List S36 := (L.take i).map f ++ L.drop i
theorem midL_len (f : S36 → S36) (L : List S36) (i : Nat) : (midL f L i).length = L.length := by
  unfold midL; rw [List.length_append, List.length_map, List.length_take, List.length_drop]; omega
theorem midL_at (f : S36 → S36) {L : List S36} {i : Nat} (h : i < L.length) : (midL f L i).getD i z36 = L.getD i z36 := by
  unfold midL
  rw [List.getD_eq_getElem?_getD, List.getElem?_append_right (by simp; omega), List.length_map, List.length_take, Nat.min_eq_left (by omega), Nat.sub_self, List.getElem?_drop, List.getD_eq_getElem?_getD]; rfl
theorem midL_set (f : S36 → S36) {L : List S36} {i : Nat} (h : i < L.length) : (midL f L i).set i (f (L.getD i z36)) = midL f L (i + 1) := by
  unfold midL
  rw [List.set_append_right (h := by simp; omega), List.length_map, List.length_take, Nat.min_eq_left (by omega), Nat.sub_self, List.drop_eq_getElem_cons h, List.set_cons_zero, List.take_succ_eq_append_getElem h, List.map_append, getD_el h]
  simp
theorem midL_same (f : S36 → S36) {L : List S36} {i : Nat} (h : i < L.length) (e : f (L.getD i z36) = L.getD i z36) : midL f L (i + 1) = midL f L i := by
  rw [← midL_set f h, e, ← midL_at f h, getD_el (by rw [midL_len]; exact h), List.set_getElem_self]
theorem midL_all (f : S36 → S36) (L : List S36) : midL f L L.length = L.map f := by unfold midL; simp
/-- The table's list, when one has ended. -/
theorem lst_ended {c : Tab} {most : Int} {rank : Int → Nat} (h : Inv0 c most rank) {pid code : Int} {p : S36} (hp : c pid = some p) (h1 : pid ≠ 1) (hz : p.f2 ≠ 3) {j : Nat} (hj : j < (lstF c most.toNat).length) (hjp : (lstF c most.toNat).getD j z36 = p) :
    ((lstF c most.toNat).set j { p with f2 := 3, f3 := code }).map (reP pid) = lstF (runO pid (upd c pid (some { p with f2 := 3, f3 := code })) most.toNat) most.toNat := by
  have hi := (inv0_ended h (code := code) hp h1 hz).1
  refine lst_eq hi ?_
  have hp0 := (h.key hp).1
  have hs := lst_set (lst_of h) hj (p' := { p with f2 := 3, f3 := code }) (by rw [hjp])
  have e : upd c { p with f2 := 3, f3 := code : S36 }.f0 (some { p with f2 := 3, f3 := code }) = upd c pid (some { p with f2 := 3, f3 := code }) := by rw [show ({ p with f2 := 3, f3 := code } : S36).f0 = pid from hp0]
  rw [e] at hs
  have key1 : ∀ {i q}, upd c pid (some { p with f2 := 3, f3 := code }) i = some q → q.f0 = i ∧ 1 ≤ i ∧ i ≤ most := fun {i q} hi => by
    by_cases e : i = pid
    · subst e; rw [upd_self] at hi; cases hi; have h5 := h.key hp; exact h5
    · rw [upd_ne _ _ e] at hi; exact h.key hi
  have hm := lst_map hs (reP pid) (reP_f0 pid) (fun hi => (key1 hi).1)
  have ef : runO pid (upd c pid (some { p with f2 := 3, f3 := code })) most.toNat = fun j => (upd c pid (some { p with f2 := 3, f3 := code }) j).map (reP pid) := funext (runO_all key1)
  rw [ef]; exact hm
set_option maxRecDepth 100000 in
set_option maxHeartbeats 8000000 in
theorem rexit_calls (c : Tab) (most : Int) (rank : Int → Nat) (hI : Inv c most rank) (h1 : 1 ≤ most) (h8 : most ≤ 8) (pid code : Int) (w : World) (g m : Nat) (hT : RTab w g m most (lstF c most.toNat)) (hm : m < w.heap.size) :
    Calls Try.prog 26 #[.pointer (some ⟨g, 0, none⟩), .int .i64 pid, .int .u32 code] w fun e W' => ∃ v, e = .returned (.tuple #[v, .int .i64 (exitR c most pid code).2.1]) ∧ Kd.R k40 40 W' w.heap.size (fun _ => True) v (exitR c most pid code).1 ∧ RTab W' g m most (lstF (exitR c most pid code).2.2 most.toNat) ∧ w.grownBy W' (some g) := by
  have HIN := Aside0.mk hI
  replace hI := hI.1
  have HI := Aside0.mk hI
  have hlen := lstF_len c most.toNat
  have hLst := lst_of hI
  have hEN := fun (p : S36) (hp : c pid = some p) (h1 : pid ≠ 1) (hz : p.f2 ≠ 3) => (inv0_ended hI (code := code) hp h1 hz).1
  have hLE9 := fun (p : S36) (hp : c pid = some p) (h1 : pid ≠ 1) (hz : p.f2 ≠ 3) (j : Nat) => lst_ended hI (code := code) hp h1 hz (j := j)
  obtain ⟨L, hL⟩ : ∃ L, L = lstF c most.toNat := ⟨_, rfl⟩
  rw [← hL] at hT hlen hLst hLE9
  have HL := Aside0.mk hL
  have HT := Aside0.mk hT
  have HM := Aside0.mk hm
  have HLST := Aside0.mk hLst
  have HEN := Aside0.mk hEN
  have HLE9 := Aside0.mk hLE9
  have hl8 : L.length ≤ 8 := by omega
  clear hI hL hT hm hLst hlen hEN hLE9
  have same : ∀ W : World, w.grownBy W none → RTab W g m most (lstF c most.toNat) ∧ w.grownBy W (some g) := fun W hW => ⟨by rw [← HL.out]; exact HT.out.grown hW, gb_weak hW g⟩
  have HSM := Aside0.mk same
  clear same
  obtain ⟨A, cc, hb, hLE, hC, hF⟩ := HT.out
  have x1 : w.cell? ⟨g, 1, none⟩ = some (.slice A L.length cc) := (blk_cell hb 1).trans rfl
  have HB := Aside0.mk hb
  have HC := Aside0.mk hC
  have HX1 := Aside0.mk x1
  clear hb hC hF
  cases hp : c pid with
  | none =>
    have e : exitR c most pid code = ([], 4, c) := by unfold exitR; rw [hp]
    rw [e]
    have HA := Aside0.mk (at_none HLST.out (by omega) hp)
    clear hp e
    go_enter Try.func26, Try.ntmps26
    go_wp2_with (go_at_call 20; refine (prioryref13_At.calls 64 A cc L pid (-1) _ HC.out hLE HA.out).mono ?_; rintro e W1 ⟨rfl, hd⟩; have HG1 := Aside0.mk (gb_drawn hd); clear hd)
    go_ret2
    exact ⟨_, rfl, Kd.R_nil _ _ _ _ _, HSM.out _ HG1.out⟩
  | some p =>
    have hp0 : p.f0 = pid := (HI.out.key hp).1
    obtain ⟨j, hj1, hj2, hj3⟩ := at_pos HLST.out (by omega) hp hp0
    have hj0 : (0 : Int) ≤ (j : Int) := by omega
    have hj00 : ¬ ((j : Int) < 0) := by omega
    have hjl : (j : Int) < (L.length : Int) := by omega
    have HA := Aside0.mk hj1
    have HJ2 := Aside0.mk hj2
    have HJ3 := Aside0.mk hj3
    obtain ⟨ad, eA, _, _, y2, _⟩ := at_T36 HC.out (j : Int) hj0 hjl
    subst eA
    rw [rd_nat, hj3] at y2
    obtain ⟨st, hst⟩ : ∃ st, st = p.f2 := ⟨_, rfl⟩
    rw [← hst, Int.toNat_natCast] at y2
    have HY2 := Aside0.mk y2
    clear hj1 hj3 hp0 y2
    by_cases hpid : pid = 1
    · have e : exitR c most pid code = ([], 8, c) := by unfold exitR; rw [hp]; simp only; rw [if_pos hpid]
      rw [e]
      clear hp e hst
      subst hpid
      go_enter Try.func26, Try.ntmps26
      go_wp2_with (go_at_call 20; refine (prioryref13_At.calls 64 (some ad) cc L 1 (j : Int) _ HC.out hLE HA.out).mono ?_; rintro e W1 ⟨rfl, hd⟩; have HG1 := Aside0.mk (gb_drawn hd); clear hd)
      go_ret2
      exact ⟨_, rfl, Kd.R_nil _ _ _ _ _, HSM.out _ HG1.out⟩
    · have hpb : (pid == 1) = false := beq_eq_false_iff_ne.2 hpid
      by_cases hz : st = 3
      · have e : exitR c most pid code = ([], 9, c) := by unfold exitR; rw [hp]; simp only; rw [if_neg hpid, if_pos (by rw [← hst]; exact hz)]
        rw [e]
        clear hp e hst
        subst hz
        go_enter Try.func26, Try.ntmps26
        go_wp2_with (go_at_call 20; refine (prioryref13_At.calls 64 (some ad) cc L pid (j : Int) _ HC.out hLE HA.out).mono ?_; rintro e W1 ⟨rfl, hd⟩; have HG1 := Aside0.mk (gb_drawn hd); have z2 := cells_keep HY2.out (below_of_grown HG1.out); have z1 := cells_keep HX1.out (below_of_grown HG1.out); clear hd)
        go_ret2
        exact ⟨_, rfl, Kd.R_nil _ _ _ _ _, HSM.out _ HG1.out⟩
      · have hz' : p.f2 ≠ 3 := by rw [← hst]; exact hz
        have hzb : (st == 3) = false := beq_eq_false_iff_ne.2 hz
        obtain ⟨cE, hcE⟩ : ∃ cE, cE = runO pid (upd c pid (some { p with f2 := 3, f3 := code })) most.toNat := ⟨_, rfl⟩
        have e : exitR c most pid code = ((runS most cE most.toNat).1, 0, (runS most cE most.toNat).2) := by unfold exitR; rw [hp]; simp only; rw [if_neg hpid, if_neg hz', ← hcE]
        rw [e]
        obtain ⟨p', hp'⟩ : ∃ p' : S36, p' = { p with f2 := 3, f3 := code } := ⟨_, rfl⟩
        obtain ⟨L1, hL1⟩ : ∃ L1, L1 = L.set j p' := ⟨_, rfl⟩
        have hIE := HEN.out p hp hpid hz'
        have hLL := HLE9.out p hp hpid hz' j hj2 HJ3.out
        rw [← hcE] at hIE hLL
        rw [← hp', ← hL1] at hLL
        have HIE := Aside0.mk hIE
        have HLL := Aside0.mk hLL
        have hn1 : L1.length = L.length := by rw [hL1, List.length_set]
        have HL1 := Aside0.mk (And.intro hL1 (And.intro hp' hn1))
        clear hp e hst hz' hcE hp' hL1 hIE hLL hn1
        go_enter Try.func26, Try.ntmps26
        go_wp2_with (first
          | ((with_reducible refine gate_builtin (b := .append) (xs := #[.tmp 30, .tmp 34]) rfl ?_); at_builtin; rw [← HWZ.out.1]; go_loud (refine Kd.R_append_rows k36 (w0 := Wz) Bz rfl (.tmp 30) (.tmp 34) 45 36 (.agg #[.int .i64 0, .int .i64 0, .int .i64 0, .int .u32 0]) 32 rfl Try.underlying45 info36 rfl (by decide) (by omega) (.slice (some ⟨Bz, 0, none⟩) 0 0) [] L (some ad) L.length cc (fun _ => True) (fun _ => False) (by rw [HWZ.out.2]; rfl) rfl HR0.out (Kd.C_below HC.out (below_of_grown HGZ.out.1)) (fun x cs hk => by rw [k36_open hk]; exact k36_mkM _ _ _ x) (fun _ h => h.elim) (fun _ _ => trivial) (Below.refl _ _) HGZ.out.2 (by simp; omega) ?_); intro v1 W2 ho hbb hg hat; rw [List.nil_append] at ho; have hb2 := blk_grown HBa.out hg (fun e => by have := Kd.R_base HR0.out g e.symm; have := HBZ.out; omega); obtain ⟨gb, cb, rfl, hgb, _, _⟩ := Kd.R_form ho (by have := HJ2.out; omega); have hgg : g ≠ gb := (by have := HBZ.out.1; omega); have y21 := (blk_cell hb2 1).trans rfl; have f21 := blk_frozen hb2 1; have HB2 := Aside0.mk hb2; have HR2 := Aside0.mk ho; have HG2 := Aside0.mk (HGZ.out.1.andThen hg (fun j e => .inl (Nat.le_trans HBZ.out.2 (Kd.R_base HR0.out j e)))); have HGB := Aside0.mk (Nat.le_trans HBZ.out.2 hgb);
              (have hb3 := blk_put hb2 1 (.slice (some ⟨gb, 0, none⟩) L.length cb) rfl);
              (have hR3 := Kd.R_far (p := ⟨g, 1, none⟩) (Kd.R_bound ho) (fun k hk e => by have h5 := hk.2.1; have h6 := HBZ.out.1; have h7 : k = g := e; omega) (.slice (some ⟨gb, 0, none⟩) L.length cb));
              (have y31 := (blk_cell hb3 1).trans rfl); (obtain ⟨_, _, q2, q3, qf⟩ := R_el36 hR3 HJ2.out); (have qf2 := qf 2);
              (have hb4 := blk_far hb3 (p := ⟨gb, j * 4 + 2, none⟩) hgg (.int .i64 3));
              (have hR4 := R_set36 hR3 HJ2.out 2 (.int .i64 3) { p with f2 := 3 } (by decide) (by rw [HJ3.out]; rfl));
              (have y41 := (blk_cell hb4 1).trans rfl); (obtain ⟨_, _, _, r3, rf⟩ := R_el36 hR4 HJ2.out); (have rf3 := rf 3);
              (have hb5 := blk_far hb4 (p := ⟨gb, j * 4 + 3, none⟩) hgg (.int .u32 code));
              (have hR5 := R_set36 hR4 HJ2.out 3 (.int .u32 code) p' (by decide) (by rw [HL1.out.2.1]; rw [List.getD_eq_getElem?_getD, List.getElem?_set_self HJ2.out]; rfl));
              (rw [List.set_set, ← HL1.out.1] at hR5);
              (have HB5 := Aside0.mk hb5); (have HR5 := Aside0.mk hR5);
              clear ho hbb hg hat hb2 hb3 hR3 qf hb4 hR4 rf hb5 hR5)
          | (go_at_call 20; refine (prioryref13_At.calls 64 (some ad) cc L pid (j : Int) _ HC.out hLE HA.out).mono ?_; rintro e W1 ⟨rfl, hd⟩; have HG1 := Aside0.mk (gb_drawn hd); have z2 := cells_keep HY2.out (below_of_grown HG1.out); have z1 := cells_keep HX1.out (below_of_grown HG1.out); have HB1 := Aside0.mk (blk_grown HB.out HG1.out (by simp)); have hBa := blk_alloc HB1.out (.cells #[] 36); have x12 : (W1.alloc (.cells #[] 36)).cell? ⟨g, 1, none⟩ = some (.slice (some ad) L.length cc) := (blk_cell hBa 1).trans rfl; obtain ⟨Wz, hWz⟩ : ∃ Wz, Wz = W1.alloc (.cells #[] 36) := ⟨_, rfl⟩; obtain ⟨Bz, hBz⟩ : ∃ Bz, Bz = W1.heap.size := ⟨_, rfl⟩; have hR0 : k36.R 36 Wz Bz (fun _ => True) (.slice (some ⟨Bz, 0, none⟩) 0 0) ([] : List S36) := (by rw [hWz, hBz]; exact ⟨fun _ _ => trivial, OwnRow.lit W1 W1.heap.size (R := k36.M _ _ _) (ps := ([] : List S36)) (inner := []) (Reps.none _ _) (Nat.le_refl _) (by simp)⟩); have hgz : w.grownBy Wz none := (by rw [hWz]; exact HG1.out.trans (World.grownBy_alloc W1 _ none)); have hBz2 : Bz ≤ Wz.heap.size := (by rw [hWz, hBz]; simp); have HBZ := Aside0.mk (show g < Bz ∧ w.heap.size ≤ Bz by rw [hBz]; exact ⟨blk_lt HB1.out, HG1.out.size⟩); rw [← hWz] at hBa; have HBa := Aside0.mk hBa; have HR0 := Aside0.mk hR0; have HGZ := Aside0.mk (And.intro hgz hBz2); have HWZ := Aside0.mk (And.intro hWz hBz); clear hd hBa hR0 hgz hBz2 hWz hBz))
        obtain ⟨W5, hW5⟩ : ∃ W5, W5 = ((W2.setCell ⟨g, 1, none⟩ (.slice (some ⟨gb, 0, none⟩) L.length cb)).setCell ⟨gb, j * 4 + 2, none⟩ (.int .i64 3)).setCell ⟨gb, j * 4 + 3, none⟩ (.int .u32 code) := ⟨_, rfl⟩
        have hG5 : w.grownBy W5 (some g) := by
          rw [hW5]
          exact ((((gb_weak HG2.out g).trans (gb_set _ g 1 _)).andThen (gb_set _ gb (j * 4 + 2) _) (fun q e => by cases e; exact .inl HGB.out)).andThen (gb_set _ gb (j * 4 + 3) _) (fun q e => by cases e; exact .inl HGB.out))
        rw [← hW5] at HB5 HR5 ⊢
        have hgw : w.heap.size ≤ Bz := HBZ.out.2
        have HG5 := Aside0.mk hG5
        have HR5' := Aside0.mk (Kd.R_mono (Kd.R_lower HR5.out hgw) (fun _ _ => trivial : ∀ k, _ → True))
        have HGG := Aside0.mk hgg
        have HGW := Aside0.mk (show g < w.heap.size from blk_lt HB.out)
        clear hW5 hG5 hgw HR5 q2 q3 qf2 r3 rf3 y21 f21 y31 y41 hgg x12 z1 z2
        go_loopg [9] (L.length + 1) (fun kq v9 w' => ∃ i : Nat, v9 = .int .i64 (i : Int) ∧ Aside0 (i ≤ L.length ∧ i + kq = L.length + 1) ∧ Aside0 (w'.heap[g]? = some (.cells #[.int .i64 most, .slice (some ⟨gb, 0, none⟩) L.length cb] 47 (0, 0))) ∧ Aside0 (Kd.R k36 36 w' w.heap.size (fun _ => True) (.slice (some ⟨gb, 0, none⟩) L.length cb) (midL (reP pid) L1 i)) ∧ Aside0 (w.grownBy w' (some g)))
        case atStart => exact ⟨0, rfl, ⟨⟨Nat.zero_le _, by omega⟩⟩, HB5, ⟨by have h := HR5'.out; rw [show midL (reP pid) L1 0 = L1 by simp [midL]]; exact h⟩, HG5⟩
        case round =>
          clear HB5 HR5' HG5
          obtain ⟨i, rfl, HN, HBr, HRr, HGr⟩ := hrel
          have hi0 : (0 : Int) ≤ (i : Int) := by omega
          have y1 : wr.cell? ⟨g, 1, none⟩ = some (.slice (some ⟨gb, 0, none⟩) L.length cb) := (blk_cell HBr.out 1).trans rfl
          by_cases hi : i < L.length
          · have hii : (i : Int) < (L.length : Int) := by omega
            obtain ⟨k', rfl⟩ : ∃ k', gk = k' + 1 := ⟨gk - 1, by have := HN.out.2; omega⟩
            have hw1 : IntKind.i64.wrap ((i : Int) + 1) = ((i + 1 : Nat) : Int) := (IntWalk.i64_left _).trans ((IntWalk.wrap64_in _ (by omega)).trans (by omega))
            have hi1 : i < L1.length := by rw [HL1.out.2.2]; exact hi
            obtain ⟨_, q1, _, _, qf⟩ := R_el36 HRr.out hi
            have qf1 := qf 1
            rw [midL_at _ hi1] at q1
            obtain ⟨x, hx⟩ : ∃ x, x = (L1.getD i z36).f1 := ⟨_, rfl⟩
            rw [← hx] at q1
            by_cases e : x = pid
            · have hs := R_set36 HRr.out hi 1 (.int .i64 1) (reP pid (L1.getD i z36)) (by decide) (by rw [midL_at _ hi1]; unfold reP; rw [if_pos (by rw [← hx]; exact e)]; rfl)
              rw [midL_set _ hi1] at hs
              have HS := Aside0.mk hs
              have hfar := blk_far HBr.out (p := ⟨gb, i * 4 + 1, none⟩) HGG.out (.int .i64 1)
              have HF2 := Aside0.mk hfar
              clear hs qf hx hfar hi1
              subst e
              go_wp2
              go_roundg k'
              case measure => omega
              case rel => exact ⟨i + 1, by first | rfl | simp, ⟨by have := HN.out; omega⟩, HF2, HS, ⟨HGr.out.andThen (gb_set wr gb (i * 4 + 1) (.int .i64 1)) (fun q e => by cases e; exact .inl HGB.out)⟩⟩
            · have hs := midL_same (reP pid) hi1 (by unfold reP; rw [if_neg (by rw [← hx]; exact e)])
              have HS := Aside0.mk hs
              have heb : (x == pid) = false := beq_eq_false_iff_ne.2 e
              clear hs qf hx hi1 e
              go_wp2
              go_roundg k'
              case measure => omega
              case rel => exact ⟨i + 1, by first | rfl | simp, ⟨by have := HN.out; omega⟩, HBr, ⟨by rw [HS.out]; exact HRr.out⟩, HGr⟩
          · have hii : ¬ (i : Int) < (L.length : Int) := by omega
            have hil : i = L1.length := by have := HN.out; have := HL1.out.2.2; omega
            have hR := HRr.out
            rw [hil, midL_all, HLL.out] at hR
            have HRf := Aside0.mk hR
            clear hR hil
            go_wp2_with (go_at_call 30; refine (rserve_calls cE most rank HIE.out h1 h8 wr w g m (.slice (some ⟨gb, 0, none⟩) L.length cb) HBr.out HRf.out HGW.out HM.out HGr.out).mono ?_; rintro e W9 ⟨v9, rfl, hR9, hT9, hG9⟩; have HR9 := Aside0.mk hR9; have HT9 := Aside0.mk hT9; have HG9 := Aside0.mk hG9; clear hR9 hT9 hG9)
            go_ret2
            exact ⟨_, rfl, HR9.out, HT9.out, HG9.out⟩
end Go.Proofs.Ytbaddcojhggamaa.PAll
