/-
  PickOrder: the plain part.
-/
import Derived.Test.YtiaegandgjgjhaaDoorAwk
import Derived.Test.YtiaegandgjgjhaaDoorAllF15
namespace Go.Proofs.YtiaegandgjgjhaaDoor.PAll
open Go.RowKit Go.Proofs.YtiaegandgjgjhaaDoorM Go.Proofs.YtiaegandgjgjhaaDoorW.PrintWords Go.Proofs.YtiaegandgjgjhaaDoorW.PrintLast Go.Proofs.YtiaegandgjgjhaaDoorW.PrintMore
set_option linter.unusedVariables false
set_option linter.unusedSimpArgs false
theorem put_or (f : Nat → Bool) (x : Int) : (putF f x).2 = fun m => f m || (decide (x = (m : Int)) && decide (m < 1024)) := by
  funext m
  unfold putF
  by_cases h : x < 0 ∨ 1024 ≤ x
  · rw [if_pos h]
    have : (decide (x = (m : Int)) && decide (m < 1024)) = false := by
      by_cases e : x = (m : Int)
      · rw [decide_eq_false (show ¬ m < 1024 by omega), Bool.and_false]
      · rw [decide_eq_false e, Bool.false_and]
    simp only [this, Bool.or_false]
  · rw [if_neg h]
    obtain ⟨k, rfl⟩ := Int.eq_ofNat_of_zero_le (show 0 ≤ x by omega)
    rw [Int.toNat_natCast]
    by_cases e : k = m
    · subst e
      have h1 : (decide ((k : Int) = (k : Int)) && decide (k < 1024)) = true := by rw [decide_eq_true rfl, decide_eq_true (show k < 1024 by omega)]; rfl
      rw [h1, Bool.or_true]
      cases hk : f k with
      | true => simp [hk]
      | false => simp [hk, flipF]
    · have h1 : (decide ((k : Int) = (m : Int)) && decide (m < 1024)) = false := by rw [decide_eq_false (by omega), Bool.false_and]
      rw [h1, Bool.or_false]
      cases hk : f k with
      | true => simp
      | false => simp [flipF, show ¬ m = k from fun h => e h.symm]
def putAll (f : Nat → Bool) (l : List Int) : Nat → Bool := l.foldl (fun f x => (putF f x).2) f
theorem putAll_mem : ∀ (l : List Int) (f : Nat → Bool) (m : Nat), putAll f l m = (f m || (decide ((m : Int) ∈ l) && decide (m < 1024)))
  | [], f, m => by simp [putAll]
  | x :: l, f, m => by
    show putAll (putF f x).2 l m = _
    rw [putAll_mem l, put_or]
    by_cases h1 : m < 1024
    · by_cases h2 : x = (m : Int)
      · simp [h1, h2]
      · have h3 : ¬ (m : Int) = x := fun e => h2 e.symm
        simp [h1, h2, h3]
    · simp [h1]
theorem putAll_rev (f : Nat → Bool) (l : List Int) : putAll f l.reverse = putAll f l := by
  funext m
  rw [putAll_mem, putAll_mem]
  simp
theorem putAll_snoc (f : Nat → Bool) (l : List Int) (x : Int) : putAll f (l ++ [x]) = (putF (putAll f l) x).2 := by
  unfold putAll; rw [List.foldl_append]; rfl
theorem take_snoc {l : List Int} {i : Nat} (h : i < l.length) : l.take (i + 1) = l.take i ++ [l.getD i 0] := by
  rw [List.take_add_one, List.getElem?_eq_getElem h, List.getD_eq_getElem?_getD, List.getElem?_eq_getElem h]; rfl
theorem rev_getD {l : List Int} {i : Nat} (h : i < l.length) : l.reverse.getD i 0 = l.getD (l.length - 1 - i) 0 := by
  rw [List.getD_eq_getElem?_getD, List.getElem?_reverse h, List.getD_eq_getElem?_getD]
theorem listN_rise (f : Nat → Bool) (n : Nat) : (listN f n).Pairwise (· < ·) := by
  unfold listN
  rw [List.pairwise_map]
  refine (List.Pairwise.filter f (List.pairwise_lt_range (n := n))).imp ?_
  intro a b h; omega
theorem rise_at {l : List Int} (h : l.Pairwise (· < ·)) {i : Nat} (hi : i + 1 < l.length) : l.getD i 0 < l.getD (i + 1) 0 := by
  rw [List.getD_eq_getElem?_getD, List.getD_eq_getElem?_getD, List.getElem?_eq_getElem (show i < l.length by omega), List.getElem?_eq_getElem hi]
  exact List.pairwise_iff_getElem.1 h i (i + 1) (by omega) hi (by omega)
theorem listN_cnt (f : Nat → Bool) (n : Nat) : (listN f n).length = cntF f n := by
  unfold listN cntF; rw [List.length_map, List.countP_eq_length_filter]
theorem wrap_id {x : Int} (h : -9223372036854775808 ≤ x ∧ x ≤ 9223372036854775807) : wrap64 x = x := by unfold wrap64; omega
theorem same_l0 {l : List Int} (hl : l.length ≤ 2000) : ∀ (d i k : Nat), i + d = l.length → d < k → prioryref08_Same.l0 k l l (i : Int) = some true
  | 0, i, k + 1, h, _ => by unfold prioryref08_Same.l0; rw [if_neg (by omega)]
  | d + 1, i, k + 1, h, hk => by
    unfold prioryref08_Same.l0
    rw [if_pos (by omega), if_pos (by omega), if_pos (by omega)]
    have ih := same_l0 hl d (i + 1) k (by omega) (by omega)
    rw [wrap_id (by omega), show (i : Int) + 1 = ((i + 1 : Nat) : Int) by omega, ih]
    simp
theorem same_refl {l : List Int} (hl : l.length ≤ 2000) {k : Nat} (hk : l.length < k) : prioryref08_Same.f k l l = some true := by
  unfold prioryref08_Same.f
  rw [if_pos rfl]
  exact same_l0 hl l.length 0 k (by omega) hk
/-- What Take tells of the list. -/
theorem take_list (f : Nat → Bool) : (listN f 1024 = [] ∧ takeF f = (0, 4, f)) ∨ ∃ n, n < 1024 ∧ f n = true ∧ takeF f = ((n : Int), 0, flipF f n) ∧ listN f 1024 = (n : Int) :: (listN (flipF f n) 1024) := by
  cases h : nextF f 1024 0 with
  | none =>
    refine .inl ⟨?_, by unfold takeF; rw [h]⟩
    unfold listN
    rw [List.map_eq_nil_iff, List.filter_eq_nil_iff]
    intro m hm e
    exact next_none h (Nat.zero_le _) (by have := List.mem_range.1 hm; omega) e
  | some n =>
    obtain ⟨h1, h2, h3, h4⟩ := next_lt 1024 0 h
    refine .inr ⟨n, by omega, h3, by unfold takeF; rw [h], ?_⟩
    have key : ∀ N, n < N → listN f N = (n : Int) :: listN (flipF f n) N := by
      intro N hN
      induction N with
      | zero => omega
      | succ N ih =>
        by_cases e : n = N
        · subst e
          have e1 : listN f n = [] := by rw [listN_gap n (Nat.zero_le _) h4]; rfl
          have e2 : listN (flipF f n) (n + 1) = [] := by
            rw [listN_gap (n := 0) (n + 1) (Nat.zero_le _) (fun m _ hm => by
              unfold flipF
              by_cases em : m = n
              · rw [if_pos em, em, h3]; rfl
              · rw [if_neg em]; exact h4 m (Nat.zero_le _) (by omega))]; rfl
          rw [listN_succ h3, e1, e2]; rfl
        · have ih := ih (by omega)
          have hf : flipF f n N = f N := by unfold flipF; rw [if_neg (fun h => e h.symm)]
          cases hN2 : f N with
          | true => rw [listN_succ hN2, listN_succ (hf.trans hN2), ih]; rfl
          | false =>
            have g1 : listN f (N + 1) = listN f N := listN_gap (N + 1) (by omega) (fun m a b => by rw [show m = N by omega]; exact hN2)
            have g2 : listN (flipF f n) (N + 1) = listN (flipF f n) N := listN_gap (N + 1) (by omega) (fun m a b => by rw [show m = N by omega, hf]; exact hN2)
            rw [g1, g2, ih]
    exact key 1024 (by omega)
/-- The walk. -/
theorem R_grown_m {α : Type} {d : Kd α} {e base m : Nat} {ok : Nat → Prop} {A B : World} {v : Value} {xs : List α} (h : d.R e A base ok v xs) (hg : A.grownBy B (some m)) (hm : m < base) : d.R e B base ok v xs :=
  Kd.R_mono (Kd.R_move (Kd.R_bound h) (fun k hk => hg.block k hk.2.2.1 (fun e => by cases e; have := Kd.R_base h; have := hk.2.1; omega))) (fun _ hk => hk.1)
set_option maxRecDepth 100000 in
set_option maxHeartbeats 16000000 in
theorem order_calls (A : Option Addr) (q : Nat) (l : List Int) (w : World) (hT : TabD w) (hl : Kd.C (Kd.int .i64) w A l.length l) (hq : l.length ≤ q) : Calls Tryd.prog 4 #[.slice A l.length q] w fun e W' => e = .returned (.bool true) ∧ Below w.heap.size w W' := by
  refine Calls.mono (R := fun e W' => e = .returned (.bool true) ∧ w.grownBy W' none) ?_ (fun e W' h => ⟨h.1, below_of_grown h.2⟩)
  have HT := Aside0.mk hT
  have HL := Aside0.mk hl
  have HQ := Aside0.mk hq
  have HGr := Aside0.mk (World.grownBy.refl w none)
  clear hT hl hq
  by_cases h100 : l.length ≤ 100
  · have e0 : spanF 0 0 = fun _ => false := by funext m; unfold spanF; exact decide_eq_false (by omega)
    have HE0 := Aside0.mk e0
    clear e0
    have h100i : decide (100 < (l.length : Int)) = false := decide_eq_false (by omega)
    go_enter Tryd.func4, Tryd.ntmps4
    go_wp2_with (first
      | (have _ := HG0; go_at_call 8; refine (new_good 0 0 _ (by omega) (by omega)).mono ?_; go_loud (rintro e W1 ⟨gb, hgb, rfl, hs, hg'⟩; rw [HE0.out] at hs); have HS1 := Aside0.mk (And.intro (HS0.out.grown hg' (by simp)) hs); have hne : ga ≠ gb := (by have := HS0.out.lt; omega); have hgb' : w.heap.size ≤ gb := Nat.le_trans HG0.out.size hgb; have HG1 := Aside0.mk (HG0.out.trans hg'); clear hs hg')
      | (go_at_call 8; refine (new_good 0 0 _ (by omega) (by omega)).mono ?_; rintro e W0 ⟨ga, hga, rfl, hs, hg'⟩; rw [HE0.out] at hs; have HS0 := Aside0.mk hs; have HG0 := Aside0.mk hg'; clear hs hg'))
    go_loopg [7] (l.length + 1) (fun kq v7 w' => ∃ i : Nat, v7 = .int .i64 (i : Int) ∧ Aside0 (i ≤ l.length ∧ i + kq = l.length + 1) ∧ Aside0 (SetF w' ga (putAll (fun _ => false) (l.take i)) ∧ SetF w' gb (putAll (fun _ => false) (l.reverse.take i))) ∧ Aside0 (w.grownBy w' none))
    case atStart => exact ⟨0, rfl, ⟨⟨Nat.zero_le _, by omega⟩⟩, HS1, HG1⟩
    case round =>
      clear HS0 HG0 HS1 HG1
      obtain ⟨i, rfl, HN, HS, HG⟩ := hrel
      by_cases hi : i < l.length
      · have hii : (i : Int) < (l.length : Int) := by omega
        have hi0 : (0 : Int) ≤ (i : Int) := by omega
        obtain ⟨k1, rfl⟩ : ∃ k1, gk = k1 + 1 := ⟨gk - 1, by have := HN.out.2; omega⟩
        obtain ⟨ad, eA, y0⟩ := Kd.at_int HL.out (i : Int) hi0 hii
        obtain ⟨jI, hjI⟩ : ∃ jI : Int, jI = (l.length : Int) - 1 - (i : Int) := ⟨_, rfl⟩
        have hj0 : (0 : Int) ≤ jI := by omega
        have hj1 : jI < (l.length : Int) := by omega
        obtain ⟨ad2, eA2, z0⟩ := Kd.at_int HL.out jI hj0 hj1
        rw [eA] at eA2
        cases eA2
        subst eA
        have hw1 : IntKind.i64.wrap ((i : Int) + 1) = ((i + 1 : Nat) : Int) := (IntWalk.i64_left _).trans ((IntWalk.wrap64_in _ (by omega)).trans (by omega))
        have hw2 : IntKind.i64.wrap ((l.length : Int) - 1) = (l.length : Int) - 1 := (IntWalk.i64_left _).trans (IntWalk.wrap64_in _ (by omega))
        have hw3 : IntKind.i64.wrap ((l.length : Int) - 1 - (i : Int)) = jI := (IntWalk.i64_left _).trans ((IntWalk.wrap64_in _ (by omega)).trans hjI.symm)
        have hx1 : rd l (i : Int) = l.getD i 0 := by unfold rd; rw [Int.toNat_natCast]
        have hx2 : rd l jI = l.reverse.getD i 0 := by unfold rd; rw [rev_getD hi, show jI.toNat = l.length - 1 - i by omega]
        obtain ⟨x, hx⟩ : ∃ x, x = l.getD i 0 := ⟨_, rfl⟩
        obtain ⟨y, hy⟩ : ∃ y, y = l.reverse.getD i 0 := ⟨_, rfl⟩
        rw [hx1, ← hx] at y0
        rw [hx2, ← hy] at z0
        have t1 : putAll (fun _ => false) (l.take (i + 1)) = (putF (putAll (fun _ => false) (l.take i)) x).2 := by rw [take_snoc hi, putAll_snoc, hx]
        have t2 : putAll (fun _ => false) (l.reverse.take (i + 1)) = (putF (putAll (fun _ => false) (l.reverse.take i)) y).2 := by rw [take_snoc (by rw [List.length_reverse]; exact hi), putAll_snoc, hy]
        have HZ := Aside0.mk z0
        have HT12 := Aside0.mk (And.intro t1 t2)
        have y1 : wr.cell? (ad.add i) = some (.int .i64 x) := cells_keep y0 (below_of_grown HG.out)
        clear hx1 hx2 hx hy t1 t2 y0 z0 hjI
        go_wp2_with (first
          | (have _ := HP1; go_at_call 13; refine (put_F HP1.out.2 y).mono ?_; rintro e W3 ⟨rfl, hs, hg'⟩; rw [← HT12.out.2] at hs; have HP2 := Aside0.mk (And.intro (HP1.out.1.grown hg' (by simp; exact hne)) hs); have HG3 := Aside0.mk (HG2.out.andThen hg' (fun j e => by cases e; exact .inl hgb')); clear hs hg')
          | (go_at_call 13; refine (put_F HS.out.1 x).mono ?_; rintro e W2 ⟨rfl, hs, hg'⟩; rw [← HT12.out.1] at hs; have HP1 := Aside0.mk (And.intro hs (HS.out.2.grown hg' (by simp; exact fun e => hne e.symm))); have HG2 := Aside0.mk (HG.out.andThen hg' (fun j e => by cases e; exact .inl hga)); have z1 := cells_keep HZ.out (below_of_grown HG2.out); clear hs hg'))
        go_roundg k1
        case measure => omega
        case rel => exact ⟨i + 1, by first | rfl | simp, ⟨by have := HN.out; omega⟩, HP2, HG3⟩
      · have hii : ¬ (i : Int) < (l.length : Int) := by omega
        have hil : i = l.length := by have := HN.out; omega
        obtain ⟨f, hf⟩ : ∃ f, f = putAll (fun _ => false) l := ⟨_, rfl⟩
        have hs1 : SetF wr ga f := by have := HS.out.1; rw [hil, List.take_length, ← hf] at this; exact this
        have hs2 : SetF wr gb f := by have := HS.out.2; rw [hil, ← List.length_reverse, List.take_length, putAll_rev, ← hf] at this; exact this
        have HS2 := Aside0.mk (And.intro hs1 hs2)
        clear hs1 hs2 hf HS
        have hlen := listN_len f 1024
        obtain ⟨L, hL⟩ : ∃ L, L = listN f 1024 := ⟨_, rfl⟩
        have hrise : L.Pairwise (· < ·) := by rw [hL]; exact listN_rise f 1024
        rw [← hL] at hlen
        have HLL := Aside0.mk hL
        have HRI := Aside0.mk hrise
        clear hL hrise
        go_wp2_with (go_at_call 14; refine (all_F HS2.out.1 (HT.out.keep (below_of_grown HG.out))).mono ?_; rintro e W2 ⟨v, rfl, hR, hg'⟩; rw [← HLL.out] at hR; obtain ⟨A8, q8, rfl, hq8, _⟩ := Kd.R_reads hR; have hB8 : ga < wr.heap.size := HS2.out.1.lt; have HR8 := Aside0.mk hR; have HS3 := Aside0.mk (And.intro (HS2.out.1.grown hg' (by simp)) (HS2.out.2.grown hg' (by simp))); have HG2 := Aside0.mk (HG.out.trans hg'); clear hR hg')
        go_loopg [9] 1026 (fun kq v9 w' => ∃ j : Nat, v9 = .int .i64 (j : Int) ∧ Aside0 (1 ≤ j ∧ j ≤ 1025 ∧ j + kq = 1027) ∧ Aside0 (W2.grownBy w' none))
        case atStart => exact ⟨1, rfl, ⟨⟨by omega, by omega, by omega⟩⟩, ⟨World.grownBy.refl _ _⟩⟩
        case round =>
          obtain ⟨j, rfl, HN2, HX⟩ := hrel
          by_cases hj : j < L.length
          · obtain ⟨j, rfl⟩ : ∃ j', j = j' + 1 := ⟨j - 1, by have := HN2.out; omega⟩
            obtain ⟨k2, rfl⟩ : ∃ k2, gk = k2 + 1 := ⟨gk - 1, by have := HN2.out.2; omega⟩
            have hC := (Kd.R_reads' (R_ownG HR8.out HX.out)).2.2
            have p0 : (0 : Int) ≤ ((j + 1 : Nat) : Int) := by omega
            have p1 : ((j + 1 : Nat) : Int) < (L.length : Int) := by omega
            obtain ⟨jk, hjk⟩ : ∃ jk : Int, jk = ((j : Nat) : Int) := ⟨_, rfl⟩
            have p2 : (0 : Int) ≤ jk := by omega
            have p3 : jk < (L.length : Int) := by omega
            obtain ⟨ad, eA, y0⟩ := Kd.at_int hC ((j + 1 : Nat) : Int) p0 p1
            obtain ⟨ad2, eA2, z0⟩ := Kd.at_int hC jk p2 p3
            rw [eA] at eA2
            cases eA2
            subst eA
            have hlt : L.getD j 0 < L.getD (j + 1) 0 := rise_at HRI.out hj
            have e1 : rd L ((j + 1 : Nat) : Int) = L.getD (j + 1) 0 := by unfold rd; rw [Int.toNat_natCast]
            have e2 : rd L jk = L.getD j 0 := by unfold rd; rw [hjk, Int.toNat_natCast]
            obtain ⟨a, ha⟩ : ∃ a, a = L.getD j 0 := ⟨_, rfl⟩
            obtain ⟨b, hb⟩ : ∃ b, b = L.getD (j + 1) 0 := ⟨_, rfl⟩
            rw [e1, ← hb] at y0
            rw [e2, ← ha] at z0
            rw [← ha, ← hb] at hlt
            have hge : decide (b ≤ a) = false := decide_eq_false (by omega)
            have hw1 : IntKind.i64.wrap (((j + 1 : Nat) : Int) + 1) = ((j + 1 + 1 : Nat) : Int) := (IntWalk.i64_left _).trans ((IntWalk.wrap64_in _ (by omega)).trans (by omega))
            have hw2 : IntKind.i64.wrap (((j + 1 : Nat) : Int) - 1) = jk := (IntWalk.i64_left _).trans ((IntWalk.wrap64_in _ (by omega)).trans (by omega))
            clear e1 e2 ha hb hC hjk
            obtain ⟨jj, hjj⟩ : ∃ jj : Int, jj = ((j + 1 : Nat) : Int) := ⟨_, rfl⟩
            rw [← hjj] at y0 p0 p1 hw1 hw2 ⊢
            have HJ := Aside0.mk hjj
            clear hjj
            go_wp2
            go_quiet (fail)
            go_wp2
            go_roundg k2
            case measure => omega
            case rel => exact ⟨j + 1 + 1, by first | rfl | simp, ⟨by have := HN2.out; omega⟩, ⟨HX.out.trans (gb_drawn ⟨⟨_, rfl⟩⟩)⟩⟩
          · have hjj : ¬ (j : Int) < (L.length : Int) := by omega
            have HSAME := Aside0.mk (same_refl (l := L) (by omega) (k := 1100) (by omega))
            have HCNT := Aside0.mk (show cntF f 1024 = L.length by rw [HLL.out, listN_cnt])
            rcases take_list f with ⟨k1, k2⟩ | ⟨n, k0, k1, k2, k3⟩
            · have HTK := Aside0.mk k2
              have hnil : L = [] := by rw [HLL.out]; exact k1
              clear k1 k2
              subst hnil
              go_wp2_with (first
                | (have _ := HG7; go_at_call 9; refine (awake_calls _ (HT.out.keep (below_of_grown HG7.out))).mono ?_; rintro e W9 ⟨rfl, hg9⟩; have HG9 := Aside0.mk (HG7.out.trans hg9); clear hg9)
                | (have _ := HX4; go_at_call 16; refine (take_F (HS3.out.1.grown HX4.out (by simp)) (HT.out.keep (below_of_grown (HG2.out.trans HX4.out)))).mono ?_; rintro e W7 ⟨rfl, hs, hg'⟩; rw [HTK.out] at hs ⊢; have HS7 := Aside0.mk (And.intro hs ((HS3.out.2.grown HX4.out (by simp)).grown hg' (by simp; exact fun e => hne e.symm))); have HG7 := Aside0.mk ((HG2.out.trans HX4.out).andThen hg' (fun j e => by cases e; exact .inl hga)); clear hs hg')
                | (have _ := HX3; go_at_call 11; refine (len_F (HS3.out.1.grown HX3.out (by simp))).mono ?_; rintro e W6 ⟨rfl, hg'⟩; rw [HCNT.out]; have HX4 := Aside0.mk (HX3.out.trans hg'); clear hg')
                | (have _ := HX2; go_at_call 15; refine (prioryref08_Same.calls 1100 A8 q8 ([] : List Int) A80 q80 ([] : List Int) true _ (Kd.R_reads' (R_ownG HR8.out HX2.out)).2.2 hq8 HC80.out hq80 HSAME.out).mono ?_; rintro e W5 ⟨rfl, hd⟩; have HX3 := Aside0.mk (HX2.out.trans (gb_drawn hd)); clear hd)
                | (go_at_call 14; refine (all_F (HS3.out.2.grown HX.out (by simp)) (HT.out.keep (below_of_grown (HG2.out.trans HX.out)))).mono ?_; rintro e W4 ⟨v, rfl, hR, hg'⟩; rw [← HLL.out] at hR; obtain ⟨A80, q80, rfl, hq80, hC80⟩ := Kd.R_reads hR; have HC80 := Aside0.mk hC80; have HX2 := Aside0.mk (HX.out.trans hg'); clear hR hC80 hg'))
              go_ret
              exact ⟨rfl, HG9.out⟩
            · have HTK := Aside0.mk k2
              have HCON := Aside0.mk (show L = (n : Int) :: listN (flipF f n) 1024 ∧ 0 < L.length by rw [HLL.out, k3]; exact ⟨rfl, by simp⟩)
              have hl0 : 0 < L.length := HCON.out.2
              have hlI : decide ((0 : Int) < (L.length : Int)) = true := decide_eq_true (by omega)
              have hl1 : ((L.length : Int) == 0) = false := beq_eq_false_iff_ne.2 (by omega)
              have hl2 : ¬ L = [] := by intro h; rw [h] at hl0; simp at hl0
              have hd : decide (0 ≤ (n : Int) ∧ (n : Int) < 1024) = true := decide_eq_true (by omega)
              have HHA := Aside0.mk (show hasI (flipF f n) (n : Int) = false by unfold hasI; rw [hd, Int.toNat_natCast, flip_at, k1]; rfl)
              have HHB := Aside0.mk (show hasI f (n : Int) = true by unfold hasI; rw [hd, Int.toNat_natCast, k1]; rfl)
              have HB8 := Aside0.mk hB8
              clear k0 k1 k2 k3 hd
              go_wp2_with (first
                | (have _ := HX4; go_at_call 16; refine (take_F (HS3.out.1.grown HX4.out (by simp)) (HT.out.keep (below_of_grown (HG2.out.trans HX4.out)))).mono ?_; rintro e W7 ⟨rfl, hs, hg'⟩; rw [HTK.out] at hs ⊢; have HS7 := Aside0.mk (And.intro hs ((HS3.out.2.grown HX4.out (by simp)).grown hg' (by simp; exact fun e => hne e.symm))); have HG7 := Aside0.mk ((HG2.out.trans HX4.out).andThen hg' (fun j e => by cases e; exact .inl hga)); obtain ⟨ad0, e0, c0⟩ := Kd.at_int (Kd.R_reads' (R_grown_m (R_ownG HR8.out HX4.out) hg' HB8.out)).2.2 0 (by omega) (by have := HCON.out.2; omega); cases e0; have c00 : W7.cell? ad0 = some (.int .i64 (n : Int)) := (by rw [show (rd L 0) = (n : Int) by rw [HCON.out.1]; rfl] at c0; exact c0); clear c0; clear hs hg')
                | (have _ := HX3; go_at_call 11; refine (len_F (HS3.out.1.grown HX3.out (by simp))).mono ?_; rintro e W6 ⟨rfl, hg'⟩; rw [HCNT.out]; have HX4 := Aside0.mk (HX3.out.trans hg'); clear hg')
                | (have _ := HX2; go_at_call 15; refine (prioryref08_Same.calls 1100 A8 q8 L A80 q80 L true _ (Kd.R_reads' (R_ownG HR8.out HX2.out)).2.2 hq8 HC80.out hq80 HSAME.out).mono ?_; rintro e W5 ⟨rfl, hd⟩; have HX3 := Aside0.mk (HX2.out.trans (gb_drawn hd)); clear hd)
                | (go_at_call 14; refine (all_F (HS3.out.2.grown HX.out (by simp)) (HT.out.keep (below_of_grown (HG2.out.trans HX.out)))).mono ?_; rintro e W4 ⟨v, rfl, hR, hg'⟩; rw [← HLL.out] at hR; obtain ⟨A80, q80, rfl, hq80, hC80⟩ := Kd.R_reads hR; have HC80 := Aside0.mk hC80; have HX2 := Aside0.mk (HX.out.trans hg'); clear hR hC80 hg'))
              refine (has_F HS7.out.1 (n : Int)).mono ?_
              rintro e W8 ⟨rfl, hw⟩
              rw [hw, HHA.out]
              clear hw
              dsimp only
              go_wp2_with fail
              refine (has_F HS7.out.2 (n : Int)).mono ?_
              rintro e W8 ⟨rfl, hw⟩
              rw [hw, HHB.out]
              clear hw
              dsimp only
              go_wp2_with fail
              refine (awake_calls _ (HT.out.keep (below_of_grown HG7.out))).mono ?_
              rintro e W9 ⟨rfl, hg9⟩
              have HG9 := Aside0.mk (HG7.out.trans hg9)
              clear hg9
              dsimp only
              go_wp2
              go_ret
              exact ⟨rfl, HG9.out⟩
  · have h101 : 100 < l.length := by omega
    have h101i : decide (100 < (l.length : Int)) = true := decide_eq_true (by omega)
    go_enter Tryd.func4, Tryd.ntmps4
    go_wp2_with (go_at_call 9; refine (awake_calls _ (HT.out.keep (below_of_grown HGr.out))).mono ?_; rintro e W9 ⟨rfl, hg9⟩; have HG9 := Aside0.mk (HGr.out.trans hg9); clear hg9)
    go_ret
    exact ⟨rfl, HG9.out⟩
end Go.Proofs.YtiaegandgjgjhaaDoor.PAll
