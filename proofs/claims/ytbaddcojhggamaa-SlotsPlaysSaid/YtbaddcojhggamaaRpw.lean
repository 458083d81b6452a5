/-
  A call on both tables; SlotsPlays: the walk.
-/
import Derived.Test.YtbaddcojhggamaaRwa
import Derived.Test.YtbaddcojhggamaaAllF15
import Derived.Test.YtbaddcojhggamaaAllF16
import Derived.Test.YtbaddcojhggamaaAllF18
import Derived.Deep.RegionWith
import Derived.Deep.QuietTactic
import Derived.BigQuiet
namespace Go.Proofs.Ytbaddcojhggamaa.PAll
open Go.RowKit Go.Shelf Go.Proofs.YtbaddcojhggamaaM Go.Proofs.YtbaddcojhggamaaW.PrintWords Go.Proofs.YtbaddcojhggamaaW.PrintLast Go.Proofs.YtbaddcojhggamaaW.PrintMore
attribute [local go_sem high] eqA40 eqA36
set_option linter.unusedVariables false
set_option linter.unusedSimpArgs false
theorem sameR_l0 {l : List S40} (hl : l.length ≤ 2000) : ∀ (d i k : Nat), i + d = l.length → d < k → prioryref13_SameReaped.l0 k l l (i : Int) = some true
  | 0, i, k + 1, h, _ => by
    unfold prioryref13_SameReaped.l0
    rw [if_neg (by omega)]
  | d + 1, i, k + 1, h, hk => by
    have ih := sameR_l0 hl d (i + 1) k (by omega) (by omega)
    unfold prioryref13_SameReaped.l0
    rw [if_pos (by omega), if_pos (by omega), if_pos (by omega), if_neg (by simp), wrap_id (by omega), show (i : Int) + 1 = ((i + 1 : Nat) : Int) by omega]
    exact ih
theorem sameR_refl {l : List S40} (hl : l.length ≤ 60) : prioryref13_SameReaped.f 64 l l = some true := by
  unfold prioryref13_SameReaped.f
  rw [if_pos rfl]
  exact sameR_l0 (by omega) l.length 0 64 (by omega) (by omega)
theorem sameP_l0 {l : List S36} (hl : l.length ≤ 2000) : ∀ (d i k : Nat), i + d = l.length → d < k → prioryref13_Same.l0 k l l (i : Int) = some true
  | 0, i, k + 1, h, _ => by
    unfold prioryref13_Same.l0
    rw [if_neg (by omega)]
  | d + 1, i, k + 1, h, hk => by
    have ih := sameP_l0 hl d (i + 1) k (by omega) (by omega)
    unfold prioryref13_Same.l0
    rw [if_pos (by omega), if_pos (by omega), if_pos (by omega), if_neg (by simp), wrap_id (by omega), show (i : Int) + 1 = ((i + 1 : Nat) : Int) by omega]
    exact ih
theorem sameP_refl {l : List S36} (hl : l.length ≤ 60) : prioryref13_Same.f 64 l l = some true := by
  unfold prioryref13_Same.f
  rw [if_pos rfl]
  exact sameP_l0 (by omega) l.length 0 64 (by omega) (by omega)
theorem exitR_len (c : Tab) (most pid code : Int) : (exitR c most pid code).1.length ≤ most.toNat := by
  unfold exitR
  cases c pid with
  | none => simp
  | some p =>
    simp only
    split
    · simp
    · split
      · simp
      · exact runS_len _ _ _
theorem waitR_len (c : Tab) (most pid : Int) : (waitR c most pid).1.length ≤ 1 := by
  unfold waitR
  cases c pid with
  | none => simp
  | some p =>
    simp only
    split
    · simp
    · split
      · simp
      · simp only; cases (serveR _ most _).1 <;> simp
/-- What a call leaves. -/
def Both (w00 W : World) (g0 m g : Nat) (most : Int) (c : Tab) : Prop := (∃ rank, Inv c most rank) ∧ TabW W g0 m most c ∧ RTab W g m most (lstF c most.toNat) ∧ w00.grownBy W none
set_option maxRecDepth 100000 in
set_option maxHeartbeats 8000000 in
theorem play_calls (w00 : World) (c : Tab) (most : Int) (h1 : 1 ≤ most) (h8 : most ≤ 8) (o0 o1 o2 : Int) (w : World) (g0 m g : Nat) (hB : Both w00 w g0 m g most c) (hne0 : g0 ≠ g) (hnem : m ≠ g) (hm : w00.heap.size ≤ m) (hg : w00.heap.size ≤ g) :
    Calls Try.prog 17 #[.pointer (some ⟨g0, 0, none⟩), .pointer (some ⟨g, 0, none⟩), .agg #[.int .i64 o0, .int .i64 o1, .int .u32 o2]] w fun e W' => ∃ c', e = .returned (.bool true) ∧ Both w00 W' g0 m g most c' := by
  obtain ⟨⟨rank, hI⟩, hT, hR, hG⟩ := hB
  have hA := World.grownBy_alloc w (.cells #[.int .i64 o0, .int .i64 o1, .int .u32 o2] 53) none
  have HA := Aside0.mk hA
  have HI := Aside0.mk hI
  have HT := Aside0.mk (hT.grown hA (by simp) (by simp))
  have HR := Aside0.mk (hR.grown hA)
  have HG := Aside0.mk (hG.trans hA)
  have HM := Aside0.mk (show m < (w.alloc (.cells #[.int .i64 o0, .int .i64 o1, .int .u32 o2] 53)).heap.size from by have := hT.lt.2; simp; omega)
  have HS := Aside0.mk hT.lt
  have HGS := Aside0.mk hR.lt
  have pin : ∀ W : World, (w.alloc (.cells #[.int .i64 o0, .int .i64 o1, .int .u32 o2] 53)).grownBy W (some m) → W.cell? ⟨w.heap.size, 1, none⟩ = some (.int .i64 o1) ∧ W.cell? ⟨w.heap.size, 2, none⟩ = some (.int .u32 o2) := fun W hW => by
    have hb := blk_grown (new_at (W := w) (.cells #[.int .i64 o0, .int .i64 o1, .int .u32 o2] 53) rfl) hW (fun e => by have := HS.out.2; cases e; omega)
    exact ⟨(blk_cell hb 1).trans rfl, (blk_cell hb 2).trans rfl⟩
  have HP := Aside0.mk pin
  have HNE := Aside0.mk (And.intro hne0 (And.intro hnem (And.intro hm hg)))
  clear hI hT hR hG hA pin hne0 hnem hm hg
  by_cases hd1 : o0 = 1
  · subst hd1
    obtain ⟨c2, hc2⟩ : ∃ c2, c2 = (addR c most o1).2.2 := ⟨_, rfl⟩
    obtain ⟨n, hn⟩ : ∃ n, n = (addR c most o1).1 := ⟨_, rfl⟩
    obtain ⟨er, her⟩ : ∃ er, er = (addR c most o1).2.1 := ⟨_, rfl⟩
    have HE := Aside0.mk (And.intro hc2 (And.intro hn her))
    clear hc2 hn her
    go_enter Try.func17, Try.ntmps17
    go_wp2_with (first
      | (go_at_call 25; refine (radd_calls c most rank HI.out h1 h8 o1 _ g m HR2.out HM2.out).mono ?_; rintro e W3 ⟨rfl, hR3, hg3⟩; rw [← HE.out.1] at hR3; rw [← HE.out.2.1, ← HE.out.2.2]; have HR3 := Aside0.mk hR3; have HT3 := Aside0.mk (HT2.out.grown hg3 (by simp; exact HNE.out.1) (by simp; exact HNE.out.2.1)); have HG3 := Aside0.mk (HG2.out.andThen hg3 (fun j e => by cases e; exact .inl HNE.out.2.2.2)); clear hR3 hg3)
      | (go_at_call 11; refine (add_calls g0 m most c o1 _ HT.out (by omega)).mono ?_; rintro e W2 ⟨rfl, hT2, hg2⟩; rw [← HE.out.1] at hT2; rw [← HE.out.2.1, ← HE.out.2.2]; have HT2 := Aside0.mk hT2; have HR2 := Aside0.mk (HR.out.grown_m hg2 (fun e => HNE.out.2.1 e.symm)); have HG2 := Aside0.mk (HG.out.andThen hg2 (fun j e => by cases e; exact .inl HNE.out.2.2.1)); have HM2 := Aside0.mk (Nat.lt_of_lt_of_le HM.out hg2.size); have hp2 := (HP.out W2 hg2).1; clear hT2 hg2))
    go_ret
    exact ⟨c2, rfl, by rw [HE.out.1]; exact inv_add HI.out o1, HT3.out, HR3.out, HG3.out⟩
  · have hb1 : (o0 == 1) = false := beq_eq_false_iff_ne.2 hd1
    by_cases hd2 : o0 = 2
    · subst hd2
      obtain ⟨c2, hc2⟩ : ∃ c2, c2 = (exitR c most o1 o2).2.2 := ⟨_, rfl⟩
      obtain ⟨lr, hlr⟩ : ∃ lr, lr = (exitR c most o1 o2).1 := ⟨_, rfl⟩
      obtain ⟨er, her⟩ : ∃ er, er = (exitR c most o1 o2).2.1 := ⟨_, rfl⟩
      have hlen := exitR_len c most o1 o2
      rw [← hlr] at hlen
      have HE := Aside0.mk (And.intro hc2 (And.intro hlr her))
      have HSM := Aside0.mk (sameR_refl (l := lr) (by omega))
      clear hc2 hlr her hlen
      go_enter Try.func17, Try.ntmps17
      go_wp2_with (first
        | (go_at_call 15; refine (prioryref13_SameReaped.calls 64 A2 q2 lr A3 q3 lr true _ HC2.out hq2 HC3.out hq3 HSM.out).mono ?_; rintro e W4 ⟨rfl, hd⟩; have HD4 := Aside0.mk (gb_drawn hd); clear hd)
        | (go_at_call 26; refine (rexit_calls c most rank HI.out h1 h8 o1 o2 _ g m HR2.out HM2.out).mono ?_; rintro e W3 ⟨v3, rfl, hL3, hR3, hg3⟩; rw [← HE.out.2.1] at hL3; rw [← HE.out.1] at hR3; rw [← HE.out.2.2]; obtain ⟨A3, q3, rfl, hq3, hC3⟩ := Kd.R_reads hL3; obtain ⟨_, _, e2, _, hC2⟩ := Kd.R_reads (R_grown_m HL2.out hg3 HGL.out); cases e2; have HC3 := Aside0.mk hC3; have HC2 := Aside0.mk hC2; have HR3 := Aside0.mk hR3; have HT3 := Aside0.mk (HT2.out.grown hg3 (by simp; exact HNE.out.1) (by simp; exact HNE.out.2.1)); have HG3 := Aside0.mk (HG2.out.andThen hg3 (fun j e => by cases e; exact .inl HNE.out.2.2.2)); clear hL3 hR3 hg3 hC2 hC3)
        | (go_at_call 13; refine (exit_calls g0 m most c o1 o2 _ HT.out (by omega)).mono ?_; rintro e W2 ⟨v2, rfl, hL2, hT2, hg2⟩; rw [← HE.out.1] at hT2; rw [← HE.out.2.1] at hL2; rw [← HE.out.2.2]; obtain ⟨A2, q2, rfl, hq2, _⟩ := Kd.R_reads hL2; have HL2 := Aside0.mk hL2; have HT2 := Aside0.mk hT2; have HR2 := Aside0.mk (HR.out.grown_m hg2 (fun e => HNE.out.2.1 e.symm)); have HG2 := Aside0.mk (HG.out.andThen hg2 (fun j e => by cases e; exact .inl HNE.out.2.2.1)); have HM2 := Aside0.mk (Nat.lt_of_lt_of_le HM.out hg2.size); have HGL := Aside0.mk (show g < (w.alloc (.cells #[.int .i64 2, .int .i64 o1, .int .u32 o2] 53)).heap.size by have := HGS.out; simp; omega); have hp2 := (HP.out W2 hg2).1; have hp3 := (HP.out W2 hg2).2; clear hT2 hg2 hL2))
      go_ret
      exact ⟨c2, rfl, ⟨rank, by rw [HE.out.1]; exact (inv_exit HI.out o1 o2).1⟩, HT3.out.grown HD4.out (by simp) (by simp), HR3.out.grown HD4.out, HG3.out.trans HD4.out⟩
    · have hb2 : (o0 == 2) = false := beq_eq_false_iff_ne.2 hd2
      by_cases hd3 : o0 = 3
      · subst hd3
        obtain ⟨c2, hc2⟩ : ∃ c2, c2 = (waitR c most o1).2.2 := ⟨_, rfl⟩
        obtain ⟨lr, hlr⟩ : ∃ lr, lr = (waitR c most o1).1 := ⟨_, rfl⟩
        obtain ⟨er, her⟩ : ∃ er, er = (waitR c most o1).2.1 := ⟨_, rfl⟩
        have hlen := waitR_len c most o1
        rw [← hlr] at hlen
        have HE := Aside0.mk (And.intro hc2 (And.intro hlr her))
        have HSM := Aside0.mk (sameR_refl (l := lr) (by omega))
        clear hc2 hlr her hlen
        go_enter Try.func17, Try.ntmps17
        go_wp2_with (first
          | (go_at_call 15; refine (prioryref13_SameReaped.calls 64 A2 q2 lr A3 q3 lr true _ HC2.out hq2 HC3.out hq3 HSM.out).mono ?_; rintro e W4 ⟨rfl, hd⟩; have HD4 := Aside0.mk (gb_drawn hd); clear hd)
          | (go_at_call 27; refine (rwait_calls c most rank HI.out h1 h8 o1 _ g m HR2.out HM2.out).mono ?_; rintro e W3 ⟨v3, rfl, hL3, hR3, hg3⟩; rw [← HE.out.2.1] at hL3; rw [← HE.out.1] at hR3; rw [← HE.out.2.2]; obtain ⟨A3, q3, rfl, hq3, hC3⟩ := Kd.R_reads hL3; obtain ⟨_, _, e2, _, hC2⟩ := Kd.R_reads (R_grown_m HL2.out hg3 HGL.out); cases e2; have HC3 := Aside0.mk hC3; have HC2 := Aside0.mk hC2; have HR3 := Aside0.mk hR3; have HT3 := Aside0.mk (HT2.out.grown hg3 (by simp; exact HNE.out.1) (by simp; exact HNE.out.2.1)); have HG3 := Aside0.mk (HG2.out.andThen hg3 (fun j e => by cases e; exact .inl HNE.out.2.2.2)); clear hL3 hR3 hg3 hC2 hC3)
          | (go_at_call 12; refine (wait_calls g0 m most c o1 _ HT.out (by omega)).mono ?_; rintro e W2 ⟨v2, rfl, hL2, hT2, hg2⟩; rw [← HE.out.1] at hT2; rw [← HE.out.2.1] at hL2; rw [← HE.out.2.2]; obtain ⟨A2, q2, rfl, hq2, _⟩ := Kd.R_reads hL2; have HL2 := Aside0.mk hL2; have HT2 := Aside0.mk hT2; have HR2 := Aside0.mk (HR.out.grown_m hg2 (fun e => HNE.out.2.1 e.symm)); have HG2 := Aside0.mk (HG.out.andThen hg2 (fun j e => by cases e; exact .inl HNE.out.2.2.1)); have HM2 := Aside0.mk (Nat.lt_of_lt_of_le HM.out hg2.size); have HGL := Aside0.mk (show g < (w.alloc (.cells #[.int .i64 3, .int .i64 o1, .int .u32 o2] 53)).heap.size by have := HGS.out; simp; omega); have hp2 := (HP.out W2 hg2).1; clear hT2 hg2 hL2))
        go_ret
        exact ⟨c2, rfl, ⟨rank, by rw [HE.out.1]; exact (inv_wait HI.out o1).1⟩, HT3.out.grown HD4.out (by simp) (by simp), HR3.out.grown HD4.out, HG3.out.trans HD4.out⟩
      · have hb3 : (o0 == 3) = false := beq_eq_false_iff_ne.2 hd3
        go_enter Try.func17, Try.ntmps17
        go_wp2
        go_ret
        exact ⟨c, rfl, ⟨rank, HI.out⟩, HT.out, HR.out, HG.out⟩
end Go.Proofs.Ytbaddcojhggamaa.PAll
namespace Go.Proofs.Ytbaddcojhggamaa.PAll
open Go.RowKit Go.Shelf Go.Proofs.YtbaddcojhggamaaM Go.Proofs.YtbaddcojhggamaaW.PrintWords Go.Proofs.YtbaddcojhggamaaW.PrintLast Go.Proofs.YtbaddcojhggamaaW.PrintMore
attribute [local go_sem high] eqA40 eqA36
set_option linter.unusedVariables false
set_option linter.unusedSimpArgs false
theorem new_f_bad {most : Int} (h : most < 1 ∨ 8 < most) : prioryref13_New.f most = some (0, ([] : List S36), 2) := by
  unfold prioryref13_New.f
  by_cases h1 : most < 1
  · rw [if_pos h1]
  · rw [if_neg h1, if_pos (by omega)]
theorem new_f_good {most : Int} (h1 : 1 ≤ most) (h8 : most ≤ 8) : prioryref13_New.f most = some (most, [⟨1, 0, 1, 0⟩], 0) := by
  unfold prioryref13_New.f
  rw [if_neg (by omega), if_neg (by omega)]
theorem one_list {most : Int} (h1 : 1 ≤ most) : ([⟨1, 0, 1, 0⟩] : List S36) = lstF oneC most.toNat := by
  refine lst_eq (inv_one h1).1 ⟨by simp [Ris], fun p => ?_⟩
  unfold oneC
  simp only [List.mem_singleton]
  constructor
  · rintro rfl; rfl
  · intro h
    by_cases e : p.f0 = 1
    · rw [if_pos e] at h; exact (Option.some.inj h).symm
    · rw [if_neg e] at h; cases h
set_option maxRecDepth 100000 in
set_option maxHeartbeats 16000000 in
theorem plays_calls (most : Int) (A : Option Addr) (q : Nat) (l : List S40) (w : World) (hl : Kd.C k40 w A l.length l) (hq : l.length ≤ q) : Calls Try.prog 5 #[.int .i64 most, .slice A l.length q] w fun e W' => e = .returned (.bool true) ∧ Below w.heap.size w W' := by
  refine Calls.mono (R := fun e W' => e = .returned (.bool true) ∧ w.grownBy W' none) ?_ (fun e W' h => ⟨h.1, below_of_grown h.2⟩)
  have HL := Aside0.mk hl
  clear hl
  by_cases h200 : 200 < l.length
  · have h200i : decide (200 < (l.length : Int)) = true := decide_eq_true (by omega)
    go_enter Try.func5, Try.ntmps5
    go_wp2_with (go_at_call 9; refine (awake_calls _).mono ?_; rintro e W9 ⟨rfl, hg9⟩; have HG9 := Aside0.mk hg9; clear hg9)
    go_ret
    exact ⟨rfl, HG9.out⟩
  · have h200i : decide (200 < (l.length : Int)) = false := decide_eq_false (by omega)
    have h200n : l.length ≤ 200 := by omega
    by_cases hbad : most < 1 ∨ 8 < most
    · go_enter Try.func5, Try.ntmps5
      go_wp2_with (first
        | (go_at_call 10; refine (new_bad most _ hbad).mono ?_; rintro e W' ⟨rfl, hw⟩; rw [hw]; clear hw)
        | (go_at_call 16; refine (prioryref13_New.calls most 0 [] 2 _ (new_f_bad hbad)).mono ?_; rintro e W1 ⟨v1, rfl, hR, hb⟩; obtain ⟨A1, c1, rfl, _, _⟩ := Kd.R_reads hR; have HG1 := Aside0.mk ((gb_below hb).trans (World.grownBy_alloc W1 (.cells #[.int .i64 0, .slice A1 ([] : List S36).length c1] 47) none)); clear hR hb))
      go_loopg [9] 1 (fun kq v9 w' => v9 = .int .i64 0 ∧ Aside0 (w.grownBy w' none))
      case atStart => exact ⟨rfl, HG1⟩
      case round =>
        obtain ⟨rfl, HGr⟩ := hrel
        by_cases hl0 : 0 < l.length
        · have hl0i : (0 : Int) < (l.length : Int) := by omega
          go_wp2_with (go_at_call 9; refine (awake_calls _).mono ?_; rintro e W9 ⟨rfl, hg9⟩; have HG9 := Aside0.mk (HGr.out.trans hg9); clear hg9)
          go_ret
          exact ⟨rfl, HG9.out⟩
        · have hl0i : ¬ (0 : Int) < (l.length : Int) := by omega
          go_wp2_with (go_at_call 9; refine (awake_calls _).mono ?_; rintro e W9 ⟨rfl, hg9⟩; have HG9 := Aside0.mk (HGr.out.trans hg9); clear hg9)
          go_ret
          exact ⟨rfl, HG9.out⟩
    · obtain ⟨h1, h8⟩ : 1 ≤ most ∧ most ≤ 8 := by omega
      clear hbad
      go_enter Try.func5, Try.ntmps5
      go_wp2_with (first
        | (go_at_call 10; refine (new_good most _ h1 h8).mono ?_; rintro e W0 ⟨g0, m, hg0, hm, rfl, hT0, hgr0⟩; have HT0 := Aside0.mk hT0; have HG0 := Aside0.mk hgr0; clear hT0 hgr0)
        | (have _ := HG0; go_at_call 16; refine (prioryref13_New.calls most most [⟨1, 0, 1, 0⟩] 0 _ (new_f_good h1 h8)).mono ?_; rintro e W1 ⟨v1, rfl, hR, hb⟩; rw [one_list h1] at hR; obtain ⟨A1, c1, rfl, hLE1, hC1⟩ := Kd.R_reads hR; have HR1 := Aside0.mk hR; have HB1 := Aside0.mk (gb_below hb); clear hR hb hC1))
      obtain ⟨Wx, hWx⟩ : ∃ Wx, Wx = W1.alloc (.cells #[.int .i64 most, .slice A1 (lstF oneC most.toNat).length c1] 47) := ⟨_, rfl⟩
      obtain ⟨g, hg⟩ : ∃ g, g = W1.heap.size := ⟨_, rfl⟩
      have hgx : W1.grownBy Wx none := by rw [hWx]; exact World.grownBy_alloc W1 _ none
      have hbx : Wx.heap[g]? = some (.cells #[.int .i64 most, .slice A1 (lstF oneC most.toNat).length c1] 47 (0, 0)) := by rw [hWx]; exact new_at _ hg.symm
      have hTx := (HT0.out.grown HB1.out (by simp) (by simp)).grown hgx (by simp) (by simp)
      have hlt := HT0.out.lt
      have h01 := HB1.out.size
      have hneg0 : g0 ≠ g := by omega
      have hnegm : m ≠ g := by omega
      have hRx : RTab Wx g m most (lstF oneC most.toNat) := ⟨A1, c1, hbx, hLE1, Kd.C_below (Kd.R_reads' HR1.out).2.2 (below_of_grown hgx), fun ad ha _ => by
        have h5 := Kd.R_base HR1.out ad.block (by rw [ha]; simp [Value.ownBlock])
        have h6 := Kd.R_lt HR1.out ad.block (by rw [ha]; simp [Value.ownBlock])
        omega⟩
      have HBo := Aside0.mk (show Both w Wx g0 m g most oneC from ⟨⟨_, inv_one h1⟩, hTx, hRx, (HG0.out.trans HB1.out).trans hgx⟩)
      have HNE := Aside0.mk (And.intro hneg0 (And.intro hnegm (And.intro hm (show w.heap.size ≤ g by have := HG0.out.size; omega))))
      rw [← hWx, ← hg]
      clear hWx hg hgx hbx hTx hlt h01 hneg0 hnegm hRx HB1 HR1 HT0 HG0 hLE1
      go_loopg [9] (l.length + 1) (fun kq v9 w' => ∃ (i : Nat) (c' : Tab), v9 = .int .i64 (i : Int) ∧ Aside0 (i ≤ l.length ∧ i + kq = l.length + 1) ∧ Aside0 (Both w w' g0 m g most c'))
      case atStart => exact ⟨0, oneC, rfl, ⟨⟨Nat.zero_le _, by omega⟩⟩, HBo⟩
      case round =>
        clear HBo
        obtain ⟨i, c', rfl, HN, HBo⟩ := hrel
        by_cases hi : i < l.length
        · have hii : (i : Int) < (l.length : Int) := by omega
          have hi0 : (0 : Int) ≤ (i : Int) := by omega
          obtain ⟨k1, rfl⟩ : ∃ k1, gk = k1 + 1 := ⟨gk - 1, by have := HN.out.2; omega⟩
          obtain ⟨ad, eA, y0, y1, y2⟩ := at_T40 HL.out (i : Int) hi0 hii
          subst eA
          obtain ⟨o, ho⟩ : ∃ o, o = rd_T40 l (i : Int) := ⟨_, rfl⟩
          rw [← ho, Int.toNat_natCast] at y0 y1 y2
          have HY1 := Aside0.mk y1
          replace y0 := cells_keep y0 (below_of_grown HBo.out.2.2.2)
          replace y1 := cells_keep y1 (below_of_grown HBo.out.2.2.2)
          replace y2 := cells_keep y2 (below_of_grown HBo.out.2.2.2)
          have hw1 : IntKind.i64.wrap ((i : Int) + 1) = ((i + 1 : Nat) : Int) := (IntWalk.i64_left _).trans ((IntWalk.wrap64_in _ (by omega)).trans (by omega))
          clear ho
          obtain ⟨o0, o1, o2⟩ := o
          simp only at y0 y1 y2
          go_wp2_with fail
          go_region_with (first
            | (have _ := HS1; go_at_call 18; refine (prioryref13_Same.calls 64 A8 q8 L2 A2 q2 L2 true _ HC8.out hq8 (Kd.C_below HC2.out (below_of_grown HG8.out)) hq2 HSM.out).mono ?_; rintro e W3 ⟨rfl, hd⟩; have HG3 := Aside0.mk (HG8.out.trans (gb_drawn hd)); clear hd)
            | (have _ := HS1; go_at_call 19; refine (all_list g0 m most c2 _ HT2.out (by omega)).mono ?_; rintro e W8 ⟨v8, rfl, hR8, hg8⟩; rw [← HL2.out] at hR8; obtain ⟨A8, q8, rfl, hq8, hC8⟩ := Kd.R_reads hR8; have HC8 := Aside0.mk hC8; have HG8 := Aside0.mk hg8; have x8 := cells_keep HX2.out (below_of_grown hg8); clear hR8 hC8 hg8)
            | (go_at_call 17; refine (play_calls w c' most h1 h8 o0 o1 o2 _ g0 m g ⟨HBo.out.1, HBo.out.2.1.grown (gb_drawn ⟨1, rfl⟩) (by simp) (by simp), HBo.out.2.2.1.grown (gb_drawn ⟨1, rfl⟩), gb_drew HBo.out.2.2.2⟩ HNE.out.1 HNE.out.2.1 HNE.out.2.2.1 HNE.out.2.2.2).mono ?_; rintro e W2 ⟨c2, rfl, ⟨rank2, hI2⟩, hT2, hR2, hG2⟩; obtain ⟨L2, hL2⟩ : ∃ L2, L2 = lstF c2 most.toNat := ⟨_, rfl⟩; rw [← hL2] at hR2; have HRT := Aside0.mk hR2; obtain ⟨A2, q2, hb2, hq2, hC2, hF2⟩ := hR2; have x2 := (blk_cell hb2 1).trans rfl; have HX2 := Aside0.mk x2; have HC2 := Aside0.mk hC2; have HT2 := Aside0.mk hT2; have HI2 := Aside0.mk hI2; have HG2 := Aside0.mk hG2; have HL2 := Aside0.mk hL2; have HSM := Aside0.mk (sameP_refl (l := L2) (by rw [hL2]; exact Nat.le_trans (lstF_len _ _) (by omega))); have HS1 := Aside0.mk trivial; clear hI2 hT2 hG2 hL2 hb2 hC2 hF2))
          all_goals
            have HG3w := Aside0.mk (HG2.out.trans HG3.out)
            have y13 := cells_keep HY1.out (below_of_grown HG3w.out)
            have x3 := cells_keep HX2.out (below_of_grown HG3.out)
            clear y0 y1 y2 x2 x8
            cases hcp : c2 o1 with
            | some p =>
              have hk : getR c2 o1 = (p, true) := by unfold getR; rw [hcp]
              have HK := Aside0.mk hk
              have hp0 := (HI2.out.1.key hcp).1
              obtain ⟨j, hj1, hj2, hj3⟩ := at_pos (c := c2) (L := L2) (by rw [HL2.out]; exact lst_of HI2.out.1) (by rw [HL2.out]; exact Nat.le_trans (lstF_len _ _) (by omega)) hcp hp0
              have hj0 : (0 : Int) ≤ (j : Int) := by omega
              have hjl : (j : Int) < (L2.length : Int) := by omega
              obtain ⟨ad2, eA2, p0, p1, p2, p3⟩ := at_T36 HC2.out (j : Int) hj0 hjl
              cases eA2
              rw [rd_nat, hj3, Int.toNat_natCast] at p0 p1 p2 p3
              have HA := Aside0.mk hj1
              have HPC := Aside0.mk (And.intro p0 (And.intro p1 (And.intro p2 p3)))
              clear hcp hk hp0 hj1 hj2 hj3 p0 p1 p2 p3
              go_wp2_with (go_at_call 14; refine (get_calls g0 m most c2 o1 _ (HT2.out.grown HG3.out (by simp) (by simp))).mono ?_; rintro e W4 ⟨rfl, hg4⟩; rw [HK.out]; simp only [pv]; have HG4 := Aside0.mk hg4; clear hg4)
              obtain ⟨W5, hW5⟩ : ∃ W5, W5 = W4.alloc (.cells #[.int .i64 p.f0, .int .i64 p.f1, .int .i64 p.f2, .int .u32 p.f3] 36) := ⟨_, rfl⟩
              obtain ⟨b5, hb5⟩ : ∃ b5, b5 = W4.heap.size := ⟨_, rfl⟩
              have hbk : W5.heap[b5]? = some (.cells #[.int .i64 p.f0, .int .i64 p.f1, .int .i64 p.f2, .int .u32 p.f3] 36 (0, 0)) := by rw [hW5]; exact new_at _ hb5.symm
              have hG5 : W2.grownBy W5 none := by rw [hW5]; exact (HG3.out.trans HG4.out).trans (World.grownBy_alloc W4 _ none)
              have HG5 := Aside0.mk (And.intro hG5 (HG2.out.trans hG5))
              rw [← hW5, ← hb5]
              have y15 := cells_keep HY1.out (below_of_grown HG5.out.2)
              have x5 := cells_keep HX2.out (below_of_grown HG5.out.1)
              have z05 : W5.cell? ⟨b5, 0, none⟩ = some (.int .i64 p.f0) := (blk_cell hbk 0).trans rfl
              have z15 : W5.cell? ⟨b5, 1, none⟩ = some (.int .i64 p.f1) := (blk_cell hbk 1).trans rfl
              have z25 : W5.cell? ⟨b5, 2, none⟩ = some (.int .i64 p.f2) := (blk_cell hbk 2).trans rfl
              have z35 : W5.cell? ⟨b5, 3, none⟩ = some (.int .u32 p.f3) := (blk_cell hbk 3).trans rfl
              have p05 := cells_keep HPC.out.1 (below_of_grown HG5.out.1)
              have p15 := cells_keep HPC.out.2.1 (below_of_grown HG5.out.1)
              have p25 := cells_keep HPC.out.2.2.1 (below_of_grown HG5.out.1)
              have p35 := cells_keep HPC.out.2.2.2 (below_of_grown HG5.out.1)
              have HQ20 := Aside0.mk (show ∀ n, Calls Try.prog 20 #[.slice (some ad2) L2.length q2, .int .i64 o1] (W5.drewN n) (fun e w2 => e = .returned (.int .i64 (j : Int)) ∧ ∃ m, w2 = W5.drewN m) from fun n => Calls.quiet_of ((prioryref13_At.calls 64 (some ad2) q2 L2 o1 (j : Int) _ (Kd.C_below HC2.out (below_of_grown (hG5.trans (gb_drawn ⟨n, rfl⟩)))) hq2 HA.out).mono (fun e W h => ⟨h.1, h.2.out⟩)))
              clear hW5 hb5 hbk hG5 y13 x3
              go_quiet (first | (go_at_call 20; exact HQ20.out _))
              go_wp2_with fail
              go_quiet (fail)
              go_wp2
              go_roundg k1
              case measure => omega
              case rel => exact ⟨i + 1, c2, by first | rfl | simp, ⟨by have := HN.out; omega⟩, ⟨⟨rank2, HI2.out⟩, HT2.out.grown (HG5.out.1.trans (gb_drawn ⟨_, rfl⟩)) (by simp) (by simp), by have h := HRT.out; rw [HL2.out] at h; exact h.grown (HG5.out.1.trans (gb_drawn ⟨_, rfl⟩)), HG5.out.2.trans (gb_drawn ⟨_, rfl⟩)⟩⟩
            | none =>
              have hk : getR c2 o1 = (⟨0, 0, 0, 0⟩, false) := by unfold getR; rw [hcp]
              have HK := Aside0.mk hk
              have HA := Aside0.mk (at_none (c := c2) (L := L2) (by rw [HL2.out]; exact lst_of HI2.out.1) (by rw [HL2.out]; exact Nat.le_trans (lstF_len _ _) (by omega)) hcp)
              clear hcp hk
              go_wp2_with (go_at_call 14; refine (get_calls g0 m most c2 o1 _ (HT2.out.grown HG3.out (by simp) (by simp))).mono ?_; rintro e W4 ⟨rfl, hg4⟩; rw [HK.out]; simp only [pv]; have HG4 := Aside0.mk hg4; clear hg4)
              obtain ⟨W5, hW5⟩ : ∃ W5, W5 = W4.alloc (.cells #[.int .i64 0, .int .i64 0, .int .i64 0, .int .u32 0] 36) := ⟨_, rfl⟩
              obtain ⟨b5, hb5⟩ : ∃ b5, b5 = W4.heap.size := ⟨_, rfl⟩
              have hbk : W5.heap[b5]? = some (.cells #[.int .i64 0, .int .i64 0, .int .i64 0, .int .u32 0] 36 (0, 0)) := by rw [hW5]; exact new_at _ hb5.symm
              have hG5 : W2.grownBy W5 none := by rw [hW5]; exact (HG3.out.trans HG4.out).trans (World.grownBy_alloc W4 _ none)
              have HG5 := Aside0.mk (And.intro hG5 (HG2.out.trans hG5))
              rw [← hW5, ← hb5]
              have y15 := cells_keep HY1.out (below_of_grown HG5.out.2)
              have x5 := cells_keep HX2.out (below_of_grown HG5.out.1)
              have z05 : W5.cell? ⟨b5, 0, none⟩ = some (.int .i64 0) := (blk_cell hbk 0).trans rfl
              have z15 : W5.cell? ⟨b5, 1, none⟩ = some (.int .i64 0) := (blk_cell hbk 1).trans rfl
              have z25 : W5.cell? ⟨b5, 2, none⟩ = some (.int .i64 0) := (blk_cell hbk 2).trans rfl
              have z35 : W5.cell? ⟨b5, 3, none⟩ = some (.int .u32 0) := (blk_cell hbk 3).trans rfl
              have HQ20 := Aside0.mk (show ∀ n, Calls Try.prog 20 #[.slice A2 L2.length q2, .int .i64 o1] (W5.drewN n) (fun e w2 => e = .returned (.int .i64 (-1)) ∧ ∃ m, w2 = W5.drewN m) from fun n => Calls.quiet_of ((prioryref13_At.calls 64 A2 q2 L2 o1 (-1) _ (Kd.C_below HC2.out (below_of_grown (hG5.trans (gb_drawn ⟨n, rfl⟩)))) hq2 HA.out).mono (fun e W h => ⟨h.1, h.2.out⟩)))
              clear hW5 hb5 hbk hG5 y13 x3
              go_quiet (first | (go_at_call 20; exact HQ20.out _))
              go_wp2_with fail
              go_quiet (fail)
              go_wp2
              go_roundg k1
              case measure => omega
              case rel => exact ⟨i + 1, c2, by first | rfl | simp, ⟨by have := HN.out; omega⟩, ⟨⟨rank2, HI2.out⟩, HT2.out.grown (HG5.out.1.trans (gb_drawn ⟨_, rfl⟩)) (by simp) (by simp), by have h := HRT.out; rw [HL2.out] at h; exact h.grown (HG5.out.1.trans (gb_drawn ⟨_, rfl⟩)), HG5.out.2.trans (gb_drawn ⟨_, rfl⟩)⟩⟩
        · have hii : ¬ (i : Int) < (l.length : Int) := by omega
          go_wp2_with (go_at_call 9; refine (awake_calls _).mono ?_; rintro e W9 ⟨rfl, hg9⟩; have HG9 := Aside0.mk (HBo.out.2.2.2.trans hg9); clear hg9)
          go_ret
          exact ⟨rfl, HG9.out⟩
end Go.Proofs.Ytbaddcojhggamaa.PAll
