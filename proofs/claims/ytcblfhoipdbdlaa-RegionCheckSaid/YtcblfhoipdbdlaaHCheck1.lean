/-
  Walks and plain laws, joined of 3 texts.
-/
import Derived.Test.YtcblfhoipdbdlaaG1
import Derived.Test.YtcblfhoipdbdlaaG2
import Derived.Test.YtcblfhoipdbdlaaG5
import Derived.Test.YtcblfhoipdbdlaaG6
namespace Go.Proofs.Ytcblfhoipdbdlaa.PAll
open Go.RowKit Go.Proofs.YtcblfhoipdbdlaaW.PrintWords Go.Proofs.YtcblfhoipdbdlaaW.PrintLast Go.Proofs.YtcblfhoipdbdlaaW.PrintMore
attribute [local go_sem] max2_int min2_int max_two min_two max_three min_three max_four min_four   -- for this text's walks alone
set_option linter.unusedVariables false
set_option linter.unusedSimpArgs false
/-! ### prioryref14_Pages: function 25 -/
def prioryref14_Pages.l0 : Nat → List (S24) → Int → Int → Option (Int)
  | 0, _, _, _ => none
  | k + 1, x0, x3, x4 => if x4 < (x0.length : Int) then ((prioryref14_Check.f k x0).bind fun t380 => (if t380 = 0 then (if 0 ≤ x4 then (prioryref14_Pages.l0 k x0 (wrap64 (x3 + ((rd_T24 x0 x4).f1))) (wrap64 (x4 + 1))) else (none)) else (some x3))) else (some x3)
def prioryref14_Pages.f (k : Nat) (l0 : List (S24)) : Option (Int) := prioryref14_Pages.l0 k l0 0 0
theorem prioryref14_Pages.mono_l : ∀ k, (∀ y0 y1 y2, LeO (prioryref14_Pages.l0 k y0 y1 y2) (prioryref14_Pages.l0 (k + 1) y0 y1 y2))
  | 0 => fun _ _ _ r h => by simp [prioryref14_Pages.l0] at h
  | k + 1 => by
    have ih0 := prioryref14_Pages.mono_l k
    · intro y0 y1 y2
      unfold prioryref14_Pages.l0
      repeat' first
      | (with_reducible exact ih0 _ _ _)
      | (with_reducible exact prioryref14_Check.mono _ _)
      | (with_reducible exact LeO.refl _)
      | (with_reducible exact LeO.none _)
      | (with_reducible refine LeO.ite ?_ ?_)
      | (with_reducible refine LeO.bind ?_ (fun _ => ?_))
      | exact ih0 _ _ _
      | exact prioryref14_Check.mono _ _
      | exact LeO.none _
      | refine LeO.ite ?_ ?_
      | refine LeO.bind ?_ (fun _ => ?_)
theorem prioryref14_Pages.mono : ∀ a0 k, LeO (prioryref14_Pages.f k a0) (prioryref14_Pages.f (k + 1) a0) := by
  intro a0 k
  have ih0 := prioryref14_Pages.mono_l k
  unfold prioryref14_Pages.f
  repeat' first
      | (with_reducible exact ih0 _ _ _)
      | (with_reducible exact prioryref14_Check.mono _ _)
      | (with_reducible exact LeO.refl _)
      | (with_reducible exact LeO.none _)
      | (with_reducible refine LeO.ite ?_ ?_)
      | (with_reducible refine LeO.bind ?_ (fun _ => ?_))
      | exact ih0 _ _ _
      | exact prioryref14_Check.mono _ _
      | exact LeO.none _
      | refine LeO.ite ?_ ?_
      | refine LeO.bind ?_ (fun _ => ?_)
set_option maxHeartbeats 8000000 in
set_option maxRecDepth 100000 in
theorem prioryref14_Pages.calls (k : Nat) (A0 : Option Addr) (c0 : Nat) (l0 : List (S24)) (r : Int) (w : World) (hr0 : Kd.C k24 w A0 l0.length l0) (hc0 : l0.length ≤ c0) (h : prioryref14_Pages.f k l0 = some r) :
    Calls Try.prog 25 #[.slice A0 l0.length c0] w fun e w' => e = .returned (.int .i64 r) ∧ Drawn0 w w' := by
  have HR0 := Aside0.mk hr0
  have HC0 := Aside0.mk hc0
  clear hr0 hc0
  have H : (prioryref14_Pages.l0 k l0 0 0) = some r := h
  clear h
  have H' := Aside0.mk H
  clear H
  go_enter Try.func25, Try.ntmps25
  go_wp2
  go_loopg [3, 4] k (fun kq v3 v4 w' => ∃ (x3_1 : Int) (x4_1 : Int), v3 = .int .i64 x3_1 ∧ v4 = .int .i64 x4_1 ∧ Aside0 (prioryref14_Pages.l0 kq l0 x3_1 x4_1 = some r) ∧ Aside0 (kq ≤ k) ∧ Drawn0 w w')
  case atStart => exact ⟨(0), (0), (by first | rfl | (simp; done) | (simp [*]; done)), (by first | rfl | (simp; done) | (simp [*]; done)), H', ⟨Nat.le_refl _⟩, by repeat (first | exact Drawn0.refl _ | apply Drawn0.step)⟩
  case round =>
    clear H'
    obtain ⟨x3_1, x4_1, rfl, rfl, HA, HK1, ⟨m1, rfl⟩⟩ := hrel
    cases gk with
    | zero => exact absurd HA.out (by simp [prioryref14_Pages.l0])
    | succ k1 =>
      have H := HA.out
      clear HA
      simp only [prioryref14_Pages.l0] at H
      by_cases c2 : x4_1 < (l0.length : Int)
      · rw [if_pos c2] at H
        have c2b0 : decide (x4_1 < (l0.length : Int)) = true := decide_eq_true c2
        clear c2
        replace H := Option.bind_eq_some_iff.mp H
        obtain ⟨t380, A30, H⟩ := H
        replace H : (if t380 = 0 then (if 0 ≤ x4_1 then (prioryref14_Pages.l0 k1 l0 (wrap64 (x3_1 + ((rd_T24 l0 x4_1).f1))) (wrap64 (x4_1 + 1))) else (none)) else (some x3_1)) = some r := H
        have A3 := Aside0.mk A30
        clear A30
        by_cases c4 : t380 = 0
        · rw [if_pos c4] at H
          have c4b0 : (t380 == 0) = true := beq_iff_eq.mpr c4
          have c4b1 : (t380 != 0) = false := bne_eq_false_iff_eq.mpr c4
          clear c4
          by_cases c5 : 0 ≤ x4_1
          · rw [if_pos c5] at H
            have c5b0 : decide (0 ≤ x4_1) = true := decide_eq_true c5
            clear c5
            have H' := Aside0.mk H
            clear H
            go_wp2_with (first | (go_at_call 21; (with_reducible refine (prioryref14_Check.calls k1 _ _ l0 t380 _ ?side1 ?side2 A3.out).mono ?_); (case side1 => repeat (first | exact HR0.out | (with_reducible refine Kd.C_alloc ?_ _) | (with_reducible refine Kd.C_drewN ?_ _) | (with_reducible refine Kd.C_drew ?_))); (case side2 => exact HC0.out); rintro e w' ⟨rfl, ⟨nd, rfl⟩⟩; have p381 : 0 ≤ (x4_1 : Int) := of_decide_eq_true (by first | (with_reducible assumption) | assumption); have q381 : x4_1 < (l0.length : Int) := of_decide_eq_true (by first | (with_reducible assumption) | assumption); obtain ⟨ad381, e381, hx381_0, hx381_1, hx381_2⟩ := at_T24 HR0.out x4_1 p381 q381; cases e381; replace p381 := eq_true p381; replace q381 := eq_true q381))
            go_roundg k1
            case measure => have := HK1.out; omega
            case rel => exact ⟨(wrap64 (x3_1 + ((rd_T24 l0 x4_1).f1))), (wrap64 (x4_1 + 1)), (by first | rfl | (simp; done) | (simp [*]; done)), (by first | rfl | (simp; done) | (simp [*]; done)), H', ⟨by have := HK1.out; omega⟩, by repeat (first | exact Drawn0.refl _ | apply Drawn0.step)⟩
          · rw [if_neg c5] at H
            exact absurd H (by simp)
        · rw [if_neg c4] at H
          have c4b0 : (t380 == 0) = false := beq_eq_false_iff_ne.mpr c4
          have c4b1 : (t380 != 0) = true := bne_iff_ne.mpr c4
          obtain rfl := Option.some.inj H
          go_wp2_with (first | (go_at_call 21; (with_reducible refine (prioryref14_Check.calls k1 _ _ l0 t380 _ ?side1 ?side2 A3.out).mono ?_); (case side1 => repeat (first | exact HR0.out | (with_reducible refine Kd.C_alloc ?_ _) | (with_reducible refine Kd.C_drewN ?_ _) | (with_reducible refine Kd.C_drew ?_))); (case side2 => exact HC0.out); rintro e w' ⟨rfl, ⟨nd, rfl⟩⟩))
          go_ret
          exact ⟨by first | rfl | (simp; done) | (simp [*]; done), by repeat (first | exact Drawn0.refl _ | apply Drawn0.step)⟩
      · rw [if_neg c2] at H
        have c2b0 : decide (x4_1 < (l0.length : Int)) = false := decide_eq_false c2
        clear c2
        obtain rfl := Option.some.inj H
        go_wp2
        go_ret
        exact ⟨by first | rfl | (simp; done) | (simp [*]; done), by repeat (first | exact Drawn0.refl _ | apply Drawn0.step)⟩
end Go.Proofs.Ytcblfhoipdbdlaa.PAll

namespace Go.Proofs.Ytcblfhoipdbdlaa.PAll
open Go.RowKit Go.Proofs.YtcblfhoipdbdlaaW.PrintWords Go.Proofs.YtcblfhoipdbdlaaW.PrintLast Go.Proofs.YtcblfhoipdbdlaaW.PrintMore
attribute [local go_sem] max2_int min2_int max_two min_two max_three min_three max_four min_four   -- for this text's walks alone
set_option linter.unusedVariables false
set_option linter.unusedSimpArgs false
/-! ### priorylaw14_RegionCheck: function 6 -/
def priorylaw14_RegionCheck.f (k : Nat) (l0 : List (S24)) (a1 : Int) (a2 : Int) (a3 : Int) : Option (Bool) := if (l0.length : Int) > 100 then ((priorylaw14_awake.f k).bind fun t382 => (some t382)) else ((region_Find.f k l0 a1).bind fun bt383 => ((prioryref14_Find.f k l0 a1).bind fun bt385 => ((region_Check.f k l0).bind fun t387 => ((prioryref14_Check.f k l0).bind fun t388 => (if t387 = t388 then (if (bt383.1 == bt385.1) = true then (if (bt383.2 == bt385.2) = true then ((region_Covers.f k l0 a2 a3).bind fun t389 => ((prioryref14_Covers.f k l0 a2 a3).bind fun t390 => (if (t389 == t390) = true then ((region_Pages.f k l0).bind fun t391 => ((prioryref14_Pages.f k l0).bind fun t392 => (if t391 = t392 then ((priorylaw14_awake.f k).bind fun t393 => (some t393)) else (some false)))) else (some false)))) else (some false)) else (some false)) else (some false))))))
theorem priorylaw14_RegionCheck.mono : ∀ a0 a1 a2 a3 k, LeO (priorylaw14_RegionCheck.f k a0 a1 a2 a3) (priorylaw14_RegionCheck.f (k + 1) a0 a1 a2 a3) := by
  intro a0 a1 a2 a3 k
  unfold priorylaw14_RegionCheck.f
  repeat' first
      | (with_reducible exact priorylaw14_awake.mono _)
      | (with_reducible exact prioryref14_Check.mono _ _)
      | (with_reducible exact prioryref14_Covers.mono _ _ _ _)
      | (with_reducible exact prioryref14_Find.mono _ _ _)
      | (with_reducible exact prioryref14_Pages.mono _ _)
      | (with_reducible exact region_Check.mono _ _)
      | (with_reducible exact region_Covers.mono _ _ _ _)
      | (with_reducible exact region_Find.mono _ _ _)
      | (with_reducible exact region_Pages.mono _ _)
      | (with_reducible exact LeO.refl _)
      | (with_reducible exact LeO.none _)
      | (with_reducible refine LeO.ite ?_ ?_)
      | (with_reducible refine LeO.bind ?_ (fun _ => ?_))
      | exact priorylaw14_awake.mono _
      | exact prioryref14_Check.mono _ _
      | exact prioryref14_Covers.mono _ _ _ _
      | exact prioryref14_Find.mono _ _ _
      | exact prioryref14_Pages.mono _ _
      | exact region_Check.mono _ _
      | exact region_Covers.mono _ _ _ _
      | exact region_Find.mono _ _ _
      | exact region_Pages.mono _ _
      | exact LeO.none _
      | refine LeO.ite ?_ ?_
      | refine LeO.bind ?_ (fun _ => ?_)
set_option maxHeartbeats 8000000 in
set_option maxRecDepth 100000 in
theorem priorylaw14_RegionCheck.calls (k : Nat) (A0 : Option Addr) (c0 : Nat) (l0 : List (S24)) (a1 : Int) (a2 : Int) (a3 : Int) (r : Bool) (w : World) (hr0 : Kd.C k24 w A0 l0.length l0) (hc0 : l0.length ≤ c0) (h : priorylaw14_RegionCheck.f k l0 a1 a2 a3 = some r) :
    Calls Try.prog 6 #[.slice A0 l0.length c0, .int .i64 a1, .int .i64 a2, .int .i64 a3] w fun e w' => e = .returned (.bool r) ∧ Below w.heap.size w w' := by
  have HR0 := Aside0.mk hr0
  have HC0 := Aside0.mk hc0
  clear hr0 hc0
  have HB := Aside0.mk (Below.refl w.heap.size w)
  have H : (if (l0.length : Int) > 100 then ((priorylaw14_awake.f k).bind fun t382 => (some t382)) else ((region_Find.f k l0 a1).bind fun bt383 => ((prioryref14_Find.f k l0 a1).bind fun bt385 => ((region_Check.f k l0).bind fun t387 => ((prioryref14_Check.f k l0).bind fun t388 => (if t387 = t388 then (if (bt383.1 == bt385.1) = true then (if (bt383.2 == bt385.2) = true then ((region_Covers.f k l0 a2 a3).bind fun t389 => ((prioryref14_Covers.f k l0 a2 a3).bind fun t390 => (if (t389 == t390) = true then ((region_Pages.f k l0).bind fun t391 => ((prioryref14_Pages.f k l0).bind fun t392 => (if t391 = t392 then ((priorylaw14_awake.f k).bind fun t393 => (some t393)) else (some false)))) else (some false)))) else (some false)) else (some false)) else (some false))))))) = some r := h
  clear h
  by_cases c5 : (l0.length : Int) > 100
  · rw [if_pos c5] at H
    have c5b0 : decide (100 < (l0.length : Int)) = true := decide_eq_true c5
    have c5b1 : decide (100 < l0.length) = true := decide_eq_true (by omega)
    clear c5
    replace H := Option.bind_eq_some_iff.mp H
    obtain ⟨t382, A60, H⟩ := H
    replace H : (some t382) = some r := H
    have A6 := Aside0.mk A60
    clear A60
    obtain rfl := Option.some.inj H
    go_enter Try.func6, Try.ntmps6
    go_wp2_with (first | ((with_reducible refine gate_callee (f := 10) rfl ?_); refine goesL_ (some 16) rfl rfl Try.func10 (by kernel_rfl) rfl #[] rfl (by (try simp only [List.map_toArray, List.map_cons, List.map_nil]); first | done | rfl | (simp only [List.length_drop, List.length_take]; rfl)) ?_; (with_reducible refine (priorylaw14_awake.calls k  t382 _ A6.out).mono ?_); rintro e w7 ⟨rfl, hb⟩; refine ⟨_, rfl, ?_⟩; have n0_ := Aside0.mk (below_step (by repeat (first | (with_reducible first | exact HB.out | apply below_alloc | apply pw_below_drewN | apply below_drew1) | exact HB.out)) hb); clear HB; have HB := n0_; clear n0_; (try clear hb); (try clear hb2); (try clear hk); (try clear hi)))
    go_ret
    exact ⟨by first | rfl | (simp [errW_none, errW_some] <;> rfl) | (simp [*, errW_none, errW_some] <;> rfl), by repeat (first | (with_reducible first | exact HB.out | apply below_alloc | apply pw_below_drewN | apply below_drew1) | exact HB.out)⟩
  · rw [if_neg c5] at H
    have c5b0 : decide (100 < (l0.length : Int)) = false := decide_eq_false c5
    have c5b1 : decide (100 < l0.length) = false := decide_eq_false (by omega)
    clear c5
    replace H := Option.bind_eq_some_iff.mp H
    obtain ⟨⟨t383, t384⟩, A80, H⟩ := H
    replace H : ((prioryref14_Find.f k l0 a1).bind fun bt385 => ((region_Check.f k l0).bind fun t387 => ((prioryref14_Check.f k l0).bind fun t388 => (if t387 = t388 then (if (t383 == bt385.1) = true then (if (t384 == bt385.2) = true then ((region_Covers.f k l0 a2 a3).bind fun t389 => ((prioryref14_Covers.f k l0 a2 a3).bind fun t390 => (if (t389 == t390) = true then ((region_Pages.f k l0).bind fun t391 => ((prioryref14_Pages.f k l0).bind fun t392 => (if t391 = t392 then ((priorylaw14_awake.f k).bind fun t393 => (some t393)) else (some false)))) else (some false)))) else (some false)) else (some false)) else (some false))))) = some r := H
    have A8 := Aside0.mk A80
    clear A80
    replace H := Option.bind_eq_some_iff.mp H
    obtain ⟨⟨t385, t386⟩, A90, H⟩ := H
    replace H : ((region_Check.f k l0).bind fun t387 => ((prioryref14_Check.f k l0).bind fun t388 => (if t387 = t388 then (if (t383 == t385) = true then (if (t384 == t386) = true then ((region_Covers.f k l0 a2 a3).bind fun t389 => ((prioryref14_Covers.f k l0 a2 a3).bind fun t390 => (if (t389 == t390) = true then ((region_Pages.f k l0).bind fun t391 => ((prioryref14_Pages.f k l0).bind fun t392 => (if t391 = t392 then ((priorylaw14_awake.f k).bind fun t393 => (some t393)) else (some false)))) else (some false)))) else (some false)) else (some false)) else (some false)))) = some r := H
    have A9 := Aside0.mk A90
    clear A90
    replace H := Option.bind_eq_some_iff.mp H
    obtain ⟨t387, A100, H⟩ := H
    replace H : ((prioryref14_Check.f k l0).bind fun t388 => (if t387 = t388 then (if (t383 == t385) = true then (if (t384 == t386) = true then ((region_Covers.f k l0 a2 a3).bind fun t389 => ((prioryref14_Covers.f k l0 a2 a3).bind fun t390 => (if (t389 == t390) = true then ((region_Pages.f k l0).bind fun t391 => ((prioryref14_Pages.f k l0).bind fun t392 => (if t391 = t392 then ((priorylaw14_awake.f k).bind fun t393 => (some t393)) else (some false)))) else (some false)))) else (some false)) else (some false)) else (some false))) = some r := H
    have A10 := Aside0.mk A100
    clear A100
    replace H := Option.bind_eq_some_iff.mp H
    obtain ⟨t388, A110, H⟩ := H
    replace H : (if t387 = t388 then (if (t383 == t385) = true then (if (t384 == t386) = true then ((region_Covers.f k l0 a2 a3).bind fun t389 => ((prioryref14_Covers.f k l0 a2 a3).bind fun t390 => (if (t389 == t390) = true then ((region_Pages.f k l0).bind fun t391 => ((prioryref14_Pages.f k l0).bind fun t392 => (if t391 = t392 then ((priorylaw14_awake.f k).bind fun t393 => (some t393)) else (some false)))) else (some false)))) else (some false)) else (some false)) else (some false)) = some r := H
    have A11 := Aside0.mk A110
    clear A110
    by_cases c12 : t387 = t388
    · rw [if_pos c12] at H
      have c12b0 : (t387 == t388) = true := beq_iff_eq.mpr c12
      have c12b1 : (t387 != t388) = false := bne_eq_false_iff_eq.mpr c12
      clear c12
      by_cases c13 : (t383 == t385) = true
      · rw [if_pos c13] at H
        have c13b0 : (t383 == t385) = true := c13
        (try (have c13b1 : decide (t383 = t385) = true := by simpa using c13))
        (try (have c13b2 : (t383 == t385) = true := by simpa using c13))
        clear c13
        by_cases c14 : (t384 == t386) = true
        · rw [if_pos c14] at H
          have c14b0 : (t384 == t386) = true := c14
          (try (have c14b1 : decide (t384 = t386) = true := by simpa using c14))
          (try (have c14b2 : (t384 == t386) = true := by simpa using c14))
          clear c14
          replace H := Option.bind_eq_some_iff.mp H
          obtain ⟨t389, A150, H⟩ := H
          replace H : ((prioryref14_Covers.f k l0 a2 a3).bind fun t390 => (if (t389 == t390) = true then ((region_Pages.f k l0).bind fun t391 => ((prioryref14_Pages.f k l0).bind fun t392 => (if t391 = t392 then ((priorylaw14_awake.f k).bind fun t393 => (some t393)) else (some false)))) else (some false))) = some r := H
          have A15 := Aside0.mk A150
          clear A150
          replace H := Option.bind_eq_some_iff.mp H
          obtain ⟨t390, A160, H⟩ := H
          replace H : (if (t389 == t390) = true then ((region_Pages.f k l0).bind fun t391 => ((prioryref14_Pages.f k l0).bind fun t392 => (if t391 = t392 then ((priorylaw14_awake.f k).bind fun t393 => (some t393)) else (some false)))) else (some false)) = some r := H
          have A16 := Aside0.mk A160
          clear A160
          by_cases c17 : (t389 == t390) = true
          · rw [if_pos c17] at H
            have c17b0 : (t389 == t390) = true := c17
            (try (have c17b1 : decide (t389 = t390) = true := by simpa using c17))
            (try (have c17b2 : (t389 == t390) = true := by simpa using c17))
            clear c17
            replace H := Option.bind_eq_some_iff.mp H
            obtain ⟨t391, A180, H⟩ := H
            replace H : ((prioryref14_Pages.f k l0).bind fun t392 => (if t391 = t392 then ((priorylaw14_awake.f k).bind fun t393 => (some t393)) else (some false))) = some r := H
            have A18 := Aside0.mk A180
            clear A180
            replace H := Option.bind_eq_some_iff.mp H
            obtain ⟨t392, A190, H⟩ := H
            replace H : (if t391 = t392 then ((priorylaw14_awake.f k).bind fun t393 => (some t393)) else (some false)) = some r := H
            have A19 := Aside0.mk A190
            clear A190
            by_cases c20 : t391 = t392
            · rw [if_pos c20] at H
              have c20b0 : (t391 == t392) = true := beq_iff_eq.mpr c20
              have c20b1 : (t391 != t392) = false := bne_eq_false_iff_eq.mpr c20
              clear c20
              replace H := Option.bind_eq_some_iff.mp H
              obtain ⟨t393, A210, H⟩ := H
              replace H : (some t393) = some r := H
              have A21 := Aside0.mk A210
              clear A210
              obtain rfl := Option.some.inj H
              go_enter Try.func6, Try.ntmps6
              go_wp2_with (first | ((with_reducible refine gate_callee (f := 18) rfl ?_); refine goesL_ (some 20) rfl rfl Try.func18 (by kernel_rfl) rfl #[.slice A0 l0.length c0, .int .i64 a1] rfl (by (try simp only [List.map_toArray, List.map_cons, List.map_nil]); first | done | rfl | (simp only [List.length_drop, List.length_take]; rfl)) ?_; (with_reducible refine (region_Find.calls k _ _ l0 a1 t383 t384 _ ?side1 ?side2 A8.out).mono ?_); (case side1 => repeat (first | exact HR0.out | (with_reducible refine Kd.C_alloc ?_ _) | (with_reducible refine Kd.C_drewN ?_ _) | (with_reducible refine Kd.C_drew ?_))); (case side2 => exact HC0.out); rintro e w22 ⟨rfl, hb⟩; refine ⟨_, rfl, ?_⟩; have n0_ := Aside0.mk (below_step (by repeat (first | (with_reducible first | exact HB.out | apply below_alloc | apply pw_below_drewN | apply below_drew1) | exact HB.out)) hb); clear HB; have HB := n0_; clear n0_; (try clear hb); (try clear hb2); (try clear hk); (try clear hi)) | ((with_reducible refine gate_callee (f := 19) rfl ?_); refine goesL_ (some 26) rfl rfl Try.func19 (by kernel_rfl) rfl #[.slice A0 l0.length c0, .int .i64 a1] rfl (by (try simp only [List.map_toArray, List.map_cons, List.map_nil]); first | done | rfl | (simp only [List.length_drop, List.length_take]; rfl)) ?_; (with_reducible refine (prioryref14_Find.calls k _ _ l0 a1 t385 t386 _ ?side1 ?side2 A9.out).mono ?_); (case side1 => repeat (first | exact (Kd.C_below HR0.out HB.out) | (with_reducible refine Kd.C_alloc ?_ _) | (with_reducible refine Kd.C_drewN ?_ _) | (with_reducible refine Kd.C_drew ?_))); (case side2 => exact HC0.out); rintro e w' ⟨rfl, ⟨nd, rfl⟩⟩; refine ⟨_, rfl, ?_⟩) | ((with_reducible refine gate_callee (f := 20) rfl ?_); refine goesL_ (some 30) rfl rfl Try.func20 (by kernel_rfl) rfl #[.slice A0 l0.length c0] rfl (by (try simp only [List.map_toArray, List.map_cons, List.map_nil]); first | done | rfl | (simp only [List.length_drop, List.length_take]; rfl)) ?_; (with_reducible refine (region_Check.calls k _ _ l0 t387 _ ?side1 ?side2 A10.out).mono ?_); (case side1 => repeat (first | exact (Kd.C_below HR0.out (by repeat (first | (with_reducible first | exact HB.out | apply below_alloc | apply pw_below_drewN | apply below_drew1) | exact HB.out))) | (with_reducible refine Kd.C_alloc ?_ _) | (with_reducible refine Kd.C_drewN ?_ _) | (with_reducible refine Kd.C_drew ?_))); (case side2 => exact HC0.out); rintro e w23 ⟨rfl, hb⟩; refine ⟨_, rfl, ?_⟩; have n0_ := Aside0.mk (below_step (by repeat (first | (with_reducible first | exact HB.out | apply below_alloc | apply pw_below_drewN | apply below_drew1) | exact HB.out)) hb); clear HB; have HB := n0_; clear n0_; (try clear hb); (try clear hb2); (try clear hk); (try clear hi)) | ((with_reducible refine gate_callee (f := 21) rfl ?_); refine goesL_ (some 32) rfl rfl Try.func21 (by kernel_rfl) rfl #[.slice A0 l0.length c0] rfl (by (try simp only [List.map_toArray, List.map_cons, List.map_nil]); first | done | rfl | (simp only [List.length_drop, List.length_take]; rfl)) ?_; (with_reducible refine (prioryref14_Check.calls k _ _ l0 t388 _ ?side1 ?side2 A11.out).mono ?_); (case side1 => repeat (first | exact (Kd.C_below HR0.out HB.out) | (with_reducible refine Kd.C_alloc ?_ _) | (with_reducible refine Kd.C_drewN ?_ _) | (with_reducible refine Kd.C_drew ?_))); (case side2 => exact HC0.out); rintro e w' ⟨rfl, ⟨nd, rfl⟩⟩; refine ⟨_, rfl, ?_⟩) | (go_at_call 22; (with_reducible refine (region_Covers.calls k _ _ l0 a2 a3 t389 _ ?side1 ?side2 A15.out).mono ?_); (case side1 => repeat (first | exact (Kd.C_below HR0.out (by repeat (first | (with_reducible first | exact HB.out | apply below_alloc | apply pw_below_drewN | apply below_drew1) | exact HB.out))) | (with_reducible refine Kd.C_alloc ?_ _) | (with_reducible refine Kd.C_drewN ?_ _) | (with_reducible refine Kd.C_drew ?_))); (case side2 => exact HC0.out); rintro e w24 ⟨rfl, hb⟩; have n0_ := Aside0.mk (below_step (by repeat (first | (with_reducible first | exact HB.out | apply below_alloc | apply pw_below_drewN | apply below_drew1) | exact HB.out)) hb); clear HB; have HB := n0_; clear n0_; (try clear hb); (try clear hb2); (try clear hk); (try clear hi)) | (go_at_call 23; (with_reducible refine (prioryref14_Covers.calls k _ _ l0 a2 a3 t390 _ ?side1 ?side2 A16.out).mono ?_); (case side1 => repeat (first | exact (Kd.C_below HR0.out HB.out) | (with_reducible refine Kd.C_alloc ?_ _) | (with_reducible refine Kd.C_drewN ?_ _) | (with_reducible refine Kd.C_drew ?_))); (case side2 => exact HC0.out); rintro e w' ⟨rfl, ⟨nd, rfl⟩⟩) | (go_at_call 24; (with_reducible refine (region_Pages.calls k _ _ l0 t391 _ ?side1 ?side2 A18.out).mono ?_); (case side1 => repeat (first | exact (Kd.C_below HR0.out (by repeat (first | (with_reducible first | exact HB.out | apply below_alloc | apply pw_below_drewN | apply below_drew1) | exact HB.out))) | (with_reducible refine Kd.C_alloc ?_ _) | (with_reducible refine Kd.C_drewN ?_ _) | (with_reducible refine Kd.C_drew ?_))); (case side2 => exact HC0.out); rintro e w25 ⟨rfl, hb⟩; have n0_ := Aside0.mk (below_step (by repeat (first | (with_reducible first | exact HB.out | apply below_alloc | apply pw_below_drewN | apply below_drew1) | exact HB.out)) hb); clear HB; have HB := n0_; clear n0_; (try clear hb); (try clear hb2); (try clear hk); (try clear hi)) | (go_at_call 25; (with_reducible refine (prioryref14_Pages.calls k _ _ l0 t392 _ ?side1 ?side2 A19.out).mono ?_); (case side1 => repeat (first | exact (Kd.C_below HR0.out HB.out) | (with_reducible refine Kd.C_alloc ?_ _) | (with_reducible refine Kd.C_drewN ?_ _) | (with_reducible refine Kd.C_drew ?_))); (case side2 => exact HC0.out); rintro e w' ⟨rfl, ⟨nd, rfl⟩⟩) | (go_at_call 10; (with_reducible refine (priorylaw14_awake.calls k  t393 _ A21.out).mono ?_); rintro e w26 ⟨rfl, hb⟩; have n0_ := Aside0.mk (below_step (by repeat (first | (with_reducible first | exact HB.out | apply below_alloc | apply pw_below_drewN | apply below_drew1) | exact HB.out)) hb); clear HB; have HB := n0_; clear n0_; (try clear hb); (try clear hb2); (try clear hk); (try clear hi)))
              go_ret
              exact ⟨by first | rfl | (simp [errW_none, errW_some] <;> rfl) | (simp [*, errW_none, errW_some] <;> rfl), by repeat (first | (with_reducible first | exact HB.out | apply below_alloc | apply pw_below_drewN | apply below_drew1) | exact HB.out)⟩
            · rw [if_neg c20] at H
              have c20b0 : (t391 == t392) = false := beq_eq_false_iff_ne.mpr c20
              have c20b1 : (t391 != t392) = true := bne_iff_ne.mpr c20
              obtain rfl := Option.some.inj H
              go_enter Try.func6, Try.ntmps6
              go_wp2_with (first | ((with_reducible refine gate_callee (f := 18) rfl ?_); refine goesL_ (some 20) rfl rfl Try.func18 (by kernel_rfl) rfl #[.slice A0 l0.length c0, .int .i64 a1] rfl (by (try simp only [List.map_toArray, List.map_cons, List.map_nil]); first | done | rfl | (simp only [List.length_drop, List.length_take]; rfl)) ?_; (with_reducible refine (region_Find.calls k _ _ l0 a1 t383 t384 _ ?side1 ?side2 A8.out).mono ?_); (case side1 => repeat (first | exact HR0.out | (with_reducible refine Kd.C_alloc ?_ _) | (with_reducible refine Kd.C_drewN ?_ _) | (with_reducible refine Kd.C_drew ?_))); (case side2 => exact HC0.out); rintro e w27 ⟨rfl, hb⟩; refine ⟨_, rfl, ?_⟩; have n0_ := Aside0.mk (below_step (by repeat (first | (with_reducible first | exact HB.out | apply below_alloc | apply pw_below_drewN | apply below_drew1) | exact HB.out)) hb); clear HB; have HB := n0_; clear n0_; (try clear hb); (try clear hb2); (try clear hk); (try clear hi)) | ((with_reducible refine gate_callee (f := 19) rfl ?_); refine goesL_ (some 26) rfl rfl Try.func19 (by kernel_rfl) rfl #[.slice A0 l0.length c0, .int .i64 a1] rfl (by (try simp only [List.map_toArray, List.map_cons, List.map_nil]); first | done | rfl | (simp only [List.length_drop, List.length_take]; rfl)) ?_; (with_reducible refine (prioryref14_Find.calls k _ _ l0 a1 t385 t386 _ ?side1 ?side2 A9.out).mono ?_); (case side1 => repeat (first | exact (Kd.C_below HR0.out HB.out) | (with_reducible refine Kd.C_alloc ?_ _) | (with_reducible refine Kd.C_drewN ?_ _) | (with_reducible refine Kd.C_drew ?_))); (case side2 => exact HC0.out); rintro e w' ⟨rfl, ⟨nd, rfl⟩⟩; refine ⟨_, rfl, ?_⟩) | ((with_reducible refine gate_callee (f := 20) rfl ?_); refine goesL_ (some 30) rfl rfl Try.func20 (by kernel_rfl) rfl #[.slice A0 l0.length c0] rfl (by (try simp only [List.map_toArray, List.map_cons, List.map_nil]); first | done | rfl | (simp only [List.length_drop, List.length_take]; rfl)) ?_; (with_reducible refine (region_Check.calls k _ _ l0 t387 _ ?side1 ?side2 A10.out).mono ?_); (case side1 => repeat (first | exact (Kd.C_below HR0.out (by repeat (first | (with_reducible first | exact HB.out | apply below_alloc | apply pw_below_drewN | apply below_drew1) | exact HB.out))) | (with_reducible refine Kd.C_alloc ?_ _) | (with_reducible refine Kd.C_drewN ?_ _) | (with_reducible refine Kd.C_drew ?_))); (case side2 => exact HC0.out); rintro e w28 ⟨rfl, hb⟩; refine ⟨_, rfl, ?_⟩; have n0_ := Aside0.mk (below_step (by repeat (first | (with_reducible first | exact HB.out | apply below_alloc | apply pw_below_drewN | apply below_drew1) | exact HB.out)) hb); clear HB; have HB := n0_; clear n0_; (try clear hb); (try clear hb2); (try clear hk); (try clear hi)) | ((with_reducible refine gate_callee (f := 21) rfl ?_); refine goesL_ (some 32) rfl rfl Try.func21 (by kernel_rfl) rfl #[.slice A0 l0.length c0] rfl (by (try simp only [List.map_toArray, List.map_cons, List.map_nil]); first | done | rfl | (simp only [List.length_drop, List.length_take]; rfl)) ?_; (with_reducible refine (prioryref14_Check.calls k _ _ l0 t388 _ ?side1 ?side2 A11.out).mono ?_); (case side1 => repeat (first | exact (Kd.C_below HR0.out HB.out) | (with_reducible refine Kd.C_alloc ?_ _) | (with_reducible refine Kd.C_drewN ?_ _) | (with_reducible refine Kd.C_drew ?_))); (case side2 => exact HC0.out); rintro e w' ⟨rfl, ⟨nd, rfl⟩⟩; refine ⟨_, rfl, ?_⟩) | (go_at_call 22; (with_reducible refine (region_Covers.calls k _ _ l0 a2 a3 t389 _ ?side1 ?side2 A15.out).mono ?_); (case side1 => repeat (first | exact (Kd.C_below HR0.out (by repeat (first | (with_reducible first | exact HB.out | apply below_alloc | apply pw_below_drewN | apply below_drew1) | exact HB.out))) | (with_reducible refine Kd.C_alloc ?_ _) | (with_reducible refine Kd.C_drewN ?_ _) | (with_reducible refine Kd.C_drew ?_))); (case side2 => exact HC0.out); rintro e w29 ⟨rfl, hb⟩; have n0_ := Aside0.mk (below_step (by repeat (first | (with_reducible first | exact HB.out | apply below_alloc | apply pw_below_drewN | apply below_drew1) | exact HB.out)) hb); clear HB; have HB := n0_; clear n0_; (try clear hb); (try clear hb2); (try clear hk); (try clear hi)) | (go_at_call 23; (with_reducible refine (prioryref14_Covers.calls k _ _ l0 a2 a3 t390 _ ?side1 ?side2 A16.out).mono ?_); (case side1 => repeat (first | exact (Kd.C_below HR0.out HB.out) | (with_reducible refine Kd.C_alloc ?_ _) | (with_reducible refine Kd.C_drewN ?_ _) | (with_reducible refine Kd.C_drew ?_))); (case side2 => exact HC0.out); rintro e w' ⟨rfl, ⟨nd, rfl⟩⟩) | (go_at_call 24; (with_reducible refine (region_Pages.calls k _ _ l0 t391 _ ?side1 ?side2 A18.out).mono ?_); (case side1 => repeat (first | exact (Kd.C_below HR0.out (by repeat (first | (with_reducible first | exact HB.out | apply below_alloc | apply pw_below_drewN | apply below_drew1) | exact HB.out))) | (with_reducible refine Kd.C_alloc ?_ _) | (with_reducible refine Kd.C_drewN ?_ _) | (with_reducible refine Kd.C_drew ?_))); (case side2 => exact HC0.out); rintro e w30 ⟨rfl, hb⟩; have n0_ := Aside0.mk (below_step (by repeat (first | (with_reducible first | exact HB.out | apply below_alloc | apply pw_below_drewN | apply below_drew1) | exact HB.out)) hb); clear HB; have HB := n0_; clear n0_; (try clear hb); (try clear hb2); (try clear hk); (try clear hi)) | (go_at_call 25; (with_reducible refine (prioryref14_Pages.calls k _ _ l0 t392 _ ?side1 ?side2 A19.out).mono ?_); (case side1 => repeat (first | exact (Kd.C_below HR0.out HB.out) | (with_reducible refine Kd.C_alloc ?_ _) | (with_reducible refine Kd.C_drewN ?_ _) | (with_reducible refine Kd.C_drew ?_))); (case side2 => exact HC0.out); rintro e w' ⟨rfl, ⟨nd, rfl⟩⟩))
              go_ret
              exact ⟨by first | rfl | (simp [errW_none, errW_some] <;> rfl) | (simp [*, errW_none, errW_some] <;> rfl), by repeat (first | (with_reducible first | exact HB.out | apply below_alloc | apply pw_below_drewN | apply below_drew1) | exact HB.out)⟩
          · rw [if_neg c17] at H
            have c17b0 : (t389 == t390) = false := by simpa using c17
            (try (have c17b1 : decide (t389 = t390) = false := by simpa using c17))
            (try (have c17b2 : (t389 == t390) = false := by simpa using c17))
            (try (have c17b3 : ¬ (t389 = t390) := by simpa using c17))
            clear c17
            obtain rfl := Option.some.inj H
            go_enter Try.func6, Try.ntmps6
            go_wp2_with (first | ((with_reducible refine gate_callee (f := 18) rfl ?_); refine goesL_ (some 20) rfl rfl Try.func18 (by kernel_rfl) rfl #[.slice A0 l0.length c0, .int .i64 a1] rfl (by (try simp only [List.map_toArray, List.map_cons, List.map_nil]); first | done | rfl | (simp only [List.length_drop, List.length_take]; rfl)) ?_; (with_reducible refine (region_Find.calls k _ _ l0 a1 t383 t384 _ ?side1 ?side2 A8.out).mono ?_); (case side1 => repeat (first | exact HR0.out | (with_reducible refine Kd.C_alloc ?_ _) | (with_reducible refine Kd.C_drewN ?_ _) | (with_reducible refine Kd.C_drew ?_))); (case side2 => exact HC0.out); rintro e w31 ⟨rfl, hb⟩; refine ⟨_, rfl, ?_⟩; have n0_ := Aside0.mk (below_step (by repeat (first | (with_reducible first | exact HB.out | apply below_alloc | apply pw_below_drewN | apply below_drew1) | exact HB.out)) hb); clear HB; have HB := n0_; clear n0_; (try clear hb); (try clear hb2); (try clear hk); (try clear hi)) | ((with_reducible refine gate_callee (f := 19) rfl ?_); refine goesL_ (some 26) rfl rfl Try.func19 (by kernel_rfl) rfl #[.slice A0 l0.length c0, .int .i64 a1] rfl (by (try simp only [List.map_toArray, List.map_cons, List.map_nil]); first | done | rfl | (simp only [List.length_drop, List.length_take]; rfl)) ?_; (with_reducible refine (prioryref14_Find.calls k _ _ l0 a1 t385 t386 _ ?side1 ?side2 A9.out).mono ?_); (case side1 => repeat (first | exact (Kd.C_below HR0.out HB.out) | (with_reducible refine Kd.C_alloc ?_ _) | (with_reducible refine Kd.C_drewN ?_ _) | (with_reducible refine Kd.C_drew ?_))); (case side2 => exact HC0.out); rintro e w' ⟨rfl, ⟨nd, rfl⟩⟩; refine ⟨_, rfl, ?_⟩) | ((with_reducible refine gate_callee (f := 20) rfl ?_); refine goesL_ (some 30) rfl rfl Try.func20 (by kernel_rfl) rfl #[.slice A0 l0.length c0] rfl (by (try simp only [List.map_toArray, List.map_cons, List.map_nil]); first | done | rfl | (simp only [List.length_drop, List.length_take]; rfl)) ?_; (with_reducible refine (region_Check.calls k _ _ l0 t387 _ ?side1 ?side2 A10.out).mono ?_); (case side1 => repeat (first | exact (Kd.C_below HR0.out (by repeat (first | (with_reducible first | exact HB.out | apply below_alloc | apply pw_below_drewN | apply below_drew1) | exact HB.out))) | (with_reducible refine Kd.C_alloc ?_ _) | (with_reducible refine Kd.C_drewN ?_ _) | (with_reducible refine Kd.C_drew ?_))); (case side2 => exact HC0.out); rintro e w32 ⟨rfl, hb⟩; refine ⟨_, rfl, ?_⟩; have n0_ := Aside0.mk (below_step (by repeat (first | (with_reducible first | exact HB.out | apply below_alloc | apply pw_below_drewN | apply below_drew1) | exact HB.out)) hb); clear HB; have HB := n0_; clear n0_; (try clear hb); (try clear hb2); (try clear hk); (try clear hi)) | ((with_reducible refine gate_callee (f := 21) rfl ?_); refine goesL_ (some 32) rfl rfl Try.func21 (by kernel_rfl) rfl #[.slice A0 l0.length c0] rfl (by (try simp only [List.map_toArray, List.map_cons, List.map_nil]); first | done | rfl | (simp only [List.length_drop, List.length_take]; rfl)) ?_; (with_reducible refine (prioryref14_Check.calls k _ _ l0 t388 _ ?side1 ?side2 A11.out).mono ?_); (case side1 => repeat (first | exact (Kd.C_below HR0.out HB.out) | (with_reducible refine Kd.C_alloc ?_ _) | (with_reducible refine Kd.C_drewN ?_ _) | (with_reducible refine Kd.C_drew ?_))); (case side2 => exact HC0.out); rintro e w' ⟨rfl, ⟨nd, rfl⟩⟩; refine ⟨_, rfl, ?_⟩) | (go_at_call 22; (with_reducible refine (region_Covers.calls k _ _ l0 a2 a3 t389 _ ?side1 ?side2 A15.out).mono ?_); (case side1 => repeat (first | exact (Kd.C_below HR0.out (by repeat (first | (with_reducible first | exact HB.out | apply below_alloc | apply pw_below_drewN | apply below_drew1) | exact HB.out))) | (with_reducible refine Kd.C_alloc ?_ _) | (with_reducible refine Kd.C_drewN ?_ _) | (with_reducible refine Kd.C_drew ?_))); (case side2 => exact HC0.out); rintro e w33 ⟨rfl, hb⟩; have n0_ := Aside0.mk (below_step (by repeat (first | (with_reducible first | exact HB.out | apply below_alloc | apply pw_below_drewN | apply below_drew1) | exact HB.out)) hb); clear HB; have HB := n0_; clear n0_; (try clear hb); (try clear hb2); (try clear hk); (try clear hi)) | (go_at_call 23; (with_reducible refine (prioryref14_Covers.calls k _ _ l0 a2 a3 t390 _ ?side1 ?side2 A16.out).mono ?_); (case side1 => repeat (first | exact (Kd.C_below HR0.out HB.out) | (with_reducible refine Kd.C_alloc ?_ _) | (with_reducible refine Kd.C_drewN ?_ _) | (with_reducible refine Kd.C_drew ?_))); (case side2 => exact HC0.out); rintro e w' ⟨rfl, ⟨nd, rfl⟩⟩))
            go_ret
            exact ⟨by first | rfl | (simp [errW_none, errW_some] <;> rfl) | (simp [*, errW_none, errW_some] <;> rfl), by repeat (first | (with_reducible first | exact HB.out | apply below_alloc | apply pw_below_drewN | apply below_drew1) | exact HB.out)⟩
        · rw [if_neg c14] at H
          have c14b0 : (t384 == t386) = false := by simpa using c14
          (try (have c14b1 : decide (t384 = t386) = false := by simpa using c14))
          (try (have c14b2 : (t384 == t386) = false := by simpa using c14))
          (try (have c14b3 : ¬ (t384 = t386) := by simpa using c14))
          clear c14
          obtain rfl := Option.some.inj H
          go_enter Try.func6, Try.ntmps6
          go_wp2_with (first | ((with_reducible refine gate_callee (f := 18) rfl ?_); refine goesL_ (some 20) rfl rfl Try.func18 (by kernel_rfl) rfl #[.slice A0 l0.length c0, .int .i64 a1] rfl (by (try simp only [List.map_toArray, List.map_cons, List.map_nil]); first | done | rfl | (simp only [List.length_drop, List.length_take]; rfl)) ?_; (with_reducible refine (region_Find.calls k _ _ l0 a1 t383 t384 _ ?side1 ?side2 A8.out).mono ?_); (case side1 => repeat (first | exact HR0.out | (with_reducible refine Kd.C_alloc ?_ _) | (with_reducible refine Kd.C_drewN ?_ _) | (with_reducible refine Kd.C_drew ?_))); (case side2 => exact HC0.out); rintro e w34 ⟨rfl, hb⟩; refine ⟨_, rfl, ?_⟩; have n0_ := Aside0.mk (below_step (by repeat (first | (with_reducible first | exact HB.out | apply below_alloc | apply pw_below_drewN | apply below_drew1) | exact HB.out)) hb); clear HB; have HB := n0_; clear n0_; (try clear hb); (try clear hb2); (try clear hk); (try clear hi)) | ((with_reducible refine gate_callee (f := 19) rfl ?_); refine goesL_ (some 26) rfl rfl Try.func19 (by kernel_rfl) rfl #[.slice A0 l0.length c0, .int .i64 a1] rfl (by (try simp only [List.map_toArray, List.map_cons, List.map_nil]); first | done | rfl | (simp only [List.length_drop, List.length_take]; rfl)) ?_; (with_reducible refine (prioryref14_Find.calls k _ _ l0 a1 t385 t386 _ ?side1 ?side2 A9.out).mono ?_); (case side1 => repeat (first | exact (Kd.C_below HR0.out HB.out) | (with_reducible refine Kd.C_alloc ?_ _) | (with_reducible refine Kd.C_drewN ?_ _) | (with_reducible refine Kd.C_drew ?_))); (case side2 => exact HC0.out); rintro e w' ⟨rfl, ⟨nd, rfl⟩⟩; refine ⟨_, rfl, ?_⟩) | ((with_reducible refine gate_callee (f := 20) rfl ?_); refine goesL_ (some 30) rfl rfl Try.func20 (by kernel_rfl) rfl #[.slice A0 l0.length c0] rfl (by (try simp only [List.map_toArray, List.map_cons, List.map_nil]); first | done | rfl | (simp only [List.length_drop, List.length_take]; rfl)) ?_; (with_reducible refine (region_Check.calls k _ _ l0 t387 _ ?side1 ?side2 A10.out).mono ?_); (case side1 => repeat (first | exact (Kd.C_below HR0.out (by repeat (first | (with_reducible first | exact HB.out | apply below_alloc | apply pw_below_drewN | apply below_drew1) | exact HB.out))) | (with_reducible refine Kd.C_alloc ?_ _) | (with_reducible refine Kd.C_drewN ?_ _) | (with_reducible refine Kd.C_drew ?_))); (case side2 => exact HC0.out); rintro e w35 ⟨rfl, hb⟩; refine ⟨_, rfl, ?_⟩; have n0_ := Aside0.mk (below_step (by repeat (first | (with_reducible first | exact HB.out | apply below_alloc | apply pw_below_drewN | apply below_drew1) | exact HB.out)) hb); clear HB; have HB := n0_; clear n0_; (try clear hb); (try clear hb2); (try clear hk); (try clear hi)) | ((with_reducible refine gate_callee (f := 21) rfl ?_); refine goesL_ (some 32) rfl rfl Try.func21 (by kernel_rfl) rfl #[.slice A0 l0.length c0] rfl (by (try simp only [List.map_toArray, List.map_cons, List.map_nil]); first | done | rfl | (simp only [List.length_drop, List.length_take]; rfl)) ?_; (with_reducible refine (prioryref14_Check.calls k _ _ l0 t388 _ ?side1 ?side2 A11.out).mono ?_); (case side1 => repeat (first | exact (Kd.C_below HR0.out HB.out) | (with_reducible refine Kd.C_alloc ?_ _) | (with_reducible refine Kd.C_drewN ?_ _) | (with_reducible refine Kd.C_drew ?_))); (case side2 => exact HC0.out); rintro e w' ⟨rfl, ⟨nd, rfl⟩⟩; refine ⟨_, rfl, ?_⟩))
          go_ret
          exact ⟨by first | rfl | (simp [errW_none, errW_some] <;> rfl) | (simp [*, errW_none, errW_some] <;> rfl), by repeat (first | (with_reducible first | exact HB.out | apply below_alloc | apply pw_below_drewN | apply below_drew1) | exact HB.out)⟩
      · rw [if_neg c13] at H
        have c13b0 : (t383 == t385) = false := by simpa using c13
        (try (have c13b1 : decide (t383 = t385) = false := by simpa using c13))
        (try (have c13b2 : (t383 == t385) = false := by simpa using c13))
        (try (have c13b3 : ¬ (t383 = t385) := by simpa using c13))
        clear c13
        obtain rfl := Option.some.inj H
        go_enter Try.func6, Try.ntmps6
        go_wp2_with (first | ((with_reducible refine gate_callee (f := 18) rfl ?_); refine goesL_ (some 20) rfl rfl Try.func18 (by kernel_rfl) rfl #[.slice A0 l0.length c0, .int .i64 a1] rfl (by (try simp only [List.map_toArray, List.map_cons, List.map_nil]); first | done | rfl | (simp only [List.length_drop, List.length_take]; rfl)) ?_; (with_reducible refine (region_Find.calls k _ _ l0 a1 t383 t384 _ ?side1 ?side2 A8.out).mono ?_); (case side1 => repeat (first | exact HR0.out | (with_reducible refine Kd.C_alloc ?_ _) | (with_reducible refine Kd.C_drewN ?_ _) | (with_reducible refine Kd.C_drew ?_))); (case side2 => exact HC0.out); rintro e w36 ⟨rfl, hb⟩; refine ⟨_, rfl, ?_⟩; have n0_ := Aside0.mk (below_step (by repeat (first | (with_reducible first | exact HB.out | apply below_alloc | apply pw_below_drewN | apply below_drew1) | exact HB.out)) hb); clear HB; have HB := n0_; clear n0_; (try clear hb); (try clear hb2); (try clear hk); (try clear hi)) | ((with_reducible refine gate_callee (f := 19) rfl ?_); refine goesL_ (some 26) rfl rfl Try.func19 (by kernel_rfl) rfl #[.slice A0 l0.length c0, .int .i64 a1] rfl (by (try simp only [List.map_toArray, List.map_cons, List.map_nil]); first | done | rfl | (simp only [List.length_drop, List.length_take]; rfl)) ?_; (with_reducible refine (prioryref14_Find.calls k _ _ l0 a1 t385 t386 _ ?side1 ?side2 A9.out).mono ?_); (case side1 => repeat (first | exact (Kd.C_below HR0.out HB.out) | (with_reducible refine Kd.C_alloc ?_ _) | (with_reducible refine Kd.C_drewN ?_ _) | (with_reducible refine Kd.C_drew ?_))); (case side2 => exact HC0.out); rintro e w' ⟨rfl, ⟨nd, rfl⟩⟩; refine ⟨_, rfl, ?_⟩) | ((with_reducible refine gate_callee (f := 20) rfl ?_); refine goesL_ (some 30) rfl rfl Try.func20 (by kernel_rfl) rfl #[.slice A0 l0.length c0] rfl (by (try simp only [List.map_toArray, List.map_cons, List.map_nil]); first | done | rfl | (simp only [List.length_drop, List.length_take]; rfl)) ?_; (with_reducible refine (region_Check.calls k _ _ l0 t387 _ ?side1 ?side2 A10.out).mono ?_); (case side1 => repeat (first | exact (Kd.C_below HR0.out (by repeat (first | (with_reducible first | exact HB.out | apply below_alloc | apply pw_below_drewN | apply below_drew1) | exact HB.out))) | (with_reducible refine Kd.C_alloc ?_ _) | (with_reducible refine Kd.C_drewN ?_ _) | (with_reducible refine Kd.C_drew ?_))); (case side2 => exact HC0.out); rintro e w37 ⟨rfl, hb⟩; refine ⟨_, rfl, ?_⟩; have n0_ := Aside0.mk (below_step (by repeat (first | (with_reducible first | exact HB.out | apply below_alloc | apply pw_below_drewN | apply below_drew1) | exact HB.out)) hb); clear HB; have HB := n0_; clear n0_; (try clear hb); (try clear hb2); (try clear hk); (try clear hi)) | ((with_reducible refine gate_callee (f := 21) rfl ?_); refine goesL_ (some 32) rfl rfl Try.func21 (by kernel_rfl) rfl #[.slice A0 l0.length c0] rfl (by (try simp only [List.map_toArray, List.map_cons, List.map_nil]); first | done | rfl | (simp only [List.length_drop, List.length_take]; rfl)) ?_; (with_reducible refine (prioryref14_Check.calls k _ _ l0 t388 _ ?side1 ?side2 A11.out).mono ?_); (case side1 => repeat (first | exact (Kd.C_below HR0.out HB.out) | (with_reducible refine Kd.C_alloc ?_ _) | (with_reducible refine Kd.C_drewN ?_ _) | (with_reducible refine Kd.C_drew ?_))); (case side2 => exact HC0.out); rintro e w' ⟨rfl, ⟨nd, rfl⟩⟩; refine ⟨_, rfl, ?_⟩))
        go_ret
        exact ⟨by first | rfl | (simp [errW_none, errW_some] <;> rfl) | (simp [*, errW_none, errW_some] <;> rfl), by repeat (first | (with_reducible first | exact HB.out | apply below_alloc | apply pw_below_drewN | apply below_drew1) | exact HB.out)⟩
    · rw [if_neg c12] at H
      have c12b0 : (t387 == t388) = false := beq_eq_false_iff_ne.mpr c12
      have c12b1 : (t387 != t388) = true := bne_iff_ne.mpr c12
      obtain rfl := Option.some.inj H
      go_enter Try.func6, Try.ntmps6
      go_wp2_with (first | ((with_reducible refine gate_callee (f := 18) rfl ?_); refine goesL_ (some 20) rfl rfl Try.func18 (by kernel_rfl) rfl #[.slice A0 l0.length c0, .int .i64 a1] rfl (by (try simp only [List.map_toArray, List.map_cons, List.map_nil]); first | done | rfl | (simp only [List.length_drop, List.length_take]; rfl)) ?_; (with_reducible refine (region_Find.calls k _ _ l0 a1 t383 t384 _ ?side1 ?side2 A8.out).mono ?_); (case side1 => repeat (first | exact HR0.out | (with_reducible refine Kd.C_alloc ?_ _) | (with_reducible refine Kd.C_drewN ?_ _) | (with_reducible refine Kd.C_drew ?_))); (case side2 => exact HC0.out); rintro e w38 ⟨rfl, hb⟩; refine ⟨_, rfl, ?_⟩; have n0_ := Aside0.mk (below_step (by repeat (first | (with_reducible first | exact HB.out | apply below_alloc | apply pw_below_drewN | apply below_drew1) | exact HB.out)) hb); clear HB; have HB := n0_; clear n0_; (try clear hb); (try clear hb2); (try clear hk); (try clear hi)) | ((with_reducible refine gate_callee (f := 19) rfl ?_); refine goesL_ (some 26) rfl rfl Try.func19 (by kernel_rfl) rfl #[.slice A0 l0.length c0, .int .i64 a1] rfl (by (try simp only [List.map_toArray, List.map_cons, List.map_nil]); first | done | rfl | (simp only [List.length_drop, List.length_take]; rfl)) ?_; (with_reducible refine (prioryref14_Find.calls k _ _ l0 a1 t385 t386 _ ?side1 ?side2 A9.out).mono ?_); (case side1 => repeat (first | exact (Kd.C_below HR0.out HB.out) | (with_reducible refine Kd.C_alloc ?_ _) | (with_reducible refine Kd.C_drewN ?_ _) | (with_reducible refine Kd.C_drew ?_))); (case side2 => exact HC0.out); rintro e w' ⟨rfl, ⟨nd, rfl⟩⟩; refine ⟨_, rfl, ?_⟩) | ((with_reducible refine gate_callee (f := 20) rfl ?_); refine goesL_ (some 30) rfl rfl Try.func20 (by kernel_rfl) rfl #[.slice A0 l0.length c0] rfl (by (try simp only [List.map_toArray, List.map_cons, List.map_nil]); first | done | rfl | (simp only [List.length_drop, List.length_take]; rfl)) ?_; (with_reducible refine (region_Check.calls k _ _ l0 t387 _ ?side1 ?side2 A10.out).mono ?_); (case side1 => repeat (first | exact (Kd.C_below HR0.out (by repeat (first | (with_reducible first | exact HB.out | apply below_alloc | apply pw_below_drewN | apply below_drew1) | exact HB.out))) | (with_reducible refine Kd.C_alloc ?_ _) | (with_reducible refine Kd.C_drewN ?_ _) | (with_reducible refine Kd.C_drew ?_))); (case side2 => exact HC0.out); rintro e w39 ⟨rfl, hb⟩; refine ⟨_, rfl, ?_⟩; have n0_ := Aside0.mk (below_step (by repeat (first | (with_reducible first | exact HB.out | apply below_alloc | apply pw_below_drewN | apply below_drew1) | exact HB.out)) hb); clear HB; have HB := n0_; clear n0_; (try clear hb); (try clear hb2); (try clear hk); (try clear hi)) | ((with_reducible refine gate_callee (f := 21) rfl ?_); refine goesL_ (some 32) rfl rfl Try.func21 (by kernel_rfl) rfl #[.slice A0 l0.length c0] rfl (by (try simp only [List.map_toArray, List.map_cons, List.map_nil]); first | done | rfl | (simp only [List.length_drop, List.length_take]; rfl)) ?_; (with_reducible refine (prioryref14_Check.calls k _ _ l0 t388 _ ?side1 ?side2 A11.out).mono ?_); (case side1 => repeat (first | exact (Kd.C_below HR0.out HB.out) | (with_reducible refine Kd.C_alloc ?_ _) | (with_reducible refine Kd.C_drewN ?_ _) | (with_reducible refine Kd.C_drew ?_))); (case side2 => exact HC0.out); rintro e w' ⟨rfl, ⟨nd, rfl⟩⟩; refine ⟨_, rfl, ?_⟩))
      go_ret
      exact ⟨by first | rfl | (simp [errW_none, errW_some] <;> rfl) | (simp [*, errW_none, errW_some] <;> rfl), by repeat (first | (with_reducible first | exact HB.out | apply below_alloc | apply pw_below_drewN | apply below_drew1) | exact HB.out)⟩
end Go.Proofs.Ytcblfhoipdbdlaa.PAll

namespace Go.Proofs.Ytcblfhoipdbdlaa.PAll
open Go.RowKit Go.Proofs.YtcblfhoipdbdlaaW.PrintWords Go.Proofs.YtcblfhoipdbdlaaW.PrintLast Go.Proofs.YtcblfhoipdbdlaaW.PrintMore
set_option linter.unusedVariables false
set_option linter.unusedSimpArgs false
def pgS : List S24 → Nat → Int
  | [], _ => 0
  | a :: r, n => if a.f0 ≤ n ∧ (n : Int) < a.f0 + a.f1 then wv a.f2 else pgS r n
def NF : Int → Option Bool → List S24 → Prop
  | _, _, [] => True
  | e, lw, a :: r => e ≤ a.f0 ∧ (e = a.f0 → lw ≠ some a.f2) ∧ 1 ≤ a.f1 ∧ a.f0 + a.f1 ≤ 1024 ∧ NF (a.f0 + a.f1) (some a.f2) r
def endS : Int → List S24 → Int
  | e, [] => e
  | _, a :: r => endS (a.f0 + a.f1) r
def lwS : Option Bool → List S24 → Option Bool
  | lw, [] => lw
  | _, a :: r => lwS (some a.f2) r
theorem wv_ne (b : Bool) : wv b ≠ 0 := by cases b <;> decide
theorem wv_inj {a b : Bool} (h : wv a = wv b) : a = b := by cases a <;> cases b <;> first | rfl | (revert h; decide)
theorem wv_two (b : Bool) : (wv b == 2) = b := by cases b <;> rfl
theorem wv_of {x : Int} (h : x = 0 ∨ x = 1 ∨ x = 2) (h0 : x ≠ 0) : wv (x == 2) = x := by
  rcases h with h | h | h
  · exact absurd h h0
  · subst h; rfl
  · subst h; rfl
theorem pgS_cases (l : List S24) (n : Nat) : pgS l n = 0 ∨ pgS l n = 1 ∨ pgS l n = 2 := by
  induction l with
  | nil => exact .inl rfl
  | cons a r ih =>
    unfold pgS
    split
    · cases a.f2 <;> simp [wv]
    · exact ih
theorem NF_ge : ∀ {l : List S24} {e : Int} {lw : Option Bool}, NF e lw l → ∀ a ∈ l, e ≤ a.f0 ∧ 1 ≤ a.f1 ∧ a.f0 + a.f1 ≤ 1024
  | [], _, _, _, _, h => by cases h
  | x :: r, e, lw, h, a, ha => by
    obtain ⟨h1, h2, h3, h4, h5⟩ := h
    rcases List.mem_cons.1 ha with rfl | ha
    · exact ⟨h1, h3, h4⟩
    · have := NF_ge h5 a ha
      exact ⟨by omega, this.2⟩
theorem pgS_none {l : List S24} {n : Nat} (h : ∀ a ∈ l, ¬ (a.f0 ≤ n ∧ (n : Int) < a.f0 + a.f1)) : pgS l n = 0 := by
  induction l with
  | nil => rfl
  | cons a r ih =>
    unfold pgS
    rw [if_neg (h a List.mem_cons_self)]
    exact ih (fun b hb => h b (List.mem_cons_of_mem _ hb))
theorem pgS_lt {l : List S24} {e : Int} {lw : Option Bool} (h : NF e lw l) {n : Nat} (hn : (n : Int) < e) : pgS l n = 0 :=
  pgS_none (fun a ha hc => by have := (NF_ge h a ha).1; omega)
theorem pgS_at {l : List S24} {e : Int} {lw : Option Bool} (h : NF e lw l) {n : Nat} (hn : (n : Int) = e) {w : Bool} (hw : lw = some w) : pgS l n ≠ wv w := by
  cases l with
  | nil => exact fun h => wv_ne w h.symm
  | cons a r =>
    obtain ⟨h1, h2, h3, h4, h5⟩ := h
    unfold pgS
    split
    · rename_i hc
      intro he
      exact h2 (by omega) (by rw [hw, wv_inj he])
    · rename_i hc
      rw [pgS_lt h5 (by omega)]
      exact fun h => wv_ne w h.symm
theorem NF_uniq : ∀ (l m : List S24) (e : Int) (lw : Option Bool), 0 ≤ e → NF e lw l → NF e lw m → (∀ n : Nat, e ≤ n → n < 1024 → pgS l n = pgS m n) → l = m
  | [], [], _, _, _, _, _, _ => rfl
  | [], b :: m, e, lw, he, _, hm, hp => by
    obtain ⟨h1, h2, h3, h4, h5⟩ := hm
    have := hp b.f0.toNat (by omega) (by omega)
    rw [show pgS [] b.f0.toNat = 0 from rfl] at this
    unfold pgS at this
    rw [if_pos (by omega)] at this
    exact absurd this.symm (wv_ne _)
  | a :: l, [], e, lw, he, hl, _, hp => by
    obtain ⟨h1, h2, h3, h4, h5⟩ := hl
    have := hp a.f0.toNat (by omega) (by omega)
    rw [show pgS [] a.f0.toNat = 0 from rfl] at this
    unfold pgS at this
    rw [if_pos (by omega)] at this
    exact absurd this (wv_ne _)
  | a :: l, b :: m, e, lw, he, hl, hm, hp => by
    obtain ⟨a1, a2, a3, a4, a5⟩ := hl
    obtain ⟨b1, b2, b3, b4, b5⟩ := hm
    have hs : a.f0 = b.f0 := by
      rcases Int.lt_trichotomy a.f0 b.f0 with h | h | h
      · exfalso
        have := hp a.f0.toNat (by omega) (by omega)
        unfold pgS at this
        rw [if_pos (by omega), if_neg (by omega), pgS_lt b5 (by omega)] at this
        exact wv_ne _ this
      · exact h
      · exfalso
        have := hp b.f0.toNat (by omega) (by omega)
        unfold pgS at this
        rw [if_neg (by omega), if_pos (by omega), pgS_lt a5 (by omega)] at this
        exact wv_ne _ this.symm
    have hw : a.f2 = b.f2 := by
      have := hp a.f0.toNat (by omega) (by omega)
      unfold pgS at this
      rw [if_pos (by omega), if_pos (by omega)] at this
      exact wv_inj this
    have hm : a.f1 = b.f1 := by
      rcases Int.lt_trichotomy a.f1 b.f1 with h | h | h
      · exfalso
        have := hp (a.f0 + a.f1).toNat (by omega) (by omega)
        unfold pgS at this
        rw [if_neg (by omega), if_pos (by omega), ← hw] at this
        exact pgS_at a5 (by omega) rfl this
      · exact h
      · exfalso
        have := hp (b.f0 + b.f1).toNat (by omega) (by omega)
        unfold pgS at this
        rw [if_pos (by omega), if_neg (by omega), hw] at this
        exact pgS_at b5 (by omega) rfl this.symm
    have hab : a = b := by cases a; cases b; simp only at hs hw hm; subst hs hw hm; rfl
    subst hab
    congr 1
    refine NF_uniq l m (a.f0 + a.f1) (some a.f2) (by omega) a5 b5 (fun n h1 h2 => ?_)
    have := hp n (by omega) h2
    unfold pgS at this
    rwa [if_neg (by omega), if_neg (by omega)] at this
theorem NF_append : ∀ (p s : List S24) (e : Int) (lw : Option Bool), NF e lw (p ++ s) ↔ NF e lw p ∧ NF (endS e p) (lwS lw p) s
  | [], s, e, lw => by simp [NF, endS, lwS]
  | a :: p, s, e, lw => by
    simp only [List.cons_append, NF, endS, lwS]
    rw [NF_append p s]
    constructor
    · rintro ⟨h1, h2, h3, h4, h5, h6⟩; exact ⟨⟨h1, h2, h3, h4, h5⟩, h6⟩
    · rintro ⟨⟨h1, h2, h3, h4, h5⟩, h6⟩; exact ⟨h1, h2, h3, h4, h5, h6⟩
theorem pgS_append (p s : List S24) (n : Nat) : pgS (p ++ s) n = if pgS p n = 0 then pgS s n else pgS p n := by
  induction p with
  | nil => simp [pgS]
  | cons a p ih =>
    simp only [List.cons_append, pgS]
    split
    · rw [if_neg (wv_ne _)]
    · exact ih
theorem endS_append (p s : List S24) : ∀ e, endS e (p ++ s) = endS (endS e p) s := by
  induction p with
  | nil => intro e; rfl
  | cons a p ih => intro e; exact ih _
theorem lwS_append (p s : List S24) : ∀ e, lwS e (p ++ s) = lwS (lwS e p) s := by
  induction p with
  | nil => intro e; rfl
  | cons a p ih => intro e; exact ih _
theorem endS_ge : ∀ {l : List S24} {e : Int} {lw : Option Bool}, NF e lw l → e ≤ endS e l ∧ (∀ a ∈ l, a.f0 + a.f1 ≤ endS e l) ∧ (e ≤ 1024 → endS e l ≤ 1024)
  | [], e, _, _ => ⟨Int.le_refl _, (fun _ h => by cases h), fun h => h⟩
  | x :: r, e, lw, h => by
    obtain ⟨h1, h2, h3, h4, h5⟩ := h
    have := endS_ge h5
    refine ⟨by unfold endS; omega, fun a ha => ?_, fun _ => by unfold endS; exact this.2.2 h4⟩
    unfold endS
    rcases List.mem_cons.1 ha with rfl | ha
    · exact this.1
    · exact this.2.1 a ha
theorem pgS_end {l : List S24} {e : Int} {lw : Option Bool} (h : NF e lw l) {n : Nat} (hn : endS e l ≤ n) : pgS l n = 0 :=
  pgS_none (fun a ha hc => by have := (endS_ge h).2.1 a ha; omega)
theorem pgF_pgS : ∀ (l : List S24) (e : Int) (lw : Option Bool), NF e lw l → ∀ (f : Nat → Int) (n : Nat), (l.foldl (fun f a => fill f a.f0 a.f1 (wv a.f2)) f) n = if pgS l n = 0 then f n else pgS l n
  | [], _, _, _, f, n => by simp [pgS]
  | a :: r, e, lw, h, f, n => by
    obtain ⟨h1, h2, h3, h4, h5⟩ := h
    simp only [List.foldl_cons]
    rw [pgF_pgS r _ _ h5]
    have hs : pgS (a :: r) n = if a.f0 ≤ n ∧ (n : Int) < a.f0 + a.f1 then wv a.f2 else pgS r n := rfl
    rw [hs]
    by_cases hc : a.f0 ≤ n ∧ (n : Int) < a.f0 + a.f1
    · rw [pgS_lt h5 (by omega), if_pos rfl, if_pos hc, if_neg (wv_ne _)]
      unfold fill
      rw [if_pos hc]
    · rw [if_neg hc]
      unfold fill
      rw [if_neg hc]
theorem pgF_eq {l : List S24} {e : Int} {lw : Option Bool} (h : NF e lw l) (n : Nat) : pgF l n = pgS l n := by
  unfold pgF
  rw [pgF_pgS l e lw h]
  split
  · rename_i h0; exact h0.symm
  · rfl
theorem nil_or_snoc (p : List S24) : p = [] ∨ ∃ q x, p = q ++ [x] := by
  rcases List.eq_nil_or_concat p with h | ⟨q, x, h⟩
  · exact .inl h
  · exact .inr ⟨q, x, by rw [h, List.concat_eq_append]⟩
theorem NF_ok : ∀ (l p : List S24), (∀ i, i < (p ++ l).length → okAt (p ++ l) i = true) → NF (endS 0 p) (lwS none p) l
  | [], _, _ => trivial
  | a :: r, p, h => by
    have hi := h p.length (by simp)
    have hat : ar (p ++ a :: r) p.length = a := by simp [ar, List.getD_eq_getElem?_getD]
    unfold okAt at hi
    rw [hat, Bool.and_eq_true] at hi
    have hf := fitB_iff.1 hi.1
    have hrec := NF_ok r (p ++ [a]) (by simpa using h)
    rw [endS_append, lwS_append] at hrec
    refine ⟨?_, ?_, hf.2.2.1, by omega, hrec⟩
    · rcases nil_or_snoc p with rfl | ⟨q, x, rfl⟩
      · exact hf.1
      · have h2 := hi.2
        have hx : ar (q ++ [x] ++ a :: r) ((q ++ [x]).length - 1) = x := by simp [ar, List.getD_eq_getElem?_getD]
        rw [hx] at h2
        have h3 : gapB x a = true := by simpa using h2
        unfold gapB at h3
        have h4 := of_decide_eq_true h3
        rw [endS_append]
        simp only [endS]
        omega
    · rcases nil_or_snoc p with rfl | ⟨q, x, rfl⟩
      · intro _ h; cases h
      · have h2 := hi.2
        have hx : ar (q ++ [x] ++ a :: r) ((q ++ [x]).length - 1) = x := by simp [ar, List.getD_eq_getElem?_getD]
        rw [hx] at h2
        have h3 : gapB x a = true := by simpa using h2
        unfold gapB at h3
        have h4 := of_decide_eq_true h3
        rw [endS_append, lwS_append]
        simp only [endS, lwS]
        intro he hs
        injection hs with hs
        rcases h4 with h4 | h4
        · omega
        · exact h4.2 hs.symm
theorem ok_NF : ∀ (l p : List S24), NF 0 none p → NF (endS 0 p) (lwS none p) l → ∀ i, p.length ≤ i → i < (p ++ l).length → okAt (p ++ l) i = true
  | [], p, _, _, i, h1, h2 => by simp at h2; omega
  | a :: r, p, hp, h, i, h1, h2 => by
    obtain ⟨a1, a2, a3, a4, a5⟩ := h
    by_cases e : i = p.length
    · subst e
      have hat : ar (p ++ a :: r) p.length = a := by simp [ar, List.getD_eq_getElem?_getD]
      have h0 := (endS_ge hp).1
      unfold okAt
      rw [hat, fitB_iff.2 ⟨by omega, by omega, a3, by omega⟩, Bool.true_and]
      rcases nil_or_snoc p with rfl | ⟨q, x, rfl⟩
      · rfl
      · have hx : ar (q ++ [x] ++ a :: r) ((q ++ [x]).length - 1) = x := by simp [ar, List.getD_eq_getElem?_getD]
        rw [hx, Bool.or_eq_true]
        refine .inr (decide_eq_true ?_)
        rw [endS_append, lwS_append] at a2
        rw [endS_append] at a1
        simp only [endS, lwS] at a1 a2
        by_cases h3 : x.f0 + x.f1 = a.f0
        · exact .inr ⟨h3, fun hs => a2 h3 (by rw [hs])⟩
        · exact .inl (by omega)
    · have := ok_NF r (p ++ [a]) ((NF_append p [a] 0 none).2 ⟨hp, a1, a2, a3, a4, trivial⟩) (by rw [endS_append, lwS_append]; exact a5) i (by simp; omega) (by simpa using h2)
      simpa using this
theorem okB_iff (l : List S24) : okB l = true ↔ l.length ≤ 8 ∧ NF 0 none l := by
  constructor
  · intro h
    unfold okB at h
    rw [Bool.and_eq_true, List.all_eq_true] at h
    exact ⟨of_decide_eq_true h.1, NF_ok l [] (fun i hi => h.2 i (List.mem_range.2 (by simpa using hi)))⟩
  · rintro ⟨h1, h2⟩
    unfold okB
    rw [decide_eq_true h1, Bool.true_and, List.all_eq_true]
    intro i hi
    exact ok_NF l [] trivial h2 i (Nat.zero_le _) (by simpa using List.mem_range.1 hi)
theorem bumpL_snoc (g : List S24) (x : S24) : bumpL (g ++ [x]) = g ++ [bumpS x] := by
  simp [bumpL, List.getD_eq_getElem?_getD]
theorem pgS_in {a : S24} {r : List S24} {n : Nat} (h : a.f0 ≤ n ∧ (n : Int) < a.f0 + a.f1) : pgS (a :: r) n = wv a.f2 := if_pos h
theorem pgS_out {a : S24} {r : List S24} {n : Nat} (h : ¬ (a.f0 ≤ n ∧ (n : Int) < a.f0 + a.f1)) : pgS (a :: r) n = pgS r n := if_neg h
structure FI (what : Nat → Int) (n : Nat) (F : List S24) : Prop where
  nf : NF 0 none F
  pg : ∀ i, i < n → pgS F i = what i
  le : endS 0 F ≤ n
  on : lastF what n ≠ 0 → endS 0 F = n ∧ lwS none F = some (lastF what n == 2)
  off : lastF what n = 0 → endS 0 F < n ∨ lwS none F = none
theorem formL_FI (what : Nat → Int) (hw : ∀ n, what n = 0 ∨ what n = 1 ∨ what n = 2) : ∀ n, n ≤ 1024 → FI what n (formL what n)
  | 0, _ => ⟨trivial, fun i hi => by omega, Int.le_refl _, fun h => absurd rfl h, fun _ => .inr rfl⟩
  | n + 1, hn => by
    have ih := formL_FI what hw n (by omega)
    have hle := ih.le
    have hl : lastF what (n + 1) = what n := rfl
    by_cases h0 : what n = 0
    · have e : formL what (n + 1) = formL what n := by conv => lhs; unfold formL; rw [if_pos h0]
      rw [e]
      refine ⟨ih.nf, fun i hi => ?_, by omega, fun h => absurd (hl.trans h0) h, fun _ => .inl (by omega)⟩
      by_cases hi' : i < n
      · exact ih.pg i hi'
      · have : i = n := by omega
        subst this
        rw [h0]
        exact pgS_end ih.nf ih.le
    · have hwn := wv_of (hw n) h0
      by_cases h1 : what n = lastF what n
      · have e : formL what (n + 1) = bumpL (formL what n) := by conv => lhs; unfold formL; rw [if_neg h0, if_pos h1]
        have hon := ih.on (by rw [← h1]; exact h0)
        rcases nil_or_snoc (formL what n) with hF | ⟨g, x, hF⟩
        · have := formL_ne what n (by rw [← h1]; exact h0)
          rw [hF] at this
          simp at this
        · rw [e, hF, bumpL_snoc]
          rw [hF] at ih hon
          rw [endS_append, lwS_append] at hon
          simp only [endS, lwS] at hon
          have hnf := (NF_append g [x] 0 none).1 ih.nf
          obtain ⟨g1, x1, x2, x3, x4, _⟩ := hnf
          have hx2 : x.f2 = (what n == 2) := by have := hon.2; injection this with this; rw [this, ← h1]
          refine ⟨(NF_append g [bumpS x] 0 none).2 ⟨g1, x1, x2, by show 1 ≤ x.f1 + 1; omega, by show x.f0 + (x.f1 + 1) ≤ 1024; omega, trivial⟩, fun i hi => ?_, ?_, ?_, ?_⟩
          · rw [pgS_append]
            have hp := pgS_append g [x] i
            by_cases hi' : i < n
            · have h3 := ih.pg i hi'
              rw [hp] at h3
              rw [← h3]
              split
              · by_cases hc : x.f0 ≤ i ∧ (i : Int) < x.f0 + x.f1
                · rw [pgS_in hc, pgS_in (a := bumpS x) (show x.f0 ≤ i ∧ (i : Int) < x.f0 + (x.f1 + 1) by omega)]; rfl
                · rw [pgS_out hc, pgS_out (a := bumpS x) (show ¬ (x.f0 ≤ i ∧ (i : Int) < x.f0 + (x.f1 + 1)) by omega)]
              · rfl
            · have : i = n := by omega
              subst this
              have hg : pgS g i = 0 := pgS_end g1 (by omega)
              rw [if_pos hg, pgS_in (a := bumpS x) (show x.f0 ≤ i ∧ (i : Int) < x.f0 + (x.f1 + 1) by omega)]
              show wv x.f2 = what i
              rw [hx2, hwn]
          · rw [endS_append]; simp only [endS, bumpS]; omega
          · intro _
            rw [endS_append, lwS_append]
            simp only [endS, lwS, bumpS]
            exact ⟨by omega, by rw [hx2, hl]⟩
          · intro h; exact absurd (hl.symm.trans h) h0
      · have e : formL what (n + 1) = formL what n ++ [⟨n, 1, what n == 2⟩] := by conv => lhs; unfold formL; rw [if_neg h0, if_neg h1]
        rw [e]
        refine ⟨(NF_append _ _ 0 none).2 ⟨ih.nf, ih.le, fun he => ?_, by show (1 : Int) ≤ 1; omega, by show (n : Int) + 1 ≤ 1024; omega, trivial⟩, fun i hi => ?_, ?_, ?_, ?_⟩
        · show lwS none (formL what n) ≠ some (what n == 2)
          by_cases hz : lastF what n = 0
          · rcases ih.off hz with h | h
            · simp only at he; omega
            · rw [h]; exact fun h => by cases h
          · rw [(ih.on hz).2]
            intro hs
            injection hs with hs
            have h2 : lastF what n = 0 ∨ lastF what n = 1 ∨ lastF what n = 2 := by
              cases n with
              | zero => exact .inl rfl
              | succ m => exact hw m
            exact h1 (by rw [← hwn, ← hs, wv_of h2 hz])
        · rw [pgS_append]
          by_cases hi' : i < n
          · rw [ih.pg i hi']
            split
            · rename_i h3
              rw [h3]
              simp only [pgS]
              rw [if_neg (by omega)]
            · rfl
          · have : i = n := by omega
            subst this
            rw [if_pos (pgS_end ih.nf ih.le)]
            simp only [pgS]
            rw [if_pos (by omega), hwn]
        · rw [endS_append]; simp only [endS]; omega
        · intro _
          rw [endS_append, lwS_append]
          simp only [endS, lwS]
          exact ⟨by omega, by rw [hl]⟩
        · intro h; exact absurd (hl.symm.trans h) h0
theorem form_of {what : Nat → Int} (hw : ∀ n, what n = 0 ∨ what n = 1 ∨ what n = 2) {m : List S24} (hm : NF 0 none m) (hp : ∀ n, n < 1024 → pgS m n = what n) : formL what 1024 = m := by
  have h := formL_FI what hw 1024 (Nat.le_refl _)
  exact NF_uniq _ _ 0 none (Int.le_refl _) h.nf hm (fun n _ hn => (h.pg n hn).trans (hp n hn).symm)
def fewR (m : List S24) : List S24 × Int := if m.length > 8 then ([], 3) else (m, 0)
theorem formR_of {what : Nat → Int} (hw : ∀ n, what n = 0 ∨ what n = 1 ∨ what n = 2) {m : List S24} (hm : NF 0 none m) (hp : ∀ n, n < 1024 → pgS m n = what n) : formR what = fewR m := by
  unfold formR fewR
  rw [form_of hw hm hp]
theorem wv_cases (b : Bool) : wv b = 0 ∨ wv b = 1 ∨ wv b = 2 := by cases b <;> simp [wv]
theorem pgF_cases (l : List S24) (n : Nat) : pgF l n = 0 ∨ pgF l n = 1 ∨ pgF l n = 2 := by
  have : ∀ (l : List S24) (f : Nat → Int), (∀ n, f n = 0 ∨ f n = 1 ∨ f n = 2) → ∀ n, (l.foldl (fun f a => fill f a.f0 a.f1 (wv a.f2)) f) n = 0 ∨ (l.foldl (fun f a => fill f a.f0 a.f1 (wv a.f2)) f) n = 1 ∨ (l.foldl (fun f a => fill f a.f0 a.f1 (wv a.f2)) f) n = 2 := by
    intro l
    induction l with
    | nil => intro f h n; exact h n
    | cons a r ih =>
      intro f h n
      refine ih _ (fun m => ?_) n
      show fill f a.f0 a.f1 (wv a.f2) m = 0 ∨ fill f a.f0 a.f1 (wv a.f2) m = 1 ∨ fill f a.f0 a.f1 (wv a.f2) m = 2
      unfold fill
      split
      · exact wv_cases a.f2
      · exact h m
  exact this l _ (fun _ => .inl rfl) n
theorem both_cases (l m : List S24) (n : Nat) : both (pgF l) (pgF m) n = 0 ∨ both (pgF l) (pgF m) n = 1 ∨ both (pgF l) (pgF m) n = 2 := by
  unfold both mx
  split
  · exact pgF_cases m n
  · exact pgF_cases l n
theorem chg_cases {f : Nat → Int} (hf : ∀ n, f n = 0 ∨ f n = 1 ∨ f n = 2) {a b t : Int} (ht : t = 0 ∨ t = 1 ∨ t = 2) (n : Nat) : chg f a b t n = 0 ∨ chg f a b t n = 1 ∨ chg f a b t n = 2 := by
  unfold chg
  split
  · exact ht
  · exact hf n
def foldW : List S24 → List S24 → S24 → List S24 × S24
  | [], out, a => (out, a)
  | x :: r, out, a => if x.f2 = a.f2 ∧ x.f0 + x.f1 = a.f0 then foldW r out ⟨x.f0, x.f1 + a.f1, a.f2⟩
    else if x.f2 = a.f2 ∧ a.f0 + a.f1 = x.f0 then foldW r out ⟨a.f0, a.f1 + x.f1, a.f2⟩ else foldW r (out ++ [x]) a
def insW (out : List S24) (a : S24) : List S24 := out.takeWhile (fun x => decide (x.f0 < a.f0)) ++ a :: out.dropWhile (fun x => decide (x.f0 < a.f0))
def withP (l : List S24) (a : S24) : List S24 := insW (foldW l [] a).1 (foldW l [] a).2
theorem foldW_append : ∀ (p s out : List S24) (a : S24), foldW (p ++ s) out a = foldW s (foldW p out a).1 (foldW p out a).2
  | [], s, out, a => rfl
  | x :: p, s, out, a => by
    simp only [List.cons_append, foldW]
    split
    · exact foldW_append p s _ _
    · split
      · exact foldW_append p s _ _
      · exact foldW_append p s _ _
theorem foldW_out {a : S24} : ∀ (l out : List S24), (∀ x ∈ l, x.f0 + x.f1 ≠ a.f0 ∧ (x.f2 = a.f2 → a.f0 + a.f1 ≠ x.f0)) → foldW l out a = (out ++ l, a)
  | [], out, _ => by simp [foldW]
  | x :: r, out, h => by
    have hx := h x List.mem_cons_self
    unfold foldW
    rw [if_neg (fun hc => hx.1 hc.2), if_neg (fun hc => hx.2 hc.1 hc.2), foldW_out r _ (fun y hy => h y (List.mem_cons_of_mem _ hy))]
    simp
theorem insW_mid {p s : List S24} {a : S24} (hp : ∀ x ∈ p, x.f0 < a.f0) (hs : ∀ x ∈ s, a.f0 ≤ x.f0) : insW (p ++ s) a = p ++ a :: s := by
  unfold insW
  have h1 : ∀ (p : List S24), (∀ x ∈ p, x.f0 < a.f0) → (p ++ s).takeWhile (fun x => decide (x.f0 < a.f0)) = p ∧ (p ++ s).dropWhile (fun x => decide (x.f0 < a.f0)) = s := by
    intro p
    induction p with
    | nil =>
      intro _
      cases s with
      | nil => simp
      | cons y t =>
        have : decide (y.f0 < a.f0) = false := decide_eq_false (by have := hs y List.mem_cons_self; omega)
        simp [this]
    | cons x p ih =>
      intro h
      have hx : decide (x.f0 < a.f0) = true := decide_eq_true (h x List.mem_cons_self)
      have := ih (fun y hy => h y (List.mem_cons_of_mem _ hy))
      simp [List.takeWhile_cons, List.dropWhile_cons, hx, this.1, this.2]
  rw [(h1 p hp).1, (h1 p hp).2]
/-- l in two: what ends ahead of a, what begins behind it. -/
theorem split_at {l : List S24} {e : Int} {lw : Option Bool} {a : S24} (hl : NF e lw l) (ha : 1 ≤ a.f1) (hd : ∀ x ∈ l, ¬ (x.f0 < a.f0 + a.f1 ∧ a.f0 < x.f0 + x.f1)) :
    ∃ p s, l = p ++ s ∧ (∀ x ∈ p, x.f0 + x.f1 ≤ a.f0) ∧ (∀ x ∈ s, a.f0 + a.f1 ≤ x.f0) := by
  induction l generalizing e lw with
  | nil => exact ⟨[], [], rfl, (fun _ h => by cases h), (fun _ h => by cases h)⟩
  | cons x r ih =>
    obtain ⟨h1, h2, h3, h4, h5⟩ := hl
    have hx := hd x List.mem_cons_self
    by_cases hc : x.f0 + x.f1 ≤ a.f0
    · obtain ⟨p, s, e1, hp, hs⟩ := ih h5 (fun y hy => hd y (List.mem_cons_of_mem _ hy))
      refine ⟨x :: p, s, by rw [e1]; rfl, fun y hy => ?_, hs⟩
      rcases List.mem_cons.1 hy with rfl | hy
      · exact hc
      · exact hp y hy
    · refine ⟨[], x :: r, rfl, (fun _ h => by cases h), fun y hy => ?_⟩
      rcases List.mem_cons.1 hy with rfl | hy
      · omega
      · have := (NF_ge h5 y hy).1
        omega
theorem with_left {p : List S24} {a : S24} (hp : NF 0 none p) (ha : Fit a) (hle : ∀ x ∈ p, x.f0 + x.f1 ≤ a.f0) (out : List S24) :
    ∃ p' a', foldW p out a = (out ++ p', a') ∧ NF 0 none (p' ++ [a']) ∧ (∀ n, pgS (p' ++ [a']) n = pgS (p ++ [a]) n) ∧ a'.f0 + a'.f1 = a.f0 + a.f1 ∧ a'.f2 = a.f2 ∧ (∀ x ∈ p', x.f0 < a'.f0) := by
  obtain ⟨ha0, ha1, ha2⟩ := ha
  rcases nil_or_snoc p with rfl | ⟨q, x, rfl⟩
  · exact ⟨[], a, by simp [foldW], ⟨ha0, (fun _ h => by cases h), ha1, ha2, trivial⟩, fun n => rfl, rfl, rfl, (fun _ h => by cases h)⟩
  · have hx := hle x (by simp)
    obtain ⟨hq, x1, x2, x3, x4, _⟩ := (NF_append q [x] 0 none).1 hp
    have hqe : ∀ y ∈ q, y.f0 + y.f1 ≤ x.f0 := fun y hy => by have := (endS_ge hq).2.1 y hy; omega
    have hq1 : ∀ y ∈ q, 1 ≤ y.f1 := fun y hy => (NF_ge hq y hy).2.1
    rw [foldW_append, foldW_out q out (fun y hy => ⟨by have := hqe y hy; omega, fun _ => by have := hqe y hy; have := hq1 y hy; omega⟩)]
    simp only [foldW]
    by_cases hc : x.f2 = a.f2 ∧ x.f0 + x.f1 = a.f0
    · rw [if_pos hc]
      refine ⟨q, ⟨x.f0, x.f1 + a.f1, a.f2⟩, rfl, (NF_append q _ 0 none).2 ⟨hq, x1, ?_, by show 1 ≤ x.f1 + a.f1; omega, by show x.f0 + (x.f1 + a.f1) ≤ 1024; omega, trivial⟩, fun n => ?_, by show x.f0 + (x.f1 + a.f1) = _; omega, rfl, fun y hy => by show y.f0 < x.f0; have := hqe y hy; have := hq1 y hy; omega⟩
      · show endS 0 q = x.f0 → lwS none q ≠ some a.f2
        rw [← hc.1]; exact x2
      · rw [List.append_assoc, pgS_append, pgS_append q]
        split
        · by_cases h1 : x.f0 ≤ n ∧ (n : Int) < x.f0 + x.f1
          · rw [pgS_in (a := ⟨x.f0, x.f1 + a.f1, a.f2⟩) (show x.f0 ≤ n ∧ (n : Int) < x.f0 + (x.f1 + a.f1) by omega)]
            show _ = pgS (x :: [a]) n
            rw [pgS_in h1, hc.1]
          · show _ = pgS (x :: [a]) n
            rw [pgS_out h1]
            by_cases h2 : a.f0 ≤ n ∧ (n : Int) < a.f0 + a.f1
            · rw [pgS_in h2, pgS_in (a := ⟨x.f0, x.f1 + a.f1, a.f2⟩) (show x.f0 ≤ n ∧ (n : Int) < x.f0 + (x.f1 + a.f1) by omega)]
            · rw [pgS_out h2, pgS_out (a := ⟨x.f0, x.f1 + a.f1, a.f2⟩) (show ¬ (x.f0 ≤ n ∧ (n : Int) < x.f0 + (x.f1 + a.f1)) by omega)]
        · rfl
    · rw [if_neg hc, if_neg (fun h => by omega)]
      refine ⟨q ++ [x], a, by simp, (NF_append (q ++ [x]) [a] 0 none).2 ⟨hp, ?_, ?_, ha1, ha2, trivial⟩, fun n => rfl, rfl, rfl, fun y hy => by have := hle y hy; have := (NF_ge hp y hy).2.1; omega⟩
      · rw [endS_append]; exact hx
      · rw [endS_append, lwS_append]
        show x.f0 + x.f1 = a.f0 → some x.f2 ≠ some a.f2
        intro h1 h2
        injection h2 with h2
        exact hc ⟨h2, h1⟩
theorem with_right {P s : List S24} {A : S24} {e : Int} {lw : Option Bool} (hP : NF 0 none (P ++ [A])) (hs : NF e lw s) (hge : ∀ x ∈ s, A.f0 + A.f1 ≤ x.f0) (hlt : ∀ x ∈ P, x.f0 < A.f0) (out : List S24) :
    ∃ s' A', foldW s out A = (out ++ s', A') ∧ NF 0 none (P ++ A' :: s') ∧ (∀ n, pgS (P ++ A' :: s') n = pgS (P ++ A :: s) n) ∧ A'.f0 = A.f0 ∧ (∀ x ∈ s', A'.f0 ≤ x.f0) := by
  obtain ⟨hP0, A1, A2, A3, A4, _⟩ := (NF_append P [A] 0 none).1 hP
  cases s with
  | nil => exact ⟨[], A, by simp [foldW], by simpa using hP, fun n => rfl, rfl, (fun _ h => by cases h)⟩
  | cons y t =>
    obtain ⟨y1, y2, y3, y4, y5⟩ := hs
    have hy := hge y List.mem_cons_self
    have ht : ∀ z ∈ t, y.f0 + y.f1 ≤ z.f0 := fun z hz => (NF_ge y5 z hz).1
    unfold foldW
    rw [if_neg (fun h => by omega)]
    by_cases hc : y.f2 = A.f2 ∧ A.f0 + A.f1 = y.f0
    · rw [if_pos hc]
      have hz : ∀ z ∈ t, z.f0 + z.f1 ≠ A.f0 ∧ (z.f2 = A.f2 → A.f0 + (A.f1 + y.f1) ≠ z.f0) := fun z hz => by
        have h1 := ht z hz
        have h2 := (NF_ge y5 z hz).2.1
        refine ⟨by omega, fun hw he => ?_⟩
        cases t with
        | nil => cases hz
        | cons u v =>
          obtain ⟨u1, u2, u3, u4, u5⟩ := y5
          rcases List.mem_cons.1 hz with rfl | hz
          · exact u2 (by omega) (by rw [hw, hc.1])
          · have := (NF_ge u5 z hz).1; omega
      rw [foldW_out (a := ⟨A.f0, A.f1 + y.f1, A.f2⟩) t out hz]
      refine ⟨t, ⟨A.f0, A.f1 + y.f1, A.f2⟩, rfl, (NF_append P _ 0 none).2 ⟨hP0, A1, A2, by show 1 ≤ A.f1 + y.f1; omega, by show A.f0 + (A.f1 + y.f1) ≤ 1024; omega, ?_⟩, fun n => ?_, rfl, fun z hz => by show A.f0 ≤ z.f0; have := ht z hz; omega⟩
      · show NF (A.f0 + (A.f1 + y.f1)) (some A.f2) t
        rw [show A.f0 + (A.f1 + y.f1) = y.f0 + y.f1 by omega, ← hc.1]
        exact y5
      · rw [pgS_append, pgS_append P]
        split
        · by_cases h1 : A.f0 ≤ n ∧ (n : Int) < A.f0 + A.f1
          · rw [pgS_in h1, pgS_in (a := ⟨A.f0, A.f1 + y.f1, A.f2⟩) (show A.f0 ≤ n ∧ (n : Int) < A.f0 + (A.f1 + y.f1) by omega)]
          · rw [pgS_out h1]
            by_cases h2 : y.f0 ≤ n ∧ (n : Int) < y.f0 + y.f1
            · rw [pgS_in h2, pgS_in (a := ⟨A.f0, A.f1 + y.f1, A.f2⟩) (show A.f0 ≤ n ∧ (n : Int) < A.f0 + (A.f1 + y.f1) by omega), hc.1]
            · rw [pgS_out h2, pgS_out (a := ⟨A.f0, A.f1 + y.f1, A.f2⟩) (show ¬ (A.f0 ≤ n ∧ (n : Int) < A.f0 + (A.f1 + y.f1)) by omega)]
        · rfl
    · rw [if_neg hc, foldW_out t (out ++ [y]) (fun z hz => by have h1 := ht z hz; have h2 := (NF_ge y5 z hz).2.1; exact ⟨by omega, fun _ => by omega⟩)]
      refine ⟨y :: t, A, by simp, (NF_append P _ 0 none).2 ⟨hP0, A1, A2, A3, A4, hy, fun he hw => ?_, y3, y4, y5⟩, fun n => rfl, rfl, fun z hz => ?_⟩
      · injection hw with hw
        exact hc ⟨hw.symm, he⟩
      · have := hge z hz; omega
theorem with_spec {l : List S24} {a : S24} (hl : NF 0 none l) (ha : Fit a) (hd : ∀ x ∈ l, ¬ (x.f0 < a.f0 + a.f1 ∧ a.f0 < x.f0 + x.f1)) :
    NF 0 none (withP l a) ∧ ∀ n : Nat, pgS (withP l a) n = if a.f0 ≤ n ∧ (n : Int) < a.f0 + a.f1 then wv a.f2 else pgS l n := by
  obtain ⟨p, s, rfl, hp, hs⟩ := split_at hl ha.2.1 hd
  obtain ⟨hp0, hs0⟩ := (NF_append p s 0 none).1 hl
  obtain ⟨p', a', e1, n1, g1, end1, w1, lt1⟩ := with_left hp0 ha hp []
  obtain ⟨s', A', e2, n2, g2, st2, ge2⟩ := with_right n1 hs0 (fun x hx => by rw [end1]; exact hs x hx) lt1 p'
  have hW : withP (p ++ s) a = p' ++ A' :: s' := by
    unfold withP
    rw [foldW_append, e1]
    simp only [List.nil_append]
    rw [e2]
    exact insW_mid (fun x hx => by rw [st2]; exact lt1 x hx) ge2
  rw [hW]
  refine ⟨n2, fun n => ?_⟩
  rw [g2 n, show p' ++ a' :: s = (p' ++ [a']) ++ s by simp, pgS_append, g1 n, ← pgS_append]
  rw [show p ++ [a] ++ s = p ++ a :: s by simp, pgS_append, pgS_append]
  by_cases hc : a.f0 ≤ n ∧ (n : Int) < a.f0 + a.f1
  · rw [pgS_in hc, if_pos hc, pgS_none (l := p) (fun x hx h => by have := hp x hx; omega), if_pos rfl]
  · rw [pgS_out hc, if_neg hc]
theorem rcheck_l0 (l : List S24) (hl : l.length ≤ 8) : ∀ (d k i : Nat), i + d = l.length → d < k → (∀ j, j < i → okAt l j = true) → prioryref14_Check.l0 k l i = some (chk l) := by
  intro d
  induction d with
  | zero =>
    intro k i hi hk hj
    obtain ⟨k, rfl⟩ : ∃ m, k = m + 1 := ⟨k - 1, by omega⟩
    simp only [prioryref14_Check.l0]
    rw [if_neg (by omega)]
    have : okB l = true := by
      unfold okB
      rw [decide_eq_true hl, Bool.true_and, List.all_eq_true]
      intro j hj2; exact hj j (by have := List.mem_range.1 hj2; omega)
    unfold chk; rw [if_pos this]
  | succ d ih =>
    intro k i hi hk hj
    obtain ⟨k, rfl⟩ : ∃ m, k = m + 1 := ⟨k - 1, by omega⟩
    simp only [prioryref14_Check.l0]
    have hlt : (i : Int) < (l.length : Int) := by omega
    rw [if_pos hlt, if_pos (by omega), rfits_eq, rd_ar, Option.bind_some]
    have bad : okAt l i = false → chk l = 2 := by
      intro h
      have : okB l = false := by
        unfold okB
        rw [decide_eq_true hl, Bool.true_and, List.all_eq_false]
        exact ⟨i, List.mem_range.2 (by omega), by rw [h]; decide⟩
      unfold chk; rw [this]; rfl
    have good : okAt l i = true → prioryref14_Check.l0 k l (wrap64 ((i : Int) + 1)) = some (chk l) := by
      intro h
      rw [wrap_id (by omega)]
      refine ih k (i + 1) (by omega) (by omega) (fun j hj2 => ?_)
      by_cases e : j = i
      · rw [e]; exact h
      · exact hj j (by omega)
    cases hf : fitB (ar l i).f0 (ar l i).f1 with
    | false =>
      rw [if_neg (by decide), bad (by unfold okAt; rw [hf]; rfl)]
    | true =>
      rw [if_pos rfl]
      by_cases h0 : i = 0
      · rw [if_neg (by omega)]
        exact good (by unfold okAt; rw [hf, h0]; rfl)
      · rw [if_pos (by omega)]
        have hw : wrap64 ((i : Int) - 1) = ((i - 1 : Nat) : Int) := by rw [wrap_id (by omega)]; omega
        rw [hw, rd_ar, if_pos (by omega), if_pos (by omega)]
        have hp := hj (i - 1) (by omega)
        unfold okAt at hp
        rw [Bool.and_eq_true] at hp
        have hp1 := fitB_iff.1 hp.1
        rw [wrap_id (x := (ar l (i - 1)).f0 + (ar l (i - 1)).f1) (by omega)]
        have hk0 : (i == 0) = false := beq_eq_false_iff_ne.2 h0
        have hok : okAt l i = gapB (ar l (i - 1)) (ar l i) := by unfold okAt; rw [hf, hk0]; simp
        by_cases g1 : (ar l i).f0 < (ar l (i - 1)).f0 + (ar l (i - 1)).f1
        · rw [if_pos g1, bad (by rw [hok]; unfold gapB; exact decide_eq_false (by omega))]
        · rw [if_neg g1]
          by_cases g2 : (ar l i).f0 = (ar l (i - 1)).f0 + (ar l (i - 1)).f1
          · rw [if_pos g2]
            cases hb : ((ar l i).f2 == (ar l (i - 1)).f2) with
            | true =>
              rw [if_pos rfl, bad (by rw [hok]; unfold gapB; exact decide_eq_false (fun h => by rcases h with h | h; omega; exact h.2 (beq_iff_eq.1 hb)))]
            | false =>
              rw [if_neg (by decide)]
              exact good (by rw [hok]; unfold gapB; exact decide_eq_true (.inr ⟨g2.symm, fun e => by rw [e] at hb; simp at hb⟩))
          · rw [if_neg g2]
            exact good (by rw [hok]; unfold gapB; exact decide_eq_true (.inl (by omega)))
theorem rcheck_tot (l : List S24) (k : Nat) (hk : 9 ≤ k) : prioryref14_Check.f k l = some (chk l) := by
  unfold prioryref14_Check.f
  by_cases h : (l.length : Int) > 8
  · rw [if_pos h]
    have : okB l = false := by unfold okB; rw [decide_eq_false (by omega)]; rfl
    unfold chk; rw [this]; rfl
  · rw [if_neg h]
    exact rcheck_l0 l (by omega) l.length k 0 (by omega) (by omega) (fun j hj => by omega)
theorem chk_cases (l : List S24) : (okB l = true ∧ chk l = 0) ∨ (okB l = false ∧ chk l = 2) := by
  unfold chk
  cases okB l with
  | true => exact .inl ⟨rfl, rfl⟩
  | false => exact .inr ⟨rfl, rfl⟩
/-- The first area that has the page. -/
def findL : List S24 → Int → Bool × Bool
  | [], _ => (false, false)
  | a :: r, n => if a.f0 ≤ n ∧ n < a.f0 + a.f1 then (a.f2, true) else findL r n
def findR (l : List S24) (n : Int) : Bool × Bool := if okB l = true then findL l n else (false, false)
theorem findL_pg (l : List S24) (n : Nat) : findL l n = if pgS l n = 0 then (false, false) else (pgS l n == 2, true) := by
  induction l with
  | nil => rfl
  | cons a r ih =>
    by_cases hc : a.f0 ≤ n ∧ (n : Int) < a.f0 + a.f1
    · rw [pgS_in hc, if_neg (wv_ne _), wv_two]
      unfold findL
      rw [if_pos hc]
    · rw [pgS_out hc, ← ih]
      show (if _ then _ else _) = _
      rw [if_neg hc]
theorem drop_cons {l : List S24} {i : Nat} (h : i < l.length) : l.drop i = ar l i :: l.drop (i + 1) := by
  rw [List.drop_eq_getElem_cons h]
  simp [ar, List.getD_eq_getElem?_getD, h]
theorem ar_mem {l : List S24} {i : Nat} (h : i < l.length) : ar l i ∈ l := by
  have : ar l i = l[i] := by simp [ar, List.getD_eq_getElem?_getD, h]
  rw [this]; exact List.getElem_mem h
theorem rfind_l0 (l : List S24) (n : Int) (hf : ∀ a ∈ l, Fit a) (hlen : l.length ≤ 1000) : ∀ (d k i : Nat), i + d = l.length → d < k → prioryref14_Find.l0 k l n i = some (findL (l.drop i) n) := by
  intro d
  induction d with
  | zero =>
    intro k i hi hk
    obtain ⟨k, rfl⟩ : ∃ m, k = m + 1 := ⟨k - 1, by omega⟩
    simp only [prioryref14_Find.l0]
    rw [if_neg (by omega), List.drop_eq_nil_of_le (by omega)]
    rfl
  | succ d ih =>
    intro k i hi hk
    obtain ⟨k, rfl⟩ : ∃ m, k = m + 1 := ⟨k - 1, by omega⟩
    have hil : i < l.length := by omega
    have hfa := hf _ (ar_mem hil)
    obtain ⟨f0, f1, f2⟩ := hfa
    simp only [prioryref14_Find.l0]
    rw [if_pos (by omega), if_pos (by omega), rd_ar, wrap_id (x := (ar l i).f0 + (ar l i).f1) (by omega), wrap_id (by omega), drop_cons hil]
    have hr := ih k (i + 1) (by omega) (by omega)
    show _ = some (if _ then _ else _)
    by_cases h1 : (ar l i).f0 ≤ n
    · rw [if_pos h1]
      by_cases h2 : n < (ar l i).f0 + (ar l i).f1
      · rw [if_pos h2, if_pos ⟨h1, h2⟩]
      · rw [if_neg h2, if_neg (fun h => h2 h.2)]
        exact hr
    · rw [if_neg h1, if_neg (fun h => h1 h.1)]
      exact hr
theorem rfind_tot (l : List S24) (n : Int) (k : Nat) (hk : 9 ≤ k) : prioryref14_Find.f k l n = some (findR l n) := by
  unfold prioryref14_Find.f findR
  rw [rcheck_tot l k hk, Option.bind_some]
  rcases chk_cases l with ⟨h1, h2⟩ | ⟨h1, h2⟩
  · rw [h2, if_pos rfl, if_pos h1]
    have h8 := ((okB_iff l).1 h1).1
    exact rfind_l0 l n (okB_fit h1) (by omega) l.length k 0 (by omega) (by omega)
  · rw [h2, if_neg (by decide), h1, if_neg (by decide)]
theorem find_l0 (l : List S24) (n : Int) (hf : ∀ a ∈ l, Fit a) (hlen : l.length ≤ 1000) : ∀ (d k i : Nat), i + d = l.length → d < k → region_Find.l0 k n l (l.length : Int) i = some (findL (l.drop i) n) := by
  intro d
  induction d with
  | zero =>
    intro k i hi hk
    obtain ⟨k, rfl⟩ : ∃ m, k = m + 1 := ⟨k - 1, by omega⟩
    simp only [region_Find.l0]
    rw [if_neg (by omega), List.drop_eq_nil_of_le (by omega)]
    rfl
  | succ d ih =>
    intro k i hi hk
    obtain ⟨k, rfl⟩ : ∃ m, k = m + 1 := ⟨k - 1, by omega⟩
    have hil : i < l.length := by omega
    have hfa := hf _ (ar_mem hil)
    obtain ⟨f0, f1, f2⟩ := hfa
    simp only [region_Find.l0]
    have hlt : (i : Int) < (l.length : Int) := by omega
    rw [if_pos hlt, if_pos (by omega), if_pos hlt, rd_ar, wrap_id (x := (ar l i).f0 + (ar l i).f1) (by omega), wrap_id (by omega), drop_cons hil]
    have hr := ih k (i + 1) (by omega) (by omega)
    show _ = some (if _ then _ else _)
    by_cases h1 : (ar l i).f0 ≤ n
    · rw [if_pos h1]
      by_cases h2 : n < (ar l i).f0 + (ar l i).f1
      · rw [if_pos h2, if_pos ⟨h1, h2⟩]
      · rw [if_neg h2, if_neg (fun h => h2 h.2)]
        exact hr
    · rw [if_neg h1, if_neg (fun h => h1 h.1)]
      exact hr
theorem find_tot (l : List S24) (n : Int) (k : Nat) (hk : 9 ≤ k) : region_Find.f k l n = some (findR l n) := by
  unfold region_Find.f findR
  rw [check_tot l k hk, Option.bind_some]
  rcases chk_cases l with ⟨h1, h2⟩ | ⟨h1, h2⟩
  · rw [h2, if_pos rfl, if_pos h1]
    have h8 := ((okB_iff l).1 h1).1
    exact find_l0 l n (okB_fit h1) (by omega) l.length k 0 (by omega) (by omega)
  · rw [h2, if_neg (by decide), h1, if_neg (by decide)]
theorem rcov_l0 (l : List S24) (hb : okB l = true) (a b : Int) (ha : 0 ≤ a) (hb1 : a + b ≤ 1024) : ∀ (d k i : Nat), (i : Int) + d = b → d + 9 < k → (∀ j : Nat, j < i → pgF l (a.toNat + j) ≠ 0) → prioryref14_Covers.l0 k l a b (a + i) = some (covB l a b) := by
  have hnf := ((okB_iff l).1 hb).2
  intro d
  induction d with
  | zero =>
    intro k i hi hk hj
    obtain ⟨k, rfl⟩ : ∃ m, k = m + 1 := ⟨k - 1, by omega⟩
    simp only [prioryref14_Covers.l0]
    rw [wrap_id (x := a + b) (by omega), if_neg (by omega), covB_true (fun j hj2 => hj j (by omega))]
  | succ d ih =>
    intro k i hi hk hj
    obtain ⟨k, rfl⟩ : ∃ m, k = m + 1 := ⟨k - 1, by omega⟩
    simp only [prioryref14_Covers.l0]
    rw [wrap_id (x := a + b) (by omega), if_pos (by omega), rfind_tot l _ k (by omega), Option.bind_some]
    have hn : a + (i : Int) = ((a.toNat + i : Nat) : Int) := by omega
    unfold findR
    rw [if_pos hb, hn, findL_pg, ← pgF_eq hnf]
    by_cases h0 : pgF l (a.toNat + i) = 0
    · rw [if_pos h0, if_neg (by decide), covB_false i (by omega) h0]
    · rw [if_neg h0, if_pos rfl, wrap_id (by omega)]
      have := ih k (i + 1) (by omega) (by omega) (fun j hj2 => by
        by_cases e : j = i
        · rw [e]; exact h0
        · exact hj j (by omega))
      rw [← this]
      congr 1
      omega
theorem rcov_tot (l : List S24) (a b : Int) (k : Nat) (hk : 2000 ≤ k) : prioryref14_Covers.f k l a b = some (covR l a b) := by
  unfold prioryref14_Covers.f covR
  obtain ⟨k, rfl⟩ : ∃ m, k = m + 1 := ⟨k - 1, by omega⟩
  rw [rcheck_tot l _ (by omega), Option.bind_some]
  rcases chk_cases l with ⟨h1, h2⟩ | ⟨h1, h2⟩
  · rw [h2, if_pos rfl, rfits_eq, Option.bind_some, h1, Bool.true_and]
    cases hf : fitB a b with
    | false => simp [prioryref14_Covers.j0]
    | true =>
      obtain ⟨g0, g1, g2, g3⟩ := fitB_iff.1 hf
      simp only [prioryref14_Covers.j0, Bool.not_true, Bool.false_eq_true, if_false, Bool.true_and]
      have := rcov_l0 l h1 a b g0 (by omega) b.toNat k 0 (by omega) (by omega) (fun j hj => by omega)
      simpa using this
  · rw [h2, if_neg (by decide), h1]
    simp [prioryref14_Covers.j0]
def outP (a : S24) (b m : Int) : List S24 :=
  (if a.f0 < b then [⟨a.f0, mn (a.f0 + a.f1) b - a.f0, a.f2⟩] else []) ++ (if a.f0 + a.f1 > b + m then [⟨mx a.f0 (b + m), a.f0 + a.f1 - mx a.f0 (b + m), a.f2⟩] else [])
def lessP : List S24 → Int → Int → List S24
  | [], _, _ => []
  | a :: r, b, m => outP a b m ++ lessP r b m
theorem NF_weak : ∀ {l : List S24} {e e' : Int} {lw lw' : Option Bool}, NF e lw l → e' < e → NF e' lw' l
  | [], _, _, _, _, _, _ => trivial
  | a :: r, e, e', lw, lw', ⟨h1, h2, h3, h4, h5⟩, h => ⟨by omega, (fun he => by omega), h3, h4, h5⟩
theorem less_spec : ∀ (l : List S24) (e : Int) (lw : Option Bool) (b m : Int), 1 ≤ m → NF e lw l → NF e lw (lessP l b m) ∧ ∀ n : Nat, pgS (lessP l b m) n = if b ≤ n ∧ (n : Int) < b + m then 0 else pgS l n
  | [], e, lw, b, m, _, _ => ⟨trivial, fun n => by simp [lessP, pgS]⟩
  | a :: r, e, lw, b, m, hm, ⟨h1, h2, h3, h4, h5⟩ => by
    obtain ⟨i1, i2⟩ := less_spec r _ _ b m hm h5
    have pg : ∀ n : Nat, pgS (lessP (a :: r) b m) n = if pgS (outP a b m) n = 0 then pgS (lessP r b m) n else pgS (outP a b m) n := fun n => pgS_append _ _ n
    have hcons : ∀ n : Nat, pgS (a :: r) n = if a.f0 ≤ n ∧ (n : Int) < a.f0 + a.f1 then wv a.f2 else pgS r n := fun n => rfl
    show NF e lw (outP a b m ++ lessP r b m) ∧ _
    by_cases c1 : a.f0 < b
    · by_cases c2 : a.f0 + a.f1 > b + m
      · have ho : outP a b m = [⟨a.f0, b - a.f0, a.f2⟩, ⟨b + m, a.f0 + a.f1 - (b + m), a.f2⟩] := by
          unfold outP mn mx
          rw [if_pos c1, if_pos c2, if_pos (by omega), if_pos (by omega)]; rfl
        refine ⟨?_, fun n => ?_⟩
        · rw [ho]
          refine ⟨h1, h2, by show 1 ≤ b - a.f0; omega, by show a.f0 + (b - a.f0) ≤ 1024; omega, by show a.f0 + (b - a.f0) ≤ b + m; omega, fun he => by simp only at he; omega, by show 1 ≤ a.f0 + a.f1 - (b + m); omega, by show b + m + (a.f0 + a.f1 - (b + m)) ≤ 1024; omega, ?_⟩
          show NF (b + m + (a.f0 + a.f1 - (b + m))) (some a.f2) _
          rw [show b + m + (a.f0 + a.f1 - (b + m)) = a.f0 + a.f1 by omega]
          exact i1
        · rw [pg n, ho, i2 n, hcons n]
          by_cases k1 : a.f0 ≤ n ∧ (n : Int) < b
          · rw [pgS_in (a := ⟨a.f0, b - a.f0, a.f2⟩) (show a.f0 ≤ n ∧ (n : Int) < a.f0 + (b - a.f0) by omega), if_neg (wv_ne _), if_neg (by omega), if_pos (by omega)]
          · rw [pgS_out (a := ⟨a.f0, b - a.f0, a.f2⟩) (show ¬ (a.f0 ≤ n ∧ (n : Int) < a.f0 + (b - a.f0)) by omega)]
            by_cases k2 : b + m ≤ n ∧ (n : Int) < a.f0 + a.f1
            · rw [pgS_in (a := ⟨b + m, a.f0 + a.f1 - (b + m), a.f2⟩) (show b + m ≤ n ∧ (n : Int) < b + m + (a.f0 + a.f1 - (b + m)) by omega), if_neg (wv_ne _), if_neg (by omega), if_pos (by omega)]
            · rw [pgS_out (a := ⟨b + m, a.f0 + a.f1 - (b + m), a.f2⟩) (show ¬ (b + m ≤ n ∧ (n : Int) < b + m + (a.f0 + a.f1 - (b + m))) by omega)]
              show (if (0 : Int) = 0 then _ else _) = _
              rw [if_pos rfl]
              by_cases k3 : b ≤ n ∧ (n : Int) < b + m
              · rw [if_pos k3, if_pos k3]
              · rw [if_neg k3, if_neg k3, if_neg (by omega)]
      · have ho : outP a b m = [⟨a.f0, mn (a.f0 + a.f1) b - a.f0, a.f2⟩] := by
          unfold outP
          rw [if_pos c1, if_neg c2]; rfl
        have hmn : mn (a.f0 + a.f1) b = b ∧ b < a.f0 + a.f1 ∨ mn (a.f0 + a.f1) b = a.f0 + a.f1 ∧ a.f0 + a.f1 ≤ b := by unfold mn; split <;> omega
        refine ⟨?_, fun n => ?_⟩
        · rw [ho]
          refine ⟨h1, h2, by show 1 ≤ mn (a.f0 + a.f1) b - a.f0; omega, by show a.f0 + (mn (a.f0 + a.f1) b - a.f0) ≤ 1024; omega, ?_⟩
          show NF (a.f0 + (mn (a.f0 + a.f1) b - a.f0)) (some a.f2) _
          rcases hmn with ⟨q1, q2⟩ | ⟨q1, q2⟩
          · exact NF_weak i1 (by omega)
          · rw [show a.f0 + (mn (a.f0 + a.f1) b - a.f0) = a.f0 + a.f1 by omega]
            exact i1
        · rw [pg n, ho, i2 n, hcons n]
          by_cases k1 : a.f0 ≤ n ∧ (n : Int) < mn (a.f0 + a.f1) b
          · rw [pgS_in (a := ⟨a.f0, mn (a.f0 + a.f1) b - a.f0, a.f2⟩) (show a.f0 ≤ n ∧ (n : Int) < a.f0 + (mn (a.f0 + a.f1) b - a.f0) by omega), if_neg (wv_ne _), if_neg (by omega), if_pos (by omega)]
          · rw [pgS_out (a := ⟨a.f0, mn (a.f0 + a.f1) b - a.f0, a.f2⟩) (show ¬ (a.f0 ≤ n ∧ (n : Int) < a.f0 + (mn (a.f0 + a.f1) b - a.f0)) by omega)]
            show (if (0 : Int) = 0 then _ else _) = _
            rw [if_pos rfl]
            by_cases k3 : b ≤ n ∧ (n : Int) < b + m
            · rw [if_pos k3, if_pos k3]
            · rw [if_neg k3, if_neg k3, if_neg (by omega)]
    · by_cases c2 : a.f0 + a.f1 > b + m
      · have ho : outP a b m = [⟨mx a.f0 (b + m), a.f0 + a.f1 - mx a.f0 (b + m), a.f2⟩] := by
          unfold outP
          rw [if_neg c1, if_pos c2]; rfl
        have hmx : mx a.f0 (b + m) = b + m ∧ a.f0 < b + m ∨ mx a.f0 (b + m) = a.f0 ∧ b + m ≤ a.f0 := by unfold mx; split <;> omega
        refine ⟨?_, fun n => ?_⟩
        · rw [ho]
          refine ⟨by show e ≤ mx a.f0 (b + m); omega, fun he => ?_, by show 1 ≤ a.f0 + a.f1 - mx a.f0 (b + m); omega, by show mx a.f0 (b + m) + (a.f0 + a.f1 - mx a.f0 (b + m)) ≤ 1024; omega, ?_⟩
          · simp only at he
            exact h2 (by omega)
          · show NF (mx a.f0 (b + m) + (a.f0 + a.f1 - mx a.f0 (b + m))) (some a.f2) _
            rw [show mx a.f0 (b + m) + (a.f0 + a.f1 - mx a.f0 (b + m)) = a.f0 + a.f1 by omega]
            exact i1
        · rw [pg n, ho, i2 n, hcons n]
          by_cases k1 : mx a.f0 (b + m) ≤ n ∧ (n : Int) < a.f0 + a.f1
          · rw [pgS_in (a := ⟨mx a.f0 (b + m), a.f0 + a.f1 - mx a.f0 (b + m), a.f2⟩) (show mx a.f0 (b + m) ≤ n ∧ (n : Int) < mx a.f0 (b + m) + (a.f0 + a.f1 - mx a.f0 (b + m)) by omega), if_neg (wv_ne _), if_neg (by omega), if_pos (by omega)]
          · rw [pgS_out (a := ⟨mx a.f0 (b + m), a.f0 + a.f1 - mx a.f0 (b + m), a.f2⟩) (show ¬ (mx a.f0 (b + m) ≤ n ∧ (n : Int) < mx a.f0 (b + m) + (a.f0 + a.f1 - mx a.f0 (b + m))) by omega)]
            show (if (0 : Int) = 0 then _ else _) = _
            rw [if_pos rfl]
            by_cases k3 : b ≤ n ∧ (n : Int) < b + m
            · rw [if_pos k3, if_pos k3]
            · rw [if_neg k3, if_neg k3, if_neg (by omega)]
      · have ho : outP a b m = [] := by
          unfold outP
          rw [if_neg c1, if_neg c2]; rfl
        refine ⟨?_, fun n => ?_⟩
        · rw [ho]
          exact NF_weak i1 (by omega)
        · rw [pg n, ho, i2 n, hcons n]
          show (if (0 : Int) = 0 then _ else _) = _
          rw [if_pos rfl]
          by_cases k3 : b ≤ n ∧ (n : Int) < b + m
          · rw [if_pos k3, if_pos k3]
          · rw [if_neg k3, if_neg k3, if_neg (by omega)]
theorem fit_iff {a : S24} : fitB a.f0 a.f1 = true ↔ Fit a := by
  rw [fitB_iff]; unfold Fit; omega
theorem one_nf {a : S24} (ha : Fit a) : NF 0 none [a] := ⟨ha.1, (fun _ h => by cases h), ha.2.1, ha.2.2, trivial⟩
theorem pgS_one {a : S24} {n : Nat} : pgS [a] n = if a.f0 ≤ n ∧ (n : Int) < a.f0 + a.f1 then wv a.f2 else 0 := rfl
theorem pgS_mem {l : List S24} {x : S24} {n : Nat} (hx : x ∈ l) (h : x.f0 ≤ n ∧ (n : Int) < x.f0 + x.f1) : pgS l n ≠ 0 := by
  induction l with
  | nil => cases hx
  | cons a r ih =>
    unfold pgS
    split
    · exact wv_ne _
    · rename_i hc
      rcases List.mem_cons.1 hx with rfl | hx
      · exact absurd h hc
      · exact ih hx
def ov (x a : S24) : Prop := x.f0 < a.f0 + a.f1 ∧ a.f0 < x.f0 + x.f1
theorem addR_ok {l : List S24} {a : S24} (hl : okB l = true) (ha : Fit a) (hd : ∀ x ∈ l, ¬ ov x a) : addR l a = fewR (withP l a) := by
  have hnf := ((okB_iff l).1 hl).2
  have hsp := with_spec hnf ha hd
  have hno : ∀ n : Nat, a.f0 ≤ n ∧ (n : Int) < a.f0 + a.f1 → pgS l n = 0 := fun n hn =>
    pgS_none (fun x hx hc => hd x hx ⟨by omega, by omega⟩)
  have hc : clash (pgF l) (pgF [a]) = false := clash_false (fun n hn h => by
    rw [pgF_eq hnf, pgF_eq (one_nf ha), pgS_one] at h
    by_cases hin : a.f0 ≤ n ∧ (n : Int) < a.f0 + a.f1
    · exact h.1 (hno n hin)
    · rw [if_neg hin] at h; exact h.2 rfl)
  unfold addR
  rw [hl, fit_iff.2 ha, hc]
  show formR _ = _
  refine formR_of (both_cases l [a]) hsp.1 (fun n hn => ?_)
  rw [hsp.2 n]
  show _ = mx (pgF l n) (pgF [a] n)
  rw [pgF_eq hnf, pgF_eq (one_nf ha), pgS_one]
  by_cases hin : a.f0 ≤ n ∧ (n : Int) < a.f0 + a.f1
  · rw [if_pos hin, if_pos hin, hno n hin]
    cases a.f2 <;> rfl
  · rw [if_neg hin, if_neg hin]
    rcases pgS_cases l n with h | h | h <;> rw [h] <;> rfl
theorem change_form {l m : List S24} {a b t : Int} (hl : okB l = true) (hf : fitB a b = true) (hc : covB l a b = true) (ht : t = 0 ∨ t = 1 ∨ t = 2) (hm : NF 0 none m)
    (hp : ∀ n : Nat, pgS m n = if a ≤ n ∧ (n : Int) < a + b then t else pgS l n) : changeR l a b t = fewR m := by
  have hnf := ((okB_iff l).1 hl).2
  unfold changeR
  rw [hl, hf, hc]
  show formR _ = _
  refine formR_of (chg_cases (pgF_cases l) ht) hm (fun n _ => ?_)
  rw [hp n]
  unfold chg
  rw [pgF_eq hnf]
theorem setP_spec {l : List S24} {a b : Int} (w : Bool) (h1 : okB l = true) (hf : fitB a b = true) (hc : covB l a b = true) : changeR l a b (wv w) = fewR (withP (lessP l a b) ⟨a, b, w⟩) := by
  obtain ⟨h8, hnf⟩ := (okB_iff l).1 h1
  obtain ⟨g0, g1, g2, g3⟩ := fitB_iff.1 hf
  have hs := less_spec l 0 none a b g2 hnf
  have hw := with_spec (a := ⟨a, b, w⟩) hs.1 ⟨g0, g2, by show a + b ≤ 1024; omega⟩ (fun x hx ho => by
    have hx1 := NF_ge hs.1 x hx
    have o1 : x.f0 < a + b := ho.1
    have o2 : a < x.f0 + x.f1 := ho.2
    by_cases h : x.f0 ≤ a
    · refine pgS_mem (n := a.toNat) hx (by omega) ?_
      rw [hs.2, if_pos (by omega)]
    · refine pgS_mem (n := x.f0.toNat) hx (by omega) ?_
      rw [hs.2, if_pos (by omega)])
  refine change_form h1 hf hc (wv_cases w) hw.1 (fun n => ?_)
  rw [hw.2 n, hs.2 n]
  show (if a ≤ (n : Int) ∧ (n : Int) < a + b then wv w else _) = _
  split <;> rfl
def sumS : List S24 → Int
  | [] => 0
  | a :: r => a.f1 + sumS r
theorem pages_l0 (l : List S24) (hf : ∀ a ∈ l, Fit a) (hlen : l.length ≤ 1000) : ∀ (d k i : Nat) (s : Int), i + d = l.length → d < k → 0 ≤ s → s ≤ 1024 * i → region_Pages.l0 k s l (l.length : Int) i = some (s + sumS (l.drop i)) := by
  intro d
  induction d with
  | zero =>
    intro k i s hi hk hs hs2
    obtain ⟨k, rfl⟩ : ∃ m, k = m + 1 := ⟨k - 1, by omega⟩
    simp only [region_Pages.l0]
    rw [if_neg (by omega), List.drop_eq_nil_of_le (by omega)]
    simp [sumS]
  | succ d ih =>
    intro k i s hi hk hs hs2
    obtain ⟨k, rfl⟩ : ∃ m, k = m + 1 := ⟨k - 1, by omega⟩
    have hil : i < l.length := by omega
    obtain ⟨f0, f1, f2⟩ := hf _ (ar_mem hil)
    simp only [region_Pages.l0]
    have h1 : (i : Int) < (l.length : Int) := by omega
    rw [if_pos h1, if_pos (by omega), if_pos h1, rd_ar, wrap_id (by omega), wrap_id (by omega), drop_cons hil]
    rw [show ((i : Int) + 1) = ((i + 1 : Nat) : Int) by omega, ih k (i + 1) _ (by omega) (by omega) (by omega) (by omega)]
    simp only [sumS]
    congr 1; omega
def pagR (l : List S24) : Int := if okB l then sumS l else 0
theorem pages_tot (l : List S24) (k : Nat) (hk : 9 ≤ k) : region_Pages.f k l = some (pagR l) := by
  unfold region_Pages.f pagR
  rw [check_tot l k hk, Option.bind_some]
  rcases chk_cases l with ⟨h1, h2⟩ | ⟨h1, h2⟩
  · rw [h2, if_pos rfl, h1, if_pos rfl]
    have h8 := ((okB_iff l).1 h1).1
    have := pages_l0 l (okB_fit h1) (by omega) l.length k 0 0 (by omega) (by omega) (by omega) (by omega)
    simpa using this
  · rw [h2, if_neg (by decide), h1]; rfl
theorem rpages_l0 (l : List S24) (h : okB l = true) : ∀ (d k i : Nat) (s : Int), i + d = l.length → d + 9 < k → 0 ≤ s → s ≤ 1024 * i → prioryref14_Pages.l0 k l s i = some (s + sumS (l.drop i)) := by
  have h8 := ((okB_iff l).1 h).1
  have hc : chk l = 0 := by unfold chk; rw [h]; rfl
  have hf := okB_fit h
  intro d
  induction d with
  | zero =>
    intro k i s hi hk hs hs2
    obtain ⟨k, rfl⟩ : ∃ m, k = m + 1 := ⟨k - 1, by omega⟩
    simp only [prioryref14_Pages.l0]
    rw [if_neg (by omega), List.drop_eq_nil_of_le (by omega)]
    simp [sumS]
  | succ d ih =>
    intro k i s hi hk hs hs2
    obtain ⟨k, rfl⟩ : ∃ m, k = m + 1 := ⟨k - 1, by omega⟩
    have hil : i < l.length := by omega
    obtain ⟨f0, f1, f2⟩ := hf _ (ar_mem hil)
    simp only [prioryref14_Pages.l0]
    have h1 : (i : Int) < (l.length : Int) := by omega
    rw [if_pos h1, rcheck_tot l k (by omega), Option.bind_some, hc, if_pos rfl, if_pos (by omega), rd_ar, wrap_id (by omega), wrap_id (by omega), drop_cons hil]
    rw [show ((i : Int) + 1) = ((i + 1 : Nat) : Int) by omega, ih k (i + 1) _ (by omega) (by omega) (by omega) (by omega)]
    simp only [sumS]
    congr 1; omega
theorem rpages_tot (l : List S24) (k : Nat) (hk : 100 ≤ k) : prioryref14_Pages.f k l = some (pagR l) := by
  unfold prioryref14_Pages.f pagR
  rcases chk_cases l with ⟨h1, h2⟩ | ⟨h1, h2⟩
  · rw [h1, if_pos rfl]
    have h8 := ((okB_iff l).1 h1).1
    have := rpages_l0 l h1 l.length k 0 0 (by omega) (by omega) (by omega) (by omega)
    simpa using this
  · rw [h1]
    obtain ⟨k, rfl⟩ : ∃ m, k = m + 1 := ⟨k - 1, by omega⟩
    simp only [prioryref14_Pages.l0]
    rw [rcheck_tot l k (by omega), Option.bind_some, h2]
    split <;> rfl
theorem awake_add : addR [⟨3, 2, true⟩] ⟨5, 1, true⟩ = ([⟨3, 3, true⟩], 0) := by
  rw [addR_ok (by decide) ⟨by decide, by decide, by decide⟩ (fun x hx ho => ?_)]
  · rfl
  · rw [List.mem_singleton.1 hx] at ho; exact absurd ho.2 (by decide)
theorem awake_set : changeR [⟨3, 3, true⟩] 4 1 (wv false) = ([⟨3, 1, true⟩, ⟨4, 1, false⟩, ⟨5, 1, true⟩], 0) := by
  rw [setP_spec false (by decide) (by decide) (by decide)]
  rfl
theorem awake_cut : changeR [⟨3, 3, true⟩] 2 2 0 = ([], 4) := by
  unfold changeR
  rw [show okB [⟨3, 3, true⟩] = true by decide, show fitB 2 2 = true by decide, show covB [⟨3, 3, true⟩] 2 2 = false by decide]; rfl
theorem awake_tot (k : Nat) : priorylaw14_awake.f k = some true := by
  unfold priorylaw14_awake.f region_Add.f region_Set.f region_Cut.f
  rw [awake_add]
  simp only [Option.bind_some]
  rw [awake_set, awake_cut]
  rfl
theorem covers_eq (k : Nat) (hk : 9 ≤ k) (l : List S24) (a b : Int) : region_Covers.f k l a b = some (covR l a b) := by
  unfold region_Covers.f; rw [if_pos hk]
theorem law_check (k : Nat) (hk : 2200 ≤ k) (l : List S24) (a b c : Int) : priorylaw14_RegionCheck.f k l a b c = some true := by
  unfold priorylaw14_RegionCheck.f
  rw [awake_tot, Option.bind_some]
  by_cases h : (l.length : Int) > 100
  · rw [if_pos h]
  · rw [if_neg h, find_tot l a k (by omega), rfind_tot l a k (by omega), check_tot l k (by omega), rcheck_tot l k (by omega), covers_eq k (by omega), rcov_tot l b c k (by omega), pages_tot l k (by omega), rpages_tot l k (by omega)]
    simp
end Go.Proofs.Ytcblfhoipdbdlaa.PAll
