/-
  Walks and plain laws, joined of 2 texts.
-/
import Derived.Test.YtcblfhoipdbdlaaG1
import Derived.Test.YtcblfhoipdbdlaaG2
import Derived.Test.YtcblfhoipdbdlaaG5
namespace Go.Proofs.Ytcblfhoipdbdlaa.PAll
open Go.RowKit Go.Proofs.YtcblfhoipdbdlaaW.PrintWords Go.Proofs.YtcblfhoipdbdlaaW.PrintLast Go.Proofs.YtcblfhoipdbdlaaW.PrintMore
attribute [local go_sem] max2_int min2_int max_two min_two max_three min_three max_four min_four   -- for this text's walks alone
set_option linter.unusedVariables false
set_option linter.unusedSimpArgs false
/-! ### priorylaw14_RegionCovers: function 9 -/
mutual
def priorylaw14_RegionCovers.j0 : Nat → List (S24) → Int → Int → Bool → Option (Bool)
  | 0, _, _, _, _ => none
  | k + 1, x0, x1, x2, x32 => if x32 = true then ((priorylaw14_awake.f k).bind fun t438 => (some t438)) else (priorylaw14_RegionCovers.l0 k x0 x1 x2 true x1)
def priorylaw14_RegionCovers.l0 : Nat → List (S24) → Int → Int → Bool → Int → Option (Bool)
  | 0, _, _, _, _, _ => none
  | k + 1, x0, x1, x2, x7, x8 => if x8 < (wrap64 (x1 + x2)) then ((region_Find.f k x0 x8).bind fun bt439 => (if x7 = true then (priorylaw14_RegionCovers.l0 k x0 x1 x2 bt439.2 (wrap64 (x8 + 1))) else (priorylaw14_RegionCovers.l0 k x0 x1 x2 false (wrap64 (x8 + 1))))) else ((region_Covers.f k x0 x1 x2).bind fun t441 => (if (t441 != x7) = true then (some false) else ((region_Cut.f k x0 x1 x2).bind fun bt442 => (if bt442.2 = 0 then (priorylaw14_RegionCovers.l1 k x0 x1 x2 bt442.1 0) else (if ((bt442.2 == 4) == (!x7)) = true then ((priorylaw14_awake.f k).bind fun t446 => (some t446)) else (some false))))))
def priorylaw14_RegionCovers.l1 : Nat → List (S24) → Int → Int → List (S24) → Int → Option (Bool)
  | 0, _, _, _, _, _ => none
  | k + 1, x0, x1, x2, x11, x13 => if x13 < 1024 then ((region_Find.f k x0 x13).bind fun bt450 => ((region_Find.f k x11 x13).bind fun bt452 => (if x13 ≥ x1 then (if bt450.2 = true then (if (bt452.2 != (!(decide (x13 < (wrap64 (x1 + x2)))))) = true then (some false) else (if bt452.2 = true then (if (bt452.1 != bt450.1) = true then (some false) else (priorylaw14_RegionCovers.l1 k x0 x1 x2 x11 (wrap64 (x13 + 1)))) else (priorylaw14_RegionCovers.l1 k x0 x1 x2 x11 (wrap64 (x13 + 1))))) else (if (bt452.2 != false) = true then (some false) else (if bt452.2 = true then (if (bt452.1 != bt450.1) = true then (some false) else (priorylaw14_RegionCovers.l1 k x0 x1 x2 x11 (wrap64 (x13 + 1)))) else (priorylaw14_RegionCovers.l1 k x0 x1 x2 x11 (wrap64 (x13 + 1)))))) else (if bt450.2 = true then (if (bt452.2 != (!false)) = true then (some false) else (if bt452.2 = true then (if (bt452.1 != bt450.1) = true then (some false) else (priorylaw14_RegionCovers.l1 k x0 x1 x2 x11 (wrap64 (x13 + 1)))) else (priorylaw14_RegionCovers.l1 k x0 x1 x2 x11 (wrap64 (x13 + 1))))) else (if (bt452.2 != false) = true then (some false) else (if bt452.2 = true then (if (bt452.1 != bt450.1) = true then (some false) else (priorylaw14_RegionCovers.l1 k x0 x1 x2 x11 (wrap64 (x13 + 1)))) else (priorylaw14_RegionCovers.l1 k x0 x1 x2 x11 (wrap64 (x13 + 1))))))))) else ((region_Pages.f k x11).bind fun t447 => ((region_Pages.f k x0).bind fun t448 => (if t447 = (wrap64 (t448 - x2)) then ((priorylaw14_awake.f k).bind fun t449 => (some t449)) else (some false))))
end
def priorylaw14_RegionCovers.f (k : Nat) (l0 : List (S24)) (a1 : Int) (a2 : Int) : Option (Bool) := if (l0.length : Int) > 100 then (priorylaw14_RegionCovers.j0 k l0 a1 a2 true) else ((region_Check.f k l0).bind fun t436 => (if t436 = 0 then ((prioryref14_Fits.f a1 a2).bind fun t437 => (priorylaw14_RegionCovers.j0 k l0 a1 a2 (!t437))) else (priorylaw14_RegionCovers.j0 k l0 a1 a2 true)))
theorem priorylaw14_RegionCovers.mono_l : ∀ k, (∀ y0 y1 y2 y3, LeO (priorylaw14_RegionCovers.j0 k y0 y1 y2 y3) (priorylaw14_RegionCovers.j0 (k + 1) y0 y1 y2 y3)) ∧ (∀ y0 y1 y2 y3 y4, LeO (priorylaw14_RegionCovers.l0 k y0 y1 y2 y3 y4) (priorylaw14_RegionCovers.l0 (k + 1) y0 y1 y2 y3 y4)) ∧ (∀ y0 y1 y2 y3 y4, LeO (priorylaw14_RegionCovers.l1 k y0 y1 y2 y3 y4) (priorylaw14_RegionCovers.l1 (k + 1) y0 y1 y2 y3 y4))
  | 0 => ⟨fun _ _ _ _ r h => by simp [priorylaw14_RegionCovers.j0] at h, fun _ _ _ _ _ r h => by simp [priorylaw14_RegionCovers.l0] at h, fun _ _ _ _ _ r h => by simp [priorylaw14_RegionCovers.l1] at h⟩
  | k + 1 => by
    obtain ⟨ih0, ih1, ih2⟩ := priorylaw14_RegionCovers.mono_l k
    refine ⟨?_, ?_, ?_⟩
    · intro y0 y1 y2 y3
      unfold priorylaw14_RegionCovers.j0
      repeat' first
      | (with_reducible exact ih0 _ _ _ _)
      | (with_reducible exact ih1 _ _ _ _ _)
      | (with_reducible exact ih2 _ _ _ _ _)
      | (with_reducible exact priorylaw14_awake.mono _)
      | (with_reducible exact region_Check.mono _ _)
      | (with_reducible exact region_Covers.mono _ _ _ _)
      | (with_reducible exact region_Cut.mono _ _ _ _)
      | (with_reducible exact region_Find.mono _ _ _)
      | (with_reducible exact region_Pages.mono _ _)
      | (with_reducible exact LeO.refl _)
      | (with_reducible exact LeO.none _)
      | (with_reducible refine LeO.ite ?_ ?_)
      | (with_reducible refine LeO.bind ?_ (fun _ => ?_))
      | exact ih0 _ _ _ _
      | exact ih1 _ _ _ _ _
      | exact ih2 _ _ _ _ _
      | exact priorylaw14_awake.mono _
      | exact region_Check.mono _ _
      | exact region_Covers.mono _ _ _ _
      | exact region_Cut.mono _ _ _ _
      | exact region_Find.mono _ _ _
      | exact region_Pages.mono _ _
      | exact LeO.none _
      | refine LeO.ite ?_ ?_
      | refine LeO.bind ?_ (fun _ => ?_)
    · intro y0 y1 y2 y3 y4
      unfold priorylaw14_RegionCovers.l0
      repeat' first
      | (with_reducible exact ih0 _ _ _ _)
      | (with_reducible exact ih1 _ _ _ _ _)
      | (with_reducible exact ih2 _ _ _ _ _)
      | (with_reducible exact priorylaw14_awake.mono _)
      | (with_reducible exact region_Check.mono _ _)
      | (with_reducible exact region_Covers.mono _ _ _ _)
      | (with_reducible exact region_Cut.mono _ _ _ _)
      | (with_reducible exact region_Find.mono _ _ _)
      | (with_reducible exact region_Pages.mono _ _)
      | (with_reducible exact LeO.refl _)
      | (with_reducible exact LeO.none _)
      | (with_reducible refine LeO.ite ?_ ?_)
      | (with_reducible refine LeO.bind ?_ (fun _ => ?_))
      | exact ih0 _ _ _ _
      | exact ih1 _ _ _ _ _
      | exact ih2 _ _ _ _ _
      | exact priorylaw14_awake.mono _
      | exact region_Check.mono _ _
      | exact region_Covers.mono _ _ _ _
      | exact region_Cut.mono _ _ _ _
      | exact region_Find.mono _ _ _
      | exact region_Pages.mono _ _
      | exact LeO.none _
      | refine LeO.ite ?_ ?_
      | refine LeO.bind ?_ (fun _ => ?_)
    · intro y0 y1 y2 y3 y4
      unfold priorylaw14_RegionCovers.l1
      repeat' first
      | (with_reducible exact ih0 _ _ _ _)
      | (with_reducible exact ih1 _ _ _ _ _)
      | (with_reducible exact ih2 _ _ _ _ _)
      | (with_reducible exact priorylaw14_awake.mono _)
      | (with_reducible exact region_Check.mono _ _)
      | (with_reducible exact region_Covers.mono _ _ _ _)
      | (with_reducible exact region_Cut.mono _ _ _ _)
      | (with_reducible exact region_Find.mono _ _ _)
      | (with_reducible exact region_Pages.mono _ _)
      | (with_reducible exact LeO.refl _)
      | (with_reducible exact LeO.none _)
      | (with_reducible refine LeO.ite ?_ ?_)
      | (with_reducible refine LeO.bind ?_ (fun _ => ?_))
      | exact ih0 _ _ _ _
      | exact ih1 _ _ _ _ _
      | exact ih2 _ _ _ _ _
      | exact priorylaw14_awake.mono _
      | exact region_Check.mono _ _
      | exact region_Covers.mono _ _ _ _
      | exact region_Cut.mono _ _ _ _
      | exact region_Find.mono _ _ _
      | exact region_Pages.mono _ _
      | exact LeO.none _
      | refine LeO.ite ?_ ?_
      | refine LeO.bind ?_ (fun _ => ?_)
theorem priorylaw14_RegionCovers.mono : ∀ a0 a1 a2 k, LeO (priorylaw14_RegionCovers.f k a0 a1 a2) (priorylaw14_RegionCovers.f (k + 1) a0 a1 a2) := by
  intro a0 a1 a2 k
  obtain ⟨ih0, ih1, ih2⟩ := priorylaw14_RegionCovers.mono_l k
  unfold priorylaw14_RegionCovers.f
  repeat' first
      | (with_reducible exact ih0 _ _ _ _)
      | (with_reducible exact ih1 _ _ _ _ _)
      | (with_reducible exact ih2 _ _ _ _ _)
      | (with_reducible exact priorylaw14_awake.mono _)
      | (with_reducible exact region_Check.mono _ _)
      | (with_reducible exact region_Covers.mono _ _ _ _)
      | (with_reducible exact region_Cut.mono _ _ _ _)
      | (with_reducible exact region_Find.mono _ _ _)
      | (with_reducible exact region_Pages.mono _ _)
      | (with_reducible exact LeO.refl _)
      | (with_reducible exact LeO.none _)
      | (with_reducible refine LeO.ite ?_ ?_)
      | (with_reducible refine LeO.bind ?_ (fun _ => ?_))
      | exact ih0 _ _ _ _
      | exact ih1 _ _ _ _ _
      | exact ih2 _ _ _ _ _
      | exact priorylaw14_awake.mono _
      | exact region_Check.mono _ _
      | exact region_Covers.mono _ _ _ _
      | exact region_Cut.mono _ _ _ _
      | exact region_Find.mono _ _ _
      | exact region_Pages.mono _ _
      | exact LeO.none _
      | refine LeO.ite ?_ ?_
      | refine LeO.bind ?_ (fun _ => ?_)
set_option maxHeartbeats 8000000 in
set_option maxRecDepth 100000 in
theorem priorylaw14_RegionCovers.calls (k : Nat) (A0 : Option Addr) (c0 : Nat) (l0 : List (S24)) (a1 : Int) (a2 : Int) (r : Bool) (w : World) (hr0 : Kd.C k24 w A0 l0.length l0) (hc0 : l0.length ≤ c0) (h : priorylaw14_RegionCovers.f k l0 a1 a2 = some r) :
    Calls Try.prog 9 #[.slice A0 l0.length c0, .int .i64 a1, .int .i64 a2] w fun e w' => e = .returned (.bool r) ∧ Below w.heap.size w w' := by
  have HR0 := Aside0.mk hr0
  have HC0 := Aside0.mk hc0
  clear hr0 hc0
  have HB := Aside0.mk (Below.refl w.heap.size w)
  have H : (if (l0.length : Int) > 100 then (priorylaw14_RegionCovers.j0 k l0 a1 a2 true) else ((region_Check.f k l0).bind fun t436 => (if t436 = 0 then ((prioryref14_Fits.f a1 a2).bind fun t437 => (priorylaw14_RegionCovers.j0 k l0 a1 a2 (!t437))) else (priorylaw14_RegionCovers.j0 k l0 a1 a2 true)))) = some r := h
  clear h
  have HC4 := Aside0.mk H
  clear H
  go_enter Try.func9, Try.ntmps9
  go_upto_region 1 with (fail)
  go_cut [32] (fun v32 wc => ∃ (kq : Nat) (x32_3 : Bool), v32 = .bool x32_3 ∧ Aside0 (priorylaw14_RegionCovers.j0 kq l0 a1 a2 x32_3 = some r) ∧ Aside0 (kq ≤ k) ∧ Aside0 (Below w.heap.size w wc))
  case first =>
    have H := HC4.out
    clear HC4
    by_cases c5 : (l0.length : Int) > 100
    · rw [if_pos c5] at H
      have c5b0 : decide (100 < (l0.length : Int)) = true := decide_eq_true c5
      have c5b1 : decide (100 < l0.length) = true := decide_eq_true (by omega)
      clear c5
      (first | rw [c5b0] | (simp only [i64_w, i32_w]; rw [c5b0]) | skip)
      have H' := Aside0.mk H
      clear H
      go_wp2
      go_meet
      case rel => exact ⟨_, (true), (by first | rfl | (simp; done) | (simp [*]; done)), H', ⟨by first | omega | exact Nat.le_refl _⟩, ⟨by repeat (first | (with_reducible first | exact HB.out | apply below_alloc | apply pw_below_drewN | apply below_drew1) | exact HB.out)⟩⟩
    · rw [if_neg c5] at H
      have c5b0 : decide (100 < (l0.length : Int)) = false := decide_eq_false c5
      have c5b1 : decide (100 < l0.length) = false := decide_eq_false (by omega)
      clear c5
      (first | rw [c5b0] | (simp only [i64_w, i32_w]; rw [c5b0]) | skip)
      replace H := Option.bind_eq_some_iff.mp H
      obtain ⟨t436, A60, H⟩ := H
      replace H : (if t436 = 0 then ((prioryref14_Fits.f a1 a2).bind fun t437 => (priorylaw14_RegionCovers.j0 k l0 a1 a2 (!t437))) else (priorylaw14_RegionCovers.j0 k l0 a1 a2 true)) = some r := H
      have A6 := Aside0.mk A60
      clear A60
      by_cases c7 : t436 = 0
      · rw [if_pos c7] at H
        have c7b0 : (t436 == 0) = true := beq_iff_eq.mpr c7
        have c7b1 : (t436 != 0) = false := bne_eq_false_iff_eq.mpr c7
        clear c7
        replace H := Option.bind_eq_some_iff.mp H
        obtain ⟨t437, A80, H⟩ := H
        replace H : (priorylaw14_RegionCovers.j0 k l0 a1 a2 (!t437)) = some r := H
        have A8 := Aside0.mk A80
        clear A80
        have H' := Aside0.mk H
        clear H
        go_wp2_with (first | (go_at_call 20; (with_reducible refine (region_Check.calls k _ _ l0 t436 _ ?side1 ?side2 A6.out).mono ?_); (case side1 => repeat (first | exact (Kd.C_below HR0.out HB.out) | (with_reducible refine Kd.C_alloc ?_ _) | (with_reducible refine Kd.C_drewN ?_ _) | (with_reducible refine Kd.C_drew ?_))); (case side2 => exact HC0.out); rintro e w9 ⟨rfl, hb⟩; have n0_ := Aside0.mk (below_step (by repeat (first | (with_reducible first | exact HB.out | apply below_alloc | apply pw_below_drewN | apply below_drew1) | exact HB.out)) hb); clear HB; have HB := n0_; clear n0_; (try clear hb); (try clear hb2); (try clear hk); (try clear hi)) | (go_at_call 26; (with_reducible refine (prioryref14_Fits.calls a1 a2 t437 _ A8.out).mono ?_); rintro e w' ⟨rfl, ⟨nd, rfl⟩⟩))
        go_meet
        case rel => exact ⟨_, (!t437), (by first | rfl | (simp; done) | (simp [*]; done)), H', ⟨by first | omega | exact Nat.le_refl _⟩, ⟨by repeat (first | (with_reducible first | exact HB.out | apply below_alloc | apply pw_below_drewN | apply below_drew1) | exact HB.out)⟩⟩
      · rw [if_neg c7] at H
        have c7b0 : (t436 == 0) = false := beq_eq_false_iff_ne.mpr c7
        have c7b1 : (t436 != 0) = true := bne_iff_ne.mpr c7
        have H' := Aside0.mk H
        clear H
        go_wp2_with (first | (go_at_call 20; (with_reducible refine (region_Check.calls k _ _ l0 t436 _ ?side1 ?side2 A6.out).mono ?_); (case side1 => repeat (first | exact (Kd.C_below HR0.out HB.out) | (with_reducible refine Kd.C_alloc ?_ _) | (with_reducible refine Kd.C_drewN ?_ _) | (with_reducible refine Kd.C_drew ?_))); (case side2 => exact HC0.out); rintro e w10 ⟨rfl, hb⟩; have n0_ := Aside0.mk (below_step (by repeat (first | (with_reducible first | exact HB.out | apply below_alloc | apply pw_below_drewN | apply below_drew1) | exact HB.out)) hb); clear HB; have HB := n0_; clear n0_; (try clear hb); (try clear hb2); (try clear hk); (try clear hi)))
        go_meet
        case rel => exact ⟨_, (true), (by first | rfl | (simp; done) | (simp [*]; done)), H', ⟨by first | omega | exact Nat.le_refl _⟩, ⟨by repeat (first | (with_reducible first | exact HB.out | apply below_alloc | apply pw_below_drewN | apply below_drew1) | exact HB.out)⟩⟩
  case rest =>
    clear HC4
    try clear p2
    try clear c5
    try clear c5b0
    try clear c5b1
    try clear c7
    try clear c7b0
    try clear c7b1
    try clear c9
    obtain ⟨kq, x32_3, rfl, HA, HJ3, HB⟩ := hcut
    cases kq with
    | zero => exact absurd HA.out (by simp [priorylaw14_RegionCovers.j0])
    | succ kj3 =>
      have H := HA.out
      clear HA
      simp only [priorylaw14_RegionCovers.j0] at H
      by_cases c11 : x32_3 = true
      · subst c11
        have H1 : ((priorylaw14_awake.f kj3).bind fun t438 => (some t438)) = some r := by rw [if_pos rfl] at H; exact H
        clear H
        have H := H1
        clear H1
        replace H := Option.bind_eq_some_iff.mp H
        obtain ⟨t438, A120, H⟩ := H
        replace H : (some t438) = some r := H
        have A12 := Aside0.mk A120
        clear A120
        obtain rfl := Option.some.inj H
        go_wp2_with (first | ((with_reducible refine gate_callee (f := 10) rfl ?_); refine goesL_ (some 33) rfl rfl Try.func10 (by kernel_rfl) rfl #[] rfl (by (try simp only [List.map_toArray, List.map_cons, List.map_nil]); first | done | rfl | (simp only [List.length_drop, List.length_take]; rfl)) ?_; (with_reducible refine (priorylaw14_awake.calls kj3  t438 _ A12.out).mono ?_); rintro e w13 ⟨rfl, hb⟩; refine ⟨_, rfl, ?_⟩; have n0_ := Aside0.mk (below_step (by repeat (first | (with_reducible first | exact HB.out | apply below_alloc | apply pw_below_drewN | apply below_drew1) | exact HB.out)) hb); clear HB; have HB := n0_; clear n0_; (try clear hb); (try clear hb2); (try clear hk); (try clear hi)))
        go_ret
        exact ⟨by first | rfl | (simp [errW_none, errW_some] <;> rfl) | (simp [*, errW_none, errW_some] <;> rfl), by repeat (first | (with_reducible first | exact HB.out | apply below_alloc | apply pw_below_drewN | apply below_drew1) | exact HB.out)⟩
      · replace c11 := Bool.eq_false_iff.mpr c11
        subst c11
        have H1 : (priorylaw14_RegionCovers.l0 kj3 l0 a1 a2 true a1) = some r := by rw [if_neg (show ¬ (false = true) by decide)] at H; exact H
        clear H
        have H := H1
        clear H1
        have H' := Aside0.mk H
        clear H
        go_wp2
        go_loopg [7, 8] kj3 (fun kq v7 v8 w' => ∃ (x7_2 : Bool) (x8_2 : Int), v7 = .bool x7_2 ∧ v8 = .int .i64 x8_2 ∧ Aside0 (priorylaw14_RegionCovers.l0 kq l0 a1 a2 x7_2 x8_2 = some r) ∧ Aside0 (kq ≤ kj3) ∧ Aside0 (Below w.heap.size w w'))
        case atStart => exact ⟨(true), (a1), (by first | rfl | (simp; done) | (simp [*]; done)), (by first | rfl | (simp; done) | (simp [*]; done)), H', ⟨Nat.le_refl _⟩, ⟨by repeat (first | (with_reducible first | exact HB.out | apply below_alloc | apply pw_below_drewN | apply below_drew1) | exact HB.out)⟩⟩
        case round =>
          clear H'
          try clear c1
          try clear p2
          try clear c5
          try clear c5b0
          try clear c5b1
          try clear c7
          try clear c7b0
          try clear c7b1
          try clear c9
          try clear c10
          try clear c11
          try clear p2
          obtain ⟨x7_2, x8_2, rfl, rfl, HA, HK2, HB⟩ := hrel
          cases gk with
          | zero => exact absurd HA.out (by simp [priorylaw14_RegionCovers.l0])
          | succ k2 =>
            have H := HA.out
            clear HA
            simp only [priorylaw14_RegionCovers.l0] at H
            by_cases c14 : x8_2 < (wrap64 (a1 + a2))
            · rw [if_pos c14] at H
              have c14b0 : decide (x8_2 < (wrap64 (a1 + a2))) = true := decide_eq_true c14
              clear c14
              replace H := Option.bind_eq_some_iff.mp H
              obtain ⟨⟨t439, t440⟩, A150, H⟩ := H
              replace H : (if x7_2 = true then (priorylaw14_RegionCovers.l0 k2 l0 a1 a2 t440 (wrap64 (x8_2 + 1))) else (priorylaw14_RegionCovers.l0 k2 l0 a1 a2 false (wrap64 (x8_2 + 1)))) = some r := H
              have A15 := Aside0.mk A150
              clear A150
              by_cases c16 : x7_2 = true
              · subst c16
                have H1 : (priorylaw14_RegionCovers.l0 k2 l0 a1 a2 t440 (wrap64 (x8_2 + 1))) = some r := by rw [if_pos rfl] at H; exact H
                clear H
                have H := H1
                clear H1
                have H' := Aside0.mk H
                clear H
                go_wp2_with (first | ((with_reducible refine gate_callee (f := 18) rfl ?_); refine goesL_ (some 45) rfl rfl Try.func18 (by kernel_rfl) rfl #[.slice A0 l0.length c0, .int .i64 x8_2] rfl (by (try simp only [List.map_toArray, List.map_cons, List.map_nil]); first | done | rfl | (simp only [List.length_drop, List.length_take]; rfl)) ?_; (with_reducible refine (region_Find.calls k2 _ _ l0 x8_2 t439 t440 _ ?side1 ?side2 A15.out).mono ?_); (case side1 => repeat (first | exact (Kd.C_below HR0.out HB.out) | (with_reducible refine Kd.C_alloc ?_ _) | (with_reducible refine Kd.C_drewN ?_ _) | (with_reducible refine Kd.C_drew ?_))); (case side2 => exact HC0.out); rintro e w17 ⟨rfl, hb⟩; refine ⟨_, rfl, ?_⟩; have n0_ := Aside0.mk (below_step (by repeat (first | (with_reducible first | exact HB.out | apply below_alloc | apply pw_below_drewN | apply below_drew1) | exact HB.out)) hb); clear HB; have HB := n0_; clear n0_; (try clear hb); (try clear hb2); (try clear hk); (try clear hi)))
                go_roundg k2
                case measure => have := HJ3.out; have := HK2.out; omega
                case rel => exact ⟨(t440), (wrap64 (x8_2 + 1)), (by first | rfl | (simp; done) | (simp [*]; done)), (by first | rfl | (simp; done) | (simp [*]; done)), H', ⟨by have := HJ3.out; have := HK2.out; omega⟩, ⟨by repeat (first | (with_reducible first | exact HB.out | apply below_alloc | apply pw_below_drewN | apply below_drew1) | exact HB.out)⟩⟩
              · replace c16 := Bool.eq_false_iff.mpr c16
                subst c16
                have H1 : (priorylaw14_RegionCovers.l0 k2 l0 a1 a2 false (wrap64 (x8_2 + 1))) = some r := by rw [if_neg (show ¬ (false = true) by decide)] at H; exact H
                clear H
                have H := H1
                clear H1
                have H' := Aside0.mk H
                clear H
                go_wp2_with (first | ((with_reducible refine gate_callee (f := 18) rfl ?_); refine goesL_ (some 45) rfl rfl Try.func18 (by kernel_rfl) rfl #[.slice A0 l0.length c0, .int .i64 x8_2] rfl (by (try simp only [List.map_toArray, List.map_cons, List.map_nil]); first | done | rfl | (simp only [List.length_drop, List.length_take]; rfl)) ?_; (with_reducible refine (region_Find.calls k2 _ _ l0 x8_2 t439 t440 _ ?side1 ?side2 A15.out).mono ?_); (case side1 => repeat (first | exact (Kd.C_below HR0.out HB.out) | (with_reducible refine Kd.C_alloc ?_ _) | (with_reducible refine Kd.C_drewN ?_ _) | (with_reducible refine Kd.C_drew ?_))); (case side2 => exact HC0.out); rintro e w18 ⟨rfl, hb⟩; refine ⟨_, rfl, ?_⟩; have n0_ := Aside0.mk (below_step (by repeat (first | (with_reducible first | exact HB.out | apply below_alloc | apply pw_below_drewN | apply below_drew1) | exact HB.out)) hb); clear HB; have HB := n0_; clear n0_; (try clear hb); (try clear hb2); (try clear hk); (try clear hi)))
                go_roundg k2
                case measure => have := HJ3.out; have := HK2.out; omega
                case rel => exact ⟨(false), (wrap64 (x8_2 + 1)), (by first | rfl | (simp; done) | (simp [*]; done)), (by first | rfl | (simp; done) | (simp [*]; done)), H', ⟨by have := HJ3.out; have := HK2.out; omega⟩, ⟨by repeat (first | (with_reducible first | exact HB.out | apply below_alloc | apply pw_below_drewN | apply below_drew1) | exact HB.out)⟩⟩
            · rw [if_neg c14] at H
              have c14b0 : decide (x8_2 < (wrap64 (a1 + a2))) = false := decide_eq_false c14
              clear c14
              replace H := Option.bind_eq_some_iff.mp H
              obtain ⟨t441, A190, H⟩ := H
              replace H : (if (t441 != x7_2) = true then (some false) else ((region_Cut.f k2 l0 a1 a2).bind fun bt442 => (if bt442.2 = 0 then (priorylaw14_RegionCovers.l1 k2 l0 a1 a2 bt442.1 0) else (if ((bt442.2 == 4) == (!x7_2)) = true then ((priorylaw14_awake.f k2).bind fun t446 => (some t446)) else (some false))))) = some r := H
              have A19 := Aside0.mk A190
              clear A190
              by_cases c20 : (t441 != x7_2) = true
              · rw [if_pos c20] at H
                have c20b0 : (t441 != x7_2) = true := c20
                (try (have c20b1 : decide (t441 = x7_2) = false := by simpa using c20))
                (try (have c20b2 : (t441 == x7_2) = false := by simpa using c20))
                (try (have c20b3 : ¬ (t441 = x7_2) := by simpa using c20))
                clear c20
                obtain rfl := Option.some.inj H
                go_wp2_with (first | ((with_reducible refine gate_callee (f := 22) rfl ?_); refine goesL_ (some 55) rfl rfl Try.func22 (by kernel_rfl) rfl #[.slice A0 l0.length c0, .int .i64 a1, .int .i64 a2] rfl (by (try simp only [List.map_toArray, List.map_cons, List.map_nil]); first | done | rfl | (simp only [List.length_drop, List.length_take]; rfl)) ?_; (with_reducible refine (region_Covers.calls k2 _ _ l0 a1 a2 t441 _ ?side1 ?side2 A19.out).mono ?_); (case side1 => repeat (first | exact (Kd.C_below HR0.out HB.out) | (with_reducible refine Kd.C_alloc ?_ _) | (with_reducible refine Kd.C_drewN ?_ _) | (with_reducible refine Kd.C_drew ?_))); (case side2 => exact HC0.out); rintro e w21 ⟨rfl, hb⟩; refine ⟨_, rfl, ?_⟩; have n0_ := Aside0.mk (below_step (by repeat (first | (with_reducible first | exact HB.out | apply below_alloc | apply pw_below_drewN | apply below_drew1) | exact HB.out)) hb); clear HB; have HB := n0_; clear n0_; (try clear hb); (try clear hb2); (try clear hk); (try clear hi)))
                go_ret
                exact ⟨by first | rfl | (simp [errW_none, errW_some] <;> rfl) | (simp [*, errW_none, errW_some] <;> rfl), by repeat (first | (with_reducible first | exact HB.out | apply below_alloc | apply pw_below_drewN | apply below_drew1) | exact HB.out)⟩
              · rw [if_neg c20] at H
                have c20b0 : (t441 != x7_2) = false := by simpa using c20
                (try (have c20b1 : decide (t441 = x7_2) = true := by simpa using c20))
                (try (have c20b2 : (t441 == x7_2) = true := by simpa using c20))
                clear c20
                replace H := Option.bind_eq_some_iff.mp H
                obtain ⟨⟨t442, t443⟩, A220, H⟩ := H
                replace H : (if t443 = 0 then (priorylaw14_RegionCovers.l1 k2 l0 a1 a2 t442 0) else (if ((t443 == 4) == (!x7_2)) = true then ((priorylaw14_awake.f k2).bind fun t446 => (some t446)) else (some false))) = some r := H
                have A22 := Aside0.mk A220
                clear A220
                by_cases c23 : t443 = 0
                · rw [if_pos c23] at H
                  have c23b0 : (t443 == 0) = true := beq_iff_eq.mpr c23
                  have c23b1 : (t443 != 0) = false := bne_eq_false_iff_eq.mpr c23
                  clear c23
                  have H' := Aside0.mk H
                  clear H
                  go_wp2_with (first | ((with_reducible refine gate_callee (f := 22) rfl ?_); refine goesL_ (some 55) rfl rfl Try.func22 (by kernel_rfl) rfl #[.slice A0 l0.length c0, .int .i64 a1, .int .i64 a2] rfl (by (try simp only [List.map_toArray, List.map_cons, List.map_nil]); first | done | rfl | (simp only [List.length_drop, List.length_take]; rfl)) ?_; (with_reducible refine (region_Covers.calls k2 _ _ l0 a1 a2 t441 _ ?side1 ?side2 A19.out).mono ?_); (case side1 => repeat (first | exact (Kd.C_below HR0.out HB.out) | (with_reducible refine Kd.C_alloc ?_ _) | (with_reducible refine Kd.C_drewN ?_ _) | (with_reducible refine Kd.C_drew ?_))); (case side2 => exact HC0.out); rintro e w24 ⟨rfl, hb⟩; refine ⟨_, rfl, ?_⟩; have n0_ := Aside0.mk (below_step (by repeat (first | (with_reducible first | exact HB.out | apply below_alloc | apply pw_below_drewN | apply below_drew1) | exact HB.out)) hb); clear HB; have HB := n0_; clear n0_; (try clear hb); (try clear hb2); (try clear hk); (try clear hi)) | ((with_reducible refine gate_callee (f := 14) rfl ?_); refine goesL_ (some 62) rfl rfl Try.func14 (by kernel_rfl) rfl #[.slice A0 l0.length c0, .int .i64 a1, .int .i64 a2] rfl (by (try simp only [List.map_toArray, List.map_cons, List.map_nil]); first | done | rfl | (simp only [List.length_drop, List.length_take]; rfl)) ?_; (with_reducible refine (region_Cut.calls k2 _ _ l0 a1 a2 t442 t443 _ ?side1 ?side2 A22.out).mono ?_); (case side1 => repeat (first | exact (Kd.C_below HR0.out HB.out) | (with_reducible refine Kd.C_alloc ?_ _) | (with_reducible refine Kd.C_drewN ?_ _) | (with_reducible refine Kd.C_drew ?_))); (case side2 => exact HC0.out); rintro e w25 ⟨v444, rfl, ho0, hb⟩; refine ⟨_, rfl, ?_⟩; have n0_ := Aside0.mk (Kd.R_lower ho0 (below_size (by repeat (first | (with_reducible first | exact HB.out | apply below_alloc | apply pw_below_drewN | apply below_drew1) | exact HB.out)))); have n1_ := Aside0.mk (below_step (by repeat (first | (with_reducible first | exact HB.out | apply below_alloc | apply pw_below_drewN | apply below_drew1) | exact HB.out)) hb); clear HB; have HO445 := n0_; have HB := n1_; clear n0_ n1_; (try clear hb); (try clear hb2); (try clear hk); (try clear hi); (try clear ho0)))
                  go_loopg [13] k2 (fun kq v13 w' => ∃ (x13_3 : Int), v13 = .int .i64 x13_3 ∧ Aside0 (priorylaw14_RegionCovers.l1 kq l0 a1 a2 t442 x13_3 = some r) ∧ Aside0 (kq ≤ k2) ∧ Aside0 (Kd.R k24 24 w' w.heap.size (fun _ => True) v444 t442) ∧ Aside0 (Below w.heap.size w w'))
                  case atStart => exact ⟨(0), (by first | rfl | (simp; done) | (simp [*]; done)), H', ⟨Nat.le_refl _⟩, ⟨by (with_reducible repeat (first | apply Kd.R_alloc | apply Kd.R_drewN | apply Kd.R_drew)); exact HO445.out⟩, ⟨by repeat (first | (with_reducible first | exact HB.out | apply below_alloc | apply pw_below_drewN | apply below_drew1) | exact HB.out)⟩⟩
                  case round =>
                    clear H'
                    try clear c1
                    try clear c2
                    try clear p2
                    try clear c5
                    try clear c5b0
                    try clear c5b1
                    try clear p6
                    try clear c7
                    try clear c7b0
                    try clear c7b1
                    try clear c9
                    try clear c10
                    try clear c11
                    try clear c14
                    try clear c14b0
                    try clear c16
                    try clear c18
                    try clear c20
                    try clear c20b0
                    try clear c20b1
                    try clear c20b2
                    try clear c22
                    try clear c23
                    try clear c23b0
                    try clear c23b1
                    try clear p2
                    obtain ⟨x13_3, rfl, HA, HK3, HO_11, HB⟩ := hrel
                    cases gk with
                    | zero => exact absurd HA.out (by simp [priorylaw14_RegionCovers.l1])
                    | succ k3 =>
                      have H := HA.out
                      clear HA
                      simp only [priorylaw14_RegionCovers.l1] at H
                      by_cases c26 : x13_3 < 1024
                      · rw [if_pos c26] at H
                        have c26b0 : decide (x13_3 < 1024) = true := decide_eq_true c26
                        clear c26
                        replace H := Option.bind_eq_some_iff.mp H
                        obtain ⟨⟨t450, t451⟩, A270, H⟩ := H
                        replace H : ((region_Find.f k3 t442 x13_3).bind fun bt452 => (if x13_3 ≥ a1 then (if t451 = true then (if (bt452.2 != (!(decide (x13_3 < (wrap64 (a1 + a2)))))) = true then (some false) else (if bt452.2 = true then (if (bt452.1 != t450) = true then (some false) else (priorylaw14_RegionCovers.l1 k3 l0 a1 a2 t442 (wrap64 (x13_3 + 1)))) else (priorylaw14_RegionCovers.l1 k3 l0 a1 a2 t442 (wrap64 (x13_3 + 1))))) else (if (bt452.2 != false) = true then (some false) else (if bt452.2 = true then (if (bt452.1 != t450) = true then (some false) else (priorylaw14_RegionCovers.l1 k3 l0 a1 a2 t442 (wrap64 (x13_3 + 1)))) else (priorylaw14_RegionCovers.l1 k3 l0 a1 a2 t442 (wrap64 (x13_3 + 1)))))) else (if t451 = true then (if (bt452.2 != (!false)) = true then (some false) else (if bt452.2 = true then (if (bt452.1 != t450) = true then (some false) else (priorylaw14_RegionCovers.l1 k3 l0 a1 a2 t442 (wrap64 (x13_3 + 1)))) else (priorylaw14_RegionCovers.l1 k3 l0 a1 a2 t442 (wrap64 (x13_3 + 1))))) else (if (bt452.2 != false) = true then (some false) else (if bt452.2 = true then (if (bt452.1 != t450) = true then (some false) else (priorylaw14_RegionCovers.l1 k3 l0 a1 a2 t442 (wrap64 (x13_3 + 1)))) else (priorylaw14_RegionCovers.l1 k3 l0 a1 a2 t442 (wrap64 (x13_3 + 1)))))))) = some r := H
                        have A27 := Aside0.mk A270
                        clear A270
                        replace H := Option.bind_eq_some_iff.mp H
                        obtain ⟨⟨t452, t453⟩, A280, H⟩ := H
                        replace H : (if x13_3 ≥ a1 then (if t451 = true then (if (t453 != (!(decide (x13_3 < (wrap64 (a1 + a2)))))) = true then (some false) else (if t453 = true then (if (t452 != t450) = true then (some false) else (priorylaw14_RegionCovers.l1 k3 l0 a1 a2 t442 (wrap64 (x13_3 + 1)))) else (priorylaw14_RegionCovers.l1 k3 l0 a1 a2 t442 (wrap64 (x13_3 + 1))))) else (if (t453 != false) = true then (some false) else (if t453 = true then (if (t452 != t450) = true then (some false) else (priorylaw14_RegionCovers.l1 k3 l0 a1 a2 t442 (wrap64 (x13_3 + 1)))) else (priorylaw14_RegionCovers.l1 k3 l0 a1 a2 t442 (wrap64 (x13_3 + 1)))))) else (if t451 = true then (if (t453 != (!false)) = true then (some false) else (if t453 = true then (if (t452 != t450) = true then (some false) else (priorylaw14_RegionCovers.l1 k3 l0 a1 a2 t442 (wrap64 (x13_3 + 1)))) else (priorylaw14_RegionCovers.l1 k3 l0 a1 a2 t442 (wrap64 (x13_3 + 1))))) else (if (t453 != false) = true then (some false) else (if t453 = true then (if (t452 != t450) = true then (some false) else (priorylaw14_RegionCovers.l1 k3 l0 a1 a2 t442 (wrap64 (x13_3 + 1)))) else (priorylaw14_RegionCovers.l1 k3 l0 a1 a2 t442 (wrap64 (x13_3 + 1))))))) = some r := H
                        have A28 := Aside0.mk A280
                        clear A280
                        by_cases c29 : x13_3 ≥ a1
                        · rw [if_pos c29] at H
                          have c29b0 : decide (a1 ≤ x13_3) = true := decide_eq_true c29
                          clear c29
                          by_cases c30 : t451 = true
                          · subst c30
                            have H1 : (if (t453 != (!(decide (x13_3 < (wrap64 (a1 + a2)))))) = true then (some false) else (if t453 = true then (if (t452 != t450) = true then (some false) else (priorylaw14_RegionCovers.l1 k3 l0 a1 a2 t442 (wrap64 (x13_3 + 1)))) else (priorylaw14_RegionCovers.l1 k3 l0 a1 a2 t442 (wrap64 (x13_3 + 1))))) = some r := by rw [if_pos rfl] at H; exact H
                            clear H
                            have H := H1
                            clear H1
                            by_cases c31 : (t453 != (!(decide (x13_3 < (wrap64 (a1 + a2)))))) = true
                            · rw [if_pos c31] at H
                              have c31b0 : (t453 != (!(decide (x13_3 < (wrap64 (a1 + a2)))))) = true := c31
                              (try (have c31b1 : decide (t453 = (!(decide (x13_3 < (wrap64 (a1 + a2)))))) = false := by simpa using c31))
                              (try (have c31b2 : (t453 == (!(decide (x13_3 < (wrap64 (a1 + a2)))))) = false := by simpa using c31))
                              (try (have c31b3 : ¬ (t453 = (!(decide (x13_3 < (wrap64 (a1 + a2)))))) := by simpa using c31))
                              clear c31
                              obtain rfl := Option.some.inj H
                              go_wp2_with (first | ((with_reducible refine gate_callee (f := 18) rfl ?_); refine goesL_ (some 82) rfl rfl Try.func18 (by kernel_rfl) rfl #[.slice A0 l0.length c0, .int .i64 x13_3] rfl (by (try simp only [List.map_toArray, List.map_cons, List.map_nil]); first | done | rfl | (simp only [List.length_drop, List.length_take]; rfl)) ?_; (with_reducible refine (region_Find.calls k3 _ _ l0 x13_3 t450 true _ ?side1 ?side2 A27.out).mono ?_); (case side1 => repeat (first | exact (Kd.C_below HR0.out HB.out) | (with_reducible refine Kd.C_alloc ?_ _) | (with_reducible refine Kd.C_drewN ?_ _) | (with_reducible refine Kd.C_drew ?_))); (case side2 => exact HC0.out); rintro e w32 ⟨rfl, hb⟩; refine ⟨_, rfl, ?_⟩; have n0_ := Aside0.mk (Kd.R_below (by (with_reducible repeat (first | apply Kd.R_alloc | apply Kd.R_drewN | apply Kd.R_drew)); exact HO_11.out) hb); have n1_ := Aside0.mk (below_step (by repeat (first | (with_reducible first | exact HB.out | apply below_alloc | apply pw_below_drewN | apply below_drew1) | exact HB.out)) hb); clear HO_11; clear HB; have HO_11 := n0_; have HB := n1_; clear n0_ n1_; (try clear hb); (try clear hb2); (try clear hk); (try clear hi); obtain ⟨Ao33, co33, eo33⟩ := Kd.R_slice HO_11.out; subst eo33) | ((with_reducible refine gate_callee (f := 18) rfl ?_); refine goesL_ (some 88) rfl rfl Try.func18 (by kernel_rfl) rfl #[.slice Ao33 t442.length co33, .int .i64 x13_3] rfl (by (try simp only [List.map_toArray, List.map_cons, List.map_nil]); first | done | rfl | (simp only [List.length_drop, List.length_take]; rfl)) ?_; (with_reducible refine (region_Find.calls k3 _ _ t442 x13_3 t452 t453 _ ?side1 ?side2 A28.out).mono ?_); (case side1 => repeat (first | exact (Kd.R_reads' HO_11.out).2.2 | (with_reducible refine Kd.C_alloc ?_ _) | (with_reducible refine Kd.C_drewN ?_ _) | (with_reducible refine Kd.C_drew ?_))); (case side2 => exact (Kd.R_reads' HO_11.out).2.1); rintro e w34 ⟨rfl, hb⟩; refine ⟨_, rfl, ?_⟩; have n0_ := Aside0.mk (Kd.R_below (by (with_reducible repeat (first | apply Kd.R_alloc | apply Kd.R_drewN | apply Kd.R_drew)); exact HO_11.out) hb); have n1_ := Aside0.mk (below_step (by repeat (first | (with_reducible first | exact HB.out | apply below_alloc | apply pw_below_drewN | apply below_drew1) | exact HB.out)) hb); clear HO_11; clear HB; have HO_11 := n0_; have HB := n1_; clear n0_ n1_; (try clear hb); (try clear hb2); (try clear hk); (try clear hi)))
                              go_ret
                              exact ⟨by first | rfl | (simp [errW_none, errW_some] <;> rfl) | (simp [*, errW_none, errW_some] <;> rfl), by repeat (first | (with_reducible first | exact HB.out | apply below_alloc | apply pw_below_drewN | apply below_drew1) | exact HB.out)⟩
                            · rw [if_neg c31] at H
                              have c31b0 : (t453 != (!(decide (x13_3 < (wrap64 (a1 + a2)))))) = false := by simpa using c31
                              (try (have c31b1 : decide (t453 = (!(decide (x13_3 < (wrap64 (a1 + a2)))))) = true := by simpa using c31))
                              (try (have c31b2 : (t453 == (!(decide (x13_3 < (wrap64 (a1 + a2)))))) = true := by simpa using c31))
                              clear c31
                              by_cases c35 : t453 = true
                              · subst c35
                                have c31x : decide (x13_3 < (wrap64 (a1 + a2))) = false := by
                                  cases hd : decide (x13_3 < (wrap64 (a1 + a2))) with
                                  | true => rw [hd] at c31b0; exact absurd c31b0 (by decide)
                                  | false => rfl
                                have H1 : (if (t452 != t450) = true then (some false) else (priorylaw14_RegionCovers.l1 k3 l0 a1 a2 t442 (wrap64 (x13_3 + 1)))) = some r := by rw [if_pos rfl] at H; exact H
                                clear H
                                have H := H1
                                clear H1
                                by_cases c36 : (t452 != t450) = true
                                · rw [if_pos c36] at H
                                  have c36b0 : (t452 != t450) = true := c36
                                  (try (have c36b1 : decide (t452 = t450) = false := by simpa using c36))
                                  (try (have c36b2 : (t452 == t450) = false := by simpa using c36))
                                  (try (have c36b3 : ¬ (t452 = t450) := by simpa using c36))
                                  clear c36
                                  obtain rfl := Option.some.inj H
                                  go_wp2_with (first | ((with_reducible refine gate_callee (f := 18) rfl ?_); refine goesL_ (some 82) rfl rfl Try.func18 (by kernel_rfl) rfl #[.slice A0 l0.length c0, .int .i64 x13_3] rfl (by (try simp only [List.map_toArray, List.map_cons, List.map_nil]); first | done | rfl | (simp only [List.length_drop, List.length_take]; rfl)) ?_; (with_reducible refine (region_Find.calls k3 _ _ l0 x13_3 t450 true _ ?side1 ?side2 A27.out).mono ?_); (case side1 => repeat (first | exact (Kd.C_below HR0.out HB.out) | (with_reducible refine Kd.C_alloc ?_ _) | (with_reducible refine Kd.C_drewN ?_ _) | (with_reducible refine Kd.C_drew ?_))); (case side2 => exact HC0.out); rintro e w37 ⟨rfl, hb⟩; refine ⟨_, rfl, ?_⟩; have n0_ := Aside0.mk (Kd.R_below (by (with_reducible repeat (first | apply Kd.R_alloc | apply Kd.R_drewN | apply Kd.R_drew)); exact HO_11.out) hb); have n1_ := Aside0.mk (below_step (by repeat (first | (with_reducible first | exact HB.out | apply below_alloc | apply pw_below_drewN | apply below_drew1) | exact HB.out)) hb); clear HO_11; clear HB; have HO_11 := n0_; have HB := n1_; clear n0_ n1_; (try clear hb); (try clear hb2); (try clear hk); (try clear hi); obtain ⟨Ao38, co38, eo38⟩ := Kd.R_slice HO_11.out; subst eo38) | ((with_reducible refine gate_callee (f := 18) rfl ?_); refine goesL_ (some 88) rfl rfl Try.func18 (by kernel_rfl) rfl #[.slice Ao38 t442.length co38, .int .i64 x13_3] rfl (by (try simp only [List.map_toArray, List.map_cons, List.map_nil]); first | done | rfl | (simp only [List.length_drop, List.length_take]; rfl)) ?_; (with_reducible refine (region_Find.calls k3 _ _ t442 x13_3 t452 true _ ?side1 ?side2 A28.out).mono ?_); (case side1 => repeat (first | exact (Kd.R_reads' HO_11.out).2.2 | (with_reducible refine Kd.C_alloc ?_ _) | (with_reducible refine Kd.C_drewN ?_ _) | (with_reducible refine Kd.C_drew ?_))); (case side2 => exact (Kd.R_reads' HO_11.out).2.1); rintro e w39 ⟨rfl, hb⟩; refine ⟨_, rfl, ?_⟩; have n0_ := Aside0.mk (Kd.R_below (by (with_reducible repeat (first | apply Kd.R_alloc | apply Kd.R_drewN | apply Kd.R_drew)); exact HO_11.out) hb); have n1_ := Aside0.mk (below_step (by repeat (first | (with_reducible first | exact HB.out | apply below_alloc | apply pw_below_drewN | apply below_drew1) | exact HB.out)) hb); clear HO_11; clear HB; have HO_11 := n0_; have HB := n1_; clear n0_ n1_; (try clear hb); (try clear hb2); (try clear hk); (try clear hi)))
                                  go_ret
                                  exact ⟨by first | rfl | (simp [errW_none, errW_some] <;> rfl) | (simp [*, errW_none, errW_some] <;> rfl), by repeat (first | (with_reducible first | exact HB.out | apply below_alloc | apply pw_below_drewN | apply below_drew1) | exact HB.out)⟩
                                · rw [if_neg c36] at H
                                  have c36b0 : (t452 != t450) = false := by simpa using c36
                                  (try (have c36b1 : decide (t452 = t450) = true := by simpa using c36))
                                  (try (have c36b2 : (t452 == t450) = true := by simpa using c36))
                                  clear c36
                                  have H' := Aside0.mk H
                                  clear H
                                  go_wp2_with (first | ((with_reducible refine gate_callee (f := 18) rfl ?_); refine goesL_ (some 82) rfl rfl Try.func18 (by kernel_rfl) rfl #[.slice A0 l0.length c0, .int .i64 x13_3] rfl (by (try simp only [List.map_toArray, List.map_cons, List.map_nil]); first | done | rfl | (simp only [List.length_drop, List.length_take]; rfl)) ?_; (with_reducible refine (region_Find.calls k3 _ _ l0 x13_3 t450 true _ ?side1 ?side2 A27.out).mono ?_); (case side1 => repeat (first | exact (Kd.C_below HR0.out HB.out) | (with_reducible refine Kd.C_alloc ?_ _) | (with_reducible refine Kd.C_drewN ?_ _) | (with_reducible refine Kd.C_drew ?_))); (case side2 => exact HC0.out); rintro e w40 ⟨rfl, hb⟩; refine ⟨_, rfl, ?_⟩; have n0_ := Aside0.mk (Kd.R_below (by (with_reducible repeat (first | apply Kd.R_alloc | apply Kd.R_drewN | apply Kd.R_drew)); exact HO_11.out) hb); have n1_ := Aside0.mk (below_step (by repeat (first | (with_reducible first | exact HB.out | apply below_alloc | apply pw_below_drewN | apply below_drew1) | exact HB.out)) hb); clear HO_11; clear HB; have HO_11 := n0_; have HB := n1_; clear n0_ n1_; (try clear hb); (try clear hb2); (try clear hk); (try clear hi); obtain ⟨Ao41, co41, eo41⟩ := Kd.R_slice HO_11.out; subst eo41) | ((with_reducible refine gate_callee (f := 18) rfl ?_); refine goesL_ (some 88) rfl rfl Try.func18 (by kernel_rfl) rfl #[.slice Ao41 t442.length co41, .int .i64 x13_3] rfl (by (try simp only [List.map_toArray, List.map_cons, List.map_nil]); first | done | rfl | (simp only [List.length_drop, List.length_take]; rfl)) ?_; (with_reducible refine (region_Find.calls k3 _ _ t442 x13_3 t452 true _ ?side1 ?side2 A28.out).mono ?_); (case side1 => repeat (first | exact (Kd.R_reads' HO_11.out).2.2 | (with_reducible refine Kd.C_alloc ?_ _) | (with_reducible refine Kd.C_drewN ?_ _) | (with_reducible refine Kd.C_drew ?_))); (case side2 => exact (Kd.R_reads' HO_11.out).2.1); rintro e w42 ⟨rfl, hb⟩; refine ⟨_, rfl, ?_⟩; have n0_ := Aside0.mk (Kd.R_below (by (with_reducible repeat (first | apply Kd.R_alloc | apply Kd.R_drewN | apply Kd.R_drew)); exact HO_11.out) hb); have n1_ := Aside0.mk (below_step (by repeat (first | (with_reducible first | exact HB.out | apply below_alloc | apply pw_below_drewN | apply below_drew1) | exact HB.out)) hb); clear HO_11; clear HB; have HO_11 := n0_; have HB := n1_; clear n0_ n1_; (try clear hb); (try clear hb2); (try clear hk); (try clear hi)))
                                  go_roundg k3
                                  case measure => have := HJ3.out; have := HK2.out; have := HK3.out; omega
                                  case rel => exact ⟨(wrap64 (x13_3 + 1)), (by first | rfl | (simp; done) | (simp [*]; done)), H', ⟨by have := HJ3.out; have := HK2.out; have := HK3.out; omega⟩, ⟨by (with_reducible repeat (first | apply Kd.R_alloc | apply Kd.R_drewN | apply Kd.R_drew)); exact HO_11.out⟩, ⟨by repeat (first | (with_reducible first | exact HB.out | apply below_alloc | apply pw_below_drewN | apply below_drew1) | exact HB.out)⟩⟩
                              · replace c35 := Bool.eq_false_iff.mpr c35
                                subst c35
                                have c31x : decide (x13_3 < (wrap64 (a1 + a2))) = true := by
                                  cases hd : decide (x13_3 < (wrap64 (a1 + a2))) with
                                  | true => rfl
                                  | false => rw [hd] at c31b0; exact absurd c31b0 (by decide)
                                have H1 : (priorylaw14_RegionCovers.l1 k3 l0 a1 a2 t442 (wrap64 (x13_3 + 1))) = some r := by rw [if_neg (show ¬ (false = true) by decide)] at H; exact H
                                clear H
                                have H := H1
                                clear H1
                                have H' := Aside0.mk H
                                clear H
                                go_wp2_with (first | ((with_reducible refine gate_callee (f := 18) rfl ?_); refine goesL_ (some 82) rfl rfl Try.func18 (by kernel_rfl) rfl #[.slice A0 l0.length c0, .int .i64 x13_3] rfl (by (try simp only [List.map_toArray, List.map_cons, List.map_nil]); first | done | rfl | (simp only [List.length_drop, List.length_take]; rfl)) ?_; (with_reducible refine (region_Find.calls k3 _ _ l0 x13_3 t450 true _ ?side1 ?side2 A27.out).mono ?_); (case side1 => repeat (first | exact (Kd.C_below HR0.out HB.out) | (with_reducible refine Kd.C_alloc ?_ _) | (with_reducible refine Kd.C_drewN ?_ _) | (with_reducible refine Kd.C_drew ?_))); (case side2 => exact HC0.out); rintro e w43 ⟨rfl, hb⟩; refine ⟨_, rfl, ?_⟩; have n0_ := Aside0.mk (Kd.R_below (by (with_reducible repeat (first | apply Kd.R_alloc | apply Kd.R_drewN | apply Kd.R_drew)); exact HO_11.out) hb); have n1_ := Aside0.mk (below_step (by repeat (first | (with_reducible first | exact HB.out | apply below_alloc | apply pw_below_drewN | apply below_drew1) | exact HB.out)) hb); clear HO_11; clear HB; have HO_11 := n0_; have HB := n1_; clear n0_ n1_; (try clear hb); (try clear hb2); (try clear hk); (try clear hi); obtain ⟨Ao44, co44, eo44⟩ := Kd.R_slice HO_11.out; subst eo44) | ((with_reducible refine gate_callee (f := 18) rfl ?_); refine goesL_ (some 88) rfl rfl Try.func18 (by kernel_rfl) rfl #[.slice Ao44 t442.length co44, .int .i64 x13_3] rfl (by (try simp only [List.map_toArray, List.map_cons, List.map_nil]); first | done | rfl | (simp only [List.length_drop, List.length_take]; rfl)) ?_; (with_reducible refine (region_Find.calls k3 _ _ t442 x13_3 t452 false _ ?side1 ?side2 A28.out).mono ?_); (case side1 => repeat (first | exact (Kd.R_reads' HO_11.out).2.2 | (with_reducible refine Kd.C_alloc ?_ _) | (with_reducible refine Kd.C_drewN ?_ _) | (with_reducible refine Kd.C_drew ?_))); (case side2 => exact (Kd.R_reads' HO_11.out).2.1); rintro e w45 ⟨rfl, hb⟩; refine ⟨_, rfl, ?_⟩; have n0_ := Aside0.mk (Kd.R_below (by (with_reducible repeat (first | apply Kd.R_alloc | apply Kd.R_drewN | apply Kd.R_drew)); exact HO_11.out) hb); have n1_ := Aside0.mk (below_step (by repeat (first | (with_reducible first | exact HB.out | apply below_alloc | apply pw_below_drewN | apply below_drew1) | exact HB.out)) hb); clear HO_11; clear HB; have HO_11 := n0_; have HB := n1_; clear n0_ n1_; (try clear hb); (try clear hb2); (try clear hk); (try clear hi)))
                                go_roundg k3
                                case measure => have := HJ3.out; have := HK2.out; have := HK3.out; omega
                                case rel => exact ⟨(wrap64 (x13_3 + 1)), (by first | rfl | (simp; done) | (simp [*]; done)), H', ⟨by have := HJ3.out; have := HK2.out; have := HK3.out; omega⟩, ⟨by (with_reducible repeat (first | apply Kd.R_alloc | apply Kd.R_drewN | apply Kd.R_drew)); exact HO_11.out⟩, ⟨by repeat (first | (with_reducible first | exact HB.out | apply below_alloc | apply pw_below_drewN | apply below_drew1) | exact HB.out)⟩⟩
                          · replace c30 := Bool.eq_false_iff.mpr c30
                            subst c30
                            have H1 : (if (t453 != false) = true then (some false) else (if t453 = true then (if (t452 != t450) = true then (some false) else (priorylaw14_RegionCovers.l1 k3 l0 a1 a2 t442 (wrap64 (x13_3 + 1)))) else (priorylaw14_RegionCovers.l1 k3 l0 a1 a2 t442 (wrap64 (x13_3 + 1))))) = some r := by rw [if_neg (show ¬ (false = true) by decide)] at H; exact H
                            clear H
                            have H := H1
                            clear H1
                            by_cases c46 : (t453 != false) = true
                            · rw [if_pos c46] at H
                              have c46b0 : (t453 != false) = true := c46
                              (try (have c46b1 : decide (t453 = false) = false := by simpa using c46))
                              (try (have c46b2 : (t453 == false) = false := by simpa using c46))
                              (try (have c46b3 : ¬ (t453 = false) := by simpa using c46))
                              clear c46
                              obtain rfl := Option.some.inj H
                              go_wp2_with (first | ((with_reducible refine gate_callee (f := 18) rfl ?_); refine goesL_ (some 82) rfl rfl Try.func18 (by kernel_rfl) rfl #[.slice A0 l0.length c0, .int .i64 x13_3] rfl (by (try simp only [List.map_toArray, List.map_cons, List.map_nil]); first | done | rfl | (simp only [List.length_drop, List.length_take]; rfl)) ?_; (with_reducible refine (region_Find.calls k3 _ _ l0 x13_3 t450 false _ ?side1 ?side2 A27.out).mono ?_); (case side1 => repeat (first | exact (Kd.C_below HR0.out HB.out) | (with_reducible refine Kd.C_alloc ?_ _) | (with_reducible refine Kd.C_drewN ?_ _) | (with_reducible refine Kd.C_drew ?_))); (case side2 => exact HC0.out); rintro e w47 ⟨rfl, hb⟩; refine ⟨_, rfl, ?_⟩; have n0_ := Aside0.mk (Kd.R_below (by (with_reducible repeat (first | apply Kd.R_alloc | apply Kd.R_drewN | apply Kd.R_drew)); exact HO_11.out) hb); have n1_ := Aside0.mk (below_step (by repeat (first | (with_reducible first | exact HB.out | apply below_alloc | apply pw_below_drewN | apply below_drew1) | exact HB.out)) hb); clear HO_11; clear HB; have HO_11 := n0_; have HB := n1_; clear n0_ n1_; (try clear hb); (try clear hb2); (try clear hk); (try clear hi); obtain ⟨Ao48, co48, eo48⟩ := Kd.R_slice HO_11.out; subst eo48) | ((with_reducible refine gate_callee (f := 18) rfl ?_); refine goesL_ (some 88) rfl rfl Try.func18 (by kernel_rfl) rfl #[.slice Ao48 t442.length co48, .int .i64 x13_3] rfl (by (try simp only [List.map_toArray, List.map_cons, List.map_nil]); first | done | rfl | (simp only [List.length_drop, List.length_take]; rfl)) ?_; (with_reducible refine (region_Find.calls k3 _ _ t442 x13_3 t452 t453 _ ?side1 ?side2 A28.out).mono ?_); (case side1 => repeat (first | exact (Kd.R_reads' HO_11.out).2.2 | (with_reducible refine Kd.C_alloc ?_ _) | (with_reducible refine Kd.C_drewN ?_ _) | (with_reducible refine Kd.C_drew ?_))); (case side2 => exact (Kd.R_reads' HO_11.out).2.1); rintro e w49 ⟨rfl, hb⟩; refine ⟨_, rfl, ?_⟩; have n0_ := Aside0.mk (Kd.R_below (by (with_reducible repeat (first | apply Kd.R_alloc | apply Kd.R_drewN | apply Kd.R_drew)); exact HO_11.out) hb); have n1_ := Aside0.mk (below_step (by repeat (first | (with_reducible first | exact HB.out | apply below_alloc | apply pw_below_drewN | apply below_drew1) | exact HB.out)) hb); clear HO_11; clear HB; have HO_11 := n0_; have HB := n1_; clear n0_ n1_; (try clear hb); (try clear hb2); (try clear hk); (try clear hi)))
                              go_ret
                              exact ⟨by first | rfl | (simp [errW_none, errW_some] <;> rfl) | (simp [*, errW_none, errW_some] <;> rfl), by repeat (first | (with_reducible first | exact HB.out | apply below_alloc | apply pw_below_drewN | apply below_drew1) | exact HB.out)⟩
                            · rw [if_neg c46] at H
                              have c46b0 : (t453 != false) = false := by simpa using c46
                              (try (have c46b1 : decide (t453 = false) = true := by simpa using c46))
                              (try (have c46b2 : (t453 == false) = true := by simpa using c46))
                              clear c46
                              by_cases c50 : t453 = true
                              · subst c50
                                have H1 : (if (t452 != t450) = true then (some false) else (priorylaw14_RegionCovers.l1 k3 l0 a1 a2 t442 (wrap64 (x13_3 + 1)))) = some r := by rw [if_pos rfl] at H; exact H
                                clear H
                                have H := H1
                                clear H1
                                by_cases c51 : (t452 != t450) = true
                                · rw [if_pos c51] at H
                                  have c51b0 : (t452 != t450) = true := c51
                                  (try (have c51b1 : decide (t452 = t450) = false := by simpa using c51))
                                  (try (have c51b2 : (t452 == t450) = false := by simpa using c51))
                                  (try (have c51b3 : ¬ (t452 = t450) := by simpa using c51))
                                  clear c51
                                  obtain rfl := Option.some.inj H
                                  go_wp2_with (first | ((with_reducible refine gate_callee (f := 18) rfl ?_); refine goesL_ (some 82) rfl rfl Try.func18 (by kernel_rfl) rfl #[.slice A0 l0.length c0, .int .i64 x13_3] rfl (by (try simp only [List.map_toArray, List.map_cons, List.map_nil]); first | done | rfl | (simp only [List.length_drop, List.length_take]; rfl)) ?_; (with_reducible refine (region_Find.calls k3 _ _ l0 x13_3 t450 false _ ?side1 ?side2 A27.out).mono ?_); (case side1 => repeat (first | exact (Kd.C_below HR0.out HB.out) | (with_reducible refine Kd.C_alloc ?_ _) | (with_reducible refine Kd.C_drewN ?_ _) | (with_reducible refine Kd.C_drew ?_))); (case side2 => exact HC0.out); rintro e w52 ⟨rfl, hb⟩; refine ⟨_, rfl, ?_⟩; have n0_ := Aside0.mk (Kd.R_below (by (with_reducible repeat (first | apply Kd.R_alloc | apply Kd.R_drewN | apply Kd.R_drew)); exact HO_11.out) hb); have n1_ := Aside0.mk (below_step (by repeat (first | (with_reducible first | exact HB.out | apply below_alloc | apply pw_below_drewN | apply below_drew1) | exact HB.out)) hb); clear HO_11; clear HB; have HO_11 := n0_; have HB := n1_; clear n0_ n1_; (try clear hb); (try clear hb2); (try clear hk); (try clear hi); obtain ⟨Ao53, co53, eo53⟩ := Kd.R_slice HO_11.out; subst eo53) | ((with_reducible refine gate_callee (f := 18) rfl ?_); refine goesL_ (some 88) rfl rfl Try.func18 (by kernel_rfl) rfl #[.slice Ao53 t442.length co53, .int .i64 x13_3] rfl (by (try simp only [List.map_toArray, List.map_cons, List.map_nil]); first | done | rfl | (simp only [List.length_drop, List.length_take]; rfl)) ?_; (with_reducible refine (region_Find.calls k3 _ _ t442 x13_3 t452 true _ ?side1 ?side2 A28.out).mono ?_); (case side1 => repeat (first | exact (Kd.R_reads' HO_11.out).2.2 | (with_reducible refine Kd.C_alloc ?_ _) | (with_reducible refine Kd.C_drewN ?_ _) | (with_reducible refine Kd.C_drew ?_))); (case side2 => exact (Kd.R_reads' HO_11.out).2.1); rintro e w54 ⟨rfl, hb⟩; refine ⟨_, rfl, ?_⟩; have n0_ := Aside0.mk (Kd.R_below (by (with_reducible repeat (first | apply Kd.R_alloc | apply Kd.R_drewN | apply Kd.R_drew)); exact HO_11.out) hb); have n1_ := Aside0.mk (below_step (by repeat (first | (with_reducible first | exact HB.out | apply below_alloc | apply pw_below_drewN | apply below_drew1) | exact HB.out)) hb); clear HO_11; clear HB; have HO_11 := n0_; have HB := n1_; clear n0_ n1_; (try clear hb); (try clear hb2); (try clear hk); (try clear hi)))
                                  go_ret
                                  exact ⟨by first | rfl | (simp [errW_none, errW_some] <;> rfl) | (simp [*, errW_none, errW_some] <;> rfl), by repeat (first | (with_reducible first | exact HB.out | apply below_alloc | apply pw_below_drewN | apply below_drew1) | exact HB.out)⟩
                                · rw [if_neg c51] at H
                                  have c51b0 : (t452 != t450) = false := by simpa using c51
                                  (try (have c51b1 : decide (t452 = t450) = true := by simpa using c51))
                                  (try (have c51b2 : (t452 == t450) = true := by simpa using c51))
                                  clear c51
                                  have H' := Aside0.mk H
                                  clear H
                                  go_wp2_with (first | ((with_reducible refine gate_callee (f := 18) rfl ?_); refine goesL_ (some 82) rfl rfl Try.func18 (by kernel_rfl) rfl #[.slice A0 l0.length c0, .int .i64 x13_3] rfl (by (try simp only [List.map_toArray, List.map_cons, List.map_nil]); first | done | rfl | (simp only [List.length_drop, List.length_take]; rfl)) ?_; (with_reducible refine (region_Find.calls k3 _ _ l0 x13_3 t450 false _ ?side1 ?side2 A27.out).mono ?_); (case side1 => repeat (first | exact (Kd.C_below HR0.out HB.out) | (with_reducible refine Kd.C_alloc ?_ _) | (with_reducible refine Kd.C_drewN ?_ _) | (with_reducible refine Kd.C_drew ?_))); (case side2 => exact HC0.out); rintro e w55 ⟨rfl, hb⟩; refine ⟨_, rfl, ?_⟩; have n0_ := Aside0.mk (Kd.R_below (by (with_reducible repeat (first | apply Kd.R_alloc | apply Kd.R_drewN | apply Kd.R_drew)); exact HO_11.out) hb); have n1_ := Aside0.mk (below_step (by repeat (first | (with_reducible first | exact HB.out | apply below_alloc | apply pw_below_drewN | apply below_drew1) | exact HB.out)) hb); clear HO_11; clear HB; have HO_11 := n0_; have HB := n1_; clear n0_ n1_; (try clear hb); (try clear hb2); (try clear hk); (try clear hi); obtain ⟨Ao56, co56, eo56⟩ := Kd.R_slice HO_11.out; subst eo56) | ((with_reducible refine gate_callee (f := 18) rfl ?_); refine goesL_ (some 88) rfl rfl Try.func18 (by kernel_rfl) rfl #[.slice Ao56 t442.length co56, .int .i64 x13_3] rfl (by (try simp only [List.map_toArray, List.map_cons, List.map_nil]); first | done | rfl | (simp only [List.length_drop, List.length_take]; rfl)) ?_; (with_reducible refine (region_Find.calls k3 _ _ t442 x13_3 t452 true _ ?side1 ?side2 A28.out).mono ?_); (case side1 => repeat (first | exact (Kd.R_reads' HO_11.out).2.2 | (with_reducible refine Kd.C_alloc ?_ _) | (with_reducible refine Kd.C_drewN ?_ _) | (with_reducible refine Kd.C_drew ?_))); (case side2 => exact (Kd.R_reads' HO_11.out).2.1); rintro e w57 ⟨rfl, hb⟩; refine ⟨_, rfl, ?_⟩; have n0_ := Aside0.mk (Kd.R_below (by (with_reducible repeat (first | apply Kd.R_alloc | apply Kd.R_drewN | apply Kd.R_drew)); exact HO_11.out) hb); have n1_ := Aside0.mk (below_step (by repeat (first | (with_reducible first | exact HB.out | apply below_alloc | apply pw_below_drewN | apply below_drew1) | exact HB.out)) hb); clear HO_11; clear HB; have HO_11 := n0_; have HB := n1_; clear n0_ n1_; (try clear hb); (try clear hb2); (try clear hk); (try clear hi)))
                                  go_roundg k3
                                  case measure => have := HJ3.out; have := HK2.out; have := HK3.out; omega
                                  case rel => exact ⟨(wrap64 (x13_3 + 1)), (by first | rfl | (simp; done) | (simp [*]; done)), H', ⟨by have := HJ3.out; have := HK2.out; have := HK3.out; omega⟩, ⟨by (with_reducible repeat (first | apply Kd.R_alloc | apply Kd.R_drewN | apply Kd.R_drew)); exact HO_11.out⟩, ⟨by repeat (first | (with_reducible first | exact HB.out | apply below_alloc | apply pw_below_drewN | apply below_drew1) | exact HB.out)⟩⟩
                              · replace c50 := Bool.eq_false_iff.mpr c50
                                subst c50
                                have H1 : (priorylaw14_RegionCovers.l1 k3 l0 a1 a2 t442 (wrap64 (x13_3 + 1))) = some r := by rw [if_neg (show ¬ (false = true) by decide)] at H; exact H
                                clear H
                                have H := H1
                                clear H1
                                have H' := Aside0.mk H
                                clear H
                                go_wp2_with (first | ((with_reducible refine gate_callee (f := 18) rfl ?_); refine goesL_ (some 82) rfl rfl Try.func18 (by kernel_rfl) rfl #[.slice A0 l0.length c0, .int .i64 x13_3] rfl (by (try simp only [List.map_toArray, List.map_cons, List.map_nil]); first | done | rfl | (simp only [List.length_drop, List.length_take]; rfl)) ?_; (with_reducible refine (region_Find.calls k3 _ _ l0 x13_3 t450 false _ ?side1 ?side2 A27.out).mono ?_); (case side1 => repeat (first | exact (Kd.C_below HR0.out HB.out) | (with_reducible refine Kd.C_alloc ?_ _) | (with_reducible refine Kd.C_drewN ?_ _) | (with_reducible refine Kd.C_drew ?_))); (case side2 => exact HC0.out); rintro e w58 ⟨rfl, hb⟩; refine ⟨_, rfl, ?_⟩; have n0_ := Aside0.mk (Kd.R_below (by (with_reducible repeat (first | apply Kd.R_alloc | apply Kd.R_drewN | apply Kd.R_drew)); exact HO_11.out) hb); have n1_ := Aside0.mk (below_step (by repeat (first | (with_reducible first | exact HB.out | apply below_alloc | apply pw_below_drewN | apply below_drew1) | exact HB.out)) hb); clear HO_11; clear HB; have HO_11 := n0_; have HB := n1_; clear n0_ n1_; (try clear hb); (try clear hb2); (try clear hk); (try clear hi); obtain ⟨Ao59, co59, eo59⟩ := Kd.R_slice HO_11.out; subst eo59) | ((with_reducible refine gate_callee (f := 18) rfl ?_); refine goesL_ (some 88) rfl rfl Try.func18 (by kernel_rfl) rfl #[.slice Ao59 t442.length co59, .int .i64 x13_3] rfl (by (try simp only [List.map_toArray, List.map_cons, List.map_nil]); first | done | rfl | (simp only [List.length_drop, List.length_take]; rfl)) ?_; (with_reducible refine (region_Find.calls k3 _ _ t442 x13_3 t452 false _ ?side1 ?side2 A28.out).mono ?_); (case side1 => repeat (first | exact (Kd.R_reads' HO_11.out).2.2 | (with_reducible refine Kd.C_alloc ?_ _) | (with_reducible refine Kd.C_drewN ?_ _) | (with_reducible refine Kd.C_drew ?_))); (case side2 => exact (Kd.R_reads' HO_11.out).2.1); rintro e w60 ⟨rfl, hb⟩; refine ⟨_, rfl, ?_⟩; have n0_ := Aside0.mk (Kd.R_below (by (with_reducible repeat (first | apply Kd.R_alloc | apply Kd.R_drewN | apply Kd.R_drew)); exact HO_11.out) hb); have n1_ := Aside0.mk (below_step (by repeat (first | (with_reducible first | exact HB.out | apply below_alloc | apply pw_below_drewN | apply below_drew1) | exact HB.out)) hb); clear HO_11; clear HB; have HO_11 := n0_; have HB := n1_; clear n0_ n1_; (try clear hb); (try clear hb2); (try clear hk); (try clear hi)))
                                go_roundg k3
                                case measure => have := HJ3.out; have := HK2.out; have := HK3.out; omega
                                case rel => exact ⟨(wrap64 (x13_3 + 1)), (by first | rfl | (simp; done) | (simp [*]; done)), H', ⟨by have := HJ3.out; have := HK2.out; have := HK3.out; omega⟩, ⟨by (with_reducible repeat (first | apply Kd.R_alloc | apply Kd.R_drewN | apply Kd.R_drew)); exact HO_11.out⟩, ⟨by repeat (first | (with_reducible first | exact HB.out | apply below_alloc | apply pw_below_drewN | apply below_drew1) | exact HB.out)⟩⟩
                        · rw [if_neg c29] at H
                          have c29b0 : decide (a1 ≤ x13_3) = false := decide_eq_false c29
                          clear c29
                          by_cases c61 : t451 = true
                          · subst c61
                            have H1 : (if (t453 != (!false)) = true then (some false) else (if t453 = true then (if (t452 != t450) = true then (some false) else (priorylaw14_RegionCovers.l1 k3 l0 a1 a2 t442 (wrap64 (x13_3 + 1)))) else (priorylaw14_RegionCovers.l1 k3 l0 a1 a2 t442 (wrap64 (x13_3 + 1))))) = some r := by rw [if_pos rfl] at H; exact H
                            clear H
                            have H := H1
                            clear H1
                            by_cases c62 : (t453 != (!false)) = true
                            · rw [if_pos c62] at H
                              have c62b0 : (t453 != (!false)) = true := c62
                              (try (have c62b1 : decide (t453 = (!false)) = false := by simpa using c62))
                              (try (have c62b2 : (t453 == (!false)) = false := by simpa using c62))
                              (try (have c62b3 : ¬ (t453 = (!false)) := by simpa using c62))
                              clear c62
                              obtain rfl := Option.some.inj H
                              go_wp2_with (first | ((with_reducible refine gate_callee (f := 18) rfl ?_); refine goesL_ (some 82) rfl rfl Try.func18 (by kernel_rfl) rfl #[.slice A0 l0.length c0, .int .i64 x13_3] rfl (by (try simp only [List.map_toArray, List.map_cons, List.map_nil]); first | done | rfl | (simp only [List.length_drop, List.length_take]; rfl)) ?_; (with_reducible refine (region_Find.calls k3 _ _ l0 x13_3 t450 true _ ?side1 ?side2 A27.out).mono ?_); (case side1 => repeat (first | exact (Kd.C_below HR0.out HB.out) | (with_reducible refine Kd.C_alloc ?_ _) | (with_reducible refine Kd.C_drewN ?_ _) | (with_reducible refine Kd.C_drew ?_))); (case side2 => exact HC0.out); rintro e w63 ⟨rfl, hb⟩; refine ⟨_, rfl, ?_⟩; have n0_ := Aside0.mk (Kd.R_below (by (with_reducible repeat (first | apply Kd.R_alloc | apply Kd.R_drewN | apply Kd.R_drew)); exact HO_11.out) hb); have n1_ := Aside0.mk (below_step (by repeat (first | (with_reducible first | exact HB.out | apply below_alloc | apply pw_below_drewN | apply below_drew1) | exact HB.out)) hb); clear HO_11; clear HB; have HO_11 := n0_; have HB := n1_; clear n0_ n1_; (try clear hb); (try clear hb2); (try clear hk); (try clear hi); obtain ⟨Ao64, co64, eo64⟩ := Kd.R_slice HO_11.out; subst eo64) | ((with_reducible refine gate_callee (f := 18) rfl ?_); refine goesL_ (some 88) rfl rfl Try.func18 (by kernel_rfl) rfl #[.slice Ao64 t442.length co64, .int .i64 x13_3] rfl (by (try simp only [List.map_toArray, List.map_cons, List.map_nil]); first | done | rfl | (simp only [List.length_drop, List.length_take]; rfl)) ?_; (with_reducible refine (region_Find.calls k3 _ _ t442 x13_3 t452 t453 _ ?side1 ?side2 A28.out).mono ?_); (case side1 => repeat (first | exact (Kd.R_reads' HO_11.out).2.2 | (with_reducible refine Kd.C_alloc ?_ _) | (with_reducible refine Kd.C_drewN ?_ _) | (with_reducible refine Kd.C_drew ?_))); (case side2 => exact (Kd.R_reads' HO_11.out).2.1); rintro e w65 ⟨rfl, hb⟩; refine ⟨_, rfl, ?_⟩; have n0_ := Aside0.mk (Kd.R_below (by (with_reducible repeat (first | apply Kd.R_alloc | apply Kd.R_drewN | apply Kd.R_drew)); exact HO_11.out) hb); have n1_ := Aside0.mk (below_step (by repeat (first | (with_reducible first | exact HB.out | apply below_alloc | apply pw_below_drewN | apply below_drew1) | exact HB.out)) hb); clear HO_11; clear HB; have HO_11 := n0_; have HB := n1_; clear n0_ n1_; (try clear hb); (try clear hb2); (try clear hk); (try clear hi)))
                              go_ret
                              exact ⟨by first | rfl | (simp [errW_none, errW_some] <;> rfl) | (simp [*, errW_none, errW_some] <;> rfl), by repeat (first | (with_reducible first | exact HB.out | apply below_alloc | apply pw_below_drewN | apply below_drew1) | exact HB.out)⟩
                            · rw [if_neg c62] at H
                              have c62b0 : (t453 != (!false)) = false := by simpa using c62
                              (try (have c62b1 : decide (t453 = (!false)) = true := by simpa using c62))
                              (try (have c62b2 : (t453 == (!false)) = true := by simpa using c62))
                              clear c62
                              by_cases c66 : t453 = true
                              · subst c66
                                have H1 : (if (t452 != t450) = true then (some false) else (priorylaw14_RegionCovers.l1 k3 l0 a1 a2 t442 (wrap64 (x13_3 + 1)))) = some r := by rw [if_pos rfl] at H; exact H
                                clear H
                                have H := H1
                                clear H1
                                by_cases c67 : (t452 != t450) = true
                                · rw [if_pos c67] at H
                                  have c67b0 : (t452 != t450) = true := c67
                                  (try (have c67b1 : decide (t452 = t450) = false := by simpa using c67))
                                  (try (have c67b2 : (t452 == t450) = false := by simpa using c67))
                                  (try (have c67b3 : ¬ (t452 = t450) := by simpa using c67))
                                  clear c67
                                  obtain rfl := Option.some.inj H
                                  go_wp2_with (first | ((with_reducible refine gate_callee (f := 18) rfl ?_); refine goesL_ (some 82) rfl rfl Try.func18 (by kernel_rfl) rfl #[.slice A0 l0.length c0, .int .i64 x13_3] rfl (by (try simp only [List.map_toArray, List.map_cons, List.map_nil]); first | done | rfl | (simp only [List.length_drop, List.length_take]; rfl)) ?_; (with_reducible refine (region_Find.calls k3 _ _ l0 x13_3 t450 true _ ?side1 ?side2 A27.out).mono ?_); (case side1 => repeat (first | exact (Kd.C_below HR0.out HB.out) | (with_reducible refine Kd.C_alloc ?_ _) | (with_reducible refine Kd.C_drewN ?_ _) | (with_reducible refine Kd.C_drew ?_))); (case side2 => exact HC0.out); rintro e w68 ⟨rfl, hb⟩; refine ⟨_, rfl, ?_⟩; have n0_ := Aside0.mk (Kd.R_below (by (with_reducible repeat (first | apply Kd.R_alloc | apply Kd.R_drewN | apply Kd.R_drew)); exact HO_11.out) hb); have n1_ := Aside0.mk (below_step (by repeat (first | (with_reducible first | exact HB.out | apply below_alloc | apply pw_below_drewN | apply below_drew1) | exact HB.out)) hb); clear HO_11; clear HB; have HO_11 := n0_; have HB := n1_; clear n0_ n1_; (try clear hb); (try clear hb2); (try clear hk); (try clear hi); obtain ⟨Ao69, co69, eo69⟩ := Kd.R_slice HO_11.out; subst eo69) | ((with_reducible refine gate_callee (f := 18) rfl ?_); refine goesL_ (some 88) rfl rfl Try.func18 (by kernel_rfl) rfl #[.slice Ao69 t442.length co69, .int .i64 x13_3] rfl (by (try simp only [List.map_toArray, List.map_cons, List.map_nil]); first | done | rfl | (simp only [List.length_drop, List.length_take]; rfl)) ?_; (with_reducible refine (region_Find.calls k3 _ _ t442 x13_3 t452 true _ ?side1 ?side2 A28.out).mono ?_); (case side1 => repeat (first | exact (Kd.R_reads' HO_11.out).2.2 | (with_reducible refine Kd.C_alloc ?_ _) | (with_reducible refine Kd.C_drewN ?_ _) | (with_reducible refine Kd.C_drew ?_))); (case side2 => exact (Kd.R_reads' HO_11.out).2.1); rintro e w70 ⟨rfl, hb⟩; refine ⟨_, rfl, ?_⟩; have n0_ := Aside0.mk (Kd.R_below (by (with_reducible repeat (first | apply Kd.R_alloc | apply Kd.R_drewN | apply Kd.R_drew)); exact HO_11.out) hb); have n1_ := Aside0.mk (below_step (by repeat (first | (with_reducible first | exact HB.out | apply below_alloc | apply pw_below_drewN | apply below_drew1) | exact HB.out)) hb); clear HO_11; clear HB; have HO_11 := n0_; have HB := n1_; clear n0_ n1_; (try clear hb); (try clear hb2); (try clear hk); (try clear hi)))
                                  go_ret
                                  exact ⟨by first | rfl | (simp [errW_none, errW_some] <;> rfl) | (simp [*, errW_none, errW_some] <;> rfl), by repeat (first | (with_reducible first | exact HB.out | apply below_alloc | apply pw_below_drewN | apply below_drew1) | exact HB.out)⟩
                                · rw [if_neg c67] at H
                                  have c67b0 : (t452 != t450) = false := by simpa using c67
                                  (try (have c67b1 : decide (t452 = t450) = true := by simpa using c67))
                                  (try (have c67b2 : (t452 == t450) = true := by simpa using c67))
                                  clear c67
                                  have H' := Aside0.mk H
                                  clear H
                                  go_wp2_with (first | ((with_reducible refine gate_callee (f := 18) rfl ?_); refine goesL_ (some 82) rfl rfl Try.func18 (by kernel_rfl) rfl #[.slice A0 l0.length c0, .int .i64 x13_3] rfl (by (try simp only [List.map_toArray, List.map_cons, List.map_nil]); first | done | rfl | (simp only [List.length_drop, List.length_take]; rfl)) ?_; (with_reducible refine (region_Find.calls k3 _ _ l0 x13_3 t450 true _ ?side1 ?side2 A27.out).mono ?_); (case side1 => repeat (first | exact (Kd.C_below HR0.out HB.out) | (with_reducible refine Kd.C_alloc ?_ _) | (with_reducible refine Kd.C_drewN ?_ _) | (with_reducible refine Kd.C_drew ?_))); (case side2 => exact HC0.out); rintro e w71 ⟨rfl, hb⟩; refine ⟨_, rfl, ?_⟩; have n0_ := Aside0.mk (Kd.R_below (by (with_reducible repeat (first | apply Kd.R_alloc | apply Kd.R_drewN | apply Kd.R_drew)); exact HO_11.out) hb); have n1_ := Aside0.mk (below_step (by repeat (first | (with_reducible first | exact HB.out | apply below_alloc | apply pw_below_drewN | apply below_drew1) | exact HB.out)) hb); clear HO_11; clear HB; have HO_11 := n0_; have HB := n1_; clear n0_ n1_; (try clear hb); (try clear hb2); (try clear hk); (try clear hi); obtain ⟨Ao72, co72, eo72⟩ := Kd.R_slice HO_11.out; subst eo72) | ((with_reducible refine gate_callee (f := 18) rfl ?_); refine goesL_ (some 88) rfl rfl Try.func18 (by kernel_rfl) rfl #[.slice Ao72 t442.length co72, .int .i64 x13_3] rfl (by (try simp only [List.map_toArray, List.map_cons, List.map_nil]); first | done | rfl | (simp only [List.length_drop, List.length_take]; rfl)) ?_; (with_reducible refine (region_Find.calls k3 _ _ t442 x13_3 t452 true _ ?side1 ?side2 A28.out).mono ?_); (case side1 => repeat (first | exact (Kd.R_reads' HO_11.out).2.2 | (with_reducible refine Kd.C_alloc ?_ _) | (with_reducible refine Kd.C_drewN ?_ _) | (with_reducible refine Kd.C_drew ?_))); (case side2 => exact (Kd.R_reads' HO_11.out).2.1); rintro e w73 ⟨rfl, hb⟩; refine ⟨_, rfl, ?_⟩; have n0_ := Aside0.mk (Kd.R_below (by (with_reducible repeat (first | apply Kd.R_alloc | apply Kd.R_drewN | apply Kd.R_drew)); exact HO_11.out) hb); have n1_ := Aside0.mk (below_step (by repeat (first | (with_reducible first | exact HB.out | apply below_alloc | apply pw_below_drewN | apply below_drew1) | exact HB.out)) hb); clear HO_11; clear HB; have HO_11 := n0_; have HB := n1_; clear n0_ n1_; (try clear hb); (try clear hb2); (try clear hk); (try clear hi)))
                                  go_roundg k3
                                  case measure => have := HJ3.out; have := HK2.out; have := HK3.out; omega
                                  case rel => exact ⟨(wrap64 (x13_3 + 1)), (by first | rfl | (simp; done) | (simp [*]; done)), H', ⟨by have := HJ3.out; have := HK2.out; have := HK3.out; omega⟩, ⟨by (with_reducible repeat (first | apply Kd.R_alloc | apply Kd.R_drewN | apply Kd.R_drew)); exact HO_11.out⟩, ⟨by repeat (first | (with_reducible first | exact HB.out | apply below_alloc | apply pw_below_drewN | apply below_drew1) | exact HB.out)⟩⟩
                              · replace c66 := Bool.eq_false_iff.mpr c66
                                subst c66
                                exact absurd c62b0 (by decide)
                          · replace c61 := Bool.eq_false_iff.mpr c61
                            subst c61
                            have H1 : (if (t453 != false) = true then (some false) else (if t453 = true then (if (t452 != t450) = true then (some false) else (priorylaw14_RegionCovers.l1 k3 l0 a1 a2 t442 (wrap64 (x13_3 + 1)))) else (priorylaw14_RegionCovers.l1 k3 l0 a1 a2 t442 (wrap64 (x13_3 + 1))))) = some r := by rw [if_neg (show ¬ (false = true) by decide)] at H; exact H
                            clear H
                            have H := H1
                            clear H1
                            by_cases c77 : (t453 != false) = true
                            · rw [if_pos c77] at H
                              have c77b0 : (t453 != false) = true := c77
                              (try (have c77b1 : decide (t453 = false) = false := by simpa using c77))
                              (try (have c77b2 : (t453 == false) = false := by simpa using c77))
                              (try (have c77b3 : ¬ (t453 = false) := by simpa using c77))
                              clear c77
                              obtain rfl := Option.some.inj H
                              go_wp2_with (first | ((with_reducible refine gate_callee (f := 18) rfl ?_); refine goesL_ (some 82) rfl rfl Try.func18 (by kernel_rfl) rfl #[.slice A0 l0.length c0, .int .i64 x13_3] rfl (by (try simp only [List.map_toArray, List.map_cons, List.map_nil]); first | done | rfl | (simp only [List.length_drop, List.length_take]; rfl)) ?_; (with_reducible refine (region_Find.calls k3 _ _ l0 x13_3 t450 false _ ?side1 ?side2 A27.out).mono ?_); (case side1 => repeat (first | exact (Kd.C_below HR0.out HB.out) | (with_reducible refine Kd.C_alloc ?_ _) | (with_reducible refine Kd.C_drewN ?_ _) | (with_reducible refine Kd.C_drew ?_))); (case side2 => exact HC0.out); rintro e w78 ⟨rfl, hb⟩; refine ⟨_, rfl, ?_⟩; have n0_ := Aside0.mk (Kd.R_below (by (with_reducible repeat (first | apply Kd.R_alloc | apply Kd.R_drewN | apply Kd.R_drew)); exact HO_11.out) hb); have n1_ := Aside0.mk (below_step (by repeat (first | (with_reducible first | exact HB.out | apply below_alloc | apply pw_below_drewN | apply below_drew1) | exact HB.out)) hb); clear HO_11; clear HB; have HO_11 := n0_; have HB := n1_; clear n0_ n1_; (try clear hb); (try clear hb2); (try clear hk); (try clear hi); obtain ⟨Ao79, co79, eo79⟩ := Kd.R_slice HO_11.out; subst eo79) | ((with_reducible refine gate_callee (f := 18) rfl ?_); refine goesL_ (some 88) rfl rfl Try.func18 (by kernel_rfl) rfl #[.slice Ao79 t442.length co79, .int .i64 x13_3] rfl (by (try simp only [List.map_toArray, List.map_cons, List.map_nil]); first | done | rfl | (simp only [List.length_drop, List.length_take]; rfl)) ?_; (with_reducible refine (region_Find.calls k3 _ _ t442 x13_3 t452 t453 _ ?side1 ?side2 A28.out).mono ?_); (case side1 => repeat (first | exact (Kd.R_reads' HO_11.out).2.2 | (with_reducible refine Kd.C_alloc ?_ _) | (with_reducible refine Kd.C_drewN ?_ _) | (with_reducible refine Kd.C_drew ?_))); (case side2 => exact (Kd.R_reads' HO_11.out).2.1); rintro e w80 ⟨rfl, hb⟩; refine ⟨_, rfl, ?_⟩; have n0_ := Aside0.mk (Kd.R_below (by (with_reducible repeat (first | apply Kd.R_alloc | apply Kd.R_drewN | apply Kd.R_drew)); exact HO_11.out) hb); have n1_ := Aside0.mk (below_step (by repeat (first | (with_reducible first | exact HB.out | apply below_alloc | apply pw_below_drewN | apply below_drew1) | exact HB.out)) hb); clear HO_11; clear HB; have HO_11 := n0_; have HB := n1_; clear n0_ n1_; (try clear hb); (try clear hb2); (try clear hk); (try clear hi)))
                              go_ret
                              exact ⟨by first | rfl | (simp [errW_none, errW_some] <;> rfl) | (simp [*, errW_none, errW_some] <;> rfl), by repeat (first | (with_reducible first | exact HB.out | apply below_alloc | apply pw_below_drewN | apply below_drew1) | exact HB.out)⟩
                            · rw [if_neg c77] at H
                              have c77b0 : (t453 != false) = false := by simpa using c77
                              (try (have c77b1 : decide (t453 = false) = true := by simpa using c77))
                              (try (have c77b2 : (t453 == false) = true := by simpa using c77))
                              clear c77
                              by_cases c81 : t453 = true
                              · subst c81
                                have H1 : (if (t452 != t450) = true then (some false) else (priorylaw14_RegionCovers.l1 k3 l0 a1 a2 t442 (wrap64 (x13_3 + 1)))) = some r := by rw [if_pos rfl] at H; exact H
                                clear H
                                have H := H1
                                clear H1
                                by_cases c82 : (t452 != t450) = true
                                · rw [if_pos c82] at H
                                  have c82b0 : (t452 != t450) = true := c82
                                  (try (have c82b1 : decide (t452 = t450) = false := by simpa using c82))
                                  (try (have c82b2 : (t452 == t450) = false := by simpa using c82))
                                  (try (have c82b3 : ¬ (t452 = t450) := by simpa using c82))
                                  clear c82
                                  obtain rfl := Option.some.inj H
                                  go_wp2_with (first | ((with_reducible refine gate_callee (f := 18) rfl ?_); refine goesL_ (some 82) rfl rfl Try.func18 (by kernel_rfl) rfl #[.slice A0 l0.length c0, .int .i64 x13_3] rfl (by (try simp only [List.map_toArray, List.map_cons, List.map_nil]); first | done | rfl | (simp only [List.length_drop, List.length_take]; rfl)) ?_; (with_reducible refine (region_Find.calls k3 _ _ l0 x13_3 t450 false _ ?side1 ?side2 A27.out).mono ?_); (case side1 => repeat (first | exact (Kd.C_below HR0.out HB.out) | (with_reducible refine Kd.C_alloc ?_ _) | (with_reducible refine Kd.C_drewN ?_ _) | (with_reducible refine Kd.C_drew ?_))); (case side2 => exact HC0.out); rintro e w83 ⟨rfl, hb⟩; refine ⟨_, rfl, ?_⟩; have n0_ := Aside0.mk (Kd.R_below (by (with_reducible repeat (first | apply Kd.R_alloc | apply Kd.R_drewN | apply Kd.R_drew)); exact HO_11.out) hb); have n1_ := Aside0.mk (below_step (by repeat (first | (with_reducible first | exact HB.out | apply below_alloc | apply pw_below_drewN | apply below_drew1) | exact HB.out)) hb); clear HO_11; clear HB; have HO_11 := n0_; have HB := n1_; clear n0_ n1_; (try clear hb); (try clear hb2); (try clear hk); (try clear hi); obtain ⟨Ao84, co84, eo84⟩ := Kd.R_slice HO_11.out; subst eo84) | ((with_reducible refine gate_callee (f := 18) rfl ?_); refine goesL_ (some 88) rfl rfl Try.func18 (by kernel_rfl) rfl #[.slice Ao84 t442.length co84, .int .i64 x13_3] rfl (by (try simp only [List.map_toArray, List.map_cons, List.map_nil]); first | done | rfl | (simp only [List.length_drop, List.length_take]; rfl)) ?_; (with_reducible refine (region_Find.calls k3 _ _ t442 x13_3 t452 true _ ?side1 ?side2 A28.out).mono ?_); (case side1 => repeat (first | exact (Kd.R_reads' HO_11.out).2.2 | (with_reducible refine Kd.C_alloc ?_ _) | (with_reducible refine Kd.C_drewN ?_ _) | (with_reducible refine Kd.C_drew ?_))); (case side2 => exact (Kd.R_reads' HO_11.out).2.1); rintro e w85 ⟨rfl, hb⟩; refine ⟨_, rfl, ?_⟩; have n0_ := Aside0.mk (Kd.R_below (by (with_reducible repeat (first | apply Kd.R_alloc | apply Kd.R_drewN | apply Kd.R_drew)); exact HO_11.out) hb); have n1_ := Aside0.mk (below_step (by repeat (first | (with_reducible first | exact HB.out | apply below_alloc | apply pw_below_drewN | apply below_drew1) | exact HB.out)) hb); clear HO_11; clear HB; have HO_11 := n0_; have HB := n1_; clear n0_ n1_; (try clear hb); (try clear hb2); (try clear hk); (try clear hi)))
                                  go_ret
                                  exact ⟨by first | rfl | (simp [errW_none, errW_some] <;> rfl) | (simp [*, errW_none, errW_some] <;> rfl), by repeat (first | (with_reducible first | exact HB.out | apply below_alloc | apply pw_below_drewN | apply below_drew1) | exact HB.out)⟩
                                · rw [if_neg c82] at H
                                  have c82b0 : (t452 != t450) = false := by simpa using c82
                                  (try (have c82b1 : decide (t452 = t450) = true := by simpa using c82))
                                  (try (have c82b2 : (t452 == t450) = true := by simpa using c82))
                                  clear c82
                                  have H' := Aside0.mk H
                                  clear H
                                  go_wp2_with (first | ((with_reducible refine gate_callee (f := 18) rfl ?_); refine goesL_ (some 82) rfl rfl Try.func18 (by kernel_rfl) rfl #[.slice A0 l0.length c0, .int .i64 x13_3] rfl (by (try simp only [List.map_toArray, List.map_cons, List.map_nil]); first | done | rfl | (simp only [List.length_drop, List.length_take]; rfl)) ?_; (with_reducible refine (region_Find.calls k3 _ _ l0 x13_3 t450 false _ ?side1 ?side2 A27.out).mono ?_); (case side1 => repeat (first | exact (Kd.C_below HR0.out HB.out) | (with_reducible refine Kd.C_alloc ?_ _) | (with_reducible refine Kd.C_drewN ?_ _) | (with_reducible refine Kd.C_drew ?_))); (case side2 => exact HC0.out); rintro e w86 ⟨rfl, hb⟩; refine ⟨_, rfl, ?_⟩; have n0_ := Aside0.mk (Kd.R_below (by (with_reducible repeat (first | apply Kd.R_alloc | apply Kd.R_drewN | apply Kd.R_drew)); exact HO_11.out) hb); have n1_ := Aside0.mk (below_step (by repeat (first | (with_reducible first | exact HB.out | apply below_alloc | apply pw_below_drewN | apply below_drew1) | exact HB.out)) hb); clear HO_11; clear HB; have HO_11 := n0_; have HB := n1_; clear n0_ n1_; (try clear hb); (try clear hb2); (try clear hk); (try clear hi); obtain ⟨Ao87, co87, eo87⟩ := Kd.R_slice HO_11.out; subst eo87) | ((with_reducible refine gate_callee (f := 18) rfl ?_); refine goesL_ (some 88) rfl rfl Try.func18 (by kernel_rfl) rfl #[.slice Ao87 t442.length co87, .int .i64 x13_3] rfl (by (try simp only [List.map_toArray, List.map_cons, List.map_nil]); first | done | rfl | (simp only [List.length_drop, List.length_take]; rfl)) ?_; (with_reducible refine (region_Find.calls k3 _ _ t442 x13_3 t452 true _ ?side1 ?side2 A28.out).mono ?_); (case side1 => repeat (first | exact (Kd.R_reads' HO_11.out).2.2 | (with_reducible refine Kd.C_alloc ?_ _) | (with_reducible refine Kd.C_drewN ?_ _) | (with_reducible refine Kd.C_drew ?_))); (case side2 => exact (Kd.R_reads' HO_11.out).2.1); rintro e w88 ⟨rfl, hb⟩; refine ⟨_, rfl, ?_⟩; have n0_ := Aside0.mk (Kd.R_below (by (with_reducible repeat (first | apply Kd.R_alloc | apply Kd.R_drewN | apply Kd.R_drew)); exact HO_11.out) hb); have n1_ := Aside0.mk (below_step (by repeat (first | (with_reducible first | exact HB.out | apply below_alloc | apply pw_below_drewN | apply below_drew1) | exact HB.out)) hb); clear HO_11; clear HB; have HO_11 := n0_; have HB := n1_; clear n0_ n1_; (try clear hb); (try clear hb2); (try clear hk); (try clear hi)))
                                  go_roundg k3
                                  case measure => have := HJ3.out; have := HK2.out; have := HK3.out; omega
                                  case rel => exact ⟨(wrap64 (x13_3 + 1)), (by first | rfl | (simp; done) | (simp [*]; done)), H', ⟨by have := HJ3.out; have := HK2.out; have := HK3.out; omega⟩, ⟨by (with_reducible repeat (first | apply Kd.R_alloc | apply Kd.R_drewN | apply Kd.R_drew)); exact HO_11.out⟩, ⟨by repeat (first | (with_reducible first | exact HB.out | apply below_alloc | apply pw_below_drewN | apply below_drew1) | exact HB.out)⟩⟩
                              · replace c81 := Bool.eq_false_iff.mpr c81
                                subst c81
                                have H1 : (priorylaw14_RegionCovers.l1 k3 l0 a1 a2 t442 (wrap64 (x13_3 + 1))) = some r := by rw [if_neg (show ¬ (false = true) by decide)] at H; exact H
                                clear H
                                have H := H1
                                clear H1
                                have H' := Aside0.mk H
                                clear H
                                go_wp2_with (first | ((with_reducible refine gate_callee (f := 18) rfl ?_); refine goesL_ (some 82) rfl rfl Try.func18 (by kernel_rfl) rfl #[.slice A0 l0.length c0, .int .i64 x13_3] rfl (by (try simp only [List.map_toArray, List.map_cons, List.map_nil]); first | done | rfl | (simp only [List.length_drop, List.length_take]; rfl)) ?_; (with_reducible refine (region_Find.calls k3 _ _ l0 x13_3 t450 false _ ?side1 ?side2 A27.out).mono ?_); (case side1 => repeat (first | exact (Kd.C_below HR0.out HB.out) | (with_reducible refine Kd.C_alloc ?_ _) | (with_reducible refine Kd.C_drewN ?_ _) | (with_reducible refine Kd.C_drew ?_))); (case side2 => exact HC0.out); rintro e w89 ⟨rfl, hb⟩; refine ⟨_, rfl, ?_⟩; have n0_ := Aside0.mk (Kd.R_below (by (with_reducible repeat (first | apply Kd.R_alloc | apply Kd.R_drewN | apply Kd.R_drew)); exact HO_11.out) hb); have n1_ := Aside0.mk (below_step (by repeat (first | (with_reducible first | exact HB.out | apply below_alloc | apply pw_below_drewN | apply below_drew1) | exact HB.out)) hb); clear HO_11; clear HB; have HO_11 := n0_; have HB := n1_; clear n0_ n1_; (try clear hb); (try clear hb2); (try clear hk); (try clear hi); obtain ⟨Ao90, co90, eo90⟩ := Kd.R_slice HO_11.out; subst eo90) | ((with_reducible refine gate_callee (f := 18) rfl ?_); refine goesL_ (some 88) rfl rfl Try.func18 (by kernel_rfl) rfl #[.slice Ao90 t442.length co90, .int .i64 x13_3] rfl (by (try simp only [List.map_toArray, List.map_cons, List.map_nil]); first | done | rfl | (simp only [List.length_drop, List.length_take]; rfl)) ?_; (with_reducible refine (region_Find.calls k3 _ _ t442 x13_3 t452 false _ ?side1 ?side2 A28.out).mono ?_); (case side1 => repeat (first | exact (Kd.R_reads' HO_11.out).2.2 | (with_reducible refine Kd.C_alloc ?_ _) | (with_reducible refine Kd.C_drewN ?_ _) | (with_reducible refine Kd.C_drew ?_))); (case side2 => exact (Kd.R_reads' HO_11.out).2.1); rintro e w91 ⟨rfl, hb⟩; refine ⟨_, rfl, ?_⟩; have n0_ := Aside0.mk (Kd.R_below (by (with_reducible repeat (first | apply Kd.R_alloc | apply Kd.R_drewN | apply Kd.R_drew)); exact HO_11.out) hb); have n1_ := Aside0.mk (below_step (by repeat (first | (with_reducible first | exact HB.out | apply below_alloc | apply pw_below_drewN | apply below_drew1) | exact HB.out)) hb); clear HO_11; clear HB; have HO_11 := n0_; have HB := n1_; clear n0_ n1_; (try clear hb); (try clear hb2); (try clear hk); (try clear hi)))
                                go_roundg k3
                                case measure => have := HJ3.out; have := HK2.out; have := HK3.out; omega
                                case rel => exact ⟨(wrap64 (x13_3 + 1)), (by first | rfl | (simp; done) | (simp [*]; done)), H', ⟨by have := HJ3.out; have := HK2.out; have := HK3.out; omega⟩, ⟨by (with_reducible repeat (first | apply Kd.R_alloc | apply Kd.R_drewN | apply Kd.R_drew)); exact HO_11.out⟩, ⟨by repeat (first | (with_reducible first | exact HB.out | apply below_alloc | apply pw_below_drewN | apply below_drew1) | exact HB.out)⟩⟩
                      · rw [if_neg c26] at H
                        have c26b0 : decide (x13_3 < 1024) = false := decide_eq_false c26
                        clear c26
                        replace H := Option.bind_eq_some_iff.mp H
                        obtain ⟨t447, A920, H⟩ := H
                        replace H : ((region_Pages.f k3 l0).bind fun t448 => (if t447 = (wrap64 (t448 - a2)) then ((priorylaw14_awake.f k3).bind fun t449 => (some t449)) else (some false))) = some r := H
                        have A92 := Aside0.mk A920
                        clear A920
                        replace H := Option.bind_eq_some_iff.mp H
                        obtain ⟨t448, A930, H⟩ := H
                        replace H : (if t447 = (wrap64 (t448 - a2)) then ((priorylaw14_awake.f k3).bind fun t449 => (some t449)) else (some false)) = some r := H
                        have A93 := Aside0.mk A930
                        clear A930
                        by_cases c94 : t447 = (wrap64 (t448 - a2))
                        · rw [if_pos c94] at H
                          have c94b0 : (t447 == (wrap64 (t448 - a2))) = true := beq_iff_eq.mpr c94
                          have c94b1 : (t447 != (wrap64 (t448 - a2))) = false := bne_eq_false_iff_eq.mpr c94
                          clear c94
                          replace H := Option.bind_eq_some_iff.mp H
                          obtain ⟨t449, A950, H⟩ := H
                          replace H : (some t449) = some r := H
                          have A95 := Aside0.mk A950
                          clear A950
                          obtain rfl := Option.some.inj H
                          obtain ⟨Ao96, co96, eo96⟩ := Kd.R_slice HO_11.out
                          subst eo96
                          go_wp2_with (first | ((with_reducible refine gate_callee (f := 24) rfl ?_); refine goesL_ (some 117) rfl rfl Try.func24 (by kernel_rfl) rfl #[.slice Ao96 t442.length co96] rfl (by (try simp only [List.map_toArray, List.map_cons, List.map_nil]); first | done | rfl | (simp only [List.length_drop, List.length_take]; rfl)) ?_; (with_reducible refine (region_Pages.calls k3 _ _ t442 t447 _ ?side1 ?side2 A92.out).mono ?_); (case side1 => repeat (first | exact (Kd.R_reads' HO_11.out).2.2 | (with_reducible refine Kd.C_alloc ?_ _) | (with_reducible refine Kd.C_drewN ?_ _) | (with_reducible refine Kd.C_drew ?_))); (case side2 => exact (Kd.R_reads' HO_11.out).2.1); rintro e w97 ⟨rfl, hb⟩; refine ⟨_, rfl, ?_⟩; have n0_ := Aside0.mk (Kd.R_below (by (with_reducible repeat (first | apply Kd.R_alloc | apply Kd.R_drewN | apply Kd.R_drew)); exact HO_11.out) hb); have n1_ := Aside0.mk (below_step (by repeat (first | (with_reducible first | exact HB.out | apply below_alloc | apply pw_below_drewN | apply below_drew1) | exact HB.out)) hb); clear HO_11; clear HB; have HO_11 := n0_; have HB := n1_; clear n0_ n1_; (try clear hb); (try clear hb2); (try clear hk); (try clear hi)) | ((with_reducible refine gate_callee (f := 24) rfl ?_); refine goesL_ (some 119) rfl rfl Try.func24 (by kernel_rfl) rfl #[.slice A0 l0.length c0] rfl (by (try simp only [List.map_toArray, List.map_cons, List.map_nil]); first | done | rfl | (simp only [List.length_drop, List.length_take]; rfl)) ?_; (with_reducible refine (region_Pages.calls k3 _ _ l0 t448 _ ?side1 ?side2 A93.out).mono ?_); (case side1 => repeat (first | exact (Kd.C_below HR0.out HB.out) | (with_reducible refine Kd.C_alloc ?_ _) | (with_reducible refine Kd.C_drewN ?_ _) | (with_reducible refine Kd.C_drew ?_))); (case side2 => exact HC0.out); rintro e w98 ⟨rfl, hb⟩; refine ⟨_, rfl, ?_⟩; have n0_ := Aside0.mk (Kd.R_below (by (with_reducible repeat (first | apply Kd.R_alloc | apply Kd.R_drewN | apply Kd.R_drew)); exact HO_11.out) hb); have n1_ := Aside0.mk (below_step (by repeat (first | (with_reducible first | exact HB.out | apply below_alloc | apply pw_below_drewN | apply below_drew1) | exact HB.out)) hb); clear HO_11; clear HB; have HO_11 := n0_; have HB := n1_; clear n0_ n1_; (try clear hb); (try clear hb2); (try clear hk); (try clear hi)) | (go_at_call 10; (with_reducible refine (priorylaw14_awake.calls k3  t449 _ A95.out).mono ?_); rintro e w99 ⟨rfl, hb⟩; have n0_ := Aside0.mk (Kd.R_below (by (with_reducible repeat (first | apply Kd.R_alloc | apply Kd.R_drewN | apply Kd.R_drew)); exact HO_11.out) hb); have n1_ := Aside0.mk (below_step (by repeat (first | (with_reducible first | exact HB.out | apply below_alloc | apply pw_below_drewN | apply below_drew1) | exact HB.out)) hb); clear HO_11; clear HB; have HO_11 := n0_; have HB := n1_; clear n0_ n1_; (try clear hb); (try clear hb2); (try clear hk); (try clear hi)))
                          go_ret
                          exact ⟨by first | rfl | (simp [errW_none, errW_some] <;> rfl) | (simp [*, errW_none, errW_some] <;> rfl), by repeat (first | (with_reducible first | exact HB.out | apply below_alloc | apply pw_below_drewN | apply below_drew1) | exact HB.out)⟩
                        · rw [if_neg c94] at H
                          have c94b0 : (t447 == (wrap64 (t448 - a2))) = false := beq_eq_false_iff_ne.mpr c94
                          have c94b1 : (t447 != (wrap64 (t448 - a2))) = true := bne_iff_ne.mpr c94
                          obtain rfl := Option.some.inj H
                          obtain ⟨Ao100, co100, eo100⟩ := Kd.R_slice HO_11.out
                          subst eo100
                          go_wp2_with (first | ((with_reducible refine gate_callee (f := 24) rfl ?_); refine goesL_ (some 117) rfl rfl Try.func24 (by kernel_rfl) rfl #[.slice Ao100 t442.length co100] rfl (by (try simp only [List.map_toArray, List.map_cons, List.map_nil]); first | done | rfl | (simp only [List.length_drop, List.length_take]; rfl)) ?_; (with_reducible refine (region_Pages.calls k3 _ _ t442 t447 _ ?side1 ?side2 A92.out).mono ?_); (case side1 => repeat (first | exact (Kd.R_reads' HO_11.out).2.2 | (with_reducible refine Kd.C_alloc ?_ _) | (with_reducible refine Kd.C_drewN ?_ _) | (with_reducible refine Kd.C_drew ?_))); (case side2 => exact (Kd.R_reads' HO_11.out).2.1); rintro e w101 ⟨rfl, hb⟩; refine ⟨_, rfl, ?_⟩; have n0_ := Aside0.mk (Kd.R_below (by (with_reducible repeat (first | apply Kd.R_alloc | apply Kd.R_drewN | apply Kd.R_drew)); exact HO_11.out) hb); have n1_ := Aside0.mk (below_step (by repeat (first | (with_reducible first | exact HB.out | apply below_alloc | apply pw_below_drewN | apply below_drew1) | exact HB.out)) hb); clear HO_11; clear HB; have HO_11 := n0_; have HB := n1_; clear n0_ n1_; (try clear hb); (try clear hb2); (try clear hk); (try clear hi)) | ((with_reducible refine gate_callee (f := 24) rfl ?_); refine goesL_ (some 119) rfl rfl Try.func24 (by kernel_rfl) rfl #[.slice A0 l0.length c0] rfl (by (try simp only [List.map_toArray, List.map_cons, List.map_nil]); first | done | rfl | (simp only [List.length_drop, List.length_take]; rfl)) ?_; (with_reducible refine (region_Pages.calls k3 _ _ l0 t448 _ ?side1 ?side2 A93.out).mono ?_); (case side1 => repeat (first | exact (Kd.C_below HR0.out HB.out) | (with_reducible refine Kd.C_alloc ?_ _) | (with_reducible refine Kd.C_drewN ?_ _) | (with_reducible refine Kd.C_drew ?_))); (case side2 => exact HC0.out); rintro e w102 ⟨rfl, hb⟩; refine ⟨_, rfl, ?_⟩; have n0_ := Aside0.mk (Kd.R_below (by (with_reducible repeat (first | apply Kd.R_alloc | apply Kd.R_drewN | apply Kd.R_drew)); exact HO_11.out) hb); have n1_ := Aside0.mk (below_step (by repeat (first | (with_reducible first | exact HB.out | apply below_alloc | apply pw_below_drewN | apply below_drew1) | exact HB.out)) hb); clear HO_11; clear HB; have HO_11 := n0_; have HB := n1_; clear n0_ n1_; (try clear hb); (try clear hb2); (try clear hk); (try clear hi)))
                          go_ret
                          exact ⟨by first | rfl | (simp [errW_none, errW_some] <;> rfl) | (simp [*, errW_none, errW_some] <;> rfl), by repeat (first | (with_reducible first | exact HB.out | apply below_alloc | apply pw_below_drewN | apply below_drew1) | exact HB.out)⟩
                · rw [if_neg c23] at H
                  have c23b0 : (t443 == 0) = false := beq_eq_false_iff_ne.mpr c23
                  have c23b1 : (t443 != 0) = true := bne_iff_ne.mpr c23
                  by_cases c103 : ((t443 == 4) == (!x7_2)) = true
                  · rw [if_pos c103] at H
                    have c103b0 : ((t443 == 4) == (!x7_2)) = true := c103
                    (try (have c103b1 : decide ((t443 == 4) = (!x7_2)) = true := by simpa using c103))
                    (try (have c103b2 : ((t443 == 4) == (!x7_2)) = true := by simpa using c103))
                    clear c103
                    replace H := Option.bind_eq_some_iff.mp H
                    obtain ⟨t446, A1040, H⟩ := H
                    replace H : (some t446) = some r := H
                    have A104 := Aside0.mk A1040
                    clear A1040
                    obtain rfl := Option.some.inj H
                    go_wp2_with (first | ((with_reducible refine gate_callee (f := 22) rfl ?_); refine goesL_ (some 55) rfl rfl Try.func22 (by kernel_rfl) rfl #[.slice A0 l0.length c0, .int .i64 a1, .int .i64 a2] rfl (by (try simp only [List.map_toArray, List.map_cons, List.map_nil]); first | done | rfl | (simp only [List.length_drop, List.length_take]; rfl)) ?_; (with_reducible refine (region_Covers.calls k2 _ _ l0 a1 a2 t441 _ ?side1 ?side2 A19.out).mono ?_); (case side1 => repeat (first | exact (Kd.C_below HR0.out HB.out) | (with_reducible refine Kd.C_alloc ?_ _) | (with_reducible refine Kd.C_drewN ?_ _) | (with_reducible refine Kd.C_drew ?_))); (case side2 => exact HC0.out); rintro e w105 ⟨rfl, hb⟩; refine ⟨_, rfl, ?_⟩; have n0_ := Aside0.mk (below_step (by repeat (first | (with_reducible first | exact HB.out | apply below_alloc | apply pw_below_drewN | apply below_drew1) | exact HB.out)) hb); clear HB; have HB := n0_; clear n0_; (try clear hb); (try clear hb2); (try clear hk); (try clear hi)) | ((with_reducible refine gate_callee (f := 14) rfl ?_); refine goesL_ (some 62) rfl rfl Try.func14 (by kernel_rfl) rfl #[.slice A0 l0.length c0, .int .i64 a1, .int .i64 a2] rfl (by (try simp only [List.map_toArray, List.map_cons, List.map_nil]); first | done | rfl | (simp only [List.length_drop, List.length_take]; rfl)) ?_; (with_reducible refine (region_Cut.calls k2 _ _ l0 a1 a2 t442 t443 _ ?side1 ?side2 A22.out).mono ?_); (case side1 => repeat (first | exact (Kd.C_below HR0.out HB.out) | (with_reducible refine Kd.C_alloc ?_ _) | (with_reducible refine Kd.C_drewN ?_ _) | (with_reducible refine Kd.C_drew ?_))); (case side2 => exact HC0.out); rintro e w106 ⟨v444, rfl, ho0, hb⟩; refine ⟨_, rfl, ?_⟩; have n0_ := Aside0.mk (Kd.R_lower ho0 (below_size (by repeat (first | (with_reducible first | exact HB.out | apply below_alloc | apply pw_below_drewN | apply below_drew1) | exact HB.out)))); have n1_ := Aside0.mk (below_step (by repeat (first | (with_reducible first | exact HB.out | apply below_alloc | apply pw_below_drewN | apply below_drew1) | exact HB.out)) hb); clear HB; have HO445 := n0_; have HB := n1_; clear n0_ n1_; (try clear hb); (try clear hb2); (try clear hk); (try clear hi); (try clear ho0)) | (go_at_call 10; (with_reducible refine (priorylaw14_awake.calls k2  t446 _ A104.out).mono ?_); rintro e w107 ⟨rfl, hb⟩; have n0_ := Aside0.mk (Kd.R_below (by (with_reducible repeat (first | apply Kd.R_alloc | apply Kd.R_drewN | apply Kd.R_drew)); exact HO445.out) hb); have n1_ := Aside0.mk (below_step (by repeat (first | (with_reducible first | exact HB.out | apply below_alloc | apply pw_below_drewN | apply below_drew1) | exact HB.out)) hb); clear HO445; clear HB; have HO445 := n0_; have HB := n1_; clear n0_ n1_; (try clear hb); (try clear hb2); (try clear hk); (try clear hi)))
                    go_ret
                    exact ⟨by first | rfl | (simp [errW_none, errW_some] <;> rfl) | (simp [*, errW_none, errW_some] <;> rfl), by repeat (first | (with_reducible first | exact HB.out | apply below_alloc | apply pw_below_drewN | apply below_drew1) | exact HB.out)⟩
                  · rw [if_neg c103] at H
                    have c103b0 : ((t443 == 4) == (!x7_2)) = false := by simpa using c103
                    (try (have c103b1 : decide ((t443 == 4) = (!x7_2)) = false := by simpa using c103))
                    (try (have c103b2 : ((t443 == 4) == (!x7_2)) = false := by simpa using c103))
                    (try (have c103b3 : ¬ ((t443 == 4) = (!x7_2)) := by simpa using c103))
                    clear c103
                    obtain rfl := Option.some.inj H
                    go_wp2_with (first | ((with_reducible refine gate_callee (f := 22) rfl ?_); refine goesL_ (some 55) rfl rfl Try.func22 (by kernel_rfl) rfl #[.slice A0 l0.length c0, .int .i64 a1, .int .i64 a2] rfl (by (try simp only [List.map_toArray, List.map_cons, List.map_nil]); first | done | rfl | (simp only [List.length_drop, List.length_take]; rfl)) ?_; (with_reducible refine (region_Covers.calls k2 _ _ l0 a1 a2 t441 _ ?side1 ?side2 A19.out).mono ?_); (case side1 => repeat (first | exact (Kd.C_below HR0.out HB.out) | (with_reducible refine Kd.C_alloc ?_ _) | (with_reducible refine Kd.C_drewN ?_ _) | (with_reducible refine Kd.C_drew ?_))); (case side2 => exact HC0.out); rintro e w108 ⟨rfl, hb⟩; refine ⟨_, rfl, ?_⟩; have n0_ := Aside0.mk (below_step (by repeat (first | (with_reducible first | exact HB.out | apply below_alloc | apply pw_below_drewN | apply below_drew1) | exact HB.out)) hb); clear HB; have HB := n0_; clear n0_; (try clear hb); (try clear hb2); (try clear hk); (try clear hi)) | ((with_reducible refine gate_callee (f := 14) rfl ?_); refine goesL_ (some 62) rfl rfl Try.func14 (by kernel_rfl) rfl #[.slice A0 l0.length c0, .int .i64 a1, .int .i64 a2] rfl (by (try simp only [List.map_toArray, List.map_cons, List.map_nil]); first | done | rfl | (simp only [List.length_drop, List.length_take]; rfl)) ?_; (with_reducible refine (region_Cut.calls k2 _ _ l0 a1 a2 t442 t443 _ ?side1 ?side2 A22.out).mono ?_); (case side1 => repeat (first | exact (Kd.C_below HR0.out HB.out) | (with_reducible refine Kd.C_alloc ?_ _) | (with_reducible refine Kd.C_drewN ?_ _) | (with_reducible refine Kd.C_drew ?_))); (case side2 => exact HC0.out); rintro e w109 ⟨v444, rfl, ho0, hb⟩; refine ⟨_, rfl, ?_⟩; have n0_ := Aside0.mk (Kd.R_lower ho0 (below_size (by repeat (first | (with_reducible first | exact HB.out | apply below_alloc | apply pw_below_drewN | apply below_drew1) | exact HB.out)))); have n1_ := Aside0.mk (below_step (by repeat (first | (with_reducible first | exact HB.out | apply below_alloc | apply pw_below_drewN | apply below_drew1) | exact HB.out)) hb); clear HB; have HO445 := n0_; have HB := n1_; clear n0_ n1_; (try clear hb); (try clear hb2); (try clear hk); (try clear hi); (try clear ho0)))
                    go_ret
                    exact ⟨by first | rfl | (simp [errW_none, errW_some] <;> rfl) | (simp [*, errW_none, errW_some] <;> rfl), by repeat (first | (with_reducible first | exact HB.out | apply below_alloc | apply pw_below_drewN | apply below_drew1) | exact HB.out)⟩
end Go.Proofs.Ytcblfhoipdbdlaa.PAll

namespace Go.Proofs.Ytcblfhoipdbdlaa.PAll
open Go.RowKit Go.Proofs.YtcblfhoipdbdlaaW.PrintWords Go.Proofs.YtcblfhoipdbdlaaW.PrintLast Go.Proofs.YtcblfhoipdbdlaaW.PrintMore
set_option linter.unusedVariables false
set_option linter.unusedSimpArgs false
def pgS : List S24 → Nat → Int
  | [], _ => 0
  | a :: r, n => if a.f0 ≤ n ∧ (n : Int) < a.f0 + a.f1 then wv a.f2 else pgS r n
def NF : Int → Option Bool → List S24 → Prop
  | _, _, [] => True
  | e, lw, a :: r => e ≤ a.f0 ∧ (e = a.f0 → lw ≠ some a.f2) ∧ 1 ≤ a.f1 ∧ a.f0 + a.f1 ≤ 1024 ∧ NF (a.f0 + a.f1) (some a.f2) r
def endS : Int → List S24 → Int
  | e, [] => e
  | _, a :: r => endS (a.f0 + a.f1) r
def lwS : Option Bool → List S24 → Option Bool
  | lw, [] => lw
  | _, a :: r => lwS (some a.f2) r
theorem wv_ne (b : Bool) : wv b ≠ 0 := by cases b <;> decide
theorem wv_inj {a b : Bool} (h : wv a = wv b) : a = b := by cases a <;> cases b <;> first | rfl | (revert h; decide)
theorem wv_two (b : Bool) : (wv b == 2) = b := by cases b <;> rfl
theorem wv_of {x : Int} (h : x = 0 ∨ x = 1 ∨ x = 2) (h0 : x ≠ 0) : wv (x == 2) = x := by
  rcases h with h | h | h
  · exact absurd h h0
  · subst h; rfl
  · subst h; rfl
theorem pgS_cases (l : List S24) (n : Nat) : pgS l n = 0 ∨ pgS l n = 1 ∨ pgS l n = 2 := by
  induction l with
  | nil => exact .inl rfl
  | cons a r ih =>
    unfold pgS
    split
    · cases a.f2 <;> simp [wv]
    · exact ih
theorem NF_ge : ∀ {l : List S24} {e : Int} {lw : Option Bool}, NF e lw l → ∀ a ∈ l, e ≤ a.f0 ∧ 1 ≤ a.f1 ∧ a.f0 + a.f1 ≤ 1024
  | [], _, _, _, _, h => by cases h
  | x :: r, e, lw, h, a, ha => by
    obtain ⟨h1, h2, h3, h4, h5⟩ := h
    rcases List.mem_cons.1 ha with rfl | ha
    · exact ⟨h1, h3, h4⟩
    · have := NF_ge h5 a ha
      exact ⟨by omega, this.2⟩
theorem pgS_none {l : List S24} {n : Nat} (h : ∀ a ∈ l, ¬ (a.f0 ≤ n ∧ (n : Int) < a.f0 + a.f1)) : pgS l n = 0 := by
  induction l with
  | nil => rfl
  | cons a r ih =>
    unfold pgS
    rw [if_neg (h a List.mem_cons_self)]
    exact ih (fun b hb => h b (List.mem_cons_of_mem _ hb))
theorem pgS_lt {l : List S24} {e : Int} {lw : Option Bool} (h : NF e lw l) {n : Nat} (hn : (n : Int) < e) : pgS l n = 0 :=
  pgS_none (fun a ha hc => by have := (NF_ge h a ha).1; omega)
theorem pgS_at {l : List S24} {e : Int} {lw : Option Bool} (h : NF e lw l) {n : Nat} (hn : (n : Int) = e) {w : Bool} (hw : lw = some w) : pgS l n ≠ wv w := by
  cases l with
  | nil => exact fun h => wv_ne w h.symm
  | cons a r =>
    obtain ⟨h1, h2, h3, h4, h5⟩ := h
    unfold pgS
    split
    · rename_i hc
      intro he
      exact h2 (by omega) (by rw [hw, wv_inj he])
    · rename_i hc
      rw [pgS_lt h5 (by omega)]
      exact fun h => wv_ne w h.symm
theorem NF_uniq : ∀ (l m : List S24) (e : Int) (lw : Option Bool), 0 ≤ e → NF e lw l → NF e lw m → (∀ n : Nat, e ≤ n → n < 1024 → pgS l n = pgS m n) → l = m
  | [], [], _, _, _, _, _, _ => rfl
  | [], b :: m, e, lw, he, _, hm, hp => by
    obtain ⟨h1, h2, h3, h4, h5⟩ := hm
    have := hp b.f0.toNat (by omega) (by omega)
    rw [show pgS [] b.f0.toNat = 0 from rfl] at this
    unfold pgS at this
    rw [if_pos (by omega)] at this
    exact absurd this.symm (wv_ne _)
  | a :: l, [], e, lw, he, hl, _, hp => by
    obtain ⟨h1, h2, h3, h4, h5⟩ := hl
    have := hp a.f0.toNat (by omega) (by omega)
    rw [show pgS [] a.f0.toNat = 0 from rfl] at this
    unfold pgS at this
    rw [if_pos (by omega)] at this
    exact absurd this (wv_ne _)
  | a :: l, b :: m, e, lw, he, hl, hm, hp => by
    obtain ⟨a1, a2, a3, a4, a5⟩ := hl
    obtain ⟨b1, b2, b3, b4, b5⟩ := hm
    have hs : a.f0 = b.f0 := by
      rcases Int.lt_trichotomy a.f0 b.f0 with h | h | h
      · exfalso
        have := hp a.f0.toNat (by omega) (by omega)
        unfold pgS at this
        rw [if_pos (by omega), if_neg (by omega), pgS_lt b5 (by omega)] at this
        exact wv_ne _ this
      · exact h
      · exfalso
        have := hp b.f0.toNat (by omega) (by omega)
        unfold pgS at this
        rw [if_neg (by omega), if_pos (by omega), pgS_lt a5 (by omega)] at this
        exact wv_ne _ this.symm
    have hw : a.f2 = b.f2 := by
      have := hp a.f0.toNat (by omega) (by omega)
      unfold pgS at this
      rw [if_pos (by omega), if_pos (by omega)] at this
      exact wv_inj this
    have hm : a.f1 = b.f1 := by
      rcases Int.lt_trichotomy a.f1 b.f1 with h | h | h
      · exfalso
        have := hp (a.f0 + a.f1).toNat (by omega) (by omega)
        unfold pgS at this
        rw [if_neg (by omega), if_pos (by omega), ← hw] at this
        exact pgS_at a5 (by omega) rfl this
      · exact h
      · exfalso
        have := hp (b.f0 + b.f1).toNat (by omega) (by omega)
        unfold pgS at this
        rw [if_pos (by omega), if_neg (by omega), hw] at this
        exact pgS_at b5 (by omega) rfl this.symm
    have hab : a = b := by cases a; cases b; simp only at hs hw hm; subst hs hw hm; rfl
    subst hab
    congr 1
    refine NF_uniq l m (a.f0 + a.f1) (some a.f2) (by omega) a5 b5 (fun n h1 h2 => ?_)
    have := hp n (by omega) h2
    unfold pgS at this
    rwa [if_neg (by omega), if_neg (by omega)] at this
theorem NF_append : ∀ (p s : List S24) (e : Int) (lw : Option Bool), NF e lw (p ++ s) ↔ NF e lw p ∧ NF (endS e p) (lwS lw p) s
  | [], s, e, lw => by simp [NF, endS, lwS]
  | a :: p, s, e, lw => by
    simp only [List.cons_append, NF, endS, lwS]
    rw [NF_append p s]
    constructor
    · rintro ⟨h1, h2, h3, h4, h5, h6⟩; exact ⟨⟨h1, h2, h3, h4, h5⟩, h6⟩
    · rintro ⟨⟨h1, h2, h3, h4, h5⟩, h6⟩; exact ⟨h1, h2, h3, h4, h5, h6⟩
theorem pgS_append (p s : List S24) (n : Nat) : pgS (p ++ s) n = if pgS p n = 0 then pgS s n else pgS p n := by
  induction p with
  | nil => simp [pgS]
  | cons a p ih =>
    simp only [List.cons_append, pgS]
    split
    · rw [if_neg (wv_ne _)]
    · exact ih
theorem endS_append (p s : List S24) : ∀ e, endS e (p ++ s) = endS (endS e p) s := by
  induction p with
  | nil => intro e; rfl
  | cons a p ih => intro e; exact ih _
theorem lwS_append (p s : List S24) : ∀ e, lwS e (p ++ s) = lwS (lwS e p) s := by
  induction p with
  | nil => intro e; rfl
  | cons a p ih => intro e; exact ih _
theorem endS_ge : ∀ {l : List S24} {e : Int} {lw : Option Bool}, NF e lw l → e ≤ endS e l ∧ (∀ a ∈ l, a.f0 + a.f1 ≤ endS e l) ∧ (e ≤ 1024 → endS e l ≤ 1024)
  | [], e, _, _ => ⟨Int.le_refl _, (fun _ h => by cases h), fun h => h⟩
  | x :: r, e, lw, h => by
    obtain ⟨h1, h2, h3, h4, h5⟩ := h
    have := endS_ge h5
    refine ⟨by unfold endS; omega, fun a ha => ?_, fun _ => by unfold endS; exact this.2.2 h4⟩
    unfold endS
    rcases List.mem_cons.1 ha with rfl | ha
    · exact this.1
    · exact this.2.1 a ha
theorem pgS_end {l : List S24} {e : Int} {lw : Option Bool} (h : NF e lw l) {n : Nat} (hn : endS e l ≤ n) : pgS l n = 0 :=
  pgS_none (fun a ha hc => by have := (endS_ge h).2.1 a ha; omega)
theorem pgF_pgS : ∀ (l : List S24) (e : Int) (lw : Option Bool), NF e lw l → ∀ (f : Nat → Int) (n : Nat), (l.foldl (fun f a => fill f a.f0 a.f1 (wv a.f2)) f) n = if pgS l n = 0 then f n else pgS l n
  | [], _, _, _, f, n => by simp [pgS]
  | a :: r, e, lw, h, f, n => by
    obtain ⟨h1, h2, h3, h4, h5⟩ := h
    simp only [List.foldl_cons]
    rw [pgF_pgS r _ _ h5]
    have hs : pgS (a :: r) n = if a.f0 ≤ n ∧ (n : Int) < a.f0 + a.f1 then wv a.f2 else pgS r n := rfl
    rw [hs]
    by_cases hc : a.f0 ≤ n ∧ (n : Int) < a.f0 + a.f1
    · rw [pgS_lt h5 (by omega), if_pos rfl, if_pos hc, if_neg (wv_ne _)]
      unfold fill
      rw [if_pos hc]
    · rw [if_neg hc]
      unfold fill
      rw [if_neg hc]
theorem pgF_eq {l : List S24} {e : Int} {lw : Option Bool} (h : NF e lw l) (n : Nat) : pgF l n = pgS l n := by
  unfold pgF
  rw [pgF_pgS l e lw h]
  split
  · rename_i h0; exact h0.symm
  · rfl
theorem nil_or_snoc (p : List S24) : p = [] ∨ ∃ q x, p = q ++ [x] := by
  rcases List.eq_nil_or_concat p with h | ⟨q, x, h⟩
  · exact .inl h
  · exact .inr ⟨q, x, by rw [h, List.concat_eq_append]⟩
theorem NF_ok : ∀ (l p : List S24), (∀ i, i < (p ++ l).length → okAt (p ++ l) i = true) → NF (endS 0 p) (lwS none p) l
  | [], _, _ => trivial
  | a :: r, p, h => by
    have hi := h p.length (by simp)
    have hat : ar (p ++ a :: r) p.length = a := by simp [ar, List.getD_eq_getElem?_getD]
    unfold okAt at hi
    rw [hat, Bool.and_eq_true] at hi
    have hf := fitB_iff.1 hi.1
    have hrec := NF_ok r (p ++ [a]) (by simpa using h)
    rw [endS_append, lwS_append] at hrec
    refine ⟨?_, ?_, hf.2.2.1, by omega, hrec⟩
    · rcases nil_or_snoc p with rfl | ⟨q, x, rfl⟩
      · exact hf.1
      · have h2 := hi.2
        have hx : ar (q ++ [x] ++ a :: r) ((q ++ [x]).length - 1) = x := by simp [ar, List.getD_eq_getElem?_getD]
        rw [hx] at h2
        have h3 : gapB x a = true := by simpa using h2
        unfold gapB at h3
        have h4 := of_decide_eq_true h3
        rw [endS_append]
        simp only [endS]
        omega
    · rcases nil_or_snoc p with rfl | ⟨q, x, rfl⟩
      · intro _ h; cases h
      · have h2 := hi.2
        have hx : ar (q ++ [x] ++ a :: r) ((q ++ [x]).length - 1) = x := by simp [ar, List.getD_eq_getElem?_getD]
        rw [hx] at h2
        have h3 : gapB x a = true := by simpa using h2
        unfold gapB at h3
        have h4 := of_decide_eq_true h3
        rw [endS_append, lwS_append]
        simp only [endS, lwS]
        intro he hs
        injection hs with hs
        rcases h4 with h4 | h4
        · omega
        · exact h4.2 hs.symm
theorem ok_NF : ∀ (l p : List S24), NF 0 none p → NF (endS 0 p) (lwS none p) l → ∀ i, p.length ≤ i → i < (p ++ l).length → okAt (p ++ l) i = true
  | [], p, _, _, i, h1, h2 => by simp at h2; omega
  | a :: r, p, hp, h, i, h1, h2 => by
    obtain ⟨a1, a2, a3, a4, a5⟩ := h
    by_cases e : i = p.length
    · subst e
      have hat : ar (p ++ a :: r) p.length = a := by simp [ar, List.getD_eq_getElem?_getD]
      have h0 := (endS_ge hp).1
      unfold okAt
      rw [hat, fitB_iff.2 ⟨by omega, by omega, a3, by omega⟩, Bool.true_and]
      rcases nil_or_snoc p with rfl | ⟨q, x, rfl⟩
      · rfl
      · have hx : ar (q ++ [x] ++ a :: r) ((q ++ [x]).length - 1) = x := by simp [ar, List.getD_eq_getElem?_getD]
        rw [hx, Bool.or_eq_true]
        refine .inr (decide_eq_true ?_)
        rw [endS_append, lwS_append] at a2
        rw [endS_append] at a1
        simp only [endS, lwS] at a1 a2
        by_cases h3 : x.f0 + x.f1 = a.f0
        · exact .inr ⟨h3, fun hs => a2 h3 (by rw [hs])⟩
        · exact .inl (by omega)
    · have := ok_NF r (p ++ [a]) ((NF_append p [a] 0 none).2 ⟨hp, a1, a2, a3, a4, trivial⟩) (by rw [endS_append, lwS_append]; exact a5) i (by simp; omega) (by simpa using h2)
      simpa using this
theorem okB_iff (l : List S24) : okB l = true ↔ l.length ≤ 8 ∧ NF 0 none l := by
  constructor
  · intro h
    unfold okB at h
    rw [Bool.and_eq_true, List.all_eq_true] at h
    exact ⟨of_decide_eq_true h.1, NF_ok l [] (fun i hi => h.2 i (List.mem_range.2 (by simpa using hi)))⟩
  · rintro ⟨h1, h2⟩
    unfold okB
    rw [decide_eq_true h1, Bool.true_and, List.all_eq_true]
    intro i hi
    exact ok_NF l [] trivial h2 i (Nat.zero_le _) (by simpa using List.mem_range.1 hi)
theorem bumpL_snoc (g : List S24) (x : S24) : bumpL (g ++ [x]) = g ++ [bumpS x] := by
  simp [bumpL, List.getD_eq_getElem?_getD]
theorem pgS_in {a : S24} {r : List S24} {n : Nat} (h : a.f0 ≤ n ∧ (n : Int) < a.f0 + a.f1) : pgS (a :: r) n = wv a.f2 := if_pos h
theorem pgS_out {a : S24} {r : List S24} {n : Nat} (h : ¬ (a.f0 ≤ n ∧ (n : Int) < a.f0 + a.f1)) : pgS (a :: r) n = pgS r n := if_neg h
structure FI (what : Nat → Int) (n : Nat) (F : List S24) : Prop where
  nf : NF 0 none F
  pg : ∀ i, i < n → pgS F i = what i
  le : endS 0 F ≤ n
  on : lastF what n ≠ 0 → endS 0 F = n ∧ lwS none F = some (lastF what n == 2)
  off : lastF what n = 0 → endS 0 F < n ∨ lwS none F = none
theorem formL_FI (what : Nat → Int) (hw : ∀ n, what n = 0 ∨ what n = 1 ∨ what n = 2) : ∀ n, n ≤ 1024 → FI what n (formL what n)
  | 0, _ => ⟨trivial, fun i hi => by omega, Int.le_refl _, fun h => absurd rfl h, fun _ => .inr rfl⟩
  | n + 1, hn => by
    have ih := formL_FI what hw n (by omega)
    have hle := ih.le
    have hl : lastF what (n + 1) = what n := rfl
    by_cases h0 : what n = 0
    · have e : formL what (n + 1) = formL what n := by conv => lhs; unfold formL; rw [if_pos h0]
      rw [e]
      refine ⟨ih.nf, fun i hi => ?_, by omega, fun h => absurd (hl.trans h0) h, fun _ => .inl (by omega)⟩
      by_cases hi' : i < n
      · exact ih.pg i hi'
      · have : i = n := by omega
        subst this
        rw [h0]
        exact pgS_end ih.nf ih.le
    · have hwn := wv_of (hw n) h0
      by_cases h1 : what n = lastF what n
      · have e : formL what (n + 1) = bumpL (formL what n) := by conv => lhs; unfold formL; rw [if_neg h0, if_pos h1]
        have hon := ih.on (by rw [← h1]; exact h0)
        rcases nil_or_snoc (formL what n) with hF | ⟨g, x, hF⟩
        · have := formL_ne what n (by rw [← h1]; exact h0)
          rw [hF] at this
          simp at this
        · rw [e, hF, bumpL_snoc]
          rw [hF] at ih hon
          rw [endS_append, lwS_append] at hon
          simp only [endS, lwS] at hon
          have hnf := (NF_append g [x] 0 none).1 ih.nf
          obtain ⟨g1, x1, x2, x3, x4, _⟩ := hnf
          have hx2 : x.f2 = (what n == 2) := by have := hon.2; injection this with this; rw [this, ← h1]
          refine ⟨(NF_append g [bumpS x] 0 none).2 ⟨g1, x1, x2, by show 1 ≤ x.f1 + 1; omega, by show x.f0 + (x.f1 + 1) ≤ 1024; omega, trivial⟩, fun i hi => ?_, ?_, ?_, ?_⟩
          · rw [pgS_append]
            have hp := pgS_append g [x] i
            by_cases hi' : i < n
            · have h3 := ih.pg i hi'
              rw [hp] at h3
              rw [← h3]
              split
              · by_cases hc : x.f0 ≤ i ∧ (i : Int) < x.f0 + x.f1
                · rw [pgS_in hc, pgS_in (a := bumpS x) (show x.f0 ≤ i ∧ (i : Int) < x.f0 + (x.f1 + 1) by omega)]; rfl
                · rw [pgS_out hc, pgS_out (a := bumpS x) (show ¬ (x.f0 ≤ i ∧ (i : Int) < x.f0 + (x.f1 + 1)) by omega)]
              · rfl
            · have : i = n := by omega
              subst this
              have hg : pgS g i = 0 := pgS_end g1 (by omega)
              rw [if_pos hg, pgS_in (a := bumpS x) (show x.f0 ≤ i ∧ (i : Int) < x.f0 + (x.f1 + 1) by omega)]
              show wv x.f2 = what i
              rw [hx2, hwn]
          · rw [endS_append]; simp only [endS, bumpS]; omega
          · intro _
            rw [endS_append, lwS_append]
            simp only [endS, lwS, bumpS]
            exact ⟨by omega, by rw [hx2, hl]⟩
          · intro h; exact absurd (hl.symm.trans h) h0
      · have e : formL what (n + 1) = formL what n ++ [⟨n, 1, what n == 2⟩] := by conv => lhs; unfold formL; rw [if_neg h0, if_neg h1]
        rw [e]
        refine ⟨(NF_append _ _ 0 none).2 ⟨ih.nf, ih.le, fun he => ?_, by show (1 : Int) ≤ 1; omega, by show (n : Int) + 1 ≤ 1024; omega, trivial⟩, fun i hi => ?_, ?_, ?_, ?_⟩
        · show lwS none (formL what n) ≠ some (what n == 2)
          by_cases hz : lastF what n = 0
          · rcases ih.off hz with h | h
            · simp only at he; omega
            · rw [h]; exact fun h => by cases h
          · rw [(ih.on hz).2]
            intro hs
            injection hs with hs
            have h2 : lastF what n = 0 ∨ lastF what n = 1 ∨ lastF what n = 2 := by
              cases n with
              | zero => exact .inl rfl
              | succ m => exact hw m
            exact h1 (by rw [← hwn, ← hs, wv_of h2 hz])
        · rw [pgS_append]
          by_cases hi' : i < n
          · rw [ih.pg i hi']
            split
            · rename_i h3
              rw [h3]
              simp only [pgS]
              rw [if_neg (by omega)]
            · rfl
          · have : i = n := by omega
            subst this
            rw [if_pos (pgS_end ih.nf ih.le)]
            simp only [pgS]
            rw [if_pos (by omega), hwn]
        · rw [endS_append]; simp only [endS]; omega
        · intro _
          rw [endS_append, lwS_append]
          simp only [endS, lwS]
          exact ⟨by omega, by rw [hl]⟩
        · intro h; exact absurd (hl.symm.trans h) h0
theorem form_of {what : Nat → Int} (hw : ∀ n, what n = 0 ∨ what n = 1 ∨ what n = 2) {m : List S24} (hm : NF 0 none m) (hp : ∀ n, n < 1024 → pgS m n = what n) : formL what 1024 = m := by
  have h := formL_FI what hw 1024 (Nat.le_refl _)
  exact NF_uniq _ _ 0 none (Int.le_refl _) h.nf hm (fun n _ hn => (h.pg n hn).trans (hp n hn).symm)
def fewR (m : List S24) : List S24 × Int := if m.length > 8 then ([], 3) else (m, 0)
theorem formR_of {what : Nat → Int} (hw : ∀ n, what n = 0 ∨ what n = 1 ∨ what n = 2) {m : List S24} (hm : NF 0 none m) (hp : ∀ n, n < 1024 → pgS m n = what n) : formR what = fewR m := by
  unfold formR fewR
  rw [form_of hw hm hp]
theorem formL_nf (what : Nat → Int) (hw : ∀ n, what n = 0 ∨ what n = 1 ∨ what n = 2) : NF 0 none (formL what 1024) := (formL_FI what hw 1024 (Nat.le_refl _)).nf
theorem formL_pg (what : Nat → Int) (hw : ∀ n, what n = 0 ∨ what n = 1 ∨ what n = 2) {n : Nat} (hn : n < 1024) : pgS (formL what 1024) n = what n := (formL_FI what hw 1024 (Nat.le_refl _)).pg n hn
theorem wv_cases (b : Bool) : wv b = 0 ∨ wv b = 1 ∨ wv b = 2 := by cases b <;> simp [wv]
theorem pgF_cases (l : List S24) (n : Nat) : pgF l n = 0 ∨ pgF l n = 1 ∨ pgF l n = 2 := by
  have : ∀ (l : List S24) (f : Nat → Int), (∀ n, f n = 0 ∨ f n = 1 ∨ f n = 2) → ∀ n, (l.foldl (fun f a => fill f a.f0 a.f1 (wv a.f2)) f) n = 0 ∨ (l.foldl (fun f a => fill f a.f0 a.f1 (wv a.f2)) f) n = 1 ∨ (l.foldl (fun f a => fill f a.f0 a.f1 (wv a.f2)) f) n = 2 := by
    intro l
    induction l with
    | nil => intro f h n; exact h n
    | cons a r ih =>
      intro f h n
      refine ih _ (fun m => ?_) n
      show fill f a.f0 a.f1 (wv a.f2) m = 0 ∨ fill f a.f0 a.f1 (wv a.f2) m = 1 ∨ fill f a.f0 a.f1 (wv a.f2) m = 2
      unfold fill
      split
      · exact wv_cases a.f2
      · exact h m
  exact this l _ (fun _ => .inl rfl) n
theorem both_cases (l m : List S24) (n : Nat) : both (pgF l) (pgF m) n = 0 ∨ both (pgF l) (pgF m) n = 1 ∨ both (pgF l) (pgF m) n = 2 := by
  unfold both mx
  split
  · exact pgF_cases m n
  · exact pgF_cases l n
theorem chg_cases {f : Nat → Int} (hf : ∀ n, f n = 0 ∨ f n = 1 ∨ f n = 2) {a b t : Int} (ht : t = 0 ∨ t = 1 ∨ t = 2) (n : Nat) : chg f a b t n = 0 ∨ chg f a b t n = 1 ∨ chg f a b t n = 2 := by
  unfold chg
  split
  · exact ht
  · exact hf n
def foldW : List S24 → List S24 → S24 → List S24 × S24
  | [], out, a => (out, a)
  | x :: r, out, a => if x.f2 = a.f2 ∧ x.f0 + x.f1 = a.f0 then foldW r out ⟨x.f0, x.f1 + a.f1, a.f2⟩
    else if x.f2 = a.f2 ∧ a.f0 + a.f1 = x.f0 then foldW r out ⟨a.f0, a.f1 + x.f1, a.f2⟩ else foldW r (out ++ [x]) a
def insW (out : List S24) (a : S24) : List S24 := out.takeWhile (fun x => decide (x.f0 < a.f0)) ++ a :: out.dropWhile (fun x => decide (x.f0 < a.f0))
def withP (l : List S24) (a : S24) : List S24 := insW (foldW l [] a).1 (foldW l [] a).2
theorem foldW_append : ∀ (p s out : List S24) (a : S24), foldW (p ++ s) out a = foldW s (foldW p out a).1 (foldW p out a).2
  | [], s, out, a => rfl
  | x :: p, s, out, a => by
    simp only [List.cons_append, foldW]
    split
    · exact foldW_append p s _ _
    · split
      · exact foldW_append p s _ _
      · exact foldW_append p s _ _
theorem foldW_out {a : S24} : ∀ (l out : List S24), (∀ x ∈ l, x.f0 + x.f1 ≠ a.f0 ∧ (x.f2 = a.f2 → a.f0 + a.f1 ≠ x.f0)) → foldW l out a = (out ++ l, a)
  | [], out, _ => by simp [foldW]
  | x :: r, out, h => by
    have hx := h x List.mem_cons_self
    unfold foldW
    rw [if_neg (fun hc => hx.1 hc.2), if_neg (fun hc => hx.2 hc.1 hc.2), foldW_out r _ (fun y hy => h y (List.mem_cons_of_mem _ hy))]
    simp
theorem insW_mid {p s : List S24} {a : S24} (hp : ∀ x ∈ p, x.f0 < a.f0) (hs : ∀ x ∈ s, a.f0 ≤ x.f0) : insW (p ++ s) a = p ++ a :: s := by
  unfold insW
  have h1 : ∀ (p : List S24), (∀ x ∈ p, x.f0 < a.f0) → (p ++ s).takeWhile (fun x => decide (x.f0 < a.f0)) = p ∧ (p ++ s).dropWhile (fun x => decide (x.f0 < a.f0)) = s := by
    intro p
    induction p with
    | nil =>
      intro _
      cases s with
      | nil => simp
      | cons y t =>
        have : decide (y.f0 < a.f0) = false := decide_eq_false (by have := hs y List.mem_cons_self; omega)
        simp [this]
    | cons x p ih =>
      intro h
      have hx : decide (x.f0 < a.f0) = true := decide_eq_true (h x List.mem_cons_self)
      have := ih (fun y hy => h y (List.mem_cons_of_mem _ hy))
      simp [List.takeWhile_cons, List.dropWhile_cons, hx, this.1, this.2]
  rw [(h1 p hp).1, (h1 p hp).2]
/-- l in two: what ends ahead of a, what begins behind it. -/
theorem split_at {l : List S24} {e : Int} {lw : Option Bool} {a : S24} (hl : NF e lw l) (ha : 1 ≤ a.f1) (hd : ∀ x ∈ l, ¬ (x.f0 < a.f0 + a.f1 ∧ a.f0 < x.f0 + x.f1)) :
    ∃ p s, l = p ++ s ∧ (∀ x ∈ p, x.f0 + x.f1 ≤ a.f0) ∧ (∀ x ∈ s, a.f0 + a.f1 ≤ x.f0) := by
  induction l generalizing e lw with
  | nil => exact ⟨[], [], rfl, (fun _ h => by cases h), (fun _ h => by cases h)⟩
  | cons x r ih =>
    obtain ⟨h1, h2, h3, h4, h5⟩ := hl
    have hx := hd x List.mem_cons_self
    by_cases hc : x.f0 + x.f1 ≤ a.f0
    · obtain ⟨p, s, e1, hp, hs⟩ := ih h5 (fun y hy => hd y (List.mem_cons_of_mem _ hy))
      refine ⟨x :: p, s, by rw [e1]; rfl, fun y hy => ?_, hs⟩
      rcases List.mem_cons.1 hy with rfl | hy
      · exact hc
      · exact hp y hy
    · refine ⟨[], x :: r, rfl, (fun _ h => by cases h), fun y hy => ?_⟩
      rcases List.mem_cons.1 hy with rfl | hy
      · omega
      · have := (NF_ge h5 y hy).1
        omega
theorem with_left {p : List S24} {a : S24} (hp : NF 0 none p) (ha : Fit a) (hle : ∀ x ∈ p, x.f0 + x.f1 ≤ a.f0) (out : List S24) :
    ∃ p' a', foldW p out a = (out ++ p', a') ∧ NF 0 none (p' ++ [a']) ∧ (∀ n, pgS (p' ++ [a']) n = pgS (p ++ [a]) n) ∧ a'.f0 + a'.f1 = a.f0 + a.f1 ∧ a'.f2 = a.f2 ∧ (∀ x ∈ p', x.f0 < a'.f0) := by
  obtain ⟨ha0, ha1, ha2⟩ := ha
  rcases nil_or_snoc p with rfl | ⟨q, x, rfl⟩
  · exact ⟨[], a, by simp [foldW], ⟨ha0, (fun _ h => by cases h), ha1, ha2, trivial⟩, fun n => rfl, rfl, rfl, (fun _ h => by cases h)⟩
  · have hx := hle x (by simp)
    obtain ⟨hq, x1, x2, x3, x4, _⟩ := (NF_append q [x] 0 none).1 hp
    have hqe : ∀ y ∈ q, y.f0 + y.f1 ≤ x.f0 := fun y hy => by have := (endS_ge hq).2.1 y hy; omega
    have hq1 : ∀ y ∈ q, 1 ≤ y.f1 := fun y hy => (NF_ge hq y hy).2.1
    rw [foldW_append, foldW_out q out (fun y hy => ⟨by have := hqe y hy; omega, fun _ => by have := hqe y hy; have := hq1 y hy; omega⟩)]
    simp only [foldW]
    by_cases hc : x.f2 = a.f2 ∧ x.f0 + x.f1 = a.f0
    · rw [if_pos hc]
      refine ⟨q, ⟨x.f0, x.f1 + a.f1, a.f2⟩, rfl, (NF_append q _ 0 none).2 ⟨hq, x1, ?_, by show 1 ≤ x.f1 + a.f1; omega, by show x.f0 + (x.f1 + a.f1) ≤ 1024; omega, trivial⟩, fun n => ?_, by show x.f0 + (x.f1 + a.f1) = _; omega, rfl, fun y hy => by show y.f0 < x.f0; have := hqe y hy; have := hq1 y hy; omega⟩
      · show endS 0 q = x.f0 → lwS none q ≠ some a.f2
        rw [← hc.1]; exact x2
      · rw [List.append_assoc, pgS_append, pgS_append q]
        split
        · by_cases h1 : x.f0 ≤ n ∧ (n : Int) < x.f0 + x.f1
          · rw [pgS_in (a := ⟨x.f0, x.f1 + a.f1, a.f2⟩) (show x.f0 ≤ n ∧ (n : Int) < x.f0 + (x.f1 + a.f1) by omega)]
            show _ = pgS (x :: [a]) n
            rw [pgS_in h1, hc.1]
          · show _ = pgS (x :: [a]) n
            rw [pgS_out h1]
            by_cases h2 : a.f0 ≤ n ∧ (n : Int) < a.f0 + a.f1
            · rw [pgS_in h2, pgS_in (a := ⟨x.f0, x.f1 + a.f1, a.f2⟩) (show x.f0 ≤ n ∧ (n : Int) < x.f0 + (x.f1 + a.f1) by omega)]
            · rw [pgS_out h2, pgS_out (a := ⟨x.f0, x.f1 + a.f1, a.f2⟩) (show ¬ (x.f0 ≤ n ∧ (n : Int) < x.f0 + (x.f1 + a.f1)) by omega)]
        · rfl
    · rw [if_neg hc, if_neg (fun h => by omega)]
      refine ⟨q ++ [x], a, by simp, (NF_append (q ++ [x]) [a] 0 none).2 ⟨hp, ?_, ?_, ha1, ha2, trivial⟩, fun n => rfl, rfl, rfl, fun y hy => by have := hle y hy; have := (NF_ge hp y hy).2.1; omega⟩
      · rw [endS_append]; exact hx
      · rw [endS_append, lwS_append]
        show x.f0 + x.f1 = a.f0 → some x.f2 ≠ some a.f2
        intro h1 h2
        injection h2 with h2
        exact hc ⟨h2, h1⟩
theorem with_right {P s : List S24} {A : S24} {e : Int} {lw : Option Bool} (hP : NF 0 none (P ++ [A])) (hs : NF e lw s) (hge : ∀ x ∈ s, A.f0 + A.f1 ≤ x.f0) (hlt : ∀ x ∈ P, x.f0 < A.f0) (out : List S24) :
    ∃ s' A', foldW s out A = (out ++ s', A') ∧ NF 0 none (P ++ A' :: s') ∧ (∀ n, pgS (P ++ A' :: s') n = pgS (P ++ A :: s) n) ∧ A'.f0 = A.f0 ∧ (∀ x ∈ s', A'.f0 ≤ x.f0) := by
  obtain ⟨hP0, A1, A2, A3, A4, _⟩ := (NF_append P [A] 0 none).1 hP
  cases s with
  | nil => exact ⟨[], A, by simp [foldW], by simpa using hP, fun n => rfl, rfl, (fun _ h => by cases h)⟩
  | cons y t =>
    obtain ⟨y1, y2, y3, y4, y5⟩ := hs
    have hy := hge y List.mem_cons_self
    have ht : ∀ z ∈ t, y.f0 + y.f1 ≤ z.f0 := fun z hz => (NF_ge y5 z hz).1
    unfold foldW
    rw [if_neg (fun h => by omega)]
    by_cases hc : y.f2 = A.f2 ∧ A.f0 + A.f1 = y.f0
    · rw [if_pos hc]
      have hz : ∀ z ∈ t, z.f0 + z.f1 ≠ A.f0 ∧ (z.f2 = A.f2 → A.f0 + (A.f1 + y.f1) ≠ z.f0) := fun z hz => by
        have h1 := ht z hz
        have h2 := (NF_ge y5 z hz).2.1
        refine ⟨by omega, fun hw he => ?_⟩
        cases t with
        | nil => cases hz
        | cons u v =>
          obtain ⟨u1, u2, u3, u4, u5⟩ := y5
          rcases List.mem_cons.1 hz with rfl | hz
          · exact u2 (by omega) (by rw [hw, hc.1])
          · have := (NF_ge u5 z hz).1; omega
      rw [foldW_out (a := ⟨A.f0, A.f1 + y.f1, A.f2⟩) t out hz]
      refine ⟨t, ⟨A.f0, A.f1 + y.f1, A.f2⟩, rfl, (NF_append P _ 0 none).2 ⟨hP0, A1, A2, by show 1 ≤ A.f1 + y.f1; omega, by show A.f0 + (A.f1 + y.f1) ≤ 1024; omega, ?_⟩, fun n => ?_, rfl, fun z hz => by show A.f0 ≤ z.f0; have := ht z hz; omega⟩
      · show NF (A.f0 + (A.f1 + y.f1)) (some A.f2) t
        rw [show A.f0 + (A.f1 + y.f1) = y.f0 + y.f1 by omega, ← hc.1]
        exact y5
      · rw [pgS_append, pgS_append P]
        split
        · by_cases h1 : A.f0 ≤ n ∧ (n : Int) < A.f0 + A.f1
          · rw [pgS_in h1, pgS_in (a := ⟨A.f0, A.f1 + y.f1, A.f2⟩) (show A.f0 ≤ n ∧ (n : Int) < A.f0 + (A.f1 + y.f1) by omega)]
          · rw [pgS_out h1]
            by_cases h2 : y.f0 ≤ n ∧ (n : Int) < y.f0 + y.f1
            · rw [pgS_in h2, pgS_in (a := ⟨A.f0, A.f1 + y.f1, A.f2⟩) (show A.f0 ≤ n ∧ (n : Int) < A.f0 + (A.f1 + y.f1) by omega), hc.1]
            · rw [pgS_out h2, pgS_out (a := ⟨A.f0, A.f1 + y.f1, A.f2⟩) (show ¬ (A.f0 ≤ n ∧ (n : Int) < A.f0 + (A.f1 + y.f1)) by omega)]
        · rfl
    · rw [if_neg hc, foldW_out t (out ++ [y]) (fun z hz => by have h1 := ht z hz; have h2 := (NF_ge y5 z hz).2.1; exact ⟨by omega, fun _ => by omega⟩)]
      refine ⟨y :: t, A, by simp, (NF_append P _ 0 none).2 ⟨hP0, A1, A2, A3, A4, hy, fun he hw => ?_, y3, y4, y5⟩, fun n => rfl, rfl, fun z hz => ?_⟩
      · injection hw with hw
        exact hc ⟨hw.symm, he⟩
      · have := hge z hz; omega
theorem with_spec {l : List S24} {a : S24} (hl : NF 0 none l) (ha : Fit a) (hd : ∀ x ∈ l, ¬ (x.f0 < a.f0 + a.f1 ∧ a.f0 < x.f0 + x.f1)) :
    NF 0 none (withP l a) ∧ ∀ n : Nat, pgS (withP l a) n = if a.f0 ≤ n ∧ (n : Int) < a.f0 + a.f1 then wv a.f2 else pgS l n := by
  obtain ⟨p, s, rfl, hp, hs⟩ := split_at hl ha.2.1 hd
  obtain ⟨hp0, hs0⟩ := (NF_append p s 0 none).1 hl
  obtain ⟨p', a', e1, n1, g1, end1, w1, lt1⟩ := with_left hp0 ha hp []
  obtain ⟨s', A', e2, n2, g2, st2, ge2⟩ := with_right n1 hs0 (fun x hx => by rw [end1]; exact hs x hx) lt1 p'
  have hW : withP (p ++ s) a = p' ++ A' :: s' := by
    unfold withP
    rw [foldW_append, e1]
    simp only [List.nil_append]
    rw [e2]
    exact insW_mid (fun x hx => by rw [st2]; exact lt1 x hx) ge2
  rw [hW]
  refine ⟨n2, fun n => ?_⟩
  rw [g2 n, show p' ++ a' :: s = (p' ++ [a']) ++ s by simp, pgS_append, g1 n, ← pgS_append]
  rw [show p ++ [a] ++ s = p ++ a :: s by simp, pgS_append, pgS_append]
  by_cases hc : a.f0 ≤ n ∧ (n : Int) < a.f0 + a.f1
  · rw [pgS_in hc, if_pos hc, pgS_none (l := p) (fun x hx h => by have := hp x hx; omega), if_pos rfl]
  · rw [pgS_out hc, if_neg hc]
theorem chk_cases (l : List S24) : (okB l = true ∧ chk l = 0) ∨ (okB l = false ∧ chk l = 2) := by
  unfold chk
  cases okB l with
  | true => exact .inl ⟨rfl, rfl⟩
  | false => exact .inr ⟨rfl, rfl⟩
/-- The first area that has the page. -/
def findL : List S24 → Int → Bool × Bool
  | [], _ => (false, false)
  | a :: r, n => if a.f0 ≤ n ∧ n < a.f0 + a.f1 then (a.f2, true) else findL r n
def findR (l : List S24) (n : Int) : Bool × Bool := if okB l = true then findL l n else (false, false)
theorem findL_pg (l : List S24) (n : Nat) : findL l n = if pgS l n = 0 then (false, false) else (pgS l n == 2, true) := by
  induction l with
  | nil => rfl
  | cons a r ih =>
    by_cases hc : a.f0 ≤ n ∧ (n : Int) < a.f0 + a.f1
    · rw [pgS_in hc, if_neg (wv_ne _), wv_two]
      unfold findL
      rw [if_pos hc]
    · rw [pgS_out hc, ← ih]
      show (if _ then _ else _) = _
      rw [if_neg hc]
theorem drop_cons {l : List S24} {i : Nat} (h : i < l.length) : l.drop i = ar l i :: l.drop (i + 1) := by
  rw [List.drop_eq_getElem_cons h]
  simp [ar, List.getD_eq_getElem?_getD, h]
theorem ar_mem {l : List S24} {i : Nat} (h : i < l.length) : ar l i ∈ l := by
  have : ar l i = l[i] := by simp [ar, List.getD_eq_getElem?_getD, h]
  rw [this]; exact List.getElem_mem h
theorem find_l0 (l : List S24) (n : Int) (hf : ∀ a ∈ l, Fit a) (hlen : l.length ≤ 1000) : ∀ (d k i : Nat), i + d = l.length → d < k → region_Find.l0 k n l (l.length : Int) i = some (findL (l.drop i) n) := by
  intro d
  induction d with
  | zero =>
    intro k i hi hk
    obtain ⟨k, rfl⟩ : ∃ m, k = m + 1 := ⟨k - 1, by omega⟩
    simp only [region_Find.l0]
    rw [if_neg (by omega), List.drop_eq_nil_of_le (by omega)]
    rfl
  | succ d ih =>
    intro k i hi hk
    obtain ⟨k, rfl⟩ : ∃ m, k = m + 1 := ⟨k - 1, by omega⟩
    have hil : i < l.length := by omega
    have hfa := hf _ (ar_mem hil)
    obtain ⟨f0, f1, f2⟩ := hfa
    simp only [region_Find.l0]
    have hlt : (i : Int) < (l.length : Int) := by omega
    rw [if_pos hlt, if_pos (by omega), if_pos hlt, rd_ar, wrap_id (x := (ar l i).f0 + (ar l i).f1) (by omega), wrap_id (by omega), drop_cons hil]
    have hr := ih k (i + 1) (by omega) (by omega)
    show _ = some (if _ then _ else _)
    by_cases h1 : (ar l i).f0 ≤ n
    · rw [if_pos h1]
      by_cases h2 : n < (ar l i).f0 + (ar l i).f1
      · rw [if_pos h2, if_pos ⟨h1, h2⟩]
      · rw [if_neg h2, if_neg (fun h => h2 h.2)]
        exact hr
    · rw [if_neg h1, if_neg (fun h => h1 h.1)]
      exact hr
theorem find_tot (l : List S24) (n : Int) (k : Nat) (hk : 9 ≤ k) : region_Find.f k l n = some (findR l n) := by
  unfold region_Find.f findR
  rw [check_tot l k hk, Option.bind_some]
  rcases chk_cases l with ⟨h1, h2⟩ | ⟨h1, h2⟩
  · rw [h2, if_pos rfl, if_pos h1]
    have h8 := ((okB_iff l).1 h1).1
    exact find_l0 l n (okB_fit h1) (by omega) l.length k 0 (by omega) (by omega)
  · rw [h2, if_neg (by decide), h1, if_neg (by decide)]
structure AsideE (p : Prop) : Prop where
  out : p
def outP (a : S24) (b m : Int) : List S24 :=
  (if a.f0 < b then [⟨a.f0, mn (a.f0 + a.f1) b - a.f0, a.f2⟩] else []) ++ (if a.f0 + a.f1 > b + m then [⟨mx a.f0 (b + m), a.f0 + a.f1 - mx a.f0 (b + m), a.f2⟩] else [])
def lessP : List S24 → Int → Int → List S24
  | [], _, _ => []
  | a :: r, b, m => outP a b m ++ lessP r b m
theorem NF_weak : ∀ {l : List S24} {e e' : Int} {lw lw' : Option Bool}, NF e lw l → e' < e → NF e' lw' l
  | [], _, _, _, _, _, _ => trivial
  | a :: r, e, e', lw, lw', ⟨h1, h2, h3, h4, h5⟩, h => ⟨by omega, (fun he => by omega), h3, h4, h5⟩
theorem less_spec : ∀ (l : List S24) (e : Int) (lw : Option Bool) (b m : Int), 1 ≤ m → NF e lw l → NF e lw (lessP l b m) ∧ ∀ n : Nat, pgS (lessP l b m) n = if b ≤ n ∧ (n : Int) < b + m then 0 else pgS l n
  | [], e, lw, b, m, _, _ => ⟨trivial, fun n => by simp [lessP, pgS]⟩
  | a :: r, e, lw, b, m, hm, ⟨h1, h2, h3, h4, h5⟩ => by
    obtain ⟨i1, i2⟩ := less_spec r _ _ b m hm h5
    have pg : ∀ n : Nat, pgS (lessP (a :: r) b m) n = if pgS (outP a b m) n = 0 then pgS (lessP r b m) n else pgS (outP a b m) n := fun n => pgS_append _ _ n
    have hcons : ∀ n : Nat, pgS (a :: r) n = if a.f0 ≤ n ∧ (n : Int) < a.f0 + a.f1 then wv a.f2 else pgS r n := fun n => rfl
    show NF e lw (outP a b m ++ lessP r b m) ∧ _
    by_cases c1 : a.f0 < b
    · by_cases c2 : a.f0 + a.f1 > b + m
      · have ho : outP a b m = [⟨a.f0, b - a.f0, a.f2⟩, ⟨b + m, a.f0 + a.f1 - (b + m), a.f2⟩] := by
          unfold outP mn mx
          rw [if_pos c1, if_pos c2, if_pos (by omega), if_pos (by omega)]; rfl
        refine ⟨?_, fun n => ?_⟩
        · rw [ho]
          refine ⟨h1, h2, by show 1 ≤ b - a.f0; omega, by show a.f0 + (b - a.f0) ≤ 1024; omega, by show a.f0 + (b - a.f0) ≤ b + m; omega, fun he => by simp only at he; omega, by show 1 ≤ a.f0 + a.f1 - (b + m); omega, by show b + m + (a.f0 + a.f1 - (b + m)) ≤ 1024; omega, ?_⟩
          show NF (b + m + (a.f0 + a.f1 - (b + m))) (some a.f2) _
          rw [show b + m + (a.f0 + a.f1 - (b + m)) = a.f0 + a.f1 by omega]
          exact i1
        · rw [pg n, ho, i2 n, hcons n]
          by_cases k1 : a.f0 ≤ n ∧ (n : Int) < b
          · rw [pgS_in (a := ⟨a.f0, b - a.f0, a.f2⟩) (show a.f0 ≤ n ∧ (n : Int) < a.f0 + (b - a.f0) by omega), if_neg (wv_ne _), if_neg (by omega), if_pos (by omega)]
          · rw [pgS_out (a := ⟨a.f0, b - a.f0, a.f2⟩) (show ¬ (a.f0 ≤ n ∧ (n : Int) < a.f0 + (b - a.f0)) by omega)]
            by_cases k2 : b + m ≤ n ∧ (n : Int) < a.f0 + a.f1
            · rw [pgS_in (a := ⟨b + m, a.f0 + a.f1 - (b + m), a.f2⟩) (show b + m ≤ n ∧ (n : Int) < b + m + (a.f0 + a.f1 - (b + m)) by omega), if_neg (wv_ne _), if_neg (by omega), if_pos (by omega)]
            · rw [pgS_out (a := ⟨b + m, a.f0 + a.f1 - (b + m), a.f2⟩) (show ¬ (b + m ≤ n ∧ (n : Int) < b + m + (a.f0 + a.f1 - (b + m))) by omega)]
              show (if (0 : Int) = 0 then _ else _) = _
              rw [if_pos rfl]
              by_cases k3 : b ≤ n ∧ (n : Int) < b + m
              · rw [if_pos k3, if_pos k3]
              · rw [if_neg k3, if_neg k3, if_neg (by omega)]
      · have ho : outP a b m = [⟨a.f0, mn (a.f0 + a.f1) b - a.f0, a.f2⟩] := by
          unfold outP
          rw [if_pos c1, if_neg c2]; rfl
        have hmn : mn (a.f0 + a.f1) b = b ∧ b < a.f0 + a.f1 ∨ mn (a.f0 + a.f1) b = a.f0 + a.f1 ∧ a.f0 + a.f1 ≤ b := by unfold mn; split <;> omega
        refine ⟨?_, fun n => ?_⟩
        · rw [ho]
          refine ⟨h1, h2, by show 1 ≤ mn (a.f0 + a.f1) b - a.f0; omega, by show a.f0 + (mn (a.f0 + a.f1) b - a.f0) ≤ 1024; omega, ?_⟩
          show NF (a.f0 + (mn (a.f0 + a.f1) b - a.f0)) (some a.f2) _
          rcases hmn with ⟨q1, q2⟩ | ⟨q1, q2⟩
          · exact NF_weak i1 (by omega)
          · rw [show a.f0 + (mn (a.f0 + a.f1) b - a.f0) = a.f0 + a.f1 by omega]
            exact i1
        · rw [pg n, ho, i2 n, hcons n]
          by_cases k1 : a.f0 ≤ n ∧ (n : Int) < mn (a.f0 + a.f1) b
          · rw [pgS_in (a := ⟨a.f0, mn (a.f0 + a.f1) b - a.f0, a.f2⟩) (show a.f0 ≤ n ∧ (n : Int) < a.f0 + (mn (a.f0 + a.f1) b - a.f0) by omega), if_neg (wv_ne _), if_neg (by omega), if_pos (by omega)]
          · rw [pgS_out (a := ⟨a.f0, mn (a.f0 + a.f1) b - a.f0, a.f2⟩) (show ¬ (a.f0 ≤ n ∧ (n : Int) < a.f0 + (mn (a.f0 + a.f1) b - a.f0)) by omega)]
            show (if (0 : Int) = 0 then _ else _) = _
            rw [if_pos rfl]
            by_cases k3 : b ≤ n ∧ (n : Int) < b + m
            · rw [if_pos k3, if_pos k3]
            · rw [if_neg k3, if_neg k3, if_neg (by omega)]
    · by_cases c2 : a.f0 + a.f1 > b + m
      · have ho : outP a b m = [⟨mx a.f0 (b + m), a.f0 + a.f1 - mx a.f0 (b + m), a.f2⟩] := by
          unfold outP
          rw [if_neg c1, if_pos c2]; rfl
        have hmx : mx a.f0 (b + m) = b + m ∧ a.f0 < b + m ∨ mx a.f0 (b + m) = a.f0 ∧ b + m ≤ a.f0 := by unfold mx; split <;> omega
        refine ⟨?_, fun n => ?_⟩
        · rw [ho]
          refine ⟨by show e ≤ mx a.f0 (b + m); omega, fun he => ?_, by show 1 ≤ a.f0 + a.f1 - mx a.f0 (b + m); omega, by show mx a.f0 (b + m) + (a.f0 + a.f1 - mx a.f0 (b + m)) ≤ 1024; omega, ?_⟩
          · simp only at he
            exact h2 (by omega)
          · show NF (mx a.f0 (b + m) + (a.f0 + a.f1 - mx a.f0 (b + m))) (some a.f2) _
            rw [show mx a.f0 (b + m) + (a.f0 + a.f1 - mx a.f0 (b + m)) = a.f0 + a.f1 by omega]
            exact i1
        · rw [pg n, ho, i2 n, hcons n]
          by_cases k1 : mx a.f0 (b + m) ≤ n ∧ (n : Int) < a.f0 + a.f1
          · rw [pgS_in (a := ⟨mx a.f0 (b + m), a.f0 + a.f1 - mx a.f0 (b + m), a.f2⟩) (show mx a.f0 (b + m) ≤ n ∧ (n : Int) < mx a.f0 (b + m) + (a.f0 + a.f1 - mx a.f0 (b + m)) by omega), if_neg (wv_ne _), if_neg (by omega), if_pos (by omega)]
          · rw [pgS_out (a := ⟨mx a.f0 (b + m), a.f0 + a.f1 - mx a.f0 (b + m), a.f2⟩) (show ¬ (mx a.f0 (b + m) ≤ n ∧ (n : Int) < mx a.f0 (b + m) + (a.f0 + a.f1 - mx a.f0 (b + m))) by omega)]
            show (if (0 : Int) = 0 then _ else _) = _
            rw [if_pos rfl]
            by_cases k3 : b ≤ n ∧ (n : Int) < b + m
            · rw [if_pos k3, if_pos k3]
            · rw [if_neg k3, if_neg k3, if_neg (by omega)]
      · have ho : outP a b m = [] := by
          unfold outP
          rw [if_neg c1, if_neg c2]; rfl
        refine ⟨?_, fun n => ?_⟩
        · rw [ho]
          exact NF_weak i1 (by omega)
        · rw [pg n, ho, i2 n, hcons n]
          show (if (0 : Int) = 0 then _ else _) = _
          rw [if_pos rfl]
          by_cases k3 : b ≤ n ∧ (n : Int) < b + m
          · rw [if_pos k3, if_pos k3]
          · rw [if_neg k3, if_neg k3, if_neg (by omega)]
theorem fit_iff {a : S24} : fitB a.f0 a.f1 = true ↔ Fit a := by
  rw [fitB_iff]; unfold Fit; omega
theorem one_nf {a : S24} (ha : Fit a) : NF 0 none [a] := ⟨ha.1, (fun _ h => by cases h), ha.2.1, ha.2.2, trivial⟩
theorem pgS_one {a : S24} {n : Nat} : pgS [a] n = if a.f0 ≤ n ∧ (n : Int) < a.f0 + a.f1 then wv a.f2 else 0 := rfl
theorem pgS_mem {l : List S24} {x : S24} {n : Nat} (hx : x ∈ l) (h : x.f0 ≤ n ∧ (n : Int) < x.f0 + x.f1) : pgS l n ≠ 0 := by
  induction l with
  | nil => cases hx
  | cons a r ih =>
    unfold pgS
    split
    · exact wv_ne _
    · rename_i hc
      rcases List.mem_cons.1 hx with rfl | hx
      · exact absurd h hc
      · exact ih hx
def ov (x a : S24) : Prop := x.f0 < a.f0 + a.f1 ∧ a.f0 < x.f0 + x.f1
theorem addR_ok {l : List S24} {a : S24} (hl : okB l = true) (ha : Fit a) (hd : ∀ x ∈ l, ¬ ov x a) : addR l a = fewR (withP l a) := by
  have hnf := ((okB_iff l).1 hl).2
  have hsp := with_spec hnf ha hd
  have hno : ∀ n : Nat, a.f0 ≤ n ∧ (n : Int) < a.f0 + a.f1 → pgS l n = 0 := fun n hn =>
    pgS_none (fun x hx hc => hd x hx ⟨by omega, by omega⟩)
  have hc : clash (pgF l) (pgF [a]) = false := clash_false (fun n hn h => by
    rw [pgF_eq hnf, pgF_eq (one_nf ha), pgS_one] at h
    by_cases hin : a.f0 ≤ n ∧ (n : Int) < a.f0 + a.f1
    · exact h.1 (hno n hin)
    · rw [if_neg hin] at h; exact h.2 rfl)
  unfold addR
  rw [hl, fit_iff.2 ha, hc]
  show formR _ = _
  refine formR_of (both_cases l [a]) hsp.1 (fun n hn => ?_)
  rw [hsp.2 n]
  show _ = mx (pgF l n) (pgF [a] n)
  rw [pgF_eq hnf, pgF_eq (one_nf ha), pgS_one]
  by_cases hin : a.f0 ≤ n ∧ (n : Int) < a.f0 + a.f1
  · rw [if_pos hin, if_pos hin, hno n hin]
    cases a.f2 <;> rfl
  · rw [if_neg hin, if_neg hin]
    rcases pgS_cases l n with h | h | h <;> rw [h] <;> rfl
theorem covB_iff {l : List S24} {a b : Int} (hl : okB l = true) (ha : 0 ≤ a) : covB l a b = true ↔ ∀ n : Nat, a ≤ n ∧ (n : Int) < a + b → pgS l n ≠ 0 := by
  have hnf := ((okB_iff l).1 hl).2
  constructor
  · intro h n hn
    rw [← pgF_eq hnf]
    unfold covB at h
    rw [List.all_eq_true] at h
    have := of_decide_eq_true (h (n - a.toNat) (List.mem_range.2 (by omega)))
    rwa [show a.toNat + (n - a.toNat) = n by omega] at this
  · intro h
    exact covB_true (fun i hi => by rw [pgF_eq hnf]; exact h _ (by omega))
theorem change_form {l m : List S24} {a b t : Int} (hl : okB l = true) (hf : fitB a b = true) (hc : covB l a b = true) (ht : t = 0 ∨ t = 1 ∨ t = 2) (hm : NF 0 none m)
    (hp : ∀ n : Nat, pgS m n = if a ≤ n ∧ (n : Int) < a + b then t else pgS l n) : changeR l a b t = fewR m := by
  have hnf := ((okB_iff l).1 hl).2
  unfold changeR
  rw [hl, hf, hc]
  show formR _ = _
  refine formR_of (chg_cases (pgF_cases l) ht) hm (fun n _ => ?_)
  rw [hp n]
  unfold chg
  rw [pgF_eq hnf]
theorem setP_spec {l : List S24} {a b : Int} (w : Bool) (h1 : okB l = true) (hf : fitB a b = true) (hc : covB l a b = true) : changeR l a b (wv w) = fewR (withP (lessP l a b) ⟨a, b, w⟩) := by
  obtain ⟨h8, hnf⟩ := (okB_iff l).1 h1
  obtain ⟨g0, g1, g2, g3⟩ := fitB_iff.1 hf
  have hs := less_spec l 0 none a b g2 hnf
  have hw := with_spec (a := ⟨a, b, w⟩) hs.1 ⟨g0, g2, by show a + b ≤ 1024; omega⟩ (fun x hx ho => by
    have hx1 := NF_ge hs.1 x hx
    have o1 : x.f0 < a + b := ho.1
    have o2 : a < x.f0 + x.f1 := ho.2
    by_cases h : x.f0 ≤ a
    · refine pgS_mem (n := a.toNat) hx (by omega) ?_
      rw [hs.2, if_pos (by omega)]
    · refine pgS_mem (n := x.f0.toNat) hx (by omega) ?_
      rw [hs.2, if_pos (by omega)])
  refine change_form h1 hf hc (wv_cases w) hw.1 (fun n => ?_)
  rw [hw.2 n, hs.2 n]
  show (if a ≤ (n : Int) ∧ (n : Int) < a + b then wv w else _) = _
  split <;> rfl
def sumS : List S24 → Int
  | [] => 0
  | a :: r => a.f1 + sumS r
theorem sumS_bound : ∀ (l : List S24), (∀ a ∈ l, Fit a) → 0 ≤ sumS l ∧ sumS l ≤ 1024 * l.length
  | [], _ => ⟨Int.le_refl _, by simp [sumS]⟩
  | a :: r, h => by
    obtain ⟨f0, f1, f2⟩ := h a List.mem_cons_self
    have := sumS_bound r (fun b hb => h b (List.mem_cons_of_mem _ hb))
    simp only [sumS, List.length_cons]
    omega
theorem pages_l0 (l : List S24) (hf : ∀ a ∈ l, Fit a) (hlen : l.length ≤ 1000) : ∀ (d k i : Nat) (s : Int), i + d = l.length → d < k → 0 ≤ s → s ≤ 1024 * i → region_Pages.l0 k s l (l.length : Int) i = some (s + sumS (l.drop i)) := by
  intro d
  induction d with
  | zero =>
    intro k i s hi hk hs hs2
    obtain ⟨k, rfl⟩ : ∃ m, k = m + 1 := ⟨k - 1, by omega⟩
    simp only [region_Pages.l0]
    rw [if_neg (by omega), List.drop_eq_nil_of_le (by omega)]
    simp [sumS]
  | succ d ih =>
    intro k i s hi hk hs hs2
    obtain ⟨k, rfl⟩ : ∃ m, k = m + 1 := ⟨k - 1, by omega⟩
    have hil : i < l.length := by omega
    obtain ⟨f0, f1, f2⟩ := hf _ (ar_mem hil)
    simp only [region_Pages.l0]
    have h1 : (i : Int) < (l.length : Int) := by omega
    rw [if_pos h1, if_pos (by omega), if_pos h1, rd_ar, wrap_id (by omega), wrap_id (by omega), drop_cons hil]
    rw [show ((i : Int) + 1) = ((i + 1 : Nat) : Int) by omega, ih k (i + 1) _ (by omega) (by omega) (by omega) (by omega)]
    simp only [sumS]
    congr 1; omega
def pagR (l : List S24) : Int := if okB l then sumS l else 0
theorem pages_tot (l : List S24) (k : Nat) (hk : 9 ≤ k) : region_Pages.f k l = some (pagR l) := by
  unfold region_Pages.f pagR
  rw [check_tot l k hk, Option.bind_some]
  rcases chk_cases l with ⟨h1, h2⟩ | ⟨h1, h2⟩
  · rw [h2, if_pos rfl, h1, if_pos rfl]
    have h8 := ((okB_iff l).1 h1).1
    have := pages_l0 l (okB_fit h1) (by omega) l.length k 0 0 (by omega) (by omega) (by omega) (by omega)
    simpa using this
  · rw [h2, if_neg (by decide), h1]; rfl
theorem awake_add : addR [⟨3, 2, true⟩] ⟨5, 1, true⟩ = ([⟨3, 3, true⟩], 0) := by
  rw [addR_ok (by decide) ⟨by decide, by decide, by decide⟩ (fun x hx ho => ?_)]
  · rfl
  · rw [List.mem_singleton.1 hx] at ho; exact absurd ho.2 (by decide)
theorem awake_set : changeR [⟨3, 3, true⟩] 4 1 (wv false) = ([⟨3, 1, true⟩, ⟨4, 1, false⟩, ⟨5, 1, true⟩], 0) := by
  rw [setP_spec false (by decide) (by decide) (by decide)]
  rfl
theorem awake_cut : changeR [⟨3, 3, true⟩] 2 2 0 = ([], 4) := by
  unfold changeR
  rw [show okB [⟨3, 3, true⟩] = true by decide, show fitB 2 2 = true by decide, show covB [⟨3, 3, true⟩] 2 2 = false by decide]; rfl
theorem awake_tot (k : Nat) : priorylaw14_awake.f k = some true := by
  unfold priorylaw14_awake.f region_Add.f region_Set.f region_Cut.f
  rw [awake_add]
  simp only [Option.bind_some]
  rw [awake_set, awake_cut]
  rfl
theorem covers_eq (k : Nat) (hk : 9 ≤ k) (l : List S24) (a b : Int) : region_Covers.f k l a b = some (covR l a b) := by
  unfold region_Covers.f; rw [if_pos hk]
structure Changed (l : List S24) (a b t : Int) (m : List S24) : Prop where
  okl : okB l = true
  fit : fitB a b = true
  cov : covB l a b = true
  okm : okB m = true
  pg : ∀ n : Nat, n < 1024 → pgS m n = if a ≤ n ∧ (n : Int) < a + b then t else pgS l n
theorem formR_cases (what : Nat → Int) : formR what = ([], 3) ∨ (formR what = (formL what 1024, 0) ∧ (formL what 1024).length ≤ 8) := by
  unfold formR
  split
  · exact .inl rfl
  · exact .inr ⟨rfl, by omega⟩
theorem changeR_cases (l : List S24) (a b t : Int) (ht : t = 0 ∨ t = 1 ∨ t = 2) : (changeR l a b t = ([], 2) ∧ ¬ (okB l = true ∧ fitB a b = true)) ∨
    (okB l = true ∧ fitB a b = true ∧ covB l a b = false ∧ changeR l a b t = ([], 4)) ∨ (okB l = true ∧ fitB a b = true ∧ covB l a b = true ∧ changeR l a b t = ([], 3)) ∨
    (changeR l a b t = (formL (chg (pgF l) a b t) 1024, 0) ∧ Changed l a b t (formL (chg (pgF l) a b t) 1024)) := by
  have e : changeR l a b t = if okB l && fitB a b then (if covB l a b then formR (chg (pgF l) a b t) else ([], 4)) else ([], 2) := rfl
  cases h1 : okB l with
  | false => rw [h1] at e; exact .inl ⟨e, by simp⟩
  | true =>
    cases h2 : fitB a b with
    | false => rw [h1, h2] at e; exact .inl ⟨e, by simp⟩
    | true =>
      cases h3 : covB l a b with
      | false => rw [h1, h2, h3] at e; exact .inr (.inl ⟨rfl, rfl, rfl, e⟩)
      | true =>
        rw [h1, h2, h3] at e
        simp only [Bool.and_self, if_true] at e
        have hw := chg_cases (pgF_cases l) (a := a) (b := b) ht
        have hnf := ((okB_iff l).1 h1).2
        rcases formR_cases (chg (pgF l) a b t) with h | ⟨h, h8⟩
        · exact .inr (.inr (.inl ⟨rfl, rfl, rfl, e.trans h⟩))
        · refine .inr (.inr (.inr ⟨e.trans h, h1, h2, h3, (okB_iff _).2 ⟨h8, formL_nf _ hw⟩, fun n hn => ?_⟩))
          rw [formL_pg _ hw hn]
          unfold chg
          rw [pgF_eq hnf]
def cntF (f : Nat → Int) : Nat → Int
  | 0 => 0
  | n + 1 => cntF f n + (if f n = 0 then 0 else 1)
/-- How much of an area lies below `n`. -/
def part (a : S24) (n : Nat) : Int := if (n : Int) ≤ a.f0 then 0 else if (n : Int) ≤ a.f0 + a.f1 then n - a.f0 else a.f1
theorem cnt_cons {a : S24} {f g : Nat → Int} (ha : Fit a) (hin : ∀ n : Nat, a.f0 ≤ n ∧ (n : Int) < a.f0 + a.f1 → f n ≠ 0 ∧ g n = 0) : ∀ n : Nat, (∀ i, i < n → ¬ (a.f0 ≤ i ∧ (i : Int) < a.f0 + a.f1) → (f i = 0 ↔ g i = 0)) → cntF f n = cntF g n + part a n := by
  obtain ⟨a0, a1, a2⟩ := ha
  intro n
  induction n with
  | zero => intro _; unfold part; rw [if_pos (by omega)]; rfl
  | succ n ih =>
    intro hout
    unfold cntF
    rw [ih (fun i hi => hout i (by omega))]
    by_cases hc : a.f0 ≤ n ∧ (n : Int) < a.f0 + a.f1
    · rw [if_neg (hin n hc).1, if_pos (hin n hc).2]
      unfold part
      by_cases h1 : (n : Int) ≤ a.f0
      · rw [if_pos h1, if_neg (by omega), if_pos (by omega)]; omega
      · rw [if_neg h1, if_pos (by omega), if_neg (by omega), if_pos (by omega)]; omega
    · have h2 : part a (n + 1) = part a n := by
        unfold part
        by_cases h1 : (n : Int) < a.f0
        · rw [if_pos (by omega), if_pos (by omega)]
        · rw [if_neg (by omega), if_neg (by omega)]
          by_cases h3 : (n : Int) ≤ a.f0
          · omega
          · rw [if_neg h3]
            by_cases h4 : (n : Int) ≤ a.f0 + a.f1
            · rw [if_pos h4]; omega
            · rw [if_neg h4]
      rw [h2]
      have := hout n (by omega) hc
      by_cases h0 : f n = 0
      · rw [if_pos h0, if_pos (this.1 h0)]; omega
      · rw [if_neg h0, if_neg (fun hg => h0 (this.2 hg))]; omega
theorem part_all {a : S24} (ha : Fit a) : part a 1024 = a.f1 := by
  obtain ⟨a0, a1, a2⟩ := ha
  unfold part
  rw [if_neg (by omega)]
  split <;> omega
theorem cnt_NF : ∀ (l : List S24) (e : Int) (lw : Option Bool), 0 ≤ e → NF e lw l → cntF (pgS l) 1024 = sumS l
  | [], _, _, _, _ => by
    have : ∀ n, cntF (pgS []) n = 0 := by
      intro n
      induction n with
      | zero => rfl
      | succ n ih => unfold cntF; rw [ih]; rfl
    rw [this]; rfl
  | a :: r, e, lw, he, h => by
    obtain ⟨h1, h2, h3, h4, h5⟩ := h
    have ha : Fit a := ⟨by omega, h3, h4⟩
    rw [cnt_cons (g := pgS r) ha (fun n hn => ⟨by rw [pgS_in hn]; exact wv_ne _, pgS_lt h5 (by omega)⟩) 1024 (fun i _ hi => by rw [pgS_out hi]), cnt_NF r _ _ (by omega) h5, part_all ha]
    simp only [sumS]
    omega
theorem pagR_cnt {l : List S24} (h : okB l = true) : pagR l = cntF (pgS l) 1024 := by
  unfold pagR
  rw [if_pos h, cnt_NF l 0 none (Int.le_refl 0) ((okB_iff l).1 h).2]
def fnd (x : Int) : Bool × Bool := if x = 0 then (false, false) else (x == 2, true)
theorem find_pg {m : List S24} (hm : okB m = true) (n k : Nat) (hk : 9 ≤ k) : region_Find.f k m (n : Int) = some (fnd (pgS m n)) := by
  rw [find_tot m n k hk]
  unfold findR fnd
  rw [if_pos hm, findL_pg]
theorem fnd_0 : fnd 0 = (false, false) := rfl
theorem fnd_1 : fnd 1 = (false, true) := rfl
theorem fnd_2 : fnd 2 = (true, true) := rfl
theorem fnd_wv (b : Bool) : fnd (wv b) = (b, true) := by cases b <;> rfl
theorem cov_l1 (l m : List S24) (a b : Int) (A : Changed l a b 0 m) : ∀ (d k i : Nat), i + d = 1024 → d + 2200 < k → priorylaw14_RegionCovers.l1 k l a b m i = some true := by
  obtain ⟨a0, a1, a2, a3⟩ := fitB_iff.1 A.fit
  have hcov := (covB_iff A.okl a0).1 A.cov
  have hw := AsideE.mk (show wrap64 (a + b) = a + b from wrap_id (by omega))
  have hft : Fit ⟨a, b, true⟩ := ⟨a0, a2, by show a + b ≤ 1024; omega⟩
  have hp : pagR m = pagR l - b := by
    rw [pagR_cnt A.okm, pagR_cnt A.okl, cnt_cons (f := pgS l) (g := pgS m) hft (fun n hn => ⟨hcov n hn, by
        have h1 : a ≤ (n : Int) := hn.1
        have h2 : (n : Int) < a + b := hn.2
        rw [A.pg n (by omega), if_pos ⟨h1, h2⟩]⟩) 1024 (fun i hi1 hi => by
        have h1 : ¬ (a ≤ (i : Int) ∧ (i : Int) < a + b) := hi
        rw [A.pg i hi1, if_neg h1]), part_all hft]
    show _ = _ + b - b
    omega
  intro d
  induction d with
  | zero =>
    intro k i hi hk
    obtain ⟨k, rfl⟩ : ∃ m, k = m + 1 := ⟨k - 1, by omega⟩
    simp only [priorylaw14_RegionCovers.l1]
    have hn : ¬ (i : Int) < 1024 := by omega
    have hb := sumS_bound m (okB_fit A.okm)
    have h8 := ((okB_iff m).1 A.okm).1
    have hpm : pagR m = sumS m := by unfold pagR; rw [if_pos A.okm]
    rw [if_neg hn, pages_tot m _ (by omega), Option.bind_some, pages_tot l _ (by omega), Option.bind_some, ← hp, wrap_id (by omega), if_pos rfl, awake_tot]
    rfl
  | succ d ih =>
    intro k i hi hk
    obtain ⟨k, rfl⟩ : ∃ m, k = m + 1 := ⟨k - 1, by omega⟩
    have hn : priorylaw14_RegionCovers.l1 k l a b m (wrap64 ((i : Int) + 1)) = some true := by
      rw [wrap_id (by omega)]
      exact ih k (i + 1) (by omega) (by omega)
    have hlt : (i : Int) < 1024 := by omega
    simp only [priorylaw14_RegionCovers.l1]
    rw [if_pos hlt, find_pg A.okm i k (by omega), find_pg A.okl i k (by omega), hw.out, A.pg i (by omega)]
    simp only [Option.bind_some]
    by_cases hin : a ≤ (i : Int) ∧ (i : Int) < a + b
    · obtain ⟨h1, h2⟩ := hin
      have h1' : (i : Int) ≥ a := h1
      have hwl := wv_of (pgS_cases l i) (hcov i ⟨h1, h2⟩)
      rw [if_pos h1', if_pos (show a ≤ (i : Int) ∧ (i : Int) < a + b from ⟨h1, h2⟩), fnd_0, ← hwl, fnd_wv]
      simp [h2, hn]
    · rw [if_neg hin]
      by_cases h1 : (i : Int) ≥ a
      · have h2 : ¬ (i : Int) < a + b := fun h => hin ⟨h1, h⟩
        rw [if_pos h1]
        rcases pgS_cases l i with h | h | h <;> rw [h] <;> first | rw [fnd_0] | rw [fnd_1] | rw [fnd_2]
        all_goals simp [h2, hn]
      · rw [if_neg h1]
        rcases pgS_cases l i with h | h | h <;> rw [h] <;> first | rw [fnd_0] | rw [fnd_1] | rw [fnd_2]
        all_goals simp [hn]
theorem cov_l0 (l : List S24) (a b : Int) (hl : okB l = true) (hf : fitB a b = true) : ∀ (d k i : Nat) (q : Bool), (i : Int) + d = a + b → d + 3600 < k → a ≤ i → (q = true ↔ ∀ j : Nat, a ≤ j ∧ j < i → pgS l j ≠ 0) → priorylaw14_RegionCovers.l0 k l a b q i = some true := by
  obtain ⟨a0, a1, a2, a3⟩ := fitB_iff.1 hf
  have hw := AsideE.mk (show wrap64 (a + b) = a + b from wrap_id (by omega))
  intro d
  induction d with
  | zero =>
    intro k i q hi hk hia hq
    obtain ⟨k, rfl⟩ : ∃ m, k = m + 1 := ⟨k - 1, by omega⟩
    simp only [priorylaw14_RegionCovers.l0]
    have hn : ¬ (i : Int) < a + b := by omega
    have hcq : covB l a b = q := by
      rw [Bool.eq_iff_iff, covB_iff hl a0, hq]
      exact ⟨fun h j hj => h j ⟨hj.1, by omega⟩, fun h j hj => h j ⟨hj.1, by omega⟩⟩
    have hcr : covR l a b = q := by unfold covR; rw [hl, hf, hcq]; rfl
    rw [hw.out, if_neg hn, covers_eq k (by omega), Option.bind_some, hcr, awake_tot]
    unfold region_Cut.f
    rw [Option.bind_some, if_neg (by simp)]
    rcases changeR_cases l a b 0 (.inl rfl) with ⟨h1, h2⟩ | ⟨_, _, h2, h1⟩ | ⟨_, _, h2, h1⟩ | ⟨h1, h2⟩
    · exact absurd ⟨hl, hf⟩ h2
    · rw [h1, ← hcq, h2]; rfl
    · rw [h1, ← hcq, h2]; rfl
    · rw [h1]
      show (if (0 : Int) = 0 then _ else _) = _
      rw [if_pos rfl]
      exact cov_l1 l _ a b h2 1024 k 0 (by omega) (by omega)
  | succ d ih =>
    intro k i q hi hk hia hq
    obtain ⟨k, rfl⟩ : ∃ m, k = m + 1 := ⟨k - 1, by omega⟩
    have hn : ∀ q' : Bool, (q' = true ↔ ∀ j : Nat, a ≤ j ∧ j < i + 1 → pgS l j ≠ 0) → priorylaw14_RegionCovers.l0 k l a b q' (wrap64 ((i : Int) + 1)) = some true := fun q' hq' => by
      rw [wrap_id (by omega)]
      exact ih k (i + 1) q' (by omega) (by omega) (by omega) hq'
    simp only [priorylaw14_RegionCovers.l0]
    have hlt : (i : Int) < a + b := by omega
    rw [hw.out, if_pos hlt, find_pg hl i k (by omega)]
    simp only [Option.bind_some]
    have hs : (∀ j : Nat, a ≤ j ∧ j < i + 1 → pgS l j ≠ 0) ↔ (q = true ∧ pgS l i ≠ 0) := by
      rw [hq]
      refine ⟨fun h => ⟨fun j hj => h j ⟨hj.1, by omega⟩, h i ⟨hia, by omega⟩⟩, fun h j hj => ?_⟩
      by_cases e : j = i
      · rw [e]; exact h.2
      · exact h.1 j ⟨hj.1, by omega⟩
    cases q with
    | false =>
      rw [if_neg (by decide)]
      exact hn false (by rw [hs]; simp)
    | true =>
      rw [if_pos rfl]
      refine hn _ ?_
      rw [hs]
      unfold fnd
      split <;> simp_all
theorem law_covers (k : Nat) (hk : 5000 ≤ k) (l : List S24) (a b : Int) : priorylaw14_RegionCovers.f k l a b = some true := by
  obtain ⟨k, rfl⟩ : ∃ m, k = m + 1 := ⟨k - 1, by omega⟩
  have hj : priorylaw14_RegionCovers.j0 (k + 1) l a b true = some true := by
    simp only [priorylaw14_RegionCovers.j0]
    rw [awake_tot]; rfl
  unfold priorylaw14_RegionCovers.f
  by_cases h : (l.length : Int) > 100
  · rw [if_pos h, hj]
  · rw [if_neg h, check_tot l _ (by omega), Option.bind_some]
    rcases chk_cases l with ⟨h1, h2⟩ | ⟨h1, h2⟩
    · rw [h2, if_pos rfl, rfits_eq, Option.bind_some]
      cases hf : fitB a b with
      | false => exact hj
      | true =>
        obtain ⟨a0, a1, a2, a3⟩ := fitB_iff.1 hf
        simp only [priorylaw14_RegionCovers.j0, Bool.not_true, Bool.false_eq_true, if_false]
        have := cov_l0 l a b h1 hf b.toNat k a.toNat true (by omega) (by omega) (by omega) (by simp; intro j h1 h2; omega)
        rwa [show ((a.toNat : Nat) : Int) = a by omega] at this
    · rw [h2, if_neg (by decide), hj]
end Go.Proofs.Ytcblfhoipdbdlaa.PAll
