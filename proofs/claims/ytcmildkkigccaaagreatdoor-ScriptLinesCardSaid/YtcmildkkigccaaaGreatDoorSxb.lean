/-
  Walks and plain laws, joined of 8 texts.
-/
import Derived.Test.YtcmildkkigccaaaGreatDoorAllBase
import Derived.Test.YtcmildkkigccaaaGreatDoorSxa
import Derived.Lib.Hide
import Derived.Outline
import Derived.Test.YtcmildkkigccaaaGreatDoorTbl
namespace Go.Proofs.YtcmildkkigccaaaGreatDoor.PAll
open Go.RowKit Go.Proofs.YtcmildkkigccaaaGreatDoorW.PrintWords Go.Proofs.YtcmildkkigccaaaGreatDoorW.PrintLast Go.Proofs.YtcmildkkigccaaaGreatDoorW.PrintMore
attribute [local go_sem] max2_int min2_int max_two min_two max_three min_three max_four min_four   -- for this text's walks alone
set_option linter.unusedVariables false
set_option linter.unusedSimpArgs false
/-! ### prioryref27_Get: function 11 -/
mutual
def prioryref27_Get.l0 : Nat → ByteArray → List (S40) → Int → Option ((List (S40)) × Int)
  | 0, _, _, _ => none
  | k + 1, x0, x4, x5 => if x5 < (x0.size : Int) then (prioryref27_Get.l1 k x0 x4 x5 0 2) else (some (x4, 0))
def prioryref27_Get.l1 : Nat → ByteArray → List (S40) → Int → Int → Int → Option ((List (S40)) × Int)
  | 0, _, _, _, _, _ => none
  | k + 1, x0, x4, x5, x6, x7 => if x7 < 6 then (if 0 ≤ (wrap64 (x5 + x7)) then (if (wrap64 (x5 + x7)) < (x0.size : Int) then (prioryref27_Get.l1 k x0 x4 x5 ((((x6 * 256) % 4294967296) + ((bt x0 (wrap64 (x5 + x7))) % 4294967296)) % 4294967296) (wrap64 (x7 + 1))) else (none)) else (none)) else (if 0 ≤ x5 then (if x5 < (x0.size : Int) then (if 0 ≤ (wrap64 (x5 + 1)) then (if (wrap64 (x5 + 1)) < (x0.size : Int) then (if x4.length < 5864062014805 then (prioryref27_Get.l0 k x0 (x4 ++ [(⟨wrap64 (bt x0 x5), wrap64 (bt x0 (wrap64 (x5 + 1))), x6⟩ : S40)]) (wrap64 (x5 + 6))) else (none)) else (none)) else (none)) else (none)) else (none))
end
def prioryref27_Get.f (k : Nat) (a0 : ByteArray) : Option ((List (S40)) × Int) := if ((a0.size : Int) % 6) = 0 then (if (a0.size : Int) > 60000 then (some (([] : List (S40)), 2)) else (prioryref27_Get.l0 k a0 ([] : List (S40)) 0)) else (some (([] : List (S40)), 6))
theorem prioryref27_Get.mono_l : ∀ k, (∀ y0 y1 y2, LeO (prioryref27_Get.l0 k y0 y1 y2) (prioryref27_Get.l0 (k + 1) y0 y1 y2)) ∧ (∀ y0 y1 y2 y3 y4, LeO (prioryref27_Get.l1 k y0 y1 y2 y3 y4) (prioryref27_Get.l1 (k + 1) y0 y1 y2 y3 y4))
  | 0 => ⟨fun _ _ _ r h => by simp [prioryref27_Get.l0] at h, fun _ _ _ _ _ r h => by simp [prioryref27_Get.l1] at h⟩
  | k + 1 => by
    obtain ⟨ih0, ih1⟩ := prioryref27_Get.mono_l k
    refine ⟨?_, ?_⟩
    · intro y0 y1 y2
      unfold prioryref27_Get.l0
      repeat' first
      | (with_reducible exact ih0 _ _ _)
      | (with_reducible exact ih1 _ _ _ _ _)
      | (with_reducible exact LeO.refl _)
      | (with_reducible exact LeO.none _)
      | (with_reducible refine LeO.ite ?_ ?_)
      | (with_reducible refine LeO.bind ?_ (fun _ => ?_))
      | exact ih0 _ _ _
      | exact ih1 _ _ _ _ _
      | exact LeO.none _
      | refine LeO.ite ?_ ?_
      | refine LeO.bind ?_ (fun _ => ?_)
    · intro y0 y1 y2 y3 y4
      unfold prioryref27_Get.l1
      repeat' first
      | (with_reducible exact ih0 _ _ _)
      | (with_reducible exact ih1 _ _ _ _ _)
      | (with_reducible exact LeO.refl _)
      | (with_reducible exact LeO.none _)
      | (with_reducible refine LeO.ite ?_ ?_)
      | (with_reducible refine LeO.bind ?_ (fun _ => ?_))
      | exact ih0 _ _ _
      | exact ih1 _ _ _ _ _
      | exact LeO.none _
      | refine LeO.ite ?_ ?_
      | refine LeO.bind ?_ (fun _ => ?_)
theorem prioryref27_Get.mono : ∀ a0 k, LeO (prioryref27_Get.f k a0) (prioryref27_Get.f (k + 1) a0) := by
  intro a0 k
  obtain ⟨ih0, ih1⟩ := prioryref27_Get.mono_l k
  unfold prioryref27_Get.f
  repeat' first
      | (with_reducible exact ih0 _ _ _)
      | (with_reducible exact ih1 _ _ _ _ _)
      | (with_reducible exact LeO.refl _)
      | (with_reducible exact LeO.none _)
      | (with_reducible refine LeO.ite ?_ ?_)
      | (with_reducible refine LeO.bind ?_ (fun _ => ?_))
      | exact ih0 _ _ _
      | exact ih1 _ _ _ _ _
      | exact LeO.none _
      | refine LeO.ite ?_ ?_
      | refine LeO.bind ?_ (fun _ => ?_)
def prioryref27_Get.T14 : Bool × List (List Nat × List Nat) := (true, [([], []), ([], []), ([], []), ([1, 2], [1, 2]), ([3], [3]), ([], []), ([], []), ([6], [6]), ([5, 7], [5, 7]), ([8], [8]), ([], []), ([4, 9, 10], [4, 9, 10]), ([11], [11]), ([0, 12], [0, 12]), ([13, 13, 0, 1, 2, 3, 4, 5, 6, 7, 8, 9, 10, 11, 12, 13], [0, 13])])
def prioryref27_Get.B14 : List Nat := [0, 0, 0, 6, 14, 0, 0, 64, 224, 480, 0, 2046, 4094, 8191, 16383]
theorem prioryref27_Get.tab14 : rtab .any (opsOf Tryz.f11 14) = prioryref27_Get.T14 := by kernel_rfl
theorem prioryref27_Get.bits14 : waitsOk prioryref27_Get.T14.2 prioryref27_Get.B14 = true := by kernel_rfl
set_option maxHeartbeats 8000000 in
set_option maxRecDepth 100000 in
theorem prioryref27_Get.calls (k : Nat) (a0 : ByteArray) (r1 : List (S40)) (r2 : Int) (w : World) (h : prioryref27_Get.f k a0 = some (r1, r2)) :
    Calls Tryz.prog 11 #[.string a0] w fun e w' => ∃ v0_ : Value, e = .returned (.tuple #[v0_, .int .i64 r2]) ∧ Kd.R k40 40 w' w.heap.size (fun _ => True) v0_ r1 ∧ Below w.heap.size w w' := by
  have hu40 := Tryz.underlying40
  have HB := Aside0.mk (Below.refl w.heap.size w)
  have H : (if ((a0.size : Int) % 6) = 0 then (if (a0.size : Int) > 60000 then (some (([] : List (S40)), 2)) else (prioryref27_Get.l0 k a0 ([] : List (S40)) 0)) else (some (([] : List (S40)), 6))) = some (r1, r2) := h
  clear h
  by_cases c2 : ((a0.size : Int) % 6) = 0
  · rw [if_pos c2] at H
    have c2b0 : (((a0.size : Int) % 6) == 0) = true := beq_iff_eq.mpr c2
    have c2b1 : (((a0.size : Int) % 6) != 0) = false := bne_eq_false_iff_eq.mpr c2
    clear c2
    by_cases c3 : (a0.size : Int) > 60000
    · rw [if_pos c3] at H
      have c3b0 : decide (60000 < (a0.size : Int)) = true := decide_eq_true c3
      have c3b1 : decide (60000 < a0.size) = true := decide_eq_true (by omega)
      clear c3
      simp only [Option.some.injEq, Prod.mk.injEq] at H
      obtain ⟨rfl, rfl⟩ := H
      go_enter Tryz.func11, Tryz.ntmps11
      go_wp2
      go_ret2
      exact ⟨_, by first | rfl | (simp [errW_none, errW_some] <;> rfl) | (simp [*, errW_none, errW_some] <;> rfl), by first | exact Kd.R_nil _ _ _ _ _ | exact Kd.N_nil _ _ _ _ _ | exact Kd.V_nil _ _ _ _ _ | exact Kd.Q_nil _ _ _ _ _ | exact Kd.S_nil _ _ _ _ _, by repeat (first | (with_reducible first | exact HB.out | apply below_alloc | apply pw_below_drewN | apply below_drew1) | exact HB.out)⟩
    · rw [if_neg c3] at H
      have c3b0 : decide (60000 < (a0.size : Int)) = false := decide_eq_false c3
      have c3b1 : decide (60000 < a0.size) = false := decide_eq_false (by omega)
      clear c3
      have H' := Aside0.mk H
      clear H
      go_enter Tryz.func11, Tryz.ntmps11
      go_wp2
      go_loopg [4, 5] k (fun kq v4 v5 w' => ∃ (x4_1 : List (S40)) (x5_1 : Int), v5 = .int .i64 x5_1 ∧ Aside0 (prioryref27_Get.l0 kq a0 x4_1 x5_1 = some (r1, r2)) ∧ Aside0 (kq ≤ k) ∧ Aside0 (Kd.R k40 40 w' w.heap.size (fun _ => True) v4 x4_1) ∧ Aside0 (Below w.heap.size w w'))
      case atStart => exact ⟨(([] : List (S40))), (0), (by first | rfl | (simp; done) | (simp [*]; done)), H', ⟨Nat.le_refl _⟩, ⟨by first | exact Kd.R_nil _ _ _ _ _ | exact Kd.N_nil _ _ _ _ _ | exact Kd.V_nil _ _ _ _ _ | exact Kd.Q_nil _ _ _ _ _ | exact Kd.S_nil _ _ _ _ _⟩, ⟨by repeat (first | (with_reducible first | exact HB.out | apply below_alloc | apply pw_below_drewN | apply below_drew1) | exact HB.out)⟩⟩
      case round =>
        clear H'
        try clear c1
        try clear c2
        try clear c2b0
        try clear c2b1
        try clear p2
        try clear c3
        try clear c3b0
        try clear c3b1
        obtain ⟨x4_1, x5_1, rfl, HA, HK1, HO_4, HB⟩ := hrel
        cases gk with
        | zero => exact absurd HA.out (by simp [prioryref27_Get.l0])
        | succ k1 =>
          have H := HA.out
          clear HA
          simp only [prioryref27_Get.l0] at H
          by_cases c4 : x5_1 < (a0.size : Int)
          · rw [if_pos c4] at H
            have c4b0 : decide (x5_1 < (a0.size : Int)) = true := decide_eq_true c4
            clear c4
            have H' := Aside0.mk H
            clear H
            go_wp2
            go_loopg [6, 7] k1 (fun kq v6 v7 w' => ∃ (x6_2 : Int) (x7_2 : Int), v6 = .int .u32 x6_2 ∧ v7 = .int .i64 x7_2 ∧ Aside0 (prioryref27_Get.l1 kq a0 x4_1 x5_1 x6_2 x7_2 = some (r1, r2)) ∧ Aside0 (kq ≤ k1) ∧ Aside0 (Kd.R k40 40 w' w.heap.size (fun _ => True) u4 x4_1) ∧ Aside0 (Below w.heap.size w w'))
            case atStart => exact ⟨(0), (2), (by first | rfl | (simp; done) | (simp [*]; done)), (by first | rfl | (simp; done) | (simp [*]; done)), H', ⟨Nat.le_refl _⟩, ⟨by (with_reducible repeat (first | apply Kd.R_alloc | apply Kd.R_drewN | apply Kd.R_drew)); exact HO_4.out⟩, ⟨by repeat (first | (with_reducible first | exact HB.out | apply below_alloc | apply pw_below_drewN | apply below_drew1) | exact HB.out)⟩⟩
            case round =>
              clear H'
              try clear c1
              try clear c2
              try clear c2b0
              try clear c2b1
              try clear p2
              try clear c3
              try clear c3b0
              try clear c3b1
              try clear c4
              try clear c4b0
              try clear p2
              obtain ⟨x6_2, x7_2, rfl, rfl, HA, HK2, HO_4, HB⟩ := hrel
              cases gk with
              | zero => exact absurd HA.out (by simp [prioryref27_Get.l1])
              | succ k2 =>
                have H := HA.out
                clear HA
                simp only [prioryref27_Get.l1] at H
                by_cases c5 : x7_2 < 6
                · rw [if_pos c5] at H
                  have c5b0 : decide (x7_2 < 6) = true := decide_eq_true c5
                  clear c5
                  obtain ⟨ji6, hji6⟩ : ∃ j_ : Int, (wrap64 (x5_1 + x7_2)) = j_ := ⟨_, rfl⟩
                  replace H : (if 0 ≤ (ji6) then (if (ji6) < (a0.size : Int) then (prioryref27_Get.l1 k2 a0 x4_1 x5_1 ((((x6_2 * 256) % 4294967296) + ((bt a0 (ji6)) % 4294967296)) % 4294967296) (wrap64 (x7_2 + 1))) else (none)) else (none)) = some (r1, r2) := by first | (rw [hji6] at H; exact H) | (simp only [hji6] at H ⊢; exact H)
                  have hji6w : (IntKind.i64.wrap (x5_1 + x7_2)) = ji6 := (i64_w _).trans hji6
                  by_cases c7 : 0 ≤ (ji6)
                  · rw [if_pos c7] at H
                    have c7b0 : decide (0 ≤ (ji6)) = true := decide_eq_true c7
                    clear c7
                    by_cases c8 : (ji6) < (a0.size : Int)
                    · rw [if_pos c8] at H
                      have c8b0 : decide ((ji6) < (a0.size : Int)) = true := decide_eq_true c8
                      clear c8
                      have H' := Aside0.mk H
                      clear H
                      have p9 : 0 ≤ ((ji6) : Int) := of_decide_eq_true (by first | (with_reducible assumption) | assumption)
                      have q9 : (ji6) < (a0.size : Int) := of_decide_eq_true (by first | (with_reducible assumption) | assumption)
                      have hx9 := bt_at a0 (ji6)
                      replace p9 := eq_true p9
                      replace q9 := eq_true q9
                      go_wp2
                      go_roundg k2
                      case measure => have := HK1.out; have := HK2.out; omega
                      case rel => exact ⟨((((x6_2 * 256) % 4294967296) + ((bt a0 (ji6)) % 4294967296)) % 4294967296), (wrap64 (x7_2 + 1)), (by first | rfl | (simp; done) | (simp only [← hji6] <;> (first | rfl | simp)) | (simp [*]; done)), (by first | rfl | (simp; done) | (simp [*]; done)), H', ⟨by have := HK1.out; have := HK2.out; omega⟩, ⟨by (with_reducible repeat (first | apply Kd.R_alloc | apply Kd.R_drewN | apply Kd.R_drew)); exact HO_4.out⟩, ⟨by repeat (first | (with_reducible first | exact HB.out | apply below_alloc | apply pw_below_drewN | apply below_drew1) | exact HB.out)⟩⟩
                    · rw [if_neg c8] at H
                      exact absurd H (by simp)
                  · rw [if_neg c7] at H
                    exact absurd H (by simp)
                · rw [if_neg c5] at H
                  have c5b0 : decide (x7_2 < 6) = false := decide_eq_false c5
                  clear c5
                  by_cases c10 : 0 ≤ x5_1
                  · rw [if_pos c10] at H
                    have c10b0 : decide (0 ≤ x5_1) = true := decide_eq_true c10
                    clear c10
                    by_cases c11 : x5_1 < (a0.size : Int)
                    · rw [if_pos c11] at H
                      have c11b0 : decide (x5_1 < (a0.size : Int)) = true := decide_eq_true c11
                      clear c11
                      obtain ⟨ji13, hji13⟩ : ∃ j_ : Int, (wrap64 (x5_1 + 1)) = j_ := ⟨_, rfl⟩
                      replace H : (if 0 ≤ (ji13) then (if (ji13) < (a0.size : Int) then (if x4_1.length < 5864062014805 then (prioryref27_Get.l0 k2 a0 (x4_1 ++ [(⟨wrap64 (bt a0 x5_1), wrap64 (bt a0 (ji13)), x6_2⟩ : S40)]) (wrap64 (x5_1 + 6))) else (none)) else (none)) else (none)) = some (r1, r2) := by first | (rw [hji13] at H; exact H) | (simp only [hji13] at H ⊢; exact H)
                      have hji13w : (IntKind.i64.wrap (x5_1 + 1)) = ji13 := (i64_w _).trans hji13
                      by_cases c14 : 0 ≤ (ji13)
                      · rw [if_pos c14] at H
                        have c14b0 : decide (0 ≤ (ji13)) = true := decide_eq_true c14
                        clear c14
                        by_cases c15 : (ji13) < (a0.size : Int)
                        · rw [if_pos c15] at H
                          have c15b0 : decide ((ji13) < (a0.size : Int)) = true := decide_eq_true c15
                          clear c15
                          by_cases c17 : x4_1.length < 5864062014805
                          · rw [if_pos c17] at H
                            have LMc17 := Aside0.mk c17
                            clear c17
                            obtain ⟨y131, hy131⟩ : ∃ y_ : List (S40), y_ = (x4_1 ++ [(⟨wrap64 (bt a0 x5_1), wrap64 (bt a0 (ji13)), x6_2⟩ : S40)]) := ⟨_, rfl⟩
                            replace H : (prioryref27_Get.l0 k2 a0 y131 (wrap64 (x5_1 + 6))) = some (r1, r2) := by first | (rw [hy131]; with_reducible exact H) | (have H2_ := (Option.bind_some _ _).symm.trans H; rw [hy131]; with_reducible exact H2_) | (have H2_ := (Option.bind_some _ _).symm.trans H; with_reducible exact H2_) | with_reducible exact H | (rw [hy131]; exact H) | exact H
                            have Ny131 := Aside0.mk hy131
                            clear hy131
                            have H' := Aside0.mk H
                            clear H
                            try go_wp2
                            have n0_ := Aside0.mk (Kd.R_drew HO_4.out)
                            have n1_ := Aside0.mk (below_drew1 HB.out)
                            clear HO_4
                            clear HB
                            have HO_4 := n0_
                            have HB := n1_
                            clear n0_ n1_
                            have p12 : 0 ≤ (x5_1 : Int) := of_decide_eq_true (by first | (with_reducible assumption) | assumption)
                            have q12 : x5_1 < (a0.size : Int) := of_decide_eq_true (by first | (with_reducible assumption) | assumption)
                            have hx12 := bt_at a0 x5_1
                            replace p12 := eq_true p12
                            replace q12 := eq_true q12
                            have p16 : 0 ≤ ((ji13) : Int) := of_decide_eq_true (by first | (with_reducible assumption) | assumption)
                            have q16 : (ji13) < (a0.size : Int) := of_decide_eq_true (by first | (with_reducible assumption) | assumption)
                            have hx16 := bt_at a0 (ji13)
                            replace p16 := eq_true p16
                            replace q16 := eq_true q16
                            refine start_ (n := 15) (S := fun w' => True) (ds := []) #[false, false, false, false, false, false, false, false, false, false, false, false, false, false, false] (by kernel_rfl) rfl rfl trivial (fun hHeld => ?_); refine with_tabW prioryref27_Get.tab14 prioryref27_Get.bits14 (fun HT_ HW_ => ?_)
                            generalize wr.drew = w18 at HO_4 HB hHeld ⊢
                            refine pure_ (i := 0) (N := some 34) (v := ?_) (a' := ?_) #[true, false, false, false, false, false, false, false, false, false, false, false, false, false, false] rfl rfl (any_of HT_.out (by kernel_rfl)) (fun _ _ _ h => h) (Or.inl ⟨by rfl, ?_⟩) ?_ ?_
                            rotate_left
                            · intro w'
                              go_simp
                              with_reducible rfl
                            rotate_left
                            · simp only [Act.put, List.setIfInBounds_toArray, List.set_cons_zero, List.set_cons_succ, i64_w, i32_w]
                              rfl
                            refine pure_ (i := 1) (N := some 35) (v := ?_) (a' := ?_) #[true, true, false, false, false, false, false, false, false, false, false, false, false, false, false] rfl rfl (any_of HT_.out (by kernel_rfl)) (fun _ _ _ h => h) (Or.inl ⟨by rfl, ?_⟩) ?_ ?_
                            rotate_left
                            · intro w'
                              go_simp
                              with_reducible rfl
                            rotate_left
                            · simp only [Act.put, List.setIfInBounds_toArray, List.set_cons_zero, List.set_cons_succ, i64_w, i32_w]
                              rfl
                            refine pure_ (i := 2) (N := some 36) (v := ?_) (a' := ?_) #[true, true, true, false, false, false, false, false, false, false, false, false, false, false, false] rfl rfl (any_of HT_.out (by kernel_rfl)) (fun _ _ _ h => h) (Or.inl ⟨by rfl, ?_⟩) ?_ ?_
                            rotate_left
                            · intro w'
                              go_simp
                              with_reducible rfl
                            rotate_left
                            · simp only [Act.put, List.setIfInBounds_toArray, List.set_cons_zero, List.set_cons_succ, i64_w, i32_w]
                              rfl
                            refine pure_ (i := 5) (N := some 39) (v := ?_) (a' := ?_) #[true, true, true, false, false, true, false, false, false, false, false, false, false, false, false] rfl rfl (any_of HT_.out (by kernel_rfl)) (fun _ _ _ h => h) (Or.inl ⟨by rfl, ?_⟩) ?_ ?_
                            rotate_left
                            · intro w'
                              go_simp
                              with_reducible rfl
                            rotate_left
                            · simp only [Act.put, List.setIfInBounds_toArray, List.set_cons_zero, List.set_cons_succ, i64_w, i32_w]
                              rfl
                            refine pure_ (i := 6) (N := some 40) (v := ?_) (a' := ?_) #[true, true, true, false, false, true, true, false, false, false, false, false, false, false, false] rfl rfl (any_of HT_.out (by kernel_rfl)) (fun _ _ _ h => h) (Or.inl ⟨by rfl, ?_⟩) ?_ ?_
                            rotate_left
                            · intro w'
                              go_simp
                              with_reducible rfl
                            rotate_left
                            · simp only [Act.put, List.setIfInBounds_toArray, List.set_cons_zero, List.set_cons_succ, i64_w, i32_w]
                              rfl
                            refine pure_ (i := 7) (N := some 41) (v := ?_) (a' := ?_) #[true, true, true, false, false, true, true, true, false, false, false, false, false, false, false] rfl rfl (any_of HT_.out (by kernel_rfl)) (fun _ _ _ h => h) (Or.inl ⟨by rfl, ?_⟩) ?_ ?_
                            rotate_left
                            · intro w'
                              go_simp
                              with_reducible rfl
                            rotate_left
                            · simp only [Act.put, List.setIfInBounds_toArray, List.set_cons_zero, List.set_cons_succ, i64_w, i32_w]
                              rfl
                            refine pure_ (i := 10) (N := some 44) (v := ?_) (a' := ?_) #[true, true, true, false, false, true, true, true, false, false, true, false, false, false, false] rfl rfl (any_of HT_.out (by kernel_rfl)) (fun _ _ _ h => h) (Or.inl ⟨by rfl, ?_⟩) ?_ ?_
                            rotate_left
                            · intro w'
                              go_simp
                              with_reducible rfl
                            rotate_left
                            · simp only [Act.put, List.setIfInBounds_toArray, List.set_cons_zero, List.set_cons_succ, i64_w, i32_w]
                              rfl
                            refine take_ (i := 3) (N := some 37) (v := ?_) (a' := ?_) #[true, true, true, true, false, true, true, true, false, false, true, false, false, false, false] rfl rfl (take_ofW HT_.out HW_.out (by kernel_rfl)) (fun _ _ _ h => h) (Or.inl ⟨by rfl, ?_⟩) hHeld ?_ ?_
                            rotate_left
                            · intro w' _
                              go_simp
                              with_reducible rfl
                            rotate_left
                            · simp only [Act.put, List.setIfInBounds_toArray, List.set_cons_zero, List.set_cons_succ, i64_w, i32_w]
                              rfl
                            refine pure_ (i := 4) (N := some 38) (v := ?_) (a' := ?_) #[true, true, true, true, true, true, true, true, false, false, true, false, false, false, false] rfl rfl (any_of HT_.out (by kernel_rfl)) (fun _ _ _ h => h) (Or.inl ⟨by rfl, ?_⟩) ?_ ?_
                            rotate_left
                            · intro w'
                              go_simp
                              with_reducible rfl
                            rotate_left
                            · simp only [Act.put, List.setIfInBounds_toArray, List.set_cons_zero, List.set_cons_succ, i64_w, i32_w]
                              rfl
                            refine take_ (i := 8) (N := some 42) (v := ?_) (a' := ?_) #[true, true, true, true, true, true, true, true, true, false, true, false, false, false, false] rfl rfl (take_ofW HT_.out HW_.out (by kernel_rfl)) (fun _ _ _ h => h) (Or.inl ⟨by rfl, ?_⟩) hHeld ?_ ?_
                            rotate_left
                            · intro w' _
                              go_simp
                              with_reducible rfl
                            rotate_left
                            · simp only [Act.put, List.setIfInBounds_toArray, List.set_cons_zero, List.set_cons_succ, i64_w, i32_w]
                              rfl
                            refine pure_ (i := 9) (N := some 43) (v := ?_) (a' := ?_) #[true, true, true, true, true, true, true, true, true, true, true, false, false, false, false] rfl rfl (any_of HT_.out (by kernel_rfl)) (fun _ _ _ h => h) (Or.inl ⟨by rfl, ?_⟩) ?_ ?_
                            rotate_left
                            · intro w'
                              go_simp
                              with_reducible rfl
                            rotate_left
                            · simp only [Act.put, List.setIfInBounds_toArray, List.set_cons_zero, List.set_cons_succ, i64_w, i32_w]
                              rfl
                            refine pure_ (i := 11) (N := some 45) (v := ?_) (a' := ?_) #[true, true, true, true, true, true, true, true, true, true, true, true, false, false, false] rfl rfl (any_of HT_.out (by kernel_rfl)) (fun _ _ _ h => h) (Or.inl ⟨by rfl, ?_⟩) ?_ ?_
                            rotate_left
                            · intro w'
                              go_simp
                              with_reducible rfl
                            rotate_left
                            · simp only [Act.put, List.setIfInBounds_toArray, List.set_cons_zero, List.set_cons_succ, i64_w, i32_w]
                              rfl
                            refine one_ (i := 12) (N := some 46) #[true, true, true, true, true, true, true, true, true, true, true, true, true, false, false] rfl rfl (one_of HT_.out (by kernel_rfl)) (by decide) (fun K hK => ?_)
                            refine value_ (w1 := ?_) (v := ?_) (by rfl) rfl ?_ ?_
                            rotate_left 2
                            · go_simp
                              constructor
                              · rfl
                              · rfl
                            refine hK.out _ _ trivial (fun hHeld => ?_)
                            clear hK K
                            refine norm_ (a' := ?_) ?_ ?_
                            rotate_left
                            · show Act.put _ (some 46) _ = _
                              simp only [Act.put, List.setIfInBounds_toArray, List.set_cons_zero, List.set_cons_succ, i64_w, i32_w]
                              rfl
                            refine one_ (i := 13) (N := some 47) #[true, true, true, true, true, true, true, true, true, true, true, true, true, true, false] rfl rfl (one_of HT_.out (by kernel_rfl)) (by decide) (fun K hK => ?_)
                            refine Kd.R_append_step k40 (w0 := w) w.heap.size (by rfl) (.tmp 34) (.tmp 46) 22 40 (.agg #[(.int .i64 0), (.int .i64 0), (.int .u32 0)]) 24 rfl Tryz.underlying22 info40 rfl (by decide) (by omega) u4 x4_1 (⟨wrap64 (bt a0 x5_1), wrap64 (bt a0 (ji13)), x6_2⟩ : S40) [.int .i64 (wrap64 (bt a0 x5_1)), .int .i64 (wrap64 (bt a0 (ji13))), .int .u32 x6_2] (fun _ => True) (fun _ => False) rfl rfl ?aP (fun _ hk => hk.elim) ?aF ?aO ?aB ?aS ?aL ?_
                            (case aP => exact k40_mkM _ _ _ (⟨wrap64 (bt a0 x5_1), wrap64 (bt a0 (ji13)), x6_2⟩ : S40))
                            (case aB => exact (by repeat (first | (with_reducible first | exact HB.out | apply below_alloc | apply pw_below_drewN | apply below_drew1) | exact HB.out)))
                            (case aF => exact (fun _ _ => trivial))
                            (case aO => exact (by (with_reducible repeat (first | apply Kd.R_alloc | apply Kd.R_drewN | apply Kd.R_drew)); exact HO_4.out))
                            (case aS => exact (below_size (by repeat (first | (with_reducible first | exact HB.out | apply below_alloc | apply pw_below_drewN | apply below_drew1) | exact HB.out))))
                            (case aL => have := LMc17.out; omega)
                            intro v132 w19 ho hb hg hat
                            rw [← Ny131.out] at ho
                            have n0_ := Aside0.mk (hb)
                            have n1_ := Aside0.mk (ho)
                            clear HB
                            clear HO_4
                            have HB := n0_
                            have HO133 := n1_
                            clear n0_ n1_
                            clear ho hb hg hat
                            refine hK.out _ _ trivial (fun hHeld => ?_)
                            clear hK K
                            refine norm_ (a' := ?_) ?_ ?_
                            rotate_left
                            · show Act.put _ (some 47) _ = _
                              simp only [Act.put, List.setIfInBounds_toArray, List.set_cons_zero, List.set_cons_succ, i64_w, i32_w]
                              rfl
                            refine pure_ (i := 14) (N := some 4) (v := ?_) (a' := ?_) #[true, true, true, true, true, true, true, true, true, true, true, true, true, true, true] rfl rfl (any_of HT_.out (by kernel_rfl)) (fun _ _ _ h => h) (Or.inl ⟨by rfl, ?_⟩) ?_ ?_
                            rotate_left
                            · intro w'
                              go_simp
                              with_reducible rfl
                            rotate_left
                            · simp only [Act.put, List.setIfInBounds_toArray, List.set_cons_zero, List.set_cons_succ, i64_w, i32_w]
                              rfl
                            refine done_ (done_of HT_.out (by kernel_rfl)) ?_
                            try go_wp2
                            go_roundg k2
                            case measure => have := HK1.out; have := HK2.out; omega
                            case rel => exact ⟨(y131), (wrap64 (x5_1 + 6)), (by first | rfl | (simp; done) | (simp [*]; done)), H', ⟨by have := HK1.out; have := HK2.out; omega⟩, ⟨by (with_reducible repeat (first | apply Kd.R_alloc | apply Kd.R_drewN | apply Kd.R_drew)); exact HO133.out⟩, ⟨by repeat (first | (with_reducible first | exact HB.out | apply below_alloc | apply pw_below_drewN | apply below_drew1) | exact HB.out)⟩⟩
                          · rw [if_neg c17] at H
                            exact absurd H (by simp)
                        · rw [if_neg c15] at H
                          exact absurd H (by simp)
                      · rw [if_neg c14] at H
                        exact absurd H (by simp)
                    · rw [if_neg c11] at H
                      exact absurd H (by simp)
                  · rw [if_neg c10] at H
                    exact absurd H (by simp)
          · rw [if_neg c4] at H
            have c4b0 : decide (x5_1 < (a0.size : Int)) = false := decide_eq_false c4
            clear c4
            simp only [Option.some.injEq, Prod.mk.injEq] at H
            obtain ⟨rfl, rfl⟩ := H
            go_wp2
            go_ret2
            exact ⟨_, by first | rfl | (simp [errW_none, errW_some] <;> rfl) | (simp [*, errW_none, errW_some] <;> rfl), by (with_reducible repeat (first | apply Kd.R_alloc | apply Kd.R_drewN | apply Kd.R_drew)); exact HO_4.out, by repeat (first | (with_reducible first | exact HB.out | apply below_alloc | apply pw_below_drewN | apply below_drew1) | exact HB.out)⟩
  · rw [if_neg c2] at H
    have c2b0 : (((a0.size : Int) % 6) == 0) = false := beq_eq_false_iff_ne.mpr c2
    have c2b1 : (((a0.size : Int) % 6) != 0) = true := bne_iff_ne.mpr c2
    simp only [Option.some.injEq, Prod.mk.injEq] at H
    obtain ⟨rfl, rfl⟩ := H
    go_enter Tryz.func11, Tryz.ntmps11
    go_wp2
    go_ret2
    exact ⟨_, by first | rfl | (simp [errW_none, errW_some] <;> rfl) | (simp [*, errW_none, errW_some] <;> rfl), by first | exact Kd.R_nil _ _ _ _ _ | exact Kd.N_nil _ _ _ _ _ | exact Kd.V_nil _ _ _ _ _ | exact Kd.Q_nil _ _ _ _ _ | exact Kd.S_nil _ _ _ _ _, by repeat (first | (with_reducible first | exact HB.out | apply below_alloc | apply pw_below_drewN | apply below_drew1) | exact HB.out)⟩
end Go.Proofs.YtcmildkkigccaaaGreatDoor.PAll

/-
  Plain: bytes as events.
-/
namespace Go.Proofs.YtcmildkkigccaaaGreatDoor.PAll
open Go.RowKit Go.Proofs.YtcmildkkigccaaaGreatDoorW.PrintWords Go.Proofs.YtcmildkkigccaaaGreatDoorW.PrintLast Go.Proofs.YtcmildkkigccaaaGreatDoorW.PrintMore
set_option linter.unusedVariables false
set_option linter.unusedSimpArgs false
theorem bt_bd (s : ByteArray) (i : Int) : 0 ≤ bt s i ∧ bt s i ≤ 255 := by
  unfold bt
  split
  · have := UInt8.toNat_lt (s[i.toNat])
    omega
  · omega
def getX (s : ByteArray) (i : Int) : S40 := ⟨bt s i, bt s (i + 1), ((bt s (i + 2) * 256 + bt s (i + 3)) * 256 + bt s (i + 4)) * 256 + bt s (i + 5)⟩
def getL (s : ByteArray) : Nat → List S40
  | 0 => []
  | n + 1 => getL s n ++ [getX s (6 * (n : Int))]
theorem getL_len (s : ByteArray) : ∀ n, (getL s n).length = n
  | 0 => rfl
  | n + 1 => by simp [getL, getL_len s n]
theorem get_byte (k : Nat) (s : ByteArray) (x4 : List S40) (i j x : Int) (hs : s.size ≤ 60000) (hi : 0 ≤ i) (hj : 2 ≤ j ∧ j < 6) (h : i + 6 ≤ (s.size : Int)) (hx : 0 ≤ x ∧ x < 16777216) :
    prioryref27_Get.l1 (k + 1) s x4 i x j = prioryref27_Get.l1 k s x4 i (x * 256 + bt s (i + j)) (j + 1) := by
  have hb := bt_bd s (i + j)
  have e : wrap64 (i + j) = i + j := by unfold wrap64; omega
  conv => lhs; unfold prioryref27_Get.l1
  rw [if_pos (by omega), e, if_pos (by omega), if_pos (by omega), show wrap64 (j + 1) = j + 1 by unfold wrap64; omega, show (x * 256 % 4294967296 + bt s (i + j) % 4294967296) % 4294967296 = x * 256 + bt s (i + j) by omega]
theorem get_event (k : Nat) (s : ByteArray) (x4 : List S40) (i : Int) (hs : s.size ≤ 60000) (hi : 0 ≤ i) (h : i + 6 ≤ (s.size : Int)) (hl : x4.length ≤ 10000) :
    prioryref27_Get.l1 (k + 5) s x4 i 0 2 = prioryref27_Get.l0 k s (x4 ++ [getX s i]) (i + 6) := by
  have b0 := bt_bd s (i + 2)
  have b1 := bt_bd s (i + 3)
  have b2 := bt_bd s (i + 4)
  have b3 := bt_bd s (i + 5)
  have b4 := bt_bd s i
  have b5 := bt_bd s (i + 1)
  rw [get_byte (k + 4) s x4 i 2 0 hs hi (by omega) h (by omega), show (2 : Int) + 1 = 3 from rfl, get_byte (k + 3) s x4 i 3 _ hs hi (by omega) h (by omega), show (3 : Int) + 1 = 4 from rfl,
    get_byte (k + 2) s x4 i 4 _ hs hi (by omega) h (by omega), show (4 : Int) + 1 = 5 from rfl, get_byte (k + 1) s x4 i 5 _ hs hi (by omega) h (by omega), show (5 : Int) + 1 = 6 from rfl]
  have e : wrap64 (i + 1) = i + 1 := by unfold wrap64; omega
  conv => lhs; unfold prioryref27_Get.l1
  rw [if_neg (by omega), if_pos hi, if_pos (by omega), e, if_pos (by omega), if_pos (by omega), if_pos (by omega), show wrap64 (i + 6) = i + 6 by unfold wrap64; omega, show wrap64 (bt s i) = bt s i by unfold wrap64; omega,
    show wrap64 (bt s (i + 1)) = bt s (i + 1) by unfold wrap64; omega, Int.zero_mul, Int.zero_add]
  rfl
theorem get_l0 (s : ByteArray) (n : Nat) (hn : s.size = 6 * n) (hs : s.size ≤ 60000) : ∀ (d i k : Nat), i + d = n → 6 * d + 7 ≤ k → prioryref27_Get.l0 k s (getL s i) (6 * (i : Int)) = some (getL s n, 0)
  | 0, i, k + 1, hd, hk => by
    unfold prioryref27_Get.l0
    rw [if_neg (by omega), show i = n by omega]
  | d + 1, i, k + 1, hd, hk => by
    obtain ⟨q, rfl⟩ : ∃ q, k = q + 5 := ⟨k - 5, by omega⟩
    conv => lhs; unfold prioryref27_Get.l0
    rw [if_pos (by omega), get_event q s _ _ hs (by omega) (by omega) (by rw [getL_len]; omega), show 6 * (i : Int) + 6 = 6 * ((i + 1 : Nat) : Int) by omega]
    exact get_l0 s n hn hs d (i + 1) q (by omega) (by omega)
/-- What Get tells. -/
def getE (s : ByteArray) : List S40 × Int := if s.size % 6 = 0 then (if s.size > 60000 then ([], 2) else (getL s (s.size / 6), 0)) else ([], 6)
theorem get_f (k : Nat) (s : ByteArray) (hk : 60010 ≤ k) : prioryref27_Get.f k s = some (getE s) := by
  unfold prioryref27_Get.f getE
  by_cases h : s.size % 6 = 0
  · rw [if_pos (by omega), if_pos h]
    by_cases h2 : s.size > 60000
    · rw [if_pos (by omega), if_pos h2]
    · rw [if_neg (by omega), if_neg h2]
      exact get_l0 s (s.size / 6) (by omega) (by omega) (s.size / 6) 0 k (by omega) (by omega)
  · rw [if_neg (by omega), if_neg h]
end Go.Proofs.YtcmildkkigccaaaGreatDoor.PAll

/-
  octet.Reader: Fine, Left, take, Num.
-/
namespace Go.Proofs.YtcmildkkigccaaaGreatDoor.PAll
open Go.RowKit Go.Proofs.YtcmildkkigccaaaGreatDoorW.PrintWords Go.Proofs.YtcmildkkigccaaaGreatDoorW.PrintLast Go.Proofs.YtcmildkkigccaaaGreatDoorW.PrintMore
set_option linter.unusedVariables false
set_option linter.unusedSimpArgs false
/-- A reader of the bytes s. -/
def RdAt (s : ByteArray) (b : Nat) (W : World) : Prop := W.heap[b]? = some (.cells #[.string s, .bool true] 73 (0, 0))
theorem RdAt.c0 {s : ByteArray} {b : Nat} {W : World} (h : RdAt s b W) : W.cell? ⟨b, 0, none⟩ = some (.string s) := by rw [Lib.cell_of_heap h]; rfl
theorem RdAt.c1 {s : ByteArray} {b : Nat} {W : World} (h : RdAt s b W) : W.cell? ⟨b, 1, none⟩ = some (.bool true) := by rw [Lib.cell_of_heap h]; rfl
theorem RdAt.f0 {s : ByteArray} {b : Nat} {W : World} (h : RdAt s b W) : W.frozen? ⟨b, 0, none⟩ = false := Lib.frozen_of_heap h 0
set_option maxHeartbeats 1000000 in
set_option maxRecDepth 100000 in
theorem fine_calls (s : ByteArray) (b : Nat) (w : World) (h : RdAt s b w) :
    Calls Tryz.prog 33 #[.pointer (some ⟨b, 0, none⟩)] w fun e w' => e = .returned (.bool true) ∧ w = w' := by
  have c1 := h.c1
  clear h
  go_enter Tryz.func33, Tryz.ntmps33
  go_wp2
  go_ret
  exact ⟨rfl, rfl⟩
set_option maxHeartbeats 1000000 in
set_option maxRecDepth 100000 in
theorem left_calls (s : ByteArray) (b : Nat) (w : World) (h : RdAt s b w) :
    Calls Tryz.prog 24 #[.pointer (some ⟨b, 0, none⟩)] w fun e w' => e = .returned (.int .i64 s.size) ∧ w = w' := by
  have c0 := h.c0
  have H := Aside0.mk h
  clear h
  go_enter Tryz.func24, Tryz.ntmps24
  go_wp2_with (go_at_call 33; refine (fine_calls s b _ H.out).mono ?_; rintro e w' ⟨rfl, rfl⟩)
  go_ret
  exact ⟨rfl, rfl⟩
set_option maxHeartbeats 1000000 in
set_option maxRecDepth 100000 in
theorem take_calls (s : ByteArray) (b : Nat) (n : Int) (w : World) (h : RdAt s b w) (h0 : 0 ≤ n) (h1 : n ≤ (s.size : Int)) :
    Calls Tryz.prog 34 #[.pointer (some ⟨b, 0, none⟩), .int .i64 n] w fun e w' => e = .returned (.string (s.extract 0 n.toNat)) ∧ RdAt (s.extract n.toNat s.size) b w' ∧ w.grownBy w' (some b) := by
  have c0 := h.c0
  have f0 := h.f0
  have H := Aside0.mk h
  clear h
  have b0 : decide (n < 0) = false := decide_eq_false (by omega)
  have b1 : decide ((s.size : Int) < n) = false := decide_eq_false (by omega)
  go_enter Tryz.func34, Tryz.ntmps34
  go_wp2_with (go_at_call 24; refine (left_calls s b _ H.out).mono ?_; rintro e w' ⟨rfl, rfl⟩)
  go_ret
  have hb : b < w.heap.size := lt_of_blk H.out
  have hH : w.heap[b]? = some (.cells #[.string s, .bool true] 73 (0, 0)) := H.out
  exact ⟨rfl, by unfold RdAt; simp [World.setCell, Array.getElem?_modify, hH], ⟨rfl, rfl, rfl, by simp [World.setCell], fun k _ hk => Below.heap_setCell _ _ _ _ (fun e => hk (by simp [e]))⟩⟩
/-- A number out of the first bytes. -/
def numK (s : ByteArray) : Nat → Int
  | 0 => 0
  | k + 1 => numK s k * 256 + bt s k
theorem numK_bd (s : ByteArray) : ∀ k : Nat, 0 ≤ numK s k ∧ numK s k < 256 ^ k
  | 0 => ⟨by show (0 : Int) ≤ 0; omega, by show (0 : Int) < 1; omega⟩
  | k + 1 => by
    have h := numK_bd s k
    have hb := bt_bd s k
    refine ⟨by show 0 ≤ numK s k * 256 + bt s k; omega, ?_⟩
    show numK s k * 256 + bt s k < 256 ^ (k + 1)
    rw [show (256 : Int) ^ (k + 1) = 256 ^ k * 256 from by rw [Int.pow_succ]]
    omega
theorem numK_lt (s : ByteArray) : ∀ k : Nat, k ≤ 3 → 0 ≤ numK s k ∧ numK s k < 16777216
  | 0, _ => ⟨by show (0 : Int) ≤ 0; omega, by show (0 : Int) < 16777216; omega⟩
  | 1, _ => by have h := numK_bd s 1; exact ⟨h.1, Int.lt_of_lt_of_le h.2 (by decide)⟩
  | 2, _ => by have h := numK_bd s 2; exact ⟨h.1, Int.lt_of_lt_of_le h.2 (by decide)⟩
  | 3, _ => by have h := numK_bd s 3; exact ⟨h.1, Int.lt_of_lt_of_le h.2 (by decide)⟩
  | k + 4, h => by omega
theorem bt_extract (s : ByteArray) (m k : Nat) (hk : k < m) (hm : m ≤ s.size) : (((s.extract 0 m).data.toList.getD k 0).toNat : Int) = bt s k := by
  have hs : k < s.size := by omega
  unfold bt
  rw [dif_pos (by simpa using hs)]
  have e : (s.extract 0 m).data.toList[k]? = some s[k] := by
    rw [ByteArray.data_extract, Array.getElem?_toList, Array.getElem?_extract, if_pos (by have : s.data.size = s.size := rfl; omega)]
    simp only [Nat.zero_add]
    rw [Array.getElem?_eq_getElem (by have : s.data.size = s.size := rfl; omega)]
    rfl
  rw [List.getD_eq_getElem?_getD, e]
  rfl
theorem grown_bytes (w : World) (t : ByteArray) : w.grownBy (Lib.bytesWorld w 5 t) none :=
  ⟨rfl, rfl, rfl, by rw [Lib.bytesWorld_size]; omega, fun k hk _ => Lib.bytesWorld_at_old w 5 t k hk⟩
theorem grown_then {w w1 w2 : World} {b : Nat} (h : w.grownBy w1 (some b)) (h2 : w1.grownBy w2 none) : w.grownBy w2 (some b) :=
  ⟨h2.os.trans h.os, h2.tape.trans h.tape, h2.output.trans h.output, Nat.le_trans h.size h2.size, fun k hk hb => (h2.block k (Nat.lt_of_lt_of_le hk h.size) (by simp)).trans (h.block k hk hb)⟩
theorem or_byte (a b : Nat) (hb : b < 256) : a * 256 ||| b = a * 256 + b := by
  have := Nat.shiftLeft_add_eq_or_of_lt (i := 8) (b := b) (by simpa using hb) a
  rw [Nat.shiftLeft_eq] at this
  exact this.symm
set_option maxHeartbeats 2000000 in
set_option maxRecDepth 100000 in
theorem num_calls (s : ByteArray) (b : Nat) (n : Int) (w : World) (h : RdAt s b w) (h0 : 1 ≤ n) (h4 : n ≤ 4) (h1 : n ≤ (s.size : Int)) :
    Calls Tryz.prog 25 #[.pointer (some ⟨b, 0, none⟩), .int .i64 n] w fun e w' => e = .returned (.int .u32 (numK s n.toNat)) ∧ RdAt (s.extract n.toNat s.size) b w' ∧ w.grownBy w' (some b) := by
  have H := Aside0.mk h
  clear h
  have b0 : decide (n < 1) = false := decide_eq_false (by omega)
  have b1 : decide (4 < n) = false := decide_eq_false (by omega)
  go_enter Tryz.func25, Tryz.ntmps25
  go_wp2_with fail
  refine (fine_calls s b _ H.out).mono ?_
  rintro e w' ⟨rfl, rfl⟩
  go_wp2_with fail
  refine (take_calls s b n _ H.out (by omega) h1).mono ?_
  rintro e w1 ⟨rfl, hr, hg⟩
  have HR := Aside0.mk hr
  have HG := Aside0.mk hg
  clear hr hg
  obtain ⟨t, ht⟩ : ∃ t, t = s.extract 0 n.toNat := ⟨_, rfl⟩
  rw [← ht]
  have hsz : t.size = n.toNat := by rw [ht, ByteArray.size_extract]; omega
  have hbt : ∀ k : Nat, k < t.size → ((t.data.toList.getD k 0).toNat : Int) = bt s k := fun k hk => by rw [ht]; exact bt_extract s _ k (by omega) (by omega)
  have HSZ := Aside0.mk hsz
  have HBT := Aside0.mk hbt
  clear hsz hbt ht
  have hcv := Lib.run_convert_string_bytes (P := Tryz.prog) w1 9 45 5 t (u := .string) Tryz.underlying9 Tryz.underlying45 Tryz.underlying5
  go_wp2_with fail
  clear hcv
  go_loop [6, 25] (fun v6 v25 => ∃ k : Nat, k ≤ t.size ∧ v25 = .int .i64 k ∧ ∃ x : Int, Aside0 (x = numK s k) ∧ v6 = .int .u32 x) (fun _ v25 => t.size - (intOf v25).toNat)
  case atStart => exact ⟨0, Nat.zero_le _, rfl, 0, ⟨rfl⟩, rfl⟩
  case round =>
    obtain ⟨k, hk, rfl, x, HX, rfl⟩ := hrel
    by_cases hlt : k < t.size
    · have hc := Lib.bytesWorld_cell w1 5 t k hlt
      rw [HBT.out k hlt] at hc
      have hb := bt_bd s k
      obtain ⟨c, hc_⟩ : ∃ c, c = bt s k := ⟨_, rfl⟩
      rw [← hc_] at hc hb
      have HC := Aside0.mk hc_
      clear hc_
      obtain ⟨hb0, hb1⟩ := hb
      have hx : 0 ≤ x ∧ x < 16777216 := by
        rw [HX.out]
        exact numK_lt s k (by have hs := HSZ.out; omega)
      obtain ⟨hx0, hx1⟩ := hx
      have hor : bits .or .u32 (x * 256) c = x * 256 + c := by
        rw [u32_or _ _ (by omega) (by omega) hb0 (by omega)]
        obtain ⟨a, rfl⟩ := Int.eq_ofNat_of_zero_le hx0
        obtain ⟨d, rfl⟩ := Int.eq_ofNat_of_zero_le hb0
        rw [show ((a : Int) * 256).toNat = a * 256 by omega, Int.toNat_natCast, or_byte a d (by omega)]
        omega
      have HO := Aside0.mk hor
      clear hor
      have hk4 : k < 4 := by have := HSZ.out; omega
      go_wp2
      go_round
      case rel => exact ⟨k + 1, by omega, by go_num, _, ⟨rfl⟩, by rw [HO.out, HX.out, HC.out]; rfl⟩
      case measure => simp [intOf]; omega
    · go_wp2
      go_ret
      have e : k = n.toNat := by have := HSZ.out; omega
      exact ⟨by rw [HX.out, e]; rfl, (Lib.bytesWorld_at_old w1 5 t b (lt_of_blk HR.out)).trans HR.out, grown_then HG.out (grown_bytes w1 t)⟩
end Go.Proofs.YtcmildkkigccaaaGreatDoor.PAll

/-
  script.Get: bytes as events.
-/
namespace Go.Proofs.YtcmildkkigccaaaGreatDoor.PAll
open Go.RowKit Go.Proofs.YtcmildkkigccaaaGreatDoorW.PrintWords Go.Proofs.YtcmildkkigccaaaGreatDoorW.PrintLast Go.Proofs.YtcmildkkigccaaaGreatDoorW.PrintMore
set_option linter.unusedVariables false
set_option linter.unusedSimpArgs false
/-- What is left of bytes from a place on. -/
def tl (s : ByteArray) (p : Nat) : ByteArray := s.extract p s.size
theorem tl_size (s : ByteArray) (p : Nat) : (tl s p).size = s.size - p := by unfold tl; rw [ByteArray.size_extract]; omega
theorem tl_tl (s : ByteArray) (p m : Nat) : (tl s p).extract m (tl s p).size = tl s (p + m) := by
  apply ByteArray.ext
  rw [tl_size]
  unfold tl
  rw [ByteArray.data_extract, ByteArray.data_extract, ByteArray.data_extract, Array.extract_extract]
  have : s.data.size = s.size := rfl
  by_cases h : p ≤ s.size
  · rw [show min (p + (s.size - p)) s.size = s.size by omega]
  · rw [Array.extract_empty_of_stop_le_start (by omega), Array.extract_empty_of_stop_le_start (by omega)]
theorem bt_tl (s : ByteArray) (p k : Nat) (h : p + k < s.size) : bt (tl s p) (k : Int) = bt s ((p + k : Nat) : Int) := by
  unfold bt
  rw [dif_pos (by rw [tl_size]; simp; omega), dif_pos (by rw [Int.toNat_natCast]; exact h)]
  simp only [Int.toNat_natCast]
  unfold tl
  congr 1
  simp [ByteArray.getElem_extract]
/-- A word out of four bytes. -/
def wd4 (s : ByteArray) (p : Nat) : Int := ((bt s (p : Int) * 256 + bt s ((p + 1 : Nat) : Int)) * 256 + bt s ((p + 2 : Nat) : Int)) * 256 + bt s ((p + 3 : Nat) : Int)
theorem num1_calls (s : ByteArray) (p b : Nat) (w : World) (h : RdAt (tl s p) b w) (hp : p + 1 ≤ s.size) :
    Calls Tryz.prog 25 #[.pointer (some ⟨b, 0, none⟩), .int .i64 1] w fun e w' => e = .returned (.int .u32 (bt s (p : Int))) ∧ RdAt (tl s (p + 1)) b w' ∧ w.grownBy w' (some b) := by
  refine (num_calls (tl s p) b 1 w h (by omega) (by omega) (by rw [tl_size]; omega)).mono ?_
  rintro e w' ⟨rfl, h1, h2⟩
  refine ⟨?_, ?_, h2⟩
  · rw [show (1 : Int).toNat = 1 from rfl]
    show Ending.returned (.int .u32 (0 * 256 + bt (tl s p) ((0 : Nat) : Int))) = _
    rw [bt_tl s p 0 (by omega)]
    simp
  · rw [show (1 : Int).toNat = 1 from rfl, tl_tl] at h1
    exact h1
theorem num4_calls (s : ByteArray) (p b : Nat) (w : World) (h : RdAt (tl s p) b w) (hp : p + 4 ≤ s.size) :
    Calls Tryz.prog 25 #[.pointer (some ⟨b, 0, none⟩), .int .i64 4] w fun e w' => e = .returned (.int .u32 (wd4 s p)) ∧ RdAt (tl s (p + 4)) b w' ∧ w.grownBy w' (some b) := by
  refine (num_calls (tl s p) b 4 w h (by omega) (by omega) (by rw [tl_size]; omega)).mono ?_
  rintro e w' ⟨rfl, h1, h2⟩
  refine ⟨?_, ?_, h2⟩
  · rw [show (4 : Int).toNat = 4 from rfl]
    show Ending.returned (.int .u32 ((((0 * 256 + bt (tl s p) ((0 : Nat) : Int)) * 256 + bt (tl s p) ((1 : Nat) : Int)) * 256 + bt (tl s p) ((2 : Nat) : Int)) * 256 + bt (tl s p) ((3 : Nat) : Int))) = _
    rw [bt_tl s p 0 (by omega), bt_tl s p 1 (by omega), bt_tl s p 2 (by omega), bt_tl s p 3 (by omega)]
    unfold wd4
    simp
  · rw [show (4 : Int).toNat = 4 from rfl, tl_tl] at h1
    exact h1
theorem getX_eq (s : ByteArray) (i : Nat) : getX s (6 * (i : Int)) = ⟨bt s ((6 * i : Nat) : Int), bt s ((6 * i + 1 : Nat) : Int), wd4 s (6 * i + 2)⟩ := by
  unfold getX wd4
  simp only [Int.natCast_add, Int.natCast_mul, Int.add_assoc]
  rfl
theorem wd4_bd (s : ByteArray) (p : Nat) : 0 ≤ wd4 s p ∧ wd4 s p < 4294967296 := by
  have h0 := bt_bd s (p : Int)
  have h1 := bt_bd s ((p + 1 : Nat) : Int)
  have h2 := bt_bd s ((p + 2 : Nat) : Int)
  have h3 := bt_bd s ((p + 3 : Nat) : Int)
  unfold wd4
  omega
def GetR (s : ByteArray) (w : World) (i : Nat) (v : Value) (wr : World) : Prop :=
  RdAt (tl s (6 * i)) w.heap.size wr ∧ Kd.R k40 40 wr (w.heap.size + 1) (fun _ => True) v (getL s i) ∧ Below w.heap.size w wr
set_option maxHeartbeats 1000000 in
set_option maxRecDepth 100000 in
theorem new_calls (s : ByteArray) (w : World) :
    Calls Tryz.prog 23 #[.string s] w fun e w' => e = .returned (.pointer (some ⟨w.heap.size, 0, none⟩)) ∧ w' = w.alloc (.cells #[.string s, .bool true] 73) := by
  go_enter Tryz.func23, Tryz.ntmps23
  go_wp2
  go_ret
  exact ⟨rfl, rfl⟩
theorem tl_zero (s : ByteArray) : tl s 0 = s := by unfold tl; simp
theorem getR_next {s : ByteArray} {w W : World} {i : Nat} {v : Value} (hr : RdAt (tl s (6 * i + 6)) w.heap.size W) (h : Kd.R k40 40 W (w.heap.size + 1) (fun _ => True) v (getL s i ++ [⟨bt s ((6 * i : Nat) : Int), bt s ((6 * i + 1 : Nat) : Int), wd4 s (6 * i + 2)⟩])) (hB : Below w.heap.size w W) :
    GetR s w (i + 1) v W := by
  refine ⟨by rw [show 6 * (i + 1) = 6 * i + 6 by omega]; exact hr, ?_, hB⟩
  show Kd.R k40 40 W (w.heap.size + 1) (fun _ => True) v (getL s i ++ [getX s (6 * (i : Int))])
  rw [getX_eq]
  exact h
theorem row_ne {W : World} {b k : Nat} {ok : Nat → Prop} {v : Value} {xs : List S40} (h : Kd.R k40 40 W (b + 1) ok v xs) (hk : v.ownBlock = some k) : b < k := by
  obtain ⟨_, inner, ho, _⟩ := h
  rcases ho.2 with ⟨hv, _⟩ | ⟨g, cap, cur, hv, hg, _⟩
  · rw [hv] at hk; simp [Value.ownBlock] at hk
  · rw [hv] at hk; simp [Value.ownBlock] at hk; omega
theorem row_grown {W w1 : World} {b : Nat} {v : Value} {xs : List S40} (h : Kd.R k40 40 W (b + 1) (fun _ => True) v xs) (hg : W.grownBy w1 (some b)) : Kd.R k40 40 w1 (b + 1) (fun _ => True) v xs :=
  Kd.R_grown2 h rfl hg (fun k hk e => by have := row_ne h e.symm; injection hk; omega)
theorem below_grown_b {w W w1 : World} (h : Below w.heap.size w W) (hg : W.grownBy w1 (some w.heap.size)) : Below w.heap.size w w1 := h.grown hg h.size (fun k hk => by injection hk; omega)
set_option maxHeartbeats 2000000 in
set_option maxRecDepth 100000 in
theorem get_calls (s : ByteArray) (w : World) (hs : s.size ≤ 1000000) :
    Calls Tryz.prog 10 #[.string s] w fun e w' => ∃ v0_ : Value, e = .returned (.tuple #[v0_, .int .i64 (getE s).2]) ∧ Kd.R k40 40 w' w.heap.size (fun _ => True) v0_ (getE s).1 ∧ Below w.heap.size w w' := by
  by_cases h6 : s.size % 6 = 0
  · have b0 : (((s.size : Int) % 6) == 0) = true := beq_iff_eq.mpr (by omega)
    have b1 : (((s.size : Int) % 6) != 0) = false := bne_eq_false_iff_eq.mpr (by omega)
    by_cases hl : 10000 < s.size / 6
    · have e : getE s = ([], 2) := by unfold getE; rw [if_pos h6, if_pos (by omega)]
      have b2 : decide (10000 < (s.size : Int) / 6) = true := decide_eq_true (by omega)
      have b3 : decide (10000 < s.size / 6) = true := decide_eq_true (by omega)
      rw [e]
      clear e
      go_enter Tryz.func10, Tryz.ntmps10
      go_wp2
      go_ret2
      exact ⟨_, rfl, Kd.R_nil _ _ _ _ _, Below.refl _ _⟩
    · have e : getE s = (getL s (s.size / 6), 0) := by unfold getE; rw [if_pos h6, if_neg (by omega)]
      have b2 : decide (10000 < (s.size : Int) / 6) = false := decide_eq_false (by omega)
      have b3 : decide (10000 < s.size / 6) = false := decide_eq_false (by omega)
      rw [e]
      clear e
      obtain ⟨n, hn⟩ : ∃ n, n = s.size / 6 := ⟨_, rfl⟩
      rw [← hn]
      have HS := Aside0.mk (show s.size = 6 * n by omega)
      have hn1 : n ≤ 10000 := by omega
      clear hn
      go_enter Tryz.func10, Tryz.ntmps10
      go_wp2_with fail
      refine (new_calls s _).mono ?_
      rintro e w0 ⟨rfl, hw0⟩
      have hr0 : RdAt (tl s (6 * 0)) w.heap.size w0 := by rw [hw0, show 6 * 0 = 0 from rfl, tl_zero]; exact blk_alloc _ _
      have hB0 : Below w.heap.size w w0 := by rw [hw0]; exact (Below.refl _ _).alloc (Nat.le_refl _) _
      have HR0 := Aside0.mk hr0
      have HB0 := Aside0.mk hB0
      clear hw0 hr0 hB0
      go_wp2_with fail
      go_loopg [5] n (fun kq v5 wr => ∃ i : Nat, i + kq = n ∧ Aside0 (GetR s w i v5 wr))
      case atStart => exact ⟨0, by omega, ⟨HR0.out, Kd.R_nil _ _ _ _ _, HB0.out⟩⟩
      case round =>
        clear HR0 HB0
        obtain ⟨i, hi, HG⟩ := hrel
        obtain ⟨A5, c5, rfl⟩ := Kd.R_slice HG.out.2.1
        have HSZ := Aside0.mk (tl_size s (6 * i))
        by_cases hlt : i < n
        · have hpos : decide (0 < ((tl s (6 * i)).size : Int)) = true := decide_eq_true (by have := HS.out; have := HSZ.out; omega)
          have hpos2 : decide (0 < (tl s (6 * i)).size) = true := decide_eq_true (by have := HS.out; have := HSZ.out; omega)
          go_wp2_with fail
          refine (left_calls _ _ _ HG.out.1).mono ?_
          rintro e w' ⟨rfl, rfl⟩
          go_wp2_with fail
          refine (num1_calls s (6 * i) _ _ HG.out.1 (by have := HS.out; omega)).mono ?_
          rintro e w1 ⟨rfl, hr1, hg1⟩
          have HR1 := Aside0.mk hr1
          have HO1 := Aside0.mk (row_grown HG.out.2.1 hg1)
          have HB1 := Aside0.mk (below_grown_b HG.out.2.2 hg1)
          clear hr1 hg1
          obtain ⟨q0, hq0⟩ : ∃ q, q = bt s ((6 * i : Nat) : Int) := ⟨_, rfl⟩
          have hbd0 := bt_bd s ((6 * i : Nat) : Int)
          rw [← hq0] at hbd0
          obtain ⟨d00, d01⟩ := hbd0
          rw [← hq0]
          have HQ0 := Aside0.mk hq0
          clear hq0
          go_wp2_with fail
          refine (num1_calls s (6 * i + 1) _ _ HR1.out (by have := HS.out; omega)).mono ?_
          rintro e w2 ⟨rfl, hr2, hg2⟩
          have HR2 := Aside0.mk hr2
          have HO2 := Aside0.mk (row_grown HO1.out hg2)
          have HB2 := Aside0.mk (below_grown_b HB1.out hg2)
          clear hr2 hg2
          obtain ⟨q1, hq1⟩ : ∃ q, q = bt s ((6 * i + 1 : Nat) : Int) := ⟨_, rfl⟩
          have hbd1 := bt_bd s ((6 * i + 1 : Nat) : Int)
          rw [← hq1] at hbd1
          obtain ⟨d10, d11⟩ := hbd1
          rw [← hq1]
          have HQ1 := Aside0.mk hq1
          clear hq1
          go_wp2_with fail
          refine (num4_calls s (6 * i + 2) _ _ HR2.out (by have := HS.out; omega)).mono ?_
          rintro e w3 ⟨rfl, hr3, hg3⟩
          have HR3 := Aside0.mk hr3
          have HO3 := Aside0.mk (row_grown HO2.out hg3)
          have HB3 := Aside0.mk (below_grown_b HB2.out hg3)
          clear hr3 hg3
          obtain ⟨q2, hq2⟩ : ∃ q, q = wd4 s (6 * i + 2) := ⟨_, rfl⟩
          have hbd2 := wd4_bd s (6 * i + 2)
          rw [← hq2] at hbd2
          obtain ⟨d20, d21⟩ := hbd2
          rw [← hq2]
          have HQ2 := Aside0.mk hq2
          clear hq2
          have HBS := Aside0.mk (show w.heap.size + 1 ≤ w3.heap.size from lt_of_blk HR3.out)
          have HLB := Aside0.mk (show ((getL s i).length + 1) * 24 ≤ 140737488355328 by rw [getL_len]; omega)
          go_wp2_with ((with_reducible refine gate_builtin (b := .append) (xs := #[.tmp 27, .tmp 35]) rfl ?_); at_builtin; refine Kd.R_append k40 (w0 := w3) (W := w3) (w.heap.size + 1) rfl (.tmp 27) (.tmp 35) 22 40 (.agg #[.int .i64 0, .int .i64 0, .int .u32 0]) 24 rfl Tryz.underlying22 info40 rfl (by decide) (by decide) (.slice A5 (getL s i).length c5) (getL s i) ⟨q0, q1, q2⟩ [.int .i64 q0, .int .i64 q1, .int .u32 q2] (fun _ => True) (fun _ => False) rfl rfl (k40_mkM _ _ _ ⟨q0, q1, q2⟩) (fun _ h => h.elim) (fun _ _ => trivial) HO3.out (Below.refl _ _) HBS.out HLB.out ?_; intro v4 w4 ho4 hb4 hg4 hat4)
          have HF := Aside0.mk (getR_next (i := i) (v := v4) (W := w4) (w := w) (s := s) ((hg4.block _ (by have := HBS.out; omega) (fun e => by have := row_ne HO3.out e.symm; omega)).trans HR3.out) (by rw [← HQ0.out, ← HQ1.out, ← HQ2.out]; exact ho4) (HB3.out.grown hg4 HB3.out.size (fun k hk => by have := row_ne HO3.out hk; omega)))
          clear ho4 hb4 hg4 hat4
          try go_wp2
          obtain ⟨kq, rfl⟩ : ∃ m, gk = m + 1 := ⟨gk - 1, by omega⟩
          go_roundg kq
          case measure => omega
          case rel => exact ⟨i + 1, by omega, HF⟩
        · have hpos : decide (0 < ((tl s (6 * i)).size : Int)) = false := decide_eq_false (by have := HS.out; have := HSZ.out; omega)
          have hpos2 : decide (0 < (tl s (6 * i)).size) = false := decide_eq_false (by have := HS.out; have := HSZ.out; omega)
          go_wp2_with fail
          refine (left_calls _ _ _ HG.out.1).mono ?_
          rintro e w' ⟨rfl, rfl⟩
          go_wp2_with fail
          go_ret2
          obtain rfl : i = n := by omega
          exact ⟨_, rfl, Kd.R_lower HG.out.2.1 (by omega), HG.out.2.2⟩
  · have b0 : (((s.size : Int) % 6) == 0) = false := beq_eq_false_iff_ne.mpr (by omega)
    have b1 : (((s.size : Int) % 6) != 0) = true := by rw [bne_iff_ne]; omega
    have e : getE s = ([], 6) := by unfold getE; rw [if_neg h6]
    rw [e]
    clear e
    go_enter Tryz.func10, Tryz.ntmps10
    go_wp2
    go_ret2
    exact ⟨_, rfl, Kd.R_nil _ _ _ _ _, Below.refl _ _⟩
end Go.Proofs.YtcmildkkigccaaaGreatDoor.PAll

/-
  Plain: Put and Get are each other's way back.
-/
namespace Go.Proofs.YtcmildkkigccaaaGreatDoor.PAll
open Go.RowKit Go.Proofs.YtcmildkkigccaaaGreatDoorW.PrintWords Go.Proofs.YtcmildkkigccaaaGreatDoorW.PrintLast Go.Proofs.YtcmildkkigccaaaGreatDoorW.PrintMore
set_option linter.unusedVariables false
set_option linter.unusedSimpArgs false
theorem bt_str (L : List Int) (i : Nat) (b : Int) (h : L[i]? = some b) (hb : 0 ≤ b ∧ b ≤ 255) : bt (strOfNums L) (i : Int) = b := by
  have hi : i < L.length := (List.getElem?_eq_some_iff.1 h).1
  have hv : L[i] = b := (List.getElem?_eq_some_iff.1 h).2
  unfold bt
  rw [dif_pos (by rw [Int.toNat_natCast, str_size]; exact hi)]
  simp only [Int.toNat_natCast]
  show (((strOfNums L).data[i]'_).toNat : Int) = b
  simp only [strOfNums]
  simp only [List.getElem_toArray, List.getElem_map, hv]
  rw [UInt8.toNat_ofNat']
  omega
/-- All of an event's bytes. -/
theorem allB_at : ∀ (l : List S40) (i j : Nat) (x : S40), l[i]? = some x → j < 6 → (allB l)[6 * i + j]? = (evB x)[j]?
  | [], i, j, x, h, _ => by simp at h
  | y :: l, 0, j, x, h, hj => by
    simp at h; subst h
    simp only [allB]
    rw [List.getElem?_append_left (by simp [evB, w4]; omega)]
    congr 1; omega
  | y :: l, i + 1, j, x, h, hj => by
    simp at h
    simp only [allB]
    rw [List.getElem?_append_right (by simp [evB, w4]; omega), show 6 * (i + 1) + j - (evB y).length = 6 * i + j by simp [evB, w4]; omega]
    exact allB_at l i j x h hj
theorem getX_put (l : List S40) (i : Nat) (x : S40) (h : l[i]? = some x) (hx : 0 ≤ x.f0 ∧ x.f0 ≤ 255 ∧ 0 ≤ x.f1 ∧ x.f1 ≤ 255 ∧ 0 ≤ x.f2 ∧ x.f2 < 4294967296) : getX (strOfNums (allB l)) (6 * (i : Int)) = x := by
  obtain ⟨a, b, c⟩ := x
  simp only at hx
  have g : ∀ (j : Nat) (v : Int), j < 6 → (evB ⟨a, b, c⟩)[j]? = some v → 0 ≤ v ∧ v ≤ 255 → bt (strOfNums (allB l)) (6 * (i : Int) + (j : Int)) = v := fun j v hj hv hb => by
    have := bt_str (allB l) (6 * i + j) v (by rw [allB_at l i j _ h hj]; exact hv) hb
    rw [← this]; congr 1
  have g0 := g 0 (a % 256) (by omega) rfl (by omega)
  have g1 := g 1 (b % 256) (by omega) rfl (by omega)
  have g2 := g 2 (c / 16777216 % 256) (by omega) rfl (by omega)
  have g3 := g 3 (c / 65536 % 256) (by omega) rfl (by omega)
  have g4 := g 4 (c / 256 % 256) (by omega) rfl (by omega)
  have g5 := g 5 (c % 256) (by omega) rfl (by omega)
  unfold getX
  rw [show 6 * (i : Int) + (0 : Nat) = 6 * (i : Int) by omega] at g0
  rw [show ((1 : Nat) : Int) = 1 from rfl] at g1
  rw [show ((2 : Nat) : Int) = 2 from rfl] at g2
  rw [show ((3 : Nat) : Int) = 3 from rfl] at g3
  rw [show ((4 : Nat) : Int) = 4 from rfl] at g4
  rw [show ((5 : Nat) : Int) = 5 from rfl] at g5
  rw [g0, g1, g2, g3, g4, g5]
  congr 1 <;> omega
theorem getL_put (l : List S40) (hw : ∀ x ∈ l, 0 ≤ x.f2 ∧ x.f2 < 4294967296) (hok : l.all okE = true) : ∀ n, n ≤ l.length → getL (strOfNums (allB l)) n = l.take n
  | 0, _ => rfl
  | n + 1, hn => by
    have hm : l[n] ∈ l := List.getElem_mem (by omega)
    have h1 := of_decide_eq_true (List.all_eq_true.1 hok _ hm)
    have h2 := hw _ hm
    rw [List.take_add_one, List.getElem?_eq_getElem (show n < l.length by omega)]
    simp only [getL, Option.toList_some]
    rw [getL_put l hw hok n (by omega), getX_put l n l[n] (by simp) ⟨h1.1, h1.2.1, h1.2.2.1, h1.2.2.2, h2.1, h2.2⟩]
/-- What was put is got back. -/
theorem get_put (l : List S40) (hl : l.length ≤ 10000) (hw : ∀ x ∈ l, 0 ≤ x.f2 ∧ x.f2 < 4294967296) (hok : l.all okE = true) : getE (putE l).1 = (l, 0) ∧ (putE l).1.size = 6 * l.length := by
  have hs : (putE l).1 = strOfNums (allB l) := by unfold putE; rw [if_pos hok]
  have hz : (strOfNums (allB l)).size = 6 * l.length := by rw [str_size, allB_len]
  rw [hs]
  refine ⟨?_, hz⟩
  unfold getE
  rw [hz, if_pos (by omega), if_neg (by omega), show 6 * l.length / 6 = l.length by omega, getL_put l hw hok _ (Nat.le_refl _), List.take_length]
theorem evB_getX (s : ByteArray) (i : Int) : evB (getX s i) = [bt s i, bt s (i + 1), bt s (i + 2), bt s (i + 3), bt s (i + 4), bt s (i + 5)] := by
  have b0 := bt_bd s i
  have b1 := bt_bd s (i + 1)
  have b2 := bt_bd s (i + 2)
  have b3 := bt_bd s (i + 3)
  have b4 := bt_bd s (i + 4)
  have b5 := bt_bd s (i + 5)
  simp only [evB, getX, w4, List.cons_append, List.nil_append, List.cons.injEq, and_true]
  refine ⟨?_, ?_, ?_, ?_, ?_, ?_⟩ <;> omega
theorem allB_getL (s : ByteArray) : ∀ n, allB (getL s n) = (List.range (6 * n)).map fun (i : Nat) => bt s (i : Int)
  | 0 => rfl
  | n + 1 => by
    rw [show 6 * (n + 1) = 6 * n + 1 + 1 + 1 + 1 + 1 + 1 by omega]
    simp only [List.range_succ, List.map_append, List.map_cons, List.map_nil, List.append_assoc, List.cons_append, List.nil_append]
    simp only [getL, allB_append, allB, List.append_nil]
    rw [allB_getL s n, evB_getX]
    congr 1
theorem str_bytes (s : ByteArray) : strOfNums ((List.range s.size).map fun (i : Nat) => bt s (i : Int)) = s := by
  apply ByteArray.ext
  simp only [strOfNums]
  apply Array.ext
  · rw [List.size_toArray, List.length_map, List.length_map, List.length_range]; rfl
  · intro i h1 h2
    simp only [List.getElem_toArray, List.getElem_map, List.getElem_range]
    unfold bt
    rw [dif_pos (by rw [Int.toNat_natCast]; exact h2)]
    simp only [Int.toNat_natCast]
    show UInt8.ofNat (s.data[i]).toNat = s.data[i]
    exact UInt8.ofNat_toNat
theorem okE_getX (s : ByteArray) (i : Int) : okE (getX s i) = true := decide_eq_true ⟨(bt_bd s i).1, (bt_bd s i).2, (bt_bd s (i + 1)).1, (bt_bd s (i + 1)).2⟩
theorem getL_all (s : ByteArray) : ∀ n, (getL s n).all okE = true
  | 0 => rfl
  | n + 1 => by simp only [getL, List.all_append, getL_all s n, List.all_cons, List.all_nil, okE_getX]; rfl
/-- What was got is put so. -/
theorem put_get (s : ByteArray) (h : s.size % 6 = 0) (hs : s.size ≤ 60000) : getE s = (getL s (s.size / 6), 0) ∧ putE (getL s (s.size / 6)) = (s, 0) := by
  refine ⟨by unfold getE; rw [if_pos h, if_neg (by omega)], ?_⟩
  unfold putE
  rw [if_pos (getL_all s _), allB_getL, show 6 * (s.size / 6) = s.size by omega, str_bytes]
end Go.Proofs.YtcmildkkigccaaaGreatDoor.PAll

namespace Go.Proofs.YtcmildkkigccaaaGreatDoor.PAll
open Go.RowKit Go.Proofs.YtcmildkkigccaaaGreatDoorW.PrintWords Go.Proofs.YtcmildkkigccaaaGreatDoorW.PrintLast Go.Proofs.YtcmildkkigccaaaGreatDoorW.PrintMore
attribute [local go_sem] max2_int min2_int max_two min_two max_three min_three max_four min_four   -- for this text's walks alone
set_option linter.unusedVariables false
set_option linter.unusedSimpArgs false
attribute [local go_sem high] eqA40
/-! ### prioryref27_SameEvents: function 12 -/
def prioryref27_SameEvents.l0 : Nat → List (S40) → List (S40) → Int → Option (Bool)
  | 0, _, _, _ => none
  | k + 1, x0, x1, x5 => if x5 < (x0.length : Int) then (if 0 ≤ x5 then (if x5 < (x1.length : Int) then (if (!(((rd_T40 x0 x5).f0) == ((rd_T40 x1 x5).f0)) || (!(((rd_T40 x0 x5).f1) == ((rd_T40 x1 x5).f1)) || (!(((rd_T40 x0 x5).f2) == ((rd_T40 x1 x5).f2))))) = true then (some false) else (prioryref27_SameEvents.l0 k x0 x1 (wrap64 (x5 + 1)))) else (none)) else (none)) else (some true)
def prioryref27_SameEvents.f (k : Nat) (l0 : List (S40)) (l1 : List (S40)) : Option (Bool) := if (l0.length : Int) = (l1.length : Int) then (prioryref27_SameEvents.l0 k l0 l1 0) else (some false)
theorem prioryref27_SameEvents.mono_l : ∀ k, (∀ y0 y1 y2, LeO (prioryref27_SameEvents.l0 k y0 y1 y2) (prioryref27_SameEvents.l0 (k + 1) y0 y1 y2))
  | 0 => fun _ _ _ r h => by simp [prioryref27_SameEvents.l0] at h
  | k + 1 => by
    have ih0 := prioryref27_SameEvents.mono_l k
    · intro y0 y1 y2
      unfold prioryref27_SameEvents.l0
      repeat' first
      | (with_reducible exact ih0 _ _ _)
      | (with_reducible exact LeO.refl _)
      | (with_reducible exact LeO.none _)
      | (with_reducible refine LeO.ite ?_ ?_)
      | (with_reducible refine LeO.bind ?_ (fun _ => ?_))
      | exact ih0 _ _ _
      | exact LeO.none _
      | refine LeO.ite ?_ ?_
      | refine LeO.bind ?_ (fun _ => ?_)
theorem prioryref27_SameEvents.mono : ∀ a0 a1 k, LeO (prioryref27_SameEvents.f k a0 a1) (prioryref27_SameEvents.f (k + 1) a0 a1) := by
  intro a0 a1 k
  have ih0 := prioryref27_SameEvents.mono_l k
  unfold prioryref27_SameEvents.f
  repeat' first
      | (with_reducible exact ih0 _ _ _)
      | (with_reducible exact LeO.refl _)
      | (with_reducible exact LeO.none _)
      | (with_reducible refine LeO.ite ?_ ?_)
      | (with_reducible refine LeO.bind ?_ (fun _ => ?_))
      | exact ih0 _ _ _
      | exact LeO.none _
      | refine LeO.ite ?_ ?_
      | refine LeO.bind ?_ (fun _ => ?_)
set_option maxHeartbeats 8000000 in
set_option maxRecDepth 100000 in
theorem prioryref27_SameEvents.calls (k : Nat) (A0 : Option Addr) (c0 : Nat) (l0 : List (S40)) (A1 : Option Addr) (c1 : Nat) (l1 : List (S40)) (r : Bool) (w : World) (hr0 : Kd.C k40 w A0 l0.length l0) (hc0 : l0.length ≤ c0) (hr1 : Kd.C k40 w A1 l1.length l1) (hc1 : l1.length ≤ c1) (h : prioryref27_SameEvents.f k l0 l1 = some r) :
    Calls Tryz.prog 12 #[.slice A0 l0.length c0, .slice A1 l1.length c1] w fun e w' => e = .returned (.bool r) ∧ Drawn0 w w' := by
  have hu40 := Tryz.underlying40
  have HR0 := Aside0.mk hr0
  have HC0 := Aside0.mk hc0
  clear hr0 hc0
  have HR1 := Aside0.mk hr1
  have HC1 := Aside0.mk hc1
  clear hr1 hc1
  have H : (if (l0.length : Int) = (l1.length : Int) then (prioryref27_SameEvents.l0 k l0 l1 0) else (some false)) = some r := h
  clear h
  by_cases c3 : (l0.length : Int) = (l1.length : Int)
  · rw [if_pos c3] at H
    have c3b0 : ((l0.length : Int) == (l1.length : Int)) = true := beq_iff_eq.mpr c3
    have c3b1 : ((l0.length : Int) != (l1.length : Int)) = false := bne_eq_false_iff_eq.mpr c3
    have c3b2 : (l0.length == l1.length) = true := by first | simpa using c3 | (simp at c3 ⊢; omega)
    clear c3
    have H' := Aside0.mk H
    clear H
    go_enter Tryz.func12, Tryz.ntmps12
    go_wp2
    repeat (go_quiet (fail); try go_wp2)
    go_loopg [5] k (fun kq v5 w' => ∃ (x5_1 : Int), v5 = .int .i64 x5_1 ∧ Aside0 (prioryref27_SameEvents.l0 kq l0 l1 x5_1 = some r) ∧ Aside0 (kq ≤ k) ∧ Drawn0 w w')
    case atStart => exact ⟨(0), (by first | rfl | (simp; done) | (simp [*]; done)), H', ⟨Nat.le_refl _⟩, by repeat (first | exact Drawn0.refl _ | apply Drawn0.step)⟩
    case round =>
      clear H'
      try clear c1
      try clear p2
      try clear c3
      try clear c3b0
      try clear c3b1
      try clear c3b2
      obtain ⟨x5_1, rfl, HA, HK1, ⟨m1, rfl⟩⟩ := hrel
      cases gk with
      | zero => exact absurd HA.out (by simp [prioryref27_SameEvents.l0])
      | succ k1 =>
        have H := HA.out
        clear HA
        simp only [prioryref27_SameEvents.l0] at H
        by_cases c4 : x5_1 < (l0.length : Int)
        · rw [if_pos c4] at H
          have c4b0 : decide (x5_1 < (l0.length : Int)) = true := decide_eq_true c4
          clear c4
          by_cases c5 : 0 ≤ x5_1
          · rw [if_pos c5] at H
            have c5b0 : decide (0 ≤ x5_1) = true := decide_eq_true c5
            clear c5
            by_cases c6 : x5_1 < (l1.length : Int)
            · rw [if_pos c6] at H
              have c6b0 : decide (x5_1 < (l1.length : Int)) = true := decide_eq_true c6
              clear c6
              by_cases c7 : (!(((rd_T40 l0 x5_1).f0) == ((rd_T40 l1 x5_1).f0)) || (!(((rd_T40 l0 x5_1).f1) == ((rd_T40 l1 x5_1).f1)) || (!(((rd_T40 l0 x5_1).f2) == ((rd_T40 l1 x5_1).f2))))) = true
              · rw [if_pos c7] at H
                have c7b0 : (!(((rd_T40 l0 x5_1).f0) == ((rd_T40 l1 x5_1).f0)) || (!(((rd_T40 l0 x5_1).f1) == ((rd_T40 l1 x5_1).f1)) || (!(((rd_T40 l0 x5_1).f2) == ((rd_T40 l1 x5_1).f2))))) = true := c7
                clear c7
                obtain rfl := Option.some.inj H
                have p134 : 0 ≤ (x5_1 : Int) := of_decide_eq_true (by first | (with_reducible assumption) | assumption)
                have q134 : x5_1 < (l0.length : Int) := of_decide_eq_true (by first | (with_reducible assumption) | assumption)
                obtain ⟨ad134, e134, hx134_0, hx134_1, hx134_2⟩ := at_T40 HR0.out x5_1 p134 q134
                cases e134
                replace p134 := eq_true p134
                replace q134 := eq_true q134
                have p135 : 0 ≤ (x5_1 : Int) := of_decide_eq_true (by first | (with_reducible assumption) | assumption)
                have q135 : x5_1 < (l1.length : Int) := of_decide_eq_true (by first | (with_reducible assumption) | assumption)
                obtain ⟨ad135, e135, hx135_0, hx135_1, hx135_2⟩ := at_T40 HR1.out x5_1 p135 q135
                cases e135
                replace p135 := eq_true p135
                replace q135 := eq_true q135
                go_wp2
                repeat (go_quiet (fail); try go_wp2)
                go_ret
                exact ⟨by first | rfl | (simp; done) | (simp [*]; done), by repeat (first | exact Drawn0.refl _ | apply Drawn0.step)⟩
              · rw [if_neg c7] at H
                have c7b0 : (!(((rd_T40 l0 x5_1).f0) == ((rd_T40 l1 x5_1).f0)) || (!(((rd_T40 l0 x5_1).f1) == ((rd_T40 l1 x5_1).f1)) || (!(((rd_T40 l0 x5_1).f2) == ((rd_T40 l1 x5_1).f2))))) = false := by simpa using c7
                clear c7
                have H' := Aside0.mk H
                clear H
                have p134 : 0 ≤ (x5_1 : Int) := of_decide_eq_true (by first | (with_reducible assumption) | assumption)
                have q134 : x5_1 < (l0.length : Int) := of_decide_eq_true (by first | (with_reducible assumption) | assumption)
                obtain ⟨ad134, e134, hx134_0, hx134_1, hx134_2⟩ := at_T40 HR0.out x5_1 p134 q134
                cases e134
                replace p134 := eq_true p134
                replace q134 := eq_true q134
                have p135 : 0 ≤ (x5_1 : Int) := of_decide_eq_true (by first | (with_reducible assumption) | assumption)
                have q135 : x5_1 < (l1.length : Int) := of_decide_eq_true (by first | (with_reducible assumption) | assumption)
                obtain ⟨ad135, e135, hx135_0, hx135_1, hx135_2⟩ := at_T40 HR1.out x5_1 p135 q135
                cases e135
                replace p135 := eq_true p135
                replace q135 := eq_true q135
                go_wp2
                repeat (go_quiet (fail); try go_wp2)
                go_roundg k1
                case measure => have := HK1.out; omega
                case rel => exact ⟨(wrap64 (x5_1 + 1)), (by first | rfl | (simp; done) | (simp [*]; done)), H', ⟨by have := HK1.out; omega⟩, by repeat (first | exact Drawn0.refl _ | apply Drawn0.step)⟩
            · rw [if_neg c6] at H
              exact absurd H (by simp)
          · rw [if_neg c5] at H
            exact absurd H (by simp)
        · rw [if_neg c4] at H
          have c4b0 : decide (x5_1 < (l0.length : Int)) = false := decide_eq_false c4
          clear c4
          obtain rfl := Option.some.inj H
          go_wp2
          repeat (go_quiet (fail); try go_wp2)
          go_ret
          exact ⟨by first | rfl | (simp; done) | (simp [*]; done), by repeat (first | exact Drawn0.refl _ | apply Drawn0.step)⟩
  · rw [if_neg c3] at H
    have c3b0 : ((l0.length : Int) == (l1.length : Int)) = false := beq_eq_false_iff_ne.mpr c3
    have c3b1 : ((l0.length : Int) != (l1.length : Int)) = true := bne_iff_ne.mpr c3
    have c3b2 : (l0.length == l1.length) = false := by first | simpa using c3 | (simp at c3 ⊢; omega)
    obtain rfl := Option.some.inj H
    go_enter Tryz.func12, Tryz.ntmps12
    go_wp2
    repeat (go_quiet (fail); try go_wp2)
    go_ret
    exact ⟨by first | rfl | (simp; done) | (simp [*]; done), by repeat (first | exact Drawn0.refl _ | apply Drawn0.step)⟩
end Go.Proofs.YtcmildkkigccaaaGreatDoor.PAll

/-
  Plain: are two rows of events the same?
-/
namespace Go.Proofs.YtcmildkkigccaaaGreatDoor.PAll
open Go.RowKit Go.Proofs.YtcmildkkigccaaaGreatDoorW.PrintWords Go.Proofs.YtcmildkkigccaaaGreatDoorW.PrintLast Go.Proofs.YtcmildkkigccaaaGreatDoorW.PrintMore
set_option linter.unusedVariables false
set_option linter.unusedSimpArgs false
theorem same_l0 (l : List S40) (hl : l.length ≤ 100000) : ∀ (d i k : Nat), i + d = l.length → d < k → prioryref27_SameEvents.l0 k l l (i : Int) = some true
  | 0, i, k + 1, hd, hk => by
    unfold prioryref27_SameEvents.l0
    rw [if_neg (by omega)]
  | d + 1, i, k + 1, hd, hk => by
    conv => lhs; unfold prioryref27_SameEvents.l0
    rw [if_pos (by omega)]
    simp only [show (0 : Int) ≤ (i : Int) from by omega, show (i : Int) < (l.length : Int) from by omega, if_true]
    rw [show wrap64 ((i : Int) + 1) = ((i + 1 : Nat) : Int) by unfold wrap64; omega]
    simpa using same_l0 l hl d (i + 1) k (by omega) (by omega)
theorem same_self (k : Nat) (l : List S40) (hl : l.length ≤ 100000) (hk : l.length < k) : prioryref27_SameEvents.f k l l = some true := by
  unfold prioryref27_SameEvents.f
  rw [if_pos rfl]
  exact same_l0 l hl l.length 0 k (by omega) hk
end Go.Proofs.YtcmildkkigccaaaGreatDoor.PAll

/-
  ScriptBack: what is put is got back, what is got is put so.
-/
namespace Go.Proofs.YtcmildkkigccaaaGreatDoor.PAll
open Go.RowKit Go.Proofs.YtcmildkkigccaaaGreatDoorW.PrintWords Go.Proofs.YtcmildkkigccaaaGreatDoorW.PrintLast Go.Proofs.YtcmildkkigccaaaGreatDoorW.PrintMore
set_option linter.unusedVariables false
set_option linter.unusedSimpArgs false
/-- Events whose words are words. -/
def Wide (l : List S40) : Prop := ∀ x ∈ l, 0 ≤ x.f2 ∧ x.f2 < 4294967296
theorem wide_getL (s : ByteArray) : ∀ n, Wide (getL s n)
  | 0 => fun x h => by simp [getL] at h
  | n + 1 => fun x h => by
    rcases List.mem_append.1 h with h | h
    · exact wide_getL s n x h
    · simp only [List.mem_singleton] at h
      subst h
      have b0 := bt_bd s (6 * (n : Int) + 2)
      have b1 := bt_bd s (6 * (n : Int) + 3)
      have b2 := bt_bd s (6 * (n : Int) + 4)
      have b3 := bt_bd s (6 * (n : Int) + 5)
      show 0 ≤ ((bt s (6 * (n : Int) + 2) * 256 + bt s (6 * (n : Int) + 3)) * 256 + bt s (6 * (n : Int) + 4)) * 256 + bt s (6 * (n : Int) + 5) ∧ _
      unfold getX
      simp only
      omega
theorem wide_getE (s : ByteArray) : Wide (getE s).1 := by
  unfold getE
  split
  · split
    · intro x h; cases h
    · exact wide_getL s _
  · intro x h; cases h
theorem putE_bad {l : List S40} (h : ¬ l.all okE = true) : putE l = (⟨#[]⟩, 2) := by unfold putE; rw [if_neg h]
theorem putE_ok {l : List S40} (h : l.all okE = true) : putE l = (strOfNums (allB l), 0) := by unfold putE; rw [if_pos h]
theorem same_calls (A0 A1 : Option Addr) (c0 c1 : Nat) (l : List S40) (w : World) (hr0 : Kd.C k40 w A0 l.length l) (hc0 : l.length ≤ c0) (hr1 : Kd.C k40 w A1 l.length l) (hc1 : l.length ≤ c1) (hl : l.length ≤ 100000) :
    Calls Tryz.prog 12 #[.slice A0 l.length c0, .slice A1 l.length c1] w fun e w' => e = .returned (.bool true) ∧ Below w.heap.size w w' :=
  (prioryref27_SameEvents.calls (l.length + 1) A0 c0 l A1 c1 l true w hr0 hc0 hr1 hc1 (same_self _ l hl (by omega))).mono fun e w' h => ⟨h.1, h.2.below⟩
theorem put_is {A0 : Option Addr} {c0 : Nat} {l0 : List S40} {w : World} (S : ByteArray) (x : Int) (hp : putE l0 = (S, x)) (hr0 : Kd.C k40 w A0 l0.length l0) (hc0 : l0.length ≤ c0) (hl : l0.length ≤ 10000) (hw : Wide l0) :
    Calls Tryz.prog 8 #[.slice A0 l0.length c0] w fun e w' => e = .returned (.tuple #[.string S, .int .i64 x]) ∧ Below w.heap.size w w' := by
  have := put_calls A0 c0 l0 w hr0 hc0 hl hw
  rw [hp] at this
  exact this
theorem get_is {w : World} (s : ByteArray) (l : List S40) (x : Int) (hp : getE s = (l, x)) (hs : s.size ≤ 1000000) :
    Calls Tryz.prog 10 #[.string s] w fun e w' => ∃ A c, e = .returned (.tuple #[.slice A l.length c, .int .i64 x]) ∧ l.length ≤ c ∧ Kd.C k40 w' A l.length l ∧ Below w.heap.size w w' := by
  refine (get_calls s w hs).mono ?_
  rw [hp]
  rintro e w' ⟨v, rfl, hR, hB⟩
  obtain ⟨A, c, rfl, hc, hC⟩ := Kd.R_reads hR
  exact ⟨A, c, rfl, hc, hC, hB⟩
set_option maxHeartbeats 2000000 in
set_option maxRecDepth 100000 in
theorem back_calls (A0 : Option Addr) (c0 : Nat) (l0 : List S40) (s : ByteArray) (w : World) (ht : Tab w) (hr0 : Kd.C k40 w A0 l0.length l0) (hc0 : l0.length ≤ c0) (hw : Wide l0) :
    Calls Tryz.prog 4 #[.slice A0 l0.length c0, .string s] w fun e w' => e = .returned (.bool true) ∧ Below w.heap.size w w' := by
  have HT := Aside0.mk ht
  have HR0 := Aside0.mk hr0
  have HW := Aside0.mk hw
  clear ht hr0 hw
  by_cases h1 : 300 < l0.length
  · have b1 : decide (300 < (l0.length : Int)) = true := decide_eq_true (by omega)
    have b2 : decide (300 < l0.length) = true := decide_eq_true h1
    go_enter Tryz.func4, Tryz.ntmps4
    go_wp2_with fail
    refine (awake_at HT.out (Below.refl _ _)).mono ?_
    rintro e w1 ⟨rfl, hb⟩
    go_wp2
    go_ret
    exact ⟨rfl, hb⟩
  have b1 : decide (300 < (l0.length : Int)) = false := decide_eq_false (by omega)
  have b2 : decide (300 < l0.length) = false := decide_eq_false h1
  by_cases h2 : 2000 < s.size
  · have b3 : decide (2000 < (s.size : Int)) = true := decide_eq_true (by omega)
    have b4 : decide (2000 < s.size) = true := decide_eq_true h2
    go_enter Tryz.func4, Tryz.ntmps4
    go_wp2_with fail
    refine (awake_at HT.out (Below.refl _ _)).mono ?_
    rintro e w1 ⟨rfl, hb⟩
    go_wp2
    go_ret
    exact ⟨rfl, hb⟩
  have b3 : decide (2000 < (s.size : Int)) = false := decide_eq_false (by omega)
  have b4 : decide (2000 < s.size) = false := decide_eq_false h2
  obtain ⟨S, x, hp⟩ : ∃ S x, putE l0 = (S, x) := ⟨_, _, rfl⟩
  obtain ⟨l, y, hg⟩ : ∃ l y, getE S = (l, y) := ⟨_, _, rfl⟩
  obtain ⟨m, z, hm⟩ : ∃ m z, getE s = (m, z) := ⟨_, _, rfl⟩
  obtain ⟨U, v, hu⟩ : ∃ U v, putE m = (U, v) := ⟨_, _, rfl⟩
  have hS : S.size ≤ 1000000 := by
    by_cases hok : l0.all okE = true
    · have := (get_put l0 (by omega) HW.out hok).2
      rw [hp] at this
      simp only at this
      omega
    · rw [putE_bad hok] at hp
      injection hp with h _
      rw [← h]
      exact Nat.zero_le _
  have HSZ := Aside0.mk hS
  clear hS
  have first : (x = 0 ∧ y = 0 ∧ l = l0 ∧ S.size = 6 * l0.length) ∨ x = 2 := by
    by_cases hok : l0.all okE = true
    · have h := get_put l0 (by omega) HW.out hok
      rw [hp] at h
      simp only at h
      rw [hg, Prod.mk.injEq] at h
      rw [putE_ok hok, Prod.mk.injEq] at hp
      exact .inl ⟨hp.2.symm, h.1.2, h.1.1, h.2⟩
    · rw [putE_bad hok, Prod.mk.injEq] at hp
      exact .inr hp.2.symm
  have second : (s.size % 6 = 0 ∧ z = 0 ∧ v = 0 ∧ U = s) ∨ (s.size % 6 ≠ 0 ∧ z = 6) := by
    by_cases h6 : s.size % 6 = 0
    · have h := put_get s h6 (by omega)
      rw [h.1, Prod.mk.injEq] at hm
      rw [← hm.1, h.2, Prod.mk.injEq] at hu
      exact .inl ⟨h6, hm.2.symm, hu.2.symm, hu.1.symm⟩
    · unfold getE at hm
      rw [if_neg h6, Prod.mk.injEq] at hm
      exact .inr ⟨h6, hm.2.symm⟩
  have hml : m.length ≤ 10000 := by
    unfold getE at hm
    split at hm
    · split at hm
      · rw [Prod.mk.injEq] at hm; rw [← hm.1]; exact Nat.zero_le _
      · rw [Prod.mk.injEq] at hm; rw [← hm.1, getL_len]; omega
    · rw [Prod.mk.injEq] at hm; rw [← hm.1]; exact Nat.zero_le _
  have hmw : Wide m := by have := wide_getE s; rw [hm] at this; exact this
  have HP := Aside0.mk hp
  have HG := Aside0.mk hg
  have HM := Aside0.mk hm
  have HU := Aside0.mk hu
  have HMW := Aside0.mk hmw
  clear hp hg hm hu hmw
  rcases first with ⟨rfl, rfl, rfl, h6s⟩ | rfl
  · go_enter Tryz.func4, Tryz.ntmps4
    go_wp2_with fail
    refine (put_is S _ HP.out HR0.out hc0 (by omega) HW.out).mono ?_
    rintro e w1 ⟨rfl, hb1⟩
    have HB1 := Aside0.mk hb1
    clear hb1
    go_wp2_with fail
    refine (get_is S _ _ HG.out HSZ.out).mono ?_
    rintro e w2 ⟨A1, c1, rfl, hc1, hC1, hb2⟩
    have HB2 := Aside0.mk (HB1.out.trans (hb2.mono HB1.out.size))
    have HC1 := Aside0.mk hC1
    clear hb2 hC1
    go_wp2_with fail
    refine (same_calls A0 A1 c0 c1 l _ (Kd.C_below HR0.out HB2.out) hc0 HC1.out hc1 (by omega)).mono ?_
    rintro e w3 ⟨rfl, hb3⟩
    have HB3 := Aside0.mk (HB2.out.trans (hb3.mono HB2.out.size))
    clear hb3
    have q1 : ((S.size : Int) != 6 * (l.length : Int)) = false := bne_eq_false_iff_eq.mpr (by omega)
    go_wp2_with fail
    refine (get_is s _ _ HM.out (by omega)).mono ?_
    rintro e w4 ⟨A2, c2, rfl, hc2, hC2, hb4⟩
    have HB4 := Aside0.mk (HB3.out.trans (hb4.mono HB3.out.size))
    have HC2 := Aside0.mk hC2
    clear hb4 hC2
    go_wp2_with fail
    refine (put_is U _ HU.out HC2.out hc2 (by omega) HMW.out).mono ?_
    rintro e w5 ⟨rfl, hb5⟩
    have HB5 := Aside0.mk (HB4.out.trans (hb5.mono HB4.out.size))
    clear hb5
    rcases second with ⟨h6, rfl, rfl, rfl⟩ | ⟨h6, rfl⟩
    · have q2 : (((U.size : Int) % 6) == 0) = true := beq_iff_eq.mpr (by omega)
      go_wp2_with fail
      refine (awake_at HT.out HB5.out).mono ?_
      rintro e w6 ⟨rfl, hb6⟩
      go_wp2
      go_ret
      exact ⟨rfl, hb6⟩
    · have q2 : (((s.size : Int) % 6) == 0) = false := beq_eq_false_iff_ne.mpr (by omega)
      go_wp2_with fail
      refine (awake_at HT.out HB5.out).mono ?_
      rintro e w6 ⟨rfl, hb6⟩
      go_wp2
      go_ret
      exact ⟨rfl, hb6⟩
  · go_enter Tryz.func4, Tryz.ntmps4
    go_wp2_with fail
    refine (put_is S _ HP.out HR0.out hc0 (by omega) HW.out).mono ?_
    rintro e w1 ⟨rfl, hb1⟩
    have HB1 := Aside0.mk hb1
    clear hb1
    go_wp2_with fail
    refine (get_is S _ _ HG.out HSZ.out).mono ?_
    rintro e w2 ⟨A1, c1, rfl, hc1, hC1, hb2⟩
    have HB2 := Aside0.mk (HB1.out.trans (hb2.mono HB1.out.size))
    have HC1 := Aside0.mk hC1
    clear hb2 hC1
    have HB3 := HB2
    go_wp2_with fail
    refine (get_is s _ _ HM.out (by omega)).mono ?_
    rintro e w4 ⟨A2, c2, rfl, hc2, hC2, hb4⟩
    have HB4 := Aside0.mk (HB3.out.trans (hb4.mono HB3.out.size))
    have HC2 := Aside0.mk hC2
    clear hb4 hC2
    go_wp2_with fail
    refine (put_is U _ HU.out HC2.out hc2 (by omega) HMW.out).mono ?_
    rintro e w5 ⟨rfl, hb5⟩
    have HB5 := Aside0.mk (HB4.out.trans (hb5.mono HB4.out.size))
    clear hb5
    rcases second with ⟨h6, rfl, rfl, rfl⟩ | ⟨h6, rfl⟩
    · have q2 : (((U.size : Int) % 6) == 0) = true := beq_iff_eq.mpr (by omega)
      go_wp2_with fail
      refine (awake_at HT.out HB5.out).mono ?_
      rintro e w6 ⟨rfl, hb6⟩
      go_wp2
      go_ret
      exact ⟨rfl, hb6⟩
    · have q2 : (((s.size : Int) % 6) == 0) = false := beq_eq_false_iff_ne.mpr (by omega)
      go_wp2_with fail
      refine (awake_at HT.out HB5.out).mono ?_
      rintro e w6 ⟨rfl, hb6⟩
      go_wp2
      go_ret
      exact ⟨rfl, hb6⟩
end Go.Proofs.YtcmildkkigccaaaGreatDoor.PAll
