/-
  Walks and plain laws, joined of 6 texts.
-/
import Derived.Test.YtcblfhoipdbdlaaG1
import Derived.Test.YtcblfhoipdbdlaaG6
import Derived.Test.YtcblfhoipdbdlaaG4
import Derived.Test.YtcblfhoipdbdlaaG2
import Derived.Test.YtcblfhoipdbdlaaG3
namespace Go.Proofs.Ytcblfhoipdbdlaa.PAll
open Go.RowKit Go.Proofs.YtcblfhoipdbdlaaW.PrintWords Go.Proofs.YtcblfhoipdbdlaaW.PrintLast Go.Proofs.YtcblfhoipdbdlaaW.PrintMore
attribute [local go_sem] max2_int min2_int max_two min_two max_three min_three max_four min_four   -- for this text's walks alone
set_option linter.unusedVariables false
set_option linter.unusedSimpArgs false
attribute [local go_sem high] eqA24
/-! ### prioryref14_outside: function 37 -/
def prioryref14_outside.f (a0_0 : Int) (a0_1 : Int) (a0_2 : Bool) (a1 : Int) (a2 : Int) : Option ((List (S24))) := if a0_0 < a1 then (if ([] : List (S24)).length < 5864062014805 then ((some (([] : List (S24)) ++ [(⟨a0_0, wrap64 ((mn (wrap64 (a0_0 + a0_1)) a1) - a0_0), a0_2⟩ : S24)] : List (S24))).bind fun y192 => (if (wrap64 (a0_0 + a0_1)) > (wrap64 (a1 + a2)) then (if y192.length < 5864062014805 then (some (y192 ++ [(⟨mx a0_0 (wrap64 (a1 + a2)), wrap64 ((wrap64 (a0_0 + a0_1)) - (mx a0_0 (wrap64 (a1 + a2)))), a0_2⟩ : S24)])) else (none)) else (some y192))) else (none)) else (if (wrap64 (a0_0 + a0_1)) > (wrap64 (a1 + a2)) then (if ([] : List (S24)).length < 5864062014805 then (some (([] : List (S24)) ++ [(⟨mx a0_0 (wrap64 (a1 + a2)), wrap64 ((wrap64 (a0_0 + a0_1)) - (mx a0_0 (wrap64 (a1 + a2)))), a0_2⟩ : S24)])) else (none)) else (some ([] : List (S24))))
set_option maxHeartbeats 8000000 in
set_option maxRecDepth 100000 in
theorem prioryref14_outside.calls (a0_0 : Int) (a0_1 : Int) (a0_2 : Bool) (a1 : Int) (a2 : Int) (r : List (S24)) (w : World) (h : prioryref14_outside.f a0_0 a0_1 a0_2 a1 a2 = some r) :
    Calls Try.prog 37 #[.agg #[.int .i64 a0_0, .int .i64 a0_1, .bool a0_2], .int .i64 a1, .int .i64 a2] w fun e w' => ∃ v0_ : Value, e = .returned (v0_) ∧ Kd.R k24 24 w' w.heap.size (fun _ => True) v0_ r ∧ Below w.heap.size w w' := by
  have hu24 := Try.underlying24
  have HB := Aside0.mk (Below.refl w.heap.size w)
  have H : (if a0_0 < a1 then (if ([] : List (S24)).length < 5864062014805 then ((some (([] : List (S24)) ++ [(⟨a0_0, wrap64 ((mn (wrap64 (a0_0 + a0_1)) a1) - a0_0), a0_2⟩ : S24)] : List (S24))).bind fun y192 => (if (wrap64 (a0_0 + a0_1)) > (wrap64 (a1 + a2)) then (if y192.length < 5864062014805 then (some (y192 ++ [(⟨mx a0_0 (wrap64 (a1 + a2)), wrap64 ((wrap64 (a0_0 + a0_1)) - (mx a0_0 (wrap64 (a1 + a2)))), a0_2⟩ : S24)])) else (none)) else (some y192))) else (none)) else (if (wrap64 (a0_0 + a0_1)) > (wrap64 (a1 + a2)) then (if ([] : List (S24)).length < 5864062014805 then (some (([] : List (S24)) ++ [(⟨mx a0_0 (wrap64 (a1 + a2)), wrap64 ((wrap64 (a0_0 + a0_1)) - (mx a0_0 (wrap64 (a1 + a2)))), a0_2⟩ : S24)])) else (none)) else (some ([] : List (S24))))) = some r := h
  clear h
  by_cases c4 : a0_0 < a1
  · rw [if_pos c4] at H
    have c4b0 : decide (a0_0 < a1) = true := decide_eq_true c4
    clear c4
    obtain ⟨ji5, hji5⟩ : ∃ j_ : Int, (mn (wrap64 (a0_0 + a0_1)) a1) = j_ := ⟨_, rfl⟩
    replace H : (if ([] : List (S24)).length < 5864062014805 then ((some (([] : List (S24)) ++ [(⟨a0_0, wrap64 ((ji5) - a0_0), a0_2⟩ : S24)] : List (S24))).bind fun y192 => (if (wrap64 (a0_0 + a0_1)) > (wrap64 (a1 + a2)) then (if y192.length < 5864062014805 then (some (y192 ++ [(⟨mx a0_0 (wrap64 (a1 + a2)), wrap64 ((wrap64 (a0_0 + a0_1)) - (mx a0_0 (wrap64 (a1 + a2)))), a0_2⟩ : S24)])) else (none)) else (some y192))) else (none)) = some r := by first | (rw [hji5] at H; exact H) | (simp only [hji5] at H ⊢; exact H)
    have hji5_ : (if a1 < (wrap64 (a0_0 + a0_1)) then a1 else (wrap64 (a0_0 + a0_1))) = ji5 := hji5
    by_cases c6 : ([] : List (S24)).length < 5864062014805
    · rw [if_pos c6] at H
      have LMc6 := Aside0.mk c6
      clear c6
      obtain ⟨y192, hy192⟩ : ∃ y_ : List (S24), y_ = (([] : List (S24)) ++ [(⟨a0_0, wrap64 ((ji5) - a0_0), a0_2⟩ : S24)]) := ⟨_, rfl⟩
      replace H : (if (wrap64 (a0_0 + a0_1)) > (wrap64 (a1 + a2)) then (if y192.length < 5864062014805 then (some (y192 ++ [(⟨mx a0_0 (wrap64 (a1 + a2)), wrap64 ((wrap64 (a0_0 + a0_1)) - (mx a0_0 (wrap64 (a1 + a2)))), a0_2⟩ : S24)])) else (none)) else (some y192)) = some r := by first | (rw [hy192]; with_reducible exact H) | (have H2_ := (Option.bind_some _ _).symm.trans H; rw [hy192]; with_reducible exact H2_) | (have H2_ := (Option.bind_some _ _).symm.trans H; with_reducible exact H2_) | with_reducible exact H | (rw [hy192]; exact H) | exact H
      have Ny192 := Aside0.mk hy192
      clear hy192
      by_cases c7 : (wrap64 (a0_0 + a0_1)) > (wrap64 (a1 + a2))
      · rw [if_pos c7] at H
        have c7b0 : decide ((wrap64 (a1 + a2)) < (wrap64 (a0_0 + a0_1))) = true := decide_eq_true c7
        clear c7
        obtain ⟨ji8, hji8⟩ : ∃ j_ : Int, (mx a0_0 (wrap64 (a1 + a2))) = j_ := ⟨_, rfl⟩
        replace H : (if y192.length < 5864062014805 then (some (y192 ++ [(⟨ji8, wrap64 ((wrap64 (a0_0 + a0_1)) - (ji8)), a0_2⟩ : S24)])) else (none)) = some r := by first | (rw [hji8] at H; exact H) | (simp only [hji8] at H ⊢; exact H)
        have hji8_ : (if a0_0 < (wrap64 (a1 + a2)) then (wrap64 (a1 + a2)) else a0_0) = ji8 := hji8
        by_cases c9 : y192.length < 5864062014805
        · rw [if_pos c9] at H
          have LMc9 := Aside0.mk c9
          clear c9
          obtain ⟨y195, hy195⟩ : ∃ y_ : List (S24), y_ = (y192 ++ [(⟨ji8, wrap64 ((wrap64 (a0_0 + a0_1)) - (ji8)), a0_2⟩ : S24)]) := ⟨_, rfl⟩
          replace H : (some y195) = some r := by first | (rw [hy195]; with_reducible exact H) | (have H2_ := (Option.bind_some _ _).symm.trans H; rw [hy195]; with_reducible exact H2_) | (have H2_ := (Option.bind_some _ _).symm.trans H; with_reducible exact H2_) | with_reducible exact H | (rw [hy195]; exact H) | exact H
          have Ny195 := Aside0.mk hy195
          clear hy195
          obtain rfl := Option.some.inj H
          go_enter Try.func37, Try.ntmps37
          go_wp2_with (first | ((with_reducible refine gate_dst (N := 3) rfl ?_); refine box_event ?hg (N := 3) ?hd (cs := #[.int .i64 a0_0, .int .i64 a0_1, .bool a0_2]) (t := 24) ?hr ?_; (case hd => rfl); (case hg => rfl); (case hr => first | (go_simp; done) | (go_simp; rfl)); intro gb191 hg w10 hbox hb; have n0_ := Aside0.mk (below_step (by repeat (first | (with_reducible first | exact HB.out | apply below_alloc | apply pw_below_drewN | apply below_drew1) | exact HB.out)) hb); have n1_ := Aside0.mk (hbox); have n2_ := Aside0.mk ((by rw [hg]; exact (below_size (by repeat (first | (with_reducible first | exact HB.out | apply below_alloc | apply pw_below_drewN | apply below_drew1) | exact HB.out))) : w.heap.size ≤ gb191)); have n3_ := Aside0.mk ((by rw [hg]; exact (below_size (by repeat (first | (with_reducible first | exact HB.out | apply below_alloc | apply pw_below_drewN | apply below_drew1) | exact HB.out))) : w.heap.size ≤ gb191)); clear HB; have HB := n0_; have BK191 := n1_; have GW191 := n2_; have GE191 := n3_; clear n0_ n1_ n2_ n3_; clear hb hbox hg; have hcz11_0 : w10.cell? ⟨gb191, 0, none⟩ = some (.int .i64 a0_0) := (blk_cell BK191.out 0).trans rfl; have hcz11_1 : w10.cell? ⟨gb191, 1, none⟩ = some (.int .i64 a0_1) := (blk_cell BK191.out 1).trans rfl; have hcz11_2 : w10.cell? ⟨gb191, 2, none⟩ = some (.bool a0_2) := (blk_cell BK191.out 2).trans rfl; have hfz11_0 := blk_frozen BK191.out 0; have hfz11_1 := blk_frozen BK191.out 1; have hfz11_2 := blk_frozen BK191.out 2) | ((with_reducible refine gate_builtin (b := .append) (xs := #[.tmp 13, .tmp 29]) rfl ?_); at_builtin; refine Kd.R_append k24 (w0 := w) w.heap.size rfl (.tmp 13) (.tmp 29) 22 24 (.agg #[(.int .i64 0), (.int .i64 0), (.bool false)]) 24 rfl Try.underlying22 info24 rfl (by decide) (by omega) (.slice none 0 0) ([] : List (S24)) (⟨a0_0, wrap64 ((ji5) - a0_0), a0_2⟩ : S24) [.int .i64 a0_0, .int .i64 (wrap64 ((ji5) - a0_0)), .bool a0_2] (fun k_ => k_ ≠ gb191) (fun _ => False) rfl rfl ?aP (fun _ hk => hk.elim) ?aF ?aO ?aB ?aS ?aL ?_; (case aP => exact k24_mkM _ _ _ (⟨a0_0, wrap64 ((ji5) - a0_0), a0_2⟩ : S24)); (case aB => exact (by repeat (first | (with_reducible first | exact HB.out | apply below_alloc | apply pw_below_drewN | apply below_drew1 | refine below_set ?_ GE191.out) | exact HB.out))); (case aF => exact (fun k_ hk => Kd.freshB (g := gb191) (o := .cells #[.int .i64 a0_0, .int .i64 a0_1, .bool a0_2] 24 (0, 0)) (by (with_reducible repeat (first | refine blk_drewN ?_ _ | refine blk_drew ?_ | refine blk_alloc ?_ _)); exact BK191.out) k_ hk)); (case aO => exact ((Kd.R_nil _ _ _ _ (fun k_ => k_ ≠ gb191)))); (case aS => exact (below_size (by repeat (first | (with_reducible first | exact HB.out | apply below_alloc | apply pw_below_drewN | apply below_drew1 | refine below_set ?_ GE191.out) | exact HB.out)))); (case aL => have := LMc6.out; omega); intro v193 w12 ho hb hg hat; rw [← Ny192.out] at ho; have n0_ := Aside0.mk (blk_grown (g := gb191) (o := .cells #[.int .i64 a0_0, .int .i64 a0_1, .bool a0_2] 24 (0, 0)) (by (with_reducible repeat (first | refine blk_drewN ?_ _ | refine blk_drew ?_ | refine blk_alloc ?_ _)); exact BK191.out) hg (by simp [Value.ownBlock])); have n1_ := Aside0.mk (hb); have n2_ := Aside0.mk (ho); clear BK191; clear HB; have BK191 := n0_; have HB := n1_; have HO194 := n2_; clear n0_ n1_ n2_; clear ho hb hg hat; have hcz13_0 : w12.cell? ⟨gb191, 0, none⟩ = some (.int .i64 a0_0) := (blk_cell BK191.out 0).trans rfl; have hcz13_1 : w12.cell? ⟨gb191, 1, none⟩ = some (.int .i64 a0_1) := (blk_cell BK191.out 1).trans rfl; have hcz13_2 : w12.cell? ⟨gb191, 2, none⟩ = some (.bool a0_2) := (blk_cell BK191.out 2).trans rfl; have hfz13_0 := blk_frozen BK191.out 0; have hfz13_1 := blk_frozen BK191.out 1; have hfz13_2 := blk_frozen BK191.out 2) | ((with_reducible refine gate_builtin (b := .append) (xs := #[.tmp 46, .tmp 58]) rfl ?_); at_builtin; refine Kd.R_append k24 (w0 := w) w.heap.size rfl (.tmp 46) (.tmp 58) 22 24 (.agg #[(.int .i64 0), (.int .i64 0), (.bool false)]) 24 rfl Try.underlying22 info24 rfl (by decide) (by omega) v193 y192 (⟨ji8, wrap64 ((wrap64 (a0_0 + a0_1)) - (ji8)), a0_2⟩ : S24) [.int .i64 ji8, .int .i64 (wrap64 ((wrap64 (a0_0 + a0_1)) - (ji8))), .bool a0_2] (fun k_ => k_ ≠ gb191) (fun _ => False) rfl rfl ?aP (fun _ hk => hk.elim) ?aF ?aO ?aB ?aS ?aL ?_; (case aP => exact k24_mkM _ _ _ (⟨ji8, wrap64 ((wrap64 (a0_0 + a0_1)) - (ji8)), a0_2⟩ : S24)); (case aB => exact (by repeat (first | (with_reducible first | exact HB.out | apply below_alloc | apply pw_below_drewN | apply below_drew1 | refine below_set ?_ GE191.out) | exact HB.out))); (case aF => exact (fun k_ hk => Kd.freshB (g := gb191) (o := .cells #[.int .i64 a0_0, .int .i64 a0_1, .bool a0_2] 24 (0, 0)) (by (with_reducible repeat (first | refine blk_drewN ?_ _ | refine blk_drew ?_ | refine blk_alloc ?_ _)); exact BK191.out) k_ hk)); (case aO => exact (by (with_reducible repeat (first | apply Kd.R_alloc | apply Kd.R_drewN | apply Kd.R_drew)); exact HO194.out)); (case aS => exact (below_size (by repeat (first | (with_reducible first | exact HB.out | apply below_alloc | apply pw_below_drewN | apply below_drew1 | refine below_set ?_ GE191.out) | exact HB.out)))); (case aL => have := LMc9.out; omega); intro v196 w14 ho hb hg hat; rw [← Ny195.out] at ho; have n0_ := Aside0.mk (blk_grown (g := gb191) (o := .cells #[.int .i64 a0_0, .int .i64 a0_1, .bool a0_2] 24 (0, 0)) (by (with_reducible repeat (first | refine blk_drewN ?_ _ | refine blk_drew ?_ | refine blk_alloc ?_ _)); exact BK191.out) hg (Kd.R_away HO194.out (fun _ hk => hk))); have n1_ := Aside0.mk (hb); have n2_ := Aside0.mk (ho); clear BK191; clear HB; clear HO194; have BK191 := n0_; have HB := n1_; have HO197 := n2_; clear n0_ n1_ n2_; clear ho hb hg hat))
          go_ret
          exact ⟨_, by first | rfl | (simp [errW_none, errW_some] <;> rfl) | (simp only [← hji5, ← hji8]; first | rfl | (simp [errW_none, errW_some] <;> rfl)) | (simp [*, errW_none, errW_some] <;> rfl), by (with_reducible repeat (first | apply Kd.R_alloc | apply Kd.R_drewN | apply Kd.R_drew)); exact Kd.R_mono HO197.out (fun _ hk => trivial), by repeat (first | (with_reducible first | exact HB.out | apply below_alloc | apply pw_below_drewN | apply below_drew1 | refine below_set ?_ GE191.out) | exact HB.out)⟩
        · rw [if_neg c9] at H
          exact absurd H (by simp)
      · rw [if_neg c7] at H
        have c7b0 : decide ((wrap64 (a1 + a2)) < (wrap64 (a0_0 + a0_1))) = false := decide_eq_false c7
        clear c7
        obtain rfl := Option.some.inj H
        go_enter Try.func37, Try.ntmps37
        go_wp2_with (first | ((with_reducible refine gate_dst (N := 3) rfl ?_); refine box_event ?hg (N := 3) ?hd (cs := #[.int .i64 a0_0, .int .i64 a0_1, .bool a0_2]) (t := 24) ?hr ?_; (case hd => rfl); (case hg => rfl); (case hr => first | (go_simp; done) | (go_simp; rfl)); intro gb191 hg w15 hbox hb; have n0_ := Aside0.mk (below_step (by repeat (first | (with_reducible first | exact HB.out | apply below_alloc | apply pw_below_drewN | apply below_drew1) | exact HB.out)) hb); have n1_ := Aside0.mk (hbox); have n2_ := Aside0.mk ((by rw [hg]; exact (below_size (by repeat (first | (with_reducible first | exact HB.out | apply below_alloc | apply pw_below_drewN | apply below_drew1) | exact HB.out))) : w.heap.size ≤ gb191)); have n3_ := Aside0.mk ((by rw [hg]; exact (below_size (by repeat (first | (with_reducible first | exact HB.out | apply below_alloc | apply pw_below_drewN | apply below_drew1) | exact HB.out))) : w.heap.size ≤ gb191)); clear HB; have HB := n0_; have BK191 := n1_; have GW191 := n2_; have GE191 := n3_; clear n0_ n1_ n2_ n3_; clear hb hbox hg; have hcz16_0 : w15.cell? ⟨gb191, 0, none⟩ = some (.int .i64 a0_0) := (blk_cell BK191.out 0).trans rfl; have hcz16_1 : w15.cell? ⟨gb191, 1, none⟩ = some (.int .i64 a0_1) := (blk_cell BK191.out 1).trans rfl; have hcz16_2 : w15.cell? ⟨gb191, 2, none⟩ = some (.bool a0_2) := (blk_cell BK191.out 2).trans rfl; have hfz16_0 := blk_frozen BK191.out 0; have hfz16_1 := blk_frozen BK191.out 1; have hfz16_2 := blk_frozen BK191.out 2) | ((with_reducible refine gate_builtin (b := .append) (xs := #[.tmp 13, .tmp 29]) rfl ?_); at_builtin; refine Kd.R_append k24 (w0 := w) w.heap.size rfl (.tmp 13) (.tmp 29) 22 24 (.agg #[(.int .i64 0), (.int .i64 0), (.bool false)]) 24 rfl Try.underlying22 info24 rfl (by decide) (by omega) (.slice none 0 0) ([] : List (S24)) (⟨a0_0, wrap64 ((ji5) - a0_0), a0_2⟩ : S24) [.int .i64 a0_0, .int .i64 (wrap64 ((ji5) - a0_0)), .bool a0_2] (fun k_ => k_ ≠ gb191) (fun _ => False) rfl rfl ?aP (fun _ hk => hk.elim) ?aF ?aO ?aB ?aS ?aL ?_; (case aP => exact k24_mkM _ _ _ (⟨a0_0, wrap64 ((ji5) - a0_0), a0_2⟩ : S24)); (case aB => exact (by repeat (first | (with_reducible first | exact HB.out | apply below_alloc | apply pw_below_drewN | apply below_drew1 | refine below_set ?_ GE191.out) | exact HB.out))); (case aF => exact (fun k_ hk => Kd.freshB (g := gb191) (o := .cells #[.int .i64 a0_0, .int .i64 a0_1, .bool a0_2] 24 (0, 0)) (by (with_reducible repeat (first | refine blk_drewN ?_ _ | refine blk_drew ?_ | refine blk_alloc ?_ _)); exact BK191.out) k_ hk)); (case aO => exact ((Kd.R_nil _ _ _ _ (fun k_ => k_ ≠ gb191)))); (case aS => exact (below_size (by repeat (first | (with_reducible first | exact HB.out | apply below_alloc | apply pw_below_drewN | apply below_drew1 | refine below_set ?_ GE191.out) | exact HB.out)))); (case aL => have := LMc6.out; omega); intro v193 w17 ho hb hg hat; rw [← Ny192.out] at ho; have n0_ := Aside0.mk (blk_grown (g := gb191) (o := .cells #[.int .i64 a0_0, .int .i64 a0_1, .bool a0_2] 24 (0, 0)) (by (with_reducible repeat (first | refine blk_drewN ?_ _ | refine blk_drew ?_ | refine blk_alloc ?_ _)); exact BK191.out) hg (by simp [Value.ownBlock])); have n1_ := Aside0.mk (hb); have n2_ := Aside0.mk (ho); clear BK191; clear HB; have BK191 := n0_; have HB := n1_; have HO194 := n2_; clear n0_ n1_ n2_; clear ho hb hg hat; have hcz18_0 : w17.cell? ⟨gb191, 0, none⟩ = some (.int .i64 a0_0) := (blk_cell BK191.out 0).trans rfl; have hcz18_1 : w17.cell? ⟨gb191, 1, none⟩ = some (.int .i64 a0_1) := (blk_cell BK191.out 1).trans rfl; have hcz18_2 : w17.cell? ⟨gb191, 2, none⟩ = some (.bool a0_2) := (blk_cell BK191.out 2).trans rfl; have hfz18_0 := blk_frozen BK191.out 0; have hfz18_1 := blk_frozen BK191.out 1; have hfz18_2 := blk_frozen BK191.out 2))
        go_ret
        exact ⟨_, by first | rfl | (simp [errW_none, errW_some] <;> rfl) | (simp only [← hji5]; first | rfl | (simp [errW_none, errW_some] <;> rfl)) | (simp [*, errW_none, errW_some] <;> rfl), by (with_reducible repeat (first | apply Kd.R_alloc | apply Kd.R_drewN | apply Kd.R_drew)); exact Kd.R_mono HO194.out (fun _ hk => trivial), by repeat (first | (with_reducible first | exact HB.out | apply below_alloc | apply pw_below_drewN | apply below_drew1 | refine below_set ?_ GE191.out) | exact HB.out)⟩
    · rw [if_neg c6] at H
      exact absurd H (by simp)
  · rw [if_neg c4] at H
    have c4b0 : decide (a0_0 < a1) = false := decide_eq_false c4
    clear c4
    by_cases c19 : (wrap64 (a0_0 + a0_1)) > (wrap64 (a1 + a2))
    · rw [if_pos c19] at H
      have c19b0 : decide ((wrap64 (a1 + a2)) < (wrap64 (a0_0 + a0_1))) = true := decide_eq_true c19
      clear c19
      obtain ⟨ji20, hji20⟩ : ∃ j_ : Int, (mx a0_0 (wrap64 (a1 + a2))) = j_ := ⟨_, rfl⟩
      replace H : (if ([] : List (S24)).length < 5864062014805 then (some (([] : List (S24)) ++ [(⟨ji20, wrap64 ((wrap64 (a0_0 + a0_1)) - (ji20)), a0_2⟩ : S24)])) else (none)) = some r := by first | (rw [hji20] at H; exact H) | (simp only [hji20] at H ⊢; exact H)
      have hji20_ : (if a0_0 < (wrap64 (a1 + a2)) then (wrap64 (a1 + a2)) else a0_0) = ji20 := hji20
      by_cases c21 : ([] : List (S24)).length < 5864062014805
      · rw [if_pos c21] at H
        have LMc21 := Aside0.mk c21
        clear c21
        obtain ⟨y198, hy198⟩ : ∃ y_ : List (S24), y_ = (([] : List (S24)) ++ [(⟨ji20, wrap64 ((wrap64 (a0_0 + a0_1)) - (ji20)), a0_2⟩ : S24)]) := ⟨_, rfl⟩
        replace H : (some y198) = some r := by first | (rw [hy198]; with_reducible exact H) | (have H2_ := (Option.bind_some _ _).symm.trans H; rw [hy198]; with_reducible exact H2_) | (have H2_ := (Option.bind_some _ _).symm.trans H; with_reducible exact H2_) | with_reducible exact H | (rw [hy198]; exact H) | exact H
        have Ny198 := Aside0.mk hy198
        clear hy198
        obtain rfl := Option.some.inj H
        go_enter Try.func37, Try.ntmps37
        go_wp2_with (first | ((with_reducible refine gate_dst (N := 3) rfl ?_); refine box_event ?hg (N := 3) ?hd (cs := #[.int .i64 a0_0, .int .i64 a0_1, .bool a0_2]) (t := 24) ?hr ?_; (case hd => rfl); (case hg => rfl); (case hr => first | (go_simp; done) | (go_simp; rfl)); intro gb191 hg w22 hbox hb; have n0_ := Aside0.mk (below_step (by repeat (first | (with_reducible first | exact HB.out | apply below_alloc | apply pw_below_drewN | apply below_drew1) | exact HB.out)) hb); have n1_ := Aside0.mk (hbox); have n2_ := Aside0.mk ((by rw [hg]; exact (below_size (by repeat (first | (with_reducible first | exact HB.out | apply below_alloc | apply pw_below_drewN | apply below_drew1) | exact HB.out))) : w.heap.size ≤ gb191)); have n3_ := Aside0.mk ((by rw [hg]; exact (below_size (by repeat (first | (with_reducible first | exact HB.out | apply below_alloc | apply pw_below_drewN | apply below_drew1) | exact HB.out))) : w.heap.size ≤ gb191)); clear HB; have HB := n0_; have BK191 := n1_; have GW191 := n2_; have GE191 := n3_; clear n0_ n1_ n2_ n3_; clear hb hbox hg; have hcz23_0 : w22.cell? ⟨gb191, 0, none⟩ = some (.int .i64 a0_0) := (blk_cell BK191.out 0).trans rfl; have hcz23_1 : w22.cell? ⟨gb191, 1, none⟩ = some (.int .i64 a0_1) := (blk_cell BK191.out 1).trans rfl; have hcz23_2 : w22.cell? ⟨gb191, 2, none⟩ = some (.bool a0_2) := (blk_cell BK191.out 2).trans rfl; have hfz23_0 := blk_frozen BK191.out 0; have hfz23_1 := blk_frozen BK191.out 1; have hfz23_2 := blk_frozen BK191.out 2) | ((with_reducible refine gate_builtin (b := .append) (xs := #[.tmp 46, .tmp 58]) rfl ?_); at_builtin; refine Kd.R_append k24 (w0 := w) w.heap.size rfl (.tmp 46) (.tmp 58) 22 24 (.agg #[(.int .i64 0), (.int .i64 0), (.bool false)]) 24 rfl Try.underlying22 info24 rfl (by decide) (by omega) (.slice none 0 0) ([] : List (S24)) (⟨ji20, wrap64 ((wrap64 (a0_0 + a0_1)) - (ji20)), a0_2⟩ : S24) [.int .i64 ji20, .int .i64 (wrap64 ((wrap64 (a0_0 + a0_1)) - (ji20))), .bool a0_2] (fun k_ => k_ ≠ gb191) (fun _ => False) rfl rfl ?aP (fun _ hk => hk.elim) ?aF ?aO ?aB ?aS ?aL ?_; (case aP => exact k24_mkM _ _ _ (⟨ji20, wrap64 ((wrap64 (a0_0 + a0_1)) - (ji20)), a0_2⟩ : S24)); (case aB => exact (by repeat (first | (with_reducible first | exact HB.out | apply below_alloc | apply pw_below_drewN | apply below_drew1 | refine below_set ?_ GE191.out) | exact HB.out))); (case aF => exact (fun k_ hk => Kd.freshB (g := gb191) (o := .cells #[.int .i64 a0_0, .int .i64 a0_1, .bool a0_2] 24 (0, 0)) (by (with_reducible repeat (first | refine blk_drewN ?_ _ | refine blk_drew ?_ | refine blk_alloc ?_ _)); exact BK191.out) k_ hk)); (case aO => exact ((Kd.R_nil _ _ _ _ (fun k_ => k_ ≠ gb191)))); (case aS => exact (below_size (by repeat (first | (with_reducible first | exact HB.out | apply below_alloc | apply pw_below_drewN | apply below_drew1 | refine below_set ?_ GE191.out) | exact HB.out)))); (case aL => have := LMc21.out; omega); intro v199 w24 ho hb hg hat; rw [← Ny198.out] at ho; have n0_ := Aside0.mk (blk_grown (g := gb191) (o := .cells #[.int .i64 a0_0, .int .i64 a0_1, .bool a0_2] 24 (0, 0)) (by (with_reducible repeat (first | refine blk_drewN ?_ _ | refine blk_drew ?_ | refine blk_alloc ?_ _)); exact BK191.out) hg (by simp [Value.ownBlock])); have n1_ := Aside0.mk (hb); have n2_ := Aside0.mk (ho); clear BK191; clear HB; have BK191 := n0_; have HB := n1_; have HO200 := n2_; clear n0_ n1_ n2_; clear ho hb hg hat))
        go_ret
        exact ⟨_, by first | rfl | (simp [errW_none, errW_some] <;> rfl) | (simp only [← hji20]; first | rfl | (simp [errW_none, errW_some] <;> rfl)) | (simp [*, errW_none, errW_some] <;> rfl), by (with_reducible repeat (first | apply Kd.R_alloc | apply Kd.R_drewN | apply Kd.R_drew)); exact Kd.R_mono HO200.out (fun _ hk => trivial), by repeat (first | (with_reducible first | exact HB.out | apply below_alloc | apply pw_below_drewN | apply below_drew1 | refine below_set ?_ GE191.out) | exact HB.out)⟩
      · rw [if_neg c21] at H
        exact absurd H (by simp)
    · rw [if_neg c19] at H
      have c19b0 : decide ((wrap64 (a1 + a2)) < (wrap64 (a0_0 + a0_1))) = false := decide_eq_false c19
      clear c19
      obtain rfl := Option.some.inj H
      go_enter Try.func37, Try.ntmps37
      go_wp2_with (first | ((with_reducible refine gate_dst (N := 3) rfl ?_); refine box_event ?hg (N := 3) ?hd (cs := #[.int .i64 a0_0, .int .i64 a0_1, .bool a0_2]) (t := 24) ?hr ?_; (case hd => rfl); (case hg => rfl); (case hr => first | (go_simp; done) | (go_simp; rfl)); intro gb191 hg w25 hbox hb; have n0_ := Aside0.mk (below_step (by repeat (first | (with_reducible first | exact HB.out | apply below_alloc | apply pw_below_drewN | apply below_drew1) | exact HB.out)) hb); have n1_ := Aside0.mk (hbox); have n2_ := Aside0.mk ((by rw [hg]; exact (below_size (by repeat (first | (with_reducible first | exact HB.out | apply below_alloc | apply pw_below_drewN | apply below_drew1) | exact HB.out))) : w.heap.size ≤ gb191)); have n3_ := Aside0.mk ((by rw [hg]; exact (below_size (by repeat (first | (with_reducible first | exact HB.out | apply below_alloc | apply pw_below_drewN | apply below_drew1) | exact HB.out))) : w.heap.size ≤ gb191)); clear HB; have HB := n0_; have BK191 := n1_; have GW191 := n2_; have GE191 := n3_; clear n0_ n1_ n2_ n3_; clear hb hbox hg; have hcz26_0 : w25.cell? ⟨gb191, 0, none⟩ = some (.int .i64 a0_0) := (blk_cell BK191.out 0).trans rfl; have hcz26_1 : w25.cell? ⟨gb191, 1, none⟩ = some (.int .i64 a0_1) := (blk_cell BK191.out 1).trans rfl; have hcz26_2 : w25.cell? ⟨gb191, 2, none⟩ = some (.bool a0_2) := (blk_cell BK191.out 2).trans rfl; have hfz26_0 := blk_frozen BK191.out 0; have hfz26_1 := blk_frozen BK191.out 1; have hfz26_2 := blk_frozen BK191.out 2))
      go_ret
      exact ⟨_, by first | rfl | (simp [errW_none, errW_some] <;> rfl) | (simp [*, errW_none, errW_some] <;> rfl), by first | exact Kd.R_nil _ _ _ _ _ | exact Kd.N_nil _ _ _ _ _ | exact Kd.V_nil _ _ _ _ _ | exact Kd.Q_nil _ _ _ _ _ | exact Kd.S_nil _ _ _ _ _, by repeat (first | (with_reducible first | exact HB.out | apply below_alloc | apply pw_below_drewN | apply below_drew1 | refine below_set ?_ GE191.out) | exact HB.out)⟩
end Go.Proofs.Ytcblfhoipdbdlaa.PAll

namespace Go.Proofs.Ytcblfhoipdbdlaa.PAll
open Go.RowKit Go.Proofs.YtcblfhoipdbdlaaW.PrintWords Go.Proofs.YtcblfhoipdbdlaaW.PrintLast Go.Proofs.YtcblfhoipdbdlaaW.PrintMore
attribute [local go_sem] max2_int min2_int max_two min_two max_three min_three max_four min_four   -- for this text's walks alone
set_option linter.unusedVariables false
set_option linter.unusedSimpArgs false
attribute [local go_sem high] eqA24
/-! ### prioryref14_less: function 35 -/
def prioryref14_less.l0 : Nat → List (S24) → Int → Int → List (S24) → Int → Option ((List (S24)))
  | 0, _, _, _, _, _ => none
  | k + 1, x0, x1, x2, x7, x8 => if x8 < (x0.length : Int) then (if 0 ≤ x8 then ((prioryref14_outside.f ((rd_T24 x0 x8).f0) ((rd_T24 x0 x8).f1) ((rd_T24 x0 x8).f2) x1 x2).bind fun t202 => (if x7.length + t202.length < 5864062014805 then (prioryref14_less.l0 k x0 x1 x2 (x7 ++ t202) (wrap64 (x8 + 1))) else (none))) else (none)) else (some x7)
def prioryref14_less.f (k : Nat) (l0 : List (S24)) (a1 : Int) (a2 : Int) : Option ((List (S24))) := prioryref14_less.l0 k l0 a1 a2 ([] : List (S24)) 0
theorem prioryref14_less.mono_l : ∀ k, (∀ y0 y1 y2 y3 y4, LeO (prioryref14_less.l0 k y0 y1 y2 y3 y4) (prioryref14_less.l0 (k + 1) y0 y1 y2 y3 y4))
  | 0 => fun _ _ _ _ _ r h => by simp [prioryref14_less.l0] at h
  | k + 1 => by
    have ih0 := prioryref14_less.mono_l k
    · intro y0 y1 y2 y3 y4
      unfold prioryref14_less.l0
      repeat' first
      | (with_reducible exact ih0 _ _ _ _ _)
      | (with_reducible exact LeO.refl _)
      | (with_reducible exact LeO.none _)
      | (with_reducible refine LeO.ite ?_ ?_)
      | (with_reducible refine LeO.bind ?_ (fun _ => ?_))
      | exact ih0 _ _ _ _ _
      | exact LeO.none _
      | refine LeO.ite ?_ ?_
      | refine LeO.bind ?_ (fun _ => ?_)
theorem prioryref14_less.mono : ∀ a0 a1 a2 k, LeO (prioryref14_less.f k a0 a1 a2) (prioryref14_less.f (k + 1) a0 a1 a2) := by
  intro a0 a1 a2 k
  have ih0 := prioryref14_less.mono_l k
  unfold prioryref14_less.f
  repeat' first
      | (with_reducible exact ih0 _ _ _ _ _)
      | (with_reducible exact LeO.refl _)
      | (with_reducible exact LeO.none _)
      | (with_reducible refine LeO.ite ?_ ?_)
      | (with_reducible refine LeO.bind ?_ (fun _ => ?_))
      | exact ih0 _ _ _ _ _
      | exact LeO.none _
      | refine LeO.ite ?_ ?_
      | refine LeO.bind ?_ (fun _ => ?_)
set_option maxHeartbeats 8000000 in
set_option maxRecDepth 100000 in
theorem prioryref14_less.calls (k : Nat) (A0 : Option Addr) (c0 : Nat) (l0 : List (S24)) (a1 : Int) (a2 : Int) (r : List (S24)) (w : World) (hr0 : Kd.C k24 w A0 l0.length l0) (hc0 : l0.length ≤ c0) (h : prioryref14_less.f k l0 a1 a2 = some r) :
    Calls Try.prog 35 #[.slice A0 l0.length c0, .int .i64 a1, .int .i64 a2] w fun e w' => ∃ v0_ : Value, e = .returned (v0_) ∧ Kd.R k24 24 w' w.heap.size (fun _ => True) v0_ r ∧ Below w.heap.size w w' := by
  have hu24 := Try.underlying24
  have HR0 := Aside0.mk hr0
  have HC0 := Aside0.mk hc0
  clear hr0 hc0
  have HB := Aside0.mk (Below.refl w.heap.size w)
  have H : (prioryref14_less.l0 k l0 a1 a2 ([] : List (S24)) 0) = some r := h
  clear h
  have H' := Aside0.mk H
  clear H
  go_enter Try.func35, Try.ntmps35
  go_wp2
  go_loopg [7, 8] k (fun kq v7 v8 w' => ∃ (x7_1 : List (S24)) (x8_1 : Int), v8 = .int .i64 x8_1 ∧ Aside0 (prioryref14_less.l0 kq l0 a1 a2 x7_1 x8_1 = some r) ∧ Aside0 (kq ≤ k) ∧ Aside0 (Kd.R k24 24 w' w.heap.size (fun _ => True) v7 x7_1) ∧ Aside0 (Below w.heap.size w w'))
  case atStart => exact ⟨(([] : List (S24))), (0), (by first | rfl | (simp; done) | (simp [*]; done)), H', ⟨Nat.le_refl _⟩, ⟨by first | exact Kd.R_nil _ _ _ _ _ | exact Kd.N_nil _ _ _ _ _ | exact Kd.V_nil _ _ _ _ _ | exact Kd.Q_nil _ _ _ _ _ | exact Kd.S_nil _ _ _ _ _⟩, ⟨by repeat (first | (with_reducible first | exact HB.out | apply below_alloc | apply pw_below_drewN | apply below_drew1) | exact HB.out)⟩⟩
  case round =>
    clear H'
    try clear p2
    try clear c3
    obtain ⟨x7_1, x8_1, rfl, HA, HK1, HO_7, HB⟩ := hrel
    cases gk with
    | zero => exact absurd HA.out (by simp [prioryref14_less.l0])
    | succ k1 =>
      have H := HA.out
      clear HA
      simp only [prioryref14_less.l0] at H
      by_cases c4 : x8_1 < (l0.length : Int)
      · rw [if_pos c4] at H
        have c4b0 : decide (x8_1 < (l0.length : Int)) = true := decide_eq_true c4
        clear c4
        by_cases c5 : 0 ≤ x8_1
        · rw [if_pos c5] at H
          have c5b0 : decide (0 ≤ x8_1) = true := decide_eq_true c5
          clear c5
          replace H := Option.bind_eq_some_iff.mp H
          obtain ⟨t202, A60, H⟩ := H
          replace H : (if x7_1.length + t202.length < 5864062014805 then (prioryref14_less.l0 k1 l0 a1 a2 (x7_1 ++ t202) (wrap64 (x8_1 + 1))) else (none)) = some r := H
          have A6 := Aside0.mk A60
          clear A60
          by_cases c7 : x7_1.length + t202.length < 5864062014805
          · rw [if_pos c7] at H
            have LMc7 := Aside0.mk c7
            clear c7
            obtain ⟨y205, hy205⟩ : ∃ y_ : List (S24), y_ = (x7_1 ++ t202) := ⟨_, rfl⟩
            replace H : (prioryref14_less.l0 k1 l0 a1 a2 y205 (wrap64 (x8_1 + 1))) = some r := by first | (rw [hy205]; with_reducible exact H) | (have H2_ := (Option.bind_some _ _).symm.trans H; rw [hy205]; with_reducible exact H2_) | (have H2_ := (Option.bind_some _ _).symm.trans H; with_reducible exact H2_) | with_reducible exact H | (rw [hy205]; exact H) | exact H
            have Ny205 := Aside0.mk hy205
            clear hy205
            have H' := Aside0.mk H
            clear H
            have p201 : 0 ≤ (x8_1 : Int) := of_decide_eq_true (by first | (with_reducible assumption) | assumption)
            have q201 : x8_1 < (l0.length : Int) := of_decide_eq_true (by first | (with_reducible assumption) | assumption)
            obtain ⟨ad201, e201, hx201_0, hx201_1, hx201_2⟩ := at_T24 HR0.out x8_1 p201 q201
            cases e201
            replace hx201_0 := (HB.out.cell (World.block_lt_of_cell? w _ hx201_0)).trans hx201_0
            replace hx201_1 := (HB.out.cell (World.block_lt_of_cell? w _ hx201_1)).trans hx201_1
            replace hx201_2 := (HB.out.cell (World.block_lt_of_cell? w _ hx201_2)).trans hx201_2
            replace p201 := eq_true p201
            replace q201 := eq_true q201
            go_wp2_with (first | ((with_reducible refine gate_callee (f := 37) rfl ?_); refine goesL_ (some 22) rfl rfl Try.func37 (by kernel_rfl) rfl #[.agg #[.int .i64 ((rd_T24 l0 x8_1).f0), .int .i64 ((rd_T24 l0 x8_1).f1), .bool ((rd_T24 l0 x8_1).f2)], .int .i64 a1, .int .i64 a2] rfl (by (try simp only [List.map_toArray, List.map_cons, List.map_nil]); first | done | rfl | (simp only [List.length_drop, List.length_take]; rfl)) ?_; (with_reducible refine (prioryref14_outside.calls ((rd_T24 l0 x8_1).f0) ((rd_T24 l0 x8_1).f1) ((rd_T24 l0 x8_1).f2) a1 a2 t202 _ A6.out).mono ?_); rintro e w8 ⟨v203, rfl, ho0, hb⟩; refine ⟨_, rfl, ?_⟩; have n0_ := Aside0.mk (Kd.R_elder' (by (with_reducible repeat (first | apply Kd.R_alloc | apply Kd.R_drewN | apply Kd.R_drew)); exact HO_7.out) (Kd.R_base ho0) hb); have n1_ := Aside0.mk (Kd.R_lower (Kd.R_new' ho0 (Kd.R_lt (by (with_reducible repeat (first | apply Kd.R_alloc | apply Kd.R_drewN | apply Kd.R_drew)); exact HO_7.out))) (below_size (by repeat (first | (with_reducible first | exact HB.out | apply below_alloc | apply pw_below_drewN | apply below_drew1) | exact HB.out)))); have n2_ := Aside0.mk (below_step (by repeat (first | (with_reducible first | exact HB.out | apply below_alloc | apply pw_below_drewN | apply below_drew1) | exact HB.out)) hb); clear HO_7; clear HB; have HO_7 := n0_; have HO204 := n1_; have HB := n2_; clear n0_ n1_ n2_; (try clear hb); (try clear hb2); (try clear hk); (try clear hi); (try clear ho0); obtain ⟨Ao10, co10, eo10⟩ := Kd.R_slice HO204.out; subst eo10) | ((with_reducible refine gate_builtin (b := .append) (xs := #[.tmp 15, .tmp 22]) rfl ?_); at_builtin; refine Kd.R_append_rows k24 (w0 := w) w.heap.size rfl (.tmp 15) (.tmp 22) 22 24 (.agg #[(.int .i64 0), (.int .i64 0), (.bool false)]) 24 rfl Try.underlying22 info24 rfl (by decide) (by omega) u7 x7_1 t202 _ _ _ (fun k_ => some k_ ≠ (.slice Ao10 t202.length co10 : Value).ownBlock) (fun _ => False) rfl rfl ?aO ?aR (fun _ _ h => h) (fun _ h => h.elim) ?aF ?aB ?aS ?aL ?_; (case aR => repeat (first | exact (Kd.R_reads' HO204.out).2.2 | (with_reducible refine Kd.C_alloc ?_ _) | (with_reducible refine Kd.C_drewN ?_ _) | (with_reducible refine Kd.C_drew ?_))); (case aB => exact (by repeat (first | (with_reducible first | exact HB.out | apply below_alloc | apply pw_below_drewN | apply below_drew1) | exact HB.out))); (case aF => exact (fun k_ hk => Kd.fresh' (Kd.R_lt (by (with_reducible repeat (first | apply Kd.R_alloc | apply Kd.R_drewN | apply Kd.R_drew)); exact HO204.out)) k_ hk)); (case aO => exact (by (with_reducible repeat (first | apply Kd.R_alloc | apply Kd.R_drewN | apply Kd.R_drew)); exact Kd.R_mono HO_7.out (fun _ hk => hk.2))); (case aS => exact (below_size (by repeat (first | (with_reducible first | exact HB.out | apply below_alloc | apply pw_below_drewN | apply below_drew1) | exact HB.out)))); (case aL => have := LMc7.out; omega); intro v206 w9 ho hb hg hat; rw [← Ny205.out] at ho; have n0_ := Aside0.mk (Kd.R_after (ok := (fun _ => True)) (by (with_reducible repeat (first | apply Kd.R_alloc | apply Kd.R_drewN | apply Kd.R_drew)); exact HO204.out) hg hat); have n1_ := Aside0.mk (hb); have n2_ := Aside0.mk (ho); clear HO204; clear HB; clear HO_7; have HO204 := n0_; have HB := n1_; have HO207 := n2_; clear n0_ n1_ n2_; clear ho hb hg hat))
            go_roundg k1
            case measure => have := HK1.out; omega
            case rel => exact ⟨(y205), (wrap64 (x8_1 + 1)), (by first | rfl | (simp; done) | (simp [*]; done)), H', ⟨by have := HK1.out; omega⟩, ⟨by (with_reducible repeat (first | apply Kd.R_alloc | apply Kd.R_drewN | apply Kd.R_drew)); exact Kd.R_mono HO207.out (fun _ hk => trivial)⟩, ⟨by repeat (first | (with_reducible first | exact HB.out | apply below_alloc | apply pw_below_drewN | apply below_drew1) | exact HB.out)⟩⟩
          · rw [if_neg c7] at H
            exact absurd H (by simp)
        · rw [if_neg c5] at H
          exact absurd H (by simp)
      · rw [if_neg c4] at H
        have c4b0 : decide (x8_1 < (l0.length : Int)) = false := decide_eq_false c4
        clear c4
        obtain rfl := Option.some.inj H
        go_wp2
        go_ret
        exact ⟨_, by first | rfl | (simp [errW_none, errW_some] <;> rfl) | (simp [*, errW_none, errW_some] <;> rfl), by (with_reducible repeat (first | apply Kd.R_alloc | apply Kd.R_drewN | apply Kd.R_drew)); exact HO_7.out, by repeat (first | (with_reducible first | exact HB.out | apply below_alloc | apply pw_below_drewN | apply below_drew1) | exact HB.out)⟩
end Go.Proofs.Ytcblfhoipdbdlaa.PAll

namespace Go.Proofs.Ytcblfhoipdbdlaa.PAll
open Go.RowKit Go.Proofs.YtcblfhoipdbdlaaW.PrintWords Go.Proofs.YtcblfhoipdbdlaaW.PrintLast Go.Proofs.YtcblfhoipdbdlaaW.PrintMore
attribute [local go_sem] max2_int min2_int max_two min_two max_three min_three max_four min_four   -- for this text's walks alone
set_option linter.unusedVariables false
set_option linter.unusedSimpArgs false
attribute [local go_sem high] eqA24
/-! ### prioryref14_Cut: function 15 -/
def prioryref14_Cut.j0 : Nat → List (S24) → Int → Int → Bool → Option ((List (S24)) × Int)
  | 0, _, _, _, _ => none
  | k + 1, x0, x1, x2, x16 => if x16 = true then (some (([] : List (S24)), 2)) else ((prioryref14_Covers.f k x0 x1 x2).bind fun t282 => (if t282 = true then ((prioryref14_less.f k x0 x1 x2).bind fun t283 => ((prioryref14_few.f t283).bind fun bt286 => (some (bt286.1, bt286.2)))) else (some (([] : List (S24)), 4))))
def prioryref14_Cut.f (k : Nat) (l0 : List (S24)) (a1 : Int) (a2 : Int) : Option ((List (S24)) × Int) := (prioryref14_Check.f k l0).bind fun t280 => (if t280 = 0 then ((prioryref14_Fits.f a1 a2).bind fun t281 => (prioryref14_Cut.j0 k l0 a1 a2 (!t281))) else (prioryref14_Cut.j0 k l0 a1 a2 true))
theorem prioryref14_Cut.mono_l : ∀ k, (∀ y0 y1 y2 y3, LeO (prioryref14_Cut.j0 k y0 y1 y2 y3) (prioryref14_Cut.j0 (k + 1) y0 y1 y2 y3))
  | 0 => fun _ _ _ _ r h => by simp [prioryref14_Cut.j0] at h
  | k + 1 => by
    have ih0 := prioryref14_Cut.mono_l k
    · intro y0 y1 y2 y3
      unfold prioryref14_Cut.j0
      repeat' first
      | (with_reducible exact ih0 _ _ _ _)
      | (with_reducible exact prioryref14_Check.mono _ _)
      | (with_reducible exact prioryref14_Covers.mono _ _ _ _)
      | (with_reducible exact prioryref14_less.mono _ _ _ _)
      | (with_reducible exact LeO.refl _)
      | (with_reducible exact LeO.none _)
      | (with_reducible refine LeO.ite ?_ ?_)
      | (with_reducible refine LeO.bind ?_ (fun _ => ?_))
      | exact ih0 _ _ _ _
      | exact prioryref14_Check.mono _ _
      | exact prioryref14_Covers.mono _ _ _ _
      | exact prioryref14_less.mono _ _ _ _
      | exact LeO.none _
      | refine LeO.ite ?_ ?_
      | refine LeO.bind ?_ (fun _ => ?_)
theorem prioryref14_Cut.mono : ∀ a0 a1 a2 k, LeO (prioryref14_Cut.f k a0 a1 a2) (prioryref14_Cut.f (k + 1) a0 a1 a2) := by
  intro a0 a1 a2 k
  have ih0 := prioryref14_Cut.mono_l k
  unfold prioryref14_Cut.f
  repeat' first
      | (with_reducible exact ih0 _ _ _ _)
      | (with_reducible exact prioryref14_Check.mono _ _)
      | (with_reducible exact prioryref14_Covers.mono _ _ _ _)
      | (with_reducible exact prioryref14_less.mono _ _ _ _)
      | (with_reducible exact LeO.refl _)
      | (with_reducible exact LeO.none _)
      | (with_reducible refine LeO.ite ?_ ?_)
      | (with_reducible refine LeO.bind ?_ (fun _ => ?_))
      | exact ih0 _ _ _ _
      | exact prioryref14_Check.mono _ _
      | exact prioryref14_Covers.mono _ _ _ _
      | exact prioryref14_less.mono _ _ _ _
      | exact LeO.none _
      | refine LeO.ite ?_ ?_
      | refine LeO.bind ?_ (fun _ => ?_)
set_option maxHeartbeats 8000000 in
set_option maxRecDepth 100000 in
theorem prioryref14_Cut.calls (k : Nat) (A0 : Option Addr) (c0 : Nat) (l0 : List (S24)) (a1 : Int) (a2 : Int) (r1 : List (S24)) (r2 : Int) (w : World) (hr0 : Kd.C k24 w A0 l0.length l0) (hc0 : l0.length ≤ c0) (h : prioryref14_Cut.f k l0 a1 a2 = some (r1, r2)) :
    Calls Try.prog 15 #[.slice A0 l0.length c0, .int .i64 a1, .int .i64 a2] w fun e w' => ∃ v0_ : Value, e = .returned (.tuple #[v0_, .int .i64 r2]) ∧ Kd.R k24 24 w' w.heap.size (fun _ => True) v0_ r1 ∧ Below w.heap.size w w' := by
  have HR0 := Aside0.mk hr0
  have HC0 := Aside0.mk hc0
  clear hr0 hc0
  have HB := Aside0.mk (Below.refl w.heap.size w)
  have H : ((prioryref14_Check.f k l0).bind fun t280 => (if t280 = 0 then ((prioryref14_Fits.f a1 a2).bind fun t281 => (prioryref14_Cut.j0 k l0 a1 a2 (!t281))) else (prioryref14_Cut.j0 k l0 a1 a2 true))) = some (r1, r2) := h
  clear h
  have HC4 := Aside0.mk H
  clear H
  go_enter Try.func15, Try.ntmps15
  go_upto_region 1 with (fail)
  go_cut [16] (fun v16 wc => ∃ (kq : Nat) (x16_3 : Bool), v16 = .bool x16_3 ∧ Aside0 (prioryref14_Cut.j0 kq l0 a1 a2 x16_3 = some (r1, r2)) ∧ Aside0 (kq ≤ k) ∧ Aside0 (Below w.heap.size w wc))
  case first =>
    have H := HC4.out
    clear HC4
    replace H := Option.bind_eq_some_iff.mp H
    obtain ⟨t280, A50, H⟩ := H
    replace H : (if t280 = 0 then ((prioryref14_Fits.f a1 a2).bind fun t281 => (prioryref14_Cut.j0 k l0 a1 a2 (!t281))) else (prioryref14_Cut.j0 k l0 a1 a2 true)) = some (r1, r2) := H
    have A5 := Aside0.mk A50
    clear A50
    by_cases c6 : t280 = 0
    · rw [if_pos c6] at H
      have c6b0 : (t280 == 0) = true := beq_iff_eq.mpr c6
      have c6b1 : (t280 != 0) = false := bne_eq_false_iff_eq.mpr c6
      clear c6
      (first | rw [c6b0] | (simp only [i64_w, i32_w]; rw [c6b0]) | skip)
      replace H := Option.bind_eq_some_iff.mp H
      obtain ⟨t281, A70, H⟩ := H
      replace H : (prioryref14_Cut.j0 k l0 a1 a2 (!t281)) = some (r1, r2) := H
      have A7 := Aside0.mk A70
      clear A70
      have H' := Aside0.mk H
      clear H
      go_wp2_with (first | ((with_reducible refine gate_callee (f := 21) rfl ?_); refine goesL_ (some 9) rfl rfl Try.func21 (by kernel_rfl) rfl #[.slice A0 l0.length c0] rfl (by (try simp only [List.map_toArray, List.map_cons, List.map_nil]); first | done | rfl | (simp only [List.length_drop, List.length_take]; rfl)) ?_; (with_reducible refine (prioryref14_Check.calls k _ _ l0 t280 _ ?side1 ?side2 A5.out).mono ?_); (case side1 => repeat (first | exact (Kd.C_below HR0.out HB.out) | (with_reducible refine Kd.C_alloc ?_ _) | (with_reducible refine Kd.C_drewN ?_ _) | (with_reducible refine Kd.C_drew ?_))); (case side2 => exact HC0.out); rintro e w' ⟨rfl, ⟨nd, rfl⟩⟩; refine ⟨_, rfl, ?_⟩) | (go_at_call 26; (with_reducible refine (prioryref14_Fits.calls a1 a2 t281 _ A7.out).mono ?_); rintro e w' ⟨rfl, ⟨nd, rfl⟩⟩))
      go_meet
      case rel => exact ⟨_, (!t281), (by first | rfl | (simp; done) | (simp [*]; done)), H', ⟨by first | omega | exact Nat.le_refl _⟩, ⟨by repeat (first | (with_reducible first | exact HB.out | apply below_alloc | apply pw_below_drewN | apply below_drew1) | exact HB.out)⟩⟩
    · rw [if_neg c6] at H
      have c6b0 : (t280 == 0) = false := beq_eq_false_iff_ne.mpr c6
      have c6b1 : (t280 != 0) = true := bne_iff_ne.mpr c6
      (first | rw [c6b0] | (simp only [i64_w, i32_w]; rw [c6b0]) | skip)
      have H' := Aside0.mk H
      clear H
      go_wp2_with (first | ((with_reducible refine gate_callee (f := 21) rfl ?_); refine goesL_ (some 9) rfl rfl Try.func21 (by kernel_rfl) rfl #[.slice A0 l0.length c0] rfl (by (try simp only [List.map_toArray, List.map_cons, List.map_nil]); first | done | rfl | (simp only [List.length_drop, List.length_take]; rfl)) ?_; (with_reducible refine (prioryref14_Check.calls k _ _ l0 t280 _ ?side1 ?side2 A5.out).mono ?_); (case side1 => repeat (first | exact (Kd.C_below HR0.out HB.out) | (with_reducible refine Kd.C_alloc ?_ _) | (with_reducible refine Kd.C_drewN ?_ _) | (with_reducible refine Kd.C_drew ?_))); (case side2 => exact HC0.out); rintro e w' ⟨rfl, ⟨nd, rfl⟩⟩; refine ⟨_, rfl, ?_⟩))
      go_meet
      case rel => exact ⟨_, (true), (by first | rfl | (simp; done) | (simp [*]; done)), H', ⟨by first | omega | exact Nat.le_refl _⟩, ⟨by repeat (first | (with_reducible first | exact HB.out | apply below_alloc | apply pw_below_drewN | apply below_drew1) | exact HB.out)⟩⟩
  case rest =>
    clear HC4
    try clear c1
    try clear c2
    try clear p2
    try clear c6
    try clear c6b0
    try clear c6b1
    obtain ⟨kq, x16_3, rfl, HA, HJ3, HB⟩ := hcut
    cases kq with
    | zero => exact absurd HA.out (by simp [prioryref14_Cut.j0])
    | succ kj3 =>
      have H := HA.out
      clear HA
      simp only [prioryref14_Cut.j0] at H
      by_cases c8 : x16_3 = true
      · subst c8
        have H1 : (some (([] : List (S24)), 2)) = some (r1, r2) := by rw [if_pos rfl] at H; exact H
        clear H
        have H := H1
        clear H1
        simp only [Option.some.injEq, Prod.mk.injEq] at H
        obtain ⟨rfl, rfl⟩ := H
        go_wp2
        go_ret2
        exact ⟨_, by first | rfl | (simp [errW_none, errW_some] <;> rfl) | (simp [*, errW_none, errW_some] <;> rfl), by first | exact Kd.R_nil _ _ _ _ _ | exact Kd.N_nil _ _ _ _ _ | exact Kd.V_nil _ _ _ _ _ | exact Kd.Q_nil _ _ _ _ _ | exact Kd.S_nil _ _ _ _ _, by repeat (first | (with_reducible first | exact HB.out | apply below_alloc | apply pw_below_drewN | apply below_drew1) | exact HB.out)⟩
      · replace c8 := Bool.eq_false_iff.mpr c8
        subst c8
        have H1 : ((prioryref14_Covers.f kj3 l0 a1 a2).bind fun t282 => (if t282 = true then ((prioryref14_less.f kj3 l0 a1 a2).bind fun t283 => ((prioryref14_few.f t283).bind fun bt286 => (some (bt286.1, bt286.2)))) else (some (([] : List (S24)), 4)))) = some (r1, r2) := by rw [if_neg (show ¬ (false = true) by decide)] at H; exact H
        clear H
        have H := H1
        clear H1
        replace H := Option.bind_eq_some_iff.mp H
        obtain ⟨t282, A90, H⟩ := H
        replace H : (if t282 = true then ((prioryref14_less.f kj3 l0 a1 a2).bind fun t283 => ((prioryref14_few.f t283).bind fun bt286 => (some (bt286.1, bt286.2)))) else (some (([] : List (S24)), 4))) = some (r1, r2) := H
        have A9 := Aside0.mk A90
        clear A90
        by_cases c10 : t282 = true
        · subst c10
          have H1 : ((prioryref14_less.f kj3 l0 a1 a2).bind fun t283 => ((prioryref14_few.f t283).bind fun bt286 => (some (bt286.1, bt286.2)))) = some (r1, r2) := by rw [if_pos rfl] at H; exact H
          clear H
          have H := H1
          clear H1
          replace H := Option.bind_eq_some_iff.mp H
          obtain ⟨t283, A110, H⟩ := H
          replace H : ((prioryref14_few.f t283).bind fun bt286 => (some (bt286.1, bt286.2))) = some (r1, r2) := H
          have A11 := Aside0.mk A110
          clear A110
          replace H := Option.bind_eq_some_iff.mp H
          obtain ⟨⟨t286, t289⟩, A120, H⟩ := H
          replace H : (some (t286, t289)) = some (r1, r2) := H
          have A12 := Aside0.mk A120
          clear A120
          simp only [Option.some.injEq, Prod.mk.injEq] at H
          obtain ⟨rfl, rfl⟩ := H
          go_wp2_with (first | ((with_reducible refine gate_callee (f := 23) rfl ?_); refine goesL_ (some 20) rfl rfl Try.func23 (by kernel_rfl) rfl #[.slice A0 l0.length c0, .int .i64 a1, .int .i64 a2] rfl (by (try simp only [List.map_toArray, List.map_cons, List.map_nil]); first | done | rfl | (simp only [List.length_drop, List.length_take]; rfl)) ?_; (with_reducible refine (prioryref14_Covers.calls kj3 _ _ l0 a1 a2 true _ ?side1 ?side2 A9.out).mono ?_); (case side1 => repeat (first | exact (Kd.C_below HR0.out HB.out) | (with_reducible refine Kd.C_alloc ?_ _) | (with_reducible refine Kd.C_drewN ?_ _) | (with_reducible refine Kd.C_drew ?_))); (case side2 => exact HC0.out); rintro e w' ⟨rfl, ⟨nd, rfl⟩⟩; refine ⟨_, rfl, ?_⟩) | ((with_reducible refine gate_callee (f := 35) rfl ?_); refine goesL_ (some 25) rfl rfl Try.func35 (by kernel_rfl) rfl #[.slice A0 l0.length c0, .int .i64 a1, .int .i64 a2] rfl (by (try simp only [List.map_toArray, List.map_cons, List.map_nil]); first | done | rfl | (simp only [List.length_drop, List.length_take]; rfl)) ?_; (with_reducible refine (prioryref14_less.calls kj3 _ _ l0 a1 a2 t283 _ ?side1 ?side2 A11.out).mono ?_); (case side1 => repeat (first | exact (Kd.C_below HR0.out (by repeat (first | (with_reducible first | exact HB.out | apply below_alloc | apply pw_below_drewN | apply below_drew1) | exact HB.out))) | (with_reducible refine Kd.C_alloc ?_ _) | (with_reducible refine Kd.C_drewN ?_ _) | (with_reducible refine Kd.C_drew ?_))); (case side2 => exact HC0.out); rintro e w13 ⟨v284, rfl, ho0, hb⟩; refine ⟨_, rfl, ?_⟩; have n0_ := Aside0.mk (Kd.R_lower ho0 (below_size (by repeat (first | (with_reducible first | exact HB.out | apply below_alloc | apply pw_below_drewN | apply below_drew1) | exact HB.out)))); have n1_ := Aside0.mk (below_step (by repeat (first | (with_reducible first | exact HB.out | apply below_alloc | apply pw_below_drewN | apply below_drew1) | exact HB.out)) hb); clear HB; have HO285 := n0_; have HB := n1_; clear n0_ n1_; (try clear hb); (try clear hb2); (try clear hk); (try clear hi); (try clear ho0); obtain ⟨Ao14, co14, eo14⟩ := Kd.R_slice HO285.out; subst eo14) | ((with_reducible refine gate_callee (f := 32) rfl ?_); refine goesL_ (some 26) rfl rfl Try.func32 (by kernel_rfl) rfl #[.slice Ao14 t283.length co14] rfl (by (try simp only [List.map_toArray, List.map_cons, List.map_nil]); first | done | rfl | (simp only [List.length_drop, List.length_take]; rfl)) ?_; (with_reducible refine (prioryref14_few.calls (fun k_ => some k_ = (.slice Ao14 t283.length co14 : Value).ownBlock) (.slice Ao14 t283.length co14) t283 t286 t289 w _ ?side1 ?side2 A12.out).mono ?_); (case side1 => repeat (first | (with_reducible first | exact HB.out | apply below_alloc | apply pw_below_drewN | apply below_drew1) | exact HB.out)); (case side2 => exact Kd.R_tight rfl HO285.out); rintro e w15 ⟨v287, rfl, ho0, hb, hkp⟩; refine ⟨_, rfl, ?_⟩; have n0_ := Aside0.mk (Kd.R_mono (ok' := fun k_ => True) ho0 (fun k_ hk_ => trivial)); have n1_ := Aside0.mk (hb); clear HB; clear HO285; have HO288 := n0_; have HB := n1_; clear n0_ n1_; (try clear hb); (try clear hkp); (try clear ho0)))
          go_ret2
          exact ⟨_, by first | rfl | (simp [errW_none, errW_some] <;> rfl) | (simp [*, errW_none, errW_some] <;> rfl), by (with_reducible repeat (first | apply Kd.R_alloc | apply Kd.R_drewN | apply Kd.R_drew)); exact HO288.out, by repeat (first | (with_reducible first | exact HB.out | apply below_alloc | apply pw_below_drewN | apply below_drew1) | exact HB.out)⟩
        · replace c10 := Bool.eq_false_iff.mpr c10
          subst c10
          have H1 : (some (([] : List (S24)), 4)) = some (r1, r2) := by rw [if_neg (show ¬ (false = true) by decide)] at H; exact H
          clear H
          have H := H1
          clear H1
          simp only [Option.some.injEq, Prod.mk.injEq] at H
          obtain ⟨rfl, rfl⟩ := H
          go_wp2_with (first | ((with_reducible refine gate_callee (f := 23) rfl ?_); refine goesL_ (some 20) rfl rfl Try.func23 (by kernel_rfl) rfl #[.slice A0 l0.length c0, .int .i64 a1, .int .i64 a2] rfl (by (try simp only [List.map_toArray, List.map_cons, List.map_nil]); first | done | rfl | (simp only [List.length_drop, List.length_take]; rfl)) ?_; (with_reducible refine (prioryref14_Covers.calls kj3 _ _ l0 a1 a2 false _ ?side1 ?side2 A9.out).mono ?_); (case side1 => repeat (first | exact (Kd.C_below HR0.out HB.out) | (with_reducible refine Kd.C_alloc ?_ _) | (with_reducible refine Kd.C_drewN ?_ _) | (with_reducible refine Kd.C_drew ?_))); (case side2 => exact HC0.out); rintro e w' ⟨rfl, ⟨nd, rfl⟩⟩; refine ⟨_, rfl, ?_⟩))
          go_ret2
          exact ⟨_, by first | rfl | (simp [errW_none, errW_some] <;> rfl) | (simp [*, errW_none, errW_some] <;> rfl), by first | exact Kd.R_nil _ _ _ _ _ | exact Kd.N_nil _ _ _ _ _ | exact Kd.V_nil _ _ _ _ _ | exact Kd.Q_nil _ _ _ _ _ | exact Kd.S_nil _ _ _ _ _, by repeat (first | (with_reducible first | exact HB.out | apply below_alloc | apply pw_below_drewN | apply below_drew1) | exact HB.out)⟩
end Go.Proofs.Ytcblfhoipdbdlaa.PAll

namespace Go.Proofs.Ytcblfhoipdbdlaa.PAll
open Go.RowKit Go.Proofs.YtcblfhoipdbdlaaW.PrintWords Go.Proofs.YtcblfhoipdbdlaaW.PrintLast Go.Proofs.YtcblfhoipdbdlaaW.PrintMore
attribute [local go_sem] max2_int min2_int max_two min_two max_three min_three max_four min_four   -- for this text's walks alone
set_option linter.unusedVariables false
set_option linter.unusedSimpArgs false
/-! ### prioryref14_Set: function 17 -/
def prioryref14_Set.j0 : Nat → List (S24) → Int → Int → Bool → Bool → Option ((List (S24)) × Int)
  | 0, _, _, _, _, _ => none
  | k + 1, x0, x1, x2, x3, x18 => if x18 = true then (some (([] : List (S24)), 2)) else ((prioryref14_Covers.f k x0 x1 x2).bind fun t292 => (if t292 = true then ((prioryref14_less.f k x0 x1 x2).bind fun t293 => ((prioryref14_with.f k t293 x1 x2 x3).bind fun t296 => ((prioryref14_few.f t296).bind fun bt299 => (some (bt299.1, bt299.2))))) else (some (([] : List (S24)), 4))))
def prioryref14_Set.f (k : Nat) (l0 : List (S24)) (a1 : Int) (a2 : Int) (a3 : Bool) : Option ((List (S24)) × Int) := (prioryref14_Check.f k l0).bind fun t290 => (if t290 = 0 then ((prioryref14_Fits.f a1 a2).bind fun t291 => (prioryref14_Set.j0 k l0 a1 a2 a3 (!t291))) else (prioryref14_Set.j0 k l0 a1 a2 a3 true))
theorem prioryref14_Set.mono_l : ∀ k, (∀ y0 y1 y2 y3 y4, LeO (prioryref14_Set.j0 k y0 y1 y2 y3 y4) (prioryref14_Set.j0 (k + 1) y0 y1 y2 y3 y4))
  | 0 => fun _ _ _ _ _ r h => by simp [prioryref14_Set.j0] at h
  | k + 1 => by
    have ih0 := prioryref14_Set.mono_l k
    · intro y0 y1 y2 y3 y4
      unfold prioryref14_Set.j0
      repeat' first
      | (with_reducible exact ih0 _ _ _ _ _)
      | (with_reducible exact prioryref14_Check.mono _ _)
      | (with_reducible exact prioryref14_Covers.mono _ _ _ _)
      | (with_reducible exact prioryref14_less.mono _ _ _ _)
      | (with_reducible exact prioryref14_with.mono _ _ _ _ _)
      | (with_reducible exact LeO.refl _)
      | (with_reducible exact LeO.none _)
      | (with_reducible refine LeO.ite ?_ ?_)
      | (with_reducible refine LeO.bind ?_ (fun _ => ?_))
      | exact ih0 _ _ _ _ _
      | exact prioryref14_Check.mono _ _
      | exact prioryref14_Covers.mono _ _ _ _
      | exact prioryref14_less.mono _ _ _ _
      | exact prioryref14_with.mono _ _ _ _ _
      | exact LeO.none _
      | refine LeO.ite ?_ ?_
      | refine LeO.bind ?_ (fun _ => ?_)
theorem prioryref14_Set.mono : ∀ a0 a1 a2 a3 k, LeO (prioryref14_Set.f k a0 a1 a2 a3) (prioryref14_Set.f (k + 1) a0 a1 a2 a3) := by
  intro a0 a1 a2 a3 k
  have ih0 := prioryref14_Set.mono_l k
  unfold prioryref14_Set.f
  repeat' first
      | (with_reducible exact ih0 _ _ _ _ _)
      | (with_reducible exact prioryref14_Check.mono _ _)
      | (with_reducible exact prioryref14_Covers.mono _ _ _ _)
      | (with_reducible exact prioryref14_less.mono _ _ _ _)
      | (with_reducible exact prioryref14_with.mono _ _ _ _ _)
      | (with_reducible exact LeO.refl _)
      | (with_reducible exact LeO.none _)
      | (with_reducible refine LeO.ite ?_ ?_)
      | (with_reducible refine LeO.bind ?_ (fun _ => ?_))
      | exact ih0 _ _ _ _ _
      | exact prioryref14_Check.mono _ _
      | exact prioryref14_Covers.mono _ _ _ _
      | exact prioryref14_less.mono _ _ _ _
      | exact prioryref14_with.mono _ _ _ _ _
      | exact LeO.none _
      | refine LeO.ite ?_ ?_
      | refine LeO.bind ?_ (fun _ => ?_)
set_option maxHeartbeats 8000000 in
set_option maxRecDepth 100000 in
theorem prioryref14_Set.calls (k : Nat) (A0 : Option Addr) (c0 : Nat) (l0 : List (S24)) (a1 : Int) (a2 : Int) (a3 : Bool) (r1 : List (S24)) (r2 : Int) (w : World) (hr0 : Kd.C k24 w A0 l0.length l0) (hc0 : l0.length ≤ c0) (h : prioryref14_Set.f k l0 a1 a2 a3 = some (r1, r2)) :
    Calls Try.prog 17 #[.slice A0 l0.length c0, .int .i64 a1, .int .i64 a2, .bool a3] w fun e w' => ∃ v0_ : Value, e = .returned (.tuple #[v0_, .int .i64 r2]) ∧ Kd.R k24 24 w' w.heap.size (fun _ => True) v0_ r1 ∧ Below w.heap.size w w' := by
  have hu24 := Try.underlying24
  have HR0 := Aside0.mk hr0
  have HC0 := Aside0.mk hc0
  clear hr0 hc0
  have HB := Aside0.mk (Below.refl w.heap.size w)
  have H : ((prioryref14_Check.f k l0).bind fun t290 => (if t290 = 0 then ((prioryref14_Fits.f a1 a2).bind fun t291 => (prioryref14_Set.j0 k l0 a1 a2 a3 (!t291))) else (prioryref14_Set.j0 k l0 a1 a2 a3 true))) = some (r1, r2) := h
  clear h
  have HC5 := Aside0.mk H
  clear H
  go_enter Try.func17, Try.ntmps17
  go_upto_region 1 with (fail)
  go_cut [18] (fun v18 wc => ∃ (kq : Nat) (x18_4 : Bool), v18 = .bool x18_4 ∧ Aside0 (prioryref14_Set.j0 kq l0 a1 a2 a3 x18_4 = some (r1, r2)) ∧ Aside0 (kq ≤ k) ∧ Aside0 (Below w.heap.size w wc))
  case first =>
    have H := HC5.out
    clear HC5
    replace H := Option.bind_eq_some_iff.mp H
    obtain ⟨t290, A60, H⟩ := H
    replace H : (if t290 = 0 then ((prioryref14_Fits.f a1 a2).bind fun t291 => (prioryref14_Set.j0 k l0 a1 a2 a3 (!t291))) else (prioryref14_Set.j0 k l0 a1 a2 a3 true)) = some (r1, r2) := H
    have A6 := Aside0.mk A60
    clear A60
    by_cases c7 : t290 = 0
    · rw [if_pos c7] at H
      have c7b0 : (t290 == 0) = true := beq_iff_eq.mpr c7
      have c7b1 : (t290 != 0) = false := bne_eq_false_iff_eq.mpr c7
      clear c7
      (first | rw [c7b0] | (simp only [i64_w, i32_w]; rw [c7b0]) | skip)
      replace H := Option.bind_eq_some_iff.mp H
      obtain ⟨t291, A80, H⟩ := H
      replace H : (prioryref14_Set.j0 k l0 a1 a2 a3 (!t291)) = some (r1, r2) := H
      have A8 := Aside0.mk A80
      clear A80
      have H' := Aside0.mk H
      clear H
      go_wp2_with (first | ((with_reducible refine gate_callee (f := 21) rfl ?_); refine goesL_ (some 11) rfl rfl Try.func21 (by kernel_rfl) rfl #[.slice A0 l0.length c0] rfl (by (try simp only [List.map_toArray, List.map_cons, List.map_nil]); first | done | rfl | (simp only [List.length_drop, List.length_take]; rfl)) ?_; (with_reducible refine (prioryref14_Check.calls k _ _ l0 t290 _ ?side1 ?side2 A6.out).mono ?_); (case side1 => repeat (first | exact (Kd.C_below HR0.out HB.out) | (with_reducible refine Kd.C_alloc ?_ _) | (with_reducible refine Kd.C_drewN ?_ _) | (with_reducible refine Kd.C_drew ?_))); (case side2 => exact HC0.out); rintro e w' ⟨rfl, ⟨nd, rfl⟩⟩; refine ⟨_, rfl, ?_⟩) | (go_at_call 26; (with_reducible refine (prioryref14_Fits.calls a1 a2 t291 _ A8.out).mono ?_); rintro e w' ⟨rfl, ⟨nd, rfl⟩⟩))
      go_meet
      case rel => exact ⟨_, (!t291), (by first | rfl | (simp; done) | (simp [*]; done)), H', ⟨by first | omega | exact Nat.le_refl _⟩, ⟨by repeat (first | (with_reducible first | exact HB.out | apply below_alloc | apply pw_below_drewN | apply below_drew1) | exact HB.out)⟩⟩
    · rw [if_neg c7] at H
      have c7b0 : (t290 == 0) = false := beq_eq_false_iff_ne.mpr c7
      have c7b1 : (t290 != 0) = true := bne_iff_ne.mpr c7
      (first | rw [c7b0] | (simp only [i64_w, i32_w]; rw [c7b0]) | skip)
      have H' := Aside0.mk H
      clear H
      go_wp2_with (first | ((with_reducible refine gate_callee (f := 21) rfl ?_); refine goesL_ (some 11) rfl rfl Try.func21 (by kernel_rfl) rfl #[.slice A0 l0.length c0] rfl (by (try simp only [List.map_toArray, List.map_cons, List.map_nil]); first | done | rfl | (simp only [List.length_drop, List.length_take]; rfl)) ?_; (with_reducible refine (prioryref14_Check.calls k _ _ l0 t290 _ ?side1 ?side2 A6.out).mono ?_); (case side1 => repeat (first | exact (Kd.C_below HR0.out HB.out) | (with_reducible refine Kd.C_alloc ?_ _) | (with_reducible refine Kd.C_drewN ?_ _) | (with_reducible refine Kd.C_drew ?_))); (case side2 => exact HC0.out); rintro e w' ⟨rfl, ⟨nd, rfl⟩⟩; refine ⟨_, rfl, ?_⟩))
      go_meet
      case rel => exact ⟨_, (true), (by first | rfl | (simp; done) | (simp [*]; done)), H', ⟨by first | omega | exact Nat.le_refl _⟩, ⟨by repeat (first | (with_reducible first | exact HB.out | apply below_alloc | apply pw_below_drewN | apply below_drew1) | exact HB.out)⟩⟩
  case rest =>
    clear HC5
    try clear c1
    try clear c2
    try clear p2
    try clear c7
    try clear c7b0
    try clear c7b1
    obtain ⟨kq, x18_4, rfl, HA, HJ4, HB⟩ := hcut
    cases kq with
    | zero => exact absurd HA.out (by simp [prioryref14_Set.j0])
    | succ kj4 =>
      have H := HA.out
      clear HA
      simp only [prioryref14_Set.j0] at H
      by_cases c9 : x18_4 = true
      · subst c9
        have H1 : (some (([] : List (S24)), 2)) = some (r1, r2) := by rw [if_pos rfl] at H; exact H
        clear H
        have H := H1
        clear H1
        simp only [Option.some.injEq, Prod.mk.injEq] at H
        obtain ⟨rfl, rfl⟩ := H
        go_wp2
        go_ret2
        exact ⟨_, by first | rfl | (simp [errW_none, errW_some] <;> rfl) | (simp [*, errW_none, errW_some] <;> rfl), by first | exact Kd.R_nil _ _ _ _ _ | exact Kd.N_nil _ _ _ _ _ | exact Kd.V_nil _ _ _ _ _ | exact Kd.Q_nil _ _ _ _ _ | exact Kd.S_nil _ _ _ _ _, by repeat (first | (with_reducible first | exact HB.out | apply below_alloc | apply pw_below_drewN | apply below_drew1) | exact HB.out)⟩
      · replace c9 := Bool.eq_false_iff.mpr c9
        subst c9
        have H1 : ((prioryref14_Covers.f kj4 l0 a1 a2).bind fun t292 => (if t292 = true then ((prioryref14_less.f kj4 l0 a1 a2).bind fun t293 => ((prioryref14_with.f kj4 t293 a1 a2 a3).bind fun t296 => ((prioryref14_few.f t296).bind fun bt299 => (some (bt299.1, bt299.2))))) else (some (([] : List (S24)), 4)))) = some (r1, r2) := by rw [if_neg (show ¬ (false = true) by decide)] at H; exact H
        clear H
        have H := H1
        clear H1
        replace H := Option.bind_eq_some_iff.mp H
        obtain ⟨t292, A100, H⟩ := H
        replace H : (if t292 = true then ((prioryref14_less.f kj4 l0 a1 a2).bind fun t293 => ((prioryref14_with.f kj4 t293 a1 a2 a3).bind fun t296 => ((prioryref14_few.f t296).bind fun bt299 => (some (bt299.1, bt299.2))))) else (some (([] : List (S24)), 4))) = some (r1, r2) := H
        have A10 := Aside0.mk A100
        clear A100
        by_cases c11 : t292 = true
        · subst c11
          have H1 : ((prioryref14_less.f kj4 l0 a1 a2).bind fun t293 => ((prioryref14_with.f kj4 t293 a1 a2 a3).bind fun t296 => ((prioryref14_few.f t296).bind fun bt299 => (some (bt299.1, bt299.2))))) = some (r1, r2) := by rw [if_pos rfl] at H; exact H
          clear H
          have H := H1
          clear H1
          replace H := Option.bind_eq_some_iff.mp H
          obtain ⟨t293, A120, H⟩ := H
          replace H : ((prioryref14_with.f kj4 t293 a1 a2 a3).bind fun t296 => ((prioryref14_few.f t296).bind fun bt299 => (some (bt299.1, bt299.2)))) = some (r1, r2) := H
          have A12 := Aside0.mk A120
          clear A120
          replace H := Option.bind_eq_some_iff.mp H
          obtain ⟨t296, A130, H⟩ := H
          replace H : ((prioryref14_few.f t296).bind fun bt299 => (some (bt299.1, bt299.2))) = some (r1, r2) := H
          have A13 := Aside0.mk A130
          clear A130
          replace H := Option.bind_eq_some_iff.mp H
          obtain ⟨⟨t299, t302⟩, A140, H⟩ := H
          replace H : (some (t299, t302)) = some (r1, r2) := H
          have A14 := Aside0.mk A140
          clear A140
          simp only [Option.some.injEq, Prod.mk.injEq] at H
          obtain ⟨rfl, rfl⟩ := H
          go_wp2_with (first | ((with_reducible refine gate_callee (f := 23) rfl ?_); refine goesL_ (some 22) rfl rfl Try.func23 (by kernel_rfl) rfl #[.slice A0 l0.length c0, .int .i64 a1, .int .i64 a2] rfl (by (try simp only [List.map_toArray, List.map_cons, List.map_nil]); first | done | rfl | (simp only [List.length_drop, List.length_take]; rfl)) ?_; (with_reducible refine (prioryref14_Covers.calls kj4 _ _ l0 a1 a2 true _ ?side1 ?side2 A10.out).mono ?_); (case side1 => repeat (first | exact (Kd.C_below HR0.out HB.out) | (with_reducible refine Kd.C_alloc ?_ _) | (with_reducible refine Kd.C_drewN ?_ _) | (with_reducible refine Kd.C_drew ?_))); (case side2 => exact HC0.out); rintro e w' ⟨rfl, ⟨nd, rfl⟩⟩; refine ⟨_, rfl, ?_⟩) | ((with_reducible refine gate_callee (f := 35) rfl ?_); refine goesL_ (some 27) rfl rfl Try.func35 (by kernel_rfl) rfl #[.slice A0 l0.length c0, .int .i64 a1, .int .i64 a2] rfl (by (try simp only [List.map_toArray, List.map_cons, List.map_nil]); first | done | rfl | (simp only [List.length_drop, List.length_take]; rfl)) ?_; (with_reducible refine (prioryref14_less.calls kj4 _ _ l0 a1 a2 t293 _ ?side1 ?side2 A12.out).mono ?_); (case side1 => repeat (first | exact (Kd.C_below HR0.out (by repeat (first | (with_reducible first | exact HB.out | apply below_alloc | apply pw_below_drewN | apply below_drew1) | exact HB.out))) | (with_reducible refine Kd.C_alloc ?_ _) | (with_reducible refine Kd.C_drewN ?_ _) | (with_reducible refine Kd.C_drew ?_))); (case side2 => exact HC0.out); rintro e w15 ⟨v294, rfl, ho0, hb⟩; refine ⟨_, rfl, ?_⟩; have n0_ := Aside0.mk (Kd.R_lower ho0 (below_size (by repeat (first | (with_reducible first | exact HB.out | apply below_alloc | apply pw_below_drewN | apply below_drew1) | exact HB.out)))); have n1_ := Aside0.mk (below_step (by repeat (first | (with_reducible first | exact HB.out | apply below_alloc | apply pw_below_drewN | apply below_drew1) | exact HB.out)) hb); clear HB; have HO295 := n0_; have HB := n1_; clear n0_ n1_; (try clear hb); (try clear hb2); (try clear hk); (try clear hi); (try clear ho0); obtain ⟨Ao16, co16, eo16⟩ := Kd.R_slice HO295.out; subst eo16) | ((with_reducible refine gate_callee (f := 33) rfl ?_); refine goesL_ (some 32) rfl rfl Try.func33 (by kernel_rfl) rfl #[.slice Ao16 t293.length co16, .agg #[.int .i64 a1, .int .i64 a2, .bool a3]] rfl (by (try simp only [List.map_toArray, List.map_cons, List.map_nil]); first | done | rfl | (simp only [List.length_drop, List.length_take]; rfl)) ?_; (with_reducible refine (prioryref14_with.calls kj4 _ _ t293 a1 a2 a3 t296 _ ?side1 ?side2 A13.out).mono ?_); (case side1 => repeat (first | exact (Kd.R_reads' HO295.out).2.2 | (with_reducible refine Kd.C_alloc ?_ _) | (with_reducible refine Kd.C_drewN ?_ _) | (with_reducible refine Kd.C_drew ?_))); (case side2 => exact (Kd.R_reads' HO295.out).2.1); rintro e w17 ⟨v297, rfl, ho0, hb⟩; refine ⟨_, rfl, ?_⟩; have n0_ := Aside0.mk (Kd.R_elder' (by (with_reducible repeat (first | apply Kd.R_alloc | apply Kd.R_drewN | apply Kd.R_drew)); exact HO295.out) (Kd.R_base ho0) hb); have n1_ := Aside0.mk (Kd.R_lower (Kd.R_new' ho0 (Kd.R_lt (by (with_reducible repeat (first | apply Kd.R_alloc | apply Kd.R_drewN | apply Kd.R_drew)); exact HO295.out))) (below_size (by repeat (first | (with_reducible first | exact HB.out | apply below_alloc | apply pw_below_drewN | apply below_drew1) | exact HB.out)))); have n2_ := Aside0.mk (below_step (by repeat (first | (with_reducible first | exact HB.out | apply below_alloc | apply pw_below_drewN | apply below_drew1) | exact HB.out)) hb); clear HO295; clear HB; have HO295 := n0_; have HO298 := n1_; have HB := n2_; clear n0_ n1_ n2_; (try clear hb); (try clear hb2); (try clear hk); (try clear hi); (try clear ho0); obtain ⟨Ao18, co18, eo18⟩ := Kd.R_slice HO298.out; subst eo18) | ((with_reducible refine gate_callee (f := 32) rfl ?_); refine goesL_ (some 33) rfl rfl Try.func32 (by kernel_rfl) rfl #[.slice Ao18 t296.length co18] rfl (by (try simp only [List.map_toArray, List.map_cons, List.map_nil]); first | done | rfl | (simp only [List.length_drop, List.length_take]; rfl)) ?_; (with_reducible refine (prioryref14_few.calls (fun k_ => some k_ = (.slice Ao18 t296.length co18 : Value).ownBlock) (.slice Ao18 t296.length co18) t296 t299 t302 w _ ?side1 ?side2 A14.out).mono ?_); (case side1 => repeat (first | (with_reducible first | exact HB.out | apply below_alloc | apply pw_below_drewN | apply below_drew1) | exact HB.out)); (case side2 => exact Kd.R_tight rfl HO298.out); rintro e w19 ⟨v300, rfl, ho0, hb, hkp⟩; refine ⟨_, rfl, ?_⟩; have n0_ := Aside0.mk (Kd.R_mono (ok' := fun k_ => some k_ ≠ (v300 : Value).ownBlock) (Kd.R_keptB (HO295.out) hkp (fun k_ hk_ hs_ => (hk_.2) hs_)) (fun k_ hk_ => fun e_ => Or.elim (ho0.1 k_ e_.symm) (fun hs_ => hk_.2.1 hs_) (fun hn_ => Nat.not_le.2 hk_.2.2 hn_))); have n1_ := Aside0.mk (Kd.R_mono (ok' := fun k_ => some k_ ≠ (.slice Ao16 t293.length co16 : Value).ownBlock) ho0 (fun k_ hk_ => Or.elim hk_ (fun hs_ => fun e_ => (((HO295.out).1 k_ e_.symm).2) hs_) (fun hn_ => (Kd.fresh' (Kd.R_lt (by (with_reducible repeat (first | apply Kd.R_alloc | apply Kd.R_drewN | apply Kd.R_drew)); exact HO295.out)) k_ hn_)))); have n2_ := Aside0.mk (hb); clear HO295; clear HB; clear HO298; have HO295 := n0_; have HO301 := n1_; have HB := n2_; clear n0_ n1_ n2_; (try clear hb); (try clear hkp); (try clear ho0)))
          go_ret2
          exact ⟨_, by first | rfl | (simp [errW_none, errW_some] <;> rfl) | (simp [*, errW_none, errW_some] <;> rfl), by (with_reducible repeat (first | apply Kd.R_alloc | apply Kd.R_drewN | apply Kd.R_drew)); exact Kd.R_mono HO301.out (fun _ hk => trivial), by repeat (first | (with_reducible first | exact HB.out | apply below_alloc | apply pw_below_drewN | apply below_drew1) | exact HB.out)⟩
        · replace c11 := Bool.eq_false_iff.mpr c11
          subst c11
          have H1 : (some (([] : List (S24)), 4)) = some (r1, r2) := by rw [if_neg (show ¬ (false = true) by decide)] at H; exact H
          clear H
          have H := H1
          clear H1
          simp only [Option.some.injEq, Prod.mk.injEq] at H
          obtain ⟨rfl, rfl⟩ := H
          go_wp2_with (first | ((with_reducible refine gate_callee (f := 23) rfl ?_); refine goesL_ (some 22) rfl rfl Try.func23 (by kernel_rfl) rfl #[.slice A0 l0.length c0, .int .i64 a1, .int .i64 a2] rfl (by (try simp only [List.map_toArray, List.map_cons, List.map_nil]); first | done | rfl | (simp only [List.length_drop, List.length_take]; rfl)) ?_; (with_reducible refine (prioryref14_Covers.calls kj4 _ _ l0 a1 a2 false _ ?side1 ?side2 A10.out).mono ?_); (case side1 => repeat (first | exact (Kd.C_below HR0.out HB.out) | (with_reducible refine Kd.C_alloc ?_ _) | (with_reducible refine Kd.C_drewN ?_ _) | (with_reducible refine Kd.C_drew ?_))); (case side2 => exact HC0.out); rintro e w' ⟨rfl, ⟨nd, rfl⟩⟩; refine ⟨_, rfl, ?_⟩))
          go_ret2
          exact ⟨_, by first | rfl | (simp [errW_none, errW_some] <;> rfl) | (simp [*, errW_none, errW_some] <;> rfl), by first | exact Kd.R_nil _ _ _ _ _ | exact Kd.N_nil _ _ _ _ _ | exact Kd.V_nil _ _ _ _ _ | exact Kd.Q_nil _ _ _ _ _ | exact Kd.S_nil _ _ _ _ _, by repeat (first | (with_reducible first | exact HB.out | apply below_alloc | apply pw_below_drewN | apply below_drew1) | exact HB.out)⟩
end Go.Proofs.Ytcblfhoipdbdlaa.PAll

namespace Go.Proofs.Ytcblfhoipdbdlaa.PAll
open Go.RowKit Go.Proofs.YtcblfhoipdbdlaaW.PrintWords Go.Proofs.YtcblfhoipdbdlaaW.PrintLast Go.Proofs.YtcblfhoipdbdlaaW.PrintMore
attribute [local go_sem] max2_int min2_int max_two min_two max_three min_three max_four min_four   -- for this text's walks alone
set_option linter.unusedVariables false
set_option linter.unusedSimpArgs false
/-! ### priorylaw14_RegionCut: function 4 -/
def priorylaw14_RegionCut.f (k : Nat) (l0 : List (S24)) (a1 : Int) (a2 : Int) (a3 : Bool) : Option (Bool) := if (l0.length : Int) > 100 then ((priorylaw14_awake.f k).bind fun t303 => (some t303)) else ((some (([] : List (S24)) : List (S24))).bind fun y304 => (if y304.length + l0.length < 5864062014805 then ((some (y304 ++ l0 : List (S24))).bind fun y307 => ((region_Cut.f k y307 a1 a2).bind fun bt310 => ((prioryref14_Cut.f k l0 a1 a2).bind fun bt314 => ((region_Set.f k y307 a1 a2 a3).bind fun bt318 => ((prioryref14_Set.f k l0 a1 a2 a3).bind fun bt322 => ((prioryref14_Same.f k bt310.1 bt314.1).bind fun t326 => (if t326 = true then (if bt310.2 = bt314.2 then ((prioryref14_Same.f k bt318.1 bt322.1).bind fun t327 => (if t327 = true then (if bt318.2 = bt322.2 then ((prioryref14_Same.f k y307 l0).bind fun t328 => (if t328 = true then ((priorylaw14_awake.f k).bind fun t329 => (some t329)) else (some false))) else (some false)) else (some false))) else (some false)) else (some false)))))))) else (none)))
theorem priorylaw14_RegionCut.mono : ∀ a0 a1 a2 a3 k, LeO (priorylaw14_RegionCut.f k a0 a1 a2 a3) (priorylaw14_RegionCut.f (k + 1) a0 a1 a2 a3) := by
  intro a0 a1 a2 a3 k
  unfold priorylaw14_RegionCut.f
  repeat' first
      | (with_reducible exact priorylaw14_awake.mono _)
      | (with_reducible exact prioryref14_Cut.mono _ _ _ _)
      | (with_reducible exact prioryref14_Same.mono _ _ _)
      | (with_reducible exact prioryref14_Set.mono _ _ _ _ _)
      | (with_reducible exact region_Cut.mono _ _ _ _)
      | (with_reducible exact region_Set.mono _ _ _ _ _)
      | (with_reducible exact LeO.refl _)
      | (with_reducible exact LeO.none _)
      | (with_reducible refine LeO.ite ?_ ?_)
      | (with_reducible refine LeO.bind ?_ (fun _ => ?_))
      | exact priorylaw14_awake.mono _
      | exact prioryref14_Cut.mono _ _ _ _
      | exact prioryref14_Same.mono _ _ _
      | exact prioryref14_Set.mono _ _ _ _ _
      | exact region_Cut.mono _ _ _ _
      | exact region_Set.mono _ _ _ _ _
      | exact LeO.none _
      | refine LeO.ite ?_ ?_
      | refine LeO.bind ?_ (fun _ => ?_)
set_option maxHeartbeats 8000000 in
set_option maxRecDepth 100000 in
theorem priorylaw14_RegionCut.calls (k : Nat) (A0 : Option Addr) (c0 : Nat) (l0 : List (S24)) (a1 : Int) (a2 : Int) (a3 : Bool) (r : Bool) (w : World) (hr0 : Kd.C k24 w A0 l0.length l0) (hc0 : l0.length ≤ c0) (h : priorylaw14_RegionCut.f k l0 a1 a2 a3 = some r) :
    Calls Try.prog 4 #[.slice A0 l0.length c0, .int .i64 a1, .int .i64 a2, .bool a3] w fun e w' => e = .returned (.bool r) ∧ Below w.heap.size w w' := by
  have HR0 := Aside0.mk hr0
  have HC0 := Aside0.mk hc0
  clear hr0 hc0
  have HB := Aside0.mk (Below.refl w.heap.size w)
  have H : (if (l0.length : Int) > 100 then ((priorylaw14_awake.f k).bind fun t303 => (some t303)) else ((some (([] : List (S24)) : List (S24))).bind fun y304 => (if y304.length + l0.length < 5864062014805 then ((some (y304 ++ l0 : List (S24))).bind fun y307 => ((region_Cut.f k y307 a1 a2).bind fun bt310 => ((prioryref14_Cut.f k l0 a1 a2).bind fun bt314 => ((region_Set.f k y307 a1 a2 a3).bind fun bt318 => ((prioryref14_Set.f k l0 a1 a2 a3).bind fun bt322 => ((prioryref14_Same.f k bt310.1 bt314.1).bind fun t326 => (if t326 = true then (if bt310.2 = bt314.2 then ((prioryref14_Same.f k bt318.1 bt322.1).bind fun t327 => (if t327 = true then (if bt318.2 = bt322.2 then ((prioryref14_Same.f k y307 l0).bind fun t328 => (if t328 = true then ((priorylaw14_awake.f k).bind fun t329 => (some t329)) else (some false))) else (some false)) else (some false))) else (some false)) else (some false)))))))) else (none)))) = some r := h
  clear h
  by_cases c5 : (l0.length : Int) > 100
  · rw [if_pos c5] at H
    have c5b0 : decide (100 < (l0.length : Int)) = true := decide_eq_true c5
    have c5b1 : decide (100 < l0.length) = true := decide_eq_true (by omega)
    clear c5
    replace H := Option.bind_eq_some_iff.mp H
    obtain ⟨t303, A60, H⟩ := H
    replace H : (some t303) = some r := H
    have A6 := Aside0.mk A60
    clear A60
    obtain rfl := Option.some.inj H
    go_enter Try.func4, Try.ntmps4
    go_wp2_with (first | ((with_reducible refine gate_callee (f := 10) rfl ?_); refine goesL_ (some 21) rfl rfl Try.func10 (by kernel_rfl) rfl #[] rfl (by (try simp only [List.map_toArray, List.map_cons, List.map_nil]); first | done | rfl | (simp only [List.length_drop, List.length_take]; rfl)) ?_; (with_reducible refine (priorylaw14_awake.calls k  t303 _ A6.out).mono ?_); rintro e w7 ⟨rfl, hb⟩; refine ⟨_, rfl, ?_⟩; have n0_ := Aside0.mk (below_step (by repeat (first | (with_reducible first | exact HB.out | apply below_alloc | apply pw_below_drewN | apply below_drew1) | exact HB.out)) hb); clear HB; have HB := n0_; clear n0_; (try clear hb); (try clear hb2); (try clear hk); (try clear hi)))
    go_ret
    exact ⟨by first | rfl | (simp [errW_none, errW_some] <;> rfl) | (simp [*, errW_none, errW_some] <;> rfl), by repeat (first | (with_reducible first | exact HB.out | apply below_alloc | apply pw_below_drewN | apply below_drew1) | exact HB.out)⟩
  · rw [if_neg c5] at H
    have c5b0 : decide (100 < (l0.length : Int)) = false := decide_eq_false c5
    have c5b1 : decide (100 < l0.length) = false := decide_eq_false (by omega)
    clear c5
    obtain ⟨y304, hy304⟩ : ∃ y_ : List (S24), y_ = (([] : List (S24))) := ⟨_, rfl⟩
    replace H : (if y304.length + l0.length < 5864062014805 then ((some (y304 ++ l0 : List (S24))).bind fun y307 => ((region_Cut.f k y307 a1 a2).bind fun bt310 => ((prioryref14_Cut.f k l0 a1 a2).bind fun bt314 => ((region_Set.f k y307 a1 a2 a3).bind fun bt318 => ((prioryref14_Set.f k l0 a1 a2 a3).bind fun bt322 => ((prioryref14_Same.f k bt310.1 bt314.1).bind fun t326 => (if t326 = true then (if bt310.2 = bt314.2 then ((prioryref14_Same.f k bt318.1 bt322.1).bind fun t327 => (if t327 = true then (if bt318.2 = bt322.2 then ((prioryref14_Same.f k y307 l0).bind fun t328 => (if t328 = true then ((priorylaw14_awake.f k).bind fun t329 => (some t329)) else (some false))) else (some false)) else (some false))) else (some false)) else (some false)))))))) else (none)) = some r := by first | (rw [hy304]; with_reducible exact H) | (have H2_ := (Option.bind_some _ _).symm.trans H; rw [hy304]; with_reducible exact H2_) | (have H2_ := (Option.bind_some _ _).symm.trans H; with_reducible exact H2_) | with_reducible exact H | (rw [hy304]; exact H) | exact H
    have Ny304 := Aside0.mk hy304
    clear hy304
    by_cases c8 : y304.length + l0.length < 5864062014805
    · rw [if_pos c8] at H
      have LMc8 := Aside0.mk c8
      clear c8
      obtain ⟨y307, hy307⟩ : ∃ y_ : List (S24), y_ = (y304 ++ l0) := ⟨_, rfl⟩
      replace H : ((region_Cut.f k y307 a1 a2).bind fun bt310 => ((prioryref14_Cut.f k l0 a1 a2).bind fun bt314 => ((region_Set.f k y307 a1 a2 a3).bind fun bt318 => ((prioryref14_Set.f k l0 a1 a2 a3).bind fun bt322 => ((prioryref14_Same.f k bt310.1 bt314.1).bind fun t326 => (if t326 = true then (if bt310.2 = bt314.2 then ((prioryref14_Same.f k bt318.1 bt322.1).bind fun t327 => (if t327 = true then (if bt318.2 = bt322.2 then ((prioryref14_Same.f k y307 l0).bind fun t328 => (if t328 = true then ((priorylaw14_awake.f k).bind fun t329 => (some t329)) else (some false))) else (some false)) else (some false))) else (some false)) else (some false))))))) = some r := by first | (rw [hy307]; with_reducible exact H) | (have H2_ := (Option.bind_some _ _).symm.trans H; rw [hy307]; with_reducible exact H2_) | (have H2_ := (Option.bind_some _ _).symm.trans H; with_reducible exact H2_) | with_reducible exact H | (rw [hy307]; exact H) | exact H
      have Ny307 := Aside0.mk hy307
      clear hy307
      replace H := Option.bind_eq_some_iff.mp H
      obtain ⟨⟨t310, t311⟩, A90, H⟩ := H
      replace H : ((prioryref14_Cut.f k l0 a1 a2).bind fun bt314 => ((region_Set.f k y307 a1 a2 a3).bind fun bt318 => ((prioryref14_Set.f k l0 a1 a2 a3).bind fun bt322 => ((prioryref14_Same.f k t310 bt314.1).bind fun t326 => (if t326 = true then (if t311 = bt314.2 then ((prioryref14_Same.f k bt318.1 bt322.1).bind fun t327 => (if t327 = true then (if bt318.2 = bt322.2 then ((prioryref14_Same.f k y307 l0).bind fun t328 => (if t328 = true then ((priorylaw14_awake.f k).bind fun t329 => (some t329)) else (some false))) else (some false)) else (some false))) else (some false)) else (some false)))))) = some r := H
      have A9 := Aside0.mk A90
      clear A90
      replace H := Option.bind_eq_some_iff.mp H
      obtain ⟨⟨t314, t315⟩, A100, H⟩ := H
      replace H : ((region_Set.f k y307 a1 a2 a3).bind fun bt318 => ((prioryref14_Set.f k l0 a1 a2 a3).bind fun bt322 => ((prioryref14_Same.f k t310 t314).bind fun t326 => (if t326 = true then (if t311 = t315 then ((prioryref14_Same.f k bt318.1 bt322.1).bind fun t327 => (if t327 = true then (if bt318.2 = bt322.2 then ((prioryref14_Same.f k y307 l0).bind fun t328 => (if t328 = true then ((priorylaw14_awake.f k).bind fun t329 => (some t329)) else (some false))) else (some false)) else (some false))) else (some false)) else (some false))))) = some r := H
      have A10 := Aside0.mk A100
      clear A100
      replace H := Option.bind_eq_some_iff.mp H
      obtain ⟨⟨t318, t319⟩, A110, H⟩ := H
      replace H : ((prioryref14_Set.f k l0 a1 a2 a3).bind fun bt322 => ((prioryref14_Same.f k t310 t314).bind fun t326 => (if t326 = true then (if t311 = t315 then ((prioryref14_Same.f k t318 bt322.1).bind fun t327 => (if t327 = true then (if t319 = bt322.2 then ((prioryref14_Same.f k y307 l0).bind fun t328 => (if t328 = true then ((priorylaw14_awake.f k).bind fun t329 => (some t329)) else (some false))) else (some false)) else (some false))) else (some false)) else (some false)))) = some r := H
      have A11 := Aside0.mk A110
      clear A110
      replace H := Option.bind_eq_some_iff.mp H
      obtain ⟨⟨t322, t323⟩, A120, H⟩ := H
      replace H : ((prioryref14_Same.f k t310 t314).bind fun t326 => (if t326 = true then (if t311 = t315 then ((prioryref14_Same.f k t318 t322).bind fun t327 => (if t327 = true then (if t319 = t323 then ((prioryref14_Same.f k y307 l0).bind fun t328 => (if t328 = true then ((priorylaw14_awake.f k).bind fun t329 => (some t329)) else (some false))) else (some false)) else (some false))) else (some false)) else (some false))) = some r := H
      have A12 := Aside0.mk A120
      clear A120
      replace H := Option.bind_eq_some_iff.mp H
      obtain ⟨t326, A130, H⟩ := H
      replace H : (if t326 = true then (if t311 = t315 then ((prioryref14_Same.f k t318 t322).bind fun t327 => (if t327 = true then (if t319 = t323 then ((prioryref14_Same.f k y307 l0).bind fun t328 => (if t328 = true then ((priorylaw14_awake.f k).bind fun t329 => (some t329)) else (some false))) else (some false)) else (some false))) else (some false)) else (some false)) = some r := H
      have A13 := Aside0.mk A130
      clear A130
      by_cases c14 : t326 = true
      · subst c14
        have H1 : (if t311 = t315 then ((prioryref14_Same.f k t318 t322).bind fun t327 => (if t327 = true then (if t319 = t323 then ((prioryref14_Same.f k y307 l0).bind fun t328 => (if t328 = true then ((priorylaw14_awake.f k).bind fun t329 => (some t329)) else (some false))) else (some false)) else (some false))) else (some false)) = some r := by rw [if_pos rfl] at H; exact H
        clear H
        have H := H1
        clear H1
        by_cases c15 : t311 = t315
        · rw [if_pos c15] at H
          have c15b0 : (t311 == t315) = true := beq_iff_eq.mpr c15
          have c15b1 : (t311 != t315) = false := bne_eq_false_iff_eq.mpr c15
          clear c15
          replace H := Option.bind_eq_some_iff.mp H
          obtain ⟨t327, A160, H⟩ := H
          replace H : (if t327 = true then (if t319 = t323 then ((prioryref14_Same.f k y307 l0).bind fun t328 => (if t328 = true then ((priorylaw14_awake.f k).bind fun t329 => (some t329)) else (some false))) else (some false)) else (some false)) = some r := H
          have A16 := Aside0.mk A160
          clear A160
          by_cases c17 : t327 = true
          · subst c17
            have H1 : (if t319 = t323 then ((prioryref14_Same.f k y307 l0).bind fun t328 => (if t328 = true then ((priorylaw14_awake.f k).bind fun t329 => (some t329)) else (some false))) else (some false)) = some r := by rw [if_pos rfl] at H; exact H
            clear H
            have H := H1
            clear H1
            by_cases c18 : t319 = t323
            · rw [if_pos c18] at H
              have c18b0 : (t319 == t323) = true := beq_iff_eq.mpr c18
              have c18b1 : (t319 != t323) = false := bne_eq_false_iff_eq.mpr c18
              clear c18
              replace H := Option.bind_eq_some_iff.mp H
              obtain ⟨t328, A190, H⟩ := H
              replace H : (if t328 = true then ((priorylaw14_awake.f k).bind fun t329 => (some t329)) else (some false)) = some r := H
              have A19 := Aside0.mk A190
              clear A190
              by_cases c20 : t328 = true
              · subst c20
                have H1 : ((priorylaw14_awake.f k).bind fun t329 => (some t329)) = some r := by rw [if_pos rfl] at H; exact H
                clear H
                have H := H1
                clear H1
                replace H := Option.bind_eq_some_iff.mp H
                obtain ⟨t329, A210, H⟩ := H
                replace H : (some t329) = some r := H
                have A21 := Aside0.mk A210
                clear A210
                obtain rfl := Option.some.inj H
                go_enter Try.func4, Try.ntmps4
                go_wp2_with (first | ((with_reducible refine gate_dst (N := 22) rfl ?_); refine Kd.R_lit k24 _ 24 ?hg (N := 22) ?hd (xs := ([] : List (S24))) (inner := []) (ok := fun _ => True) (okp := fun _ => True) ?hr ?hp (fun _ hk => hk) trivial (Below.refl _ _) (Nat.le_refl _) (by simp) ?_; (case hd => rfl); (case hg => rfl); (case hr => first | (go_simp; done) | (go_simp; rfl)); (case hp => exact (Reps.none _ _)); intro v305 w22 ho23 hb hg_ hnew_; clear hg_ hnew_; (first | rw [← Ny304.out] at ho23 | (simp only [Int.reduceToNat] at ho23; rw [← Ny304.out] at ho23)); have n0_ := Aside0.mk (Kd.R_lower ho23 (below_size (by repeat (first | (with_reducible first | exact HB.out | apply below_alloc | apply pw_below_drewN | apply below_drew1) | exact HB.out)))); have n1_ := Aside0.mk (below_step (by repeat (first | (with_reducible first | exact HB.out | apply below_alloc | apply pw_below_drewN | apply below_drew1) | exact HB.out)) hb); clear HB; have HO306 := n0_; have HB := n1_; clear n0_ n1_; clear hb ho23) | ((with_reducible refine gate_builtin (b := .append) (xs := #[.tmp 22, .tmp 23]) rfl ?_); at_builtin; refine Kd.R_append_rows k24 (w0 := w) w.heap.size rfl (.tmp 22) (.tmp 23) 22 24 (.agg #[(.int .i64 0), (.int .i64 0), (.bool false)]) 24 rfl Try.underlying22 info24 rfl (by decide) (by omega) v305 y304 l0 _ _ _ (fun _ => True) (fun _ => False) rfl rfl ?aO ?aR (fun _ _ h => h) (fun _ h => h.elim) ?aF ?aB ?aS ?aL ?_; (case aR => repeat (first | exact (Kd.C_below HR0.out HB.out) | (with_reducible refine Kd.C_alloc ?_ _) | (with_reducible refine Kd.C_drewN ?_ _) | (with_reducible refine Kd.C_drew ?_))); (case aB => exact (by repeat (first | (with_reducible first | exact HB.out | apply below_alloc | apply pw_below_drewN | apply below_drew1) | exact HB.out))); (case aF => exact (fun _ _ => trivial)); (case aO => exact (by (with_reducible repeat (first | apply Kd.R_alloc | apply Kd.R_drewN | apply Kd.R_drew)); exact HO306.out)); (case aS => exact (below_size (by repeat (first | (with_reducible first | exact HB.out | apply below_alloc | apply pw_below_drewN | apply below_drew1) | exact HB.out)))); (case aL => have := LMc8.out; omega); intro v308 w24 ho hb hg hat; rw [← Ny307.out] at ho; have n0_ := Aside0.mk (hb); have n1_ := Aside0.mk (ho); clear HB; clear HO306; have HB := n0_; have HO309 := n1_; clear n0_ n1_; clear ho hb hg hat; obtain ⟨Ao25, co25, eo25⟩ := Kd.R_slice HO309.out; subst eo25) | ((with_reducible refine gate_callee (f := 14) rfl ?_); refine goesL_ (some 29) rfl rfl Try.func14 (by kernel_rfl) rfl #[.slice Ao25 y307.length co25, .int .i64 a1, .int .i64 a2] rfl (by (try simp only [List.map_toArray, List.map_cons, List.map_nil]); first | done | rfl | (simp only [List.length_drop, List.length_take]; rfl)) ?_; (with_reducible refine (region_Cut.calls k _ _ y307 a1 a2 t310 t311 _ ?side1 ?side2 A9.out).mono ?_); (case side1 => repeat (first | exact (Kd.R_reads' HO309.out).2.2 | (with_reducible refine Kd.C_alloc ?_ _) | (with_reducible refine Kd.C_drewN ?_ _) | (with_reducible refine Kd.C_drew ?_))); (case side2 => exact (Kd.R_reads' HO309.out).2.1); rintro e w26 ⟨v312, rfl, ho0, hb⟩; refine ⟨_, rfl, ?_⟩; have n0_ := Aside0.mk (Kd.R_elder' (by (with_reducible repeat (first | apply Kd.R_alloc | apply Kd.R_drewN | apply Kd.R_drew)); exact HO309.out) (Kd.R_base ho0) hb); have n1_ := Aside0.mk (Kd.R_lower (Kd.R_new' ho0 (Kd.R_lt (by (with_reducible repeat (first | apply Kd.R_alloc | apply Kd.R_drewN | apply Kd.R_drew)); exact HO309.out))) (below_size (by repeat (first | (with_reducible first | exact HB.out | apply below_alloc | apply pw_below_drewN | apply below_drew1) | exact HB.out)))); have n2_ := Aside0.mk (below_step (by repeat (first | (with_reducible first | exact HB.out | apply below_alloc | apply pw_below_drewN | apply below_drew1) | exact HB.out)) hb); clear HO309; clear HB; have HO309 := n0_; have HO313 := n1_; have HB := n2_; clear n0_ n1_ n2_; (try clear hb); (try clear hb2); (try clear hk); (try clear hi); (try clear ho0)) | ((with_reducible refine gate_callee (f := 15) rfl ?_); refine goesL_ (some 36) rfl rfl Try.func15 (by kernel_rfl) rfl #[.slice A0 l0.length c0, .int .i64 a1, .int .i64 a2] rfl (by (try simp only [List.map_toArray, List.map_cons, List.map_nil]); first | done | rfl | (simp only [List.length_drop, List.length_take]; rfl)) ?_; (with_reducible refine (prioryref14_Cut.calls k _ _ l0 a1 a2 t314 t315 _ ?side1 ?side2 A10.out).mono ?_); (case side1 => repeat (first | exact (Kd.C_below HR0.out HB.out) | (with_reducible refine Kd.C_alloc ?_ _) | (with_reducible refine Kd.C_drewN ?_ _) | (with_reducible refine Kd.C_drew ?_))); (case side2 => exact HC0.out); rintro e w27 ⟨v316, rfl, ho0, hb⟩; refine ⟨_, rfl, ?_⟩; have n0_ := Aside0.mk (Kd.R_elder' (by (with_reducible repeat (first | apply Kd.R_alloc | apply Kd.R_drewN | apply Kd.R_drew)); exact HO309.out) (Kd.R_base ho0) hb); have n1_ := Aside0.mk (Kd.R_elder' (by (with_reducible repeat (first | apply Kd.R_alloc | apply Kd.R_drewN | apply Kd.R_drew)); exact HO313.out) (Kd.R_base ho0) hb); have n2_ := Aside0.mk (Kd.R_lower (Kd.R_new' (Kd.R_new' ho0 (Kd.R_lt (by (with_reducible repeat (first | apply Kd.R_alloc | apply Kd.R_drewN | apply Kd.R_drew)); exact HO309.out))) (Kd.R_lt (by (with_reducible repeat (first | apply Kd.R_alloc | apply Kd.R_drewN | apply Kd.R_drew)); exact HO313.out))) (below_size (by repeat (first | (with_reducible first | exact HB.out | apply below_alloc | apply pw_below_drewN | apply below_drew1) | exact HB.out)))); have n3_ := Aside0.mk (below_step (by repeat (first | (with_reducible first | exact HB.out | apply below_alloc | apply pw_below_drewN | apply below_drew1) | exact HB.out)) hb); clear HO309; clear HO313; clear HB; have HO309 := n0_; have HO313 := n1_; have HO317 := n2_; have HB := n3_; clear n0_ n1_ n2_ n3_; (try clear hb); (try clear hb2); (try clear hk); (try clear hi); (try clear ho0)) | ((with_reducible refine gate_callee (f := 16) rfl ?_); refine goesL_ (some 44) rfl rfl Try.func16 (by kernel_rfl) rfl #[.slice Ao25 y307.length co25, .int .i64 a1, .int .i64 a2, .bool a3] rfl (by (try simp only [List.map_toArray, List.map_cons, List.map_nil]); first | done | rfl | (simp only [List.length_drop, List.length_take]; rfl)) ?_; (with_reducible refine (region_Set.calls k _ _ y307 a1 a2 a3 t318 t319 _ ?side1 ?side2 A11.out).mono ?_); (case side1 => repeat (first | exact (Kd.R_reads' HO309.out).2.2 | (with_reducible refine Kd.C_alloc ?_ _) | (with_reducible refine Kd.C_drewN ?_ _) | (with_reducible refine Kd.C_drew ?_))); (case side2 => exact (Kd.R_reads' HO309.out).2.1); rintro e w28 ⟨v320, rfl, ho0, hb⟩; refine ⟨_, rfl, ?_⟩; have n0_ := Aside0.mk (Kd.R_elder' (by (with_reducible repeat (first | apply Kd.R_alloc | apply Kd.R_drewN | apply Kd.R_drew)); exact HO309.out) (Kd.R_base ho0) hb); have n1_ := Aside0.mk (Kd.R_elder' (by (with_reducible repeat (first | apply Kd.R_alloc | apply Kd.R_drewN | apply Kd.R_drew)); exact HO313.out) (Kd.R_base ho0) hb); have n2_ := Aside0.mk (Kd.R_elder' (by (with_reducible repeat (first | apply Kd.R_alloc | apply Kd.R_drewN | apply Kd.R_drew)); exact HO317.out) (Kd.R_base ho0) hb); have n3_ := Aside0.mk (Kd.R_lower (Kd.R_new' (Kd.R_new' (Kd.R_new' ho0 (Kd.R_lt (by (with_reducible repeat (first | apply Kd.R_alloc | apply Kd.R_drewN | apply Kd.R_drew)); exact HO309.out))) (Kd.R_lt (by (with_reducible repeat (first | apply Kd.R_alloc | apply Kd.R_drewN | apply Kd.R_drew)); exact HO313.out))) (Kd.R_lt (by (with_reducible repeat (first | apply Kd.R_alloc | apply Kd.R_drewN | apply Kd.R_drew)); exact HO317.out))) (below_size (by repeat (first | (with_reducible first | exact HB.out | apply below_alloc | apply pw_below_drewN | apply below_drew1) | exact HB.out)))); have n4_ := Aside0.mk (below_step (by repeat (first | (with_reducible first | exact HB.out | apply below_alloc | apply pw_below_drewN | apply below_drew1) | exact HB.out)) hb); clear HO309; clear HO313; clear HO317; clear HB; have HO309 := n0_; have HO313 := n1_; have HO317 := n2_; have HO321 := n3_; have HB := n4_; clear n0_ n1_ n2_ n3_ n4_; (try clear hb); (try clear hb2); (try clear hk); (try clear hi); (try clear ho0)) | ((with_reducible refine gate_callee (f := 17) rfl ?_); refine goesL_ (some 52) rfl rfl Try.func17 (by kernel_rfl) rfl #[.slice A0 l0.length c0, .int .i64 a1, .int .i64 a2, .bool a3] rfl (by (try simp only [List.map_toArray, List.map_cons, List.map_nil]); first | done | rfl | (simp only [List.length_drop, List.length_take]; rfl)) ?_; (with_reducible refine (prioryref14_Set.calls k _ _ l0 a1 a2 a3 t322 t323 _ ?side1 ?side2 A12.out).mono ?_); (case side1 => repeat (first | exact (Kd.C_below HR0.out HB.out) | (with_reducible refine Kd.C_alloc ?_ _) | (with_reducible refine Kd.C_drewN ?_ _) | (with_reducible refine Kd.C_drew ?_))); (case side2 => exact HC0.out); rintro e w29 ⟨v324, rfl, ho0, hb⟩; refine ⟨_, rfl, ?_⟩; have n0_ := Aside0.mk (Kd.R_elder' (by (with_reducible repeat (first | apply Kd.R_alloc | apply Kd.R_drewN | apply Kd.R_drew)); exact HO309.out) (Kd.R_base ho0) hb); have n1_ := Aside0.mk (Kd.R_elder' (by (with_reducible repeat (first | apply Kd.R_alloc | apply Kd.R_drewN | apply Kd.R_drew)); exact HO313.out) (Kd.R_base ho0) hb); have n2_ := Aside0.mk (Kd.R_elder' (by (with_reducible repeat (first | apply Kd.R_alloc | apply Kd.R_drewN | apply Kd.R_drew)); exact HO317.out) (Kd.R_base ho0) hb); have n3_ := Aside0.mk (Kd.R_elder' (by (with_reducible repeat (first | apply Kd.R_alloc | apply Kd.R_drewN | apply Kd.R_drew)); exact HO321.out) (Kd.R_base ho0) hb); have n4_ := Aside0.mk (Kd.R_lower (Kd.R_new' (Kd.R_new' (Kd.R_new' (Kd.R_new' ho0 (Kd.R_lt (by (with_reducible repeat (first | apply Kd.R_alloc | apply Kd.R_drewN | apply Kd.R_drew)); exact HO309.out))) (Kd.R_lt (by (with_reducible repeat (first | apply Kd.R_alloc | apply Kd.R_drewN | apply Kd.R_drew)); exact HO313.out))) (Kd.R_lt (by (with_reducible repeat (first | apply Kd.R_alloc | apply Kd.R_drewN | apply Kd.R_drew)); exact HO317.out))) (Kd.R_lt (by (with_reducible repeat (first | apply Kd.R_alloc | apply Kd.R_drewN | apply Kd.R_drew)); exact HO321.out))) (below_size (by repeat (first | (with_reducible first | exact HB.out | apply below_alloc | apply pw_below_drewN | apply below_drew1) | exact HB.out)))); have n5_ := Aside0.mk (below_step (by repeat (first | (with_reducible first | exact HB.out | apply below_alloc | apply pw_below_drewN | apply below_drew1) | exact HB.out)) hb); clear HO309; clear HO313; clear HO317; clear HO321; clear HB; have HO309 := n0_; have HO313 := n1_; have HO317 := n2_; have HO321 := n3_; have HO325 := n4_; have HB := n5_; clear n0_ n1_ n2_ n3_ n4_ n5_; (try clear hb); (try clear hb2); (try clear hk); (try clear hi); (try clear ho0); obtain ⟨Ao30, co30, eo30⟩ := Kd.R_slice HO313.out; subst eo30; obtain ⟨Ao31, co31, eo31⟩ := Kd.R_slice HO317.out; subst eo31) | ((with_reducible refine gate_callee (f := 13) rfl ?_); refine goesL_ (some 57) rfl rfl Try.func13 (by kernel_rfl) rfl #[.slice Ao30 t310.length co30, .slice Ao31 t314.length co31] rfl (by (try simp only [List.map_toArray, List.map_cons, List.map_nil]); first | done | rfl | (simp only [List.length_drop, List.length_take]; rfl)) ?_; (with_reducible refine (prioryref14_Same.calls k _ _ t310 _ _ t314 true _ ?side1 ?side2 ?side3 ?side4 A13.out).mono ?_); (case side1 => repeat (first | exact (Kd.R_reads' HO313.out).2.2 | (with_reducible refine Kd.C_alloc ?_ _) | (with_reducible refine Kd.C_drewN ?_ _) | (with_reducible refine Kd.C_drew ?_))); (case side2 => exact (Kd.R_reads' HO313.out).2.1); (case side3 => repeat (first | exact (Kd.R_reads' HO317.out).2.2 | (with_reducible refine Kd.C_alloc ?_ _) | (with_reducible refine Kd.C_drewN ?_ _) | (with_reducible refine Kd.C_drew ?_))); (case side4 => exact (Kd.R_reads' HO317.out).2.1); rintro e w' ⟨rfl, ⟨nd, rfl⟩⟩; refine ⟨_, rfl, ?_⟩; obtain ⟨Ao32, co32, eo32⟩ := Kd.R_slice HO321.out; subst eo32; obtain ⟨Ao33, co33, eo33⟩ := Kd.R_slice HO325.out; subst eo33) | (go_at_call 13; (with_reducible refine (prioryref14_Same.calls k _ _ t318 _ _ t322 true _ ?side1 ?side2 ?side3 ?side4 A16.out).mono ?_); (case side1 => repeat (first | exact (Kd.R_reads' HO321.out).2.2 | (with_reducible refine Kd.C_alloc ?_ _) | (with_reducible refine Kd.C_drewN ?_ _) | (with_reducible refine Kd.C_drew ?_))); (case side2 => exact (Kd.R_reads' HO321.out).2.1); (case side3 => repeat (first | exact (Kd.R_reads' HO325.out).2.2 | (with_reducible refine Kd.C_alloc ?_ _) | (with_reducible refine Kd.C_drewN ?_ _) | (with_reducible refine Kd.C_drew ?_))); (case side4 => exact (Kd.R_reads' HO325.out).2.1); rintro e w' ⟨rfl, ⟨nd, rfl⟩⟩) | (go_at_call 13; (with_reducible refine (prioryref14_Same.calls k _ _ y307 _ _ l0 true _ ?side1 ?side2 ?side3 ?side4 A19.out).mono ?_); (case side1 => repeat (first | exact (Kd.R_reads' HO309.out).2.2 | (with_reducible refine Kd.C_alloc ?_ _) | (with_reducible refine Kd.C_drewN ?_ _) | (with_reducible refine Kd.C_drew ?_))); (case side2 => exact (Kd.R_reads' HO309.out).2.1); (case side3 => repeat (first | exact (Kd.C_below HR0.out (by repeat (first | (with_reducible first | exact HB.out | apply below_alloc | apply pw_below_drewN | apply below_drew1) | exact HB.out))) | (with_reducible refine Kd.C_alloc ?_ _) | (with_reducible refine Kd.C_drewN ?_ _) | (with_reducible refine Kd.C_drew ?_))); (case side4 => exact HC0.out); rintro e w' ⟨rfl, ⟨nd, rfl⟩⟩) | (go_at_call 10; (with_reducible refine (priorylaw14_awake.calls k  t329 _ A21.out).mono ?_); rintro e w34 ⟨rfl, hb⟩; have n0_ := Aside0.mk (Kd.R_below (by (with_reducible repeat (first | apply Kd.R_alloc | apply Kd.R_drewN | apply Kd.R_drew)); exact HO309.out) hb); have n1_ := Aside0.mk (Kd.R_below (by (with_reducible repeat (first | apply Kd.R_alloc | apply Kd.R_drewN | apply Kd.R_drew)); exact HO313.out) hb); have n2_ := Aside0.mk (Kd.R_below (by (with_reducible repeat (first | apply Kd.R_alloc | apply Kd.R_drewN | apply Kd.R_drew)); exact HO317.out) hb); have n3_ := Aside0.mk (Kd.R_below (by (with_reducible repeat (first | apply Kd.R_alloc | apply Kd.R_drewN | apply Kd.R_drew)); exact HO321.out) hb); have n4_ := Aside0.mk (Kd.R_below (by (with_reducible repeat (first | apply Kd.R_alloc | apply Kd.R_drewN | apply Kd.R_drew)); exact HO325.out) hb); have n5_ := Aside0.mk (below_step (by repeat (first | (with_reducible first | exact HB.out | apply below_alloc | apply pw_below_drewN | apply below_drew1) | exact HB.out)) hb); clear HO309; clear HO313; clear HO317; clear HO321; clear HO325; clear HB; have HO309 := n0_; have HO313 := n1_; have HO317 := n2_; have HO321 := n3_; have HO325 := n4_; have HB := n5_; clear n0_ n1_ n2_ n3_ n4_ n5_; (try clear hb); (try clear hb2); (try clear hk); (try clear hi)))
                go_ret
                exact ⟨by first | rfl | (simp [errW_none, errW_some] <;> rfl) | (simp [*, errW_none, errW_some] <;> rfl), by repeat (first | (with_reducible first | exact HB.out | apply below_alloc | apply pw_below_drewN | apply below_drew1) | exact HB.out)⟩
              · replace c20 := Bool.eq_false_iff.mpr c20
                subst c20
                have H1 : (some false) = some r := by rw [if_neg (show ¬ (false = true) by decide)] at H; exact H
                clear H
                have H := H1
                clear H1
                obtain rfl := Option.some.inj H
                go_enter Try.func4, Try.ntmps4
                go_wp2_with (first | ((with_reducible refine gate_dst (N := 22) rfl ?_); refine Kd.R_lit k24 _ 24 ?hg (N := 22) ?hd (xs := ([] : List (S24))) (inner := []) (ok := fun _ => True) (okp := fun _ => True) ?hr ?hp (fun _ hk => hk) trivial (Below.refl _ _) (Nat.le_refl _) (by simp) ?_; (case hd => rfl); (case hg => rfl); (case hr => first | (go_simp; done) | (go_simp; rfl)); (case hp => exact (Reps.none _ _)); intro v305 w35 ho36 hb hg_ hnew_; clear hg_ hnew_; (first | rw [← Ny304.out] at ho36 | (simp only [Int.reduceToNat] at ho36; rw [← Ny304.out] at ho36)); have n0_ := Aside0.mk (Kd.R_lower ho36 (below_size (by repeat (first | (with_reducible first | exact HB.out | apply below_alloc | apply pw_below_drewN | apply below_drew1) | exact HB.out)))); have n1_ := Aside0.mk (below_step (by repeat (first | (with_reducible first | exact HB.out | apply below_alloc | apply pw_below_drewN | apply below_drew1) | exact HB.out)) hb); clear HB; have HO306 := n0_; have HB := n1_; clear n0_ n1_; clear hb ho36) | ((with_reducible refine gate_builtin (b := .append) (xs := #[.tmp 22, .tmp 23]) rfl ?_); at_builtin; refine Kd.R_append_rows k24 (w0 := w) w.heap.size rfl (.tmp 22) (.tmp 23) 22 24 (.agg #[(.int .i64 0), (.int .i64 0), (.bool false)]) 24 rfl Try.underlying22 info24 rfl (by decide) (by omega) v305 y304 l0 _ _ _ (fun _ => True) (fun _ => False) rfl rfl ?aO ?aR (fun _ _ h => h) (fun _ h => h.elim) ?aF ?aB ?aS ?aL ?_; (case aR => repeat (first | exact (Kd.C_below HR0.out HB.out) | (with_reducible refine Kd.C_alloc ?_ _) | (with_reducible refine Kd.C_drewN ?_ _) | (with_reducible refine Kd.C_drew ?_))); (case aB => exact (by repeat (first | (with_reducible first | exact HB.out | apply below_alloc | apply pw_below_drewN | apply below_drew1) | exact HB.out))); (case aF => exact (fun _ _ => trivial)); (case aO => exact (by (with_reducible repeat (first | apply Kd.R_alloc | apply Kd.R_drewN | apply Kd.R_drew)); exact HO306.out)); (case aS => exact (below_size (by repeat (first | (with_reducible first | exact HB.out | apply below_alloc | apply pw_below_drewN | apply below_drew1) | exact HB.out)))); (case aL => have := LMc8.out; omega); intro v308 w37 ho hb hg hat; rw [← Ny307.out] at ho; have n0_ := Aside0.mk (hb); have n1_ := Aside0.mk (ho); clear HB; clear HO306; have HB := n0_; have HO309 := n1_; clear n0_ n1_; clear ho hb hg hat; obtain ⟨Ao38, co38, eo38⟩ := Kd.R_slice HO309.out; subst eo38) | ((with_reducible refine gate_callee (f := 14) rfl ?_); refine goesL_ (some 29) rfl rfl Try.func14 (by kernel_rfl) rfl #[.slice Ao38 y307.length co38, .int .i64 a1, .int .i64 a2] rfl (by (try simp only [List.map_toArray, List.map_cons, List.map_nil]); first | done | rfl | (simp only [List.length_drop, List.length_take]; rfl)) ?_; (with_reducible refine (region_Cut.calls k _ _ y307 a1 a2 t310 t311 _ ?side1 ?side2 A9.out).mono ?_); (case side1 => repeat (first | exact (Kd.R_reads' HO309.out).2.2 | (with_reducible refine Kd.C_alloc ?_ _) | (with_reducible refine Kd.C_drewN ?_ _) | (with_reducible refine Kd.C_drew ?_))); (case side2 => exact (Kd.R_reads' HO309.out).2.1); rintro e w39 ⟨v312, rfl, ho0, hb⟩; refine ⟨_, rfl, ?_⟩; have n0_ := Aside0.mk (Kd.R_elder' (by (with_reducible repeat (first | apply Kd.R_alloc | apply Kd.R_drewN | apply Kd.R_drew)); exact HO309.out) (Kd.R_base ho0) hb); have n1_ := Aside0.mk (Kd.R_lower (Kd.R_new' ho0 (Kd.R_lt (by (with_reducible repeat (first | apply Kd.R_alloc | apply Kd.R_drewN | apply Kd.R_drew)); exact HO309.out))) (below_size (by repeat (first | (with_reducible first | exact HB.out | apply below_alloc | apply pw_below_drewN | apply below_drew1) | exact HB.out)))); have n2_ := Aside0.mk (below_step (by repeat (first | (with_reducible first | exact HB.out | apply below_alloc | apply pw_below_drewN | apply below_drew1) | exact HB.out)) hb); clear HO309; clear HB; have HO309 := n0_; have HO313 := n1_; have HB := n2_; clear n0_ n1_ n2_; (try clear hb); (try clear hb2); (try clear hk); (try clear hi); (try clear ho0)) | ((with_reducible refine gate_callee (f := 15) rfl ?_); refine goesL_ (some 36) rfl rfl Try.func15 (by kernel_rfl) rfl #[.slice A0 l0.length c0, .int .i64 a1, .int .i64 a2] rfl (by (try simp only [List.map_toArray, List.map_cons, List.map_nil]); first | done | rfl | (simp only [List.length_drop, List.length_take]; rfl)) ?_; (with_reducible refine (prioryref14_Cut.calls k _ _ l0 a1 a2 t314 t315 _ ?side1 ?side2 A10.out).mono ?_); (case side1 => repeat (first | exact (Kd.C_below HR0.out HB.out) | (with_reducible refine Kd.C_alloc ?_ _) | (with_reducible refine Kd.C_drewN ?_ _) | (with_reducible refine Kd.C_drew ?_))); (case side2 => exact HC0.out); rintro e w40 ⟨v316, rfl, ho0, hb⟩; refine ⟨_, rfl, ?_⟩; have n0_ := Aside0.mk (Kd.R_elder' (by (with_reducible repeat (first | apply Kd.R_alloc | apply Kd.R_drewN | apply Kd.R_drew)); exact HO309.out) (Kd.R_base ho0) hb); have n1_ := Aside0.mk (Kd.R_elder' (by (with_reducible repeat (first | apply Kd.R_alloc | apply Kd.R_drewN | apply Kd.R_drew)); exact HO313.out) (Kd.R_base ho0) hb); have n2_ := Aside0.mk (Kd.R_lower (Kd.R_new' (Kd.R_new' ho0 (Kd.R_lt (by (with_reducible repeat (first | apply Kd.R_alloc | apply Kd.R_drewN | apply Kd.R_drew)); exact HO309.out))) (Kd.R_lt (by (with_reducible repeat (first | apply Kd.R_alloc | apply Kd.R_drewN | apply Kd.R_drew)); exact HO313.out))) (below_size (by repeat (first | (with_reducible first | exact HB.out | apply below_alloc | apply pw_below_drewN | apply below_drew1) | exact HB.out)))); have n3_ := Aside0.mk (below_step (by repeat (first | (with_reducible first | exact HB.out | apply below_alloc | apply pw_below_drewN | apply below_drew1) | exact HB.out)) hb); clear HO309; clear HO313; clear HB; have HO309 := n0_; have HO313 := n1_; have HO317 := n2_; have HB := n3_; clear n0_ n1_ n2_ n3_; (try clear hb); (try clear hb2); (try clear hk); (try clear hi); (try clear ho0)) | ((with_reducible refine gate_callee (f := 16) rfl ?_); refine goesL_ (some 44) rfl rfl Try.func16 (by kernel_rfl) rfl #[.slice Ao38 y307.length co38, .int .i64 a1, .int .i64 a2, .bool a3] rfl (by (try simp only [List.map_toArray, List.map_cons, List.map_nil]); first | done | rfl | (simp only [List.length_drop, List.length_take]; rfl)) ?_; (with_reducible refine (region_Set.calls k _ _ y307 a1 a2 a3 t318 t319 _ ?side1 ?side2 A11.out).mono ?_); (case side1 => repeat (first | exact (Kd.R_reads' HO309.out).2.2 | (with_reducible refine Kd.C_alloc ?_ _) | (with_reducible refine Kd.C_drewN ?_ _) | (with_reducible refine Kd.C_drew ?_))); (case side2 => exact (Kd.R_reads' HO309.out).2.1); rintro e w41 ⟨v320, rfl, ho0, hb⟩; refine ⟨_, rfl, ?_⟩; have n0_ := Aside0.mk (Kd.R_elder' (by (with_reducible repeat (first | apply Kd.R_alloc | apply Kd.R_drewN | apply Kd.R_drew)); exact HO309.out) (Kd.R_base ho0) hb); have n1_ := Aside0.mk (Kd.R_elder' (by (with_reducible repeat (first | apply Kd.R_alloc | apply Kd.R_drewN | apply Kd.R_drew)); exact HO313.out) (Kd.R_base ho0) hb); have n2_ := Aside0.mk (Kd.R_elder' (by (with_reducible repeat (first | apply Kd.R_alloc | apply Kd.R_drewN | apply Kd.R_drew)); exact HO317.out) (Kd.R_base ho0) hb); have n3_ := Aside0.mk (Kd.R_lower (Kd.R_new' (Kd.R_new' (Kd.R_new' ho0 (Kd.R_lt (by (with_reducible repeat (first | apply Kd.R_alloc | apply Kd.R_drewN | apply Kd.R_drew)); exact HO309.out))) (Kd.R_lt (by (with_reducible repeat (first | apply Kd.R_alloc | apply Kd.R_drewN | apply Kd.R_drew)); exact HO313.out))) (Kd.R_lt (by (with_reducible repeat (first | apply Kd.R_alloc | apply Kd.R_drewN | apply Kd.R_drew)); exact HO317.out))) (below_size (by repeat (first | (with_reducible first | exact HB.out | apply below_alloc | apply pw_below_drewN | apply below_drew1) | exact HB.out)))); have n4_ := Aside0.mk (below_step (by repeat (first | (with_reducible first | exact HB.out | apply below_alloc | apply pw_below_drewN | apply below_drew1) | exact HB.out)) hb); clear HO309; clear HO313; clear HO317; clear HB; have HO309 := n0_; have HO313 := n1_; have HO317 := n2_; have HO321 := n3_; have HB := n4_; clear n0_ n1_ n2_ n3_ n4_; (try clear hb); (try clear hb2); (try clear hk); (try clear hi); (try clear ho0)) | ((with_reducible refine gate_callee (f := 17) rfl ?_); refine goesL_ (some 52) rfl rfl Try.func17 (by kernel_rfl) rfl #[.slice A0 l0.length c0, .int .i64 a1, .int .i64 a2, .bool a3] rfl (by (try simp only [List.map_toArray, List.map_cons, List.map_nil]); first | done | rfl | (simp only [List.length_drop, List.length_take]; rfl)) ?_; (with_reducible refine (prioryref14_Set.calls k _ _ l0 a1 a2 a3 t322 t323 _ ?side1 ?side2 A12.out).mono ?_); (case side1 => repeat (first | exact (Kd.C_below HR0.out HB.out) | (with_reducible refine Kd.C_alloc ?_ _) | (with_reducible refine Kd.C_drewN ?_ _) | (with_reducible refine Kd.C_drew ?_))); (case side2 => exact HC0.out); rintro e w42 ⟨v324, rfl, ho0, hb⟩; refine ⟨_, rfl, ?_⟩; have n0_ := Aside0.mk (Kd.R_elder' (by (with_reducible repeat (first | apply Kd.R_alloc | apply Kd.R_drewN | apply Kd.R_drew)); exact HO309.out) (Kd.R_base ho0) hb); have n1_ := Aside0.mk (Kd.R_elder' (by (with_reducible repeat (first | apply Kd.R_alloc | apply Kd.R_drewN | apply Kd.R_drew)); exact HO313.out) (Kd.R_base ho0) hb); have n2_ := Aside0.mk (Kd.R_elder' (by (with_reducible repeat (first | apply Kd.R_alloc | apply Kd.R_drewN | apply Kd.R_drew)); exact HO317.out) (Kd.R_base ho0) hb); have n3_ := Aside0.mk (Kd.R_elder' (by (with_reducible repeat (first | apply Kd.R_alloc | apply Kd.R_drewN | apply Kd.R_drew)); exact HO321.out) (Kd.R_base ho0) hb); have n4_ := Aside0.mk (Kd.R_lower (Kd.R_new' (Kd.R_new' (Kd.R_new' (Kd.R_new' ho0 (Kd.R_lt (by (with_reducible repeat (first | apply Kd.R_alloc | apply Kd.R_drewN | apply Kd.R_drew)); exact HO309.out))) (Kd.R_lt (by (with_reducible repeat (first | apply Kd.R_alloc | apply Kd.R_drewN | apply Kd.R_drew)); exact HO313.out))) (Kd.R_lt (by (with_reducible repeat (first | apply Kd.R_alloc | apply Kd.R_drewN | apply Kd.R_drew)); exact HO317.out))) (Kd.R_lt (by (with_reducible repeat (first | apply Kd.R_alloc | apply Kd.R_drewN | apply Kd.R_drew)); exact HO321.out))) (below_size (by repeat (first | (with_reducible first | exact HB.out | apply below_alloc | apply pw_below_drewN | apply below_drew1) | exact HB.out)))); have n5_ := Aside0.mk (below_step (by repeat (first | (with_reducible first | exact HB.out | apply below_alloc | apply pw_below_drewN | apply below_drew1) | exact HB.out)) hb); clear HO309; clear HO313; clear HO317; clear HO321; clear HB; have HO309 := n0_; have HO313 := n1_; have HO317 := n2_; have HO321 := n3_; have HO325 := n4_; have HB := n5_; clear n0_ n1_ n2_ n3_ n4_ n5_; (try clear hb); (try clear hb2); (try clear hk); (try clear hi); (try clear ho0); obtain ⟨Ao43, co43, eo43⟩ := Kd.R_slice HO313.out; subst eo43; obtain ⟨Ao44, co44, eo44⟩ := Kd.R_slice HO317.out; subst eo44) | ((with_reducible refine gate_callee (f := 13) rfl ?_); refine goesL_ (some 57) rfl rfl Try.func13 (by kernel_rfl) rfl #[.slice Ao43 t310.length co43, .slice Ao44 t314.length co44] rfl (by (try simp only [List.map_toArray, List.map_cons, List.map_nil]); first | done | rfl | (simp only [List.length_drop, List.length_take]; rfl)) ?_; (with_reducible refine (prioryref14_Same.calls k _ _ t310 _ _ t314 true _ ?side1 ?side2 ?side3 ?side4 A13.out).mono ?_); (case side1 => repeat (first | exact (Kd.R_reads' HO313.out).2.2 | (with_reducible refine Kd.C_alloc ?_ _) | (with_reducible refine Kd.C_drewN ?_ _) | (with_reducible refine Kd.C_drew ?_))); (case side2 => exact (Kd.R_reads' HO313.out).2.1); (case side3 => repeat (first | exact (Kd.R_reads' HO317.out).2.2 | (with_reducible refine Kd.C_alloc ?_ _) | (with_reducible refine Kd.C_drewN ?_ _) | (with_reducible refine Kd.C_drew ?_))); (case side4 => exact (Kd.R_reads' HO317.out).2.1); rintro e w' ⟨rfl, ⟨nd, rfl⟩⟩; refine ⟨_, rfl, ?_⟩; obtain ⟨Ao45, co45, eo45⟩ := Kd.R_slice HO321.out; subst eo45; obtain ⟨Ao46, co46, eo46⟩ := Kd.R_slice HO325.out; subst eo46) | (go_at_call 13; (with_reducible refine (prioryref14_Same.calls k _ _ t318 _ _ t322 true _ ?side1 ?side2 ?side3 ?side4 A16.out).mono ?_); (case side1 => repeat (first | exact (Kd.R_reads' HO321.out).2.2 | (with_reducible refine Kd.C_alloc ?_ _) | (with_reducible refine Kd.C_drewN ?_ _) | (with_reducible refine Kd.C_drew ?_))); (case side2 => exact (Kd.R_reads' HO321.out).2.1); (case side3 => repeat (first | exact (Kd.R_reads' HO325.out).2.2 | (with_reducible refine Kd.C_alloc ?_ _) | (with_reducible refine Kd.C_drewN ?_ _) | (with_reducible refine Kd.C_drew ?_))); (case side4 => exact (Kd.R_reads' HO325.out).2.1); rintro e w' ⟨rfl, ⟨nd, rfl⟩⟩) | (go_at_call 13; (with_reducible refine (prioryref14_Same.calls k _ _ y307 _ _ l0 false _ ?side1 ?side2 ?side3 ?side4 A19.out).mono ?_); (case side1 => repeat (first | exact (Kd.R_reads' HO309.out).2.2 | (with_reducible refine Kd.C_alloc ?_ _) | (with_reducible refine Kd.C_drewN ?_ _) | (with_reducible refine Kd.C_drew ?_))); (case side2 => exact (Kd.R_reads' HO309.out).2.1); (case side3 => repeat (first | exact (Kd.C_below HR0.out (by repeat (first | (with_reducible first | exact HB.out | apply below_alloc | apply pw_below_drewN | apply below_drew1) | exact HB.out))) | (with_reducible refine Kd.C_alloc ?_ _) | (with_reducible refine Kd.C_drewN ?_ _) | (with_reducible refine Kd.C_drew ?_))); (case side4 => exact HC0.out); rintro e w' ⟨rfl, ⟨nd, rfl⟩⟩))
                go_ret
                exact ⟨by first | rfl | (simp [errW_none, errW_some] <;> rfl) | (simp [*, errW_none, errW_some] <;> rfl), by repeat (first | (with_reducible first | exact HB.out | apply below_alloc | apply pw_below_drewN | apply below_drew1) | exact HB.out)⟩
            · rw [if_neg c18] at H
              have c18b0 : (t319 == t323) = false := beq_eq_false_iff_ne.mpr c18
              have c18b1 : (t319 != t323) = true := bne_iff_ne.mpr c18
              obtain rfl := Option.some.inj H
              go_enter Try.func4, Try.ntmps4
              go_wp2_with (first | ((with_reducible refine gate_dst (N := 22) rfl ?_); refine Kd.R_lit k24 _ 24 ?hg (N := 22) ?hd (xs := ([] : List (S24))) (inner := []) (ok := fun _ => True) (okp := fun _ => True) ?hr ?hp (fun _ hk => hk) trivial (Below.refl _ _) (Nat.le_refl _) (by simp) ?_; (case hd => rfl); (case hg => rfl); (case hr => first | (go_simp; done) | (go_simp; rfl)); (case hp => exact (Reps.none _ _)); intro v305 w47 ho48 hb hg_ hnew_; clear hg_ hnew_; (first | rw [← Ny304.out] at ho48 | (simp only [Int.reduceToNat] at ho48; rw [← Ny304.out] at ho48)); have n0_ := Aside0.mk (Kd.R_lower ho48 (below_size (by repeat (first | (with_reducible first | exact HB.out | apply below_alloc | apply pw_below_drewN | apply below_drew1) | exact HB.out)))); have n1_ := Aside0.mk (below_step (by repeat (first | (with_reducible first | exact HB.out | apply below_alloc | apply pw_below_drewN | apply below_drew1) | exact HB.out)) hb); clear HB; have HO306 := n0_; have HB := n1_; clear n0_ n1_; clear hb ho48) | ((with_reducible refine gate_builtin (b := .append) (xs := #[.tmp 22, .tmp 23]) rfl ?_); at_builtin; refine Kd.R_append_rows k24 (w0 := w) w.heap.size rfl (.tmp 22) (.tmp 23) 22 24 (.agg #[(.int .i64 0), (.int .i64 0), (.bool false)]) 24 rfl Try.underlying22 info24 rfl (by decide) (by omega) v305 y304 l0 _ _ _ (fun _ => True) (fun _ => False) rfl rfl ?aO ?aR (fun _ _ h => h) (fun _ h => h.elim) ?aF ?aB ?aS ?aL ?_; (case aR => repeat (first | exact (Kd.C_below HR0.out HB.out) | (with_reducible refine Kd.C_alloc ?_ _) | (with_reducible refine Kd.C_drewN ?_ _) | (with_reducible refine Kd.C_drew ?_))); (case aB => exact (by repeat (first | (with_reducible first | exact HB.out | apply below_alloc | apply pw_below_drewN | apply below_drew1) | exact HB.out))); (case aF => exact (fun _ _ => trivial)); (case aO => exact (by (with_reducible repeat (first | apply Kd.R_alloc | apply Kd.R_drewN | apply Kd.R_drew)); exact HO306.out)); (case aS => exact (below_size (by repeat (first | (with_reducible first | exact HB.out | apply below_alloc | apply pw_below_drewN | apply below_drew1) | exact HB.out)))); (case aL => have := LMc8.out; omega); intro v308 w49 ho hb hg hat; rw [← Ny307.out] at ho; have n0_ := Aside0.mk (hb); have n1_ := Aside0.mk (ho); clear HB; clear HO306; have HB := n0_; have HO309 := n1_; clear n0_ n1_; clear ho hb hg hat; obtain ⟨Ao50, co50, eo50⟩ := Kd.R_slice HO309.out; subst eo50) | ((with_reducible refine gate_callee (f := 14) rfl ?_); refine goesL_ (some 29) rfl rfl Try.func14 (by kernel_rfl) rfl #[.slice Ao50 y307.length co50, .int .i64 a1, .int .i64 a2] rfl (by (try simp only [List.map_toArray, List.map_cons, List.map_nil]); first | done | rfl | (simp only [List.length_drop, List.length_take]; rfl)) ?_; (with_reducible refine (region_Cut.calls k _ _ y307 a1 a2 t310 t311 _ ?side1 ?side2 A9.out).mono ?_); (case side1 => repeat (first | exact (Kd.R_reads' HO309.out).2.2 | (with_reducible refine Kd.C_alloc ?_ _) | (with_reducible refine Kd.C_drewN ?_ _) | (with_reducible refine Kd.C_drew ?_))); (case side2 => exact (Kd.R_reads' HO309.out).2.1); rintro e w51 ⟨v312, rfl, ho0, hb⟩; refine ⟨_, rfl, ?_⟩; have n0_ := Aside0.mk (Kd.R_elder' (by (with_reducible repeat (first | apply Kd.R_alloc | apply Kd.R_drewN | apply Kd.R_drew)); exact HO309.out) (Kd.R_base ho0) hb); have n1_ := Aside0.mk (Kd.R_lower (Kd.R_new' ho0 (Kd.R_lt (by (with_reducible repeat (first | apply Kd.R_alloc | apply Kd.R_drewN | apply Kd.R_drew)); exact HO309.out))) (below_size (by repeat (first | (with_reducible first | exact HB.out | apply below_alloc | apply pw_below_drewN | apply below_drew1) | exact HB.out)))); have n2_ := Aside0.mk (below_step (by repeat (first | (with_reducible first | exact HB.out | apply below_alloc | apply pw_below_drewN | apply below_drew1) | exact HB.out)) hb); clear HO309; clear HB; have HO309 := n0_; have HO313 := n1_; have HB := n2_; clear n0_ n1_ n2_; (try clear hb); (try clear hb2); (try clear hk); (try clear hi); (try clear ho0)) | ((with_reducible refine gate_callee (f := 15) rfl ?_); refine goesL_ (some 36) rfl rfl Try.func15 (by kernel_rfl) rfl #[.slice A0 l0.length c0, .int .i64 a1, .int .i64 a2] rfl (by (try simp only [List.map_toArray, List.map_cons, List.map_nil]); first | done | rfl | (simp only [List.length_drop, List.length_take]; rfl)) ?_; (with_reducible refine (prioryref14_Cut.calls k _ _ l0 a1 a2 t314 t315 _ ?side1 ?side2 A10.out).mono ?_); (case side1 => repeat (first | exact (Kd.C_below HR0.out HB.out) | (with_reducible refine Kd.C_alloc ?_ _) | (with_reducible refine Kd.C_drewN ?_ _) | (with_reducible refine Kd.C_drew ?_))); (case side2 => exact HC0.out); rintro e w52 ⟨v316, rfl, ho0, hb⟩; refine ⟨_, rfl, ?_⟩; have n0_ := Aside0.mk (Kd.R_elder' (by (with_reducible repeat (first | apply Kd.R_alloc | apply Kd.R_drewN | apply Kd.R_drew)); exact HO309.out) (Kd.R_base ho0) hb); have n1_ := Aside0.mk (Kd.R_elder' (by (with_reducible repeat (first | apply Kd.R_alloc | apply Kd.R_drewN | apply Kd.R_drew)); exact HO313.out) (Kd.R_base ho0) hb); have n2_ := Aside0.mk (Kd.R_lower (Kd.R_new' (Kd.R_new' ho0 (Kd.R_lt (by (with_reducible repeat (first | apply Kd.R_alloc | apply Kd.R_drewN | apply Kd.R_drew)); exact HO309.out))) (Kd.R_lt (by (with_reducible repeat (first | apply Kd.R_alloc | apply Kd.R_drewN | apply Kd.R_drew)); exact HO313.out))) (below_size (by repeat (first | (with_reducible first | exact HB.out | apply below_alloc | apply pw_below_drewN | apply below_drew1) | exact HB.out)))); have n3_ := Aside0.mk (below_step (by repeat (first | (with_reducible first | exact HB.out | apply below_alloc | apply pw_below_drewN | apply below_drew1) | exact HB.out)) hb); clear HO309; clear HO313; clear HB; have HO309 := n0_; have HO313 := n1_; have HO317 := n2_; have HB := n3_; clear n0_ n1_ n2_ n3_; (try clear hb); (try clear hb2); (try clear hk); (try clear hi); (try clear ho0)) | ((with_reducible refine gate_callee (f := 16) rfl ?_); refine goesL_ (some 44) rfl rfl Try.func16 (by kernel_rfl) rfl #[.slice Ao50 y307.length co50, .int .i64 a1, .int .i64 a2, .bool a3] rfl (by (try simp only [List.map_toArray, List.map_cons, List.map_nil]); first | done | rfl | (simp only [List.length_drop, List.length_take]; rfl)) ?_; (with_reducible refine (region_Set.calls k _ _ y307 a1 a2 a3 t318 t319 _ ?side1 ?side2 A11.out).mono ?_); (case side1 => repeat (first | exact (Kd.R_reads' HO309.out).2.2 | (with_reducible refine Kd.C_alloc ?_ _) | (with_reducible refine Kd.C_drewN ?_ _) | (with_reducible refine Kd.C_drew ?_))); (case side2 => exact (Kd.R_reads' HO309.out).2.1); rintro e w53 ⟨v320, rfl, ho0, hb⟩; refine ⟨_, rfl, ?_⟩; have n0_ := Aside0.mk (Kd.R_elder' (by (with_reducible repeat (first | apply Kd.R_alloc | apply Kd.R_drewN | apply Kd.R_drew)); exact HO309.out) (Kd.R_base ho0) hb); have n1_ := Aside0.mk (Kd.R_elder' (by (with_reducible repeat (first | apply Kd.R_alloc | apply Kd.R_drewN | apply Kd.R_drew)); exact HO313.out) (Kd.R_base ho0) hb); have n2_ := Aside0.mk (Kd.R_elder' (by (with_reducible repeat (first | apply Kd.R_alloc | apply Kd.R_drewN | apply Kd.R_drew)); exact HO317.out) (Kd.R_base ho0) hb); have n3_ := Aside0.mk (Kd.R_lower (Kd.R_new' (Kd.R_new' (Kd.R_new' ho0 (Kd.R_lt (by (with_reducible repeat (first | apply Kd.R_alloc | apply Kd.R_drewN | apply Kd.R_drew)); exact HO309.out))) (Kd.R_lt (by (with_reducible repeat (first | apply Kd.R_alloc | apply Kd.R_drewN | apply Kd.R_drew)); exact HO313.out))) (Kd.R_lt (by (with_reducible repeat (first | apply Kd.R_alloc | apply Kd.R_drewN | apply Kd.R_drew)); exact HO317.out))) (below_size (by repeat (first | (with_reducible first | exact HB.out | apply below_alloc | apply pw_below_drewN | apply below_drew1) | exact HB.out)))); have n4_ := Aside0.mk (below_step (by repeat (first | (with_reducible first | exact HB.out | apply below_alloc | apply pw_below_drewN | apply below_drew1) | exact HB.out)) hb); clear HO309; clear HO313; clear HO317; clear HB; have HO309 := n0_; have HO313 := n1_; have HO317 := n2_; have HO321 := n3_; have HB := n4_; clear n0_ n1_ n2_ n3_ n4_; (try clear hb); (try clear hb2); (try clear hk); (try clear hi); (try clear ho0)) | ((with_reducible refine gate_callee (f := 17) rfl ?_); refine goesL_ (some 52) rfl rfl Try.func17 (by kernel_rfl) rfl #[.slice A0 l0.length c0, .int .i64 a1, .int .i64 a2, .bool a3] rfl (by (try simp only [List.map_toArray, List.map_cons, List.map_nil]); first | done | rfl | (simp only [List.length_drop, List.length_take]; rfl)) ?_; (with_reducible refine (prioryref14_Set.calls k _ _ l0 a1 a2 a3 t322 t323 _ ?side1 ?side2 A12.out).mono ?_); (case side1 => repeat (first | exact (Kd.C_below HR0.out HB.out) | (with_reducible refine Kd.C_alloc ?_ _) | (with_reducible refine Kd.C_drewN ?_ _) | (with_reducible refine Kd.C_drew ?_))); (case side2 => exact HC0.out); rintro e w54 ⟨v324, rfl, ho0, hb⟩; refine ⟨_, rfl, ?_⟩; have n0_ := Aside0.mk (Kd.R_elder' (by (with_reducible repeat (first | apply Kd.R_alloc | apply Kd.R_drewN | apply Kd.R_drew)); exact HO309.out) (Kd.R_base ho0) hb); have n1_ := Aside0.mk (Kd.R_elder' (by (with_reducible repeat (first | apply Kd.R_alloc | apply Kd.R_drewN | apply Kd.R_drew)); exact HO313.out) (Kd.R_base ho0) hb); have n2_ := Aside0.mk (Kd.R_elder' (by (with_reducible repeat (first | apply Kd.R_alloc | apply Kd.R_drewN | apply Kd.R_drew)); exact HO317.out) (Kd.R_base ho0) hb); have n3_ := Aside0.mk (Kd.R_elder' (by (with_reducible repeat (first | apply Kd.R_alloc | apply Kd.R_drewN | apply Kd.R_drew)); exact HO321.out) (Kd.R_base ho0) hb); have n4_ := Aside0.mk (Kd.R_lower (Kd.R_new' (Kd.R_new' (Kd.R_new' (Kd.R_new' ho0 (Kd.R_lt (by (with_reducible repeat (first | apply Kd.R_alloc | apply Kd.R_drewN | apply Kd.R_drew)); exact HO309.out))) (Kd.R_lt (by (with_reducible repeat (first | apply Kd.R_alloc | apply Kd.R_drewN | apply Kd.R_drew)); exact HO313.out))) (Kd.R_lt (by (with_reducible repeat (first | apply Kd.R_alloc | apply Kd.R_drewN | apply Kd.R_drew)); exact HO317.out))) (Kd.R_lt (by (with_reducible repeat (first | apply Kd.R_alloc | apply Kd.R_drewN | apply Kd.R_drew)); exact HO321.out))) (below_size (by repeat (first | (with_reducible first | exact HB.out | apply below_alloc | apply pw_below_drewN | apply below_drew1) | exact HB.out)))); have n5_ := Aside0.mk (below_step (by repeat (first | (with_reducible first | exact HB.out | apply below_alloc | apply pw_below_drewN | apply below_drew1) | exact HB.out)) hb); clear HO309; clear HO313; clear HO317; clear HO321; clear HB; have HO309 := n0_; have HO313 := n1_; have HO317 := n2_; have HO321 := n3_; have HO325 := n4_; have HB := n5_; clear n0_ n1_ n2_ n3_ n4_ n5_; (try clear hb); (try clear hb2); (try clear hk); (try clear hi); (try clear ho0); obtain ⟨Ao55, co55, eo55⟩ := Kd.R_slice HO313.out; subst eo55; obtain ⟨Ao56, co56, eo56⟩ := Kd.R_slice HO317.out; subst eo56) | ((with_reducible refine gate_callee (f := 13) rfl ?_); refine goesL_ (some 57) rfl rfl Try.func13 (by kernel_rfl) rfl #[.slice Ao55 t310.length co55, .slice Ao56 t314.length co56] rfl (by (try simp only [List.map_toArray, List.map_cons, List.map_nil]); first | done | rfl | (simp only [List.length_drop, List.length_take]; rfl)) ?_; (with_reducible refine (prioryref14_Same.calls k _ _ t310 _ _ t314 true _ ?side1 ?side2 ?side3 ?side4 A13.out).mono ?_); (case side1 => repeat (first | exact (Kd.R_reads' HO313.out).2.2 | (with_reducible refine Kd.C_alloc ?_ _) | (with_reducible refine Kd.C_drewN ?_ _) | (with_reducible refine Kd.C_drew ?_))); (case side2 => exact (Kd.R_reads' HO313.out).2.1); (case side3 => repeat (first | exact (Kd.R_reads' HO317.out).2.2 | (with_reducible refine Kd.C_alloc ?_ _) | (with_reducible refine Kd.C_drewN ?_ _) | (with_reducible refine Kd.C_drew ?_))); (case side4 => exact (Kd.R_reads' HO317.out).2.1); rintro e w' ⟨rfl, ⟨nd, rfl⟩⟩; refine ⟨_, rfl, ?_⟩; obtain ⟨Ao57, co57, eo57⟩ := Kd.R_slice HO321.out; subst eo57; obtain ⟨Ao58, co58, eo58⟩ := Kd.R_slice HO325.out; subst eo58) | (go_at_call 13; (with_reducible refine (prioryref14_Same.calls k _ _ t318 _ _ t322 true _ ?side1 ?side2 ?side3 ?side4 A16.out).mono ?_); (case side1 => repeat (first | exact (Kd.R_reads' HO321.out).2.2 | (with_reducible refine Kd.C_alloc ?_ _) | (with_reducible refine Kd.C_drewN ?_ _) | (with_reducible refine Kd.C_drew ?_))); (case side2 => exact (Kd.R_reads' HO321.out).2.1); (case side3 => repeat (first | exact (Kd.R_reads' HO325.out).2.2 | (with_reducible refine Kd.C_alloc ?_ _) | (with_reducible refine Kd.C_drewN ?_ _) | (with_reducible refine Kd.C_drew ?_))); (case side4 => exact (Kd.R_reads' HO325.out).2.1); rintro e w' ⟨rfl, ⟨nd, rfl⟩⟩))
              go_ret
              exact ⟨by first | rfl | (simp [errW_none, errW_some] <;> rfl) | (simp [*, errW_none, errW_some] <;> rfl), by repeat (first | (with_reducible first | exact HB.out | apply below_alloc | apply pw_below_drewN | apply below_drew1) | exact HB.out)⟩
          · replace c17 := Bool.eq_false_iff.mpr c17
            subst c17
            have H1 : (some false) = some r := by rw [if_neg (show ¬ (false = true) by decide)] at H; exact H
            clear H
            have H := H1
            clear H1
            obtain rfl := Option.some.inj H
            go_enter Try.func4, Try.ntmps4
            go_wp2_with (first | ((with_reducible refine gate_dst (N := 22) rfl ?_); refine Kd.R_lit k24 _ 24 ?hg (N := 22) ?hd (xs := ([] : List (S24))) (inner := []) (ok := fun _ => True) (okp := fun _ => True) ?hr ?hp (fun _ hk => hk) trivial (Below.refl _ _) (Nat.le_refl _) (by simp) ?_; (case hd => rfl); (case hg => rfl); (case hr => first | (go_simp; done) | (go_simp; rfl)); (case hp => exact (Reps.none _ _)); intro v305 w59 ho60 hb hg_ hnew_; clear hg_ hnew_; (first | rw [← Ny304.out] at ho60 | (simp only [Int.reduceToNat] at ho60; rw [← Ny304.out] at ho60)); have n0_ := Aside0.mk (Kd.R_lower ho60 (below_size (by repeat (first | (with_reducible first | exact HB.out | apply below_alloc | apply pw_below_drewN | apply below_drew1) | exact HB.out)))); have n1_ := Aside0.mk (below_step (by repeat (first | (with_reducible first | exact HB.out | apply below_alloc | apply pw_below_drewN | apply below_drew1) | exact HB.out)) hb); clear HB; have HO306 := n0_; have HB := n1_; clear n0_ n1_; clear hb ho60) | ((with_reducible refine gate_builtin (b := .append) (xs := #[.tmp 22, .tmp 23]) rfl ?_); at_builtin; refine Kd.R_append_rows k24 (w0 := w) w.heap.size rfl (.tmp 22) (.tmp 23) 22 24 (.agg #[(.int .i64 0), (.int .i64 0), (.bool false)]) 24 rfl Try.underlying22 info24 rfl (by decide) (by omega) v305 y304 l0 _ _ _ (fun _ => True) (fun _ => False) rfl rfl ?aO ?aR (fun _ _ h => h) (fun _ h => h.elim) ?aF ?aB ?aS ?aL ?_; (case aR => repeat (first | exact (Kd.C_below HR0.out HB.out) | (with_reducible refine Kd.C_alloc ?_ _) | (with_reducible refine Kd.C_drewN ?_ _) | (with_reducible refine Kd.C_drew ?_))); (case aB => exact (by repeat (first | (with_reducible first | exact HB.out | apply below_alloc | apply pw_below_drewN | apply below_drew1) | exact HB.out))); (case aF => exact (fun _ _ => trivial)); (case aO => exact (by (with_reducible repeat (first | apply Kd.R_alloc | apply Kd.R_drewN | apply Kd.R_drew)); exact HO306.out)); (case aS => exact (below_size (by repeat (first | (with_reducible first | exact HB.out | apply below_alloc | apply pw_below_drewN | apply below_drew1) | exact HB.out)))); (case aL => have := LMc8.out; omega); intro v308 w61 ho hb hg hat; rw [← Ny307.out] at ho; have n0_ := Aside0.mk (hb); have n1_ := Aside0.mk (ho); clear HB; clear HO306; have HB := n0_; have HO309 := n1_; clear n0_ n1_; clear ho hb hg hat; obtain ⟨Ao62, co62, eo62⟩ := Kd.R_slice HO309.out; subst eo62) | ((with_reducible refine gate_callee (f := 14) rfl ?_); refine goesL_ (some 29) rfl rfl Try.func14 (by kernel_rfl) rfl #[.slice Ao62 y307.length co62, .int .i64 a1, .int .i64 a2] rfl (by (try simp only [List.map_toArray, List.map_cons, List.map_nil]); first | done | rfl | (simp only [List.length_drop, List.length_take]; rfl)) ?_; (with_reducible refine (region_Cut.calls k _ _ y307 a1 a2 t310 t311 _ ?side1 ?side2 A9.out).mono ?_); (case side1 => repeat (first | exact (Kd.R_reads' HO309.out).2.2 | (with_reducible refine Kd.C_alloc ?_ _) | (with_reducible refine Kd.C_drewN ?_ _) | (with_reducible refine Kd.C_drew ?_))); (case side2 => exact (Kd.R_reads' HO309.out).2.1); rintro e w63 ⟨v312, rfl, ho0, hb⟩; refine ⟨_, rfl, ?_⟩; have n0_ := Aside0.mk (Kd.R_elder' (by (with_reducible repeat (first | apply Kd.R_alloc | apply Kd.R_drewN | apply Kd.R_drew)); exact HO309.out) (Kd.R_base ho0) hb); have n1_ := Aside0.mk (Kd.R_lower (Kd.R_new' ho0 (Kd.R_lt (by (with_reducible repeat (first | apply Kd.R_alloc | apply Kd.R_drewN | apply Kd.R_drew)); exact HO309.out))) (below_size (by repeat (first | (with_reducible first | exact HB.out | apply below_alloc | apply pw_below_drewN | apply below_drew1) | exact HB.out)))); have n2_ := Aside0.mk (below_step (by repeat (first | (with_reducible first | exact HB.out | apply below_alloc | apply pw_below_drewN | apply below_drew1) | exact HB.out)) hb); clear HO309; clear HB; have HO309 := n0_; have HO313 := n1_; have HB := n2_; clear n0_ n1_ n2_; (try clear hb); (try clear hb2); (try clear hk); (try clear hi); (try clear ho0)) | ((with_reducible refine gate_callee (f := 15) rfl ?_); refine goesL_ (some 36) rfl rfl Try.func15 (by kernel_rfl) rfl #[.slice A0 l0.length c0, .int .i64 a1, .int .i64 a2] rfl (by (try simp only [List.map_toArray, List.map_cons, List.map_nil]); first | done | rfl | (simp only [List.length_drop, List.length_take]; rfl)) ?_; (with_reducible refine (prioryref14_Cut.calls k _ _ l0 a1 a2 t314 t315 _ ?side1 ?side2 A10.out).mono ?_); (case side1 => repeat (first | exact (Kd.C_below HR0.out HB.out) | (with_reducible refine Kd.C_alloc ?_ _) | (with_reducible refine Kd.C_drewN ?_ _) | (with_reducible refine Kd.C_drew ?_))); (case side2 => exact HC0.out); rintro e w64 ⟨v316, rfl, ho0, hb⟩; refine ⟨_, rfl, ?_⟩; have n0_ := Aside0.mk (Kd.R_elder' (by (with_reducible repeat (first | apply Kd.R_alloc | apply Kd.R_drewN | apply Kd.R_drew)); exact HO309.out) (Kd.R_base ho0) hb); have n1_ := Aside0.mk (Kd.R_elder' (by (with_reducible repeat (first | apply Kd.R_alloc | apply Kd.R_drewN | apply Kd.R_drew)); exact HO313.out) (Kd.R_base ho0) hb); have n2_ := Aside0.mk (Kd.R_lower (Kd.R_new' (Kd.R_new' ho0 (Kd.R_lt (by (with_reducible repeat (first | apply Kd.R_alloc | apply Kd.R_drewN | apply Kd.R_drew)); exact HO309.out))) (Kd.R_lt (by (with_reducible repeat (first | apply Kd.R_alloc | apply Kd.R_drewN | apply Kd.R_drew)); exact HO313.out))) (below_size (by repeat (first | (with_reducible first | exact HB.out | apply below_alloc | apply pw_below_drewN | apply below_drew1) | exact HB.out)))); have n3_ := Aside0.mk (below_step (by repeat (first | (with_reducible first | exact HB.out | apply below_alloc | apply pw_below_drewN | apply below_drew1) | exact HB.out)) hb); clear HO309; clear HO313; clear HB; have HO309 := n0_; have HO313 := n1_; have HO317 := n2_; have HB := n3_; clear n0_ n1_ n2_ n3_; (try clear hb); (try clear hb2); (try clear hk); (try clear hi); (try clear ho0)) | ((with_reducible refine gate_callee (f := 16) rfl ?_); refine goesL_ (some 44) rfl rfl Try.func16 (by kernel_rfl) rfl #[.slice Ao62 y307.length co62, .int .i64 a1, .int .i64 a2, .bool a3] rfl (by (try simp only [List.map_toArray, List.map_cons, List.map_nil]); first | done | rfl | (simp only [List.length_drop, List.length_take]; rfl)) ?_; (with_reducible refine (region_Set.calls k _ _ y307 a1 a2 a3 t318 t319 _ ?side1 ?side2 A11.out).mono ?_); (case side1 => repeat (first | exact (Kd.R_reads' HO309.out).2.2 | (with_reducible refine Kd.C_alloc ?_ _) | (with_reducible refine Kd.C_drewN ?_ _) | (with_reducible refine Kd.C_drew ?_))); (case side2 => exact (Kd.R_reads' HO309.out).2.1); rintro e w65 ⟨v320, rfl, ho0, hb⟩; refine ⟨_, rfl, ?_⟩; have n0_ := Aside0.mk (Kd.R_elder' (by (with_reducible repeat (first | apply Kd.R_alloc | apply Kd.R_drewN | apply Kd.R_drew)); exact HO309.out) (Kd.R_base ho0) hb); have n1_ := Aside0.mk (Kd.R_elder' (by (with_reducible repeat (first | apply Kd.R_alloc | apply Kd.R_drewN | apply Kd.R_drew)); exact HO313.out) (Kd.R_base ho0) hb); have n2_ := Aside0.mk (Kd.R_elder' (by (with_reducible repeat (first | apply Kd.R_alloc | apply Kd.R_drewN | apply Kd.R_drew)); exact HO317.out) (Kd.R_base ho0) hb); have n3_ := Aside0.mk (Kd.R_lower (Kd.R_new' (Kd.R_new' (Kd.R_new' ho0 (Kd.R_lt (by (with_reducible repeat (first | apply Kd.R_alloc | apply Kd.R_drewN | apply Kd.R_drew)); exact HO309.out))) (Kd.R_lt (by (with_reducible repeat (first | apply Kd.R_alloc | apply Kd.R_drewN | apply Kd.R_drew)); exact HO313.out))) (Kd.R_lt (by (with_reducible repeat (first | apply Kd.R_alloc | apply Kd.R_drewN | apply Kd.R_drew)); exact HO317.out))) (below_size (by repeat (first | (with_reducible first | exact HB.out | apply below_alloc | apply pw_below_drewN | apply below_drew1) | exact HB.out)))); have n4_ := Aside0.mk (below_step (by repeat (first | (with_reducible first | exact HB.out | apply below_alloc | apply pw_below_drewN | apply below_drew1) | exact HB.out)) hb); clear HO309; clear HO313; clear HO317; clear HB; have HO309 := n0_; have HO313 := n1_; have HO317 := n2_; have HO321 := n3_; have HB := n4_; clear n0_ n1_ n2_ n3_ n4_; (try clear hb); (try clear hb2); (try clear hk); (try clear hi); (try clear ho0)) | ((with_reducible refine gate_callee (f := 17) rfl ?_); refine goesL_ (some 52) rfl rfl Try.func17 (by kernel_rfl) rfl #[.slice A0 l0.length c0, .int .i64 a1, .int .i64 a2, .bool a3] rfl (by (try simp only [List.map_toArray, List.map_cons, List.map_nil]); first | done | rfl | (simp only [List.length_drop, List.length_take]; rfl)) ?_; (with_reducible refine (prioryref14_Set.calls k _ _ l0 a1 a2 a3 t322 t323 _ ?side1 ?side2 A12.out).mono ?_); (case side1 => repeat (first | exact (Kd.C_below HR0.out HB.out) | (with_reducible refine Kd.C_alloc ?_ _) | (with_reducible refine Kd.C_drewN ?_ _) | (with_reducible refine Kd.C_drew ?_))); (case side2 => exact HC0.out); rintro e w66 ⟨v324, rfl, ho0, hb⟩; refine ⟨_, rfl, ?_⟩; have n0_ := Aside0.mk (Kd.R_elder' (by (with_reducible repeat (first | apply Kd.R_alloc | apply Kd.R_drewN | apply Kd.R_drew)); exact HO309.out) (Kd.R_base ho0) hb); have n1_ := Aside0.mk (Kd.R_elder' (by (with_reducible repeat (first | apply Kd.R_alloc | apply Kd.R_drewN | apply Kd.R_drew)); exact HO313.out) (Kd.R_base ho0) hb); have n2_ := Aside0.mk (Kd.R_elder' (by (with_reducible repeat (first | apply Kd.R_alloc | apply Kd.R_drewN | apply Kd.R_drew)); exact HO317.out) (Kd.R_base ho0) hb); have n3_ := Aside0.mk (Kd.R_elder' (by (with_reducible repeat (first | apply Kd.R_alloc | apply Kd.R_drewN | apply Kd.R_drew)); exact HO321.out) (Kd.R_base ho0) hb); have n4_ := Aside0.mk (Kd.R_lower (Kd.R_new' (Kd.R_new' (Kd.R_new' (Kd.R_new' ho0 (Kd.R_lt (by (with_reducible repeat (first | apply Kd.R_alloc | apply Kd.R_drewN | apply Kd.R_drew)); exact HO309.out))) (Kd.R_lt (by (with_reducible repeat (first | apply Kd.R_alloc | apply Kd.R_drewN | apply Kd.R_drew)); exact HO313.out))) (Kd.R_lt (by (with_reducible repeat (first | apply Kd.R_alloc | apply Kd.R_drewN | apply Kd.R_drew)); exact HO317.out))) (Kd.R_lt (by (with_reducible repeat (first | apply Kd.R_alloc | apply Kd.R_drewN | apply Kd.R_drew)); exact HO321.out))) (below_size (by repeat (first | (with_reducible first | exact HB.out | apply below_alloc | apply pw_below_drewN | apply below_drew1) | exact HB.out)))); have n5_ := Aside0.mk (below_step (by repeat (first | (with_reducible first | exact HB.out | apply below_alloc | apply pw_below_drewN | apply below_drew1) | exact HB.out)) hb); clear HO309; clear HO313; clear HO317; clear HO321; clear HB; have HO309 := n0_; have HO313 := n1_; have HO317 := n2_; have HO321 := n3_; have HO325 := n4_; have HB := n5_; clear n0_ n1_ n2_ n3_ n4_ n5_; (try clear hb); (try clear hb2); (try clear hk); (try clear hi); (try clear ho0); obtain ⟨Ao67, co67, eo67⟩ := Kd.R_slice HO313.out; subst eo67; obtain ⟨Ao68, co68, eo68⟩ := Kd.R_slice HO317.out; subst eo68) | ((with_reducible refine gate_callee (f := 13) rfl ?_); refine goesL_ (some 57) rfl rfl Try.func13 (by kernel_rfl) rfl #[.slice Ao67 t310.length co67, .slice Ao68 t314.length co68] rfl (by (try simp only [List.map_toArray, List.map_cons, List.map_nil]); first | done | rfl | (simp only [List.length_drop, List.length_take]; rfl)) ?_; (with_reducible refine (prioryref14_Same.calls k _ _ t310 _ _ t314 true _ ?side1 ?side2 ?side3 ?side4 A13.out).mono ?_); (case side1 => repeat (first | exact (Kd.R_reads' HO313.out).2.2 | (with_reducible refine Kd.C_alloc ?_ _) | (with_reducible refine Kd.C_drewN ?_ _) | (with_reducible refine Kd.C_drew ?_))); (case side2 => exact (Kd.R_reads' HO313.out).2.1); (case side3 => repeat (first | exact (Kd.R_reads' HO317.out).2.2 | (with_reducible refine Kd.C_alloc ?_ _) | (with_reducible refine Kd.C_drewN ?_ _) | (with_reducible refine Kd.C_drew ?_))); (case side4 => exact (Kd.R_reads' HO317.out).2.1); rintro e w' ⟨rfl, ⟨nd, rfl⟩⟩; refine ⟨_, rfl, ?_⟩; obtain ⟨Ao69, co69, eo69⟩ := Kd.R_slice HO321.out; subst eo69; obtain ⟨Ao70, co70, eo70⟩ := Kd.R_slice HO325.out; subst eo70) | (go_at_call 13; (with_reducible refine (prioryref14_Same.calls k _ _ t318 _ _ t322 false _ ?side1 ?side2 ?side3 ?side4 A16.out).mono ?_); (case side1 => repeat (first | exact (Kd.R_reads' HO321.out).2.2 | (with_reducible refine Kd.C_alloc ?_ _) | (with_reducible refine Kd.C_drewN ?_ _) | (with_reducible refine Kd.C_drew ?_))); (case side2 => exact (Kd.R_reads' HO321.out).2.1); (case side3 => repeat (first | exact (Kd.R_reads' HO325.out).2.2 | (with_reducible refine Kd.C_alloc ?_ _) | (with_reducible refine Kd.C_drewN ?_ _) | (with_reducible refine Kd.C_drew ?_))); (case side4 => exact (Kd.R_reads' HO325.out).2.1); rintro e w' ⟨rfl, ⟨nd, rfl⟩⟩))
            go_ret
            exact ⟨by first | rfl | (simp [errW_none, errW_some] <;> rfl) | (simp [*, errW_none, errW_some] <;> rfl), by repeat (first | (with_reducible first | exact HB.out | apply below_alloc | apply pw_below_drewN | apply below_drew1) | exact HB.out)⟩
        · rw [if_neg c15] at H
          have c15b0 : (t311 == t315) = false := beq_eq_false_iff_ne.mpr c15
          have c15b1 : (t311 != t315) = true := bne_iff_ne.mpr c15
          obtain rfl := Option.some.inj H
          go_enter Try.func4, Try.ntmps4
          go_wp2_with (first | ((with_reducible refine gate_dst (N := 22) rfl ?_); refine Kd.R_lit k24 _ 24 ?hg (N := 22) ?hd (xs := ([] : List (S24))) (inner := []) (ok := fun _ => True) (okp := fun _ => True) ?hr ?hp (fun _ hk => hk) trivial (Below.refl _ _) (Nat.le_refl _) (by simp) ?_; (case hd => rfl); (case hg => rfl); (case hr => first | (go_simp; done) | (go_simp; rfl)); (case hp => exact (Reps.none _ _)); intro v305 w71 ho72 hb hg_ hnew_; clear hg_ hnew_; (first | rw [← Ny304.out] at ho72 | (simp only [Int.reduceToNat] at ho72; rw [← Ny304.out] at ho72)); have n0_ := Aside0.mk (Kd.R_lower ho72 (below_size (by repeat (first | (with_reducible first | exact HB.out | apply below_alloc | apply pw_below_drewN | apply below_drew1) | exact HB.out)))); have n1_ := Aside0.mk (below_step (by repeat (first | (with_reducible first | exact HB.out | apply below_alloc | apply pw_below_drewN | apply below_drew1) | exact HB.out)) hb); clear HB; have HO306 := n0_; have HB := n1_; clear n0_ n1_; clear hb ho72) | ((with_reducible refine gate_builtin (b := .append) (xs := #[.tmp 22, .tmp 23]) rfl ?_); at_builtin; refine Kd.R_append_rows k24 (w0 := w) w.heap.size rfl (.tmp 22) (.tmp 23) 22 24 (.agg #[(.int .i64 0), (.int .i64 0), (.bool false)]) 24 rfl Try.underlying22 info24 rfl (by decide) (by omega) v305 y304 l0 _ _ _ (fun _ => True) (fun _ => False) rfl rfl ?aO ?aR (fun _ _ h => h) (fun _ h => h.elim) ?aF ?aB ?aS ?aL ?_; (case aR => repeat (first | exact (Kd.C_below HR0.out HB.out) | (with_reducible refine Kd.C_alloc ?_ _) | (with_reducible refine Kd.C_drewN ?_ _) | (with_reducible refine Kd.C_drew ?_))); (case aB => exact (by repeat (first | (with_reducible first | exact HB.out | apply below_alloc | apply pw_below_drewN | apply below_drew1) | exact HB.out))); (case aF => exact (fun _ _ => trivial)); (case aO => exact (by (with_reducible repeat (first | apply Kd.R_alloc | apply Kd.R_drewN | apply Kd.R_drew)); exact HO306.out)); (case aS => exact (below_size (by repeat (first | (with_reducible first | exact HB.out | apply below_alloc | apply pw_below_drewN | apply below_drew1) | exact HB.out)))); (case aL => have := LMc8.out; omega); intro v308 w73 ho hb hg hat; rw [← Ny307.out] at ho; have n0_ := Aside0.mk (hb); have n1_ := Aside0.mk (ho); clear HB; clear HO306; have HB := n0_; have HO309 := n1_; clear n0_ n1_; clear ho hb hg hat; obtain ⟨Ao74, co74, eo74⟩ := Kd.R_slice HO309.out; subst eo74) | ((with_reducible refine gate_callee (f := 14) rfl ?_); refine goesL_ (some 29) rfl rfl Try.func14 (by kernel_rfl) rfl #[.slice Ao74 y307.length co74, .int .i64 a1, .int .i64 a2] rfl (by (try simp only [List.map_toArray, List.map_cons, List.map_nil]); first | done | rfl | (simp only [List.length_drop, List.length_take]; rfl)) ?_; (with_reducible refine (region_Cut.calls k _ _ y307 a1 a2 t310 t311 _ ?side1 ?side2 A9.out).mono ?_); (case side1 => repeat (first | exact (Kd.R_reads' HO309.out).2.2 | (with_reducible refine Kd.C_alloc ?_ _) | (with_reducible refine Kd.C_drewN ?_ _) | (with_reducible refine Kd.C_drew ?_))); (case side2 => exact (Kd.R_reads' HO309.out).2.1); rintro e w75 ⟨v312, rfl, ho0, hb⟩; refine ⟨_, rfl, ?_⟩; have n0_ := Aside0.mk (Kd.R_elder' (by (with_reducible repeat (first | apply Kd.R_alloc | apply Kd.R_drewN | apply Kd.R_drew)); exact HO309.out) (Kd.R_base ho0) hb); have n1_ := Aside0.mk (Kd.R_lower (Kd.R_new' ho0 (Kd.R_lt (by (with_reducible repeat (first | apply Kd.R_alloc | apply Kd.R_drewN | apply Kd.R_drew)); exact HO309.out))) (below_size (by repeat (first | (with_reducible first | exact HB.out | apply below_alloc | apply pw_below_drewN | apply below_drew1) | exact HB.out)))); have n2_ := Aside0.mk (below_step (by repeat (first | (with_reducible first | exact HB.out | apply below_alloc | apply pw_below_drewN | apply below_drew1) | exact HB.out)) hb); clear HO309; clear HB; have HO309 := n0_; have HO313 := n1_; have HB := n2_; clear n0_ n1_ n2_; (try clear hb); (try clear hb2); (try clear hk); (try clear hi); (try clear ho0)) | ((with_reducible refine gate_callee (f := 15) rfl ?_); refine goesL_ (some 36) rfl rfl Try.func15 (by kernel_rfl) rfl #[.slice A0 l0.length c0, .int .i64 a1, .int .i64 a2] rfl (by (try simp only [List.map_toArray, List.map_cons, List.map_nil]); first | done | rfl | (simp only [List.length_drop, List.length_take]; rfl)) ?_; (with_reducible refine (prioryref14_Cut.calls k _ _ l0 a1 a2 t314 t315 _ ?side1 ?side2 A10.out).mono ?_); (case side1 => repeat (first | exact (Kd.C_below HR0.out HB.out) | (with_reducible refine Kd.C_alloc ?_ _) | (with_reducible refine Kd.C_drewN ?_ _) | (with_reducible refine Kd.C_drew ?_))); (case side2 => exact HC0.out); rintro e w76 ⟨v316, rfl, ho0, hb⟩; refine ⟨_, rfl, ?_⟩; have n0_ := Aside0.mk (Kd.R_elder' (by (with_reducible repeat (first | apply Kd.R_alloc | apply Kd.R_drewN | apply Kd.R_drew)); exact HO309.out) (Kd.R_base ho0) hb); have n1_ := Aside0.mk (Kd.R_elder' (by (with_reducible repeat (first | apply Kd.R_alloc | apply Kd.R_drewN | apply Kd.R_drew)); exact HO313.out) (Kd.R_base ho0) hb); have n2_ := Aside0.mk (Kd.R_lower (Kd.R_new' (Kd.R_new' ho0 (Kd.R_lt (by (with_reducible repeat (first | apply Kd.R_alloc | apply Kd.R_drewN | apply Kd.R_drew)); exact HO309.out))) (Kd.R_lt (by (with_reducible repeat (first | apply Kd.R_alloc | apply Kd.R_drewN | apply Kd.R_drew)); exact HO313.out))) (below_size (by repeat (first | (with_reducible first | exact HB.out | apply below_alloc | apply pw_below_drewN | apply below_drew1) | exact HB.out)))); have n3_ := Aside0.mk (below_step (by repeat (first | (with_reducible first | exact HB.out | apply below_alloc | apply pw_below_drewN | apply below_drew1) | exact HB.out)) hb); clear HO309; clear HO313; clear HB; have HO309 := n0_; have HO313 := n1_; have HO317 := n2_; have HB := n3_; clear n0_ n1_ n2_ n3_; (try clear hb); (try clear hb2); (try clear hk); (try clear hi); (try clear ho0)) | ((with_reducible refine gate_callee (f := 16) rfl ?_); refine goesL_ (some 44) rfl rfl Try.func16 (by kernel_rfl) rfl #[.slice Ao74 y307.length co74, .int .i64 a1, .int .i64 a2, .bool a3] rfl (by (try simp only [List.map_toArray, List.map_cons, List.map_nil]); first | done | rfl | (simp only [List.length_drop, List.length_take]; rfl)) ?_; (with_reducible refine (region_Set.calls k _ _ y307 a1 a2 a3 t318 t319 _ ?side1 ?side2 A11.out).mono ?_); (case side1 => repeat (first | exact (Kd.R_reads' HO309.out).2.2 | (with_reducible refine Kd.C_alloc ?_ _) | (with_reducible refine Kd.C_drewN ?_ _) | (with_reducible refine Kd.C_drew ?_))); (case side2 => exact (Kd.R_reads' HO309.out).2.1); rintro e w77 ⟨v320, rfl, ho0, hb⟩; refine ⟨_, rfl, ?_⟩; have n0_ := Aside0.mk (Kd.R_elder' (by (with_reducible repeat (first | apply Kd.R_alloc | apply Kd.R_drewN | apply Kd.R_drew)); exact HO309.out) (Kd.R_base ho0) hb); have n1_ := Aside0.mk (Kd.R_elder' (by (with_reducible repeat (first | apply Kd.R_alloc | apply Kd.R_drewN | apply Kd.R_drew)); exact HO313.out) (Kd.R_base ho0) hb); have n2_ := Aside0.mk (Kd.R_elder' (by (with_reducible repeat (first | apply Kd.R_alloc | apply Kd.R_drewN | apply Kd.R_drew)); exact HO317.out) (Kd.R_base ho0) hb); have n3_ := Aside0.mk (Kd.R_lower (Kd.R_new' (Kd.R_new' (Kd.R_new' ho0 (Kd.R_lt (by (with_reducible repeat (first | apply Kd.R_alloc | apply Kd.R_drewN | apply Kd.R_drew)); exact HO309.out))) (Kd.R_lt (by (with_reducible repeat (first | apply Kd.R_alloc | apply Kd.R_drewN | apply Kd.R_drew)); exact HO313.out))) (Kd.R_lt (by (with_reducible repeat (first | apply Kd.R_alloc | apply Kd.R_drewN | apply Kd.R_drew)); exact HO317.out))) (below_size (by repeat (first | (with_reducible first | exact HB.out | apply below_alloc | apply pw_below_drewN | apply below_drew1) | exact HB.out)))); have n4_ := Aside0.mk (below_step (by repeat (first | (with_reducible first | exact HB.out | apply below_alloc | apply pw_below_drewN | apply below_drew1) | exact HB.out)) hb); clear HO309; clear HO313; clear HO317; clear HB; have HO309 := n0_; have HO313 := n1_; have HO317 := n2_; have HO321 := n3_; have HB := n4_; clear n0_ n1_ n2_ n3_ n4_; (try clear hb); (try clear hb2); (try clear hk); (try clear hi); (try clear ho0)) | ((with_reducible refine gate_callee (f := 17) rfl ?_); refine goesL_ (some 52) rfl rfl Try.func17 (by kernel_rfl) rfl #[.slice A0 l0.length c0, .int .i64 a1, .int .i64 a2, .bool a3] rfl (by (try simp only [List.map_toArray, List.map_cons, List.map_nil]); first | done | rfl | (simp only [List.length_drop, List.length_take]; rfl)) ?_; (with_reducible refine (prioryref14_Set.calls k _ _ l0 a1 a2 a3 t322 t323 _ ?side1 ?side2 A12.out).mono ?_); (case side1 => repeat (first | exact (Kd.C_below HR0.out HB.out) | (with_reducible refine Kd.C_alloc ?_ _) | (with_reducible refine Kd.C_drewN ?_ _) | (with_reducible refine Kd.C_drew ?_))); (case side2 => exact HC0.out); rintro e w78 ⟨v324, rfl, ho0, hb⟩; refine ⟨_, rfl, ?_⟩; have n0_ := Aside0.mk (Kd.R_elder' (by (with_reducible repeat (first | apply Kd.R_alloc | apply Kd.R_drewN | apply Kd.R_drew)); exact HO309.out) (Kd.R_base ho0) hb); have n1_ := Aside0.mk (Kd.R_elder' (by (with_reducible repeat (first | apply Kd.R_alloc | apply Kd.R_drewN | apply Kd.R_drew)); exact HO313.out) (Kd.R_base ho0) hb); have n2_ := Aside0.mk (Kd.R_elder' (by (with_reducible repeat (first | apply Kd.R_alloc | apply Kd.R_drewN | apply Kd.R_drew)); exact HO317.out) (Kd.R_base ho0) hb); have n3_ := Aside0.mk (Kd.R_elder' (by (with_reducible repeat (first | apply Kd.R_alloc | apply Kd.R_drewN | apply Kd.R_drew)); exact HO321.out) (Kd.R_base ho0) hb); have n4_ := Aside0.mk (Kd.R_lower (Kd.R_new' (Kd.R_new' (Kd.R_new' (Kd.R_new' ho0 (Kd.R_lt (by (with_reducible repeat (first | apply Kd.R_alloc | apply Kd.R_drewN | apply Kd.R_drew)); exact HO309.out))) (Kd.R_lt (by (with_reducible repeat (first | apply Kd.R_alloc | apply Kd.R_drewN | apply Kd.R_drew)); exact HO313.out))) (Kd.R_lt (by (with_reducible repeat (first | apply Kd.R_alloc | apply Kd.R_drewN | apply Kd.R_drew)); exact HO317.out))) (Kd.R_lt (by (with_reducible repeat (first | apply Kd.R_alloc | apply Kd.R_drewN | apply Kd.R_drew)); exact HO321.out))) (below_size (by repeat (first | (with_reducible first | exact HB.out | apply below_alloc | apply pw_below_drewN | apply below_drew1) | exact HB.out)))); have n5_ := Aside0.mk (below_step (by repeat (first | (with_reducible first | exact HB.out | apply below_alloc | apply pw_below_drewN | apply below_drew1) | exact HB.out)) hb); clear HO309; clear HO313; clear HO317; clear HO321; clear HB; have HO309 := n0_; have HO313 := n1_; have HO317 := n2_; have HO321 := n3_; have HO325 := n4_; have HB := n5_; clear n0_ n1_ n2_ n3_ n4_ n5_; (try clear hb); (try clear hb2); (try clear hk); (try clear hi); (try clear ho0); obtain ⟨Ao79, co79, eo79⟩ := Kd.R_slice HO313.out; subst eo79; obtain ⟨Ao80, co80, eo80⟩ := Kd.R_slice HO317.out; subst eo80) | ((with_reducible refine gate_callee (f := 13) rfl ?_); refine goesL_ (some 57) rfl rfl Try.func13 (by kernel_rfl) rfl #[.slice Ao79 t310.length co79, .slice Ao80 t314.length co80] rfl (by (try simp only [List.map_toArray, List.map_cons, List.map_nil]); first | done | rfl | (simp only [List.length_drop, List.length_take]; rfl)) ?_; (with_reducible refine (prioryref14_Same.calls k _ _ t310 _ _ t314 true _ ?side1 ?side2 ?side3 ?side4 A13.out).mono ?_); (case side1 => repeat (first | exact (Kd.R_reads' HO313.out).2.2 | (with_reducible refine Kd.C_alloc ?_ _) | (with_reducible refine Kd.C_drewN ?_ _) | (with_reducible refine Kd.C_drew ?_))); (case side2 => exact (Kd.R_reads' HO313.out).2.1); (case side3 => repeat (first | exact (Kd.R_reads' HO317.out).2.2 | (with_reducible refine Kd.C_alloc ?_ _) | (with_reducible refine Kd.C_drewN ?_ _) | (with_reducible refine Kd.C_drew ?_))); (case side4 => exact (Kd.R_reads' HO317.out).2.1); rintro e w' ⟨rfl, ⟨nd, rfl⟩⟩; refine ⟨_, rfl, ?_⟩))
          go_ret
          exact ⟨by first | rfl | (simp [errW_none, errW_some] <;> rfl) | (simp [*, errW_none, errW_some] <;> rfl), by repeat (first | (with_reducible first | exact HB.out | apply below_alloc | apply pw_below_drewN | apply below_drew1) | exact HB.out)⟩
      · replace c14 := Bool.eq_false_iff.mpr c14
        subst c14
        have H1 : (some false) = some r := by rw [if_neg (show ¬ (false = true) by decide)] at H; exact H
        clear H
        have H := H1
        clear H1
        obtain rfl := Option.some.inj H
        go_enter Try.func4, Try.ntmps4
        go_wp2_with (first | ((with_reducible refine gate_dst (N := 22) rfl ?_); refine Kd.R_lit k24 _ 24 ?hg (N := 22) ?hd (xs := ([] : List (S24))) (inner := []) (ok := fun _ => True) (okp := fun _ => True) ?hr ?hp (fun _ hk => hk) trivial (Below.refl _ _) (Nat.le_refl _) (by simp) ?_; (case hd => rfl); (case hg => rfl); (case hr => first | (go_simp; done) | (go_simp; rfl)); (case hp => exact (Reps.none _ _)); intro v305 w81 ho82 hb hg_ hnew_; clear hg_ hnew_; (first | rw [← Ny304.out] at ho82 | (simp only [Int.reduceToNat] at ho82; rw [← Ny304.out] at ho82)); have n0_ := Aside0.mk (Kd.R_lower ho82 (below_size (by repeat (first | (with_reducible first | exact HB.out | apply below_alloc | apply pw_below_drewN | apply below_drew1) | exact HB.out)))); have n1_ := Aside0.mk (below_step (by repeat (first | (with_reducible first | exact HB.out | apply below_alloc | apply pw_below_drewN | apply below_drew1) | exact HB.out)) hb); clear HB; have HO306 := n0_; have HB := n1_; clear n0_ n1_; clear hb ho82) | ((with_reducible refine gate_builtin (b := .append) (xs := #[.tmp 22, .tmp 23]) rfl ?_); at_builtin; refine Kd.R_append_rows k24 (w0 := w) w.heap.size rfl (.tmp 22) (.tmp 23) 22 24 (.agg #[(.int .i64 0), (.int .i64 0), (.bool false)]) 24 rfl Try.underlying22 info24 rfl (by decide) (by omega) v305 y304 l0 _ _ _ (fun _ => True) (fun _ => False) rfl rfl ?aO ?aR (fun _ _ h => h) (fun _ h => h.elim) ?aF ?aB ?aS ?aL ?_; (case aR => repeat (first | exact (Kd.C_below HR0.out HB.out) | (with_reducible refine Kd.C_alloc ?_ _) | (with_reducible refine Kd.C_drewN ?_ _) | (with_reducible refine Kd.C_drew ?_))); (case aB => exact (by repeat (first | (with_reducible first | exact HB.out | apply below_alloc | apply pw_below_drewN | apply below_drew1) | exact HB.out))); (case aF => exact (fun _ _ => trivial)); (case aO => exact (by (with_reducible repeat (first | apply Kd.R_alloc | apply Kd.R_drewN | apply Kd.R_drew)); exact HO306.out)); (case aS => exact (below_size (by repeat (first | (with_reducible first | exact HB.out | apply below_alloc | apply pw_below_drewN | apply below_drew1) | exact HB.out)))); (case aL => have := LMc8.out; omega); intro v308 w83 ho hb hg hat; rw [← Ny307.out] at ho; have n0_ := Aside0.mk (hb); have n1_ := Aside0.mk (ho); clear HB; clear HO306; have HB := n0_; have HO309 := n1_; clear n0_ n1_; clear ho hb hg hat; obtain ⟨Ao84, co84, eo84⟩ := Kd.R_slice HO309.out; subst eo84) | ((with_reducible refine gate_callee (f := 14) rfl ?_); refine goesL_ (some 29) rfl rfl Try.func14 (by kernel_rfl) rfl #[.slice Ao84 y307.length co84, .int .i64 a1, .int .i64 a2] rfl (by (try simp only [List.map_toArray, List.map_cons, List.map_nil]); first | done | rfl | (simp only [List.length_drop, List.length_take]; rfl)) ?_; (with_reducible refine (region_Cut.calls k _ _ y307 a1 a2 t310 t311 _ ?side1 ?side2 A9.out).mono ?_); (case side1 => repeat (first | exact (Kd.R_reads' HO309.out).2.2 | (with_reducible refine Kd.C_alloc ?_ _) | (with_reducible refine Kd.C_drewN ?_ _) | (with_reducible refine Kd.C_drew ?_))); (case side2 => exact (Kd.R_reads' HO309.out).2.1); rintro e w85 ⟨v312, rfl, ho0, hb⟩; refine ⟨_, rfl, ?_⟩; have n0_ := Aside0.mk (Kd.R_elder' (by (with_reducible repeat (first | apply Kd.R_alloc | apply Kd.R_drewN | apply Kd.R_drew)); exact HO309.out) (Kd.R_base ho0) hb); have n1_ := Aside0.mk (Kd.R_lower (Kd.R_new' ho0 (Kd.R_lt (by (with_reducible repeat (first | apply Kd.R_alloc | apply Kd.R_drewN | apply Kd.R_drew)); exact HO309.out))) (below_size (by repeat (first | (with_reducible first | exact HB.out | apply below_alloc | apply pw_below_drewN | apply below_drew1) | exact HB.out)))); have n2_ := Aside0.mk (below_step (by repeat (first | (with_reducible first | exact HB.out | apply below_alloc | apply pw_below_drewN | apply below_drew1) | exact HB.out)) hb); clear HO309; clear HB; have HO309 := n0_; have HO313 := n1_; have HB := n2_; clear n0_ n1_ n2_; (try clear hb); (try clear hb2); (try clear hk); (try clear hi); (try clear ho0)) | ((with_reducible refine gate_callee (f := 15) rfl ?_); refine goesL_ (some 36) rfl rfl Try.func15 (by kernel_rfl) rfl #[.slice A0 l0.length c0, .int .i64 a1, .int .i64 a2] rfl (by (try simp only [List.map_toArray, List.map_cons, List.map_nil]); first | done | rfl | (simp only [List.length_drop, List.length_take]; rfl)) ?_; (with_reducible refine (prioryref14_Cut.calls k _ _ l0 a1 a2 t314 t315 _ ?side1 ?side2 A10.out).mono ?_); (case side1 => repeat (first | exact (Kd.C_below HR0.out HB.out) | (with_reducible refine Kd.C_alloc ?_ _) | (with_reducible refine Kd.C_drewN ?_ _) | (with_reducible refine Kd.C_drew ?_))); (case side2 => exact HC0.out); rintro e w86 ⟨v316, rfl, ho0, hb⟩; refine ⟨_, rfl, ?_⟩; have n0_ := Aside0.mk (Kd.R_elder' (by (with_reducible repeat (first | apply Kd.R_alloc | apply Kd.R_drewN | apply Kd.R_drew)); exact HO309.out) (Kd.R_base ho0) hb); have n1_ := Aside0.mk (Kd.R_elder' (by (with_reducible repeat (first | apply Kd.R_alloc | apply Kd.R_drewN | apply Kd.R_drew)); exact HO313.out) (Kd.R_base ho0) hb); have n2_ := Aside0.mk (Kd.R_lower (Kd.R_new' (Kd.R_new' ho0 (Kd.R_lt (by (with_reducible repeat (first | apply Kd.R_alloc | apply Kd.R_drewN | apply Kd.R_drew)); exact HO309.out))) (Kd.R_lt (by (with_reducible repeat (first | apply Kd.R_alloc | apply Kd.R_drewN | apply Kd.R_drew)); exact HO313.out))) (below_size (by repeat (first | (with_reducible first | exact HB.out | apply below_alloc | apply pw_below_drewN | apply below_drew1) | exact HB.out)))); have n3_ := Aside0.mk (below_step (by repeat (first | (with_reducible first | exact HB.out | apply below_alloc | apply pw_below_drewN | apply below_drew1) | exact HB.out)) hb); clear HO309; clear HO313; clear HB; have HO309 := n0_; have HO313 := n1_; have HO317 := n2_; have HB := n3_; clear n0_ n1_ n2_ n3_; (try clear hb); (try clear hb2); (try clear hk); (try clear hi); (try clear ho0)) | ((with_reducible refine gate_callee (f := 16) rfl ?_); refine goesL_ (some 44) rfl rfl Try.func16 (by kernel_rfl) rfl #[.slice Ao84 y307.length co84, .int .i64 a1, .int .i64 a2, .bool a3] rfl (by (try simp only [List.map_toArray, List.map_cons, List.map_nil]); first | done | rfl | (simp only [List.length_drop, List.length_take]; rfl)) ?_; (with_reducible refine (region_Set.calls k _ _ y307 a1 a2 a3 t318 t319 _ ?side1 ?side2 A11.out).mono ?_); (case side1 => repeat (first | exact (Kd.R_reads' HO309.out).2.2 | (with_reducible refine Kd.C_alloc ?_ _) | (with_reducible refine Kd.C_drewN ?_ _) | (with_reducible refine Kd.C_drew ?_))); (case side2 => exact (Kd.R_reads' HO309.out).2.1); rintro e w87 ⟨v320, rfl, ho0, hb⟩; refine ⟨_, rfl, ?_⟩; have n0_ := Aside0.mk (Kd.R_elder' (by (with_reducible repeat (first | apply Kd.R_alloc | apply Kd.R_drewN | apply Kd.R_drew)); exact HO309.out) (Kd.R_base ho0) hb); have n1_ := Aside0.mk (Kd.R_elder' (by (with_reducible repeat (first | apply Kd.R_alloc | apply Kd.R_drewN | apply Kd.R_drew)); exact HO313.out) (Kd.R_base ho0) hb); have n2_ := Aside0.mk (Kd.R_elder' (by (with_reducible repeat (first | apply Kd.R_alloc | apply Kd.R_drewN | apply Kd.R_drew)); exact HO317.out) (Kd.R_base ho0) hb); have n3_ := Aside0.mk (Kd.R_lower (Kd.R_new' (Kd.R_new' (Kd.R_new' ho0 (Kd.R_lt (by (with_reducible repeat (first | apply Kd.R_alloc | apply Kd.R_drewN | apply Kd.R_drew)); exact HO309.out))) (Kd.R_lt (by (with_reducible repeat (first | apply Kd.R_alloc | apply Kd.R_drewN | apply Kd.R_drew)); exact HO313.out))) (Kd.R_lt (by (with_reducible repeat (first | apply Kd.R_alloc | apply Kd.R_drewN | apply Kd.R_drew)); exact HO317.out))) (below_size (by repeat (first | (with_reducible first | exact HB.out | apply below_alloc | apply pw_below_drewN | apply below_drew1) | exact HB.out)))); have n4_ := Aside0.mk (below_step (by repeat (first | (with_reducible first | exact HB.out | apply below_alloc | apply pw_below_drewN | apply below_drew1) | exact HB.out)) hb); clear HO309; clear HO313; clear HO317; clear HB; have HO309 := n0_; have HO313 := n1_; have HO317 := n2_; have HO321 := n3_; have HB := n4_; clear n0_ n1_ n2_ n3_ n4_; (try clear hb); (try clear hb2); (try clear hk); (try clear hi); (try clear ho0)) | ((with_reducible refine gate_callee (f := 17) rfl ?_); refine goesL_ (some 52) rfl rfl Try.func17 (by kernel_rfl) rfl #[.slice A0 l0.length c0, .int .i64 a1, .int .i64 a2, .bool a3] rfl (by (try simp only [List.map_toArray, List.map_cons, List.map_nil]); first | done | rfl | (simp only [List.length_drop, List.length_take]; rfl)) ?_; (with_reducible refine (prioryref14_Set.calls k _ _ l0 a1 a2 a3 t322 t323 _ ?side1 ?side2 A12.out).mono ?_); (case side1 => repeat (first | exact (Kd.C_below HR0.out HB.out) | (with_reducible refine Kd.C_alloc ?_ _) | (with_reducible refine Kd.C_drewN ?_ _) | (with_reducible refine Kd.C_drew ?_))); (case side2 => exact HC0.out); rintro e w88 ⟨v324, rfl, ho0, hb⟩; refine ⟨_, rfl, ?_⟩; have n0_ := Aside0.mk (Kd.R_elder' (by (with_reducible repeat (first | apply Kd.R_alloc | apply Kd.R_drewN | apply Kd.R_drew)); exact HO309.out) (Kd.R_base ho0) hb); have n1_ := Aside0.mk (Kd.R_elder' (by (with_reducible repeat (first | apply Kd.R_alloc | apply Kd.R_drewN | apply Kd.R_drew)); exact HO313.out) (Kd.R_base ho0) hb); have n2_ := Aside0.mk (Kd.R_elder' (by (with_reducible repeat (first | apply Kd.R_alloc | apply Kd.R_drewN | apply Kd.R_drew)); exact HO317.out) (Kd.R_base ho0) hb); have n3_ := Aside0.mk (Kd.R_elder' (by (with_reducible repeat (first | apply Kd.R_alloc | apply Kd.R_drewN | apply Kd.R_drew)); exact HO321.out) (Kd.R_base ho0) hb); have n4_ := Aside0.mk (Kd.R_lower (Kd.R_new' (Kd.R_new' (Kd.R_new' (Kd.R_new' ho0 (Kd.R_lt (by (with_reducible repeat (first | apply Kd.R_alloc | apply Kd.R_drewN | apply Kd.R_drew)); exact HO309.out))) (Kd.R_lt (by (with_reducible repeat (first | apply Kd.R_alloc | apply Kd.R_drewN | apply Kd.R_drew)); exact HO313.out))) (Kd.R_lt (by (with_reducible repeat (first | apply Kd.R_alloc | apply Kd.R_drewN | apply Kd.R_drew)); exact HO317.out))) (Kd.R_lt (by (with_reducible repeat (first | apply Kd.R_alloc | apply Kd.R_drewN | apply Kd.R_drew)); exact HO321.out))) (below_size (by repeat (first | (with_reducible first | exact HB.out | apply below_alloc | apply pw_below_drewN | apply below_drew1) | exact HB.out)))); have n5_ := Aside0.mk (below_step (by repeat (first | (with_reducible first | exact HB.out | apply below_alloc | apply pw_below_drewN | apply below_drew1) | exact HB.out)) hb); clear HO309; clear HO313; clear HO317; clear HO321; clear HB; have HO309 := n0_; have HO313 := n1_; have HO317 := n2_; have HO321 := n3_; have HO325 := n4_; have HB := n5_; clear n0_ n1_ n2_ n3_ n4_ n5_; (try clear hb); (try clear hb2); (try clear hk); (try clear hi); (try clear ho0); obtain ⟨Ao89, co89, eo89⟩ := Kd.R_slice HO313.out; subst eo89; obtain ⟨Ao90, co90, eo90⟩ := Kd.R_slice HO317.out; subst eo90) | ((with_reducible refine gate_callee (f := 13) rfl ?_); refine goesL_ (some 57) rfl rfl Try.func13 (by kernel_rfl) rfl #[.slice Ao89 t310.length co89, .slice Ao90 t314.length co90] rfl (by (try simp only [List.map_toArray, List.map_cons, List.map_nil]); first | done | rfl | (simp only [List.length_drop, List.length_take]; rfl)) ?_; (with_reducible refine (prioryref14_Same.calls k _ _ t310 _ _ t314 false _ ?side1 ?side2 ?side3 ?side4 A13.out).mono ?_); (case side1 => repeat (first | exact (Kd.R_reads' HO313.out).2.2 | (with_reducible refine Kd.C_alloc ?_ _) | (with_reducible refine Kd.C_drewN ?_ _) | (with_reducible refine Kd.C_drew ?_))); (case side2 => exact (Kd.R_reads' HO313.out).2.1); (case side3 => repeat (first | exact (Kd.R_reads' HO317.out).2.2 | (with_reducible refine Kd.C_alloc ?_ _) | (with_reducible refine Kd.C_drewN ?_ _) | (with_reducible refine Kd.C_drew ?_))); (case side4 => exact (Kd.R_reads' HO317.out).2.1); rintro e w' ⟨rfl, ⟨nd, rfl⟩⟩; refine ⟨_, rfl, ?_⟩))
        go_ret
        exact ⟨by first | rfl | (simp [errW_none, errW_some] <;> rfl) | (simp [*, errW_none, errW_some] <;> rfl), by repeat (first | (with_reducible first | exact HB.out | apply below_alloc | apply pw_below_drewN | apply below_drew1) | exact HB.out)⟩
    · rw [if_neg c8] at H
      exact absurd H (by simp)
end Go.Proofs.Ytcblfhoipdbdlaa.PAll

namespace Go.Proofs.Ytcblfhoipdbdlaa.PAll
open Go.RowKit Go.Proofs.YtcblfhoipdbdlaaW.PrintWords Go.Proofs.YtcblfhoipdbdlaaW.PrintLast Go.Proofs.YtcblfhoipdbdlaaW.PrintMore
set_option linter.unusedVariables false
set_option linter.unusedSimpArgs false
def pgS : List S24 → Nat → Int
  | [], _ => 0
  | a :: r, n => if a.f0 ≤ n ∧ (n : Int) < a.f0 + a.f1 then wv a.f2 else pgS r n
def NF : Int → Option Bool → List S24 → Prop
  | _, _, [] => True
  | e, lw, a :: r => e ≤ a.f0 ∧ (e = a.f0 → lw ≠ some a.f2) ∧ 1 ≤ a.f1 ∧ a.f0 + a.f1 ≤ 1024 ∧ NF (a.f0 + a.f1) (some a.f2) r
def endS : Int → List S24 → Int
  | e, [] => e
  | _, a :: r => endS (a.f0 + a.f1) r
def lwS : Option Bool → List S24 → Option Bool
  | lw, [] => lw
  | _, a :: r => lwS (some a.f2) r
theorem wv_ne (b : Bool) : wv b ≠ 0 := by cases b <;> decide
theorem wv_inj {a b : Bool} (h : wv a = wv b) : a = b := by cases a <;> cases b <;> first | rfl | (revert h; decide)
theorem wv_two (b : Bool) : (wv b == 2) = b := by cases b <;> rfl
theorem wv_of {x : Int} (h : x = 0 ∨ x = 1 ∨ x = 2) (h0 : x ≠ 0) : wv (x == 2) = x := by
  rcases h with h | h | h
  · exact absurd h h0
  · subst h; rfl
  · subst h; rfl
theorem pgS_cases (l : List S24) (n : Nat) : pgS l n = 0 ∨ pgS l n = 1 ∨ pgS l n = 2 := by
  induction l with
  | nil => exact .inl rfl
  | cons a r ih =>
    unfold pgS
    split
    · cases a.f2 <;> simp [wv]
    · exact ih
theorem NF_ge : ∀ {l : List S24} {e : Int} {lw : Option Bool}, NF e lw l → ∀ a ∈ l, e ≤ a.f0 ∧ 1 ≤ a.f1 ∧ a.f0 + a.f1 ≤ 1024
  | [], _, _, _, _, h => by cases h
  | x :: r, e, lw, h, a, ha => by
    obtain ⟨h1, h2, h3, h4, h5⟩ := h
    rcases List.mem_cons.1 ha with rfl | ha
    · exact ⟨h1, h3, h4⟩
    · have := NF_ge h5 a ha
      exact ⟨by omega, this.2⟩
theorem pgS_none {l : List S24} {n : Nat} (h : ∀ a ∈ l, ¬ (a.f0 ≤ n ∧ (n : Int) < a.f0 + a.f1)) : pgS l n = 0 := by
  induction l with
  | nil => rfl
  | cons a r ih =>
    unfold pgS
    rw [if_neg (h a List.mem_cons_self)]
    exact ih (fun b hb => h b (List.mem_cons_of_mem _ hb))
theorem pgS_lt {l : List S24} {e : Int} {lw : Option Bool} (h : NF e lw l) {n : Nat} (hn : (n : Int) < e) : pgS l n = 0 :=
  pgS_none (fun a ha hc => by have := (NF_ge h a ha).1; omega)
theorem pgS_at {l : List S24} {e : Int} {lw : Option Bool} (h : NF e lw l) {n : Nat} (hn : (n : Int) = e) {w : Bool} (hw : lw = some w) : pgS l n ≠ wv w := by
  cases l with
  | nil => exact fun h => wv_ne w h.symm
  | cons a r =>
    obtain ⟨h1, h2, h3, h4, h5⟩ := h
    unfold pgS
    split
    · rename_i hc
      intro he
      exact h2 (by omega) (by rw [hw, wv_inj he])
    · rename_i hc
      rw [pgS_lt h5 (by omega)]
      exact fun h => wv_ne w h.symm
theorem NF_uniq : ∀ (l m : List S24) (e : Int) (lw : Option Bool), 0 ≤ e → NF e lw l → NF e lw m → (∀ n : Nat, e ≤ n → n < 1024 → pgS l n = pgS m n) → l = m
  | [], [], _, _, _, _, _, _ => rfl
  | [], b :: m, e, lw, he, _, hm, hp => by
    obtain ⟨h1, h2, h3, h4, h5⟩ := hm
    have := hp b.f0.toNat (by omega) (by omega)
    rw [show pgS [] b.f0.toNat = 0 from rfl] at this
    unfold pgS at this
    rw [if_pos (by omega)] at this
    exact absurd this.symm (wv_ne _)
  | a :: l, [], e, lw, he, hl, _, hp => by
    obtain ⟨h1, h2, h3, h4, h5⟩ := hl
    have := hp a.f0.toNat (by omega) (by omega)
    rw [show pgS [] a.f0.toNat = 0 from rfl] at this
    unfold pgS at this
    rw [if_pos (by omega)] at this
    exact absurd this (wv_ne _)
  | a :: l, b :: m, e, lw, he, hl, hm, hp => by
    obtain ⟨a1, a2, a3, a4, a5⟩ := hl
    obtain ⟨b1, b2, b3, b4, b5⟩ := hm
    have hs : a.f0 = b.f0 := by
      rcases Int.lt_trichotomy a.f0 b.f0 with h | h | h
      · exfalso
        have := hp a.f0.toNat (by omega) (by omega)
        unfold pgS at this
        rw [if_pos (by omega), if_neg (by omega), pgS_lt b5 (by omega)] at this
        exact wv_ne _ this
      · exact h
      · exfalso
        have := hp b.f0.toNat (by omega) (by omega)
        unfold pgS at this
        rw [if_neg (by omega), if_pos (by omega), pgS_lt a5 (by omega)] at this
        exact wv_ne _ this.symm
    have hw : a.f2 = b.f2 := by
      have := hp a.f0.toNat (by omega) (by omega)
      unfold pgS at this
      rw [if_pos (by omega), if_pos (by omega)] at this
      exact wv_inj this
    have hm : a.f1 = b.f1 := by
      rcases Int.lt_trichotomy a.f1 b.f1 with h | h | h
      · exfalso
        have := hp (a.f0 + a.f1).toNat (by omega) (by omega)
        unfold pgS at this
        rw [if_neg (by omega), if_pos (by omega), ← hw] at this
        exact pgS_at a5 (by omega) rfl this
      · exact h
      · exfalso
        have := hp (b.f0 + b.f1).toNat (by omega) (by omega)
        unfold pgS at this
        rw [if_pos (by omega), if_neg (by omega), hw] at this
        exact pgS_at b5 (by omega) rfl this.symm
    have hab : a = b := by cases a; cases b; simp only at hs hw hm; subst hs hw hm; rfl
    subst hab
    congr 1
    refine NF_uniq l m (a.f0 + a.f1) (some a.f2) (by omega) a5 b5 (fun n h1 h2 => ?_)
    have := hp n (by omega) h2
    unfold pgS at this
    rwa [if_neg (by omega), if_neg (by omega)] at this
theorem NF_append : ∀ (p s : List S24) (e : Int) (lw : Option Bool), NF e lw (p ++ s) ↔ NF e lw p ∧ NF (endS e p) (lwS lw p) s
  | [], s, e, lw => by simp [NF, endS, lwS]
  | a :: p, s, e, lw => by
    simp only [List.cons_append, NF, endS, lwS]
    rw [NF_append p s]
    constructor
    · rintro ⟨h1, h2, h3, h4, h5, h6⟩; exact ⟨⟨h1, h2, h3, h4, h5⟩, h6⟩
    · rintro ⟨⟨h1, h2, h3, h4, h5⟩, h6⟩; exact ⟨h1, h2, h3, h4, h5, h6⟩
theorem pgS_append (p s : List S24) (n : Nat) : pgS (p ++ s) n = if pgS p n = 0 then pgS s n else pgS p n := by
  induction p with
  | nil => simp [pgS]
  | cons a p ih =>
    simp only [List.cons_append, pgS]
    split
    · rw [if_neg (wv_ne _)]
    · exact ih
theorem endS_append (p s : List S24) : ∀ e, endS e (p ++ s) = endS (endS e p) s := by
  induction p with
  | nil => intro e; rfl
  | cons a p ih => intro e; exact ih _
theorem lwS_append (p s : List S24) : ∀ e, lwS e (p ++ s) = lwS (lwS e p) s := by
  induction p with
  | nil => intro e; rfl
  | cons a p ih => intro e; exact ih _
theorem endS_ge : ∀ {l : List S24} {e : Int} {lw : Option Bool}, NF e lw l → e ≤ endS e l ∧ (∀ a ∈ l, a.f0 + a.f1 ≤ endS e l) ∧ (e ≤ 1024 → endS e l ≤ 1024)
  | [], e, _, _ => ⟨Int.le_refl _, (fun _ h => by cases h), fun h => h⟩
  | x :: r, e, lw, h => by
    obtain ⟨h1, h2, h3, h4, h5⟩ := h
    have := endS_ge h5
    refine ⟨by unfold endS; omega, fun a ha => ?_, fun _ => by unfold endS; exact this.2.2 h4⟩
    unfold endS
    rcases List.mem_cons.1 ha with rfl | ha
    · exact this.1
    · exact this.2.1 a ha
theorem pgS_end {l : List S24} {e : Int} {lw : Option Bool} (h : NF e lw l) {n : Nat} (hn : endS e l ≤ n) : pgS l n = 0 :=
  pgS_none (fun a ha hc => by have := (endS_ge h).2.1 a ha; omega)
theorem pgF_pgS : ∀ (l : List S24) (e : Int) (lw : Option Bool), NF e lw l → ∀ (f : Nat → Int) (n : Nat), (l.foldl (fun f a => fill f a.f0 a.f1 (wv a.f2)) f) n = if pgS l n = 0 then f n else pgS l n
  | [], _, _, _, f, n => by simp [pgS]
  | a :: r, e, lw, h, f, n => by
    obtain ⟨h1, h2, h3, h4, h5⟩ := h
    simp only [List.foldl_cons]
    rw [pgF_pgS r _ _ h5]
    have hs : pgS (a :: r) n = if a.f0 ≤ n ∧ (n : Int) < a.f0 + a.f1 then wv a.f2 else pgS r n := rfl
    rw [hs]
    by_cases hc : a.f0 ≤ n ∧ (n : Int) < a.f0 + a.f1
    · rw [pgS_lt h5 (by omega), if_pos rfl, if_pos hc, if_neg (wv_ne _)]
      unfold fill
      rw [if_pos hc]
    · rw [if_neg hc]
      unfold fill
      rw [if_neg hc]
theorem pgF_eq {l : List S24} {e : Int} {lw : Option Bool} (h : NF e lw l) (n : Nat) : pgF l n = pgS l n := by
  unfold pgF
  rw [pgF_pgS l e lw h]
  split
  · rename_i h0; exact h0.symm
  · rfl
theorem nil_or_snoc (p : List S24) : p = [] ∨ ∃ q x, p = q ++ [x] := by
  rcases List.eq_nil_or_concat p with h | ⟨q, x, h⟩
  · exact .inl h
  · exact .inr ⟨q, x, by rw [h, List.concat_eq_append]⟩
theorem NF_ok : ∀ (l p : List S24), (∀ i, i < (p ++ l).length → okAt (p ++ l) i = true) → NF (endS 0 p) (lwS none p) l
  | [], _, _ => trivial
  | a :: r, p, h => by
    have hi := h p.length (by simp)
    have hat : ar (p ++ a :: r) p.length = a := by simp [ar, List.getD_eq_getElem?_getD]
    unfold okAt at hi
    rw [hat, Bool.and_eq_true] at hi
    have hf := fitB_iff.1 hi.1
    have hrec := NF_ok r (p ++ [a]) (by simpa using h)
    rw [endS_append, lwS_append] at hrec
    refine ⟨?_, ?_, hf.2.2.1, by omega, hrec⟩
    · rcases nil_or_snoc p with rfl | ⟨q, x, rfl⟩
      · exact hf.1
      · have h2 := hi.2
        have hx : ar (q ++ [x] ++ a :: r) ((q ++ [x]).length - 1) = x := by simp [ar, List.getD_eq_getElem?_getD]
        rw [hx] at h2
        have h3 : gapB x a = true := by simpa using h2
        unfold gapB at h3
        have h4 := of_decide_eq_true h3
        rw [endS_append]
        simp only [endS]
        omega
    · rcases nil_or_snoc p with rfl | ⟨q, x, rfl⟩
      · intro _ h; cases h
      · have h2 := hi.2
        have hx : ar (q ++ [x] ++ a :: r) ((q ++ [x]).length - 1) = x := by simp [ar, List.getD_eq_getElem?_getD]
        rw [hx] at h2
        have h3 : gapB x a = true := by simpa using h2
        unfold gapB at h3
        have h4 := of_decide_eq_true h3
        rw [endS_append, lwS_append]
        simp only [endS, lwS]
        intro he hs
        injection hs with hs
        rcases h4 with h4 | h4
        · omega
        · exact h4.2 hs.symm
theorem ok_NF : ∀ (l p : List S24), NF 0 none p → NF (endS 0 p) (lwS none p) l → ∀ i, p.length ≤ i → i < (p ++ l).length → okAt (p ++ l) i = true
  | [], p, _, _, i, h1, h2 => by simp at h2; omega
  | a :: r, p, hp, h, i, h1, h2 => by
    obtain ⟨a1, a2, a3, a4, a5⟩ := h
    by_cases e : i = p.length
    · subst e
      have hat : ar (p ++ a :: r) p.length = a := by simp [ar, List.getD_eq_getElem?_getD]
      have h0 := (endS_ge hp).1
      unfold okAt
      rw [hat, fitB_iff.2 ⟨by omega, by omega, a3, by omega⟩, Bool.true_and]
      rcases nil_or_snoc p with rfl | ⟨q, x, rfl⟩
      · rfl
      · have hx : ar (q ++ [x] ++ a :: r) ((q ++ [x]).length - 1) = x := by simp [ar, List.getD_eq_getElem?_getD]
        rw [hx, Bool.or_eq_true]
        refine .inr (decide_eq_true ?_)
        rw [endS_append, lwS_append] at a2
        rw [endS_append] at a1
        simp only [endS, lwS] at a1 a2
        by_cases h3 : x.f0 + x.f1 = a.f0
        · exact .inr ⟨h3, fun hs => a2 h3 (by rw [hs])⟩
        · exact .inl (by omega)
    · have := ok_NF r (p ++ [a]) ((NF_append p [a] 0 none).2 ⟨hp, a1, a2, a3, a4, trivial⟩) (by rw [endS_append, lwS_append]; exact a5) i (by simp; omega) (by simpa using h2)
      simpa using this
theorem okB_iff (l : List S24) : okB l = true ↔ l.length ≤ 8 ∧ NF 0 none l := by
  constructor
  · intro h
    unfold okB at h
    rw [Bool.and_eq_true, List.all_eq_true] at h
    exact ⟨of_decide_eq_true h.1, NF_ok l [] (fun i hi => h.2 i (List.mem_range.2 (by simpa using hi)))⟩
  · rintro ⟨h1, h2⟩
    unfold okB
    rw [decide_eq_true h1, Bool.true_and, List.all_eq_true]
    intro i hi
    exact ok_NF l [] trivial h2 i (Nat.zero_le _) (by simpa using List.mem_range.1 hi)
theorem bumpL_snoc (g : List S24) (x : S24) : bumpL (g ++ [x]) = g ++ [bumpS x] := by
  simp [bumpL, List.getD_eq_getElem?_getD]
theorem pgS_in {a : S24} {r : List S24} {n : Nat} (h : a.f0 ≤ n ∧ (n : Int) < a.f0 + a.f1) : pgS (a :: r) n = wv a.f2 := if_pos h
theorem pgS_out {a : S24} {r : List S24} {n : Nat} (h : ¬ (a.f0 ≤ n ∧ (n : Int) < a.f0 + a.f1)) : pgS (a :: r) n = pgS r n := if_neg h
structure FI (what : Nat → Int) (n : Nat) (F : List S24) : Prop where
  nf : NF 0 none F
  pg : ∀ i, i < n → pgS F i = what i
  le : endS 0 F ≤ n
  on : lastF what n ≠ 0 → endS 0 F = n ∧ lwS none F = some (lastF what n == 2)
  off : lastF what n = 0 → endS 0 F < n ∨ lwS none F = none
theorem formL_FI (what : Nat → Int) (hw : ∀ n, what n = 0 ∨ what n = 1 ∨ what n = 2) : ∀ n, n ≤ 1024 → FI what n (formL what n)
  | 0, _ => ⟨trivial, fun i hi => by omega, Int.le_refl _, fun h => absurd rfl h, fun _ => .inr rfl⟩
  | n + 1, hn => by
    have ih := formL_FI what hw n (by omega)
    have hle := ih.le
    have hl : lastF what (n + 1) = what n := rfl
    by_cases h0 : what n = 0
    · have e : formL what (n + 1) = formL what n := by conv => lhs; unfold formL; rw [if_pos h0]
      rw [e]
      refine ⟨ih.nf, fun i hi => ?_, by omega, fun h => absurd (hl.trans h0) h, fun _ => .inl (by omega)⟩
      by_cases hi' : i < n
      · exact ih.pg i hi'
      · have : i = n := by omega
        subst this
        rw [h0]
        exact pgS_end ih.nf ih.le
    · have hwn := wv_of (hw n) h0
      by_cases h1 : what n = lastF what n
      · have e : formL what (n + 1) = bumpL (formL what n) := by conv => lhs; unfold formL; rw [if_neg h0, if_pos h1]
        have hon := ih.on (by rw [← h1]; exact h0)
        rcases nil_or_snoc (formL what n) with hF | ⟨g, x, hF⟩
        · have := formL_ne what n (by rw [← h1]; exact h0)
          rw [hF] at this
          simp at this
        · rw [e, hF, bumpL_snoc]
          rw [hF] at ih hon
          rw [endS_append, lwS_append] at hon
          simp only [endS, lwS] at hon
          have hnf := (NF_append g [x] 0 none).1 ih.nf
          obtain ⟨g1, x1, x2, x3, x4, _⟩ := hnf
          have hx2 : x.f2 = (what n == 2) := by have := hon.2; injection this with this; rw [this, ← h1]
          refine ⟨(NF_append g [bumpS x] 0 none).2 ⟨g1, x1, x2, by show 1 ≤ x.f1 + 1; omega, by show x.f0 + (x.f1 + 1) ≤ 1024; omega, trivial⟩, fun i hi => ?_, ?_, ?_, ?_⟩
          · rw [pgS_append]
            have hp := pgS_append g [x] i
            by_cases hi' : i < n
            · have h3 := ih.pg i hi'
              rw [hp] at h3
              rw [← h3]
              split
              · by_cases hc : x.f0 ≤ i ∧ (i : Int) < x.f0 + x.f1
                · rw [pgS_in hc, pgS_in (a := bumpS x) (show x.f0 ≤ i ∧ (i : Int) < x.f0 + (x.f1 + 1) by omega)]; rfl
                · rw [pgS_out hc, pgS_out (a := bumpS x) (show ¬ (x.f0 ≤ i ∧ (i : Int) < x.f0 + (x.f1 + 1)) by omega)]
              · rfl
            · have : i = n := by omega
              subst this
              have hg : pgS g i = 0 := pgS_end g1 (by omega)
              rw [if_pos hg, pgS_in (a := bumpS x) (show x.f0 ≤ i ∧ (i : Int) < x.f0 + (x.f1 + 1) by omega)]
              show wv x.f2 = what i
              rw [hx2, hwn]
          · rw [endS_append]; simp only [endS, bumpS]; omega
          · intro _
            rw [endS_append, lwS_append]
            simp only [endS, lwS, bumpS]
            exact ⟨by omega, by rw [hx2, hl]⟩
          · intro h; exact absurd (hl.symm.trans h) h0
      · have e : formL what (n + 1) = formL what n ++ [⟨n, 1, what n == 2⟩] := by conv => lhs; unfold formL; rw [if_neg h0, if_neg h1]
        rw [e]
        refine ⟨(NF_append _ _ 0 none).2 ⟨ih.nf, ih.le, fun he => ?_, by show (1 : Int) ≤ 1; omega, by show (n : Int) + 1 ≤ 1024; omega, trivial⟩, fun i hi => ?_, ?_, ?_, ?_⟩
        · show lwS none (formL what n) ≠ some (what n == 2)
          by_cases hz : lastF what n = 0
          · rcases ih.off hz with h | h
            · simp only at he; omega
            · rw [h]; exact fun h => by cases h
          · rw [(ih.on hz).2]
            intro hs
            injection hs with hs
            have h2 : lastF what n = 0 ∨ lastF what n = 1 ∨ lastF what n = 2 := by
              cases n with
              | zero => exact .inl rfl
              | succ m => exact hw m
            exact h1 (by rw [← hwn, ← hs, wv_of h2 hz])
        · rw [pgS_append]
          by_cases hi' : i < n
          · rw [ih.pg i hi']
            split
            · rename_i h3
              rw [h3]
              simp only [pgS]
              rw [if_neg (by omega)]
            · rfl
          · have : i = n := by omega
            subst this
            rw [if_pos (pgS_end ih.nf ih.le)]
            simp only [pgS]
            rw [if_pos (by omega), hwn]
        · rw [endS_append]; simp only [endS]; omega
        · intro _
          rw [endS_append, lwS_append]
          simp only [endS, lwS]
          exact ⟨by omega, by rw [hl]⟩
        · intro h; exact absurd (hl.symm.trans h) h0
theorem form_of {what : Nat → Int} (hw : ∀ n, what n = 0 ∨ what n = 1 ∨ what n = 2) {m : List S24} (hm : NF 0 none m) (hp : ∀ n, n < 1024 → pgS m n = what n) : formL what 1024 = m := by
  have h := formL_FI what hw 1024 (Nat.le_refl _)
  exact NF_uniq _ _ 0 none (Int.le_refl _) h.nf hm (fun n _ hn => (h.pg n hn).trans (hp n hn).symm)
def fewR (m : List S24) : List S24 × Int := if m.length > 8 then ([], 3) else (m, 0)
theorem formR_of {what : Nat → Int} (hw : ∀ n, what n = 0 ∨ what n = 1 ∨ what n = 2) {m : List S24} (hm : NF 0 none m) (hp : ∀ n, n < 1024 → pgS m n = what n) : formR what = fewR m := by
  unfold formR fewR
  rw [form_of hw hm hp]
theorem wv_cases (b : Bool) : wv b = 0 ∨ wv b = 1 ∨ wv b = 2 := by cases b <;> simp [wv]
theorem pgF_cases (l : List S24) (n : Nat) : pgF l n = 0 ∨ pgF l n = 1 ∨ pgF l n = 2 := by
  have : ∀ (l : List S24) (f : Nat → Int), (∀ n, f n = 0 ∨ f n = 1 ∨ f n = 2) → ∀ n, (l.foldl (fun f a => fill f a.f0 a.f1 (wv a.f2)) f) n = 0 ∨ (l.foldl (fun f a => fill f a.f0 a.f1 (wv a.f2)) f) n = 1 ∨ (l.foldl (fun f a => fill f a.f0 a.f1 (wv a.f2)) f) n = 2 := by
    intro l
    induction l with
    | nil => intro f h n; exact h n
    | cons a r ih =>
      intro f h n
      refine ih _ (fun m => ?_) n
      show fill f a.f0 a.f1 (wv a.f2) m = 0 ∨ fill f a.f0 a.f1 (wv a.f2) m = 1 ∨ fill f a.f0 a.f1 (wv a.f2) m = 2
      unfold fill
      split
      · exact wv_cases a.f2
      · exact h m
  exact this l _ (fun _ => .inl rfl) n
theorem both_cases (l m : List S24) (n : Nat) : both (pgF l) (pgF m) n = 0 ∨ both (pgF l) (pgF m) n = 1 ∨ both (pgF l) (pgF m) n = 2 := by
  unfold both mx
  split
  · exact pgF_cases m n
  · exact pgF_cases l n
theorem chg_cases {f : Nat → Int} (hf : ∀ n, f n = 0 ∨ f n = 1 ∨ f n = 2) {a b t : Int} (ht : t = 0 ∨ t = 1 ∨ t = 2) (n : Nat) : chg f a b t n = 0 ∨ chg f a b t n = 1 ∨ chg f a b t n = 2 := by
  unfold chg
  split
  · exact ht
  · exact hf n
def foldW : List S24 → List S24 → S24 → List S24 × S24
  | [], out, a => (out, a)
  | x :: r, out, a => if x.f2 = a.f2 ∧ x.f0 + x.f1 = a.f0 then foldW r out ⟨x.f0, x.f1 + a.f1, a.f2⟩
    else if x.f2 = a.f2 ∧ a.f0 + a.f1 = x.f0 then foldW r out ⟨a.f0, a.f1 + x.f1, a.f2⟩ else foldW r (out ++ [x]) a
def insW (out : List S24) (a : S24) : List S24 := out.takeWhile (fun x => decide (x.f0 < a.f0)) ++ a :: out.dropWhile (fun x => decide (x.f0 < a.f0))
def withP (l : List S24) (a : S24) : List S24 := insW (foldW l [] a).1 (foldW l [] a).2
theorem foldW_append : ∀ (p s out : List S24) (a : S24), foldW (p ++ s) out a = foldW s (foldW p out a).1 (foldW p out a).2
  | [], s, out, a => rfl
  | x :: p, s, out, a => by
    simp only [List.cons_append, foldW]
    split
    · exact foldW_append p s _ _
    · split
      · exact foldW_append p s _ _
      · exact foldW_append p s _ _
theorem foldW_out {a : S24} : ∀ (l out : List S24), (∀ x ∈ l, x.f0 + x.f1 ≠ a.f0 ∧ (x.f2 = a.f2 → a.f0 + a.f1 ≠ x.f0)) → foldW l out a = (out ++ l, a)
  | [], out, _ => by simp [foldW]
  | x :: r, out, h => by
    have hx := h x List.mem_cons_self
    unfold foldW
    rw [if_neg (fun hc => hx.1 hc.2), if_neg (fun hc => hx.2 hc.1 hc.2), foldW_out r _ (fun y hy => h y (List.mem_cons_of_mem _ hy))]
    simp
theorem insW_mid {p s : List S24} {a : S24} (hp : ∀ x ∈ p, x.f0 < a.f0) (hs : ∀ x ∈ s, a.f0 ≤ x.f0) : insW (p ++ s) a = p ++ a :: s := by
  unfold insW
  have h1 : ∀ (p : List S24), (∀ x ∈ p, x.f0 < a.f0) → (p ++ s).takeWhile (fun x => decide (x.f0 < a.f0)) = p ∧ (p ++ s).dropWhile (fun x => decide (x.f0 < a.f0)) = s := by
    intro p
    induction p with
    | nil =>
      intro _
      cases s with
      | nil => simp
      | cons y t =>
        have : decide (y.f0 < a.f0) = false := decide_eq_false (by have := hs y List.mem_cons_self; omega)
        simp [this]
    | cons x p ih =>
      intro h
      have hx : decide (x.f0 < a.f0) = true := decide_eq_true (h x List.mem_cons_self)
      have := ih (fun y hy => h y (List.mem_cons_of_mem _ hy))
      simp [List.takeWhile_cons, List.dropWhile_cons, hx, this.1, this.2]
  rw [(h1 p hp).1, (h1 p hp).2]
/-- l in two: what ends ahead of a, what begins behind it. -/
theorem split_at {l : List S24} {e : Int} {lw : Option Bool} {a : S24} (hl : NF e lw l) (ha : 1 ≤ a.f1) (hd : ∀ x ∈ l, ¬ (x.f0 < a.f0 + a.f1 ∧ a.f0 < x.f0 + x.f1)) :
    ∃ p s, l = p ++ s ∧ (∀ x ∈ p, x.f0 + x.f1 ≤ a.f0) ∧ (∀ x ∈ s, a.f0 + a.f1 ≤ x.f0) := by
  induction l generalizing e lw with
  | nil => exact ⟨[], [], rfl, (fun _ h => by cases h), (fun _ h => by cases h)⟩
  | cons x r ih =>
    obtain ⟨h1, h2, h3, h4, h5⟩ := hl
    have hx := hd x List.mem_cons_self
    by_cases hc : x.f0 + x.f1 ≤ a.f0
    · obtain ⟨p, s, e1, hp, hs⟩ := ih h5 (fun y hy => hd y (List.mem_cons_of_mem _ hy))
      refine ⟨x :: p, s, by rw [e1]; rfl, fun y hy => ?_, hs⟩
      rcases List.mem_cons.1 hy with rfl | hy
      · exact hc
      · exact hp y hy
    · refine ⟨[], x :: r, rfl, (fun _ h => by cases h), fun y hy => ?_⟩
      rcases List.mem_cons.1 hy with rfl | hy
      · omega
      · have := (NF_ge h5 y hy).1
        omega
theorem with_left {p : List S24} {a : S24} (hp : NF 0 none p) (ha : Fit a) (hle : ∀ x ∈ p, x.f0 + x.f1 ≤ a.f0) (out : List S24) :
    ∃ p' a', foldW p out a = (out ++ p', a') ∧ NF 0 none (p' ++ [a']) ∧ (∀ n, pgS (p' ++ [a']) n = pgS (p ++ [a]) n) ∧ a'.f0 + a'.f1 = a.f0 + a.f1 ∧ a'.f2 = a.f2 ∧ (∀ x ∈ p', x.f0 < a'.f0) := by
  obtain ⟨ha0, ha1, ha2⟩ := ha
  rcases nil_or_snoc p with rfl | ⟨q, x, rfl⟩
  · exact ⟨[], a, by simp [foldW], ⟨ha0, (fun _ h => by cases h), ha1, ha2, trivial⟩, fun n => rfl, rfl, rfl, (fun _ h => by cases h)⟩
  · have hx := hle x (by simp)
    obtain ⟨hq, x1, x2, x3, x4, _⟩ := (NF_append q [x] 0 none).1 hp
    have hqe : ∀ y ∈ q, y.f0 + y.f1 ≤ x.f0 := fun y hy => by have := (endS_ge hq).2.1 y hy; omega
    have hq1 : ∀ y ∈ q, 1 ≤ y.f1 := fun y hy => (NF_ge hq y hy).2.1
    rw [foldW_append, foldW_out q out (fun y hy => ⟨by have := hqe y hy; omega, fun _ => by have := hqe y hy; have := hq1 y hy; omega⟩)]
    simp only [foldW]
    by_cases hc : x.f2 = a.f2 ∧ x.f0 + x.f1 = a.f0
    · rw [if_pos hc]
      refine ⟨q, ⟨x.f0, x.f1 + a.f1, a.f2⟩, rfl, (NF_append q _ 0 none).2 ⟨hq, x1, ?_, by show 1 ≤ x.f1 + a.f1; omega, by show x.f0 + (x.f1 + a.f1) ≤ 1024; omega, trivial⟩, fun n => ?_, by show x.f0 + (x.f1 + a.f1) = _; omega, rfl, fun y hy => by show y.f0 < x.f0; have := hqe y hy; have := hq1 y hy; omega⟩
      · show endS 0 q = x.f0 → lwS none q ≠ some a.f2
        rw [← hc.1]; exact x2
      · rw [List.append_assoc, pgS_append, pgS_append q]
        split
        · by_cases h1 : x.f0 ≤ n ∧ (n : Int) < x.f0 + x.f1
          · rw [pgS_in (a := ⟨x.f0, x.f1 + a.f1, a.f2⟩) (show x.f0 ≤ n ∧ (n : Int) < x.f0 + (x.f1 + a.f1) by omega)]
            show _ = pgS (x :: [a]) n
            rw [pgS_in h1, hc.1]
          · show _ = pgS (x :: [a]) n
            rw [pgS_out h1]
            by_cases h2 : a.f0 ≤ n ∧ (n : Int) < a.f0 + a.f1
            · rw [pgS_in h2, pgS_in (a := ⟨x.f0, x.f1 + a.f1, a.f2⟩) (show x.f0 ≤ n ∧ (n : Int) < x.f0 + (x.f1 + a.f1) by omega)]
            · rw [pgS_out h2, pgS_out (a := ⟨x.f0, x.f1 + a.f1, a.f2⟩) (show ¬ (x.f0 ≤ n ∧ (n : Int) < x.f0 + (x.f1 + a.f1)) by omega)]
        · rfl
    · rw [if_neg hc, if_neg (fun h => by omega)]
      refine ⟨q ++ [x], a, by simp, (NF_append (q ++ [x]) [a] 0 none).2 ⟨hp, ?_, ?_, ha1, ha2, trivial⟩, fun n => rfl, rfl, rfl, fun y hy => by have := hle y hy; have := (NF_ge hp y hy).2.1; omega⟩
      · rw [endS_append]; exact hx
      · rw [endS_append, lwS_append]
        show x.f0 + x.f1 = a.f0 → some x.f2 ≠ some a.f2
        intro h1 h2
        injection h2 with h2
        exact hc ⟨h2, h1⟩
theorem with_right {P s : List S24} {A : S24} {e : Int} {lw : Option Bool} (hP : NF 0 none (P ++ [A])) (hs : NF e lw s) (hge : ∀ x ∈ s, A.f0 + A.f1 ≤ x.f0) (hlt : ∀ x ∈ P, x.f0 < A.f0) (out : List S24) :
    ∃ s' A', foldW s out A = (out ++ s', A') ∧ NF 0 none (P ++ A' :: s') ∧ (∀ n, pgS (P ++ A' :: s') n = pgS (P ++ A :: s) n) ∧ A'.f0 = A.f0 ∧ (∀ x ∈ s', A'.f0 ≤ x.f0) := by
  obtain ⟨hP0, A1, A2, A3, A4, _⟩ := (NF_append P [A] 0 none).1 hP
  cases s with
  | nil => exact ⟨[], A, by simp [foldW], by simpa using hP, fun n => rfl, rfl, (fun _ h => by cases h)⟩
  | cons y t =>
    obtain ⟨y1, y2, y3, y4, y5⟩ := hs
    have hy := hge y List.mem_cons_self
    have ht : ∀ z ∈ t, y.f0 + y.f1 ≤ z.f0 := fun z hz => (NF_ge y5 z hz).1
    unfold foldW
    rw [if_neg (fun h => by omega)]
    by_cases hc : y.f2 = A.f2 ∧ A.f0 + A.f1 = y.f0
    · rw [if_pos hc]
      have hz : ∀ z ∈ t, z.f0 + z.f1 ≠ A.f0 ∧ (z.f2 = A.f2 → A.f0 + (A.f1 + y.f1) ≠ z.f0) := fun z hz => by
        have h1 := ht z hz
        have h2 := (NF_ge y5 z hz).2.1
        refine ⟨by omega, fun hw he => ?_⟩
        cases t with
        | nil => cases hz
        | cons u v =>
          obtain ⟨u1, u2, u3, u4, u5⟩ := y5
          rcases List.mem_cons.1 hz with rfl | hz
          · exact u2 (by omega) (by rw [hw, hc.1])
          · have := (NF_ge u5 z hz).1; omega
      rw [foldW_out (a := ⟨A.f0, A.f1 + y.f1, A.f2⟩) t out hz]
      refine ⟨t, ⟨A.f0, A.f1 + y.f1, A.f2⟩, rfl, (NF_append P _ 0 none).2 ⟨hP0, A1, A2, by show 1 ≤ A.f1 + y.f1; omega, by show A.f0 + (A.f1 + y.f1) ≤ 1024; omega, ?_⟩, fun n => ?_, rfl, fun z hz => by show A.f0 ≤ z.f0; have := ht z hz; omega⟩
      · show NF (A.f0 + (A.f1 + y.f1)) (some A.f2) t
        rw [show A.f0 + (A.f1 + y.f1) = y.f0 + y.f1 by omega, ← hc.1]
        exact y5
      · rw [pgS_append, pgS_append P]
        split
        · by_cases h1 : A.f0 ≤ n ∧ (n : Int) < A.f0 + A.f1
          · rw [pgS_in h1, pgS_in (a := ⟨A.f0, A.f1 + y.f1, A.f2⟩) (show A.f0 ≤ n ∧ (n : Int) < A.f0 + (A.f1 + y.f1) by omega)]
          · rw [pgS_out h1]
            by_cases h2 : y.f0 ≤ n ∧ (n : Int) < y.f0 + y.f1
            · rw [pgS_in h2, pgS_in (a := ⟨A.f0, A.f1 + y.f1, A.f2⟩) (show A.f0 ≤ n ∧ (n : Int) < A.f0 + (A.f1 + y.f1) by omega), hc.1]
            · rw [pgS_out h2, pgS_out (a := ⟨A.f0, A.f1 + y.f1, A.f2⟩) (show ¬ (A.f0 ≤ n ∧ (n : Int) < A.f0 + (A.f1 + y.f1)) by omega)]
        · rfl
    · rw [if_neg hc, foldW_out t (out ++ [y]) (fun z hz => by have h1 := ht z hz; have h2 := (NF_ge y5 z hz).2.1; exact ⟨by omega, fun _ => by omega⟩)]
      refine ⟨y :: t, A, by simp, (NF_append P _ 0 none).2 ⟨hP0, A1, A2, A3, A4, hy, fun he hw => ?_, y3, y4, y5⟩, fun n => rfl, rfl, fun z hz => ?_⟩
      · injection hw with hw
        exact hc ⟨hw.symm, he⟩
      · have := hge z hz; omega
theorem with_spec {l : List S24} {a : S24} (hl : NF 0 none l) (ha : Fit a) (hd : ∀ x ∈ l, ¬ (x.f0 < a.f0 + a.f1 ∧ a.f0 < x.f0 + x.f1)) :
    NF 0 none (withP l a) ∧ ∀ n : Nat, pgS (withP l a) n = if a.f0 ≤ n ∧ (n : Int) < a.f0 + a.f1 then wv a.f2 else pgS l n := by
  obtain ⟨p, s, rfl, hp, hs⟩ := split_at hl ha.2.1 hd
  obtain ⟨hp0, hs0⟩ := (NF_append p s 0 none).1 hl
  obtain ⟨p', a', e1, n1, g1, end1, w1, lt1⟩ := with_left hp0 ha hp []
  obtain ⟨s', A', e2, n2, g2, st2, ge2⟩ := with_right n1 hs0 (fun x hx => by rw [end1]; exact hs x hx) lt1 p'
  have hW : withP (p ++ s) a = p' ++ A' :: s' := by
    unfold withP
    rw [foldW_append, e1]
    simp only [List.nil_append]
    rw [e2]
    exact insW_mid (fun x hx => by rw [st2]; exact lt1 x hx) ge2
  rw [hW]
  refine ⟨n2, fun n => ?_⟩
  rw [g2 n, show p' ++ a' :: s = (p' ++ [a']) ++ s by simp, pgS_append, g1 n, ← pgS_append]
  rw [show p ++ [a] ++ s = p ++ a :: s by simp, pgS_append, pgS_append]
  by_cases hc : a.f0 ≤ n ∧ (n : Int) < a.f0 + a.f1
  · rw [pgS_in hc, if_pos hc, pgS_none (l := p) (fun x hx h => by have := hp x hx; omega), if_pos rfl]
  · rw [pgS_out hc, if_neg hc]
theorem rcheck_l0 (l : List S24) (hl : l.length ≤ 8) : ∀ (d k i : Nat), i + d = l.length → d < k → (∀ j, j < i → okAt l j = true) → prioryref14_Check.l0 k l i = some (chk l) := by
  intro d
  induction d with
  | zero =>
    intro k i hi hk hj
    obtain ⟨k, rfl⟩ : ∃ m, k = m + 1 := ⟨k - 1, by omega⟩
    simp only [prioryref14_Check.l0]
    rw [if_neg (by omega)]
    have : okB l = true := by
      unfold okB
      rw [decide_eq_true hl, Bool.true_and, List.all_eq_true]
      intro j hj2; exact hj j (by have := List.mem_range.1 hj2; omega)
    unfold chk; rw [if_pos this]
  | succ d ih =>
    intro k i hi hk hj
    obtain ⟨k, rfl⟩ : ∃ m, k = m + 1 := ⟨k - 1, by omega⟩
    simp only [prioryref14_Check.l0]
    have hlt : (i : Int) < (l.length : Int) := by omega
    rw [if_pos hlt, if_pos (by omega), rfits_eq, rd_ar, Option.bind_some]
    have bad : okAt l i = false → chk l = 2 := by
      intro h
      have : okB l = false := by
        unfold okB
        rw [decide_eq_true hl, Bool.true_and, List.all_eq_false]
        exact ⟨i, List.mem_range.2 (by omega), by rw [h]; decide⟩
      unfold chk; rw [this]; rfl
    have good : okAt l i = true → prioryref14_Check.l0 k l (wrap64 ((i : Int) + 1)) = some (chk l) := by
      intro h
      rw [wrap_id (by omega)]
      refine ih k (i + 1) (by omega) (by omega) (fun j hj2 => ?_)
      by_cases e : j = i
      · rw [e]; exact h
      · exact hj j (by omega)
    cases hf : fitB (ar l i).f0 (ar l i).f1 with
    | false =>
      rw [if_neg (by decide), bad (by unfold okAt; rw [hf]; rfl)]
    | true =>
      rw [if_pos rfl]
      by_cases h0 : i = 0
      · rw [if_neg (by omega)]
        exact good (by unfold okAt; rw [hf, h0]; rfl)
      · rw [if_pos (by omega)]
        have hw : wrap64 ((i : Int) - 1) = ((i - 1 : Nat) : Int) := by rw [wrap_id (by omega)]; omega
        rw [hw, rd_ar, if_pos (by omega), if_pos (by omega)]
        have hp := hj (i - 1) (by omega)
        unfold okAt at hp
        rw [Bool.and_eq_true] at hp
        have hp1 := fitB_iff.1 hp.1
        rw [wrap_id (x := (ar l (i - 1)).f0 + (ar l (i - 1)).f1) (by omega)]
        have hk0 : (i == 0) = false := beq_eq_false_iff_ne.2 h0
        have hok : okAt l i = gapB (ar l (i - 1)) (ar l i) := by unfold okAt; rw [hf, hk0]; simp
        by_cases g1 : (ar l i).f0 < (ar l (i - 1)).f0 + (ar l (i - 1)).f1
        · rw [if_pos g1, bad (by rw [hok]; unfold gapB; exact decide_eq_false (by omega))]
        · rw [if_neg g1]
          by_cases g2 : (ar l i).f0 = (ar l (i - 1)).f0 + (ar l (i - 1)).f1
          · rw [if_pos g2]
            cases hb : ((ar l i).f2 == (ar l (i - 1)).f2) with
            | true =>
              rw [if_pos rfl, bad (by rw [hok]; unfold gapB; exact decide_eq_false (fun h => by rcases h with h | h; omega; exact h.2 (beq_iff_eq.1 hb)))]
            | false =>
              rw [if_neg (by decide)]
              exact good (by rw [hok]; unfold gapB; exact decide_eq_true (.inr ⟨g2.symm, fun e => by rw [e] at hb; simp at hb⟩))
          · rw [if_neg g2]
            exact good (by rw [hok]; unfold gapB; exact decide_eq_true (.inl (by omega)))
theorem rcheck_tot (l : List S24) (k : Nat) (hk : 9 ≤ k) : prioryref14_Check.f k l = some (chk l) := by
  unfold prioryref14_Check.f
  by_cases h : (l.length : Int) > 8
  · rw [if_pos h]
    have : okB l = false := by unfold okB; rw [decide_eq_false (by omega)]; rfl
    unfold chk; rw [this]; rfl
  · rw [if_neg h]
    exact rcheck_l0 l (by omega) l.length k 0 (by omega) (by omega) (fun j hj => by omega)
theorem chk_cases (l : List S24) : (okB l = true ∧ chk l = 0) ∨ (okB l = false ∧ chk l = 2) := by
  unfold chk
  cases okB l with
  | true => exact .inl ⟨rfl, rfl⟩
  | false => exact .inr ⟨rfl, rfl⟩
/-- The first area that has the page. -/
def findL : List S24 → Int → Bool × Bool
  | [], _ => (false, false)
  | a :: r, n => if a.f0 ≤ n ∧ n < a.f0 + a.f1 then (a.f2, true) else findL r n
def findR (l : List S24) (n : Int) : Bool × Bool := if okB l = true then findL l n else (false, false)
theorem findL_pg (l : List S24) (n : Nat) : findL l n = if pgS l n = 0 then (false, false) else (pgS l n == 2, true) := by
  induction l with
  | nil => rfl
  | cons a r ih =>
    by_cases hc : a.f0 ≤ n ∧ (n : Int) < a.f0 + a.f1
    · rw [pgS_in hc, if_neg (wv_ne _), wv_two]
      unfold findL
      rw [if_pos hc]
    · rw [pgS_out hc, ← ih]
      show (if _ then _ else _) = _
      rw [if_neg hc]
theorem drop_cons {l : List S24} {i : Nat} (h : i < l.length) : l.drop i = ar l i :: l.drop (i + 1) := by
  rw [List.drop_eq_getElem_cons h]
  simp [ar, List.getD_eq_getElem?_getD, h]
theorem ar_mem {l : List S24} {i : Nat} (h : i < l.length) : ar l i ∈ l := by
  have : ar l i = l[i] := by simp [ar, List.getD_eq_getElem?_getD, h]
  rw [this]; exact List.getElem_mem h
theorem rfind_l0 (l : List S24) (n : Int) (hf : ∀ a ∈ l, Fit a) (hlen : l.length ≤ 1000) : ∀ (d k i : Nat), i + d = l.length → d < k → prioryref14_Find.l0 k l n i = some (findL (l.drop i) n) := by
  intro d
  induction d with
  | zero =>
    intro k i hi hk
    obtain ⟨k, rfl⟩ : ∃ m, k = m + 1 := ⟨k - 1, by omega⟩
    simp only [prioryref14_Find.l0]
    rw [if_neg (by omega), List.drop_eq_nil_of_le (by omega)]
    rfl
  | succ d ih =>
    intro k i hi hk
    obtain ⟨k, rfl⟩ : ∃ m, k = m + 1 := ⟨k - 1, by omega⟩
    have hil : i < l.length := by omega
    have hfa := hf _ (ar_mem hil)
    obtain ⟨f0, f1, f2⟩ := hfa
    simp only [prioryref14_Find.l0]
    rw [if_pos (by omega), if_pos (by omega), rd_ar, wrap_id (x := (ar l i).f0 + (ar l i).f1) (by omega), wrap_id (by omega), drop_cons hil]
    have hr := ih k (i + 1) (by omega) (by omega)
    show _ = some (if _ then _ else _)
    by_cases h1 : (ar l i).f0 ≤ n
    · rw [if_pos h1]
      by_cases h2 : n < (ar l i).f0 + (ar l i).f1
      · rw [if_pos h2, if_pos ⟨h1, h2⟩]
      · rw [if_neg h2, if_neg (fun h => h2 h.2)]
        exact hr
    · rw [if_neg h1, if_neg (fun h => h1 h.1)]
      exact hr
theorem rfind_tot (l : List S24) (n : Int) (k : Nat) (hk : 9 ≤ k) : prioryref14_Find.f k l n = some (findR l n) := by
  unfold prioryref14_Find.f findR
  rw [rcheck_tot l k hk, Option.bind_some]
  rcases chk_cases l with ⟨h1, h2⟩ | ⟨h1, h2⟩
  · rw [h2, if_pos rfl, if_pos h1]
    have h8 := ((okB_iff l).1 h1).1
    exact rfind_l0 l n (okB_fit h1) (by omega) l.length k 0 (by omega) (by omega)
  · rw [h2, if_neg (by decide), h1, if_neg (by decide)]
theorem rcov_l0 (l : List S24) (hb : okB l = true) (a b : Int) (ha : 0 ≤ a) (hb1 : a + b ≤ 1024) : ∀ (d k i : Nat), (i : Int) + d = b → d + 9 < k → (∀ j : Nat, j < i → pgF l (a.toNat + j) ≠ 0) → prioryref14_Covers.l0 k l a b (a + i) = some (covB l a b) := by
  have hnf := ((okB_iff l).1 hb).2
  intro d
  induction d with
  | zero =>
    intro k i hi hk hj
    obtain ⟨k, rfl⟩ : ∃ m, k = m + 1 := ⟨k - 1, by omega⟩
    simp only [prioryref14_Covers.l0]
    rw [wrap_id (x := a + b) (by omega), if_neg (by omega), covB_true (fun j hj2 => hj j (by omega))]
  | succ d ih =>
    intro k i hi hk hj
    obtain ⟨k, rfl⟩ : ∃ m, k = m + 1 := ⟨k - 1, by omega⟩
    simp only [prioryref14_Covers.l0]
    rw [wrap_id (x := a + b) (by omega), if_pos (by omega), rfind_tot l _ k (by omega), Option.bind_some]
    have hn : a + (i : Int) = ((a.toNat + i : Nat) : Int) := by omega
    unfold findR
    rw [if_pos hb, hn, findL_pg, ← pgF_eq hnf]
    by_cases h0 : pgF l (a.toNat + i) = 0
    · rw [if_pos h0, if_neg (by decide), covB_false i (by omega) h0]
    · rw [if_neg h0, if_pos rfl, wrap_id (by omega)]
      have := ih k (i + 1) (by omega) (by omega) (fun j hj2 => by
        by_cases e : j = i
        · rw [e]; exact h0
        · exact hj j (by omega))
      rw [← this]
      congr 1
      omega
theorem rcov_tot (l : List S24) (a b : Int) (k : Nat) (hk : 2000 ≤ k) : prioryref14_Covers.f k l a b = some (covR l a b) := by
  unfold prioryref14_Covers.f covR
  obtain ⟨k, rfl⟩ : ∃ m, k = m + 1 := ⟨k - 1, by omega⟩
  rw [rcheck_tot l _ (by omega), Option.bind_some]
  rcases chk_cases l with ⟨h1, h2⟩ | ⟨h1, h2⟩
  · rw [h2, if_pos rfl, rfits_eq, Option.bind_some, h1, Bool.true_and]
    cases hf : fitB a b with
    | false => simp [prioryref14_Covers.j0]
    | true =>
      obtain ⟨g0, g1, g2, g3⟩ := fitB_iff.1 hf
      simp only [prioryref14_Covers.j0, Bool.not_true, Bool.false_eq_true, if_false, Bool.true_and]
      have := rcov_l0 l h1 a b g0 (by omega) b.toNat k 0 (by omega) (by omega) (fun j hj => by omega)
      simpa using this
  · rw [h2, if_neg (by decide), h1]
    simp [prioryref14_Covers.j0]
theorem take_tw {l : List S24} {a : S24} {m : Nat} (h1 : ∀ i, i < m → (ar l i).f0 < a.f0) (h2 : m < l.length → ¬ (ar l m).f0 < a.f0) (hm : m ≤ l.length) :
    l.takeWhile (fun x => decide (x.f0 < a.f0)) = l.take m ∧ l.dropWhile (fun x => decide (x.f0 < a.f0)) = l.drop m := by
  induction l generalizing m with
  | nil => simp
  | cons x r ih =>
    cases m with
    | zero =>
      have := h2 (by simp)
      have hx : decide (x.f0 < a.f0) = false := decide_eq_false (by simpa [ar] using this)
      simp [List.takeWhile_cons, List.dropWhile_cons, hx]
    | succ m =>
      have hx : decide (x.f0 < a.f0) = true := decide_eq_true (by simpa [ar] using h1 0 (by omega))
      have := ih (m := m) (fun i hi => by simpa [ar] using h1 (i + 1) (by omega)) (fun hm2 => by simpa [ar] using h2 (by simpa using hm2)) (by simpa using hm)
      simp [List.takeWhile_cons, List.dropWhile_cons, hx, this.1, this.2]
theorem with_l1 (out : List S24) (a : S24) (hlen : out.length ≤ 1000) : ∀ (d k i : Nat), i + d = out.length → d < k → (∀ j, j < i → (ar out j).f0 < a.f0) → prioryref14_with.l1 k out i a.f0 a.f1 a.f2 = some (insW out a) := by
  intro d
  induction d with
  | zero =>
    intro k i hi hk hj
    obtain ⟨k, rfl⟩ : ∃ m, k = m + 1 := ⟨k - 1, by omega⟩
    simp only [prioryref14_with.l1]
    have ht := take_tw (a := a) (m := i) hj (fun h => by omega) (by omega)
    have htn : ((i : Int)).toNat = i := Int.toNat_natCast i
    rw [if_neg (by omega)]
    simp only [Option.bind_some, htn]
    rw [if_pos (by omega), if_pos (by omega), if_pos (by simp; omega)]
    try simp only [Option.bind_some]
    rw [if_pos (by simp; omega)]
    try simp only [Option.bind_some]
    rw [if_pos (by simp; omega)]
    unfold insW
    rw [ht.1, ht.2]
    simp
  | succ d ih =>
    intro k i hi hk hj
    obtain ⟨k, rfl⟩ : ∃ m, k = m + 1 := ⟨k - 1, by omega⟩
    simp only [prioryref14_with.l1]
    have htn : ((i : Int)).toNat = i := Int.toNat_natCast i
    rw [if_pos (by omega), if_pos (by omega), rd_ar]
    by_cases h : (ar out i).f0 < a.f0
    · rw [if_pos h, wrap_id (by omega)]
      exact ih k (i + 1) (by omega) (by omega) (fun j hj2 => by
        by_cases e : j = i
        · rw [e]; exact h
        · exact hj j (by omega))
    · rw [if_neg h]
      have ht := take_tw (a := a) (m := i) hj (fun _ => h) (by omega)
      simp only [Option.bind_some, htn]
      rw [if_pos (by omega), if_pos (by simp; omega)]
      try simp only [Option.bind_some]
      rw [if_pos (by simp; omega)]
      try simp only [Option.bind_some]
      rw [if_pos (by simp; omega)]
      unfold insW
      rw [ht.1, ht.2]
      simp
structure AsideE (p : Prop) : Prop where
  out : p
theorem j1_f (k : Nat) (x0 x5 : List S24) (x6 : Int) (a b : Int) (c : Bool) (h0 : 0 ≤ x6) (h1 : x6 < (x0.length : Int)) (h2 : x5.length < 5864062014805) : prioryref14_with.j1 (k + 1) x0 x5 x6 false a b c =
   (if (((rd_T24 x0 x6).f2) == c) = true then (if (RowKit.wrap64 (a + b)) = ((rd_T24 x0 x6).f0) then (prioryref14_with.l0 k x0 x5 (RowKit.wrap64 (x6 + 1)) a (RowKit.wrap64 (b + ((rd_T24 x0 x6).f1))) c) else ((prioryref14_with.l0 k x0 (x5 ++ [(⟨(rd_T24 x0 x6).f0, (rd_T24 x0 x6).f1, (rd_T24 x0 x6).f2⟩ : S24)]) (RowKit.wrap64 (x6 + 1)) a b c))) else ((prioryref14_with.l0 k x0 (x5 ++ [(⟨(rd_T24 x0 x6).f0, (rd_T24 x0 x6).f1, (rd_T24 x0 x6).f2⟩ : S24)]) (RowKit.wrap64 (x6 + 1)) a b c))) := by
  unfold prioryref14_with.j1
  rw [if_neg (show ¬ (false = true) by decide)]
  simp only [h0, if_true, h1, h2]
theorem j1_t (k : Nat) (x0 x5 : List S24) (x6 : Int) (a b : Int) (c : Bool) (h0 : 0 ≤ x6) (h1 : x6 < (x0.length : Int)) : prioryref14_with.j1 (k + 1) x0 x5 x6 true a b c =
   prioryref14_with.l0 k x0 x5 (RowKit.wrap64 (x6 + 1)) ((rd_T24 x0 x6).f0) (RowKit.wrap64 (((rd_T24 x0 x6).f1) + b)) c := by
  unfold prioryref14_with.j1
  rw [if_pos rfl]
  simp only [h0, if_true, h1]
theorem with_l0 (l : List S24) (hf : ∀ x ∈ l, Fit x) (hlen : l.length ≤ 500) : ∀ (d k i : Nat) (out : List S24) (a : S24), i + d = l.length → 2 * d + l.length + 2 < k → out.length ≤ i → Fit a →
    prioryref14_with.l0 k l out i a.f0 a.f1 a.f2 = some (insW (foldW (l.drop i) out a).1 (foldW (l.drop i) out a).2) := by
  intro d
  induction d with
  | zero =>
    intro k i out a hi hk ho ha
    obtain ⟨k, rfl⟩ : ∃ m, k = m + 1 := ⟨k - 1, by omega⟩
    simp only [prioryref14_with.l0]
    rw [if_neg (by omega), List.drop_eq_nil_of_le (by omega)]
    exact with_l1 out a (by omega) out.length k 0 (by omega) (by omega) (fun j hj => by omega)
  | succ d ih =>
    intro k i out a hi hk ho ha
    obtain ⟨k, rfl⟩ : ∃ m, k = m + 2 := ⟨k - 2, by omega⟩
    have hil : i < l.length := by omega
    obtain ⟨x0, x1, x2⟩ := hf _ (ar_mem hil)
    obtain ⟨a0, a1, a2⟩ := ha
    simp only [prioryref14_with.l0]
    rw [if_pos (by omega), if_pos (by omega), rd_ar, drop_cons hil]
    have hlt : (i : Int) < (l.length : Int) := by omega
    have hi0 : (0 : Int) ≤ (i : Int) := by omega
    have hw1 := AsideE.mk (show wrap64 ((ar l i).f0 + (ar l i).f1) = (ar l i).f0 + (ar l i).f1 from wrap_id (by omega))
    have hw2 := AsideE.mk (show wrap64 (a.f0 + a.f1) = a.f0 + a.f1 from wrap_id (by omega))
    have hw3 := AsideE.mk (show wrap64 ((i : Int) + 1) = ((i + 1 : Nat) : Int) from by rw [wrap_id (by omega)]; omega)
    have hj1 := AsideE.mk (fun b c d => j1_t k l out i b c d hi0 hlt)
    have hj2 := AsideE.mk (fun b c d => j1_f k l out i b c d hi0 hlt (by omega))
    have heta : (⟨(ar l i).f0, (ar l i).f1, (ar l i).f2⟩ : S24) = ar l i := rfl
    unfold foldW
    by_cases hs : (ar l i).f2 = a.f2
    · rw [if_pos (beq_iff_eq.2 hs), hw1.out]
      by_cases h1 : (ar l i).f0 + (ar l i).f1 = a.f0
      · rw [show ((ar l i).f0 + (ar l i).f1 == a.f0) = true from beq_iff_eq.2 h1, hj1.out, hw3.out, rd_ar, if_pos ⟨hs, h1⟩, wrap_id (x := (ar l i).f1 + a.f1) (by omega)]
        exact ih k (i + 1) out ⟨(ar l i).f0, (ar l i).f1 + a.f1, a.f2⟩ (by omega) (by omega) (by omega) ⟨x0, by show 1 ≤ (ar l i).f1 + a.f1; omega, by show (ar l i).f0 + ((ar l i).f1 + a.f1) ≤ 1024; omega⟩
      · rw [show ((ar l i).f0 + (ar l i).f1 == a.f0) = false from beq_eq_false_iff_ne.2 h1, hj2.out, rd_ar, if_pos (beq_iff_eq.2 hs), hw2.out, if_neg (show ¬ ((ar l i).f2 = a.f2 ∧ (ar l i).f0 + (ar l i).f1 = a.f0) from fun h => h1 h.2)]
        by_cases h2 : a.f0 + a.f1 = (ar l i).f0
        · rw [if_pos h2, if_pos ⟨hs, h2⟩, hw3.out, wrap_id (x := a.f1 + (ar l i).f1) (by omega)]
          exact ih k (i + 1) out ⟨a.f0, a.f1 + (ar l i).f1, a.f2⟩ (by omega) (by omega) (by omega) ⟨a0, by show 1 ≤ a.f1 + (ar l i).f1; omega, by show a.f0 + (a.f1 + (ar l i).f1) ≤ 1024; omega⟩
        · rw [if_neg h2, if_neg (fun h => h2 h.2), hw3.out, heta]
          exact ih k (i + 1) (out ++ [ar l i]) a (by omega) (by omega) (by simp; omega) ⟨a0, a1, a2⟩
    · rw [if_neg (by rw [beq_iff_eq]; exact hs), hj2.out, rd_ar, if_neg (by rw [beq_iff_eq]; exact hs), hw3.out, heta, if_neg (fun h => hs h.1), if_neg (fun h => hs h.1)]
      exact ih k (i + 1) (out ++ [ar l i]) a (by omega) (by omega) (by simp; omega) ⟨a0, a1, a2⟩
theorem with_tot (l : List S24) (a : S24) (hf : ∀ x ∈ l, Fit x) (hlen : l.length ≤ 500) (ha : Fit a) (k : Nat) (hk : 2000 ≤ k) : prioryref14_with.f k l a.f0 a.f1 a.f2 = some (withP l a) := by
  unfold prioryref14_with.f
  have := with_l0 l hf hlen l.length k 0 [] a (by omega) (by omega) (by simp) ha
  simpa [withP] using this
theorem few_eq (l : List S24) : prioryref14_few.f l = some (fewR l) := by
  unfold prioryref14_few.f fewR
  by_cases h : l.length > 8
  · rw [if_pos (by omega), if_pos h]
  · rw [if_neg (by omega), if_neg h]
def outP (a : S24) (b m : Int) : List S24 :=
  (if a.f0 < b then [⟨a.f0, mn (a.f0 + a.f1) b - a.f0, a.f2⟩] else []) ++ (if a.f0 + a.f1 > b + m then [⟨mx a.f0 (b + m), a.f0 + a.f1 - mx a.f0 (b + m), a.f2⟩] else [])
def lessP : List S24 → Int → Int → List S24
  | [], _, _ => []
  | a :: r, b, m => outP a b m ++ lessP r b m
theorem out_eq (a : S24) (ha : Fit a) (b m : Int) (hb : 0 ≤ b) (hm : b + m ≤ 1024) (hm1 : 1 ≤ m) : prioryref14_outside.f a.f0 a.f1 a.f2 b m = some (outP a b m) := by
  obtain ⟨a0, a1, a2⟩ := ha
  have hw1 : wrap64 (a.f0 + a.f1) = a.f0 + a.f1 := wrap_id (by omega)
  have hw2 : wrap64 (b + m) = b + m := wrap_id (by omega)
  have hmn : mn (a.f0 + a.f1) b ≤ 1024 ∧ 0 ≤ mn (a.f0 + a.f1) b := by unfold mn; split <;> omega
  have hmx : mx a.f0 (b + m) ≤ 1024 ∧ 0 ≤ mx a.f0 (b + m) := by unfold mx; split <;> omega
  unfold prioryref14_outside.f outP
  rw [hw1, hw2, wrap_id (x := mn (a.f0 + a.f1) b - a.f0) (by omega), wrap_id (x := a.f0 + a.f1 - mx a.f0 (b + m)) (by omega)]
  by_cases h1 : a.f0 < b
  · rw [if_pos h1, if_pos h1, if_pos (by simp)]
    simp only [Option.bind_some]
    by_cases h2 : a.f0 + a.f1 > b + m
    · rw [if_pos h2, if_pos h2, if_pos (by simp)]
      simp
    · rw [if_neg h2, if_neg h2]
      simp
  · rw [if_neg h1, if_neg h1]
    by_cases h2 : a.f0 + a.f1 > b + m
    · rw [if_pos h2, if_pos h2, if_pos (by simp)]
    · rw [if_neg h2, if_neg h2]
      rfl
theorem outP_len (a : S24) (b m : Int) : (outP a b m).length ≤ 2 := by
  unfold outP
  split <;> split <;> simp
theorem less_l0 (l : List S24) (hf : ∀ x ∈ l, Fit x) (hlen : l.length ≤ 500) (b m : Int) (hb : 0 ≤ b) (hm : b + m ≤ 1024) (hm1 : 1 ≤ m) : ∀ (d k i : Nat) (out : List S24), i + d = l.length → d < k → out.length ≤ 2 * i →
    prioryref14_less.l0 k l b m out i = some (out ++ lessP (l.drop i) b m) := by
  intro d
  induction d with
  | zero =>
    intro k i out hi hk ho
    obtain ⟨k, rfl⟩ : ∃ m, k = m + 1 := ⟨k - 1, by omega⟩
    simp only [prioryref14_less.l0]
    rw [if_neg (by omega), List.drop_eq_nil_of_le (by omega)]
    simp [lessP]
  | succ d ih =>
    intro k i out hi hk ho
    obtain ⟨k, rfl⟩ : ∃ m, k = m + 1 := ⟨k - 1, by omega⟩
    have hil : i < l.length := by omega
    have hol := outP_len (ar l i) b m
    simp only [prioryref14_less.l0]
    rw [if_pos (by omega), if_pos (by omega), rd_ar, out_eq _ (hf _ (ar_mem hil)) b m hb hm hm1, Option.bind_some, if_pos (by omega), wrap_id (by omega), drop_cons hil]
    have := ih k (i + 1) (out ++ outP (ar l i) b m) (by omega) (by omega) (by simp; omega)
    rw [show ((i : Int) + 1) = ((i + 1 : Nat) : Int) by omega, this]
    simp [lessP]
theorem less_tot (l : List S24) (hf : ∀ x ∈ l, Fit x) (hlen : l.length ≤ 500) (b m : Int) (hb : 0 ≤ b) (hm : b + m ≤ 1024) (hm1 : 1 ≤ m) (k : Nat) (hk : 2000 ≤ k) : prioryref14_less.f k l b m = some (lessP l b m) := by
  unfold prioryref14_less.f
  have := less_l0 l hf hlen b m hb hm hm1 l.length k 0 [] (by omega) (by omega) (by simp)
  simpa using this
theorem NF_weak : ∀ {l : List S24} {e e' : Int} {lw lw' : Option Bool}, NF e lw l → e' < e → NF e' lw' l
  | [], _, _, _, _, _, _ => trivial
  | a :: r, e, e', lw, lw', ⟨h1, h2, h3, h4, h5⟩, h => ⟨by omega, (fun he => by omega), h3, h4, h5⟩
theorem less_spec : ∀ (l : List S24) (e : Int) (lw : Option Bool) (b m : Int), 1 ≤ m → NF e lw l → NF e lw (lessP l b m) ∧ ∀ n : Nat, pgS (lessP l b m) n = if b ≤ n ∧ (n : Int) < b + m then 0 else pgS l n
  | [], e, lw, b, m, _, _ => ⟨trivial, fun n => by simp [lessP, pgS]⟩
  | a :: r, e, lw, b, m, hm, ⟨h1, h2, h3, h4, h5⟩ => by
    obtain ⟨i1, i2⟩ := less_spec r _ _ b m hm h5
    have pg : ∀ n : Nat, pgS (lessP (a :: r) b m) n = if pgS (outP a b m) n = 0 then pgS (lessP r b m) n else pgS (outP a b m) n := fun n => pgS_append _ _ n
    have hcons : ∀ n : Nat, pgS (a :: r) n = if a.f0 ≤ n ∧ (n : Int) < a.f0 + a.f1 then wv a.f2 else pgS r n := fun n => rfl
    show NF e lw (outP a b m ++ lessP r b m) ∧ _
    by_cases c1 : a.f0 < b
    · by_cases c2 : a.f0 + a.f1 > b + m
      · have ho : outP a b m = [⟨a.f0, b - a.f0, a.f2⟩, ⟨b + m, a.f0 + a.f1 - (b + m), a.f2⟩] := by
          unfold outP mn mx
          rw [if_pos c1, if_pos c2, if_pos (by omega), if_pos (by omega)]; rfl
        refine ⟨?_, fun n => ?_⟩
        · rw [ho]
          refine ⟨h1, h2, by show 1 ≤ b - a.f0; omega, by show a.f0 + (b - a.f0) ≤ 1024; omega, by show a.f0 + (b - a.f0) ≤ b + m; omega, fun he => by simp only at he; omega, by show 1 ≤ a.f0 + a.f1 - (b + m); omega, by show b + m + (a.f0 + a.f1 - (b + m)) ≤ 1024; omega, ?_⟩
          show NF (b + m + (a.f0 + a.f1 - (b + m))) (some a.f2) _
          rw [show b + m + (a.f0 + a.f1 - (b + m)) = a.f0 + a.f1 by omega]
          exact i1
        · rw [pg n, ho, i2 n, hcons n]
          by_cases k1 : a.f0 ≤ n ∧ (n : Int) < b
          · rw [pgS_in (a := ⟨a.f0, b - a.f0, a.f2⟩) (show a.f0 ≤ n ∧ (n : Int) < a.f0 + (b - a.f0) by omega), if_neg (wv_ne _), if_neg (by omega), if_pos (by omega)]
          · rw [pgS_out (a := ⟨a.f0, b - a.f0, a.f2⟩) (show ¬ (a.f0 ≤ n ∧ (n : Int) < a.f0 + (b - a.f0)) by omega)]
            by_cases k2 : b + m ≤ n ∧ (n : Int) < a.f0 + a.f1
            · rw [pgS_in (a := ⟨b + m, a.f0 + a.f1 - (b + m), a.f2⟩) (show b + m ≤ n ∧ (n : Int) < b + m + (a.f0 + a.f1 - (b + m)) by omega), if_neg (wv_ne _), if_neg (by omega), if_pos (by omega)]
            · rw [pgS_out (a := ⟨b + m, a.f0 + a.f1 - (b + m), a.f2⟩) (show ¬ (b + m ≤ n ∧ (n : Int) < b + m + (a.f0 + a.f1 - (b + m))) by omega)]
              show (if (0 : Int) = 0 then _ else _) = _
              rw [if_pos rfl]
              by_cases k3 : b ≤ n ∧ (n : Int) < b + m
              · rw [if_pos k3, if_pos k3]
              · rw [if_neg k3, if_neg k3, if_neg (by omega)]
      · have ho : outP a b m = [⟨a.f0, mn (a.f0 + a.f1) b - a.f0, a.f2⟩] := by
          unfold outP
          rw [if_pos c1, if_neg c2]; rfl
        have hmn : mn (a.f0 + a.f1) b = b ∧ b < a.f0 + a.f1 ∨ mn (a.f0 + a.f1) b = a.f0 + a.f1 ∧ a.f0 + a.f1 ≤ b := by unfold mn; split <;> omega
        refine ⟨?_, fun n => ?_⟩
        · rw [ho]
          refine ⟨h1, h2, by show 1 ≤ mn (a.f0 + a.f1) b - a.f0; omega, by show a.f0 + (mn (a.f0 + a.f1) b - a.f0) ≤ 1024; omega, ?_⟩
          show NF (a.f0 + (mn (a.f0 + a.f1) b - a.f0)) (some a.f2) _
          rcases hmn with ⟨q1, q2⟩ | ⟨q1, q2⟩
          · exact NF_weak i1 (by omega)
          · rw [show a.f0 + (mn (a.f0 + a.f1) b - a.f0) = a.f0 + a.f1 by omega]
            exact i1
        · rw [pg n, ho, i2 n, hcons n]
          by_cases k1 : a.f0 ≤ n ∧ (n : Int) < mn (a.f0 + a.f1) b
          · rw [pgS_in (a := ⟨a.f0, mn (a.f0 + a.f1) b - a.f0, a.f2⟩) (show a.f0 ≤ n ∧ (n : Int) < a.f0 + (mn (a.f0 + a.f1) b - a.f0) by omega), if_neg (wv_ne _), if_neg (by omega), if_pos (by omega)]
          · rw [pgS_out (a := ⟨a.f0, mn (a.f0 + a.f1) b - a.f0, a.f2⟩) (show ¬ (a.f0 ≤ n ∧ (n : Int) < a.f0 + (mn (a.f0 + a.f1) b - a.f0)) by omega)]
            show (if (0 : Int) = 0 then _ else _) = _
            rw [if_pos rfl]
            by_cases k3 : b ≤ n ∧ (n : Int) < b + m
            · rw [if_pos k3, if_pos k3]
            · rw [if_neg k3, if_neg k3, if_neg (by omega)]
    · by_cases c2 : a.f0 + a.f1 > b + m
      · have ho : outP a b m = [⟨mx a.f0 (b + m), a.f0 + a.f1 - mx a.f0 (b + m), a.f2⟩] := by
          unfold outP
          rw [if_neg c1, if_pos c2]; rfl
        have hmx : mx a.f0 (b + m) = b + m ∧ a.f0 < b + m ∨ mx a.f0 (b + m) = a.f0 ∧ b + m ≤ a.f0 := by unfold mx; split <;> omega
        refine ⟨?_, fun n => ?_⟩
        · rw [ho]
          refine ⟨by show e ≤ mx a.f0 (b + m); omega, fun he => ?_, by show 1 ≤ a.f0 + a.f1 - mx a.f0 (b + m); omega, by show mx a.f0 (b + m) + (a.f0 + a.f1 - mx a.f0 (b + m)) ≤ 1024; omega, ?_⟩
          · simp only at he
            exact h2 (by omega)
          · show NF (mx a.f0 (b + m) + (a.f0 + a.f1 - mx a.f0 (b + m))) (some a.f2) _
            rw [show mx a.f0 (b + m) + (a.f0 + a.f1 - mx a.f0 (b + m)) = a.f0 + a.f1 by omega]
            exact i1
        · rw [pg n, ho, i2 n, hcons n]
          by_cases k1 : mx a.f0 (b + m) ≤ n ∧ (n : Int) < a.f0 + a.f1
          · rw [pgS_in (a := ⟨mx a.f0 (b + m), a.f0 + a.f1 - mx a.f0 (b + m), a.f2⟩) (show mx a.f0 (b + m) ≤ n ∧ (n : Int) < mx a.f0 (b + m) + (a.f0 + a.f1 - mx a.f0 (b + m)) by omega), if_neg (wv_ne _), if_neg (by omega), if_pos (by omega)]
          · rw [pgS_out (a := ⟨mx a.f0 (b + m), a.f0 + a.f1 - mx a.f0 (b + m), a.f2⟩) (show ¬ (mx a.f0 (b + m) ≤ n ∧ (n : Int) < mx a.f0 (b + m) + (a.f0 + a.f1 - mx a.f0 (b + m))) by omega)]
            show (if (0 : Int) = 0 then _ else _) = _
            rw [if_pos rfl]
            by_cases k3 : b ≤ n ∧ (n : Int) < b + m
            · rw [if_pos k3, if_pos k3]
            · rw [if_neg k3, if_neg k3, if_neg (by omega)]
      · have ho : outP a b m = [] := by
          unfold outP
          rw [if_neg c1, if_neg c2]; rfl
        refine ⟨?_, fun n => ?_⟩
        · rw [ho]
          exact NF_weak i1 (by omega)
        · rw [pg n, ho, i2 n, hcons n]
          show (if (0 : Int) = 0 then _ else _) = _
          rw [if_pos rfl]
          by_cases k3 : b ≤ n ∧ (n : Int) < b + m
          · rw [if_pos k3, if_pos k3]
          · rw [if_neg k3, if_neg k3, if_neg (by omega)]
theorem lessP_len : ∀ (l : List S24) (b m : Int), (lessP l b m).length ≤ 2 * l.length
  | [], _, _ => by simp [lessP]
  | a :: r, b, m => by
    have := lessP_len r b m
    have := outP_len a b m
    simp [lessP]; omega
theorem fit_iff {a : S24} : fitB a.f0 a.f1 = true ↔ Fit a := by
  rw [fitB_iff]; unfold Fit; omega
theorem one_nf {a : S24} (ha : Fit a) : NF 0 none [a] := ⟨ha.1, (fun _ h => by cases h), ha.2.1, ha.2.2, trivial⟩
theorem pgS_one {a : S24} {n : Nat} : pgS [a] n = if a.f0 ≤ n ∧ (n : Int) < a.f0 + a.f1 then wv a.f2 else 0 := rfl
theorem pgS_mem {l : List S24} {x : S24} {n : Nat} (hx : x ∈ l) (h : x.f0 ≤ n ∧ (n : Int) < x.f0 + x.f1) : pgS l n ≠ 0 := by
  induction l with
  | nil => cases hx
  | cons a r ih =>
    unfold pgS
    split
    · exact wv_ne _
    · rename_i hc
      rcases List.mem_cons.1 hx with rfl | hx
      · exact absurd h hc
      · exact ih hx
theorem NF_fit {l : List S24} {e : Int} {lw : Option Bool} (he : 0 ≤ e) (h : NF e lw l) : ∀ x ∈ l, Fit x := fun x hx => by
  have := NF_ge h x hx
  exact ⟨by omega, this.2.1, this.2.2⟩
def ov (x a : S24) : Prop := x.f0 < a.f0 + a.f1 ∧ a.f0 < x.f0 + x.f1
theorem addR_ok {l : List S24} {a : S24} (hl : okB l = true) (ha : Fit a) (hd : ∀ x ∈ l, ¬ ov x a) : addR l a = fewR (withP l a) := by
  have hnf := ((okB_iff l).1 hl).2
  have hsp := with_spec hnf ha hd
  have hno : ∀ n : Nat, a.f0 ≤ n ∧ (n : Int) < a.f0 + a.f1 → pgS l n = 0 := fun n hn =>
    pgS_none (fun x hx hc => hd x hx ⟨by omega, by omega⟩)
  have hc : clash (pgF l) (pgF [a]) = false := clash_false (fun n hn h => by
    rw [pgF_eq hnf, pgF_eq (one_nf ha), pgS_one] at h
    by_cases hin : a.f0 ≤ n ∧ (n : Int) < a.f0 + a.f1
    · exact h.1 (hno n hin)
    · rw [if_neg hin] at h; exact h.2 rfl)
  unfold addR
  rw [hl, fit_iff.2 ha, hc]
  show formR _ = _
  refine formR_of (both_cases l [a]) hsp.1 (fun n hn => ?_)
  rw [hsp.2 n]
  show _ = mx (pgF l n) (pgF [a] n)
  rw [pgF_eq hnf, pgF_eq (one_nf ha), pgS_one]
  by_cases hin : a.f0 ≤ n ∧ (n : Int) < a.f0 + a.f1
  · rw [if_pos hin, if_pos hin, hno n hin]
    cases a.f2 <;> rfl
  · rw [if_neg hin, if_neg hin]
    rcases pgS_cases l n with h | h | h <;> rw [h] <;> rfl
theorem change_form {l m : List S24} {a b t : Int} (hl : okB l = true) (hf : fitB a b = true) (hc : covB l a b = true) (ht : t = 0 ∨ t = 1 ∨ t = 2) (hm : NF 0 none m)
    (hp : ∀ n : Nat, pgS m n = if a ≤ n ∧ (n : Int) < a + b then t else pgS l n) : changeR l a b t = fewR m := by
  have hnf := ((okB_iff l).1 hl).2
  unfold changeR
  rw [hl, hf, hc]
  show formR _ = _
  refine formR_of (chg_cases (pgF_cases l) ht) hm (fun n _ => ?_)
  rw [hp n]
  unfold chg
  rw [pgF_eq hnf]
theorem cut_ref (l : List S24) (a b : Int) (k : Nat) (hk : 2100 ≤ k) : prioryref14_Cut.f k l a b = some (changeR l a b 0) := by
  obtain ⟨k, rfl⟩ : ∃ m, k = m + 1 := ⟨k - 1, by omega⟩
  unfold prioryref14_Cut.f
  rw [rcheck_tot l _ (by omega), Option.bind_some]
  rcases chk_cases l with ⟨h1, h2⟩ | ⟨h1, h2⟩
  · rw [h2, if_pos rfl, rfits_eq, Option.bind_some]
    cases hf : fitB a b with
    | false =>
      simp only [prioryref14_Cut.j0, Bool.not_false, if_true]
      unfold changeR; rw [hf, Bool.and_false]; rfl
    | true =>
      obtain ⟨h8, hnf⟩ := (okB_iff l).1 h1
      obtain ⟨g0, g1, g2, g3⟩ := fitB_iff.1 hf
      simp only [prioryref14_Cut.j0, Bool.not_true, Bool.false_eq_true, if_false]
      rw [rcov_tot l a b k (by omega), Option.bind_some]
      unfold covR
      rw [h1, hf, Bool.and_true, Bool.true_and]
      cases hc : covB l a b with
      | false =>
        rw [if_neg (by decide)]
        unfold changeR; rw [h1, hf, hc]; rfl
      | true =>
        have hs := less_spec l 0 none a b g2 hnf
        rw [if_pos rfl, less_tot l (okB_fit h1) (by omega) a b g0 (by omega) g2 k (by omega), Option.bind_some, few_eq, Option.bind_some, change_form h1 hf hc (.inl rfl) hs.1 hs.2]
  · rw [h2, if_neg (by decide)]
    simp only [prioryref14_Cut.j0, if_true]
    unfold changeR; rw [h1]; rfl
theorem setP_spec {l : List S24} {a b : Int} (w : Bool) (h1 : okB l = true) (hf : fitB a b = true) (hc : covB l a b = true) : changeR l a b (wv w) = fewR (withP (lessP l a b) ⟨a, b, w⟩) := by
  obtain ⟨h8, hnf⟩ := (okB_iff l).1 h1
  obtain ⟨g0, g1, g2, g3⟩ := fitB_iff.1 hf
  have hs := less_spec l 0 none a b g2 hnf
  have hw := with_spec (a := ⟨a, b, w⟩) hs.1 ⟨g0, g2, by show a + b ≤ 1024; omega⟩ (fun x hx ho => by
    have hx1 := NF_ge hs.1 x hx
    have o1 : x.f0 < a + b := ho.1
    have o2 : a < x.f0 + x.f1 := ho.2
    by_cases h : x.f0 ≤ a
    · refine pgS_mem (n := a.toNat) hx (by omega) ?_
      rw [hs.2, if_pos (by omega)]
    · refine pgS_mem (n := x.f0.toNat) hx (by omega) ?_
      rw [hs.2, if_pos (by omega)])
  refine change_form h1 hf hc (wv_cases w) hw.1 (fun n => ?_)
  rw [hw.2 n, hs.2 n]
  show (if a ≤ (n : Int) ∧ (n : Int) < a + b then wv w else _) = _
  split <;> rfl
theorem set_ref (l : List S24) (a b : Int) (w : Bool) (k : Nat) (hk : 2100 ≤ k) : prioryref14_Set.f k l a b w = some (changeR l a b (wv w)) := by
  obtain ⟨k, rfl⟩ : ∃ m, k = m + 1 := ⟨k - 1, by omega⟩
  unfold prioryref14_Set.f
  rw [rcheck_tot l _ (by omega), Option.bind_some]
  rcases chk_cases l with ⟨h1, h2⟩ | ⟨h1, h2⟩
  · rw [h2, if_pos rfl, rfits_eq, Option.bind_some]
    cases hf : fitB a b with
    | false =>
      simp only [prioryref14_Set.j0, Bool.not_false, if_true]
      unfold changeR; rw [hf, Bool.and_false]; rfl
    | true =>
      obtain ⟨h8, hnf⟩ := (okB_iff l).1 h1
      obtain ⟨g0, g1, g2, g3⟩ := fitB_iff.1 hf
      simp only [prioryref14_Set.j0, Bool.not_true, Bool.false_eq_true, if_false]
      rw [rcov_tot l a b k (by omega), Option.bind_some]
      unfold covR
      rw [h1, hf, Bool.and_true, Bool.true_and]
      cases hc : covB l a b with
      | false =>
        rw [if_neg (by decide)]
        unfold changeR; rw [h1, hf, hc]; rfl
      | true =>
        have hs := less_spec l 0 none a b g2 hnf
        have hl := lessP_len l a b
        have hw := with_tot (lessP l a b) ⟨a, b, w⟩ (NF_fit (Int.le_refl 0) hs.1) (by omega) ⟨g0, g2, by show a + b ≤ 1024; omega⟩ k (by omega)
        simp only at hw
        rw [if_pos rfl, less_tot l (okB_fit h1) (by omega) a b g0 (by omega) g2 k (by omega), Option.bind_some, hw, Option.bind_some, few_eq, Option.bind_some, setP_spec w h1 hf hc]
  · rw [h2, if_neg (by decide)]
    simp only [prioryref14_Set.j0, if_true]
    unfold changeR; rw [h1]; rfl
theorem same_l0 (l : List S24) (hlen : (l.length : Int) ≤ 9223372036854775807) : ∀ (d k i : Nat), i + d = l.length → d < k → prioryref14_Same.l0 k l l i = some true := by
  intro d
  induction d with
  | zero =>
    intro k i hi hk
    obtain ⟨k, rfl⟩ : ∃ m, k = m + 1 := ⟨k - 1, by omega⟩
    simp only [prioryref14_Same.l0]
    rw [if_neg (by omega)]
  | succ d ih =>
    intro k i hi hk
    obtain ⟨k, rfl⟩ : ∃ m, k = m + 1 := ⟨k - 1, by omega⟩
    simp only [prioryref14_Same.l0]
    have h1 : (i : Int) < (l.length : Int) := by omega
    have h2 : (0 : Int) ≤ i := by omega
    rw [if_pos h1, if_pos h2, if_pos h1, if_neg (by simp), wrap_id (by omega)]
    exact ih k (i + 1) (by omega) (by omega)
theorem same_tot (l : List S24) (hlen : l.length ≤ 1000) (k : Nat) (hk : 1001 ≤ k) : prioryref14_Same.f k l l = some true := by
  unfold prioryref14_Same.f
  rw [if_pos rfl]
  exact same_l0 l (by omega) l.length k 0 (by omega) (by omega)
theorem awake_add : addR [⟨3, 2, true⟩] ⟨5, 1, true⟩ = ([⟨3, 3, true⟩], 0) := by
  rw [addR_ok (by decide) ⟨by decide, by decide, by decide⟩ (fun x hx ho => ?_)]
  · rfl
  · rw [List.mem_singleton.1 hx] at ho; exact absurd ho.2 (by decide)
theorem awake_set : changeR [⟨3, 3, true⟩] 4 1 (wv false) = ([⟨3, 1, true⟩, ⟨4, 1, false⟩, ⟨5, 1, true⟩], 0) := by
  rw [setP_spec false (by decide) (by decide) (by decide)]
  rfl
theorem awake_cut : changeR [⟨3, 3, true⟩] 2 2 0 = ([], 4) := by
  unfold changeR
  rw [show okB [⟨3, 3, true⟩] = true by decide, show fitB 2 2 = true by decide, show covB [⟨3, 3, true⟩] 2 2 = false by decide]; rfl
theorem awake_tot (k : Nat) : priorylaw14_awake.f k = some true := by
  unfold priorylaw14_awake.f region_Add.f region_Set.f region_Cut.f
  rw [awake_add]
  simp only [Option.bind_some]
  rw [awake_set, awake_cut]
  rfl
theorem formR_len (what : Nat → Int) : (formR what).1.length ≤ 8 := by
  unfold formR
  split
  · simp
  · rename_i h; show (formL what 1024).length ≤ 8; omega
theorem changeR_len (l : List S24) (a b t : Int) : (changeR l a b t).1.length ≤ 8 := by
  unfold changeR
  split
  · split
    · exact formR_len _
    · simp
  · simp
theorem law_cut (k : Nat) (hk : 2200 ≤ k) (l : List S24) (a b : Int) (w : Bool) : priorylaw14_RegionCut.f k l a b w = some true := by
  unfold priorylaw14_RegionCut.f
  rw [awake_tot, Option.bind_some]
  by_cases h : (l.length : Int) > 100
  · rw [if_pos h]
  · have h8 := changeR_len l a b 0
    have h9 := changeR_len l a b (wv w)
    rw [if_neg h, Option.bind_some, if_pos (by simp; omega), Option.bind_some, List.nil_append, cut_ref l a b k (by omega), set_ref l a b w k (by omega)]
    show (Option.bind (some (changeR l a b 0)) fun x => _) = _
    rw [Option.bind_some, Option.bind_some]
    show (Option.bind (some (changeR l a b (wv w))) fun x => _) = _
    rw [Option.bind_some, Option.bind_some, same_tot _ (by omega) k (by omega), Option.bind_some, if_pos rfl, if_pos rfl, same_tot _ (by omega) k (by omega), Option.bind_some, if_pos rfl, if_pos rfl, same_tot _ (by omega) k (by omega)]
    rfl
end Go.Proofs.Ytcblfhoipdbdlaa.PAll
