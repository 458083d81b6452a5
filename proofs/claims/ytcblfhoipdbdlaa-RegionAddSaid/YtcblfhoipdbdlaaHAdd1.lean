/-
  Walks and plain laws, joined of 4 texts.
-/
import Derived.Test.YtcblfhoipdbdlaaG1
import Derived.Test.YtcblfhoipdbdlaaG4
import Derived.Test.YtcblfhoipdbdlaaG2
import Derived.Test.YtcblfhoipdbdlaaG3
namespace Go.Proofs.Ytcblfhoipdbdlaa.PAll
open Go.RowKit Go.Proofs.YtcblfhoipdbdlaaW.PrintWords Go.Proofs.YtcblfhoipdbdlaaW.PrintLast Go.Proofs.YtcblfhoipdbdlaaW.PrintMore
attribute [local go_sem] max2_int min2_int max_two min_two max_three min_three max_four min_four   -- for this text's walks alone
set_option linter.unusedVariables false
set_option linter.unusedSimpArgs false
/-! ### prioryref14_meet: function 31 -/
def prioryref14_meet.f (a0_0 : Int) (a0_1 : Int) (a0_2 : Bool) (a1_0 : Int) (a1_1 : Int) (a1_2 : Bool) : Option (Bool) := if a0_0 < (wrap64 (a1_0 + a1_1)) then (some (decide (a1_0 < (wrap64 (a0_0 + a0_1))))) else (some false)
set_option maxHeartbeats 8000000 in
set_option maxRecDepth 100000 in
theorem prioryref14_meet.calls (a0_0 : Int) (a0_1 : Int) (a0_2 : Bool) (a1_0 : Int) (a1_1 : Int) (a1_2 : Bool) (r : Bool) (w : World) (h : prioryref14_meet.f a0_0 a0_1 a0_2 a1_0 a1_1 a1_2 = some r) :
    Calls Try.prog 31 #[.agg #[.int .i64 a0_0, .int .i64 a0_1, .bool a0_2], .agg #[.int .i64 a1_0, .int .i64 a1_1, .bool a1_2]] w fun e w' => e = .returned (.bool r) ∧ Below w.heap.size w w' := by
  have hu24 := Try.underlying24
  have HB := Aside0.mk (Below.refl w.heap.size w)
  have H : (if a0_0 < (wrap64 (a1_0 + a1_1)) then (some (decide (a1_0 < (wrap64 (a0_0 + a0_1))))) else (some false)) = some r := h
  clear h
  by_cases c3 : a0_0 < (wrap64 (a1_0 + a1_1))
  · rw [if_pos c3] at H
    have c3b0 : decide (a0_0 < (wrap64 (a1_0 + a1_1))) = true := decide_eq_true c3
    clear c3
    obtain rfl := Option.some.inj H
    go_enter Try.func31, Try.ntmps31
    go_wp2_with (first | ((with_reducible refine gate_dst (N := 2) rfl ?_); refine box_event ?hg (N := 2) ?hd (cs := #[.int .i64 a0_0, .int .i64 a0_1, .bool a0_2]) (t := 24) ?hr ?_; (case hd => rfl); (case hg => rfl); (case hr => first | (go_simp; done) | (go_simp; rfl)); intro gb110 hg w4 hbox hb; have n0_ := Aside0.mk (below_step (by repeat (first | (with_reducible first | exact HB.out | apply below_alloc | apply pw_below_drewN | apply below_drew1) | exact HB.out)) hb); have n1_ := Aside0.mk (hbox); have n2_ := Aside0.mk ((by rw [hg]; exact (below_size (by repeat (first | (with_reducible first | exact HB.out | apply below_alloc | apply pw_below_drewN | apply below_drew1) | exact HB.out))) : w.heap.size ≤ gb110)); have n3_ := Aside0.mk ((by rw [hg]; exact (below_size (by repeat (first | (with_reducible first | exact HB.out | apply below_alloc | apply pw_below_drewN | apply below_drew1) | exact HB.out))) : w.heap.size ≤ gb110)); clear HB; have HB := n0_; have BK110 := n1_; have GW110 := n2_; have GE110 := n3_; clear n0_ n1_ n2_ n3_; clear hb hbox hg) | ((with_reducible refine gate_dst (N := 3) rfl ?_); refine box_event ?hg (N := 3) ?hd (cs := #[.int .i64 a1_0, .int .i64 a1_1, .bool a1_2]) (t := 24) ?hr ?_; (case hd => rfl); (case hg => rfl); (case hr => first | (go_simp; done) | (go_simp; rfl)); intro gb111 hg w5 hbox hb; have n0_ := Aside0.mk (blk_below (g := gb110) (o := .cells #[.int .i64 a0_0, .int .i64 a0_1, .bool a0_2] 24 (0, 0)) (by (with_reducible repeat (first | refine blk_drewN ?_ _ | refine blk_drew ?_ | refine blk_alloc ?_ _)); exact BK110.out) hb); have n1_ := Aside0.mk (below_step (by repeat (first | (with_reducible first | exact HB.out | apply below_alloc | apply pw_below_drewN | apply below_drew1 | refine below_set ?_ GE110.out) | exact HB.out)) hb); have n2_ := Aside0.mk (hbox); have n3_ := Aside0.mk ((by rw [hg]; exact (below_size (by repeat (first | (with_reducible first | exact HB.out | apply below_alloc | apply pw_below_drewN | apply below_drew1 | refine below_set ?_ GE110.out) | exact HB.out))) : w.heap.size ≤ gb111)); have n4_ := Aside0.mk ((by rw [hg]; exact (below_size (by repeat (first | (with_reducible first | exact HB.out | apply below_alloc | apply pw_below_drewN | apply below_drew1 | refine below_set ?_ GE110.out) | exact HB.out))) : w.heap.size ≤ gb111)); have n5_ := Aside0.mk ((by rw [hg]; exact Nat.ne_of_lt (blk_lt (g := gb110) (o := .cells #[.int .i64 a0_0, .int .i64 a0_1, .bool a0_2] 24 (0, 0)) (by (with_reducible repeat (first | refine blk_drewN ?_ _ | refine blk_drew ?_ | refine blk_alloc ?_ _)); exact BK110.out)) : gb110 ≠ gb111)); have n6_ := Aside0.mk ((by rw [hg]; exact Nat.ne_of_gt (blk_lt (g := gb110) (o := .cells #[.int .i64 a0_0, .int .i64 a0_1, .bool a0_2] 24 (0, 0)) (by (with_reducible repeat (first | refine blk_drewN ?_ _ | refine blk_drew ?_ | refine blk_alloc ?_ _)); exact BK110.out)) : gb111 ≠ gb110)); clear BK110; clear HB; have BK110 := n0_; have HB := n1_; have BK111 := n2_; have GW111 := n3_; have GE111 := n4_; have NB110_111 := n5_; have NB111_110 := n6_; clear n0_ n1_ n2_ n3_ n4_ n5_ n6_; clear hb hbox hg; have hnb6 := NB110_111.out; have hnc6 := NB111_110.out; have hcz7_0 : w5.cell? ⟨gb110, 0, none⟩ = some (.int .i64 a0_0) := (blk_cell BK110.out 0).trans rfl; have hcz7_1 : w5.cell? ⟨gb110, 1, none⟩ = some (.int .i64 a0_1) := (blk_cell BK110.out 1).trans rfl; have hcz7_2 : w5.cell? ⟨gb110, 2, none⟩ = some (.bool a0_2) := (blk_cell BK110.out 2).trans rfl; have hfz7_0 := blk_frozen BK110.out 0; have hfz7_1 := blk_frozen BK110.out 1; have hfz7_2 := blk_frozen BK110.out 2; have hcz8_0 : w5.cell? ⟨gb111, 0, none⟩ = some (.int .i64 a1_0) := (blk_cell BK111.out 0).trans rfl; have hcz8_1 : w5.cell? ⟨gb111, 1, none⟩ = some (.int .i64 a1_1) := (blk_cell BK111.out 1).trans rfl; have hcz8_2 : w5.cell? ⟨gb111, 2, none⟩ = some (.bool a1_2) := (blk_cell BK111.out 2).trans rfl; have hfz8_0 := blk_frozen BK111.out 0; have hfz8_1 := blk_frozen BK111.out 1; have hfz8_2 := blk_frozen BK111.out 2))
    go_ret
    exact ⟨by first | rfl | (simp [errW_none, errW_some] <;> rfl) | (simp [*, errW_none, errW_some] <;> rfl), by repeat (first | (with_reducible first | exact HB.out | apply below_alloc | apply pw_below_drewN | apply below_drew1 | refine below_set ?_ GE110.out | refine below_set ?_ GE111.out) | exact HB.out)⟩
  · rw [if_neg c3] at H
    have c3b0 : decide (a0_0 < (wrap64 (a1_0 + a1_1))) = false := decide_eq_false c3
    clear c3
    obtain rfl := Option.some.inj H
    go_enter Try.func31, Try.ntmps31
    go_wp2_with (first | ((with_reducible refine gate_dst (N := 2) rfl ?_); refine box_event ?hg (N := 2) ?hd (cs := #[.int .i64 a0_0, .int .i64 a0_1, .bool a0_2]) (t := 24) ?hr ?_; (case hd => rfl); (case hg => rfl); (case hr => first | (go_simp; done) | (go_simp; rfl)); intro gb110 hg w9 hbox hb; have n0_ := Aside0.mk (below_step (by repeat (first | (with_reducible first | exact HB.out | apply below_alloc | apply pw_below_drewN | apply below_drew1) | exact HB.out)) hb); have n1_ := Aside0.mk (hbox); have n2_ := Aside0.mk ((by rw [hg]; exact (below_size (by repeat (first | (with_reducible first | exact HB.out | apply below_alloc | apply pw_below_drewN | apply below_drew1) | exact HB.out))) : w.heap.size ≤ gb110)); have n3_ := Aside0.mk ((by rw [hg]; exact (below_size (by repeat (first | (with_reducible first | exact HB.out | apply below_alloc | apply pw_below_drewN | apply below_drew1) | exact HB.out))) : w.heap.size ≤ gb110)); clear HB; have HB := n0_; have BK110 := n1_; have GW110 := n2_; have GE110 := n3_; clear n0_ n1_ n2_ n3_; clear hb hbox hg) | ((with_reducible refine gate_dst (N := 3) rfl ?_); refine box_event ?hg (N := 3) ?hd (cs := #[.int .i64 a1_0, .int .i64 a1_1, .bool a1_2]) (t := 24) ?hr ?_; (case hd => rfl); (case hg => rfl); (case hr => first | (go_simp; done) | (go_simp; rfl)); intro gb111 hg w10 hbox hb; have n0_ := Aside0.mk (blk_below (g := gb110) (o := .cells #[.int .i64 a0_0, .int .i64 a0_1, .bool a0_2] 24 (0, 0)) (by (with_reducible repeat (first | refine blk_drewN ?_ _ | refine blk_drew ?_ | refine blk_alloc ?_ _)); exact BK110.out) hb); have n1_ := Aside0.mk (below_step (by repeat (first | (with_reducible first | exact HB.out | apply below_alloc | apply pw_below_drewN | apply below_drew1 | refine below_set ?_ GE110.out) | exact HB.out)) hb); have n2_ := Aside0.mk (hbox); have n3_ := Aside0.mk ((by rw [hg]; exact (below_size (by repeat (first | (with_reducible first | exact HB.out | apply below_alloc | apply pw_below_drewN | apply below_drew1 | refine below_set ?_ GE110.out) | exact HB.out))) : w.heap.size ≤ gb111)); have n4_ := Aside0.mk ((by rw [hg]; exact (below_size (by repeat (first | (with_reducible first | exact HB.out | apply below_alloc | apply pw_below_drewN | apply below_drew1 | refine below_set ?_ GE110.out) | exact HB.out))) : w.heap.size ≤ gb111)); have n5_ := Aside0.mk ((by rw [hg]; exact Nat.ne_of_lt (blk_lt (g := gb110) (o := .cells #[.int .i64 a0_0, .int .i64 a0_1, .bool a0_2] 24 (0, 0)) (by (with_reducible repeat (first | refine blk_drewN ?_ _ | refine blk_drew ?_ | refine blk_alloc ?_ _)); exact BK110.out)) : gb110 ≠ gb111)); have n6_ := Aside0.mk ((by rw [hg]; exact Nat.ne_of_gt (blk_lt (g := gb110) (o := .cells #[.int .i64 a0_0, .int .i64 a0_1, .bool a0_2] 24 (0, 0)) (by (with_reducible repeat (first | refine blk_drewN ?_ _ | refine blk_drew ?_ | refine blk_alloc ?_ _)); exact BK110.out)) : gb111 ≠ gb110)); clear BK110; clear HB; have BK110 := n0_; have HB := n1_; have BK111 := n2_; have GW111 := n3_; have GE111 := n4_; have NB110_111 := n5_; have NB111_110 := n6_; clear n0_ n1_ n2_ n3_ n4_ n5_ n6_; clear hb hbox hg; have hnb11 := NB110_111.out; have hnc11 := NB111_110.out; have hcz12_0 : w10.cell? ⟨gb110, 0, none⟩ = some (.int .i64 a0_0) := (blk_cell BK110.out 0).trans rfl; have hcz12_1 : w10.cell? ⟨gb110, 1, none⟩ = some (.int .i64 a0_1) := (blk_cell BK110.out 1).trans rfl; have hcz12_2 : w10.cell? ⟨gb110, 2, none⟩ = some (.bool a0_2) := (blk_cell BK110.out 2).trans rfl; have hfz12_0 := blk_frozen BK110.out 0; have hfz12_1 := blk_frozen BK110.out 1; have hfz12_2 := blk_frozen BK110.out 2; have hcz13_0 : w10.cell? ⟨gb111, 0, none⟩ = some (.int .i64 a1_0) := (blk_cell BK111.out 0).trans rfl; have hcz13_1 : w10.cell? ⟨gb111, 1, none⟩ = some (.int .i64 a1_1) := (blk_cell BK111.out 1).trans rfl; have hcz13_2 : w10.cell? ⟨gb111, 2, none⟩ = some (.bool a1_2) := (blk_cell BK111.out 2).trans rfl; have hfz13_0 := blk_frozen BK111.out 0; have hfz13_1 := blk_frozen BK111.out 1; have hfz13_2 := blk_frozen BK111.out 2))
    go_ret
    exact ⟨by first | rfl | (simp [errW_none, errW_some] <;> rfl) | (simp [*, errW_none, errW_some] <;> rfl), by repeat (first | (with_reducible first | exact HB.out | apply below_alloc | apply pw_below_drewN | apply below_drew1 | refine below_set ?_ GE110.out | refine below_set ?_ GE111.out) | exact HB.out)⟩
end Go.Proofs.Ytcblfhoipdbdlaa.PAll

namespace Go.Proofs.Ytcblfhoipdbdlaa.PAll
open Go.RowKit Go.Proofs.YtcblfhoipdbdlaaW.PrintWords Go.Proofs.YtcblfhoipdbdlaaW.PrintLast Go.Proofs.YtcblfhoipdbdlaaW.PrintMore
attribute [local go_sem] max2_int min2_int max_two min_two max_three min_three max_four min_four   -- for this text's walks alone
set_option linter.unusedVariables false
set_option linter.unusedSimpArgs false
attribute [local go_sem high] eqA24
/-! ### prioryref14_Add: function 12 -/
mutual
def prioryref14_Add.j0 : Nat → List (S24) → Bool → Int → Int → Bool → Option ((List (S24)) × Int)
  | 0, _, _, _, _, _ => none
  | k + 1, x0, x17, x248000, x248001, x248002 => if x17 = true then (some (([] : List (S24)), 2)) else (prioryref14_Add.l0 k x0 0 x248000 x248001 x248002)
def prioryref14_Add.l0 : Nat → List (S24) → Int → Int → Int → Bool → Option ((List (S24)) × Int)
  | 0, _, _, _, _, _ => none
  | k + 1, x0, x6, x248000, x248001, x248002 => if x6 < (x0.length : Int) then (if 0 ≤ x6 then ((prioryref14_meet.f ((rd_T24 x0 x6).f0) ((rd_T24 x0 x6).f1) ((rd_T24 x0 x6).f2) x248000 x248001 x248002).bind fun t251 => (if t251 = true then (some (([] : List (S24)), 5)) else (prioryref14_Add.l0 k x0 (wrap64 (x6 + 1)) x248000 x248001 x248002))) else (none)) else ((prioryref14_with.f k x0 x248000 x248001 x248002).bind fun t252 => ((prioryref14_few.f t252).bind fun bt255 => (some (bt255.1, bt255.2))))
end
def prioryref14_Add.f (k : Nat) (l0 : List (S24)) (a1_0 : Int) (a1_1 : Int) (a1_2 : Bool) : Option ((List (S24)) × Int) := (prioryref14_Check.f k l0).bind fun t248 => (if t248 = 0 then ((prioryref14_Fits.f a1_0 a1_1).bind fun t249 => (prioryref14_Add.j0 k l0 (!t249) a1_0 a1_1 a1_2)) else (prioryref14_Add.j0 k l0 true a1_0 a1_1 a1_2))
theorem prioryref14_Add.mono_l : ∀ k, (∀ y0 y1 y2 y3 y4, LeO (prioryref14_Add.j0 k y0 y1 y2 y3 y4) (prioryref14_Add.j0 (k + 1) y0 y1 y2 y3 y4)) ∧ (∀ y0 y1 y2 y3 y4, LeO (prioryref14_Add.l0 k y0 y1 y2 y3 y4) (prioryref14_Add.l0 (k + 1) y0 y1 y2 y3 y4))
  | 0 => ⟨fun _ _ _ _ _ r h => by simp [prioryref14_Add.j0] at h, fun _ _ _ _ _ r h => by simp [prioryref14_Add.l0] at h⟩
  | k + 1 => by
    obtain ⟨ih0, ih1⟩ := prioryref14_Add.mono_l k
    refine ⟨?_, ?_⟩
    · intro y0 y1 y2 y3 y4
      unfold prioryref14_Add.j0
      repeat' first
      | (with_reducible exact ih0 _ _ _ _ _)
      | (with_reducible exact ih1 _ _ _ _ _)
      | (with_reducible exact prioryref14_Check.mono _ _)
      | (with_reducible exact prioryref14_with.mono _ _ _ _ _)
      | (with_reducible exact LeO.refl _)
      | (with_reducible exact LeO.none _)
      | (with_reducible refine LeO.ite ?_ ?_)
      | (with_reducible refine LeO.bind ?_ (fun _ => ?_))
      | exact ih0 _ _ _ _ _
      | exact ih1 _ _ _ _ _
      | exact prioryref14_Check.mono _ _
      | exact prioryref14_with.mono _ _ _ _ _
      | exact LeO.none _
      | refine LeO.ite ?_ ?_
      | refine LeO.bind ?_ (fun _ => ?_)
    · intro y0 y1 y2 y3 y4
      unfold prioryref14_Add.l0
      repeat' first
      | (with_reducible exact ih0 _ _ _ _ _)
      | (with_reducible exact ih1 _ _ _ _ _)
      | (with_reducible exact prioryref14_Check.mono _ _)
      | (with_reducible exact prioryref14_with.mono _ _ _ _ _)
      | (with_reducible exact LeO.refl _)
      | (with_reducible exact LeO.none _)
      | (with_reducible refine LeO.ite ?_ ?_)
      | (with_reducible refine LeO.bind ?_ (fun _ => ?_))
      | exact ih0 _ _ _ _ _
      | exact ih1 _ _ _ _ _
      | exact prioryref14_Check.mono _ _
      | exact prioryref14_with.mono _ _ _ _ _
      | exact LeO.none _
      | refine LeO.ite ?_ ?_
      | refine LeO.bind ?_ (fun _ => ?_)
theorem prioryref14_Add.mono : ∀ a0 a1 a2 a3 k, LeO (prioryref14_Add.f k a0 a1 a2 a3) (prioryref14_Add.f (k + 1) a0 a1 a2 a3) := by
  intro a0 a1 a2 a3 k
  obtain ⟨ih0, ih1⟩ := prioryref14_Add.mono_l k
  unfold prioryref14_Add.f
  repeat' first
      | (with_reducible exact ih0 _ _ _ _ _)
      | (with_reducible exact ih1 _ _ _ _ _)
      | (with_reducible exact prioryref14_Check.mono _ _)
      | (with_reducible exact prioryref14_with.mono _ _ _ _ _)
      | (with_reducible exact LeO.refl _)
      | (with_reducible exact LeO.none _)
      | (with_reducible refine LeO.ite ?_ ?_)
      | (with_reducible refine LeO.bind ?_ (fun _ => ?_))
      | exact ih0 _ _ _ _ _
      | exact ih1 _ _ _ _ _
      | exact prioryref14_Check.mono _ _
      | exact prioryref14_with.mono _ _ _ _ _
      | exact LeO.none _
      | refine LeO.ite ?_ ?_
      | refine LeO.bind ?_ (fun _ => ?_)
set_option maxHeartbeats 8000000 in
set_option maxRecDepth 100000 in
theorem prioryref14_Add.calls (k : Nat) (A0 : Option Addr) (c0 : Nat) (l0 : List (S24)) (a1_0 : Int) (a1_1 : Int) (a1_2 : Bool) (r1 : List (S24)) (r2 : Int) (w : World) (hr0 : Kd.C k24 w A0 l0.length l0) (hc0 : l0.length ≤ c0) (h : prioryref14_Add.f k l0 a1_0 a1_1 a1_2 = some (r1, r2)) :
    Calls Try.prog 12 #[.slice A0 l0.length c0, .agg #[.int .i64 a1_0, .int .i64 a1_1, .bool a1_2]] w fun e w' => ∃ v0_ : Value, e = .returned (.tuple #[v0_, .int .i64 r2]) ∧ Kd.R k24 24 w' w.heap.size (fun _ => True) v0_ r1 ∧ Below w.heap.size w w' := by
  have hu24 := Try.underlying24
  have HR0 := Aside0.mk hr0
  have HC0 := Aside0.mk hc0
  clear hr0 hc0
  have HB := Aside0.mk (Below.refl w.heap.size w)
  have H : ((prioryref14_Check.f k l0).bind fun t248 => (if t248 = 0 then ((prioryref14_Fits.f a1_0 a1_1).bind fun t249 => (prioryref14_Add.j0 k l0 (!t249) a1_0 a1_1 a1_2)) else (prioryref14_Add.j0 k l0 true a1_0 a1_1 a1_2))) = some (r1, r2) := h
  clear h
  have HC3 := Aside0.mk H
  clear H
  go_enter Try.func12, Try.ntmps12
  go_upto_region 1 with (first | ((with_reducible refine gate_dst (N := 3) rfl ?_); refine box_event ?hg (N := 3) ?hd (cs := #[.int .i64 a1_0, .int .i64 a1_1, .bool a1_2]) (t := 24) ?hr ?_; (case hd => rfl); (case hg => rfl); (case hr => first | (go_simp; done) | (go_simp; rfl)); intro gb247 hg w4 hbox hb; have n0_ := Aside0.mk (below_step (by repeat (first | (with_reducible first | exact HB.out | apply below_alloc | apply pw_below_drewN | apply below_drew1) | exact HB.out)) hb); have n1_ := Aside0.mk (hbox); have n2_ := Aside0.mk ((by rw [hg]; exact (below_size (by repeat (first | (with_reducible first | exact HB.out | apply below_alloc | apply pw_below_drewN | apply below_drew1) | exact HB.out))) : w.heap.size ≤ gb247)); have n3_ := Aside0.mk ((by rw [hg]; exact (below_size (by repeat (first | (with_reducible first | exact HB.out | apply below_alloc | apply pw_below_drewN | apply below_drew1) | exact HB.out))) : w.heap.size ≤ gb247)); clear HB; have HB := n0_; have BK247 := n1_; have GW247 := n2_; have GE247 := n3_; clear n0_ n1_ n2_ n3_; clear hb hbox hg))
  (try simp only [Act.put, List.setIfInBounds_toArray, List.set_cons_zero, List.set_cons_succ])
  go_cut [17] (fun v17 wc => ∃ (kq : Nat) (x17_2 : Bool), v17 = .bool x17_2 ∧ Aside0 (prioryref14_Add.j0 kq l0 x17_2 a1_0 a1_1 a1_2 = some (r1, r2)) ∧ Aside0 (kq ≤ k) ∧ Aside0 (wc.heap[gb247]? = some (.cells #[.int .i64 a1_0, .int .i64 a1_1, .bool a1_2] 24 (0, 0))) ∧ Aside0 (Below w.heap.size w wc))
  case first =>
    have H := HC3.out
    clear HC3
    replace H := Option.bind_eq_some_iff.mp H
    obtain ⟨t248, A50, H⟩ := H
    replace H : (if t248 = 0 then ((prioryref14_Fits.f a1_0 a1_1).bind fun t249 => (prioryref14_Add.j0 k l0 (!t249) a1_0 a1_1 a1_2)) else (prioryref14_Add.j0 k l0 true a1_0 a1_1 a1_2)) = some (r1, r2) := H
    have A5 := Aside0.mk A50
    clear A50
    by_cases c6 : t248 = 0
    · rw [if_pos c6] at H
      have c6b0 : (t248 == 0) = true := beq_iff_eq.mpr c6
      have c6b1 : (t248 != 0) = false := bne_eq_false_iff_eq.mpr c6
      clear c6
      (first | rw [c6b0] | (simp only [i64_w, i32_w]; rw [c6b0]) | skip)
      replace H := Option.bind_eq_some_iff.mp H
      obtain ⟨t249, A70, H⟩ := H
      replace H : (prioryref14_Add.j0 k l0 (!t249) a1_0 a1_1 a1_2) = some (r1, r2) := H
      have A7 := Aside0.mk A70
      clear A70
      have H' := Aside0.mk H
      clear H
      go_wp2_with (first | ((with_reducible refine gate_callee (f := 21) rfl ?_); refine goesL_ (some 8) rfl rfl Try.func21 (by kernel_rfl) rfl #[.slice A0 l0.length c0] rfl (by (try simp only [List.map_toArray, List.map_cons, List.map_nil]); first | done | rfl | (simp only [List.length_drop, List.length_take]; rfl)) ?_; (with_reducible refine (prioryref14_Check.calls k _ _ l0 t248 _ ?side1 ?side2 A5.out).mono ?_); (case side1 => repeat (first | exact (Kd.C_below HR0.out HB.out) | (with_reducible refine Kd.C_alloc ?_ _) | (with_reducible refine Kd.C_drewN ?_ _) | (with_reducible refine Kd.C_drew ?_))); (case side2 => exact HC0.out); rintro e w' ⟨rfl, ⟨nd, rfl⟩⟩; refine ⟨_, rfl, ?_⟩; have hcz8_0 : w4.cell? ⟨gb247, 0, none⟩ = some (.int .i64 a1_0) := (blk_cell BK247.out 0).trans rfl; have hcz8_1 : w4.cell? ⟨gb247, 1, none⟩ = some (.int .i64 a1_1) := (blk_cell BK247.out 1).trans rfl; have hcz8_2 : w4.cell? ⟨gb247, 2, none⟩ = some (.bool a1_2) := (blk_cell BK247.out 2).trans rfl; have hfz8_0 := blk_frozen BK247.out 0; have hfz8_1 := blk_frozen BK247.out 1; have hfz8_2 := blk_frozen BK247.out 2) | (go_at_call 26; (with_reducible refine (prioryref14_Fits.calls a1_0 a1_1 t249 _ A7.out).mono ?_); rintro e w' ⟨rfl, ⟨nd, rfl⟩⟩))
      go_meet
      case rel => exact ⟨_, (!t249), (by first | rfl | (simp; done) | (simp [*]; done)), H', ⟨by first | omega | exact Nat.le_refl _⟩, ⟨by (with_reducible repeat (first | refine blk_drewN ?_ _ | refine blk_drew ?_ | refine blk_alloc ?_ _)); exact BK247.out⟩, ⟨by repeat (first | (with_reducible first | exact HB.out | apply below_alloc | apply pw_below_drewN | apply below_drew1 | refine below_set ?_ GE247.out) | exact HB.out)⟩⟩
    · rw [if_neg c6] at H
      have c6b0 : (t248 == 0) = false := beq_eq_false_iff_ne.mpr c6
      have c6b1 : (t248 != 0) = true := bne_iff_ne.mpr c6
      (first | rw [c6b0] | (simp only [i64_w, i32_w]; rw [c6b0]) | skip)
      have H' := Aside0.mk H
      clear H
      go_wp2_with (first | ((with_reducible refine gate_callee (f := 21) rfl ?_); refine goesL_ (some 8) rfl rfl Try.func21 (by kernel_rfl) rfl #[.slice A0 l0.length c0] rfl (by (try simp only [List.map_toArray, List.map_cons, List.map_nil]); first | done | rfl | (simp only [List.length_drop, List.length_take]; rfl)) ?_; (with_reducible refine (prioryref14_Check.calls k _ _ l0 t248 _ ?side1 ?side2 A5.out).mono ?_); (case side1 => repeat (first | exact (Kd.C_below HR0.out HB.out) | (with_reducible refine Kd.C_alloc ?_ _) | (with_reducible refine Kd.C_drewN ?_ _) | (with_reducible refine Kd.C_drew ?_))); (case side2 => exact HC0.out); rintro e w' ⟨rfl, ⟨nd, rfl⟩⟩; refine ⟨_, rfl, ?_⟩))
      go_meet
      case rel => exact ⟨_, (true), (by first | rfl | (simp; done) | (simp [*]; done)), H', ⟨by first | omega | exact Nat.le_refl _⟩, ⟨by (with_reducible repeat (first | refine blk_drewN ?_ _ | refine blk_drew ?_ | refine blk_alloc ?_ _)); exact BK247.out⟩, ⟨by repeat (first | (with_reducible first | exact HB.out | apply below_alloc | apply pw_below_drewN | apply below_drew1 | refine below_set ?_ GE247.out) | exact HB.out)⟩⟩
  case rest =>
    clear HC3
    try clear c1
    try clear c2
    try clear p2
    try clear c6
    try clear c6b0
    try clear c6b1
    try clear hcz8_0
    try clear hcz8_1
    try clear hcz8_2
    try clear hfz8_0
    try clear hfz8_1
    try clear hfz8_2
    obtain ⟨kq, x17_2, rfl, HA, HJ2, BK247, HB⟩ := hcut
    cases kq with
    | zero => exact absurd HA.out (by simp [prioryref14_Add.j0])
    | succ kj2 =>
      have H := HA.out
      clear HA
      simp only [prioryref14_Add.j0] at H
      by_cases c9 : x17_2 = true
      · subst c9
        have H1 : (some (([] : List (S24)), 2)) = some (r1, r2) := by rw [if_pos rfl] at H; exact H
        clear H
        have H := H1
        clear H1
        simp only [Option.some.injEq, Prod.mk.injEq] at H
        obtain ⟨rfl, rfl⟩ := H
        go_wp2
        go_ret2
        exact ⟨_, by first | rfl | (simp [errW_none, errW_some] <;> rfl) | (simp [*, errW_none, errW_some] <;> rfl), by first | exact Kd.R_nil _ _ _ _ _ | exact Kd.N_nil _ _ _ _ _ | exact Kd.V_nil _ _ _ _ _ | exact Kd.Q_nil _ _ _ _ _ | exact Kd.S_nil _ _ _ _ _, by repeat (first | (with_reducible first | exact HB.out | apply below_alloc | apply pw_below_drewN | apply below_drew1 | refine below_set ?_ GE247.out) | exact HB.out)⟩
      · replace c9 := Bool.eq_false_iff.mpr c9
        subst c9
        have H1 : (prioryref14_Add.l0 kj2 l0 0 a1_0 a1_1 a1_2) = some (r1, r2) := by rw [if_neg (show ¬ (false = true) by decide)] at H; exact H
        clear H
        have H := H1
        clear H1
        have H' := Aside0.mk H
        clear H
        go_wp2
        go_loopg [6] kj2 (fun kq v6 w' => ∃ (x6_2 : Int), v6 = .int .i64 x6_2 ∧ Aside0 (prioryref14_Add.l0 kq l0 x6_2 a1_0 a1_1 a1_2 = some (r1, r2)) ∧ Aside0 (kq ≤ kj2) ∧ Aside0 (w'.heap[gb247]? = some (.cells #[.int .i64 a1_0, .int .i64 a1_1, .bool a1_2] 24 (0, 0))) ∧ Aside0 (Below w.heap.size w w'))
        case atStart => exact ⟨(0), (by first | rfl | (simp; done) | (simp [*]; done)), H', ⟨Nat.le_refl _⟩, ⟨by (with_reducible repeat (first | refine blk_drewN ?_ _ | refine blk_drew ?_ | refine blk_alloc ?_ _)); exact BK247.out⟩, ⟨by repeat (first | (with_reducible first | exact HB.out | apply below_alloc | apply pw_below_drewN | apply below_drew1 | refine below_set ?_ GE247.out) | exact HB.out)⟩⟩
        case round =>
          clear H'
          try clear c1
          try clear c2
          try clear p2
          try clear c6
          try clear c6b0
          try clear c6b1
          try clear c9
          try clear hcz8_0
          try clear hcz8_1
          try clear hcz8_2
          try clear hfz8_0
          try clear hfz8_1
          try clear hfz8_2
          try clear p2
          obtain ⟨x6_2, rfl, HA, HK2, BK247, HB⟩ := hrel
          cases gk with
          | zero => exact absurd HA.out (by simp [prioryref14_Add.l0])
          | succ k2 =>
            have H := HA.out
            clear HA
            simp only [prioryref14_Add.l0] at H
            by_cases c10 : x6_2 < (l0.length : Int)
            · rw [if_pos c10] at H
              have c10b0 : decide (x6_2 < (l0.length : Int)) = true := decide_eq_true c10
              clear c10
              by_cases c11 : 0 ≤ x6_2
              · rw [if_pos c11] at H
                have c11b0 : decide (0 ≤ x6_2) = true := decide_eq_true c11
                clear c11
                replace H := Option.bind_eq_some_iff.mp H
                obtain ⟨t251, A120, H⟩ := H
                replace H : (if t251 = true then (some (([] : List (S24)), 5)) else (prioryref14_Add.l0 k2 l0 (wrap64 (x6_2 + 1)) a1_0 a1_1 a1_2)) = some (r1, r2) := H
                have A12 := Aside0.mk A120
                clear A120
                by_cases c13 : t251 = true
                · subst c13
                  have H1 : (some (([] : List (S24)), 5)) = some (r1, r2) := by rw [if_pos rfl] at H; exact H
                  clear H
                  have H := H1
                  clear H1
                  simp only [Option.some.injEq, Prod.mk.injEq] at H
                  obtain ⟨rfl, rfl⟩ := H
                  try go_wp2
                  have n0_ := Aside0.mk (blk_drew BK247.out)
                  have n1_ := Aside0.mk (below_drew1 HB.out)
                  clear BK247
                  clear HB
                  have BK247 := n0_
                  have HB := n1_
                  clear n0_ n1_
                  have p250 : 0 ≤ (x6_2 : Int) := of_decide_eq_true (by first | (with_reducible assumption) | assumption)
                  have q250 : x6_2 < (l0.length : Int) := of_decide_eq_true (by first | (with_reducible assumption) | assumption)
                  obtain ⟨ad250, e250, hx250_0, hx250_1, hx250_2⟩ := at_T24 HR0.out x6_2 p250 q250
                  have hw250_2 := hx250_2
                  have hw250_1 := hx250_1
                  have hw250_0 := hx250_0
                  cases e250
                  replace hx250_0 := (HB.out.cell (World.block_lt_of_cell? w _ hx250_0)).trans hx250_0
                  replace hx250_1 := (HB.out.cell (World.block_lt_of_cell? w _ hx250_1)).trans hx250_1
                  replace hx250_2 := (HB.out.cell (World.block_lt_of_cell? w _ hx250_2)).trans hx250_2
                  replace p250 := eq_true p250
                  replace q250 := eq_true q250
                  refine start_ (n := 6) (S := fun w' => w'.cell? ⟨gb247, 0, none⟩ = some (.int .i64 a1_0) ∧ w'.cell? ⟨gb247, 1, none⟩ = some (.int .i64 a1_1) ∧ w'.cell? ⟨gb247, 2, none⟩ = some (.bool a1_2) ∧ w'.cell? (ad250.add ((x6_2).toNat * 3)) = some (.int .i64 ((rd_T24 l0 x6_2).f0)) ∧ w'.cell? ⟨(ad250.add ((x6_2).toNat * 3)).block, (ad250.add ((x6_2).toNat * 3)).off + 1, none⟩ = some (.int .i64 ((rd_T24 l0 x6_2).f1)) ∧ w'.cell? ⟨(ad250.add ((x6_2).toNat * 3)).block, (ad250.add ((x6_2).toNat * 3)).off + 2, none⟩ = some (.bool ((rd_T24 l0 x6_2).f2))) (ds := []) #[false, false, false, false, false, false] (by kernel_rfl) rfl rfl ⟨(blk_cell BK247.out 0).trans rfl, (blk_cell BK247.out 1).trans rfl, (blk_cell BK247.out 2).trans rfl, ((HB.out.cell (World.block_lt_of_cell? w _ hw250_0)).trans hw250_0), ((HB.out.cell (World.block_lt_of_cell? w _ hw250_1)).trans hw250_1), ((HB.out.cell (World.block_lt_of_cell? w _ hw250_2)).trans hw250_2)⟩ (fun hHeld => ?_)
                  generalize wr.drew = w14 at BK247 HB hx250_0 hx250_1 hx250_2 hHeld ⊢
                  refine pure_ (i := 0) (N := some 24) (v := ?_) (a' := ?_) #[true, false, false, false, false, false] rfl rfl (by kernel_rfl) (fun _ _ _ h => h) (Or.inl ⟨by rfl, ?_⟩) ?_ ?_
                  rotate_left
                  · intro w'
                    go_simp
                    with_reducible rfl
                  rotate_left
                  · simp only [Act.put, List.setIfInBounds_toArray, List.set_cons_zero, List.set_cons_succ, i64_w, i32_w]
                    rfl
                  refine pure_ (i := 1) (N := some 25) (v := ?_) (a' := ?_) #[true, true, false, false, false, false] rfl rfl (by kernel_rfl) (fun _ _ _ h => h) (Or.inl ⟨by rfl, ?_⟩) ?_ ?_
                  rotate_left
                  · intro w'
                    go_simp
                    with_reducible rfl
                  rotate_left
                  · simp only [Act.put, List.setIfInBounds_toArray, List.set_cons_zero, List.set_cons_succ, i64_w, i32_w]
                    rfl
                  refine pure_ (i := 2) (N := some 26) (v := ?_) (a' := ?_) #[true, true, true, false, false, false] rfl rfl (by kernel_rfl) (fun _ _ _ h => h) (Or.inl ⟨by rfl, ?_⟩) ?_ ?_
                  rotate_left
                  · intro w'
                    go_simp
                    with_reducible rfl
                  rotate_left
                  · simp only [Act.put, List.setIfInBounds_toArray, List.set_cons_zero, List.set_cons_succ, i64_w, i32_w]
                    rfl
                  refine take_ (i := 3) (N := some 27) (v := ?_) (a' := ?_) #[true, true, true, true, false, false] rfl rfl (by kernel_rfl) (fun _ _ _ h => h) (Or.inl ⟨by rfl, ?_⟩) hHeld ?_ ?_
                  rotate_left
                  · rintro w' ⟨s0, s1, s2, s3, s4, s5⟩
                    go_simp
                    with_reducible rfl
                  rotate_left
                  · simp only [Act.put, List.setIfInBounds_toArray, List.set_cons_zero, List.set_cons_succ, i64_w, i32_w]
                    rfl
                  refine take_ (i := 4) (N := some 28) (v := ?_) (a' := ?_) #[true, true, true, true, true, false] rfl rfl (by kernel_rfl) (fun _ _ _ h => h) (Or.inl ⟨by rfl, ?_⟩) hHeld ?_ ?_
                  rotate_left
                  · rintro w' ⟨s0, s1, s2, s3, s4, s5⟩
                    go_simp
                    with_reducible rfl
                  rotate_left
                  · simp only [Act.put, List.setIfInBounds_toArray, List.set_cons_zero, List.set_cons_succ, i64_w, i32_w]
                    rfl
                  refine one_ (i := 5) (N := some 29) #[true, true, true, true, true, true] rfl rfl (by kernel_rfl) (by decide) (fun K hK => ?_)
                  refine goes_ Try.func31 (by kernel_rfl) rfl #[.agg #[.int .i64 ((rd_T24 l0 x6_2).f0), .int .i64 ((rd_T24 l0 x6_2).f1), .bool ((rd_T24 l0 x6_2).f2)], .agg #[.int .i64 a1_0, .int .i64 a1_1, .bool a1_2]] (by rfl) rfl rfl (by (try simp only [List.map_toArray, List.map_cons, List.map_nil]); first | done | rfl | (simp only [List.length_drop, List.length_take]; rfl)) ?_
                  with_reducible refine (prioryref14_meet.calls ((rd_T24 l0 x6_2).f0) ((rd_T24 l0 x6_2).f1) ((rd_T24 l0 x6_2).f2) a1_0 a1_1 a1_2 true _ A12.out).mono ?_
                  rintro e w15 ⟨rfl, hb⟩
                  refine ⟨_, rfl, ?_⟩
                  have n0_ := Aside0.mk (blk_below (g := gb247) (o := .cells #[.int .i64 a1_0, .int .i64 a1_1, .bool a1_2] 24 (0, 0)) (by (with_reducible repeat (first | refine blk_drewN ?_ _ | refine blk_drew ?_ | refine blk_alloc ?_ _)); exact BK247.out) hb)
                  have n1_ := Aside0.mk (below_step (by repeat (first | (with_reducible first | exact HB.out | apply below_alloc | apply pw_below_drewN | apply below_drew1 | refine below_set ?_ GE247.out) | exact HB.out)) hb)
                  clear BK247
                  clear HB
                  have BK247 := n0_
                  have HB := n1_
                  clear n0_ n1_
                  (try clear hb)
                  (try clear hb2)
                  (try clear hk)
                  (try clear hi)
                  refine hK.out _ _ ⟨(blk_cell BK247.out 0).trans rfl, (blk_cell BK247.out 1).trans rfl, (blk_cell BK247.out 2).trans rfl, ((HB.out.cell (World.block_lt_of_cell? w _ hw250_0)).trans hw250_0), ((HB.out.cell (World.block_lt_of_cell? w _ hw250_1)).trans hw250_1), ((HB.out.cell (World.block_lt_of_cell? w _ hw250_2)).trans hw250_2)⟩ (fun hHeld => ?_)
                  clear hK K
                  refine norm_ (a' := ?_) ?_ ?_
                  rotate_left
                  · show Act.put _ (some 29) _ = _
                    simp only [Act.put, List.setIfInBounds_toArray, List.set_cons_zero, List.set_cons_succ, i64_w, i32_w]
                    rfl
                  refine done_ (by kernel_rfl) ?_
                  try go_wp2
                  go_ret2
                  exact ⟨_, by first | rfl | (simp [errW_none, errW_some] <;> rfl) | (simp [*, errW_none, errW_some] <;> rfl), by first | exact Kd.R_nil _ _ _ _ _ | exact Kd.N_nil _ _ _ _ _ | exact Kd.V_nil _ _ _ _ _ | exact Kd.Q_nil _ _ _ _ _ | exact Kd.S_nil _ _ _ _ _, by repeat (first | (with_reducible first | exact HB.out | apply below_alloc | apply pw_below_drewN | apply below_drew1 | refine below_set ?_ GE247.out) | exact HB.out)⟩
                · replace c13 := Bool.eq_false_iff.mpr c13
                  subst c13
                  have H1 : (prioryref14_Add.l0 k2 l0 (wrap64 (x6_2 + 1)) a1_0 a1_1 a1_2) = some (r1, r2) := by rw [if_neg (show ¬ (false = true) by decide)] at H; exact H
                  clear H
                  have H := H1
                  clear H1
                  have H' := Aside0.mk H
                  clear H
                  try go_wp2
                  have n0_ := Aside0.mk (blk_drew BK247.out)
                  have n1_ := Aside0.mk (below_drew1 HB.out)
                  clear BK247
                  clear HB
                  have BK247 := n0_
                  have HB := n1_
                  clear n0_ n1_
                  have p250 : 0 ≤ (x6_2 : Int) := of_decide_eq_true (by first | (with_reducible assumption) | assumption)
                  have q250 : x6_2 < (l0.length : Int) := of_decide_eq_true (by first | (with_reducible assumption) | assumption)
                  obtain ⟨ad250, e250, hx250_0, hx250_1, hx250_2⟩ := at_T24 HR0.out x6_2 p250 q250
                  have hw250_2 := hx250_2
                  have hw250_1 := hx250_1
                  have hw250_0 := hx250_0
                  cases e250
                  replace hx250_0 := (HB.out.cell (World.block_lt_of_cell? w _ hx250_0)).trans hx250_0
                  replace hx250_1 := (HB.out.cell (World.block_lt_of_cell? w _ hx250_1)).trans hx250_1
                  replace hx250_2 := (HB.out.cell (World.block_lt_of_cell? w _ hx250_2)).trans hx250_2
                  replace p250 := eq_true p250
                  replace q250 := eq_true q250
                  refine start_ (n := 6) (S := fun w' => w'.cell? ⟨gb247, 0, none⟩ = some (.int .i64 a1_0) ∧ w'.cell? ⟨gb247, 1, none⟩ = some (.int .i64 a1_1) ∧ w'.cell? ⟨gb247, 2, none⟩ = some (.bool a1_2) ∧ w'.cell? (ad250.add ((x6_2).toNat * 3)) = some (.int .i64 ((rd_T24 l0 x6_2).f0)) ∧ w'.cell? ⟨(ad250.add ((x6_2).toNat * 3)).block, (ad250.add ((x6_2).toNat * 3)).off + 1, none⟩ = some (.int .i64 ((rd_T24 l0 x6_2).f1)) ∧ w'.cell? ⟨(ad250.add ((x6_2).toNat * 3)).block, (ad250.add ((x6_2).toNat * 3)).off + 2, none⟩ = some (.bool ((rd_T24 l0 x6_2).f2))) (ds := []) #[false, false, false, false, false, false] (by kernel_rfl) rfl rfl ⟨(blk_cell BK247.out 0).trans rfl, (blk_cell BK247.out 1).trans rfl, (blk_cell BK247.out 2).trans rfl, ((HB.out.cell (World.block_lt_of_cell? w _ hw250_0)).trans hw250_0), ((HB.out.cell (World.block_lt_of_cell? w _ hw250_1)).trans hw250_1), ((HB.out.cell (World.block_lt_of_cell? w _ hw250_2)).trans hw250_2)⟩ (fun hHeld => ?_)
                  generalize wr.drew = w16 at BK247 HB hx250_0 hx250_1 hx250_2 hHeld ⊢
                  refine pure_ (i := 0) (N := some 24) (v := ?_) (a' := ?_) #[true, false, false, false, false, false] rfl rfl (by kernel_rfl) (fun _ _ _ h => h) (Or.inl ⟨by rfl, ?_⟩) ?_ ?_
                  rotate_left
                  · intro w'
                    go_simp
                    with_reducible rfl
                  rotate_left
                  · simp only [Act.put, List.setIfInBounds_toArray, List.set_cons_zero, List.set_cons_succ, i64_w, i32_w]
                    rfl
                  refine pure_ (i := 1) (N := some 25) (v := ?_) (a' := ?_) #[true, true, false, false, false, false] rfl rfl (by kernel_rfl) (fun _ _ _ h => h) (Or.inl ⟨by rfl, ?_⟩) ?_ ?_
                  rotate_left
                  · intro w'
                    go_simp
                    with_reducible rfl
                  rotate_left
                  · simp only [Act.put, List.setIfInBounds_toArray, List.set_cons_zero, List.set_cons_succ, i64_w, i32_w]
                    rfl
                  refine pure_ (i := 2) (N := some 26) (v := ?_) (a' := ?_) #[true, true, true, false, false, false] rfl rfl (by kernel_rfl) (fun _ _ _ h => h) (Or.inl ⟨by rfl, ?_⟩) ?_ ?_
                  rotate_left
                  · intro w'
                    go_simp
                    with_reducible rfl
                  rotate_left
                  · simp only [Act.put, List.setIfInBounds_toArray, List.set_cons_zero, List.set_cons_succ, i64_w, i32_w]
                    rfl
                  refine take_ (i := 3) (N := some 27) (v := ?_) (a' := ?_) #[true, true, true, true, false, false] rfl rfl (by kernel_rfl) (fun _ _ _ h => h) (Or.inl ⟨by rfl, ?_⟩) hHeld ?_ ?_
                  rotate_left
                  · rintro w' ⟨s0, s1, s2, s3, s4, s5⟩
                    go_simp
                    with_reducible rfl
                  rotate_left
                  · simp only [Act.put, List.setIfInBounds_toArray, List.set_cons_zero, List.set_cons_succ, i64_w, i32_w]
                    rfl
                  refine take_ (i := 4) (N := some 28) (v := ?_) (a' := ?_) #[true, true, true, true, true, false] rfl rfl (by kernel_rfl) (fun _ _ _ h => h) (Or.inl ⟨by rfl, ?_⟩) hHeld ?_ ?_
                  rotate_left
                  · rintro w' ⟨s0, s1, s2, s3, s4, s5⟩
                    go_simp
                    with_reducible rfl
                  rotate_left
                  · simp only [Act.put, List.setIfInBounds_toArray, List.set_cons_zero, List.set_cons_succ, i64_w, i32_w]
                    rfl
                  refine one_ (i := 5) (N := some 29) #[true, true, true, true, true, true] rfl rfl (by kernel_rfl) (by decide) (fun K hK => ?_)
                  refine goes_ Try.func31 (by kernel_rfl) rfl #[.agg #[.int .i64 ((rd_T24 l0 x6_2).f0), .int .i64 ((rd_T24 l0 x6_2).f1), .bool ((rd_T24 l0 x6_2).f2)], .agg #[.int .i64 a1_0, .int .i64 a1_1, .bool a1_2]] (by rfl) rfl rfl (by (try simp only [List.map_toArray, List.map_cons, List.map_nil]); first | done | rfl | (simp only [List.length_drop, List.length_take]; rfl)) ?_
                  with_reducible refine (prioryref14_meet.calls ((rd_T24 l0 x6_2).f0) ((rd_T24 l0 x6_2).f1) ((rd_T24 l0 x6_2).f2) a1_0 a1_1 a1_2 false _ A12.out).mono ?_
                  rintro e w17 ⟨rfl, hb⟩
                  refine ⟨_, rfl, ?_⟩
                  have n0_ := Aside0.mk (blk_below (g := gb247) (o := .cells #[.int .i64 a1_0, .int .i64 a1_1, .bool a1_2] 24 (0, 0)) (by (with_reducible repeat (first | refine blk_drewN ?_ _ | refine blk_drew ?_ | refine blk_alloc ?_ _)); exact BK247.out) hb)
                  have n1_ := Aside0.mk (below_step (by repeat (first | (with_reducible first | exact HB.out | apply below_alloc | apply pw_below_drewN | apply below_drew1 | refine below_set ?_ GE247.out) | exact HB.out)) hb)
                  clear BK247
                  clear HB
                  have BK247 := n0_
                  have HB := n1_
                  clear n0_ n1_
                  (try clear hb)
                  (try clear hb2)
                  (try clear hk)
                  (try clear hi)
                  refine hK.out _ _ ⟨(blk_cell BK247.out 0).trans rfl, (blk_cell BK247.out 1).trans rfl, (blk_cell BK247.out 2).trans rfl, ((HB.out.cell (World.block_lt_of_cell? w _ hw250_0)).trans hw250_0), ((HB.out.cell (World.block_lt_of_cell? w _ hw250_1)).trans hw250_1), ((HB.out.cell (World.block_lt_of_cell? w _ hw250_2)).trans hw250_2)⟩ (fun hHeld => ?_)
                  clear hK K
                  refine norm_ (a' := ?_) ?_ ?_
                  rotate_left
                  · show Act.put _ (some 29) _ = _
                    simp only [Act.put, List.setIfInBounds_toArray, List.set_cons_zero, List.set_cons_succ, i64_w, i32_w]
                    rfl
                  refine done_ (by kernel_rfl) ?_
                  try go_wp2
                  go_roundg k2
                  case measure => have := HJ2.out; have := HK2.out; omega
                  case rel => exact ⟨(wrap64 (x6_2 + 1)), (by first | rfl | (simp; done) | (simp [*]; done)), H', ⟨by have := HJ2.out; have := HK2.out; omega⟩, ⟨by (with_reducible repeat (first | refine blk_drewN ?_ _ | refine blk_drew ?_ | refine blk_alloc ?_ _)); exact BK247.out⟩, ⟨by repeat (first | (with_reducible first | exact HB.out | apply below_alloc | apply pw_below_drewN | apply below_drew1 | refine below_set ?_ GE247.out) | exact HB.out)⟩⟩
              · rw [if_neg c11] at H
                exact absurd H (by simp)
            · rw [if_neg c10] at H
              have c10b0 : decide (x6_2 < (l0.length : Int)) = false := decide_eq_false c10
              clear c10
              replace H := Option.bind_eq_some_iff.mp H
              obtain ⟨t252, A180, H⟩ := H
              replace H : ((prioryref14_few.f t252).bind fun bt255 => (some (bt255.1, bt255.2))) = some (r1, r2) := H
              have A18 := Aside0.mk A180
              clear A180
              replace H := Option.bind_eq_some_iff.mp H
              obtain ⟨⟨t255, t258⟩, A190, H⟩ := H
              replace H : (some (t255, t258)) = some (r1, r2) := H
              have A19 := Aside0.mk A190
              clear A190
              simp only [Option.some.injEq, Prod.mk.injEq] at H
              obtain ⟨rfl, rfl⟩ := H
              have hcz20_0 : wr.cell? ⟨gb247, 0, none⟩ = some (.int .i64 a1_0) := (blk_cell BK247.out 0).trans rfl
              have hcz20_1 : wr.cell? ⟨gb247, 1, none⟩ = some (.int .i64 a1_1) := (blk_cell BK247.out 1).trans rfl
              have hcz20_2 : wr.cell? ⟨gb247, 2, none⟩ = some (.bool a1_2) := (blk_cell BK247.out 2).trans rfl
              have hfz20_0 := blk_frozen BK247.out 0
              have hfz20_1 := blk_frozen BK247.out 1
              have hfz20_2 := blk_frozen BK247.out 2
              go_wp2_with (first | ((with_reducible refine gate_callee (f := 33) rfl ?_); refine goesL_ (some 32) rfl rfl Try.func33 (by kernel_rfl) rfl #[.slice A0 l0.length c0, .agg #[.int .i64 a1_0, .int .i64 a1_1, .bool a1_2]] rfl (by (try simp only [List.map_toArray, List.map_cons, List.map_nil]); first | done | rfl | (simp only [List.length_drop, List.length_take]; rfl)) ?_; (with_reducible refine (prioryref14_with.calls k2 _ _ l0 a1_0 a1_1 a1_2 t252 _ ?side1 ?side2 A18.out).mono ?_); (case side1 => repeat (first | exact (Kd.C_below HR0.out HB.out) | (with_reducible refine Kd.C_alloc ?_ _) | (with_reducible refine Kd.C_drewN ?_ _) | (with_reducible refine Kd.C_drew ?_))); (case side2 => exact HC0.out); rintro e w21 ⟨v253, rfl, ho0, hb⟩; refine ⟨_, rfl, ?_⟩; have n0_ := Aside0.mk (Kd.R_lower (Kd.R_newB ho0 (g := gb247) (o := .cells #[.int .i64 a1_0, .int .i64 a1_1, .bool a1_2] 24 (0, 0)) (by (with_reducible repeat (first | refine blk_drewN ?_ _ | refine blk_drew ?_ | refine blk_alloc ?_ _)); exact BK247.out)) (below_size (by repeat (first | (with_reducible first | exact HB.out | apply below_alloc | apply pw_below_drewN | apply below_drew1 | refine below_set ?_ GE247.out) | exact HB.out)))); have n1_ := Aside0.mk (blk_below (g := gb247) (o := .cells #[.int .i64 a1_0, .int .i64 a1_1, .bool a1_2] 24 (0, 0)) (by (with_reducible repeat (first | refine blk_drewN ?_ _ | refine blk_drew ?_ | refine blk_alloc ?_ _)); exact BK247.out) hb); have n2_ := Aside0.mk (below_step (by repeat (first | (with_reducible first | exact HB.out | apply below_alloc | apply pw_below_drewN | apply below_drew1 | refine below_set ?_ GE247.out) | exact HB.out)) hb); clear BK247; clear HB; have HO254 := n0_; have BK247 := n1_; have HB := n2_; clear n0_ n1_ n2_; (try clear hb); (try clear hb2); (try clear hk); (try clear hi); (try clear ho0); obtain ⟨Ao22, co22, eo22⟩ := Kd.R_slice HO254.out; subst eo22) | ((with_reducible refine gate_callee (f := 32) rfl ?_); refine goesL_ (some 33) rfl rfl Try.func32 (by kernel_rfl) rfl #[.slice Ao22 t252.length co22] rfl (by (try simp only [List.map_toArray, List.map_cons, List.map_nil]); first | done | rfl | (simp only [List.length_drop, List.length_take]; rfl)) ?_; (with_reducible refine (prioryref14_few.calls (fun k_ => some k_ = (.slice Ao22 t252.length co22 : Value).ownBlock) (.slice Ao22 t252.length co22) t252 t255 t258 w _ ?side1 ?side2 A19.out).mono ?_); (case side1 => repeat (first | (with_reducible first | exact HB.out | apply below_alloc | apply pw_below_drewN | apply below_drew1 | refine below_set ?_ GE247.out) | exact HB.out)); (case side2 => exact Kd.R_tight rfl HO254.out); rintro e w23 ⟨v256, rfl, ho0, hb, hkp⟩; refine ⟨_, rfl, ?_⟩; have n0_ := Aside0.mk (blk_kept (by (with_reducible repeat (first | refine blk_drewN ?_ _ | refine blk_drew ?_ | refine blk_alloc ?_ _)); exact BK247.out) hkp (fun hs_ => (fun e_ => (Kd.R_away HO254.out (fun _ hk => hk.2)) e_) hs_)); have n1_ := Aside0.mk (Kd.R_mono (ok' := fun k_ => k_ ≠ gb247) ho0 (fun k_ hk_ => Or.elim hk_ (fun hs_ => fun e_ => (Kd.R_away HO254.out (fun _ hk => hk.2)) (by rw [← e_]; exact hs_)) (fun hn_ => (Kd.freshB (g := gb247) (o := .cells #[.int .i64 a1_0, .int .i64 a1_1, .bool a1_2] 24 (0, 0)) (by (with_reducible repeat (first | refine blk_drewN ?_ _ | refine blk_drew ?_ | refine blk_alloc ?_ _)); exact BK247.out) k_ hn_)))); have n2_ := Aside0.mk (hb); clear BK247; clear HB; clear HO254; have BK247 := n0_; have HO257 := n1_; have HB := n2_; clear n0_ n1_ n2_; (try clear hb); (try clear hkp); (try clear ho0)))
              go_ret2
              exact ⟨_, by first | rfl | (simp [errW_none, errW_some] <;> rfl) | (simp [*, errW_none, errW_some] <;> rfl), by (with_reducible repeat (first | apply Kd.R_alloc | apply Kd.R_drewN | apply Kd.R_drew)); exact Kd.R_mono HO257.out (fun _ hk => trivial), by repeat (first | (with_reducible first | exact HB.out | apply below_alloc | apply pw_below_drewN | apply below_drew1 | refine below_set ?_ GE247.out) | exact HB.out)⟩
end Go.Proofs.Ytcblfhoipdbdlaa.PAll

namespace Go.Proofs.Ytcblfhoipdbdlaa.PAll
open Go.RowKit Go.Proofs.YtcblfhoipdbdlaaW.PrintWords Go.Proofs.YtcblfhoipdbdlaaW.PrintLast Go.Proofs.YtcblfhoipdbdlaaW.PrintMore
attribute [local go_sem] max2_int min2_int max_two min_two max_three min_three max_four min_four   -- for this text's walks alone
set_option linter.unusedVariables false
set_option linter.unusedSimpArgs false
attribute [local go_sem high] eqA24
/-! ### priorylaw14_RegionAdd: function 3 -/
def priorylaw14_RegionAdd.f (k : Nat) (l0 : List (S24)) (a1_0 : Int) (a1_1 : Int) (a1_2 : Bool) : Option (Bool) := if (l0.length : Int) > 100 then ((priorylaw14_awake.f k).bind fun t262 => (some t262)) else ((some (([] : List (S24)) : List (S24))).bind fun y263 => (if y263.length + l0.length < 5864062014805 then ((some (y263 ++ l0 : List (S24))).bind fun y266 => ((region_Add.f k y266 a1_0 a1_1 a1_2).bind fun bt269 => ((prioryref14_Add.f k l0 a1_0 a1_1 a1_2).bind fun bt273 => ((prioryref14_Same.f k bt269.1 bt273.1).bind fun t277 => (if t277 = true then (if bt269.2 = bt273.2 then ((prioryref14_Same.f k y266 l0).bind fun t278 => (if t278 = true then ((priorylaw14_awake.f k).bind fun t279 => (some t279)) else (some false))) else (some false)) else (some false)))))) else (none)))
theorem priorylaw14_RegionAdd.mono : ∀ a0 a1 a2 a3 k, LeO (priorylaw14_RegionAdd.f k a0 a1 a2 a3) (priorylaw14_RegionAdd.f (k + 1) a0 a1 a2 a3) := by
  intro a0 a1 a2 a3 k
  unfold priorylaw14_RegionAdd.f
  repeat' first
      | (with_reducible exact priorylaw14_awake.mono _)
      | (with_reducible exact prioryref14_Add.mono _ _ _ _ _)
      | (with_reducible exact prioryref14_Same.mono _ _ _)
      | (with_reducible exact region_Add.mono _ _ _ _ _)
      | (with_reducible exact LeO.refl _)
      | (with_reducible exact LeO.none _)
      | (with_reducible refine LeO.ite ?_ ?_)
      | (with_reducible refine LeO.bind ?_ (fun _ => ?_))
      | exact priorylaw14_awake.mono _
      | exact prioryref14_Add.mono _ _ _ _ _
      | exact prioryref14_Same.mono _ _ _
      | exact region_Add.mono _ _ _ _ _
      | exact LeO.none _
      | refine LeO.ite ?_ ?_
      | refine LeO.bind ?_ (fun _ => ?_)
set_option maxHeartbeats 8000000 in
set_option maxRecDepth 100000 in
theorem priorylaw14_RegionAdd.calls (k : Nat) (A0 : Option Addr) (c0 : Nat) (l0 : List (S24)) (a1_0 : Int) (a1_1 : Int) (a1_2 : Bool) (r : Bool) (w : World) (hr0 : Kd.C k24 w A0 l0.length l0) (hc0 : l0.length ≤ c0) (h : priorylaw14_RegionAdd.f k l0 a1_0 a1_1 a1_2 = some r) :
    Calls Try.prog 3 #[.slice A0 l0.length c0, .agg #[.int .i64 a1_0, .int .i64 a1_1, .bool a1_2]] w fun e w' => e = .returned (.bool r) ∧ Below w.heap.size w w' := by
  have hu24 := Try.underlying24
  have HR0 := Aside0.mk hr0
  have HC0 := Aside0.mk hc0
  clear hr0 hc0
  have HB := Aside0.mk (Below.refl w.heap.size w)
  have H : (if (l0.length : Int) > 100 then ((priorylaw14_awake.f k).bind fun t262 => (some t262)) else ((some (([] : List (S24)) : List (S24))).bind fun y263 => (if y263.length + l0.length < 5864062014805 then ((some (y263 ++ l0 : List (S24))).bind fun y266 => ((region_Add.f k y266 a1_0 a1_1 a1_2).bind fun bt269 => ((prioryref14_Add.f k l0 a1_0 a1_1 a1_2).bind fun bt273 => ((prioryref14_Same.f k bt269.1 bt273.1).bind fun t277 => (if t277 = true then (if bt269.2 = bt273.2 then ((prioryref14_Same.f k y266 l0).bind fun t278 => (if t278 = true then ((priorylaw14_awake.f k).bind fun t279 => (some t279)) else (some false))) else (some false)) else (some false)))))) else (none)))) = some r := h
  clear h
  by_cases c3 : (l0.length : Int) > 100
  · rw [if_pos c3] at H
    have c3b0 : decide (100 < (l0.length : Int)) = true := decide_eq_true c3
    have c3b1 : decide (100 < l0.length) = true := decide_eq_true (by omega)
    clear c3
    replace H := Option.bind_eq_some_iff.mp H
    obtain ⟨t262, A40, H⟩ := H
    replace H : (some t262) = some r := H
    have A4 := Aside0.mk A40
    clear A40
    obtain rfl := Option.some.inj H
    go_enter Try.func3, Try.ntmps3
    go_wp2_with (first | ((with_reducible refine gate_dst (N := 3) rfl ?_); refine box_event ?hg (N := 3) ?hd (cs := #[.int .i64 a1_0, .int .i64 a1_1, .bool a1_2]) (t := 24) ?hr ?_; (case hd => rfl); (case hg => rfl); (case hr => first | (go_simp; done) | (go_simp; rfl)); intro gb261 hg w5 hbox hb; have n0_ := Aside0.mk (below_step (by repeat (first | (with_reducible first | exact HB.out | apply below_alloc | apply pw_below_drewN | apply below_drew1) | exact HB.out)) hb); have n1_ := Aside0.mk (hbox); have n2_ := Aside0.mk ((by rw [hg]; exact (below_size (by repeat (first | (with_reducible first | exact HB.out | apply below_alloc | apply pw_below_drewN | apply below_drew1) | exact HB.out))) : w.heap.size ≤ gb261)); have n3_ := Aside0.mk ((by rw [hg]; exact (below_size (by repeat (first | (with_reducible first | exact HB.out | apply below_alloc | apply pw_below_drewN | apply below_drew1) | exact HB.out))) : w.heap.size ≤ gb261)); clear HB; have HB := n0_; have BK261 := n1_; have GW261 := n2_; have GE261 := n3_; clear n0_ n1_ n2_ n3_; clear hb hbox hg) | ((with_reducible refine gate_callee (f := 10) rfl ?_); refine goesL_ (some 13) rfl rfl Try.func10 (by kernel_rfl) rfl #[] rfl (by (try simp only [List.map_toArray, List.map_cons, List.map_nil]); first | done | rfl | (simp only [List.length_drop, List.length_take]; rfl)) ?_; (with_reducible refine (priorylaw14_awake.calls k  t262 _ A4.out).mono ?_); rintro e w6 ⟨rfl, hb⟩; refine ⟨_, rfl, ?_⟩; have n0_ := Aside0.mk (blk_below (g := gb261) (o := .cells #[.int .i64 a1_0, .int .i64 a1_1, .bool a1_2] 24 (0, 0)) (by (with_reducible repeat (first | refine blk_drewN ?_ _ | refine blk_drew ?_ | refine blk_alloc ?_ _)); exact BK261.out) hb); have n1_ := Aside0.mk (below_step (by repeat (first | (with_reducible first | exact HB.out | apply below_alloc | apply pw_below_drewN | apply below_drew1 | refine below_set ?_ GE261.out) | exact HB.out)) hb); clear BK261; clear HB; have BK261 := n0_; have HB := n1_; clear n0_ n1_; (try clear hb); (try clear hb2); (try clear hk); (try clear hi)))
    go_ret
    exact ⟨by first | rfl | (simp [errW_none, errW_some] <;> rfl) | (simp [*, errW_none, errW_some] <;> rfl), by repeat (first | (with_reducible first | exact HB.out | apply below_alloc | apply pw_below_drewN | apply below_drew1 | refine below_set ?_ GE261.out) | exact HB.out)⟩
  · rw [if_neg c3] at H
    have c3b0 : decide (100 < (l0.length : Int)) = false := decide_eq_false c3
    have c3b1 : decide (100 < l0.length) = false := decide_eq_false (by omega)
    clear c3
    obtain ⟨y263, hy263⟩ : ∃ y_ : List (S24), y_ = (([] : List (S24))) := ⟨_, rfl⟩
    replace H : (if y263.length + l0.length < 5864062014805 then ((some (y263 ++ l0 : List (S24))).bind fun y266 => ((region_Add.f k y266 a1_0 a1_1 a1_2).bind fun bt269 => ((prioryref14_Add.f k l0 a1_0 a1_1 a1_2).bind fun bt273 => ((prioryref14_Same.f k bt269.1 bt273.1).bind fun t277 => (if t277 = true then (if bt269.2 = bt273.2 then ((prioryref14_Same.f k y266 l0).bind fun t278 => (if t278 = true then ((priorylaw14_awake.f k).bind fun t279 => (some t279)) else (some false))) else (some false)) else (some false)))))) else (none)) = some r := by first | (rw [hy263]; with_reducible exact H) | (have H2_ := (Option.bind_some _ _).symm.trans H; rw [hy263]; with_reducible exact H2_) | (have H2_ := (Option.bind_some _ _).symm.trans H; with_reducible exact H2_) | with_reducible exact H | (rw [hy263]; exact H) | exact H
    have Ny263 := Aside0.mk hy263
    clear hy263
    by_cases c7 : y263.length + l0.length < 5864062014805
    · rw [if_pos c7] at H
      have LMc7 := Aside0.mk c7
      clear c7
      obtain ⟨y266, hy266⟩ : ∃ y_ : List (S24), y_ = (y263 ++ l0) := ⟨_, rfl⟩
      replace H : ((region_Add.f k y266 a1_0 a1_1 a1_2).bind fun bt269 => ((prioryref14_Add.f k l0 a1_0 a1_1 a1_2).bind fun bt273 => ((prioryref14_Same.f k bt269.1 bt273.1).bind fun t277 => (if t277 = true then (if bt269.2 = bt273.2 then ((prioryref14_Same.f k y266 l0).bind fun t278 => (if t278 = true then ((priorylaw14_awake.f k).bind fun t279 => (some t279)) else (some false))) else (some false)) else (some false))))) = some r := by first | (rw [hy266]; with_reducible exact H) | (have H2_ := (Option.bind_some _ _).symm.trans H; rw [hy266]; with_reducible exact H2_) | (have H2_ := (Option.bind_some _ _).symm.trans H; with_reducible exact H2_) | with_reducible exact H | (rw [hy266]; exact H) | exact H
      have Ny266 := Aside0.mk hy266
      clear hy266
      replace H := Option.bind_eq_some_iff.mp H
      obtain ⟨⟨t269, t272⟩, A80, H⟩ := H
      replace H : ((prioryref14_Add.f k l0 a1_0 a1_1 a1_2).bind fun bt273 => ((prioryref14_Same.f k t269 bt273.1).bind fun t277 => (if t277 = true then (if t272 = bt273.2 then ((prioryref14_Same.f k y266 l0).bind fun t278 => (if t278 = true then ((priorylaw14_awake.f k).bind fun t279 => (some t279)) else (some false))) else (some false)) else (some false)))) = some r := H
      have A8 := Aside0.mk A80
      clear A80
      replace H := Option.bind_eq_some_iff.mp H
      obtain ⟨⟨t273, t276⟩, A90, H⟩ := H
      replace H : ((prioryref14_Same.f k t269 t273).bind fun t277 => (if t277 = true then (if t272 = t276 then ((prioryref14_Same.f k y266 l0).bind fun t278 => (if t278 = true then ((priorylaw14_awake.f k).bind fun t279 => (some t279)) else (some false))) else (some false)) else (some false))) = some r := H
      have A9 := Aside0.mk A90
      clear A90
      replace H := Option.bind_eq_some_iff.mp H
      obtain ⟨t277, A100, H⟩ := H
      replace H : (if t277 = true then (if t272 = t276 then ((prioryref14_Same.f k y266 l0).bind fun t278 => (if t278 = true then ((priorylaw14_awake.f k).bind fun t279 => (some t279)) else (some false))) else (some false)) else (some false)) = some r := H
      have A10 := Aside0.mk A100
      clear A100
      by_cases c11 : t277 = true
      · subst c11
        have H1 : (if t272 = t276 then ((prioryref14_Same.f k y266 l0).bind fun t278 => (if t278 = true then ((priorylaw14_awake.f k).bind fun t279 => (some t279)) else (some false))) else (some false)) = some r := by rw [if_pos rfl] at H; exact H
        clear H
        have H := H1
        clear H1
        by_cases c12 : t272 = t276
        · rw [if_pos c12] at H
          have c12b0 : (t272 == t276) = true := beq_iff_eq.mpr c12
          have c12b1 : (t272 != t276) = false := bne_eq_false_iff_eq.mpr c12
          clear c12
          replace H := Option.bind_eq_some_iff.mp H
          obtain ⟨t278, A130, H⟩ := H
          replace H : (if t278 = true then ((priorylaw14_awake.f k).bind fun t279 => (some t279)) else (some false)) = some r := H
          have A13 := Aside0.mk A130
          clear A130
          by_cases c14 : t278 = true
          · subst c14
            have H1 : ((priorylaw14_awake.f k).bind fun t279 => (some t279)) = some r := by rw [if_pos rfl] at H; exact H
            clear H
            have H := H1
            clear H1
            replace H := Option.bind_eq_some_iff.mp H
            obtain ⟨t279, A150, H⟩ := H
            replace H : (some t279) = some r := H
            have A15 := Aside0.mk A150
            clear A150
            obtain rfl := Option.some.inj H
            go_enter Try.func3, Try.ntmps3
            go_wp2_with (first | ((with_reducible refine gate_dst (N := 3) rfl ?_); refine box_event ?hg (N := 3) ?hd (cs := #[.int .i64 a1_0, .int .i64 a1_1, .bool a1_2]) (t := 24) ?hr ?_; (case hd => rfl); (case hg => rfl); (case hr => first | (go_simp; done) | (go_simp; rfl)); intro gb261 hg w16 hbox hb; have n0_ := Aside0.mk (below_step (by repeat (first | (with_reducible first | exact HB.out | apply below_alloc | apply pw_below_drewN | apply below_drew1) | exact HB.out)) hb); have n1_ := Aside0.mk (hbox); have n2_ := Aside0.mk ((by rw [hg]; exact (below_size (by repeat (first | (with_reducible first | exact HB.out | apply below_alloc | apply pw_below_drewN | apply below_drew1) | exact HB.out))) : w.heap.size ≤ gb261)); have n3_ := Aside0.mk ((by rw [hg]; exact (below_size (by repeat (first | (with_reducible first | exact HB.out | apply below_alloc | apply pw_below_drewN | apply below_drew1) | exact HB.out))) : w.heap.size ≤ gb261)); clear HB; have HB := n0_; have BK261 := n1_; have GW261 := n2_; have GE261 := n3_; clear n0_ n1_ n2_ n3_; clear hb hbox hg) | ((with_reducible refine gate_dst (N := 14) rfl ?_); refine Kd.R_lit k24 _ 24 ?hg (N := 14) ?hd (xs := ([] : List (S24))) (inner := []) (ok := fun _ => True) (okp := fun _ => True) ?hr ?hp (fun _ hk => hk) trivial (Below.refl _ _) (Nat.le_refl _) (by simp) ?_; (case hd => rfl); (case hg => rfl); (case hr => first | (go_simp; done) | (go_simp; rfl)); (case hp => exact (Reps.none _ _)); intro v264 w17 ho18 hb hg_ hnew_; clear hg_ hnew_; (first | rw [← Ny263.out] at ho18 | (simp only [Int.reduceToNat] at ho18; rw [← Ny263.out] at ho18)); have n0_ := Aside0.mk (Kd.R_lower (Kd.R_newB ho18 (g := gb261) (o := .cells #[.int .i64 a1_0, .int .i64 a1_1, .bool a1_2] 24 (0, 0)) (by (with_reducible repeat (first | refine blk_drewN ?_ _ | refine blk_drew ?_ | refine blk_alloc ?_ _)); exact BK261.out)) (below_size (by repeat (first | (with_reducible first | exact HB.out | apply below_alloc | apply pw_below_drewN | apply below_drew1 | refine below_set ?_ GE261.out) | exact HB.out)))); have n1_ := Aside0.mk (blk_below (g := gb261) (o := .cells #[.int .i64 a1_0, .int .i64 a1_1, .bool a1_2] 24 (0, 0)) (by (with_reducible repeat (first | refine blk_drewN ?_ _ | refine blk_drew ?_ | refine blk_alloc ?_ _)); exact BK261.out) hb); have n2_ := Aside0.mk (below_step (by repeat (first | (with_reducible first | exact HB.out | apply below_alloc | apply pw_below_drewN | apply below_drew1 | refine below_set ?_ GE261.out) | exact HB.out)) hb); clear BK261; clear HB; have HO265 := n0_; have BK261 := n1_; have HB := n2_; clear n0_ n1_ n2_; clear hb ho18) | ((with_reducible refine gate_builtin (b := .append) (xs := #[.tmp 14, .tmp 15]) rfl ?_); at_builtin; refine Kd.R_append_rows k24 (w0 := w) w.heap.size rfl (.tmp 14) (.tmp 15) 22 24 (.agg #[(.int .i64 0), (.int .i64 0), (.bool false)]) 24 rfl Try.underlying22 info24 rfl (by decide) (by omega) v264 y263 l0 _ _ _ (fun k_ => k_ ≠ gb261) (fun _ => False) rfl rfl ?aO ?aR (fun _ _ h => h) (fun _ h => h.elim) ?aF ?aB ?aS ?aL ?_; (case aR => repeat (first | exact (Kd.C_below HR0.out HB.out) | (with_reducible refine Kd.C_alloc ?_ _) | (with_reducible refine Kd.C_drewN ?_ _) | (with_reducible refine Kd.C_drew ?_))); (case aB => exact (by repeat (first | (with_reducible first | exact HB.out | apply below_alloc | apply pw_below_drewN | apply below_drew1 | refine below_set ?_ GE261.out) | exact HB.out))); (case aF => exact (fun k_ hk => Kd.freshB (g := gb261) (o := .cells #[.int .i64 a1_0, .int .i64 a1_1, .bool a1_2] 24 (0, 0)) (by (with_reducible repeat (first | refine blk_drewN ?_ _ | refine blk_drew ?_ | refine blk_alloc ?_ _)); exact BK261.out) k_ hk)); (case aO => exact (by (with_reducible repeat (first | apply Kd.R_alloc | apply Kd.R_drewN | apply Kd.R_drew)); exact Kd.R_mono HO265.out (fun _ hk => hk.2))); (case aS => exact (below_size (by repeat (first | (with_reducible first | exact HB.out | apply below_alloc | apply pw_below_drewN | apply below_drew1 | refine below_set ?_ GE261.out) | exact HB.out)))); (case aL => have := LMc7.out; omega); intro v267 w19 ho hb hg hat; rw [← Ny266.out] at ho; have n0_ := Aside0.mk (blk_grown (g := gb261) (o := .cells #[.int .i64 a1_0, .int .i64 a1_1, .bool a1_2] 24 (0, 0)) (by (with_reducible repeat (first | refine blk_drewN ?_ _ | refine blk_drew ?_ | refine blk_alloc ?_ _)); exact BK261.out) hg (Kd.R_away HO265.out (fun _ hk => hk.2))); have n1_ := Aside0.mk (hb); have n2_ := Aside0.mk (ho); clear BK261; clear HB; clear HO265; have BK261 := n0_; have HB := n1_; have HO268 := n2_; clear n0_ n1_ n2_; clear ho hb hg hat; have hcz20_0 : w19.cell? ⟨gb261, 0, none⟩ = some (.int .i64 a1_0) := (blk_cell BK261.out 0).trans rfl; have hcz20_1 : w19.cell? ⟨gb261, 1, none⟩ = some (.int .i64 a1_1) := (blk_cell BK261.out 1).trans rfl; have hcz20_2 : w19.cell? ⟨gb261, 2, none⟩ = some (.bool a1_2) := (blk_cell BK261.out 2).trans rfl; have hfz20_0 := blk_frozen BK261.out 0; have hfz20_1 := blk_frozen BK261.out 1; have hfz20_2 := blk_frozen BK261.out 2; obtain ⟨Ao21, co21, eo21⟩ := Kd.R_slice HO268.out; subst eo21) | ((with_reducible refine gate_callee (f := 11) rfl ?_); refine goesL_ (some 20) rfl rfl Try.func11 (by kernel_rfl) rfl #[.slice Ao21 y266.length co21, .agg #[.int .i64 a1_0, .int .i64 a1_1, .bool a1_2]] rfl (by (try simp only [List.map_toArray, List.map_cons, List.map_nil]); first | done | rfl | (simp only [List.length_drop, List.length_take]; rfl)) ?_; (with_reducible refine (region_Add.calls k _ _ y266 a1_0 a1_1 a1_2 t269 t272 _ ?side1 ?side2 A8.out).mono ?_); (case side1 => repeat (first | exact (Kd.R_reads' HO268.out).2.2 | (with_reducible refine Kd.C_alloc ?_ _) | (with_reducible refine Kd.C_drewN ?_ _) | (with_reducible refine Kd.C_drew ?_))); (case side2 => exact (Kd.R_reads' HO268.out).2.1); rintro e w22 ⟨v270, rfl, ho0, hb⟩; refine ⟨_, rfl, ?_⟩; have n0_ := Aside0.mk (Kd.R_elder' (by (with_reducible repeat (first | apply Kd.R_alloc | apply Kd.R_drewN | apply Kd.R_drew)); exact HO268.out) (Kd.R_base ho0) hb); have n1_ := Aside0.mk (Kd.R_lower (Kd.R_newB (Kd.R_new' ho0 (Kd.R_lt (by (with_reducible repeat (first | apply Kd.R_alloc | apply Kd.R_drewN | apply Kd.R_drew)); exact HO268.out))) (g := gb261) (o := .cells #[.int .i64 a1_0, .int .i64 a1_1, .bool a1_2] 24 (0, 0)) (by (with_reducible repeat (first | refine blk_drewN ?_ _ | refine blk_drew ?_ | refine blk_alloc ?_ _)); exact BK261.out)) (below_size (by repeat (first | (with_reducible first | exact HB.out | apply below_alloc | apply pw_below_drewN | apply below_drew1 | refine below_set ?_ GE261.out) | exact HB.out)))); have n2_ := Aside0.mk (blk_below (g := gb261) (o := .cells #[.int .i64 a1_0, .int .i64 a1_1, .bool a1_2] 24 (0, 0)) (by (with_reducible repeat (first | refine blk_drewN ?_ _ | refine blk_drew ?_ | refine blk_alloc ?_ _)); exact BK261.out) hb); have n3_ := Aside0.mk (below_step (by repeat (first | (with_reducible first | exact HB.out | apply below_alloc | apply pw_below_drewN | apply below_drew1 | refine below_set ?_ GE261.out) | exact HB.out)) hb); clear HO268; clear BK261; clear HB; have HO268 := n0_; have HO271 := n1_; have BK261 := n2_; have HB := n3_; clear n0_ n1_ n2_ n3_; (try clear hb); (try clear hb2); (try clear hk); (try clear hi); (try clear ho0); have hcz23_0 : w22.cell? ⟨gb261, 0, none⟩ = some (.int .i64 a1_0) := (blk_cell BK261.out 0).trans rfl; have hcz23_1 : w22.cell? ⟨gb261, 1, none⟩ = some (.int .i64 a1_1) := (blk_cell BK261.out 1).trans rfl; have hcz23_2 : w22.cell? ⟨gb261, 2, none⟩ = some (.bool a1_2) := (blk_cell BK261.out 2).trans rfl; have hfz23_0 := blk_frozen BK261.out 0; have hfz23_1 := blk_frozen BK261.out 1; have hfz23_2 := blk_frozen BK261.out 2) | ((with_reducible refine gate_callee (f := 12) rfl ?_); refine goesL_ (some 26) rfl rfl Try.func12 (by kernel_rfl) rfl #[.slice A0 l0.length c0, .agg #[.int .i64 a1_0, .int .i64 a1_1, .bool a1_2]] rfl (by (try simp only [List.map_toArray, List.map_cons, List.map_nil]); first | done | rfl | (simp only [List.length_drop, List.length_take]; rfl)) ?_; (with_reducible refine (prioryref14_Add.calls k _ _ l0 a1_0 a1_1 a1_2 t273 t276 _ ?side1 ?side2 A9.out).mono ?_); (case side1 => repeat (first | exact (Kd.C_below HR0.out HB.out) | (with_reducible refine Kd.C_alloc ?_ _) | (with_reducible refine Kd.C_drewN ?_ _) | (with_reducible refine Kd.C_drew ?_))); (case side2 => exact HC0.out); rintro e w24 ⟨v274, rfl, ho0, hb⟩; refine ⟨_, rfl, ?_⟩; have n0_ := Aside0.mk (Kd.R_elder' (by (with_reducible repeat (first | apply Kd.R_alloc | apply Kd.R_drewN | apply Kd.R_drew)); exact HO268.out) (Kd.R_base ho0) hb); have n1_ := Aside0.mk (Kd.R_elder' (by (with_reducible repeat (first | apply Kd.R_alloc | apply Kd.R_drewN | apply Kd.R_drew)); exact HO271.out) (Kd.R_base ho0) hb); have n2_ := Aside0.mk (Kd.R_lower (Kd.R_newB (Kd.R_new' (Kd.R_new' ho0 (Kd.R_lt (by (with_reducible repeat (first | apply Kd.R_alloc | apply Kd.R_drewN | apply Kd.R_drew)); exact HO268.out))) (Kd.R_lt (by (with_reducible repeat (first | apply Kd.R_alloc | apply Kd.R_drewN | apply Kd.R_drew)); exact HO271.out))) (g := gb261) (o := .cells #[.int .i64 a1_0, .int .i64 a1_1, .bool a1_2] 24 (0, 0)) (by (with_reducible repeat (first | refine blk_drewN ?_ _ | refine blk_drew ?_ | refine blk_alloc ?_ _)); exact BK261.out)) (below_size (by repeat (first | (with_reducible first | exact HB.out | apply below_alloc | apply pw_below_drewN | apply below_drew1 | refine below_set ?_ GE261.out) | exact HB.out)))); have n3_ := Aside0.mk (blk_below (g := gb261) (o := .cells #[.int .i64 a1_0, .int .i64 a1_1, .bool a1_2] 24 (0, 0)) (by (with_reducible repeat (first | refine blk_drewN ?_ _ | refine blk_drew ?_ | refine blk_alloc ?_ _)); exact BK261.out) hb); have n4_ := Aside0.mk (below_step (by repeat (first | (with_reducible first | exact HB.out | apply below_alloc | apply pw_below_drewN | apply below_drew1 | refine below_set ?_ GE261.out) | exact HB.out)) hb); clear HO268; clear HO271; clear BK261; clear HB; have HO268 := n0_; have HO271 := n1_; have HO275 := n2_; have BK261 := n3_; have HB := n4_; clear n0_ n1_ n2_ n3_ n4_; (try clear hb); (try clear hb2); (try clear hk); (try clear hi); (try clear ho0); obtain ⟨Ao25, co25, eo25⟩ := Kd.R_slice HO271.out; subst eo25; obtain ⟨Ao26, co26, eo26⟩ := Kd.R_slice HO275.out; subst eo26) | ((with_reducible refine gate_callee (f := 13) rfl ?_); refine goesL_ (some 31) rfl rfl Try.func13 (by kernel_rfl) rfl #[.slice Ao25 t269.length co25, .slice Ao26 t273.length co26] rfl (by (try simp only [List.map_toArray, List.map_cons, List.map_nil]); first | done | rfl | (simp only [List.length_drop, List.length_take]; rfl)) ?_; (with_reducible refine (prioryref14_Same.calls k _ _ t269 _ _ t273 true _ ?side1 ?side2 ?side3 ?side4 A10.out).mono ?_); (case side1 => repeat (first | exact (Kd.R_reads' HO271.out).2.2 | (with_reducible refine Kd.C_alloc ?_ _) | (with_reducible refine Kd.C_drewN ?_ _) | (with_reducible refine Kd.C_drew ?_))); (case side2 => exact (Kd.R_reads' HO271.out).2.1); (case side3 => repeat (first | exact (Kd.R_reads' HO275.out).2.2 | (with_reducible refine Kd.C_alloc ?_ _) | (with_reducible refine Kd.C_drewN ?_ _) | (with_reducible refine Kd.C_drew ?_))); (case side4 => exact (Kd.R_reads' HO275.out).2.1); rintro e w' ⟨rfl, ⟨nd, rfl⟩⟩; refine ⟨_, rfl, ?_⟩) | (go_at_call 13; (with_reducible refine (prioryref14_Same.calls k _ _ y266 _ _ l0 true _ ?side1 ?side2 ?side3 ?side4 A13.out).mono ?_); (case side1 => repeat (first | exact (Kd.R_reads' HO268.out).2.2 | (with_reducible refine Kd.C_alloc ?_ _) | (with_reducible refine Kd.C_drewN ?_ _) | (with_reducible refine Kd.C_drew ?_))); (case side2 => exact (Kd.R_reads' HO268.out).2.1); (case side3 => repeat (first | exact (Kd.C_below HR0.out (by repeat (first | (with_reducible first | exact HB.out | apply below_alloc | apply pw_below_drewN | apply below_drew1 | refine below_set ?_ GE261.out) | exact HB.out))) | (with_reducible refine Kd.C_alloc ?_ _) | (with_reducible refine Kd.C_drewN ?_ _) | (with_reducible refine Kd.C_drew ?_))); (case side4 => exact HC0.out); rintro e w' ⟨rfl, ⟨nd, rfl⟩⟩) | (go_at_call 10; (with_reducible refine (priorylaw14_awake.calls k  t279 _ A15.out).mono ?_); rintro e w27 ⟨rfl, hb⟩; have n0_ := Aside0.mk (Kd.R_below (by (with_reducible repeat (first | apply Kd.R_alloc | apply Kd.R_drewN | apply Kd.R_drew)); exact HO268.out) hb); have n1_ := Aside0.mk (Kd.R_below (by (with_reducible repeat (first | apply Kd.R_alloc | apply Kd.R_drewN | apply Kd.R_drew)); exact HO271.out) hb); have n2_ := Aside0.mk (Kd.R_below (by (with_reducible repeat (first | apply Kd.R_alloc | apply Kd.R_drewN | apply Kd.R_drew)); exact HO275.out) hb); have n3_ := Aside0.mk (blk_below (g := gb261) (o := .cells #[.int .i64 a1_0, .int .i64 a1_1, .bool a1_2] 24 (0, 0)) (by (with_reducible repeat (first | refine blk_drewN ?_ _ | refine blk_drew ?_ | refine blk_alloc ?_ _)); exact BK261.out) hb); have n4_ := Aside0.mk (below_step (by repeat (first | (with_reducible first | exact HB.out | apply below_alloc | apply pw_below_drewN | apply below_drew1 | refine below_set ?_ GE261.out) | exact HB.out)) hb); clear HO268; clear HO271; clear HO275; clear BK261; clear HB; have HO268 := n0_; have HO271 := n1_; have HO275 := n2_; have BK261 := n3_; have HB := n4_; clear n0_ n1_ n2_ n3_ n4_; (try clear hb); (try clear hb2); (try clear hk); (try clear hi)))
            go_ret
            exact ⟨by first | rfl | (simp [errW_none, errW_some] <;> rfl) | (simp [*, errW_none, errW_some] <;> rfl), by repeat (first | (with_reducible first | exact HB.out | apply below_alloc | apply pw_below_drewN | apply below_drew1 | refine below_set ?_ GE261.out) | exact HB.out)⟩
          · replace c14 := Bool.eq_false_iff.mpr c14
            subst c14
            have H1 : (some false) = some r := by rw [if_neg (show ¬ (false = true) by decide)] at H; exact H
            clear H
            have H := H1
            clear H1
            obtain rfl := Option.some.inj H
            go_enter Try.func3, Try.ntmps3
            go_wp2_with (first | ((with_reducible refine gate_dst (N := 3) rfl ?_); refine box_event ?hg (N := 3) ?hd (cs := #[.int .i64 a1_0, .int .i64 a1_1, .bool a1_2]) (t := 24) ?hr ?_; (case hd => rfl); (case hg => rfl); (case hr => first | (go_simp; done) | (go_simp; rfl)); intro gb261 hg w28 hbox hb; have n0_ := Aside0.mk (below_step (by repeat (first | (with_reducible first | exact HB.out | apply below_alloc | apply pw_below_drewN | apply below_drew1) | exact HB.out)) hb); have n1_ := Aside0.mk (hbox); have n2_ := Aside0.mk ((by rw [hg]; exact (below_size (by repeat (first | (with_reducible first | exact HB.out | apply below_alloc | apply pw_below_drewN | apply below_drew1) | exact HB.out))) : w.heap.size ≤ gb261)); have n3_ := Aside0.mk ((by rw [hg]; exact (below_size (by repeat (first | (with_reducible first | exact HB.out | apply below_alloc | apply pw_below_drewN | apply below_drew1) | exact HB.out))) : w.heap.size ≤ gb261)); clear HB; have HB := n0_; have BK261 := n1_; have GW261 := n2_; have GE261 := n3_; clear n0_ n1_ n2_ n3_; clear hb hbox hg) | ((with_reducible refine gate_dst (N := 14) rfl ?_); refine Kd.R_lit k24 _ 24 ?hg (N := 14) ?hd (xs := ([] : List (S24))) (inner := []) (ok := fun _ => True) (okp := fun _ => True) ?hr ?hp (fun _ hk => hk) trivial (Below.refl _ _) (Nat.le_refl _) (by simp) ?_; (case hd => rfl); (case hg => rfl); (case hr => first | (go_simp; done) | (go_simp; rfl)); (case hp => exact (Reps.none _ _)); intro v264 w29 ho30 hb hg_ hnew_; clear hg_ hnew_; (first | rw [← Ny263.out] at ho30 | (simp only [Int.reduceToNat] at ho30; rw [← Ny263.out] at ho30)); have n0_ := Aside0.mk (Kd.R_lower (Kd.R_newB ho30 (g := gb261) (o := .cells #[.int .i64 a1_0, .int .i64 a1_1, .bool a1_2] 24 (0, 0)) (by (with_reducible repeat (first | refine blk_drewN ?_ _ | refine blk_drew ?_ | refine blk_alloc ?_ _)); exact BK261.out)) (below_size (by repeat (first | (with_reducible first | exact HB.out | apply below_alloc | apply pw_below_drewN | apply below_drew1 | refine below_set ?_ GE261.out) | exact HB.out)))); have n1_ := Aside0.mk (blk_below (g := gb261) (o := .cells #[.int .i64 a1_0, .int .i64 a1_1, .bool a1_2] 24 (0, 0)) (by (with_reducible repeat (first | refine blk_drewN ?_ _ | refine blk_drew ?_ | refine blk_alloc ?_ _)); exact BK261.out) hb); have n2_ := Aside0.mk (below_step (by repeat (first | (with_reducible first | exact HB.out | apply below_alloc | apply pw_below_drewN | apply below_drew1 | refine below_set ?_ GE261.out) | exact HB.out)) hb); clear BK261; clear HB; have HO265 := n0_; have BK261 := n1_; have HB := n2_; clear n0_ n1_ n2_; clear hb ho30) | ((with_reducible refine gate_builtin (b := .append) (xs := #[.tmp 14, .tmp 15]) rfl ?_); at_builtin; refine Kd.R_append_rows k24 (w0 := w) w.heap.size rfl (.tmp 14) (.tmp 15) 22 24 (.agg #[(.int .i64 0), (.int .i64 0), (.bool false)]) 24 rfl Try.underlying22 info24 rfl (by decide) (by omega) v264 y263 l0 _ _ _ (fun k_ => k_ ≠ gb261) (fun _ => False) rfl rfl ?aO ?aR (fun _ _ h => h) (fun _ h => h.elim) ?aF ?aB ?aS ?aL ?_; (case aR => repeat (first | exact (Kd.C_below HR0.out HB.out) | (with_reducible refine Kd.C_alloc ?_ _) | (with_reducible refine Kd.C_drewN ?_ _) | (with_reducible refine Kd.C_drew ?_))); (case aB => exact (by repeat (first | (with_reducible first | exact HB.out | apply below_alloc | apply pw_below_drewN | apply below_drew1 | refine below_set ?_ GE261.out) | exact HB.out))); (case aF => exact (fun k_ hk => Kd.freshB (g := gb261) (o := .cells #[.int .i64 a1_0, .int .i64 a1_1, .bool a1_2] 24 (0, 0)) (by (with_reducible repeat (first | refine blk_drewN ?_ _ | refine blk_drew ?_ | refine blk_alloc ?_ _)); exact BK261.out) k_ hk)); (case aO => exact (by (with_reducible repeat (first | apply Kd.R_alloc | apply Kd.R_drewN | apply Kd.R_drew)); exact Kd.R_mono HO265.out (fun _ hk => hk.2))); (case aS => exact (below_size (by repeat (first | (with_reducible first | exact HB.out | apply below_alloc | apply pw_below_drewN | apply below_drew1 | refine below_set ?_ GE261.out) | exact HB.out)))); (case aL => have := LMc7.out; omega); intro v267 w31 ho hb hg hat; rw [← Ny266.out] at ho; have n0_ := Aside0.mk (blk_grown (g := gb261) (o := .cells #[.int .i64 a1_0, .int .i64 a1_1, .bool a1_2] 24 (0, 0)) (by (with_reducible repeat (first | refine blk_drewN ?_ _ | refine blk_drew ?_ | refine blk_alloc ?_ _)); exact BK261.out) hg (Kd.R_away HO265.out (fun _ hk => hk.2))); have n1_ := Aside0.mk (hb); have n2_ := Aside0.mk (ho); clear BK261; clear HB; clear HO265; have BK261 := n0_; have HB := n1_; have HO268 := n2_; clear n0_ n1_ n2_; clear ho hb hg hat; have hcz32_0 : w31.cell? ⟨gb261, 0, none⟩ = some (.int .i64 a1_0) := (blk_cell BK261.out 0).trans rfl; have hcz32_1 : w31.cell? ⟨gb261, 1, none⟩ = some (.int .i64 a1_1) := (blk_cell BK261.out 1).trans rfl; have hcz32_2 : w31.cell? ⟨gb261, 2, none⟩ = some (.bool a1_2) := (blk_cell BK261.out 2).trans rfl; have hfz32_0 := blk_frozen BK261.out 0; have hfz32_1 := blk_frozen BK261.out 1; have hfz32_2 := blk_frozen BK261.out 2; obtain ⟨Ao33, co33, eo33⟩ := Kd.R_slice HO268.out; subst eo33) | ((with_reducible refine gate_callee (f := 11) rfl ?_); refine goesL_ (some 20) rfl rfl Try.func11 (by kernel_rfl) rfl #[.slice Ao33 y266.length co33, .agg #[.int .i64 a1_0, .int .i64 a1_1, .bool a1_2]] rfl (by (try simp only [List.map_toArray, List.map_cons, List.map_nil]); first | done | rfl | (simp only [List.length_drop, List.length_take]; rfl)) ?_; (with_reducible refine (region_Add.calls k _ _ y266 a1_0 a1_1 a1_2 t269 t272 _ ?side1 ?side2 A8.out).mono ?_); (case side1 => repeat (first | exact (Kd.R_reads' HO268.out).2.2 | (with_reducible refine Kd.C_alloc ?_ _) | (with_reducible refine Kd.C_drewN ?_ _) | (with_reducible refine Kd.C_drew ?_))); (case side2 => exact (Kd.R_reads' HO268.out).2.1); rintro e w34 ⟨v270, rfl, ho0, hb⟩; refine ⟨_, rfl, ?_⟩; have n0_ := Aside0.mk (Kd.R_elder' (by (with_reducible repeat (first | apply Kd.R_alloc | apply Kd.R_drewN | apply Kd.R_drew)); exact HO268.out) (Kd.R_base ho0) hb); have n1_ := Aside0.mk (Kd.R_lower (Kd.R_newB (Kd.R_new' ho0 (Kd.R_lt (by (with_reducible repeat (first | apply Kd.R_alloc | apply Kd.R_drewN | apply Kd.R_drew)); exact HO268.out))) (g := gb261) (o := .cells #[.int .i64 a1_0, .int .i64 a1_1, .bool a1_2] 24 (0, 0)) (by (with_reducible repeat (first | refine blk_drewN ?_ _ | refine blk_drew ?_ | refine blk_alloc ?_ _)); exact BK261.out)) (below_size (by repeat (first | (with_reducible first | exact HB.out | apply below_alloc | apply pw_below_drewN | apply below_drew1 | refine below_set ?_ GE261.out) | exact HB.out)))); have n2_ := Aside0.mk (blk_below (g := gb261) (o := .cells #[.int .i64 a1_0, .int .i64 a1_1, .bool a1_2] 24 (0, 0)) (by (with_reducible repeat (first | refine blk_drewN ?_ _ | refine blk_drew ?_ | refine blk_alloc ?_ _)); exact BK261.out) hb); have n3_ := Aside0.mk (below_step (by repeat (first | (with_reducible first | exact HB.out | apply below_alloc | apply pw_below_drewN | apply below_drew1 | refine below_set ?_ GE261.out) | exact HB.out)) hb); clear HO268; clear BK261; clear HB; have HO268 := n0_; have HO271 := n1_; have BK261 := n2_; have HB := n3_; clear n0_ n1_ n2_ n3_; (try clear hb); (try clear hb2); (try clear hk); (try clear hi); (try clear ho0); have hcz35_0 : w34.cell? ⟨gb261, 0, none⟩ = some (.int .i64 a1_0) := (blk_cell BK261.out 0).trans rfl; have hcz35_1 : w34.cell? ⟨gb261, 1, none⟩ = some (.int .i64 a1_1) := (blk_cell BK261.out 1).trans rfl; have hcz35_2 : w34.cell? ⟨gb261, 2, none⟩ = some (.bool a1_2) := (blk_cell BK261.out 2).trans rfl; have hfz35_0 := blk_frozen BK261.out 0; have hfz35_1 := blk_frozen BK261.out 1; have hfz35_2 := blk_frozen BK261.out 2) | ((with_reducible refine gate_callee (f := 12) rfl ?_); refine goesL_ (some 26) rfl rfl Try.func12 (by kernel_rfl) rfl #[.slice A0 l0.length c0, .agg #[.int .i64 a1_0, .int .i64 a1_1, .bool a1_2]] rfl (by (try simp only [List.map_toArray, List.map_cons, List.map_nil]); first | done | rfl | (simp only [List.length_drop, List.length_take]; rfl)) ?_; (with_reducible refine (prioryref14_Add.calls k _ _ l0 a1_0 a1_1 a1_2 t273 t276 _ ?side1 ?side2 A9.out).mono ?_); (case side1 => repeat (first | exact (Kd.C_below HR0.out HB.out) | (with_reducible refine Kd.C_alloc ?_ _) | (with_reducible refine Kd.C_drewN ?_ _) | (with_reducible refine Kd.C_drew ?_))); (case side2 => exact HC0.out); rintro e w36 ⟨v274, rfl, ho0, hb⟩; refine ⟨_, rfl, ?_⟩; have n0_ := Aside0.mk (Kd.R_elder' (by (with_reducible repeat (first | apply Kd.R_alloc | apply Kd.R_drewN | apply Kd.R_drew)); exact HO268.out) (Kd.R_base ho0) hb); have n1_ := Aside0.mk (Kd.R_elder' (by (with_reducible repeat (first | apply Kd.R_alloc | apply Kd.R_drewN | apply Kd.R_drew)); exact HO271.out) (Kd.R_base ho0) hb); have n2_ := Aside0.mk (Kd.R_lower (Kd.R_newB (Kd.R_new' (Kd.R_new' ho0 (Kd.R_lt (by (with_reducible repeat (first | apply Kd.R_alloc | apply Kd.R_drewN | apply Kd.R_drew)); exact HO268.out))) (Kd.R_lt (by (with_reducible repeat (first | apply Kd.R_alloc | apply Kd.R_drewN | apply Kd.R_drew)); exact HO271.out))) (g := gb261) (o := .cells #[.int .i64 a1_0, .int .i64 a1_1, .bool a1_2] 24 (0, 0)) (by (with_reducible repeat (first | refine blk_drewN ?_ _ | refine blk_drew ?_ | refine blk_alloc ?_ _)); exact BK261.out)) (below_size (by repeat (first | (with_reducible first | exact HB.out | apply below_alloc | apply pw_below_drewN | apply below_drew1 | refine below_set ?_ GE261.out) | exact HB.out)))); have n3_ := Aside0.mk (blk_below (g := gb261) (o := .cells #[.int .i64 a1_0, .int .i64 a1_1, .bool a1_2] 24 (0, 0)) (by (with_reducible repeat (first | refine blk_drewN ?_ _ | refine blk_drew ?_ | refine blk_alloc ?_ _)); exact BK261.out) hb); have n4_ := Aside0.mk (below_step (by repeat (first | (with_reducible first | exact HB.out | apply below_alloc | apply pw_below_drewN | apply below_drew1 | refine below_set ?_ GE261.out) | exact HB.out)) hb); clear HO268; clear HO271; clear BK261; clear HB; have HO268 := n0_; have HO271 := n1_; have HO275 := n2_; have BK261 := n3_; have HB := n4_; clear n0_ n1_ n2_ n3_ n4_; (try clear hb); (try clear hb2); (try clear hk); (try clear hi); (try clear ho0); obtain ⟨Ao37, co37, eo37⟩ := Kd.R_slice HO271.out; subst eo37; obtain ⟨Ao38, co38, eo38⟩ := Kd.R_slice HO275.out; subst eo38) | ((with_reducible refine gate_callee (f := 13) rfl ?_); refine goesL_ (some 31) rfl rfl Try.func13 (by kernel_rfl) rfl #[.slice Ao37 t269.length co37, .slice Ao38 t273.length co38] rfl (by (try simp only [List.map_toArray, List.map_cons, List.map_nil]); first | done | rfl | (simp only [List.length_drop, List.length_take]; rfl)) ?_; (with_reducible refine (prioryref14_Same.calls k _ _ t269 _ _ t273 true _ ?side1 ?side2 ?side3 ?side4 A10.out).mono ?_); (case side1 => repeat (first | exact (Kd.R_reads' HO271.out).2.2 | (with_reducible refine Kd.C_alloc ?_ _) | (with_reducible refine Kd.C_drewN ?_ _) | (with_reducible refine Kd.C_drew ?_))); (case side2 => exact (Kd.R_reads' HO271.out).2.1); (case side3 => repeat (first | exact (Kd.R_reads' HO275.out).2.2 | (with_reducible refine Kd.C_alloc ?_ _) | (with_reducible refine Kd.C_drewN ?_ _) | (with_reducible refine Kd.C_drew ?_))); (case side4 => exact (Kd.R_reads' HO275.out).2.1); rintro e w' ⟨rfl, ⟨nd, rfl⟩⟩; refine ⟨_, rfl, ?_⟩) | (go_at_call 13; (with_reducible refine (prioryref14_Same.calls k _ _ y266 _ _ l0 false _ ?side1 ?side2 ?side3 ?side4 A13.out).mono ?_); (case side1 => repeat (first | exact (Kd.R_reads' HO268.out).2.2 | (with_reducible refine Kd.C_alloc ?_ _) | (with_reducible refine Kd.C_drewN ?_ _) | (with_reducible refine Kd.C_drew ?_))); (case side2 => exact (Kd.R_reads' HO268.out).2.1); (case side3 => repeat (first | exact (Kd.C_below HR0.out (by repeat (first | (with_reducible first | exact HB.out | apply below_alloc | apply pw_below_drewN | apply below_drew1 | refine below_set ?_ GE261.out) | exact HB.out))) | (with_reducible refine Kd.C_alloc ?_ _) | (with_reducible refine Kd.C_drewN ?_ _) | (with_reducible refine Kd.C_drew ?_))); (case side4 => exact HC0.out); rintro e w' ⟨rfl, ⟨nd, rfl⟩⟩))
            go_ret
            exact ⟨by first | rfl | (simp [errW_none, errW_some] <;> rfl) | (simp [*, errW_none, errW_some] <;> rfl), by repeat (first | (with_reducible first | exact HB.out | apply below_alloc | apply pw_below_drewN | apply below_drew1 | refine below_set ?_ GE261.out) | exact HB.out)⟩
        · rw [if_neg c12] at H
          have c12b0 : (t272 == t276) = false := beq_eq_false_iff_ne.mpr c12
          have c12b1 : (t272 != t276) = true := bne_iff_ne.mpr c12
          obtain rfl := Option.some.inj H
          go_enter Try.func3, Try.ntmps3
          go_wp2_with (first | ((with_reducible refine gate_dst (N := 3) rfl ?_); refine box_event ?hg (N := 3) ?hd (cs := #[.int .i64 a1_0, .int .i64 a1_1, .bool a1_2]) (t := 24) ?hr ?_; (case hd => rfl); (case hg => rfl); (case hr => first | (go_simp; done) | (go_simp; rfl)); intro gb261 hg w39 hbox hb; have n0_ := Aside0.mk (below_step (by repeat (first | (with_reducible first | exact HB.out | apply below_alloc | apply pw_below_drewN | apply below_drew1) | exact HB.out)) hb); have n1_ := Aside0.mk (hbox); have n2_ := Aside0.mk ((by rw [hg]; exact (below_size (by repeat (first | (with_reducible first | exact HB.out | apply below_alloc | apply pw_below_drewN | apply below_drew1) | exact HB.out))) : w.heap.size ≤ gb261)); have n3_ := Aside0.mk ((by rw [hg]; exact (below_size (by repeat (first | (with_reducible first | exact HB.out | apply below_alloc | apply pw_below_drewN | apply below_drew1) | exact HB.out))) : w.heap.size ≤ gb261)); clear HB; have HB := n0_; have BK261 := n1_; have GW261 := n2_; have GE261 := n3_; clear n0_ n1_ n2_ n3_; clear hb hbox hg) | ((with_reducible refine gate_dst (N := 14) rfl ?_); refine Kd.R_lit k24 _ 24 ?hg (N := 14) ?hd (xs := ([] : List (S24))) (inner := []) (ok := fun _ => True) (okp := fun _ => True) ?hr ?hp (fun _ hk => hk) trivial (Below.refl _ _) (Nat.le_refl _) (by simp) ?_; (case hd => rfl); (case hg => rfl); (case hr => first | (go_simp; done) | (go_simp; rfl)); (case hp => exact (Reps.none _ _)); intro v264 w40 ho41 hb hg_ hnew_; clear hg_ hnew_; (first | rw [← Ny263.out] at ho41 | (simp only [Int.reduceToNat] at ho41; rw [← Ny263.out] at ho41)); have n0_ := Aside0.mk (Kd.R_lower (Kd.R_newB ho41 (g := gb261) (o := .cells #[.int .i64 a1_0, .int .i64 a1_1, .bool a1_2] 24 (0, 0)) (by (with_reducible repeat (first | refine blk_drewN ?_ _ | refine blk_drew ?_ | refine blk_alloc ?_ _)); exact BK261.out)) (below_size (by repeat (first | (with_reducible first | exact HB.out | apply below_alloc | apply pw_below_drewN | apply below_drew1 | refine below_set ?_ GE261.out) | exact HB.out)))); have n1_ := Aside0.mk (blk_below (g := gb261) (o := .cells #[.int .i64 a1_0, .int .i64 a1_1, .bool a1_2] 24 (0, 0)) (by (with_reducible repeat (first | refine blk_drewN ?_ _ | refine blk_drew ?_ | refine blk_alloc ?_ _)); exact BK261.out) hb); have n2_ := Aside0.mk (below_step (by repeat (first | (with_reducible first | exact HB.out | apply below_alloc | apply pw_below_drewN | apply below_drew1 | refine below_set ?_ GE261.out) | exact HB.out)) hb); clear BK261; clear HB; have HO265 := n0_; have BK261 := n1_; have HB := n2_; clear n0_ n1_ n2_; clear hb ho41) | ((with_reducible refine gate_builtin (b := .append) (xs := #[.tmp 14, .tmp 15]) rfl ?_); at_builtin; refine Kd.R_append_rows k24 (w0 := w) w.heap.size rfl (.tmp 14) (.tmp 15) 22 24 (.agg #[(.int .i64 0), (.int .i64 0), (.bool false)]) 24 rfl Try.underlying22 info24 rfl (by decide) (by omega) v264 y263 l0 _ _ _ (fun k_ => k_ ≠ gb261) (fun _ => False) rfl rfl ?aO ?aR (fun _ _ h => h) (fun _ h => h.elim) ?aF ?aB ?aS ?aL ?_; (case aR => repeat (first | exact (Kd.C_below HR0.out HB.out) | (with_reducible refine Kd.C_alloc ?_ _) | (with_reducible refine Kd.C_drewN ?_ _) | (with_reducible refine Kd.C_drew ?_))); (case aB => exact (by repeat (first | (with_reducible first | exact HB.out | apply below_alloc | apply pw_below_drewN | apply below_drew1 | refine below_set ?_ GE261.out) | exact HB.out))); (case aF => exact (fun k_ hk => Kd.freshB (g := gb261) (o := .cells #[.int .i64 a1_0, .int .i64 a1_1, .bool a1_2] 24 (0, 0)) (by (with_reducible repeat (first | refine blk_drewN ?_ _ | refine blk_drew ?_ | refine blk_alloc ?_ _)); exact BK261.out) k_ hk)); (case aO => exact (by (with_reducible repeat (first | apply Kd.R_alloc | apply Kd.R_drewN | apply Kd.R_drew)); exact Kd.R_mono HO265.out (fun _ hk => hk.2))); (case aS => exact (below_size (by repeat (first | (with_reducible first | exact HB.out | apply below_alloc | apply pw_below_drewN | apply below_drew1 | refine below_set ?_ GE261.out) | exact HB.out)))); (case aL => have := LMc7.out; omega); intro v267 w42 ho hb hg hat; rw [← Ny266.out] at ho; have n0_ := Aside0.mk (blk_grown (g := gb261) (o := .cells #[.int .i64 a1_0, .int .i64 a1_1, .bool a1_2] 24 (0, 0)) (by (with_reducible repeat (first | refine blk_drewN ?_ _ | refine blk_drew ?_ | refine blk_alloc ?_ _)); exact BK261.out) hg (Kd.R_away HO265.out (fun _ hk => hk.2))); have n1_ := Aside0.mk (hb); have n2_ := Aside0.mk (ho); clear BK261; clear HB; clear HO265; have BK261 := n0_; have HB := n1_; have HO268 := n2_; clear n0_ n1_ n2_; clear ho hb hg hat; have hcz43_0 : w42.cell? ⟨gb261, 0, none⟩ = some (.int .i64 a1_0) := (blk_cell BK261.out 0).trans rfl; have hcz43_1 : w42.cell? ⟨gb261, 1, none⟩ = some (.int .i64 a1_1) := (blk_cell BK261.out 1).trans rfl; have hcz43_2 : w42.cell? ⟨gb261, 2, none⟩ = some (.bool a1_2) := (blk_cell BK261.out 2).trans rfl; have hfz43_0 := blk_frozen BK261.out 0; have hfz43_1 := blk_frozen BK261.out 1; have hfz43_2 := blk_frozen BK261.out 2; obtain ⟨Ao44, co44, eo44⟩ := Kd.R_slice HO268.out; subst eo44) | ((with_reducible refine gate_callee (f := 11) rfl ?_); refine goesL_ (some 20) rfl rfl Try.func11 (by kernel_rfl) rfl #[.slice Ao44 y266.length co44, .agg #[.int .i64 a1_0, .int .i64 a1_1, .bool a1_2]] rfl (by (try simp only [List.map_toArray, List.map_cons, List.map_nil]); first | done | rfl | (simp only [List.length_drop, List.length_take]; rfl)) ?_; (with_reducible refine (region_Add.calls k _ _ y266 a1_0 a1_1 a1_2 t269 t272 _ ?side1 ?side2 A8.out).mono ?_); (case side1 => repeat (first | exact (Kd.R_reads' HO268.out).2.2 | (with_reducible refine Kd.C_alloc ?_ _) | (with_reducible refine Kd.C_drewN ?_ _) | (with_reducible refine Kd.C_drew ?_))); (case side2 => exact (Kd.R_reads' HO268.out).2.1); rintro e w45 ⟨v270, rfl, ho0, hb⟩; refine ⟨_, rfl, ?_⟩; have n0_ := Aside0.mk (Kd.R_elder' (by (with_reducible repeat (first | apply Kd.R_alloc | apply Kd.R_drewN | apply Kd.R_drew)); exact HO268.out) (Kd.R_base ho0) hb); have n1_ := Aside0.mk (Kd.R_lower (Kd.R_newB (Kd.R_new' ho0 (Kd.R_lt (by (with_reducible repeat (first | apply Kd.R_alloc | apply Kd.R_drewN | apply Kd.R_drew)); exact HO268.out))) (g := gb261) (o := .cells #[.int .i64 a1_0, .int .i64 a1_1, .bool a1_2] 24 (0, 0)) (by (with_reducible repeat (first | refine blk_drewN ?_ _ | refine blk_drew ?_ | refine blk_alloc ?_ _)); exact BK261.out)) (below_size (by repeat (first | (with_reducible first | exact HB.out | apply below_alloc | apply pw_below_drewN | apply below_drew1 | refine below_set ?_ GE261.out) | exact HB.out)))); have n2_ := Aside0.mk (blk_below (g := gb261) (o := .cells #[.int .i64 a1_0, .int .i64 a1_1, .bool a1_2] 24 (0, 0)) (by (with_reducible repeat (first | refine blk_drewN ?_ _ | refine blk_drew ?_ | refine blk_alloc ?_ _)); exact BK261.out) hb); have n3_ := Aside0.mk (below_step (by repeat (first | (with_reducible first | exact HB.out | apply below_alloc | apply pw_below_drewN | apply below_drew1 | refine below_set ?_ GE261.out) | exact HB.out)) hb); clear HO268; clear BK261; clear HB; have HO268 := n0_; have HO271 := n1_; have BK261 := n2_; have HB := n3_; clear n0_ n1_ n2_ n3_; (try clear hb); (try clear hb2); (try clear hk); (try clear hi); (try clear ho0); have hcz46_0 : w45.cell? ⟨gb261, 0, none⟩ = some (.int .i64 a1_0) := (blk_cell BK261.out 0).trans rfl; have hcz46_1 : w45.cell? ⟨gb261, 1, none⟩ = some (.int .i64 a1_1) := (blk_cell BK261.out 1).trans rfl; have hcz46_2 : w45.cell? ⟨gb261, 2, none⟩ = some (.bool a1_2) := (blk_cell BK261.out 2).trans rfl; have hfz46_0 := blk_frozen BK261.out 0; have hfz46_1 := blk_frozen BK261.out 1; have hfz46_2 := blk_frozen BK261.out 2) | ((with_reducible refine gate_callee (f := 12) rfl ?_); refine goesL_ (some 26) rfl rfl Try.func12 (by kernel_rfl) rfl #[.slice A0 l0.length c0, .agg #[.int .i64 a1_0, .int .i64 a1_1, .bool a1_2]] rfl (by (try simp only [List.map_toArray, List.map_cons, List.map_nil]); first | done | rfl | (simp only [List.length_drop, List.length_take]; rfl)) ?_; (with_reducible refine (prioryref14_Add.calls k _ _ l0 a1_0 a1_1 a1_2 t273 t276 _ ?side1 ?side2 A9.out).mono ?_); (case side1 => repeat (first | exact (Kd.C_below HR0.out HB.out) | (with_reducible refine Kd.C_alloc ?_ _) | (with_reducible refine Kd.C_drewN ?_ _) | (with_reducible refine Kd.C_drew ?_))); (case side2 => exact HC0.out); rintro e w47 ⟨v274, rfl, ho0, hb⟩; refine ⟨_, rfl, ?_⟩; have n0_ := Aside0.mk (Kd.R_elder' (by (with_reducible repeat (first | apply Kd.R_alloc | apply Kd.R_drewN | apply Kd.R_drew)); exact HO268.out) (Kd.R_base ho0) hb); have n1_ := Aside0.mk (Kd.R_elder' (by (with_reducible repeat (first | apply Kd.R_alloc | apply Kd.R_drewN | apply Kd.R_drew)); exact HO271.out) (Kd.R_base ho0) hb); have n2_ := Aside0.mk (Kd.R_lower (Kd.R_newB (Kd.R_new' (Kd.R_new' ho0 (Kd.R_lt (by (with_reducible repeat (first | apply Kd.R_alloc | apply Kd.R_drewN | apply Kd.R_drew)); exact HO268.out))) (Kd.R_lt (by (with_reducible repeat (first | apply Kd.R_alloc | apply Kd.R_drewN | apply Kd.R_drew)); exact HO271.out))) (g := gb261) (o := .cells #[.int .i64 a1_0, .int .i64 a1_1, .bool a1_2] 24 (0, 0)) (by (with_reducible repeat (first | refine blk_drewN ?_ _ | refine blk_drew ?_ | refine blk_alloc ?_ _)); exact BK261.out)) (below_size (by repeat (first | (with_reducible first | exact HB.out | apply below_alloc | apply pw_below_drewN | apply below_drew1 | refine below_set ?_ GE261.out) | exact HB.out)))); have n3_ := Aside0.mk (blk_below (g := gb261) (o := .cells #[.int .i64 a1_0, .int .i64 a1_1, .bool a1_2] 24 (0, 0)) (by (with_reducible repeat (first | refine blk_drewN ?_ _ | refine blk_drew ?_ | refine blk_alloc ?_ _)); exact BK261.out) hb); have n4_ := Aside0.mk (below_step (by repeat (first | (with_reducible first | exact HB.out | apply below_alloc | apply pw_below_drewN | apply below_drew1 | refine below_set ?_ GE261.out) | exact HB.out)) hb); clear HO268; clear HO271; clear BK261; clear HB; have HO268 := n0_; have HO271 := n1_; have HO275 := n2_; have BK261 := n3_; have HB := n4_; clear n0_ n1_ n2_ n3_ n4_; (try clear hb); (try clear hb2); (try clear hk); (try clear hi); (try clear ho0); obtain ⟨Ao48, co48, eo48⟩ := Kd.R_slice HO271.out; subst eo48; obtain ⟨Ao49, co49, eo49⟩ := Kd.R_slice HO275.out; subst eo49) | ((with_reducible refine gate_callee (f := 13) rfl ?_); refine goesL_ (some 31) rfl rfl Try.func13 (by kernel_rfl) rfl #[.slice Ao48 t269.length co48, .slice Ao49 t273.length co49] rfl (by (try simp only [List.map_toArray, List.map_cons, List.map_nil]); first | done | rfl | (simp only [List.length_drop, List.length_take]; rfl)) ?_; (with_reducible refine (prioryref14_Same.calls k _ _ t269 _ _ t273 true _ ?side1 ?side2 ?side3 ?side4 A10.out).mono ?_); (case side1 => repeat (first | exact (Kd.R_reads' HO271.out).2.2 | (with_reducible refine Kd.C_alloc ?_ _) | (with_reducible refine Kd.C_drewN ?_ _) | (with_reducible refine Kd.C_drew ?_))); (case side2 => exact (Kd.R_reads' HO271.out).2.1); (case side3 => repeat (first | exact (Kd.R_reads' HO275.out).2.2 | (with_reducible refine Kd.C_alloc ?_ _) | (with_reducible refine Kd.C_drewN ?_ _) | (with_reducible refine Kd.C_drew ?_))); (case side4 => exact (Kd.R_reads' HO275.out).2.1); rintro e w' ⟨rfl, ⟨nd, rfl⟩⟩; refine ⟨_, rfl, ?_⟩))
          go_ret
          exact ⟨by first | rfl | (simp [errW_none, errW_some] <;> rfl) | (simp [*, errW_none, errW_some] <;> rfl), by repeat (first | (with_reducible first | exact HB.out | apply below_alloc | apply pw_below_drewN | apply below_drew1 | refine below_set ?_ GE261.out) | exact HB.out)⟩
      · replace c11 := Bool.eq_false_iff.mpr c11
        subst c11
        have H1 : (some false) = some r := by rw [if_neg (show ¬ (false = true) by decide)] at H; exact H
        clear H
        have H := H1
        clear H1
        obtain rfl := Option.some.inj H
        go_enter Try.func3, Try.ntmps3
        go_wp2_with (first | ((with_reducible refine gate_dst (N := 3) rfl ?_); refine box_event ?hg (N := 3) ?hd (cs := #[.int .i64 a1_0, .int .i64 a1_1, .bool a1_2]) (t := 24) ?hr ?_; (case hd => rfl); (case hg => rfl); (case hr => first | (go_simp; done) | (go_simp; rfl)); intro gb261 hg w50 hbox hb; have n0_ := Aside0.mk (below_step (by repeat (first | (with_reducible first | exact HB.out | apply below_alloc | apply pw_below_drewN | apply below_drew1) | exact HB.out)) hb); have n1_ := Aside0.mk (hbox); have n2_ := Aside0.mk ((by rw [hg]; exact (below_size (by repeat (first | (with_reducible first | exact HB.out | apply below_alloc | apply pw_below_drewN | apply below_drew1) | exact HB.out))) : w.heap.size ≤ gb261)); have n3_ := Aside0.mk ((by rw [hg]; exact (below_size (by repeat (first | (with_reducible first | exact HB.out | apply below_alloc | apply pw_below_drewN | apply below_drew1) | exact HB.out))) : w.heap.size ≤ gb261)); clear HB; have HB := n0_; have BK261 := n1_; have GW261 := n2_; have GE261 := n3_; clear n0_ n1_ n2_ n3_; clear hb hbox hg) | ((with_reducible refine gate_dst (N := 14) rfl ?_); refine Kd.R_lit k24 _ 24 ?hg (N := 14) ?hd (xs := ([] : List (S24))) (inner := []) (ok := fun _ => True) (okp := fun _ => True) ?hr ?hp (fun _ hk => hk) trivial (Below.refl _ _) (Nat.le_refl _) (by simp) ?_; (case hd => rfl); (case hg => rfl); (case hr => first | (go_simp; done) | (go_simp; rfl)); (case hp => exact (Reps.none _ _)); intro v264 w51 ho52 hb hg_ hnew_; clear hg_ hnew_; (first | rw [← Ny263.out] at ho52 | (simp only [Int.reduceToNat] at ho52; rw [← Ny263.out] at ho52)); have n0_ := Aside0.mk (Kd.R_lower (Kd.R_newB ho52 (g := gb261) (o := .cells #[.int .i64 a1_0, .int .i64 a1_1, .bool a1_2] 24 (0, 0)) (by (with_reducible repeat (first | refine blk_drewN ?_ _ | refine blk_drew ?_ | refine blk_alloc ?_ _)); exact BK261.out)) (below_size (by repeat (first | (with_reducible first | exact HB.out | apply below_alloc | apply pw_below_drewN | apply below_drew1 | refine below_set ?_ GE261.out) | exact HB.out)))); have n1_ := Aside0.mk (blk_below (g := gb261) (o := .cells #[.int .i64 a1_0, .int .i64 a1_1, .bool a1_2] 24 (0, 0)) (by (with_reducible repeat (first | refine blk_drewN ?_ _ | refine blk_drew ?_ | refine blk_alloc ?_ _)); exact BK261.out) hb); have n2_ := Aside0.mk (below_step (by repeat (first | (with_reducible first | exact HB.out | apply below_alloc | apply pw_below_drewN | apply below_drew1 | refine below_set ?_ GE261.out) | exact HB.out)) hb); clear BK261; clear HB; have HO265 := n0_; have BK261 := n1_; have HB := n2_; clear n0_ n1_ n2_; clear hb ho52) | ((with_reducible refine gate_builtin (b := .append) (xs := #[.tmp 14, .tmp 15]) rfl ?_); at_builtin; refine Kd.R_append_rows k24 (w0 := w) w.heap.size rfl (.tmp 14) (.tmp 15) 22 24 (.agg #[(.int .i64 0), (.int .i64 0), (.bool false)]) 24 rfl Try.underlying22 info24 rfl (by decide) (by omega) v264 y263 l0 _ _ _ (fun k_ => k_ ≠ gb261) (fun _ => False) rfl rfl ?aO ?aR (fun _ _ h => h) (fun _ h => h.elim) ?aF ?aB ?aS ?aL ?_; (case aR => repeat (first | exact (Kd.C_below HR0.out HB.out) | (with_reducible refine Kd.C_alloc ?_ _) | (with_reducible refine Kd.C_drewN ?_ _) | (with_reducible refine Kd.C_drew ?_))); (case aB => exact (by repeat (first | (with_reducible first | exact HB.out | apply below_alloc | apply pw_below_drewN | apply below_drew1 | refine below_set ?_ GE261.out) | exact HB.out))); (case aF => exact (fun k_ hk => Kd.freshB (g := gb261) (o := .cells #[.int .i64 a1_0, .int .i64 a1_1, .bool a1_2] 24 (0, 0)) (by (with_reducible repeat (first | refine blk_drewN ?_ _ | refine blk_drew ?_ | refine blk_alloc ?_ _)); exact BK261.out) k_ hk)); (case aO => exact (by (with_reducible repeat (first | apply Kd.R_alloc | apply Kd.R_drewN | apply Kd.R_drew)); exact Kd.R_mono HO265.out (fun _ hk => hk.2))); (case aS => exact (below_size (by repeat (first | (with_reducible first | exact HB.out | apply below_alloc | apply pw_below_drewN | apply below_drew1 | refine below_set ?_ GE261.out) | exact HB.out)))); (case aL => have := LMc7.out; omega); intro v267 w53 ho hb hg hat; rw [← Ny266.out] at ho; have n0_ := Aside0.mk (blk_grown (g := gb261) (o := .cells #[.int .i64 a1_0, .int .i64 a1_1, .bool a1_2] 24 (0, 0)) (by (with_reducible repeat (first | refine blk_drewN ?_ _ | refine blk_drew ?_ | refine blk_alloc ?_ _)); exact BK261.out) hg (Kd.R_away HO265.out (fun _ hk => hk.2))); have n1_ := Aside0.mk (hb); have n2_ := Aside0.mk (ho); clear BK261; clear HB; clear HO265; have BK261 := n0_; have HB := n1_; have HO268 := n2_; clear n0_ n1_ n2_; clear ho hb hg hat; have hcz54_0 : w53.cell? ⟨gb261, 0, none⟩ = some (.int .i64 a1_0) := (blk_cell BK261.out 0).trans rfl; have hcz54_1 : w53.cell? ⟨gb261, 1, none⟩ = some (.int .i64 a1_1) := (blk_cell BK261.out 1).trans rfl; have hcz54_2 : w53.cell? ⟨gb261, 2, none⟩ = some (.bool a1_2) := (blk_cell BK261.out 2).trans rfl; have hfz54_0 := blk_frozen BK261.out 0; have hfz54_1 := blk_frozen BK261.out 1; have hfz54_2 := blk_frozen BK261.out 2; obtain ⟨Ao55, co55, eo55⟩ := Kd.R_slice HO268.out; subst eo55) | ((with_reducible refine gate_callee (f := 11) rfl ?_); refine goesL_ (some 20) rfl rfl Try.func11 (by kernel_rfl) rfl #[.slice Ao55 y266.length co55, .agg #[.int .i64 a1_0, .int .i64 a1_1, .bool a1_2]] rfl (by (try simp only [List.map_toArray, List.map_cons, List.map_nil]); first | done | rfl | (simp only [List.length_drop, List.length_take]; rfl)) ?_; (with_reducible refine (region_Add.calls k _ _ y266 a1_0 a1_1 a1_2 t269 t272 _ ?side1 ?side2 A8.out).mono ?_); (case side1 => repeat (first | exact (Kd.R_reads' HO268.out).2.2 | (with_reducible refine Kd.C_alloc ?_ _) | (with_reducible refine Kd.C_drewN ?_ _) | (with_reducible refine Kd.C_drew ?_))); (case side2 => exact (Kd.R_reads' HO268.out).2.1); rintro e w56 ⟨v270, rfl, ho0, hb⟩; refine ⟨_, rfl, ?_⟩; have n0_ := Aside0.mk (Kd.R_elder' (by (with_reducible repeat (first | apply Kd.R_alloc | apply Kd.R_drewN | apply Kd.R_drew)); exact HO268.out) (Kd.R_base ho0) hb); have n1_ := Aside0.mk (Kd.R_lower (Kd.R_newB (Kd.R_new' ho0 (Kd.R_lt (by (with_reducible repeat (first | apply Kd.R_alloc | apply Kd.R_drewN | apply Kd.R_drew)); exact HO268.out))) (g := gb261) (o := .cells #[.int .i64 a1_0, .int .i64 a1_1, .bool a1_2] 24 (0, 0)) (by (with_reducible repeat (first | refine blk_drewN ?_ _ | refine blk_drew ?_ | refine blk_alloc ?_ _)); exact BK261.out)) (below_size (by repeat (first | (with_reducible first | exact HB.out | apply below_alloc | apply pw_below_drewN | apply below_drew1 | refine below_set ?_ GE261.out) | exact HB.out)))); have n2_ := Aside0.mk (blk_below (g := gb261) (o := .cells #[.int .i64 a1_0, .int .i64 a1_1, .bool a1_2] 24 (0, 0)) (by (with_reducible repeat (first | refine blk_drewN ?_ _ | refine blk_drew ?_ | refine blk_alloc ?_ _)); exact BK261.out) hb); have n3_ := Aside0.mk (below_step (by repeat (first | (with_reducible first | exact HB.out | apply below_alloc | apply pw_below_drewN | apply below_drew1 | refine below_set ?_ GE261.out) | exact HB.out)) hb); clear HO268; clear BK261; clear HB; have HO268 := n0_; have HO271 := n1_; have BK261 := n2_; have HB := n3_; clear n0_ n1_ n2_ n3_; (try clear hb); (try clear hb2); (try clear hk); (try clear hi); (try clear ho0); have hcz57_0 : w56.cell? ⟨gb261, 0, none⟩ = some (.int .i64 a1_0) := (blk_cell BK261.out 0).trans rfl; have hcz57_1 : w56.cell? ⟨gb261, 1, none⟩ = some (.int .i64 a1_1) := (blk_cell BK261.out 1).trans rfl; have hcz57_2 : w56.cell? ⟨gb261, 2, none⟩ = some (.bool a1_2) := (blk_cell BK261.out 2).trans rfl; have hfz57_0 := blk_frozen BK261.out 0; have hfz57_1 := blk_frozen BK261.out 1; have hfz57_2 := blk_frozen BK261.out 2) | ((with_reducible refine gate_callee (f := 12) rfl ?_); refine goesL_ (some 26) rfl rfl Try.func12 (by kernel_rfl) rfl #[.slice A0 l0.length c0, .agg #[.int .i64 a1_0, .int .i64 a1_1, .bool a1_2]] rfl (by (try simp only [List.map_toArray, List.map_cons, List.map_nil]); first | done | rfl | (simp only [List.length_drop, List.length_take]; rfl)) ?_; (with_reducible refine (prioryref14_Add.calls k _ _ l0 a1_0 a1_1 a1_2 t273 t276 _ ?side1 ?side2 A9.out).mono ?_); (case side1 => repeat (first | exact (Kd.C_below HR0.out HB.out) | (with_reducible refine Kd.C_alloc ?_ _) | (with_reducible refine Kd.C_drewN ?_ _) | (with_reducible refine Kd.C_drew ?_))); (case side2 => exact HC0.out); rintro e w58 ⟨v274, rfl, ho0, hb⟩; refine ⟨_, rfl, ?_⟩; have n0_ := Aside0.mk (Kd.R_elder' (by (with_reducible repeat (first | apply Kd.R_alloc | apply Kd.R_drewN | apply Kd.R_drew)); exact HO268.out) (Kd.R_base ho0) hb); have n1_ := Aside0.mk (Kd.R_elder' (by (with_reducible repeat (first | apply Kd.R_alloc | apply Kd.R_drewN | apply Kd.R_drew)); exact HO271.out) (Kd.R_base ho0) hb); have n2_ := Aside0.mk (Kd.R_lower (Kd.R_newB (Kd.R_new' (Kd.R_new' ho0 (Kd.R_lt (by (with_reducible repeat (first | apply Kd.R_alloc | apply Kd.R_drewN | apply Kd.R_drew)); exact HO268.out))) (Kd.R_lt (by (with_reducible repeat (first | apply Kd.R_alloc | apply Kd.R_drewN | apply Kd.R_drew)); exact HO271.out))) (g := gb261) (o := .cells #[.int .i64 a1_0, .int .i64 a1_1, .bool a1_2] 24 (0, 0)) (by (with_reducible repeat (first | refine blk_drewN ?_ _ | refine blk_drew ?_ | refine blk_alloc ?_ _)); exact BK261.out)) (below_size (by repeat (first | (with_reducible first | exact HB.out | apply below_alloc | apply pw_below_drewN | apply below_drew1 | refine below_set ?_ GE261.out) | exact HB.out)))); have n3_ := Aside0.mk (blk_below (g := gb261) (o := .cells #[.int .i64 a1_0, .int .i64 a1_1, .bool a1_2] 24 (0, 0)) (by (with_reducible repeat (first | refine blk_drewN ?_ _ | refine blk_drew ?_ | refine blk_alloc ?_ _)); exact BK261.out) hb); have n4_ := Aside0.mk (below_step (by repeat (first | (with_reducible first | exact HB.out | apply below_alloc | apply pw_below_drewN | apply below_drew1 | refine below_set ?_ GE261.out) | exact HB.out)) hb); clear HO268; clear HO271; clear BK261; clear HB; have HO268 := n0_; have HO271 := n1_; have HO275 := n2_; have BK261 := n3_; have HB := n4_; clear n0_ n1_ n2_ n3_ n4_; (try clear hb); (try clear hb2); (try clear hk); (try clear hi); (try clear ho0); obtain ⟨Ao59, co59, eo59⟩ := Kd.R_slice HO271.out; subst eo59; obtain ⟨Ao60, co60, eo60⟩ := Kd.R_slice HO275.out; subst eo60) | ((with_reducible refine gate_callee (f := 13) rfl ?_); refine goesL_ (some 31) rfl rfl Try.func13 (by kernel_rfl) rfl #[.slice Ao59 t269.length co59, .slice Ao60 t273.length co60] rfl (by (try simp only [List.map_toArray, List.map_cons, List.map_nil]); first | done | rfl | (simp only [List.length_drop, List.length_take]; rfl)) ?_; (with_reducible refine (prioryref14_Same.calls k _ _ t269 _ _ t273 false _ ?side1 ?side2 ?side3 ?side4 A10.out).mono ?_); (case side1 => repeat (first | exact (Kd.R_reads' HO271.out).2.2 | (with_reducible refine Kd.C_alloc ?_ _) | (with_reducible refine Kd.C_drewN ?_ _) | (with_reducible refine Kd.C_drew ?_))); (case side2 => exact (Kd.R_reads' HO271.out).2.1); (case side3 => repeat (first | exact (Kd.R_reads' HO275.out).2.2 | (with_reducible refine Kd.C_alloc ?_ _) | (with_reducible refine Kd.C_drewN ?_ _) | (with_reducible refine Kd.C_drew ?_))); (case side4 => exact (Kd.R_reads' HO275.out).2.1); rintro e w' ⟨rfl, ⟨nd, rfl⟩⟩; refine ⟨_, rfl, ?_⟩))
        go_ret
        exact ⟨by first | rfl | (simp [errW_none, errW_some] <;> rfl) | (simp [*, errW_none, errW_some] <;> rfl), by repeat (first | (with_reducible first | exact HB.out | apply below_alloc | apply pw_below_drewN | apply below_drew1 | refine below_set ?_ GE261.out) | exact HB.out)⟩
    · rw [if_neg c7] at H
      exact absurd H (by simp)
end Go.Proofs.Ytcblfhoipdbdlaa.PAll

namespace Go.Proofs.Ytcblfhoipdbdlaa.PAll
open Go.RowKit Go.Proofs.YtcblfhoipdbdlaaW.PrintWords Go.Proofs.YtcblfhoipdbdlaaW.PrintLast Go.Proofs.YtcblfhoipdbdlaaW.PrintMore
set_option linter.unusedVariables false
set_option linter.unusedSimpArgs false
def pgS : List S24 → Nat → Int
  | [], _ => 0
  | a :: r, n => if a.f0 ≤ n ∧ (n : Int) < a.f0 + a.f1 then wv a.f2 else pgS r n
def NF : Int → Option Bool → List S24 → Prop
  | _, _, [] => True
  | e, lw, a :: r => e ≤ a.f0 ∧ (e = a.f0 → lw ≠ some a.f2) ∧ 1 ≤ a.f1 ∧ a.f0 + a.f1 ≤ 1024 ∧ NF (a.f0 + a.f1) (some a.f2) r
def endS : Int → List S24 → Int
  | e, [] => e
  | _, a :: r => endS (a.f0 + a.f1) r
def lwS : Option Bool → List S24 → Option Bool
  | lw, [] => lw
  | _, a :: r => lwS (some a.f2) r
theorem wv_ne (b : Bool) : wv b ≠ 0 := by cases b <;> decide
theorem wv_inj {a b : Bool} (h : wv a = wv b) : a = b := by cases a <;> cases b <;> first | rfl | (revert h; decide)
theorem wv_of {x : Int} (h : x = 0 ∨ x = 1 ∨ x = 2) (h0 : x ≠ 0) : wv (x == 2) = x := by
  rcases h with h | h | h
  · exact absurd h h0
  · subst h; rfl
  · subst h; rfl
theorem pgS_cases (l : List S24) (n : Nat) : pgS l n = 0 ∨ pgS l n = 1 ∨ pgS l n = 2 := by
  induction l with
  | nil => exact .inl rfl
  | cons a r ih =>
    unfold pgS
    split
    · cases a.f2 <;> simp [wv]
    · exact ih
theorem NF_ge : ∀ {l : List S24} {e : Int} {lw : Option Bool}, NF e lw l → ∀ a ∈ l, e ≤ a.f0 ∧ 1 ≤ a.f1 ∧ a.f0 + a.f1 ≤ 1024
  | [], _, _, _, _, h => by cases h
  | x :: r, e, lw, h, a, ha => by
    obtain ⟨h1, h2, h3, h4, h5⟩ := h
    rcases List.mem_cons.1 ha with rfl | ha
    · exact ⟨h1, h3, h4⟩
    · have := NF_ge h5 a ha
      exact ⟨by omega, this.2⟩
theorem pgS_none {l : List S24} {n : Nat} (h : ∀ a ∈ l, ¬ (a.f0 ≤ n ∧ (n : Int) < a.f0 + a.f1)) : pgS l n = 0 := by
  induction l with
  | nil => rfl
  | cons a r ih =>
    unfold pgS
    rw [if_neg (h a List.mem_cons_self)]
    exact ih (fun b hb => h b (List.mem_cons_of_mem _ hb))
theorem pgS_lt {l : List S24} {e : Int} {lw : Option Bool} (h : NF e lw l) {n : Nat} (hn : (n : Int) < e) : pgS l n = 0 :=
  pgS_none (fun a ha hc => by have := (NF_ge h a ha).1; omega)
theorem pgS_at {l : List S24} {e : Int} {lw : Option Bool} (h : NF e lw l) {n : Nat} (hn : (n : Int) = e) {w : Bool} (hw : lw = some w) : pgS l n ≠ wv w := by
  cases l with
  | nil => exact fun h => wv_ne w h.symm
  | cons a r =>
    obtain ⟨h1, h2, h3, h4, h5⟩ := h
    unfold pgS
    split
    · rename_i hc
      intro he
      exact h2 (by omega) (by rw [hw, wv_inj he])
    · rename_i hc
      rw [pgS_lt h5 (by omega)]
      exact fun h => wv_ne w h.symm
theorem NF_uniq : ∀ (l m : List S24) (e : Int) (lw : Option Bool), 0 ≤ e → NF e lw l → NF e lw m → (∀ n : Nat, e ≤ n → n < 1024 → pgS l n = pgS m n) → l = m
  | [], [], _, _, _, _, _, _ => rfl
  | [], b :: m, e, lw, he, _, hm, hp => by
    obtain ⟨h1, h2, h3, h4, h5⟩ := hm
    have := hp b.f0.toNat (by omega) (by omega)
    rw [show pgS [] b.f0.toNat = 0 from rfl] at this
    unfold pgS at this
    rw [if_pos (by omega)] at this
    exact absurd this.symm (wv_ne _)
  | a :: l, [], e, lw, he, hl, _, hp => by
    obtain ⟨h1, h2, h3, h4, h5⟩ := hl
    have := hp a.f0.toNat (by omega) (by omega)
    rw [show pgS [] a.f0.toNat = 0 from rfl] at this
    unfold pgS at this
    rw [if_pos (by omega)] at this
    exact absurd this (wv_ne _)
  | a :: l, b :: m, e, lw, he, hl, hm, hp => by
    obtain ⟨a1, a2, a3, a4, a5⟩ := hl
    obtain ⟨b1, b2, b3, b4, b5⟩ := hm
    have hs : a.f0 = b.f0 := by
      rcases Int.lt_trichotomy a.f0 b.f0 with h | h | h
      · exfalso
        have := hp a.f0.toNat (by omega) (by omega)
        unfold pgS at this
        rw [if_pos (by omega), if_neg (by omega), pgS_lt b5 (by omega)] at this
        exact wv_ne _ this
      · exact h
      · exfalso
        have := hp b.f0.toNat (by omega) (by omega)
        unfold pgS at this
        rw [if_neg (by omega), if_pos (by omega), pgS_lt a5 (by omega)] at this
        exact wv_ne _ this.symm
    have hw : a.f2 = b.f2 := by
      have := hp a.f0.toNat (by omega) (by omega)
      unfold pgS at this
      rw [if_pos (by omega), if_pos (by omega)] at this
      exact wv_inj this
    have hm : a.f1 = b.f1 := by
      rcases Int.lt_trichotomy a.f1 b.f1 with h | h | h
      · exfalso
        have := hp (a.f0 + a.f1).toNat (by omega) (by omega)
        unfold pgS at this
        rw [if_neg (by omega), if_pos (by omega), ← hw] at this
        exact pgS_at a5 (by omega) rfl this
      · exact h
      · exfalso
        have := hp (b.f0 + b.f1).toNat (by omega) (by omega)
        unfold pgS at this
        rw [if_pos (by omega), if_neg (by omega), hw] at this
        exact pgS_at b5 (by omega) rfl this.symm
    have hab : a = b := by cases a; cases b; simp only at hs hw hm; subst hs hw hm; rfl
    subst hab
    congr 1
    refine NF_uniq l m (a.f0 + a.f1) (some a.f2) (by omega) a5 b5 (fun n h1 h2 => ?_)
    have := hp n (by omega) h2
    unfold pgS at this
    rwa [if_neg (by omega), if_neg (by omega)] at this
theorem NF_append : ∀ (p s : List S24) (e : Int) (lw : Option Bool), NF e lw (p ++ s) ↔ NF e lw p ∧ NF (endS e p) (lwS lw p) s
  | [], s, e, lw => by simp [NF, endS, lwS]
  | a :: p, s, e, lw => by
    simp only [List.cons_append, NF, endS, lwS]
    rw [NF_append p s]
    constructor
    · rintro ⟨h1, h2, h3, h4, h5, h6⟩; exact ⟨⟨h1, h2, h3, h4, h5⟩, h6⟩
    · rintro ⟨⟨h1, h2, h3, h4, h5⟩, h6⟩; exact ⟨h1, h2, h3, h4, h5, h6⟩
theorem pgS_append (p s : List S24) (n : Nat) : pgS (p ++ s) n = if pgS p n = 0 then pgS s n else pgS p n := by
  induction p with
  | nil => simp [pgS]
  | cons a p ih =>
    simp only [List.cons_append, pgS]
    split
    · rw [if_neg (wv_ne _)]
    · exact ih
theorem endS_append (p s : List S24) : ∀ e, endS e (p ++ s) = endS (endS e p) s := by
  induction p with
  | nil => intro e; rfl
  | cons a p ih => intro e; exact ih _
theorem lwS_append (p s : List S24) : ∀ e, lwS e (p ++ s) = lwS (lwS e p) s := by
  induction p with
  | nil => intro e; rfl
  | cons a p ih => intro e; exact ih _
theorem endS_ge : ∀ {l : List S24} {e : Int} {lw : Option Bool}, NF e lw l → e ≤ endS e l ∧ (∀ a ∈ l, a.f0 + a.f1 ≤ endS e l) ∧ (e ≤ 1024 → endS e l ≤ 1024)
  | [], e, _, _ => ⟨Int.le_refl _, (fun _ h => by cases h), fun h => h⟩
  | x :: r, e, lw, h => by
    obtain ⟨h1, h2, h3, h4, h5⟩ := h
    have := endS_ge h5
    refine ⟨by unfold endS; omega, fun a ha => ?_, fun _ => by unfold endS; exact this.2.2 h4⟩
    unfold endS
    rcases List.mem_cons.1 ha with rfl | ha
    · exact this.1
    · exact this.2.1 a ha
theorem pgS_end {l : List S24} {e : Int} {lw : Option Bool} (h : NF e lw l) {n : Nat} (hn : endS e l ≤ n) : pgS l n = 0 :=
  pgS_none (fun a ha hc => by have := (endS_ge h).2.1 a ha; omega)
theorem pgF_pgS : ∀ (l : List S24) (e : Int) (lw : Option Bool), NF e lw l → ∀ (f : Nat → Int) (n : Nat), (l.foldl (fun f a => fill f a.f0 a.f1 (wv a.f2)) f) n = if pgS l n = 0 then f n else pgS l n
  | [], _, _, _, f, n => by simp [pgS]
  | a :: r, e, lw, h, f, n => by
    obtain ⟨h1, h2, h3, h4, h5⟩ := h
    simp only [List.foldl_cons]
    rw [pgF_pgS r _ _ h5]
    have hs : pgS (a :: r) n = if a.f0 ≤ n ∧ (n : Int) < a.f0 + a.f1 then wv a.f2 else pgS r n := rfl
    rw [hs]
    by_cases hc : a.f0 ≤ n ∧ (n : Int) < a.f0 + a.f1
    · rw [pgS_lt h5 (by omega), if_pos rfl, if_pos hc, if_neg (wv_ne _)]
      unfold fill
      rw [if_pos hc]
    · rw [if_neg hc]
      unfold fill
      rw [if_neg hc]
theorem pgF_eq {l : List S24} {e : Int} {lw : Option Bool} (h : NF e lw l) (n : Nat) : pgF l n = pgS l n := by
  unfold pgF
  rw [pgF_pgS l e lw h]
  split
  · rename_i h0; exact h0.symm
  · rfl
theorem nil_or_snoc (p : List S24) : p = [] ∨ ∃ q x, p = q ++ [x] := by
  rcases List.eq_nil_or_concat p with h | ⟨q, x, h⟩
  · exact .inl h
  · exact .inr ⟨q, x, by rw [h, List.concat_eq_append]⟩
theorem NF_ok : ∀ (l p : List S24), (∀ i, i < (p ++ l).length → okAt (p ++ l) i = true) → NF (endS 0 p) (lwS none p) l
  | [], _, _ => trivial
  | a :: r, p, h => by
    have hi := h p.length (by simp)
    have hat : ar (p ++ a :: r) p.length = a := by simp [ar, List.getD_eq_getElem?_getD]
    unfold okAt at hi
    rw [hat, Bool.and_eq_true] at hi
    have hf := fitB_iff.1 hi.1
    have hrec := NF_ok r (p ++ [a]) (by simpa using h)
    rw [endS_append, lwS_append] at hrec
    refine ⟨?_, ?_, hf.2.2.1, by omega, hrec⟩
    · rcases nil_or_snoc p with rfl | ⟨q, x, rfl⟩
      · exact hf.1
      · have h2 := hi.2
        have hx : ar (q ++ [x] ++ a :: r) ((q ++ [x]).length - 1) = x := by simp [ar, List.getD_eq_getElem?_getD]
        rw [hx] at h2
        have h3 : gapB x a = true := by simpa using h2
        unfold gapB at h3
        have h4 := of_decide_eq_true h3
        rw [endS_append]
        simp only [endS]
        omega
    · rcases nil_or_snoc p with rfl | ⟨q, x, rfl⟩
      · intro _ h; cases h
      · have h2 := hi.2
        have hx : ar (q ++ [x] ++ a :: r) ((q ++ [x]).length - 1) = x := by simp [ar, List.getD_eq_getElem?_getD]
        rw [hx] at h2
        have h3 : gapB x a = true := by simpa using h2
        unfold gapB at h3
        have h4 := of_decide_eq_true h3
        rw [endS_append, lwS_append]
        simp only [endS, lwS]
        intro he hs
        injection hs with hs
        rcases h4 with h4 | h4
        · omega
        · exact h4.2 hs.symm
theorem ok_NF : ∀ (l p : List S24), NF 0 none p → NF (endS 0 p) (lwS none p) l → ∀ i, p.length ≤ i → i < (p ++ l).length → okAt (p ++ l) i = true
  | [], p, _, _, i, h1, h2 => by simp at h2; omega
  | a :: r, p, hp, h, i, h1, h2 => by
    obtain ⟨a1, a2, a3, a4, a5⟩ := h
    by_cases e : i = p.length
    · subst e
      have hat : ar (p ++ a :: r) p.length = a := by simp [ar, List.getD_eq_getElem?_getD]
      have h0 := (endS_ge hp).1
      unfold okAt
      rw [hat, fitB_iff.2 ⟨by omega, by omega, a3, by omega⟩, Bool.true_and]
      rcases nil_or_snoc p with rfl | ⟨q, x, rfl⟩
      · rfl
      · have hx : ar (q ++ [x] ++ a :: r) ((q ++ [x]).length - 1) = x := by simp [ar, List.getD_eq_getElem?_getD]
        rw [hx, Bool.or_eq_true]
        refine .inr (decide_eq_true ?_)
        rw [endS_append, lwS_append] at a2
        rw [endS_append] at a1
        simp only [endS, lwS] at a1 a2
        by_cases h3 : x.f0 + x.f1 = a.f0
        · exact .inr ⟨h3, fun hs => a2 h3 (by rw [hs])⟩
        · exact .inl (by omega)
    · have := ok_NF r (p ++ [a]) ((NF_append p [a] 0 none).2 ⟨hp, a1, a2, a3, a4, trivial⟩) (by rw [endS_append, lwS_append]; exact a5) i (by simp; omega) (by simpa using h2)
      simpa using this
theorem okB_iff (l : List S24) : okB l = true ↔ l.length ≤ 8 ∧ NF 0 none l := by
  constructor
  · intro h
    unfold okB at h
    rw [Bool.and_eq_true, List.all_eq_true] at h
    exact ⟨of_decide_eq_true h.1, NF_ok l [] (fun i hi => h.2 i (List.mem_range.2 (by simpa using hi)))⟩
  · rintro ⟨h1, h2⟩
    unfold okB
    rw [decide_eq_true h1, Bool.true_and, List.all_eq_true]
    intro i hi
    exact ok_NF l [] trivial h2 i (Nat.zero_le _) (by simpa using List.mem_range.1 hi)
theorem bumpL_snoc (g : List S24) (x : S24) : bumpL (g ++ [x]) = g ++ [bumpS x] := by
  simp [bumpL, List.getD_eq_getElem?_getD]
theorem pgS_in {a : S24} {r : List S24} {n : Nat} (h : a.f0 ≤ n ∧ (n : Int) < a.f0 + a.f1) : pgS (a :: r) n = wv a.f2 := if_pos h
theorem pgS_out {a : S24} {r : List S24} {n : Nat} (h : ¬ (a.f0 ≤ n ∧ (n : Int) < a.f0 + a.f1)) : pgS (a :: r) n = pgS r n := if_neg h
structure FI (what : Nat → Int) (n : Nat) (F : List S24) : Prop where
  nf : NF 0 none F
  pg : ∀ i, i < n → pgS F i = what i
  le : endS 0 F ≤ n
  on : lastF what n ≠ 0 → endS 0 F = n ∧ lwS none F = some (lastF what n == 2)
  off : lastF what n = 0 → endS 0 F < n ∨ lwS none F = none
theorem formL_FI (what : Nat → Int) (hw : ∀ n, what n = 0 ∨ what n = 1 ∨ what n = 2) : ∀ n, n ≤ 1024 → FI what n (formL what n)
  | 0, _ => ⟨trivial, fun i hi => by omega, Int.le_refl _, fun h => absurd rfl h, fun _ => .inr rfl⟩
  | n + 1, hn => by
    have ih := formL_FI what hw n (by omega)
    have hle := ih.le
    have hl : lastF what (n + 1) = what n := rfl
    by_cases h0 : what n = 0
    · have e : formL what (n + 1) = formL what n := by conv => lhs; unfold formL; rw [if_pos h0]
      rw [e]
      refine ⟨ih.nf, fun i hi => ?_, by omega, fun h => absurd (hl.trans h0) h, fun _ => .inl (by omega)⟩
      by_cases hi' : i < n
      · exact ih.pg i hi'
      · have : i = n := by omega
        subst this
        rw [h0]
        exact pgS_end ih.nf ih.le
    · have hwn := wv_of (hw n) h0
      by_cases h1 : what n = lastF what n
      · have e : formL what (n + 1) = bumpL (formL what n) := by conv => lhs; unfold formL; rw [if_neg h0, if_pos h1]
        have hon := ih.on (by rw [← h1]; exact h0)
        rcases nil_or_snoc (formL what n) with hF | ⟨g, x, hF⟩
        · have := formL_ne what n (by rw [← h1]; exact h0)
          rw [hF] at this
          simp at this
        · rw [e, hF, bumpL_snoc]
          rw [hF] at ih hon
          rw [endS_append, lwS_append] at hon
          simp only [endS, lwS] at hon
          have hnf := (NF_append g [x] 0 none).1 ih.nf
          obtain ⟨g1, x1, x2, x3, x4, _⟩ := hnf
          have hx2 : x.f2 = (what n == 2) := by have := hon.2; injection this with this; rw [this, ← h1]
          refine ⟨(NF_append g [bumpS x] 0 none).2 ⟨g1, x1, x2, by show 1 ≤ x.f1 + 1; omega, by show x.f0 + (x.f1 + 1) ≤ 1024; omega, trivial⟩, fun i hi => ?_, ?_, ?_, ?_⟩
          · rw [pgS_append]
            have hp := pgS_append g [x] i
            by_cases hi' : i < n
            · have h3 := ih.pg i hi'
              rw [hp] at h3
              rw [← h3]
              split
              · by_cases hc : x.f0 ≤ i ∧ (i : Int) < x.f0 + x.f1
                · rw [pgS_in hc, pgS_in (a := bumpS x) (show x.f0 ≤ i ∧ (i : Int) < x.f0 + (x.f1 + 1) by omega)]; rfl
                · rw [pgS_out hc, pgS_out (a := bumpS x) (show ¬ (x.f0 ≤ i ∧ (i : Int) < x.f0 + (x.f1 + 1)) by omega)]
              · rfl
            · have : i = n := by omega
              subst this
              have hg : pgS g i = 0 := pgS_end g1 (by omega)
              rw [if_pos hg, pgS_in (a := bumpS x) (show x.f0 ≤ i ∧ (i : Int) < x.f0 + (x.f1 + 1) by omega)]
              show wv x.f2 = what i
              rw [hx2, hwn]
          · rw [endS_append]; simp only [endS, bumpS]; omega
          · intro _
            rw [endS_append, lwS_append]
            simp only [endS, lwS, bumpS]
            exact ⟨by omega, by rw [hx2, hl]⟩
          · intro h; exact absurd (hl.symm.trans h) h0
      · have e : formL what (n + 1) = formL what n ++ [⟨n, 1, what n == 2⟩] := by conv => lhs; unfold formL; rw [if_neg h0, if_neg h1]
        rw [e]
        refine ⟨(NF_append _ _ 0 none).2 ⟨ih.nf, ih.le, fun he => ?_, by show (1 : Int) ≤ 1; omega, by show (n : Int) + 1 ≤ 1024; omega, trivial⟩, fun i hi => ?_, ?_, ?_, ?_⟩
        · show lwS none (formL what n) ≠ some (what n == 2)
          by_cases hz : lastF what n = 0
          · rcases ih.off hz with h | h
            · simp only at he; omega
            · rw [h]; exact fun h => by cases h
          · rw [(ih.on hz).2]
            intro hs
            injection hs with hs
            have h2 : lastF what n = 0 ∨ lastF what n = 1 ∨ lastF what n = 2 := by
              cases n with
              | zero => exact .inl rfl
              | succ m => exact hw m
            exact h1 (by rw [← hwn, ← hs, wv_of h2 hz])
        · rw [pgS_append]
          by_cases hi' : i < n
          · rw [ih.pg i hi']
            split
            · rename_i h3
              rw [h3]
              simp only [pgS]
              rw [if_neg (by omega)]
            · rfl
          · have : i = n := by omega
            subst this
            rw [if_pos (pgS_end ih.nf ih.le)]
            simp only [pgS]
            rw [if_pos (by omega), hwn]
        · rw [endS_append]; simp only [endS]; omega
        · intro _
          rw [endS_append, lwS_append]
          simp only [endS, lwS]
          exact ⟨by omega, by rw [hl]⟩
        · intro h; exact absurd (hl.symm.trans h) h0
theorem form_of {what : Nat → Int} (hw : ∀ n, what n = 0 ∨ what n = 1 ∨ what n = 2) {m : List S24} (hm : NF 0 none m) (hp : ∀ n, n < 1024 → pgS m n = what n) : formL what 1024 = m := by
  have h := formL_FI what hw 1024 (Nat.le_refl _)
  exact NF_uniq _ _ 0 none (Int.le_refl _) h.nf hm (fun n _ hn => (h.pg n hn).trans (hp n hn).symm)
def fewR (m : List S24) : List S24 × Int := if m.length > 8 then ([], 3) else (m, 0)
theorem formR_of {what : Nat → Int} (hw : ∀ n, what n = 0 ∨ what n = 1 ∨ what n = 2) {m : List S24} (hm : NF 0 none m) (hp : ∀ n, n < 1024 → pgS m n = what n) : formR what = fewR m := by
  unfold formR fewR
  rw [form_of hw hm hp]
theorem wv_cases (b : Bool) : wv b = 0 ∨ wv b = 1 ∨ wv b = 2 := by cases b <;> simp [wv]
theorem pgF_cases (l : List S24) (n : Nat) : pgF l n = 0 ∨ pgF l n = 1 ∨ pgF l n = 2 := by
  have : ∀ (l : List S24) (f : Nat → Int), (∀ n, f n = 0 ∨ f n = 1 ∨ f n = 2) → ∀ n, (l.foldl (fun f a => fill f a.f0 a.f1 (wv a.f2)) f) n = 0 ∨ (l.foldl (fun f a => fill f a.f0 a.f1 (wv a.f2)) f) n = 1 ∨ (l.foldl (fun f a => fill f a.f0 a.f1 (wv a.f2)) f) n = 2 := by
    intro l
    induction l with
    | nil => intro f h n; exact h n
    | cons a r ih =>
      intro f h n
      refine ih _ (fun m => ?_) n
      show fill f a.f0 a.f1 (wv a.f2) m = 0 ∨ fill f a.f0 a.f1 (wv a.f2) m = 1 ∨ fill f a.f0 a.f1 (wv a.f2) m = 2
      unfold fill
      split
      · exact wv_cases a.f2
      · exact h m
  exact this l _ (fun _ => .inl rfl) n
theorem both_cases (l m : List S24) (n : Nat) : both (pgF l) (pgF m) n = 0 ∨ both (pgF l) (pgF m) n = 1 ∨ both (pgF l) (pgF m) n = 2 := by
  unfold both mx
  split
  · exact pgF_cases m n
  · exact pgF_cases l n
theorem chg_cases {f : Nat → Int} (hf : ∀ n, f n = 0 ∨ f n = 1 ∨ f n = 2) {a b t : Int} (ht : t = 0 ∨ t = 1 ∨ t = 2) (n : Nat) : chg f a b t n = 0 ∨ chg f a b t n = 1 ∨ chg f a b t n = 2 := by
  unfold chg
  split
  · exact ht
  · exact hf n
def foldW : List S24 → List S24 → S24 → List S24 × S24
  | [], out, a => (out, a)
  | x :: r, out, a => if x.f2 = a.f2 ∧ x.f0 + x.f1 = a.f0 then foldW r out ⟨x.f0, x.f1 + a.f1, a.f2⟩
    else if x.f2 = a.f2 ∧ a.f0 + a.f1 = x.f0 then foldW r out ⟨a.f0, a.f1 + x.f1, a.f2⟩ else foldW r (out ++ [x]) a
def insW (out : List S24) (a : S24) : List S24 := out.takeWhile (fun x => decide (x.f0 < a.f0)) ++ a :: out.dropWhile (fun x => decide (x.f0 < a.f0))
def withP (l : List S24) (a : S24) : List S24 := insW (foldW l [] a).1 (foldW l [] a).2
theorem foldW_append : ∀ (p s out : List S24) (a : S24), foldW (p ++ s) out a = foldW s (foldW p out a).1 (foldW p out a).2
  | [], s, out, a => rfl
  | x :: p, s, out, a => by
    simp only [List.cons_append, foldW]
    split
    · exact foldW_append p s _ _
    · split
      · exact foldW_append p s _ _
      · exact foldW_append p s _ _
theorem foldW_out {a : S24} : ∀ (l out : List S24), (∀ x ∈ l, x.f0 + x.f1 ≠ a.f0 ∧ (x.f2 = a.f2 → a.f0 + a.f1 ≠ x.f0)) → foldW l out a = (out ++ l, a)
  | [], out, _ => by simp [foldW]
  | x :: r, out, h => by
    have hx := h x List.mem_cons_self
    unfold foldW
    rw [if_neg (fun hc => hx.1 hc.2), if_neg (fun hc => hx.2 hc.1 hc.2), foldW_out r _ (fun y hy => h y (List.mem_cons_of_mem _ hy))]
    simp
theorem insW_mid {p s : List S24} {a : S24} (hp : ∀ x ∈ p, x.f0 < a.f0) (hs : ∀ x ∈ s, a.f0 ≤ x.f0) : insW (p ++ s) a = p ++ a :: s := by
  unfold insW
  have h1 : ∀ (p : List S24), (∀ x ∈ p, x.f0 < a.f0) → (p ++ s).takeWhile (fun x => decide (x.f0 < a.f0)) = p ∧ (p ++ s).dropWhile (fun x => decide (x.f0 < a.f0)) = s := by
    intro p
    induction p with
    | nil =>
      intro _
      cases s with
      | nil => simp
      | cons y t =>
        have : decide (y.f0 < a.f0) = false := decide_eq_false (by have := hs y List.mem_cons_self; omega)
        simp [this]
    | cons x p ih =>
      intro h
      have hx : decide (x.f0 < a.f0) = true := decide_eq_true (h x List.mem_cons_self)
      have := ih (fun y hy => h y (List.mem_cons_of_mem _ hy))
      simp [List.takeWhile_cons, List.dropWhile_cons, hx, this.1, this.2]
  rw [(h1 p hp).1, (h1 p hp).2]
/-- l in two: what ends ahead of a, what begins behind it. -/
theorem split_at {l : List S24} {e : Int} {lw : Option Bool} {a : S24} (hl : NF e lw l) (ha : 1 ≤ a.f1) (hd : ∀ x ∈ l, ¬ (x.f0 < a.f0 + a.f1 ∧ a.f0 < x.f0 + x.f1)) :
    ∃ p s, l = p ++ s ∧ (∀ x ∈ p, x.f0 + x.f1 ≤ a.f0) ∧ (∀ x ∈ s, a.f0 + a.f1 ≤ x.f0) := by
  induction l generalizing e lw with
  | nil => exact ⟨[], [], rfl, (fun _ h => by cases h), (fun _ h => by cases h)⟩
  | cons x r ih =>
    obtain ⟨h1, h2, h3, h4, h5⟩ := hl
    have hx := hd x List.mem_cons_self
    by_cases hc : x.f0 + x.f1 ≤ a.f0
    · obtain ⟨p, s, e1, hp, hs⟩ := ih h5 (fun y hy => hd y (List.mem_cons_of_mem _ hy))
      refine ⟨x :: p, s, by rw [e1]; rfl, fun y hy => ?_, hs⟩
      rcases List.mem_cons.1 hy with rfl | hy
      · exact hc
      · exact hp y hy
    · refine ⟨[], x :: r, rfl, (fun _ h => by cases h), fun y hy => ?_⟩
      rcases List.mem_cons.1 hy with rfl | hy
      · omega
      · have := (NF_ge h5 y hy).1
        omega
theorem with_left {p : List S24} {a : S24} (hp : NF 0 none p) (ha : Fit a) (hle : ∀ x ∈ p, x.f0 + x.f1 ≤ a.f0) (out : List S24) :
    ∃ p' a', foldW p out a = (out ++ p', a') ∧ NF 0 none (p' ++ [a']) ∧ (∀ n, pgS (p' ++ [a']) n = pgS (p ++ [a]) n) ∧ a'.f0 + a'.f1 = a.f0 + a.f1 ∧ a'.f2 = a.f2 ∧ (∀ x ∈ p', x.f0 < a'.f0) := by
  obtain ⟨ha0, ha1, ha2⟩ := ha
  rcases nil_or_snoc p with rfl | ⟨q, x, rfl⟩
  · exact ⟨[], a, by simp [foldW], ⟨ha0, (fun _ h => by cases h), ha1, ha2, trivial⟩, fun n => rfl, rfl, rfl, (fun _ h => by cases h)⟩
  · have hx := hle x (by simp)
    obtain ⟨hq, x1, x2, x3, x4, _⟩ := (NF_append q [x] 0 none).1 hp
    have hqe : ∀ y ∈ q, y.f0 + y.f1 ≤ x.f0 := fun y hy => by have := (endS_ge hq).2.1 y hy; omega
    have hq1 : ∀ y ∈ q, 1 ≤ y.f1 := fun y hy => (NF_ge hq y hy).2.1
    rw [foldW_append, foldW_out q out (fun y hy => ⟨by have := hqe y hy; omega, fun _ => by have := hqe y hy; have := hq1 y hy; omega⟩)]
    simp only [foldW]
    by_cases hc : x.f2 = a.f2 ∧ x.f0 + x.f1 = a.f0
    · rw [if_pos hc]
      refine ⟨q, ⟨x.f0, x.f1 + a.f1, a.f2⟩, rfl, (NF_append q _ 0 none).2 ⟨hq, x1, ?_, by show 1 ≤ x.f1 + a.f1; omega, by show x.f0 + (x.f1 + a.f1) ≤ 1024; omega, trivial⟩, fun n => ?_, by show x.f0 + (x.f1 + a.f1) = _; omega, rfl, fun y hy => by show y.f0 < x.f0; have := hqe y hy; have := hq1 y hy; omega⟩
      · show endS 0 q = x.f0 → lwS none q ≠ some a.f2
        rw [← hc.1]; exact x2
      · rw [List.append_assoc, pgS_append, pgS_append q]
        split
        · by_cases h1 : x.f0 ≤ n ∧ (n : Int) < x.f0 + x.f1
          · rw [pgS_in (a := ⟨x.f0, x.f1 + a.f1, a.f2⟩) (show x.f0 ≤ n ∧ (n : Int) < x.f0 + (x.f1 + a.f1) by omega)]
            show _ = pgS (x :: [a]) n
            rw [pgS_in h1, hc.1]
          · show _ = pgS (x :: [a]) n
            rw [pgS_out h1]
            by_cases h2 : a.f0 ≤ n ∧ (n : Int) < a.f0 + a.f1
            · rw [pgS_in h2, pgS_in (a := ⟨x.f0, x.f1 + a.f1, a.f2⟩) (show x.f0 ≤ n ∧ (n : Int) < x.f0 + (x.f1 + a.f1) by omega)]
            · rw [pgS_out h2, pgS_out (a := ⟨x.f0, x.f1 + a.f1, a.f2⟩) (show ¬ (x.f0 ≤ n ∧ (n : Int) < x.f0 + (x.f1 + a.f1)) by omega)]
        · rfl
    · rw [if_neg hc, if_neg (fun h => by omega)]
      refine ⟨q ++ [x], a, by simp, (NF_append (q ++ [x]) [a] 0 none).2 ⟨hp, ?_, ?_, ha1, ha2, trivial⟩, fun n => rfl, rfl, rfl, fun y hy => by have := hle y hy; have := (NF_ge hp y hy).2.1; omega⟩
      · rw [endS_append]; exact hx
      · rw [endS_append, lwS_append]
        show x.f0 + x.f1 = a.f0 → some x.f2 ≠ some a.f2
        intro h1 h2
        injection h2 with h2
        exact hc ⟨h2, h1⟩
theorem with_right {P s : List S24} {A : S24} {e : Int} {lw : Option Bool} (hP : NF 0 none (P ++ [A])) (hs : NF e lw s) (hge : ∀ x ∈ s, A.f0 + A.f1 ≤ x.f0) (hlt : ∀ x ∈ P, x.f0 < A.f0) (out : List S24) :
    ∃ s' A', foldW s out A = (out ++ s', A') ∧ NF 0 none (P ++ A' :: s') ∧ (∀ n, pgS (P ++ A' :: s') n = pgS (P ++ A :: s) n) ∧ A'.f0 = A.f0 ∧ (∀ x ∈ s', A'.f0 ≤ x.f0) := by
  obtain ⟨hP0, A1, A2, A3, A4, _⟩ := (NF_append P [A] 0 none).1 hP
  cases s with
  | nil => exact ⟨[], A, by simp [foldW], by simpa using hP, fun n => rfl, rfl, (fun _ h => by cases h)⟩
  | cons y t =>
    obtain ⟨y1, y2, y3, y4, y5⟩ := hs
    have hy := hge y List.mem_cons_self
    have ht : ∀ z ∈ t, y.f0 + y.f1 ≤ z.f0 := fun z hz => (NF_ge y5 z hz).1
    unfold foldW
    rw [if_neg (fun h => by omega)]
    by_cases hc : y.f2 = A.f2 ∧ A.f0 + A.f1 = y.f0
    · rw [if_pos hc]
      have hz : ∀ z ∈ t, z.f0 + z.f1 ≠ A.f0 ∧ (z.f2 = A.f2 → A.f0 + (A.f1 + y.f1) ≠ z.f0) := fun z hz => by
        have h1 := ht z hz
        have h2 := (NF_ge y5 z hz).2.1
        refine ⟨by omega, fun hw he => ?_⟩
        cases t with
        | nil => cases hz
        | cons u v =>
          obtain ⟨u1, u2, u3, u4, u5⟩ := y5
          rcases List.mem_cons.1 hz with rfl | hz
          · exact u2 (by omega) (by rw [hw, hc.1])
          · have := (NF_ge u5 z hz).1; omega
      rw [foldW_out (a := ⟨A.f0, A.f1 + y.f1, A.f2⟩) t out hz]
      refine ⟨t, ⟨A.f0, A.f1 + y.f1, A.f2⟩, rfl, (NF_append P _ 0 none).2 ⟨hP0, A1, A2, by show 1 ≤ A.f1 + y.f1; omega, by show A.f0 + (A.f1 + y.f1) ≤ 1024; omega, ?_⟩, fun n => ?_, rfl, fun z hz => by show A.f0 ≤ z.f0; have := ht z hz; omega⟩
      · show NF (A.f0 + (A.f1 + y.f1)) (some A.f2) t
        rw [show A.f0 + (A.f1 + y.f1) = y.f0 + y.f1 by omega, ← hc.1]
        exact y5
      · rw [pgS_append, pgS_append P]
        split
        · by_cases h1 : A.f0 ≤ n ∧ (n : Int) < A.f0 + A.f1
          · rw [pgS_in h1, pgS_in (a := ⟨A.f0, A.f1 + y.f1, A.f2⟩) (show A.f0 ≤ n ∧ (n : Int) < A.f0 + (A.f1 + y.f1) by omega)]
          · rw [pgS_out h1]
            by_cases h2 : y.f0 ≤ n ∧ (n : Int) < y.f0 + y.f1
            · rw [pgS_in h2, pgS_in (a := ⟨A.f0, A.f1 + y.f1, A.f2⟩) (show A.f0 ≤ n ∧ (n : Int) < A.f0 + (A.f1 + y.f1) by omega), hc.1]
            · rw [pgS_out h2, pgS_out (a := ⟨A.f0, A.f1 + y.f1, A.f2⟩) (show ¬ (A.f0 ≤ n ∧ (n : Int) < A.f0 + (A.f1 + y.f1)) by omega)]
        · rfl
    · rw [if_neg hc, foldW_out t (out ++ [y]) (fun z hz => by have h1 := ht z hz; have h2 := (NF_ge y5 z hz).2.1; exact ⟨by omega, fun _ => by omega⟩)]
      refine ⟨y :: t, A, by simp, (NF_append P _ 0 none).2 ⟨hP0, A1, A2, A3, A4, hy, fun he hw => ?_, y3, y4, y5⟩, fun n => rfl, rfl, fun z hz => ?_⟩
      · injection hw with hw
        exact hc ⟨hw.symm, he⟩
      · have := hge z hz; omega
theorem with_spec {l : List S24} {a : S24} (hl : NF 0 none l) (ha : Fit a) (hd : ∀ x ∈ l, ¬ (x.f0 < a.f0 + a.f1 ∧ a.f0 < x.f0 + x.f1)) :
    NF 0 none (withP l a) ∧ ∀ n : Nat, pgS (withP l a) n = if a.f0 ≤ n ∧ (n : Int) < a.f0 + a.f1 then wv a.f2 else pgS l n := by
  obtain ⟨p, s, rfl, hp, hs⟩ := split_at hl ha.2.1 hd
  obtain ⟨hp0, hs0⟩ := (NF_append p s 0 none).1 hl
  obtain ⟨p', a', e1, n1, g1, end1, w1, lt1⟩ := with_left hp0 ha hp []
  obtain ⟨s', A', e2, n2, g2, st2, ge2⟩ := with_right n1 hs0 (fun x hx => by rw [end1]; exact hs x hx) lt1 p'
  have hW : withP (p ++ s) a = p' ++ A' :: s' := by
    unfold withP
    rw [foldW_append, e1]
    simp only [List.nil_append]
    rw [e2]
    exact insW_mid (fun x hx => by rw [st2]; exact lt1 x hx) ge2
  rw [hW]
  refine ⟨n2, fun n => ?_⟩
  rw [g2 n, show p' ++ a' :: s = (p' ++ [a']) ++ s by simp, pgS_append, g1 n, ← pgS_append]
  rw [show p ++ [a] ++ s = p ++ a :: s by simp, pgS_append, pgS_append]
  by_cases hc : a.f0 ≤ n ∧ (n : Int) < a.f0 + a.f1
  · rw [pgS_in hc, if_pos hc, pgS_none (l := p) (fun x hx h => by have := hp x hx; omega), if_pos rfl]
  · rw [pgS_out hc, if_neg hc]
theorem rcheck_l0 (l : List S24) (hl : l.length ≤ 8) : ∀ (d k i : Nat), i + d = l.length → d < k → (∀ j, j < i → okAt l j = true) → prioryref14_Check.l0 k l i = some (chk l) := by
  intro d
  induction d with
  | zero =>
    intro k i hi hk hj
    obtain ⟨k, rfl⟩ : ∃ m, k = m + 1 := ⟨k - 1, by omega⟩
    simp only [prioryref14_Check.l0]
    rw [if_neg (by omega)]
    have : okB l = true := by
      unfold okB
      rw [decide_eq_true hl, Bool.true_and, List.all_eq_true]
      intro j hj2; exact hj j (by have := List.mem_range.1 hj2; omega)
    unfold chk; rw [if_pos this]
  | succ d ih =>
    intro k i hi hk hj
    obtain ⟨k, rfl⟩ : ∃ m, k = m + 1 := ⟨k - 1, by omega⟩
    simp only [prioryref14_Check.l0]
    have hlt : (i : Int) < (l.length : Int) := by omega
    rw [if_pos hlt, if_pos (by omega), rfits_eq, rd_ar, Option.bind_some]
    have bad : okAt l i = false → chk l = 2 := by
      intro h
      have : okB l = false := by
        unfold okB
        rw [decide_eq_true hl, Bool.true_and, List.all_eq_false]
        exact ⟨i, List.mem_range.2 (by omega), by rw [h]; decide⟩
      unfold chk; rw [this]; rfl
    have good : okAt l i = true → prioryref14_Check.l0 k l (wrap64 ((i : Int) + 1)) = some (chk l) := by
      intro h
      rw [wrap_id (by omega)]
      refine ih k (i + 1) (by omega) (by omega) (fun j hj2 => ?_)
      by_cases e : j = i
      · rw [e]; exact h
      · exact hj j (by omega)
    cases hf : fitB (ar l i).f0 (ar l i).f1 with
    | false =>
      rw [if_neg (by decide), bad (by unfold okAt; rw [hf]; rfl)]
    | true =>
      rw [if_pos rfl]
      by_cases h0 : i = 0
      · rw [if_neg (by omega)]
        exact good (by unfold okAt; rw [hf, h0]; rfl)
      · rw [if_pos (by omega)]
        have hw : wrap64 ((i : Int) - 1) = ((i - 1 : Nat) : Int) := by rw [wrap_id (by omega)]; omega
        rw [hw, rd_ar, if_pos (by omega), if_pos (by omega)]
        have hp := hj (i - 1) (by omega)
        unfold okAt at hp
        rw [Bool.and_eq_true] at hp
        have hp1 := fitB_iff.1 hp.1
        rw [wrap_id (x := (ar l (i - 1)).f0 + (ar l (i - 1)).f1) (by omega)]
        have hk0 : (i == 0) = false := beq_eq_false_iff_ne.2 h0
        have hok : okAt l i = gapB (ar l (i - 1)) (ar l i) := by unfold okAt; rw [hf, hk0]; simp
        by_cases g1 : (ar l i).f0 < (ar l (i - 1)).f0 + (ar l (i - 1)).f1
        · rw [if_pos g1, bad (by rw [hok]; unfold gapB; exact decide_eq_false (by omega))]
        · rw [if_neg g1]
          by_cases g2 : (ar l i).f0 = (ar l (i - 1)).f0 + (ar l (i - 1)).f1
          · rw [if_pos g2]
            cases hb : ((ar l i).f2 == (ar l (i - 1)).f2) with
            | true =>
              rw [if_pos rfl, bad (by rw [hok]; unfold gapB; exact decide_eq_false (fun h => by rcases h with h | h; omega; exact h.2 (beq_iff_eq.1 hb)))]
            | false =>
              rw [if_neg (by decide)]
              exact good (by rw [hok]; unfold gapB; exact decide_eq_true (.inr ⟨g2.symm, fun e => by rw [e] at hb; simp at hb⟩))
          · rw [if_neg g2]
            exact good (by rw [hok]; unfold gapB; exact decide_eq_true (.inl (by omega)))
theorem rcheck_tot (l : List S24) (k : Nat) (hk : 9 ≤ k) : prioryref14_Check.f k l = some (chk l) := by
  unfold prioryref14_Check.f
  by_cases h : (l.length : Int) > 8
  · rw [if_pos h]
    have : okB l = false := by unfold okB; rw [decide_eq_false (by omega)]; rfl
    unfold chk; rw [this]; rfl
  · rw [if_neg h]
    exact rcheck_l0 l (by omega) l.length k 0 (by omega) (by omega) (fun j hj => by omega)
theorem chk_cases (l : List S24) : (okB l = true ∧ chk l = 0) ∨ (okB l = false ∧ chk l = 2) := by
  unfold chk
  cases okB l with
  | true => exact .inl ⟨rfl, rfl⟩
  | false => exact .inr ⟨rfl, rfl⟩
theorem drop_cons {l : List S24} {i : Nat} (h : i < l.length) : l.drop i = ar l i :: l.drop (i + 1) := by
  rw [List.drop_eq_getElem_cons h]
  simp [ar, List.getD_eq_getElem?_getD, h]
theorem ar_mem {l : List S24} {i : Nat} (h : i < l.length) : ar l i ∈ l := by
  have : ar l i = l[i] := by simp [ar, List.getD_eq_getElem?_getD, h]
  rw [this]; exact List.getElem_mem h
theorem take_tw {l : List S24} {a : S24} {m : Nat} (h1 : ∀ i, i < m → (ar l i).f0 < a.f0) (h2 : m < l.length → ¬ (ar l m).f0 < a.f0) (hm : m ≤ l.length) :
    l.takeWhile (fun x => decide (x.f0 < a.f0)) = l.take m ∧ l.dropWhile (fun x => decide (x.f0 < a.f0)) = l.drop m := by
  induction l generalizing m with
  | nil => simp
  | cons x r ih =>
    cases m with
    | zero =>
      have := h2 (by simp)
      have hx : decide (x.f0 < a.f0) = false := decide_eq_false (by simpa [ar] using this)
      simp [List.takeWhile_cons, List.dropWhile_cons, hx]
    | succ m =>
      have hx : decide (x.f0 < a.f0) = true := decide_eq_true (by simpa [ar] using h1 0 (by omega))
      have := ih (m := m) (fun i hi => by simpa [ar] using h1 (i + 1) (by omega)) (fun hm2 => by simpa [ar] using h2 (by simpa using hm2)) (by simpa using hm)
      simp [List.takeWhile_cons, List.dropWhile_cons, hx, this.1, this.2]
theorem with_l1 (out : List S24) (a : S24) (hlen : out.length ≤ 1000) : ∀ (d k i : Nat), i + d = out.length → d < k → (∀ j, j < i → (ar out j).f0 < a.f0) → prioryref14_with.l1 k out i a.f0 a.f1 a.f2 = some (insW out a) := by
  intro d
  induction d with
  | zero =>
    intro k i hi hk hj
    obtain ⟨k, rfl⟩ : ∃ m, k = m + 1 := ⟨k - 1, by omega⟩
    simp only [prioryref14_with.l1]
    have ht := take_tw (a := a) (m := i) hj (fun h => by omega) (by omega)
    have htn : ((i : Int)).toNat = i := Int.toNat_natCast i
    rw [if_neg (by omega)]
    simp only [Option.bind_some, htn]
    rw [if_pos (by omega), if_pos (by omega), if_pos (by simp; omega)]
    try simp only [Option.bind_some]
    rw [if_pos (by simp; omega)]
    try simp only [Option.bind_some]
    rw [if_pos (by simp; omega)]
    unfold insW
    rw [ht.1, ht.2]
    simp
  | succ d ih =>
    intro k i hi hk hj
    obtain ⟨k, rfl⟩ : ∃ m, k = m + 1 := ⟨k - 1, by omega⟩
    simp only [prioryref14_with.l1]
    have htn : ((i : Int)).toNat = i := Int.toNat_natCast i
    rw [if_pos (by omega), if_pos (by omega), rd_ar]
    by_cases h : (ar out i).f0 < a.f0
    · rw [if_pos h, wrap_id (by omega)]
      exact ih k (i + 1) (by omega) (by omega) (fun j hj2 => by
        by_cases e : j = i
        · rw [e]; exact h
        · exact hj j (by omega))
    · rw [if_neg h]
      have ht := take_tw (a := a) (m := i) hj (fun _ => h) (by omega)
      simp only [Option.bind_some, htn]
      rw [if_pos (by omega), if_pos (by simp; omega)]
      try simp only [Option.bind_some]
      rw [if_pos (by simp; omega)]
      try simp only [Option.bind_some]
      rw [if_pos (by simp; omega)]
      unfold insW
      rw [ht.1, ht.2]
      simp
structure AsideE (p : Prop) : Prop where
  out : p
theorem j1_f (k : Nat) (x0 x5 : List S24) (x6 : Int) (a b : Int) (c : Bool) (h0 : 0 ≤ x6) (h1 : x6 < (x0.length : Int)) (h2 : x5.length < 5864062014805) : prioryref14_with.j1 (k + 1) x0 x5 x6 false a b c =
   (if (((rd_T24 x0 x6).f2) == c) = true then (if (RowKit.wrap64 (a + b)) = ((rd_T24 x0 x6).f0) then (prioryref14_with.l0 k x0 x5 (RowKit.wrap64 (x6 + 1)) a (RowKit.wrap64 (b + ((rd_T24 x0 x6).f1))) c) else ((prioryref14_with.l0 k x0 (x5 ++ [(⟨(rd_T24 x0 x6).f0, (rd_T24 x0 x6).f1, (rd_T24 x0 x6).f2⟩ : S24)]) (RowKit.wrap64 (x6 + 1)) a b c))) else ((prioryref14_with.l0 k x0 (x5 ++ [(⟨(rd_T24 x0 x6).f0, (rd_T24 x0 x6).f1, (rd_T24 x0 x6).f2⟩ : S24)]) (RowKit.wrap64 (x6 + 1)) a b c))) := by
  unfold prioryref14_with.j1
  rw [if_neg (show ¬ (false = true) by decide)]
  simp only [h0, if_true, h1, h2]
theorem j1_t (k : Nat) (x0 x5 : List S24) (x6 : Int) (a b : Int) (c : Bool) (h0 : 0 ≤ x6) (h1 : x6 < (x0.length : Int)) : prioryref14_with.j1 (k + 1) x0 x5 x6 true a b c =
   prioryref14_with.l0 k x0 x5 (RowKit.wrap64 (x6 + 1)) ((rd_T24 x0 x6).f0) (RowKit.wrap64 (((rd_T24 x0 x6).f1) + b)) c := by
  unfold prioryref14_with.j1
  rw [if_pos rfl]
  simp only [h0, if_true, h1]
theorem with_l0 (l : List S24) (hf : ∀ x ∈ l, Fit x) (hlen : l.length ≤ 500) : ∀ (d k i : Nat) (out : List S24) (a : S24), i + d = l.length → 2 * d + l.length + 2 < k → out.length ≤ i → Fit a →
    prioryref14_with.l0 k l out i a.f0 a.f1 a.f2 = some (insW (foldW (l.drop i) out a).1 (foldW (l.drop i) out a).2) := by
  intro d
  induction d with
  | zero =>
    intro k i out a hi hk ho ha
    obtain ⟨k, rfl⟩ : ∃ m, k = m + 1 := ⟨k - 1, by omega⟩
    simp only [prioryref14_with.l0]
    rw [if_neg (by omega), List.drop_eq_nil_of_le (by omega)]
    exact with_l1 out a (by omega) out.length k 0 (by omega) (by omega) (fun j hj => by omega)
  | succ d ih =>
    intro k i out a hi hk ho ha
    obtain ⟨k, rfl⟩ : ∃ m, k = m + 2 := ⟨k - 2, by omega⟩
    have hil : i < l.length := by omega
    obtain ⟨x0, x1, x2⟩ := hf _ (ar_mem hil)
    obtain ⟨a0, a1, a2⟩ := ha
    simp only [prioryref14_with.l0]
    rw [if_pos (by omega), if_pos (by omega), rd_ar, drop_cons hil]
    have hlt : (i : Int) < (l.length : Int) := by omega
    have hi0 : (0 : Int) ≤ (i : Int) := by omega
    have hw1 := AsideE.mk (show wrap64 ((ar l i).f0 + (ar l i).f1) = (ar l i).f0 + (ar l i).f1 from wrap_id (by omega))
    have hw2 := AsideE.mk (show wrap64 (a.f0 + a.f1) = a.f0 + a.f1 from wrap_id (by omega))
    have hw3 := AsideE.mk (show wrap64 ((i : Int) + 1) = ((i + 1 : Nat) : Int) from by rw [wrap_id (by omega)]; omega)
    have hj1 := AsideE.mk (fun b c d => j1_t k l out i b c d hi0 hlt)
    have hj2 := AsideE.mk (fun b c d => j1_f k l out i b c d hi0 hlt (by omega))
    have heta : (⟨(ar l i).f0, (ar l i).f1, (ar l i).f2⟩ : S24) = ar l i := rfl
    unfold foldW
    by_cases hs : (ar l i).f2 = a.f2
    · rw [if_pos (beq_iff_eq.2 hs), hw1.out]
      by_cases h1 : (ar l i).f0 + (ar l i).f1 = a.f0
      · rw [show ((ar l i).f0 + (ar l i).f1 == a.f0) = true from beq_iff_eq.2 h1, hj1.out, hw3.out, rd_ar, if_pos ⟨hs, h1⟩, wrap_id (x := (ar l i).f1 + a.f1) (by omega)]
        exact ih k (i + 1) out ⟨(ar l i).f0, (ar l i).f1 + a.f1, a.f2⟩ (by omega) (by omega) (by omega) ⟨x0, by show 1 ≤ (ar l i).f1 + a.f1; omega, by show (ar l i).f0 + ((ar l i).f1 + a.f1) ≤ 1024; omega⟩
      · rw [show ((ar l i).f0 + (ar l i).f1 == a.f0) = false from beq_eq_false_iff_ne.2 h1, hj2.out, rd_ar, if_pos (beq_iff_eq.2 hs), hw2.out, if_neg (show ¬ ((ar l i).f2 = a.f2 ∧ (ar l i).f0 + (ar l i).f1 = a.f0) from fun h => h1 h.2)]
        by_cases h2 : a.f0 + a.f1 = (ar l i).f0
        · rw [if_pos h2, if_pos ⟨hs, h2⟩, hw3.out, wrap_id (x := a.f1 + (ar l i).f1) (by omega)]
          exact ih k (i + 1) out ⟨a.f0, a.f1 + (ar l i).f1, a.f2⟩ (by omega) (by omega) (by omega) ⟨a0, by show 1 ≤ a.f1 + (ar l i).f1; omega, by show a.f0 + (a.f1 + (ar l i).f1) ≤ 1024; omega⟩
        · rw [if_neg h2, if_neg (fun h => h2 h.2), hw3.out, heta]
          exact ih k (i + 1) (out ++ [ar l i]) a (by omega) (by omega) (by simp; omega) ⟨a0, a1, a2⟩
    · rw [if_neg (by rw [beq_iff_eq]; exact hs), hj2.out, rd_ar, if_neg (by rw [beq_iff_eq]; exact hs), hw3.out, heta, if_neg (fun h => hs h.1), if_neg (fun h => hs h.1)]
      exact ih k (i + 1) (out ++ [ar l i]) a (by omega) (by omega) (by simp; omega) ⟨a0, a1, a2⟩
theorem with_tot (l : List S24) (a : S24) (hf : ∀ x ∈ l, Fit x) (hlen : l.length ≤ 500) (ha : Fit a) (k : Nat) (hk : 2000 ≤ k) : prioryref14_with.f k l a.f0 a.f1 a.f2 = some (withP l a) := by
  unfold prioryref14_with.f
  have := with_l0 l hf hlen l.length k 0 [] a (by omega) (by omega) (by simp) ha
  simpa [withP] using this
theorem few_eq (l : List S24) : prioryref14_few.f l = some (fewR l) := by
  unfold prioryref14_few.f fewR
  by_cases h : l.length > 8
  · rw [if_pos (by omega), if_pos h]
  · rw [if_neg (by omega), if_neg h]
def outP (a : S24) (b m : Int) : List S24 :=
  (if a.f0 < b then [⟨a.f0, mn (a.f0 + a.f1) b - a.f0, a.f2⟩] else []) ++ (if a.f0 + a.f1 > b + m then [⟨mx a.f0 (b + m), a.f0 + a.f1 - mx a.f0 (b + m), a.f2⟩] else [])
def lessP : List S24 → Int → Int → List S24
  | [], _, _ => []
  | a :: r, b, m => outP a b m ++ lessP r b m
theorem NF_weak : ∀ {l : List S24} {e e' : Int} {lw lw' : Option Bool}, NF e lw l → e' < e → NF e' lw' l
  | [], _, _, _, _, _, _ => trivial
  | a :: r, e, e', lw, lw', ⟨h1, h2, h3, h4, h5⟩, h => ⟨by omega, (fun he => by omega), h3, h4, h5⟩
theorem less_spec : ∀ (l : List S24) (e : Int) (lw : Option Bool) (b m : Int), 1 ≤ m → NF e lw l → NF e lw (lessP l b m) ∧ ∀ n : Nat, pgS (lessP l b m) n = if b ≤ n ∧ (n : Int) < b + m then 0 else pgS l n
  | [], e, lw, b, m, _, _ => ⟨trivial, fun n => by simp [lessP, pgS]⟩
  | a :: r, e, lw, b, m, hm, ⟨h1, h2, h3, h4, h5⟩ => by
    obtain ⟨i1, i2⟩ := less_spec r _ _ b m hm h5
    have pg : ∀ n : Nat, pgS (lessP (a :: r) b m) n = if pgS (outP a b m) n = 0 then pgS (lessP r b m) n else pgS (outP a b m) n := fun n => pgS_append _ _ n
    have hcons : ∀ n : Nat, pgS (a :: r) n = if a.f0 ≤ n ∧ (n : Int) < a.f0 + a.f1 then wv a.f2 else pgS r n := fun n => rfl
    show NF e lw (outP a b m ++ lessP r b m) ∧ _
    by_cases c1 : a.f0 < b
    · by_cases c2 : a.f0 + a.f1 > b + m
      · have ho : outP a b m = [⟨a.f0, b - a.f0, a.f2⟩, ⟨b + m, a.f0 + a.f1 - (b + m), a.f2⟩] := by
          unfold outP mn mx
          rw [if_pos c1, if_pos c2, if_pos (by omega), if_pos (by omega)]; rfl
        refine ⟨?_, fun n => ?_⟩
        · rw [ho]
          refine ⟨h1, h2, by show 1 ≤ b - a.f0; omega, by show a.f0 + (b - a.f0) ≤ 1024; omega, by show a.f0 + (b - a.f0) ≤ b + m; omega, fun he => by simp only at he; omega, by show 1 ≤ a.f0 + a.f1 - (b + m); omega, by show b + m + (a.f0 + a.f1 - (b + m)) ≤ 1024; omega, ?_⟩
          show NF (b + m + (a.f0 + a.f1 - (b + m))) (some a.f2) _
          rw [show b + m + (a.f0 + a.f1 - (b + m)) = a.f0 + a.f1 by omega]
          exact i1
        · rw [pg n, ho, i2 n, hcons n]
          by_cases k1 : a.f0 ≤ n ∧ (n : Int) < b
          · rw [pgS_in (a := ⟨a.f0, b - a.f0, a.f2⟩) (show a.f0 ≤ n ∧ (n : Int) < a.f0 + (b - a.f0) by omega), if_neg (wv_ne _), if_neg (by omega), if_pos (by omega)]
          · rw [pgS_out (a := ⟨a.f0, b - a.f0, a.f2⟩) (show ¬ (a.f0 ≤ n ∧ (n : Int) < a.f0 + (b - a.f0)) by omega)]
            by_cases k2 : b + m ≤ n ∧ (n : Int) < a.f0 + a.f1
            · rw [pgS_in (a := ⟨b + m, a.f0 + a.f1 - (b + m), a.f2⟩) (show b + m ≤ n ∧ (n : Int) < b + m + (a.f0 + a.f1 - (b + m)) by omega), if_neg (wv_ne _), if_neg (by omega), if_pos (by omega)]
            · rw [pgS_out (a := ⟨b + m, a.f0 + a.f1 - (b + m), a.f2⟩) (show ¬ (b + m ≤ n ∧ (n : Int) < b + m + (a.f0 + a.f1 - (b + m))) by omega)]
              show (if (0 : Int) = 0 then _ else _) = _
              rw [if_pos rfl]
              by_cases k3 : b ≤ n ∧ (n : Int) < b + m
              · rw [if_pos k3, if_pos k3]
              · rw [if_neg k3, if_neg k3, if_neg (by omega)]
      · have ho : outP a b m = [⟨a.f0, mn (a.f0 + a.f1) b - a.f0, a.f2⟩] := by
          unfold outP
          rw [if_pos c1, if_neg c2]; rfl
        have hmn : mn (a.f0 + a.f1) b = b ∧ b < a.f0 + a.f1 ∨ mn (a.f0 + a.f1) b = a.f0 + a.f1 ∧ a.f0 + a.f1 ≤ b := by unfold mn; split <;> omega
        refine ⟨?_, fun n => ?_⟩
        · rw [ho]
          refine ⟨h1, h2, by show 1 ≤ mn (a.f0 + a.f1) b - a.f0; omega, by show a.f0 + (mn (a.f0 + a.f1) b - a.f0) ≤ 1024; omega, ?_⟩
          show NF (a.f0 + (mn (a.f0 + a.f1) b - a.f0)) (some a.f2) _
          rcases hmn with ⟨q1, q2⟩ | ⟨q1, q2⟩
          · exact NF_weak i1 (by omega)
          · rw [show a.f0 + (mn (a.f0 + a.f1) b - a.f0) = a.f0 + a.f1 by omega]
            exact i1
        · rw [pg n, ho, i2 n, hcons n]
          by_cases k1 : a.f0 ≤ n ∧ (n : Int) < mn (a.f0 + a.f1) b
          · rw [pgS_in (a := ⟨a.f0, mn (a.f0 + a.f1) b - a.f0, a.f2⟩) (show a.f0 ≤ n ∧ (n : Int) < a.f0 + (mn (a.f0 + a.f1) b - a.f0) by omega), if_neg (wv_ne _), if_neg (by omega), if_pos (by omega)]
          · rw [pgS_out (a := ⟨a.f0, mn (a.f0 + a.f1) b - a.f0, a.f2⟩) (show ¬ (a.f0 ≤ n ∧ (n : Int) < a.f0 + (mn (a.f0 + a.f1) b - a.f0)) by omega)]
            show (if (0 : Int) = 0 then _ else _) = _
            rw [if_pos rfl]
            by_cases k3 : b ≤ n ∧ (n : Int) < b + m
            · rw [if_pos k3, if_pos k3]
            · rw [if_neg k3, if_neg k3, if_neg (by omega)]
    · by_cases c2 : a.f0 + a.f1 > b + m
      · have ho : outP a b m = [⟨mx a.f0 (b + m), a.f0 + a.f1 - mx a.f0 (b + m), a.f2⟩] := by
          unfold outP
          rw [if_neg c1, if_pos c2]; rfl
        have hmx : mx a.f0 (b + m) = b + m ∧ a.f0 < b + m ∨ mx a.f0 (b + m) = a.f0 ∧ b + m ≤ a.f0 := by unfold mx; split <;> omega
        refine ⟨?_, fun n => ?_⟩
        · rw [ho]
          refine ⟨by show e ≤ mx a.f0 (b + m); omega, fun he => ?_, by show 1 ≤ a.f0 + a.f1 - mx a.f0 (b + m); omega, by show mx a.f0 (b + m) + (a.f0 + a.f1 - mx a.f0 (b + m)) ≤ 1024; omega, ?_⟩
          · simp only at he
            exact h2 (by omega)
          · show NF (mx a.f0 (b + m) + (a.f0 + a.f1 - mx a.f0 (b + m))) (some a.f2) _
            rw [show mx a.f0 (b + m) + (a.f0 + a.f1 - mx a.f0 (b + m)) = a.f0 + a.f1 by omega]
            exact i1
        · rw [pg n, ho, i2 n, hcons n]
          by_cases k1 : mx a.f0 (b + m) ≤ n ∧ (n : Int) < a.f0 + a.f1
          · rw [pgS_in (a := ⟨mx a.f0 (b + m), a.f0 + a.f1 - mx a.f0 (b + m), a.f2⟩) (show mx a.f0 (b + m) ≤ n ∧ (n : Int) < mx a.f0 (b + m) + (a.f0 + a.f1 - mx a.f0 (b + m)) by omega), if_neg (wv_ne _), if_neg (by omega), if_pos (by omega)]
          · rw [pgS_out (a := ⟨mx a.f0 (b + m), a.f0 + a.f1 - mx a.f0 (b + m), a.f2⟩) (show ¬ (mx a.f0 (b + m) ≤ n ∧ (n : Int) < mx a.f0 (b + m) + (a.f0 + a.f1 - mx a.f0 (b + m))) by omega)]
            show (if (0 : Int) = 0 then _ else _) = _
            rw [if_pos rfl]
            by_cases k3 : b ≤ n ∧ (n : Int) < b + m
            · rw [if_pos k3, if_pos k3]
            · rw [if_neg k3, if_neg k3, if_neg (by omega)]
      · have ho : outP a b m = [] := by
          unfold outP
          rw [if_neg c1, if_neg c2]; rfl
        refine ⟨?_, fun n => ?_⟩
        · rw [ho]
          exact NF_weak i1 (by omega)
        · rw [pg n, ho, i2 n, hcons n]
          show (if (0 : Int) = 0 then _ else _) = _
          rw [if_pos rfl]
          by_cases k3 : b ≤ n ∧ (n : Int) < b + m
          · rw [if_pos k3, if_pos k3]
          · rw [if_neg k3, if_neg k3, if_neg (by omega)]
theorem fit_iff {a : S24} : fitB a.f0 a.f1 = true ↔ Fit a := by
  rw [fitB_iff]; unfold Fit; omega
theorem one_nf {a : S24} (ha : Fit a) : NF 0 none [a] := ⟨ha.1, (fun _ h => by cases h), ha.2.1, ha.2.2, trivial⟩
theorem pgS_one {a : S24} {n : Nat} : pgS [a] n = if a.f0 ≤ n ∧ (n : Int) < a.f0 + a.f1 then wv a.f2 else 0 := rfl
theorem pgS_mem {l : List S24} {x : S24} {n : Nat} (hx : x ∈ l) (h : x.f0 ≤ n ∧ (n : Int) < x.f0 + x.f1) : pgS l n ≠ 0 := by
  induction l with
  | nil => cases hx
  | cons a r ih =>
    unfold pgS
    split
    · exact wv_ne _
    · rename_i hc
      rcases List.mem_cons.1 hx with rfl | hx
      · exact absurd h hc
      · exact ih hx
def ov (x a : S24) : Prop := x.f0 < a.f0 + a.f1 ∧ a.f0 < x.f0 + x.f1
theorem addR_clash {l : List S24} {a x : S24} (hl : okB l = true) (ha : Fit a) (hx : x ∈ l) (ho : ov x a) : addR l a = ([], 5) := by
  have hnf := ((okB_iff l).1 hl).2
  obtain ⟨x0, x1, x2⟩ := okB_fit hl x hx
  obtain ⟨a0, a1, a2⟩ := ha
  obtain ⟨o1, o2⟩ := ho
  have : clash (pgF l) (pgF [a]) = true := by
    by_cases h : x.f0 ≤ a.f0
    · refine clash_true a.f0.toNat (by omega) ?_ ?_
      · rw [pgF_eq hnf]; exact pgS_mem hx (by omega)
      · rw [pgF_eq (one_nf ⟨a0, a1, a2⟩), pgS_one, if_pos (by omega)]; exact wv_ne _
    · refine clash_true x.f0.toNat (by omega) ?_ ?_
      · rw [pgF_eq hnf]; exact pgS_mem hx (by omega)
      · rw [pgF_eq (one_nf ⟨a0, a1, a2⟩), pgS_one, if_pos (by omega)]; exact wv_ne _
  unfold addR
  rw [hl, fit_iff.2 ⟨a0, a1, a2⟩, this]
  rfl
theorem addR_ok {l : List S24} {a : S24} (hl : okB l = true) (ha : Fit a) (hd : ∀ x ∈ l, ¬ ov x a) : addR l a = fewR (withP l a) := by
  have hnf := ((okB_iff l).1 hl).2
  have hsp := with_spec hnf ha hd
  have hno : ∀ n : Nat, a.f0 ≤ n ∧ (n : Int) < a.f0 + a.f1 → pgS l n = 0 := fun n hn =>
    pgS_none (fun x hx hc => hd x hx ⟨by omega, by omega⟩)
  have hc : clash (pgF l) (pgF [a]) = false := clash_false (fun n hn h => by
    rw [pgF_eq hnf, pgF_eq (one_nf ha), pgS_one] at h
    by_cases hin : a.f0 ≤ n ∧ (n : Int) < a.f0 + a.f1
    · exact h.1 (hno n hin)
    · rw [if_neg hin] at h; exact h.2 rfl)
  unfold addR
  rw [hl, fit_iff.2 ha, hc]
  show formR _ = _
  refine formR_of (both_cases l [a]) hsp.1 (fun n hn => ?_)
  rw [hsp.2 n]
  show _ = mx (pgF l n) (pgF [a] n)
  rw [pgF_eq hnf, pgF_eq (one_nf ha), pgS_one]
  by_cases hin : a.f0 ≤ n ∧ (n : Int) < a.f0 + a.f1
  · rw [if_pos hin, if_pos hin, hno n hin]
    cases a.f2 <;> rfl
  · rw [if_neg hin, if_neg hin]
    rcases pgS_cases l n with h | h | h <;> rw [h] <;> rfl
theorem add_ref_l0 (l : List S24) (a : S24) (hl : okB l = true) (ha : Fit a) : ∀ (d k i : Nat), i + d = l.length → d + 2000 < k → (∀ j, j < i → ¬ ov (ar l j) a) →
    prioryref14_Add.l0 k l i a.f0 a.f1 a.f2 = some (addR l a) := by
  have h8 := ((okB_iff l).1 hl).1
  intro d
  induction d with
  | zero =>
    intro k i hi hk hj
    obtain ⟨k, rfl⟩ : ∃ m, k = m + 1 := ⟨k - 1, by omega⟩
    simp only [prioryref14_Add.l0]
    have hn : ¬ (i : Int) < (l.length : Int) := by omega
    rw [if_neg hn, with_tot l a (okB_fit hl) (by omega) ha k (by omega), Option.bind_some, few_eq, Option.bind_some, addR_ok hl ha (fun x hx => ?_)]
    obtain ⟨j, hj2, rfl⟩ := List.mem_iff_getElem.1 hx
    have := hj j (by omega)
    unfold ar at this
    rwa [List.getD_eq_getElem?_getD, List.getElem?_eq_getElem hj2] at this
  | succ d ih =>
    intro k i hi hk hj
    obtain ⟨k, rfl⟩ : ∃ m, k = m + 1 := ⟨k - 1, by omega⟩
    have hil : i < l.length := by omega
    have hfx := okB_fit hl _ (ar_mem hil)
    have h1 : (i : Int) < (l.length : Int) := by omega
    have h2 : (0 : Int) ≤ i := by omega
    have hne : ¬ ov (ar l i) a → prioryref14_Add.l0 k l (wrap64 ((i : Int) + 1)) a.f0 a.f1 a.f2 = some (addR l a) := fun hno => by
      rw [wrap_id (by omega)]
      exact ih k (i + 1) (by omega) (by omega) (fun j hj2 => by
        by_cases e : j = i
        · rw [e]; exact hno
        · exact hj j (by omega))
    obtain ⟨x0, x1, x2⟩ := hfx
    obtain ⟨a0, a1, a2⟩ := ha
    simp only [prioryref14_Add.l0]
    rw [if_pos h1, if_pos h2, rd_ar]
    unfold prioryref14_meet.f
    rw [wrap_id (x := a.f0 + a.f1) (by omega), wrap_id (x := (ar l i).f0 + (ar l i).f1) (by omega)]
    by_cases c1 : (ar l i).f0 < a.f0 + a.f1
    · rw [if_pos c1, Option.bind_some]
      by_cases c2 : a.f0 < (ar l i).f0 + (ar l i).f1
      · rw [if_pos (decide_eq_true c2), addR_clash hl ⟨a0, a1, a2⟩ (ar_mem hil) ⟨c1, c2⟩]
      · rw [if_neg (by rw [decide_eq_true_iff]; exact c2)]
        exact hne (fun h => c2 h.2)
    · rw [if_neg c1, Option.bind_some, if_neg (by decide)]
      exact hne (fun h => c1 h.1)
theorem add_ref (l : List S24) (a : S24) (k : Nat) (hk : 2100 ≤ k) : prioryref14_Add.f k l a.f0 a.f1 a.f2 = some (addR l a) := by
  obtain ⟨k, rfl⟩ : ∃ m, k = m + 1 := ⟨k - 1, by omega⟩
  unfold prioryref14_Add.f
  rw [rcheck_tot l _ (by omega), Option.bind_some]
  rcases chk_cases l with ⟨h1, h2⟩ | ⟨h1, h2⟩
  · rw [h2, if_pos rfl, rfits_eq, Option.bind_some]
    cases hf : fitB a.f0 a.f1 with
    | false =>
      simp only [prioryref14_Add.j0, Bool.not_false, if_true]
      unfold addR; rw [hf, Bool.and_false]; rfl
    | true =>
      have h8 := ((okB_iff l).1 h1).1
      simp only [prioryref14_Add.j0, Bool.not_true, Bool.false_eq_true, if_false]
      exact add_ref_l0 l a h1 (fit_iff.1 hf) l.length k 0 (by omega) (by omega) (fun j hj => by omega)
  · rw [h2, if_neg (by decide)]
    simp only [prioryref14_Add.j0, if_true]
    unfold addR; rw [h1]; rfl
theorem change_form {l m : List S24} {a b t : Int} (hl : okB l = true) (hf : fitB a b = true) (hc : covB l a b = true) (ht : t = 0 ∨ t = 1 ∨ t = 2) (hm : NF 0 none m)
    (hp : ∀ n : Nat, pgS m n = if a ≤ n ∧ (n : Int) < a + b then t else pgS l n) : changeR l a b t = fewR m := by
  have hnf := ((okB_iff l).1 hl).2
  unfold changeR
  rw [hl, hf, hc]
  show formR _ = _
  refine formR_of (chg_cases (pgF_cases l) ht) hm (fun n _ => ?_)
  rw [hp n]
  unfold chg
  rw [pgF_eq hnf]
theorem setP_spec {l : List S24} {a b : Int} (w : Bool) (h1 : okB l = true) (hf : fitB a b = true) (hc : covB l a b = true) : changeR l a b (wv w) = fewR (withP (lessP l a b) ⟨a, b, w⟩) := by
  obtain ⟨h8, hnf⟩ := (okB_iff l).1 h1
  obtain ⟨g0, g1, g2, g3⟩ := fitB_iff.1 hf
  have hs := less_spec l 0 none a b g2 hnf
  have hw := with_spec (a := ⟨a, b, w⟩) hs.1 ⟨g0, g2, by show a + b ≤ 1024; omega⟩ (fun x hx ho => by
    have hx1 := NF_ge hs.1 x hx
    have o1 : x.f0 < a + b := ho.1
    have o2 : a < x.f0 + x.f1 := ho.2
    by_cases h : x.f0 ≤ a
    · refine pgS_mem (n := a.toNat) hx (by omega) ?_
      rw [hs.2, if_pos (by omega)]
    · refine pgS_mem (n := x.f0.toNat) hx (by omega) ?_
      rw [hs.2, if_pos (by omega)])
  refine change_form h1 hf hc (wv_cases w) hw.1 (fun n => ?_)
  rw [hw.2 n, hs.2 n]
  show (if a ≤ (n : Int) ∧ (n : Int) < a + b then wv w else _) = _
  split <;> rfl
theorem same_l0 (l : List S24) (hlen : (l.length : Int) ≤ 9223372036854775807) : ∀ (d k i : Nat), i + d = l.length → d < k → prioryref14_Same.l0 k l l i = some true := by
  intro d
  induction d with
  | zero =>
    intro k i hi hk
    obtain ⟨k, rfl⟩ : ∃ m, k = m + 1 := ⟨k - 1, by omega⟩
    simp only [prioryref14_Same.l0]
    rw [if_neg (by omega)]
  | succ d ih =>
    intro k i hi hk
    obtain ⟨k, rfl⟩ : ∃ m, k = m + 1 := ⟨k - 1, by omega⟩
    simp only [prioryref14_Same.l0]
    have h1 : (i : Int) < (l.length : Int) := by omega
    have h2 : (0 : Int) ≤ i := by omega
    rw [if_pos h1, if_pos h2, if_pos h1, if_neg (by simp), wrap_id (by omega)]
    exact ih k (i + 1) (by omega) (by omega)
theorem same_tot (l : List S24) (hlen : l.length ≤ 1000) (k : Nat) (hk : 1001 ≤ k) : prioryref14_Same.f k l l = some true := by
  unfold prioryref14_Same.f
  rw [if_pos rfl]
  exact same_l0 l (by omega) l.length k 0 (by omega) (by omega)
theorem awake_add : addR [⟨3, 2, true⟩] ⟨5, 1, true⟩ = ([⟨3, 3, true⟩], 0) := by
  rw [addR_ok (by decide) ⟨by decide, by decide, by decide⟩ (fun x hx ho => ?_)]
  · rfl
  · rw [List.mem_singleton.1 hx] at ho; exact absurd ho.2 (by decide)
theorem awake_set : changeR [⟨3, 3, true⟩] 4 1 (wv false) = ([⟨3, 1, true⟩, ⟨4, 1, false⟩, ⟨5, 1, true⟩], 0) := by
  rw [setP_spec false (by decide) (by decide) (by decide)]
  rfl
theorem awake_cut : changeR [⟨3, 3, true⟩] 2 2 0 = ([], 4) := by
  unfold changeR
  rw [show okB [⟨3, 3, true⟩] = true by decide, show fitB 2 2 = true by decide, show covB [⟨3, 3, true⟩] 2 2 = false by decide]; rfl
theorem awake_tot (k : Nat) : priorylaw14_awake.f k = some true := by
  unfold priorylaw14_awake.f region_Add.f region_Set.f region_Cut.f
  rw [awake_add]
  simp only [Option.bind_some]
  rw [awake_set, awake_cut]
  rfl
theorem formR_len (what : Nat → Int) : (formR what).1.length ≤ 8 := by
  unfold formR
  split
  · simp
  · rename_i h; show (formL what 1024).length ≤ 8; omega
theorem addR_len (l : List S24) (a : S24) : (addR l a).1.length ≤ 8 := by
  unfold addR
  split
  · split
    · simp
    · exact formR_len _
  · simp
theorem law_add (k : Nat) (hk : 2200 ≤ k) (l : List S24) (a : S24) : priorylaw14_RegionAdd.f k l a.f0 a.f1 a.f2 = some true := by
  unfold priorylaw14_RegionAdd.f
  rw [awake_tot, Option.bind_some]
  by_cases h : (l.length : Int) > 100
  · rw [if_pos h]
  · have h8 := addR_len l a
    rw [if_neg h, Option.bind_some, if_pos (by simp; omega), Option.bind_some, List.nil_append, add_ref l a k (by omega)]
    show (Option.bind (some (addR l a)) _) = _
    rw [Option.bind_some, Option.bind_some, same_tot _ (by omega) k (by omega), Option.bind_some, if_pos rfl, if_pos rfl, same_tot _ (by omega) k (by omega)]
    rfl
end Go.Proofs.Ytcblfhoipdbdlaa.PAll
