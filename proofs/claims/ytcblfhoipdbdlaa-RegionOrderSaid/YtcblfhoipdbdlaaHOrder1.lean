/-
  Walks and plain laws, joined of 2 texts.
-/
import Derived.Test.YtcblfhoipdbdlaaG1
import Derived.Test.YtcblfhoipdbdlaaG2
import Derived.Test.YtcblfhoipdbdlaaG3
namespace Go.Proofs.Ytcblfhoipdbdlaa.PAll
open Go.RowKit Go.Proofs.YtcblfhoipdbdlaaW.PrintWords Go.Proofs.YtcblfhoipdbdlaaW.PrintLast Go.Proofs.YtcblfhoipdbdlaaW.PrintMore
attribute [local go_sem] max2_int min2_int max_two min_two max_three min_three max_four min_four   -- for this text's walks alone
set_option linter.unusedVariables false
set_option linter.unusedSimpArgs false
/-! ### priorylaw14_RegionOrder: function 5 -/
mutual
def priorylaw14_RegionOrder.j0 : Nat → List (S24) → List (S24) → Int → Bool → Int → Int → Bool → Option (Bool)
  | 0, _, _, _, _, _, _, _ => none
  | k + 1, x0, x7, x8, x66, x331000, x331001, x331002 => if x66 = true then (some false) else (if x8 = 0 then (priorylaw14_RegionOrder.j1 k x0 x7 (decide (x331001 > 20)) x331000 x331001 x331002) else (priorylaw14_RegionOrder.j1 k x0 x7 true x331000 x331001 x331002))
def priorylaw14_RegionOrder.j1 : Nat → List (S24) → List (S24) → Bool → Int → Int → Bool → Option (Bool)
  | 0, _, _, _, _, _, _ => none
  | k + 1, x0, x7, x73, x331000, x331001, x331002 => if x73 = true then ((priorylaw14_awake.f k).bind fun t350 => (some t350)) else ((some (([] : List (S24)) : List (S24))).bind fun y351 => (if y351.length + x0.length < 5864062014805 then (priorylaw14_RegionOrder.l0 k x7 (y351 ++ x0) x331000 x331000 x331001 x331002) else (none)))
def priorylaw14_RegionOrder.l0 : Nat → List (S24) → List (S24) → Int → Int → Int → Bool → Option (Bool)
  | 0, _, _, _, _, _, _ => none
  | k + 1, x7, x15, x16, x331000, x331001, x331002 => if x16 < (wrap64 (x331000 + x331001)) then ((region_Add.f k x15 x16 1 x331002).bind fun bt359 => (if bt359.2 = 3 then ((priorylaw14_awake.f k).bind fun t363 => (some t363)) else (if bt359.2 = 0 then (priorylaw14_RegionOrder.l0 k x7 bt359.1 (wrap64 (x16 + 1)) x331000 x331001 x331002) else (some false)))) else ((prioryref14_Same.f k x15 x7).bind fun t357 => (if t357 = true then ((priorylaw14_awake.f k).bind fun t358 => (some t358)) else (some false)))
end
def priorylaw14_RegionOrder.f (k : Nat) (l0 : List (S24)) (a1_0 : Int) (a1_1 : Int) (a1_2 : Bool) (a2_0 : Int) (a2_1 : Int) (a2_2 : Bool) : Option (Bool) := if (l0.length : Int) > 100 then ((priorylaw14_awake.f k).bind fun t332 => (some t332)) else ((region_Add.f k l0 a1_0 a1_1 a1_2).bind fun bt333 => ((region_Add.f k bt333.1 a2_0 a2_1 a2_2).bind fun bt337 => ((region_Add.f k l0 a2_0 a2_1 a2_2).bind fun bt341 => ((region_Add.f k bt341.1 a1_0 a1_1 a1_2).bind fun bt345 => (if bt333.2 = 0 then (if bt337.2 = 0 then (if bt341.2 = 0 then (if bt345.2 = 0 then ((prioryref14_Same.f k bt337.1 bt345.1).bind fun t349 => (priorylaw14_RegionOrder.j0 k l0 bt333.1 bt333.2 (!t349) a1_0 a1_1 a1_2)) else (priorylaw14_RegionOrder.j0 k l0 bt333.1 bt333.2 true a1_0 a1_1 a1_2)) else (priorylaw14_RegionOrder.j0 k l0 bt333.1 bt333.2 false a1_0 a1_1 a1_2)) else (priorylaw14_RegionOrder.j0 k l0 bt333.1 bt333.2 false a1_0 a1_1 a1_2)) else (priorylaw14_RegionOrder.j0 k l0 bt333.1 bt333.2 false a1_0 a1_1 a1_2))))))
theorem priorylaw14_RegionOrder.mono_l : ∀ k, (∀ y0 y1 y2 y3 y4 y5 y6, LeO (priorylaw14_RegionOrder.j0 k y0 y1 y2 y3 y4 y5 y6) (priorylaw14_RegionOrder.j0 (k + 1) y0 y1 y2 y3 y4 y5 y6)) ∧ (∀ y0 y1 y2 y3 y4 y5, LeO (priorylaw14_RegionOrder.j1 k y0 y1 y2 y3 y4 y5) (priorylaw14_RegionOrder.j1 (k + 1) y0 y1 y2 y3 y4 y5)) ∧ (∀ y0 y1 y2 y3 y4 y5, LeO (priorylaw14_RegionOrder.l0 k y0 y1 y2 y3 y4 y5) (priorylaw14_RegionOrder.l0 (k + 1) y0 y1 y2 y3 y4 y5))
  | 0 => ⟨fun _ _ _ _ _ _ _ r h => by simp [priorylaw14_RegionOrder.j0] at h, fun _ _ _ _ _ _ r h => by simp [priorylaw14_RegionOrder.j1] at h, fun _ _ _ _ _ _ r h => by simp [priorylaw14_RegionOrder.l0] at h⟩
  | k + 1 => by
    obtain ⟨ih0, ih1, ih2⟩ := priorylaw14_RegionOrder.mono_l k
    refine ⟨?_, ?_, ?_⟩
    · intro y0 y1 y2 y3 y4 y5 y6
      unfold priorylaw14_RegionOrder.j0
      repeat' first
      | (with_reducible exact ih0 _ _ _ _ _ _ _)
      | (with_reducible exact ih1 _ _ _ _ _ _)
      | (with_reducible exact ih2 _ _ _ _ _ _)
      | (with_reducible exact priorylaw14_awake.mono _)
      | (with_reducible exact prioryref14_Same.mono _ _ _)
      | (with_reducible exact region_Add.mono _ _ _ _ _)
      | (with_reducible exact LeO.refl _)
      | (with_reducible exact LeO.none _)
      | (with_reducible refine LeO.ite ?_ ?_)
      | (with_reducible refine LeO.bind ?_ (fun _ => ?_))
      | exact ih0 _ _ _ _ _ _ _
      | exact ih1 _ _ _ _ _ _
      | exact ih2 _ _ _ _ _ _
      | exact priorylaw14_awake.mono _
      | exact prioryref14_Same.mono _ _ _
      | exact region_Add.mono _ _ _ _ _
      | exact LeO.none _
      | refine LeO.ite ?_ ?_
      | refine LeO.bind ?_ (fun _ => ?_)
    · intro y0 y1 y2 y3 y4 y5
      unfold priorylaw14_RegionOrder.j1
      repeat' first
      | (with_reducible exact ih0 _ _ _ _ _ _ _)
      | (with_reducible exact ih1 _ _ _ _ _ _)
      | (with_reducible exact ih2 _ _ _ _ _ _)
      | (with_reducible exact priorylaw14_awake.mono _)
      | (with_reducible exact prioryref14_Same.mono _ _ _)
      | (with_reducible exact region_Add.mono _ _ _ _ _)
      | (with_reducible exact LeO.refl _)
      | (with_reducible exact LeO.none _)
      | (with_reducible refine LeO.ite ?_ ?_)
      | (with_reducible refine LeO.bind ?_ (fun _ => ?_))
      | exact ih0 _ _ _ _ _ _ _
      | exact ih1 _ _ _ _ _ _
      | exact ih2 _ _ _ _ _ _
      | exact priorylaw14_awake.mono _
      | exact prioryref14_Same.mono _ _ _
      | exact region_Add.mono _ _ _ _ _
      | exact LeO.none _
      | refine LeO.ite ?_ ?_
      | refine LeO.bind ?_ (fun _ => ?_)
    · intro y0 y1 y2 y3 y4 y5
      unfold priorylaw14_RegionOrder.l0
      repeat' first
      | (with_reducible exact ih0 _ _ _ _ _ _ _)
      | (with_reducible exact ih1 _ _ _ _ _ _)
      | (with_reducible exact ih2 _ _ _ _ _ _)
      | (with_reducible exact priorylaw14_awake.mono _)
      | (with_reducible exact prioryref14_Same.mono _ _ _)
      | (with_reducible exact region_Add.mono _ _ _ _ _)
      | (with_reducible exact LeO.refl _)
      | (with_reducible exact LeO.none _)
      | (with_reducible refine LeO.ite ?_ ?_)
      | (with_reducible refine LeO.bind ?_ (fun _ => ?_))
      | exact ih0 _ _ _ _ _ _ _
      | exact ih1 _ _ _ _ _ _
      | exact ih2 _ _ _ _ _ _
      | exact priorylaw14_awake.mono _
      | exact prioryref14_Same.mono _ _ _
      | exact region_Add.mono _ _ _ _ _
      | exact LeO.none _
      | refine LeO.ite ?_ ?_
      | refine LeO.bind ?_ (fun _ => ?_)
theorem priorylaw14_RegionOrder.mono : ∀ a0 a1 a2 a3 a4 a5 a6 k, LeO (priorylaw14_RegionOrder.f k a0 a1 a2 a3 a4 a5 a6) (priorylaw14_RegionOrder.f (k + 1) a0 a1 a2 a3 a4 a5 a6) := by
  intro a0 a1 a2 a3 a4 a5 a6 k
  obtain ⟨ih0, ih1, ih2⟩ := priorylaw14_RegionOrder.mono_l k
  unfold priorylaw14_RegionOrder.f
  repeat' first
      | (with_reducible exact ih0 _ _ _ _ _ _ _)
      | (with_reducible exact ih1 _ _ _ _ _ _)
      | (with_reducible exact ih2 _ _ _ _ _ _)
      | (with_reducible exact priorylaw14_awake.mono _)
      | (with_reducible exact prioryref14_Same.mono _ _ _)
      | (with_reducible exact region_Add.mono _ _ _ _ _)
      | (with_reducible exact LeO.refl _)
      | (with_reducible exact LeO.none _)
      | (with_reducible refine LeO.ite ?_ ?_)
      | (with_reducible refine LeO.bind ?_ (fun _ => ?_))
      | exact ih0 _ _ _ _ _ _ _
      | exact ih1 _ _ _ _ _ _
      | exact ih2 _ _ _ _ _ _
      | exact priorylaw14_awake.mono _
      | exact prioryref14_Same.mono _ _ _
      | exact region_Add.mono _ _ _ _ _
      | exact LeO.none _
      | refine LeO.ite ?_ ?_
      | refine LeO.bind ?_ (fun _ => ?_)
set_option maxHeartbeats 8000000 in
set_option maxRecDepth 100000 in
theorem priorylaw14_RegionOrder.calls (k : Nat) (A0 : Option Addr) (c0 : Nat) (l0 : List (S24)) (a1_0 : Int) (a1_1 : Int) (a1_2 : Bool) (a2_0 : Int) (a2_1 : Int) (a2_2 : Bool) (r : Bool) (w : World) (hr0 : Kd.C k24 w A0 l0.length l0) (hc0 : l0.length ≤ c0) (h : priorylaw14_RegionOrder.f k l0 a1_0 a1_1 a1_2 a2_0 a2_1 a2_2 = some r) :
    Calls Try.prog 5 #[.slice A0 l0.length c0, .agg #[.int .i64 a1_0, .int .i64 a1_1, .bool a1_2], .agg #[.int .i64 a2_0, .int .i64 a2_1, .bool a2_2]] w fun e w' => e = .returned (.bool r) ∧ Below w.heap.size w w' := by
  have hu24 := Try.underlying24
  have HR0 := Aside0.mk hr0
  have HC0 := Aside0.mk hc0
  clear hr0 hc0
  have HB := Aside0.mk (Below.refl w.heap.size w)
  have H : (if (l0.length : Int) > 100 then ((priorylaw14_awake.f k).bind fun t332 => (some t332)) else ((region_Add.f k l0 a1_0 a1_1 a1_2).bind fun bt333 => ((region_Add.f k bt333.1 a2_0 a2_1 a2_2).bind fun bt337 => ((region_Add.f k l0 a2_0 a2_1 a2_2).bind fun bt341 => ((region_Add.f k bt341.1 a1_0 a1_1 a1_2).bind fun bt345 => (if bt333.2 = 0 then (if bt337.2 = 0 then (if bt341.2 = 0 then (if bt345.2 = 0 then ((prioryref14_Same.f k bt337.1 bt345.1).bind fun t349 => (priorylaw14_RegionOrder.j0 k l0 bt333.1 bt333.2 (!t349) a1_0 a1_1 a1_2)) else (priorylaw14_RegionOrder.j0 k l0 bt333.1 bt333.2 true a1_0 a1_1 a1_2)) else (priorylaw14_RegionOrder.j0 k l0 bt333.1 bt333.2 false a1_0 a1_1 a1_2)) else (priorylaw14_RegionOrder.j0 k l0 bt333.1 bt333.2 false a1_0 a1_1 a1_2)) else (priorylaw14_RegionOrder.j0 k l0 bt333.1 bt333.2 false a1_0 a1_1 a1_2))))))) = some r := h
  clear h
  by_cases c4 : (l0.length : Int) > 100
  · rw [if_pos c4] at H
    have c4b0 : decide (100 < (l0.length : Int)) = true := decide_eq_true c4
    have c4b1 : decide (100 < l0.length) = true := decide_eq_true (by omega)
    clear c4
    replace H := Option.bind_eq_some_iff.mp H
    obtain ⟨t332, A50, H⟩ := H
    replace H : (some t332) = some r := H
    have A5 := Aside0.mk A50
    clear A50
    obtain rfl := Option.some.inj H
    go_enter Try.func5, Try.ntmps5
    go_wp2_with (first | ((with_reducible refine gate_dst (N := 4) rfl ?_); refine box_event ?hg (N := 4) ?hd (cs := #[.int .i64 a1_0, .int .i64 a1_1, .bool a1_2]) (t := 24) ?hr ?_; (case hd => rfl); (case hg => rfl); (case hr => first | (go_simp; done) | (go_simp; rfl)); intro gb330 hg w6 hbox hb; have n0_ := Aside0.mk (below_step (by repeat (first | (with_reducible first | exact HB.out | apply below_alloc | apply pw_below_drewN | apply below_drew1) | exact HB.out)) hb); have n1_ := Aside0.mk (hbox); have n2_ := Aside0.mk ((by rw [hg]; exact (below_size (by repeat (first | (with_reducible first | exact HB.out | apply below_alloc | apply pw_below_drewN | apply below_drew1) | exact HB.out))) : w.heap.size ≤ gb330)); have n3_ := Aside0.mk ((by rw [hg]; exact (below_size (by repeat (first | (with_reducible first | exact HB.out | apply below_alloc | apply pw_below_drewN | apply below_drew1) | exact HB.out))) : w.heap.size ≤ gb330)); clear HB; have HB := n0_; have BK330 := n1_; have GW330 := n2_; have GE330 := n3_; clear n0_ n1_ n2_ n3_; clear hb hbox hg) | ((with_reducible refine gate_dst (N := 5) rfl ?_); refine box_event ?hg (N := 5) ?hd (cs := #[.int .i64 a2_0, .int .i64 a2_1, .bool a2_2]) (t := 24) ?hr ?_; (case hd => rfl); (case hg => rfl); (case hr => first | (go_simp; done) | (go_simp; rfl)); intro gb331 hg w7 hbox hb; have n0_ := Aside0.mk (blk_below (g := gb330) (o := .cells #[.int .i64 a1_0, .int .i64 a1_1, .bool a1_2] 24 (0, 0)) (by (with_reducible repeat (first | refine blk_drewN ?_ _ | refine blk_drew ?_ | refine blk_alloc ?_ _)); exact BK330.out) hb); have n1_ := Aside0.mk (below_step (by repeat (first | (with_reducible first | exact HB.out | apply below_alloc | apply pw_below_drewN | apply below_drew1 | refine below_set ?_ GE330.out) | exact HB.out)) hb); have n2_ := Aside0.mk (hbox); have n3_ := Aside0.mk ((by rw [hg]; exact (below_size (by repeat (first | (with_reducible first | exact HB.out | apply below_alloc | apply pw_below_drewN | apply below_drew1 | refine below_set ?_ GE330.out) | exact HB.out))) : w.heap.size ≤ gb331)); have n4_ := Aside0.mk ((by rw [hg]; exact (below_size (by repeat (first | (with_reducible first | exact HB.out | apply below_alloc | apply pw_below_drewN | apply below_drew1 | refine below_set ?_ GE330.out) | exact HB.out))) : w.heap.size ≤ gb331)); have n5_ := Aside0.mk ((by rw [hg]; exact Nat.ne_of_lt (blk_lt (g := gb330) (o := .cells #[.int .i64 a1_0, .int .i64 a1_1, .bool a1_2] 24 (0, 0)) (by (with_reducible repeat (first | refine blk_drewN ?_ _ | refine blk_drew ?_ | refine blk_alloc ?_ _)); exact BK330.out)) : gb330 ≠ gb331)); have n6_ := Aside0.mk ((by rw [hg]; exact Nat.ne_of_gt (blk_lt (g := gb330) (o := .cells #[.int .i64 a1_0, .int .i64 a1_1, .bool a1_2] 24 (0, 0)) (by (with_reducible repeat (first | refine blk_drewN ?_ _ | refine blk_drew ?_ | refine blk_alloc ?_ _)); exact BK330.out)) : gb331 ≠ gb330)); clear BK330; clear HB; have BK330 := n0_; have HB := n1_; have BK331 := n2_; have GW331 := n3_; have GE331 := n4_; have NB330_331 := n5_; have NB331_330 := n6_; clear n0_ n1_ n2_ n3_ n4_ n5_ n6_; clear hb hbox hg) | ((with_reducible refine gate_callee (f := 10) rfl ?_); refine goesL_ (some 22) rfl rfl Try.func10 (by kernel_rfl) rfl #[] rfl (by (try simp only [List.map_toArray, List.map_cons, List.map_nil]); first | done | rfl | (simp only [List.length_drop, List.length_take]; rfl)) ?_; (with_reducible refine (priorylaw14_awake.calls k  t332 _ A5.out).mono ?_); rintro e w8 ⟨rfl, hb⟩; refine ⟨_, rfl, ?_⟩; have n0_ := Aside0.mk (blk_below (g := gb330) (o := .cells #[.int .i64 a1_0, .int .i64 a1_1, .bool a1_2] 24 (0, 0)) (by (with_reducible repeat (first | refine blk_drewN ?_ _ | refine blk_drew ?_ | refine blk_alloc ?_ _)); exact BK330.out) hb); have n1_ := Aside0.mk (blk_below (g := gb331) (o := .cells #[.int .i64 a2_0, .int .i64 a2_1, .bool a2_2] 24 (0, 0)) (by (with_reducible repeat (first | refine blk_drewN ?_ _ | refine blk_drew ?_ | refine blk_alloc ?_ _)); exact BK331.out) hb); have n2_ := Aside0.mk (below_step (by repeat (first | (with_reducible first | exact HB.out | apply below_alloc | apply pw_below_drewN | apply below_drew1 | refine below_set ?_ GE330.out | refine below_set ?_ GE331.out) | exact HB.out)) hb); clear BK330; clear BK331; clear HB; have BK330 := n0_; have BK331 := n1_; have HB := n2_; clear n0_ n1_ n2_; (try clear hb); (try clear hb2); (try clear hk); (try clear hi)))
    go_ret
    exact ⟨by first | rfl | (simp [errW_none, errW_some] <;> rfl) | (simp [*, errW_none, errW_some] <;> rfl), by repeat (first | (with_reducible first | exact HB.out | apply below_alloc | apply pw_below_drewN | apply below_drew1 | refine below_set ?_ GE330.out | refine below_set ?_ GE331.out) | exact HB.out)⟩
  · rw [if_neg c4] at H
    have c4b0 : decide (100 < (l0.length : Int)) = false := decide_eq_false c4
    have c4b1 : decide (100 < l0.length) = false := decide_eq_false (by omega)
    clear c4
    replace H := Option.bind_eq_some_iff.mp H
    obtain ⟨⟨t333, t336⟩, A90, H⟩ := H
    replace H : ((region_Add.f k t333 a2_0 a2_1 a2_2).bind fun bt337 => ((region_Add.f k l0 a2_0 a2_1 a2_2).bind fun bt341 => ((region_Add.f k bt341.1 a1_0 a1_1 a1_2).bind fun bt345 => (if t336 = 0 then (if bt337.2 = 0 then (if bt341.2 = 0 then (if bt345.2 = 0 then ((prioryref14_Same.f k bt337.1 bt345.1).bind fun t349 => (priorylaw14_RegionOrder.j0 k l0 t333 t336 (!t349) a1_0 a1_1 a1_2)) else (priorylaw14_RegionOrder.j0 k l0 t333 t336 true a1_0 a1_1 a1_2)) else (priorylaw14_RegionOrder.j0 k l0 t333 t336 false a1_0 a1_1 a1_2)) else (priorylaw14_RegionOrder.j0 k l0 t333 t336 false a1_0 a1_1 a1_2)) else (priorylaw14_RegionOrder.j0 k l0 t333 t336 false a1_0 a1_1 a1_2))))) = some r := H
    have A9 := Aside0.mk A90
    clear A90
    replace H := Option.bind_eq_some_iff.mp H
    obtain ⟨⟨t337, t340⟩, A100, H⟩ := H
    replace H : ((region_Add.f k l0 a2_0 a2_1 a2_2).bind fun bt341 => ((region_Add.f k bt341.1 a1_0 a1_1 a1_2).bind fun bt345 => (if t336 = 0 then (if t340 = 0 then (if bt341.2 = 0 then (if bt345.2 = 0 then ((prioryref14_Same.f k t337 bt345.1).bind fun t349 => (priorylaw14_RegionOrder.j0 k l0 t333 t336 (!t349) a1_0 a1_1 a1_2)) else (priorylaw14_RegionOrder.j0 k l0 t333 t336 true a1_0 a1_1 a1_2)) else (priorylaw14_RegionOrder.j0 k l0 t333 t336 false a1_0 a1_1 a1_2)) else (priorylaw14_RegionOrder.j0 k l0 t333 t336 false a1_0 a1_1 a1_2)) else (priorylaw14_RegionOrder.j0 k l0 t333 t336 false a1_0 a1_1 a1_2)))) = some r := H
    have A10 := Aside0.mk A100
    clear A100
    replace H := Option.bind_eq_some_iff.mp H
    obtain ⟨⟨t341, t344⟩, A110, H⟩ := H
    replace H : ((region_Add.f k t341 a1_0 a1_1 a1_2).bind fun bt345 => (if t336 = 0 then (if t340 = 0 then (if t344 = 0 then (if bt345.2 = 0 then ((prioryref14_Same.f k t337 bt345.1).bind fun t349 => (priorylaw14_RegionOrder.j0 k l0 t333 t336 (!t349) a1_0 a1_1 a1_2)) else (priorylaw14_RegionOrder.j0 k l0 t333 t336 true a1_0 a1_1 a1_2)) else (priorylaw14_RegionOrder.j0 k l0 t333 t336 false a1_0 a1_1 a1_2)) else (priorylaw14_RegionOrder.j0 k l0 t333 t336 false a1_0 a1_1 a1_2)) else (priorylaw14_RegionOrder.j0 k l0 t333 t336 false a1_0 a1_1 a1_2))) = some r := H
    have A11 := Aside0.mk A110
    clear A110
    replace H := Option.bind_eq_some_iff.mp H
    obtain ⟨⟨t345, t348⟩, A120, H⟩ := H
    replace H : (if t336 = 0 then (if t340 = 0 then (if t344 = 0 then (if t348 = 0 then ((prioryref14_Same.f k t337 t345).bind fun t349 => (priorylaw14_RegionOrder.j0 k l0 t333 t336 (!t349) a1_0 a1_1 a1_2)) else (priorylaw14_RegionOrder.j0 k l0 t333 t336 true a1_0 a1_1 a1_2)) else (priorylaw14_RegionOrder.j0 k l0 t333 t336 false a1_0 a1_1 a1_2)) else (priorylaw14_RegionOrder.j0 k l0 t333 t336 false a1_0 a1_1 a1_2)) else (priorylaw14_RegionOrder.j0 k l0 t333 t336 false a1_0 a1_1 a1_2)) = some r := H
    have A12 := Aside0.mk A120
    clear A120
    have HC13 := Aside0.mk H
    clear H
    go_enter Try.func5, Try.ntmps5
    go_upto_region 7 with (first | ((with_reducible refine gate_dst (N := 4) rfl ?_); refine box_event ?hg (N := 4) ?hd (cs := #[.int .i64 a1_0, .int .i64 a1_1, .bool a1_2]) (t := 24) ?hr ?_; (case hd => rfl); (case hg => rfl); (case hr => first | (go_simp; done) | (go_simp; rfl)); intro gb330 hg w14 hbox hb; have n0_ := Aside0.mk (below_step (by repeat (first | (with_reducible first | exact HB.out | apply below_alloc | apply pw_below_drewN | apply below_drew1) | exact HB.out)) hb); have n1_ := Aside0.mk (hbox); have n2_ := Aside0.mk ((by rw [hg]; exact (below_size (by repeat (first | (with_reducible first | exact HB.out | apply below_alloc | apply pw_below_drewN | apply below_drew1) | exact HB.out))) : w.heap.size ≤ gb330)); have n3_ := Aside0.mk ((by rw [hg]; exact (below_size (by repeat (first | (with_reducible first | exact HB.out | apply below_alloc | apply pw_below_drewN | apply below_drew1) | exact HB.out))) : w.heap.size ≤ gb330)); clear HB; have HB := n0_; have BK330 := n1_; have GW330 := n2_; have GE330 := n3_; clear n0_ n1_ n2_ n3_; clear hb hbox hg) | ((with_reducible refine gate_dst (N := 5) rfl ?_); refine box_event ?hg (N := 5) ?hd (cs := #[.int .i64 a2_0, .int .i64 a2_1, .bool a2_2]) (t := 24) ?hr ?_; (case hd => rfl); (case hg => rfl); (case hr => first | (go_simp; done) | (go_simp; rfl)); intro gb331 hg w15 hbox hb; have n0_ := Aside0.mk (blk_below (g := gb330) (o := .cells #[.int .i64 a1_0, .int .i64 a1_1, .bool a1_2] 24 (0, 0)) (by (with_reducible repeat (first | refine blk_drewN ?_ _ | refine blk_drew ?_ | refine blk_alloc ?_ _)); exact BK330.out) hb); have n1_ := Aside0.mk (below_step (by repeat (first | (with_reducible first | exact HB.out | apply below_alloc | apply pw_below_drewN | apply below_drew1 | refine below_set ?_ GE330.out) | exact HB.out)) hb); have n2_ := Aside0.mk (hbox); have n3_ := Aside0.mk ((by rw [hg]; exact (below_size (by repeat (first | (with_reducible first | exact HB.out | apply below_alloc | apply pw_below_drewN | apply below_drew1 | refine below_set ?_ GE330.out) | exact HB.out))) : w.heap.size ≤ gb331)); have n4_ := Aside0.mk ((by rw [hg]; exact (below_size (by repeat (first | (with_reducible first | exact HB.out | apply below_alloc | apply pw_below_drewN | apply below_drew1 | refine below_set ?_ GE330.out) | exact HB.out))) : w.heap.size ≤ gb331)); have n5_ := Aside0.mk ((by rw [hg]; exact Nat.ne_of_lt (blk_lt (g := gb330) (o := .cells #[.int .i64 a1_0, .int .i64 a1_1, .bool a1_2] 24 (0, 0)) (by (with_reducible repeat (first | refine blk_drewN ?_ _ | refine blk_drew ?_ | refine blk_alloc ?_ _)); exact BK330.out)) : gb330 ≠ gb331)); have n6_ := Aside0.mk ((by rw [hg]; exact Nat.ne_of_gt (blk_lt (g := gb330) (o := .cells #[.int .i64 a1_0, .int .i64 a1_1, .bool a1_2] 24 (0, 0)) (by (with_reducible repeat (first | refine blk_drewN ?_ _ | refine blk_drew ?_ | refine blk_alloc ?_ _)); exact BK330.out)) : gb331 ≠ gb330)); clear BK330; clear HB; have BK330 := n0_; have HB := n1_; have BK331 := n2_; have GW331 := n3_; have GE331 := n4_; have NB330_331 := n5_; have NB331_330 := n6_; clear n0_ n1_ n2_ n3_ n4_ n5_ n6_; clear hb hbox hg; have hnb16 := NB330_331.out; have hnc16 := NB331_330.out; have hcz17_0 : w15.cell? ⟨gb330, 0, none⟩ = some (.int .i64 a1_0) := (blk_cell BK330.out 0).trans rfl; have hcz17_1 : w15.cell? ⟨gb330, 1, none⟩ = some (.int .i64 a1_1) := (blk_cell BK330.out 1).trans rfl; have hcz17_2 : w15.cell? ⟨gb330, 2, none⟩ = some (.bool a1_2) := (blk_cell BK330.out 2).trans rfl; have hfz17_0 := blk_frozen BK330.out 0; have hfz17_1 := blk_frozen BK330.out 1; have hfz17_2 := blk_frozen BK330.out 2) | ((with_reducible refine gate_callee (f := 11) rfl ?_); refine goesL_ (some 26) rfl rfl Try.func11 (by kernel_rfl) rfl #[.slice A0 l0.length c0, .agg #[.int .i64 a1_0, .int .i64 a1_1, .bool a1_2]] rfl (by (try simp only [List.map_toArray, List.map_cons, List.map_nil]); first | done | rfl | (simp only [List.length_drop, List.length_take]; rfl)) ?_; (with_reducible refine (region_Add.calls k _ _ l0 a1_0 a1_1 a1_2 t333 t336 _ ?side1 ?side2 A9.out).mono ?_); (case side1 => repeat (first | exact (Kd.C_below HR0.out HB.out) | (with_reducible refine Kd.C_alloc ?_ _) | (with_reducible refine Kd.C_drewN ?_ _) | (with_reducible refine Kd.C_drew ?_))); (case side2 => exact HC0.out); rintro e w18 ⟨v334, rfl, ho0, hb⟩; refine ⟨_, rfl, ?_⟩; have n0_ := Aside0.mk (Kd.R_lower (Kd.R_newB (Kd.R_newB ho0 (g := gb330) (o := .cells #[.int .i64 a1_0, .int .i64 a1_1, .bool a1_2] 24 (0, 0)) (by (with_reducible repeat (first | refine blk_drewN ?_ _ | refine blk_drew ?_ | refine blk_alloc ?_ _)); exact BK330.out)) (g := gb331) (o := .cells #[.int .i64 a2_0, .int .i64 a2_1, .bool a2_2] 24 (0, 0)) (by (with_reducible repeat (first | refine blk_drewN ?_ _ | refine blk_drew ?_ | refine blk_alloc ?_ _)); exact BK331.out)) (below_size (by repeat (first | (with_reducible first | exact HB.out | apply below_alloc | apply pw_below_drewN | apply below_drew1 | refine below_set ?_ GE330.out | refine below_set ?_ GE331.out) | exact HB.out)))); have n1_ := Aside0.mk (blk_below (g := gb330) (o := .cells #[.int .i64 a1_0, .int .i64 a1_1, .bool a1_2] 24 (0, 0)) (by (with_reducible repeat (first | refine blk_drewN ?_ _ | refine blk_drew ?_ | refine blk_alloc ?_ _)); exact BK330.out) hb); have n2_ := Aside0.mk (blk_below (g := gb331) (o := .cells #[.int .i64 a2_0, .int .i64 a2_1, .bool a2_2] 24 (0, 0)) (by (with_reducible repeat (first | refine blk_drewN ?_ _ | refine blk_drew ?_ | refine blk_alloc ?_ _)); exact BK331.out) hb); have n3_ := Aside0.mk (below_step (by repeat (first | (with_reducible first | exact HB.out | apply below_alloc | apply pw_below_drewN | apply below_drew1 | refine below_set ?_ GE330.out | refine below_set ?_ GE331.out) | exact HB.out)) hb); clear BK330; clear BK331; clear HB; have HO335 := n0_; have BK330 := n1_; have BK331 := n2_; have HB := n3_; clear n0_ n1_ n2_ n3_; (try clear hb); (try clear hb2); (try clear hk); (try clear hi); (try clear ho0); have hcz19_0 : w18.cell? ⟨gb331, 0, none⟩ = some (.int .i64 a2_0) := (blk_cell BK331.out 0).trans rfl; have hcz19_1 : w18.cell? ⟨gb331, 1, none⟩ = some (.int .i64 a2_1) := (blk_cell BK331.out 1).trans rfl; have hcz19_2 : w18.cell? ⟨gb331, 2, none⟩ = some (.bool a2_2) := (blk_cell BK331.out 2).trans rfl; have hfz19_0 := blk_frozen BK331.out 0; have hfz19_1 := blk_frozen BK331.out 1; have hfz19_2 := blk_frozen BK331.out 2; obtain ⟨Ao20, co20, eo20⟩ := Kd.R_slice HO335.out; subst eo20) | ((with_reducible refine gate_callee (f := 11) rfl ?_); refine goesL_ (some 32) rfl rfl Try.func11 (by kernel_rfl) rfl #[.slice Ao20 t333.length co20, .agg #[.int .i64 a2_0, .int .i64 a2_1, .bool a2_2]] rfl (by (try simp only [List.map_toArray, List.map_cons, List.map_nil]); first | done | rfl | (simp only [List.length_drop, List.length_take]; rfl)) ?_; (with_reducible refine (region_Add.calls k _ _ t333 a2_0 a2_1 a2_2 t337 t340 _ ?side1 ?side2 A10.out).mono ?_); (case side1 => repeat (first | exact (Kd.R_reads' HO335.out).2.2 | (with_reducible refine Kd.C_alloc ?_ _) | (with_reducible refine Kd.C_drewN ?_ _) | (with_reducible refine Kd.C_drew ?_))); (case side2 => exact (Kd.R_reads' HO335.out).2.1); rintro e w21 ⟨v338, rfl, ho0, hb⟩; refine ⟨_, rfl, ?_⟩; have n0_ := Aside0.mk (Kd.R_elder' (by (with_reducible repeat (first | apply Kd.R_alloc | apply Kd.R_drewN | apply Kd.R_drew)); exact HO335.out) (Kd.R_base ho0) hb); have n1_ := Aside0.mk (Kd.R_lower (Kd.R_newB (Kd.R_newB (Kd.R_new' ho0 (Kd.R_lt (by (with_reducible repeat (first | apply Kd.R_alloc | apply Kd.R_drewN | apply Kd.R_drew)); exact HO335.out))) (g := gb330) (o := .cells #[.int .i64 a1_0, .int .i64 a1_1, .bool a1_2] 24 (0, 0)) (by (with_reducible repeat (first | refine blk_drewN ?_ _ | refine blk_drew ?_ | refine blk_alloc ?_ _)); exact BK330.out)) (g := gb331) (o := .cells #[.int .i64 a2_0, .int .i64 a2_1, .bool a2_2] 24 (0, 0)) (by (with_reducible repeat (first | refine blk_drewN ?_ _ | refine blk_drew ?_ | refine blk_alloc ?_ _)); exact BK331.out)) (below_size (by repeat (first | (with_reducible first | exact HB.out | apply below_alloc | apply pw_below_drewN | apply below_drew1 | refine below_set ?_ GE330.out | refine below_set ?_ GE331.out) | exact HB.out)))); have n2_ := Aside0.mk (blk_below (g := gb330) (o := .cells #[.int .i64 a1_0, .int .i64 a1_1, .bool a1_2] 24 (0, 0)) (by (with_reducible repeat (first | refine blk_drewN ?_ _ | refine blk_drew ?_ | refine blk_alloc ?_ _)); exact BK330.out) hb); have n3_ := Aside0.mk (blk_below (g := gb331) (o := .cells #[.int .i64 a2_0, .int .i64 a2_1, .bool a2_2] 24 (0, 0)) (by (with_reducible repeat (first | refine blk_drewN ?_ _ | refine blk_drew ?_ | refine blk_alloc ?_ _)); exact BK331.out) hb); have n4_ := Aside0.mk (below_step (by repeat (first | (with_reducible first | exact HB.out | apply below_alloc | apply pw_below_drewN | apply below_drew1 | refine below_set ?_ GE330.out | refine below_set ?_ GE331.out) | exact HB.out)) hb); clear HO335; clear BK330; clear BK331; clear HB; have HO335 := n0_; have HO339 := n1_; have BK330 := n2_; have BK331 := n3_; have HB := n4_; clear n0_ n1_ n2_ n3_ n4_; (try clear hb); (try clear hb2); (try clear hk); (try clear hi); (try clear ho0); have hcz22_0 : w21.cell? ⟨gb331, 0, none⟩ = some (.int .i64 a2_0) := (blk_cell BK331.out 0).trans rfl; have hcz22_1 : w21.cell? ⟨gb331, 1, none⟩ = some (.int .i64 a2_1) := (blk_cell BK331.out 1).trans rfl; have hcz22_2 : w21.cell? ⟨gb331, 2, none⟩ = some (.bool a2_2) := (blk_cell BK331.out 2).trans rfl; have hfz22_0 := blk_frozen BK331.out 0; have hfz22_1 := blk_frozen BK331.out 1; have hfz22_2 := blk_frozen BK331.out 2) | ((with_reducible refine gate_callee (f := 11) rfl ?_); refine goesL_ (some 38) rfl rfl Try.func11 (by kernel_rfl) rfl #[.slice A0 l0.length c0, .agg #[.int .i64 a2_0, .int .i64 a2_1, .bool a2_2]] rfl (by (try simp only [List.map_toArray, List.map_cons, List.map_nil]); first | done | rfl | (simp only [List.length_drop, List.length_take]; rfl)) ?_; (with_reducible refine (region_Add.calls k _ _ l0 a2_0 a2_1 a2_2 t341 t344 _ ?side1 ?side2 A11.out).mono ?_); (case side1 => repeat (first | exact (Kd.C_below HR0.out HB.out) | (with_reducible refine Kd.C_alloc ?_ _) | (with_reducible refine Kd.C_drewN ?_ _) | (with_reducible refine Kd.C_drew ?_))); (case side2 => exact HC0.out); rintro e w23 ⟨v342, rfl, ho0, hb⟩; refine ⟨_, rfl, ?_⟩; have n0_ := Aside0.mk (Kd.R_elder' (by (with_reducible repeat (first | apply Kd.R_alloc | apply Kd.R_drewN | apply Kd.R_drew)); exact HO335.out) (Kd.R_base ho0) hb); have n1_ := Aside0.mk (Kd.R_elder' (by (with_reducible repeat (first | apply Kd.R_alloc | apply Kd.R_drewN | apply Kd.R_drew)); exact HO339.out) (Kd.R_base ho0) hb); have n2_ := Aside0.mk (Kd.R_lower (Kd.R_newB (Kd.R_newB (Kd.R_new' (Kd.R_new' ho0 (Kd.R_lt (by (with_reducible repeat (first | apply Kd.R_alloc | apply Kd.R_drewN | apply Kd.R_drew)); exact HO335.out))) (Kd.R_lt (by (with_reducible repeat (first | apply Kd.R_alloc | apply Kd.R_drewN | apply Kd.R_drew)); exact HO339.out))) (g := gb330) (o := .cells #[.int .i64 a1_0, .int .i64 a1_1, .bool a1_2] 24 (0, 0)) (by (with_reducible repeat (first | refine blk_drewN ?_ _ | refine blk_drew ?_ | refine blk_alloc ?_ _)); exact BK330.out)) (g := gb331) (o := .cells #[.int .i64 a2_0, .int .i64 a2_1, .bool a2_2] 24 (0, 0)) (by (with_reducible repeat (first | refine blk_drewN ?_ _ | refine blk_drew ?_ | refine blk_alloc ?_ _)); exact BK331.out)) (below_size (by repeat (first | (with_reducible first | exact HB.out | apply below_alloc | apply pw_below_drewN | apply below_drew1 | refine below_set ?_ GE330.out | refine below_set ?_ GE331.out) | exact HB.out)))); have n3_ := Aside0.mk (blk_below (g := gb330) (o := .cells #[.int .i64 a1_0, .int .i64 a1_1, .bool a1_2] 24 (0, 0)) (by (with_reducible repeat (first | refine blk_drewN ?_ _ | refine blk_drew ?_ | refine blk_alloc ?_ _)); exact BK330.out) hb); have n4_ := Aside0.mk (blk_below (g := gb331) (o := .cells #[.int .i64 a2_0, .int .i64 a2_1, .bool a2_2] 24 (0, 0)) (by (with_reducible repeat (first | refine blk_drewN ?_ _ | refine blk_drew ?_ | refine blk_alloc ?_ _)); exact BK331.out) hb); have n5_ := Aside0.mk (below_step (by repeat (first | (with_reducible first | exact HB.out | apply below_alloc | apply pw_below_drewN | apply below_drew1 | refine below_set ?_ GE330.out | refine below_set ?_ GE331.out) | exact HB.out)) hb); clear HO335; clear HO339; clear BK330; clear BK331; clear HB; have HO335 := n0_; have HO339 := n1_; have HO343 := n2_; have BK330 := n3_; have BK331 := n4_; have HB := n5_; clear n0_ n1_ n2_ n3_ n4_ n5_; (try clear hb); (try clear hb2); (try clear hk); (try clear hi); (try clear ho0); have hcz24_0 : w23.cell? ⟨gb330, 0, none⟩ = some (.int .i64 a1_0) := (blk_cell BK330.out 0).trans rfl; have hcz24_1 : w23.cell? ⟨gb330, 1, none⟩ = some (.int .i64 a1_1) := (blk_cell BK330.out 1).trans rfl; have hcz24_2 : w23.cell? ⟨gb330, 2, none⟩ = some (.bool a1_2) := (blk_cell BK330.out 2).trans rfl; have hfz24_0 := blk_frozen BK330.out 0; have hfz24_1 := blk_frozen BK330.out 1; have hfz24_2 := blk_frozen BK330.out 2; obtain ⟨Ao25, co25, eo25⟩ := Kd.R_slice HO343.out; subst eo25) | ((with_reducible refine gate_callee (f := 11) rfl ?_); refine goesL_ (some 44) rfl rfl Try.func11 (by kernel_rfl) rfl #[.slice Ao25 t341.length co25, .agg #[.int .i64 a1_0, .int .i64 a1_1, .bool a1_2]] rfl (by (try simp only [List.map_toArray, List.map_cons, List.map_nil]); first | done | rfl | (simp only [List.length_drop, List.length_take]; rfl)) ?_; (with_reducible refine (region_Add.calls k _ _ t341 a1_0 a1_1 a1_2 t345 t348 _ ?side1 ?side2 A12.out).mono ?_); (case side1 => repeat (first | exact (Kd.R_reads' HO343.out).2.2 | (with_reducible refine Kd.C_alloc ?_ _) | (with_reducible refine Kd.C_drewN ?_ _) | (with_reducible refine Kd.C_drew ?_))); (case side2 => exact (Kd.R_reads' HO343.out).2.1); rintro e w26 ⟨v346, rfl, ho0, hb⟩; refine ⟨_, rfl, ?_⟩; have n0_ := Aside0.mk (Kd.R_elder' (by (with_reducible repeat (first | apply Kd.R_alloc | apply Kd.R_drewN | apply Kd.R_drew)); exact HO335.out) (Kd.R_base ho0) hb); have n1_ := Aside0.mk (Kd.R_elder' (by (with_reducible repeat (first | apply Kd.R_alloc | apply Kd.R_drewN | apply Kd.R_drew)); exact HO339.out) (Kd.R_base ho0) hb); have n2_ := Aside0.mk (Kd.R_elder' (by (with_reducible repeat (first | apply Kd.R_alloc | apply Kd.R_drewN | apply Kd.R_drew)); exact HO343.out) (Kd.R_base ho0) hb); have n3_ := Aside0.mk (Kd.R_lower (Kd.R_newB (Kd.R_newB (Kd.R_new' (Kd.R_new' (Kd.R_new' ho0 (Kd.R_lt (by (with_reducible repeat (first | apply Kd.R_alloc | apply Kd.R_drewN | apply Kd.R_drew)); exact HO335.out))) (Kd.R_lt (by (with_reducible repeat (first | apply Kd.R_alloc | apply Kd.R_drewN | apply Kd.R_drew)); exact HO339.out))) (Kd.R_lt (by (with_reducible repeat (first | apply Kd.R_alloc | apply Kd.R_drewN | apply Kd.R_drew)); exact HO343.out))) (g := gb330) (o := .cells #[.int .i64 a1_0, .int .i64 a1_1, .bool a1_2] 24 (0, 0)) (by (with_reducible repeat (first | refine blk_drewN ?_ _ | refine blk_drew ?_ | refine blk_alloc ?_ _)); exact BK330.out)) (g := gb331) (o := .cells #[.int .i64 a2_0, .int .i64 a2_1, .bool a2_2] 24 (0, 0)) (by (with_reducible repeat (first | refine blk_drewN ?_ _ | refine blk_drew ?_ | refine blk_alloc ?_ _)); exact BK331.out)) (below_size (by repeat (first | (with_reducible first | exact HB.out | apply below_alloc | apply pw_below_drewN | apply below_drew1 | refine below_set ?_ GE330.out | refine below_set ?_ GE331.out) | exact HB.out)))); have n4_ := Aside0.mk (blk_below (g := gb330) (o := .cells #[.int .i64 a1_0, .int .i64 a1_1, .bool a1_2] 24 (0, 0)) (by (with_reducible repeat (first | refine blk_drewN ?_ _ | refine blk_drew ?_ | refine blk_alloc ?_ _)); exact BK330.out) hb); have n5_ := Aside0.mk (blk_below (g := gb331) (o := .cells #[.int .i64 a2_0, .int .i64 a2_1, .bool a2_2] 24 (0, 0)) (by (with_reducible repeat (first | refine blk_drewN ?_ _ | refine blk_drew ?_ | refine blk_alloc ?_ _)); exact BK331.out) hb); have n6_ := Aside0.mk (below_step (by repeat (first | (with_reducible first | exact HB.out | apply below_alloc | apply pw_below_drewN | apply below_drew1 | refine below_set ?_ GE330.out | refine below_set ?_ GE331.out) | exact HB.out)) hb); clear HO335; clear HO339; clear HO343; clear BK330; clear BK331; clear HB; have HO335 := n0_; have HO339 := n1_; have HO343 := n2_; have HO347 := n3_; have BK330 := n4_; have BK331 := n5_; have HB := n6_; clear n0_ n1_ n2_ n3_ n4_ n5_ n6_; (try clear hb); (try clear hb2); (try clear hk); (try clear hi); (try clear ho0)))
    (try simp only [Act.put, List.setIfInBounds_toArray, List.set_cons_zero, List.set_cons_succ])
    go_cut [66] (fun v66 wc => ∃ (kq : Nat) (x66_12 : Bool), v66 = .bool x66_12 ∧ Aside0 (priorylaw14_RegionOrder.j0 kq l0 t333 t336 x66_12 a1_0 a1_1 a1_2 = some r) ∧ Aside0 (kq ≤ k) ∧ Aside0 (Kd.R k24 24 wc w.heap.size (fun k_ => k_ ≠ gb330 ∧ k_ ≠ gb331) (.slice Ao20 t333.length co20) t333) ∧ Aside0 (wc.heap[gb330]? = some (.cells #[.int .i64 a1_0, .int .i64 a1_1, .bool a1_2] 24 (0, 0))) ∧ Aside0 (wc.heap[gb331]? = some (.cells #[.int .i64 a2_0, .int .i64 a2_1, .bool a2_2] 24 (0, 0))) ∧ Aside0 (Below w.heap.size w wc))
    case first =>
      have H := HC13.out
      clear HC13
      by_cases c27 : t336 = 0
      · rw [if_pos c27] at H
        have c27b0 : (t336 == 0) = true := beq_iff_eq.mpr c27
        have c27b1 : (t336 != 0) = false := bne_eq_false_iff_eq.mpr c27
        clear c27
        (first | rw [c27b0] | (simp only [i64_w, i32_w]; rw [c27b0]) | skip)
        by_cases c28 : t340 = 0
        · rw [if_pos c28] at H
          have c28b0 : (t340 == 0) = true := beq_iff_eq.mpr c28
          have c28b1 : (t340 != 0) = false := bne_eq_false_iff_eq.mpr c28
          clear c28
          by_cases c29 : t344 = 0
          · rw [if_pos c29] at H
            have c29b0 : (t344 == 0) = true := beq_iff_eq.mpr c29
            have c29b1 : (t344 != 0) = false := bne_eq_false_iff_eq.mpr c29
            clear c29
            by_cases c30 : t348 = 0
            · rw [if_pos c30] at H
              have c30b0 : (t348 == 0) = true := beq_iff_eq.mpr c30
              have c30b1 : (t348 != 0) = false := bne_eq_false_iff_eq.mpr c30
              clear c30
              replace H := Option.bind_eq_some_iff.mp H
              obtain ⟨t349, A310, H⟩ := H
              replace H : (priorylaw14_RegionOrder.j0 k l0 t333 t336 (!t349) a1_0 a1_1 a1_2) = some r := H
              have A31 := Aside0.mk A310
              clear A310
              have H' := Aside0.mk H
              clear H
              obtain ⟨Ao32, co32, eo32⟩ := Kd.R_slice HO339.out
              subst eo32
              obtain ⟨Ao33, co33, eo33⟩ := Kd.R_slice HO347.out
              subst eo33
              go_wp2_with (first | (go_at_call 13; (with_reducible refine (prioryref14_Same.calls k _ _ t337 _ _ t345 t349 _ ?side1 ?side2 ?side3 ?side4 A31.out).mono ?_); (case side1 => repeat (first | exact (Kd.R_reads' HO339.out).2.2 | (with_reducible refine Kd.C_alloc ?_ _) | (with_reducible refine Kd.C_drewN ?_ _) | (with_reducible refine Kd.C_drew ?_))); (case side2 => exact (Kd.R_reads' HO339.out).2.1); (case side3 => repeat (first | exact (Kd.R_reads' HO347.out).2.2 | (with_reducible refine Kd.C_alloc ?_ _) | (with_reducible refine Kd.C_drewN ?_ _) | (with_reducible refine Kd.C_drew ?_))); (case side4 => exact (Kd.R_reads' HO347.out).2.1); rintro e w' ⟨rfl, ⟨nd, rfl⟩⟩))
              go_meet
              case rel => exact ⟨_, (!t349), (by first | rfl | (simp; done) | (simp [*]; done)), H', ⟨by first | omega | exact Nat.le_refl _⟩, ⟨by (with_reducible repeat (first | apply Kd.R_alloc | apply Kd.R_drewN | apply Kd.R_drew)); exact Kd.R_mono HO335.out (fun _ hk => ⟨hk.1.1.1.1.2, hk.1.1.1.2⟩)⟩, ⟨by (with_reducible repeat (first | refine blk_drewN ?_ _ | refine blk_drew ?_ | refine blk_alloc ?_ _)); exact BK330.out⟩, ⟨by (with_reducible repeat (first | refine blk_drewN ?_ _ | refine blk_drew ?_ | refine blk_alloc ?_ _)); exact BK331.out⟩, ⟨by repeat (first | (with_reducible first | exact HB.out | apply below_alloc | apply pw_below_drewN | apply below_drew1 | refine below_set ?_ GE330.out | refine below_set ?_ GE331.out) | exact HB.out)⟩⟩
            · rw [if_neg c30] at H
              have c30b0 : (t348 == 0) = false := beq_eq_false_iff_ne.mpr c30
              have c30b1 : (t348 != 0) = true := bne_iff_ne.mpr c30
              have H' := Aside0.mk H
              clear H
              go_wp2
              go_meet
              case rel => exact ⟨_, (true), (by first | rfl | (simp; done) | (simp [*]; done)), H', ⟨by first | omega | exact Nat.le_refl _⟩, ⟨by (with_reducible repeat (first | apply Kd.R_alloc | apply Kd.R_drewN | apply Kd.R_drew)); exact Kd.R_mono HO335.out (fun _ hk => ⟨hk.1.1.1.1.2, hk.1.1.1.2⟩)⟩, ⟨by (with_reducible repeat (first | refine blk_drewN ?_ _ | refine blk_drew ?_ | refine blk_alloc ?_ _)); exact BK330.out⟩, ⟨by (with_reducible repeat (first | refine blk_drewN ?_ _ | refine blk_drew ?_ | refine blk_alloc ?_ _)); exact BK331.out⟩, ⟨by repeat (first | (with_reducible first | exact HB.out | apply below_alloc | apply pw_below_drewN | apply below_drew1 | refine below_set ?_ GE330.out | refine below_set ?_ GE331.out) | exact HB.out)⟩⟩
          · rw [if_neg c29] at H
            have c29b0 : (t344 == 0) = false := beq_eq_false_iff_ne.mpr c29
            have c29b1 : (t344 != 0) = true := bne_iff_ne.mpr c29
            have H' := Aside0.mk H
            clear H
            go_wp2
            go_meet
            case rel => exact ⟨_, (false), (by first | rfl | (simp; done) | (simp [*]; done)), H', ⟨by first | omega | exact Nat.le_refl _⟩, ⟨by (with_reducible repeat (first | apply Kd.R_alloc | apply Kd.R_drewN | apply Kd.R_drew)); exact Kd.R_mono HO335.out (fun _ hk => ⟨hk.1.1.1.1.2, hk.1.1.1.2⟩)⟩, ⟨by (with_reducible repeat (first | refine blk_drewN ?_ _ | refine blk_drew ?_ | refine blk_alloc ?_ _)); exact BK330.out⟩, ⟨by (with_reducible repeat (first | refine blk_drewN ?_ _ | refine blk_drew ?_ | refine blk_alloc ?_ _)); exact BK331.out⟩, ⟨by repeat (first | (with_reducible first | exact HB.out | apply below_alloc | apply pw_below_drewN | apply below_drew1 | refine below_set ?_ GE330.out | refine below_set ?_ GE331.out) | exact HB.out)⟩⟩
        · rw [if_neg c28] at H
          have c28b0 : (t340 == 0) = false := beq_eq_false_iff_ne.mpr c28
          have c28b1 : (t340 != 0) = true := bne_iff_ne.mpr c28
          have H' := Aside0.mk H
          clear H
          go_wp2
          go_meet
          case rel => exact ⟨_, (false), (by first | rfl | (simp; done) | (simp [*]; done)), H', ⟨by first | omega | exact Nat.le_refl _⟩, ⟨by (with_reducible repeat (first | apply Kd.R_alloc | apply Kd.R_drewN | apply Kd.R_drew)); exact Kd.R_mono HO335.out (fun _ hk => ⟨hk.1.1.1.1.2, hk.1.1.1.2⟩)⟩, ⟨by (with_reducible repeat (first | refine blk_drewN ?_ _ | refine blk_drew ?_ | refine blk_alloc ?_ _)); exact BK330.out⟩, ⟨by (with_reducible repeat (first | refine blk_drewN ?_ _ | refine blk_drew ?_ | refine blk_alloc ?_ _)); exact BK331.out⟩, ⟨by repeat (first | (with_reducible first | exact HB.out | apply below_alloc | apply pw_below_drewN | apply below_drew1 | refine below_set ?_ GE330.out | refine below_set ?_ GE331.out) | exact HB.out)⟩⟩
      · rw [if_neg c27] at H
        have c27b0 : (t336 == 0) = false := beq_eq_false_iff_ne.mpr c27
        have c27b1 : (t336 != 0) = true := bne_iff_ne.mpr c27
        (first | rw [c27b0] | (simp only [i64_w, i32_w]; rw [c27b0]) | skip)
        have H' := Aside0.mk H
        clear H
        go_wp2
        go_meet
        case rel => exact ⟨_, (false), (by first | rfl | (simp; done) | (simp [*]; done)), H', ⟨by first | omega | exact Nat.le_refl _⟩, ⟨by (with_reducible repeat (first | apply Kd.R_alloc | apply Kd.R_drewN | apply Kd.R_drew)); exact Kd.R_mono HO335.out (fun _ hk => ⟨hk.1.1.1.1.2, hk.1.1.1.2⟩)⟩, ⟨by (with_reducible repeat (first | refine blk_drewN ?_ _ | refine blk_drew ?_ | refine blk_alloc ?_ _)); exact BK330.out⟩, ⟨by (with_reducible repeat (first | refine blk_drewN ?_ _ | refine blk_drew ?_ | refine blk_alloc ?_ _)); exact BK331.out⟩, ⟨by repeat (first | (with_reducible first | exact HB.out | apply below_alloc | apply pw_below_drewN | apply below_drew1 | refine below_set ?_ GE330.out | refine below_set ?_ GE331.out) | exact HB.out)⟩⟩
    case rest =>
      clear HC13
      try clear c1
      try clear c2
      try clear p2
      try clear c3
      try clear c4
      try clear c4b0
      try clear c4b1
      try clear c5
      try clear c10
      try clear c11
      try clear c16
      try clear c27
      try clear c27b0
      try clear c27b1
      try clear c28
      try clear c28b0
      try clear c28b1
      try clear c29
      try clear c29b0
      try clear c29b1
      try clear c30
      try clear c30b0
      try clear c30b1
      try clear hcz17_0
      try clear hcz17_1
      try clear hcz17_2
      try clear hcz19_0
      try clear hcz19_1
      try clear hcz19_2
      try clear hcz22_0
      try clear hcz22_1
      try clear hcz22_2
      try clear hcz24_0
      try clear hcz24_1
      try clear hcz24_2
      try clear hfz17_0
      try clear hfz17_1
      try clear hfz17_2
      try clear hfz19_0
      try clear hfz19_1
      try clear hfz19_2
      try clear hfz22_0
      try clear hfz22_1
      try clear hfz22_2
      try clear hfz24_0
      try clear hfz24_1
      try clear hfz24_2
      obtain ⟨kq, x66_12, rfl, HA, HJ12, HO_7, BK330, BK331, HB⟩ := hcut
      cases kq with
      | zero => exact absurd HA.out (by simp [priorylaw14_RegionOrder.j0])
      | succ kj12 =>
        have H := HA.out
        clear HA
        simp only [priorylaw14_RegionOrder.j0] at H
        by_cases c34 : x66_12 = true
        · subst c34
          have H1 : (some false) = some r := by rw [if_pos rfl] at H; exact H
          clear H
          have H := H1
          clear H1
          obtain rfl := Option.some.inj H
          go_wp2
          go_ret
          exact ⟨by first | rfl | (simp [errW_none, errW_some] <;> rfl) | (simp [*, errW_none, errW_some] <;> rfl), by repeat (first | (with_reducible first | exact HB.out | apply below_alloc | apply pw_below_drewN | apply below_drew1 | refine below_set ?_ GE330.out | refine below_set ?_ GE331.out) | exact HB.out)⟩
        · replace c34 := Bool.eq_false_iff.mpr c34
          subst c34
          have H1 : (if t336 = 0 then (priorylaw14_RegionOrder.j1 kj12 l0 t333 (decide (a1_1 > 20)) a1_0 a1_1 a1_2) else (priorylaw14_RegionOrder.j1 kj12 l0 t333 true a1_0 a1_1 a1_2)) = some r := by rw [if_neg (show ¬ (false = true) by decide)] at H; exact H
          clear H
          have H := H1
          clear H1
          have HC35 := Aside0.mk H
          clear H
          go_upto_region 9 with (fail)
          go_cut [73] (fun v73 wc => ∃ (kq : Nat) (x73_34 : Bool), v73 = .bool x73_34 ∧ Aside0 (priorylaw14_RegionOrder.j1 kq l0 t333 x73_34 a1_0 a1_1 a1_2 = some r) ∧ Aside0 (kq ≤ kj12) ∧ Aside0 (Kd.R k24 24 wc w.heap.size (fun k_ => k_ ≠ gb330 ∧ k_ ≠ gb331) (.slice Ao20 t333.length co20) t333) ∧ Aside0 (wc.heap[gb330]? = some (.cells #[.int .i64 a1_0, .int .i64 a1_1, .bool a1_2] 24 (0, 0))) ∧ Aside0 (wc.heap[gb331]? = some (.cells #[.int .i64 a2_0, .int .i64 a2_1, .bool a2_2] 24 (0, 0))) ∧ Aside0 (Below w.heap.size w wc))
          case first =>
            have H := HC35.out
            clear HC35
            by_cases c36 : t336 = 0
            · rw [if_pos c36] at H
              have c36b0 : (t336 == 0) = true := beq_iff_eq.mpr c36
              have c36b1 : (t336 != 0) = false := bne_eq_false_iff_eq.mpr c36
              clear c36
              (first | rw [c36b0] | (simp only [i64_w, i32_w]; rw [c36b0]) | skip)
              have H' := Aside0.mk H
              clear H
              have hnb37 := NB330_331.out
              have hnc37 := NB331_330.out
              have hcz38_0 : wc.cell? ⟨gb330, 0, none⟩ = some (.int .i64 a1_0) := (blk_cell BK330.out 0).trans rfl
              have hcz38_1 : wc.cell? ⟨gb330, 1, none⟩ = some (.int .i64 a1_1) := (blk_cell BK330.out 1).trans rfl
              have hcz38_2 : wc.cell? ⟨gb330, 2, none⟩ = some (.bool a1_2) := (blk_cell BK330.out 2).trans rfl
              have hfz38_0 := blk_frozen BK330.out 0
              have hfz38_1 := blk_frozen BK330.out 1
              have hfz38_2 := blk_frozen BK330.out 2
              go_wp2
              go_meet
              case rel => exact ⟨_, (decide (a1_1 > 20)), (by first | rfl | (simp; done) | (simp [*]; done)), H', ⟨by have := HJ12.out; first | omega | exact Nat.le_refl _⟩, ⟨by (with_reducible repeat (first | apply Kd.R_alloc | apply Kd.R_drewN | apply Kd.R_drew)); exact HO_7.out⟩, ⟨by (with_reducible repeat (first | refine blk_drewN ?_ _ | refine blk_drew ?_ | refine blk_alloc ?_ _)); exact BK330.out⟩, ⟨by (with_reducible repeat (first | refine blk_drewN ?_ _ | refine blk_drew ?_ | refine blk_alloc ?_ _)); exact BK331.out⟩, ⟨by repeat (first | (with_reducible first | exact HB.out | apply below_alloc | apply pw_below_drewN | apply below_drew1 | refine below_set ?_ GE330.out | refine below_set ?_ GE331.out) | exact HB.out)⟩⟩
            · rw [if_neg c36] at H
              have c36b0 : (t336 == 0) = false := beq_eq_false_iff_ne.mpr c36
              have c36b1 : (t336 != 0) = true := bne_iff_ne.mpr c36
              (first | rw [c36b0] | (simp only [i64_w, i32_w]; rw [c36b0]) | skip)
              have H' := Aside0.mk H
              clear H
              go_wp2
              go_meet
              case rel => exact ⟨_, (true), (by first | rfl | (simp; done) | (simp [*]; done)), H', ⟨by have := HJ12.out; first | omega | exact Nat.le_refl _⟩, ⟨by (with_reducible repeat (first | apply Kd.R_alloc | apply Kd.R_drewN | apply Kd.R_drew)); exact HO_7.out⟩, ⟨by (with_reducible repeat (first | refine blk_drewN ?_ _ | refine blk_drew ?_ | refine blk_alloc ?_ _)); exact BK330.out⟩, ⟨by (with_reducible repeat (first | refine blk_drewN ?_ _ | refine blk_drew ?_ | refine blk_alloc ?_ _)); exact BK331.out⟩, ⟨by repeat (first | (with_reducible first | exact HB.out | apply below_alloc | apply pw_below_drewN | apply below_drew1 | refine below_set ?_ GE330.out | refine below_set ?_ GE331.out) | exact HB.out)⟩⟩
          case rest =>
            clear HC35
            try clear c1
            try clear c2
            try clear p2
            try clear c3
            try clear c4
            try clear c4b0
            try clear c4b1
            try clear c5
            try clear c10
            try clear c11
            try clear c16
            try clear c27
            try clear c27b0
            try clear c27b1
            try clear c28
            try clear c28b0
            try clear c28b1
            try clear c29
            try clear c29b0
            try clear c29b1
            try clear c30
            try clear c30b0
            try clear c30b1
            try clear c34
            try clear c36
            try clear c36b0
            try clear c36b1
            try clear c37
            try clear hcz17_0
            try clear hcz17_1
            try clear hcz17_2
            try clear hcz19_0
            try clear hcz19_1
            try clear hcz19_2
            try clear hcz22_0
            try clear hcz22_1
            try clear hcz22_2
            try clear hcz24_0
            try clear hcz24_1
            try clear hcz24_2
            try clear hcz38_0
            try clear hcz38_1
            try clear hcz38_2
            try clear hfz17_0
            try clear hfz17_1
            try clear hfz17_2
            try clear hfz19_0
            try clear hfz19_1
            try clear hfz19_2
            try clear hfz22_0
            try clear hfz22_1
            try clear hfz22_2
            try clear hfz24_0
            try clear hfz24_1
            try clear hfz24_2
            try clear hfz38_0
            try clear hfz38_1
            try clear hfz38_2
            try clear p2
            obtain ⟨kq, x73_34, rfl, HA, HJ34, HO_7, BK330, BK331, HB⟩ := hcut
            cases kq with
            | zero => exact absurd HA.out (by simp [priorylaw14_RegionOrder.j1])
            | succ kj34 =>
              have H := HA.out
              clear HA
              simp only [priorylaw14_RegionOrder.j1] at H
              by_cases c39 : x73_34 = true
              · subst c39
                have H1 : ((priorylaw14_awake.f kj34).bind fun t350 => (some t350)) = some r := by rw [if_pos rfl] at H; exact H
                clear H
                have H := H1
                clear H1
                replace H := Option.bind_eq_some_iff.mp H
                obtain ⟨t350, A400, H⟩ := H
                replace H : (some t350) = some r := H
                have A40 := Aside0.mk A400
                clear A400
                obtain rfl := Option.some.inj H
                go_wp2_with (first | ((with_reducible refine gate_callee (f := 10) rfl ?_); refine goesL_ (some 74) rfl rfl Try.func10 (by kernel_rfl) rfl #[] rfl (by (try simp only [List.map_toArray, List.map_cons, List.map_nil]); first | done | rfl | (simp only [List.length_drop, List.length_take]; rfl)) ?_; (with_reducible refine (priorylaw14_awake.calls kj34  t350 _ A40.out).mono ?_); rintro e w41 ⟨rfl, hb⟩; refine ⟨_, rfl, ?_⟩; have n0_ := Aside0.mk (Kd.R_below (by (with_reducible repeat (first | apply Kd.R_alloc | apply Kd.R_drewN | apply Kd.R_drew)); exact HO_7.out) hb); have n1_ := Aside0.mk (blk_below (g := gb330) (o := .cells #[.int .i64 a1_0, .int .i64 a1_1, .bool a1_2] 24 (0, 0)) (by (with_reducible repeat (first | refine blk_drewN ?_ _ | refine blk_drew ?_ | refine blk_alloc ?_ _)); exact BK330.out) hb); have n2_ := Aside0.mk (blk_below (g := gb331) (o := .cells #[.int .i64 a2_0, .int .i64 a2_1, .bool a2_2] 24 (0, 0)) (by (with_reducible repeat (first | refine blk_drewN ?_ _ | refine blk_drew ?_ | refine blk_alloc ?_ _)); exact BK331.out) hb); have n3_ := Aside0.mk (below_step (by repeat (first | (with_reducible first | exact HB.out | apply below_alloc | apply pw_below_drewN | apply below_drew1 | refine below_set ?_ GE330.out | refine below_set ?_ GE331.out) | exact HB.out)) hb); clear HO_7; clear BK330; clear BK331; clear HB; have HO_7 := n0_; have BK330 := n1_; have BK331 := n2_; have HB := n3_; clear n0_ n1_ n2_ n3_; (try clear hb); (try clear hb2); (try clear hk); (try clear hi)))
                go_ret
                exact ⟨by first | rfl | (simp [errW_none, errW_some] <;> rfl) | (simp [*, errW_none, errW_some] <;> rfl), by repeat (first | (with_reducible first | exact HB.out | apply below_alloc | apply pw_below_drewN | apply below_drew1 | refine below_set ?_ GE330.out | refine below_set ?_ GE331.out) | exact HB.out)⟩
              · replace c39 := Bool.eq_false_iff.mpr c39
                subst c39
                have H1 : ((some (([] : List (S24)) : List (S24))).bind fun y351 => (if y351.length + l0.length < 5864062014805 then (priorylaw14_RegionOrder.l0 kj34 t333 (y351 ++ l0) a1_0 a1_0 a1_1 a1_2) else (none))) = some r := by rw [if_neg (show ¬ (false = true) by decide)] at H; exact H
                clear H
                have H := H1
                clear H1
                obtain ⟨y351, hy351⟩ : ∃ y_ : List (S24), y_ = (([] : List (S24))) := ⟨_, rfl⟩
                replace H : (if y351.length + l0.length < 5864062014805 then (priorylaw14_RegionOrder.l0 kj34 t333 (y351 ++ l0) a1_0 a1_0 a1_1 a1_2) else (none)) = some r := by first | (rw [hy351]; with_reducible exact H) | (have H2_ := (Option.bind_some _ _).symm.trans H; rw [hy351]; with_reducible exact H2_) | (have H2_ := (Option.bind_some _ _).symm.trans H; with_reducible exact H2_) | with_reducible exact H | (rw [hy351]; exact H) | exact H
                have Ny351 := Aside0.mk hy351
                clear hy351
                by_cases c42 : y351.length + l0.length < 5864062014805
                · rw [if_pos c42] at H
                  have LMc42 := Aside0.mk c42
                  clear c42
                  obtain ⟨y354, hy354⟩ : ∃ y_ : List (S24), y_ = (y351 ++ l0) := ⟨_, rfl⟩
                  replace H : (priorylaw14_RegionOrder.l0 kj34 t333 y354 a1_0 a1_0 a1_1 a1_2) = some r := by first | (rw [hy354]; with_reducible exact H) | (have H2_ := (Option.bind_some _ _).symm.trans H; rw [hy354]; with_reducible exact H2_) | (have H2_ := (Option.bind_some _ _).symm.trans H; with_reducible exact H2_) | with_reducible exact H | (rw [hy354]; exact H) | exact H
                  have Ny354 := Aside0.mk hy354
                  clear hy354
                  have H' := Aside0.mk H
                  clear H
                  go_wp2_with (first | ((with_reducible refine gate_dst (N := 75) rfl ?_); refine Kd.R_lit k24 _ 24 ?hg (N := 75) ?hd (xs := ([] : List (S24))) (inner := []) (ok := fun _ => True) (okp := fun _ => True) ?hr ?hp (fun _ hk => hk) trivial (Below.refl _ _) (Nat.le_refl _) (by simp) ?_; (case hd => rfl); (case hg => rfl); (case hr => first | (go_simp; done) | (go_simp; rfl)); (case hp => exact (Reps.none _ _)); intro v352 w43 ho44 hb hg_ hnew_; clear hg_ hnew_; (first | rw [← Ny351.out] at ho44 | (simp only [Int.reduceToNat] at ho44; rw [← Ny351.out] at ho44)); have n0_ := Aside0.mk (Kd.R_elder' (by (with_reducible repeat (first | apply Kd.R_alloc | apply Kd.R_drewN | apply Kd.R_drew)); exact HO_7.out) (Kd.R_base ho44) hb); have n1_ := Aside0.mk (Kd.R_lower (Kd.R_newB (Kd.R_newB (Kd.R_new' ho44 (Kd.R_lt (by (with_reducible repeat (first | apply Kd.R_alloc | apply Kd.R_drewN | apply Kd.R_drew)); exact HO_7.out))) (g := gb330) (o := .cells #[.int .i64 a1_0, .int .i64 a1_1, .bool a1_2] 24 (0, 0)) (by (with_reducible repeat (first | refine blk_drewN ?_ _ | refine blk_drew ?_ | refine blk_alloc ?_ _)); exact BK330.out)) (g := gb331) (o := .cells #[.int .i64 a2_0, .int .i64 a2_1, .bool a2_2] 24 (0, 0)) (by (with_reducible repeat (first | refine blk_drewN ?_ _ | refine blk_drew ?_ | refine blk_alloc ?_ _)); exact BK331.out)) (below_size (by repeat (first | (with_reducible first | exact HB.out | apply below_alloc | apply pw_below_drewN | apply below_drew1 | refine below_set ?_ GE330.out | refine below_set ?_ GE331.out) | exact HB.out)))); have n2_ := Aside0.mk (blk_below (g := gb330) (o := .cells #[.int .i64 a1_0, .int .i64 a1_1, .bool a1_2] 24 (0, 0)) (by (with_reducible repeat (first | refine blk_drewN ?_ _ | refine blk_drew ?_ | refine blk_alloc ?_ _)); exact BK330.out) hb); have n3_ := Aside0.mk (blk_below (g := gb331) (o := .cells #[.int .i64 a2_0, .int .i64 a2_1, .bool a2_2] 24 (0, 0)) (by (with_reducible repeat (first | refine blk_drewN ?_ _ | refine blk_drew ?_ | refine blk_alloc ?_ _)); exact BK331.out) hb); have n4_ := Aside0.mk (below_step (by repeat (first | (with_reducible first | exact HB.out | apply below_alloc | apply pw_below_drewN | apply below_drew1 | refine below_set ?_ GE330.out | refine below_set ?_ GE331.out) | exact HB.out)) hb); clear HO_7; clear BK330; clear BK331; clear HB; have HO_7 := n0_; have HO353 := n1_; have BK330 := n2_; have BK331 := n3_; have HB := n4_; clear n0_ n1_ n2_ n3_ n4_; clear hb ho44) | ((with_reducible refine gate_builtin (b := .append) (xs := #[.tmp 75, .tmp 76]) rfl ?_); at_builtin; refine Kd.R_append_rows k24 (w0 := w) w.heap.size rfl (.tmp 75) (.tmp 76) 22 24 (.agg #[(.int .i64 0), (.int .i64 0), (.bool false)]) 24 rfl Try.underlying22 info24 rfl (by decide) (by omega) v352 y351 l0 _ _ _ (fun k_ => some k_ ≠ (.slice Ao20 t333.length co20 : Value).ownBlock ∧ k_ ≠ gb330 ∧ k_ ≠ gb331) (fun _ => False) rfl rfl ?aO ?aR (fun _ _ h => h) (fun _ h => h.elim) ?aF ?aB ?aS ?aL ?_; (case aR => repeat (first | exact (Kd.C_below HR0.out HB.out) | (with_reducible refine Kd.C_alloc ?_ _) | (with_reducible refine Kd.C_drewN ?_ _) | (with_reducible refine Kd.C_drew ?_))); (case aB => exact (by repeat (first | (with_reducible first | exact HB.out | apply below_alloc | apply pw_below_drewN | apply below_drew1 | refine below_set ?_ GE330.out | refine below_set ?_ GE331.out) | exact HB.out))); (case aF => exact (fun k_ hk => ⟨Kd.fresh' (Kd.R_lt (by (with_reducible repeat (first | apply Kd.R_alloc | apply Kd.R_drewN | apply Kd.R_drew)); exact HO_7.out)) k_ hk, Kd.freshB (g := gb330) (o := .cells #[.int .i64 a1_0, .int .i64 a1_1, .bool a1_2] 24 (0, 0)) (by (with_reducible repeat (first | refine blk_drewN ?_ _ | refine blk_drew ?_ | refine blk_alloc ?_ _)); exact BK330.out) k_ hk, Kd.freshB (g := gb331) (o := .cells #[.int .i64 a2_0, .int .i64 a2_1, .bool a2_2] 24 (0, 0)) (by (with_reducible repeat (first | refine blk_drewN ?_ _ | refine blk_drew ?_ | refine blk_alloc ?_ _)); exact BK331.out) k_ hk⟩)); (case aO => exact (by (with_reducible repeat (first | apply Kd.R_alloc | apply Kd.R_drewN | apply Kd.R_drew)); exact Kd.R_mono HO353.out (fun _ hk => ⟨hk.1.1.2, ⟨hk.1.2, hk.2⟩⟩))); (case aS => exact (below_size (by repeat (first | (with_reducible first | exact HB.out | apply below_alloc | apply pw_below_drewN | apply below_drew1 | refine below_set ?_ GE330.out | refine below_set ?_ GE331.out) | exact HB.out)))); (case aL => have := LMc42.out; omega); intro v355 w45 ho hb hg hat; rw [← Ny354.out] at ho; have n0_ := Aside0.mk (Kd.R_after (ok := (fun k_ => k_ ≠ gb330 ∧ k_ ≠ gb331)) (by (with_reducible repeat (first | apply Kd.R_alloc | apply Kd.R_drewN | apply Kd.R_drew)); exact HO_7.out) hg hat); have n1_ := Aside0.mk (blk_grown (g := gb330) (o := .cells #[.int .i64 a1_0, .int .i64 a1_1, .bool a1_2] 24 (0, 0)) (by (with_reducible repeat (first | refine blk_drewN ?_ _ | refine blk_drew ?_ | refine blk_alloc ?_ _)); exact BK330.out) hg (Kd.R_away HO353.out (fun _ hk => hk.1.2))); have n2_ := Aside0.mk (blk_grown (g := gb331) (o := .cells #[.int .i64 a2_0, .int .i64 a2_1, .bool a2_2] 24 (0, 0)) (by (with_reducible repeat (first | refine blk_drewN ?_ _ | refine blk_drew ?_ | refine blk_alloc ?_ _)); exact BK331.out) hg (Kd.R_away HO353.out (fun _ hk => hk.2))); have n3_ := Aside0.mk (hb); have n4_ := Aside0.mk (ho); clear HO_7; clear BK330; clear BK331; clear HB; clear HO353; have HO_7 := n0_; have BK330 := n1_; have BK331 := n2_; have HB := n3_; have HO356 := n4_; clear n0_ n1_ n2_ n3_ n4_; clear ho hb hg hat; have hnb46 := NB330_331.out; have hnc46 := NB331_330.out; have hcz47_0 : w45.cell? ⟨gb330, 0, none⟩ = some (.int .i64 a1_0) := (blk_cell BK330.out 0).trans rfl; have hcz47_1 : w45.cell? ⟨gb330, 1, none⟩ = some (.int .i64 a1_1) := (blk_cell BK330.out 1).trans rfl; have hcz47_2 : w45.cell? ⟨gb330, 2, none⟩ = some (.bool a1_2) := (blk_cell BK330.out 2).trans rfl; have hfz47_0 := blk_frozen BK330.out 0; have hfz47_1 := blk_frozen BK330.out 1; have hfz47_2 := blk_frozen BK330.out 2))
                  go_loopg [15, 16] kj34 (fun kq v15 v16 w' => ∃ (x15_3 : List (S24)) (x16_3 : Int), v16 = .int .i64 x16_3 ∧ Aside0 (priorylaw14_RegionOrder.l0 kq t333 x15_3 x16_3 a1_0 a1_1 a1_2 = some r) ∧ Aside0 (kq ≤ kj34) ∧ Aside0 (Kd.R k24 24 w' w.heap.size (fun k_ => some k_ ≠ (v15 : Value).ownBlock ∧ k_ ≠ gb330 ∧ k_ ≠ gb331) (.slice Ao20 t333.length co20) t333) ∧ Aside0 (Kd.R k24 24 w' w.heap.size (fun k_ => some k_ ≠ ((.slice Ao20 t333.length co20) : Value).ownBlock ∧ k_ ≠ gb330 ∧ k_ ≠ gb331) v15 x15_3) ∧ Aside0 (w'.heap[gb330]? = some (.cells #[.int .i64 a1_0, .int .i64 a1_1, .bool a1_2] 24 (0, 0))) ∧ Aside0 (w'.heap[gb331]? = some (.cells #[.int .i64 a2_0, .int .i64 a2_1, .bool a2_2] 24 (0, 0))) ∧ Aside0 (Below w.heap.size w w'))
                  case atStart => exact ⟨(y354), (a1_0), (by first | rfl | (simp; done) | (simp [*]; done)), H', ⟨Nat.le_refl _⟩, ⟨by (with_reducible repeat (first | apply Kd.R_alloc | apply Kd.R_drewN | apply Kd.R_drew)); exact Kd.R_mono HO_7.out (fun _ hk => ⟨hk.2, ⟨hk.1.1, hk.1.2⟩⟩)⟩, ⟨by (with_reducible repeat (first | apply Kd.R_alloc | apply Kd.R_drewN | apply Kd.R_drew)); exact HO356.out⟩, ⟨by (with_reducible repeat (first | refine blk_drewN ?_ _ | refine blk_drew ?_ | refine blk_alloc ?_ _)); exact BK330.out⟩, ⟨by (with_reducible repeat (first | refine blk_drewN ?_ _ | refine blk_drew ?_ | refine blk_alloc ?_ _)); exact BK331.out⟩, ⟨by repeat (first | (with_reducible first | exact HB.out | apply below_alloc | apply pw_below_drewN | apply below_drew1 | refine below_set ?_ GE330.out | refine below_set ?_ GE331.out) | exact HB.out)⟩⟩
                  case round =>
                    clear H'
                    try clear c1
                    try clear c2
                    try clear p2
                    try clear c3
                    try clear c4
                    try clear c4b0
                    try clear c4b1
                    try clear c5
                    try clear c10
                    try clear c11
                    try clear c16
                    try clear c27
                    try clear c27b0
                    try clear c27b1
                    try clear c28
                    try clear c28b0
                    try clear c28b1
                    try clear c29
                    try clear c29b0
                    try clear c29b1
                    try clear c30
                    try clear c30b0
                    try clear c30b1
                    try clear c34
                    try clear c36
                    try clear c36b0
                    try clear c36b1
                    try clear c37
                    try clear c39
                    try clear c42
                    try clear c46
                    try clear hcz17_0
                    try clear hcz17_1
                    try clear hcz17_2
                    try clear hcz19_0
                    try clear hcz19_1
                    try clear hcz19_2
                    try clear hcz22_0
                    try clear hcz22_1
                    try clear hcz22_2
                    try clear hcz24_0
                    try clear hcz24_1
                    try clear hcz24_2
                    try clear hcz38_0
                    try clear hcz38_1
                    try clear hcz38_2
                    try clear hcz47_0
                    try clear hcz47_1
                    try clear hcz47_2
                    try clear hfz17_0
                    try clear hfz17_1
                    try clear hfz17_2
                    try clear hfz19_0
                    try clear hfz19_1
                    try clear hfz19_2
                    try clear hfz22_0
                    try clear hfz22_1
                    try clear hfz22_2
                    try clear hfz24_0
                    try clear hfz24_1
                    try clear hfz24_2
                    try clear hfz38_0
                    try clear hfz38_1
                    try clear hfz38_2
                    try clear hfz47_0
                    try clear hfz47_1
                    try clear hfz47_2
                    try clear p2
                    obtain ⟨x15_3, x16_3, rfl, HA, HK3, HO_7, HO_15, BK330, BK331, HB⟩ := hrel
                    cases gk with
                    | zero => exact absurd HA.out (by simp [priorylaw14_RegionOrder.l0])
                    | succ k3 =>
                      have H := HA.out
                      clear HA
                      simp only [priorylaw14_RegionOrder.l0] at H
                      by_cases c48 : x16_3 < (wrap64 (a1_0 + a1_1))
                      · rw [if_pos c48] at H
                        have c48b0 : decide (x16_3 < (wrap64 (a1_0 + a1_1))) = true := decide_eq_true c48
                        clear c48
                        replace H := Option.bind_eq_some_iff.mp H
                        obtain ⟨⟨t359, t362⟩, A490, H⟩ := H
                        replace H : (if t362 = 3 then ((priorylaw14_awake.f k3).bind fun t363 => (some t363)) else (if t362 = 0 then (priorylaw14_RegionOrder.l0 k3 t333 t359 (wrap64 (x16_3 + 1)) a1_0 a1_1 a1_2) else (some false))) = some r := H
                        have A49 := Aside0.mk A490
                        clear A490
                        by_cases c50 : t362 = 3
                        · rw [if_pos c50] at H
                          have c50b0 : (t362 == 3) = true := beq_iff_eq.mpr c50
                          have c50b1 : (t362 != 3) = false := bne_eq_false_iff_eq.mpr c50
                          clear c50
                          replace H := Option.bind_eq_some_iff.mp H
                          obtain ⟨t363, A510, H⟩ := H
                          replace H : (some t363) = some r := H
                          have A51 := Aside0.mk A510
                          clear A510
                          obtain rfl := Option.some.inj H
                          have hnb52 := NB330_331.out
                          have hnc52 := NB331_330.out
                          have hcz53_0 : wr.cell? ⟨gb330, 0, none⟩ = some (.int .i64 a1_0) := (blk_cell BK330.out 0).trans rfl
                          have hcz53_1 : wr.cell? ⟨gb330, 1, none⟩ = some (.int .i64 a1_1) := (blk_cell BK330.out 1).trans rfl
                          have hcz53_2 : wr.cell? ⟨gb330, 2, none⟩ = some (.bool a1_2) := (blk_cell BK330.out 2).trans rfl
                          have hfz53_0 := blk_frozen BK330.out 0
                          have hfz53_1 := blk_frozen BK330.out 1
                          have hfz53_2 := blk_frozen BK330.out 2
                          obtain ⟨Ao54, co54, eo54⟩ := Kd.R_slice HO_15.out
                          subst eo54
                          go_wp2_with (first | ((with_reducible refine gate_callee (f := 11) rfl ?_); refine goesL_ (some 95) rfl rfl Try.func11 (by kernel_rfl) rfl #[.slice Ao54 x15_3.length co54, .agg #[.int .i64 x16_3, .int .i64 1, .bool a1_2]] rfl (by (try simp only [List.map_toArray, List.map_cons, List.map_nil]); first | done | rfl | (simp only [List.length_drop, List.length_take]; rfl)) ?_; (with_reducible refine (region_Add.calls k3 _ _ x15_3 x16_3 1 a1_2 t359 t362 _ ?side1 ?side2 A49.out).mono ?_); (case side1 => repeat (first | exact (Kd.R_reads' HO_15.out).2.2 | (with_reducible refine Kd.C_alloc ?_ _) | (with_reducible refine Kd.C_drewN ?_ _) | (with_reducible refine Kd.C_drew ?_))); (case side2 => exact (Kd.R_reads' HO_15.out).2.1); rintro e w55 ⟨v360, rfl, ho0, hb⟩; refine ⟨_, rfl, ?_⟩; have n0_ := Aside0.mk (Kd.R_elder' (by (with_reducible repeat (first | apply Kd.R_alloc | apply Kd.R_drewN | apply Kd.R_drew)); exact HO_7.out) (Kd.R_base ho0) hb); have n1_ := Aside0.mk (Kd.R_elder' (by (with_reducible repeat (first | apply Kd.R_alloc | apply Kd.R_drewN | apply Kd.R_drew)); exact HO_15.out) (Kd.R_base ho0) hb); have n2_ := Aside0.mk (Kd.R_lower (Kd.R_newB (Kd.R_newB (Kd.R_new' (Kd.R_new' ho0 (Kd.R_lt (by (with_reducible repeat (first | apply Kd.R_alloc | apply Kd.R_drewN | apply Kd.R_drew)); exact HO_7.out))) (Kd.R_lt (by (with_reducible repeat (first | apply Kd.R_alloc | apply Kd.R_drewN | apply Kd.R_drew)); exact HO_15.out))) (g := gb330) (o := .cells #[.int .i64 a1_0, .int .i64 a1_1, .bool a1_2] 24 (0, 0)) (by (with_reducible repeat (first | refine blk_drewN ?_ _ | refine blk_drew ?_ | refine blk_alloc ?_ _)); exact BK330.out)) (g := gb331) (o := .cells #[.int .i64 a2_0, .int .i64 a2_1, .bool a2_2] 24 (0, 0)) (by (with_reducible repeat (first | refine blk_drewN ?_ _ | refine blk_drew ?_ | refine blk_alloc ?_ _)); exact BK331.out)) (below_size (by repeat (first | (with_reducible first | exact HB.out | apply below_alloc | apply pw_below_drewN | apply below_drew1 | refine below_set ?_ GE330.out | refine below_set ?_ GE331.out) | exact HB.out)))); have n3_ := Aside0.mk (blk_below (g := gb330) (o := .cells #[.int .i64 a1_0, .int .i64 a1_1, .bool a1_2] 24 (0, 0)) (by (with_reducible repeat (first | refine blk_drewN ?_ _ | refine blk_drew ?_ | refine blk_alloc ?_ _)); exact BK330.out) hb); have n4_ := Aside0.mk (blk_below (g := gb331) (o := .cells #[.int .i64 a2_0, .int .i64 a2_1, .bool a2_2] 24 (0, 0)) (by (with_reducible repeat (first | refine blk_drewN ?_ _ | refine blk_drew ?_ | refine blk_alloc ?_ _)); exact BK331.out) hb); have n5_ := Aside0.mk (below_step (by repeat (first | (with_reducible first | exact HB.out | apply below_alloc | apply pw_below_drewN | apply below_drew1 | refine below_set ?_ GE330.out | refine below_set ?_ GE331.out) | exact HB.out)) hb); clear HO_7; clear HO_15; clear BK330; clear BK331; clear HB; have HO_7 := n0_; have HO_15 := n1_; have HO361 := n2_; have BK330 := n3_; have BK331 := n4_; have HB := n5_; clear n0_ n1_ n2_ n3_ n4_ n5_; (try clear hb); (try clear hb2); (try clear hk); (try clear hi); (try clear ho0)) | ((with_reducible refine gate_callee (f := 10) rfl ?_); refine goesL_ (some 100) rfl rfl Try.func10 (by kernel_rfl) rfl #[] rfl (by (try simp only [List.map_toArray, List.map_cons, List.map_nil]); first | done | rfl | (simp only [List.length_drop, List.length_take]; rfl)) ?_; (with_reducible refine (priorylaw14_awake.calls k3  t363 _ A51.out).mono ?_); rintro e w56 ⟨rfl, hb⟩; refine ⟨_, rfl, ?_⟩; have n0_ := Aside0.mk (Kd.R_below (by (with_reducible repeat (first | apply Kd.R_alloc | apply Kd.R_drewN | apply Kd.R_drew)); exact HO_7.out) hb); have n1_ := Aside0.mk (Kd.R_below (by (with_reducible repeat (first | apply Kd.R_alloc | apply Kd.R_drewN | apply Kd.R_drew)); exact HO_15.out) hb); have n2_ := Aside0.mk (Kd.R_below (by (with_reducible repeat (first | apply Kd.R_alloc | apply Kd.R_drewN | apply Kd.R_drew)); exact HO361.out) hb); have n3_ := Aside0.mk (blk_below (g := gb330) (o := .cells #[.int .i64 a1_0, .int .i64 a1_1, .bool a1_2] 24 (0, 0)) (by (with_reducible repeat (first | refine blk_drewN ?_ _ | refine blk_drew ?_ | refine blk_alloc ?_ _)); exact BK330.out) hb); have n4_ := Aside0.mk (blk_below (g := gb331) (o := .cells #[.int .i64 a2_0, .int .i64 a2_1, .bool a2_2] 24 (0, 0)) (by (with_reducible repeat (first | refine blk_drewN ?_ _ | refine blk_drew ?_ | refine blk_alloc ?_ _)); exact BK331.out) hb); have n5_ := Aside0.mk (below_step (by repeat (first | (with_reducible first | exact HB.out | apply below_alloc | apply pw_below_drewN | apply below_drew1 | refine below_set ?_ GE330.out | refine below_set ?_ GE331.out) | exact HB.out)) hb); clear HO_7; clear HO_15; clear HO361; clear BK330; clear BK331; clear HB; have HO_7 := n0_; have HO_15 := n1_; have HO361 := n2_; have BK330 := n3_; have BK331 := n4_; have HB := n5_; clear n0_ n1_ n2_ n3_ n4_ n5_; (try clear hb); (try clear hb2); (try clear hk); (try clear hi)))
                          go_ret
                          exact ⟨by first | rfl | (simp [errW_none, errW_some] <;> rfl) | (simp [*, errW_none, errW_some] <;> rfl), by repeat (first | (with_reducible first | exact HB.out | apply below_alloc | apply pw_below_drewN | apply below_drew1 | refine below_set ?_ GE330.out | refine below_set ?_ GE331.out) | exact HB.out)⟩
                        · rw [if_neg c50] at H
                          have c50b0 : (t362 == 3) = false := beq_eq_false_iff_ne.mpr c50
                          have c50b1 : (t362 != 3) = true := bne_iff_ne.mpr c50
                          by_cases c57 : t362 = 0
                          · rw [if_pos c57] at H
                            have c57b0 : (t362 == 0) = true := beq_iff_eq.mpr c57
                            have c57b1 : (t362 != 0) = false := bne_eq_false_iff_eq.mpr c57
                            clear c57
                            have H' := Aside0.mk H
                            clear H
                            have hnb58 := NB330_331.out
                            have hnc58 := NB331_330.out
                            have hcz59_0 : wr.cell? ⟨gb330, 0, none⟩ = some (.int .i64 a1_0) := (blk_cell BK330.out 0).trans rfl
                            have hcz59_1 : wr.cell? ⟨gb330, 1, none⟩ = some (.int .i64 a1_1) := (blk_cell BK330.out 1).trans rfl
                            have hcz59_2 : wr.cell? ⟨gb330, 2, none⟩ = some (.bool a1_2) := (blk_cell BK330.out 2).trans rfl
                            have hfz59_0 := blk_frozen BK330.out 0
                            have hfz59_1 := blk_frozen BK330.out 1
                            have hfz59_2 := blk_frozen BK330.out 2
                            obtain ⟨Ao60, co60, eo60⟩ := Kd.R_slice HO_15.out
                            subst eo60
                            go_wp2_with (first | ((with_reducible refine gate_callee (f := 11) rfl ?_); refine goesL_ (some 95) rfl rfl Try.func11 (by kernel_rfl) rfl #[.slice Ao60 x15_3.length co60, .agg #[.int .i64 x16_3, .int .i64 1, .bool a1_2]] rfl (by (try simp only [List.map_toArray, List.map_cons, List.map_nil]); first | done | rfl | (simp only [List.length_drop, List.length_take]; rfl)) ?_; (with_reducible refine (region_Add.calls k3 _ _ x15_3 x16_3 1 a1_2 t359 t362 _ ?side1 ?side2 A49.out).mono ?_); (case side1 => repeat (first | exact (Kd.R_reads' HO_15.out).2.2 | (with_reducible refine Kd.C_alloc ?_ _) | (with_reducible refine Kd.C_drewN ?_ _) | (with_reducible refine Kd.C_drew ?_))); (case side2 => exact (Kd.R_reads' HO_15.out).2.1); rintro e w61 ⟨v360, rfl, ho0, hb⟩; refine ⟨_, rfl, ?_⟩; have n0_ := Aside0.mk (Kd.R_elder' (by (with_reducible repeat (first | apply Kd.R_alloc | apply Kd.R_drewN | apply Kd.R_drew)); exact HO_7.out) (Kd.R_base ho0) hb); have n1_ := Aside0.mk (Kd.R_elder' (by (with_reducible repeat (first | apply Kd.R_alloc | apply Kd.R_drewN | apply Kd.R_drew)); exact HO_15.out) (Kd.R_base ho0) hb); have n2_ := Aside0.mk (Kd.R_lower (Kd.R_newB (Kd.R_newB (Kd.R_new' (Kd.R_new' ho0 (Kd.R_lt (by (with_reducible repeat (first | apply Kd.R_alloc | apply Kd.R_drewN | apply Kd.R_drew)); exact HO_7.out))) (Kd.R_lt (by (with_reducible repeat (first | apply Kd.R_alloc | apply Kd.R_drewN | apply Kd.R_drew)); exact HO_15.out))) (g := gb330) (o := .cells #[.int .i64 a1_0, .int .i64 a1_1, .bool a1_2] 24 (0, 0)) (by (with_reducible repeat (first | refine blk_drewN ?_ _ | refine blk_drew ?_ | refine blk_alloc ?_ _)); exact BK330.out)) (g := gb331) (o := .cells #[.int .i64 a2_0, .int .i64 a2_1, .bool a2_2] 24 (0, 0)) (by (with_reducible repeat (first | refine blk_drewN ?_ _ | refine blk_drew ?_ | refine blk_alloc ?_ _)); exact BK331.out)) (below_size (by repeat (first | (with_reducible first | exact HB.out | apply below_alloc | apply pw_below_drewN | apply below_drew1 | refine below_set ?_ GE330.out | refine below_set ?_ GE331.out) | exact HB.out)))); have n3_ := Aside0.mk (blk_below (g := gb330) (o := .cells #[.int .i64 a1_0, .int .i64 a1_1, .bool a1_2] 24 (0, 0)) (by (with_reducible repeat (first | refine blk_drewN ?_ _ | refine blk_drew ?_ | refine blk_alloc ?_ _)); exact BK330.out) hb); have n4_ := Aside0.mk (blk_below (g := gb331) (o := .cells #[.int .i64 a2_0, .int .i64 a2_1, .bool a2_2] 24 (0, 0)) (by (with_reducible repeat (first | refine blk_drewN ?_ _ | refine blk_drew ?_ | refine blk_alloc ?_ _)); exact BK331.out) hb); have n5_ := Aside0.mk (below_step (by repeat (first | (with_reducible first | exact HB.out | apply below_alloc | apply pw_below_drewN | apply below_drew1 | refine below_set ?_ GE330.out | refine below_set ?_ GE331.out) | exact HB.out)) hb); clear HO_7; clear HO_15; clear BK330; clear BK331; clear HB; have HO_7 := n0_; have HO_15 := n1_; have HO361 := n2_; have BK330 := n3_; have BK331 := n4_; have HB := n5_; clear n0_ n1_ n2_ n3_ n4_ n5_; (try clear hb); (try clear hb2); (try clear hk); (try clear hi); (try clear ho0)))
                            go_roundg k3
                            case measure => have := HJ12.out; have := HJ34.out; have := HK3.out; omega
                            case rel => exact ⟨(t359), (wrap64 (x16_3 + 1)), (by first | rfl | (simp; done) | (simp [*]; done)), H', ⟨by have := HJ12.out; have := HJ34.out; have := HK3.out; omega⟩, ⟨by (with_reducible repeat (first | apply Kd.R_alloc | apply Kd.R_drewN | apply Kd.R_drew)); exact Kd.R_mono HO_7.out (fun _ hk => ⟨hk.2, ⟨hk.1.2.1, hk.1.2.2⟩⟩)⟩, ⟨by (with_reducible repeat (first | apply Kd.R_alloc | apply Kd.R_drewN | apply Kd.R_drew)); exact Kd.R_mono HO361.out (fun _ hk => ⟨hk.1.1.1.2, ⟨hk.1.2, hk.2⟩⟩)⟩, ⟨by (with_reducible repeat (first | refine blk_drewN ?_ _ | refine blk_drew ?_ | refine blk_alloc ?_ _)); exact BK330.out⟩, ⟨by (with_reducible repeat (first | refine blk_drewN ?_ _ | refine blk_drew ?_ | refine blk_alloc ?_ _)); exact BK331.out⟩, ⟨by repeat (first | (with_reducible first | exact HB.out | apply below_alloc | apply pw_below_drewN | apply below_drew1 | refine below_set ?_ GE330.out | refine below_set ?_ GE331.out) | exact HB.out)⟩⟩
                          · rw [if_neg c57] at H
                            have c57b0 : (t362 == 0) = false := beq_eq_false_iff_ne.mpr c57
                            have c57b1 : (t362 != 0) = true := bne_iff_ne.mpr c57
                            obtain rfl := Option.some.inj H
                            have hnb62 := NB330_331.out
                            have hnc62 := NB331_330.out
                            have hcz63_0 : wr.cell? ⟨gb330, 0, none⟩ = some (.int .i64 a1_0) := (blk_cell BK330.out 0).trans rfl
                            have hcz63_1 : wr.cell? ⟨gb330, 1, none⟩ = some (.int .i64 a1_1) := (blk_cell BK330.out 1).trans rfl
                            have hcz63_2 : wr.cell? ⟨gb330, 2, none⟩ = some (.bool a1_2) := (blk_cell BK330.out 2).trans rfl
                            have hfz63_0 := blk_frozen BK330.out 0
                            have hfz63_1 := blk_frozen BK330.out 1
                            have hfz63_2 := blk_frozen BK330.out 2
                            obtain ⟨Ao64, co64, eo64⟩ := Kd.R_slice HO_15.out
                            subst eo64
                            go_wp2_with (first | ((with_reducible refine gate_callee (f := 11) rfl ?_); refine goesL_ (some 95) rfl rfl Try.func11 (by kernel_rfl) rfl #[.slice Ao64 x15_3.length co64, .agg #[.int .i64 x16_3, .int .i64 1, .bool a1_2]] rfl (by (try simp only [List.map_toArray, List.map_cons, List.map_nil]); first | done | rfl | (simp only [List.length_drop, List.length_take]; rfl)) ?_; (with_reducible refine (region_Add.calls k3 _ _ x15_3 x16_3 1 a1_2 t359 t362 _ ?side1 ?side2 A49.out).mono ?_); (case side1 => repeat (first | exact (Kd.R_reads' HO_15.out).2.2 | (with_reducible refine Kd.C_alloc ?_ _) | (with_reducible refine Kd.C_drewN ?_ _) | (with_reducible refine Kd.C_drew ?_))); (case side2 => exact (Kd.R_reads' HO_15.out).2.1); rintro e w65 ⟨v360, rfl, ho0, hb⟩; refine ⟨_, rfl, ?_⟩; have n0_ := Aside0.mk (Kd.R_elder' (by (with_reducible repeat (first | apply Kd.R_alloc | apply Kd.R_drewN | apply Kd.R_drew)); exact HO_7.out) (Kd.R_base ho0) hb); have n1_ := Aside0.mk (Kd.R_elder' (by (with_reducible repeat (first | apply Kd.R_alloc | apply Kd.R_drewN | apply Kd.R_drew)); exact HO_15.out) (Kd.R_base ho0) hb); have n2_ := Aside0.mk (Kd.R_lower (Kd.R_newB (Kd.R_newB (Kd.R_new' (Kd.R_new' ho0 (Kd.R_lt (by (with_reducible repeat (first | apply Kd.R_alloc | apply Kd.R_drewN | apply Kd.R_drew)); exact HO_7.out))) (Kd.R_lt (by (with_reducible repeat (first | apply Kd.R_alloc | apply Kd.R_drewN | apply Kd.R_drew)); exact HO_15.out))) (g := gb330) (o := .cells #[.int .i64 a1_0, .int .i64 a1_1, .bool a1_2] 24 (0, 0)) (by (with_reducible repeat (first | refine blk_drewN ?_ _ | refine blk_drew ?_ | refine blk_alloc ?_ _)); exact BK330.out)) (g := gb331) (o := .cells #[.int .i64 a2_0, .int .i64 a2_1, .bool a2_2] 24 (0, 0)) (by (with_reducible repeat (first | refine blk_drewN ?_ _ | refine blk_drew ?_ | refine blk_alloc ?_ _)); exact BK331.out)) (below_size (by repeat (first | (with_reducible first | exact HB.out | apply below_alloc | apply pw_below_drewN | apply below_drew1 | refine below_set ?_ GE330.out | refine below_set ?_ GE331.out) | exact HB.out)))); have n3_ := Aside0.mk (blk_below (g := gb330) (o := .cells #[.int .i64 a1_0, .int .i64 a1_1, .bool a1_2] 24 (0, 0)) (by (with_reducible repeat (first | refine blk_drewN ?_ _ | refine blk_drew ?_ | refine blk_alloc ?_ _)); exact BK330.out) hb); have n4_ := Aside0.mk (blk_below (g := gb331) (o := .cells #[.int .i64 a2_0, .int .i64 a2_1, .bool a2_2] 24 (0, 0)) (by (with_reducible repeat (first | refine blk_drewN ?_ _ | refine blk_drew ?_ | refine blk_alloc ?_ _)); exact BK331.out) hb); have n5_ := Aside0.mk (below_step (by repeat (first | (with_reducible first | exact HB.out | apply below_alloc | apply pw_below_drewN | apply below_drew1 | refine below_set ?_ GE330.out | refine below_set ?_ GE331.out) | exact HB.out)) hb); clear HO_7; clear HO_15; clear BK330; clear BK331; clear HB; have HO_7 := n0_; have HO_15 := n1_; have HO361 := n2_; have BK330 := n3_; have BK331 := n4_; have HB := n5_; clear n0_ n1_ n2_ n3_ n4_ n5_; (try clear hb); (try clear hb2); (try clear hk); (try clear hi); (try clear ho0)))
                            go_ret
                            exact ⟨by first | rfl | (simp [errW_none, errW_some] <;> rfl) | (simp [*, errW_none, errW_some] <;> rfl), by repeat (first | (with_reducible first | exact HB.out | apply below_alloc | apply pw_below_drewN | apply below_drew1 | refine below_set ?_ GE330.out | refine below_set ?_ GE331.out) | exact HB.out)⟩
                      · rw [if_neg c48] at H
                        have c48b0 : decide (x16_3 < (wrap64 (a1_0 + a1_1))) = false := decide_eq_false c48
                        clear c48
                        replace H := Option.bind_eq_some_iff.mp H
                        obtain ⟨t357, A660, H⟩ := H
                        replace H : (if t357 = true then ((priorylaw14_awake.f k3).bind fun t358 => (some t358)) else (some false)) = some r := H
                        have A66 := Aside0.mk A660
                        clear A660
                        by_cases c67 : t357 = true
                        · subst c67
                          have H1 : ((priorylaw14_awake.f k3).bind fun t358 => (some t358)) = some r := by rw [if_pos rfl] at H; exact H
                          clear H
                          have H := H1
                          clear H1
                          replace H := Option.bind_eq_some_iff.mp H
                          obtain ⟨t358, A680, H⟩ := H
                          replace H : (some t358) = some r := H
                          have A68 := Aside0.mk A680
                          clear A680
                          obtain rfl := Option.some.inj H
                          have hnb69 := NB330_331.out
                          have hnc69 := NB331_330.out
                          have hcz70_0 : wr.cell? ⟨gb330, 0, none⟩ = some (.int .i64 a1_0) := (blk_cell BK330.out 0).trans rfl
                          have hcz70_1 : wr.cell? ⟨gb330, 1, none⟩ = some (.int .i64 a1_1) := (blk_cell BK330.out 1).trans rfl
                          have hcz70_2 : wr.cell? ⟨gb330, 2, none⟩ = some (.bool a1_2) := (blk_cell BK330.out 2).trans rfl
                          have hfz70_0 := blk_frozen BK330.out 0
                          have hfz70_1 := blk_frozen BK330.out 1
                          have hfz70_2 := blk_frozen BK330.out 2
                          obtain ⟨Ao71, co71, eo71⟩ := Kd.R_slice HO_15.out
                          subst eo71
                          go_wp2_with (first | ((with_reducible refine gate_callee (f := 13) rfl ?_); refine goesL_ (some 106) rfl rfl Try.func13 (by kernel_rfl) rfl #[.slice Ao71 x15_3.length co71, .slice Ao20 t333.length co20] rfl (by (try simp only [List.map_toArray, List.map_cons, List.map_nil]); first | done | rfl | (simp only [List.length_drop, List.length_take]; rfl)) ?_; (with_reducible refine (prioryref14_Same.calls k3 _ _ x15_3 _ _ t333 true _ ?side1 ?side2 ?side3 ?side4 A66.out).mono ?_); (case side1 => repeat (first | exact (Kd.R_reads' HO_15.out).2.2 | (with_reducible refine Kd.C_alloc ?_ _) | (with_reducible refine Kd.C_drewN ?_ _) | (with_reducible refine Kd.C_drew ?_))); (case side2 => exact (Kd.R_reads' HO_15.out).2.1); (case side3 => repeat (first | exact (Kd.R_reads' HO_7.out).2.2 | (with_reducible refine Kd.C_alloc ?_ _) | (with_reducible refine Kd.C_drewN ?_ _) | (with_reducible refine Kd.C_drew ?_))); (case side4 => exact (Kd.R_reads' HO_7.out).2.1); rintro e w' ⟨rfl, ⟨nd, rfl⟩⟩; refine ⟨_, rfl, ?_⟩) | (go_at_call 10; (with_reducible refine (priorylaw14_awake.calls k3  t358 _ A68.out).mono ?_); rintro e w72 ⟨rfl, hb⟩; have n0_ := Aside0.mk (Kd.R_below (by (with_reducible repeat (first | apply Kd.R_alloc | apply Kd.R_drewN | apply Kd.R_drew)); exact HO_7.out) hb); have n1_ := Aside0.mk (Kd.R_below (by (with_reducible repeat (first | apply Kd.R_alloc | apply Kd.R_drewN | apply Kd.R_drew)); exact HO_15.out) hb); have n2_ := Aside0.mk (blk_below (g := gb330) (o := .cells #[.int .i64 a1_0, .int .i64 a1_1, .bool a1_2] 24 (0, 0)) (by (with_reducible repeat (first | refine blk_drewN ?_ _ | refine blk_drew ?_ | refine blk_alloc ?_ _)); exact BK330.out) hb); have n3_ := Aside0.mk (blk_below (g := gb331) (o := .cells #[.int .i64 a2_0, .int .i64 a2_1, .bool a2_2] 24 (0, 0)) (by (with_reducible repeat (first | refine blk_drewN ?_ _ | refine blk_drew ?_ | refine blk_alloc ?_ _)); exact BK331.out) hb); have n4_ := Aside0.mk (below_step (by repeat (first | (with_reducible first | exact HB.out | apply below_alloc | apply pw_below_drewN | apply below_drew1 | refine below_set ?_ GE330.out | refine below_set ?_ GE331.out) | exact HB.out)) hb); clear HO_7; clear HO_15; clear BK330; clear BK331; clear HB; have HO_7 := n0_; have HO_15 := n1_; have BK330 := n2_; have BK331 := n3_; have HB := n4_; clear n0_ n1_ n2_ n3_ n4_; (try clear hb); (try clear hb2); (try clear hk); (try clear hi)))
                          go_ret
                          exact ⟨by first | rfl | (simp [errW_none, errW_some] <;> rfl) | (simp [*, errW_none, errW_some] <;> rfl), by repeat (first | (with_reducible first | exact HB.out | apply below_alloc | apply pw_below_drewN | apply below_drew1 | refine below_set ?_ GE330.out | refine below_set ?_ GE331.out) | exact HB.out)⟩
                        · replace c67 := Bool.eq_false_iff.mpr c67
                          subst c67
                          have H1 : (some false) = some r := by rw [if_neg (show ¬ (false = true) by decide)] at H; exact H
                          clear H
                          have H := H1
                          clear H1
                          obtain rfl := Option.some.inj H
                          have hnb73 := NB330_331.out
                          have hnc73 := NB331_330.out
                          have hcz74_0 : wr.cell? ⟨gb330, 0, none⟩ = some (.int .i64 a1_0) := (blk_cell BK330.out 0).trans rfl
                          have hcz74_1 : wr.cell? ⟨gb330, 1, none⟩ = some (.int .i64 a1_1) := (blk_cell BK330.out 1).trans rfl
                          have hcz74_2 : wr.cell? ⟨gb330, 2, none⟩ = some (.bool a1_2) := (blk_cell BK330.out 2).trans rfl
                          have hfz74_0 := blk_frozen BK330.out 0
                          have hfz74_1 := blk_frozen BK330.out 1
                          have hfz74_2 := blk_frozen BK330.out 2
                          obtain ⟨Ao75, co75, eo75⟩ := Kd.R_slice HO_15.out
                          subst eo75
                          go_wp2_with (first | ((with_reducible refine gate_callee (f := 13) rfl ?_); refine goesL_ (some 106) rfl rfl Try.func13 (by kernel_rfl) rfl #[.slice Ao75 x15_3.length co75, .slice Ao20 t333.length co20] rfl (by (try simp only [List.map_toArray, List.map_cons, List.map_nil]); first | done | rfl | (simp only [List.length_drop, List.length_take]; rfl)) ?_; (with_reducible refine (prioryref14_Same.calls k3 _ _ x15_3 _ _ t333 false _ ?side1 ?side2 ?side3 ?side4 A66.out).mono ?_); (case side1 => repeat (first | exact (Kd.R_reads' HO_15.out).2.2 | (with_reducible refine Kd.C_alloc ?_ _) | (with_reducible refine Kd.C_drewN ?_ _) | (with_reducible refine Kd.C_drew ?_))); (case side2 => exact (Kd.R_reads' HO_15.out).2.1); (case side3 => repeat (first | exact (Kd.R_reads' HO_7.out).2.2 | (with_reducible refine Kd.C_alloc ?_ _) | (with_reducible refine Kd.C_drewN ?_ _) | (with_reducible refine Kd.C_drew ?_))); (case side4 => exact (Kd.R_reads' HO_7.out).2.1); rintro e w' ⟨rfl, ⟨nd, rfl⟩⟩; refine ⟨_, rfl, ?_⟩))
                          go_ret
                          exact ⟨by first | rfl | (simp [errW_none, errW_some] <;> rfl) | (simp [*, errW_none, errW_some] <;> rfl), by repeat (first | (with_reducible first | exact HB.out | apply below_alloc | apply pw_below_drewN | apply below_drew1 | refine below_set ?_ GE330.out | refine below_set ?_ GE331.out) | exact HB.out)⟩
                · rw [if_neg c42] at H
                  exact absurd H (by simp)
end Go.Proofs.Ytcblfhoipdbdlaa.PAll

namespace Go.Proofs.Ytcblfhoipdbdlaa.PAll
open Go.RowKit Go.Proofs.YtcblfhoipdbdlaaW.PrintWords Go.Proofs.YtcblfhoipdbdlaaW.PrintLast Go.Proofs.YtcblfhoipdbdlaaW.PrintMore
set_option linter.unusedVariables false
set_option linter.unusedSimpArgs false
def pgS : List S24 → Nat → Int
  | [], _ => 0
  | a :: r, n => if a.f0 ≤ n ∧ (n : Int) < a.f0 + a.f1 then wv a.f2 else pgS r n
def NF : Int → Option Bool → List S24 → Prop
  | _, _, [] => True
  | e, lw, a :: r => e ≤ a.f0 ∧ (e = a.f0 → lw ≠ some a.f2) ∧ 1 ≤ a.f1 ∧ a.f0 + a.f1 ≤ 1024 ∧ NF (a.f0 + a.f1) (some a.f2) r
def endS : Int → List S24 → Int
  | e, [] => e
  | _, a :: r => endS (a.f0 + a.f1) r
def lwS : Option Bool → List S24 → Option Bool
  | lw, [] => lw
  | _, a :: r => lwS (some a.f2) r
theorem wv_ne (b : Bool) : wv b ≠ 0 := by cases b <;> decide
theorem wv_inj {a b : Bool} (h : wv a = wv b) : a = b := by cases a <;> cases b <;> first | rfl | (revert h; decide)
theorem wv_of {x : Int} (h : x = 0 ∨ x = 1 ∨ x = 2) (h0 : x ≠ 0) : wv (x == 2) = x := by
  rcases h with h | h | h
  · exact absurd h h0
  · subst h; rfl
  · subst h; rfl
theorem pgS_cases (l : List S24) (n : Nat) : pgS l n = 0 ∨ pgS l n = 1 ∨ pgS l n = 2 := by
  induction l with
  | nil => exact .inl rfl
  | cons a r ih =>
    unfold pgS
    split
    · cases a.f2 <;> simp [wv]
    · exact ih
theorem NF_ge : ∀ {l : List S24} {e : Int} {lw : Option Bool}, NF e lw l → ∀ a ∈ l, e ≤ a.f0 ∧ 1 ≤ a.f1 ∧ a.f0 + a.f1 ≤ 1024
  | [], _, _, _, _, h => by cases h
  | x :: r, e, lw, h, a, ha => by
    obtain ⟨h1, h2, h3, h4, h5⟩ := h
    rcases List.mem_cons.1 ha with rfl | ha
    · exact ⟨h1, h3, h4⟩
    · have := NF_ge h5 a ha
      exact ⟨by omega, this.2⟩
theorem pgS_none {l : List S24} {n : Nat} (h : ∀ a ∈ l, ¬ (a.f0 ≤ n ∧ (n : Int) < a.f0 + a.f1)) : pgS l n = 0 := by
  induction l with
  | nil => rfl
  | cons a r ih =>
    unfold pgS
    rw [if_neg (h a List.mem_cons_self)]
    exact ih (fun b hb => h b (List.mem_cons_of_mem _ hb))
theorem pgS_lt {l : List S24} {e : Int} {lw : Option Bool} (h : NF e lw l) {n : Nat} (hn : (n : Int) < e) : pgS l n = 0 :=
  pgS_none (fun a ha hc => by have := (NF_ge h a ha).1; omega)
theorem pgS_at {l : List S24} {e : Int} {lw : Option Bool} (h : NF e lw l) {n : Nat} (hn : (n : Int) = e) {w : Bool} (hw : lw = some w) : pgS l n ≠ wv w := by
  cases l with
  | nil => exact fun h => wv_ne w h.symm
  | cons a r =>
    obtain ⟨h1, h2, h3, h4, h5⟩ := h
    unfold pgS
    split
    · rename_i hc
      intro he
      exact h2 (by omega) (by rw [hw, wv_inj he])
    · rename_i hc
      rw [pgS_lt h5 (by omega)]
      exact fun h => wv_ne w h.symm
theorem NF_uniq : ∀ (l m : List S24) (e : Int) (lw : Option Bool), 0 ≤ e → NF e lw l → NF e lw m → (∀ n : Nat, e ≤ n → n < 1024 → pgS l n = pgS m n) → l = m
  | [], [], _, _, _, _, _, _ => rfl
  | [], b :: m, e, lw, he, _, hm, hp => by
    obtain ⟨h1, h2, h3, h4, h5⟩ := hm
    have := hp b.f0.toNat (by omega) (by omega)
    rw [show pgS [] b.f0.toNat = 0 from rfl] at this
    unfold pgS at this
    rw [if_pos (by omega)] at this
    exact absurd this.symm (wv_ne _)
  | a :: l, [], e, lw, he, hl, _, hp => by
    obtain ⟨h1, h2, h3, h4, h5⟩ := hl
    have := hp a.f0.toNat (by omega) (by omega)
    rw [show pgS [] a.f0.toNat = 0 from rfl] at this
    unfold pgS at this
    rw [if_pos (by omega)] at this
    exact absurd this (wv_ne _)
  | a :: l, b :: m, e, lw, he, hl, hm, hp => by
    obtain ⟨a1, a2, a3, a4, a5⟩ := hl
    obtain ⟨b1, b2, b3, b4, b5⟩ := hm
    have hs : a.f0 = b.f0 := by
      rcases Int.lt_trichotomy a.f0 b.f0 with h | h | h
      · exfalso
        have := hp a.f0.toNat (by omega) (by omega)
        unfold pgS at this
        rw [if_pos (by omega), if_neg (by omega), pgS_lt b5 (by omega)] at this
        exact wv_ne _ this
      · exact h
      · exfalso
        have := hp b.f0.toNat (by omega) (by omega)
        unfold pgS at this
        rw [if_neg (by omega), if_pos (by omega), pgS_lt a5 (by omega)] at this
        exact wv_ne _ this.symm
    have hw : a.f2 = b.f2 := by
      have := hp a.f0.toNat (by omega) (by omega)
      unfold pgS at this
      rw [if_pos (by omega), if_pos (by omega)] at this
      exact wv_inj this
    have hm : a.f1 = b.f1 := by
      rcases Int.lt_trichotomy a.f1 b.f1 with h | h | h
      · exfalso
        have := hp (a.f0 + a.f1).toNat (by omega) (by omega)
        unfold pgS at this
        rw [if_neg (by omega), if_pos (by omega), ← hw] at this
        exact pgS_at a5 (by omega) rfl this
      · exact h
      · exfalso
        have := hp (b.f0 + b.f1).toNat (by omega) (by omega)
        unfold pgS at this
        rw [if_pos (by omega), if_neg (by omega), hw] at this
        exact pgS_at b5 (by omega) rfl this.symm
    have hab : a = b := by cases a; cases b; simp only at hs hw hm; subst hs hw hm; rfl
    subst hab
    congr 1
    refine NF_uniq l m (a.f0 + a.f1) (some a.f2) (by omega) a5 b5 (fun n h1 h2 => ?_)
    have := hp n (by omega) h2
    unfold pgS at this
    rwa [if_neg (by omega), if_neg (by omega)] at this
theorem NF_append : ∀ (p s : List S24) (e : Int) (lw : Option Bool), NF e lw (p ++ s) ↔ NF e lw p ∧ NF (endS e p) (lwS lw p) s
  | [], s, e, lw => by simp [NF, endS, lwS]
  | a :: p, s, e, lw => by
    simp only [List.cons_append, NF, endS, lwS]
    rw [NF_append p s]
    constructor
    · rintro ⟨h1, h2, h3, h4, h5, h6⟩; exact ⟨⟨h1, h2, h3, h4, h5⟩, h6⟩
    · rintro ⟨⟨h1, h2, h3, h4, h5⟩, h6⟩; exact ⟨h1, h2, h3, h4, h5, h6⟩
theorem pgS_append (p s : List S24) (n : Nat) : pgS (p ++ s) n = if pgS p n = 0 then pgS s n else pgS p n := by
  induction p with
  | nil => simp [pgS]
  | cons a p ih =>
    simp only [List.cons_append, pgS]
    split
    · rw [if_neg (wv_ne _)]
    · exact ih
theorem endS_append (p s : List S24) : ∀ e, endS e (p ++ s) = endS (endS e p) s := by
  induction p with
  | nil => intro e; rfl
  | cons a p ih => intro e; exact ih _
theorem lwS_append (p s : List S24) : ∀ e, lwS e (p ++ s) = lwS (lwS e p) s := by
  induction p with
  | nil => intro e; rfl
  | cons a p ih => intro e; exact ih _
theorem endS_ge : ∀ {l : List S24} {e : Int} {lw : Option Bool}, NF e lw l → e ≤ endS e l ∧ (∀ a ∈ l, a.f0 + a.f1 ≤ endS e l) ∧ (e ≤ 1024 → endS e l ≤ 1024)
  | [], e, _, _ => ⟨Int.le_refl _, (fun _ h => by cases h), fun h => h⟩
  | x :: r, e, lw, h => by
    obtain ⟨h1, h2, h3, h4, h5⟩ := h
    have := endS_ge h5
    refine ⟨by unfold endS; omega, fun a ha => ?_, fun _ => by unfold endS; exact this.2.2 h4⟩
    unfold endS
    rcases List.mem_cons.1 ha with rfl | ha
    · exact this.1
    · exact this.2.1 a ha
theorem pgS_end {l : List S24} {e : Int} {lw : Option Bool} (h : NF e lw l) {n : Nat} (hn : endS e l ≤ n) : pgS l n = 0 :=
  pgS_none (fun a ha hc => by have := (endS_ge h).2.1 a ha; omega)
theorem pgF_pgS : ∀ (l : List S24) (e : Int) (lw : Option Bool), NF e lw l → ∀ (f : Nat → Int) (n : Nat), (l.foldl (fun f a => fill f a.f0 a.f1 (wv a.f2)) f) n = if pgS l n = 0 then f n else pgS l n
  | [], _, _, _, f, n => by simp [pgS]
  | a :: r, e, lw, h, f, n => by
    obtain ⟨h1, h2, h3, h4, h5⟩ := h
    simp only [List.foldl_cons]
    rw [pgF_pgS r _ _ h5]
    have hs : pgS (a :: r) n = if a.f0 ≤ n ∧ (n : Int) < a.f0 + a.f1 then wv a.f2 else pgS r n := rfl
    rw [hs]
    by_cases hc : a.f0 ≤ n ∧ (n : Int) < a.f0 + a.f1
    · rw [pgS_lt h5 (by omega), if_pos rfl, if_pos hc, if_neg (wv_ne _)]
      unfold fill
      rw [if_pos hc]
    · rw [if_neg hc]
      unfold fill
      rw [if_neg hc]
theorem pgF_eq {l : List S24} {e : Int} {lw : Option Bool} (h : NF e lw l) (n : Nat) : pgF l n = pgS l n := by
  unfold pgF
  rw [pgF_pgS l e lw h]
  split
  · rename_i h0; exact h0.symm
  · rfl
theorem nil_or_snoc (p : List S24) : p = [] ∨ ∃ q x, p = q ++ [x] := by
  rcases List.eq_nil_or_concat p with h | ⟨q, x, h⟩
  · exact .inl h
  · exact .inr ⟨q, x, by rw [h, List.concat_eq_append]⟩
theorem NF_ok : ∀ (l p : List S24), (∀ i, i < (p ++ l).length → okAt (p ++ l) i = true) → NF (endS 0 p) (lwS none p) l
  | [], _, _ => trivial
  | a :: r, p, h => by
    have hi := h p.length (by simp)
    have hat : ar (p ++ a :: r) p.length = a := by simp [ar, List.getD_eq_getElem?_getD]
    unfold okAt at hi
    rw [hat, Bool.and_eq_true] at hi
    have hf := fitB_iff.1 hi.1
    have hrec := NF_ok r (p ++ [a]) (by simpa using h)
    rw [endS_append, lwS_append] at hrec
    refine ⟨?_, ?_, hf.2.2.1, by omega, hrec⟩
    · rcases nil_or_snoc p with rfl | ⟨q, x, rfl⟩
      · exact hf.1
      · have h2 := hi.2
        have hx : ar (q ++ [x] ++ a :: r) ((q ++ [x]).length - 1) = x := by simp [ar, List.getD_eq_getElem?_getD]
        rw [hx] at h2
        have h3 : gapB x a = true := by simpa using h2
        unfold gapB at h3
        have h4 := of_decide_eq_true h3
        rw [endS_append]
        simp only [endS]
        omega
    · rcases nil_or_snoc p with rfl | ⟨q, x, rfl⟩
      · intro _ h; cases h
      · have h2 := hi.2
        have hx : ar (q ++ [x] ++ a :: r) ((q ++ [x]).length - 1) = x := by simp [ar, List.getD_eq_getElem?_getD]
        rw [hx] at h2
        have h3 : gapB x a = true := by simpa using h2
        unfold gapB at h3
        have h4 := of_decide_eq_true h3
        rw [endS_append, lwS_append]
        simp only [endS, lwS]
        intro he hs
        injection hs with hs
        rcases h4 with h4 | h4
        · omega
        · exact h4.2 hs.symm
theorem ok_NF : ∀ (l p : List S24), NF 0 none p → NF (endS 0 p) (lwS none p) l → ∀ i, p.length ≤ i → i < (p ++ l).length → okAt (p ++ l) i = true
  | [], p, _, _, i, h1, h2 => by simp at h2; omega
  | a :: r, p, hp, h, i, h1, h2 => by
    obtain ⟨a1, a2, a3, a4, a5⟩ := h
    by_cases e : i = p.length
    · subst e
      have hat : ar (p ++ a :: r) p.length = a := by simp [ar, List.getD_eq_getElem?_getD]
      have h0 := (endS_ge hp).1
      unfold okAt
      rw [hat, fitB_iff.2 ⟨by omega, by omega, a3, by omega⟩, Bool.true_and]
      rcases nil_or_snoc p with rfl | ⟨q, x, rfl⟩
      · rfl
      · have hx : ar (q ++ [x] ++ a :: r) ((q ++ [x]).length - 1) = x := by simp [ar, List.getD_eq_getElem?_getD]
        rw [hx, Bool.or_eq_true]
        refine .inr (decide_eq_true ?_)
        rw [endS_append, lwS_append] at a2
        rw [endS_append] at a1
        simp only [endS, lwS] at a1 a2
        by_cases h3 : x.f0 + x.f1 = a.f0
        · exact .inr ⟨h3, fun hs => a2 h3 (by rw [hs])⟩
        · exact .inl (by omega)
    · have := ok_NF r (p ++ [a]) ((NF_append p [a] 0 none).2 ⟨hp, a1, a2, a3, a4, trivial⟩) (by rw [endS_append, lwS_append]; exact a5) i (by simp; omega) (by simpa using h2)
      simpa using this
theorem okB_iff (l : List S24) : okB l = true ↔ l.length ≤ 8 ∧ NF 0 none l := by
  constructor
  · intro h
    unfold okB at h
    rw [Bool.and_eq_true, List.all_eq_true] at h
    exact ⟨of_decide_eq_true h.1, NF_ok l [] (fun i hi => h.2 i (List.mem_range.2 (by simpa using hi)))⟩
  · rintro ⟨h1, h2⟩
    unfold okB
    rw [decide_eq_true h1, Bool.true_and, List.all_eq_true]
    intro i hi
    exact ok_NF l [] trivial h2 i (Nat.zero_le _) (by simpa using List.mem_range.1 hi)
theorem bumpL_snoc (g : List S24) (x : S24) : bumpL (g ++ [x]) = g ++ [bumpS x] := by
  simp [bumpL, List.getD_eq_getElem?_getD]
theorem pgS_in {a : S24} {r : List S24} {n : Nat} (h : a.f0 ≤ n ∧ (n : Int) < a.f0 + a.f1) : pgS (a :: r) n = wv a.f2 := if_pos h
theorem pgS_out {a : S24} {r : List S24} {n : Nat} (h : ¬ (a.f0 ≤ n ∧ (n : Int) < a.f0 + a.f1)) : pgS (a :: r) n = pgS r n := if_neg h
structure FI (what : Nat → Int) (n : Nat) (F : List S24) : Prop where
  nf : NF 0 none F
  pg : ∀ i, i < n → pgS F i = what i
  le : endS 0 F ≤ n
  on : lastF what n ≠ 0 → endS 0 F = n ∧ lwS none F = some (lastF what n == 2)
  off : lastF what n = 0 → endS 0 F < n ∨ lwS none F = none
theorem formL_FI (what : Nat → Int) (hw : ∀ n, what n = 0 ∨ what n = 1 ∨ what n = 2) : ∀ n, n ≤ 1024 → FI what n (formL what n)
  | 0, _ => ⟨trivial, fun i hi => by omega, Int.le_refl _, fun h => absurd rfl h, fun _ => .inr rfl⟩
  | n + 1, hn => by
    have ih := formL_FI what hw n (by omega)
    have hle := ih.le
    have hl : lastF what (n + 1) = what n := rfl
    by_cases h0 : what n = 0
    · have e : formL what (n + 1) = formL what n := by conv => lhs; unfold formL; rw [if_pos h0]
      rw [e]
      refine ⟨ih.nf, fun i hi => ?_, by omega, fun h => absurd (hl.trans h0) h, fun _ => .inl (by omega)⟩
      by_cases hi' : i < n
      · exact ih.pg i hi'
      · have : i = n := by omega
        subst this
        rw [h0]
        exact pgS_end ih.nf ih.le
    · have hwn := wv_of (hw n) h0
      by_cases h1 : what n = lastF what n
      · have e : formL what (n + 1) = bumpL (formL what n) := by conv => lhs; unfold formL; rw [if_neg h0, if_pos h1]
        have hon := ih.on (by rw [← h1]; exact h0)
        rcases nil_or_snoc (formL what n) with hF | ⟨g, x, hF⟩
        · have := formL_ne what n (by rw [← h1]; exact h0)
          rw [hF] at this
          simp at this
        · rw [e, hF, bumpL_snoc]
          rw [hF] at ih hon
          rw [endS_append, lwS_append] at hon
          simp only [endS, lwS] at hon
          have hnf := (NF_append g [x] 0 none).1 ih.nf
          obtain ⟨g1, x1, x2, x3, x4, _⟩ := hnf
          have hx2 : x.f2 = (what n == 2) := by have := hon.2; injection this with this; rw [this, ← h1]
          refine ⟨(NF_append g [bumpS x] 0 none).2 ⟨g1, x1, x2, by show 1 ≤ x.f1 + 1; omega, by show x.f0 + (x.f1 + 1) ≤ 1024; omega, trivial⟩, fun i hi => ?_, ?_, ?_, ?_⟩
          · rw [pgS_append]
            have hp := pgS_append g [x] i
            by_cases hi' : i < n
            · have h3 := ih.pg i hi'
              rw [hp] at h3
              rw [← h3]
              split
              · by_cases hc : x.f0 ≤ i ∧ (i : Int) < x.f0 + x.f1
                · rw [pgS_in hc, pgS_in (a := bumpS x) (show x.f0 ≤ i ∧ (i : Int) < x.f0 + (x.f1 + 1) by omega)]; rfl
                · rw [pgS_out hc, pgS_out (a := bumpS x) (show ¬ (x.f0 ≤ i ∧ (i : Int) < x.f0 + (x.f1 + 1)) by omega)]
              · rfl
            · have : i = n := by omega
              subst this
              have hg : pgS g i = 0 := pgS_end g1 (by omega)
              rw [if_pos hg, pgS_in (a := bumpS x) (show x.f0 ≤ i ∧ (i : Int) < x.f0 + (x.f1 + 1) by omega)]
              show wv x.f2 = what i
              rw [hx2, hwn]
          · rw [endS_append]; simp only [endS, bumpS]; omega
          · intro _
            rw [endS_append, lwS_append]
            simp only [endS, lwS, bumpS]
            exact ⟨by omega, by rw [hx2, hl]⟩
          · intro h; exact absurd (hl.symm.trans h) h0
      · have e : formL what (n + 1) = formL what n ++ [⟨n, 1, what n == 2⟩] := by conv => lhs; unfold formL; rw [if_neg h0, if_neg h1]
        rw [e]
        refine ⟨(NF_append _ _ 0 none).2 ⟨ih.nf, ih.le, fun he => ?_, by show (1 : Int) ≤ 1; omega, by show (n : Int) + 1 ≤ 1024; omega, trivial⟩, fun i hi => ?_, ?_, ?_, ?_⟩
        · show lwS none (formL what n) ≠ some (what n == 2)
          by_cases hz : lastF what n = 0
          · rcases ih.off hz with h | h
            · simp only at he; omega
            · rw [h]; exact fun h => by cases h
          · rw [(ih.on hz).2]
            intro hs
            injection hs with hs
            have h2 : lastF what n = 0 ∨ lastF what n = 1 ∨ lastF what n = 2 := by
              cases n with
              | zero => exact .inl rfl
              | succ m => exact hw m
            exact h1 (by rw [← hwn, ← hs, wv_of h2 hz])
        · rw [pgS_append]
          by_cases hi' : i < n
          · rw [ih.pg i hi']
            split
            · rename_i h3
              rw [h3]
              simp only [pgS]
              rw [if_neg (by omega)]
            · rfl
          · have : i = n := by omega
            subst this
            rw [if_pos (pgS_end ih.nf ih.le)]
            simp only [pgS]
            rw [if_pos (by omega), hwn]
        · rw [endS_append]; simp only [endS]; omega
        · intro _
          rw [endS_append, lwS_append]
          simp only [endS, lwS]
          exact ⟨by omega, by rw [hl]⟩
        · intro h; exact absurd (hl.symm.trans h) h0
theorem form_of {what : Nat → Int} (hw : ∀ n, what n = 0 ∨ what n = 1 ∨ what n = 2) {m : List S24} (hm : NF 0 none m) (hp : ∀ n, n < 1024 → pgS m n = what n) : formL what 1024 = m := by
  have h := formL_FI what hw 1024 (Nat.le_refl _)
  exact NF_uniq _ _ 0 none (Int.le_refl _) h.nf hm (fun n _ hn => (h.pg n hn).trans (hp n hn).symm)
def fewR (m : List S24) : List S24 × Int := if m.length > 8 then ([], 3) else (m, 0)
theorem formR_of {what : Nat → Int} (hw : ∀ n, what n = 0 ∨ what n = 1 ∨ what n = 2) {m : List S24} (hm : NF 0 none m) (hp : ∀ n, n < 1024 → pgS m n = what n) : formR what = fewR m := by
  unfold formR fewR
  rw [form_of hw hm hp]
theorem wv_cases (b : Bool) : wv b = 0 ∨ wv b = 1 ∨ wv b = 2 := by cases b <;> simp [wv]
theorem pgF_cases (l : List S24) (n : Nat) : pgF l n = 0 ∨ pgF l n = 1 ∨ pgF l n = 2 := by
  have : ∀ (l : List S24) (f : Nat → Int), (∀ n, f n = 0 ∨ f n = 1 ∨ f n = 2) → ∀ n, (l.foldl (fun f a => fill f a.f0 a.f1 (wv a.f2)) f) n = 0 ∨ (l.foldl (fun f a => fill f a.f0 a.f1 (wv a.f2)) f) n = 1 ∨ (l.foldl (fun f a => fill f a.f0 a.f1 (wv a.f2)) f) n = 2 := by
    intro l
    induction l with
    | nil => intro f h n; exact h n
    | cons a r ih =>
      intro f h n
      refine ih _ (fun m => ?_) n
      show fill f a.f0 a.f1 (wv a.f2) m = 0 ∨ fill f a.f0 a.f1 (wv a.f2) m = 1 ∨ fill f a.f0 a.f1 (wv a.f2) m = 2
      unfold fill
      split
      · exact wv_cases a.f2
      · exact h m
  exact this l _ (fun _ => .inl rfl) n
theorem both_cases (l m : List S24) (n : Nat) : both (pgF l) (pgF m) n = 0 ∨ both (pgF l) (pgF m) n = 1 ∨ both (pgF l) (pgF m) n = 2 := by
  unfold both mx
  split
  · exact pgF_cases m n
  · exact pgF_cases l n
theorem chg_cases {f : Nat → Int} (hf : ∀ n, f n = 0 ∨ f n = 1 ∨ f n = 2) {a b t : Int} (ht : t = 0 ∨ t = 1 ∨ t = 2) (n : Nat) : chg f a b t n = 0 ∨ chg f a b t n = 1 ∨ chg f a b t n = 2 := by
  unfold chg
  split
  · exact ht
  · exact hf n
def foldW : List S24 → List S24 → S24 → List S24 × S24
  | [], out, a => (out, a)
  | x :: r, out, a => if x.f2 = a.f2 ∧ x.f0 + x.f1 = a.f0 then foldW r out ⟨x.f0, x.f1 + a.f1, a.f2⟩
    else if x.f2 = a.f2 ∧ a.f0 + a.f1 = x.f0 then foldW r out ⟨a.f0, a.f1 + x.f1, a.f2⟩ else foldW r (out ++ [x]) a
def insW (out : List S24) (a : S24) : List S24 := out.takeWhile (fun x => decide (x.f0 < a.f0)) ++ a :: out.dropWhile (fun x => decide (x.f0 < a.f0))
def withP (l : List S24) (a : S24) : List S24 := insW (foldW l [] a).1 (foldW l [] a).2
theorem foldW_append : ∀ (p s out : List S24) (a : S24), foldW (p ++ s) out a = foldW s (foldW p out a).1 (foldW p out a).2
  | [], s, out, a => rfl
  | x :: p, s, out, a => by
    simp only [List.cons_append, foldW]
    split
    · exact foldW_append p s _ _
    · split
      · exact foldW_append p s _ _
      · exact foldW_append p s _ _
theorem foldW_out {a : S24} : ∀ (l out : List S24), (∀ x ∈ l, x.f0 + x.f1 ≠ a.f0 ∧ (x.f2 = a.f2 → a.f0 + a.f1 ≠ x.f0)) → foldW l out a = (out ++ l, a)
  | [], out, _ => by simp [foldW]
  | x :: r, out, h => by
    have hx := h x List.mem_cons_self
    unfold foldW
    rw [if_neg (fun hc => hx.1 hc.2), if_neg (fun hc => hx.2 hc.1 hc.2), foldW_out r _ (fun y hy => h y (List.mem_cons_of_mem _ hy))]
    simp
theorem insW_mid {p s : List S24} {a : S24} (hp : ∀ x ∈ p, x.f0 < a.f0) (hs : ∀ x ∈ s, a.f0 ≤ x.f0) : insW (p ++ s) a = p ++ a :: s := by
  unfold insW
  have h1 : ∀ (p : List S24), (∀ x ∈ p, x.f0 < a.f0) → (p ++ s).takeWhile (fun x => decide (x.f0 < a.f0)) = p ∧ (p ++ s).dropWhile (fun x => decide (x.f0 < a.f0)) = s := by
    intro p
    induction p with
    | nil =>
      intro _
      cases s with
      | nil => simp
      | cons y t =>
        have : decide (y.f0 < a.f0) = false := decide_eq_false (by have := hs y List.mem_cons_self; omega)
        simp [this]
    | cons x p ih =>
      intro h
      have hx : decide (x.f0 < a.f0) = true := decide_eq_true (h x List.mem_cons_self)
      have := ih (fun y hy => h y (List.mem_cons_of_mem _ hy))
      simp [List.takeWhile_cons, List.dropWhile_cons, hx, this.1, this.2]
  rw [(h1 p hp).1, (h1 p hp).2]
/-- l in two: what ends ahead of a, what begins behind it. -/
theorem split_at {l : List S24} {e : Int} {lw : Option Bool} {a : S24} (hl : NF e lw l) (ha : 1 ≤ a.f1) (hd : ∀ x ∈ l, ¬ (x.f0 < a.f0 + a.f1 ∧ a.f0 < x.f0 + x.f1)) :
    ∃ p s, l = p ++ s ∧ (∀ x ∈ p, x.f0 + x.f1 ≤ a.f0) ∧ (∀ x ∈ s, a.f0 + a.f1 ≤ x.f0) := by
  induction l generalizing e lw with
  | nil => exact ⟨[], [], rfl, (fun _ h => by cases h), (fun _ h => by cases h)⟩
  | cons x r ih =>
    obtain ⟨h1, h2, h3, h4, h5⟩ := hl
    have hx := hd x List.mem_cons_self
    by_cases hc : x.f0 + x.f1 ≤ a.f0
    · obtain ⟨p, s, e1, hp, hs⟩ := ih h5 (fun y hy => hd y (List.mem_cons_of_mem _ hy))
      refine ⟨x :: p, s, by rw [e1]; rfl, fun y hy => ?_, hs⟩
      rcases List.mem_cons.1 hy with rfl | hy
      · exact hc
      · exact hp y hy
    · refine ⟨[], x :: r, rfl, (fun _ h => by cases h), fun y hy => ?_⟩
      rcases List.mem_cons.1 hy with rfl | hy
      · omega
      · have := (NF_ge h5 y hy).1
        omega
theorem with_left {p : List S24} {a : S24} (hp : NF 0 none p) (ha : Fit a) (hle : ∀ x ∈ p, x.f0 + x.f1 ≤ a.f0) (out : List S24) :
    ∃ p' a', foldW p out a = (out ++ p', a') ∧ NF 0 none (p' ++ [a']) ∧ (∀ n, pgS (p' ++ [a']) n = pgS (p ++ [a]) n) ∧ a'.f0 + a'.f1 = a.f0 + a.f1 ∧ a'.f2 = a.f2 ∧ (∀ x ∈ p', x.f0 < a'.f0) := by
  obtain ⟨ha0, ha1, ha2⟩ := ha
  rcases nil_or_snoc p with rfl | ⟨q, x, rfl⟩
  · exact ⟨[], a, by simp [foldW], ⟨ha0, (fun _ h => by cases h), ha1, ha2, trivial⟩, fun n => rfl, rfl, rfl, (fun _ h => by cases h)⟩
  · have hx := hle x (by simp)
    obtain ⟨hq, x1, x2, x3, x4, _⟩ := (NF_append q [x] 0 none).1 hp
    have hqe : ∀ y ∈ q, y.f0 + y.f1 ≤ x.f0 := fun y hy => by have := (endS_ge hq).2.1 y hy; omega
    have hq1 : ∀ y ∈ q, 1 ≤ y.f1 := fun y hy => (NF_ge hq y hy).2.1
    rw [foldW_append, foldW_out q out (fun y hy => ⟨by have := hqe y hy; omega, fun _ => by have := hqe y hy; have := hq1 y hy; omega⟩)]
    simp only [foldW]
    by_cases hc : x.f2 = a.f2 ∧ x.f0 + x.f1 = a.f0
    · rw [if_pos hc]
      refine ⟨q, ⟨x.f0, x.f1 + a.f1, a.f2⟩, rfl, (NF_append q _ 0 none).2 ⟨hq, x1, ?_, by show 1 ≤ x.f1 + a.f1; omega, by show x.f0 + (x.f1 + a.f1) ≤ 1024; omega, trivial⟩, fun n => ?_, by show x.f0 + (x.f1 + a.f1) = _; omega, rfl, fun y hy => by show y.f0 < x.f0; have := hqe y hy; have := hq1 y hy; omega⟩
      · show endS 0 q = x.f0 → lwS none q ≠ some a.f2
        rw [← hc.1]; exact x2
      · rw [List.append_assoc, pgS_append, pgS_append q]
        split
        · by_cases h1 : x.f0 ≤ n ∧ (n : Int) < x.f0 + x.f1
          · rw [pgS_in (a := ⟨x.f0, x.f1 + a.f1, a.f2⟩) (show x.f0 ≤ n ∧ (n : Int) < x.f0 + (x.f1 + a.f1) by omega)]
            show _ = pgS (x :: [a]) n
            rw [pgS_in h1, hc.1]
          · show _ = pgS (x :: [a]) n
            rw [pgS_out h1]
            by_cases h2 : a.f0 ≤ n ∧ (n : Int) < a.f0 + a.f1
            · rw [pgS_in h2, pgS_in (a := ⟨x.f0, x.f1 + a.f1, a.f2⟩) (show x.f0 ≤ n ∧ (n : Int) < x.f0 + (x.f1 + a.f1) by omega)]
            · rw [pgS_out h2, pgS_out (a := ⟨x.f0, x.f1 + a.f1, a.f2⟩) (show ¬ (x.f0 ≤ n ∧ (n : Int) < x.f0 + (x.f1 + a.f1)) by omega)]
        · rfl
    · rw [if_neg hc, if_neg (fun h => by omega)]
      refine ⟨q ++ [x], a, by simp, (NF_append (q ++ [x]) [a] 0 none).2 ⟨hp, ?_, ?_, ha1, ha2, trivial⟩, fun n => rfl, rfl, rfl, fun y hy => by have := hle y hy; have := (NF_ge hp y hy).2.1; omega⟩
      · rw [endS_append]; exact hx
      · rw [endS_append, lwS_append]
        show x.f0 + x.f1 = a.f0 → some x.f2 ≠ some a.f2
        intro h1 h2
        injection h2 with h2
        exact hc ⟨h2, h1⟩
theorem with_right {P s : List S24} {A : S24} {e : Int} {lw : Option Bool} (hP : NF 0 none (P ++ [A])) (hs : NF e lw s) (hge : ∀ x ∈ s, A.f0 + A.f1 ≤ x.f0) (hlt : ∀ x ∈ P, x.f0 < A.f0) (out : List S24) :
    ∃ s' A', foldW s out A = (out ++ s', A') ∧ NF 0 none (P ++ A' :: s') ∧ (∀ n, pgS (P ++ A' :: s') n = pgS (P ++ A :: s) n) ∧ A'.f0 = A.f0 ∧ (∀ x ∈ s', A'.f0 ≤ x.f0) := by
  obtain ⟨hP0, A1, A2, A3, A4, _⟩ := (NF_append P [A] 0 none).1 hP
  cases s with
  | nil => exact ⟨[], A, by simp [foldW], by simpa using hP, fun n => rfl, rfl, (fun _ h => by cases h)⟩
  | cons y t =>
    obtain ⟨y1, y2, y3, y4, y5⟩ := hs
    have hy := hge y List.mem_cons_self
    have ht : ∀ z ∈ t, y.f0 + y.f1 ≤ z.f0 := fun z hz => (NF_ge y5 z hz).1
    unfold foldW
    rw [if_neg (fun h => by omega)]
    by_cases hc : y.f2 = A.f2 ∧ A.f0 + A.f1 = y.f0
    · rw [if_pos hc]
      have hz : ∀ z ∈ t, z.f0 + z.f1 ≠ A.f0 ∧ (z.f2 = A.f2 → A.f0 + (A.f1 + y.f1) ≠ z.f0) := fun z hz => by
        have h1 := ht z hz
        have h2 := (NF_ge y5 z hz).2.1
        refine ⟨by omega, fun hw he => ?_⟩
        cases t with
        | nil => cases hz
        | cons u v =>
          obtain ⟨u1, u2, u3, u4, u5⟩ := y5
          rcases List.mem_cons.1 hz with rfl | hz
          · exact u2 (by omega) (by rw [hw, hc.1])
          · have := (NF_ge u5 z hz).1; omega
      rw [foldW_out (a := ⟨A.f0, A.f1 + y.f1, A.f2⟩) t out hz]
      refine ⟨t, ⟨A.f0, A.f1 + y.f1, A.f2⟩, rfl, (NF_append P _ 0 none).2 ⟨hP0, A1, A2, by show 1 ≤ A.f1 + y.f1; omega, by show A.f0 + (A.f1 + y.f1) ≤ 1024; omega, ?_⟩, fun n => ?_, rfl, fun z hz => by show A.f0 ≤ z.f0; have := ht z hz; omega⟩
      · show NF (A.f0 + (A.f1 + y.f1)) (some A.f2) t
        rw [show A.f0 + (A.f1 + y.f1) = y.f0 + y.f1 by omega, ← hc.1]
        exact y5
      · rw [pgS_append, pgS_append P]
        split
        · by_cases h1 : A.f0 ≤ n ∧ (n : Int) < A.f0 + A.f1
          · rw [pgS_in h1, pgS_in (a := ⟨A.f0, A.f1 + y.f1, A.f2⟩) (show A.f0 ≤ n ∧ (n : Int) < A.f0 + (A.f1 + y.f1) by omega)]
          · rw [pgS_out h1]
            by_cases h2 : y.f0 ≤ n ∧ (n : Int) < y.f0 + y.f1
            · rw [pgS_in h2, pgS_in (a := ⟨A.f0, A.f1 + y.f1, A.f2⟩) (show A.f0 ≤ n ∧ (n : Int) < A.f0 + (A.f1 + y.f1) by omega), hc.1]
            · rw [pgS_out h2, pgS_out (a := ⟨A.f0, A.f1 + y.f1, A.f2⟩) (show ¬ (A.f0 ≤ n ∧ (n : Int) < A.f0 + (A.f1 + y.f1)) by omega)]
        · rfl
    · rw [if_neg hc, foldW_out t (out ++ [y]) (fun z hz => by have h1 := ht z hz; have h2 := (NF_ge y5 z hz).2.1; exact ⟨by omega, fun _ => by omega⟩)]
      refine ⟨y :: t, A, by simp, (NF_append P _ 0 none).2 ⟨hP0, A1, A2, A3, A4, hy, fun he hw => ?_, y3, y4, y5⟩, fun n => rfl, rfl, fun z hz => ?_⟩
      · injection hw with hw
        exact hc ⟨hw.symm, he⟩
      · have := hge z hz; omega
theorem with_spec {l : List S24} {a : S24} (hl : NF 0 none l) (ha : Fit a) (hd : ∀ x ∈ l, ¬ (x.f0 < a.f0 + a.f1 ∧ a.f0 < x.f0 + x.f1)) :
    NF 0 none (withP l a) ∧ ∀ n : Nat, pgS (withP l a) n = if a.f0 ≤ n ∧ (n : Int) < a.f0 + a.f1 then wv a.f2 else pgS l n := by
  obtain ⟨p, s, rfl, hp, hs⟩ := split_at hl ha.2.1 hd
  obtain ⟨hp0, hs0⟩ := (NF_append p s 0 none).1 hl
  obtain ⟨p', a', e1, n1, g1, end1, w1, lt1⟩ := with_left hp0 ha hp []
  obtain ⟨s', A', e2, n2, g2, st2, ge2⟩ := with_right n1 hs0 (fun x hx => by rw [end1]; exact hs x hx) lt1 p'
  have hW : withP (p ++ s) a = p' ++ A' :: s' := by
    unfold withP
    rw [foldW_append, e1]
    simp only [List.nil_append]
    rw [e2]
    exact insW_mid (fun x hx => by rw [st2]; exact lt1 x hx) ge2
  rw [hW]
  refine ⟨n2, fun n => ?_⟩
  rw [g2 n, show p' ++ a' :: s = (p' ++ [a']) ++ s by simp, pgS_append, g1 n, ← pgS_append]
  rw [show p ++ [a] ++ s = p ++ a :: s by simp, pgS_append, pgS_append]
  by_cases hc : a.f0 ≤ n ∧ (n : Int) < a.f0 + a.f1
  · rw [pgS_in hc, if_pos hc, pgS_none (l := p) (fun x hx h => by have := hp x hx; omega), if_pos rfl]
  · rw [pgS_out hc, if_neg hc]
structure AsideE (p : Prop) : Prop where
  out : p
def outP (a : S24) (b m : Int) : List S24 :=
  (if a.f0 < b then [⟨a.f0, mn (a.f0 + a.f1) b - a.f0, a.f2⟩] else []) ++ (if a.f0 + a.f1 > b + m then [⟨mx a.f0 (b + m), a.f0 + a.f1 - mx a.f0 (b + m), a.f2⟩] else [])
def lessP : List S24 → Int → Int → List S24
  | [], _, _ => []
  | a :: r, b, m => outP a b m ++ lessP r b m
theorem NF_weak : ∀ {l : List S24} {e e' : Int} {lw lw' : Option Bool}, NF e lw l → e' < e → NF e' lw' l
  | [], _, _, _, _, _, _ => trivial
  | a :: r, e, e', lw, lw', ⟨h1, h2, h3, h4, h5⟩, h => ⟨by omega, (fun he => by omega), h3, h4, h5⟩
theorem less_spec : ∀ (l : List S24) (e : Int) (lw : Option Bool) (b m : Int), 1 ≤ m → NF e lw l → NF e lw (lessP l b m) ∧ ∀ n : Nat, pgS (lessP l b m) n = if b ≤ n ∧ (n : Int) < b + m then 0 else pgS l n
  | [], e, lw, b, m, _, _ => ⟨trivial, fun n => by simp [lessP, pgS]⟩
  | a :: r, e, lw, b, m, hm, ⟨h1, h2, h3, h4, h5⟩ => by
    obtain ⟨i1, i2⟩ := less_spec r _ _ b m hm h5
    have pg : ∀ n : Nat, pgS (lessP (a :: r) b m) n = if pgS (outP a b m) n = 0 then pgS (lessP r b m) n else pgS (outP a b m) n := fun n => pgS_append _ _ n
    have hcons : ∀ n : Nat, pgS (a :: r) n = if a.f0 ≤ n ∧ (n : Int) < a.f0 + a.f1 then wv a.f2 else pgS r n := fun n => rfl
    show NF e lw (outP a b m ++ lessP r b m) ∧ _
    by_cases c1 : a.f0 < b
    · by_cases c2 : a.f0 + a.f1 > b + m
      · have ho : outP a b m = [⟨a.f0, b - a.f0, a.f2⟩, ⟨b + m, a.f0 + a.f1 - (b + m), a.f2⟩] := by
          unfold outP mn mx
          rw [if_pos c1, if_pos c2, if_pos (by omega), if_pos (by omega)]; rfl
        refine ⟨?_, fun n => ?_⟩
        · rw [ho]
          refine ⟨h1, h2, by show 1 ≤ b - a.f0; omega, by show a.f0 + (b - a.f0) ≤ 1024; omega, by show a.f0 + (b - a.f0) ≤ b + m; omega, fun he => by simp only at he; omega, by show 1 ≤ a.f0 + a.f1 - (b + m); omega, by show b + m + (a.f0 + a.f1 - (b + m)) ≤ 1024; omega, ?_⟩
          show NF (b + m + (a.f0 + a.f1 - (b + m))) (some a.f2) _
          rw [show b + m + (a.f0 + a.f1 - (b + m)) = a.f0 + a.f1 by omega]
          exact i1
        · rw [pg n, ho, i2 n, hcons n]
          by_cases k1 : a.f0 ≤ n ∧ (n : Int) < b
          · rw [pgS_in (a := ⟨a.f0, b - a.f0, a.f2⟩) (show a.f0 ≤ n ∧ (n : Int) < a.f0 + (b - a.f0) by omega), if_neg (wv_ne _), if_neg (by omega), if_pos (by omega)]
          · rw [pgS_out (a := ⟨a.f0, b - a.f0, a.f2⟩) (show ¬ (a.f0 ≤ n ∧ (n : Int) < a.f0 + (b - a.f0)) by omega)]
            by_cases k2 : b + m ≤ n ∧ (n : Int) < a.f0 + a.f1
            · rw [pgS_in (a := ⟨b + m, a.f0 + a.f1 - (b + m), a.f2⟩) (show b + m ≤ n ∧ (n : Int) < b + m + (a.f0 + a.f1 - (b + m)) by omega), if_neg (wv_ne _), if_neg (by omega), if_pos (by omega)]
            · rw [pgS_out (a := ⟨b + m, a.f0 + a.f1 - (b + m), a.f2⟩) (show ¬ (b + m ≤ n ∧ (n : Int) < b + m + (a.f0 + a.f1 - (b + m))) by omega)]
              show (if (0 : Int) = 0 then _ else _) = _
              rw [if_pos rfl]
              by_cases k3 : b ≤ n ∧ (n : Int) < b + m
              · rw [if_pos k3, if_pos k3]
              · rw [if_neg k3, if_neg k3, if_neg (by omega)]
      · have ho : outP a b m = [⟨a.f0, mn (a.f0 + a.f1) b - a.f0, a.f2⟩] := by
          unfold outP
          rw [if_pos c1, if_neg c2]; rfl
        have hmn : mn (a.f0 + a.f1) b = b ∧ b < a.f0 + a.f1 ∨ mn (a.f0 + a.f1) b = a.f0 + a.f1 ∧ a.f0 + a.f1 ≤ b := by unfold mn; split <;> omega
        refine ⟨?_, fun n => ?_⟩
        · rw [ho]
          refine ⟨h1, h2, by show 1 ≤ mn (a.f0 + a.f1) b - a.f0; omega, by show a.f0 + (mn (a.f0 + a.f1) b - a.f0) ≤ 1024; omega, ?_⟩
          show NF (a.f0 + (mn (a.f0 + a.f1) b - a.f0)) (some a.f2) _
          rcases hmn with ⟨q1, q2⟩ | ⟨q1, q2⟩
          · exact NF_weak i1 (by omega)
          · rw [show a.f0 + (mn (a.f0 + a.f1) b - a.f0) = a.f0 + a.f1 by omega]
            exact i1
        · rw [pg n, ho, i2 n, hcons n]
          by_cases k1 : a.f0 ≤ n ∧ (n : Int) < mn (a.f0 + a.f1) b
          · rw [pgS_in (a := ⟨a.f0, mn (a.f0 + a.f1) b - a.f0, a.f2⟩) (show a.f0 ≤ n ∧ (n : Int) < a.f0 + (mn (a.f0 + a.f1) b - a.f0) by omega), if_neg (wv_ne _), if_neg (by omega), if_pos (by omega)]
          · rw [pgS_out (a := ⟨a.f0, mn (a.f0 + a.f1) b - a.f0, a.f2⟩) (show ¬ (a.f0 ≤ n ∧ (n : Int) < a.f0 + (mn (a.f0 + a.f1) b - a.f0)) by omega)]
            show (if (0 : Int) = 0 then _ else _) = _
            rw [if_pos rfl]
            by_cases k3 : b ≤ n ∧ (n : Int) < b + m
            · rw [if_pos k3, if_pos k3]
            · rw [if_neg k3, if_neg k3, if_neg (by omega)]
    · by_cases c2 : a.f0 + a.f1 > b + m
      · have ho : outP a b m = [⟨mx a.f0 (b + m), a.f0 + a.f1 - mx a.f0 (b + m), a.f2⟩] := by
          unfold outP
          rw [if_neg c1, if_pos c2]; rfl
        have hmx : mx a.f0 (b + m) = b + m ∧ a.f0 < b + m ∨ mx a.f0 (b + m) = a.f0 ∧ b + m ≤ a.f0 := by unfold mx; split <;> omega
        refine ⟨?_, fun n => ?_⟩
        · rw [ho]
          refine ⟨by show e ≤ mx a.f0 (b + m); omega, fun he => ?_, by show 1 ≤ a.f0 + a.f1 - mx a.f0 (b + m); omega, by show mx a.f0 (b + m) + (a.f0 + a.f1 - mx a.f0 (b + m)) ≤ 1024; omega, ?_⟩
          · simp only at he
            exact h2 (by omega)
          · show NF (mx a.f0 (b + m) + (a.f0 + a.f1 - mx a.f0 (b + m))) (some a.f2) _
            rw [show mx a.f0 (b + m) + (a.f0 + a.f1 - mx a.f0 (b + m)) = a.f0 + a.f1 by omega]
            exact i1
        · rw [pg n, ho, i2 n, hcons n]
          by_cases k1 : mx a.f0 (b + m) ≤ n ∧ (n : Int) < a.f0 + a.f1
          · rw [pgS_in (a := ⟨mx a.f0 (b + m), a.f0 + a.f1 - mx a.f0 (b + m), a.f2⟩) (show mx a.f0 (b + m) ≤ n ∧ (n : Int) < mx a.f0 (b + m) + (a.f0 + a.f1 - mx a.f0 (b + m)) by omega), if_neg (wv_ne _), if_neg (by omega), if_pos (by omega)]
          · rw [pgS_out (a := ⟨mx a.f0 (b + m), a.f0 + a.f1 - mx a.f0 (b + m), a.f2⟩) (show ¬ (mx a.f0 (b + m) ≤ n ∧ (n : Int) < mx a.f0 (b + m) + (a.f0 + a.f1 - mx a.f0 (b + m))) by omega)]
            show (if (0 : Int) = 0 then _ else _) = _
            rw [if_pos rfl]
            by_cases k3 : b ≤ n ∧ (n : Int) < b + m
            · rw [if_pos k3, if_pos k3]
            · rw [if_neg k3, if_neg k3, if_neg (by omega)]
      · have ho : outP a b m = [] := by
          unfold outP
          rw [if_neg c1, if_neg c2]; rfl
        refine ⟨?_, fun n => ?_⟩
        · rw [ho]
          exact NF_weak i1 (by omega)
        · rw [pg n, ho, i2 n, hcons n]
          show (if (0 : Int) = 0 then _ else _) = _
          rw [if_pos rfl]
          by_cases k3 : b ≤ n ∧ (n : Int) < b + m
          · rw [if_pos k3, if_pos k3]
          · rw [if_neg k3, if_neg k3, if_neg (by omega)]
theorem fit_iff {a : S24} : fitB a.f0 a.f1 = true ↔ Fit a := by
  rw [fitB_iff]; unfold Fit; omega
theorem one_nf {a : S24} (ha : Fit a) : NF 0 none [a] := ⟨ha.1, (fun _ h => by cases h), ha.2.1, ha.2.2, trivial⟩
theorem pgS_one {a : S24} {n : Nat} : pgS [a] n = if a.f0 ≤ n ∧ (n : Int) < a.f0 + a.f1 then wv a.f2 else 0 := rfl
theorem pgS_mem {l : List S24} {x : S24} {n : Nat} (hx : x ∈ l) (h : x.f0 ≤ n ∧ (n : Int) < x.f0 + x.f1) : pgS l n ≠ 0 := by
  induction l with
  | nil => cases hx
  | cons a r ih =>
    unfold pgS
    split
    · exact wv_ne _
    · rename_i hc
      rcases List.mem_cons.1 hx with rfl | hx
      · exact absurd h hc
      · exact ih hx
def ov (x a : S24) : Prop := x.f0 < a.f0 + a.f1 ∧ a.f0 < x.f0 + x.f1
theorem addR_clash {l : List S24} {a x : S24} (hl : okB l = true) (ha : Fit a) (hx : x ∈ l) (ho : ov x a) : addR l a = ([], 5) := by
  have hnf := ((okB_iff l).1 hl).2
  obtain ⟨x0, x1, x2⟩ := okB_fit hl x hx
  obtain ⟨a0, a1, a2⟩ := ha
  obtain ⟨o1, o2⟩ := ho
  have : clash (pgF l) (pgF [a]) = true := by
    by_cases h : x.f0 ≤ a.f0
    · refine clash_true a.f0.toNat (by omega) ?_ ?_
      · rw [pgF_eq hnf]; exact pgS_mem hx (by omega)
      · rw [pgF_eq (one_nf ⟨a0, a1, a2⟩), pgS_one, if_pos (by omega)]; exact wv_ne _
    · refine clash_true x.f0.toNat (by omega) ?_ ?_
      · rw [pgF_eq hnf]; exact pgS_mem hx (by omega)
      · rw [pgF_eq (one_nf ⟨a0, a1, a2⟩), pgS_one, if_pos (by omega)]; exact wv_ne _
  unfold addR
  rw [hl, fit_iff.2 ⟨a0, a1, a2⟩, this]
  rfl
theorem addR_ok {l : List S24} {a : S24} (hl : okB l = true) (ha : Fit a) (hd : ∀ x ∈ l, ¬ ov x a) : addR l a = fewR (withP l a) := by
  have hnf := ((okB_iff l).1 hl).2
  have hsp := with_spec hnf ha hd
  have hno : ∀ n : Nat, a.f0 ≤ n ∧ (n : Int) < a.f0 + a.f1 → pgS l n = 0 := fun n hn =>
    pgS_none (fun x hx hc => hd x hx ⟨by omega, by omega⟩)
  have hc : clash (pgF l) (pgF [a]) = false := clash_false (fun n hn h => by
    rw [pgF_eq hnf, pgF_eq (one_nf ha), pgS_one] at h
    by_cases hin : a.f0 ≤ n ∧ (n : Int) < a.f0 + a.f1
    · exact h.1 (hno n hin)
    · rw [if_neg hin] at h; exact h.2 rfl)
  unfold addR
  rw [hl, fit_iff.2 ha, hc]
  show formR _ = _
  refine formR_of (both_cases l [a]) hsp.1 (fun n hn => ?_)
  rw [hsp.2 n]
  show _ = mx (pgF l n) (pgF [a] n)
  rw [pgF_eq hnf, pgF_eq (one_nf ha), pgS_one]
  by_cases hin : a.f0 ≤ n ∧ (n : Int) < a.f0 + a.f1
  · rw [if_pos hin, if_pos hin, hno n hin]
    cases a.f2 <;> rfl
  · rw [if_neg hin, if_neg hin]
    rcases pgS_cases l n with h | h | h <;> rw [h] <;> rfl
theorem change_form {l m : List S24} {a b t : Int} (hl : okB l = true) (hf : fitB a b = true) (hc : covB l a b = true) (ht : t = 0 ∨ t = 1 ∨ t = 2) (hm : NF 0 none m)
    (hp : ∀ n : Nat, pgS m n = if a ≤ n ∧ (n : Int) < a + b then t else pgS l n) : changeR l a b t = fewR m := by
  have hnf := ((okB_iff l).1 hl).2
  unfold changeR
  rw [hl, hf, hc]
  show formR _ = _
  refine formR_of (chg_cases (pgF_cases l) ht) hm (fun n _ => ?_)
  rw [hp n]
  unfold chg
  rw [pgF_eq hnf]
theorem setP_spec {l : List S24} {a b : Int} (w : Bool) (h1 : okB l = true) (hf : fitB a b = true) (hc : covB l a b = true) : changeR l a b (wv w) = fewR (withP (lessP l a b) ⟨a, b, w⟩) := by
  obtain ⟨h8, hnf⟩ := (okB_iff l).1 h1
  obtain ⟨g0, g1, g2, g3⟩ := fitB_iff.1 hf
  have hs := less_spec l 0 none a b g2 hnf
  have hw := with_spec (a := ⟨a, b, w⟩) hs.1 ⟨g0, g2, by show a + b ≤ 1024; omega⟩ (fun x hx ho => by
    have hx1 := NF_ge hs.1 x hx
    have o1 : x.f0 < a + b := ho.1
    have o2 : a < x.f0 + x.f1 := ho.2
    by_cases h : x.f0 ≤ a
    · refine pgS_mem (n := a.toNat) hx (by omega) ?_
      rw [hs.2, if_pos (by omega)]
    · refine pgS_mem (n := x.f0.toNat) hx (by omega) ?_
      rw [hs.2, if_pos (by omega)])
  refine change_form h1 hf hc (wv_cases w) hw.1 (fun n => ?_)
  rw [hw.2 n, hs.2 n]
  show (if a ≤ (n : Int) ∧ (n : Int) < a + b then wv w else _) = _
  split <;> rfl
theorem same_l0 (l : List S24) (hlen : (l.length : Int) ≤ 9223372036854775807) : ∀ (d k i : Nat), i + d = l.length → d < k → prioryref14_Same.l0 k l l i = some true := by
  intro d
  induction d with
  | zero =>
    intro k i hi hk
    obtain ⟨k, rfl⟩ : ∃ m, k = m + 1 := ⟨k - 1, by omega⟩
    simp only [prioryref14_Same.l0]
    rw [if_neg (by omega)]
  | succ d ih =>
    intro k i hi hk
    obtain ⟨k, rfl⟩ : ∃ m, k = m + 1 := ⟨k - 1, by omega⟩
    simp only [prioryref14_Same.l0]
    have h1 : (i : Int) < (l.length : Int) := by omega
    have h2 : (0 : Int) ≤ i := by omega
    rw [if_pos h1, if_pos h2, if_pos h1, if_neg (by simp), wrap_id (by omega)]
    exact ih k (i + 1) (by omega) (by omega)
theorem same_tot (l : List S24) (hlen : l.length ≤ 1000) (k : Nat) (hk : 1001 ≤ k) : prioryref14_Same.f k l l = some true := by
  unfold prioryref14_Same.f
  rw [if_pos rfl]
  exact same_l0 l (by omega) l.length k 0 (by omega) (by omega)
theorem awake_add : addR [⟨3, 2, true⟩] ⟨5, 1, true⟩ = ([⟨3, 3, true⟩], 0) := by
  rw [addR_ok (by decide) ⟨by decide, by decide, by decide⟩ (fun x hx ho => ?_)]
  · rfl
  · rw [List.mem_singleton.1 hx] at ho; exact absurd ho.2 (by decide)
theorem awake_set : changeR [⟨3, 3, true⟩] 4 1 (wv false) = ([⟨3, 1, true⟩, ⟨4, 1, false⟩, ⟨5, 1, true⟩], 0) := by
  rw [setP_spec false (by decide) (by decide) (by decide)]
  rfl
theorem awake_cut : changeR [⟨3, 3, true⟩] 2 2 0 = ([], 4) := by
  unfold changeR
  rw [show okB [⟨3, 3, true⟩] = true by decide, show fitB 2 2 = true by decide, show covB [⟨3, 3, true⟩] 2 2 = false by decide]; rfl
theorem awake_tot (k : Nat) : priorylaw14_awake.f k = some true := by
  unfold priorylaw14_awake.f region_Add.f region_Set.f region_Cut.f
  rw [awake_add]
  simp only [Option.bind_some]
  rw [awake_set, awake_cut]
  rfl
theorem fewR_0 {m x : List S24} (h : fewR m = (x, 0)) : x = m ∧ m.length ≤ 8 := by
  unfold fewR at h
  split at h
  · injection h with h1 h2; exact absurd h2 (by decide)
  · injection h with h1 h2; exact ⟨h1.symm, by omega⟩
theorem fewR_cases (m : List S24) : fewR m = ([], 3) ∨ (fewR m = (m, 0) ∧ m.length ≤ 8) := by
  unfold fewR
  split
  · exact .inl rfl
  · exact .inr ⟨rfl, by omega⟩
theorem addR_cases (l : List S24) (a : S24) : (addR l a = ([], 2) ∧ ¬ (okB l = true ∧ Fit a)) ∨ (okB l = true ∧ Fit a ∧ addR l a = ([], 5) ∧ ∃ x ∈ l, ov x a) ∨
    (okB l = true ∧ Fit a ∧ (∀ x ∈ l, ¬ ov x a) ∧ addR l a = fewR (withP l a)) := by
  by_cases h1 : okB l = true
  · by_cases h2 : Fit a
    · by_cases h3 : ∃ x ∈ l, ov x a
      · obtain ⟨x, hx, ho⟩ := h3
        exact .inr (.inl ⟨h1, h2, addR_clash h1 h2 hx ho, x, hx, ho⟩)
      · have h4 : ∀ x ∈ l, ¬ ov x a := fun x hx ho => h3 ⟨x, hx, ho⟩
        exact .inr (.inr ⟨h1, h2, h4, addR_ok h1 h2 h4⟩)
    · refine .inl ⟨?_, fun h => h2 h.2⟩
      have : fitB a.f0 a.f1 = false := by rw [Bool.eq_false_iff, ne_eq, fit_iff]; exact h2
      unfold addR; rw [this, Bool.and_false]; rfl
  · refine .inl ⟨?_, fun h => h1 h.1⟩
    rw [Bool.not_eq_true] at h1
    unfold addR; rw [h1]; rfl
structure Added (l : List S24) (a : S24) (m : List S24) : Prop where
  okl : okB l = true
  fit : Fit a
  okm : okB m = true
  out : ∀ n : Nat, a.f0 ≤ n ∧ (n : Int) < a.f0 + a.f1 → pgS l n = 0
  pg : ∀ n : Nat, pgS m n = if a.f0 ≤ n ∧ (n : Int) < a.f0 + a.f1 then wv a.f2 else pgS l n
  dis : ∀ x ∈ l, ¬ ov x a
theorem addR_0 {l m : List S24} {a : S24} (h : addR l a = (m, 0)) : Added l a m := by
  rcases addR_cases l a with ⟨h1, _⟩ | ⟨_, _, h1, _⟩ | ⟨h1, h2, h3, h4⟩
  · rw [h1] at h; injection h with h5 h6; exact absurd h6 (by decide)
  · rw [h1] at h; injection h with h5 h6; exact absurd h6 (by decide)
  · rw [h4] at h
    obtain ⟨rfl, h5⟩ := fewR_0 h
    have hs := with_spec ((okB_iff l).1 h1).2 h2 h3
    exact ⟨h1, h2, (okB_iff _).2 ⟨h5, hs.1⟩, fun n hn => pgS_none (fun x hx hc => h3 x hx ⟨by omega, by omega⟩), hs.2, h3⟩
theorem nov {l : List S24} {a : S24} (hf : ∀ x ∈ l, Fit x) (ha : Fit a) (h : ∀ n : Nat, a.f0 ≤ n ∧ (n : Int) < a.f0 + a.f1 → pgS l n = 0) : ∀ x ∈ l, ¬ ov x a := fun x hx ho => by
  obtain ⟨x0, x1, x2⟩ := hf x hx
  obtain ⟨a0, a1, a2⟩ := ha
  obtain ⟨o1, o2⟩ := ho
  by_cases hc : x.f0 ≤ a.f0
  · exact pgS_mem (n := a.f0.toNat) hx (by omega) (h _ (by omega))
  · exact pgS_mem (n := x.f0.toNat) hx (by omega) (h _ (by omega))
theorem ok_uniq {l m : List S24} (hl : okB l = true) (hm : okB m = true) (h : ∀ n : Nat, n < 1024 → pgS l n = pgS m n) : l = m :=
  NF_uniq l m 0 none (Int.le_refl 0) ((okB_iff l).1 hl).2 ((okB_iff m).1 hm).2 (fun n _ hn => h n hn)
theorem addR_to {l m : List S24} {a : S24} (hl : okB l = true) (ha : Fit a) (h : ∀ n : Nat, a.f0 ≤ n ∧ (n : Int) < a.f0 + a.f1 → pgS l n = 0) (hm : okB m = true)
    (hp : ∀ n : Nat, n < 1024 → pgS m n = if a.f0 ≤ n ∧ (n : Int) < a.f0 + a.f1 then wv a.f2 else pgS l n) : addR l a = (m, 0) := by
  have hd := nov (okB_fit hl) ha h
  have hs := with_spec ((okB_iff l).1 hl).2 ha hd
  obtain ⟨h8, hnf⟩ := (okB_iff m).1 hm
  rw [addR_ok hl ha hd, NF_uniq (withP l a) m 0 none (Int.le_refl 0) hs.1 hnf (fun n _ hn => by rw [hs.2, hp n hn])]
  unfold fewR
  rw [if_neg (by omega)]
theorem order_l0 (l m : List S24) (a : S24) (A : Added l a m) : ∀ (d k i : Nat) (c : List S24), (i : Int) + d = a.f0 + a.f1 → d + 2200 < k → a.f0 ≤ i → okB c = true →
    (∀ n : Nat, pgS c n = if a.f0 ≤ n ∧ n < i then wv a.f2 else pgS l n) → priorylaw14_RegionOrder.l0 k m c i a.f0 a.f1 a.f2 = some true := by
  obtain ⟨a0, a1, a2⟩ := A.fit
  have hw := AsideE.mk (show wrap64 (a.f0 + a.f1) = a.f0 + a.f1 from wrap_id (by omega))
  intro d
  induction d with
  | zero =>
    intro k i c hi hk hia hc hp
    obtain ⟨k, rfl⟩ : ∃ m, k = m + 1 := ⟨k - 1, by omega⟩
    simp only [priorylaw14_RegionOrder.l0]
    have hn : ¬ (i : Int) < a.f0 + a.f1 := by omega
    have e : c = m := ok_uniq hc A.okm (fun n hn => by
      rw [hp, A.pg]
      by_cases h : a.f0 ≤ n ∧ n < i
      · rw [if_pos h, if_pos (by omega)]
      · rw [if_neg h, if_neg (by omega)])
    subst e
    have h8 := ((okB_iff c).1 hc).1
    rw [hw.out, if_neg hn, same_tot c (by omega) k (by omega), Option.bind_some, if_pos rfl, awake_tot]
    rfl
  | succ d ih =>
    intro k i c hi hk hia hc hp
    obtain ⟨k, rfl⟩ : ∃ m, k = m + 1 := ⟨k - 1, by omega⟩
    simp only [priorylaw14_RegionOrder.l0]
    have hlt : (i : Int) < a.f0 + a.f1 := by omega
    have hft : Fit ⟨i, 1, a.f2⟩ := ⟨by show 0 ≤ (i : Int); omega, by show (1 : Int) ≤ 1; omega, by show (i : Int) + 1 ≤ 1024; omega⟩
    have h0 : pgS c i = 0 := by rw [hp, if_neg (by omega), A.out i ⟨hia, hlt⟩]
    have hd := nov (a := ⟨i, 1, a.f2⟩) (okB_fit hc) hft (fun n hn => by
      have h1 : (i : Int) ≤ n := hn.1
      have h2 : (n : Int) < i + 1 := hn.2
      rw [show n = i by omega]; exact h0)
    have hs := with_spec ((okB_iff c).1 hc).2 hft hd
    rw [hw.out, if_pos hlt]
    unfold region_Add.f
    rw [addR_ok hc hft hd, Option.bind_some, awake_tot]
    rcases fewR_cases (withP c ⟨i, 1, a.f2⟩) with h | ⟨h, h8⟩
    · rw [h]; rfl
    · rw [h]
      show (if (0 : Int) = 3 then _ else if (0 : Int) = 0 then _ else _) = _
      rw [if_neg (by decide), if_pos rfl, wrap_id (by omega)]
      refine ih k (i + 1) _ (by omega) (by omega) (by omega) ((okB_iff _).2 ⟨h8, hs.1⟩) (fun n => ?_)
      rw [hs.2]
      show (if (i : Int) ≤ n ∧ (n : Int) < i + 1 then wv a.f2 else _) = _
      by_cases h1 : (i : Int) ≤ n ∧ (n : Int) < i + 1
      · rw [if_pos h1, if_pos (by omega)]
      · rw [if_neg h1, hp]
        by_cases h2 : a.f0 ≤ n ∧ n < i
        · rw [if_pos h2, if_pos (by omega)]
        · rw [if_neg h2, if_neg (by omega)]
theorem law_order (k : Nat) (hk : 5000 ≤ k) (l : List S24) (a b : S24) : priorylaw14_RegionOrder.f k l a.f0 a.f1 a.f2 b.f0 b.f1 b.f2 = some true := by
  obtain ⟨k, rfl⟩ : ∃ m, k = m + 2 := ⟨k - 2, by omega⟩
  unfold priorylaw14_RegionOrder.f region_Add.f
  rw [awake_tot, Option.bind_some]
  by_cases h : (l.length : Int) > 100
  · rw [if_pos h]
  · rw [if_neg h]
    show (Option.bind (some (addR l a)) _) = _
    rcases h1 : addR l a with ⟨m1, c1⟩
    rw [Option.bind_some]
    show (Option.bind (some (addR m1 b)) _) = _
    rcases h2 : addR m1 b with ⟨m2, c2⟩
    rw [Option.bind_some]
    show (Option.bind (some (addR l b)) _) = _
    rcases h3 : addR l b with ⟨m3, c3⟩
    rw [Option.bind_some]
    show (Option.bind (some (addR m3 a)) _) = _
    rcases h4 : addR m3 a with ⟨m4, c4⟩
    rw [Option.bind_some]
    have hj : priorylaw14_RegionOrder.j0 (k + 2) l m1 c1 false a.f0 a.f1 a.f2 = some true := by
      simp only [priorylaw14_RegionOrder.j0]
      rw [if_neg (by decide)]
      have hj1 : priorylaw14_RegionOrder.j1 (k + 1) l m1 true a.f0 a.f1 a.f2 = some true := by
        simp only [priorylaw14_RegionOrder.j1, if_true]
        rw [awake_tot]; rfl
      by_cases hc : c1 = 0
      · subst hc
        rw [if_pos rfl]
        by_cases h20 : a.f1 > 20
        · rw [decide_eq_true h20]; exact hj1
        · rw [decide_eq_false h20]
          have A := addR_0 h1
          obtain ⟨a0, a1, a2⟩ := A.fit
          simp only [priorylaw14_RegionOrder.j1]
          rw [if_neg (by decide), Option.bind_some, if_pos (by simp; omega), List.nil_append]
          have := order_l0 l m1 a A a.f1.toNat k a.f0.toNat l (by omega) (by omega) (by omega) A.okl (fun n => by rw [if_neg (by omega)])
          rwa [show ((a.f0.toNat : Nat) : Int) = a.f0 by omega] at this
      · rw [if_neg hc]; exact hj1
    show (if c1 = 0 then (if c2 = 0 then (if c3 = 0 then (if c4 = 0 then _ else _) else _) else _) else _) = _
    by_cases e1 : c1 = 0
    · by_cases e2 : c2 = 0
      · by_cases e3 : c3 = 0
        · subst e1 e2 e3
          have A1 := addR_0 h1
          have A2 := addR_0 h2
          have A3 := addR_0 h3
          have hdis : ∀ n : Nat, a.f0 ≤ n ∧ (n : Int) < a.f0 + a.f1 → ¬ (b.f0 ≤ n ∧ (n : Int) < b.f0 + b.f1) := fun n ha hb => by
            have := A2.out n hb
            rw [A1.pg, if_pos ha] at this
            exact wv_ne _ this
          have h5 : addR m3 a = (m2, 0) := addR_to A3.okm A1.fit (fun n hn => by rw [A3.pg, if_neg (hdis n hn), A1.out n hn]) A2.okm (fun n hn => by
            rw [A2.pg, A1.pg, A3.pg]
            by_cases ha : a.f0 ≤ n ∧ (n : Int) < a.f0 + a.f1
            · rw [if_pos ha, if_neg (hdis n ha), if_pos ha]
            · rw [if_neg ha, if_neg ha])
          rw [h5] at h4
          injection h4 with h6 h7
          subst h6 h7
          have h8 := ((okB_iff m2).1 A2.okm).1
          rw [if_pos rfl, if_pos rfl, if_pos rfl, if_pos rfl, same_tot m2 (by omega) _ (by omega)]
          exact hj
        · rw [if_pos e1, if_pos e2, if_neg e3]; exact hj
      · rw [if_pos e1, if_neg e2]; exact hj
    · rw [if_neg e1]; exact hj
end Go.Proofs.Ytcblfhoipdbdlaa.PAll
