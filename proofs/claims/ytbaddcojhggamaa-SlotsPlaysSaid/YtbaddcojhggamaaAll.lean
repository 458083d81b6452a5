/-
  All.
-/
import Derived.Test.YtbaddcojhggamaaApp
namespace Go.Proofs.Ytbaddcojhggamaa.PAll
open Go.RowKit Go.Shelf Go.Proofs.YtbaddcojhggamaaM Go.Proofs.YtbaddcojhggamaaW.PrintWords Go.Proofs.YtbaddcojhggamaaW.PrintLast Go.Proofs.YtbaddcojhggamaaW.PrintMore
attribute [local go_sem] Oper.semAt_some
set_option linter.unusedVariables false
set_option linter.unusedSimpArgs false
theorem R_own {α : Type} {d : Kd α} {e base : Nat} {ok : Nat → Prop} {A B : World} {v : Value} {xs : List α} {row : Option Nat} (h : d.R e A base ok v xs) (hg : A.grownBy B row) (hr : ∀ r, row = some r → ∃ o : Obj, A.heap[r]? = some o ∧ o.isCells = false) : d.R e B base ok v xs :=
  Kd.R_mono (Kd.R_move (Kd.R_bound h) (fun k hk => hg.block k hk.2.2.1 (fun e => by
    obtain ⟨o, ho, hc⟩ := hr k e.symm
    obtain ⟨_, _, _, q, _, cells, h5⟩ := hk
    rw [h5] at ho; cases ho; cases hc))) (fun _ hk => hk.1)
theorem lstF_len (c : Int → Option S36) (n : Nat) : (lstF c n).length ≤ n := by
  unfold lstF
  have := List.length_filterMap_le (fun j : Nat => c ((j : Int) + 1)) (List.range n)
  simpa using this
set_option maxRecDepth 100000 in
set_option maxHeartbeats 4000000 in
theorem all_list (g m : Nat) (most : Int) (c : Int → Option S36) (w : World) (hc : TabW w g m most c) (hmost : most ≤ 1000) :
    Calls Try.prog 19 #[.pointer (some ⟨g, 0, none⟩)] w fun e W' => ∃ v, e = .returned v ∧ Kd.R k36 36 W' w.heap.size (fun _ => True) v (lstF c most.toNat) ∧ w.grownBy W' none := by
  refine (callsIn_wide (n := 4)).1 ?_
  refine callsIn_of_wp_marks Try.func19 rfl trivial ?_ rfl
  simp only [Try.ntmps19, List.size_toArray, List.length_cons, List.length_nil, Nat.reduceAdd, Nat.reduceSub, Array.replicate_succ, Array.replicate_zero, List.push_toArray, List.append_toArray, List.nil_append, List.cons_append]
  have HC := Aside0.mk hc
  clear hc
  gi_wp2_with (first | (refine ⟨trivial, ?_⟩; gi_at_call 28; refine (callsIn_wide.2 (none_calls g m most c _ HC.out)).mono ?_; rintro e w' ⟨rfl, hw⟩; rw [hw]; clear hw) | (refine ⟨trivial, ?_⟩; gi_at_call 23; refine (callsIn_wide.2 (all_calls g _)).mono ?_; rintro e w' ⟨rfl, rfl⟩))
  obtain ⟨hcg, hcm⟩ := HC.out.lt
  obtain ⟨W0, hW0⟩ : ∃ W0, W0 = (w.alloc (.cells #[.slice none 0 0] 45)).alloc (.cells #[.pointer (some ⟨g, 0, none⟩)] 25) := ⟨_, rfl⟩
  have q3 : W0.heap[w.heap.size]? = some (.cells #[.slice none 0 0] 45 (0, 0)) := by
    rw [hW0]; exact blk_alloc (new_at _ rfl) _
  have qx : BoxT W0 (w.heap.size + 1) g := by unfold BoxT; rw [hW0]; exact new_at _ (by simp)
  have hG0 : w.grownBy W0 none := by rw [hW0]; exact (World.grownBy_alloc w _ none).trans (World.grownBy_alloc _ _ none)
  have hsz : W0.heap.size = w.heap.size + 2 := by rw [hW0]; simp
  rw [← hW0]
  have hT0 : TabW W0 g m most c := HC.out.grown hG0 (by simp) (by simp)
  clear hW0
  refine wpIn_rangeFunc_D (F := Fence.wide) (n := 4) rfl (by decide) (gf := 29) (lb := #[.pointer (some ⟨w.heap.size + 1, 0, none⟩)]) rfl trivial (enters_of Try.func29 (by kernel_rfl) rfl)
    (all_seq 3 (by decide) (w.heap.size + 1) g m most hmost) (fun _ => rfl)
    (fun s W => (TabW W g m most c ∧ BoxT W (w.heap.size + 1) g ∧ ∃ v, W.heap[w.heap.size]? = some (.cells #[v] 45 (0, 0)) ∧ Kd.R k36 36 W w.heap.size (fun k => k ≠ w.heap.size) v (lstF c (s - 1))) ∧ w.grownBy W none ∧ 1 ≤ s ∧ s ≤ most.toNat + 1)
    (fun _ _ => False) ?hI (fun cd A B row h _ _ => h.elim) (fun s A h => ⟨h.1.2.1, c, h.1.1⟩) ⟨⟨hT0, qx, _, q3, Kd.R_nil _ _ _ _ _⟩, hG0, Nat.le_refl _, by omega⟩ ?round ?done (fun D cd W _ h _ => h.elim)
  case hI =>
    rintro s A B row ⟨⟨a1, a2, v, a3, a4⟩, a5, a6⟩ hg hr
    have hr' : ∀ r, row = some r → ∃ o : Obj, A.heap[r]? = some o ∧ o.isCells = false := fun r e => (hr r e).2
    exact ⟨⟨a1.own (by omega) hg hr, cells_own a2 hg hr', v, cells_own a3 hg hr', R_own a4 hg hr'⟩, a5.andThen hg (fun j e => .inl (by have := (hr j e).1; omega)), a6⟩
  case round =>
    rintro l s x s' W hl ⟨⟨a1, a2, v, a3, a4⟩, a7, a8, a9⟩ ⟨c', k, b1, b2, b3, rfl, b5, b6⟩
    obtain ⟨_, _, rfl⟩ := a1.uniq b1
    have HZ := Aside0.mk hsz
    have HL := Aside0.mk hl
    have HI := Aside0.mk (show TabW W g m most c ∧ BoxT W (w.heap.size + 1) g ∧ W.heap[w.heap.size]? = some (.cells #[v] 45 (0, 0)) ∧ Kd.R k36 36 W w.heap.size (fun k => k ≠ w.heap.size) v (lstF c (s - 1)) from ⟨a1, a2, a3, a4⟩)
    have HG := Aside0.mk a7
    have HX := Aside0.mk (show 1 ≤ s ∧ s ≤ k ∧ (k : Int) ≤ most ∧ (∀ j : Nat, s ≤ j → j < k → c j = none) ∧ c k = some x from ⟨a8, b2, b3, b5, b6⟩)
    obtain ⟨A0, c0, rfl, hlen0, _⟩ := Kd.R_reads a4
    clear q3 qx hG0 hT0 hsz hl a1 a2 a3 a4 a7 a8 a9 b1 b2 b3 b5 b6
    simp only [pv]
    gi_wp2
    refine ⟨(KeepsOthers.alloc _ _).from _, fun W2 hg2 o2 ho2 hc2 => ?_⟩
    have hne2 : ∀ r, some l = some r → ∃ o : Obj, (W.alloc (.cells #[.int .i64 x.f0, .int .i64 x.f1, .int .i64 x.f2, .int .u32 x.f3] 36)).heap[r]? = some o ∧ o.isCells = false := fun r e => by cases e; exact ⟨o2, ho2, hc2⟩
    have hX4 := cells_own (new_at (W := W) (.cells #[.int .i64 x.f0, .int .i64 x.f1, .int .i64 x.f2, .int .u32 x.f3] 36) rfl) hg2 hne2
    have hq3 := cells_own (blk_alloc HI.out.2.2.1 _) hg2 hne2
    have hqx : BoxT W2 (w.heap.size + 1) g := cells_own (blk_alloc HI.out.2.1 _) hg2 hne2
    have hT2 : TabW W2 g m most c := (HI.out.1.grown (World.grownBy_alloc W _ none) (by simp) (by simp)).own (N := w.heap.size) hcm hg2 (fun r e => by cases e; exact ⟨by have := HL.out; have := HZ.out; omega, o2, ho2, hc2⟩)
    have hR2 := R_own (Kd.R_alloc HI.out.2.2.2 (.cells #[.int .i64 x.f0, .int .i64 x.f1, .int .i64 x.f2, .int .u32 x.f3] 36)) hg2 hne2
    have hG2 : w.grownBy W2 none := (HG.out.andThen (World.grownBy_alloc W (.cells #[.int .i64 x.f0, .int .i64 x.f1, .int .i64 x.f2, .int .u32 x.f3] 36) none) (fun j e => by cases e)).andThen hg2 (fun j e => by cases e; exact .inl (by have := HL.out; have := HZ.out; omega))
    have r40 : W2.cell? ⟨W.heap.size, 0, none⟩ = some (.int .i64 x.f0) := (blk_cell hX4 0).trans rfl
    have r41 : W2.cell? ⟨W.heap.size, 1, none⟩ = some (.int .i64 x.f1) := (blk_cell hX4 1).trans rfl
    have r42 : W2.cell? ⟨W.heap.size, 2, none⟩ = some (.int .i64 x.f2) := (blk_cell hX4 2).trans rfl
    have r43 : W2.cell? ⟨W.heap.size, 3, none⟩ = some (.int .u32 x.f3) := (blk_cell hX4 3).trans rfl
    have r30 : W2.cell? ⟨w.heap.size, 0, none⟩ = some (.slice A0 (lstF c (s - 1)).length c0) := (blk_cell hq3 0).trans rfl
    have HQ := Aside0.mk (And.intro hq3 (And.intro hqx (And.intro hT2 (And.intro hR2 hG2))))
    clear hX4 hq3 hqx hT2 hR2 hG2 hg2 hne2 ho2 hc2
    gi_wp2_with (gi_at_builtin; go_loud (refine R_appendIn k36 (W := W2) w.heap.size rfl (.tmp 10) (.tmp 12) 45 36 (.agg #[.int .i64 0, .int .i64 0, .int .i64 0, .int .u32 0]) 32 rfl Try.underlying45 info36 rfl (by decide) (by decide) (.slice A0 (lstF c (s - 1)).length c0) (lstF c (s - 1)) x [.int .i64 x.f0, .int .i64 x.f1, .int .i64 x.f2, .int .u32 x.f3] (fun k => k ≠ w.heap.size) (fun _ => False) rfl rfl (k36_mkM _ _ _ x) (fun _ h => h.elim) ?hfr HQ.out.2.2.2.1 HQ.out.2.2.2.2.size ?hln ?_); (case hfr => intro k hk; have := blk_lt HQ.out.1; omega); (case hln => have := lstF_len c (s - 1); have := HX.out; omega); intro v1 W3 hR3 hg3 hat3; obtain ⟨A1, c1, rfl, _, _⟩ := Kd.R_reads hR3; have HR3 := Aside0.mk hR3; have HG3 := Aside0.mk hg3; have e3 := blk_grown HQ.out.1 hg3 (fun e => HQ.out.2.2.2.1.1 _ e.symm rfl); have y30 := (blk_cell e3 0).trans rfl; have z30 := blk_frozen e3 0; have E3 := Aside0.mk e3; clear hR3 hg3 hat3 e3)
    have hrow : ∀ (j : Nat) (o : Obj), (Value.slice A0 (lstF c (s - 1)).length c0).ownBlock = some j → W2.heap[j]? = some o → o.isCells = true := fun j o hj ho => by
      obtain ⟨_, _, _, q, _, cells, h5⟩ := (Kd.R_bound HQ.out.2.2.2.1).1 j hj
      rw [h5] at ho; cases ho; rfl
    have hlow : ∀ j, j < w.heap.size → some j ≠ (Value.slice A0 (lstF c (s - 1)).length c0).ownBlock := fun j hj e => by
      have := Kd.R_base HQ.out.2.2.2.1 j e.symm; omega
    have hTf := (HQ.out.2.2.1.grown HG3.out (hlow g hcg) (hlow m hcm))
    have hxf := blk_grown HQ.out.2.1 HG3.out (Kd.R_ne HQ.out.2.2.2.1 HQ.out.2.1 (by decide))
    have hRf := HR3.out
    rw [← lst_hit HX.out.1 HX.out.2.1 HX.out.2.2.2.1 HX.out.2.2.2.2] at hRf
    have hlen : (lstF c k).length = (lstF c (s - 1)).length + 1 := by rw [lst_hit HX.out.1 HX.out.2.1 HX.out.2.2.2.1 HX.out.2.2.2.2]; simp
    rw [hlen] at hRf
    refine ⟨((KeepsOthers.of_grownBy HG3.out hrow).trans (KeepsOthers.setCell _ _ _)).from _, ⟨hTf.same (Below.heap_setCell _ ⟨w.heap.size, 0, none⟩ _ g (show g ≠ w.heap.size by omega)) (Below.heap_setCell _ ⟨w.heap.size, 0, none⟩ _ m (show m ≠ w.heap.size by omega)), blk_far hxf (show w.heap.size + 1 ≠ w.heap.size by omega) _, _, blk_put E3.out 0 _ rfl, ?_⟩, ?_⟩
    · exact Kd.R_far hRf (p := ⟨w.heap.size, 0, none⟩) (fun k hk => hk) _
    · refine ⟨?_, by have := HX.out; omega⟩
      exact (HQ.out.2.2.2.2.andThen HG3.out (fun j e => .inl (Kd.R_base HQ.out.2.2.2.1 j e))).andThen (gb_set _ _ _ _) (fun j e => by cases e; exact .inl (Nat.le_refl _))
  case done =>
    rintro D s W hD ⟨W1, ⟨c', b1, b2⟩, ⟨⟨a1, a2, v1, a3, a4⟩, a7, a8, a9⟩, hg1⟩ ⟨⟨d1, d2, v, d3, d4⟩, d7, d8⟩ hK
    obtain ⟨_, _, rfl⟩ := a1.uniq b1
    have hl : lstF c most.toNat = lstF c (s - 1) := by
      have := lst_gap (c := c) (k := most.toNat + 1) a8 a9 (fun j h1 h2 => b2 j h1 (by omega))
      rwa [show most.toNat + 1 - 1 = most.toNat by omega] at this
    have HLL := Aside0.mk hl
    obtain ⟨A0, c0, rfl, _, _⟩ := Kd.R_reads d4
    have x30 : W.cell? ⟨w.heap.size, 0, none⟩ = some (.slice A0 (lstF c (s - 1)).length c0) := (blk_cell d3 0).trans rfl
    have HD1 := Aside0.mk (And.intro d1 (And.intro d4 d7))
    have HK := Aside0.mk hK
    clear a1 a2 a3 a4 a7 a8 a9 b1 b2 d1 d2 d3 d4 d7 d8 hg1 hK q3 qx hG0 hT0 hl
    gi_wp2
    refine ⟨by simp, .inl ⟨_, _, rfl, run_takeDeferred HK.out, ?_⟩⟩
    refine ⟨.slice A0 (lstF c (s - 1)).length c0, by simp [results, Try.f19, go_sem], _, rfl, ?_, HD1.out.2.2.andThen (grownBy_putObj' W D (.deferred none)) (fun j e => by cases e; exact .inl (by omega))⟩
    rw [HLL.out]
    exact Kd.R_mono (R_own HD1.out.2.1 (grownBy_putObj' W D (.deferred none)) (fun r e => by cases e; exact ⟨_, HK.out, rfl⟩)) (fun _ _ => trivial)
end Go.Proofs.Ytbaddcojhggamaa.PAll
