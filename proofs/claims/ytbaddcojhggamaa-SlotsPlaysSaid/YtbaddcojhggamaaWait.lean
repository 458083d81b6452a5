/-
  Wait.
-/
import Derived.Test.YtbaddcojhggamaaAll
namespace Go.Proofs.Ytbaddcojhggamaa.PAll
open Go.RowKit Go.Shelf Go.Proofs.YtbaddcojhggamaaM Go.Proofs.YtbaddcojhggamaaW.PrintWords Go.Proofs.YtbaddcojhggamaaW.PrintLast Go.Proofs.YtbaddcojhggamaaW.PrintMore
attribute [local go_sem] Oper.semAt_some
set_option linter.unusedVariables false
set_option linter.unusedSimpArgs false
def kidsN (c : Int → Option S36) (n : Nat) (pid : Int) : Nat := (lstF c n).countP fun q => q.f1 == pid
def serveR (c : Int → Option S36) (most : Int) (p : S36) : Option S40 × (Int → Option S36) :=
  match (lstF c most.toNat).find? (isKid p.f0) with
  | none => (none, c)
  | some q => (some ⟨p.f0, q.f0, q.f3⟩, upd (upd c q.f0 none) p.f0 (some { p with f2 := 1 }))
def waitR (c : Int → Option S36) (most pid : Int) : List S40 × Int × (Int → Option S36) :=
  match c pid with
  | none => ([], 4, c)
  | some p => if kidsN c most.toNat pid = 0 then ([], 4, c) else if p.f2 ≠ 1 then ([], 9, c) else
    ((serveR (upd c pid (some { p with f2 := 2 })) most { p with f2 := 2 }).1.toList, 0, (serveR (upd c pid (some { p with f2 := 2 })) most { p with f2 := 2 }).2)
theorem kids_hit {c : Int → Option S36} {s k : Nat} {x : S36} {pid : Int} (hs : 1 ≤ s) (hk : s ≤ k) (hn : ∀ j : Nat, s ≤ j → j < k → c j = none) (hx : c k = some x) : kidsN c k pid = kidsN c (s - 1) pid + (if x.f1 = pid then 1 else 0) := by
  unfold kidsN
  rw [lst_hit hs hk hn hx, List.countP_append]
  by_cases h : x.f1 = pid <;> simp [h]
theorem kidsN_le (c : Int → Option S36) (n : Nat) (pid : Int) : kidsN c n pid ≤ n := Nat.le_trans List.countP_le_length (lstF_len c n)
set_option maxRecDepth 100000 in
set_option maxHeartbeats 4000000 in
theorem wait_calls (g m : Nat) (most : Int) (c : Int → Option S36) (pid : Int) (w : World) (hc : TabW w g m most c) (hmost : most ≤ 1000) :
    Calls Try.prog 12 #[.pointer (some ⟨g, 0, none⟩), .int .i64 pid] w fun e W' => ∃ v, e = .returned (.tuple #[v, .int .i64 (waitR c most pid).2.1]) ∧ Kd.R k40 40 W' w.heap.size (fun _ => True) v (waitR c most pid).1 ∧ TabW W' g m most (waitR c most pid).2.2 ∧ w.grownBy W' (some m) := by
  refine (callsIn_wide (n := 4)).1 ?_
  refine callsIn_of_wp_marks Try.func12 rfl trivial ?_ rfl
  simp only [Try.ntmps12, List.size_toArray, List.length_cons, List.length_nil, Nat.reduceAdd, Nat.reduceSub, Array.replicate_succ, Array.replicate_zero, List.push_toArray, List.append_toArray, List.nil_append, List.cons_append]
  have HC := Aside0.mk hc
  clear hc
  cases hcp : c pid with
  | none =>
    have HK := Aside0.mk (show thereR c pid = (⟨0, 0, 0, 0⟩, 4) by unfold thereR; rw [hcp])
    have HP := Aside0.mk hcp
    clear hcp
    gi_wp2_with (refine ⟨trivial, ?_⟩; gi_at_call 22; refine (callsIn_wide.2 (there_calls g m most c pid _ (HC.out.grown (World.grownBy_alloc w _ none) (by simp) (by simp)))).mono ?_; rintro e w' ⟨rfl, hg⟩; rw [HK.out]; simp only [pv]; have HG := Aside0.mk hg; clear hg)
    have hg := ((World.grownBy_alloc w (.cells #[.int .i64 pid] 3) none).trans HG.out).trans (World.grownBy_alloc w' (.cells #[.int .i64 0, .int .i64 0, .int .i64 0, .int .u32 0] 36) none)
    have e : waitR c most pid = ([], 4, c) := by unfold waitR; rw [HP.out]
    rw [e]
    refine ⟨_, results_tmp2 rfl _ _ _, _, rfl, Kd.R_nil _ _ _ _ _, HC.out.grown hg (by simp) (by simp), gb_weak hg m⟩
  | some p =>
    have HK := Aside0.mk (show thereR c pid = (p, 0) by unfold thereR; rw [hcp])
    have HP := Aside0.mk hcp
    clear hcp
    gi_wp2_with (first | (refine ⟨trivial, ?_⟩; gi_at_call 22; refine (callsIn_wide.2 (there_calls g m most c pid _ (HC.out.grown (World.grownBy_alloc w _ none) (by simp) (by simp)))).mono ?_; rintro e w' ⟨rfl, hg⟩; rw [HK.out]; simp only [pv]; have c30 := (blk_cell (blk_grown (new_at (W := w) (.cells #[.int .i64 pid] 3) rfl) hg (by simp)) 0).trans rfl; have HG := Aside0.mk hg; clear hg) | (refine ⟨trivial, ?_⟩; gi_at_call 23; refine (callsIn_wide.2 (all_calls g _)).mono ?_; rintro e w' ⟨rfl, rfl⟩))
    obtain ⟨hcg, hcm⟩ := HC.out.lt
    have hww : w.heap.size + 1 ≤ w'.heap.size := by have := HG.out.size; simp at this; omega
    have hP3 := blk_grown (new_at (W := w) (.cells #[.int .i64 pid] 3) rfl) HG.out (by simp)
    have hgw : w.grownBy w' none := (World.grownBy_alloc w _ none).trans HG.out
    obtain ⟨b, hb⟩ : ∃ b, b = w'.heap.size := ⟨_, rfl⟩
    obtain ⟨W0, hW0⟩ : ∃ W0, W0 = ((w'.alloc (.cells #[.int .i64 p.f0, .int .i64 p.f1, .int .i64 p.f2, .int .u32 p.f3] 36)).alloc (.cells #[.int .i64 0] 3)).alloc (.cells #[.pointer (some ⟨g, 0, none⟩)] 25) := ⟨_, rfl⟩
    have q3 : W0.heap[w.heap.size]? = some (.cells #[.int .i64 pid] 3 (0, 0)) := by rw [hW0]; exact blk_alloc (blk_alloc (blk_alloc hP3 _) _) _
    have q6 : W0.heap[b]? = some (.cells #[.int .i64 p.f0, .int .i64 p.f1, .int .i64 p.f2, .int .u32 p.f3] 36 (0, 0)) := by rw [hW0, hb]; exact blk_alloc (blk_alloc (new_at _ rfl) _) _
    have q8 : W0.heap[b + 1]? = some (.cells #[.int .i64 0] 3 (0, 0)) := by rw [hW0, hb]; exact blk_alloc (new_at _ (by simp)) _
    have qx : BoxT W0 (b + 2) g := by unfold BoxT; rw [hW0, hb]; exact new_at _ (by simp)
    have hG0 : w.grownBy W0 none := by rw [hW0]; exact ((hgw.trans (World.grownBy_alloc _ _ none)).trans (World.grownBy_alloc _ _ none)).trans (World.grownBy_alloc _ _ none)
    have hsz : W0.heap.size = b + 3 := by rw [hW0, hb]; simp
    rw [← hW0, ← hb]
    rw [← hb] at hww
    have hT0 : TabW W0 g m most c := HC.out.grown hG0 (by simp) (by simp)
    clear hW0 hb hP3 hgw HG c30
    refine wpIn_rangeFunc_D (F := Fence.wide) (n := 4) rfl (by decide) (gf := 29) (lb := #[.pointer (some ⟨b + 2, 0, none⟩)]) rfl trivial (enters_of Try.func29 (by kernel_rfl) rfl)
      (all_seq 3 (by decide) (b + 2) g m most hmost) (fun _ => rfl)
      (fun s W => (TabW W g m most c ∧ BoxT W (b + 2) g ∧ W.heap[w.heap.size]? = some (.cells #[.int .i64 pid] 3 (0, 0)) ∧ W.heap[b]? = some (.cells #[.int .i64 p.f0, .int .i64 p.f1, .int .i64 p.f2, .int .u32 p.f3] 36 (0, 0)) ∧
        W.heap[b + 1]? = some (.cells #[.int .i64 (kidsN c (s - 1) pid : Nat)] 3 (0, 0))) ∧ w.grownBy W none ∧ 1 ≤ s ∧ s ≤ most.toNat + 1)
      (fun _ _ => False) ?hI (fun cd A B row h _ _ => h.elim) (fun s A h => ⟨h.1.2.1, c, h.1.1⟩) ⟨⟨hT0, qx, q3, q6, q8⟩, hG0, Nat.le_refl _, by omega⟩ ?round ?done (fun D cd W _ h _ => h.elim)
    case hI =>
      rintro s A B row ⟨⟨a1, a2, a3, a4, a5⟩, a6, a7⟩ hg hr
      have hr' : ∀ r, row = some r → ∃ o : Obj, A.heap[r]? = some o ∧ o.isCells = false := fun r e => (hr r e).2
      exact ⟨⟨a1.own (by omega) hg hr, cells_own a2 hg hr', cells_own a3 hg hr', cells_own a4 hg hr', cells_own a5 hg hr'⟩, a6.andThen hg (fun j e => .inl (by have := (hr j e).1; omega)), a7⟩
    case round =>
      rintro l s x s' W hl ⟨⟨a1, a2, a3, a4, a5⟩, a6, a7, a8⟩ ⟨c', k, b1, b2, b3, rfl, b5, b6⟩
      obtain ⟨_, _, rfl⟩ := a1.uniq b1
      have HZ := Aside0.mk hsz
      have HL := Aside0.mk hl
      have HI := Aside0.mk (show TabW W g m most c ∧ BoxT W (b + 2) g ∧ W.heap[w.heap.size]? = some (.cells #[.int .i64 pid] 3 (0, 0)) ∧ W.heap[b]? = some (.cells #[.int .i64 p.f0, .int .i64 p.f1, .int .i64 p.f2, .int .u32 p.f3] 36 (0, 0)) ∧
        W.heap[b + 1]? = some (.cells #[.int .i64 (kidsN c (s - 1) pid : Nat)] 3 (0, 0)) from ⟨a1, a2, a3, a4, a5⟩)
      have HG := Aside0.mk a6
      have HX := Aside0.mk (show 1 ≤ s ∧ s ≤ k ∧ (k : Int) ≤ most ∧ (∀ j : Nat, s ≤ j → j < k → c j = none) ∧ c k = some x from ⟨a7, b2, b3, b5, b6⟩)
      have hkn := kidsN_le c (s - 1) pid
      have hkb : (kidsN c (s - 1) pid : Int) ≤ 1001 := by omega
      clear q3 q6 q8 qx hG0 hT0 hsz hl a1 a2 a3 a4 a5 a6 a7 a8 b1 b2 b3 b5 b6 hkn
      simp only [pv]
      gi_wp2
      refine ⟨(KeepsOthers.alloc _ _).from _, fun W2 hg2 o2 ho2 hc2 => ?_⟩
      have hne2 : ∀ r, some l = some r → ∃ o : Obj, (W.alloc (.cells #[.int .i64 x.f0, .int .i64 x.f1, .int .i64 x.f2, .int .u32 x.f3] 36)).heap[r]? = some o ∧ o.isCells = false := fun r e => by cases e; exact ⟨o2, ho2, hc2⟩
      have hX9 := cells_own (new_at (W := W) (.cells #[.int .i64 x.f0, .int .i64 x.f1, .int .i64 x.f2, .int .u32 x.f3] 36) rfl) hg2 hne2
      have hq3 := cells_own (blk_alloc HI.out.2.2.1 _) hg2 hne2
      have hq6 := cells_own (blk_alloc HI.out.2.2.2.1 _) hg2 hne2
      have hq8 := cells_own (blk_alloc HI.out.2.2.2.2 _) hg2 hne2
      have hqx : BoxT W2 (b + 2) g := cells_own (blk_alloc HI.out.2.1 _) hg2 hne2
      have hT2 : TabW W2 g m most c := (HI.out.1.grown (World.grownBy_alloc W _ none) (by simp) (by simp)).own (N := w.heap.size) hcm hg2 (fun r e => by cases e; exact ⟨by have := HL.out; have := HZ.out; omega, o2, ho2, hc2⟩)
      have hG2 : w.grownBy W2 none := (HG.out.andThen (World.grownBy_alloc W (.cells #[.int .i64 x.f0, .int .i64 x.f1, .int .i64 x.f2, .int .u32 x.f3] 36) none) (fun j e => by cases e)).andThen hg2 (fun j e => by cases e; exact .inl (by have := HL.out; have := HZ.out; omega))
      have r91 : W2.cell? ⟨W.heap.size, 1, none⟩ = some (.int .i64 x.f1) := (blk_cell hX9 1).trans rfl
      have r30 : W2.cell? ⟨w.heap.size, 0, none⟩ = some (.int .i64 pid) := (blk_cell hq3 0).trans rfl
      have r80 : W2.cell? ⟨b + 1, 0, none⟩ = some (.int .i64 (kidsN c (s - 1) pid : Nat)) := (blk_cell hq8 0).trans rfl
      have f80 := blk_frozen hq8 0
      have HQ := Aside0.mk (And.intro hT2 (And.intro hqx (And.intro hq3 (And.intro hq6 (And.intro hq8 hG2)))))
      clear hX9 hq3 hq6 hq8 hqx hT2 hG2 hg2 hne2 ho2 hc2
      have hkh := Aside0.mk (kids_hit (pid := pid) HX.out.1 HX.out.2.1 HX.out.2.2.2.1 HX.out.2.2.2.2)
      by_cases hkid : x.f1 = pid
      · gi_wp2
        obtain ⟨t1, t2, t3, t4, t5, t6⟩ := HQ.out
        have hk2 : ((kidsN c k pid : Nat) : Int) = (kidsN c (s - 1) pid : Nat) + 1 := by have := hkh.out; rw [if_pos hkid] at this; omega
        have hx2 := HX.out
        refine ⟨(KeepsOthers.setCell _ _ _).from _, ⟨t1.same (Below.heap_setCell _ ⟨b + 1, 0, none⟩ _ g (show g ≠ b + 1 by omega)) (Below.heap_setCell _ ⟨b + 1, 0, none⟩ _ m (show m ≠ b + 1 by omega)), blk_far t2 (show b + 2 ≠ b + 1 by omega) _, blk_far t3 (show w.heap.size ≠ b + 1 by omega) _, blk_far t4 (show b ≠ b + 1 by omega) _, ?_⟩, t6.andThen (gb_set _ _ _ _) (fun j e => by cases e; exact .inl (by omega)), by omega⟩
        rw [hk2]
        exact blk_put t5 0 _ rfl
      · gi_wp2
        obtain ⟨t1, t2, t3, t4, t5, t6⟩ := HQ.out
        have hk2 : kidsN c k pid = kidsN c (s - 1) pid := by have := hkh.out; rw [if_neg hkid] at this; omega
        have hx2 := HX.out
        refine ⟨KeepsFrom.refl _ _, ⟨t1, t2, t3, t4, ?_⟩, t6, by omega⟩
        rw [hk2]
        exact t5
    case done =>
      rintro D s W hD ⟨W1, ⟨c', b1, b2⟩, ⟨⟨a1, a2, a3, a4, a5⟩, a6, a7, a8⟩, hg1⟩ ⟨⟨d1, d2, d3, d4, d5⟩, d6, d7⟩ hK
      obtain ⟨_, _, rfl⟩ := a1.uniq b1
      have hl : lstF c most.toNat = lstF c (s - 1) := by
        have := lst_gap (c := c) (k := most.toNat + 1) a7 a8 (fun j h1 h2 => b2 j h1 (by omega))
        rwa [show most.toNat + 1 - 1 = most.toNat by omega] at this
      have hkk : kidsN c (s - 1) pid = kidsN c most.toNat pid := by unfold kidsN; rw [hl]
      rw [hkk] at d5
      have hDb : b + 3 ≤ D := by omega
      clear a1 a2 a3 a4 a5 a6 a7 a8 b1 b2 hg1 hl hkk q3 q6 q8 qx hG0 hT0 hsz hD d7
      have HT := Aside0.mk d1
      have HB := Aside0.mk (And.intro d3 (And.intro d4 d5))
      have HG := Aside0.mk d6
      have HK2 := Aside0.mk hK
      have x80 := (blk_cell d5 0).trans rfl
      have x62 := (blk_cell d4 2).trans rfl
      have f62 := blk_frozen d4 2
      have x30 := (blk_cell d3 0).trans rfl
      clear d1 d2 d3 d4 d5 d6 hK
      by_cases h0 : kidsN c most.toNat pid = 0
      · have HH := Aside0.mk h0
        rw [h0] at x80
        clear h0
        gi_wp2
        have e : waitR c most pid = ([], 4, c) := by unfold waitR; rw [HP.out]; simp only; rw [if_pos HH.out]
        rw [e]
        refine ⟨by simp, .inl ⟨_, _, rfl, run_takeDeferred HK2.out, ?_⟩⟩
        refine ⟨_, results_tmp2 rfl _ _ _, _, rfl, Kd.R_nil _ _ _ _ _, HT.out.own (N := w.heap.size) hcm (grownBy_putObj' W D (.deferred none)) (fun r e => by cases e; exact ⟨by omega, _, HK2.out, rfl⟩), (gb_weak HG.out m).andThen (grownBy_putObj' W D (.deferred none)) (fun j e => by cases e; exact .inl (by omega))⟩
      · have hne : ¬ ((kidsN c most.toNat pid : Nat) : Int) = 0 := by omega
        have HH := Aside0.mk h0
        clear h0
        by_cases h1 : p.f2 = 1
        · have HH1 := Aside0.mk h1
          gi_wp2
          obtain ⟨W4, hW4⟩ : ∃ W4, W4 = W.setCell ⟨b, 2, none⟩ (.int .i64 2) := ⟨_, rfl⟩
          rw [← hW4]
          have k0 := blk_far HB.out.1 (p := ⟨b, 2, none⟩) (show w.heap.size ≠ b by omega) (.int .i64 2)
          rw [← hW4] at k0
          have k3 := Aside0.mk k0
          clear k0
          have k0 : W4.heap[b]? = some (.cells #[.int .i64 p.f0, .int .i64 p.f1, .int .i64 2, .int .u32 p.f3] 36 (0, 0)) := by rw [hW4]; exact blk_put HB.out.2.1 2 _ rfl
          have k6 := Aside0.mk k0
          clear k0
          have k0 := blk_far HT.out.1 (p := ⟨b, 2, none⟩) (show g ≠ b by omega) (.int .i64 2)
          rw [← hW4] at k0
          have kg := Aside0.mk k0
          clear k0
          have k0 := HT.out.2.same (Below.heap_setCell W ⟨b, 2, none⟩ (.int .i64 2) m (show m ≠ b by omega))
          rw [← hW4] at k0
          have HM4 := Aside0.mk k0
          clear k0
          have HW4 := Aside0.mk hW4
          clear hW4 x80 x62 f62 x30 hne h1
          have yg1 : W4.cell? ⟨g, 1, none⟩ = some (.map (some m)) := (blk_cell kg.out 1).trans rfl
          have y30 : W4.cell? ⟨w.heap.size, 0, none⟩ = some (.int .i64 pid) := (blk_cell k3.out 0).trans rfl
          have y60 : W4.cell? ⟨b, 0, none⟩ = some (.int .i64 p.f0) := (blk_cell k6.out 0).trans rfl
          have y61 : W4.cell? ⟨b, 1, none⟩ = some (.int .i64 p.f1) := (blk_cell k6.out 1).trans rfl
          have y62 : W4.cell? ⟨b, 2, none⟩ = some (.int .i64 2) := (blk_cell k6.out 2).trans rfl
          have y63 : W4.cell? ⟨b, 3, none⟩ = some (.int .u32 p.f3) := (blk_cell k6.out 3).trans rfl
          refine wpIn_draw (l := _) (by kernel_rfl) 6 [(0, 38), (1, 39), (2, 40), (3, 41), (4, 42), (5, 43)] (RdI 6 [.pointer (some ⟨g, 0, none⟩), .pointer (some ⟨g, 0, none⟩), .pointer (some ⟨g, 1, none⟩), .map (some m), .int .i64 pid, .agg #[.int .i64 p.f0, .int .i64 p.f1, .int .i64 2, .int .u32 p.f3]] W4) (by kernel_rfl) rfl (RdI.start _ _ _) ?hs ?ht
          case hs =>
            intro i o hi ho bq fq W' hbi hdep hI
            obtain ⟨rfl, hI2⟩ := hI
            have HI := Aside0.mk (show RdI 6 [.pointer (some ⟨g, 0, none⟩), .pointer (some ⟨g, 0, none⟩), .pointer (some ⟨g, 1, none⟩), .map (some m), .int .i64 pid, .agg #[.int .i64 p.f0, .int .i64 p.f1, .int .i64 2, .int .u32 p.f3]] W4 bq fq W4.drew from ⟨rfl, hI2⟩)
            have HD := Aside0.mk hdep
            clear hI2 hdep
            match i, hi, ho, hbi with
            | 0, _, ho, hbi =>
              cases ho
              simp only [frm, Act.put, List.setIfInBounds_toArray, List.set_cons_zero, List.set_cons_succ, Array.getD_eq_getD_getElem?, List.getElem?_toArray, List.getElem?_cons_zero, List.getElem?_cons_succ, Option.getD_some]
              gi_wp2
              exact ⟨_, rfl, HI.out.next rfl⟩
            | 1, _, ho, hbi =>
              cases ho
              have hb0 : bq 0 = true := HD.out _ (by first | exact List.mem_cons_self | exact List.mem_cons_of_mem _ List.mem_cons_self | exact List.mem_cons_of_mem _ (List.mem_cons_of_mem _ List.mem_cons_self)) rfl
              have h0 : fq 0 = .pointer (some ⟨g, 0, none⟩) := HI.out.2 0 (by decide) hb0
              simp only [frm, Act.put, List.setIfInBounds_toArray, List.set_cons_zero, List.set_cons_succ, Array.getD_eq_getD_getElem?, List.getElem?_toArray, List.getElem?_cons_zero, List.getElem?_cons_succ, Option.getD_some, hb0, h0, sel_true]
              clear h0 hb0
              gi_wp2
              exact ⟨_, rfl, HI.out.next rfl⟩
            | 2, _, ho, hbi =>
              cases ho
              have hb1 : bq 1 = true := HD.out _ (by first | exact List.mem_cons_self | exact List.mem_cons_of_mem _ List.mem_cons_self | exact List.mem_cons_of_mem _ (List.mem_cons_of_mem _ List.mem_cons_self)) rfl
              have h1 : fq 1 = .pointer (some ⟨g, 0, none⟩) := HI.out.2 1 (by decide) hb1
              simp only [frm, Act.put, List.setIfInBounds_toArray, List.set_cons_zero, List.set_cons_succ, Array.getD_eq_getD_getElem?, List.getElem?_toArray, List.getElem?_cons_zero, List.getElem?_cons_succ, Option.getD_some, hb1, h1, sel_true]
              clear h1 hb1
              gi_wp2
              exact ⟨_, rfl, HI.out.next rfl⟩
            | 3, _, ho, hbi =>
              cases ho
              have hb2 : bq 2 = true := HD.out _ (by first | exact List.mem_cons_self | exact List.mem_cons_of_mem _ List.mem_cons_self | exact List.mem_cons_of_mem _ (List.mem_cons_of_mem _ List.mem_cons_self)) rfl
              have h2 : fq 2 = .pointer (some ⟨g, 1, none⟩) := HI.out.2 2 (by decide) hb2
              simp only [frm, Act.put, List.setIfInBounds_toArray, List.set_cons_zero, List.set_cons_succ, Array.getD_eq_getD_getElem?, List.getElem?_toArray, List.getElem?_cons_zero, List.getElem?_cons_succ, Option.getD_some, hb2, h2, sel_true]
              clear h2 hb2
              gi_wp2
              exact ⟨_, rfl, HI.out.next rfl⟩
            | 4, _, ho, hbi =>
              cases ho
              simp only [frm, Act.put, List.setIfInBounds_toArray, List.set_cons_zero, List.set_cons_succ, Array.getD_eq_getD_getElem?, List.getElem?_toArray, List.getElem?_cons_zero, List.getElem?_cons_succ, Option.getD_some]
              gi_wp2
              exact ⟨_, rfl, HI.out.next rfl⟩
            | 5, _, ho, hbi =>
              cases ho
              simp only [frm, Act.put, List.setIfInBounds_toArray, List.set_cons_zero, List.set_cons_succ, Array.getD_eq_getD_getElem?, List.getElem?_toArray, List.getElem?_cons_zero, List.getElem?_cons_succ, Option.getD_some]
              gi_wp2
              exact ⟨_, rfl, HI.out.next rfl⟩
          case ht =>
            intro bq fq W' hb hI
            obtain ⟨rfl, hI2⟩ := hI
            have h0 : fq 0 = .pointer (some ⟨g, 0, none⟩) := hI2 0 (by decide) (hb 0 (by decide))
            have h1 : fq 1 = .pointer (some ⟨g, 0, none⟩) := hI2 1 (by decide) (hb 1 (by decide))
            have h2 : fq 2 = .pointer (some ⟨g, 1, none⟩) := hI2 2 (by decide) (hb 2 (by decide))
            have h3 : fq 3 = .map (some m) := hI2 3 (by decide) (hb 3 (by decide))
            have h4 : fq 4 = .int .i64 pid := hI2 4 (by decide) (hb 4 (by decide))
            have h5 : fq 5 = .agg #[.int .i64 p.f0, .int .i64 p.f1, .int .i64 2, .int .u32 p.f3] := hI2 5 (by decide) (hb 5 (by decide))
            simp only [frm, Act.put, List.setIfInBounds_toArray, List.set_cons_zero, List.set_cons_succ, Array.getD_eq_getD_getElem?, List.getElem?_toArray, List.getElem?_cons_zero, List.getElem?_cons_succ, Option.getD_some, sel_true, h0, h1, h2, h3, h4, h5]
            clear hI2 hb h0 h1 h2 h3 h4 h5
            simp only [List.drop_succ_cons, List.drop_zero]
            gi_wp2_with (first | (gi_at_mapUpdate; refine wpListIn_store rfl _ _ _ 58 rfl 3 36 Try.underlying58 Try.underlying3 m _ rfl (HM4.out.same rfl) pid rfl (pv { p with f2 := 2 }) rfl ?_; intro W5 hM5 hg5 hs5; have HM5 := Aside0.mk hM5; have HG5 := Aside0.mk hg5; have l6 := blk_grown (w := W4.drew) k6.out hg5 (by simp; omega); have lg := blk_grown (w := W4.drew) kg.out hg5 (by have := HT.out.ne; simpa using this); have L6 := Aside0.mk l6; have LG := Aside0.mk lg; have y60 := (blk_cell l6 0).trans rfl; have y61 := (blk_cell l6 1).trans rfl; have y62 := (blk_cell l6 2).trans rfl; have y63 := (blk_cell l6 3).trans rfl; clear hM5 hg5 hs5 l6 lg))
            have hT5 : TabW W5 g m most (upd c pid (some { p with f2 := 2 })) := ⟨LG.out, HM5.out.congr (fun j => by
              unfold upd
              by_cases e1 : j = pid
              · rw [if_pos e1, if_pos e1]; rfl
              · rw [if_neg e1, if_neg e1])⟩
            have hg5 : w.grownBy W5 (some m) := by
              have g4 : w.grownBy W4 (some m) := by rw [HW4.out]; exact (gb_weak HG.out m).andThen (gb_set _ _ _ _) (fun j e => by cases e; exact .inl (by omega))
              exact (gb_drew g4).andThen HG5.out (fun j e => .inr (by cases e; rfl))
            have hD5 : W5.heap[D]? = some (.deferred (some [])) := by
              have h4 : W4.heap[D]? = some (.deferred (some [])) := by rw [HW4.out, Below.heap_setCell _ ⟨b, 2, none⟩ _ D (show D ≠ b by omega)]; exact HK2.out
              exact (HG5.out.block D (Array.getElem?_eq_some_iff.1 h4).1 (by simp; omega)).trans h4
            have G5 := Aside0.mk hg5
            have D5 := Aside0.mk hD5
            clear hg5 hD5
            refine ⟨trivial, (callsIn_wide.2 (serve_calls g m most _ { p with f2 := 2 } W5 hT5 hmost)).mono ?_⟩
            rintro e W6 (⟨hf, rfl, hT6, hg6⟩ | ⟨q, hf, rfl, hT6, hg6⟩)
            · have HF := Aside0.mk hf
              have HT6 := Aside0.mk hT6
              have HG6 := Aside0.mk hg6
              clear hf hT6 hg6 hT5
              simp only [rv]
              gi_wp2
              obtain ⟨W7, hW7⟩ : ∃ W7, W7 = W6.alloc (.cells #[.int .i64 0, .int .i64 0, .int .u32 0] 40) := ⟨_, rfl⟩
              rw [← hW7]
              have hD6 := (HG6.out.block D (Array.getElem?_eq_some_iff.1 D5.out).1 (by simp)).trans D5.out
              have hD7 : W7.heap[D]? = some (.deferred (some [])) := by rw [hW7]; exact blk_alloc hD6 _
              have hg7 : w.grownBy W7 (some m) := by rw [hW7]; exact (G5.out.andThen HG6.out (fun j e => by cases e)).andThen (World.grownBy_alloc W6 _ none) (fun j e => by cases e)
              have hT7 : TabW W7 g m most (upd c pid (some { p with f2 := 2 })) := by rw [hW7]; exact HT6.out.grown (World.grownBy_alloc W6 _ none) (by simp) (by simp)
              have e : waitR c most pid = ([], 0, upd c pid (some { p with f2 := 2 })) := by
                unfold waitR; rw [HP.out]; simp only; rw [if_neg HH.out, if_neg (fun h => h HH1.out)]
                have : serveR (upd c pid (some { p with f2 := 2 })) most { p with f2 := 2 } = (none, upd c pid (some { p with f2 := 2 })) := by unfold serveR; rw [HF.out]
                rw [this]; rfl
              rw [e]
              refine ⟨by simp, .inl ⟨_, _, rfl, run_takeDeferred hD7, ?_⟩⟩
              refine ⟨_, results_tmp2 rfl _ _ _, _, rfl, Kd.R_nil _ _ _ _ _, hT7.own (N := w.heap.size) hcm (grownBy_putObj' W7 D (.deferred none)) (fun r e => by cases e; exact ⟨by omega, _, hD7, rfl⟩), hg7.andThen (grownBy_putObj' W7 D (.deferred none)) (fun j e => by cases e; exact .inl (by omega))⟩
            · have HF := Aside0.mk hf
              have HT6 := Aside0.mk hT6
              have HG6 := Aside0.mk hg6
              clear hf hT6 hg6 hT5
              simp only [rv]
              gi_wp2
              obtain ⟨W7, hW7⟩ : ∃ W7, W7 = W6.alloc (.cells #[.int .i64 p.f0, .int .i64 q.f0, .int .u32 q.f3] 40) := ⟨_, rfl⟩
              rw [← hW7]
              have hs7 : W7.heap.size = W6.heap.size + 1 := by rw [hW7]; simp
              rw [← hs7]
              obtain ⟨W8, hW8⟩ : ∃ W8, W8 = W7.alloc (.cells #[.int .i64 p.f0, .int .i64 q.f0, .int .u32 q.f3] 40) := ⟨_, rfl⟩
              rw [← hW8]
              have hg7 : w.grownBy W7 (some m) := by rw [hW7]; exact (G5.out.andThen HG6.out (fun j e => .inr (by cases e; rfl))).andThen (World.grownBy_alloc W6 _ none) (fun j e => by cases e)
              have hg8 : w.grownBy W8 (some m) := by rw [hW8]; exact hg7.andThen (World.grownBy_alloc W7 _ none) (fun j e => by cases e)
              have hD6 := (HG6.out.block D (Array.getElem?_eq_some_iff.1 D5.out).1 (by simp; omega)).trans D5.out
              have hD8 : W8.heap[D]? = some (.deferred (some [])) := by rw [hW8, hW7]; exact blk_alloc (blk_alloc hD6 _) _
              have hT8 : TabW W8 g m most (upd (upd (upd c pid (some { p with f2 := 2 })) q.f0 none) p.f0 (some { p with f2 := 1 })) := by rw [hW8, hW7]; exact (HT6.out.grown (World.grownBy_alloc W6 _ none) (by simp) (by simp)).grown (World.grownBy_alloc _ _ none) (by simp) (by simp)
              have hR8 : Kd.R k40 40 W8 w.heap.size (fun _ => True) (.slice (some ⟨W7.heap.size, 0, none⟩) 1 1) [⟨p.f0, q.f0, q.f3⟩] := by
                rw [hW8]
                exact ⟨fun _ _ => trivial, OwnRow.lit W7 w.heap.size (R := k40.M _ _ _) (ps := [(⟨p.f0, q.f0, q.f3⟩ : S40)]) (inner := [.int .i64 p.f0, .int .i64 q.f0, .int .u32 q.f3]) ((Reps.none _ _).snoc (k40_mkM _ _ _ (⟨p.f0, q.f0, q.f3⟩ : S40)) rfl) hg7.size (by simp)⟩
              have e : waitR c most pid = ([⟨p.f0, q.f0, q.f3⟩], 0, upd (upd (upd c pid (some { p with f2 := 2 })) q.f0 none) p.f0 (some { p with f2 := 1 })) := by
                unfold waitR; rw [HP.out]; simp only; rw [if_neg HH.out, if_neg (fun h => h HH1.out)]
                have : serveR (upd c pid (some { p with f2 := 2 })) most { p with f2 := 2 } = (some ⟨p.f0, q.f0, q.f3⟩, upd (upd (upd c pid (some { p with f2 := 2 })) q.f0 none) p.f0 (some { p with f2 := 1 })) := by unfold serveR; rw [HF.out]
                rw [this]; rfl
              rw [e]
              refine ⟨by simp, .inl ⟨_, _, rfl, run_takeDeferred hD8, ?_⟩⟩
              refine ⟨_, results_tmp2 rfl _ _ _, _, rfl, R_own hR8 (grownBy_putObj' W8 D (.deferred none)) (fun r e => by cases e; exact ⟨_, hD8, rfl⟩), hT8.own (N := w.heap.size) hcm (grownBy_putObj' W8 D (.deferred none)) (fun r e => by cases e; exact ⟨by omega, _, hD8, rfl⟩), hg8.andThen (grownBy_putObj' W8 D (.deferred none)) (fun j e => by cases e; exact .inl (by omega))⟩
        · have HH1 := Aside0.mk h1
          gi_wp2
          have e : waitR c most pid = ([], 9, c) := by unfold waitR; rw [HP.out]; simp only; rw [if_neg HH.out, if_pos HH1.out]
          rw [e]
          refine ⟨by simp, .inl ⟨_, _, rfl, run_takeDeferred HK2.out, ?_⟩⟩
          refine ⟨_, results_tmp2 rfl _ _ _, _, rfl, Kd.R_nil _ _ _ _ _, HT.out.own (N := w.heap.size) hcm (grownBy_putObj' W D (.deferred none)) (fun r e => by cases e; exact ⟨by omega, _, HK2.out, rfl⟩), (gb_weak HG.out m).andThen (grownBy_putObj' W D (.deferred none)) (fun j e => by cases e; exact .inl (by omega))⟩
end Go.Proofs.Ytbaddcojhggamaa.PAll
