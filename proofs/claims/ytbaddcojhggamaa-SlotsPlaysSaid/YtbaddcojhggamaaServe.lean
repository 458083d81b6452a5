/-
  What serve does.
-/
import Derived.Test.YtbaddcojhggamaaIt
import Derived.Test.YtbaddcojhggamaaDraw
namespace Go.Proofs.Ytbaddcojhggamaa.PAll
open Go.RowKit Go.Shelf Go.Proofs.YtbaddcojhggamaaM Go.Proofs.YtbaddcojhggamaaW.PrintWords Go.Proofs.YtbaddcojhggamaaW.PrintLast Go.Proofs.YtbaddcojhggamaaW.PrintMore
attribute [local go_sem] Oper.semAt_some
set_option linter.unusedVariables false
set_option linter.unusedSimpArgs false
def lstF (c : Int → Option S36) (n : Nat) : List S36 := (List.range n).filterMap fun j : Nat => c ((j : Int) + 1)
def isKid (pid : Int) (q : S36) : Bool := q.f1 == pid && q.f2 == 3
def rv (r : S40) : Value := .agg #[.int .i64 r.f0, .int .i64 r.f1, .int .u32 r.f2]
def upd (c : Int → Option S36) (k : Int) (v : Option S36) : Int → Option S36 := fun j => if j = k then v else c j
theorem lstF_succ (c : Int → Option S36) (n : Nat) : lstF c (n + 1) = lstF c n ++ (c ((n : Int) + 1)).toList := by
  unfold lstF
  rw [List.range_succ, List.filterMap_append]
  cases h : c ((n : Int) + 1) <;> simp [h]
theorem lst_gap {c : Int → Option S36} {s : Nat} (hs : 1 ≤ s) : ∀ {k : Nat}, s ≤ k → (∀ j : Nat, s ≤ j → j < k → c j = none) → lstF c (k - 1) = lstF c (s - 1) := by
  intro k
  induction k with
  | zero => intro h; omega
  | succ k ih =>
    intro h hn
    by_cases e : s = k + 1
    · rw [e]
    · have h1 := ih (by omega) (fun j h1 h2 => hn j h1 (by omega))
      have h2 := hn k (by omega) (by omega)
      rw [show k + 1 - 1 = (k - 1) + 1 by omega, lstF_succ, h1, show (((k - 1 : Nat) : Int) + 1) = (k : Int) by omega, h2]
      simp
theorem lst_hit {c : Int → Option S36} {s k : Nat} {x : S36} (hs : 1 ≤ s) (hk : s ≤ k) (hn : ∀ j : Nat, s ≤ j → j < k → c j = none) (hx : c k = some x) : lstF c k = lstF c (s - 1) ++ [x] := by
  have h1 := lst_gap hs hk hn
  obtain ⟨k, rfl⟩ : ∃ j, k = j + 1 := ⟨k - 1, by omega⟩
  rw [lstF_succ, show ((k : Int) + 1) = ((k + 1 : Nat) : Int) by omega, hx, ← h1]
  rfl
theorem lst_mono {c : Int → Option S36} {n : Nat} : ∀ {n' : Nat}, n ≤ n' → ∃ r, lstF c n' = lstF c n ++ r := by
  intro n'
  induction n' with
  | zero => intro h; exact ⟨[], by rw [show n = 0 by omega]; simp⟩
  | succ k ih =>
    intro h
    by_cases e : n = k + 1
    · rw [e]; exact ⟨[], by simp⟩
    · obtain ⟨r, hr⟩ := ih (by omega)
      exact ⟨r ++ (c ((k : Int) + 1)).toList, by rw [lstF_succ, hr, List.append_assoc]⟩
theorem cells_own {A B : World} {row : Option Nat} {b : Nat} {cs : Array Value} {t : TypeId} {f : Nat × Nat} (h : A.heap[b]? = some (.cells cs t f)) (hg : A.grownBy B row) (hr : ∀ r, row = some r → ∃ o : Obj, A.heap[r]? = some o ∧ o.isCells = false) : B.heap[b]? = some (.cells cs t f) :=
  (hg.block b (Array.getElem?_eq_some_iff.1 h).1 (fun e => by obtain ⟨o, ho, hc⟩ := hr b e.symm; rw [h] at ho; cases ho; cases hc)).trans h
theorem TabW.own {A B : World} {row : Option Nat} {g m N : Nat} {most : Int} {c : Int → Option S36} (h : TabW A g m most c) (hm : m < N) (hg : A.grownBy B row) (hr : ∀ r, row = some r → N ≤ r ∧ ∃ o : Obj, A.heap[r]? = some o ∧ o.isCells = false) : TabW B g m most c :=
  ⟨cells_own h.1 hg (fun r e => (hr r e).2), h.2.same (hg.block m h.lt.2 (fun e => by have := (hr m e.symm).1; omega))⟩
theorem new_at {W : World} {n : Nat} (o : Obj) (h : W.heap.size = n) : (W.alloc o).heap[n]? = some o := by subst h; exact World.alloc_heap_new W o
theorem TabW.ne {W : World} {g m : Nat} {most : Int} {c : Int → Option S36} (h : TabW W g m most c) : g ≠ m := by
  rintro rfl
  obtain ⟨es, k, h1, _⟩ := h.2
  rw [h.1] at h1
  cases h1
theorem kf_drew (B : Nat) (W : World) : KeepsFrom B W W.drew := ⟨Nat.le_refl _, fun k o _ h _ => h⟩
theorem gb_drew {w W : World} {row : Option Nat} (h : w.grownBy W row) : w.grownBy W.drew row := ⟨h.os, h.tape, h.output, h.size, h.block⟩
theorem gb_weak {w W : World} (h : w.grownBy W none) (m : Nat) : w.grownBy W (some m) := ⟨h.os, h.tape, h.output, h.size, fun k hk _ => h.block k hk (by simp)⟩
theorem gb_set (W : World) (b j : Nat) (u : Value) : W.grownBy (W.setCell ⟨b, j, none⟩ u) (some b) := ⟨rfl, rfl, rfl, by simp [World.setCell], fun k _ hk => Below.heap_setCell W ⟨b, j, none⟩ u k (fun e => hk (by rw [e]))⟩
theorem all_calls (g : Nat) (w : World) : Calls Try.prog 23 #[.pointer (some ⟨g, 0, none⟩)] w fun e W' => e = .returned (.func (.func 29) #[] #[.pointer (some ⟨w.heap.size, 0, none⟩)]) ∧ W' = w.alloc (.cells #[.pointer (some ⟨g, 0, none⟩)] 25) := by
  go_enter Try.func23, Try.ntmps23
  go_wp2
  go_ret
  exact ⟨rfl, rfl⟩
set_option maxRecDepth 100000 in
set_option maxHeartbeats 4000000 in
theorem serve_calls (g m : Nat) (most : Int) (c : Int → Option S36) (p : S36) (w : World) (hc : TabW w g m most c) (hmost : most ≤ 1000) :
    Calls Try.prog 24 #[.pointer (some ⟨g, 0, none⟩), pv p] w fun e W' =>
      ((lstF c most.toNat).find? (isKid p.f0) = none ∧ e = .returned (.tuple #[rv ⟨0, 0, 0⟩, .bool false]) ∧ TabW W' g m most c ∧ w.grownBy W' none) ∨
      (∃ q, (lstF c most.toNat).find? (isKid p.f0) = some q ∧ e = .returned (.tuple #[rv ⟨p.f0, q.f0, q.f3⟩, .bool true]) ∧ TabW W' g m most (upd (upd c q.f0 none) p.f0 (some { p with f2 := 1 })) ∧ w.grownBy W' (some m)) := by
  refine (callsIn_wide (n := 4)).1 ?_
  refine callsIn_of_wp_marks Try.func24 rfl trivial ?_ rfl
  simp only [Try.ntmps24, List.size_toArray, List.length_cons, List.length_nil, Nat.reduceAdd, Nat.reduceSub, Array.replicate_succ, Array.replicate_zero, List.push_toArray, List.append_toArray, List.nil_append, List.cons_append]
  simp only [pv]
  have HC := Aside0.mk hc
  clear hc
  gi_wp2_with (refine ⟨trivial, ?_⟩; gi_at_call 23; refine (callsIn_wide.2 (all_calls g _)).mono ?_; rintro e w' ⟨rfl, rfl⟩)
  obtain ⟨hcg, hcm⟩ := HC.out.lt
  obtain ⟨W0, hW0⟩ : ∃ W0, W0 = ((((w.alloc (.cells #[.pointer (some ⟨g, 0, none⟩)] 25)).alloc (.cells #[.int .i64 p.f0, .int .i64 p.f1, .int .i64 p.f2, .int .u32 p.f3] 36)).alloc (.cells #[.int .i64 0, .int .i64 0, .int .u32 0] 40)).alloc (.cells #[.bool false] 4)).alloc (.cells #[.pointer (some ⟨g, 0, none⟩)] 25) := ⟨_, rfl⟩
  have q2 : W0.heap[w.heap.size]? = some (.cells #[.pointer (some ⟨g, 0, none⟩)] 25 (0, 0)) := by
    rw [hW0]; exact blk_alloc (blk_alloc (blk_alloc (blk_alloc (World.alloc_heap_new w _) _) _) _) _
  have q3 : W0.heap[w.heap.size + 1]? = some (.cells #[.int .i64 p.f0, .int .i64 p.f1, .int .i64 p.f2, .int .u32 p.f3] 36 (0, 0)) := by
    rw [hW0]; exact blk_alloc (blk_alloc (blk_alloc (new_at _ (by simp)) _) _) _
  have q4 : W0.heap[w.heap.size + 2]? = some (.cells #[.int .i64 0, .int .i64 0, .int .u32 0] 40 (0, 0)) := by
    rw [hW0]; exact blk_alloc (blk_alloc (new_at _ (by simp)) _) _
  have q5 : W0.heap[w.heap.size + 3]? = some (.cells #[.bool false] 4 (0, 0)) := by
    rw [hW0]; exact blk_alloc (new_at _ (by simp)) _
  have qx : BoxT W0 (w.heap.size + 4) g := by
    unfold BoxT; rw [hW0]; exact new_at _ (by simp)
  have hG0 : w.grownBy W0 none := by
    rw [hW0]
    exact ((((World.grownBy_alloc w _ none).trans (World.grownBy_alloc _ _ none)).trans (World.grownBy_alloc _ _ none)).trans (World.grownBy_alloc _ _ none)).trans (World.grownBy_alloc _ _ none)
  have hsz : W0.heap.size = w.heap.size + 5 := by rw [hW0]; simp
  rw [← hW0]
  have hT0 : TabW W0 g m most c := HC.out.grown hG0 (by simp) (by simp)
  clear hW0
  refine wpIn_rangeFunc_D (F := Fence.wide) (n := 4) rfl (by decide) (gf := 29) (lb := #[.pointer (some ⟨w.heap.size + 4, 0, none⟩)]) rfl trivial (enters_of Try.func29 (by kernel_rfl) rfl)
    (all_seq 3 (by decide) (w.heap.size + 4) g m most hmost) (fun _ => rfl)
    (fun s W => (TabW W g m most c ∧ BoxT W (w.heap.size + 4) g ∧ W.heap[w.heap.size]? = some (.cells #[.pointer (some ⟨g, 0, none⟩)] 25 (0, 0)) ∧
      W.heap[w.heap.size + 1]? = some (.cells #[.int .i64 p.f0, .int .i64 p.f1, .int .i64 p.f2, .int .u32 p.f3] 36 (0, 0)) ∧ W.heap[w.heap.size + 2]? = some (.cells #[.int .i64 0, .int .i64 0, .int .u32 0] 40 (0, 0)) ∧
      W.heap[w.heap.size + 3]? = some (.cells #[.bool false] 4 (0, 0))) ∧ w.grownBy W none ∧ 1 ≤ s ∧ (lstF c (s - 1)).find? (isKid p.f0) = none)
    (fun cd W => cd = .ret ∧ w.grownBy W (some m) ∧ ∃ q, (lstF c most.toNat).find? (isKid p.f0) = some q ∧ TabW W g m most (upd (upd c q.f0 none) p.f0 (some { p with f2 := 1 })) ∧
      W.heap[w.heap.size + 2]? = some (.cells #[.int .i64 p.f0, .int .i64 q.f0, .int .u32 q.f3] 40 (0, 0)) ∧ W.heap[w.heap.size + 3]? = some (.cells #[.bool true] 4 (0, 0)))
    ?hI ?hIx (fun s A h => ⟨h.1.2.1, c, h.1.1⟩) ⟨⟨hT0, qx, q2, q3, q4, q5⟩, hG0, Nat.le_refl _, rfl⟩ ?round ?done ?stop
  case hI =>
    rintro s A B row ⟨⟨a1, a2, a3, a4, a5, a6⟩, a7, a8⟩ hg hr
    have hr' : ∀ r, row = some r → ∃ o : Obj, A.heap[r]? = some o ∧ o.isCells = false := fun r e => (hr r e).2
    exact ⟨⟨a1.own (by omega) hg hr, cells_own a2 hg hr', cells_own a3 hg hr', cells_own a4 hg hr', cells_own a5 hg hr', cells_own a6 hg hr'⟩, a7.andThen hg (fun j e => .inl (by have := (hr j e).1; omega)), a8⟩
  case hIx =>
    rintro cd A B row ⟨a1, a2, q, a3, a4, a5, a6⟩ hg hr
    have hr' : ∀ r, row = some r → ∃ o : Obj, A.heap[r]? = some o ∧ o.isCells = false := fun r e => (hr r e).2
    exact ⟨a1, a2.andThen hg (fun j e => .inl (by have := (hr j e).1; omega)), q, a3, a4.own (by omega) hg hr, cells_own a5 hg hr', cells_own a6 hg hr'⟩
  case done =>
    rintro D s W hD ⟨W1, ⟨c', b1, b2⟩, ⟨⟨a1, a2, a3, a4, a5, a6⟩, a7, a8, a9⟩, hg1⟩ ⟨⟨d1, d2, d3, d4, d5, d6⟩, d7, d8, d9⟩ hK
    obtain ⟨_, _, rfl⟩ := a1.uniq b1
    have hfind : (lstF c most.toNat).find? (isKid p.f0) = none := by
      by_cases hsm : s ≤ most.toNat + 1
      · have := lst_gap (c := c) (k := most.toNat + 1) a8 hsm (fun j h1 h2 => b2 j h1 (by omega))
        rw [show most.toNat + 1 - 1 = most.toNat by omega] at this
        rw [this]; exact a9
      · obtain ⟨r, hr⟩ := lst_mono (c := c) (n := most.toNat) (n' := s - 1) (by omega)
        rw [hr, List.find?_append] at a9
        cases h : (lstF c most.toNat).find? (isKid p.f0) with
        | none => rfl
        | some q => rw [h] at a9; cases a9
    have x40 := (blk_cell d5 0).trans rfl
    have x41 := (blk_cell d5 1).trans rfl
    have x42 := (blk_cell d5 2).trans rfl
    have w40 := blk_frozen d5 0
    have w41 := blk_frozen d5 1
    have w42 := blk_frozen d5 2
    have x50 := (blk_cell d6 0).trans rfl
    have w50 := blk_frozen d6 0
    have HFN := Aside0.mk hfind
    clear hfind
    have HD1 := Aside0.mk (And.intro d1 (And.intro d5 (And.intro d6 d7)))
    have HK := Aside0.mk hK
    clear a1 a2 a3 a4 a5 a6 a7 a8 a9 b1 b2 d1 d2 d3 d4 d5 d6 d7 d8 d9 hg1 hK q2 q3 q4 q5 qx hG0 hT0
    gi_wp2
    obtain ⟨Wd, hWd⟩ : ∃ Wd, Wd = (((W.setCell ⟨w.heap.size + 1 + 1, 0, none⟩ (.int .i64 0)).setCell ⟨w.heap.size + 1 + 1, 1, none⟩ (.int .i64 0)).setCell ⟨w.heap.size + 1 + 1, 2, none⟩ (.int .u32 0)).setCell ⟨w.heap.size + 1 + 1 + 1, 0, none⟩ (.bool false) := ⟨_, rfl⟩
    rw [← hWd]
    have hK' : Wd.heap[D]? = some (.deferred (some [])) := by
      rw [hWd]
      exact ((((KeepsOthers.setCell _ _ _).trans (KeepsOthers.setCell _ _ _)).trans (KeepsOthers.setCell _ _ _)).trans (KeepsOthers.setCell _ _ _)).same D _ HK.out rfl
    have e4 : Wd.heap[w.heap.size + 2]? = some (.cells #[.int .i64 0, .int .i64 0, .int .u32 0] 40 (0, 0)) := by
      rw [hWd]; exact blk_far (blk_put (blk_put (blk_put HD1.out.2.1 0 _ rfl) 1 _ rfl) 2 _ rfl) (show w.heap.size + 2 ≠ w.heap.size + 3 by omega) _
    have e5 : Wd.heap[w.heap.size + 3]? = some (.cells #[.bool false] 4 (0, 0)) := by
      rw [hWd]; exact blk_put (blk_far (blk_far (blk_far HD1.out.2.2.1 (show w.heap.size + 3 ≠ w.heap.size + 2 by omega) _) (show w.heap.size + 3 ≠ w.heap.size + 2 by omega) _) (show w.heap.size + 3 ≠ w.heap.size + 2 by omega) _) 0 _ rfl
    have efar : ∀ b, b < w.heap.size → Wd.heap[b]? = W.heap[b]? := fun b h2 => by
      rw [hWd, Below.heap_setCell _ ⟨w.heap.size + 3, 0, none⟩ _ b (show b ≠ w.heap.size + 3 by omega), Below.heap_setCell _ ⟨w.heap.size + 2, 2, none⟩ _ b (show b ≠ w.heap.size + 2 by omega), Below.heap_setCell _ ⟨w.heap.size + 2, 1, none⟩ _ b (show b ≠ w.heap.size + 2 by omega), Below.heap_setCell _ ⟨w.heap.size + 2, 0, none⟩ _ b (show b ≠ w.heap.size + 2 by omega)]
    have hgd : w.grownBy Wd none := by
      rw [hWd]
      exact (((HD1.out.2.2.2.andThen (gb_set _ _ _ _) (fun j e => by cases e; exact .inl (by omega))).andThen (gb_set _ _ _ _) (fun j e => by cases e; exact .inl (by omega))).andThen (gb_set _ _ _ _) (fun j e => by cases e; exact .inl (by omega))).andThen (gb_set _ _ _ _) (fun j e => by cases e; exact .inl (by omega))
    have hT1 : TabW Wd g m most c := HD1.out.1.same (efar g hcg) (efar m hcm)
    refine ⟨by simp, .inl ⟨_, _, rfl, run_takeDeferred hK', ?_⟩⟩
    have hn : ∀ r, some D = some r → ∃ o : Obj, Wd.heap[r]? = some o ∧ o.isCells = false := fun r e => by cases e; exact ⟨_, hK', rfl⟩
    have f4 := cells_own e4 (grownBy_putObj' Wd D (.deferred none)) hn
    have f5 := cells_own e5 (grownBy_putObj' Wd D (.deferred none)) hn
    have u40 := (blk_cell f4 0).trans rfl
    have u41 := (blk_cell f4 1).trans rfl
    have u42 := (blk_cell f4 2).trans rfl
    have u50 := (blk_cell f5 0).trans rfl
    refine ⟨.tuple #[rv ⟨0, 0, 0⟩, .bool false], ?_, .inl ⟨by simpa using HFN.out, rfl, hT1.own (N := W0.heap.size) (by omega) (grownBy_putObj' Wd D (.deferred none)) (fun r e => by cases e; exact ⟨hD, _, hK', rfl⟩), hgd.andThen (grownBy_putObj' Wd D (.deferred none)) (fun j e => by cases e; exact .inl (by omega))⟩⟩
    simp [results, Try.f24, go_sem, rv, u40, u41, u42, u50]
  case stop =>
    rintro D cd W hD ⟨rfl, a2, q, a3, a4, a5, a6⟩ hK
    have x40 := (blk_cell a5 0).trans rfl
    have x41 := (blk_cell a5 1).trans rfl
    have x42 := (blk_cell a5 2).trans rfl
    have x50 := (blk_cell a6 0).trans rfl
    have HD1 := Aside0.mk (And.intro a2 (And.intro a3 (And.intro a4 (And.intro a5 a6))))
    have HK := Aside0.mk hK
    have hnn : ∀ r, some D = some r → ∃ o : Obj, W.heap[r]? = some o ∧ o.isCells = false := fun r e => by cases e; exact ⟨_, hK, rfl⟩
    have f4 := cells_own a5 (grownBy_putObj' W D (.deferred none)) hnn
    have f5 := cells_own a6 (grownBy_putObj' W D (.deferred none)) hnn
    have F4 := Aside0.mk f4
    have F5 := Aside0.mk f5
    clear a2 a3 a4 a5 a6 hK q2 q3 q4 q5 qx hG0 hT0 x40 x41 x42 x50 f4 f5
    gi_wp2
    refine ⟨by simp, .inl ⟨_, _, rfl, run_takeDeferred HK.out, ?_⟩⟩
    have u40 := (blk_cell F4.out 0).trans rfl
    have u41 := (blk_cell F4.out 1).trans rfl
    have u42 := (blk_cell F4.out 2).trans rfl
    have u50 := (blk_cell F5.out 0).trans rfl
    refine ⟨.tuple #[rv ⟨p.f0, q.f0, q.f3⟩, .bool true], ?_, .inr ⟨q, HD1.out.2.1, rfl, HD1.out.2.2.1.own (N := W0.heap.size) (by omega) (grownBy_putObj' W D (.deferred none)) (fun r e => by cases e; exact ⟨hD, _, HK.out, rfl⟩), HD1.out.1.andThen (grownBy_putObj' W D (.deferred none)) (fun j e => by cases e; exact .inl (by omega))⟩⟩
    simp [results, Try.f24, go_sem, rv, u40, u41, u42, u50]
  case round =>
    rintro l s x s' W hl ⟨⟨a1, a2, a3, a4, a5, a6⟩, a7, a8, a9⟩ ⟨c', k, b1, b2, b3, rfl, b5, b6⟩
    obtain ⟨_, _, rfl⟩ := a1.uniq b1
    have HZ := Aside0.mk hsz
    have HL := Aside0.mk hl
    have HI := Aside0.mk (show (TabW W g m most c ∧ BoxT W (w.heap.size + 4) g ∧ W.heap[w.heap.size]? = some (.cells #[.pointer (some ⟨g, 0, none⟩)] 25 (0, 0)) ∧
      W.heap[w.heap.size + 1]? = some (.cells #[.int .i64 p.f0, .int .i64 p.f1, .int .i64 p.f2, .int .u32 p.f3] 36 (0, 0)) ∧ W.heap[w.heap.size + 2]? = some (.cells #[.int .i64 0, .int .i64 0, .int .u32 0] 40 (0, 0)) ∧
      W.heap[w.heap.size + 3]? = some (.cells #[.bool false] 4 (0, 0))) from ⟨a1, a2, a3, a4, a5, a6⟩)
    have HG := Aside0.mk a7
    have HF := Aside0.mk (show 1 ≤ s ∧ (lstF c (s - 1)).find? (isKid p.f0) = none from ⟨a8, a9⟩)
    have HX := Aside0.mk (show s ≤ k ∧ (k : Int) ≤ most ∧ (∀ j : Nat, s ≤ j → j < k → c j = none) ∧ c k = some x from ⟨b2, b3, b5, b6⟩)
    clear q2 q3 q4 q5 qx hG0 hT0 hsz hl a1 a2 a3 a4 a5 a6 a7 a8 a9 b1 b2 b3 b5 b6
    simp only [pv]
    gi_wp2
    refine ⟨(KeepsOthers.alloc _ _).from _, fun W2 hg2 o2 ho2 hc2 => ?_⟩
    have hcell : ∀ {b : Nat} {cs : Array Value} {t : TypeId} {f : Nat × Nat}, (W.alloc (.cells #[.int .i64 x.f0, .int .i64 x.f1, .int .i64 x.f2, .int .u32 x.f3] 36)).heap[b]? = some (.cells cs t f) → W2.heap[b]? = some (.cells cs t f) :=
      fun h => cells_own h hg2 (fun r e => by cases e; exact ⟨o2, ho2, hc2⟩)
    have hX6 := hcell (new_at (W := W) (.cells #[.int .i64 x.f0, .int .i64 x.f1, .int .i64 x.f2, .int .u32 x.f3] 36) rfl)
    have hq2 := hcell (blk_alloc HI.out.2.2.1 _)
    have hq3 := hcell (blk_alloc HI.out.2.2.2.1 _)
    have hq4 := hcell (blk_alloc HI.out.2.2.2.2.1 _)
    have hq5 := hcell (blk_alloc HI.out.2.2.2.2.2 _)
    have hqx : BoxT W2 (w.heap.size + 4) g := hcell (blk_alloc HI.out.2.1 _)
    have hT2 : TabW W2 g m most c := (HI.out.1.grown (World.grownBy_alloc W _ none) (by simp) (by simp)).own (N := w.heap.size) hcm hg2 (fun r e => by cases e; exact ⟨by have := HL.out; have := HZ.out; omega, o2, ho2, hc2⟩)
    have hG2 : w.grownBy W2 none := (HG.out.andThen (World.grownBy_alloc W (.cells #[.int .i64 x.f0, .int .i64 x.f1, .int .i64 x.f2, .int .u32 x.f3] 36) none) (fun j e => by cases e)).andThen hg2 (fun j e => by cases e; exact .inl (by have := HL.out; have := HZ.out; omega))
    have r60 : W2.cell? ⟨W.heap.size, 0, none⟩ = some (.int .i64 x.f0) := (blk_cell hX6 0).trans rfl
    have r61 : W2.cell? ⟨W.heap.size, 1, none⟩ = some (.int .i64 x.f1) := (blk_cell hX6 1).trans rfl
    have r62 : W2.cell? ⟨W.heap.size, 2, none⟩ = some (.int .i64 x.f2) := (blk_cell hX6 2).trans rfl
    have r63 : W2.cell? ⟨W.heap.size, 3, none⟩ = some (.int .u32 x.f3) := (blk_cell hX6 3).trans rfl
    have r30 : W2.cell? ⟨w.heap.size + 1, 0, none⟩ = some (.int .i64 p.f0) := (blk_cell hq3 0).trans rfl
    have r20 : W2.cell? ⟨w.heap.size, 0, none⟩ = some (.pointer (some ⟨g, 0, none⟩)) := (blk_cell hq2 0).trans rfl
    have rg1 : W2.cell? ⟨g, 1, none⟩ = some (.map (some m)) := (blk_cell hT2.1 1).trans rfl
    have hWn := Aside0.mk (show w.heap.size + 5 ≤ W.heap.size by have := blk_lt HI.out.2.1; omega)
    have HQ := Aside0.mk (And.intro hX6 (And.intro hq2 (And.intro hq3 (And.intro hq4 (And.intro hq5 hqx)))))
    have HT2 := Aside0.mk hT2
    have HG2 := Aside0.mk hG2
    clear hcell hX6 hq2 hq3 hq4 hq5 hqx hT2 hG2 hg2 ho2 hc2
    by_cases hkid : x.f1 = p.f0
    · by_cases hz : x.f2 = 3
      · gi_wp2_with fail
        refine wpIn_draw (l := _) (by kernel_rfl) 6 [(0, 20), (1, 21), (2, 22), (3, 23), (4, 24), (5, 25)] (RdI 6 [.pointer (some ⟨g, 0, none⟩), .pointer (some ⟨g, 0, none⟩), .pointer (some ⟨g, 1, none⟩), .map (some m), .pointer (some ⟨W.heap.size, 0, none⟩), .int .i64 x.f0] W2) (by kernel_rfl) rfl (RdI.start _ _ _) ?hs ?ht
        case hs =>
          intro i o hi ho b f W' hbi hdep hI
          obtain ⟨rfl, hI2⟩ := hI
          have HI := Aside0.mk (show RdI 6 [.pointer (some ⟨g, 0, none⟩), .pointer (some ⟨g, 0, none⟩), .pointer (some ⟨g, 1, none⟩), .map (some m), .pointer (some ⟨W.heap.size, 0, none⟩), .int .i64 x.f0] W2 b f W2.drew from ⟨rfl, hI2⟩)
          have HD := Aside0.mk hdep
          clear hI2 hdep
          match i, hi, ho, hbi with
          | 0, _, ho, hbi =>
            cases ho
            simp only [frm, Act.put, List.setIfInBounds_toArray, List.set_cons_zero, List.set_cons_succ, Array.getD_eq_getD_getElem?, List.getElem?_toArray, List.getElem?_cons_zero, List.getElem?_cons_succ, Option.getD_some]
            gi_wp2
            exact ⟨_, rfl, HI.out.next rfl⟩
          | 1, _, ho, hbi =>
            cases ho
            have hb0 : b 0 = true := HD.out _ (by first | exact List.mem_cons_self | exact List.mem_cons_of_mem _ List.mem_cons_self | exact List.mem_cons_of_mem _ (List.mem_cons_of_mem _ List.mem_cons_self)) rfl
            have h0 : f 0 = .pointer (some ⟨g, 0, none⟩) := HI.out.2 0 (by decide) hb0
            simp only [frm, Act.put, List.setIfInBounds_toArray, List.set_cons_zero, List.set_cons_succ, Array.getD_eq_getD_getElem?, List.getElem?_toArray, List.getElem?_cons_zero, List.getElem?_cons_succ, Option.getD_some, hb0, h0, sel_true]
            clear h0 hb0
            gi_wp2
            exact ⟨_, rfl, HI.out.next rfl⟩
          | 2, _, ho, hbi =>
            cases ho
            have hb1 : b 1 = true := HD.out _ (by first | exact List.mem_cons_self | exact List.mem_cons_of_mem _ List.mem_cons_self | exact List.mem_cons_of_mem _ (List.mem_cons_of_mem _ List.mem_cons_self)) rfl
            have h1 : f 1 = .pointer (some ⟨g, 0, none⟩) := HI.out.2 1 (by decide) hb1
            simp only [frm, Act.put, List.setIfInBounds_toArray, List.set_cons_zero, List.set_cons_succ, Array.getD_eq_getD_getElem?, List.getElem?_toArray, List.getElem?_cons_zero, List.getElem?_cons_succ, Option.getD_some, hb1, h1, sel_true]
            clear h1 hb1
            gi_wp2
            exact ⟨_, rfl, HI.out.next rfl⟩
          | 3, _, ho, hbi =>
            cases ho
            have hb2 : b 2 = true := HD.out _ (by first | exact List.mem_cons_self | exact List.mem_cons_of_mem _ List.mem_cons_self | exact List.mem_cons_of_mem _ (List.mem_cons_of_mem _ List.mem_cons_self)) rfl
            have h2 : f 2 = .pointer (some ⟨g, 1, none⟩) := HI.out.2 2 (by decide) hb2
            simp only [frm, Act.put, List.setIfInBounds_toArray, List.set_cons_zero, List.set_cons_succ, Array.getD_eq_getD_getElem?, List.getElem?_toArray, List.getElem?_cons_zero, List.getElem?_cons_succ, Option.getD_some, hb2, h2, sel_true]
            clear h2 hb2
            gi_wp2
            exact ⟨_, rfl, HI.out.next rfl⟩
          | 4, _, ho, hbi =>
            cases ho
            simp only [frm, Act.put, List.setIfInBounds_toArray, List.set_cons_zero, List.set_cons_succ, Array.getD_eq_getD_getElem?, List.getElem?_toArray, List.getElem?_cons_zero, List.getElem?_cons_succ, Option.getD_some]
            gi_wp2
            exact ⟨_, rfl, HI.out.next rfl⟩
          | 5, _, ho, hbi =>
            cases ho
            have hb4 : b 4 = true := HD.out _ (by first | exact List.mem_cons_self | exact List.mem_cons_of_mem _ List.mem_cons_self | exact List.mem_cons_of_mem _ (List.mem_cons_of_mem _ List.mem_cons_self)) rfl
            have h4 : f 4 = .pointer (some ⟨W.heap.size, 0, none⟩) := HI.out.2 4 (by decide) hb4
            simp only [frm, Act.put, List.setIfInBounds_toArray, List.set_cons_zero, List.set_cons_succ, Array.getD_eq_getD_getElem?, List.getElem?_toArray, List.getElem?_cons_zero, List.getElem?_cons_succ, Option.getD_some, hb4, h4, sel_true]
            clear h4 hb4
            gi_wp2
            exact ⟨_, rfl, HI.out.next rfl⟩
        case ht =>
          intro b f W' hb hI
          obtain ⟨rfl, hI2⟩ := hI
          have h0 : f 0 = .pointer (some ⟨g, 0, none⟩) := hI2 0 (by decide) (hb 0 (by decide))
          have h1 : f 1 = .pointer (some ⟨g, 0, none⟩) := hI2 1 (by decide) (hb 1 (by decide))
          have h2 : f 2 = .pointer (some ⟨g, 1, none⟩) := hI2 2 (by decide) (hb 2 (by decide))
          have h3 : f 3 = .map (some m) := hI2 3 (by decide) (hb 3 (by decide))
          have h4 : f 4 = .pointer (some ⟨W.heap.size, 0, none⟩) := hI2 4 (by decide) (hb 4 (by decide))
          have h5 : f 5 = .int .i64 x.f0 := hI2 5 (by decide) (hb 5 (by decide))
          simp only [frm, Act.put, List.setIfInBounds_toArray, List.set_cons_zero, List.set_cons_succ, Array.getD_eq_getD_getElem?, List.getElem?_toArray, List.getElem?_cons_zero, List.getElem?_cons_succ, Option.getD_some, sel_true, h0, h1, h2, h3, h4, h5]
          clear hI2 hb h0 h1 h2 h3 h4 h5
          simp only [List.drop_succ_cons, List.drop_zero]
          gi_wp2_with (gi_at_delete; refine wpListIn_drop rfl _ _ 58 3 rfl 3 36 Try.underlying58 Try.underlying3 m _ rfl (HT2.out.2.same rfl) x.f0 rfl ?_; intro W3 hM3 hg3 hs3; have HM3 := Aside0.mk hM3; have HG3 := Aside0.mk hg3; have j2 := blk_grown (w := W2.drew) HQ.out.2.1 hg3 (by simp; omega); have j3 := blk_grown (w := W2.drew) HQ.out.2.2.1 hg3 (by simp; omega); have j4 := blk_grown (w := W2.drew) HQ.out.2.2.2.1 hg3 (by simp; omega); have j5 := blk_grown (w := W2.drew) HQ.out.2.2.2.2.1 hg3 (by simp; omega); have j6 := blk_grown (w := W2.drew) HQ.out.1 hg3 (by have := hWn.out; simp; omega); have jg := blk_grown (w := W2.drew) HT2.out.1 hg3 (by have := HT2.out.ne; simpa using this); have J2 := Aside0.mk j2; have J3 := Aside0.mk j3; have J4 := Aside0.mk j4; have J5 := Aside0.mk j5; have J6 := Aside0.mk j6; have JG := Aside0.mk jg; have y32 := (blk_cell j3 2).trans rfl; have z32 := blk_frozen j3 2; clear hM3 hg3 hs3 j2 j3 j4 j5 j6 jg)
          obtain ⟨W4, hW4⟩ : ∃ W4, W4 = W3.setCell ⟨w.heap.size + 1, 2, none⟩ (.int .i64 1) := ⟨_, rfl⟩
          rw [← hW4]
          have k0 := blk_far J2.out (p := ⟨w.heap.size + 1, 2, none⟩) (show w.heap.size ≠ w.heap.size + 1 by omega) (.int .i64 1)
          rw [← hW4] at k0
          have k2 := Aside0.mk k0
          clear k0
          have k0 : W4.heap[w.heap.size + 1]? = some (.cells #[.int .i64 p.f0, .int .i64 p.f1, .int .i64 1, .int .u32 p.f3] 36 (0, 0)) := by rw [hW4]; exact blk_put J3.out 2 _ rfl
          have k3 := Aside0.mk k0
          clear k0
          have k0 := blk_far J4.out (p := ⟨w.heap.size + 1, 2, none⟩) (show w.heap.size + 2 ≠ w.heap.size + 1 by omega) (.int .i64 1)
          rw [← hW4] at k0
          have k4 := Aside0.mk k0
          clear k0
          have k0 := blk_far J5.out (p := ⟨w.heap.size + 1, 2, none⟩) (show w.heap.size + 3 ≠ w.heap.size + 1 by omega) (.int .i64 1)
          rw [← hW4] at k0
          have k5 := Aside0.mk k0
          clear k0
          have k0 := blk_far J6.out (p := ⟨w.heap.size + 1, 2, none⟩) (show W.heap.size ≠ w.heap.size + 1 by have := hWn.out; omega) (.int .i64 1)
          rw [← hW4] at k0
          have k6 := Aside0.mk k0
          clear k0
          have k0 := blk_far JG.out (p := ⟨w.heap.size + 1, 2, none⟩) (show g ≠ w.heap.size + 1 by omega) (.int .i64 1)
          rw [← hW4] at k0
          have kg := Aside0.mk k0
          clear k0
          have k0 := HM3.out.same (Below.heap_setCell W3 ⟨w.heap.size + 1, 2, none⟩ (.int .i64 1) m (show m ≠ w.heap.size + 1 by omega))
          rw [← hW4] at k0
          have HM4 := Aside0.mk k0
          clear k0
          have HW4 := Aside0.mk hW4
          clear hW4 y32 z32 r60 r61 r62 r63 r30 r20 rg1
          have y20 : W4.cell? ⟨w.heap.size, 0, none⟩ = some (.pointer (some ⟨g, 0, none⟩)) := (blk_cell k2.out 0).trans rfl
          have yg1 : W4.cell? ⟨g, 1, none⟩ = some (.map (some m)) := (blk_cell kg.out 1).trans rfl
          have y30 : W4.cell? ⟨w.heap.size + 1, 0, none⟩ = some (.int .i64 p.f0) := (blk_cell k3.out 0).trans rfl
          have y31 : W4.cell? ⟨w.heap.size + 1, 1, none⟩ = some (.int .i64 p.f1) := (blk_cell k3.out 1).trans rfl
          have y32 : W4.cell? ⟨w.heap.size + 1, 2, none⟩ = some (.int .i64 1) := (blk_cell k3.out 2).trans rfl
          have y33 : W4.cell? ⟨w.heap.size + 1, 3, none⟩ = some (.int .u32 p.f3) := (blk_cell k3.out 3).trans rfl
          refine wpIn_draw (l := _) (by kernel_rfl) 7 [(0, 27), (1, 28), (2, 29), (3, 30), (4, 31), (5, 32), (6, 33)] (RdI 7 [.pointer (some ⟨g, 0, none⟩), .pointer (some ⟨g, 0, none⟩), .pointer (some ⟨g, 1, none⟩), .map (some m), .pointer (some ⟨w.heap.size + 1, 0, none⟩), .int .i64 p.f0, .agg #[.int .i64 p.f0, .int .i64 p.f1, .int .i64 1, .int .u32 p.f3]] W4) (by kernel_rfl) rfl (RdI.start _ _ _) ?hs ?ht
          case hs =>
            intro i o hi ho b f W' hbi hdep hI
            obtain ⟨rfl, hI2⟩ := hI
            have HI := Aside0.mk (show RdI 7 [.pointer (some ⟨g, 0, none⟩), .pointer (some ⟨g, 0, none⟩), .pointer (some ⟨g, 1, none⟩), .map (some m), .pointer (some ⟨w.heap.size + 1, 0, none⟩), .int .i64 p.f0, .agg #[.int .i64 p.f0, .int .i64 p.f1, .int .i64 1, .int .u32 p.f3]] W4 b f W4.drew from ⟨rfl, hI2⟩)
            have HD := Aside0.mk hdep
            clear hI2 hdep
            match i, hi, ho, hbi with
            | 0, _, ho, hbi =>
              cases ho
              simp only [frm, Act.put, List.setIfInBounds_toArray, List.set_cons_zero, List.set_cons_succ, Array.getD_eq_getD_getElem?, List.getElem?_toArray, List.getElem?_cons_zero, List.getElem?_cons_succ, Option.getD_some]
              gi_wp2
              exact ⟨_, rfl, HI.out.next rfl⟩
            | 1, _, ho, hbi =>
              cases ho
              have hb0 : b 0 = true := HD.out _ (by first | exact List.mem_cons_self | exact List.mem_cons_of_mem _ List.mem_cons_self | exact List.mem_cons_of_mem _ (List.mem_cons_of_mem _ List.mem_cons_self)) rfl
              have h0 : f 0 = .pointer (some ⟨g, 0, none⟩) := HI.out.2 0 (by decide) hb0
              simp only [frm, Act.put, List.setIfInBounds_toArray, List.set_cons_zero, List.set_cons_succ, Array.getD_eq_getD_getElem?, List.getElem?_toArray, List.getElem?_cons_zero, List.getElem?_cons_succ, Option.getD_some, hb0, h0, sel_true]
              clear h0 hb0
              gi_wp2
              exact ⟨_, rfl, HI.out.next rfl⟩
            | 2, _, ho, hbi =>
              cases ho
              have hb1 : b 1 = true := HD.out _ (by first | exact List.mem_cons_self | exact List.mem_cons_of_mem _ List.mem_cons_self | exact List.mem_cons_of_mem _ (List.mem_cons_of_mem _ List.mem_cons_self)) rfl
              have h1 : f 1 = .pointer (some ⟨g, 0, none⟩) := HI.out.2 1 (by decide) hb1
              simp only [frm, Act.put, List.setIfInBounds_toArray, List.set_cons_zero, List.set_cons_succ, Array.getD_eq_getD_getElem?, List.getElem?_toArray, List.getElem?_cons_zero, List.getElem?_cons_succ, Option.getD_some, hb1, h1, sel_true]
              clear h1 hb1
              gi_wp2
              exact ⟨_, rfl, HI.out.next rfl⟩
            | 3, _, ho, hbi =>
              cases ho
              have hb2 : b 2 = true := HD.out _ (by first | exact List.mem_cons_self | exact List.mem_cons_of_mem _ List.mem_cons_self | exact List.mem_cons_of_mem _ (List.mem_cons_of_mem _ List.mem_cons_self)) rfl
              have h2 : f 2 = .pointer (some ⟨g, 1, none⟩) := HI.out.2 2 (by decide) hb2
              simp only [frm, Act.put, List.setIfInBounds_toArray, List.set_cons_zero, List.set_cons_succ, Array.getD_eq_getD_getElem?, List.getElem?_toArray, List.getElem?_cons_zero, List.getElem?_cons_succ, Option.getD_some, hb2, h2, sel_true]
              clear h2 hb2
              gi_wp2
              exact ⟨_, rfl, HI.out.next rfl⟩
            | 4, _, ho, hbi =>
              cases ho
              simp only [frm, Act.put, List.setIfInBounds_toArray, List.set_cons_zero, List.set_cons_succ, Array.getD_eq_getD_getElem?, List.getElem?_toArray, List.getElem?_cons_zero, List.getElem?_cons_succ, Option.getD_some]
              gi_wp2
              exact ⟨_, rfl, HI.out.next rfl⟩
            | 5, _, ho, hbi =>
              cases ho
              have hb4 : b 4 = true := HD.out _ (by first | exact List.mem_cons_self | exact List.mem_cons_of_mem _ List.mem_cons_self | exact List.mem_cons_of_mem _ (List.mem_cons_of_mem _ List.mem_cons_self)) rfl
              have h4 : f 4 = .pointer (some ⟨w.heap.size + 1, 0, none⟩) := HI.out.2 4 (by decide) hb4
              simp only [frm, Act.put, List.setIfInBounds_toArray, List.set_cons_zero, List.set_cons_succ, Array.getD_eq_getD_getElem?, List.getElem?_toArray, List.getElem?_cons_zero, List.getElem?_cons_succ, Option.getD_some, hb4, h4, sel_true]
              clear h4 hb4
              gi_wp2
              exact ⟨_, rfl, HI.out.next rfl⟩
            | 6, _, ho, hbi =>
              cases ho
              simp only [frm, Act.put, List.setIfInBounds_toArray, List.set_cons_zero, List.set_cons_succ, Array.getD_eq_getD_getElem?, List.getElem?_toArray, List.getElem?_cons_zero, List.getElem?_cons_succ, Option.getD_some]
              gi_wp2
              exact ⟨_, rfl, HI.out.next rfl⟩
          case ht =>
            intro b f W' hb hI
            obtain ⟨rfl, hI2⟩ := hI
            have h0 : f 0 = .pointer (some ⟨g, 0, none⟩) := hI2 0 (by decide) (hb 0 (by decide))
            have h1 : f 1 = .pointer (some ⟨g, 0, none⟩) := hI2 1 (by decide) (hb 1 (by decide))
            have h2 : f 2 = .pointer (some ⟨g, 1, none⟩) := hI2 2 (by decide) (hb 2 (by decide))
            have h3 : f 3 = .map (some m) := hI2 3 (by decide) (hb 3 (by decide))
            have h4 : f 4 = .pointer (some ⟨w.heap.size + 1, 0, none⟩) := hI2 4 (by decide) (hb 4 (by decide))
            have h5 : f 5 = .int .i64 p.f0 := hI2 5 (by decide) (hb 5 (by decide))
            have h6 : f 6 = .agg #[.int .i64 p.f0, .int .i64 p.f1, .int .i64 1, .int .u32 p.f3] := hI2 6 (by decide) (hb 6 (by decide))
            simp only [frm, Act.put, List.setIfInBounds_toArray, List.set_cons_zero, List.set_cons_succ, Array.getD_eq_getD_getElem?, List.getElem?_toArray, List.getElem?_cons_zero, List.getElem?_cons_succ, Option.getD_some, sel_true, h0, h1, h2, h3, h4, h5, h6]
            clear hI2 hb h0 h1 h2 h3 h4 h5 h6
            simp only [List.drop_succ_cons, List.drop_zero]
            gi_wp2_with (gi_at_mapUpdate; refine wpListIn_store rfl _ _ _ 58 rfl 3 36 Try.underlying58 Try.underlying3 m _ rfl (HM4.out.same rfl) p.f0 rfl (pv { p with f2 := 1 }) rfl ?_; intro W5 hM5 hg5 hs5; have HM5 := Aside0.mk hM5; have HG5 := Aside0.mk hg5; have l4 := blk_grown (w := W4.drew) k4.out hg5 (by simp; omega); have l5 := blk_grown (w := W4.drew) k5.out hg5 (by simp; omega); have l6 := blk_grown (w := W4.drew) k6.out hg5 (by have := hWn.out; simp; omega); have l3 := blk_grown (w := W4.drew) k3.out hg5 (by simp; omega); have lg := blk_grown (w := W4.drew) kg.out hg5 (by have := HT2.out.ne; simpa using this); have L4 := Aside0.mk l4; have L5 := Aside0.mk l5; have LG := Aside0.mk lg; have y40 := (blk_cell l4 0).trans rfl; have y41 := (blk_cell l4 1).trans rfl; have y42 := (blk_cell l4 2).trans rfl; have z40 := blk_frozen l4 0; have z41 := blk_frozen l4 1; have z42 := blk_frozen l4 2; have y50 := (blk_cell l5 0).trans rfl; have z50 := blk_frozen l5 0; have y60 := (blk_cell l6 0).trans rfl; have y63 := (blk_cell l6 3).trans rfl; have y30 := (blk_cell l3 0).trans rfl; clear hM5 hg5 hs5 l3 l4 l5 l6 lg)
            obtain ⟨Wf, hWf⟩ : ∃ Wf, Wf = (((W5.setCell ⟨w.heap.size + 2, 0, none⟩ (.int .i64 p.f0)).setCell ⟨w.heap.size + 2, 1, none⟩ (.int .i64 x.f0)).setCell ⟨w.heap.size + 2, 2, none⟩ (.int .u32 x.f3)).setCell ⟨w.heap.size + 3, 0, none⟩ (.bool true) := ⟨_, rfl⟩
            rw [← hWf]
            have e4 : Wf.heap[w.heap.size + 2]? = some (.cells #[.int .i64 p.f0, .int .i64 x.f0, .int .u32 x.f3] 40 (0, 0)) := by
              rw [hWf]; exact blk_far (blk_put (blk_put (blk_put L4.out 0 _ rfl) 1 _ rfl) 2 _ rfl) (show w.heap.size + 2 ≠ w.heap.size + 3 by omega) _
            have e5 : Wf.heap[w.heap.size + 3]? = some (.cells #[.bool true] 4 (0, 0)) := by
              rw [hWf]; exact blk_put (blk_far (blk_far (blk_far L5.out (show w.heap.size + 3 ≠ w.heap.size + 2 by omega) _) (show w.heap.size + 3 ≠ w.heap.size + 2 by omega) _) (show w.heap.size + 3 ≠ w.heap.size + 2 by omega) _) 0 _ rfl
            have efar : ∀ b, b ≠ w.heap.size + 2 → b ≠ w.heap.size + 3 → Wf.heap[b]? = W5.heap[b]? := fun b h2 h3 => by
              rw [hWf, Below.heap_setCell _ ⟨w.heap.size + 3, 0, none⟩ _ b h3, Below.heap_setCell _ ⟨w.heap.size + 2, 2, none⟩ _ b h2, Below.heap_setCell _ ⟨w.heap.size + 2, 1, none⟩ _ b h2, Below.heap_setCell _ ⟨w.heap.size + 2, 0, none⟩ _ b h2]
            have hkf : KeepsFrom W0.heap.size W2 Wf := by
              have h1 : KeepsFrom W0.heap.size W3 W4 := by rw [HW4.out]; exact (KeepsOthers.setCell _ _ _).from _
              have h2 : KeepsFrom W0.heap.size W5 Wf := by rw [hWf]; exact ((((KeepsOthers.setCell _ _ _).trans (KeepsOthers.setCell _ _ _)).trans (KeepsOthers.setCell _ _ _)).trans (KeepsOthers.setCell _ _ _)).from _
              exact ((kf_drew _ W2).trans (KeepsFrom.of_grownBy HG3.out (fun j e => by cases e; have := HZ.out; omega))).trans (h1.trans ((kf_drew _ W4).trans ((KeepsFrom.of_grownBy HG5.out (fun j e => by cases e; have := HZ.out; omega)).trans h2)))
            have hgf : w.grownBy Wf (some m) := by
              have g3 := (gb_drew (gb_weak HG2.out m)).andThen HG3.out (fun j e => .inr (by cases e; rfl))
              have g4 : w.grownBy W4 (some m) := by rw [HW4.out]; exact g3.andThen (gb_set _ _ _ _) (fun j e => by cases e; exact .inl (by omega))
              have g5 := (gb_drew g4).andThen HG5.out (fun j e => .inr (by cases e; rfl))
              rw [hWf]
              exact (((g5.andThen (gb_set _ _ _ _) (fun j e => by cases e; exact .inl (by omega))).andThen (gb_set _ _ _ _) (fun j e => by cases e; exact .inl (by omega))).andThen (gb_set _ _ _ _) (fun j e => by cases e; exact .inl (by omega))).andThen (gb_set _ _ _ _) (fun j e => by cases e; exact .inl (by omega))
            have hfind : (lstF c most.toNat).find? (isKid p.f0) = some x := by
              obtain ⟨c1, c2, c3, c4⟩ := HX.out
              obtain ⟨r, hr⟩ := lst_mono (c := c) (n := k) (n' := most.toNat) (by omega)
              rw [hr, lst_hit HF.out.1 c1 c3 c4, List.append_assoc, List.find?_append, HF.out.2]
              simp [isKid, hkid, hz]
            refine ⟨hkf, rfl, hgf, x, hfind, ⟨?_, (HM5.out.congr (fun j => ?_)).same (efar m (by omega) (by omega))⟩, e4, e5⟩
            · exact (efar g (by omega) (by omega)).trans LG.out
            · unfold upd
              by_cases e1 : j = p.f0
              · rw [if_pos e1, if_pos e1]; rfl
              · rw [if_neg e1, if_neg e1]
                by_cases e2 : j = x.f0
                · rw [if_pos e2, if_pos e2]; rfl
                · rw [if_neg e2, if_neg e2]
      · gi_wp2
        refine ⟨KeepsFrom.refl _ _, ⟨HT2.out, HQ.out.2.2.2.2.2, HQ.out.2.1, HQ.out.2.2.1, HQ.out.2.2.2.1, HQ.out.2.2.2.2.1⟩, HG2.out, ?_⟩
        obtain ⟨c1, c2, c3, c4⟩ := HX.out
        have hf : (lstF c k).find? (isKid p.f0) = none := by
          rw [lst_hit HF.out.1 c1 c3 c4, List.find?_append, HF.out.2]
          simp [isKid, hz]
        simpa using hf
    · gi_wp2
      refine ⟨KeepsFrom.refl _ _, ⟨HT2.out, HQ.out.2.2.2.2.2, HQ.out.2.1, HQ.out.2.2.1, HQ.out.2.2.2.1, HQ.out.2.2.2.2.1⟩, HG2.out, ?_⟩
      obtain ⟨c1, c2, c3, c4⟩ := HX.out
      have hf : (lstF c k).find? (isKid p.f0) = none := by
        rw [lst_hit HF.out.1 c1 c3 c4, List.find?_append, HF.out.2]
        simp [isKid, hkid]
      simpa using hf
end Go.Proofs.Ytbaddcojhggamaa.PAll
