/-
  Exit.
-/
import Derived.Test.YtbaddcojhggamaaWait
namespace Go.Proofs.Ytbaddcojhggamaa.PAll
open Go.RowKit Go.Shelf Go.Proofs.YtbaddcojhggamaaM Go.Proofs.YtbaddcojhggamaaW.PrintWords Go.Proofs.YtbaddcojhggamaaW.PrintLast Go.Proofs.YtbaddcojhggamaaW.PrintMore
attribute [local go_sem] Oper.semAt_some
set_option linter.unusedVariables false
set_option linter.unusedSimpArgs false
/-- One step of the first loop: a child of pid is 1's. -/
def stepO (pid : Int) (c : Int → Option S36) (n : Nat) : Int → Option S36 :=
  match c n with
  | some q => if q.f1 = pid then upd c q.f0 (some { q with f1 := 1 }) else c
  | none => c
def runO (pid : Int) (c : Int → Option S36) : Nat → (Int → Option S36)
  | 0 => c
  | n + 1 => stepO pid (runO pid c n) (n + 1)
/-- One step of the second loop: who waits is served. -/
def stepS (most : Int) (r : List S40 × (Int → Option S36)) (n : Nat) : List S40 × (Int → Option S36) :=
  match r.2 n with
  | some w => if w.f2 = 2 then (r.1 ++ (serveR r.2 most w).1.toList, (serveR r.2 most w).2) else r
  | none => r
def runS (most : Int) (c : Int → Option S36) : Nat → List S40 × (Int → Option S36)
  | 0 => ([], c)
  | n + 1 => stepS most (runS most c n) (n + 1)
theorem runO_gap {pid : Int} {c : Int → Option S36} {s : Nat} (hs : 1 ≤ s) : ∀ {k : Nat}, s ≤ k → (∀ j : Nat, s ≤ j → j < k → runO pid c (s - 1) j = none) → runO pid c (k - 1) = runO pid c (s - 1) := by
  intro k
  induction k with
  | zero => intro h; omega
  | succ k ih =>
    intro h hn
    by_cases e : s = k + 1
    · rw [e]
    · have h1 := ih (by omega) (fun j h1 h2 => hn j h1 (by omega))
      have h2 := hn k (by omega) (by omega)
      rw [← h1] at h2
      obtain ⟨k, rfl⟩ : ∃ i, k = i + 1 := ⟨k - 1, by omega⟩
      rw [show k + 1 - 1 = k by omega] at h1 h2
      show stepO pid (runO pid c k) (k + 1) = _
      rw [← h1]
      unfold stepO
      rw [h2]
theorem runS_gap {most : Int} {c : Int → Option S36} {s : Nat} (hs : 1 ≤ s) : ∀ {k : Nat}, s ≤ k → (∀ j : Nat, s ≤ j → j < k → (runS most c (s - 1)).2 j = none) → runS most c (k - 1) = runS most c (s - 1) := by
  intro k
  induction k with
  | zero => intro h; omega
  | succ k ih =>
    intro h hn
    by_cases e : s = k + 1
    · rw [e]
    · have h1 := ih (by omega) (fun j h1 h2 => hn j h1 (by omega))
      have h2 := hn k (by omega) (by omega)
      rw [← h1] at h2
      obtain ⟨k, rfl⟩ : ∃ i, k = i + 1 := ⟨k - 1, by omega⟩
      rw [show k + 1 - 1 = k by omega] at h1 h2
      show stepS most (runS most c k) (k + 1) = _
      rw [← h1]
      unfold stepS
      rw [h2]
def exitR (c : Int → Option S36) (most pid code : Int) : List S40 × Int × (Int → Option S36) :=
  match c pid with
  | none => ([], 4, c)
  | some p => if pid = 1 then ([], 8, c) else if p.f2 = 3 then ([], 9, c) else
    ((runS most (runO pid (upd c pid (some { p with f2 := 3, f3 := code })) most.toNat) most.toNat).1, 0, (runS most (runO pid (upd c pid (some { p with f2 := 3, f3 := code })) most.toNat) most.toNat).2)
theorem R_grown_m {α : Type} {d : Kd α} {e base m : Nat} {ok : Nat → Prop} {A B : World} {v : Value} {xs : List α} (h : d.R e A base ok v xs) (hg : A.grownBy B (some m)) (hm : m < base) : d.R e B base ok v xs :=
  Kd.R_mono (Kd.R_move (Kd.R_bound h) (fun k hk => hg.block k hk.2.2.1 (fun e => by cases e; have := Kd.R_base h; have := hk.2.1; omega))) (fun _ hk => hk.1)
theorem info40 : (Try.prog.info? 40).map (fun i => (i.zero, i.size, i.bytes)) = some (some (.agg #[(.int .i64 0), (.int .i64 0), (.int .u32 0)]), 3, 24) := by kernel_rfl
theorem runO_hit {pid : Int} {c : Int → Option S36} {s k : Nat} {x : S36} (hs : 1 ≤ s) (hk : s ≤ k) (hn : ∀ j : Nat, s ≤ j → j < k → runO pid c (s - 1) j = none) (hx : runO pid c (s - 1) k = some x) :
    runO pid c k = if x.f1 = pid then upd (runO pid c (s - 1)) x.f0 (some { x with f1 := 1 }) else runO pid c (s - 1) := by
  have h1 := runO_gap hs hk hn
  obtain ⟨k, rfl⟩ : ∃ i, k = i + 1 := ⟨k - 1, by omega⟩
  rw [show k + 1 - 1 = k by omega] at h1
  show stepO pid (runO pid c k) (k + 1) = _
  rw [h1]
  unfold stepO
  rw [hx]
theorem runS_len (most : Int) (c : Int → Option S36) : ∀ n : Nat, (runS most c n).1.length ≤ n
  | 0 => Nat.le_refl _
  | n + 1 => by
    have ih := runS_len most c n
    show (stepS most (runS most c n) (n + 1)).1.length ≤ n + 1
    unfold stepS
    split
    · rename_i q _
      split
      · have h1 : (serveR (runS most c n).2 most q).1.toList.length ≤ 1 := by
          cases (serveR (runS most c n).2 most q).1 <;> simp
        rw [List.length_append]; omega
      · omega
    · omega
theorem runS_hit {most : Int} {c : Int → Option S36} {s k : Nat} {x : S36} (hs : 1 ≤ s) (hk : s ≤ k) (hn : ∀ j : Nat, s ≤ j → j < k → (runS most c (s - 1)).2 j = none) (hx : (runS most c (s - 1)).2 k = some x) :
    runS most c k = if x.f2 = 2 then ((runS most c (s - 1)).1 ++ (serveR (runS most c (s - 1)).2 most x).1.toList, (serveR (runS most c (s - 1)).2 most x).2) else runS most c (s - 1) := by
  have h1 := runS_gap hs hk hn
  obtain ⟨k, rfl⟩ : ∃ i, k = i + 1 := ⟨k - 1, by omega⟩
  rw [show k + 1 - 1 = k by omega] at h1
  show stepS most (runS most c k) (k + 1) = _
  rw [h1]
  unfold stepS
  rw [hx]
set_option maxRecDepth 100000 in
set_option maxHeartbeats 8000000 in
theorem exit_calls (g m : Nat) (most : Int) (c : Int → Option S36) (pid code : Int) (w : World) (hc : TabW w g m most c) (hmost : most ≤ 1000) :
    Calls Try.prog 13 #[.pointer (some ⟨g, 0, none⟩), .int .i64 pid, .int .u32 code] w fun e W' => ∃ v, e = .returned (.tuple #[v, .int .i64 (exitR c most pid code).2.1]) ∧ Kd.R k40 40 W' w.heap.size (fun _ => True) v (exitR c most pid code).1 ∧ TabW W' g m most (exitR c most pid code).2.2 ∧ w.grownBy W' (some m) := by
  refine (callsIn_wide (n := 4)).1 ?_
  refine callsIn_of_wp_marks Try.func13 rfl trivial ?_ rfl
  simp only [Try.ntmps13, List.size_toArray, List.length_cons, List.length_nil, Nat.reduceAdd, Nat.reduceSub, Array.replicate_succ, Array.replicate_zero, List.push_toArray, List.append_toArray, List.nil_append, List.cons_append]
  have HC := Aside0.mk hc
  clear hc
  have hgA : w.grownBy ((w.alloc (.cells #[.pointer (some ⟨g, 0, none⟩)] 25)).alloc (.cells #[.int .i64 pid] 3)) none := (World.grownBy_alloc w _ none).trans (World.grownBy_alloc _ _ none)
  have hA3 : ((w.alloc (.cells #[.pointer (some ⟨g, 0, none⟩)] 25)).alloc (.cells #[.int .i64 pid] 3)).heap[w.heap.size]? = some (.cells #[.pointer (some ⟨g, 0, none⟩)] 25 (0, 0)) := blk_alloc (new_at _ rfl) _
  have hA4 : ((w.alloc (.cells #[.pointer (some ⟨g, 0, none⟩)] 25)).alloc (.cells #[.int .i64 pid] 3)).heap[w.heap.size + 1]? = some (.cells #[.int .i64 pid] 3 (0, 0)) := new_at _ (by simp)
  cases hcp : c pid with
  | none =>
    have HK := Aside0.mk (show thereR c pid = (⟨0, 0, 0, 0⟩, 4) by unfold thereR; rw [hcp])
    have HP := Aside0.mk hcp
    clear hcp
    gi_wp2_with (refine ⟨trivial, ?_⟩; gi_at_call 22; refine (callsIn_wide.2 (there_calls g m most c pid _ (HC.out.grown hgA (by simp) (by simp)))).mono ?_; rintro e w' ⟨rfl, hg⟩; rw [HK.out]; simp only [pv]; have HG := Aside0.mk hg; clear hg)
    have hg := (hgA.trans HG.out).trans (World.grownBy_alloc w' (.cells #[.int .i64 0, .int .i64 0, .int .i64 0, .int .u32 0] 36) none)
    have e : exitR c most pid code = ([], 4, c) := by unfold exitR; rw [HP.out]
    rw [e]
    refine ⟨_, results_tmp2 rfl _ _ _, _, rfl, Kd.R_nil _ _ _ _ _, HC.out.grown hg (by simp) (by simp), gb_weak hg m⟩
  | some p =>
    have HK := Aside0.mk (show thereR c pid = (p, 0) by unfold thereR; rw [hcp])
    have HP := Aside0.mk hcp
    clear hcp
    by_cases hp1 : pid = 1
    · subst hp1
      gi_wp2_with (refine ⟨trivial, ?_⟩; gi_at_call 22; refine (callsIn_wide.2 (there_calls g m most c 1 _ (HC.out.grown hgA (by simp) (by simp)))).mono ?_; rintro e w' ⟨rfl, hg⟩; rw [HK.out]; simp only [pv]; have e4 := blk_alloc (blk_grown hA4 hg (by simp)) (.cells #[.int .i64 p.f0, .int .i64 p.f1, .int .i64 p.f2, .int .u32 p.f3] 36); have c40 := (blk_cell e4 0).trans rfl; have E3 := Aside0.mk (blk_alloc (blk_grown hA3 hg (by simp)) (.cells #[.int .i64 p.f0, .int .i64 p.f1, .int .i64 p.f2, .int .u32 p.f3] 36)); have E4 := Aside0.mk e4; have HG := Aside0.mk hg; have s3 : w.heap.size < w'.heap.size := by { have := hg.size; simp at this; omega }; have s4 : w.heap.size + 1 < w'.heap.size := by { have := hg.size; simp at this; omega }; clear hg e4)
      have hg := (hgA.trans HG.out).trans (World.grownBy_alloc w' (.cells #[.int .i64 p.f0, .int .i64 p.f1, .int .i64 p.f2, .int .u32 p.f3] 36) none)
      have e : exitR c most 1 code = ([], 8, c) := by unfold exitR; rw [HP.out]; exact if_pos rfl
      rw [e]
      refine ⟨_, results_tmp2 rfl _ _ _, _, rfl, Kd.R_nil _ _ _ _ _, HC.out.grown hg (by simp) (by simp), gb_weak hg m⟩
    · by_cases hz : p.f2 = 3
      · obtain ⟨a0, a1, a2, a3⟩ := p
        simp only at hz
        subst hz
        gi_wp2_with (refine ⟨trivial, ?_⟩; gi_at_call 22; refine (callsIn_wide.2 (there_calls g m most c pid _ (HC.out.grown hgA (by simp) (by simp)))).mono ?_; rintro e w' ⟨rfl, hg⟩; rw [HK.out]; simp only [pv]; have e4 := blk_alloc (blk_grown hA4 hg (by simp)) (.cells #[.int .i64 a0, .int .i64 a1, .int .i64 3, .int .u32 a3] 36); have c40 := (blk_cell e4 0).trans rfl; have E3 := Aside0.mk (blk_alloc (blk_grown hA3 hg (by simp)) (.cells #[.int .i64 a0, .int .i64 a1, .int .i64 3, .int .u32 a3] 36)); have E4 := Aside0.mk e4; have HG := Aside0.mk hg; have s3 : w.heap.size < w'.heap.size := by { have := hg.size; simp at this; omega }; have s4 : w.heap.size + 1 < w'.heap.size := by { have := hg.size; simp at this; omega }; clear hg e4)
        have hg := (hgA.trans HG.out).trans (World.grownBy_alloc w' (.cells #[.int .i64 a0, .int .i64 a1, .int .i64 3, .int .u32 a3] 36) none)
        have e : exitR c most pid code = ([], 9, c) := by unfold exitR; rw [HP.out]; exact (if_neg hp1).trans (if_pos rfl)
        rw [e]
        refine ⟨_, results_tmp2 rfl _ _ _, _, rfl, Kd.R_nil _ _ _ _ _, HC.out.grown hg (by simp) (by simp), gb_weak hg m⟩
      · gi_wp2_with (refine ⟨trivial, ?_⟩; gi_at_call 22; refine (callsIn_wide.2 (there_calls g m most c pid _ (HC.out.grown hgA (by simp) (by simp)))).mono ?_; rintro e w' ⟨rfl, hg⟩; rw [HK.out]; simp only [pv]; have e4 := blk_alloc (blk_grown hA4 hg (by simp)) (.cells #[.int .i64 p.f0, .int .i64 p.f1, .int .i64 p.f2, .int .u32 p.f3] 36); have c40 := (blk_cell e4 0).trans rfl; have E3 := Aside0.mk (blk_alloc (blk_grown hA3 hg (by simp)) (.cells #[.int .i64 p.f0, .int .i64 p.f1, .int .i64 p.f2, .int .u32 p.f3] 36)); have E4 := Aside0.mk e4; have HG := Aside0.mk hg; have s3 : w.heap.size < w'.heap.size := by { have := hg.size; simp at this; omega }; have s4 : w.heap.size + 1 < w'.heap.size := by { have := hg.size; simp at this; omega }; clear hg e4)
        obtain ⟨hcg, hcm⟩ := HC.out.lt
        obtain ⟨b, hb⟩ : ∃ b, b = w'.heap.size := ⟨_, rfl⟩
        obtain ⟨W4, hW4⟩ : ∃ W4, W4 = w'.alloc (.cells #[.int .i64 p.f0, .int .i64 p.f1, .int .i64 3, .int .u32 code] 36) := ⟨_, rfl⟩
        rw [← hW4]
        have E3 := Aside0.mk (blk_alloc (blk_grown hA3 HG.out (by simp)) (.cells #[.int .i64 p.f0, .int .i64 p.f1, .int .i64 3, .int .u32 code] 36))
        have E4 := Aside0.mk (blk_alloc (blk_grown hA4 HG.out (by simp)) (.cells #[.int .i64 p.f0, .int .i64 p.f1, .int .i64 3, .int .u32 code] 36))
        rw [← hb] at s3 s4
        rw [← hb]
        have hbw : w.heap.size ≤ b := by omega
        have k0 := E3.out
        rw [← hW4] at k0
        have k3 := Aside0.mk k0
        clear k0
        have k0 := E4.out
        rw [← hW4] at k0
        have k4 := Aside0.mk k0
        clear k0
        have k0 : W4.heap[b]? = some (.cells #[.int .i64 p.f0, .int .i64 p.f1, .int .i64 3, .int .u32 code] 36 (0, 0)) := by rw [hW4]; exact new_at _ hb.symm
        have k8 := Aside0.mk k0
        clear k0
        have hg4 : w.grownBy W4 none := by rw [hW4]; exact (hgA.trans HG.out).trans (World.grownBy_alloc w' _ none)
        have HT4 := Aside0.mk (show TabW W4 g m most c from HC.out.grown hg4 (by simp) (by simp))
        have HG4 := Aside0.mk hg4
        have hS4 : W4.heap.size = b + 1 := by rw [hW4, hb]; simp
        have HS4 := Aside0.mk hS4
        clear hW4 hg4 hS4 c40 E3 E4 hA3 hA4 hgA HG
        have kg := Aside0.mk HT4.out.1
        have HM4 := Aside0.mk HT4.out.2
        have yg1 : W4.cell? ⟨g, 1, none⟩ = some (.map (some m)) := (blk_cell kg.out 1).trans rfl
        have y30 : W4.cell? ⟨w.heap.size, 0, none⟩ = some (.pointer (some ⟨g, 0, none⟩)) := (blk_cell k3.out 0).trans rfl
        have y40 : W4.cell? ⟨w.heap.size + 1, 0, none⟩ = some (.int .i64 pid) := (blk_cell k4.out 0).trans rfl
        have y80 : W4.cell? ⟨b, 0, none⟩ = some (.int .i64 p.f0) := (blk_cell k8.out 0).trans rfl
        have y81 : W4.cell? ⟨b, 1, none⟩ = some (.int .i64 p.f1) := (blk_cell k8.out 1).trans rfl
        have y82 : W4.cell? ⟨b, 2, none⟩ = some (.int .i64 3) := (blk_cell k8.out 2).trans rfl
        have y83 : W4.cell? ⟨b, 3, none⟩ = some (.int .u32 code) := (blk_cell k8.out 3).trans rfl
        clear hb
        refine wpIn_draw (l := _) (by kernel_rfl) 6 [(0, 35), (1, 36), (2, 37), (3, 38), (4, 39), (5, 40)] (RdI 6 [.pointer (some ⟨g, 0, none⟩), .pointer (some ⟨g, 0, none⟩), .pointer (some ⟨g, 1, none⟩), .map (some m), .int .i64 pid, .agg #[.int .i64 p.f0, .int .i64 p.f1, .int .i64 3, .int .u32 code]] W4) (by kernel_rfl) rfl (RdI.start _ _ _) ?hs ?ht
        case hs =>
          intro i o hi ho bq fq W' hbi hdep hI
          obtain ⟨rfl, hI2⟩ := hI
          have HI := Aside0.mk (show RdI 6 [.pointer (some ⟨g, 0, none⟩), .pointer (some ⟨g, 0, none⟩), .pointer (some ⟨g, 1, none⟩), .map (some m), .int .i64 pid, .agg #[.int .i64 p.f0, .int .i64 p.f1, .int .i64 3, .int .u32 code]] W4 bq fq W4.drew from ⟨rfl, hI2⟩)
          have HD := Aside0.mk hdep
          clear hI2 hdep
          match i, hi, ho, hbi with
          | 0, _, ho, hbi =>
            cases ho
            simp only [frm, Act.put, List.setIfInBounds_toArray, List.set_cons_zero, List.set_cons_succ, Array.getD_eq_getD_getElem?, List.getElem?_toArray, List.getElem?_cons_zero, List.getElem?_cons_succ, Option.getD_some]
            gi_wp2
            exact ⟨_, rfl, HI.out.next rfl⟩
          | 1, _, ho, hbi =>
            cases ho
            have hb0 : bq 0 = true := HD.out _ (by first | exact List.mem_cons_self | exact List.mem_cons_of_mem _ List.mem_cons_self | exact List.mem_cons_of_mem _ (List.mem_cons_of_mem _ List.mem_cons_self)) rfl
            have h0 : fq 0 = .pointer (some ⟨g, 0, none⟩) := HI.out.2 0 (by decide) hb0
            simp only [frm, Act.put, List.setIfInBounds_toArray, List.set_cons_zero, List.set_cons_succ, Array.getD_eq_getD_getElem?, List.getElem?_toArray, List.getElem?_cons_zero, List.getElem?_cons_succ, Option.getD_some, hb0, h0, sel_true]
            clear h0 hb0
            gi_wp2
            exact ⟨_, rfl, HI.out.next rfl⟩
          | 2, _, ho, hbi =>
            cases ho
            have hb1 : bq 1 = true := HD.out _ (by first | exact List.mem_cons_self | exact List.mem_cons_of_mem _ List.mem_cons_self | exact List.mem_cons_of_mem _ (List.mem_cons_of_mem _ List.mem_cons_self)) rfl
            have h1 : fq 1 = .pointer (some ⟨g, 0, none⟩) := HI.out.2 1 (by decide) hb1
            simp only [frm, Act.put, List.setIfInBounds_toArray, List.set_cons_zero, List.set_cons_succ, Array.getD_eq_getD_getElem?, List.getElem?_toArray, List.getElem?_cons_zero, List.getElem?_cons_succ, Option.getD_some, hb1, h1, sel_true]
            clear h1 hb1
            gi_wp2
            exact ⟨_, rfl, HI.out.next rfl⟩
          | 3, _, ho, hbi =>
            cases ho
            have hb2 : bq 2 = true := HD.out _ (by first | exact List.mem_cons_self | exact List.mem_cons_of_mem _ List.mem_cons_self | exact List.mem_cons_of_mem _ (List.mem_cons_of_mem _ List.mem_cons_self)) rfl
            have h2 : fq 2 = .pointer (some ⟨g, 1, none⟩) := HI.out.2 2 (by decide) hb2
            simp only [frm, Act.put, List.setIfInBounds_toArray, List.set_cons_zero, List.set_cons_succ, Array.getD_eq_getD_getElem?, List.getElem?_toArray, List.getElem?_cons_zero, List.getElem?_cons_succ, Option.getD_some, hb2, h2, sel_true]
            clear h2 hb2
            gi_wp2
            exact ⟨_, rfl, HI.out.next rfl⟩
          | 4, _, ho, hbi =>
            cases ho
            simp only [frm, Act.put, List.setIfInBounds_toArray, List.set_cons_zero, List.set_cons_succ, Array.getD_eq_getD_getElem?, List.getElem?_toArray, List.getElem?_cons_zero, List.getElem?_cons_succ, Option.getD_some]
            gi_wp2
            exact ⟨_, rfl, HI.out.next rfl⟩
          | 5, _, ho, hbi =>
            cases ho
            simp only [frm, Act.put, List.setIfInBounds_toArray, List.set_cons_zero, List.set_cons_succ, Array.getD_eq_getD_getElem?, List.getElem?_toArray, List.getElem?_cons_zero, List.getElem?_cons_succ, Option.getD_some]
            gi_wp2
            exact ⟨_, rfl, HI.out.next rfl⟩
        case ht =>
          intro bq fq W' hb hI
          obtain ⟨rfl, hI2⟩ := hI
          have h0 : fq 0 = .pointer (some ⟨g, 0, none⟩) := hI2 0 (by decide) (hb 0 (by decide))
          have h1 : fq 1 = .pointer (some ⟨g, 0, none⟩) := hI2 1 (by decide) (hb 1 (by decide))
          have h2 : fq 2 = .pointer (some ⟨g, 1, none⟩) := hI2 2 (by decide) (hb 2 (by decide))
          have h3 : fq 3 = .map (some m) := hI2 3 (by decide) (hb 3 (by decide))
          have h4 : fq 4 = .int .i64 pid := hI2 4 (by decide) (hb 4 (by decide))
          have h5 : fq 5 = .agg #[.int .i64 p.f0, .int .i64 p.f1, .int .i64 3, .int .u32 code] := hI2 5 (by decide) (hb 5 (by decide))
          simp only [frm, Act.put, List.setIfInBounds_toArray, List.set_cons_zero, List.set_cons_succ, Array.getD_eq_getD_getElem?, List.getElem?_toArray, List.getElem?_cons_zero, List.getElem?_cons_succ, Option.getD_some, sel_true, h0, h1, h2, h3, h4, h5]
          clear hI2 hb h0 h1 h2 h3 h4 h5
          simp only [List.drop_succ_cons, List.drop_zero]
          gi_wp2_with (first | (gi_at_mapUpdate; refine wpListIn_store rfl _ _ _ 58 rfl 3 36 Try.underlying58 Try.underlying3 m _ rfl (HM4.out.same rfl) pid rfl (pv { p with f2 := 3, f3 := code }) rfl ?_; intro W5 hM5 hg5 hs5; have HM5 := Aside0.mk hM5; have HG5 := Aside0.mk hg5; have l3 := blk_grown (w := W4.drew) k3.out hg5 (by simp; omega); have l4 := blk_grown (w := W4.drew) k4.out hg5 (by simp; omega); have lg := blk_grown (w := W4.drew) kg.out hg5 (by have := HC.out.ne; simpa using this); have L3 := Aside0.mk l3; have L4 := Aside0.mk l4; have LG := Aside0.mk lg; have y30 := (blk_cell l3 0).trans rfl; clear hM5 hg5 hs5 l3 l4 lg) | (refine ⟨trivial, ?_⟩; gi_at_call 23; refine (callsIn_wide.2 (all_calls g _)).mono ?_; rintro e w' ⟨rfl, rfl⟩))
          rename (pid == 1) = false => hh; clear hh
          rename (p.f2 == 3) = false => hh; clear hh
          obtain ⟨C1, hC1⟩ : ∃ C1, C1 = upd c pid (some { p with f2 := 3, f3 := code }) := ⟨_, rfl⟩
          have hT5 : TabW W5 g m most C1 := ⟨LG.out, HM5.out.congr (fun j => by
            rw [hC1]
            unfold upd
            by_cases e1 : j = pid
            · rw [if_pos e1, if_pos e1]; rfl
            · rw [if_neg e1, if_neg e1])⟩
          have hg5 : w.grownBy W5 (some m) := (gb_drew (gb_weak HG4.out m)).andThen HG5.out (fun j e => .inr (by cases e; rfl))
          obtain ⟨b2, hb2⟩ : ∃ b2, b2 = W5.heap.size := ⟨_, rfl⟩
          obtain ⟨W0, hW0⟩ : ∃ W0, W0 = W5.alloc (.cells #[.pointer (some ⟨g, 0, none⟩)] 25) := ⟨_, rfl⟩
          rw [← hW0, ← hb2]
          have qx : BoxT W0 b2 g := by unfold BoxT; rw [hW0, hb2]; exact new_at _ rfl
          have q3 : W0.heap[w.heap.size]? = some (.cells #[.pointer (some ⟨g, 0, none⟩)] 25 (0, 0)) := by rw [hW0]; exact blk_alloc L3.out _
          have q4 : W0.heap[w.heap.size + 1]? = some (.cells #[.int .i64 pid] 3 (0, 0)) := by rw [hW0]; exact blk_alloc L4.out _
          have hG0 : w.grownBy W0 (some m) := by rw [hW0]; exact hg5.andThen (World.grownBy_alloc W5 _ none) (fun j e => by cases e)
          have hT0 : TabW W0 g m most C1 := by rw [hW0]; exact hT5.grown (World.grownBy_alloc W5 _ none) (by simp) (by simp)
          have hsz : W0.heap.size = b2 + 1 := by rw [hW0, hb2]; simp
          have hb2w : w.heap.size + 2 ≤ b2 := by have := HG5.out.size; have := HS4.out; simp at *; omega
          have HP1 := Aside0.mk (And.intro hp1 hz)
          have HC1 := Aside0.mk hC1
          clear hW0 hb2 hT5 hg5 hp1 hz y30 y40 y80 y81 y82 y83 yg1 hC1
          refine wpIn_rangeFunc_D (F := Fence.wide) (n := 4) rfl (by decide) (gf := 29) (lb := #[.pointer (some ⟨b2, 0, none⟩)]) rfl trivial (enters_of Try.func29 (by kernel_rfl) rfl)
            (all_seq 3 (by decide) b2 g m most hmost) (fun _ => rfl)
            (fun s W => (TabW W g m most (runO pid C1 (s - 1)) ∧ BoxT W b2 g ∧ W.heap[w.heap.size]? = some (.cells #[.pointer (some ⟨g, 0, none⟩)] 25 (0, 0)) ∧ W.heap[w.heap.size + 1]? = some (.cells #[.int .i64 pid] 3 (0, 0))) ∧ w.grownBy W (some m) ∧ 1 ≤ s ∧ s ≤ most.toNat + 1)
            (fun _ _ => False) ?hI (fun cd A B row h _ _ => h.elim) (fun s A h => ⟨h.1.2.1, _, h.1.1⟩) ⟨⟨hT0, qx, q3, q4⟩, hG0, Nat.le_refl _, by omega⟩ ?round ?done (fun D cd W _ h _ => h.elim)
          case hI =>
            rintro s A B row ⟨⟨a1, a2, a3, a4⟩, a6, a7⟩ hg hr
            have hr' : ∀ r, row = some r → ∃ o : Obj, A.heap[r]? = some o ∧ o.isCells = false := fun r e => (hr r e).2
            exact ⟨⟨a1.own (by omega) hg hr, cells_own a2 hg hr', cells_own a3 hg hr', cells_own a4 hg hr'⟩, a6.andThen hg (fun j e => .inl (by have := (hr j e).1; omega)), a7⟩
          case round =>
            rintro l s x s' W hl ⟨⟨a1, a2, a3, a4⟩, a6, a7, a8⟩ ⟨c', k, b1, b2', b3, rfl, b5, b6⟩
            obtain ⟨_, _, rfl⟩ := a1.uniq b1
            have HN := Aside0.mk (runO_hit a7 b2' b5 b6)
            obtain ⟨X, hX⟩ : ∃ X, X = W.heap.size := ⟨_, rfl⟩
            have HXW := Aside0.mk hX
            have hXb : b2 + 1 ≤ X := by have := blk_lt a2; omega
            have HZ := Aside0.mk hsz
            have HL := Aside0.mk hl
            obtain ⟨c9, hc9⟩ : ∃ c9, c9 = runO pid C1 (s - 1) := ⟨_, rfl⟩
            rw [← hc9] at a1
            have HI := Aside0.mk (show TabW W g m most c9 ∧ BoxT W b2 g ∧ W.heap[w.heap.size]? = some (.cells #[.pointer (some ⟨g, 0, none⟩)] 25 (0, 0)) ∧ W.heap[w.heap.size + 1]? = some (.cells #[.int .i64 pid] 3 (0, 0)) from ⟨a1, a2, a3, a4⟩)
            have HG := Aside0.mk a6
            have HX := Aside0.mk (show 1 ≤ s ∧ s ≤ k ∧ (k : Int) ≤ most from ⟨a7, b2', b3⟩)
            have HC9 := Aside0.mk hc9
            clear q3 q4 qx hG0 hT0 hsz hl a1 a2 a3 a4 a6 a7 a8 b1 b2' b3 b5 b6 hc9 hX
            simp only [pv]
            gi_wp2
            refine ⟨(KeepsOthers.alloc _ _).from _, fun W2 hg2 o2 ho2 hc2 => ?_⟩
            have hne2 : ∀ r, some l = some r → ∃ o : Obj, (W.alloc (.cells #[.int .i64 x.f0, .int .i64 x.f1, .int .i64 x.f2, .int .u32 x.f3] 36)).heap[r]? = some o ∧ o.isCells = false := fun r e => by cases e; exact ⟨o2, ho2, hc2⟩
            have hX10 := cells_own (new_at (W := W) (.cells #[.int .i64 x.f0, .int .i64 x.f1, .int .i64 x.f2, .int .u32 x.f3] 36) rfl) hg2 hne2
            have hq3 := cells_own (blk_alloc HI.out.2.2.1 _) hg2 hne2
            have hq4 := cells_own (blk_alloc HI.out.2.2.2 _) hg2 hne2
            have hqx : BoxT W2 b2 g := cells_own (blk_alloc HI.out.2.1 _) hg2 hne2
            have hT2 : TabW W2 g m most c9 := (HI.out.1.grown (World.grownBy_alloc W _ none) (by simp) (by simp)).own (N := w.heap.size) hcm hg2 (fun r e => by cases e; exact ⟨by have := HL.out; have := HZ.out; omega, o2, ho2, hc2⟩)
            have hG2 : w.grownBy W2 (some m) := (HG.out.andThen (World.grownBy_alloc W (.cells #[.int .i64 x.f0, .int .i64 x.f1, .int .i64 x.f2, .int .u32 x.f3] 36) none) (fun j e => by cases e)).andThen hg2 (fun j e => by cases e; exact .inl (by have := HL.out; have := HZ.out; omega))
            rw [← HXW.out] at hX10
            rw [← HXW.out]
            have r100 : W2.cell? ⟨X, 0, none⟩ = some (.int .i64 x.f0) := (blk_cell hX10 0).trans rfl
            have r101 : W2.cell? ⟨X, 1, none⟩ = some (.int .i64 x.f1) := (blk_cell hX10 1).trans rfl
            have r102 : W2.cell? ⟨X, 2, none⟩ = some (.int .i64 x.f2) := (blk_cell hX10 2).trans rfl
            have r103 : W2.cell? ⟨X, 3, none⟩ = some (.int .u32 x.f3) := (blk_cell hX10 3).trans rfl
            have f101 := blk_frozen hX10 1
            have r40 : W2.cell? ⟨w.heap.size + 1, 0, none⟩ = some (.int .i64 pid) := (blk_cell hq4 0).trans rfl
            have HQ := Aside0.mk (And.intro hT2 (And.intro hqx (And.intro hq3 (And.intro hq4 (And.intro hG2 hX10)))))
            clear hX10 hq3 hq4 hqx hT2 hG2 hg2 hne2 ho2 hc2
            by_cases hkid : x.f1 = pid
            · gi_wp2_with fail
              obtain ⟨t1, t2, t3, t4, t5, t6⟩ := HQ.out
              have hn := HN.out
              rw [if_pos hkid, ← HC9.out] at hn
              have HN2 := Aside0.mk hn
              clear hn HN hkid
              obtain ⟨W6, hW6⟩ : ∃ W6, W6 = W2.setCell ⟨X, 1, none⟩ (.int .i64 1) := ⟨_, rfl⟩
              rw [← hW6]
              have k0 : W6.heap[w.heap.size]? = some (.cells #[.pointer (some ⟨g, 0, none⟩)] 25 (0, 0)) := by rw [hW6]; exact blk_far t3 (p := ⟨X, 1, none⟩) (show w.heap.size ≠ X by omega) _
              have j3 := Aside0.mk k0
              clear k0
              have k0 : W6.heap[w.heap.size + 1]? = some (.cells #[.int .i64 pid] 3 (0, 0)) := by rw [hW6]; exact blk_far t4 (p := ⟨X, 1, none⟩) (show w.heap.size + 1 ≠ X by omega) _
              have j4 := Aside0.mk k0
              clear k0
              have k0 : BoxT W6 b2 g := by rw [hW6]; exact blk_far t2 (p := ⟨X, 1, none⟩) (show b2 ≠ X by omega) _
              have jx := Aside0.mk k0
              clear k0
              have k0 : W6.heap[X]? = some (.cells #[.int .i64 x.f0, .int .i64 1, .int .i64 x.f2, .int .u32 x.f3] 36 (0, 0)) := by rw [hW6]; exact blk_put t6 1 _ rfl
              have j10 := Aside0.mk k0
              clear k0
              have HT6 := Aside0.mk (show TabW W6 g m most c9 by rw [hW6]; exact t1.same (Below.heap_setCell _ ⟨X, 1, none⟩ _ g (show g ≠ X by omega)) (Below.heap_setCell _ ⟨X, 1, none⟩ _ m (show m ≠ X by omega)))
              have HG6 := Aside0.mk (show w.grownBy W6 (some m) by rw [hW6]; exact t5.andThen (gb_set _ _ _ _) (fun j e => by cases e; exact .inl (by omega)))
              have HW6 := Aside0.mk hW6
              have HM6 := Aside0.mk HT6.out.2
              have jg := Aside0.mk HT6.out.1
              clear hW6 t1 t2 t3 t4 t5 t6 r100 r101 r102 r103 r40 f101
              have y30 : W6.cell? ⟨w.heap.size, 0, none⟩ = some (.pointer (some ⟨g, 0, none⟩)) := (blk_cell j3.out 0).trans rfl
              have yg1 : W6.cell? ⟨g, 1, none⟩ = some (.map (some m)) := (blk_cell jg.out 1).trans rfl
              have y100 : W6.cell? ⟨X, 0, none⟩ = some (.int .i64 x.f0) := (blk_cell j10.out 0).trans rfl
              have y101 : W6.cell? ⟨X, 1, none⟩ = some (.int .i64 1) := (blk_cell j10.out 1).trans rfl
              have y102 : W6.cell? ⟨X, 2, none⟩ = some (.int .i64 x.f2) := (blk_cell j10.out 2).trans rfl
              have y103 : W6.cell? ⟨X, 3, none⟩ = some (.int .u32 x.f3) := (blk_cell j10.out 3).trans rfl
              refine wpIn_draw (l := _) (by kernel_rfl) 7 [(0, 49), (1, 50), (2, 51), (3, 52), (4, 53), (5, 54), (6, 55)] (RdI 7 [.pointer (some ⟨g, 0, none⟩), .pointer (some ⟨g, 0, none⟩), .pointer (some ⟨g, 1, none⟩), .map (some m), .pointer (some ⟨X, 0, none⟩), .int .i64 x.f0, .agg #[.int .i64 x.f0, .int .i64 1, .int .i64 x.f2, .int .u32 x.f3]] W6) (by kernel_rfl) rfl (RdI.start _ _ _) ?hs ?ht
              case hs =>
                intro i o hi ho bq fq W' hbi hdep hI
                obtain ⟨rfl, hI2⟩ := hI
                have HI := Aside0.mk (show RdI 7 [.pointer (some ⟨g, 0, none⟩), .pointer (some ⟨g, 0, none⟩), .pointer (some ⟨g, 1, none⟩), .map (some m), .pointer (some ⟨X, 0, none⟩), .int .i64 x.f0, .agg #[.int .i64 x.f0, .int .i64 1, .int .i64 x.f2, .int .u32 x.f3]] W6 bq fq W6.drew from ⟨rfl, hI2⟩)
                have HD := Aside0.mk hdep
                clear hI2 hdep
                match i, hi, ho, hbi with
                | 0, _, ho, hbi =>
                  cases ho
                  simp only [frm, Act.put, List.setIfInBounds_toArray, List.set_cons_zero, List.set_cons_succ, Array.getD_eq_getD_getElem?, List.getElem?_toArray, List.getElem?_cons_zero, List.getElem?_cons_succ, Option.getD_some]
                  gi_wp2
                  exact ⟨_, rfl, HI.out.next rfl⟩
                | 1, _, ho, hbi =>
                  cases ho
                  have hb0 : bq 0 = true := HD.out _ (by first | exact List.mem_cons_self | exact List.mem_cons_of_mem _ List.mem_cons_self | exact List.mem_cons_of_mem _ (List.mem_cons_of_mem _ List.mem_cons_self)) rfl
                  have h0 : fq 0 = .pointer (some ⟨g, 0, none⟩) := HI.out.2 0 (by decide) hb0
                  simp only [frm, Act.put, List.setIfInBounds_toArray, List.set_cons_zero, List.set_cons_succ, Array.getD_eq_getD_getElem?, List.getElem?_toArray, List.getElem?_cons_zero, List.getElem?_cons_succ, Option.getD_some, hb0, h0, sel_true]
                  clear h0 hb0
                  gi_wp2
                  exact ⟨_, rfl, HI.out.next rfl⟩
                | 2, _, ho, hbi =>
                  cases ho
                  have hb1 : bq 1 = true := HD.out _ (by first | exact List.mem_cons_self | exact List.mem_cons_of_mem _ List.mem_cons_self | exact List.mem_cons_of_mem _ (List.mem_cons_of_mem _ List.mem_cons_self)) rfl
                  have h1 : fq 1 = .pointer (some ⟨g, 0, none⟩) := HI.out.2 1 (by decide) hb1
                  simp only [frm, Act.put, List.setIfInBounds_toArray, List.set_cons_zero, List.set_cons_succ, Array.getD_eq_getD_getElem?, List.getElem?_toArray, List.getElem?_cons_zero, List.getElem?_cons_succ, Option.getD_some, hb1, h1, sel_true]
                  clear h1 hb1
                  gi_wp2
                  exact ⟨_, rfl, HI.out.next rfl⟩
                | 3, _, ho, hbi =>
                  cases ho
                  have hb2 : bq 2 = true := HD.out _ (by first | exact List.mem_cons_self | exact List.mem_cons_of_mem _ List.mem_cons_self | exact List.mem_cons_of_mem _ (List.mem_cons_of_mem _ List.mem_cons_self)) rfl
                  have h2 : fq 2 = .pointer (some ⟨g, 1, none⟩) := HI.out.2 2 (by decide) hb2
                  simp only [frm, Act.put, List.setIfInBounds_toArray, List.set_cons_zero, List.set_cons_succ, Array.getD_eq_getD_getElem?, List.getElem?_toArray, List.getElem?_cons_zero, List.getElem?_cons_succ, Option.getD_some, hb2, h2, sel_true]
                  clear h2 hb2
                  gi_wp2
                  exact ⟨_, rfl, HI.out.next rfl⟩
                | 4, _, ho, hbi =>
                  cases ho
                  simp only [frm, Act.put, List.setIfInBounds_toArray, List.set_cons_zero, List.set_cons_succ, Array.getD_eq_getD_getElem?, List.getElem?_toArray, List.getElem?_cons_zero, List.getElem?_cons_succ, Option.getD_some]
                  gi_wp2
                  exact ⟨_, rfl, HI.out.next rfl⟩
                | 5, _, ho, hbi =>
                  cases ho
                  have hb4 : bq 4 = true := HD.out _ (by first | exact List.mem_cons_self | exact List.mem_cons_of_mem _ List.mem_cons_self | exact List.mem_cons_of_mem _ (List.mem_cons_of_mem _ List.mem_cons_self)) rfl
                  have h4 : fq 4 = .pointer (some ⟨X, 0, none⟩) := HI.out.2 4 (by decide) hb4
                  simp only [frm, Act.put, List.setIfInBounds_toArray, List.set_cons_zero, List.set_cons_succ, Array.getD_eq_getD_getElem?, List.getElem?_toArray, List.getElem?_cons_zero, List.getElem?_cons_succ, Option.getD_some, hb4, h4, sel_true]
                  clear h4 hb4
                  gi_wp2
                  exact ⟨_, rfl, HI.out.next rfl⟩
                | 6, _, ho, hbi =>
                  cases ho
                  simp only [frm, Act.put, List.setIfInBounds_toArray, List.set_cons_zero, List.set_cons_succ, Array.getD_eq_getD_getElem?, List.getElem?_toArray, List.getElem?_cons_zero, List.getElem?_cons_succ, Option.getD_some]
                  gi_wp2
                  exact ⟨_, rfl, HI.out.next rfl⟩
              case ht =>
                intro bq fq W' hb hI
                obtain ⟨rfl, hI2⟩ := hI
                have h0 : fq 0 = .pointer (some ⟨g, 0, none⟩) := hI2 0 (by decide) (hb 0 (by decide))
                have h1 : fq 1 = .pointer (some ⟨g, 0, none⟩) := hI2 1 (by decide) (hb 1 (by decide))
                have h2 : fq 2 = .pointer (some ⟨g, 1, none⟩) := hI2 2 (by decide) (hb 2 (by decide))
                have h3 : fq 3 = .map (some m) := hI2 3 (by decide) (hb 3 (by decide))
                have h4 : fq 4 = .pointer (some ⟨X, 0, none⟩) := hI2 4 (by decide) (hb 4 (by decide))
                have h5 : fq 5 = .int .i64 x.f0 := hI2 5 (by decide) (hb 5 (by decide))
                have h6 : fq 6 = .agg #[.int .i64 x.f0, .int .i64 1, .int .i64 x.f2, .int .u32 x.f3] := hI2 6 (by decide) (hb 6 (by decide))
                simp only [frm, Act.put, List.setIfInBounds_toArray, List.set_cons_zero, List.set_cons_succ, Array.getD_eq_getD_getElem?, List.getElem?_toArray, List.getElem?_cons_zero, List.getElem?_cons_succ, Option.getD_some, sel_true, h0, h1, h2, h3, h4, h5, h6]
                clear hI2 hb h0 h1 h2 h3 h4 h5 h6
                simp only [List.drop_succ_cons, List.drop_zero]
                gi_wp2_with (gi_at_mapUpdate; refine wpListIn_store rfl _ _ _ 58 rfl 3 36 Try.underlying58 Try.underlying3 m _ rfl (HM6.out.same rfl) x.f0 rfl (pv { x with f1 := 1 }) rfl ?_; intro W7 hM7 hg7 hs7; have HM7 := Aside0.mk hM7; have HG7 := Aside0.mk hg7; clear hM7 hg7 hs7)
                have hS6 : W6.heap.size = W2.heap.size := by rw [HW6.out]; simp
                have hkf : KeepsFrom W0.heap.size W2 W7 := by
                  have h1 : KeepsFrom W0.heap.size W2 W6 := by rw [HW6.out]; exact (KeepsOthers.setCell _ _ _).from _
                  exact h1.trans ((kf_drew _ W6).trans (KeepsFrom.of_grownBy HG7.out (fun j e => by cases e; have := HZ.out; omega)))
                have hn2 := HN2.out
                have l3 := blk_grown (w := W6.drew) j3.out HG7.out (by simp; omega)
                have l4 := blk_grown (w := W6.drew) j4.out HG7.out (by simp; omega)
                have lx := blk_grown (w := W6.drew) jx.out HG7.out (by simp; omega)
                have lg := blk_grown (w := W6.drew) jg.out HG7.out (by have := HC.out.ne; simpa using this)
                have hx2 := HX.out
                refine ⟨hkf, ⟨?_, lx, l3, l4⟩, (gb_drew HG6.out).andThen HG7.out (fun j e => .inr (by cases e; rfl)), by omega⟩
                show TabW W7 g m most (runO pid C1 k)
                rw [hn2]
                exact ⟨lg, HM7.out.congr (fun j => by
                  unfold upd
                  by_cases e1 : j = x.f0
                  · rw [if_pos e1, if_pos e1]; rfl
                  · rw [if_neg e1, if_neg e1])⟩
            · gi_wp2
              obtain ⟨t1, t2, t3, t4, t5, t6⟩ := HQ.out
              have hn := HN.out
              rw [if_neg hkid, ← HC9.out] at hn
              have hx2 := HX.out
              refine ⟨KeepsFrom.refl _ _, ⟨?_, t2, t3, t4⟩, t5, by omega⟩
              show TabW W2 g m most (runO pid C1 k)
              rw [hn]
              exact t1
          case done =>
            rintro D s W hD ⟨W1, ⟨c', b1, b2'⟩, ⟨⟨a1, a2, a3, a4⟩, a6, a7, a8⟩, hg1⟩ ⟨⟨d1, d2, d3, d4⟩, d6, d7⟩ hK
            obtain ⟨_, _, rfl⟩ := a1.uniq b1
            have hl : runO pid C1 most.toNat = runO pid C1 (s - 1) := by
              have := runO_gap (pid := pid) (c := C1) (k := most.toNat + 1) a7 a8 (fun j h1 h2 => b2' j h1 (by omega))
              rwa [show most.toNat + 1 - 1 = most.toNat by omega] at this
            rw [← hl] at d1
            obtain ⟨C2, hC2⟩ : ∃ C2, C2 = runO pid C1 most.toNat := ⟨_, rfl⟩
            rw [← hC2] at d1
            have HC2 := Aside0.mk hC2
            have hDb : b2 + 1 ≤ D := by omega
            clear a1 a2 a3 a4 a6 a7 a8 b1 b2' hg1 hl q3 q4 qx hG0 hT0 hsz hD d2 d7 hC2
            have x30 : W.cell? ⟨w.heap.size, 0, none⟩ = some (.pointer (some ⟨g, 0, none⟩)) := (blk_cell d3 0).trans rfl
            have e30 : (W.alloc (.cells #[.slice none 0 0] 31)).cell? ⟨w.heap.size, 0, none⟩ = some (.pointer (some ⟨g, 0, none⟩)) := (blk_cell (blk_alloc d3 _) 0).trans rfl
            have HB := Aside0.mk (And.intro d1 (And.intro d3 (And.intro d4 (And.intro d6 hK))))
            have hDW : D < W.heap.size := blk_lt hK
            clear d1 d3 d4 d6 hK
            gi_wp2_with (refine ⟨trivial, ?_⟩; gi_at_call 23; refine (callsIn_wide.2 (all_calls g _)).mono ?_; rintro e w' ⟨rfl, rfl⟩)
            obtain ⟨R, hR⟩ : ∃ R, R = W.heap.size := ⟨_, rfl⟩
            obtain ⟨W0', hW0⟩ : ∃ W0', W0' = (W.alloc (.cells #[.slice none 0 0] 31)).alloc (.cells #[.pointer (some ⟨g, 0, none⟩)] 25) := ⟨_, rfl⟩
            have hR1 : (W.alloc (.cells #[.slice none 0 0] 31)).heap.size = R + 1 := by rw [hR]; simp
            try rw [hR1]
            rw [← hW0, ← hR]
            rw [← hR] at hDW
            obtain ⟨d1, d3, d4, d6, hK⟩ := HB.out
            have qx : BoxT W0' (R + 1) g := by unfold BoxT; rw [hW0, ← hR1]; exact new_at _ rfl
            have q11 : W0'.heap[R]? = some (.cells #[.slice none 0 0] 31 (0, 0)) := by rw [hW0, hR]; exact blk_alloc (new_at _ rfl) _
            have q3 : W0'.heap[w.heap.size]? = some (.cells #[.pointer (some ⟨g, 0, none⟩)] 25 (0, 0)) := by rw [hW0]; exact blk_alloc (blk_alloc d3 _) _
            have qD : W0'.heap[D]? = some (.deferred (some [])) := by rw [hW0]; exact blk_alloc (blk_alloc hK _) _
            have hG0 : w.grownBy W0' (some m) := by rw [hW0]; exact (d6.andThen (World.grownBy_alloc W _ none) (fun j e => by cases e)).andThen (World.grownBy_alloc _ _ none) (fun j e => by cases e)
            have hT0 : TabW W0' g m most C2 := by rw [hW0]; exact (d1.grown (World.grownBy_alloc W _ none) (by simp) (by simp)).grown (World.grownBy_alloc _ _ none) (by simp) (by simp)
            have hsz : W0'.heap.size = R + 2 := by rw [hW0, hR]; simp
            clear hW0 hR d1 d3 d4 d6 hK x30 e30 hR1 HB
            refine wpIn_rangeFunc_D (F := Fence.wide) (n := 4) rfl (by decide) (gf := 29) (lb := #[.pointer (some ⟨R + 1, 0, none⟩)]) rfl trivial (enters_of Try.func29 (by kernel_rfl) rfl)
              (all_seq 3 (by decide) (R + 1) g m most hmost) (fun _ => rfl)
              (fun s W => (TabW W g m most (runS most C2 (s - 1)).2 ∧ BoxT W (R + 1) g ∧ W.heap[w.heap.size]? = some (.cells #[.pointer (some ⟨g, 0, none⟩)] 25 (0, 0)) ∧ W.heap[D]? = some (.deferred (some [])) ∧ ∃ v, W.heap[R]? = some (.cells #[v] 31 (0, 0)) ∧ Kd.R k40 40 W w.heap.size (fun k => k ≠ R) v (runS most C2 (s - 1)).1) ∧ w.grownBy W (some m) ∧ 1 ≤ s ∧ s ≤ most.toNat + 1)
              (fun _ _ => False) ?hI2 (fun cd A B row h _ _ => h.elim) (fun s A h => ⟨h.1.2.1, _, h.1.1⟩) ⟨⟨hT0, qx, q3, qD, _, q11, Kd.R_nil _ _ _ _ _⟩, hG0, Nat.le_refl _, by omega⟩ ?round2 ?done2 (fun D cd W _ h _ => h.elim)
            case hI2 =>
              rintro s A B row ⟨⟨a1, a2, a3, a4, v, a5, a5'⟩, a6, a7⟩ hg hr
              have hr' : ∀ r, row = some r → ∃ o : Obj, A.heap[r]? = some o ∧ o.isCells = false := fun r e => (hr r e).2
              have ha4 : B.heap[D]? = some (.deferred (some [])) := (hg.block D (blk_lt a4) (fun e => by have := (hr D e.symm).1; omega)).trans a4
              exact ⟨⟨a1.own (by omega) hg hr, cells_own a2 hg hr', cells_own a3 hg hr', ha4, v, cells_own a5 hg hr', R_own a5' hg hr'⟩, a6.andThen hg (fun j e => .inl (by have := (hr j e).1; omega)), a7⟩
            case round2 =>
              rintro l s x s' W hl ⟨⟨a1, a2, a3, a4, v, a5, a5'⟩, a6, a7, a8⟩ ⟨c', k, b1, b2', b3, rfl, b5, b6⟩
              obtain ⟨_, _, rfl⟩ := a1.uniq b1
              have HN := Aside0.mk (runS_hit a7 b2' b5 b6)
              have HLN := Aside0.mk (runS_len most C2 (s - 1))
              obtain ⟨A0, c0, rfl, _, _⟩ := Kd.R_reads a5'
              obtain ⟨X, hX⟩ : ∃ X, X = W.heap.size := ⟨_, rfl⟩
              have HXW := Aside0.mk hX
              have hXb : R + 2 ≤ X := by have := blk_lt a2; omega
              have HZ := Aside0.mk hsz
              have HL := Aside0.mk hl
              obtain ⟨lr, hlr⟩ : ∃ lr, lr = (runS most C2 (s - 1)).1 := ⟨_, rfl⟩
              rw [← hlr] at a5 a5'
              obtain ⟨c9, hc9⟩ : ∃ c9, c9 = (runS most C2 (s - 1)).2 := ⟨_, rfl⟩
              rw [← hc9] at a1
              have HI := Aside0.mk (show TabW W g m most c9 ∧ BoxT W (R + 1) g ∧ W.heap[w.heap.size]? = some (.cells #[.pointer (some ⟨g, 0, none⟩)] 25 (0, 0)) ∧ W.heap[D]? = some (.deferred (some [])) ∧ W.heap[R]? = some (.cells #[.slice A0 lr.length c0] 31 (0, 0)) ∧ Kd.R k40 40 W w.heap.size (fun k => k ≠ R) (.slice A0 lr.length c0) lr from ⟨a1, a2, a3, a4, a5, a5'⟩)
              have HG := Aside0.mk a6
              have HX := Aside0.mk (show 1 ≤ s ∧ s ≤ k ∧ (k : Int) ≤ most from ⟨a7, b2', b3⟩)
              have HC9 := Aside0.mk (And.intro hlr hc9)
              clear q3 q11 qD qx hG0 hT0 hsz hl a1 a2 a3 a4 a5 a5' a6 a7 a8 b1 b2' b3 b5 b6 hlr hc9 hX
              simp only [pv]
              gi_wp2
              refine ⟨(KeepsOthers.alloc _ _).from _, fun W2 hg2 o2 ho2 hc2 => ?_⟩
              have hne2 : ∀ r, some l = some r → ∃ o : Obj, (W.alloc (.cells #[.int .i64 x.f0, .int .i64 x.f1, .int .i64 x.f2, .int .u32 x.f3] 36)).heap[r]? = some o ∧ o.isCells = false := fun r e => by cases e; exact ⟨o2, ho2, hc2⟩
              have hX12 := cells_own (new_at (W := W) (.cells #[.int .i64 x.f0, .int .i64 x.f1, .int .i64 x.f2, .int .u32 x.f3] 36) rfl) hg2 hne2
              have hq3 := cells_own (blk_alloc HI.out.2.2.1 _) hg2 hne2
              have hq11 := cells_own (blk_alloc HI.out.2.2.2.2.1 _) hg2 hne2
              have hqx : BoxT W2 (R + 1) g := cells_own (blk_alloc HI.out.2.1 _) hg2 hne2
              have hqD : W2.heap[D]? = some (.deferred (some [])) := by
                have h1 := blk_alloc HI.out.2.2.2.1 (.cells #[.int .i64 x.f0, .int .i64 x.f1, .int .i64 x.f2, .int .u32 x.f3] 36)
                exact (hg2.block D (blk_lt h1) (fun e => by cases e; have := HL.out; have := HZ.out; omega)).trans h1
              have hT2 : TabW W2 g m most c9 := (HI.out.1.grown (World.grownBy_alloc W _ none) (by simp) (by simp)).own (N := w.heap.size) hcm hg2 (fun r e => by cases e; exact ⟨by have := HL.out; have := HZ.out; omega, o2, ho2, hc2⟩)
              have hR2 := R_own (Kd.R_alloc HI.out.2.2.2.2.2 (.cells #[.int .i64 x.f0, .int .i64 x.f1, .int .i64 x.f2, .int .u32 x.f3] 36)) hg2 hne2
              have hG2 : w.grownBy W2 (some m) := (HG.out.andThen (World.grownBy_alloc W (.cells #[.int .i64 x.f0, .int .i64 x.f1, .int .i64 x.f2, .int .u32 x.f3] 36) none) (fun j e => by cases e)).andThen hg2 (fun j e => by cases e; exact .inl (by have := HL.out; have := HZ.out; omega))
              rw [← HXW.out] at hX12
              rw [← HXW.out]
              have r120 : W2.cell? ⟨X, 0, none⟩ = some (.int .i64 x.f0) := (blk_cell hX12 0).trans rfl
              have r121 : W2.cell? ⟨X, 1, none⟩ = some (.int .i64 x.f1) := (blk_cell hX12 1).trans rfl
              have r122 : W2.cell? ⟨X, 2, none⟩ = some (.int .i64 x.f2) := (blk_cell hX12 2).trans rfl
              have r123 : W2.cell? ⟨X, 3, none⟩ = some (.int .u32 x.f3) := (blk_cell hX12 3).trans rfl
              have r30 : W2.cell? ⟨w.heap.size, 0, none⟩ = some (.pointer (some ⟨g, 0, none⟩)) := (blk_cell hq3 0).trans rfl
              have HQ := Aside0.mk (And.intro hT2 (And.intro hqx (And.intro hq3 (And.intro hqD (And.intro hq11 (And.intro hR2 (And.intro hG2 hX12)))))))
              clear hX12 hq3 hq11 hqx hqD hT2 hR2 hG2 hg2 hne2 ho2 hc2
              by_cases hst : x.f2 = 2
              · gi_wp2_with fail
                obtain ⟨y, hy⟩ : ∃ y : S36, y = x := ⟨_, rfl⟩
                have HN2 := Aside0.mk (HN.out.trans (if_pos hst))
                rw [← HC9.out.1, ← HC9.out.2] at HN2
                refine ⟨trivial, ?_⟩
                rw [show Value.agg #[.int .i64 x.f0, .int .i64 x.f1, .int .i64 2, .int .u32 x.f3] = pv x by unfold pv; rw [hst]]
                have HST := Aside0.mk hst
                clear hst HN r120 r121 r122 r123 hy y
                refine CallsIn.inRound l ((callsIn_wide.2 (serve_calls g m most c9 x W2 HQ.out.1 hmost)).mono ?_)
                rintro e W6 (⟨hf, rfl, hT6, hg6⟩ | ⟨q, hf, rfl, hT6, hg6⟩)
                · have hs : serveR c9 most x = (none, c9) := by unfold serveR; rw [hf]
                  have HS := Aside0.mk hs
                  have HT6 := Aside0.mk hT6
                  have HG6 := Aside0.mk hg6
                  clear hf hT6 hg6 hs
                  simp only [rv]
                  gi_wp2
                  obtain ⟨t1, t2, t3, t4, t5, t6, t7, t8⟩ := HQ.out
                  have hn := HN2.out
                  rw [HS.out] at hn
                  have hx2 := HX.out
                  have hg7 := HG6.out.trans (World.grownBy_alloc W6 (.cells #[.int .i64 0, .int .i64 0, .int .u32 0] 40) none)
                  refine ⟨KeepsFrom.of_grownBy hg7 (fun j e => by cases e), ⟨?_, blk_grown t2 hg7 (by simp), blk_grown t3 hg7 (by simp), (hg7.block D (blk_lt t4) (by simp)).trans t4, _, blk_grown t5 hg7 (by simp), ?_⟩, t7.andThen hg7 (fun j e => by cases e), by omega⟩
                  · show TabW _ g m most (runS most C2 k).2
                    rw [hn]
                    exact HT6.out.grown (World.grownBy_alloc W6 _ none) (by simp) (by simp)
                  · show Kd.R k40 40 _ w.heap.size (fun k => k ≠ R) _ (runS most C2 k).1
                    rw [hn]
                    simp only [Option.toList_none, List.append_nil]
                    exact R_own t6 hg7 (fun r e => by cases e)
                · have hs : serveR c9 most x = (some ⟨x.f0, q.f0, q.f3⟩, upd (upd c9 q.f0 none) x.f0 (some { x with f2 := 1 })) := by unfold serveR; rw [hf]
                  have HS := Aside0.mk hs
                  have HT6 := Aside0.mk hT6
                  have HG6 := Aside0.mk hg6
                  obtain ⟨t1, t2, t3, t4, t5, t6, t7, t8⟩ := HQ.out
                  obtain ⟨W8, hW8⟩ : ∃ W8, W8 = W6.alloc (.cells #[.int .i64 x.f0, .int .i64 q.f0, .int .u32 q.f3] 40) := ⟨_, rfl⟩
                  have hg8 : W2.grownBy W8 (some m) := by rw [hW8]; exact hg6.andThen (World.grownBy_alloc W6 _ none) (fun j e => by cases e)
                  have hmlow : ∀ j, w.heap.size ≤ j → some j ≠ some m := fun j hj e => by cases e; omega
                  have hT8 : TabW W8 g m most (upd (upd c9 q.f0 none) x.f0 (some { x with f2 := 1 })) := by rw [hW8]; exact hT6.grown (World.grownBy_alloc W6 _ none) (by simp) (by simp)
                  have k11 := blk_grown t5 hg8 (hmlow R (by omega))
                  have kx := blk_grown t2 hg8 (hmlow (R + 1) (by omega))
                  have k3' := blk_grown t3 hg8 (hmlow _ (Nat.le_refl _))
                  have kD : W8.heap[D]? = some (.deferred (some [])) := (hg8.block D (blk_lt t4) (hmlow D (by omega))).trans t4
                  have kR := R_grown_m t6 hg8 hcm
                  have x110 : W8.cell? ⟨R, 0, none⟩ = some (.slice A0 lr.length c0) := (blk_cell k11 0).trans rfl
                  rw [hW8] at x110
                  have HW8 := Aside0.mk hW8
                  have HS8 := Aside0.mk (show W8.heap.size = W6.heap.size + 1 by rw [hW8]; simp)
                  have HV := Aside0.mk (And.intro hT8 (And.intro kx (And.intro k3' (And.intro kD (And.intro k11 (And.intro kR (t7.andThen hg8 (fun j e => .inr e))))))))
                  have HKF := Aside0.mk (KeepsFrom.of_grownBy hg8 (B := W0'.heap.size) (fun j e => by cases e; have := HZ.out; omega))
                  clear hf hT6 hg6 hs hg8 hT8 k11 kx k3' kD kR t1 t2 t3 t4 t5 t6 t7 t8 r30 hW8
                  simp only [rv]
                  gi_wp2_with (gi_at_builtin; rw [← HW8.out]; go_loud (refine R_appendIn k40 (W := W8) w.heap.size rfl (.tmp 69) (.tmp 71) 31 40 (.agg #[.int .i64 0, .int .i64 0, .int .u32 0]) 24 rfl Try.underlying31 info40 rfl (by decide) (by decide) (.slice A0 lr.length c0) lr ⟨x.f0, q.f0, q.f3⟩ [.int .i64 x.f0, .int .i64 q.f0, .int .u32 q.f3] (fun k => k ≠ R) (fun _ => False) rfl (by rw [HS8.out]; rfl) (k40_mkM _ _ _ ⟨x.f0, q.f0, q.f3⟩) (fun _ h => h.elim) ?hfr HV.out.2.2.2.2.2.1 HV.out.2.2.2.2.2.2.size ?hln ?_); (case hfr => intro k hk; have := blk_lt HV.out.2.1; omega); (case hln => have := HLN.out; have := HX.out; have := congrArg List.length HC9.out.1; omega); intro v1 W3 hR3 hg3 hat3; obtain ⟨A1, c1, rfl, _, _⟩ := Kd.R_reads hR3; have HR3 := Aside0.mk hR3; have HG3 := Aside0.mk hg3; have e3 := blk_grown HV.out.2.2.2.2.1 hg3 (fun e => HV.out.2.2.2.2.2.1.1 _ e.symm rfl); have y110 := (blk_cell e3 0).trans rfl; have z110 := blk_frozen e3 0; have E3 := Aside0.mk e3; clear hR3 hg3 hat3 e3)
                  obtain ⟨v8, kx, k3', kD, k11, kR, kg8⟩ := HV.out
                  have hrow : ∀ (j : Nat) (o : Obj), (Value.slice A0 lr.length c0).ownBlock = some j → W8.heap[j]? = some o → o.isCells = true := fun j o hj ho => by
                    obtain ⟨_, _, _, q, _, cells, h5⟩ := (Kd.R_bound kR).1 j hj
                    rw [h5] at ho; cases ho; rfl
                  have hlow : ∀ j, j < w.heap.size → some j ≠ (Value.slice A0 lr.length c0).ownBlock := fun j hj e => by
                    have := Kd.R_base kR j e.symm; omega
                  have hTf := (v8.grown HG3.out (hlow g hcg) (hlow m hcm))
                  have hxf := blk_grown kx HG3.out (Kd.R_ne kR kx (by decide))
                  have h3f := blk_grown k3' HG3.out (Kd.R_ne kR k3' (by decide))
                  have hDf := (HG3.out.block D (blk_lt kD) (fun e => by have := hrow D _ e.symm kD; cases this)).trans kD
                  have hn := HN2.out
                  rw [HS.out] at hn
                  simp only [Option.toList_some] at hn
                  have hx2 := HX.out
                  refine ⟨HKF.out.trans (((KeepsOthers.of_grownBy HG3.out hrow).trans (KeepsOthers.setCell _ _ _)).from _), ⟨?_, blk_far hxf (show R + 1 ≠ R by omega) _, blk_far h3f (show w.heap.size ≠ R by omega) _, (Below.heap_setCell _ ⟨R, 0, none⟩ _ D (show D ≠ R by omega)).trans hDf, _, blk_put E3.out 0 _ rfl, ?_⟩, ?_, by omega⟩
                  · show TabW _ g m most (runS most C2 k).2
                    rw [hn]
                    exact hTf.same (Below.heap_setCell _ ⟨R, 0, none⟩ _ g (show g ≠ R by omega)) (Below.heap_setCell _ ⟨R, 0, none⟩ _ m (show m ≠ R by omega))
                  · show Kd.R k40 40 _ w.heap.size (fun k => k ≠ R) _ (runS most C2 k).1
                    rw [hn]
                    have h5 := HR3.out
                    rw [show (lr ++ [(⟨x.f0, q.f0, q.f3⟩ : S40)]).length = lr.length + 1 by simp] at h5
                    exact Kd.R_far h5 (p := ⟨R, 0, none⟩) (fun k hk => hk) _
                  · exact (kg8.andThen HG3.out (fun j e => .inl (Kd.R_base kR j e))).andThen (gb_set _ _ _ _) (fun j e => by cases e; exact .inl (by omega))
              · gi_wp2
                obtain ⟨t1, t2, t3, t4, t5, t6, t7, t8⟩ := HQ.out
                have hn := HN.out
                rw [if_neg hst] at hn
                have hx2 := HX.out
                refine ⟨KeepsFrom.refl _ _, ⟨?_, t2, t3, t4, _, t5, ?_⟩, t7, by omega⟩
                · show TabW W2 g m most (runS most C2 k).2
                  rw [hn, ← HC9.out.2]
                  exact t1
                · show Kd.R k40 40 W2 w.heap.size (fun k => k ≠ R) _ (runS most C2 k).1
                  rw [hn, ← HC9.out.1]
                  exact t6
            case done2 =>
              rintro D2 s W hD2 ⟨W1, ⟨c', b1, b2'⟩, ⟨⟨a1, a2, a3, a4, v1, a5, a5'⟩, a6, a7, a8⟩, hg1⟩ ⟨⟨d1, d2, d3, d4, v, d5, d5'⟩, d6, d7⟩ hK
              obtain ⟨_, _, rfl⟩ := a1.uniq b1
              have hl : runS most C2 most.toNat = runS most C2 (s - 1) := by
                have := runS_gap (most := most) (c := C2) (k := most.toNat + 1) a7 a8 (fun j h1 h2 => b2' j h1 (by omega))
                rwa [show most.toNat + 1 - 1 = most.toNat by omega] at this
              rw [← hl] at d1 d5'
              obtain ⟨lr, hlr⟩ : ∃ lr, lr = (runS most C2 most.toNat).1 := ⟨_, rfl⟩
              obtain ⟨c9, hc9⟩ : ∃ c9, c9 = (runS most C2 most.toNat).2 := ⟨_, rfl⟩
              rw [← hc9] at d1
              rw [← hlr] at d5'
              obtain ⟨A0, c0, rfl, _, _⟩ := Kd.R_reads d5'
              have x110 : W.cell? ⟨R, 0, none⟩ = some (.slice A0 lr.length c0) := (blk_cell d5 0).trans rfl
              have HDD := Aside0.mk (And.intro d1 (And.intro d4 (And.intro d5' (And.intro d6 hK))))
              have HLL := Aside0.mk (And.intro hlr hc9)
              have hD2R : R + 2 ≤ D2 := by omega
              clear a1 a2 a3 a4 a5 a5' a6 a7 a8 b1 b2' d1 d2 d3 d4 d5 d5' d6 d7 hg1 hK q3 q11 qD qx hG0 hT0 hsz hl hlr hc9 hD2
              gi_wp2
              obtain ⟨d1, d4, d5', d6, hK⟩ := HDD.out
              have hD2n : D2 ≠ D := by omega
              have hd4 : (W.putObj D2 (.deferred none)).heap[D]? = some (.deferred (some [])) := (World.putObj_heap_other (by omega)).trans d4
              have e : exitR c most pid code = (lr, 0, c9) := by
                unfold exitR; rw [HP.out]; simp only; rw [if_neg HP1.out.1, if_neg HP1.out.2, ← HC1.out, ← HC2.out, ← HLL.out.1, ← HLL.out.2]
              rw [e]
              refine ⟨by simp, .inl ⟨_, _, rfl, run_takeDeferred hK, ?_⟩⟩
              refine ⟨by simp, .inl ⟨_, _, rfl, run_takeDeferred hd4, ?_⟩⟩
              have g1 := grownBy_putObj' W D2 (.deferred none)
              have g2 := grownBy_putObj' (W.putObj D2 (.deferred none)) D (.deferred none)
              have n1 : ∀ r, some D2 = some r → ∃ o : Obj, W.heap[r]? = some o ∧ o.isCells = false := fun r e => by cases e; exact ⟨_, hK, rfl⟩
              have n2 : ∀ r, some D = some r → ∃ o : Obj, (W.putObj D2 (.deferred none)).heap[r]? = some o ∧ o.isCells = false := fun r e => by cases e; exact ⟨_, hd4, rfl⟩
              refine ⟨_, results_tmp2 rfl _ _ _, _, rfl, Kd.R_mono (R_own (R_own d5' g1 n1) g2 n2) (fun _ _ => trivial), ?_, ?_⟩
              · exact (d1.own (N := w.heap.size) hcm g1 (fun r e => by cases e; exact ⟨by omega, _, hK, rfl⟩)).own (N := w.heap.size) hcm g2 (fun r e => by cases e; exact ⟨by omega, _, hd4, rfl⟩)
              · exact (d6.andThen g1 (fun j e => by cases e; exact .inl (by omega))).andThen g2 (fun j e => by cases e; exact .inl (by omega))
end Go.Proofs.Ytbaddcojhggamaa.PAll
