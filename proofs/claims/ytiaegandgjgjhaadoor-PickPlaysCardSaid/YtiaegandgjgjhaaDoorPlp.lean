/-
  PickPlays: the plain part.
-/
import Derived.Test.YtiaegandgjgjhaaDoorPut
import Derived.Test.YtiaegandgjgjhaaDoorAllF17
namespace Go.Proofs.YtiaegandgjgjhaaDoor.PAll
open Go.RowKit Go.Proofs.YtiaegandgjgjhaaDoorM Go.Proofs.YtiaegandgjgjhaaDoorW.PrintWords Go.Proofs.YtiaegandgjgjhaaDoorW.PrintLast Go.Proofs.YtiaegandgjgjhaaDoorW.PrintMore
set_option linter.unusedVariables false
set_option linter.unusedSimpArgs false
theorem rise_ext : ∀ {l1 l2 : List Int}, l1.Pairwise (· < ·) → l2.Pairwise (· < ·) → (∀ x, x ∈ l1 ↔ x ∈ l2) → l1 = l2
  | [], [], _, _, _ => rfl
  | [], y :: l2, _, _, h => absurd ((h y).2 (List.mem_cons_self ..)) (by simp)
  | x :: l1, [], _, _, h => absurd ((h x).1 (List.mem_cons_self ..)) (by simp)
  | x :: l1, y :: l2, h1, h2, h => by
    rw [List.pairwise_cons] at h1 h2
    have hxy : x = y := by
      rcases List.mem_cons.1 ((h x).1 (List.mem_cons_self ..)) with e | e
      · exact e
      · rcases List.mem_cons.1 ((h y).2 (List.mem_cons_self ..)) with e2 | e2
        · exact e2.symm
        · have := h1.1 _ e2; have := h2.1 _ e; omega
    subst hxy
    congr 1
    refine rise_ext h1.2 h2.2 (fun z => ⟨fun hz => ?_, fun hz => ?_⟩)
    · rcases List.mem_cons.1 ((h z).1 (List.mem_cons_of_mem _ hz)) with e | e
      · have := h1.1 _ hz; omega
      · exact e
    · rcases List.mem_cons.1 ((h z).2 (List.mem_cons_of_mem _ hz)) with e | e
      · have := h2.1 _ hz; omega
      · exact e
theorem ins_mem : ∀ (l : List Int) (n x : Int), x ∈ l.take (posI l n) ++ [n] ++ l.drop (posI l n) ↔ x = n ∨ x ∈ l := fun l n x => by
  have h : x ∈ l ↔ x ∈ l.take (posI l n) ∨ x ∈ l.drop (posI l n) := by rw [← List.mem_append, List.take_append_drop]
  simp only [List.mem_append, List.mem_singleton, h]
  constructor
  · rintro ((a | a) | a)
    · exact .inr (.inl a)
    · exact .inl a
    · exact .inr (.inr a)
  · rintro (a | a | a)
    · exact .inl (.inr a)
    · exact .inl (.inl a)
    · exact .inr a
theorem ins_rise : ∀ (l : List Int) (n : Int), l.Pairwise (· < ·) → n ∉ l → (l.take (posI l n) ++ [n] ++ l.drop (posI l n)).Pairwise (· < ·)
  | [], n, _, _ => by simp [posI]
  | x :: l, n, h, hn => by
    rw [List.pairwise_cons] at h
    have hn2 : n ≠ x ∧ n ∉ l := by simpa using hn
    unfold posI
    by_cases e : x < n
    · rw [if_pos e]
      have ih := ins_rise l n h.2 hn2.2
      show (x :: (l.take (posI l n) ++ [n] ++ l.drop (posI l n))).Pairwise (· < ·)
      rw [List.pairwise_cons]
      refine ⟨fun y hy => ?_, ih⟩
      rcases (ins_mem l n y).1 hy with rfl | hy
      · exact e
      · exact h.1 _ hy
    · rw [if_neg e]
      show (n :: x :: l).Pairwise (· < ·)
      rw [List.pairwise_cons, List.pairwise_cons]
      refine ⟨fun y hy => ?_, h⟩
      rcases List.mem_cons.1 hy with rfl | hy
      · omega
      · have := h.1 _ hy; omega
theorem mem_hasI (f : Nat → Bool) (n : Int) : decide (n ∈ listN f 1024) = hasI f n := by
  unfold hasI
  by_cases h : 0 ≤ n ∧ n < 1024
  · obtain ⟨k, rfl⟩ := Int.eq_ofNat_of_zero_le h.1
    rw [decide_eq_true h, Int.toNat_natCast, Bool.true_and]
    cases hf : f k with
    | true => exact decide_eq_true (mem_listN.2 ⟨k, by omega, hf, rfl⟩)
    | false =>
      refine decide_eq_false (fun hm => ?_)
      obtain ⟨j, _, hj, e⟩ := mem_listN.1 hm
      have : k = j := by omega
      rw [this, hj] at hf; cases hf
  · rw [decide_eq_false h, Bool.false_and]
    refine decide_eq_false (fun hm => ?_)
    obtain ⟨j, h1, hj, e⟩ := mem_listN.1 hm
    omega
theorem mem_nat {f : Nat → Bool} {k : Nat} (hk : k < 1024) : (k : Int) ∈ listN f 1024 ↔ f k = true := by
  rw [mem_listN]
  constructor
  · rintro ⟨j, _, hj, e⟩; have : k = j := by omega
    rw [this]; exact hj
  · exact fun h => ⟨k, hk, h, rfl⟩
theorem put_law (f : Nat → Bool) (n : Int) : putI (listN f 1024) n = (listN (putF f n).2 1024, (putF f n).1) := by
  unfold putI putF
  by_cases h : n < 0 ∨ 1023 < n
  · rw [if_pos h, if_pos (by omega)]
  · rw [if_neg h, if_neg (show ¬ (n < 0 ∨ 1024 ≤ n) by omega)]
    obtain ⟨k, rfl⟩ := Int.eq_ofNat_of_zero_le (show 0 ≤ n by omega)
    have hk : k < 1024 := by omega
    rw [Int.toNat_natCast]
    by_cases hf : f k = true
    · rw [if_pos ((mem_nat hk).2 hf), if_pos hf]
    · have hm : ¬ (k : Int) ∈ listN f 1024 := fun h => hf ((mem_nat hk).1 h)
      rw [if_neg hm, if_neg hf]
      suffices e : (listN f 1024).take (posI (listN f 1024) (k : Int)) ++ [(k : Int)] ++ (listN f 1024).drop (posI (listN f 1024) (k : Int)) = listN (flipF f k) 1024 by rw [e]
      refine rise_ext (ins_rise _ _ (listN_rise f 1024) hm) (listN_rise _ _) (fun x => ?_)
      rw [ins_mem, mem_listN, mem_listN]
      constructor
      · rintro (rfl | ⟨j, h1, h2, rfl⟩)
        · exact ⟨k, hk, by unfold flipF; rw [if_pos rfl]; simpa using hf, rfl⟩
        · refine ⟨j, h1, ?_, rfl⟩
          unfold flipF
          rw [if_neg (fun e => by rw [e] at h2; exact hf h2)]; exact h2
      · rintro ⟨j, h1, h2, rfl⟩
        unfold flipF at h2
        by_cases e : j = k
        · exact .inl (by rw [e])
        · rw [if_neg e] at h2; exact .inr ⟨j, h1, h2, rfl⟩
theorem drop_law (f : Nat → Bool) (n : Int) : dropI (listN f 1024) n = (listN (dropF f n).2 1024, (dropF f n).1) := by
  unfold dropI dropF
  by_cases h : n < 0 ∨ 1023 < n
  · rw [if_pos h, if_pos (by omega)]
  · rw [if_neg h, if_neg (show ¬ (n < 0 ∨ 1024 ≤ n) by omega)]
    obtain ⟨k, rfl⟩ := Int.eq_ofNat_of_zero_le (show 0 ≤ n by omega)
    have hk : k < 1024 := by omega
    rw [Int.toNat_natCast]
    by_cases hf : f k = true
    · rw [if_pos ((mem_nat hk).2 hf), if_pos hf]
      suffices e : (listN f 1024).filter (fun x => decide (x ≠ (k : Int))) = listN (flipF f k) 1024 by rw [e]
      refine rise_ext ((listN_rise f 1024).filter _) (listN_rise _ _) (fun x => ?_)
      rw [List.mem_filter, mem_listN, mem_listN]
      constructor
      · rintro ⟨⟨j, h1, h2, rfl⟩, h3⟩
        refine ⟨j, h1, ?_, rfl⟩
        have h4 : (j : Int) ≠ (k : Int) := of_decide_eq_true h3
        unfold flipF
        rw [if_neg (fun e => h4 (by rw [e]))]; exact h2
      · rintro ⟨j, h1, h2, rfl⟩
        unfold flipF at h2
        by_cases e : j = k
        · rw [if_pos e, e, hf] at h2; cases h2
        · rw [if_neg e] at h2
          exact ⟨⟨j, h1, h2, rfl⟩, decide_eq_true (by omega)⟩
    · have hm : ¬ (k : Int) ∈ listN f 1024 := fun h => hf ((mem_nat hk).1 h)
      rw [if_neg hm, if_neg hf]
theorem span_step (a i : Nat) : listN (spanF a (i + 1)) (a + (i + 1)) = listN (spanF a i) (a + i) ++ [((a + i : Nat) : Int)] := by
  have h1 : spanF a (i + 1) (a + i) = true := decide_eq_true (by omega)
  rw [show a + (i + 1) = a + i + 1 by omega, listN_succ h1]
  congr 1
  refine listN_congr (fun k hk => ?_)
  unfold spanF
  by_cases h : a ≤ k ∧ k < a + i
  · rw [decide_eq_true h, decide_eq_true (by omega)]
  · rw [decide_eq_false h, decide_eq_false (by omega)]
theorem span_none (a : Nat) : listN (spanF a 0) (a + 0) = [] := by
  rw [listN_gap (f := spanF a 0) (n := 0) (a + 0) (Nat.zero_le _) (fun m _ _ => show spanF a 0 m = false from decide_eq_false (by omega))]; rfl
theorem span_full (a b : Nat) (h : a + b ≤ 1024) : listN (spanF a b) 1024 = listN (spanF a b) (a + b) :=
  listN_gap 1024 h (fun m h1 _ => show spanF a b m = false from decide_eq_false (by omega))
theorem new_l0 (a b : Nat) (h : a + b ≤ 1024) : ∀ (d i k : Nat), i + d = b → d < k → prioryref08_New.l0 k (a : Int) (b : Int) (listN (spanF a i) (a + i)) (i : Int) = some (listN (spanF a b) (a + b), 0)
  | 0, i, k + 1, hi, _ => by
    unfold prioryref08_New.l0
    rw [if_neg (by omega), show i = b by omega]
  | d + 1, i, k + 1, hi, hk => by
    have hl := listN_len (spanF a i) (a + i)
    unfold prioryref08_New.l0
    rw [if_pos (by omega), if_pos (by omega), wrap_id (by omega), wrap_id (by omega), show (a : Int) + (i : Int) = ((a + i : Nat) : Int) by omega, ← span_step, show (i : Int) + 1 = ((i + 1 : Nat) : Int) by omega]
    exact new_l0 a b h d (i + 1) k (by omega) (by omega)
theorem new_j0 (k : Nat) (a b : Int) (q : Bool) : prioryref08_New.j0 (k + 1) a b q = if q = true then some (([] : List Int), 2) else prioryref08_New.l0 k a b ([] : List Int) 0 := by rw [prioryref08_New.j0]
theorem rnew_good (a b : Nat) (ha : a < 1024) (h : b ≤ 1024 - a) : prioryref08_New.f 1100 (a : Int) (b : Int) = some (listN (spanF a b) 1024, 0) := by
  have h0 := new_l0 a b (by omega) b 0 1099 (by omega) (by omega)
  rw [span_none] at h0
  unfold prioryref08_New.f
  rw [if_neg (by omega), if_neg (by omega), if_neg (by omega), wrap_id (by omega), decide_eq_false (by omega)]
  rw [new_j0 1099, if_neg (by simp), span_full a b (by omega)]
  exact h0
theorem rnew_bad (a b : Int) (h : a < 0 ∨ 1024 ≤ a ∨ b < 0 ∨ 1024 - a < b) : prioryref08_New.f 1100 a b = some (([] : List Int), 2) := by
  have hj : prioryref08_New.j0 1100 a b true = some (([] : List Int), 2) := by rw [new_j0 1099, if_pos rfl]
  unfold prioryref08_New.f
  by_cases h1 : a < 0
  · rw [if_pos h1, hj]
  · by_cases h2 : a > 1023
    · rw [if_neg h1, if_pos h2, hj]
    · by_cases h3 : b < 0
      · rw [if_neg h1, if_neg h2, if_pos h3, hj]
      · rw [if_neg h1, if_neg h2, if_neg h3, wrap_id (by omega), decide_eq_true (by omega), hj]
theorem gb_below {w W : World} (h : Below w.heap.size w W) : w.grownBy W none := ⟨h.os, h.tape, h.output, h.size, fun k hk _ => h.block k hk⟩
end Go.Proofs.YtiaegandgjgjhaaDoor.PAll
