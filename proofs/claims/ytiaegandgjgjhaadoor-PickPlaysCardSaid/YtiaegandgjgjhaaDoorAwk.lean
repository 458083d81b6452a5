/-
  What awake does; PickNone; PickSpan.
-/
import Derived.Test.YtiaegandgjgjhaaDoorSetN
namespace Go.Proofs.YtiaegandgjgjhaaDoor.PAll
open Go.RowKit Go.Proofs.YtiaegandgjgjhaaDoorM Go.Proofs.YtiaegandgjgjhaaDoorW.PrintWords Go.Proofs.YtiaegandgjgjhaaDoorW.PrintLast Go.Proofs.YtiaegandgjgjhaaDoorW.PrintMore
set_option linter.unusedVariables false
set_option linter.unusedSimpArgs false
def aF1 : Nat → Bool := (takeF (spanF 3 2)).2.2
def aF2 : Nat → Bool := (putF aF1 0).2
theorem aw1 : takeF (spanF 3 2) = (3, 0, aF1) := by kernel_rfl
theorem aw2 : putF aF1 4 = (5, aF1) := by kernel_rfl
theorem aw3 : putF aF1 0 = (0, aF2) := by kernel_rfl
theorem aw4 : cntF aF2 1024 = 2 := by kernel_rfl
theorem aw5 : hasI aF2 0 = true := by kernel_rfl
set_option maxRecDepth 100000 in
set_option maxHeartbeats 4000000 in
theorem awake_calls (w : World) (hT : TabD w) : Calls Tryd.prog 9 #[] w fun e W' => e = .returned (.bool true) ∧ w.grownBy W' none := by
  have HT := Aside0.mk hT
  clear hT
  go_enter Tryd.func9, Tryd.ntmps9
  go_wp2_with (first
    | (have _ := HG4; go_at_call 10; refine (has_F HS4.out 0).mono ?_; rintro e W5 ⟨rfl, hw⟩; rw [hw, aw5]; clear hw)
    | (have _ := HG3; go_at_call 11; refine (len_F HS3.out).mono ?_; rintro e W4 ⟨rfl, hg4⟩; rw [aw4]; have HS4 := Aside0.mk (HS3.out.grown hg4 (by simp)); have HG4 := Aside0.mk (HG3.out.trans hg4); clear hg4)
    | (have _ := HG2; go_at_call 13; refine (put_F HS2.out 0).mono ?_; rintro e W3 ⟨rfl, hs, hg3⟩; rw [aw3] at hs ⊢; have HS3 := Aside0.mk hs; have HG3 := Aside0.mk (HG2.out.andThen hg3 (fun j e => by cases e; exact .inl hg)); clear hs hg3)
    | (have _ := HG1; go_at_call 13; refine (put_F HS1.out 4).mono ?_; rintro e W2 ⟨rfl, hs, hg2⟩; rw [aw2] at hs ⊢; have HS2 := Aside0.mk hs; have HG2 := Aside0.mk (HG1.out.andThen hg2 (fun j e => by cases e; exact .inl hg)); clear hs hg2)
    | (go_at_call 16; refine (take_F HS0.out (HT.out.keep (below_of_grown HG0.out))).mono ?_; rintro e W1 ⟨rfl, hs, hg1⟩; rw [aw1] at hs ⊢; have HS1 := Aside0.mk hs; have HG1 := Aside0.mk (HG0.out.andThen hg1 (fun j e => by cases e; exact .inl hg)); clear hs hg1)
    | (go_at_call 8; refine (new_good 3 2 _ (by omega) (by omega)).mono ?_; rintro e W0 ⟨g, hg, rfl, hs, hg0⟩; have HS0 := Aside0.mk hs; have HG0 := Aside0.mk hg0; clear hs hg0))
  go_ret
  exact ⟨rfl, HG4.out⟩
/-! What a set that is not there, or that nobody made, answers. -/
def Bad (v : Value) (w : World) : Prop := v = .pointer none ∨ ∃ g, v = .pointer (some ⟨g, 0, none⟩) ∧ SetB w g false (List.replicate 16 0)
theorem asked_bad {v : Value} {w : World} (h : Bad v w) (n : Int) : Calls Tryd.prog 22 #[v, .int .i64 n] w fun e W' => e = .returned (.int .i64 1) ∧ W' = w := by
  rcases h with rfl | ⟨g, rfl, h⟩
  · exact asked_nil n w
  · exact asked_unmade g n w h.cell0
theorem take_bad {v : Value} {w : World} (h : Bad v w) : Calls Tryd.prog 16 #[v] w fun e W' => e = .returned (.tuple #[.int .i64 0, .int .i64 1]) ∧ W' = w := by
  have H := Aside0.mk h
  clear h
  go_enter Tryd.func16, Tryd.ntmps16
  go_wp2_with (go_at_call 22; refine (asked_bad H.out 0).mono ?_; rintro e W' ⟨rfl, hw⟩; rw [hw]; clear hw)
  go_ret2
  exact ⟨rfl, rfl⟩
theorem put_bad {v : Value} {w : World} (h : Bad v w) (n : Int) : Calls Tryd.prog 13 #[v, .int .i64 n] w fun e W' => e = .returned (.int .i64 1) ∧ W' = w := by
  have H := Aside0.mk h
  clear h
  go_enter Tryd.func13, Tryd.ntmps13
  go_wp2_with (go_at_call 22; refine (asked_bad H.out n).mono ?_; rintro e W' ⟨rfl, hw⟩; rw [hw]; clear hw)
  go_ret
  exact ⟨rfl, rfl⟩
theorem drop_bad {v : Value} {w : World} (h : Bad v w) (n : Int) : Calls Tryd.prog 12 #[v, .int .i64 n] w fun e W' => e = .returned (.int .i64 1) ∧ W' = w := by
  have H := Aside0.mk h
  clear h
  go_enter Tryd.func12, Tryd.ntmps12
  go_wp2_with (go_at_call 22; refine (asked_bad H.out n).mono ?_; rintro e W' ⟨rfl, hw⟩; rw [hw]; clear hw)
  go_ret
  exact ⟨rfl, rfl⟩
theorem has_bad {v : Value} {w : World} (h : Bad v w) (n : Int) : Calls Tryd.prog 10 #[v, .int .i64 n] w fun e W' => e = .returned (.bool false) ∧ W' = w := by
  have H := Aside0.mk h
  clear h
  go_enter Tryd.func10, Tryd.ntmps10
  go_wp2_with (go_at_call 22; refine (asked_bad H.out n).mono ?_; rintro e W' ⟨rfl, hw⟩; rw [hw]; clear hw)
  go_ret
  exact ⟨rfl, rfl⟩
theorem cnt_flip (f : Nat → Bool) (k : Nat) : ∀ N, cntF (flipF f k) N + (if k < N ∧ f k = true then 1 else 0) = cntF f N + (if k < N ∧ f k = false then 1 else 0)
  | 0 => by simp [cntF]
  | N + 1 => by
    have ih := cnt_flip f k N
    have e1 : ∀ g : Nat → Bool, cntF g (N + 1) = cntF g N + (if g N = true then 1 else 0) := fun g => by
      unfold cntF; rw [List.range_succ, List.countP_append]; simp [List.countP_cons]
    rw [e1, e1]
    by_cases e : N = k
    · subst e
      have h1 : flipF f N N = !f N := by unfold flipF; rw [if_pos rfl]
      rw [h1]
      cases f N <;> simp at ih ⊢ <;> omega
    · have h1 : flipF f k N = f N := by unfold flipF; rw [if_neg e]
      rw [h1]
      have h2 : (k < N + 1) ↔ k < N := by omega
      simp only [h2]
      omega
theorem cnt_put {f : Nat → Bool} {k N : Nat} (h : k < N) (hf : f k = false) : cntF (flipF f k) N = cntF f N + 1 := by
  have := cnt_flip f k N
  rw [if_neg (by rw [hf]; simp), if_pos ⟨h, hf⟩] at this; omega
theorem cnt_drop {f : Nat → Bool} {k N : Nat} (h : k < N) (hf : f k = true) : cntF (flipF f k) N + 1 = cntF f N := by
  have := cnt_flip f k N
  rw [if_pos ⟨h, hf⟩, if_neg (by rw [hf]; simp)] at this; omega
theorem cnt_span (a : Nat) : ∀ b, a + b ≤ 1024 → cntF (spanF a b) 1024 = b
  | 0, _ => by
    unfold cntF
    refine List.countP_eq_zero.2 (fun x _ => ?_)
    unfold spanF
    rw [decide_eq_false (by omega)]; simp
  | b + 1, h => by
    rw [← flip_span, cnt_put (by omega) (by unfold spanF; exact decide_eq_false (by omega)), cnt_span a b (by omega)]
theorem flip_flip (f : Nat → Bool) (k : Nat) : flipF (flipF f k) k = f := by
  funext m
  unfold flipF
  by_cases e : m = k
  · subst e; simp
  · simp [e]
theorem flip_at (f : Nat → Bool) (k : Nat) : flipF f k k = !f k := by unfold flipF; rw [if_pos rfl]
set_option maxRecDepth 100000 in
set_option maxHeartbeats 8000000 in
/-- PickSpan. -/
theorem span_calls (a b n : Int) (w : World) (hT : TabD w) : Calls Tryd.prog 3 #[.int .i64 a, .int .i64 b, .int .i64 n] w fun e W' => e = .returned (.bool true) ∧ Below w.heap.size w W' := by
  refine Calls.mono (R := fun e W' => e = .returned (.bool true) ∧ w.grownBy W' none) ?_ (fun e W' h => ⟨h.1, below_of_grown h.2⟩)
  have HT := Aside0.mk hT
  have HGr := Aside0.mk (World.grownBy.refl w none)
  clear hT
  by_cases hbad : a < 0 ∨ 1024 ≤ a ∨ b < 0 ∨ 1024 - a < b
  · go_enter Tryd.func3, Tryd.ntmps3
    go_wp2_with (first
      | (go_at_call 8; refine (new_bad a b _ hbad).mono ?_; rintro e W' ⟨rfl, hw⟩; rw [hw]; clear hw)
      | (go_at_call 9; refine (awake_calls _ (HT.out.keep (below_of_grown HGr.out))).mono ?_; rintro e W9 ⟨rfl, hg9⟩; have HG9 := Aside0.mk (HGr.out.trans hg9); clear hg9))
    go_ret
    exact ⟨rfl, HG9.out⟩
  · obtain ⟨a, rfl⟩ := Int.eq_ofNat_of_zero_le (show 0 ≤ a by omega)
    obtain ⟨b, rfl⟩ := Int.eq_ofNat_of_zero_le (show 0 ≤ b by omega)
    have hab : a < 1024 ∧ b ≤ 1024 - a := by omega
    have hwab : IntKind.i64.wrap ((a : Int) + (b : Int)) = (a : Int) + (b : Int) := (IntWalk.i64_left _).trans (IntWalk.wrap64_in _ (by omega))
    have hwb : IntKind.i64.wrap ((b : Int) + 1) = (b : Int) + 1 := (IntWalk.i64_left _).trans (IntWalk.wrap64_in _ (by omega))
    have HL := Aside0.mk (cnt_span a b (by omega))
    by_cases hn : n < 0 ∨ 1024 ≤ n
    · have HH := Aside0.mk (show hasI (spanF a b) n = false by unfold hasI; rw [decide_eq_false (by omega)]; rfl)
      have HD := Aside0.mk (show dropF (spanF a b) n = (2, spanF a b) by unfold dropF; rw [if_pos hn])
      have HP := Aside0.mk (show putF (spanF a b) n = (2, spanF a b) by unfold putF; rw [if_pos hn])
      rcases hn with hn | hn
      · have hin : decide ((a : Int) ≤ n) = false := decide_eq_false (by omega)
        clear hbad
        go_enter Tryd.func3, Tryd.ntmps3
        go_wp2_with (first
      | (go_at_call 9; refine (awake_calls _ (HT.out.keep (below_of_grown HG3.out))).mono ?_; rintro e W9 ⟨rfl, hg9⟩; have HG9 := Aside0.mk (HG3.out.trans hg9); clear hg9)
      | (have _ := HG2; go_at_call 13; refine (put_F HS2.out n).mono ?_; rintro e W3 ⟨rfl, hs, hg'⟩; rw [HP.out] at hs ⊢; have HS3 := Aside0.mk hs; have HG3 := Aside0.mk (HG2.out.andThen hg' (fun j e => by cases e; exact .inl hg)); clear hs hg')
      | (have _ := HG1; go_at_call 12; refine (drop_F HS1.out n).mono ?_; rintro e W2 ⟨rfl, hs, hg'⟩; rw [HD.out] at hs ⊢; have HS2 := Aside0.mk hs; have HG2 := Aside0.mk (HG1.out.andThen hg' (fun j e => by cases e; exact .inl hg)); clear hs hg')
      | (have _ := HG0; go_at_call 11; refine (len_F HS0.out).mono ?_; rintro e W1 ⟨rfl, hg'⟩; rw [HL.out]; have HS1 := Aside0.mk (HS0.out.grown hg' (by simp)); have HG1 := Aside0.mk (HG0.out.trans hg'); clear hg')
      | (have _ := HG0; go_at_call 10; refine (has_F HS0.out n).mono ?_; rintro e W' ⟨rfl, hw⟩; rw [hw, HH.out]; clear hw)
      | (go_at_call 8; refine (new_good a b _ (by omega) (by omega)).mono ?_; rintro e W0 ⟨g, hg, rfl, hs, hg0⟩; have HS0 := Aside0.mk hs; have HG0 := Aside0.mk hg0; clear hs hg0))
        go_ret
        exact ⟨rfl, HG9.out⟩
      · have hin : decide ((a : Int) ≤ n) = true := decide_eq_true (by omega)
        have hin2 : decide (n < (a : Int) + (b : Int)) = false := decide_eq_false (by omega)
        have hn0 : decide (n < 0) = false := decide_eq_false (by omega)
        clear hbad
        go_enter Tryd.func3, Tryd.ntmps3
        go_wp2_with (first
      | (go_at_call 9; refine (awake_calls _ (HT.out.keep (below_of_grown HG3.out))).mono ?_; rintro e W9 ⟨rfl, hg9⟩; have HG9 := Aside0.mk (HG3.out.trans hg9); clear hg9)
      | (have _ := HG2; go_at_call 13; refine (put_F HS2.out n).mono ?_; rintro e W3 ⟨rfl, hs, hg'⟩; rw [HP.out] at hs ⊢; have HS3 := Aside0.mk hs; have HG3 := Aside0.mk (HG2.out.andThen hg' (fun j e => by cases e; exact .inl hg)); clear hs hg')
      | (have _ := HG1; go_at_call 12; refine (drop_F HS1.out n).mono ?_; rintro e W2 ⟨rfl, hs, hg'⟩; rw [HD.out] at hs ⊢; have HS2 := Aside0.mk hs; have HG2 := Aside0.mk (HG1.out.andThen hg' (fun j e => by cases e; exact .inl hg)); clear hs hg')
      | (have _ := HG0; go_at_call 11; refine (len_F HS0.out).mono ?_; rintro e W1 ⟨rfl, hg'⟩; rw [HL.out]; have HS1 := Aside0.mk (HS0.out.grown hg' (by simp)); have HG1 := Aside0.mk (HG0.out.trans hg'); clear hg')
      | (have _ := HG0; go_at_call 10; refine (has_F HS0.out n).mono ?_; rintro e W' ⟨rfl, hw⟩; rw [hw, HH.out]; clear hw)
      | (go_at_call 8; refine (new_good a b _ (by omega) (by omega)).mono ?_; rintro e W0 ⟨g, hg, rfl, hs, hg0⟩; have HS0 := Aside0.mk hs; have HG0 := Aside0.mk hg0; clear hs hg0))
        go_ret
        exact ⟨rfl, HG9.out⟩
    · obtain ⟨k, rfl⟩ := Int.eq_ofNat_of_zero_le (show 0 ≤ n by omega)
      have hk : k < 1024 := by omega
      have hkd : decide (0 ≤ (k : Int) ∧ (k : Int) < 1024) = true := decide_eq_true (by omega)
      have hn0 : decide ((k : Int) < 0) = false := decide_eq_false (by omega)
      have hn1 : decide (1024 ≤ (k : Int)) = false := decide_eq_false (by omega)
      by_cases hin : a ≤ k ∧ k < a + b
      · have hfk : spanF a b k = true := decide_eq_true hin
        have HH := Aside0.mk (show hasI (spanF a b) (k : Int) = true by unfold hasI; rw [hkd, Int.toNat_natCast, hfk]; rfl)
        have HD := Aside0.mk (show dropF (spanF a b) (k : Int) = (0, flipF (spanF a b) k) by unfold dropF; rw [if_neg hn, Int.toNat_natCast, hfk]; rfl)
        have HP := Aside0.mk (show putF (flipF (spanF a b) k) (k : Int) = (0, spanF a b) by unfold putF; rw [if_neg hn, Int.toNat_natCast, flip_at, hfk, flip_flip]; rfl)
        have q1 : decide ((a : Int) ≤ (k : Int)) = true := decide_eq_true (by omega)
        have q2 : decide ((k : Int) < (a : Int) + (b : Int)) = true := decide_eq_true (by omega)
        have i1 : a ≤ k := hin.1
        have i2 : decide (k < a + b) = true := decide_eq_true hin.2
        clear hbad hn hin hfk hkd
        go_enter Tryd.func3, Tryd.ntmps3
        go_wp2_with (first
      | (go_at_call 9; refine (awake_calls _ (HT.out.keep (below_of_grown HG4.out))).mono ?_; rintro e W9 ⟨rfl, hg9⟩; have HG9 := Aside0.mk (HG4.out.trans hg9); clear hg9)
      | (have _ := HG4; go_at_call 10; refine (has_F HS4.out (k : Int)).mono ?_; rintro e W' ⟨rfl, hw⟩; rw [hw, HH.out]; clear hw)
      | (have _ := HG3; go_at_call 11; refine (len_F HS3.out).mono ?_; rintro e W4 ⟨rfl, hg'⟩; rw [HL.out]; have HS4 := Aside0.mk (HS3.out.grown hg' (by simp)); have HG4 := Aside0.mk (HG3.out.trans hg'); clear hg')
      | (have _ := HG2; go_at_call 13; refine (put_F HS2.out (k : Int)).mono ?_; rintro e W3 ⟨rfl, hs, hg'⟩; rw [HP.out] at hs ⊢; have HS3 := Aside0.mk hs; have HG3 := Aside0.mk (HG2.out.andThen hg' (fun j e => by cases e; exact .inl hg)); clear hs hg')
      | (have _ := HG1; go_at_call 12; refine (drop_F HS1.out (k : Int)).mono ?_; rintro e W2 ⟨rfl, hs, hg'⟩; rw [HD.out] at hs ⊢; have HS2 := Aside0.mk hs; have HG2 := Aside0.mk (HG1.out.andThen hg' (fun j e => by cases e; exact .inl hg)); clear hs hg')
      | (have _ := HG0; go_at_call 11; refine (len_F HS0.out).mono ?_; rintro e W1 ⟨rfl, hg'⟩; rw [HL.out]; have HS1 := Aside0.mk (HS0.out.grown hg' (by simp)); have HG1 := Aside0.mk (HG0.out.trans hg'); clear hg')
      | (have _ := HG0; go_at_call 10; refine (has_F HS0.out (k : Int)).mono ?_; rintro e W' ⟨rfl, hw⟩; rw [hw, HH.out]; clear hw)
      | (go_at_call 8; refine (new_good a b _ (by omega) (by omega)).mono ?_; rintro e W0 ⟨g, hg, rfl, hs, hg0⟩; have HS0 := Aside0.mk hs; have HG0 := Aside0.mk hg0; clear hs hg0))
        go_ret
        exact ⟨rfl, HG9.out⟩
      · have hfk : spanF a b k = false := decide_eq_false hin
        have HH := Aside0.mk (show hasI (spanF a b) (k : Int) = false by unfold hasI; rw [hkd, Int.toNat_natCast, hfk]; rfl)
        have HD := Aside0.mk (show dropF (spanF a b) (k : Int) = (4, spanF a b) by unfold dropF; rw [if_neg hn, Int.toNat_natCast, hfk]; rfl)
        have HP := Aside0.mk (show putF (spanF a b) (k : Int) = (0, flipF (spanF a b) k) by unfold putF; rw [if_neg hn, Int.toNat_natCast, hfk]; rfl)
        have HL2 := Aside0.mk (show cntF (flipF (spanF a b) k) 1024 = b + 1 by rw [cnt_put hk hfk, HL.out])
        have HH2 := Aside0.mk (show hasI (flipF (spanF a b) k) (k : Int) = true by unfold hasI; rw [hkd, Int.toNat_natCast, flip_at, hfk]; rfl)
        have hwb2 : (((b + 1 : Nat) : Int) == (b : Int) + 1) = true := by simp
        by_cases hlow : a ≤ k
        · have q1 : decide ((a : Int) ≤ (k : Int)) = true := decide_eq_true (by omega)
          have q2 : decide ((k : Int) < (a : Int) + (b : Int)) = false := decide_eq_false (by omega)
          have i2 : decide (k < a + b) = false := decide_eq_false (by omega)
          clear hbad hn hin hfk hkd
          go_enter Tryd.func3, Tryd.ntmps3
          go_wp2_with (first
      | (go_at_call 9; refine (awake_calls _ (HT.out.keep (below_of_grown HG4.out))).mono ?_; rintro e W9 ⟨rfl, hg9⟩; have HG9 := Aside0.mk (HG4.out.trans hg9); clear hg9)
      | (have _ := HG4; go_at_call 10; refine (has_F HS4.out (k : Int)).mono ?_; rintro e W' ⟨rfl, hw⟩; rw [hw, HH2.out]; clear hw)
      | (have _ := HG3; go_at_call 11; refine (len_F HS3.out).mono ?_; rintro e W4 ⟨rfl, hg'⟩; rw [HL2.out]; have HS4 := Aside0.mk (HS3.out.grown hg' (by simp)); have HG4 := Aside0.mk (HG3.out.trans hg'); clear hg')
      | (have _ := HG2; go_at_call 13; refine (put_F HS2.out (k : Int)).mono ?_; rintro e W3 ⟨rfl, hs, hg'⟩; rw [HP.out] at hs ⊢; have HS3 := Aside0.mk hs; have HG3 := Aside0.mk (HG2.out.andThen hg' (fun j e => by cases e; exact .inl hg)); clear hs hg')
      | (have _ := HG1; go_at_call 12; refine (drop_F HS1.out (k : Int)).mono ?_; rintro e W2 ⟨rfl, hs, hg'⟩; rw [HD.out] at hs ⊢; have HS2 := Aside0.mk hs; have HG2 := Aside0.mk (HG1.out.andThen hg' (fun j e => by cases e; exact .inl hg)); clear hs hg')
      | (have _ := HG0; go_at_call 11; refine (len_F HS0.out).mono ?_; rintro e W1 ⟨rfl, hg'⟩; rw [HL.out]; have HS1 := Aside0.mk (HS0.out.grown hg' (by simp)); have HG1 := Aside0.mk (HG0.out.trans hg'); clear hg')
      | (have _ := HG0; go_at_call 10; refine (has_F HS0.out (k : Int)).mono ?_; rintro e W' ⟨rfl, hw⟩; rw [hw, HH.out]; clear hw)
      | (go_at_call 8; refine (new_good a b _ (by omega) (by omega)).mono ?_; rintro e W0 ⟨g, hg, rfl, hs, hg0⟩; have HS0 := Aside0.mk hs; have HG0 := Aside0.mk hg0; clear hs hg0))
          go_ret
          exact ⟨rfl, HG9.out⟩
        · have q1 : decide ((a : Int) ≤ (k : Int)) = false := decide_eq_false (by omega)
          clear hbad hn hin hfk hkd
          go_enter Tryd.func3, Tryd.ntmps3
          go_wp2_with (first
      | (go_at_call 9; refine (awake_calls _ (HT.out.keep (below_of_grown HG4.out))).mono ?_; rintro e W9 ⟨rfl, hg9⟩; have HG9 := Aside0.mk (HG4.out.trans hg9); clear hg9)
      | (have _ := HG4; go_at_call 10; refine (has_F HS4.out (k : Int)).mono ?_; rintro e W' ⟨rfl, hw⟩; rw [hw, HH2.out]; clear hw)
      | (have _ := HG3; go_at_call 11; refine (len_F HS3.out).mono ?_; rintro e W4 ⟨rfl, hg'⟩; rw [HL2.out]; have HS4 := Aside0.mk (HS3.out.grown hg' (by simp)); have HG4 := Aside0.mk (HG3.out.trans hg'); clear hg')
      | (have _ := HG2; go_at_call 13; refine (put_F HS2.out (k : Int)).mono ?_; rintro e W3 ⟨rfl, hs, hg'⟩; rw [HP.out] at hs ⊢; have HS3 := Aside0.mk hs; have HG3 := Aside0.mk (HG2.out.andThen hg' (fun j e => by cases e; exact .inl hg)); clear hs hg')
      | (have _ := HG1; go_at_call 12; refine (drop_F HS1.out (k : Int)).mono ?_; rintro e W2 ⟨rfl, hs, hg'⟩; rw [HD.out] at hs ⊢; have HS2 := Aside0.mk hs; have HG2 := Aside0.mk (HG1.out.andThen hg' (fun j e => by cases e; exact .inl hg)); clear hs hg')
      | (have _ := HG0; go_at_call 11; refine (len_F HS0.out).mono ?_; rintro e W1 ⟨rfl, hg'⟩; rw [HL.out]; have HS1 := Aside0.mk (HS0.out.grown hg' (by simp)); have HG1 := Aside0.mk (HG0.out.trans hg'); clear hg')
      | (have _ := HG0; go_at_call 10; refine (has_F HS0.out (k : Int)).mono ?_; rintro e W' ⟨rfl, hw⟩; rw [hw, HH.out]; clear hw)
      | (go_at_call 8; refine (new_good a b _ (by omega) (by omega)).mono ?_; rintro e W0 ⟨g, hg, rfl, hs, hg0⟩; have HS0 := Aside0.mk hs; have HG0 := Aside0.mk hg0; clear hs hg0))
          go_ret
          exact ⟨rfl, HG9.out⟩
/-- PickNone. -/
theorem len_bad {v : Value} {w : World} (h : Bad v w) : Calls Tryd.prog 11 #[v] w fun e W' => e = .returned (.int .i64 0) ∧ w.grownBy W' none := by
  rcases h with rfl | ⟨g, rfl, h⟩
  · go_enter Tryd.func11, Tryd.ntmps11
    go_wp2
    go_ret
    exact ⟨rfl, World.grownBy.refl _ _⟩
  · have hz := zero_set w g h.1
    have e0 : cntF (fun _ => false) 1024 = 0 := by kernel_rfl
    refine (len_F hz).mono ?_
    rintro e W' ⟨rfl, hg⟩
    rw [e0]
    exact ⟨rfl, hg⟩
theorem all_bad {v : Value} {w : World} (h : Bad v w) (hT : TabD w) : Calls Tryd.prog 14 #[v] w fun e W' => (∃ A c, e = .returned (.slice A 0 c)) ∧ w.grownBy W' none := by
  rcases h with rfl | ⟨g, rfl, h⟩
  · clear hT
    go_enter Tryd.func14, Tryd.ntmps14
    go_wp2
    go_ret
    exact ⟨⟨_, _, rfl⟩, World.grownBy.refl _ _⟩
  · have hz := zero_set w g h.1
    have e0 : listN (fun _ => false) 1024 = [] := by kernel_rfl
    refine (all_F hz hT).mono ?_
    rintro e W' ⟨v, rfl, hR, hg⟩
    rw [e0] at hR
    obtain ⟨A, c, rfl, _, _⟩ := Kd.R_reads hR
    exact ⟨⟨A, c, rfl⟩, hg⟩
theorem Bad.keep {v : Value} {w W : World} (h : Bad v w) (hg : w.grownBy W none) : Bad v W := by
  rcases h with rfl | ⟨g, rfl, h⟩
  · exact .inl rfl
  · exact .inr ⟨g, rfl, h.grown hg (by simp)⟩
set_option maxRecDepth 100000 in
set_option maxHeartbeats 8000000 in
theorem none_calls (n : Int) (w : World) (hT : TabD w) : Calls Tryd.prog 6 #[.int .i64 n] w fun e W' => e = .returned (.bool true) ∧ Below w.heap.size w W' := by
  refine Calls.mono (R := fun e W' => e = .returned (.bool true) ∧ w.grownBy W' none) ?_ (fun e W' h => ⟨h.1, below_of_grown h.2⟩)
  have HT := Aside0.mk hT
  clear hT
  go_enter Tryd.func6, Tryd.ntmps6
  go_wp2
  obtain ⟨w0, hw0⟩ : ∃ w0, w0 = w.alloc (.cells #[.bool false, .int .u64 0, .int .u64 0, .int .u64 0, .int .u64 0, .int .u64 0, .int .u64 0, .int .u64 0, .int .u64 0, .int .u64 0, .int .u64 0, .int .u64 0, .int .u64 0, .int .u64 0, .int .u64 0, .int .u64 0, .int .u64 0] 48) := ⟨_, rfl⟩
  have hG0 : w.grownBy w0 none := by rw [hw0]; exact World.grownBy_alloc w _ none
  have hO : SetB w0 w.heap.size false (List.replicate 16 0) := ⟨by rw [hw0]; exact new_at _ rfl, by simp, fun x hx => by have := List.eq_of_mem_replicate hx; omega⟩
  rw [← hw0]
  have HB0 : Aside0 (Bad (.pointer none) w0) := ⟨.inl rfl⟩
  have HB1 : Aside0 (Bad (.pointer (some ⟨w.heap.size, 0, none⟩)) w0) := ⟨.inr ⟨_, rfl, hO⟩⟩
  have HG0 := Aside0.mk hG0
  clear hG0 hO hw0
  go_loopg [3, 5] 3 (fun kq v3 v5 w' => ∃ i : Int, v5 = .int .i64 i ∧ Aside0 ((i = 0 ∧ v3 = .pointer none ∧ kq = 3) ∨ (i = 1 ∧ kq = 2) ∨ (i = 2 ∧ kq = 1)) ∧ Aside0 (w0.grownBy w' none))
  case atStart => exact ⟨0, rfl, ⟨.inl ⟨rfl, rfl, rfl⟩⟩, ⟨World.grownBy.refl _ _⟩⟩
  case round =>
    obtain ⟨i, rfl, HC, HG⟩ := hrel
    rcases HC.out with ⟨rfl, hv, hk⟩ | ⟨rfl, hk⟩ | ⟨rfl, hk⟩
    · subst hv
      subst hk
      have HBD := HB0
      clear HB0 HC
      go_wp2_with (first
      | (have _ := HG1; go_at_call 14; refine (all_bad (HBD.out.keep HG1.out) (HT.out.keep (below_of_grown (HG0.out.trans HG1.out)))).mono ?_; rintro e W2 ⟨⟨A, c, rfl⟩, hg2⟩; have HG2 := Aside0.mk (HG1.out.trans hg2); clear hg2)
      | (go_at_call 11; refine (len_bad (HBD.out.keep HG.out)).mono ?_; rintro e W1 ⟨rfl, hg1⟩; have HG1 := Aside0.mk (HG.out.trans hg1); clear hg1)
      | (go_at_call 10; refine (has_bad (HBD.out.keep HG.out) n).mono ?_; rintro e W' ⟨rfl, hw⟩; rw [hw]; clear hw)
      | (go_at_call 12; refine (drop_bad (HBD.out.keep HG.out) n).mono ?_; rintro e W' ⟨rfl, hw⟩; rw [hw]; clear hw)
      | (go_at_call 13; refine (put_bad (HBD.out.keep HG.out) n).mono ?_; rintro e W' ⟨rfl, hw⟩; rw [hw]; clear hw)
      | (go_at_call 16; refine (take_bad (HBD.out.keep HG.out)).mono ?_; rintro e W' ⟨rfl, hw⟩; rw [hw]; clear hw))
      go_roundg 2
      case measure => omega
      case rel => exact ⟨1, rfl, ⟨.inr (.inl ⟨rfl, rfl⟩)⟩, HG2⟩
    · subst hk
      have HBD := HB1
      clear HB0 HB1 HC
      go_wp2_with (first
      | (have _ := HG1; go_at_call 14; refine (all_bad (HBD.out.keep HG1.out) (HT.out.keep (below_of_grown (HG0.out.trans HG1.out)))).mono ?_; rintro e W2 ⟨⟨A, c, rfl⟩, hg2⟩; have HG2 := Aside0.mk (HG1.out.trans hg2); clear hg2)
      | (go_at_call 11; refine (len_bad (HBD.out.keep HG.out)).mono ?_; rintro e W1 ⟨rfl, hg1⟩; have HG1 := Aside0.mk (HG.out.trans hg1); clear hg1)
      | (go_at_call 10; refine (has_bad (HBD.out.keep HG.out) n).mono ?_; rintro e W' ⟨rfl, hw⟩; rw [hw]; clear hw)
      | (go_at_call 12; refine (drop_bad (HBD.out.keep HG.out) n).mono ?_; rintro e W' ⟨rfl, hw⟩; rw [hw]; clear hw)
      | (go_at_call 13; refine (put_bad (HBD.out.keep HG.out) n).mono ?_; rintro e W' ⟨rfl, hw⟩; rw [hw]; clear hw)
      | (go_at_call 16; refine (take_bad (HBD.out.keep HG.out)).mono ?_; rintro e W' ⟨rfl, hw⟩; rw [hw]; clear hw))
      go_roundg 1
      case measure => omega
      case rel => exact ⟨2, rfl, ⟨.inr (.inr ⟨rfl, rfl⟩)⟩, HG2⟩
    · have HGw := Aside0.mk (HG0.out.trans HG.out)
      go_wp2_with (go_at_call 9; refine (awake_calls _ (HT.out.keep (below_of_grown HGw.out))).mono ?_; rintro e W9 ⟨rfl, hg9⟩; have HG9 := Aside0.mk (HGw.out.trans hg9); clear hg9)
      go_ret
      exact ⟨rfl, HG9.out⟩
end Go.Proofs.YtiaegandgjgjhaaDoor.PAll
