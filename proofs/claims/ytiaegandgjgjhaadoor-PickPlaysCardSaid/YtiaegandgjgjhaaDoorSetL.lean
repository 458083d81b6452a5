/-
  Len of a set; New.
-/
import Derived.Test.YtiaegandgjgjhaaDoorSetC
namespace Go.Proofs.YtiaegandgjgjhaaDoor.PAll
open Go.RowKit Go.Proofs.YtiaegandgjgjhaaDoorM Go.Proofs.YtiaegandgjgjhaaDoorW.PrintWords Go.Proofs.YtiaegandgjgjhaaDoorW.PrintLast Go.Proofs.YtiaegandgjgjhaaDoorW.PrintMore
set_option linter.unusedVariables false
set_option linter.unusedSimpArgs false
theorem turn_Fi {w : World} {g : Nat} {f : Nat → Bool} (h : SetF w g f) {n : Int} {k : Nat} (e : n = (k : Int)) (hk : k < 1024) :
    Calls Tryd.prog 21 #[.pointer (some ⟨g, 0, none⟩), .int .i64 n] w fun e W' => e = .returned (.tuple #[]) ∧ SetF W' g (flipF f k) ∧ w.grownBy W' (some g) := by
  subst e; exact turn_F h hk
def cntF (f : Nat → Bool) (n : Nat) : Nat := (List.range n).countP f
theorem cnt_block {f : Nat → Bool} {ws : List Nat} (h : ∀ n, n < 1024 → (ws.getD (n / 64) 0).testBit (n % 64) = f n) (i : Nat) (hi : i < 16) : cntF f (64 * (i + 1)) = cntF f (64 * i) + Lib.popAux 64 (ws.getD i 0) := by
  unfold cntF
  rw [show 64 * (i + 1) = 64 * i + 64 by omega, List.range_add, List.countP_append, popAux_count, List.countP_map]
  congr 1
  apply List.countP_congr
  intro j hj
  have hj' := List.mem_range.1 hj
  have := h (64 * i + j) (by omega)
  rw [show (64 * i + j) / 64 = i by omega, show (64 * i + j) % 64 = j by omega] at this
  simp [← this]
theorem cnt_le (f : Nat → Bool) (n : Nat) : cntF f n ≤ n := by
  have := List.countP_le_length (p := f) (l := List.range n)
  rw [List.length_range] at this; exact this
theorem agg16 {w : World} {g : Nat} {made : Bool} {ws : List Nat} (h : SetB w g made ws) : ∀ i : Nat, i < 16 → w.cell? ⟨g, 1 + i, none⟩ = some (.int .u64 ((ws.getD i 0 : Nat) : Int)) := fun i hi => h.cellw hi
theorem idx (AG : Array Value) (i : Nat) (v : Value) (hi : i < 16) (h : AG[i]? = some v) (W : World) : (Instr.index 46 (.agg AG) (.int .i64 (i : Int))).run Tryd.prog W = .ok v W := by
  simp [Instr.index, run_underlying Tryd.underlying46, asIntOf, hi, part, h]
set_option maxRecDepth 100000 in
set_option maxHeartbeats 4000000 in
theorem len_F {w : World} {g : Nat} {made : Bool} {f : Nat → Bool} (h : SetG w g made f) :
    Calls Tryd.prog 11 #[.pointer (some ⟨g, 0, none⟩)] w fun e W' => e = .returned (.int .i64 ((cntF f 1024 : Nat) : Int)) ∧ w.grownBy W' none := by
  obtain ⟨ws, h1, h2⟩ := h
  have HH := Aside0.mk (And.intro h1 h2)
  have c0 := h1.cellw (i := 0) (by omega); have c1 := h1.cellw (i := 1) (by omega); have c2 := h1.cellw (i := 2) (by omega); have c3 := h1.cellw (i := 3) (by omega)
  have c4 := h1.cellw (i := 4) (by omega); have c5 := h1.cellw (i := 5) (by omega); have c6 := h1.cellw (i := 6) (by omega); have c7 := h1.cellw (i := 7) (by omega)
  have c8 := h1.cellw (i := 8) (by omega); have c9 := h1.cellw (i := 9) (by omega); have c10 := h1.cellw (i := 10) (by omega); have c11 := h1.cellw (i := 11) (by omega)
  have c12 := h1.cellw (i := 12) (by omega); have c13 := h1.cellw (i := 13) (by omega); have c14 := h1.cellw (i := 14) (by omega); have c15 := h1.cellw (i := 15) (by omega)
  simp only [Nat.reduceAdd, Nat.add_zero] at c0 c1 c2 c3 c4 c5 c6 c7 c8 c9 c10 c11 c12 c13 c14 c15
  clear h1 h2
  go_enter Tryd.func11, Tryd.ntmps11
  go_wp2
  obtain ⟨AG, hAG⟩ : ∃ AG, AG = #[Value.int .u64 ((ws[0]?.getD 0 : Nat) : Int), Value.int .u64 ((ws[1]?.getD 0 : Nat) : Int), Value.int .u64 ((ws[2]?.getD 0 : Nat) : Int), Value.int .u64 ((ws[3]?.getD 0 : Nat) : Int), Value.int .u64 ((ws[4]?.getD 0 : Nat) : Int), Value.int .u64 ((ws[5]?.getD 0 : Nat) : Int), Value.int .u64 ((ws[6]?.getD 0 : Nat) : Int), Value.int .u64 ((ws[7]?.getD 0 : Nat) : Int), Value.int .u64 ((ws[8]?.getD 0 : Nat) : Int), Value.int .u64 ((ws[9]?.getD 0 : Nat) : Int), Value.int .u64 ((ws[10]?.getD 0 : Nat) : Int), Value.int .u64 ((ws[11]?.getD 0 : Nat) : Int), Value.int .u64 ((ws[12]?.getD 0 : Nat) : Int), Value.int .u64 ((ws[13]?.getD 0 : Nat) : Int), Value.int .u64 ((ws[14]?.getD 0 : Nat) : Int), Value.int .u64 ((ws[15]?.getD 0 : Nat) : Int)] := ⟨_, rfl⟩
  rw [← hAG]
  have hA : ∀ i : Nat, i < 16 → AG[i]? = some (.int .u64 ((ws.getD i 0 : Nat) : Int)) := fun i hi => by
    rw [hAG]
    simp only [List.getD_eq_getElem?_getD]
    rcases (show i = 0 ∨ i = 1 ∨ i = 2 ∨ i = 3 ∨ i = 4 ∨ i = 5 ∨ i = 6 ∨ i = 7 ∨ i = 8 ∨ i = 9 ∨ i = 10 ∨ i = 11 ∨ i = 12 ∨ i = 13 ∨ i = 14 ∨ i = 15 by omega) with rfl | rfl | rfl | rfl | rfl | rfl | rfl | rfl | rfl | rfl | rfl | rfl | rfl | rfl | rfl | rfl <;> rfl
  have hAs : AG.size = 16 := by rw [hAG]; rfl
  have HA := Aside0.mk hA
  have HAs := Aside0.mk hAs
  clear hAG hA hAs c0 c1 c2 c3 c4 c5 c6 c7 c8 c9 c10 c11 c12 c13 c14 c15
  go_loopg [3, 12] 17 (fun kq v3 v12 w' => ∃ (i c : Nat), v3 = .int .i64 (c : Int) ∧ v12 = .int .i64 (i : Int) ∧ Aside0 (c = cntF f (64 * i) ∧ i + kq = 17 ∧ i ≤ 16) ∧ Aside0 (w.grownBy w' none))
  case atStart => exact ⟨0, 0, rfl, rfl, ⟨⟨rfl, rfl, by omega⟩⟩, ⟨World.grownBy.refl _ _⟩⟩
  case round =>
    obtain ⟨i, c, rfl, rfl, HC, HG⟩ := hrel
    by_cases hi : i < 16
    · have hii : (i : Int) < 16 := by omega
      have hidx := fun W => idx AG i _ hi (HA.out i hi) W
      obtain ⟨x, hx⟩ : ∃ x : Nat, x = ws.getD i 0 := ⟨_, rfl⟩
      rw [← hx] at hidx
      obtain ⟨p, hp⟩ : ∃ p : Nat, p = Lib.popAux 64 x := ⟨_, rfl⟩
      have hxl : x < 18446744073709551616 := by rw [hx]; exact HH.out.1.word i
      have hon : bits_OnesCount64.f (x : Int) = some (p : Int) := by rw [hp]; exact ones64 x hxl
      have hc2 : c + p = cntF f (64 * (i + 1)) := by rw [cnt_block HH.out.2 i hi, HC.out.1, hp, hx]
      have hle : c + p ≤ 1024 := by rw [hc2]; exact Nat.le_trans (cnt_le f _) (by omega)
      have hw1 : IntKind.i64.wrap ((c : Int) + (p : Int)) = ((c + p : Nat) : Int) := (IntWalk.i64_left _).trans ((IntWalk.wrap64_in _ (by omega)).trans (by omega))
      have hw2 : IntKind.i64.wrap ((i : Int) + 1) = ((i + 1 : Nat) : Int) := (IntWalk.i64_left _).trans ((IntWalk.wrap64_in _ (by omega)).trans (by omega))
      have HK := Aside0.mk (And.intro hc2 hon)
      clear hx hp hc2 hon
      obtain ⟨k1, rfl⟩ : ∃ k1, gk = k1 + 1 := ⟨gk - 1, by have := HC.out.2; omega⟩
      go_wp2_with (go_at_call 23; refine (bits_OnesCount64.calls (x : Int) (p : Int) _ HK.out.2).mono ?_; rintro e W' ⟨rfl, hd⟩; have HG2 := Aside0.mk (HG.out.trans (gb_drawn hd)); clear hd)
      go_roundg k1
      case measure => omega
      case rel => exact ⟨i + 1, c + p, by first | rfl | simp, by first | rfl | simp, ⟨⟨HK.out.1, by have := HC.out.2; omega, by omega⟩⟩, HG2⟩
    · have hii : ¬ (i : Int) < 16 := by omega
      have hi16 : i = 16 := by have := HC.out.2; omega
      go_wp2
      go_ret
      refine ⟨?_, HG.out⟩
      have := HC.out.1
      rw [hi16] at this
      simp [this]
/-- New: a bad range; a good one. -/
theorem new_bad (a b : Int) (w : World) (h : a < 0 ∨ 1024 ≤ a ∨ b < 0 ∨ 1024 - a < b) : Calls Tryd.prog 8 #[.int .i64 a, .int .i64 b] w fun e W' => e = .returned (.tuple #[.pointer none, .int .i64 2]) ∧ W' = w := by
  by_cases h1 : a < 0
  · go_enter Tryd.func8, Tryd.ntmps8
    go_wp2
    go_ret2
    exact ⟨rfl, rfl⟩
  · by_cases h2 : 1024 ≤ a
    · go_enter Tryd.func8, Tryd.ntmps8
      go_wp2
      go_ret2
      exact ⟨rfl, rfl⟩
    · by_cases h3 : b < 0
      · go_enter Tryd.func8, Tryd.ntmps8
        go_wp2
        go_ret2
        exact ⟨rfl, rfl⟩
      · have h4 : 1024 - a < b := by omega
        have hw : IntKind.i64.wrap (1024 - a) = 1024 - a := (IntWalk.i64_left _).trans (IntWalk.wrap64_in _ (by omega))
        go_enter Tryd.func8, Tryd.ntmps8
        go_wp2
        go_ret2
        exact ⟨rfl, rfl⟩
def spanF (a b : Nat) : Nat → Bool := fun n => decide (a ≤ n ∧ n < a + b)
theorem flip_span (a b : Nat) : flipF (spanF a b) (a + b) = spanF a (b + 1) := by
  funext m
  unfold flipF spanF
  by_cases e : m = a + b
  · subst e; simp
  · rw [if_neg e]
    have : (a ≤ m ∧ m < a + b) ↔ (a ≤ m ∧ m < a + (b + 1)) := by omega
    simp only [this]
theorem zero_set (W : World) (g : Nat) {made : Bool} (h : W.heap[g]? = some (.cells (sc made (List.replicate 16 0)) 48 (0, 0))) : SetG W g made (fun _ => false) := by
  refine ⟨List.replicate 16 0, ⟨h, by simp, fun x hx => by have := List.eq_of_mem_replicate hx; omega⟩, fun n hn => ?_⟩
  have e : (List.replicate 16 0).getD (n / 64) 0 = 0 := by
    rw [List.getD_eq_getElem?_getD, List.getElem?_replicate]; split <;> rfl
  rw [e]; simp
set_option maxRecDepth 100000 in
set_option maxHeartbeats 4000000 in
theorem new_good (a b : Nat) (w : World) (ha : a < 1024) (hb : b ≤ 1024 - a) : Calls Tryd.prog 8 #[.int .i64 (a : Int), .int .i64 (b : Int)] w fun e W' => ∃ g, w.heap.size ≤ g ∧ e = .returned (.tuple #[.pointer (some ⟨g, 0, none⟩), .int .i64 0]) ∧ SetF W' g (spanF a b) ∧ w.grownBy W' none := by
  have hw : IntKind.i64.wrap (1024 - (a : Int)) = 1024 - (a : Int) := (IntWalk.i64_left _).trans (IntWalk.wrap64_in _ (by omega))
  have h1 : ¬ (1024 : Int) ≤ (a : Int) := by omega
  have h2 : ¬ 1024 - (a : Int) < (b : Int) := by omega
  go_enter Tryd.func8, Tryd.ntmps8
  go_wp2
  have HS0 := Aside0.mk (show SetF (w.alloc (.cells #[.bool true, .int .u64 0, .int .u64 0, .int .u64 0, .int .u64 0, .int .u64 0, .int .u64 0, .int .u64 0, .int .u64 0, .int .u64 0, .int .u64 0, .int .u64 0, .int .u64 0, .int .u64 0, .int .u64 0, .int .u64 0, .int .u64 0] 48)) w.heap.size (spanF a 0) by
    have h := zero_set (made := true) _ w.heap.size (new_at (W := w) (.cells #[.bool true, .int .u64 0, .int .u64 0, .int .u64 0, .int .u64 0, .int .u64 0, .int .u64 0, .int .u64 0, .int .u64 0, .int .u64 0, .int .u64 0, .int .u64 0, .int .u64 0, .int .u64 0, .int .u64 0, .int .u64 0, .int .u64 0] 48) rfl)
    have e : spanF a 0 = fun _ => false := by funext m; unfold spanF; exact decide_eq_false (by omega)
    rw [e]; exact h)
  go_loopg [27] (b + 1) (fun kq v27 w' => ∃ i : Nat, v27 = .int .i64 (i : Int) ∧ Aside0 (i ≤ b ∧ i + kq = b + 1) ∧ Aside0 (SetF w' w.heap.size (spanF a i)) ∧ Aside0 (w.grownBy w' none))
  case atStart => exact ⟨0, rfl, ⟨⟨Nat.zero_le _, by omega⟩⟩, HS0, ⟨World.grownBy_alloc w _ none⟩⟩
  case round =>
    clear HS0
    obtain ⟨i, rfl, HN, HS, HG⟩ := hrel
    by_cases hi : i < b
    · have hii : (i : Int) < (b : Int) := by omega
      have hw1 : IntKind.i64.wrap ((a : Int) + (i : Int)) = ((a + i : Nat) : Int) := (IntWalk.i64_left _).trans ((IntWalk.wrap64_in _ (by omega)).trans (by omega))
      have hw2 : IntKind.i64.wrap ((i : Int) + 1) = ((i + 1 : Nat) : Int) := (IntWalk.i64_left _).trans ((IntWalk.wrap64_in _ (by omega)).trans (by omega))
      obtain ⟨k1, rfl⟩ : ∃ k1, gk = k1 + 1 := ⟨gk - 1, by have := HN.out.2; omega⟩
      go_wp2_with (go_at_call 21; go_loud (refine (turn_Fi HS.out (n := (a : Int) + (i : Int)) (k := a + i) (by omega) (by omega)).mono ?_); rintro e W' ⟨rfl, hs, hg⟩; rw [flip_span] at hs; have HS2 := Aside0.mk hs; have HG2 := Aside0.mk (HG.out.andThen hg (fun j e => by cases e; exact .inl (Nat.le_refl _))); clear hs hg)
      go_roundg k1
      case measure => omega
      case rel => exact ⟨i + 1, by first | rfl | simp, ⟨by have := HN.out; omega⟩, HS2, HG2⟩
    · have hii : ¬ (i : Int) < (b : Int) := by omega
      have hib : i = b := by have := HN.out; omega
      go_wp2
      go_ret2
      exact ⟨_, Nat.le_refl _, rfl, by rw [hib] at HS; exact HS.out, HG.out⟩
end Go.Proofs.YtiaegandgjgjhaaDoor.PAll
