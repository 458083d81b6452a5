/-
  The set's contracts, by membership.
-/
import Derived.Test.YtiaegandgjgjhaaDoorSetM
import Derived.Test.YtiaegandgjgjhaaDoorBitp
import Derived.IntWalk
import Derived.Maps.Range
namespace Go.Proofs.YtiaegandgjgjhaaDoor.PAll
open Go.RowKit Go.Proofs.YtiaegandgjgjhaaDoorM Go.Proofs.YtiaegandgjgjhaaDoorW.PrintWords Go.Proofs.YtiaegandgjgjhaaDoorW.PrintLast Go.Proofs.YtiaegandgjgjhaaDoorW.PrintMore
set_option linter.unusedVariables false
set_option linter.unusedSimpArgs false
theorem new_at {W : World} {n : Nat} (o : Obj) (h : W.heap.size = n) : (W.alloc o).heap[n]? = some o := by subst h; exact heap_alloc_new W o
theorem gb_drew {w W : World} {row : Option Nat} (h : w.grownBy W row) : w.grownBy W.drew row := ⟨h.os, h.tape, h.output, h.size, h.block⟩
theorem gb_set (W : World) (b j : Nat) (u : Value) : W.grownBy (W.setCell ⟨b, j, none⟩ u) (some b) := ⟨rfl, rfl, rfl, by simp [World.setCell], fun k _ hk => Below.heap_setCell W ⟨b, j, none⟩ u k (fun e => hk (by rw [e]))⟩
theorem gb_drawn {w w' : World} (h : Drawn0 w w') : w.grownBy w' none := by obtain ⟨n, rfl⟩ := h; exact ⟨rfl, rfl, rfl, Nat.le_refl _, fun _ _ _ => rfl⟩
theorem gb_weak {w W : World} (h : w.grownBy W none) (m : Nat) : w.grownBy W (some m) := ⟨h.os, h.tape, h.output, h.size, fun k hk _ => h.block k hk (by simp)⟩
theorem below_of_grown {w W : World} (h : w.grownBy W none) : Below w.heap.size w W := (Below.refl w.heap.size w).grown h (Nat.le_refl _) (fun _ e => by cases e)
theorem cells_keep {w W : World} {A : Addr} {v : Value} (h : w.cell? A = some v) (hb : Below w.heap.size w W) : W.cell? A = some v := by
  rw [World.cell?_of_block (hb.block _ (World.block_lt_of_cell? w _ h))]; exact h
theorem SetB.cell0 {W : World} {g : Nat} {made : Bool} {ws : List Nat} (h : SetB W g made ws) : W.cell? ⟨g, 0, none⟩ = some (.bool made) := (blk_cell h.1 0).trans rfl
theorem sc_get (made : Bool) (ws : List Nat) (i : Nat) (hi : i < ws.length) : (sc made ws)[1 + i]? = some (.int .u64 ((ws.getD i 0 : Nat) : Int)) := by
  unfold sc
  rw [List.getElem?_toArray, Nat.add_comm 1 i, List.getElem?_cons_succ, List.getElem?_map, List.getElem?_eq_getElem hi, List.getD_eq_getElem?_getD, List.getElem?_eq_getElem hi]; rfl
theorem SetB.cellw {W : World} {g : Nat} {made : Bool} {ws : List Nat} (h : SetB W g made ws) {i : Nat} (hi : i < 16) : W.cell? ⟨g, 1 + i, none⟩ = some (.int .u64 ((ws.getD i 0 : Nat) : Int)) :=
  (blk_cell h.1 (1 + i)).trans (sc_get made ws i (by rw [h.2.1]; exact hi))
theorem SetB.word {W : World} {g : Nat} {made : Bool} {ws : List Nat} (h : SetB W g made ws) (i : Nat) : ws.getD i 0 < 18446744073709551616 := by
  rw [List.getD_eq_getElem?_getD]
  cases e : ws[i]? with
  | none => simp
  | some x => exact h.2.2 x (List.mem_of_getElem? e)
theorem SetB.grown {W W' : World} {g : Nat} {made : Bool} {ws : List Nat} {row : Option Nat} (h : SetB W g made ws) (hg : W.grownBy W' row) (hne : some g ≠ row) : SetB W' g made ws := ⟨blk_grown h.1 hg hne, h.2⟩
theorem sc_set (made : Bool) (ws : List Nat) (i x : Nat) : (sc made ws).setIfInBounds (1 + i) (.int .u64 (x : Int)) = sc made (ws.set i x) := by
  unfold sc
  rw [Nat.add_comm 1 i, List.setIfInBounds_toArray, List.set_cons_succ, List.map_set]
theorem SetB.put {W : World} {g : Nat} {made : Bool} {ws : List Nat} (h : SetB W g made ws) (i x : Nat) (hx : x < 18446744073709551616) : SetB (W.setCell ⟨g, 1 + i, none⟩ (.int .u64 (x : Int))) g made (ws.set i x) := by
  refine ⟨blk_put h.1 (1 + i) _ (sc_set made ws i x), by rw [List.length_set]; exact h.2.1, fun y hy => ?_⟩
  rcases List.mem_or_eq_of_mem_set hy with hy | rfl
  · exact h.2.2 y hy
  · exact hx
/-- The set g has the numbers of f. -/
def SetG (W : World) (g : Nat) (made : Bool) (f : Nat → Bool) : Prop := ∃ ws, SetB W g made ws ∧ ∀ n, n < 1024 → (ws.getD (n / 64) 0).testBit (n % 64) = f n
abbrev SetF (W : World) (g : Nat) (f : Nat → Bool) : Prop := SetG W g true f
theorem SetG.grown {W W' : World} {g : Nat} {made : Bool} {f : Nat → Bool} {row : Option Nat} (h : SetG W g made f) (hg : W.grownBy W' row) (hne : some g ≠ row) : SetG W' g made f := by
  obtain ⟨ws, h1, h2⟩ := h
  exact ⟨ws, h1.grown hg hne, h2⟩
theorem SetG.lt {W : World} {g : Nat} {made : Bool} {f : Nat → Bool} (h : SetG W g made f) : g < W.heap.size := by
  obtain ⟨ws, h1, _⟩ := h
  exact blk_lt h1.1
def flipF (f : Nat → Bool) (n : Nat) : Nat → Bool := fun m => if m = n then !f m else f m
theorem getD_set (ws : List Nat) (i j x : Nat) (hi : i < ws.length) : (ws.set i x).getD j 0 = if i = j then x else ws.getD j 0 := by
  rw [List.getD_eq_getElem?_getD, List.getElem?_set, List.getD_eq_getElem?_getD]
  by_cases e : i = j
  · subst e; simp [hi]
  · simp [e]
theorem pow_wrap {k : Nat} (hk : k < 64) : IntKind.u64.wrap ((2 : Int) ^ k) = ((2 ^ k : Nat) : Int) := by
  have h : 2 ^ k < 18446744073709551616 := Nat.pow_lt_pow_right (by decide) hk
  rw [IntKind.wrap_u64, show ((2 : Int) ^ k) = ((2 ^ k : Nat) : Int) from (Int.natCast_pow 2 k).symm]
  generalize 2 ^ k = m at h ⊢
  omega
theorem turn_F {w : World} {g : Nat} {f : Nat → Bool} (h : SetF w g f) {n : Nat} (hn : n < 1024) :
    Calls Tryd.prog 21 #[.pointer (some ⟨g, 0, none⟩), .int .i64 (n : Int)] w fun e W' => e = .returned (.tuple #[]) ∧ SetF W' g (flipF f n) ∧ w.grownBy W' (some g) := by
  obtain ⟨ws, h1, h2⟩ := h
  refine (turn_calls g ws n hn w (h1.cellw (by omega)) (blk_frozen h1.1 _)).mono ?_
  rintro e W' ⟨rfl, rfl⟩
  have hk : n % 64 < 64 := Nat.mod_lt _ (by decide)
  have hp : 2 ^ (n % 64) < 18446744073709551616 := Nat.pow_lt_pow_right (by decide) hk
  have hx := h1.word (n / 64)
  have hxor : ws.getD (n / 64) 0 ^^^ 2 ^ (n % 64) < 18446744073709551616 := Nat.xor_lt_two_pow (n := 64) hx hp
  rw [pow_wrap hk, bits_xor_u64_nat _ _ hx hp]
  refine ⟨rfl, ⟨_, ⟨(h1.put (n / 64) _ hxor).1, (h1.put (n / 64) _ hxor).2⟩, fun m hm => ?_⟩, gb_drew (gb_set _ _ _ _)⟩
  rw [getD_set _ _ _ _ (by rw [h1.2.1]; omega)]
  unfold flipF
  rw [← h2 m hm]
  by_cases e : n / 64 = m / 64
  · rw [if_pos e, Nat.testBit_xor, Nat.testBit_two_pow, e]
    by_cases e2 : m = n
    · subst e2; rw [if_pos rfl]; simp
    · rw [if_neg e2]
      have : ¬ n % 64 = m % 64 := by omega
      simp [this]
  · rw [if_neg e, if_neg (fun e2 => e (by rw [e2]))]
theorem bit_of (x k : Nat) (hx : x < 18446744073709551616) : (bits .and .u64 ((x : Int) / 2 ^ k) 1 == 1) = x.testBit k := by
  have hx2 : x / 2 ^ k < 18446744073709551616 := Nat.lt_of_le_of_lt (Nat.div_le_self _ _) hx
  have e1 : ((x : Int) / 2 ^ k) = ((x / 2 ^ k : Nat) : Int) := by
    rw [show ((2 : Int) ^ k) = ((2 ^ k : Nat) : Int) from (Int.natCast_pow 2 k).symm]; rfl
  have e2 : bits .and .u64 ((x / 2 ^ k : Nat) : Int) 1 = ((x / 2 ^ k &&& 1 : Nat) : Int) := bits_and_u64_nat (x / 2 ^ k) 1 hx2 (by decide)
  rw [e1, e2, Nat.and_one_is_mod, Nat.testBit_eq_decide_div_mod_eq]
  have : x / 2 ^ k % 2 = 0 ∨ x / 2 ^ k % 2 = 1 := by omega
  rcases this with h | h <;> rw [h] <;> rfl
def hasI (f : Nat → Bool) (n : Int) : Bool := decide (0 ≤ n ∧ n < 1024) && f n.toNat
set_option maxRecDepth 100000 in
set_option maxHeartbeats 4000000 in
theorem has_F {w : World} {g : Nat} {f : Nat → Bool} (h : SetF w g f) (n : Int) :
    Calls Tryd.prog 10 #[.pointer (some ⟨g, 0, none⟩), .int .i64 n] w fun e W' => e = .returned (.bool (hasI f n)) ∧ W' = w := by
  obtain ⟨ws, h1, h2⟩ := h
  have hc0 := h1.cell0
  by_cases hin : 0 ≤ n ∧ n < 1024
  · obtain ⟨k, rfl⟩ := Int.eq_ofNat_of_zero_le hin.1
    have hk : k < 1024 := by omega
    have y0 := h1.cellw (i := k / 64) (by omega)
    have hb := bit_of (ws.getD (k / 64) 0) (k % 64) (h1.word _)
    have HH := Aside0.mk (And.intro h1 h2)
    have hv : hasI f (k : Int) = f k := by unfold hasI; rw [decide_eq_true hin, Int.toNat_natCast]; rfl
    have HV := Aside0.mk hv
    clear h1 h2 hv
    rw [List.getD_eq_getElem?_getD] at hb
    go_enter Tryd.func10, Tryd.ntmps10
    go_wp2_with (go_at_call 22; refine (asked_made g ws k _ hc0).mono ?_; rintro e W' ⟨rfl, hw⟩; rw [hw, if_neg (by omega)])
    go_ret
    have e5 : (ws[k / 64]?.getD 0).testBit (k % 64) = hasI f (k : Int) := by rw [HV.out, ← HH.out.2 k hk, List.getD_eq_getElem?_getD]
    exact ⟨congrArg (fun b => Ending.returned (Value.bool b)) e5, rfl⟩
  · have hv : hasI f n = false := by unfold hasI; rw [decide_eq_false hin]; rfl
    rw [hv]
    clear hv h2
    go_enter Tryd.func10, Tryd.ntmps10
    go_wp2_with (go_at_call 22; refine (asked_made g ws n _ hc0).mono ?_; rintro e W' ⟨rfl, hw⟩; rw [hw, if_pos (by omega)])
    go_ret
    exact ⟨rfl, rfl⟩
/-- Put: the answer, and the set behind it. -/
def putF (f : Nat → Bool) (n : Int) : Int × (Nat → Bool) := if n < 0 ∨ 1024 ≤ n then (2, f) else if f n.toNat then (5, f) else (0, flipF f n.toNat)
def dropF (f : Nat → Bool) (n : Int) : Int × (Nat → Bool) := if n < 0 ∨ 1024 ≤ n then (2, f) else if f n.toNat then (0, flipF f n.toNat) else (4, f)
set_option maxRecDepth 100000 in
set_option maxHeartbeats 4000000 in
theorem put_F {w : World} {g : Nat} {f : Nat → Bool} (h : SetF w g f) (n : Int) :
    Calls Tryd.prog 13 #[.pointer (some ⟨g, 0, none⟩), .int .i64 n] w fun e W' => e = .returned (.int .i64 (putF f n).1) ∧ SetF W' g (putF f n).2 ∧ w.grownBy W' (some g) := by
  obtain ⟨ws, h1, h2⟩ := h
  have hc0 := h1.cell0
  have HF := Aside0.mk (show SetF w g f from ⟨ws, h1, h2⟩)
  clear h1 h2
  by_cases hin : n < 0 ∨ 1024 ≤ n
  · have hv : putF f n = (2, f) := by unfold putF; rw [if_pos hin]
    rw [hv]
    go_enter Tryd.func13, Tryd.ntmps13
    go_wp2_with (go_at_call 22; refine (asked_made g ws n _ hc0).mono ?_; rintro e W' ⟨rfl, hw⟩; rw [hw, if_pos hin])
    go_ret
    exact ⟨rfl, HF.out, gb_weak (World.grownBy.refl _ _) g⟩
  · obtain ⟨k, rfl⟩ := Int.eq_ofNat_of_zero_le (show 0 ≤ n by omega)
    have hk : k < 1024 := by omega
    have hh : hasI f (k : Int) = f k := by unfold hasI; rw [decide_eq_true (show 0 ≤ (k : Int) ∧ (k : Int) < 1024 by omega), Int.toNat_natCast]; rfl
    have HH := Aside0.mk hh
    clear hh
    cases hfk : f k with
    | true =>
      have hv : putF f (k : Int) = (5, f) := by unfold putF; rw [if_neg hin, Int.toNat_natCast, hfk]; rfl
      rw [hv]
      have HK := Aside0.mk hfk
      clear hfk hv
      go_enter Tryd.func13, Tryd.ntmps13
      go_wp2_with (first | (go_at_call 22; refine (asked_made g ws k _ hc0).mono ?_; rintro e W' ⟨rfl, hw⟩; rw [hw, if_neg hin]) | (go_at_call 10; refine (has_F HF.out (k : Int)).mono ?_; rintro e W' ⟨rfl, hw⟩; rw [hw, HH.out, HK.out]))
      go_ret
      exact ⟨rfl, HF.out, gb_weak (World.grownBy.refl _ _) g⟩
    | false =>
      have hv : putF f (k : Int) = (0, flipF f k) := by unfold putF; rw [if_neg hin, Int.toNat_natCast, hfk]; rfl
      rw [hv]
      have HK := Aside0.mk hfk
      clear hfk hv
      go_enter Tryd.func13, Tryd.ntmps13
      go_wp2_with (first | (go_at_call 22; refine (asked_made g ws k _ hc0).mono ?_; rintro e W' ⟨rfl, hw⟩; rw [hw, if_neg hin]) | (go_at_call 10; refine (has_F HF.out (k : Int)).mono ?_; rintro e W' ⟨rfl, hw⟩; rw [hw, HH.out, HK.out]) | (go_at_call 21; refine (turn_F HF.out hk).mono ?_; rintro e W' ⟨rfl, hs, hg⟩; have HS := Aside0.mk hs; have HG := Aside0.mk hg; clear hs hg))
      go_ret
      exact ⟨rfl, HS.out, HG.out⟩
set_option maxRecDepth 100000 in
set_option maxHeartbeats 4000000 in
theorem drop_F {w : World} {g : Nat} {f : Nat → Bool} (h : SetF w g f) (n : Int) :
    Calls Tryd.prog 12 #[.pointer (some ⟨g, 0, none⟩), .int .i64 n] w fun e W' => e = .returned (.int .i64 (dropF f n).1) ∧ SetF W' g (dropF f n).2 ∧ w.grownBy W' (some g) := by
  obtain ⟨ws, h1, h2⟩ := h
  have hc0 := h1.cell0
  have HF := Aside0.mk (show SetF w g f from ⟨ws, h1, h2⟩)
  clear h1 h2
  by_cases hin : n < 0 ∨ 1024 ≤ n
  · have hv : dropF f n = (2, f) := by unfold dropF; rw [if_pos hin]
    rw [hv]
    go_enter Tryd.func12, Tryd.ntmps12
    go_wp2_with (go_at_call 22; refine (asked_made g ws n _ hc0).mono ?_; rintro e W' ⟨rfl, hw⟩; rw [hw, if_pos hin])
    go_ret
    exact ⟨rfl, HF.out, gb_weak (World.grownBy.refl _ _) g⟩
  · obtain ⟨k, rfl⟩ := Int.eq_ofNat_of_zero_le (show 0 ≤ n by omega)
    have hk : k < 1024 := by omega
    have hh : hasI f (k : Int) = f k := by unfold hasI; rw [decide_eq_true (show 0 ≤ (k : Int) ∧ (k : Int) < 1024 by omega), Int.toNat_natCast]; rfl
    have HH := Aside0.mk hh
    clear hh
    cases hfk : f k with
    | false =>
      have hv : dropF f (k : Int) = (4, f) := by unfold dropF; rw [if_neg hin, Int.toNat_natCast, hfk]; rfl
      rw [hv]
      have HK := Aside0.mk hfk
      clear hfk hv
      go_enter Tryd.func12, Tryd.ntmps12
      go_wp2_with (first | (go_at_call 22; refine (asked_made g ws k _ hc0).mono ?_; rintro e W' ⟨rfl, hw⟩; rw [hw, if_neg hin]) | (go_at_call 10; refine (has_F HF.out (k : Int)).mono ?_; rintro e W' ⟨rfl, hw⟩; rw [hw, HH.out, HK.out]))
      go_ret
      exact ⟨rfl, HF.out, gb_weak (World.grownBy.refl _ _) g⟩
    | true =>
      have hv : dropF f (k : Int) = (0, flipF f k) := by unfold dropF; rw [if_neg hin, Int.toNat_natCast, hfk]; rfl
      rw [hv]
      have HK := Aside0.mk hfk
      clear hfk hv
      go_enter Tryd.func12, Tryd.ntmps12
      go_wp2_with (first | (go_at_call 22; refine (asked_made g ws k _ hc0).mono ?_; rintro e W' ⟨rfl, hw⟩; rw [hw, if_neg hin]) | (go_at_call 10; refine (has_F HF.out (k : Int)).mono ?_; rintro e W' ⟨rfl, hw⟩; rw [hw, HH.out, HK.out]) | (go_at_call 21; refine (turn_F HF.out hk).mono ?_; rintro e W' ⟨rfl, hs, hg⟩; have HS := Aside0.mk hs; have HG := Aside0.mk hg; clear hs hg))
      go_ret
      exact ⟨rfl, HS.out, HG.out⟩
end Go.Proofs.YtiaegandgjgjhaaDoor.PAll
