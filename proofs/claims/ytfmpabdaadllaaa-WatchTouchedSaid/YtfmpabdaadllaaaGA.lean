/-
  Walks and plain laws, joined of 11 texts.
-/
import Derived.Test.YtfmpabdaadllaaaBas
import Derived.Tactics
import Derived.Tactics2
import Derived.Defers
import Derived.Recover
import Derived.WalkLawsBesides
import Derived.Laws.Pointers
import Derived.Maps.Range
import Derived.RangeFuncNested
import Derived.RangeFuncBound
import Derived.RangeFuncCalls
import Derived.RangeFuncLeaves
import Derived.Deep.QuietTactic
import Derived.BigQuiet
namespace Go.Proofs.Ytfmpabdaadllaaa.PAll
open Go.RowKit Go.Proofs.YtfmpabdaadllaaaW.PrintWords Go.Proofs.YtfmpabdaadllaaaW.PrintLast
set_option linter.unusedVariables false
set_option linter.unusedSimpArgs false
/-! ### conf_by: function 49 -/
def conf_by.f (a0 : Int) (a1 : Int) : Option (Int) := if a1 = 0 then (none) else (some (wrap64 (Int.tdiv (wrap64 ((wrap64 (a0 + a1)) - 1)) a1)))
set_option maxHeartbeats 8000000 in
set_option maxRecDepth 100000 in
theorem conf_by.calls (a0 : Int) (a1 : Int) (r : Int) (w : World) (h : conf_by.f a0 a1 = some r) :
    Calls Try.prog 49 #[.int .i64 a0, .int .i64 a1] w fun e w' => e = .returned (.int .i64 r) ∧ Drawn0 w w' := by
  have H : (if a1 = 0 then (none) else (some (wrap64 (Int.tdiv (wrap64 ((wrap64 (a0 + a1)) - 1)) a1)))) = some r := h
  clear h
  by_cases c3 : a1 = 0
  · rw [if_pos c3] at H
    exact absurd H (by simp)
  · rw [if_neg c3] at H
    have c3b0 : (a1 == 0) = false := beq_eq_false_iff_ne.mpr c3
    have c3b1 : (a1 != 0) = true := bne_iff_ne.mpr c3
    obtain rfl := Option.some.inj H
    go_enter Try.func49, Try.ntmps49
    go_wp2
    go_ret
    exact ⟨by first | rfl | (simp; done) | (simp [*]; done), by repeat (first | exact Drawn0.refl _ | apply Drawn0.step)⟩
end Go.Proofs.Ytfmpabdaadllaaa.PAll

/-
  What gives up, and what catches it: conf.in, conf.must, conf.caught.
-/
namespace Go.Proofs.Ytfmpabdaadllaaa.PAll
open Go.RowKit Go.Proofs.YtfmpabdaadllaaaW.PrintWords
set_option linter.unusedVariables false
set_option linter.unusedSimpArgs false
/-- What must panics with. -/
def wrongV (n : Int) : Value := .iface 101 (.agg #[.int .i64 n])
theorem assert101 (v : Value) (w : World) : (Instr.typeAssert (.iface 101 v) 20 101 false).run Try.prog w = .ok v w := by
  unfold Instr.typeAssert
  simp [run_underlying Try.underlying101]
theorem field101 (v : Value) (w : World) : (Instr.field 101 (.agg #[v]) 0).run Try.prog w = .ok v w := by
  unfold Instr.field
  simp [run_underlying Try.underlying101, go_sem, asAgg, Result.andThen]
theorem caught_panicking (p : Addr) (x n : Int) (older : List PanicEntry) (w : World) (hc : w.cell? p = some (.int .i64 x)) (hz : w.frozen? p = false) :
    CallsD Try.prog 45 #[.pointer (some p)] (.panicking ({ v := wrongV n, recovered := false } :: older)) w fun e u' w' =>
      e = .returned (.tuple #[]) ∧ u' = .panicking ({ v := wrongV n, recovered := true } :: older) ∧ w' = w.setCell p (.int .i64 n) := by
  unfold wrongV
  refine callsD_of_wpS Try.func45 rfl fun c₀ cs hu => ?_
  apply wpS_seq
  apply wpS_region
  simp [wpOpsS, go_sem, recoverD, hu, Try.ntmps45, Exit.thenS]
  apply wpS_seq
  apply wpS_region
  simp [wpOpsS, go_sem, Exit.thenS]
  refine wpS_cond (t := true) (by simp [Act.eval, Array.replicate]) ?_
  simp only [if_true]
  apply wpS_region
  simp [wpOpsS, go_sem, assert101, field101, hc, hz, bodyPostS, results, Try.results45]
theorem caught_idle (p : Addr) (w : World) :
    CallsD Try.prog 45 #[.pointer (some p)] .returning w fun e u' w' => e = .returned (.tuple #[]) ∧ u' = .returning ∧ w' = w := by
  refine callsD_of_wpS Try.func45 rfl fun c₀ cs hu => ?_
  apply wpS_seq
  apply wpS_region
  simp [wpOpsS, go_sem, recoverD, hu, Try.ntmps45, Exit.thenS]
  apply wpS_seq
  apply wpS_region
  simp [wpOpsS, go_sem, Exit.thenS]
  refine wpS_cond (t := false) (by simp [Act.eval, Array.replicate]) ?_
  simp only [Bool.false_eq_true, if_false]
  refine wpS_of_wp (wp_skip ?_)
  cases c₀
  simp_all [bodyPostS, results, Try.results45]
/-- Is a number from one to another one? -/
def inB (n a b : Int) : Bool := decide (a ≤ n ∧ n ≤ b)
theorem inB_true {n a b : Int} : inB n a b = true ↔ a ≤ n ∧ n ≤ b := decide_eq_true_iff
theorem inB_false {n a b : Int} : inB n a b = false ↔ ¬ (a ≤ n ∧ n ≤ b) := decide_eq_false_iff_not
theorem in_calls (n a b : Int) (w : World) : Calls Try.prog 47 #[.int .i64 n, .int .i64 a, .int .i64 b] w fun e W' => e = .returned (.bool (inB n a b)) ∧ w = W' := by
  by_cases h1 : a ≤ n
  · by_cases h2 : n ≤ b
    · rw [inB_true.2 ⟨h1, h2⟩]
      go_enter Try.func47, Try.ntmps47
      go_wp2
      go_ret
      exact ⟨rfl, rfl⟩
    · rw [inB_false.2 (fun h => h2 h.2)]
      go_enter Try.func47, Try.ntmps47
      go_wp2
      go_ret
      exact ⟨by simp [h2], rfl⟩
  · rw [inB_false.2 (fun h => h1 h.1)]
    go_enter Try.func47, Try.ntmps47
    go_wp2
    go_ret
    exact ⟨by simp [h1], rfl⟩
theorem must_yes (n : Int) (w : World) : Calls Try.prog 46 #[.bool true, .int .i64 n] w fun e W' => e = .returned (.tuple #[]) ∧ w = W' := by
  go_enter Try.func46, Try.ntmps46
  go_wp2
  go_end0
  exact ⟨rfl, rfl⟩
theorem must_no (n : Int) (w : World) : Calls Try.prog 46 #[.bool false, .int .i64 n] w fun e W' => e = .panicked [{ v := wrongV n, recovered := false }] ∧ w = W' := by
  go_enter Try.func46, Try.ntmps46
  go_wp2
  exact ⟨rfl, rfl, rfl⟩
end Go.Proofs.Ytfmpabdaadllaaa.PAll

/-
  What a configuration may be, in plain Lean; slices.Contains over bools.
-/
namespace Go.Proofs.Ytfmpabdaadllaaa.PAll
open Go.RowKit Go.Proofs.YtfmpabdaadllaaaW.PrintWords Go.Proofs.YtfmpabdaadllaaaW.PrintLast
set_option linter.unusedVariables false
set_option linter.unusedSimpArgs false
def okP (p : S73) : Bool := inB p.f0 4 256 && inB p.f1 1 8
def okW (n : Nat) (x : S75) : Bool := inB x.f0 0 ((n : Int) - 1) && inB x.f1 1 255
def okC (n : Nat) (x : S46) : Bool := inB x.f0 0 ((n : Int) - 1) && (inB x.f1 0 ((n : Int) - 1) && ((x.f0 != x.f1) && (inB x.f2 1 8 && inB x.f3 1 8)))
/-- Has a partition a window? -/
def hasW (W : List S75) (i : Nat) : Bool := W.any (fun x => x.f0 == (i : Int))
/-- May all but the frames be? -/
structure NumOk (P : List S73) (W : List S75) (C : List S46) : Prop where
  p1 : 1 ≤ P.length ∧ P.length ≤ 8
  w1 : 1 ≤ W.length ∧ W.length ≤ 32
  c1 : C.length ≤ 16
  p : ∀ i, i < P.length → okP (P.getD i z73) = true
  w : ∀ i, i < W.length → okW P.length (W.getD i z75) = true
  s : ∀ i, i < P.length → hasW W i = true
  c : ∀ i, i < C.length → okC P.length (C.getD i z46) = true
def numB (P : List S73) (W : List S75) (C : List S46) : Bool :=
  decide (1 ≤ P.length ∧ P.length ≤ 8) && (decide (1 ≤ W.length ∧ W.length ≤ 32) && (decide (C.length ≤ 16) && ((List.range P.length).all (fun i => okP (P.getD i z73)) && ((List.range W.length).all (fun i => okW P.length (W.getD i z75)) && ((List.range P.length).all (fun i => hasW W i) && (List.range C.length).all (fun i => okC P.length (C.getD i z46)))))))
theorem numB_iff {P W C} : numB P W C = true ↔ NumOk P W C := by
  unfold numB
  simp only [Bool.and_eq_true, decide_eq_true_eq, List.all_eq_true, List.mem_range]
  exact ⟨fun ⟨a, b, c, d, e, f, g⟩ => ⟨a, b, c, d, e, f, g⟩, fun h => ⟨h.p1, h.w1, h.c1, h.p, h.w, h.s, h.c⟩⟩
def numE (P : List S73) (W : List S75) (C : List S46) : Int := if numB P W C = true then 0 else 2
theorem numE_yes {P W C} (h : NumOk P W C) : numE P W C = 0 := by unfold numE; rw [if_pos (numB_iff.2 h)]
theorem numE_no {P W C} (h : ¬ NumOk P W C) : numE P W C = 2 := by unfold numE; rw [if_neg (fun e => h (numB_iff.1 e))]
/-- Is one of them false? -/
def hasF (f : Nat → Bool) : Nat → Bool
  | 0 => false
  | n + 1 => hasF f n || !f n
theorem hasF_iff {f : Nat → Bool} : ∀ {n : Nat}, hasF f n = false ↔ ∀ i, i < n → f i = true
  | 0 => ⟨fun _ i h => by omega, fun _ => rfl⟩
  | n + 1 => by
    unfold hasF
    rw [Bool.or_eq_false_iff, hasF_iff]
    constructor
    · rintro ⟨h1, h2⟩ i hi
      by_cases e : i = n
      · subst e; simpa using h2
      · exact h1 i (by omega)
    · intro h
      exact ⟨fun i hi => h i (by omega), by simpa using h n (by omega)⟩
set_option maxHeartbeats 2000000 in
theorem index_calls (f : Nat → Bool) (gs n c : Nat) (hn : n ≤ 8) (w : World) (hc : ∀ j, j < n → w.cell? ⟨gs, j, none⟩ = some (.bool (f j))) :
    Calls Try.prog 56 #[.slice (some ⟨gs, 0, none⟩) n c, .bool false] w fun e W' => ∃ k : Int, e = .returned (.int .i64 k) ∧ hasF f n = decide (0 ≤ k) ∧ w = W' := by
  have HC := Aside0.mk hc
  clear hc
  go_enter Try.func56, Try.ntmps56
  go_wp2_with fail
  go_loopg [8] (n + 1) (fun kq v8 w' => ∃ i : Nat, v8 = .int .i64 (i : Int) ∧ Aside0 (i ≤ n ∧ i + kq = n + 1) ∧ Aside0 (hasF f i = false) ∧ w = w')
  case atStart => exact ⟨0, rfl, ⟨⟨Nat.zero_le _, by omega⟩⟩, ⟨rfl⟩, rfl⟩
  case round =>
    obtain ⟨i, rfl, HN, HF, rfl⟩ := hrel
    by_cases hi : i < n
    · have hi0 : (0 : Int) ≤ (i : Int) := by omega
      have hii : (i : Int) < (n : Int) := by omega
      obtain ⟨k', rfl⟩ : ∃ k', gk = k' + 1 := ⟨gk - 1, by have := HN.out.2; omega⟩
      have hw1 : IntKind.i64.wrap ((i : Int) + 1) = ((i + 1 : Nat) : Int) := (IntWalk.i64_left _).trans ((IntWalk.wrap64_in _ (by omega)).trans (by omega))
      have y := HC.out i hi
      cases hb : f i
      · rw [hb] at y
        have HB := Aside0.mk (show hasF f n = true by
          cases h : hasF f n with
          | true => rfl
          | false => have := hasF_iff.1 h i hi; rw [hb] at this; cases this)
        clear hb
        go_wp2
        go_ret
        exact ⟨_, rfl, by rw [HB.out]; exact (decide_eq_true hi0).symm, rfl⟩
      · rw [hb] at y
        have HB := Aside0.mk (show hasF f (i + 1) = false by unfold hasF; rw [HF.out, hb]; rfl)
        clear hb
        go_wp2
        go_roundg k'
        case measure => omega
        case rel => exact ⟨i + 1, by first | rfl | simp, ⟨by have := HN.out; omega⟩, HB, rfl⟩
    · have hii : ¬ (i : Int) < (n : Int) := by omega
      have HB := Aside0.mk (show hasF f n = false by rw [show n = i by have := HN.out; omega]; exact HF.out)
      go_wp2
      go_ret
      exact ⟨-1, rfl, by rw [HB.out]; rfl, rfl⟩
theorem contains_calls (f : Nat → Bool) (gs n c : Nat) (hn : n ≤ 8) (w : World) (hc : ∀ j, j < n → w.cell? ⟨gs, j, none⟩ = some (.bool (f j))) :
    Calls Try.prog 48 #[.slice (some ⟨gs, 0, none⟩) n c, .bool false] w fun e W' => e = .returned (.bool (hasF f n)) ∧ w = W' := by
  have HC := Aside0.mk hc
  clear hc
  go_enter Try.func48, Try.ntmps48
  go_wp2_with (go_at_call 56; refine (index_calls f gs n c hn _ HC.out).mono ?_; rintro e W' ⟨k, rfl, hk, rfl⟩; have HK := Aside0.mk hk; clear hk)
  go_ret
  exact ⟨by rw [HK.out]; simp, rfl⟩
end Go.Proofs.Ytfmpabdaadllaaa.PAll

/-
  conf.numbers: a function that defers; what gives up is caught.
-/
namespace Go.Proofs.Ytfmpabdaadllaaa.PAll
open Go.RowKit Go.Proofs.YtfmpabdaadllaaaW.PrintWords Go.Proofs.YtfmpabdaadllaaaW.PrintLast
set_option linter.unusedVariables false
set_option linter.unusedSimpArgs false
theorem gb_below {w W : World} (h : Below w.heap.size w W) : w.grownBy W none := ⟨h.os, h.tape, h.output, h.size, fun k hk _ => h.block k hk⟩
theorem below_of_grown {w W : World} (h : w.grownBy W none) : Below w.heap.size w W := (Below.refl w.heap.size w).grown h (Nat.le_refl _) (fun _ e => by cases e)
theorem cells_keep {w W : World} {A : Addr} {v : Value} (h : w.cell? A = some v) (hb : Below w.heap.size w W) : W.cell? A = some v := by
  rw [World.cell?_of_block (hb.block _ (World.block_lt_of_cell? w _ h))]; exact h
theorem new_at {W : World} {n : Nat} (o : Obj) (h : W.heap.size = n) : (W.alloc o).heap[n]? = some o := by subst h; exact heap_alloc_new W o
theorem blk_alloc {W : World} {g : Nat} {o : Obj} (h : W.heap[g]? = some o) (o' : Obj) : (W.alloc o').heap[g]? = some o := (Below.heap_alloc W o' g (Array.getElem?_eq_some_iff.1 h).1).trans h
theorem gb_set (W : World) (b j : Nat) (u : Value) : W.grownBy (W.setCell ⟨b, j, none⟩ u) (some b) := ⟨rfl, rfl, rfl, by simp [World.setCell], fun k _ hk => Below.heap_setCell W ⟨b, j, none⟩ u k (fun e => hk (by rw [e]))⟩
/-- At the door, when something gave up: the error is 2. -/
theorem door_no (w W : World) (ge : Nat) (T : Array Value) (hge : w.heap.size ≤ ge) (hT : T.getD 2 undef = .pointer (some ⟨ge, 0, none⟩)) (hb : W.heap[ge]? = some (.cells #[.int .i64 0] 30 (0, 0))) (hg : w.grownBy W none) :
    bodyPostD Try.prog Try.f35 (fun e W' => e = .returned (.int .i64 2) ∧ w.grownBy W' none) (Exit.panic [{ v := wrongV 2, recovered := false }]) { tmps := T, defers := [{ target := Target.fn (Fn.func 45) #[], args := #[.pointer (some ⟨ge, 0, none⟩)] }] } W := by
  have c0 := (blk_cell hb 0).trans rfl
  have f0 := blk_frozen hb 0
  refine leaves_cons (f := 45) (args := #[.pointer (some ⟨ge, 0, none⟩)]) (by simp) (by simp [go_sem]) ?_
  refine (caught_panicking ⟨ge, 0, none⟩ 0 2 [] _ c0 f0).mono ?_
  rintro e u' w'' ⟨rfl, rfl, rfl⟩
  have hb2 := blk_put hb 0 (.int .i64 2) rfl
  have c2 := (blk_cell hb2 0).trans rfl
  have hT2 : T[2]?.getD undef = .pointer (some ⟨ge, 0, none⟩) := by rw [← hT]; simp
  simp [Leaves, settle, results, Try.results35, go_sem, hT2, c2]
  exact hg.andThen (gb_set W ge 0 _) (fun j e => by cases e; exact .inl hge)
/-- At the door, when all went well. -/
theorem door_yes (w W : World) (ge : Nat) (T : Array Value) (hge : w.heap.size ≤ ge) (hT : T.getD 2 undef = .pointer (some ⟨ge, 0, none⟩)) (hb : W.heap[ge]? = some (.cells #[.int .i64 0] 30 (0, 0))) (hg : w.grownBy W none) (E : Exit) (hE : E = .normal ∨ E = .ret) :
    bodyPostD Try.prog Try.f35 (fun e W' => e = .returned (.int .i64 0) ∧ w.grownBy W' none) E { tmps := T, defers := [{ target := Target.fn (Fn.func 45) #[], args := #[.pointer (some ⟨ge, 0, none⟩)] }] } W := by
  have c0 := (blk_cell hb 0).trans rfl
  have hT2 : T[2]?.getD undef = .pointer (some ⟨ge, 0, none⟩) := by rw [← hT]; simp
  rcases hE with rfl | rfl
  all_goals
    refine leaves_cons (f := 45) (args := #[.pointer (some ⟨ge, 0, none⟩)]) (by simp) (by simp [go_sem]) ?_
    refine (caught_idle ⟨ge, 0, none⟩ _).mono ?_
    rintro e u' w'' ⟨rfl, rfl, rfl⟩
    simp [Leaves, settle, results, Try.results35, go_sem, hT2, c0]
    exact hg
def cfgV (A0 : Option Addr) (n0 c0 : Nat) (A1 : Option Addr) (n1 c1 : Nat) (A2 : Option Addr) (n2 c2 : Nat) : Array Value := #[.slice A0 n0 c0, .slice A1 n1 c1, .slice A2 n2 c2]
/-- The variables of numbers. -/
def NumV (w W : World) (gc ge : Nat) (cs : Array Value) : Prop := W.heap[gc]? = some (.cells cs 26 (0, 0)) ∧ W.heap[ge]? = some (.cells #[.int .i64 0] 30 (0, 0)) ∧ w.grownBy W none
theorem NumV.alloc {w W : World} {gc ge : Nat} {cs : Array Value} (h : NumV w W gc ge cs) (o : Obj) : NumV w (W.alloc o) gc ge cs := ⟨blk_alloc h.1 o, blk_alloc h.2.1 o, h.2.2.trans (World.grownBy_alloc W o none)⟩
theorem slice92 (gs n : Nat) (hn : n ≤ 8) (W : World) : (Instr.sliceAt 92 (.pointer (some ⟨gs, 0, none⟩)) none (some (.int .i64 (n : Int))) none).run Try.prog W = .ok (.slice (some ⟨gs, 0, none⟩) n 8) W := by
  have h8 : Try.prog.arrayLen 92 = 8 := by kernel_rfl
  have hz : (sizeOf (Try.prog.elem 92)).run Try.prog W = .ok 1 W := by
    obtain ⟨i0, hi, hs⟩ := Option.map_eq_some_iff.1 (show (Try.prog.info? (Try.prog.elem 92)).map (fun i => i.size) = some 1 by kernel_rfl)
    simp [sizeOf, typeInfo, hi, hs]
  have := run_sliceAt_array_h (P := Try.prog) W 92 ⟨gs, 0, none⟩ (by kernel_rfl) .i64 (n : Int) (by omega) (by rw [h8]; omega)
  rw [this, hz, h8]
  simp [Result.andThen, slicedAt, Addr.add]
def seenB (W : List S75) (i k : Nat) : Bool := (W.take i).any (fun x => x.f0 == (k : Int))
def seenA (W : List S75) (i : Nat) : Array Value := ((List.range 8).map (fun k => Value.bool (seenB W i k))).toArray
theorem seenA_zero (W : List S75) : seenA W 0 = #[.bool false, .bool false, .bool false, .bool false, .bool false, .bool false, .bool false, .bool false] := by
  unfold seenA seenB; rfl
theorem seenA_get (W : List S75) (i : Nat) {k : Nat} (hk : k < 8) : (seenA W i)[k]? = some (.bool (seenB W i k)) := by
  unfold seenA
  rw [List.getElem?_toArray, List.getElem?_map, List.getElem?_range hk]; rfl
theorem seenB_all (W : List S75) (k : Nat) : seenB W W.length k = hasW W k := by unfold seenB hasW; rw [List.take_length]
theorem seenA_set (W : List S75) {i : Nat} (hi : i < W.length) {k : Nat} (hx : (W.getD i z75).f0 = (k : Int)) (hk : k < 8) : (seenA W i).setIfInBounds k (.bool true) = seenA W (i + 1) := by
  apply Array.ext
  · simp [seenA]
  · intro j h1 h2
    have hj : j < 8 := by simpa [seenA] using h2
    have hs : seenB W (i + 1) j = (seenB W i j || ((W.getD i z75).f0 == (j : Int))) := by
      unfold seenB
      rw [List.take_succ_eq_append_getElem hi, List.any_append, List.getD_eq_getElem?_getD, List.getElem?_eq_getElem hi]; simp
    have hg : (seenA W (i + 1))[j]'h2 = .bool (seenB W (i + 1) j) := by
      have := seenA_get W (i + 1) hj
      rw [Array.getElem?_eq_getElem h2] at this; exact Option.some.inj this
    rw [hg, Array.getElem_setIfInBounds (by simpa [seenA] using hj), hs, hx]
    by_cases e : k = j
    · subst e; simp
    · rw [if_neg e]
      have h3 : j < (seenA W i).size := by simpa [seenA] using hj
      have := seenA_get W i hj
      rw [Array.getElem?_eq_getElem h3] at this
      rw [Option.some.inj this]
      have e2 : ((k : Int) == (j : Int)) = false := beq_eq_false_iff_ne.2 (by omega)
      rw [e2, Bool.or_false]
set_option maxRecDepth 100000 in
set_option maxHeartbeats 16000000 in
theorem numbers_calls (P : List S73) (Wn : List S75) (Cn : List S46) (A0 : Option Addr) (c0 : Nat) (A1 : Option Addr) (c1 : Nat) (A2 : Option Addr) (c2 : Nat) (w : World) (h0 : Kd.C k73 w A0 P.length P) (h1 : Kd.C k75 w A1 Wn.length Wn) (h2 : Kd.C k46 w A2 Cn.length Cn) :
    Calls Try.prog 35 #[.agg #[.slice A0 P.length c0, .slice A1 Wn.length c1, .slice A2 Cn.length c2]] w fun e W' => e = .returned (.int .i64 (numE P Wn Cn)) ∧ w.grownBy W' none := by
  have HP := Aside0.mk h0
  have HW := Aside0.mk h1
  have HC := Aside0.mk h2
  clear h0 h1 h2
  have hV0 : NumV w ((w.alloc (.cells #[.slice A0 P.length c0, .slice A1 Wn.length c1, .slice A2 Cn.length c2] 26)).alloc (.cells #[.int .i64 0] 30)) w.heap.size (w.heap.size + 1) #[.slice A0 P.length c0, .slice A1 Wn.length c1, .slice A2 Cn.length c2] :=
    ⟨blk_alloc (new_at _ rfl) _, new_at _ (by simp), (World.grownBy_alloc w _ none).trans (World.grownBy_alloc _ _ none)⟩
  have HV0 := Aside0.mk hV0
  clear hV0
  by_cases hp1 : 1 ≤ P.length ∧ P.length ≤ 8
  · have b1 : inB (P.length : Int) 1 8 = true := inB_true.2 (by omega)
    by_cases hw1 : 1 ≤ Wn.length ∧ Wn.length ≤ 32
    · have b2 : inB (Wn.length : Int) 1 32 = true := inB_true.2 (by omega)
      by_cases hc1 : Cn.length ≤ 16
      · have b3 : decide ((Cn.length : Int) ≤ 16) = true := decide_eq_true (by omega)
        obtain ⟨res, hres⟩ : ∃ res, res = numE P Wn Cn := ⟨_, rfl⟩
        rw [← hres]
        have HRN := Aside0.mk (show ¬ NumOk P Wn Cn → res = 2 from fun h => by rw [hres, numE_no h])
        have HRY := Aside0.mk (show NumOk P Wn Cn → res = 0 from fun h => by rw [hres, numE_yes h])
        have HPW := Aside0.mk (And.intro hp1 (And.intro hw1 hc1))
        have hp8 : P.length ≤ 8 := hp1.2
        have hw32 : Wn.length ≤ 32 := hw1.2
        clear hres
        go_enter_defers Try.func35, Try.ntmps35
        go_wp2_with (first | (go_at_call 47; refine (in_calls _ _ _ _).mono ?_; rintro e W' ⟨rfl, rfl⟩) | (go_at_call 46; (with_reducible refine (must_yes _ _).mono ?_); rintro e W' ⟨rfl, rfl⟩))
        obtain ⟨W0, hW0⟩ : ∃ W0, W0 = (w.alloc (.cells #[.slice A0 P.length c0, .slice A1 Wn.length c1, .slice A2 Cn.length c2] 26)).alloc (.cells #[.int .i64 0] 30) := ⟨_, rfl⟩
        obtain ⟨ge, hge⟩ : ∃ ge, ge = w.heap.size + 1 := ⟨_, rfl⟩
        obtain ⟨gc, hgc⟩ : ∃ gc, gc = w.heap.size := ⟨_, rfl⟩
        rw [← hW0, ← hge, ← hgc] at HV0
        rw [← hW0, ← hge, ← hgc]
        have HGE := Aside0.mk (show w.heap.size ≤ ge by omega)
        have HGC := Aside0.mk (show gc ≠ ge by omega)
        clear hW0 hge hgc b1 b2 b3
        go_loopg [30] (P.length + 1) (fun kq v30 w' => ∃ i : Nat, v30 = .int .i64 (i : Int) ∧ Aside0 (i ≤ P.length ∧ i + kq = P.length + 1) ∧ Aside0 (∀ j, j < i → okP (P.getD j z73) = true) ∧ Aside0 (NumV w w' gc ge #[.slice A0 P.length c0, .slice A1 Wn.length c1, .slice A2 Cn.length c2]))
        case atStart => exact ⟨0, rfl, ⟨⟨Nat.zero_le _, by omega⟩⟩, ⟨fun j h => by omega⟩, HV0⟩
        case round =>
          clear HV0
          obtain ⟨i, rfl, HN, HOK, HV⟩ := hrel
          have hi0 : (0 : Int) ≤ (i : Int) := by omega
          by_cases hi : i < P.length
          · have hii : (i : Int) < (P.length : Int) := by omega
            obtain ⟨k', rfl⟩ : ∃ k', gk = k' + 1 := ⟨gk - 1, by have := HN.out.2; omega⟩
            have hw1' : IntKind.i64.wrap ((i : Int) + 1) = ((i + 1 : Nat) : Int) := (IntWalk.i64_left _).trans ((IntWalk.wrap64_in _ (by omega)).trans (by omega))
            obtain ⟨ad, eA, y0, y1⟩ := at_T73 HP.out (i : Int) hi0 hii
            subst eA
            obtain ⟨x, hx⟩ : ∃ x, x = P.getD i z73 := ⟨_, rfl⟩
            have hr : rd_T73 P (i : Int) = x := by unfold rd_T73; rw [Int.toNat_natCast, hx]
            rw [hr, Int.toNat_natCast] at y0 y1
            replace y0 := cells_keep y0 (below_of_grown HV.out.2.2)
            replace y1 := cells_keep y1 (below_of_grown HV.out.2.2)
            have HX := Aside0.mk hx
            clear hr hx
            obtain ⟨q, s⟩ := x
            simp only at y0 y1
            have HVA := Aside0.mk (HV.out.alloc (.cells #[.int .i64 q, .int .i64 s] 73))
            by_cases e1 : inB q 4 256 = true
            · by_cases e2 : inB s 1 8 = true
              · have HOK2 := Aside0.mk (show ∀ j, j < i + 1 → okP (P.getD j z73) = true from fun j hj => by
                  by_cases e : j = i
                  · rw [e, ← HX.out]; unfold okP; rw [e1, e2]; rfl
                  · exact HOK.out j (by omega))
                go_wp2_with (first | (go_at_call 47; refine (in_calls _ _ _ _).mono ?_; rintro e W' ⟨rfl, rfl⟩) | (go_at_call 46; (with_reducible refine (must_yes _ _).mono ?_); rintro e W' ⟨rfl, rfl⟩))
                go_roundg k'
                case measure => omega
                case rel => exact ⟨i + 1, by first | rfl | simp, ⟨by have := HN.out; omega⟩, HOK2, HVA⟩
              · have e2' : inB s 1 8 = false := by simpa using e2
                have HR := Aside0.mk (HRN.out (fun h => by have := h.p i hi; rw [← HX.out] at this; unfold okP at this; rw [e2'] at this; simp at this))
                clear e2
                go_wp2_with (first | (go_at_call 47; refine (in_calls _ _ _ _).mono ?_; rintro e W' ⟨rfl, rfl⟩) | (go_at_call 46; (with_reducible refine (must_no _ _).mono ?_); rintro e W' ⟨rfl, rfl⟩))
                rw [HR.out]
                exact door_no w _ ge _ HGE.out (by simp) HVA.out.2.1 HVA.out.2.2
            · have e1' : inB q 4 256 = false := by simpa using e1
              have HR := Aside0.mk (HRN.out (fun h => by have := h.p i hi; rw [← HX.out] at this; unfold okP at this; rw [e1'] at this; simp at this))
              clear e1
              go_wp2_with (first | (go_at_call 47; refine (in_calls _ _ _ _).mono ?_; rintro e W' ⟨rfl, rfl⟩) | (go_at_call 46; (with_reducible refine (must_no _ _).mono ?_); rintro e W' ⟨rfl, rfl⟩))
              rw [HR.out]
              exact door_no w _ ge _ HGE.out (by simp) HVA.out.2.1 HVA.out.2.2
          · have hii : ¬ (i : Int) < (P.length : Int) := by omega
            have HOKP := Aside0.mk (show ∀ j, j < P.length → okP (P.getD j z73) = true from fun j hj => HOK.out j (by have := HN.out; omega))
            have HVB := Aside0.mk (HV.out.alloc (.cells #[.bool false, .bool false, .bool false, .bool false, .bool false, .bool false, .bool false, .bool false] 92))
            have HGS0 := Aside0.mk (show (wr.alloc (.cells #[.bool false, .bool false, .bool false, .bool false, .bool false, .bool false, .bool false, .bool false] 92)).heap[wr.heap.size]? = some (.cells (seenA Wn 0) 92 (0, 0)) from by rw [seenA_zero]; exact new_at _ rfl)
            have x1 := (blk_cell HVB.out.1 1).trans rfl
            have HSL := Aside0.mk (And.intro (blk_lt HV.out.1) (And.intro (blk_lt HV.out.2.1) HV.out.2.2.size))
            go_wp2_with fail
            obtain ⟨W1, hW1⟩ : ∃ W1, W1 = wr.alloc (.cells #[.bool false, .bool false, .bool false, .bool false, .bool false, .bool false, .bool false, .bool false] 92) := ⟨_, rfl⟩
            obtain ⟨gs, hgs⟩ : ∃ gs, gs = wr.heap.size := ⟨_, rfl⟩
            rw [← hW1, ← hgs] at HGS0
            rw [← hW1] at HVB
            rw [← hgs] at HSL
            rw [← hW1, ← hgs]
            have HGN := Aside0.mk (show gc ≠ gs ∧ ge ≠ gs ∧ w.heap.size ≤ gs from by have := HSL.out; omega)
            clear hW1 hgs x1 HSL
            go_loopg [47] (Wn.length + 1) (fun kq v47 w' => ∃ i : Nat, v47 = .int .i64 (i : Int) ∧ Aside0 (i ≤ Wn.length ∧ i + kq = Wn.length + 1) ∧ Aside0 (∀ j, j < i → okW P.length (Wn.getD j z75) = true) ∧ Aside0 (NumV w w' gc ge #[.slice A0 P.length c0, .slice A1 Wn.length c1, .slice A2 Cn.length c2]) ∧ Aside0 (w'.heap[gs]? = some (.cells (seenA Wn i) 92 (0, 0))))
            case atStart => exact ⟨0, rfl, ⟨⟨Nat.zero_le _, by omega⟩⟩, ⟨fun j h => by omega⟩, HVB, HGS0⟩
            case round =>
              clear HVB HGS0 HV HN HOK hii hi hi0
              obtain ⟨i, rfl, HN, HOK, HV, HGS⟩ := hrel
              have hi0 : (0 : Int) ≤ (i : Int) := by omega
              by_cases hi : i < Wn.length
              · have hii : (i : Int) < (Wn.length : Int) := by omega
                obtain ⟨k', rfl⟩ : ∃ k', gk = k' + 1 := ⟨gk - 1, by have := HN.out.2; omega⟩
                have hw1' : IntKind.i64.wrap ((i : Int) + 1) = ((i + 1 : Nat) : Int) := (IntWalk.i64_left _).trans ((IntWalk.wrap64_in _ (by omega)).trans (by omega))
                obtain ⟨ad, eA, y0, y1⟩ := at_T75 HW.out (i : Int) hi0 hii
                subst eA
                obtain ⟨x, hx⟩ : ∃ x, x = Wn.getD i z75 := ⟨_, rfl⟩
                have hr : rd_T75 Wn (i : Int) = x := by unfold rd_T75; rw [Int.toNat_natCast, hx]
                rw [hr, Int.toNat_natCast] at y0 y1
                replace y0 := cells_keep y0 (below_of_grown HV.out.2.2)
                replace y1 := cells_keep y1 (below_of_grown HV.out.2.2)
                have HX := Aside0.mk hx
                clear hr hx
                obtain ⟨q, s⟩ := x
                simp only at y0 y1
                have HVA := Aside0.mk (HV.out.alloc (.cells #[.int .i64 q, .int .i64 s] 75))
                have x0 := (blk_cell HVA.out.1 0).trans rfl
                by_cases e1 : inB q 0 ((P.length : Int) - 1) = true
                · by_cases e2 : inB s 1 255 = true
                  · have HOK2 := Aside0.mk (show ∀ j, j < i + 1 → okW P.length (Wn.getD j z75) = true from fun j hj => by
                      by_cases e : j = i
                      · rw [e, ← HX.out]; unfold okW; rw [e1, e2]; rfl
                      · exact HOK.out j (by omega))
                    have hq := inB_true.1 e1
                    obtain ⟨k, rfl⟩ := Int.eq_ofNat_of_zero_le hq.1
                    have hk8 : k < 8 := by omega
                    have hk0 : (0 : Int) ≤ (k : Int) := by omega
                    have hk9 : (k : Int) < 8 := by omega
                    have hga := blk_alloc HGS.out (.cells #[.int .i64 (k : Int), .int .i64 s] 75)
                    have z1 := (blk_cell hga k).trans (seenA_get Wn i hk8)
                    have z2 := blk_frozen hga k
                    have HG2 := Aside0.mk (blk_put hga k (.bool true) (seenA_set Wn hi (by rw [← HX.out]) hk8))
                    clear hga hq
                    go_wp2_with (first | (go_at_call 47; refine (in_calls _ _ _ _).mono ?_; rintro e W' ⟨rfl, rfl⟩) | (go_at_call 46; (with_reducible refine (must_yes _ _).mono ?_); rintro e W' ⟨rfl, rfl⟩))
                    go_roundg k'
                    case measure => omega
                    case rel => exact ⟨i + 1, by first | rfl | simp, ⟨by have := HN.out; omega⟩, HOK2, ⟨⟨blk_far HVA.out.1 (p := ⟨gs, k, none⟩) HGN.out.1 _, blk_far HVA.out.2.1 (p := ⟨gs, k, none⟩) HGN.out.2.1 _, HVA.out.2.2.andThen (gb_set _ gs k _) (fun j e => by cases e; exact .inl HGN.out.2.2)⟩⟩, HG2⟩
                  · have e2' : inB s 1 255 = false := by simpa using e2
                    have HR := Aside0.mk (HRN.out (fun h => by have := h.w i hi; rw [← HX.out] at this; unfold okW at this; rw [e2'] at this; simp at this))
                    clear e2
                    go_wp2_with (first | (go_at_call 47; refine (in_calls _ _ _ _).mono ?_; rintro e W' ⟨rfl, rfl⟩) | (go_at_call 46; (with_reducible refine (must_no _ _).mono ?_); rintro e W' ⟨rfl, rfl⟩))
                    rw [HR.out]
                    exact door_no w _ ge _ HGE.out (by simp) HVA.out.2.1 HVA.out.2.2
                · have e1' : inB q 0 ((P.length : Int) - 1) = false := by simpa using e1
                  have HR := Aside0.mk (HRN.out (fun h => by have := h.w i hi; rw [← HX.out] at this; unfold okW at this; rw [e1'] at this; simp at this))
                  clear e1
                  go_wp2_with (first | (go_at_call 47; refine (in_calls _ _ _ _).mono ?_; rintro e W' ⟨rfl, rfl⟩) | (go_at_call 46; (with_reducible refine (must_no _ _).mono ?_); rintro e W' ⟨rfl, rfl⟩))
                  rw [HR.out]
                  exact door_no w _ ge _ HGE.out (by simp) HVA.out.2.1 HVA.out.2.2
              · have hii : ¬ (i : Int) < (Wn.length : Int) := by omega
                have hil : i = Wn.length := by have := HN.out; omega
                have HOKW := Aside0.mk (show ∀ j, j < Wn.length → okW P.length (Wn.getD j z75) = true from fun j hj => HOK.out j (by omega))
                have HGF := HGS.out
                rw [hil] at HGF
                have HCE := Aside0.mk (show ∀ j, j < P.length → wr.cell? ⟨gs, j, none⟩ = some (.bool (hasW Wn j)) from fun j hj => by
                  rw [blk_cell HGF j, seenA_get Wn _ (by omega)]; rw [seenB_all])
                have x0 := (blk_cell HV.out.1 0).trans rfl
                have x2 := (blk_cell HV.out.1 2).trans rfl
                have hsl := slice92 gs P.length hp8
                clear hil HGF
                cases hF : hasF (hasW Wn) P.length
                · have HS := Aside0.mk (hasF_iff.1 hF)
                  go_wp2_with (first | (go_at_call 48; refine (contains_calls (hasW Wn) gs P.length 8 hp8 _ HCE.out).mono ?_; rintro e W' ⟨rfl, rfl⟩) | (go_at_call 46; (with_reducible refine (must_yes _ _).mono ?_); rintro e W' ⟨rfl, rfl⟩))
                  clear hF HGS x0 hsl
                  go_loopg [78] (Cn.length + 1) (fun kq v78 w' => ∃ i : Nat, v78 = .int .i64 (i : Int) ∧ Aside0 (i ≤ Cn.length ∧ i + kq = Cn.length + 1) ∧ Aside0 (∀ j, j < i → okC P.length (Cn.getD j z46) = true) ∧ Aside0 (NumV w w' gc ge #[.slice A0 P.length c0, .slice A1 Wn.length c1, .slice A2 Cn.length c2]))
                  case atStart => exact ⟨0, rfl, ⟨⟨Nat.zero_le _, by omega⟩⟩, ⟨fun j h => by omega⟩, HV⟩
                  case round =>
                    clear HV HN HOK hii hi hi0 HCE x2
                    obtain ⟨i, rfl, HN, HOK, HV⟩ := hrel
                    have hi0 : (0 : Int) ≤ (i : Int) := by omega
                    by_cases hi : i < Cn.length
                    · have hii : (i : Int) < (Cn.length : Int) := by omega
                      obtain ⟨k', rfl⟩ : ∃ k', gk = k' + 1 := ⟨gk - 1, by have := HN.out.2; omega⟩
                      have hw1' : IntKind.i64.wrap ((i : Int) + 1) = ((i + 1 : Nat) : Int) := (IntWalk.i64_left _).trans ((IntWalk.wrap64_in _ (by omega)).trans (by omega))
                      obtain ⟨ad, eA, y0, y1, y2, y3⟩ := at_T46 HC.out (i : Int) hi0 hii
                      subst eA
                      obtain ⟨x, hx⟩ : ∃ x, x = Cn.getD i z46 := ⟨_, rfl⟩
                      have hr : rd_T46 Cn (i : Int) = x := by unfold rd_T46; rw [Int.toNat_natCast, hx]
                      rw [hr, Int.toNat_natCast] at y0 y1 y2 y3
                      replace y0 := cells_keep y0 (below_of_grown HV.out.2.2)
                      replace y1 := cells_keep y1 (below_of_grown HV.out.2.2)
                      replace y2 := cells_keep y2 (below_of_grown HV.out.2.2)
                      replace y3 := cells_keep y3 (below_of_grown HV.out.2.2)
                      have HX := Aside0.mk hx
                      clear hr hx
                      obtain ⟨q, s, t, u⟩ := x
                      simp only at y0 y1 y2 y3
                      have HVA := Aside0.mk (HV.out.alloc (.cells #[.int .i64 q, .int .i64 s, .int .i64 t, .int .i64 u] 46))
                      have x0 := (blk_cell HVA.out.1 0).trans rfl
                      have HRX := Aside0.mk (show okC P.length ⟨q, s, t, u⟩ = false → res = 2 from fun e => HRN.out (fun h => by have := h.c i hi; rw [← HX.out, e] at this; cases this))
                      by_cases e1 : inB q 0 ((P.length : Int) - 1) = true
                      · by_cases e2 : inB s 0 ((P.length : Int) - 1) = true
                        · by_cases e3 : (q != s) = true
                          · by_cases e4 : inB t 1 8 = true
                            · by_cases e5 : inB u 1 8 = true
                              · have HOK2 := Aside0.mk (show ∀ j, j < i + 1 → okC P.length (Cn.getD j z46) = true from fun j hj => by
                                  by_cases e : j = i
                                  · rw [e, ← HX.out]; unfold okC; simp only [e1, e2, e3, e4, e5]; rfl
                                  · exact HOK.out j (by omega))
                                go_wp2_with (first | (go_at_call 47; refine (in_calls _ _ _ _).mono ?_; rintro e W' ⟨rfl, rfl⟩) | (go_at_call 46; (with_reducible refine (must_yes _ _).mono ?_); rintro e W' ⟨rfl, rfl⟩))
                                go_roundg k'
                                case measure => omega
                                case rel => exact ⟨i + 1, by first | rfl | simp, ⟨by have := HN.out; omega⟩, HOK2, HVA⟩
                              · have e5' : inB u 1 8 = false := by simpa using e5
                                have HR := Aside0.mk (HRX.out (by unfold okC; simp [e5']))
                                clear e5
                                go_wp2_with (first | (go_at_call 47; refine (in_calls _ _ _ _).mono ?_; rintro e W' ⟨rfl, rfl⟩) | (go_at_call 46; (with_reducible refine (must_no _ _).mono ?_); rintro e W' ⟨rfl, rfl⟩))
                                rw [HR.out]
                                exact door_no w _ ge _ HGE.out (by simp) HVA.out.2.1 HVA.out.2.2
                            · have e4' : inB t 1 8 = false := by simpa using e4
                              have HR := Aside0.mk (HRX.out (by unfold okC; simp [e4']))
                              clear e4
                              go_wp2_with (first | (go_at_call 47; refine (in_calls _ _ _ _).mono ?_; rintro e W' ⟨rfl, rfl⟩) | (go_at_call 46; (with_reducible refine (must_no _ _).mono ?_); rintro e W' ⟨rfl, rfl⟩))
                              rw [HR.out]
                              exact door_no w _ ge _ HGE.out (by simp) HVA.out.2.1 HVA.out.2.2
                          · have e3' : (q != s) = false := by simpa using e3
                            have HR := Aside0.mk (HRX.out (by unfold okC; simp [e3']))
                            clear e3
                            go_wp2_with (first | (go_at_call 47; refine (in_calls _ _ _ _).mono ?_; rintro e W' ⟨rfl, rfl⟩) | (go_at_call 46; (with_reducible refine (must_no _ _).mono ?_); rintro e W' ⟨rfl, rfl⟩))
                            rw [HR.out]
                            exact door_no w _ ge _ HGE.out (by simp) HVA.out.2.1 HVA.out.2.2
                        · have e2' : inB s 0 ((P.length : Int) - 1) = false := by simpa using e2
                          have HR := Aside0.mk (HRX.out (by unfold okC; simp [e2']))
                          clear e2
                          go_wp2_with (first | (go_at_call 47; refine (in_calls _ _ _ _).mono ?_; rintro e W' ⟨rfl, rfl⟩) | (go_at_call 46; (with_reducible refine (must_no _ _).mono ?_); rintro e W' ⟨rfl, rfl⟩))
                          rw [HR.out]
                          exact door_no w _ ge _ HGE.out (by simp) HVA.out.2.1 HVA.out.2.2
                      · have e1' : inB q 0 ((P.length : Int) - 1) = false := by simpa using e1
                        have HR := Aside0.mk (HRX.out (by unfold okC; simp [e1']))
                        clear e1
                        go_wp2_with (first | (go_at_call 47; refine (in_calls _ _ _ _).mono ?_; rintro e W' ⟨rfl, rfl⟩) | (go_at_call 46; (with_reducible refine (must_no _ _).mono ?_); rintro e W' ⟨rfl, rfl⟩))
                        rw [HR.out]
                        exact door_no w _ ge _ HGE.out (by simp) HVA.out.2.1 HVA.out.2.2
                    · have hii : ¬ (i : Int) < (Cn.length : Int) := by omega
                      have HR := Aside0.mk (HRY.out ⟨HPW.out.1, HPW.out.2.1, HPW.out.2.2, HOKP.out, HOKW.out, HS.out, fun j hj => HOK.out j (by have := HN.out; omega)⟩)
                      have r0 := (blk_cell HV.out.2.1 0).trans rfl
                      have r1 := blk_frozen HV.out.2.1 0
                      go_wp2
                      rw [HR.out]
                      exact door_yes w _ ge _ HGE.out (by simp) (blk_put HV.out.2.1 0 (.int .i64 0) rfl) (HV.out.2.2.andThen (gb_set _ ge 0 _) (fun j e => by cases e; exact .inl HGE.out)) _ (by first | exact .inl rfl | exact .inr rfl)
                · have HR := Aside0.mk (HRN.out (fun h => by have := hasF_iff.2 h.s; rw [hF] at this; cases this))
                  go_wp2_with (first | (go_at_call 48; refine (contains_calls (hasW Wn) gs P.length 8 hp8 _ HCE.out).mono ?_; rintro e W' ⟨rfl, rfl⟩) | (go_at_call 46; (with_reducible refine (must_no _ _).mono ?_); rintro e W' ⟨rfl, rfl⟩))
                  rw [HR.out]
                  exact door_no w _ ge _ HGE.out (by simp) HV.out.2.1 HV.out.2.2
      · rw [numE_no (fun h => hc1 h.c1)]
        have b3 : decide ((Cn.length : Int) ≤ 16) = false := decide_eq_false (by omega)
        go_enter_defers Try.func35, Try.ntmps35
        go_wp2_with (first | (go_at_call 47; refine (in_calls _ _ _ _).mono ?_; rintro e W' ⟨rfl, rfl⟩) | (go_at_call 46; (with_reducible refine (must_no _ _).mono ?_); rintro e W' ⟨rfl, rfl⟩))
        exact door_no w _ (w.heap.size + 1) _ (by omega) (by simp) HV0.out.2.1 HV0.out.2.2
    · rw [numE_no (fun h => hw1 h.w1)]
      have b2 : inB (Wn.length : Int) 1 32 = false := inB_false.2 (by omega)
      go_enter_defers Try.func35, Try.ntmps35
      go_wp2_with (first | (go_at_call 47; refine (in_calls _ _ _ _).mono ?_; rintro e W' ⟨rfl, rfl⟩) | (go_at_call 46; (with_reducible refine (must_no _ _).mono ?_); rintro e W' ⟨rfl, rfl⟩))
      exact door_no w _ (w.heap.size + 1) _ (by omega) (by simp) HV0.out.2.1 HV0.out.2.2
  · rw [numE_no (fun h => hp1 h.p1)]
    have b1 : inB (P.length : Int) 1 8 = false := inB_false.2 (by omega)
    go_enter_defers Try.func35, Try.ntmps35
    go_wp2_with (first | (go_at_call 47; refine (in_calls _ _ _ _).mono ?_; rintro e W' ⟨rfl, rfl⟩) | (go_at_call 46; (with_reducible refine (must_no _ _).mono ?_); rintro e W' ⟨rfl, rfl⟩))
    exact door_no w _ (w.heap.size + 1) _ (by omega) (by simp) HV0.out.2.1 HV0.out.2.2
end Go.Proofs.Ytfmpabdaadllaaa.PAll

/-
  conf.numbers, in the printed form.
-/
namespace Go.Proofs.Ytfmpabdaadllaaa.PAll
open Go.RowKit Go.Proofs.YtfmpabdaadllaaaW.PrintWords Go.Proofs.YtfmpabdaadllaaaW.PrintLast
set_option linter.unusedVariables false
def conf_numbers.f (k : Nat) (l0_0 : List S73) (l0_1 : List S75) (l0_2 : List S46) : Option Int := some (numE l0_0 l0_1 l0_2)
theorem conf_numbers.mono : ∀ a0 a1 a2 k, LeO (conf_numbers.f k a0 a1 a2) (conf_numbers.f (k + 1) a0 a1 a2) := fun _ _ _ _ => LeO.refl _
theorem conf_numbers.calls (k : Nat) (A0_0 : Option Addr) (c0_0 : Nat) (l0_0 : List (S73)) (A0_1 : Option Addr) (c0_1 : Nat) (l0_1 : List (S75)) (A0_2 : Option Addr) (c0_2 : Nat) (l0_2 : List (S46)) (r : Int) (w : World) (hr0_0 : Kd.C k73 w A0_0 l0_0.length l0_0) (hc0_0 : l0_0.length ≤ c0_0) (hr0_1 : Kd.C k75 w A0_1 l0_1.length l0_1) (hc0_1 : l0_1.length ≤ c0_1) (hr0_2 : Kd.C k46 w A0_2 l0_2.length l0_2) (hc0_2 : l0_2.length ≤ c0_2) (h : conf_numbers.f k l0_0 l0_1 l0_2 = some r) :
    Calls Try.prog 35 #[.agg #[.slice A0_0 l0_0.length c0_0, .slice A0_1 l0_1.length c0_1, .slice A0_2 l0_2.length c0_2]] w fun e w' => e = .returned (.int .i64 r) ∧ Below w.heap.size w w' := by
  obtain rfl : numE l0_0 l0_1 l0_2 = r := Option.some.inj h
  exact (numbers_calls l0_0 l0_1 l0_2 A0_0 c0_0 A0_1 c0_1 A0_2 c0_2 w hr0_0 hr0_1 hr0_2).mono (fun e W h => ⟨h.1, below_of_grown h.2⟩)
end Go.Proofs.Ytfmpabdaadllaaa.PAll

namespace Go.Proofs.Ytfmpabdaadllaaa.PAll
open Go.RowKit Go.Proofs.YtfmpabdaadllaaaW.PrintWords Go.Proofs.YtfmpabdaadllaaaW.PrintLast
set_option linter.unusedVariables false
set_option linter.unusedSimpArgs false
/-! ### conf_Frames: function 36 -/
mutual
def conf_Frames.l0 : Nat → Int → List (S73) → Int → Int → List (S73) → List (S75) → List (S46) → Option (Int)
  | 0, _, _, _, _, _, _, _ => none
  | k + 1, x3, x12, x13, x14, x355000, x355001, x355002 => if x14 < x13 then (if 0 ≤ x14 then (if x14 < (x12.length : Int) then ((conf_by.f ((rd_T73 x12 x14).f1) 3).bind fun t358 => (conf_Frames.l0 k (wrap64 (x3 + (wrap64 (((rd_T73 x12 x14).f0) + t358)))) x12 x13 (wrap64 (x14 + 1)) x355000 x355001 x355002)) else (none)) else (none)) else (conf_Frames.l1 k x3 x355002 (x355002.length : Int) 0)
def conf_Frames.l1 : Nat → Int → List (S46) → Int → Int → Option (Int)
  | 0, _, _, _, _ => none
  | k + 1, x3, x28, x29, x30 => if x30 < x29 then (if 0 ≤ x30 then (if x30 < (x28.length : Int) then ((conf_by.f (wrap64 (((rd_T46 x28 x30).f2) * (wrap64 (((rd_T46 x28 x30).f3) + 1)))) 32).bind fun t361 => (conf_Frames.l1 k (wrap64 (x3 + t361)) x28 x29 (wrap64 (x30 + 1)))) else (none)) else (none)) else (some x3)
end
def conf_Frames.f (k : Nat) (l0_0 : List (S73)) (l0_1 : List (S75)) (l0_2 : List (S46)) : Option (Int) := (conf_numbers.f k l0_0 l0_1 l0_2).bind fun t355 => (if t355 = 0 then (conf_Frames.l0 k 0 l0_0 (l0_0.length : Int) 0 l0_0 l0_1 l0_2) else (some 0))
theorem conf_Frames.mono_l : ∀ k, (∀ y0 y1 y2 y3 y4 y5 y6, LeO (conf_Frames.l0 k y0 y1 y2 y3 y4 y5 y6) (conf_Frames.l0 (k + 1) y0 y1 y2 y3 y4 y5 y6)) ∧ (∀ y0 y1 y2 y3, LeO (conf_Frames.l1 k y0 y1 y2 y3) (conf_Frames.l1 (k + 1) y0 y1 y2 y3))
  | 0 => ⟨fun _ _ _ _ _ _ _ r h => by simp [conf_Frames.l0] at h, fun _ _ _ _ r h => by simp [conf_Frames.l1] at h⟩
  | k + 1 => by
    obtain ⟨ih0, ih1⟩ := conf_Frames.mono_l k
    refine ⟨?_, ?_⟩
    · intro y0 y1 y2 y3 y4 y5 y6
      unfold conf_Frames.l0
      repeat' first
      | (with_reducible exact ih0 _ _ _ _ _ _ _)
      | (with_reducible exact ih1 _ _ _ _)
      | (with_reducible exact conf_numbers.mono _ _ _ _)
      | (with_reducible exact LeO.refl _)
      | (with_reducible exact LeO.none _)
      | (with_reducible refine LeO.ite ?_ ?_)
      | (with_reducible refine LeO.bind ?_ (fun _ => ?_))
      | exact ih0 _ _ _ _ _ _ _
      | exact ih1 _ _ _ _
      | exact conf_numbers.mono _ _ _ _
      | exact LeO.none _
      | refine LeO.ite ?_ ?_
      | refine LeO.bind ?_ (fun _ => ?_)
    · intro y0 y1 y2 y3
      unfold conf_Frames.l1
      repeat' first
      | (with_reducible exact ih0 _ _ _ _ _ _ _)
      | (with_reducible exact ih1 _ _ _ _)
      | (with_reducible exact conf_numbers.mono _ _ _ _)
      | (with_reducible exact LeO.refl _)
      | (with_reducible exact LeO.none _)
      | (with_reducible refine LeO.ite ?_ ?_)
      | (with_reducible refine LeO.bind ?_ (fun _ => ?_))
      | exact ih0 _ _ _ _ _ _ _
      | exact ih1 _ _ _ _
      | exact conf_numbers.mono _ _ _ _
      | exact LeO.none _
      | refine LeO.ite ?_ ?_
      | refine LeO.bind ?_ (fun _ => ?_)
theorem conf_Frames.mono : ∀ a0 a1 a2 k, LeO (conf_Frames.f k a0 a1 a2) (conf_Frames.f (k + 1) a0 a1 a2) := by
  intro a0 a1 a2 k
  obtain ⟨ih0, ih1⟩ := conf_Frames.mono_l k
  unfold conf_Frames.f
  repeat' first
      | (with_reducible exact ih0 _ _ _ _ _ _ _)
      | (with_reducible exact ih1 _ _ _ _)
      | (with_reducible exact conf_numbers.mono _ _ _ _)
      | (with_reducible exact LeO.refl _)
      | (with_reducible exact LeO.none _)
      | (with_reducible refine LeO.ite ?_ ?_)
      | (with_reducible refine LeO.bind ?_ (fun _ => ?_))
      | exact ih0 _ _ _ _ _ _ _
      | exact ih1 _ _ _ _
      | exact conf_numbers.mono _ _ _ _
      | exact LeO.none _
      | refine LeO.ite ?_ ?_
      | refine LeO.bind ?_ (fun _ => ?_)
set_option maxHeartbeats 8000000 in
set_option maxRecDepth 100000 in
theorem conf_Frames.calls (k : Nat) (A0_0 : Option Addr) (c0_0 : Nat) (l0_0 : List (S73)) (A0_1 : Option Addr) (c0_1 : Nat) (l0_1 : List (S75)) (A0_2 : Option Addr) (c0_2 : Nat) (l0_2 : List (S46)) (r : Int) (w : World) (hr0_0 : Kd.C k73 w A0_0 l0_0.length l0_0) (hc0_0 : l0_0.length ≤ c0_0) (hr0_1 : Kd.C k75 w A0_1 l0_1.length l0_1) (hc0_1 : l0_1.length ≤ c0_1) (hr0_2 : Kd.C k46 w A0_2 l0_2.length l0_2) (hc0_2 : l0_2.length ≤ c0_2) (h : conf_Frames.f k l0_0 l0_1 l0_2 = some r) :
    Calls Try.prog 36 #[.agg #[.slice A0_0 l0_0.length c0_0, .slice A0_1 l0_1.length c0_1, .slice A0_2 l0_2.length c0_2]] w fun e w' => e = .returned (.int .i64 r) ∧ Below w.heap.size w w' := by
  have hu26 := Try.underlying26
  have hu73 := Try.underlying73
  have hu46 := Try.underlying46
  have HR0_0 := Aside0.mk hr0_0
  have HC0_0 := Aside0.mk hc0_0
  clear hr0_0 hc0_0
  have HR0_1 := Aside0.mk hr0_1
  have HC0_1 := Aside0.mk hc0_1
  clear hr0_1 hc0_1
  have HR0_2 := Aside0.mk hr0_2
  have HC0_2 := Aside0.mk hc0_2
  clear hr0_2 hc0_2
  have HB := Aside0.mk (Below.refl w.heap.size w)
  have H : ((conf_numbers.f k l0_0 l0_1 l0_2).bind fun t355 => (if t355 = 0 then (conf_Frames.l0 k 0 l0_0 (l0_0.length : Int) 0 l0_0 l0_1 l0_2) else (some 0))) = some r := h
  clear h
  replace H := Option.bind_eq_some_iff.mp H
  obtain ⟨t355, A20, H⟩ := H
  replace H : (if t355 = 0 then (conf_Frames.l0 k 0 l0_0 (l0_0.length : Int) 0 l0_0 l0_1 l0_2) else (some 0)) = some r := H
  have A2 := Aside0.mk A20
  clear A20
  by_cases c3 : t355 = 0
  · rw [if_pos c3] at H
    have c3b0 : (t355 == 0) = true := beq_iff_eq.mpr c3
    have c3b1 : (t355 != 0) = false := bne_eq_false_iff_eq.mpr c3
    clear c3
    have H' := Aside0.mk H
    clear H
    go_enter Try.func36, Try.ntmps36
    go_wp2_with (first | ((with_reducible refine gate_dst (N := 1) rfl ?_); refine box_event ?hg (N := 1) ?hd (cs := #[.slice A0_0 l0_0.length c0_0, .slice A0_1 l0_1.length c0_1, .slice A0_2 l0_2.length c0_2]) (t := 26) ?hr ?_; (case hd => rfl); (case hg => rfl); (case hr => first | (go_simp; done) | (go_simp; rfl)); intro gb354 hg w4 hbox hb; have n0_ := Aside0.mk (below_step (by repeat (first | (with_reducible first | exact HB.out | apply below_alloc | apply pw_below_drewN | apply below_drew1) | exact HB.out)) hb); have n1_ := Aside0.mk (hbox); have n2_ := Aside0.mk ((by rw [hg]; exact (below_size (by repeat (first | (with_reducible first | exact HB.out | apply below_alloc | apply pw_below_drewN | apply below_drew1) | exact HB.out))) : w.heap.size ≤ gb354)); have n3_ := Aside0.mk ((by rw [hg]; exact (below_size (by repeat (first | (with_reducible first | exact HB.out | apply below_alloc | apply pw_below_drewN | apply below_drew1) | exact HB.out))) : w.heap.size ≤ gb354)); clear HB; have HB := n0_; have BK354 := n1_; have GW354 := n2_; have GE354 := n3_; clear n0_ n1_ n2_ n3_; clear hb hbox hg; have hcz5_0 : w4.cell? ⟨gb354, 0, none⟩ = some (.slice A0_0 l0_0.length c0_0) := (blk_cell BK354.out 0).trans rfl; have hcz5_1 : w4.cell? ⟨gb354, 1, none⟩ = some (.slice A0_1 l0_1.length c0_1) := (blk_cell BK354.out 1).trans rfl; have hcz5_2 : w4.cell? ⟨gb354, 2, none⟩ = some (.slice A0_2 l0_2.length c0_2) := (blk_cell BK354.out 2).trans rfl; have hfz5_0 := blk_frozen BK354.out 0; have hfz5_1 := blk_frozen BK354.out 1; have hfz5_2 := blk_frozen BK354.out 2) | (go_at_call 35; (with_reducible refine (conf_numbers.calls k _ _ l0_0 _ _ l0_1 _ _ l0_2 t355 _ ?side1 ?side2 ?side3 ?side4 ?side5 ?side6 A2.out).mono ?_); (case side1 => repeat (first | exact (Kd.C_below HR0_0.out HB.out) | (with_reducible refine Kd.C_alloc ?_ _) | (with_reducible refine Kd.C_drewN ?_ _) | (with_reducible refine Kd.C_drew ?_))); (case side2 => exact HC0_0.out); (case side3 => repeat (first | exact (Kd.C_below HR0_1.out HB.out) | (with_reducible refine Kd.C_alloc ?_ _) | (with_reducible refine Kd.C_drewN ?_ _) | (with_reducible refine Kd.C_drew ?_))); (case side4 => exact HC0_1.out); (case side5 => repeat (first | exact (Kd.C_below HR0_2.out HB.out) | (with_reducible refine Kd.C_alloc ?_ _) | (with_reducible refine Kd.C_drewN ?_ _) | (with_reducible refine Kd.C_drew ?_))); (case side6 => exact HC0_2.out); rintro e w6 ⟨rfl, hb⟩; have n0_ := Aside0.mk (blk_below (g := gb354) (o := .cells #[.slice A0_0 l0_0.length c0_0, .slice A0_1 l0_1.length c0_1, .slice A0_2 l0_2.length c0_2] 26 (0, 0)) (by (with_reducible repeat (first | refine blk_drewN ?_ _ | refine blk_drew ?_ | refine blk_alloc ?_ _)); exact BK354.out) hb); have n1_ := Aside0.mk (below_step (by repeat (first | (with_reducible first | exact HB.out | apply below_alloc | apply pw_below_drewN | apply below_drew1 | refine below_set ?_ GE354.out) | exact HB.out)) hb); clear BK354; clear HB; have BK354 := n0_; have HB := n1_; clear n0_ n1_; (try clear hb); (try clear hb2); (try clear hk); (try clear hi); have hcz7_0 : w6.cell? ⟨gb354, 0, none⟩ = some (.slice A0_0 l0_0.length c0_0) := (blk_cell BK354.out 0).trans rfl; have hcz7_1 : w6.cell? ⟨gb354, 1, none⟩ = some (.slice A0_1 l0_1.length c0_1) := (blk_cell BK354.out 1).trans rfl; have hcz7_2 : w6.cell? ⟨gb354, 2, none⟩ = some (.slice A0_2 l0_2.length c0_2) := (blk_cell BK354.out 2).trans rfl; have hfz7_0 := blk_frozen BK354.out 0; have hfz7_1 := blk_frozen BK354.out 1; have hfz7_2 := blk_frozen BK354.out 2))
    repeat (go_quiet (first | ((with_reducible refine gate_dst (N := 1) rfl ?_); refine box_event ?hg (N := 1) ?hd (cs := #[.slice A0_0 l0_0.length c0_0, .slice A0_1 l0_1.length c0_1, .slice A0_2 l0_2.length c0_2]) (t := 26) ?hr ?_; (case hd => rfl); (case hg => rfl); (case hr => first | (go_simp; done) | (go_simp; rfl)); intro gb354 hg w4 hbox hb; have n0_ := Aside0.mk (below_step (by repeat (first | (with_reducible first | exact HB.out | apply below_alloc | apply pw_below_drewN | apply below_drew1) | exact HB.out)) hb); have n1_ := Aside0.mk (hbox); have n2_ := Aside0.mk ((by rw [hg]; exact (below_size (by repeat (first | (with_reducible first | exact HB.out | apply below_alloc | apply pw_below_drewN | apply below_drew1) | exact HB.out))) : w.heap.size ≤ gb354)); have n3_ := Aside0.mk ((by rw [hg]; exact (below_size (by repeat (first | (with_reducible first | exact HB.out | apply below_alloc | apply pw_below_drewN | apply below_drew1) | exact HB.out))) : w.heap.size ≤ gb354)); clear HB; have HB := n0_; have BK354 := n1_; have GW354 := n2_; have GE354 := n3_; clear n0_ n1_ n2_ n3_; clear hb hbox hg; have hcz5_0 : w4.cell? ⟨gb354, 0, none⟩ = some (.slice A0_0 l0_0.length c0_0) := (blk_cell BK354.out 0).trans rfl; have hcz5_1 : w4.cell? ⟨gb354, 1, none⟩ = some (.slice A0_1 l0_1.length c0_1) := (blk_cell BK354.out 1).trans rfl; have hcz5_2 : w4.cell? ⟨gb354, 2, none⟩ = some (.slice A0_2 l0_2.length c0_2) := (blk_cell BK354.out 2).trans rfl; have hfz5_0 := blk_frozen BK354.out 0; have hfz5_1 := blk_frozen BK354.out 1; have hfz5_2 := blk_frozen BK354.out 2) | (go_at_call 35; (with_reducible refine (conf_numbers.calls k _ _ l0_0 _ _ l0_1 _ _ l0_2 t355 _ ?side1 ?side2 ?side3 ?side4 ?side5 ?side6 A2.out).mono ?_); (case side1 => repeat (first | exact (Kd.C_below HR0_0.out HB.out) | (with_reducible refine Kd.C_alloc ?_ _) | (with_reducible refine Kd.C_drewN ?_ _) | (with_reducible refine Kd.C_drew ?_))); (case side2 => exact HC0_0.out); (case side3 => repeat (first | exact (Kd.C_below HR0_1.out HB.out) | (with_reducible refine Kd.C_alloc ?_ _) | (with_reducible refine Kd.C_drewN ?_ _) | (with_reducible refine Kd.C_drew ?_))); (case side4 => exact HC0_1.out); (case side5 => repeat (first | exact (Kd.C_below HR0_2.out HB.out) | (with_reducible refine Kd.C_alloc ?_ _) | (with_reducible refine Kd.C_drewN ?_ _) | (with_reducible refine Kd.C_drew ?_))); (case side6 => exact HC0_2.out); rintro e w6 ⟨rfl, hb⟩; have n0_ := Aside0.mk (blk_below (g := gb354) (o := .cells #[.slice A0_0 l0_0.length c0_0, .slice A0_1 l0_1.length c0_1, .slice A0_2 l0_2.length c0_2] 26 (0, 0)) (by (with_reducible repeat (first | refine blk_drewN ?_ _ | refine blk_drew ?_ | refine blk_alloc ?_ _)); exact BK354.out) hb); have n1_ := Aside0.mk (below_step (by repeat (first | (with_reducible first | exact HB.out | apply below_alloc | apply pw_below_drewN | apply below_drew1 | refine below_set ?_ GE354.out) | exact HB.out)) hb); clear BK354; clear HB; have BK354 := n0_; have HB := n1_; clear n0_ n1_; (try clear hb); (try clear hb2); (try clear hk); (try clear hi); have hcz7_0 : w6.cell? ⟨gb354, 0, none⟩ = some (.slice A0_0 l0_0.length c0_0) := (blk_cell BK354.out 0).trans rfl; have hcz7_1 : w6.cell? ⟨gb354, 1, none⟩ = some (.slice A0_1 l0_1.length c0_1) := (blk_cell BK354.out 1).trans rfl; have hcz7_2 : w6.cell? ⟨gb354, 2, none⟩ = some (.slice A0_2 l0_2.length c0_2) := (blk_cell BK354.out 2).trans rfl; have hfz7_0 := blk_frozen BK354.out 0; have hfz7_1 := blk_frozen BK354.out 1; have hfz7_2 := blk_frozen BK354.out 2)); try go_wp2_with (first | ((with_reducible refine gate_dst (N := 1) rfl ?_); refine box_event ?hg (N := 1) ?hd (cs := #[.slice A0_0 l0_0.length c0_0, .slice A0_1 l0_1.length c0_1, .slice A0_2 l0_2.length c0_2]) (t := 26) ?hr ?_; (case hd => rfl); (case hg => rfl); (case hr => first | (go_simp; done) | (go_simp; rfl)); intro gb354 hg w4 hbox hb; have n0_ := Aside0.mk (below_step (by repeat (first | (with_reducible first | exact HB.out | apply below_alloc | apply pw_below_drewN | apply below_drew1) | exact HB.out)) hb); have n1_ := Aside0.mk (hbox); have n2_ := Aside0.mk ((by rw [hg]; exact (below_size (by repeat (first | (with_reducible first | exact HB.out | apply below_alloc | apply pw_below_drewN | apply below_drew1) | exact HB.out))) : w.heap.size ≤ gb354)); have n3_ := Aside0.mk ((by rw [hg]; exact (below_size (by repeat (first | (with_reducible first | exact HB.out | apply below_alloc | apply pw_below_drewN | apply below_drew1) | exact HB.out))) : w.heap.size ≤ gb354)); clear HB; have HB := n0_; have BK354 := n1_; have GW354 := n2_; have GE354 := n3_; clear n0_ n1_ n2_ n3_; clear hb hbox hg; have hcz5_0 : w4.cell? ⟨gb354, 0, none⟩ = some (.slice A0_0 l0_0.length c0_0) := (blk_cell BK354.out 0).trans rfl; have hcz5_1 : w4.cell? ⟨gb354, 1, none⟩ = some (.slice A0_1 l0_1.length c0_1) := (blk_cell BK354.out 1).trans rfl; have hcz5_2 : w4.cell? ⟨gb354, 2, none⟩ = some (.slice A0_2 l0_2.length c0_2) := (blk_cell BK354.out 2).trans rfl; have hfz5_0 := blk_frozen BK354.out 0; have hfz5_1 := blk_frozen BK354.out 1; have hfz5_2 := blk_frozen BK354.out 2) | (go_at_call 35; (with_reducible refine (conf_numbers.calls k _ _ l0_0 _ _ l0_1 _ _ l0_2 t355 _ ?side1 ?side2 ?side3 ?side4 ?side5 ?side6 A2.out).mono ?_); (case side1 => repeat (first | exact (Kd.C_below HR0_0.out HB.out) | (with_reducible refine Kd.C_alloc ?_ _) | (with_reducible refine Kd.C_drewN ?_ _) | (with_reducible refine Kd.C_drew ?_))); (case side2 => exact HC0_0.out); (case side3 => repeat (first | exact (Kd.C_below HR0_1.out HB.out) | (with_reducible refine Kd.C_alloc ?_ _) | (with_reducible refine Kd.C_drewN ?_ _) | (with_reducible refine Kd.C_drew ?_))); (case side4 => exact HC0_1.out); (case side5 => repeat (first | exact (Kd.C_below HR0_2.out HB.out) | (with_reducible refine Kd.C_alloc ?_ _) | (with_reducible refine Kd.C_drewN ?_ _) | (with_reducible refine Kd.C_drew ?_))); (case side6 => exact HC0_2.out); rintro e w6 ⟨rfl, hb⟩; have n0_ := Aside0.mk (blk_below (g := gb354) (o := .cells #[.slice A0_0 l0_0.length c0_0, .slice A0_1 l0_1.length c0_1, .slice A0_2 l0_2.length c0_2] 26 (0, 0)) (by (with_reducible repeat (first | refine blk_drewN ?_ _ | refine blk_drew ?_ | refine blk_alloc ?_ _)); exact BK354.out) hb); have n1_ := Aside0.mk (below_step (by repeat (first | (with_reducible first | exact HB.out | apply below_alloc | apply pw_below_drewN | apply below_drew1 | refine below_set ?_ GE354.out) | exact HB.out)) hb); clear BK354; clear HB; have BK354 := n0_; have HB := n1_; clear n0_ n1_; (try clear hb); (try clear hb2); (try clear hk); (try clear hi); have hcz7_0 : w6.cell? ⟨gb354, 0, none⟩ = some (.slice A0_0 l0_0.length c0_0) := (blk_cell BK354.out 0).trans rfl; have hcz7_1 : w6.cell? ⟨gb354, 1, none⟩ = some (.slice A0_1 l0_1.length c0_1) := (blk_cell BK354.out 1).trans rfl; have hcz7_2 : w6.cell? ⟨gb354, 2, none⟩ = some (.slice A0_2 l0_2.length c0_2) := (blk_cell BK354.out 2).trans rfl; have hfz7_0 := blk_frozen BK354.out 0; have hfz7_1 := blk_frozen BK354.out 1; have hfz7_2 := blk_frozen BK354.out 2)))
    go_loopg [3, 14] k (fun kq v3 v14 w' => ∃ (x3_1 : Int) (x14_1 : Int), v3 = .int .i64 x3_1 ∧ v14 = .int .i64 x14_1 ∧ Aside0 (conf_Frames.l0 kq x3_1 l0_0 (l0_0.length : Int) x14_1 l0_0 l0_1 l0_2 = some r) ∧ Aside0 (kq ≤ k) ∧ Aside0 (w'.heap[gb354]? = some (.cells #[(.slice A0_0 l0_0.length c0_0), (.slice A0_1 l0_1.length c0_1), (.slice A0_2 l0_2.length c0_2)] 26 (0, 0))) ∧ Aside0 (Below w.heap.size w w'))
    case atStart => exact ⟨(0), (0), (by first | rfl | (simp; done) | (simp [*]; done)), (by first | rfl | (simp; done) | (simp [*]; done)), H', ⟨Nat.le_refl _⟩, ⟨by (with_reducible repeat (first | refine blk_drewN ?_ _ | refine blk_drew ?_ | refine blk_alloc ?_ _)); exact BK354.out⟩, ⟨by repeat (first | (with_reducible first | exact HB.out | apply below_alloc | apply pw_below_drewN | apply below_drew1 | refine below_set ?_ GE354.out) | exact HB.out)⟩⟩
    case round =>
      clear H'
      try clear p2
      try clear c3
      try clear c3b0
      try clear c3b1
      try clear hcz5_0
      try clear hcz5_1
      try clear hcz5_2
      try clear hcz7_0
      try clear hcz7_1
      try clear hcz7_2
      try clear hfz5_0
      try clear hfz5_1
      try clear hfz5_2
      try clear hfz7_0
      try clear hfz7_1
      try clear hfz7_2
      obtain ⟨x3_1, x14_1, rfl, rfl, HA, HK1, BK354, HB⟩ := hrel
      cases gk with
      | zero => exact absurd HA.out (by simp [conf_Frames.l0])
      | succ k1 =>
        have H := HA.out
        clear HA
        simp only [conf_Frames.l0] at H
        by_cases c8 : x14_1 < (l0_0.length : Int)
        · rw [if_pos c8] at H
          have c8b0 : decide (x14_1 < (l0_0.length : Int)) = true := decide_eq_true c8
          clear c8
          by_cases c9 : 0 ≤ x14_1
          · rw [if_pos c9] at H
            have c9b0 : decide (0 ≤ x14_1) = true := decide_eq_true c9
            clear c9
            by_cases c10 : x14_1 < (l0_0.length : Int)
            · rw [if_pos c10] at H
              have c10b0 : decide (x14_1 < (l0_0.length : Int)) = true := decide_eq_true c10
              clear c10
              replace H := Option.bind_eq_some_iff.mp H
              obtain ⟨t358, A110, H⟩ := H
              replace H : (conf_Frames.l0 k1 (wrap64 (x3_1 + (wrap64 (((rd_T73 l0_0 x14_1).f0) + t358)))) l0_0 (l0_0.length : Int) (wrap64 (x14_1 + 1)) l0_0 l0_1 l0_2) = some r := H
              have A11 := Aside0.mk A110
              clear A110
              have H' := Aside0.mk H
              clear H
              have p356 : 0 ≤ (x14_1 : Int) := of_decide_eq_true (by first | (with_reducible assumption) | assumption)
              have q356 : x14_1 < (l0_0.length : Int) := of_decide_eq_true (by first | (with_reducible assumption) | assumption)
              obtain ⟨ad356, e356, hx356_0, hx356_1⟩ := at_T73 HR0_0.out x14_1 p356 q356
              cases e356
              replace hx356_0 := (HB.out.cell (World.block_lt_of_cell? w _ hx356_0)).trans hx356_0
              replace hx356_1 := (HB.out.cell (World.block_lt_of_cell? w _ hx356_1)).trans hx356_1
              replace p356 := eq_true p356
              replace q356 := eq_true q356
              go_wp2_with (first | ((with_reducible refine gate_dst (N := 5) rfl ?_); refine box_event ?hg (N := 5) ?hd (cs := #[.int .i64 0, .int .i64 0]) (t := 73) ?hr ?_; (case hd => rfl); (case hg => rfl); (case hr => first | (go_simp; done) | (go_simp; rfl)); intro gb357 hg w12 hbox hb; have n0_ := Aside0.mk (blk_below (g := gb354) (o := .cells #[.slice (some ad356) l0_0.length c0_0, .slice A0_1 l0_1.length c0_1, .slice A0_2 l0_2.length c0_2] 26 (0, 0)) (by (with_reducible repeat (first | refine blk_drewN ?_ _ | refine blk_drew ?_ | refine blk_alloc ?_ _)); exact BK354.out) hb); have n1_ := Aside0.mk (below_step (by repeat (first | (with_reducible first | exact HB.out | apply below_alloc | apply pw_below_drewN | apply below_drew1 | refine below_set ?_ GE354.out) | exact HB.out)) hb); have n2_ := Aside0.mk (hbox); have n3_ := Aside0.mk ((by rw [hg]; exact (below_size (by repeat (first | (with_reducible first | exact HB.out | apply below_alloc | apply pw_below_drewN | apply below_drew1 | refine below_set ?_ GE354.out) | exact HB.out))) : w.heap.size ≤ gb357)); have n4_ := Aside0.mk ((by rw [hg]; exact (below_size (by repeat (first | (with_reducible first | exact HB.out | apply below_alloc | apply pw_below_drewN | apply below_drew1 | refine below_set ?_ GE354.out) | exact HB.out))) : w.heap.size ≤ gb357)); have n5_ := Aside0.mk ((by rw [hg]; exact Nat.ne_of_lt (blk_lt (g := gb354) (o := .cells #[.slice (some ad356) l0_0.length c0_0, .slice A0_1 l0_1.length c0_1, .slice A0_2 l0_2.length c0_2] 26 (0, 0)) (by (with_reducible repeat (first | refine blk_drewN ?_ _ | refine blk_drew ?_ | refine blk_alloc ?_ _)); exact BK354.out)) : gb354 ≠ gb357)); have n6_ := Aside0.mk ((by rw [hg]; exact Nat.ne_of_gt (blk_lt (g := gb354) (o := .cells #[.slice (some ad356) l0_0.length c0_0, .slice A0_1 l0_1.length c0_1, .slice A0_2 l0_2.length c0_2] 26 (0, 0)) (by (with_reducible repeat (first | refine blk_drewN ?_ _ | refine blk_drew ?_ | refine blk_alloc ?_ _)); exact BK354.out)) : gb357 ≠ gb354)); clear BK354; clear HB; have BK354 := n0_; have HB := n1_; have BK357 := n2_; have GW357 := n3_; have GE357 := n4_; have NB354_357 := n5_; have NB357_354 := n6_; clear n0_ n1_ n2_ n3_ n4_ n5_ n6_; clear hb hbox hg; have hnb13 := NB357_354.out; have hnc13 := NB354_357.out; have hcz14_0 : w12.cell? ⟨gb357, 0, none⟩ = some (.int .i64 0) := (blk_cell BK357.out 0).trans rfl; have hcz14_1 : w12.cell? ⟨gb357, 1, none⟩ = some (.int .i64 0) := (blk_cell BK357.out 1).trans rfl; have hfz14_0 := blk_frozen BK357.out 0; have hfz14_1 := blk_frozen BK357.out 1) | (go_at_call 49; (with_reducible refine (conf_by.calls ((rd_T73 l0_0 x14_1).f1) 3 t358 _ A11.out).mono ?_); rintro e w' ⟨rfl, ⟨nd, rfl⟩⟩; (try first | exact ⟨rfl, _, World.drewN_drewN _ _ _⟩ | exact ⟨rfl, _, Eq.trans (World.drewN_drewN _ _ _) (congrArg (World.drewN _) (Nat.add_assoc _ _ _))⟩)))
              repeat (go_quiet (first | ((with_reducible refine gate_dst (N := 5) rfl ?_); refine box_event ?hg (N := 5) ?hd (cs := #[.int .i64 0, .int .i64 0]) (t := 73) ?hr ?_; (case hd => rfl); (case hg => rfl); (case hr => first | (go_simp; done) | (go_simp; rfl)); intro gb357 hg w12 hbox hb; have n0_ := Aside0.mk (blk_below (g := gb354) (o := .cells #[.slice (some ad356) l0_0.length c0_0, .slice A0_1 l0_1.length c0_1, .slice A0_2 l0_2.length c0_2] 26 (0, 0)) (by (with_reducible repeat (first | refine blk_drewN ?_ _ | refine blk_drew ?_ | refine blk_alloc ?_ _)); exact BK354.out) hb); have n1_ := Aside0.mk (below_step (by repeat (first | (with_reducible first | exact HB.out | apply below_alloc | apply pw_below_drewN | apply below_drew1 | refine below_set ?_ GE354.out) | exact HB.out)) hb); have n2_ := Aside0.mk (hbox); have n3_ := Aside0.mk ((by rw [hg]; exact (below_size (by repeat (first | (with_reducible first | exact HB.out | apply below_alloc | apply pw_below_drewN | apply below_drew1 | refine below_set ?_ GE354.out) | exact HB.out))) : w.heap.size ≤ gb357)); have n4_ := Aside0.mk ((by rw [hg]; exact (below_size (by repeat (first | (with_reducible first | exact HB.out | apply below_alloc | apply pw_below_drewN | apply below_drew1 | refine below_set ?_ GE354.out) | exact HB.out))) : w.heap.size ≤ gb357)); have n5_ := Aside0.mk ((by rw [hg]; exact Nat.ne_of_lt (blk_lt (g := gb354) (o := .cells #[.slice (some ad356) l0_0.length c0_0, .slice A0_1 l0_1.length c0_1, .slice A0_2 l0_2.length c0_2] 26 (0, 0)) (by (with_reducible repeat (first | refine blk_drewN ?_ _ | refine blk_drew ?_ | refine blk_alloc ?_ _)); exact BK354.out)) : gb354 ≠ gb357)); have n6_ := Aside0.mk ((by rw [hg]; exact Nat.ne_of_gt (blk_lt (g := gb354) (o := .cells #[.slice (some ad356) l0_0.length c0_0, .slice A0_1 l0_1.length c0_1, .slice A0_2 l0_2.length c0_2] 26 (0, 0)) (by (with_reducible repeat (first | refine blk_drewN ?_ _ | refine blk_drew ?_ | refine blk_alloc ?_ _)); exact BK354.out)) : gb357 ≠ gb354)); clear BK354; clear HB; have BK354 := n0_; have HB := n1_; have BK357 := n2_; have GW357 := n3_; have GE357 := n4_; have NB354_357 := n5_; have NB357_354 := n6_; clear n0_ n1_ n2_ n3_ n4_ n5_ n6_; clear hb hbox hg; have hnb13 := NB357_354.out; have hnc13 := NB354_357.out; have hcz14_0 : w12.cell? ⟨gb357, 0, none⟩ = some (.int .i64 0) := (blk_cell BK357.out 0).trans rfl; have hcz14_1 : w12.cell? ⟨gb357, 1, none⟩ = some (.int .i64 0) := (blk_cell BK357.out 1).trans rfl; have hfz14_0 := blk_frozen BK357.out 0; have hfz14_1 := blk_frozen BK357.out 1) | (go_at_call 49; (with_reducible refine (conf_by.calls ((rd_T73 l0_0 x14_1).f1) 3 t358 _ A11.out).mono ?_); rintro e w' ⟨rfl, ⟨nd, rfl⟩⟩; (try first | exact ⟨rfl, _, World.drewN_drewN _ _ _⟩ | exact ⟨rfl, _, Eq.trans (World.drewN_drewN _ _ _) (congrArg (World.drewN _) (Nat.add_assoc _ _ _))⟩))); try go_wp2_with (first | ((with_reducible refine gate_dst (N := 5) rfl ?_); refine box_event ?hg (N := 5) ?hd (cs := #[.int .i64 0, .int .i64 0]) (t := 73) ?hr ?_; (case hd => rfl); (case hg => rfl); (case hr => first | (go_simp; done) | (go_simp; rfl)); intro gb357 hg w12 hbox hb; have n0_ := Aside0.mk (blk_below (g := gb354) (o := .cells #[.slice (some ad356) l0_0.length c0_0, .slice A0_1 l0_1.length c0_1, .slice A0_2 l0_2.length c0_2] 26 (0, 0)) (by (with_reducible repeat (first | refine blk_drewN ?_ _ | refine blk_drew ?_ | refine blk_alloc ?_ _)); exact BK354.out) hb); have n1_ := Aside0.mk (below_step (by repeat (first | (with_reducible first | exact HB.out | apply below_alloc | apply pw_below_drewN | apply below_drew1 | refine below_set ?_ GE354.out) | exact HB.out)) hb); have n2_ := Aside0.mk (hbox); have n3_ := Aside0.mk ((by rw [hg]; exact (below_size (by repeat (first | (with_reducible first | exact HB.out | apply below_alloc | apply pw_below_drewN | apply below_drew1 | refine below_set ?_ GE354.out) | exact HB.out))) : w.heap.size ≤ gb357)); have n4_ := Aside0.mk ((by rw [hg]; exact (below_size (by repeat (first | (with_reducible first | exact HB.out | apply below_alloc | apply pw_below_drewN | apply below_drew1 | refine below_set ?_ GE354.out) | exact HB.out))) : w.heap.size ≤ gb357)); have n5_ := Aside0.mk ((by rw [hg]; exact Nat.ne_of_lt (blk_lt (g := gb354) (o := .cells #[.slice (some ad356) l0_0.length c0_0, .slice A0_1 l0_1.length c0_1, .slice A0_2 l0_2.length c0_2] 26 (0, 0)) (by (with_reducible repeat (first | refine blk_drewN ?_ _ | refine blk_drew ?_ | refine blk_alloc ?_ _)); exact BK354.out)) : gb354 ≠ gb357)); have n6_ := Aside0.mk ((by rw [hg]; exact Nat.ne_of_gt (blk_lt (g := gb354) (o := .cells #[.slice (some ad356) l0_0.length c0_0, .slice A0_1 l0_1.length c0_1, .slice A0_2 l0_2.length c0_2] 26 (0, 0)) (by (with_reducible repeat (first | refine blk_drewN ?_ _ | refine blk_drew ?_ | refine blk_alloc ?_ _)); exact BK354.out)) : gb357 ≠ gb354)); clear BK354; clear HB; have BK354 := n0_; have HB := n1_; have BK357 := n2_; have GW357 := n3_; have GE357 := n4_; have NB354_357 := n5_; have NB357_354 := n6_; clear n0_ n1_ n2_ n3_ n4_ n5_ n6_; clear hb hbox hg; have hnb13 := NB357_354.out; have hnc13 := NB354_357.out; have hcz14_0 : w12.cell? ⟨gb357, 0, none⟩ = some (.int .i64 0) := (blk_cell BK357.out 0).trans rfl; have hcz14_1 : w12.cell? ⟨gb357, 1, none⟩ = some (.int .i64 0) := (blk_cell BK357.out 1).trans rfl; have hfz14_0 := blk_frozen BK357.out 0; have hfz14_1 := blk_frozen BK357.out 1) | (go_at_call 49; (with_reducible refine (conf_by.calls ((rd_T73 l0_0 x14_1).f1) 3 t358 _ A11.out).mono ?_); rintro e w' ⟨rfl, ⟨nd, rfl⟩⟩; (try first | exact ⟨rfl, _, World.drewN_drewN _ _ _⟩ | exact ⟨rfl, _, Eq.trans (World.drewN_drewN _ _ _) (congrArg (World.drewN _) (Nat.add_assoc _ _ _))⟩))))
              go_roundg k1
              case measure => have := HK1.out; omega
              case rel => exact ⟨(wrap64 (x3_1 + (wrap64 (((rd_T73 l0_0 x14_1).f0) + t358)))), (wrap64 (x14_1 + 1)), (by first | rfl | (simp; done) | (simp [*]; done)), (by first | rfl | (simp; done) | (simp [*]; done)), H', ⟨by have := HK1.out; omega⟩, ⟨by (with_reducible repeat (first | refine blk_drewN ?_ _ | refine blk_drew ?_ | refine blk_alloc ?_ _)); refine blk_far ?_ NB354_357.out _; (with_reducible repeat (first | refine blk_drewN ?_ _ | refine blk_drew ?_ | refine blk_alloc ?_ _)); refine blk_far ?_ NB354_357.out _; (with_reducible repeat (first | refine blk_drewN ?_ _ | refine blk_drew ?_ | refine blk_alloc ?_ _)); exact BK354.out⟩, ⟨by repeat (first | (with_reducible first | exact HB.out | apply below_alloc | apply pw_below_drewN | apply below_drew1 | refine below_set ?_ GE354.out | refine below_set ?_ GE357.out) | exact HB.out)⟩⟩
            · rw [if_neg c10] at H
              exact absurd H (by simp)
          · rw [if_neg c9] at H
            exact absurd H (by simp)
        · rw [if_neg c8] at H
          have c8b0 : decide (x14_1 < (l0_0.length : Int)) = false := decide_eq_false c8
          clear c8
          have H' := Aside0.mk H
          clear H
          have hcz15_0 : wr.cell? ⟨gb354, 0, none⟩ = some (.slice A0_0 l0_0.length c0_0) := (blk_cell BK354.out 0).trans rfl
          have hcz15_1 : wr.cell? ⟨gb354, 1, none⟩ = some (.slice A0_1 l0_1.length c0_1) := (blk_cell BK354.out 1).trans rfl
          have hcz15_2 : wr.cell? ⟨gb354, 2, none⟩ = some (.slice A0_2 l0_2.length c0_2) := (blk_cell BK354.out 2).trans rfl
          have hfz15_0 := blk_frozen BK354.out 0
          have hfz15_1 := blk_frozen BK354.out 1
          have hfz15_2 := blk_frozen BK354.out 2
          go_wp2
          repeat (go_quiet (fail); try go_wp2)
          go_loopg [3, 30] k1 (fun kq v3 v30 w' => ∃ (x3_2 : Int) (x30_2 : Int), v3 = .int .i64 x3_2 ∧ v30 = .int .i64 x30_2 ∧ Aside0 (conf_Frames.l1 kq x3_2 l0_2 (l0_2.length : Int) x30_2 = some r) ∧ Aside0 (kq ≤ k1) ∧ Aside0 (w'.heap[gb354]? = some (.cells #[(.slice A0_0 l0_0.length c0_0), (.slice A0_1 l0_1.length c0_1), (.slice A0_2 l0_2.length c0_2)] 26 (0, 0))) ∧ Aside0 (Below w.heap.size w w'))
          case atStart => exact ⟨(x3_1), (0), (by first | rfl | (simp; done) | (simp [*]; done)), (by first | rfl | (simp; done) | (simp [*]; done)), H', ⟨Nat.le_refl _⟩, ⟨by (with_reducible repeat (first | refine blk_drewN ?_ _ | refine blk_drew ?_ | refine blk_alloc ?_ _)); exact BK354.out⟩, ⟨by repeat (first | (with_reducible first | exact HB.out | apply below_alloc | apply pw_below_drewN | apply below_drew1 | refine below_set ?_ GE354.out) | exact HB.out)⟩⟩
          case round =>
            clear H'
            try clear c1
            try clear p2
            try clear c3
            try clear c3b0
            try clear c3b1
            try clear p3
            try clear q3
            try clear hx3
            try clear p6
            try clear c8
            try clear c8b0
            try clear c9
            try clear c9b0
            try clear c10
            try clear c10b0
            try clear c13
            try clear hcz14_0
            try clear hcz14_1
            try clear hcz15_0
            try clear hcz15_1
            try clear hcz15_2
            try clear hcz5_0
            try clear hcz5_1
            try clear hcz5_2
            try clear hcz7_0
            try clear hcz7_1
            try clear hcz7_2
            try clear hfz14_0
            try clear hfz14_1
            try clear hfz15_0
            try clear hfz15_1
            try clear hfz15_2
            try clear hfz5_0
            try clear hfz5_1
            try clear hfz5_2
            try clear hfz7_0
            try clear hfz7_1
            try clear hfz7_2
            try clear hx356_0
            try clear hx356_1
            try clear p2
            try clear p356
            try clear q356
            obtain ⟨x3_2, x30_2, rfl, rfl, HA, HK2, BK354, HB⟩ := hrel
            cases gk with
            | zero => exact absurd HA.out (by simp [conf_Frames.l1])
            | succ k2 =>
              have H := HA.out
              clear HA
              simp only [conf_Frames.l1] at H
              by_cases c16 : x30_2 < (l0_2.length : Int)
              · rw [if_pos c16] at H
                have c16b0 : decide (x30_2 < (l0_2.length : Int)) = true := decide_eq_true c16
                clear c16
                by_cases c17 : 0 ≤ x30_2
                · rw [if_pos c17] at H
                  have c17b0 : decide (0 ≤ x30_2) = true := decide_eq_true c17
                  clear c17
                  by_cases c18 : x30_2 < (l0_2.length : Int)
                  · rw [if_pos c18] at H
                    have c18b0 : decide (x30_2 < (l0_2.length : Int)) = true := decide_eq_true c18
                    clear c18
                    replace H := Option.bind_eq_some_iff.mp H
                    obtain ⟨t361, A190, H⟩ := H
                    replace H : (conf_Frames.l1 k2 (wrap64 (x3_2 + t361)) l0_2 (l0_2.length : Int) (wrap64 (x30_2 + 1))) = some r := H
                    have A19 := Aside0.mk A190
                    clear A190
                    have H' := Aside0.mk H
                    clear H
                    have p359 : 0 ≤ (x30_2 : Int) := of_decide_eq_true (by first | (with_reducible assumption) | assumption)
                    have q359 : x30_2 < (l0_2.length : Int) := of_decide_eq_true (by first | (with_reducible assumption) | assumption)
                    obtain ⟨ad359, e359, hx359_0, hx359_1, hx359_2, hx359_3⟩ := at_T46 HR0_2.out x30_2 p359 q359
                    cases e359
                    replace hx359_0 := (HB.out.cell (World.block_lt_of_cell? w _ hx359_0)).trans hx359_0
                    replace hx359_1 := (HB.out.cell (World.block_lt_of_cell? w _ hx359_1)).trans hx359_1
                    replace hx359_2 := (HB.out.cell (World.block_lt_of_cell? w _ hx359_2)).trans hx359_2
                    replace hx359_3 := (HB.out.cell (World.block_lt_of_cell? w _ hx359_3)).trans hx359_3
                    replace p359 := eq_true p359
                    replace q359 := eq_true q359
                    go_wp2_with (first | ((with_reducible refine gate_dst (N := 7) rfl ?_); refine box_event ?hg (N := 7) ?hd (cs := #[.int .i64 0, .int .i64 0, .int .i64 0, .int .i64 0]) (t := 46) ?hr ?_; (case hd => rfl); (case hg => rfl); (case hr => first | (go_simp; done) | (go_simp; rfl)); intro gb360 hg w20 hbox hb; have n0_ := Aside0.mk (blk_below (g := gb354) (o := .cells #[.slice A0_0 l0_0.length c0_0, .slice A0_1 l0_1.length c0_1, .slice (some ad359) l0_2.length c0_2] 26 (0, 0)) (by (with_reducible repeat (first | refine blk_drewN ?_ _ | refine blk_drew ?_ | refine blk_alloc ?_ _)); exact BK354.out) hb); have n1_ := Aside0.mk (below_step (by repeat (first | (with_reducible first | exact HB.out | apply below_alloc | apply pw_below_drewN | apply below_drew1 | refine below_set ?_ GE354.out) | exact HB.out)) hb); have n2_ := Aside0.mk (hbox); have n3_ := Aside0.mk ((by rw [hg]; exact (below_size (by repeat (first | (with_reducible first | exact HB.out | apply below_alloc | apply pw_below_drewN | apply below_drew1 | refine below_set ?_ GE354.out) | exact HB.out))) : w.heap.size ≤ gb360)); have n4_ := Aside0.mk ((by rw [hg]; exact (below_size (by repeat (first | (with_reducible first | exact HB.out | apply below_alloc | apply pw_below_drewN | apply below_drew1 | refine below_set ?_ GE354.out) | exact HB.out))) : w.heap.size ≤ gb360)); have n5_ := Aside0.mk ((by rw [hg]; exact Nat.ne_of_lt (blk_lt (g := gb354) (o := .cells #[.slice A0_0 l0_0.length c0_0, .slice A0_1 l0_1.length c0_1, .slice (some ad359) l0_2.length c0_2] 26 (0, 0)) (by (with_reducible repeat (first | refine blk_drewN ?_ _ | refine blk_drew ?_ | refine blk_alloc ?_ _)); exact BK354.out)) : gb354 ≠ gb360)); have n6_ := Aside0.mk ((by rw [hg]; exact Nat.ne_of_gt (blk_lt (g := gb354) (o := .cells #[.slice A0_0 l0_0.length c0_0, .slice A0_1 l0_1.length c0_1, .slice (some ad359) l0_2.length c0_2] 26 (0, 0)) (by (with_reducible repeat (first | refine blk_drewN ?_ _ | refine blk_drew ?_ | refine blk_alloc ?_ _)); exact BK354.out)) : gb360 ≠ gb354)); clear BK354; clear HB; have BK354 := n0_; have HB := n1_; have BK360 := n2_; have GW360 := n3_; have GE360 := n4_; have NB354_360 := n5_; have NB360_354 := n6_; clear n0_ n1_ n2_ n3_ n4_ n5_ n6_; clear hb hbox hg; have hnb21 := NB360_354.out; have hnc21 := NB354_360.out; have hcz22_0 : w20.cell? ⟨gb360, 0, none⟩ = some (.int .i64 0) := (blk_cell BK360.out 0).trans rfl; have hcz22_1 : w20.cell? ⟨gb360, 1, none⟩ = some (.int .i64 0) := (blk_cell BK360.out 1).trans rfl; have hcz22_2 : w20.cell? ⟨gb360, 2, none⟩ = some (.int .i64 0) := (blk_cell BK360.out 2).trans rfl; have hcz22_3 : w20.cell? ⟨gb360, 3, none⟩ = some (.int .i64 0) := (blk_cell BK360.out 3).trans rfl; have hfz22_0 := blk_frozen BK360.out 0; have hfz22_1 := blk_frozen BK360.out 1; have hfz22_2 := blk_frozen BK360.out 2; have hfz22_3 := blk_frozen BK360.out 3) | (go_at_call 49; (with_reducible refine (conf_by.calls (wrap64 (((rd_T46 l0_2 x30_2).f2) * (wrap64 (((rd_T46 l0_2 x30_2).f3) + 1)))) 32 t361 _ A19.out).mono ?_); rintro e w' ⟨rfl, ⟨nd, rfl⟩⟩; (try first | exact ⟨rfl, _, World.drewN_drewN _ _ _⟩ | exact ⟨rfl, _, Eq.trans (World.drewN_drewN _ _ _) (congrArg (World.drewN _) (Nat.add_assoc _ _ _))⟩)))
                    repeat (go_quiet (first | ((with_reducible refine gate_dst (N := 7) rfl ?_); refine box_event ?hg (N := 7) ?hd (cs := #[.int .i64 0, .int .i64 0, .int .i64 0, .int .i64 0]) (t := 46) ?hr ?_; (case hd => rfl); (case hg => rfl); (case hr => first | (go_simp; done) | (go_simp; rfl)); intro gb360 hg w20 hbox hb; have n0_ := Aside0.mk (blk_below (g := gb354) (o := .cells #[.slice A0_0 l0_0.length c0_0, .slice A0_1 l0_1.length c0_1, .slice (some ad359) l0_2.length c0_2] 26 (0, 0)) (by (with_reducible repeat (first | refine blk_drewN ?_ _ | refine blk_drew ?_ | refine blk_alloc ?_ _)); exact BK354.out) hb); have n1_ := Aside0.mk (below_step (by repeat (first | (with_reducible first | exact HB.out | apply below_alloc | apply pw_below_drewN | apply below_drew1 | refine below_set ?_ GE354.out) | exact HB.out)) hb); have n2_ := Aside0.mk (hbox); have n3_ := Aside0.mk ((by rw [hg]; exact (below_size (by repeat (first | (with_reducible first | exact HB.out | apply below_alloc | apply pw_below_drewN | apply below_drew1 | refine below_set ?_ GE354.out) | exact HB.out))) : w.heap.size ≤ gb360)); have n4_ := Aside0.mk ((by rw [hg]; exact (below_size (by repeat (first | (with_reducible first | exact HB.out | apply below_alloc | apply pw_below_drewN | apply below_drew1 | refine below_set ?_ GE354.out) | exact HB.out))) : w.heap.size ≤ gb360)); have n5_ := Aside0.mk ((by rw [hg]; exact Nat.ne_of_lt (blk_lt (g := gb354) (o := .cells #[.slice A0_0 l0_0.length c0_0, .slice A0_1 l0_1.length c0_1, .slice (some ad359) l0_2.length c0_2] 26 (0, 0)) (by (with_reducible repeat (first | refine blk_drewN ?_ _ | refine blk_drew ?_ | refine blk_alloc ?_ _)); exact BK354.out)) : gb354 ≠ gb360)); have n6_ := Aside0.mk ((by rw [hg]; exact Nat.ne_of_gt (blk_lt (g := gb354) (o := .cells #[.slice A0_0 l0_0.length c0_0, .slice A0_1 l0_1.length c0_1, .slice (some ad359) l0_2.length c0_2] 26 (0, 0)) (by (with_reducible repeat (first | refine blk_drewN ?_ _ | refine blk_drew ?_ | refine blk_alloc ?_ _)); exact BK354.out)) : gb360 ≠ gb354)); clear BK354; clear HB; have BK354 := n0_; have HB := n1_; have BK360 := n2_; have GW360 := n3_; have GE360 := n4_; have NB354_360 := n5_; have NB360_354 := n6_; clear n0_ n1_ n2_ n3_ n4_ n5_ n6_; clear hb hbox hg; have hnb21 := NB360_354.out; have hnc21 := NB354_360.out; have hcz22_0 : w20.cell? ⟨gb360, 0, none⟩ = some (.int .i64 0) := (blk_cell BK360.out 0).trans rfl; have hcz22_1 : w20.cell? ⟨gb360, 1, none⟩ = some (.int .i64 0) := (blk_cell BK360.out 1).trans rfl; have hcz22_2 : w20.cell? ⟨gb360, 2, none⟩ = some (.int .i64 0) := (blk_cell BK360.out 2).trans rfl; have hcz22_3 : w20.cell? ⟨gb360, 3, none⟩ = some (.int .i64 0) := (blk_cell BK360.out 3).trans rfl; have hfz22_0 := blk_frozen BK360.out 0; have hfz22_1 := blk_frozen BK360.out 1; have hfz22_2 := blk_frozen BK360.out 2; have hfz22_3 := blk_frozen BK360.out 3) | (go_at_call 49; (with_reducible refine (conf_by.calls (wrap64 (((rd_T46 l0_2 x30_2).f2) * (wrap64 (((rd_T46 l0_2 x30_2).f3) + 1)))) 32 t361 _ A19.out).mono ?_); rintro e w' ⟨rfl, ⟨nd, rfl⟩⟩; (try first | exact ⟨rfl, _, World.drewN_drewN _ _ _⟩ | exact ⟨rfl, _, Eq.trans (World.drewN_drewN _ _ _) (congrArg (World.drewN _) (Nat.add_assoc _ _ _))⟩))); try go_wp2_with (first | ((with_reducible refine gate_dst (N := 7) rfl ?_); refine box_event ?hg (N := 7) ?hd (cs := #[.int .i64 0, .int .i64 0, .int .i64 0, .int .i64 0]) (t := 46) ?hr ?_; (case hd => rfl); (case hg => rfl); (case hr => first | (go_simp; done) | (go_simp; rfl)); intro gb360 hg w20 hbox hb; have n0_ := Aside0.mk (blk_below (g := gb354) (o := .cells #[.slice A0_0 l0_0.length c0_0, .slice A0_1 l0_1.length c0_1, .slice (some ad359) l0_2.length c0_2] 26 (0, 0)) (by (with_reducible repeat (first | refine blk_drewN ?_ _ | refine blk_drew ?_ | refine blk_alloc ?_ _)); exact BK354.out) hb); have n1_ := Aside0.mk (below_step (by repeat (first | (with_reducible first | exact HB.out | apply below_alloc | apply pw_below_drewN | apply below_drew1 | refine below_set ?_ GE354.out) | exact HB.out)) hb); have n2_ := Aside0.mk (hbox); have n3_ := Aside0.mk ((by rw [hg]; exact (below_size (by repeat (first | (with_reducible first | exact HB.out | apply below_alloc | apply pw_below_drewN | apply below_drew1 | refine below_set ?_ GE354.out) | exact HB.out))) : w.heap.size ≤ gb360)); have n4_ := Aside0.mk ((by rw [hg]; exact (below_size (by repeat (first | (with_reducible first | exact HB.out | apply below_alloc | apply pw_below_drewN | apply below_drew1 | refine below_set ?_ GE354.out) | exact HB.out))) : w.heap.size ≤ gb360)); have n5_ := Aside0.mk ((by rw [hg]; exact Nat.ne_of_lt (blk_lt (g := gb354) (o := .cells #[.slice A0_0 l0_0.length c0_0, .slice A0_1 l0_1.length c0_1, .slice (some ad359) l0_2.length c0_2] 26 (0, 0)) (by (with_reducible repeat (first | refine blk_drewN ?_ _ | refine blk_drew ?_ | refine blk_alloc ?_ _)); exact BK354.out)) : gb354 ≠ gb360)); have n6_ := Aside0.mk ((by rw [hg]; exact Nat.ne_of_gt (blk_lt (g := gb354) (o := .cells #[.slice A0_0 l0_0.length c0_0, .slice A0_1 l0_1.length c0_1, .slice (some ad359) l0_2.length c0_2] 26 (0, 0)) (by (with_reducible repeat (first | refine blk_drewN ?_ _ | refine blk_drew ?_ | refine blk_alloc ?_ _)); exact BK354.out)) : gb360 ≠ gb354)); clear BK354; clear HB; have BK354 := n0_; have HB := n1_; have BK360 := n2_; have GW360 := n3_; have GE360 := n4_; have NB354_360 := n5_; have NB360_354 := n6_; clear n0_ n1_ n2_ n3_ n4_ n5_ n6_; clear hb hbox hg; have hnb21 := NB360_354.out; have hnc21 := NB354_360.out; have hcz22_0 : w20.cell? ⟨gb360, 0, none⟩ = some (.int .i64 0) := (blk_cell BK360.out 0).trans rfl; have hcz22_1 : w20.cell? ⟨gb360, 1, none⟩ = some (.int .i64 0) := (blk_cell BK360.out 1).trans rfl; have hcz22_2 : w20.cell? ⟨gb360, 2, none⟩ = some (.int .i64 0) := (blk_cell BK360.out 2).trans rfl; have hcz22_3 : w20.cell? ⟨gb360, 3, none⟩ = some (.int .i64 0) := (blk_cell BK360.out 3).trans rfl; have hfz22_0 := blk_frozen BK360.out 0; have hfz22_1 := blk_frozen BK360.out 1; have hfz22_2 := blk_frozen BK360.out 2; have hfz22_3 := blk_frozen BK360.out 3) | (go_at_call 49; (with_reducible refine (conf_by.calls (wrap64 (((rd_T46 l0_2 x30_2).f2) * (wrap64 (((rd_T46 l0_2 x30_2).f3) + 1)))) 32 t361 _ A19.out).mono ?_); rintro e w' ⟨rfl, ⟨nd, rfl⟩⟩; (try first | exact ⟨rfl, _, World.drewN_drewN _ _ _⟩ | exact ⟨rfl, _, Eq.trans (World.drewN_drewN _ _ _) (congrArg (World.drewN _) (Nat.add_assoc _ _ _))⟩))))
                    go_roundg k2
                    case measure => have := HK1.out; have := HK2.out; omega
                    case rel => exact ⟨(wrap64 (x3_2 + t361)), (wrap64 (x30_2 + 1)), (by first | rfl | (simp; done) | (simp [*]; done)), (by first | rfl | (simp; done) | (simp [*]; done)), H', ⟨by have := HK1.out; have := HK2.out; omega⟩, ⟨by (with_reducible repeat (first | refine blk_drewN ?_ _ | refine blk_drew ?_ | refine blk_alloc ?_ _)); refine blk_far ?_ NB354_360.out _; (with_reducible repeat (first | refine blk_drewN ?_ _ | refine blk_drew ?_ | refine blk_alloc ?_ _)); refine blk_far ?_ NB354_360.out _; (with_reducible repeat (first | refine blk_drewN ?_ _ | refine blk_drew ?_ | refine blk_alloc ?_ _)); refine blk_far ?_ NB354_360.out _; (with_reducible repeat (first | refine blk_drewN ?_ _ | refine blk_drew ?_ | refine blk_alloc ?_ _)); refine blk_far ?_ NB354_360.out _; (with_reducible repeat (first | refine blk_drewN ?_ _ | refine blk_drew ?_ | refine blk_alloc ?_ _)); exact BK354.out⟩, ⟨by repeat (first | (with_reducible first | exact HB.out | apply below_alloc | apply pw_below_drewN | apply below_drew1 | refine below_set ?_ GE354.out | refine below_set ?_ GE360.out) | exact HB.out)⟩⟩
                  · rw [if_neg c18] at H
                    exact absurd H (by simp)
                · rw [if_neg c17] at H
                  exact absurd H (by simp)
              · rw [if_neg c16] at H
                have c16b0 : decide (x30_2 < (l0_2.length : Int)) = false := decide_eq_false c16
                clear c16
                obtain rfl := Option.some.inj H
                go_wp2
                repeat (go_quiet (fail); try go_wp2)
                go_ret
                exact ⟨by first | rfl | (simp [errW_none, errW_some] <;> rfl) | (simp [*, errW_none, errW_some] <;> rfl), by repeat (first | (with_reducible first | exact HB.out | apply below_alloc | apply pw_below_drewN | apply below_drew1 | refine below_set ?_ GE354.out) | exact HB.out)⟩
  · rw [if_neg c3] at H
    have c3b0 : (t355 == 0) = false := beq_eq_false_iff_ne.mpr c3
    have c3b1 : (t355 != 0) = true := bne_iff_ne.mpr c3
    obtain rfl := Option.some.inj H
    go_enter Try.func36, Try.ntmps36
    go_wp2_with (first | ((with_reducible refine gate_dst (N := 1) rfl ?_); refine box_event ?hg (N := 1) ?hd (cs := #[.slice A0_0 l0_0.length c0_0, .slice A0_1 l0_1.length c0_1, .slice A0_2 l0_2.length c0_2]) (t := 26) ?hr ?_; (case hd => rfl); (case hg => rfl); (case hr => first | (go_simp; done) | (go_simp; rfl)); intro gb354 hg w23 hbox hb; have n0_ := Aside0.mk (below_step (by repeat (first | (with_reducible first | exact HB.out | apply below_alloc | apply pw_below_drewN | apply below_drew1) | exact HB.out)) hb); have n1_ := Aside0.mk (hbox); have n2_ := Aside0.mk ((by rw [hg]; exact (below_size (by repeat (first | (with_reducible first | exact HB.out | apply below_alloc | apply pw_below_drewN | apply below_drew1) | exact HB.out))) : w.heap.size ≤ gb354)); have n3_ := Aside0.mk ((by rw [hg]; exact (below_size (by repeat (first | (with_reducible first | exact HB.out | apply below_alloc | apply pw_below_drewN | apply below_drew1) | exact HB.out))) : w.heap.size ≤ gb354)); clear HB; have HB := n0_; have BK354 := n1_; have GW354 := n2_; have GE354 := n3_; clear n0_ n1_ n2_ n3_; clear hb hbox hg; have hcz24_0 : w23.cell? ⟨gb354, 0, none⟩ = some (.slice A0_0 l0_0.length c0_0) := (blk_cell BK354.out 0).trans rfl; have hcz24_1 : w23.cell? ⟨gb354, 1, none⟩ = some (.slice A0_1 l0_1.length c0_1) := (blk_cell BK354.out 1).trans rfl; have hcz24_2 : w23.cell? ⟨gb354, 2, none⟩ = some (.slice A0_2 l0_2.length c0_2) := (blk_cell BK354.out 2).trans rfl; have hfz24_0 := blk_frozen BK354.out 0; have hfz24_1 := blk_frozen BK354.out 1; have hfz24_2 := blk_frozen BK354.out 2) | (go_at_call 35; (with_reducible refine (conf_numbers.calls k _ _ l0_0 _ _ l0_1 _ _ l0_2 t355 _ ?side1 ?side2 ?side3 ?side4 ?side5 ?side6 A2.out).mono ?_); (case side1 => repeat (first | exact (Kd.C_below HR0_0.out HB.out) | (with_reducible refine Kd.C_alloc ?_ _) | (with_reducible refine Kd.C_drewN ?_ _) | (with_reducible refine Kd.C_drew ?_))); (case side2 => exact HC0_0.out); (case side3 => repeat (first | exact (Kd.C_below HR0_1.out HB.out) | (with_reducible refine Kd.C_alloc ?_ _) | (with_reducible refine Kd.C_drewN ?_ _) | (with_reducible refine Kd.C_drew ?_))); (case side4 => exact HC0_1.out); (case side5 => repeat (first | exact (Kd.C_below HR0_2.out HB.out) | (with_reducible refine Kd.C_alloc ?_ _) | (with_reducible refine Kd.C_drewN ?_ _) | (with_reducible refine Kd.C_drew ?_))); (case side6 => exact HC0_2.out); rintro e w25 ⟨rfl, hb⟩; have n0_ := Aside0.mk (blk_below (g := gb354) (o := .cells #[.slice A0_0 l0_0.length c0_0, .slice A0_1 l0_1.length c0_1, .slice A0_2 l0_2.length c0_2] 26 (0, 0)) (by (with_reducible repeat (first | refine blk_drewN ?_ _ | refine blk_drew ?_ | refine blk_alloc ?_ _)); exact BK354.out) hb); have n1_ := Aside0.mk (below_step (by repeat (first | (with_reducible first | exact HB.out | apply below_alloc | apply pw_below_drewN | apply below_drew1 | refine below_set ?_ GE354.out) | exact HB.out)) hb); clear BK354; clear HB; have BK354 := n0_; have HB := n1_; clear n0_ n1_; (try clear hb); (try clear hb2); (try clear hk); (try clear hi)))
    repeat (go_quiet (first | ((with_reducible refine gate_dst (N := 1) rfl ?_); refine box_event ?hg (N := 1) ?hd (cs := #[.slice A0_0 l0_0.length c0_0, .slice A0_1 l0_1.length c0_1, .slice A0_2 l0_2.length c0_2]) (t := 26) ?hr ?_; (case hd => rfl); (case hg => rfl); (case hr => first | (go_simp; done) | (go_simp; rfl)); intro gb354 hg w23 hbox hb; have n0_ := Aside0.mk (below_step (by repeat (first | (with_reducible first | exact HB.out | apply below_alloc | apply pw_below_drewN | apply below_drew1) | exact HB.out)) hb); have n1_ := Aside0.mk (hbox); have n2_ := Aside0.mk ((by rw [hg]; exact (below_size (by repeat (first | (with_reducible first | exact HB.out | apply below_alloc | apply pw_below_drewN | apply below_drew1) | exact HB.out))) : w.heap.size ≤ gb354)); have n3_ := Aside0.mk ((by rw [hg]; exact (below_size (by repeat (first | (with_reducible first | exact HB.out | apply below_alloc | apply pw_below_drewN | apply below_drew1) | exact HB.out))) : w.heap.size ≤ gb354)); clear HB; have HB := n0_; have BK354 := n1_; have GW354 := n2_; have GE354 := n3_; clear n0_ n1_ n2_ n3_; clear hb hbox hg; have hcz24_0 : w23.cell? ⟨gb354, 0, none⟩ = some (.slice A0_0 l0_0.length c0_0) := (blk_cell BK354.out 0).trans rfl; have hcz24_1 : w23.cell? ⟨gb354, 1, none⟩ = some (.slice A0_1 l0_1.length c0_1) := (blk_cell BK354.out 1).trans rfl; have hcz24_2 : w23.cell? ⟨gb354, 2, none⟩ = some (.slice A0_2 l0_2.length c0_2) := (blk_cell BK354.out 2).trans rfl; have hfz24_0 := blk_frozen BK354.out 0; have hfz24_1 := blk_frozen BK354.out 1; have hfz24_2 := blk_frozen BK354.out 2) | (go_at_call 35; (with_reducible refine (conf_numbers.calls k _ _ l0_0 _ _ l0_1 _ _ l0_2 t355 _ ?side1 ?side2 ?side3 ?side4 ?side5 ?side6 A2.out).mono ?_); (case side1 => repeat (first | exact (Kd.C_below HR0_0.out HB.out) | (with_reducible refine Kd.C_alloc ?_ _) | (with_reducible refine Kd.C_drewN ?_ _) | (with_reducible refine Kd.C_drew ?_))); (case side2 => exact HC0_0.out); (case side3 => repeat (first | exact (Kd.C_below HR0_1.out HB.out) | (with_reducible refine Kd.C_alloc ?_ _) | (with_reducible refine Kd.C_drewN ?_ _) | (with_reducible refine Kd.C_drew ?_))); (case side4 => exact HC0_1.out); (case side5 => repeat (first | exact (Kd.C_below HR0_2.out HB.out) | (with_reducible refine Kd.C_alloc ?_ _) | (with_reducible refine Kd.C_drewN ?_ _) | (with_reducible refine Kd.C_drew ?_))); (case side6 => exact HC0_2.out); rintro e w25 ⟨rfl, hb⟩; have n0_ := Aside0.mk (blk_below (g := gb354) (o := .cells #[.slice A0_0 l0_0.length c0_0, .slice A0_1 l0_1.length c0_1, .slice A0_2 l0_2.length c0_2] 26 (0, 0)) (by (with_reducible repeat (first | refine blk_drewN ?_ _ | refine blk_drew ?_ | refine blk_alloc ?_ _)); exact BK354.out) hb); have n1_ := Aside0.mk (below_step (by repeat (first | (with_reducible first | exact HB.out | apply below_alloc | apply pw_below_drewN | apply below_drew1 | refine below_set ?_ GE354.out) | exact HB.out)) hb); clear BK354; clear HB; have BK354 := n0_; have HB := n1_; clear n0_ n1_; (try clear hb); (try clear hb2); (try clear hk); (try clear hi))); try go_wp2_with (first | ((with_reducible refine gate_dst (N := 1) rfl ?_); refine box_event ?hg (N := 1) ?hd (cs := #[.slice A0_0 l0_0.length c0_0, .slice A0_1 l0_1.length c0_1, .slice A0_2 l0_2.length c0_2]) (t := 26) ?hr ?_; (case hd => rfl); (case hg => rfl); (case hr => first | (go_simp; done) | (go_simp; rfl)); intro gb354 hg w23 hbox hb; have n0_ := Aside0.mk (below_step (by repeat (first | (with_reducible first | exact HB.out | apply below_alloc | apply pw_below_drewN | apply below_drew1) | exact HB.out)) hb); have n1_ := Aside0.mk (hbox); have n2_ := Aside0.mk ((by rw [hg]; exact (below_size (by repeat (first | (with_reducible first | exact HB.out | apply below_alloc | apply pw_below_drewN | apply below_drew1) | exact HB.out))) : w.heap.size ≤ gb354)); have n3_ := Aside0.mk ((by rw [hg]; exact (below_size (by repeat (first | (with_reducible first | exact HB.out | apply below_alloc | apply pw_below_drewN | apply below_drew1) | exact HB.out))) : w.heap.size ≤ gb354)); clear HB; have HB := n0_; have BK354 := n1_; have GW354 := n2_; have GE354 := n3_; clear n0_ n1_ n2_ n3_; clear hb hbox hg; have hcz24_0 : w23.cell? ⟨gb354, 0, none⟩ = some (.slice A0_0 l0_0.length c0_0) := (blk_cell BK354.out 0).trans rfl; have hcz24_1 : w23.cell? ⟨gb354, 1, none⟩ = some (.slice A0_1 l0_1.length c0_1) := (blk_cell BK354.out 1).trans rfl; have hcz24_2 : w23.cell? ⟨gb354, 2, none⟩ = some (.slice A0_2 l0_2.length c0_2) := (blk_cell BK354.out 2).trans rfl; have hfz24_0 := blk_frozen BK354.out 0; have hfz24_1 := blk_frozen BK354.out 1; have hfz24_2 := blk_frozen BK354.out 2) | (go_at_call 35; (with_reducible refine (conf_numbers.calls k _ _ l0_0 _ _ l0_1 _ _ l0_2 t355 _ ?side1 ?side2 ?side3 ?side4 ?side5 ?side6 A2.out).mono ?_); (case side1 => repeat (first | exact (Kd.C_below HR0_0.out HB.out) | (with_reducible refine Kd.C_alloc ?_ _) | (with_reducible refine Kd.C_drewN ?_ _) | (with_reducible refine Kd.C_drew ?_))); (case side2 => exact HC0_0.out); (case side3 => repeat (first | exact (Kd.C_below HR0_1.out HB.out) | (with_reducible refine Kd.C_alloc ?_ _) | (with_reducible refine Kd.C_drewN ?_ _) | (with_reducible refine Kd.C_drew ?_))); (case side4 => exact HC0_1.out); (case side5 => repeat (first | exact (Kd.C_below HR0_2.out HB.out) | (with_reducible refine Kd.C_alloc ?_ _) | (with_reducible refine Kd.C_drewN ?_ _) | (with_reducible refine Kd.C_drew ?_))); (case side6 => exact HC0_2.out); rintro e w25 ⟨rfl, hb⟩; have n0_ := Aside0.mk (blk_below (g := gb354) (o := .cells #[.slice A0_0 l0_0.length c0_0, .slice A0_1 l0_1.length c0_1, .slice A0_2 l0_2.length c0_2] 26 (0, 0)) (by (with_reducible repeat (first | refine blk_drewN ?_ _ | refine blk_drew ?_ | refine blk_alloc ?_ _)); exact BK354.out) hb); have n1_ := Aside0.mk (below_step (by repeat (first | (with_reducible first | exact HB.out | apply below_alloc | apply pw_below_drewN | apply below_drew1 | refine below_set ?_ GE354.out) | exact HB.out)) hb); clear BK354; clear HB; have BK354 := n0_; have HB := n1_; clear n0_ n1_; (try clear hb); (try clear hb2); (try clear hk); (try clear hi))))
    go_ret
    exact ⟨by first | rfl | (simp [errW_none, errW_some] <;> rfl) | (simp [*, errW_none, errW_some] <;> rfl), by repeat (first | (with_reducible first | exact HB.out | apply below_alloc | apply pw_below_drewN | apply below_drew1 | refine below_set ?_ GE354.out) | exact HB.out)⟩
end Go.Proofs.Ytfmpabdaadllaaa.PAll

namespace Go.Proofs.Ytfmpabdaadllaaa.PAll
open Go.RowKit Go.Proofs.YtfmpabdaadllaaaW.PrintWords Go.Proofs.YtfmpabdaadllaaaW.PrintLast
set_option linter.unusedVariables false
set_option linter.unusedSimpArgs false
/-! ### conf_Check: function 22 -/
def conf_Check.f (k : Nat) (l0_0 : List (S73)) (l0_1 : List (S75)) (l0_2 : List (S46)) : Option (Int) := (conf_numbers.f k l0_0 l0_1 l0_2).bind fun t363 => (if t363 = 0 then ((conf_Frames.f k l0_0 l0_1 l0_2).bind fun t364 => (if t364 > 1024 then (some 3) else (some 0))) else (some t363))
theorem conf_Check.mono : ∀ a0 a1 a2 k, LeO (conf_Check.f k a0 a1 a2) (conf_Check.f (k + 1) a0 a1 a2) := by
  intro a0 a1 a2 k
  unfold conf_Check.f
  repeat' first
      | (with_reducible exact conf_Frames.mono _ _ _ _)
      | (with_reducible exact conf_numbers.mono _ _ _ _)
      | (with_reducible exact LeO.refl _)
      | (with_reducible exact LeO.none _)
      | (with_reducible refine LeO.ite ?_ ?_)
      | (with_reducible refine LeO.bind ?_ (fun _ => ?_))
      | exact conf_Frames.mono _ _ _ _
      | exact conf_numbers.mono _ _ _ _
      | exact LeO.none _
      | refine LeO.ite ?_ ?_
      | refine LeO.bind ?_ (fun _ => ?_)
set_option maxHeartbeats 8000000 in
set_option maxRecDepth 100000 in
theorem conf_Check.calls (k : Nat) (A0_0 : Option Addr) (c0_0 : Nat) (l0_0 : List (S73)) (A0_1 : Option Addr) (c0_1 : Nat) (l0_1 : List (S75)) (A0_2 : Option Addr) (c0_2 : Nat) (l0_2 : List (S46)) (r : Int) (w : World) (hr0_0 : Kd.C k73 w A0_0 l0_0.length l0_0) (hc0_0 : l0_0.length ≤ c0_0) (hr0_1 : Kd.C k75 w A0_1 l0_1.length l0_1) (hc0_1 : l0_1.length ≤ c0_1) (hr0_2 : Kd.C k46 w A0_2 l0_2.length l0_2) (hc0_2 : l0_2.length ≤ c0_2) (h : conf_Check.f k l0_0 l0_1 l0_2 = some r) :
    Calls Try.prog 22 #[.agg #[.slice A0_0 l0_0.length c0_0, .slice A0_1 l0_1.length c0_1, .slice A0_2 l0_2.length c0_2]] w fun e w' => e = .returned (.int .i64 r) ∧ Below w.heap.size w w' := by
  have hu26 := Try.underlying26
  have HR0_0 := Aside0.mk hr0_0
  have HC0_0 := Aside0.mk hc0_0
  clear hr0_0 hc0_0
  have HR0_1 := Aside0.mk hr0_1
  have HC0_1 := Aside0.mk hc0_1
  clear hr0_1 hc0_1
  have HR0_2 := Aside0.mk hr0_2
  have HC0_2 := Aside0.mk hc0_2
  clear hr0_2 hc0_2
  have HB := Aside0.mk (Below.refl w.heap.size w)
  have H : ((conf_numbers.f k l0_0 l0_1 l0_2).bind fun t363 => (if t363 = 0 then ((conf_Frames.f k l0_0 l0_1 l0_2).bind fun t364 => (if t364 > 1024 then (some 3) else (some 0))) else (some t363))) = some r := h
  clear h
  replace H := Option.bind_eq_some_iff.mp H
  obtain ⟨t363, A20, H⟩ := H
  replace H : (if t363 = 0 then ((conf_Frames.f k l0_0 l0_1 l0_2).bind fun t364 => (if t364 > 1024 then (some 3) else (some 0))) else (some t363)) = some r := H
  have A2 := Aside0.mk A20
  clear A20
  by_cases c3 : t363 = 0
  · rw [if_pos c3] at H
    have c3b0 : (t363 == 0) = true := beq_iff_eq.mpr c3
    have c3b1 : (t363 != 0) = false := bne_eq_false_iff_eq.mpr c3
    clear c3
    replace H := Option.bind_eq_some_iff.mp H
    obtain ⟨t364, A40, H⟩ := H
    replace H : (if t364 > 1024 then (some 3) else (some 0)) = some r := H
    have A4 := Aside0.mk A40
    clear A40
    by_cases c5 : t364 > 1024
    · rw [if_pos c5] at H
      have c5b0 : decide (1024 < t364) = true := decide_eq_true c5
      clear c5
      obtain rfl := Option.some.inj H
      go_enter Try.func22, Try.ntmps22
      go_wp2_with (first | ((with_reducible refine gate_dst (N := 1) rfl ?_); refine box_event ?hg (N := 1) ?hd (cs := #[.slice A0_0 l0_0.length c0_0, .slice A0_1 l0_1.length c0_1, .slice A0_2 l0_2.length c0_2]) (t := 26) ?hr ?_; (case hd => rfl); (case hg => rfl); (case hr => first | (go_simp; done) | (go_simp; rfl)); intro gb362 hg w6 hbox hb; have n0_ := Aside0.mk (below_step (by repeat (first | (with_reducible first | exact HB.out | apply below_alloc | apply pw_below_drewN | apply below_drew1) | exact HB.out)) hb); have n1_ := Aside0.mk (hbox); have n2_ := Aside0.mk ((by rw [hg]; exact (below_size (by repeat (first | (with_reducible first | exact HB.out | apply below_alloc | apply pw_below_drewN | apply below_drew1) | exact HB.out))) : w.heap.size ≤ gb362)); have n3_ := Aside0.mk ((by rw [hg]; exact (below_size (by repeat (first | (with_reducible first | exact HB.out | apply below_alloc | apply pw_below_drewN | apply below_drew1) | exact HB.out))) : w.heap.size ≤ gb362)); clear HB; have HB := n0_; have BK362 := n1_; have GW362 := n2_; have GE362 := n3_; clear n0_ n1_ n2_ n3_; clear hb hbox hg; have hcz7_0 : w6.cell? ⟨gb362, 0, none⟩ = some (.slice A0_0 l0_0.length c0_0) := (blk_cell BK362.out 0).trans rfl; have hcz7_1 : w6.cell? ⟨gb362, 1, none⟩ = some (.slice A0_1 l0_1.length c0_1) := (blk_cell BK362.out 1).trans rfl; have hcz7_2 : w6.cell? ⟨gb362, 2, none⟩ = some (.slice A0_2 l0_2.length c0_2) := (blk_cell BK362.out 2).trans rfl; have hfz7_0 := blk_frozen BK362.out 0; have hfz7_1 := blk_frozen BK362.out 1; have hfz7_2 := blk_frozen BK362.out 2) | ((with_reducible refine gate_callee (f := 35) rfl ?_); refine goesL_ (some 5) rfl rfl Try.func35 (by kernel_rfl) rfl #[.agg #[.slice A0_0 l0_0.length c0_0, .slice A0_1 l0_1.length c0_1, .slice A0_2 l0_2.length c0_2]] rfl (by (try simp only [List.map_toArray, List.map_cons, List.map_nil]); first | done | rfl | (simp only [List.length_drop, List.length_take]; rfl)) ?_; (with_reducible refine (conf_numbers.calls k _ _ l0_0 _ _ l0_1 _ _ l0_2 t363 _ ?side1 ?side2 ?side3 ?side4 ?side5 ?side6 A2.out).mono ?_); (case side1 => repeat (first | exact (Kd.C_below HR0_0.out HB.out) | (with_reducible refine Kd.C_alloc ?_ _) | (with_reducible refine Kd.C_drewN ?_ _) | (with_reducible refine Kd.C_drew ?_))); (case side2 => exact HC0_0.out); (case side3 => repeat (first | exact (Kd.C_below HR0_1.out HB.out) | (with_reducible refine Kd.C_alloc ?_ _) | (with_reducible refine Kd.C_drewN ?_ _) | (with_reducible refine Kd.C_drew ?_))); (case side4 => exact HC0_1.out); (case side5 => repeat (first | exact (Kd.C_below HR0_2.out HB.out) | (with_reducible refine Kd.C_alloc ?_ _) | (with_reducible refine Kd.C_drewN ?_ _) | (with_reducible refine Kd.C_drew ?_))); (case side6 => exact HC0_2.out); rintro e w8 ⟨rfl, hb⟩; refine ⟨_, rfl, ?_⟩; have n0_ := Aside0.mk (blk_below (g := gb362) (o := .cells #[.slice A0_0 l0_0.length c0_0, .slice A0_1 l0_1.length c0_1, .slice A0_2 l0_2.length c0_2] 26 (0, 0)) (by (with_reducible repeat (first | refine blk_drewN ?_ _ | refine blk_drew ?_ | refine blk_alloc ?_ _)); exact BK362.out) hb); have n1_ := Aside0.mk (below_step (by repeat (first | (with_reducible first | exact HB.out | apply below_alloc | apply pw_below_drewN | apply below_drew1 | refine below_set ?_ GE362.out) | exact HB.out)) hb); clear BK362; clear HB; have BK362 := n0_; have HB := n1_; clear n0_ n1_; (try clear hb); (try clear hb2); (try clear hk); (try clear hi); have hcz9_0 : w8.cell? ⟨gb362, 0, none⟩ = some (.slice A0_0 l0_0.length c0_0) := (blk_cell BK362.out 0).trans rfl; have hcz9_1 : w8.cell? ⟨gb362, 1, none⟩ = some (.slice A0_1 l0_1.length c0_1) := (blk_cell BK362.out 1).trans rfl; have hcz9_2 : w8.cell? ⟨gb362, 2, none⟩ = some (.slice A0_2 l0_2.length c0_2) := (blk_cell BK362.out 2).trans rfl; have hfz9_0 := blk_frozen BK362.out 0; have hfz9_1 := blk_frozen BK362.out 1; have hfz9_2 := blk_frozen BK362.out 2) | ((with_reducible refine gate_callee (f := 36) rfl ?_); refine goesL_ (some 10) rfl rfl Try.func36 (by kernel_rfl) rfl #[.agg #[.slice A0_0 l0_0.length c0_0, .slice A0_1 l0_1.length c0_1, .slice A0_2 l0_2.length c0_2]] rfl (by (try simp only [List.map_toArray, List.map_cons, List.map_nil]); first | done | rfl | (simp only [List.length_drop, List.length_take]; rfl)) ?_; (with_reducible refine (conf_Frames.calls k _ _ l0_0 _ _ l0_1 _ _ l0_2 t364 _ ?side1 ?side2 ?side3 ?side4 ?side5 ?side6 A4.out).mono ?_); (case side1 => repeat (first | exact (Kd.C_below HR0_0.out HB.out) | (with_reducible refine Kd.C_alloc ?_ _) | (with_reducible refine Kd.C_drewN ?_ _) | (with_reducible refine Kd.C_drew ?_))); (case side2 => exact HC0_0.out); (case side3 => repeat (first | exact (Kd.C_below HR0_1.out HB.out) | (with_reducible refine Kd.C_alloc ?_ _) | (with_reducible refine Kd.C_drewN ?_ _) | (with_reducible refine Kd.C_drew ?_))); (case side4 => exact HC0_1.out); (case side5 => repeat (first | exact (Kd.C_below HR0_2.out HB.out) | (with_reducible refine Kd.C_alloc ?_ _) | (with_reducible refine Kd.C_drewN ?_ _) | (with_reducible refine Kd.C_drew ?_))); (case side6 => exact HC0_2.out); rintro e w10 ⟨rfl, hb⟩; refine ⟨_, rfl, ?_⟩; have n0_ := Aside0.mk (blk_below (g := gb362) (o := .cells #[.slice A0_0 l0_0.length c0_0, .slice A0_1 l0_1.length c0_1, .slice A0_2 l0_2.length c0_2] 26 (0, 0)) (by (with_reducible repeat (first | refine blk_drewN ?_ _ | refine blk_drew ?_ | refine blk_alloc ?_ _)); exact BK362.out) hb); have n1_ := Aside0.mk (below_step (by repeat (first | (with_reducible first | exact HB.out | apply below_alloc | apply pw_below_drewN | apply below_drew1 | refine below_set ?_ GE362.out) | exact HB.out)) hb); clear BK362; clear HB; have BK362 := n0_; have HB := n1_; clear n0_ n1_; (try clear hb); (try clear hb2); (try clear hk); (try clear hi)))
      go_ret
      exact ⟨by first | rfl | (simp [errW_none, errW_some] <;> rfl) | (simp [*, errW_none, errW_some] <;> rfl), by repeat (first | (with_reducible first | exact HB.out | apply below_alloc | apply pw_below_drewN | apply below_drew1 | refine below_set ?_ GE362.out) | exact HB.out)⟩
    · rw [if_neg c5] at H
      have c5b0 : decide (1024 < t364) = false := decide_eq_false c5
      clear c5
      obtain rfl := Option.some.inj H
      go_enter Try.func22, Try.ntmps22
      go_wp2_with (first | ((with_reducible refine gate_dst (N := 1) rfl ?_); refine box_event ?hg (N := 1) ?hd (cs := #[.slice A0_0 l0_0.length c0_0, .slice A0_1 l0_1.length c0_1, .slice A0_2 l0_2.length c0_2]) (t := 26) ?hr ?_; (case hd => rfl); (case hg => rfl); (case hr => first | (go_simp; done) | (go_simp; rfl)); intro gb362 hg w11 hbox hb; have n0_ := Aside0.mk (below_step (by repeat (first | (with_reducible first | exact HB.out | apply below_alloc | apply pw_below_drewN | apply below_drew1) | exact HB.out)) hb); have n1_ := Aside0.mk (hbox); have n2_ := Aside0.mk ((by rw [hg]; exact (below_size (by repeat (first | (with_reducible first | exact HB.out | apply below_alloc | apply pw_below_drewN | apply below_drew1) | exact HB.out))) : w.heap.size ≤ gb362)); have n3_ := Aside0.mk ((by rw [hg]; exact (below_size (by repeat (first | (with_reducible first | exact HB.out | apply below_alloc | apply pw_below_drewN | apply below_drew1) | exact HB.out))) : w.heap.size ≤ gb362)); clear HB; have HB := n0_; have BK362 := n1_; have GW362 := n2_; have GE362 := n3_; clear n0_ n1_ n2_ n3_; clear hb hbox hg; have hcz12_0 : w11.cell? ⟨gb362, 0, none⟩ = some (.slice A0_0 l0_0.length c0_0) := (blk_cell BK362.out 0).trans rfl; have hcz12_1 : w11.cell? ⟨gb362, 1, none⟩ = some (.slice A0_1 l0_1.length c0_1) := (blk_cell BK362.out 1).trans rfl; have hcz12_2 : w11.cell? ⟨gb362, 2, none⟩ = some (.slice A0_2 l0_2.length c0_2) := (blk_cell BK362.out 2).trans rfl; have hfz12_0 := blk_frozen BK362.out 0; have hfz12_1 := blk_frozen BK362.out 1; have hfz12_2 := blk_frozen BK362.out 2) | ((with_reducible refine gate_callee (f := 35) rfl ?_); refine goesL_ (some 5) rfl rfl Try.func35 (by kernel_rfl) rfl #[.agg #[.slice A0_0 l0_0.length c0_0, .slice A0_1 l0_1.length c0_1, .slice A0_2 l0_2.length c0_2]] rfl (by (try simp only [List.map_toArray, List.map_cons, List.map_nil]); first | done | rfl | (simp only [List.length_drop, List.length_take]; rfl)) ?_; (with_reducible refine (conf_numbers.calls k _ _ l0_0 _ _ l0_1 _ _ l0_2 t363 _ ?side1 ?side2 ?side3 ?side4 ?side5 ?side6 A2.out).mono ?_); (case side1 => repeat (first | exact (Kd.C_below HR0_0.out HB.out) | (with_reducible refine Kd.C_alloc ?_ _) | (with_reducible refine Kd.C_drewN ?_ _) | (with_reducible refine Kd.C_drew ?_))); (case side2 => exact HC0_0.out); (case side3 => repeat (first | exact (Kd.C_below HR0_1.out HB.out) | (with_reducible refine Kd.C_alloc ?_ _) | (with_reducible refine Kd.C_drewN ?_ _) | (with_reducible refine Kd.C_drew ?_))); (case side4 => exact HC0_1.out); (case side5 => repeat (first | exact (Kd.C_below HR0_2.out HB.out) | (with_reducible refine Kd.C_alloc ?_ _) | (with_reducible refine Kd.C_drewN ?_ _) | (with_reducible refine Kd.C_drew ?_))); (case side6 => exact HC0_2.out); rintro e w13 ⟨rfl, hb⟩; refine ⟨_, rfl, ?_⟩; have n0_ := Aside0.mk (blk_below (g := gb362) (o := .cells #[.slice A0_0 l0_0.length c0_0, .slice A0_1 l0_1.length c0_1, .slice A0_2 l0_2.length c0_2] 26 (0, 0)) (by (with_reducible repeat (first | refine blk_drewN ?_ _ | refine blk_drew ?_ | refine blk_alloc ?_ _)); exact BK362.out) hb); have n1_ := Aside0.mk (below_step (by repeat (first | (with_reducible first | exact HB.out | apply below_alloc | apply pw_below_drewN | apply below_drew1 | refine below_set ?_ GE362.out) | exact HB.out)) hb); clear BK362; clear HB; have BK362 := n0_; have HB := n1_; clear n0_ n1_; (try clear hb); (try clear hb2); (try clear hk); (try clear hi); have hcz14_0 : w13.cell? ⟨gb362, 0, none⟩ = some (.slice A0_0 l0_0.length c0_0) := (blk_cell BK362.out 0).trans rfl; have hcz14_1 : w13.cell? ⟨gb362, 1, none⟩ = some (.slice A0_1 l0_1.length c0_1) := (blk_cell BK362.out 1).trans rfl; have hcz14_2 : w13.cell? ⟨gb362, 2, none⟩ = some (.slice A0_2 l0_2.length c0_2) := (blk_cell BK362.out 2).trans rfl; have hfz14_0 := blk_frozen BK362.out 0; have hfz14_1 := blk_frozen BK362.out 1; have hfz14_2 := blk_frozen BK362.out 2) | ((with_reducible refine gate_callee (f := 36) rfl ?_); refine goesL_ (some 10) rfl rfl Try.func36 (by kernel_rfl) rfl #[.agg #[.slice A0_0 l0_0.length c0_0, .slice A0_1 l0_1.length c0_1, .slice A0_2 l0_2.length c0_2]] rfl (by (try simp only [List.map_toArray, List.map_cons, List.map_nil]); first | done | rfl | (simp only [List.length_drop, List.length_take]; rfl)) ?_; (with_reducible refine (conf_Frames.calls k _ _ l0_0 _ _ l0_1 _ _ l0_2 t364 _ ?side1 ?side2 ?side3 ?side4 ?side5 ?side6 A4.out).mono ?_); (case side1 => repeat (first | exact (Kd.C_below HR0_0.out HB.out) | (with_reducible refine Kd.C_alloc ?_ _) | (with_reducible refine Kd.C_drewN ?_ _) | (with_reducible refine Kd.C_drew ?_))); (case side2 => exact HC0_0.out); (case side3 => repeat (first | exact (Kd.C_below HR0_1.out HB.out) | (with_reducible refine Kd.C_alloc ?_ _) | (with_reducible refine Kd.C_drewN ?_ _) | (with_reducible refine Kd.C_drew ?_))); (case side4 => exact HC0_1.out); (case side5 => repeat (first | exact (Kd.C_below HR0_2.out HB.out) | (with_reducible refine Kd.C_alloc ?_ _) | (with_reducible refine Kd.C_drewN ?_ _) | (with_reducible refine Kd.C_drew ?_))); (case side6 => exact HC0_2.out); rintro e w15 ⟨rfl, hb⟩; refine ⟨_, rfl, ?_⟩; have n0_ := Aside0.mk (blk_below (g := gb362) (o := .cells #[.slice A0_0 l0_0.length c0_0, .slice A0_1 l0_1.length c0_1, .slice A0_2 l0_2.length c0_2] 26 (0, 0)) (by (with_reducible repeat (first | refine blk_drewN ?_ _ | refine blk_drew ?_ | refine blk_alloc ?_ _)); exact BK362.out) hb); have n1_ := Aside0.mk (below_step (by repeat (first | (with_reducible first | exact HB.out | apply below_alloc | apply pw_below_drewN | apply below_drew1 | refine below_set ?_ GE362.out) | exact HB.out)) hb); clear BK362; clear HB; have BK362 := n0_; have HB := n1_; clear n0_ n1_; (try clear hb); (try clear hb2); (try clear hk); (try clear hi)))
      go_ret
      exact ⟨by first | rfl | (simp [errW_none, errW_some] <;> rfl) | (simp [*, errW_none, errW_some] <;> rfl), by repeat (first | (with_reducible first | exact HB.out | apply below_alloc | apply pw_below_drewN | apply below_drew1 | refine below_set ?_ GE362.out) | exact HB.out)⟩
  · rw [if_neg c3] at H
    have c3b0 : (t363 == 0) = false := beq_eq_false_iff_ne.mpr c3
    have c3b1 : (t363 != 0) = true := bne_iff_ne.mpr c3
    obtain rfl := Option.some.inj H
    go_enter Try.func22, Try.ntmps22
    go_wp2_with (first | ((with_reducible refine gate_dst (N := 1) rfl ?_); refine box_event ?hg (N := 1) ?hd (cs := #[.slice A0_0 l0_0.length c0_0, .slice A0_1 l0_1.length c0_1, .slice A0_2 l0_2.length c0_2]) (t := 26) ?hr ?_; (case hd => rfl); (case hg => rfl); (case hr => first | (go_simp; done) | (go_simp; rfl)); intro gb362 hg w16 hbox hb; have n0_ := Aside0.mk (below_step (by repeat (first | (with_reducible first | exact HB.out | apply below_alloc | apply pw_below_drewN | apply below_drew1) | exact HB.out)) hb); have n1_ := Aside0.mk (hbox); have n2_ := Aside0.mk ((by rw [hg]; exact (below_size (by repeat (first | (with_reducible first | exact HB.out | apply below_alloc | apply pw_below_drewN | apply below_drew1) | exact HB.out))) : w.heap.size ≤ gb362)); have n3_ := Aside0.mk ((by rw [hg]; exact (below_size (by repeat (first | (with_reducible first | exact HB.out | apply below_alloc | apply pw_below_drewN | apply below_drew1) | exact HB.out))) : w.heap.size ≤ gb362)); clear HB; have HB := n0_; have BK362 := n1_; have GW362 := n2_; have GE362 := n3_; clear n0_ n1_ n2_ n3_; clear hb hbox hg; have hcz17_0 : w16.cell? ⟨gb362, 0, none⟩ = some (.slice A0_0 l0_0.length c0_0) := (blk_cell BK362.out 0).trans rfl; have hcz17_1 : w16.cell? ⟨gb362, 1, none⟩ = some (.slice A0_1 l0_1.length c0_1) := (blk_cell BK362.out 1).trans rfl; have hcz17_2 : w16.cell? ⟨gb362, 2, none⟩ = some (.slice A0_2 l0_2.length c0_2) := (blk_cell BK362.out 2).trans rfl; have hfz17_0 := blk_frozen BK362.out 0; have hfz17_1 := blk_frozen BK362.out 1; have hfz17_2 := blk_frozen BK362.out 2) | ((with_reducible refine gate_callee (f := 35) rfl ?_); refine goesL_ (some 5) rfl rfl Try.func35 (by kernel_rfl) rfl #[.agg #[.slice A0_0 l0_0.length c0_0, .slice A0_1 l0_1.length c0_1, .slice A0_2 l0_2.length c0_2]] rfl (by (try simp only [List.map_toArray, List.map_cons, List.map_nil]); first | done | rfl | (simp only [List.length_drop, List.length_take]; rfl)) ?_; (with_reducible refine (conf_numbers.calls k _ _ l0_0 _ _ l0_1 _ _ l0_2 t363 _ ?side1 ?side2 ?side3 ?side4 ?side5 ?side6 A2.out).mono ?_); (case side1 => repeat (first | exact (Kd.C_below HR0_0.out HB.out) | (with_reducible refine Kd.C_alloc ?_ _) | (with_reducible refine Kd.C_drewN ?_ _) | (with_reducible refine Kd.C_drew ?_))); (case side2 => exact HC0_0.out); (case side3 => repeat (first | exact (Kd.C_below HR0_1.out HB.out) | (with_reducible refine Kd.C_alloc ?_ _) | (with_reducible refine Kd.C_drewN ?_ _) | (with_reducible refine Kd.C_drew ?_))); (case side4 => exact HC0_1.out); (case side5 => repeat (first | exact (Kd.C_below HR0_2.out HB.out) | (with_reducible refine Kd.C_alloc ?_ _) | (with_reducible refine Kd.C_drewN ?_ _) | (with_reducible refine Kd.C_drew ?_))); (case side6 => exact HC0_2.out); rintro e w18 ⟨rfl, hb⟩; refine ⟨_, rfl, ?_⟩; have n0_ := Aside0.mk (blk_below (g := gb362) (o := .cells #[.slice A0_0 l0_0.length c0_0, .slice A0_1 l0_1.length c0_1, .slice A0_2 l0_2.length c0_2] 26 (0, 0)) (by (with_reducible repeat (first | refine blk_drewN ?_ _ | refine blk_drew ?_ | refine blk_alloc ?_ _)); exact BK362.out) hb); have n1_ := Aside0.mk (below_step (by repeat (first | (with_reducible first | exact HB.out | apply below_alloc | apply pw_below_drewN | apply below_drew1 | refine below_set ?_ GE362.out) | exact HB.out)) hb); clear BK362; clear HB; have BK362 := n0_; have HB := n1_; clear n0_ n1_; (try clear hb); (try clear hb2); (try clear hk); (try clear hi)))
    go_ret
    exact ⟨by first | rfl | (simp [errW_none, errW_some] <;> rfl) | (simp [*, errW_none, errW_some] <;> rfl), by repeat (first | (with_reducible first | exact HB.out | apply below_alloc | apply pw_below_drewN | apply below_drew1 | refine below_set ?_ GE362.out) | exact HB.out)⟩
end Go.Proofs.Ytfmpabdaadllaaa.PAll

/-
  conf.Check in plain Lean.
-/
namespace Go.Proofs.Ytfmpabdaadllaaa.PAll
open Go.RowKit Go.Proofs.YtfmpabdaadllaaaW.PrintWords Go.Proofs.YtfmpabdaadllaaaW.PrintLast
set_option linter.unusedVariables false
set_option linter.unusedSimpArgs false
theorem wrap_id {x : Int} (h : -9223372036854775808 ≤ x ∧ x ≤ 9223372036854775807) : wrap64 x = x := by unfold wrap64; omega
def frP (P : List S73) : Nat → Int
  | 0 => 0
  | i + 1 => frP P i + ((P.getD i z73).f0 + ((P.getD i z73).f1 + 2) / 3)
def frC (C : List S46) : Nat → Int
  | 0 => 0
  | i + 1 => frC C i + (((C.getD i z46).f2 * ((C.getD i z46).f3 + 1) + 31) / 32)
def chkE (P : List S73) (W : List S75) (C : List S46) : Int := if numB P W C = true then (if frP P P.length + frC C C.length > 1024 then 3 else 0) else 2
theorem okP_bd {P W C} (h : NumOk P W C) {i : Nat} (hi : i < P.length) : 4 ≤ (P.getD i z73).f0 ∧ (P.getD i z73).f0 ≤ 256 ∧ 1 ≤ (P.getD i z73).f1 ∧ (P.getD i z73).f1 ≤ 8 := by
  have := h.p i hi; unfold okP at this; rw [Bool.and_eq_true] at this
  have h1 := inB_true.1 this.1
  have h2 := inB_true.1 this.2
  omega
theorem okC_bd {P W C} (h : NumOk P W C) {i : Nat} (hi : i < C.length) : 1 ≤ (C.getD i z46).f2 ∧ (C.getD i z46).f2 ≤ 8 ∧ 1 ≤ (C.getD i z46).f3 ∧ (C.getD i z46).f3 ≤ 8 := by
  have := h.c i hi; unfold okC at this; simp only [Bool.and_eq_true] at this
  have h1 := inB_true.1 this.2.2.2.1
  have h2 := inB_true.1 this.2.2.2.2
  omega
theorem mul_bd {a b : Int} (ha : 1 ≤ a ∧ a ≤ 8) (hb : 1 ≤ b ∧ b ≤ 8) : 2 ≤ a * (b + 1) ∧ a * (b + 1) ≤ 72 := by
  have : a = 1 ∨ a = 2 ∨ a = 3 ∨ a = 4 ∨ a = 5 ∨ a = 6 ∨ a = 7 ∨ a = 8 := by omega
  rcases this with rfl | rfl | rfl | rfl | rfl | rfl | rfl | rfl <;> omega
theorem frP_bd {P W C} (h : NumOk P W C) : ∀ i, i ≤ P.length → 0 ≤ frP P i ∧ frP P i ≤ 300 * i
  | 0, _ => ⟨Int.le_refl _, by simp [frP]⟩
  | i + 1, hi => by
    have := frP_bd h i (by omega)
    have := okP_bd h (show i < P.length by omega)
    unfold frP
    omega
theorem frC_bd {P W C} (h : NumOk P W C) : ∀ i, i ≤ C.length → 0 ≤ frC C i ∧ frC C i ≤ 4 * i
  | 0, _ => ⟨Int.le_refl _, by simp [frC]⟩
  | i + 1, hi => by
    have := frC_bd h i (by omega)
    have hb := okC_bd h (show i < C.length by omega)
    have := mul_bd ⟨hb.1, hb.2.1⟩ hb.2.2
    unfold frC
    omega
theorem rd73 (P : List S73) (i : Nat) : rd_T73 P (i : Int) = P.getD i z73 := by unfold rd_T73; rw [Int.toNat_natCast]
theorem rd46 (P : List S46) (i : Nat) : rd_T46 P (i : Int) = P.getD i z46 := by unfold rd_T46; rw [Int.toNat_natCast]
theorem rd75 (P : List S75) (i : Nat) : rd_T75 P (i : Int) = P.getD i z75 := by unfold rd_T75; rw [Int.toNat_natCast]
theorem by3 {a : Int} (h : 1 ≤ a ∧ a ≤ 1000) : conf_by.f a 3 = some ((a + 2) / 3) := by
  unfold conf_by.f
  rw [if_neg (by omega), wrap_id (x := a + 3) (by omega), wrap_id (x := a + 3 - 1) (by omega), Int.tdiv_eq_ediv_of_nonneg (by omega), wrap_id (by omega), show a + 3 - 1 = a + 2 by omega]
theorem by32 {a : Int} (h : 1 ≤ a ∧ a ≤ 1000) : conf_by.f a 32 = some ((a + 31) / 32) := by
  unfold conf_by.f
  rw [if_neg (by omega), wrap_id (x := a + 32) (by omega), wrap_id (x := a + 32 - 1) (by omega), Int.tdiv_eq_ediv_of_nonneg (by omega), wrap_id (by omega), show a + 32 - 1 = a + 31 by omega]
theorem frames_l1 {P W C} (h : NumOk P W C) (x : Int) (hx : 0 ≤ x ∧ x ≤ 10000) : ∀ (d i k : Nat), i + d = C.length → d < k → conf_Frames.l1 k (x + frC C i) C (C.length : Int) (i : Int) = some (x + frC C C.length)
  | 0, i, k + 1, hd, _ => by
    unfold conf_Frames.l1
    rw [if_neg (by omega), show i = C.length by omega]
  | d + 1, i, k + 1, hd, hk => by
    have hi : i < C.length := by omega
    have hb := okC_bd h hi
    have hm := mul_bd ⟨hb.1, hb.2.1⟩ hb.2.2
    have hf := frC_bd h i (by omega)
    have hf2 := frC_bd h (i + 1) (by omega)
    have h16 := h.c1
    have ih := frames_l1 h x hx d (i + 1) k (by omega) (by omega)
    unfold conf_Frames.l1
    rw [if_pos (by omega), if_pos (by omega), if_pos (by omega), rd46, wrap_id (x := (C.getD i z46).f3 + 1) (by omega), wrap_id (x := (C.getD i z46).f2 * ((C.getD i z46).f3 + 1)) (by omega), by32 (by omega)]
    simp only [Option.bind_some]
    rw [wrap_id (x := (i : Int) + 1) (by omega), show (i : Int) + 1 = ((i + 1 : Nat) : Int) by omega]
    have e : x + frC C i + ((C.getD i z46).f2 * ((C.getD i z46).f3 + 1) + 31) / 32 = x + frC C (i + 1) := by rw [show frC C (i + 1) = frC C i + (((C.getD i z46).f2 * ((C.getD i z46).f3 + 1) + 31) / 32) from rfl]; omega
    rw [e, wrap_id (by omega)]
    exact ih
theorem frames_l0 {P W C} (h : NumOk P W C) : ∀ (d i k : Nat), i + d = P.length → d + C.length + 1 < k → conf_Frames.l0 k (frP P i) P (P.length : Int) (i : Int) P W C = some (frP P P.length + frC C C.length)
  | 0, i, k + 1, hd, hk => by
    have hf := frP_bd h P.length (Nat.le_refl _)
    have hp := h.p1
    unfold conf_Frames.l0
    rw [if_neg (by omega), show i = P.length by omega]
    have := frames_l1 h (frP P P.length) (by omega) C.length 0 k (by omega) (by omega)
    rw [show frC C 0 = 0 from rfl, Int.add_zero] at this
    exact this
  | d + 1, i, k + 1, hd, hk => by
    have hi : i < P.length := by omega
    have hb := okP_bd h hi
    have hf := frP_bd h i (by omega)
    have hf2 := frP_bd h (i + 1) (by omega)
    have h8 := h.p1
    have ih := frames_l0 h d (i + 1) k (by omega) (by omega)
    unfold conf_Frames.l0
    rw [if_pos (by omega), if_pos (by omega), if_pos (by omega), rd73, by3 (by omega)]
    simp only [Option.bind_some]
    have e : frP P i + ((P.getD i z73).f0 + ((P.getD i z73).f1 + 2) / 3) = frP P (i + 1) := rfl
    rw [wrap_id (x := (i : Int) + 1) (by omega), show (i : Int) + 1 = ((i + 1 : Nat) : Int) by omega, wrap_id (x := (P.getD i z73).f0 + ((P.getD i z73).f1 + 2) / 3) (by omega), e, wrap_id (by omega)]
    exact ih
theorem check_f (P : List S73) (W : List S75) (C : List S46) : conf_Check.f 64 P W C = some (chkE P W C) := by
  unfold conf_Check.f conf_numbers.f chkE
  simp only [Option.bind_some]
  by_cases h : NumOk P W C
  · rw [numE_yes h, if_pos rfl, if_pos (numB_iff.2 h)]
    unfold conf_Frames.f conf_numbers.f
    simp only [Option.bind_some]
    have h1 := h.p1
    have h2 := h.c1
    have := frames_l0 h P.length 0 64 (by omega) (by omega)
    rw [numE_yes h, if_pos rfl]
    rw [show frP P 0 = 0 from rfl] at this
    rw [show ((0 : Nat) : Int) = 0 from rfl] at this
    rw [this]
    simp only [Option.bind_some]
    split <;> rfl
  · rw [numE_no h, if_neg (by decide), if_neg (fun e => h (numB_iff.1 e))]
theorem check_calls (P : List S73) (Wn : List S75) (Cn : List S46) (A0 : Option Addr) (c0 : Nat) (A1 : Option Addr) (c1 : Nat) (A2 : Option Addr) (c2 : Nat) (w : World) (h0 : Kd.C k73 w A0 P.length P) (hc0 : P.length ≤ c0) (h1 : Kd.C k75 w A1 Wn.length Wn) (hc1 : Wn.length ≤ c1) (h2 : Kd.C k46 w A2 Cn.length Cn) (hc2 : Cn.length ≤ c2) :
    Calls Try.prog 22 #[.agg #[.slice A0 P.length c0, .slice A1 Wn.length c1, .slice A2 Cn.length c2]] w fun e W' => e = .returned (.int .i64 (chkE P Wn Cn)) ∧ w.grownBy W' none :=
  (conf_Check.calls 64 A0 c0 P A1 c1 Wn A2 c2 Cn (chkE P Wn Cn) w h0 hc0 h1 hc1 h2 hc2 (check_f P Wn Cn)).mono (fun e W h => ⟨h.1, gb_below h.2⟩)
theorem chkE_ok {P W C} (h : chkE P W C = 0) : NumOk P W C := by
  unfold chkE at h
  by_cases e : numB P W C = true
  · exact numB_iff.1 e
  · rw [if_neg e] at h; cases h
end Go.Proofs.Ytfmpabdaadllaaa.PAll

/-
  A range over a function whose iterator writes to memory of its own between two rounds: a contract by states, and its law. For any program.
-/
namespace Go.Proofs.YtfmpabdaadllaaaM
open Go.RowKit
set_option linter.unusedVariables false
variable {F : Fence} {n : Nat} {P : Program}
/-- The iterator, called in any later world: in state s it yields an x that R tells, and is in state s' then; it ends in a state that Stp tells. K: what it does to memory of its own between two rounds. TI: its own state, which the body leaves as it is. -/
def SeqG {σ α : Type} (F : Fence) (n : Nat) (P : Program) (g : Nat) (lb : Array Value) (encs : α → Array Value) (K : World → World → Prop) (TI : σ → World → Prop) (R : σ → α → σ → Prop) (Stp : σ → Prop) (s0 : σ) : Prop :=
  ∀ (l : Nat) (J : σ → World → Prop) (Jx : World → Prop) (W : World), (∀ s A B, J s A → K A B → J s B) → (∀ A B, Jx A → K A B → Jx B) →
    (∀ s x s' W1, J s W1 → TI s' W1 → R s x s' → YieldAt F (n - 1) P l (encs x) W1 fun e W' => (e = .returned (.bool true) ∧ J s' W' ∧ TI s' W') ∨ (e = .returned (.bool false) ∧ Jx W')) →
    J s0 W → TI s0 W →
    CallsIn F n P g (#[.func (.yield l) #[] #[]] ++ lb) W fun e W' => (∃ v, e = .returned v) ∧ ((∃ s, Stp s ∧ J s W' ∧ TI s W') ∨ Jx W')
/-- How a round's body may be left. -/
def postD (B : Nat) (I : World → Prop) (Ix : Code → World → Prop) (W : World) : Exit → Act → World → Prop
  | .normal, _, W' => KeepsFrom B W W' ∧ I W'
  | .ret, _, W' => KeepsFrom B W W' ∧ Ix .ret W'
  | .exit id, _, W' => KeepsFrom B W W' ∧ Ix (.exit id) W'
  | .goto t, _, W' => KeepsFrom B W W' ∧ Ix (.goto t) W'
  | .panic _, _, _ => False
  | .outgrown, _, _ => False
theorem wpIn_rangeFunc_G {σ α : Type} {g : Operand} {ps : Array Tmp} {assign body : Code} {Q : Exit → Act → World → Prop} {a : Act} {w : World}
    (hro : F.round = none) (h1 : 1 ≤ n) {gf : Nat} {lb : Array Value} (hg : a.eval g = .func (.func gf) #[] lb) (hFg : F.fn gf) (eg : ∀ args w, (callFunc gf args).run P w = .ok (.enter gf args) w)
    {encs : α → Array Value} {K : World → World → Prop} {TI : σ → World → Prop} {R : σ → α → σ → Prop} {Stp : σ → Prop} {s0 : σ} (hseq : SeqG F (n - 1) P gf lb encs K TI R Stp s0) (hps : ∀ x, (encs x).size = ps.size)
    (I : σ → World → Prop) (Ix : Code → World → Prop) (hI : OwnFrom w.heap.size I) (hIx : OwnFrom w.heap.size Ix) (hTI : OwnFrom w.heap.size TI) (hK : ∀ A B, K A B → ∀ k, w.heap.size ≤ k → k < A.heap.size → B.heap[k]? = A.heap[k]?) (hIK : ∀ s A B, I s A → K A B → I s B) (hIxK : ∀ c A B, Ix c A → K A B → Ix c B) (h0 : I s0 w) (ht0 : TI s0 w)
    (hround : ∀ (l : Nat) (s : σ) (x : α) (s' : σ) (W : World), w.heap.size < l → I s W → TI s' W → R s x s' →
      assign.wpIn (F.inRound l) (n - 1 - 1) P (Exit.then (fun a' Wa => KeepsFrom w.heap.size W Wa ∧ ∀ W2, Wa.grownBy W2 (some l) → (∃ o : Obj, Wa.heap[l]? = some o ∧ o.isCells = false) →
        body.wpIn (F.inRound l) (n - 1 - 1) P (postD w.heap.size (fun W' => I s' W' ∧ TI s' W') Ix W2) a' W2) (fun _ _ _ => False)) { tmps := (ps.zip (encs x)).foldl (fun t (p, v) => t.setIfInBounds p v) a.tmps, defers := [] } W)
    (hdone : ∀ (D : Nat) (s : σ) (W : World), w.heap.size ≤ D → Stp s → TI s W → I s W → W.heap[D]? = some (.deferred (some [])) → Q .normal { a with defers := { target := .collected D, args := #[] } :: a.defers } W)
    (hstop : ∀ (D : Nat) (c : Code) (W : World), w.heap.size ≤ D → Ix c W → W.heap[D]? = some (.deferred (some [])) → c.wpIn F n P Q { a with defers := { target := .collected D, args := #[] } :: a.defers } W) :
    (Code.rangeFunc g ps assign body).wpIn F n P Q a w := by
  refine wpIn_rangeFunc ?_
  intro fn hfn
  rw [hro]
  obtain ⟨rec, hrec⟩ : ∃ rec : LoopState → Option Code → Loop, rec = fun st pe => { state := st, pending := pe, fn, tmps := a.tmps, params := ps, assign, body, defers := w.heap.size } := ⟨_, rfl⟩
  obtain ⟨W1, hW1⟩ : ∃ W1, (w.alloc (.deferred (some []))).alloc (.loop (rec .ready none)) = W1 := ⟨_, rfl⟩
  have hL1 : W1.heap[w.heap.size + 1]? = some (.loop (rec .ready none)) := by
    rw [← hW1]; have := World.alloc_heap_new (w.alloc (.deferred (some []))) (.loop (rec .ready none)); rwa [World.size_alloc] at this
  have hK1 : W1.heap[w.heap.size]? = some (.deferred (some [])) := by
    rw [← hW1]; exact (Below.heap_alloc _ _ _ (by simp)).trans (World.alloc_heap_new w _)
  have hI1 : I s0 W1 := by rw [← hW1]; exact hI.alloc _ (hI.alloc _ h0)
  have hT1 : TI s0 W1 := by rw [← hW1]; exact hTI.alloc _ (hTI.alloc _ ht0)
  refine ⟨w.heap.size + 1, [{ target := .collected w.heap.size, args := #[] }], W1, { target := .fn (.func gf) lb, args := #[.func (.yield (w.heap.size + 1)) #[] #[]] }, W1, gf,
    #[.func (.yield (w.heap.size + 1)) #[] #[]] ++ lb, W1, ?_, ?_, ?_, ?_, fun _ => h1, ?_⟩
  · rw [← hW1, hrec]; exact run_enterLoop_outer _ _ _ _ _
  · simp only [resolve, hg]
    simp [go_sem]
  · intro f' hf'; simp [Target.leads] at hf'; subst hf'; exact hFg
  · simp [invoke, go_sem, eg]
  · refine (hseq (w.heap.size + 1)
      (fun s W => I s W ∧ W.heap[w.heap.size + 1]? = some (.loop (rec .ready none)) ∧ W.heap[w.heap.size]? = some (.deferred (some [])))
      (fun W => ∃ c, Ix c W ∧ W.heap[w.heap.size + 1]? = some (.loop (rec .done (some c))) ∧ W.heap[w.heap.size]? = some (.deferred (some [])))
      W1
      (fun s A B hs hk => ⟨hIK s A B hs.1 hk, (hK A B hk _ (by omega) (Array.getElem?_eq_some_iff.1 hs.2.1).1).trans hs.2.1, (hK A B hk _ (Nat.le_refl _) (Array.getElem?_eq_some_iff.1 hs.2.2).1).trans hs.2.2⟩)
      (fun A B hs hk => by
        obtain ⟨c, hc, hl, hk2⟩ := hs
        exact ⟨c, hIxK c A B hc hk, (hK A B hk _ (by omega) (Array.getElem?_eq_some_iff.1 hl).1).trans hl, (hK A B hk _ (Nat.le_refl _) (Array.getElem?_eq_some_iff.1 hk2).1).trans hk2⟩)
      ?_ ⟨hI1, hL1, hK1⟩ hT1).mono ?_
    · rintro s x s' W ⟨hi, hl, hk⟩ ht hR
      have hy := run_yield (P := P) (args := encs x) hl (by rw [hrec]; exact hps x)
      rw [hrec] at hy
      refine ⟨fn, _, assign, body, hy, roundIn_of_wpIn hfn (wpIn_mono (hround (w.heap.size + 1) s x s' W (Nat.lt_succ_self _) hi ht hR) ?_)⟩
      intro e1 a' Wa hpa
      cases e1 with
      | exit id => exact hpa.elim
      | goto t => exact hpa.elim
      | ret => exact hpa.elim
      | panic chain => exact hpa.elim
      | outgrown => exact hpa.elim
      | normal =>
        obtain ⟨hkfa, hbody⟩ := hpa
        have hla := hkfa.same _ _ (by omega) hl rfl
        have hka := hkfa.same _ _ (Nat.le_refl _) hk rfl
        have hlta : w.heap.size + 1 < Wa.heap.size := (Array.getElem?_eq_some_iff.1 hla).1
        refine ⟨_, run_beginRound hla (by rw [hrec]), ?_⟩
        have hl2 : (Wa.putObj (w.heap.size + 1) (.loop { rec .ready none with state := .busy })).heap[w.heap.size + 1]? = some (.loop { rec .ready none with state := .busy }) := World.putObj_heap_same hlta
        have hk2 : (Wa.putObj (w.heap.size + 1) (.loop { rec .ready none with state := .busy })).heap[w.heap.size]? = some (.deferred (some [])) := (World.putObj_heap_other (by omega)).trans hka
        refine wpIn_mono (hbody _ (grownBy_putObj' _ _ _) ⟨_, hla, rfl⟩) ?_
        have fin : ∀ (jump : Option Code) (W3 : World), KeepsFrom w.heap.size (Wa.putObj (w.heap.size + 1) (.loop { rec .ready none with state := .busy })) W3 →
            (Instr.endRound (w.heap.size + 1) jump).run P W3 = .ok (.bool jump.isNone) (W3.putObj (w.heap.size + 1) (.loop (rec (if jump.isNone then .ready else .done) jump))) ∧
            W3.heap[w.heap.size + 1]? = some (.loop { rec .ready none with state := .busy }) ∧
            (W3.putObj (w.heap.size + 1) (.loop (rec (if jump.isNone then .ready else .done) jump))).heap[w.heap.size + 1]? = some (.loop (rec (if jump.isNone then .ready else .done) jump)) ∧
            (W3.putObj (w.heap.size + 1) (.loop (rec (if jump.isNone then .ready else .done) jump))).heap[w.heap.size]? = some (.deferred (some [])) := fun jump W3 hk3 => by
          have hl3 := hk3.same _ _ (by omega) hl2 rfl
          have := run_endRound (P := P) jump hl3
          rw [hrec] at this ⊢
          exact ⟨this, by rw [hrec] at hl3; exact hl3, World.putObj_heap_same (Array.getElem?_eq_some_iff.1 hl3).1, (World.putObj_heap_other (by omega)).trans (hk3.same _ _ (Nat.le_refl _) hk2 rfl)⟩
        rintro e a3 W3 hp
        cases e with
        | normal =>
          obtain ⟨hk3, hi3, ht3⟩ := hp
          obtain ⟨hr, hl3, hl4, hk4⟩ := fin none W3 hk3
          exact ⟨_, _, hr, .inl ⟨rfl, ⟨hI.putObj _ hi3 (by omega) hl3 rfl, hl4, hk4⟩, hTI.putObj _ ht3 (by omega) hl3 rfl⟩⟩
        | ret =>
          obtain ⟨hk3, hi3⟩ := hp
          obtain ⟨hr, hl3, hl4, hk4⟩ := fin (some .ret) W3 hk3
          exact ⟨_, _, hr, .inr ⟨rfl, .ret, hIx.putObj _ hi3 (by omega) hl3 rfl, hl4, hk4⟩⟩
        | exit id =>
          obtain ⟨hk3, hi3⟩ := hp
          obtain ⟨hr, hl3, hl4, hk4⟩ := fin (some (.exit id)) W3 hk3
          exact ⟨_, _, hr, .inr ⟨rfl, .exit id, hIx.putObj _ hi3 (by omega) hl3 rfl, hl4, hk4⟩⟩
        | goto t =>
          obtain ⟨hk3, hi3⟩ := hp
          obtain ⟨hr, hl3, hl4, hk4⟩ := fin (some (.goto t)) W3 hk3
          exact ⟨_, _, hr, .inr ⟨rfl, .goto t, hIx.putObj _ hi3 (by omega) hl3 rfl, hl4, hk4⟩⟩
        | panic ch => exact hp.elim
        | outgrown => exact hp.elim
    · rintro e W2 ⟨⟨v, rfl⟩, (⟨s, hS, ⟨hi, hl, hk⟩, ht⟩ | ⟨c, hi, hl, hk⟩)⟩
      · exact ⟨none, _, by have := run_endLoop (P := P) hl (by rw [hrec]; simp); rw [hrec] at this; exact this, hdone _ s _ (Nat.le_refl _) hS (hTI.putObj _ ht (by omega) hl rfl) (hI.putObj _ hi (by omega) hl rfl) ((World.putObj_heap_other (by omega)).trans hk)⟩
      · exact ⟨some c, _, by have := run_endLoop (P := P) hl (by rw [hrec]; simp); rw [hrec] at this; exact this, hstop _ c _ (Nat.le_refl _) (hIx.putObj _ hi (by omega) hl rfl) ((World.putObj_heap_other (by omega)).trans hk)⟩
end Go.Proofs.YtfmpabdaadllaaaM

/-
  The schedule in memory: none, Part; its plain step.
-/
namespace Go.Proofs.Ytfmpabdaadllaaa.PAll
open Go.RowKit Go.Proofs.YtfmpabdaadllaaaM Go.Proofs.YtfmpabdaadllaaaW.PrintWords Go.Proofs.YtfmpabdaadllaaaW.PrintLast
set_option linter.unusedVariables false
set_option linter.unusedSimpArgs false
/-- What a schedule's windows are. -/
structure WOk (Wn : List S75) : Prop where
  len : 1 ≤ Wn.length ∧ Wn.length ≤ 32
  tk : ∀ i, i < Wn.length → 1 ≤ (Wn.getD i z75).f1 ∧ (Wn.getD i z75).f1 ≤ 255
  pt : ∀ i, i < Wn.length → 0 ≤ (Wn.getD i z75).f0
theorem NumOk.wok {P : List S73} {Wn : List S75} {Cn : List S46} (h : NumOk P Wn Cn) : WOk Wn :=
  ⟨h.w1, fun i hi => by have := h.w i hi; unfold okW at this; rw [Bool.and_eq_true] at this; exact inB_true.1 this.2,
    fun i hi => by have := h.w i hi; unfold okW at this; rw [Bool.and_eq_true] at this; exact (inB_true.1 this.1).1⟩
/-- One tick more. -/
def nextS (Wn : List S75) (s : Nat × Nat) : Nat × Nat := if ((s.2 : Int) + 1) = (Wn.getD s.1 z75).f1 then ((s.1 + 1) % Wn.length, 0) else (s.1, s.2 + 1)
def posS (Wn : List S75) : Nat → Nat × Nat
  | 0 => (0, 0)
  | n + 1 => nextS Wn (posS Wn n)
def partS (Wn : List S75) (n : Nat) : Int := (Wn.getD (posS Wn n).1 z75).f0
def SOk (Wn : List S75) (s : Nat × Nat) : Prop := s.1 < Wn.length ∧ (s.2 : Int) < (Wn.getD s.1 z75).f1
theorem nextS_ok {Wn : List S75} (h : WOk Wn) {s : Nat × Nat} (hs : SOk Wn s) : SOk Wn (nextS Wn s) := by
  unfold nextS
  split
  · have hl := Nat.mod_lt (s.1 + 1) (show 0 < Wn.length by have := h.len; omega)
    exact ⟨hl, by have := (h.tk _ hl).1; simp only; omega⟩
  · exact ⟨hs.1, by have := hs.2; simp only; omega⟩
theorem posS_ok {Wn : List S75} (h : WOk Wn) : ∀ n, SOk Wn (posS Wn n)
  | 0 => ⟨by have := h.len; simp only [posS]; omega, by have := (h.tk 0 (by have := h.len; omega)).1; simp only [posS]; omega⟩
  | n + 1 => nextS_ok h (posS_ok h n)
/-- The schedule at gs: its windows, where it is, how many ticks there were. -/
def SchW (W : World) (gs : Nat) (Wn : List S75) (s : Nat × Nat) (t : Nat) : Prop :=
  ∃ ad c, W.heap[gs]? = some (.cells #[.slice (some ad) Wn.length c, .int .i64 (s.1 : Int), .int .i64 (s.2 : Int), .int .u64 (t : Int)] 83 (0, 0)) ∧ Wn.length ≤ c ∧ Kd.C k75 W (some ad) Wn.length Wn ∧ ad.block < gs ∧ s.1 < Wn.length
theorem SchW.lt {W : World} {gs : Nat} {Wn : List S75} {s : Nat × Nat} {t : Nat} (h : SchW W gs Wn s t) : gs < W.heap.size := by
  obtain ⟨ad, c, h1, _⟩ := h; exact blk_lt h1
theorem SchW.grown {W W' : World} {gs : Nat} {Wn : List S75} {s : Nat × Nat} {t : Nat} (h : SchW W gs Wn s t) (hg : W.grownBy W' none) : SchW W' gs Wn s t := by
  obtain ⟨ad, c, h1, h2, h3, h4⟩ := h
  exact ⟨ad, c, blk_grown h1 hg (by simp), h2, Kd.C_below h3 (below_of_grown hg), h4⟩
theorem none_calls (Wn : List S75) (hW : WOk Wn) (gs : Nat) (s : Nat × Nat) (t : Nat) (w : World) (h : SchW w gs Wn s t) :
    Calls Try.prog 51 #[.pointer (some ⟨gs, 0, none⟩)] w fun e W' => e = .returned (.bool false) ∧ w = W' := by
  obtain ⟨ad, c, hb, _⟩ := h
  have x0 : w.cell? ⟨gs, 0, none⟩ = some (.slice (some ad) Wn.length c) := (blk_cell hb 0).trans rfl
  have hl : ((Wn.length : Int) == 0) = false := beq_eq_false_iff_ne.2 (by have := hW.len; omega)
  have hl2 : ¬ Wn = [] := by intro e; have := hW.len; rw [e] at this; simp at this
  have HW := Aside0.mk hW
  clear hb hW
  go_enter Try.func51, Try.ntmps51
  go_wp2
  go_ret
  exact ⟨rfl, rfl⟩
set_option maxHeartbeats 2000000 in
theorem part_calls (Wn : List S75) (hW : WOk Wn) (gs : Nat) (s : Nat × Nat) (t : Nat) (w : World) (h : SchW w gs Wn s t) :
    Calls Try.prog 41 #[.pointer (some ⟨gs, 0, none⟩)] w fun e W' => e = .returned (.int .i64 (Wn.getD s.1 z75).f0) ∧ Drawn0 w W' := by
  have HS := Aside0.mk h
  obtain ⟨ad, c, hb, _, hC, _, hs⟩ := h
  have x0 : w.cell? ⟨gs, 0, none⟩ = some (.slice (some ad) Wn.length c) := (blk_cell hb 0).trans rfl
  have x1 : w.cell? ⟨gs, 1, none⟩ = some (.int .i64 (s.1 : Int)) := (blk_cell hb 1).trans rfl
  have hi0 : (0 : Int) ≤ (s.1 : Int) := by omega
  have hi1 : (s.1 : Int) < (Wn.length : Int) := by omega
  obtain ⟨ad', e, y0, _⟩ := at_T75 hC (s.1 : Int) hi0 hi1
  cases e
  have hr : rd_T75 Wn (s.1 : Int) = Wn.getD s.1 z75 := by unfold rd_T75; rw [Int.toNat_natCast]
  rw [hr, Int.toNat_natCast] at y0
  have HW := Aside0.mk hW
  obtain ⟨i, hi⟩ : ∃ i, i = s.1 := ⟨_, rfl⟩
  rw [← hi] at x1 hi0 hi1 y0 ⊢
  clear hb hW hC hs hr hi
  go_enter Try.func41, Try.ntmps41
  go_wp2_with (go_at_call 51; refine (none_calls Wn HW.out gs s t _ HS.out).mono ?_; rintro e W' ⟨rfl, rfl⟩)
  go_quiet (fail)
  go_wp2
  go_ret
  exact ⟨rfl, ⟨_, rfl⟩⟩
end Go.Proofs.Ytfmpabdaadllaaa.PAll

/-
  plan.Major, slices.Clone, sched.New, watch.begin.
-/
namespace Go.Proofs.Ytfmpabdaadllaaa.PAll
open Go.RowKit Go.Proofs.YtfmpabdaadllaaaM Go.Proofs.YtfmpabdaadllaaaW.PrintWords Go.Proofs.YtfmpabdaadllaaaW.PrintLast
set_option linter.unusedVariables false
set_option linter.unusedSimpArgs false
set_option maxRecDepth 100000 in
set_option maxHeartbeats 4000000 in
theorem major_calls (P : List S73) (Wn : List S75) (Cn : List S46) (A0 : Option Addr) (c0 : Nat) (A1 : Option Addr) (c1 : Nat) (A2 : Option Addr) (c2 : Nat) (w : World) (h0 : Kd.C k73 w A0 P.length P) (hc0 : P.length ≤ c0) (h1 : Kd.C k75 w A1 Wn.length Wn) (hc1 : Wn.length ≤ c1) (h2 : Kd.C k46 w A2 Cn.length Cn) (hc2 : Cn.length ≤ c2) :
    Calls Try.prog 38 #[.agg #[.slice A0 P.length c0, .slice A1 Wn.length c1, .slice A2 Cn.length c2]] w fun e W' => (∃ n : Int, e = .returned (.tuple #[.int .i64 n, .int .i64 (chkE P Wn Cn)])) ∧ w.grownBy W' none := by
  have HP := Aside0.mk h0
  have HW := Aside0.mk h1
  have HC := Aside0.mk h2
  have HB := Aside0.mk (show (w.alloc (.cells #[.slice A0 P.length c0, .slice A1 Wn.length c1, .slice A2 Cn.length c2] 26)).heap[w.heap.size]? = some (.cells #[.slice A0 P.length c0, .slice A1 Wn.length c1, .slice A2 Cn.length c2] 26 (0, 0)) from new_at _ rfl)
  have HGA := Aside0.mk (World.grownBy_alloc w (.cells #[.slice A0 P.length c0, .slice A1 Wn.length c1, .slice A2 Cn.length c2] 26) none)
  have hE := chkE_ok (P := P) (W := Wn) (C := Cn)
  obtain ⟨E, he⟩ : ∃ E, E = chkE P Wn Cn := ⟨_, rfl⟩
  rw [← he] at hE ⊢
  have HE := Aside0.mk he
  have HEK := Aside0.mk hE
  clear h0 h1 h2 he hE
  by_cases e0 : E = 0
  · have hw := HEK.out e0
    have hw32 := hw.w1
    have HWO := Aside0.mk hw
    subst e0
    clear hw
    go_enter Try.func38, Try.ntmps38
    go_wp2_with (go_at_call 22; refine (check_calls P Wn Cn A0 c0 A1 c1 A2 c2 _ (Kd.C_below HP.out (below_of_grown HGA.out)) hc0 (Kd.C_below HW.out (below_of_grown HGA.out)) hc1 (Kd.C_below HC.out (below_of_grown HGA.out)) hc2).mono ?_; rintro e W1 ⟨rfl, hg⟩; rw [← HE.out]; have HB1 := Aside0.mk (blk_grown HB.out hg (by simp)); have x1 := (blk_cell HB1.out 1).trans rfl; have HG1 := Aside0.mk (HGA.out.trans hg); clear hg)
    clear x1
    go_loopg [5, 16] (Wn.length + 1) (fun kq v5 v16 w' => ∃ (n : Int) (i : Nat), v5 = .int .i64 n ∧ v16 = .int .i64 (i : Int) ∧ Aside0 (i ≤ Wn.length ∧ i + kq = Wn.length + 1) ∧ Aside0 (w.grownBy w' none))
    case atStart => exact ⟨0, 0, rfl, rfl, ⟨⟨Nat.zero_le _, by omega⟩⟩, HG1⟩
    case round =>
      clear HG1 HB1
      obtain ⟨n, i, rfl, rfl, HN, HG⟩ := hrel
      have hi0 : (0 : Int) ≤ (i : Int) := by omega
      by_cases hi : i < Wn.length
      · have hii : (i : Int) < (Wn.length : Int) := by omega
        obtain ⟨k', rfl⟩ : ∃ k', gk = k' + 1 := ⟨gk - 1, by have := HN.out.2; omega⟩
        have hw1' : IntKind.i64.wrap ((i : Int) + 1) = ((i + 1 : Nat) : Int) := (IntWalk.i64_left _).trans ((IntWalk.wrap64_in _ (by omega)).trans (by omega))
        obtain ⟨ad, eA, y0, y1⟩ := at_T75 HW.out (i : Int) hi0 hii
        subst eA
        obtain ⟨q, hq⟩ : ∃ q, q = (rd_T75 Wn (i : Int)).f0 := ⟨_, rfl⟩
        obtain ⟨s, hs⟩ : ∃ s, s = (rd_T75 Wn (i : Int)).f1 := ⟨_, rfl⟩
        rw [← hq, Int.toNat_natCast] at y0
        rw [← hs, Int.toNat_natCast] at y1
        replace y0 := cells_keep y0 (below_of_grown HG.out)
        replace y1 := cells_keep y1 (below_of_grown HG.out)
        obtain ⟨z, hz⟩ : ∃ z, IntKind.i64.wrap (n + s) = z := ⟨_, rfl⟩
        clear hq hs
        go_wp2
        go_roundg k'
        case measure => omega
        case rel => exact ⟨_, i + 1, by first | rfl | exact congrArg _ rfl, by first | rfl | simp, ⟨by have := HN.out; omega⟩, ⟨HG.out.trans (World.grownBy_alloc _ _ none)⟩⟩
      · have hii : ¬ (i : Int) < (Wn.length : Int) := by omega
        go_wp2
        go_ret2
        exact ⟨⟨_, rfl⟩, HG.out⟩
  · have e0b : (E != 0) = true := by rw [bne_iff_ne]; exact e0
    go_enter Try.func38, Try.ntmps38
    go_wp2_with (go_at_call 22; refine (check_calls P Wn Cn A0 c0 A1 c1 A2 c2 _ (Kd.C_below HP.out (below_of_grown HGA.out)) hc0 (Kd.C_below HW.out (below_of_grown HGA.out)) hc1 (Kd.C_below HC.out (below_of_grown HGA.out)) hc2).mono ?_; rintro e W1 ⟨rfl, hg⟩; rw [← HE.out]; have HG1 := Aside0.mk (HGA.out.trans hg); clear hg)
    go_ret2
    exact ⟨⟨_, rfl⟩, HG1.out⟩
theorem slice_nil75 (ad : Addr) (n c : Nat) (w : World) : (binOp .eql 23 (.slice (some ad) n c) (.slice none 0 0)).run Try.prog w = .ok (.bool false) w := by
  have h : ∀ d, (Op.equalIn (d + 1) 23 (.slice (some ad) n c) (.slice none 0 0)).run Try.prog w = .ok false w := fun d => by simp [Op.equalIn, run_underlying Try.underlying23]
  simp only [binOp]
  have h' : (Op.equal 23 (.slice (some ad) n c) (.slice none 0 0)).run Try.prog w = .ok false w := h 9999
  simp [h']
set_option maxHeartbeats 2000000 in
theorem clone_calls (Wn : List S75) (hl : Wn.length ≤ 1000) (ad : Addr) (c : Nat) (w : World) (h : Kd.C k75 w (some ad) Wn.length Wn) (hc : Wn.length ≤ c) :
    Calls Try.prog 39 #[.slice (some ad) Wn.length c] w fun e W' => ∃ v, e = .returned v ∧ k75.R 75 W' w.heap.size (fun _ => True) v Wn ∧ w.grownBy W' none := by
  have HC := Aside0.mk h
  have he := slice_nil75 ad Wn.length c
  have hR0 : k75.R 75 (w.alloc (.cells #[] 75)) w.heap.size (fun _ => True) (.slice (some ⟨w.heap.size, 0, none⟩) 0 0) ([] : List S75) := ⟨fun _ _ => trivial, OwnRow.lit w w.heap.size (R := k75.M _ _ _) (ps := ([] : List S75)) (inner := []) (Reps.none _ _) (Nat.le_refl _) (by simp)⟩
  obtain ⟨Wz, hWz⟩ : ∃ Wz, Wz = w.alloc (.cells #[] 75) := ⟨_, rfl⟩
  obtain ⟨Bz, hBz⟩ : ∃ Bz, Bz = w.heap.size := ⟨_, rfl⟩
  rw [← hWz, ← hBz] at hR0
  have HR0 := Aside0.mk hR0
  have HWZ := Aside0.mk (And.intro hWz hBz)
  have HGZ := Aside0.mk (show w.grownBy Wz none by rw [hWz]; exact World.grownBy_alloc w _ none)
  clear h hR0 hWz hBz
  go_enter Try.func39, Try.ntmps39
  go_wp2_with ((with_reducible refine gate_builtin (b := .append) (xs := #[.tmp 5, .tmp 6]) rfl ?_); at_builtin; rw [← HWZ.out.1]; go_loud (refine Kd.R_append_rows k75 (w0 := Wz) Bz rfl (.tmp 5) (.tmp 6) 23 75 (.agg #[.int .i64 0, .int .i64 0]) 16 rfl Try.underlying23 info75 rfl (by decide) (by omega) (.slice (some ⟨Bz, 0, none⟩) 0 0) [] Wn (some ad) Wn.length c (fun _ => True) (fun _ => False) (by rw [HWZ.out.2]; rfl) rfl HR0.out (Kd.C_below HC.out (below_of_grown HGZ.out)) (fun x cs hk => by rw [k75_open hk]; exact k75_mkM _ _ _ x) (fun _ h => h.elim) (fun _ _ => trivial) (Below.refl _ _) (by rw [HWZ.out.2]; exact HGZ.out.size) (by simp; omega) ?_); intro v1 W1 ho hb hg hat; rw [List.nil_append] at ho; have HO := Aside0.mk ho; have HG := Aside0.mk (HGZ.out.andThen hg (fun j e => .inl (by have := Kd.R_base HR0.out j e; have := HWZ.out.2; omega))); clear ho hb hg hat)
  go_ret
  exact ⟨v1, rfl, by rw [← HWZ.out.2]; exact HO.out, HG.out⟩
set_option maxRecDepth 100000 in
set_option maxHeartbeats 4000000 in
theorem snew_calls (P : List S73) (Wn : List S75) (Cn : List S46) (A0 : Option Addr) (c0 : Nat) (A1 : Option Addr) (c1 : Nat) (A2 : Option Addr) (c2 : Nat) (w : World) (h0 : Kd.C k73 w A0 P.length P) (hc0 : P.length ≤ c0) (h1 : Kd.C k75 w A1 Wn.length Wn) (hc1 : Wn.length ≤ c1) (h2 : Kd.C k46 w A2 Cn.length Cn) (hc2 : Cn.length ≤ c2) :
    (chkE P Wn Cn = 0 → Calls Try.prog 32 #[.agg #[.slice A0 P.length c0, .slice A1 Wn.length c1, .slice A2 Cn.length c2]] w fun e W' => ∃ gs, w.heap.size ≤ gs ∧ e = .returned (.tuple #[.pointer (some ⟨gs, 0, none⟩), .int .i64 0]) ∧ SchW W' gs Wn (0, 0) 0 ∧ w.grownBy W' none) ∧
    (chkE P Wn Cn ≠ 0 → Calls Try.prog 32 #[.agg #[.slice A0 P.length c0, .slice A1 Wn.length c1, .slice A2 Cn.length c2]] w fun e W' => e = .returned (.tuple #[.pointer none, .int .i64 (chkE P Wn Cn)]) ∧ w.grownBy W' none) := by
  have HP := Aside0.mk h0
  have HW := Aside0.mk h1
  have HC := Aside0.mk h2
  have HB := Aside0.mk (show (w.alloc (.cells #[.slice A0 P.length c0, .slice A1 Wn.length c1, .slice A2 Cn.length c2] 26)).heap[w.heap.size]? = some (.cells #[.slice A0 P.length c0, .slice A1 Wn.length c1, .slice A2 Cn.length c2] 26 (0, 0)) from new_at _ rfl)
  have HGA := Aside0.mk (World.grownBy_alloc w (.cells #[.slice A0 P.length c0, .slice A1 Wn.length c1, .slice A2 Cn.length c2] 26) none)
  have hE := chkE_ok (P := P) (W := Wn) (C := Cn)
  obtain ⟨E, he⟩ : ∃ E, E = chkE P Wn Cn := ⟨_, rfl⟩
  rw [← he] at hE ⊢
  have HE := Aside0.mk he
  have HEK := Aside0.mk hE
  clear h0 h1 h2 he hE
  constructor
  · intro e0
    have hw := (HEK.out e0).wok
    have hw32 := hw.len
    have HWO := Aside0.mk hw
    subst e0
    obtain ⟨ad, eA, _⟩ := at_T75 HW.out 0 (by omega) (by omega)
    subst eA
    clear hw
    go_enter Try.func32, Try.ntmps32
    go_wp2_with (first
      | (go_at_call 39; refine (clone_calls Wn (by omega) ad c1 _ (Kd.C_below HW.out (below_of_grown HG1.out)) hc1).mono ?_; rintro e W2 ⟨v, rfl, hR, hg⟩; obtain ⟨A3, c3, rfl, hLE, _⟩ := Kd.R_reads hR; obtain ⟨gb, cb, hform, hgb, hgb2, _⟩ := Kd.R_form hR (by omega); cases hform; have HR2 := Aside0.mk hR; have HG2 := Aside0.mk (HG1.out.trans hg); have HGB := Aside0.mk hgb2; clear hR hg hgb)
      | (go_at_call 38; refine (major_calls P Wn Cn A0 c0 (some ad) c1 A2 c2 _ (Kd.C_below HP.out (below_of_grown HGA.out)) hc0 (Kd.C_below HW.out (below_of_grown HGA.out)) hc1 (Kd.C_below HC.out (below_of_grown HGA.out)) hc2).mono ?_; rintro e W1 ⟨⟨n, rfl⟩, hg⟩; rw [← HE.out]; have HB1 := Aside0.mk (blk_grown HB.out hg (by simp)); have x1 := (blk_cell HB1.out 1).trans rfl; have HG1 := Aside0.mk (HGA.out.trans hg); clear hg))
    go_ret2
    have hlast := World.grownBy_alloc W2 (.cells #[.slice (some ⟨gb, 0, none⟩) Wn.length c3, .int .i64 0, .int .i64 0, .int .u64 0] 83) none
    exact ⟨W2.heap.size, HG2.out.size, rfl, ⟨⟨gb, 0, none⟩, c3, new_at _ rfl, hLE, Kd.C_below (Kd.R_reads' HR2.out).2.2 (below_of_grown hlast), by have := HGB.out; simp only; omega, (posS_ok HWO.out 0).1⟩, HG2.out.trans hlast⟩
  · intro e0
    have e0b : (E != 0) = true := by rw [bne_iff_ne]; exact e0
    go_enter Try.func32, Try.ntmps32
    go_wp2_with (go_at_call 38; refine (major_calls P Wn Cn A0 c0 A1 c1 A2 c2 _ (Kd.C_below HP.out (below_of_grown HGA.out)) hc0 (Kd.C_below HW.out (below_of_grown HGA.out)) hc1 (Kd.C_below HC.out (below_of_grown HGA.out)) hc2).mono ?_; rintro e W1 ⟨⟨n, rfl⟩, hg⟩; rw [← HE.out]; have HG1 := Aside0.mk (HGA.out.trans hg); clear hg)
    go_ret2
    exact ⟨rfl, HG1.out⟩
/-- May the partition be asked for? -/
def begE (P : List S73) (W : List S75) (C : List S46) (part : Int) : Int := if chkE P W C ≠ 0 then chkE P W C else if 0 ≤ part ∧ part < P.length then 0 else 2
set_option maxRecDepth 100000 in
set_option maxHeartbeats 4000000 in
theorem begin_calls (P : List S73) (Wn : List S75) (Cn : List S46) (part : Int) (A0 : Option Addr) (c0 : Nat) (A1 : Option Addr) (c1 : Nat) (A2 : Option Addr) (c2 : Nat) (w : World) (h0 : Kd.C k73 w A0 P.length P) (hc0 : P.length ≤ c0) (h1 : Kd.C k75 w A1 Wn.length Wn) (hc1 : Wn.length ≤ c1) (h2 : Kd.C k46 w A2 Cn.length Cn) (hc2 : Cn.length ≤ c2) :
    (begE P Wn Cn part = 0 → Calls Try.prog 27 #[.agg #[.slice A0 P.length c0, .slice A1 Wn.length c1, .slice A2 Cn.length c2], .int .i64 part] w fun e W' => ∃ gs, w.heap.size ≤ gs ∧ e = .returned (.tuple #[.pointer (some ⟨gs, 0, none⟩), .int .i64 0]) ∧ SchW W' gs Wn (0, 0) 0 ∧ w.grownBy W' none) ∧
    (begE P Wn Cn part ≠ 0 → Calls Try.prog 27 #[.agg #[.slice A0 P.length c0, .slice A1 Wn.length c1, .slice A2 Cn.length c2], .int .i64 part] w fun e W' => e = .returned (.tuple #[.pointer none, .int .i64 (begE P Wn Cn part)]) ∧ w.grownBy W' none) := by
  have hB := (show (w.alloc (.cells #[.slice A0 P.length c0, .slice A1 Wn.length c1, .slice A2 Cn.length c2] 26)).heap[w.heap.size]? = some (.cells #[.slice A0 P.length c0, .slice A1 Wn.length c1, .slice A2 Cn.length c2] 26 (0, 0)) from new_at _ rfl)
  have hGA := World.grownBy_alloc w (.cells #[.slice A0 P.length c0, .slice A1 Wn.length c1, .slice A2 Cn.length c2] 26) none
  have HN := Aside0.mk (snew_calls P Wn Cn A0 c0 A1 c1 A2 c2 _ (Kd.C_below h0 (below_of_grown hGA)) hc0 (Kd.C_below h1 (below_of_grown hGA)) hc1 (Kd.C_below h2 (below_of_grown hGA)) hc2)
  have HB := Aside0.mk hB
  have HGA := Aside0.mk hGA
  clear h0 h1 h2 hB hGA
  by_cases e0 : chkE P Wn Cn = 0
  · have h := HN.out.1 e0
    have HN1 := Aside0.mk h
    clear HN h
    by_cases hp : 0 ≤ part ∧ part < (P.length : Int)
    · have hb : begE P Wn Cn part = 0 := by unfold begE; rw [if_neg (by simp [e0]), if_pos hp]
      obtain ⟨hp0, hp1⟩ := hp
      refine ⟨fun _ => ?_, fun h => absurd hb h⟩
      clear hb e0
      have hd1 : decide (part < 0) = false := decide_eq_false (by omega)
      have hd2 : decide ((P.length : Int) ≤ part) = false := decide_eq_false (by omega)
      go_enter Try.func27, Try.ntmps27
      go_wp2_with (go_at_call 32; refine HN1.out.mono ?_; rintro e W1 ⟨gs, hgs, rfl, hS, hg⟩; have x0 := (blk_cell (blk_grown HB.out hg (by simp)) 0).trans rfl; have HS := Aside0.mk hS; have HG1 := Aside0.mk (HGA.out.trans hg); have HGS := Aside0.mk (show w.heap.size ≤ gs by have := HGA.out.size; omega); clear hg hS hgs)
      go_ret2
      exact ⟨gs, HGS.out, rfl, HS.out, HG1.out⟩
    · have hb : begE P Wn Cn part = 2 := by unfold begE; rw [if_neg (by simp [e0]), if_neg hp]
      refine ⟨(fun h => by rw [hb] at h; exact absurd h (by decide)), fun _ => ?_⟩
      rw [hb]
      clear hb e0
      by_cases hp0 : part < 0
      · have hd1 : decide (part < 0) = true := decide_eq_true (by omega)
        go_enter Try.func27, Try.ntmps27
        go_wp2_with (go_at_call 32; refine HN1.out.mono ?_; rintro e W1 ⟨gs, hgs, rfl, hS, hg⟩; have x0 := (blk_cell (blk_grown HB.out hg (by simp)) 0).trans rfl; have HG1 := Aside0.mk (HGA.out.trans hg); clear hg hS hgs)
        go_ret2
        exact ⟨rfl, HG1.out⟩
      · have hd1 : decide (part < 0) = false := decide_eq_false (by omega)
        have hd2 : decide ((P.length : Int) ≤ part) = true := decide_eq_true (by omega)
        go_enter Try.func27, Try.ntmps27
        go_wp2_with (go_at_call 32; refine HN1.out.mono ?_; rintro e W1 ⟨gs, hgs, rfl, hS, hg⟩; have x0 := (blk_cell (blk_grown HB.out hg (by simp)) 0).trans rfl; have HG1 := Aside0.mk (HGA.out.trans hg); clear hg hS hgs)
        go_ret2
        exact ⟨rfl, HG1.out⟩
  · have hb : begE P Wn Cn part = chkE P Wn Cn := by unfold begE; rw [if_pos e0]
    refine ⟨fun h => absurd (hb.symm.trans h) e0, fun _ => ?_⟩
    rw [hb]
    have HN2 := Aside0.mk (HN.out.2 e0)
    obtain ⟨E, he⟩ : ∃ E, E = chkE P Wn Cn := ⟨_, rfl⟩
    rw [← he] at HN2 e0 ⊢
    have e0b : (E == 0) = false := beq_eq_false_iff_ne.2 e0
    clear HN hb he
    go_enter Try.func27, Try.ntmps27
    go_wp2_with (go_at_call 32; refine HN2.out.mono ?_; rintro e W1 ⟨rfl, hg⟩; have HG1 := Aside0.mk (HGA.out.trans hg); clear hg)
    go_ret2
    exact ⟨rfl, HG1.out⟩
end Go.Proofs.Ytfmpabdaadllaaa.PAll
