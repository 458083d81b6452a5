/-
  The least number from one on; Take.
-/
import Derived.Test.YtiaegandgjgjhaaDoorSetL
import Derived.Deep.QuietTactic
import Derived.BigQuiet
namespace Go.Proofs.YtiaegandgjgjhaaDoor.PAll
open Go.RowKit Go.Proofs.YtiaegandgjgjhaaDoorM Go.Proofs.YtiaegandgjgjhaaDoorW.PrintWords Go.Proofs.YtiaegandgjgjhaaDoorW.PrintLast Go.Proofs.YtiaegandgjgjhaaDoorW.PrintMore
set_option linter.unusedVariables false
set_option linter.unusedSimpArgs false
/-- The table of the library, in its variable. -/
def TabD (w : World) : Prop := ∀ j, j < Lib.deBruijn64tab.length → w.cell? ⟨0, j, none⟩ = some (.int .u8 (Lib.deBruijn64tab.getD j 0))
theorem TabD.keep {w W : World} (h : TabD w) (hb : Below w.heap.size w W) : TabD W := fun j hj => cells_keep (h j hj) hb
set_option maxHeartbeats 1000000 in
theorem tz_core (x k idx : Nat) (w : World) (hx0 : ((x : Int) == 0) = false)
    (key : IntKind.u64.wrap (bits BinOp.and IntKind.u64 (x : Int) (IntKind.u64.wrap (-(x : Int))) * 285870213051353865) / 288230376151711744 = (idx : Int))
    (hi : idx < 64) (hk : k < 64) (hcell : w.cell? ⟨0, idx, none⟩ = some (.int .u8 k)) :
    Calls Tryd.prog 26 #[.int .u64 x] w fun e w' => e = .returned (.int .i64 k) ∧ w' = w := by
  go_enter Tryd.func26, Tryd.ntmps26
  go_wp2_with (simp only [key])
  go_ret
  exact ⟨rfl, rfl⟩
theorem tz_key (x a : Nat) (hx : x < 18446744073709551616) (hx0 : x ≠ 0) (hlow : x &&& (18446744073709551616 - x) = a) :
    IntKind.u64.wrap (bits BinOp.and IntKind.u64 (x : Int) (IntKind.u64.wrap (-(x : Int))) * 285870213051353865) / 288230376151711744 = ((a * 285870213051353865 % 18446744073709551616 / 288230376151711744 : Nat) : Int) := by
  have e1 : IntKind.u64.wrap (-(x : Int)) = ((18446744073709551616 - x : Nat) : Int) := by rw [IntKind.wrap_u64]; omega
  rw [e1, bits_and_u64_nat x _ hx (by omega), hlow, IntKind.wrap_u64]
  omega
theorem tz_calls (x : Nat) (hx : x < 18446744073709551616) (hx0 : x ≠ 0) (w : World) (hT : TabD w) :
    Calls Tryd.prog 26 #[.int .u64 x] w fun e w' => e = .returned (.int .i64 (Lib.ctz 64 x)) ∧ w' = w := by
  obtain ⟨hlow, hk⟩ := Lib.lowest_bit 64 x hx0 hx
  obtain ⟨hi, htab⟩ := Lib.deBruijn64_at _ hk
  have hcell := hT _ hi
  rw [htab] at hcell
  exact tz_core x _ _ w (by simp; omega) (tz_key x _ hx hx0 hlow) hi hk hcell
theorem ctz_spec (x : Nat) (hx : x < 18446744073709551616) (hx0 : x ≠ 0) : Lib.ctz 64 x < 64 ∧ x.testBit (Lib.ctz 64 x) = true ∧ ∀ j, j < Lib.ctz 64 x → x.testBit j = false := by
  obtain ⟨m, hm, hk⟩ := Lib.ctzFrom_spec 64 x (by omega) hx
  have e : Lib.ctz 64 x = Lib.ctzFrom 64 x := by simp [Lib.ctz, hx0]
  rw [e]
  refine ⟨hk, ?_, fun j hj => ?_⟩
  · rw [hm, ← hm, hm, Nat.testBit_two_pow_mul]
    have e2 : Lib.ctzFrom 64 (2 ^ Lib.ctzFrom 64 x * (2 * m + 1)) = Lib.ctzFrom 64 x := by rw [← hm]
    rw [e2]
    simp [Nat.testBit_zero]
  · rw [hm, Nat.testBit_two_pow_mul]
    have : ¬ j ≥ Lib.ctzFrom 64 x := by omega
    simp [this]
/-- The word at a place, without what lies below a number. -/
def wdN (ws : List Nat) (n i : Nat) : Nat := if i = n / 64 then ws.getD i 0 / 2 ^ (n % 64) * 2 ^ (n % 64) else ws.getD i 0
theorem wd_bit (ws : List Nat) (n i j : Nat) : (wdN ws n i).testBit j = ((decide (i = n / 64 → n % 64 ≤ j)) && (ws.getD i 0).testBit j) := by
  unfold wdN
  by_cases h : i = n / 64
  · rw [if_pos h, Nat.testBit_mul_two_pow, Nat.testBit_div_two_pow]
    by_cases h2 : n % 64 ≤ j
    · rw [show j - n % 64 + n % 64 = j by omega]; simp [h, h2]
    · simp [h, h2]
  · rw [if_neg h]; simp [h]
theorem wd_lt (ws : List Nat) (n i : Nat) (hx : ws.getD i 0 < 18446744073709551616) : wdN ws n i < 18446744073709551616 := by
  unfold wdN
  split
  · exact Nat.lt_of_le_of_lt (Nat.div_mul_le_self _ _) hx
  · exact hx
theorem shl_wrap (x k : Nat) (hx : x < 18446744073709551616) : IntKind.u64.wrap ((x : Int) / 2 ^ k * 2 ^ k) = ((x / 2 ^ k * 2 ^ k : Nat) : Int) := by
  have h := Nat.lt_of_le_of_lt (Nat.div_mul_le_self x (2 ^ k)) hx
  have e : ((x : Int) / 2 ^ k * 2 ^ k) = ((x / 2 ^ k * 2 ^ k : Nat) : Int) := by
    rw [show ((2 : Int) ^ k) = ((2 ^ k : Nat) : Int) from (Int.natCast_pow 2 k).symm]; rfl
  rw [e, IntKind.wrap_u64]
  generalize x / 2 ^ k * 2 ^ k = m at h ⊢
  omega
set_option maxRecDepth 100000 in
set_option maxHeartbeats 4000000 in
theorem word_calls (g b2 b3 : Nat) {made : Bool} (ws : List Nat) (n i : Nat) (hn : n < 1024) (hi : i < 16) (w : World) (h : SetB w g made ws) (c3 : w.cell? ⟨b3, 0, none⟩ = some (.int .i64 (n : Int))) (c2 : w.cell? ⟨b2, 0, none⟩ = some (.pointer (some ⟨g, 0, none⟩))) :
    Calls Tryd.prog 25 #[.int .i64 (i : Int), .pointer (some ⟨b3, 0, none⟩), .pointer (some ⟨b2, 0, none⟩)] w fun e W' => e = .returned (.int .u64 ((wdN ws n i : Nat) : Int)) ∧ w.grownBy W' none := by
  have y0 := h.cellw hi
  have hx := h.word i
  have hW := Aside0.mk (shl_wrap (ws.getD i 0) (n % 64) hx)
  obtain ⟨x, hxx⟩ : ∃ x, x = ws.getD i 0 := ⟨_, rfl⟩
  rw [← hxx] at y0
  have hs := shl_wrap x (n % 64) (by rw [hxx]; exact hx)
  have hii : (i : Int) < 16 := by omega
  have HX := Aside0.mk hxx
  clear h hxx hW hx
  by_cases e : i = n / 64
  · have hv : wdN ws n i = x / 2 ^ (n % 64) * 2 ^ (n % 64) := by unfold wdN; rw [if_pos e, ← HX.out]
    rw [hv]
    have hdb : ((i : Int) == (n : Int) / 64) = true := by simp; omega
    clear e
    go_enter Tryd.func25, Tryd.ntmps25
    go_wp2
    go_quiet (fail)
    go_wp2
    go_ret
    exact ⟨congrArg (fun v => Ending.returned (Value.int .u64 v)) hs, gb_drawn ⟨⟨_, rfl⟩⟩⟩
  · have hv : wdN ws n i = x := by unfold wdN; rw [if_neg e, ← HX.out]
    rw [hv]
    have hd : ¬ (i : Int) = (n : Int) / 64 := by omega
    have hdb : ((i : Int) == (n : Int) / 64) = false := by simpa using hd
    go_enter Tryd.func25, Tryd.ntmps25
    go_wp2
    go_ret
    exact ⟨rfl, World.grownBy.refl _ _⟩
def nextF (f : Nat → Bool) : Nat → Nat → Option Nat
  | 0, _ => none
  | d + 1, n => if f n then some n else nextF f d (n + 1)
theorem next_hit {f : Nat → Bool} {r : Nat} (hr : f r = true) : ∀ (d n : Nat), n ≤ r → r < n + d → (∀ m, n ≤ m → m < r → f m = false) → nextF f d n = some r
  | 0, n, h1, h2, _ => by omega
  | d + 1, n, h1, h2, h3 => by
    unfold nextF
    by_cases e : n = r
    · subst e; rw [if_pos hr]
    · rw [if_neg (by rw [h3 n (Nat.le_refl _) (by omega)]; simp)]
      exact next_hit hr d (n + 1) (by omega) (by omega) (fun m h h' => h3 m (by omega) h')
theorem next_miss {f : Nat → Bool} : ∀ (d n : Nat), (∀ m, n ≤ m → m < n + d → f m = false) → nextF f d n = none
  | 0, _, _ => rfl
  | d + 1, n, h => by
    unfold nextF
    rw [if_neg (by rw [h n (Nat.le_refl _) (by omega)]; simp)]
    exact next_miss d (n + 1) (fun m h1 h2 => h m (by omega) (by omega))
def firstI (f : Nat → Bool) (n : Nat) : Int := match nextF f (1024 - n) n with | some r => (r : Int) | none => -1
set_option maxRecDepth 100000 in
set_option maxHeartbeats 8000000 in
theorem first_F {w : World} {g : Nat} {made : Bool} {f : Nat → Bool} (h : SetG w g made f) (hT : TabD w) {n : Nat} (hn : n < 1024) :
    Calls Tryd.prog 24 #[.pointer (some ⟨g, 0, none⟩), .int .i64 (n : Int)] w fun e W' => e = .returned (.int .i64 (firstI f n)) ∧ w.grownBy W' none := by
  obtain ⟨ws, h1, h2⟩ := h
  have HH := Aside0.mk (And.intro h1 h2)
  have HT := Aside0.mk hT
  have hgl : g < w.heap.size := blk_lt h1.1
  clear h1 h2 hT
  go_enter Tryd.func24, Tryd.ntmps24
  go_wp2
  obtain ⟨W0, hW0⟩ : ∃ W0, W0 = (w.alloc (.cells #[.pointer (some ⟨g, 0, none⟩)] 22)).alloc (.cells #[.int .i64 (n : Int)] 3) := ⟨_, rfl⟩
  rw [← hW0]
  have b2 : W0.heap[w.heap.size]? = some (.cells #[.pointer (some ⟨g, 0, none⟩)] 22 (0, 0)) := by rw [hW0]; exact (Below.heap_alloc _ _ _ (by simp)).trans (new_at _ rfl)
  have b3 : W0.heap[w.heap.size + 1]? = some (.cells #[.int .i64 (n : Int)] 3 (0, 0)) := by rw [hW0]; exact new_at _ (by simp)
  have hG0 : w.grownBy W0 none := by rw [hW0]; exact (World.grownBy_alloc w _ none).trans (World.grownBy_alloc _ _ none)
  have HB := Aside0.mk (And.intro b2 (And.intro b3 hG0))
  clear b2 b3 hG0 hW0
  have hd0 : (n : Int) / 64 = ((n / 64 : Nat) : Int) := by omega
  go_loopg [6] 17 (fun kq v6 w' => ∃ i : Nat, v6 = .int .i64 (i : Int) ∧ Aside0 (n / 64 ≤ i ∧ i ≤ 16 ∧ 17 ≤ i + kq) ∧ Aside0 (∀ m, n ≤ m → m < 64 * i → f m = false) ∧ Aside0 (W0.grownBy w' none))
  case atStart => exact ⟨n / 64, by first | rfl | simp [hd0], ⟨⟨Nat.le_refl _, by omega, by omega⟩⟩, ⟨fun m h1 h2 => by omega⟩, ⟨World.grownBy.refl _ _⟩⟩
  case round =>
    obtain ⟨i, rfl, HN, HM, HG⟩ := hrel
    by_cases hi : i < 16
    · have hii : (i : Int) < 16 := by omega
      obtain ⟨k1, rfl⟩ : ∃ k1, gk = k1 + 1 := ⟨gk - 1, by have := HN.out.2; omega⟩
      have hw2 : IntKind.i64.wrap ((i : Int) + 1) = ((i + 1 : Nat) : Int) := (IntWalk.i64_left _).trans ((IntWalk.wrap64_in _ (by omega)).trans (by omega))
      have hwr := HB.out.2.2.trans HG.out
      have hS := HH.out.1.grown hwr (by simp)
      have c2 := (blk_cell (blk_grown HB.out.1 HG.out (by simp)) 0).trans rfl
      have c3 := (blk_cell (blk_grown HB.out.2.1 HG.out (by simp)) 0).trans rfl
      have hxl := wd_lt ws n i (HH.out.1.word i)
      have bit : ∀ j, j < 64 → (wdN ws n i).testBit j = (decide (i = n / 64 → n % 64 ≤ j) && f (64 * i + j)) := fun j hj => by
        have := HH.out.2 (64 * i + j) (by omega)
        rw [show (64 * i + j) / 64 = i by omega, show (64 * i + j) % 64 = j by omega] at this
        rw [wd_bit, this]
      obtain ⟨x, hx⟩ : ∃ x, x = wdN ws n i := ⟨_, rfl⟩
      have HX := Aside0.mk hx
      rw [← hx] at hxl bit
      have HBIT := Aside0.mk bit
      have HS := Aside0.mk hS
      have HC := Aside0.mk (And.intro c2 c3)
      have HWR := Aside0.mk hwr
      clear hx bit hS c2 c3 hwr
      by_cases hx0 : x = 0
      · have hz : ((x : Int) != 0) = false := by simp [hx0]
        have none_here : ∀ m, n ≤ m → m < 64 * (i + 1) → f m = false := fun m h1 h2 => by
          by_cases h3 : m < 64 * i
          · exact HM.out m h1 h3
          · have hb := HBIT.out (m - 64 * i) (by omega)
            rw [hx0, Nat.zero_testBit, show 64 * i + (m - 64 * i) = m by omega, decide_eq_true (show i = n / 64 → n % 64 ≤ m - 64 * i by omega), Bool.true_and] at hb
            exact hb.symm
        have HNH := Aside0.mk none_here
        clear none_here hx0
        go_wp2_with fail
        refine (word_calls g w.heap.size (w.heap.size + 1) ws n i hn hi _ HS.out HC.out.2 HC.out.1).mono ?_
        rintro e W' ⟨rfl, hg⟩
        rw [← HX.out]
        have HG2 := Aside0.mk (HG.out.trans hg)
        clear hg
        dsimp only
        go_wp2
        go_roundg k1
        case measure => omega
        case rel => exact ⟨i + 1, by first | rfl | simp, ⟨by have := HN.out; omega⟩, HNH, HG2⟩
      · have hz : ((x : Int) != 0) = true := by simp; omega
        obtain ⟨hk, hbk, hlow⟩ := ctz_spec x hxl hx0
        obtain ⟨k, hkk⟩ : ∃ k, k = Lib.ctz 64 x := ⟨_, rfl⟩
        rw [← hkk] at hk hbk hlow
        have hfk : (i = n / 64 → n % 64 ≤ k) ∧ f (64 * i + k) = true := by
          have := HBIT.out k hk
          rw [hbk] at this
          have h5 := (Bool.and_eq_true _ _).mp this.symm
          exact ⟨of_decide_eq_true h5.1, h5.2⟩
        have hres : firstI f n = ((64 * i + k : Nat) : Int) := by
          unfold firstI
          have := HN.out
          rw [next_hit hfk.2 (1024 - n) n (by omega) (by omega) (fun m h1 h2 => ?_)]
          by_cases h3 : m < 64 * i
          · exact HM.out m h1 h3
          · have hb := HBIT.out (m - 64 * i) (by omega)
            rw [hlow _ (by omega), show 64 * i + (m - 64 * i) = m by omega, decide_eq_true (show i = n / 64 → n % 64 ≤ m - 64 * i by omega), Bool.true_and] at hb
            exact hb.symm
        have hwm : IntKind.i64.wrap (64 * (i : Int)) = 64 * (i : Int) := (IntWalk.i64_left _).trans (IntWalk.wrap64_in _ (by omega))
        have hws : IntKind.i64.wrap (64 * (i : Int) + (k : Int)) = ((64 * i + k : Nat) : Int) := (IntWalk.i64_left _).trans ((IntWalk.wrap64_in _ (by omega)).trans (by omega))
        have HR := Aside0.mk hres
        have HKK := Aside0.mk hkk
        have HX0 := Aside0.mk (And.intro hxl hx0)
        clear hkk hfk hbk hlow hres hx0 hxl
        go_wp2_with fail
        refine (word_calls g w.heap.size (w.heap.size + 1) ws n i hn hi _ HS.out HC.out.2 HC.out.1).mono ?_
        rintro e W' ⟨rfl, hg⟩
        rw [← HX.out]
        have HG2 := Aside0.mk (HG.out.trans hg)
        clear hg
        dsimp only
        go_wp2_with fail
        refine (tz_calls x HX0.out.1 HX0.out.2 _ (HT.out.keep (below_of_grown (HB.out.2.2.trans HG2.out)))).mono ?_
        rintro e W2 ⟨rfl, hw⟩
        rw [hw, ← HKK.out]
        clear hw
        dsimp only
        go_wp2
        go_ret
        exact ⟨congrArg (fun v => Ending.returned (Value.int .i64 v)) ((show 64 * (i : Int) + (k : Int) = ((64 * i + k : Nat) : Int) by omega).trans HR.out.symm), HB.out.2.2.trans HG2.out⟩
    · have hii : ¬ (i : Int) < 16 := by omega
      have hres : firstI f n = -1 := by
        unfold firstI
        have := HN.out
        rw [next_miss (1024 - n) n (fun m h1 h2 => HM.out m h1 (by omega))]
      have HR := Aside0.mk hres
      clear hres
      go_wp2
      go_ret
      exact ⟨congrArg (fun v => Ending.returned (Value.int .i64 v)) HR.out.symm, HB.out.2.2.trans HG.out⟩
/-- Take: the answer, and the set behind it. -/
def takeF (f : Nat → Bool) : Int × Int × (Nat → Bool) := match nextF f 1024 0 with | none => (0, 4, f) | some n => ((n : Int), 0, flipF f n)
theorem next_lt {f : Nat → Bool} {r : Nat} : ∀ (d n : Nat), nextF f d n = some r → n ≤ r ∧ r < n + d ∧ f r = true ∧ ∀ m, n ≤ m → m < r → f m = false
  | 0, n, h => by cases h
  | d + 1, n, h => by
    unfold nextF at h
    cases e : f n with
    | true => rw [e, if_pos rfl] at h; cases h; exact ⟨Nat.le_refl _, by omega, e, fun m h1 h2 => by omega⟩
    | false =>
      rw [e, if_neg (by simp)] at h
      obtain ⟨h1, h2, h3, h4⟩ := next_lt d (n + 1) h
      refine ⟨by omega, by omega, h3, fun m h5 h6 => ?_⟩
      by_cases e2 : m = n
      · rw [e2]; exact e
      · exact h4 m (by omega) h6
theorem next_none {f : Nat → Bool} : ∀ {d n m : Nat}, nextF f d n = none → n ≤ m → m < n + d → f m = true → False
  | 0, n, m, _, h1, h2, _ => by omega
  | d + 1, n, m, h, h1, h2, h3 => by
    unfold nextF at h
    by_cases e : f n = true
    · rw [if_pos e] at h; cases h
    · rw [if_neg e] at h
      by_cases e2 : m = n
      · subst e2; exact e h3
      · exact next_none h (by omega) (by omega) h3
set_option maxRecDepth 100000 in
set_option maxHeartbeats 8000000 in
theorem take_F {w : World} {g : Nat} {f : Nat → Bool} (h : SetF w g f) (hT : TabD w) :
    Calls Tryd.prog 16 #[.pointer (some ⟨g, 0, none⟩)] w fun e W' => e = .returned (.tuple #[.int .i64 (takeF f).1, .int .i64 (takeF f).2.1]) ∧ SetF W' g (takeF f).2.2 ∧ w.grownBy W' (some g) := by
  have hc0 : w.cell? ⟨g, 0, none⟩ = some (.bool true) := by obtain ⟨ws, h1, _⟩ := h; exact h1.cell0
  have HF := Aside0.mk h
  have HT := Aside0.mk hT
  clear h hT
  cases hn : nextF f 1024 0 with
  | none =>
    have hv : takeF f = (0, 4, f) := by unfold takeF; rw [hn]
    have HI := Aside0.mk (show firstI f 0 = -1 by unfold firstI; rw [hn])
    rw [hv]
    clear hv hn
    go_enter Tryd.func16, Tryd.ntmps16
    go_wp2_with (first
      | (go_at_call 22; refine (asked_made g [] 0 _ hc0).mono ?_; rintro e W' ⟨rfl, hw⟩; rw [hw, if_neg (by omega)])
      | (go_at_call 24; refine (first_F HF.out HT.out (n := 0) (by omega)).mono ?_; rintro e W' ⟨rfl, hg⟩; rw [HI.out]; have HG := Aside0.mk hg; clear hg))
    go_ret2
    exact ⟨rfl, HF.out.grown HG.out (by simp), gb_weak HG.out g⟩
  | some n =>
    have hlt := next_lt 1024 0 hn
    have hv : takeF f = ((n : Int), 0, flipF f n) := by unfold takeF; rw [hn]
    have HI := Aside0.mk (show firstI f 0 = (n : Int) by unfold firstI; rw [hn])
    have hn1 : n < 1024 := by omega
    have hneg : ¬ (n : Int) < 0 := by omega
    rw [hv]
    clear hv hn hlt
    go_enter Tryd.func16, Tryd.ntmps16
    go_wp2_with (first
      | (go_at_call 22; refine (asked_made g [] 0 _ hc0).mono ?_; rintro e W' ⟨rfl, hw⟩; rw [hw, if_neg (by omega)])
      | (go_at_call 24; refine (first_F HF.out HT.out (n := 0) (by omega)).mono ?_; rintro e W' ⟨rfl, hg⟩; rw [HI.out]; have HG := Aside0.mk hg; clear hg)
      | (go_at_call 21; refine (turn_F (HF.out.grown HG.out (by simp)) hn1).mono ?_; rintro e W2 ⟨rfl, hs, hg⟩; have HS := Aside0.mk hs; have HG2 := Aside0.mk ((gb_weak HG.out g).andThen hg (fun j e => .inr e)); clear hs hg))
    go_ret2
    exact ⟨rfl, HS.out, HG2.out⟩
section
variable {P : Program} {ops : Array Oper} {rest : List Oper} {o : Oper} {a : Act} {Q : Exit → Act → World → Prop} {α : Type}
/-- An append to a row of the call's own, in a plain walk. -/
theorem R_appendP (d : Kd α) {W : World} (base : Nat) (hgd : o.guard = none) (s x : Operand) (t e : TypeId) (z : Value) (bytes : Nat)
    (ho : o.op = .call { callee := .builtin .append, args := #[s, x], argTypes := #[t, t] })
    (ht : P.underlying t = some (.slice e)) (hinfo : (P.info? e).map (fun i => (i.zero, i.size, i.bytes)) = some (some z, d.sz, bytes)) (hz : z.cells.size = d.sz) (hs0 : 0 < d.sz) (hb0 : 0 < bytes)
    (v : Value) (xs : List α) (p : α) (cs : List Value) (ok okp : Nat → Prop) (hs : a.eval s = v) (hx : a.eval x = .slice (some ⟨W.heap.size, 0, none⟩) 1 1) (hp : d.M W base okp p cs) (hokp : ∀ k, okp k → ok k ∧ some k ≠ v.ownBlock) (hfresh : ∀ k, W.heap.size ≤ k → ok k)
    (HO : d.R e W base ok v xs) (hbase : base ≤ W.heap.size) (hl : (xs.length + 1) * bytes ≤ 140737488355328)
    (h : ∀ v1 w1, d.R e w1 base ok v1 (xs ++ [p]) → W.grownBy w1 v.ownBlock → wpList P ops Q rest (a.put o.dst v1) w1) :
    wpList P ops Q (o :: rest) a (W.alloc (.cells cs.toArray e)) := by
  obtain ⟨h0, inner, hown, hr⟩ := HO
  obtain ⟨i0, hi, hzz⟩ := Option.map_eq_some_iff.1 hinfo
  simp only [Prod.mk.injEq] at hzz
  obtain ⟨hz0, hz1, hz2⟩ := hzz
  have hcs := d.K_len (d.K_of_M hp)
  have hlen : xs.length + 1 ≤ 140737488355328 := Nat.le_trans (Nat.le_mul_of_pos_right _ hb0) hl
  refine wpList_append_own_at (w := W.alloc (.cells cs.toArray e)) hgd s x t ho base e i0 z d.sz bytes ht hi hz0 hz1 hz2 hz hs0 v xs.length inner hs (hown.alloc _) ⟨W.heap.size, 0, none⟩ 1 1 cs hx (by rw [hcs]; simp)
    (by simpa using World.news_of_block (cs := cs.toArray) (t := e) (fr := (0, 0)) (heap_alloc_new W (.cells cs.toArray e))) (d.K_one (d.K_of_M hp)) (by simp only [maxLen]; omega) hl (by simp; omega) ?_
  intro v1 w1 hown1 hg _ hat
  have hg1 : W.grownBy w1 v.ownBlock := World.grownBy.trans (World.grownBy_alloc W _ _) hg
  have hat1 : v1.ownBlock = v.ownBlock ∨ ∃ b, v1.ownBlock = some b ∧ W.heap.size ≤ b := by
    rcases hat with hat | hat
    · exact .inl hat
    · exact .inr ⟨_, hat, by simp⟩
  exact h v1 w1 (Kd.R_appended h0 hr hp hokp hfresh hown1 hg1 hat1) hg1
end
def listN (f : Nat → Bool) (n : Nat) : List Int := ((List.range n).filter f).map fun k : Nat => (k : Int)
theorem listN_gap {f : Nat → Bool} {n : Nat} : ∀ r, n ≤ r → (∀ m, n ≤ m → m < r → f m = false) → listN f r = listN f n := by
  intro r
  induction r with
  | zero => intro h _; rw [show n = 0 by omega]
  | succ r ih =>
    intro h hm
    by_cases e : n = r + 1
    · rw [e]
    · rw [← ih (by omega) (fun m h1 h2 => hm m h1 (by omega))]
      unfold listN
      rw [List.range_succ, List.filter_append]
      have := hm r (by omega) (by omega)
      simp [this]
theorem listN_succ {f : Nat → Bool} {r : Nat} (h : f r = true) : listN f (r + 1) = listN f r ++ [(r : Int)] := by
  unfold listN
  rw [List.range_succ, List.filter_append, List.map_append]
  simp [h]
theorem listN_len (f : Nat → Bool) (n : Nat) : (listN f n).length ≤ n := by
  unfold listN
  rw [List.length_map]
  have := List.length_filter_le f (List.range n)
  rw [List.length_range] at this; exact this
theorem R_ownG {α : Type} {d : Kd α} {e base : Nat} {ok : Nat → Prop} {A B : World} {v : Value} {xs : List α} (h : d.R e A base ok v xs) (hg : A.grownBy B none) : d.R e B base ok v xs := Kd.R_below h (below_of_grown hg)
set_option maxRecDepth 100000 in
set_option maxHeartbeats 8000000 in
theorem all_F {w : World} {g : Nat} {made : Bool} {f : Nat → Bool} (h : SetG w g made f) (hT : TabD w) :
    Calls Tryd.prog 14 #[.pointer (some ⟨g, 0, none⟩)] w fun e W' => ∃ v, e = .returned v ∧ (Kd.int .i64).R 3 W' w.heap.size (fun _ => True) v (listN f 1024) ∧ w.grownBy W' none := by
  have HF := Aside0.mk h
  have HT := Aside0.mk hT
  have hgl := h.lt
  clear h hT
  go_enter Tryd.func14, Tryd.ntmps14
  go_wp2_with (go_at_call 24; refine (first_F HF.out HT.out (n := 0) (by omega)).mono ?_; rintro e W' ⟨rfl, hg⟩; have HG := Aside0.mk hg; clear hg)
  go_loopg [3, 4] 1025 (fun kq v3 v4 w' => ∃ n : Nat, v4 = .int .i64 (firstI f n) ∧ Aside0 (n < 1024 ∧ n + kq = 1025) ∧ Aside0 ((Kd.int .i64).R 3 w' w.heap.size (fun _ => True) v3 (listN f n)) ∧ Aside0 (w.grownBy w' none))
  case atStart => exact ⟨0, rfl, ⟨⟨by omega, by omega⟩⟩, ⟨Kd.R_nil _ _ _ _ _⟩, HG⟩
  case round =>
    clear HG
    obtain ⟨n, rfl, HN, HR, HG⟩ := hrel
    obtain ⟨A0, c0, rfl, _, _⟩ := Kd.R_reads HR.out
    cases hn : nextF f (1024 - n) n with
    | none =>
      have hv : firstI f n = -1 := by unfold firstI; rw [hn]
      have hall : listN f 1024 = listN f n := listN_gap 1024 (by have := HN.out; omega) (fun m h1 h2 => by
        cases e : f m with
        | false => rfl
        | true => exfalso; exact next_none hn h1 (by omega) e)
      have HA := Aside0.mk hall
      rw [hv]
      clear hv hn hall
      go_wp2
      go_ret
      exact ⟨_, rfl, by rw [HA.out]; exact HR.out, HG.out⟩
    | some r =>
      obtain ⟨l1, l2, l3, l4⟩ := next_lt _ _ hn
      have hv : firstI f n = (r : Int) := by unfold firstI; rw [hn]
      have hnl := HN.out
      have hr : r < 1024 := by omega
      have hl1 : listN f (r + 1) = listN f n ++ [(r : Int)] := by rw [listN_succ l3, listN_gap r l1 l4]
      have hlen := listN_len f n
      have HL := Aside0.mk hl1
      rw [hv]
      obtain ⟨k1, rfl⟩ : ∃ k1, gk = k1 + 1 := ⟨gk - 1, by have := HN.out.2; omega⟩
      have hw2 : IntKind.i64.wrap ((r : Int) + 1) = ((r + 1 : Nat) : Int) := (IntWalk.i64_left _).trans ((IntWalk.wrap64_in _ (by omega)).trans (by omega))
      clear hv hn l3 l4 hl1 hnl
      by_cases hlast : r + 1 = 1024
      · have hli : ((r : Int) + 1 == 1024) = true := by simp; omega
        have hl2 : listN f (r + 1) = listN f 1024 := by rw [hlast]
        have HL2 := Aside0.mk hl2
        clear hlast hl2
        go_wp2_with ((with_reducible refine gate_builtin (b := .append) (xs := #[.tmp 11, .tmp 13]) rfl ?_); at_builtin; go_loud (refine R_appendP (Kd.int .i64) (W := wr) w.heap.size rfl (.tmp 11) (.tmp 13) 31 3 (.int .i64 0) 8 rfl Tryd.underlying31 info3 rfl (by decide) (by decide) (.slice A0 (listN f n).length c0) (listN f n) (r : Int) [.int .i64 (r : Int)] (fun _ => True) (fun _ => False) rfl rfl (by rfl) (fun _ h => h.elim) (fun _ _ => trivial) HR.out HG.out.size (by omega) ?_); intro v1 Wa hRa hga; rw [← HL.out] at hRa; obtain ⟨A1, c1, rfl, _, _⟩ := Kd.R_reads hRa; have HRa := Aside0.mk hRa; have HGa := Aside0.mk (HG.out.andThen hga (fun j e => .inl (Kd.R_base HR.out j e))); clear hRa hga)
        go_ret
        exact ⟨_, rfl, by rw [← HL2.out]; exact HRa.out, HGa.out⟩
      · have hli : ((r : Int) + 1 == 1024) = false := by simp; omega
        have hli2 : ((r + 1 : Nat) : Int) ≠ 1024 := by omega
        go_wp2_with (first | (go_at_call 24; refine (first_F (HF.out.grown HGa.out (by simp)) (HT.out.keep (below_of_grown HGa.out)) (n := r + 1) (by omega)).mono ?_; rintro e W' ⟨rfl, hg⟩; have HGb := Aside0.mk (HGa.out.trans hg); have HRb := Aside0.mk (R_ownG HRa.out hg); clear hg) | ((with_reducible refine gate_builtin (b := .append) (xs := #[.tmp 11, .tmp 13]) rfl ?_); at_builtin; go_loud (refine R_appendP (Kd.int .i64) (W := wr) w.heap.size rfl (.tmp 11) (.tmp 13) 31 3 (.int .i64 0) 8 rfl Tryd.underlying31 info3 rfl (by decide) (by decide) (.slice A0 (listN f n).length c0) (listN f n) (r : Int) [.int .i64 (r : Int)] (fun _ => True) (fun _ => False) rfl rfl (by rfl) (fun _ h => h.elim) (fun _ _ => trivial) HR.out HG.out.size (by omega) ?_); intro v1 Wa hRa hga; rw [← HL.out] at hRa; obtain ⟨A1, c1, rfl, _, _⟩ := Kd.R_reads hRa; have HRa := Aside0.mk hRa; have HGa := Aside0.mk (HG.out.andThen hga (fun j e => .inl (Kd.R_base HR.out j e))); clear hRa hga))
        go_roundg (1024 - r)
        case measure => have := HN.out; omega
        case rel => exact ⟨r + 1, rfl, ⟨⟨by omega, by omega⟩⟩, HRb, HGb⟩
end Go.Proofs.YtiaegandgjgjhaaDoor.PAll
