/-
  Bits of a word, in plain Lean: the count of ones, the lowest one.
-/
import Derived.Test.YtiaegandgjgjhaaDoorAllF23
import Derived.Laws.Bits64
import Derived.Laws.BitsLemmas
import Derived.Laws.Bits64b
import Derived.Lib.TrailingZeros
import Derived.Lib.BitFns
namespace Go.Proofs.YtiaegandgjgjhaaDoor.PAll
open Go.RowKit
set_option linter.unusedVariables false
set_option linter.unusedSimpArgs false
def ofD : List Nat → Nat
  | [] => 0
  | d :: r => d + 256 * ofD r
theorem and_cat (k a b c d : Nat) (ha : a < 2 ^ k) (hc : c < 2 ^ k) : (a + 2 ^ k * b) &&& (c + 2 ^ k * d) = (a &&& c) + 2 ^ k * (b &&& d) := by
  have hac : a &&& c < 2 ^ k := Nat.lt_of_le_of_lt Nat.and_le_left ha
  apply Nat.eq_of_testBit_eq
  intro i
  rw [Nat.testBit_and, Nat.add_comm a, Nat.add_comm c, Nat.add_comm (a &&& c), Nat.testBit_two_pow_mul_add _ ha, Nat.testBit_two_pow_mul_add _ hc, Nat.testBit_two_pow_mul_add _ hac]
  by_cases h : i < k
  · simp [h]
  · simp [h]
theorem ofD_lt : ∀ l : List Nat, (∀ d ∈ l, d < 256) → ofD l < 256 ^ l.length
  | [], _ => by simp [ofD]
  | d :: r, h => by
    have h1 := h d List.mem_cons_self
    have h2 := ofD_lt r (fun x hx => h x (List.mem_cons_of_mem _ hx))
    rw [List.length_cons, Nat.pow_succ]
    unfold ofD
    omega
/-- A shift, then a mask of whole lanes. -/
theorem shift_mask (s t m : Nat) (hst : s + t = 8) (hm : m < 2 ^ t) : ∀ l : List Nat, (∀ d ∈ l, d < 256) → (ofD l / 2 ^ s) &&& ofD (l.map fun _ => m) = ofD (l.map fun d => (d / 2 ^ s) &&& m)
  | [], _ => by simp [ofD]
  | d :: r, h => by
    have h1 := h d List.mem_cons_self
    have ih := shift_mask s t m hst hm r (fun x hx => h x (List.mem_cons_of_mem _ hx))
    have e256 : (256 : Nat) = 2 ^ s * 2 ^ t := by rw [← Nat.pow_add, hst]
    have hs : 0 < 2 ^ s := Nat.two_pow_pos s
    have ht : 0 < 2 ^ t := Nat.two_pow_pos t
    have hd : d / 2 ^ s < 2 ^ t := by rw [Nat.div_lt_iff_lt_mul hs, Nat.mul_comm, ← e256]; exact h1
    have e1 : (d + 256 * ofD r) / 2 ^ s = (d / 2 ^ s + 2 ^ t * (ofD r % 2 ^ s)) + 2 ^ 8 * (ofD r / 2 ^ s) := by
      have : d + 256 * ofD r = d + 2 ^ s * (2 ^ t * ofD r) := by rw [← Nat.mul_assoc, ← e256]
      rw [this, Nat.add_mul_div_left _ _ hs, Nat.add_assoc]
      congr 1
      have h8 : (2 : Nat) ^ 8 = 2 ^ t * 2 ^ s := by rw [Nat.mul_comm]; exact e256
      rw [h8, Nat.mul_assoc, ← Nat.mul_add, Nat.mod_add_div]
    have hlow : d / 2 ^ s + 2 ^ t * (ofD r % 2 ^ s) < 2 ^ 8 := by
      have hu : ofD r % 2 ^ s + 1 ≤ 2 ^ s := Nat.mod_lt _ hs
      have : 2 ^ t * (ofD r % 2 ^ s + 1) ≤ 2 ^ t * 2 ^ s := Nat.mul_le_mul_left _ hu
      rw [Nat.mul_add, Nat.mul_one, Nat.mul_comm (2 ^ t) (2 ^ s), ← e256] at this
      have h256 : (2 : Nat) ^ 8 = 256 := rfl
      omega
    have hm8 : m < 2 ^ 8 := Nat.lt_of_lt_of_le hm (Nat.pow_le_pow_right (by decide) (by omega))
    show ((d + 256 * ofD r) / 2 ^ s) &&& (m + 256 * ofD (r.map fun _ => m)) = (d / 2 ^ s &&& m) + 256 * ofD (r.map fun d => (d / 2 ^ s) &&& m)
    rw [e1, show (256 : Nat) = 2 ^ 8 from rfl, and_cat 8 _ _ _ _ hlow hm8, ih]
    congr 1
    have := and_cat t (d / 2 ^ s) (ofD r % 2 ^ s) m 0 hd hm
    rw [Nat.mul_zero, Nat.add_zero, Nat.and_zero, Nat.mul_zero, Nat.add_zero] at this
    exact this
/-- The third step: nibbles. -/
theorem nib_mask : ∀ l : List Nat, (∀ d ∈ l, d % 16 ≤ 4 ∧ d / 16 ≤ 4) → (ofD l / 16 + ofD l) &&& ofD (l.map fun _ => 15) = ofD (l.map fun d => d / 16 + d % 16)
  | [], _ => by simp [ofD]
  | d :: r, h => by
    have h1 := h d List.mem_cons_self
    have ih := nib_mask r (fun x hx => h x (List.mem_cons_of_mem _ hx))
    have e1 : (d + 256 * ofD r) / 16 + (d + 256 * ofD r) = ((d / 16 + d) + 16 * (ofD r % 16)) + 2 ^ 8 * (ofD r / 16 + ofD r) := by omega
    have hr : ofD r % 16 ≤ 4 := by
      cases r with
      | nil => simp [ofD]
      | cons x y => have := h x (List.mem_cons_of_mem _ List.mem_cons_self); unfold ofD; omega
    have hlow : (d / 16 + d) + 16 * (ofD r % 16) < 2 ^ 8 := by have h256 : (2 : Nat) ^ 8 = 256 := rfl; omega
    show ((d + 256 * ofD r) / 16 + (d + 256 * ofD r)) &&& (15 + 256 * ofD (r.map fun _ => 15)) = (d / 16 + d % 16) + 256 * ofD (r.map fun d => d / 16 + d % 16)
    rw [e1, show (256 : Nat) = 2 ^ 8 from rfl, and_cat 8 _ _ 15 _ hlow (by decide), ih]
    congr 1
    rw [show (15 : Nat) = 2 ^ 4 - 1 from rfl, Nat.and_two_pow_sub_one_eq_mod]
    have h16 : (2 : Nat) ^ 4 = 16 := rfl
    omega
theorem ofD_add (f g : Nat → Nat) : ∀ l : List Nat, ofD (l.map f) + ofD (l.map g) = ofD (l.map fun d => f d + g d)
  | [] => rfl
  | d :: r => by
    have ih := ofD_add f g r
    show (f d + 256 * ofD (r.map f)) + (g d + 256 * ofD (r.map g)) = (f d + g d) + 256 * ofD (r.map fun d => f d + g d)
    omega
theorem ofD_small : ∀ l : List Nat, (∀ d ∈ l, d ≤ 68) → 3 * ofD l < 256 ^ l.length
  | [], _ => by simp [ofD]
  | d :: r, h => by
    have h1 := h d List.mem_cons_self
    have h2 := ofD_small r (fun x hx => h x (List.mem_cons_of_mem _ hx))
    rw [List.length_cons, Nat.pow_succ]
    unfold ofD
    omega
def g1 (d : Nat) : Nat := (d / 2 &&& 85) + (d &&& 85)
def g2 (d : Nat) : Nat := (d / 4 &&& 51) + (d &&& 51)
def g3 (d : Nat) : Nat := d / 16 + d % 16
theorem bytes_ok : ∀ d : Fin 256, g1 d.val < 256 ∧ g2 (g1 d.val) < 256 ∧ g2 (g1 d.val) % 16 ≤ 4 ∧ g2 (g1 d.val) / 16 ≤ 4 ∧ g3 (g2 (g1 d.val)) = Lib.popAux 8 d.val ∧ Lib.popAux 8 d.val ≤ 8 := by decide +kernel
theorem popAux_cat : ∀ (m n x : Nat), Lib.popAux (m + n) x = Lib.popAux m (x % 2 ^ m) + Lib.popAux n (x / 2 ^ m)
  | 0, n, x => by simp [Lib.popAux]
  | m + 1, n, x => by
    have ih := popAux_cat m n (x / 2)
    rw [show m + 1 + n = (m + n) + 1 by omega]
    simp only [Lib.popAux]
    rw [ih, Nat.div_div_eq_div_mul, show 2 * 2 ^ m = 2 ^ (m + 1) by rw [Nat.pow_succ, Nat.mul_comm]]
    have e1 : x % 2 ^ (m + 1) % 2 = x % 2 := Nat.mod_mod_of_dvd _ ⟨2 ^ m, by rw [Nat.pow_succ, Nat.mul_comm]⟩
    have e2 : x % 2 ^ (m + 1) / 2 = x / 2 % 2 ^ m := by
      rw [show 2 ^ (m + 1) = 2 * 2 ^ m by rw [Nat.pow_succ, Nat.mul_comm], Nat.mod_mul_right_div_self]
    rw [e1, e2]; omega
theorem popAux_count : ∀ (n x : Nat), Lib.popAux n x = (List.range n).countP fun i => x.testBit i
  | 0, x => rfl
  | n + 1, x => by
    simp only [Lib.popAux]
    rw [popAux_count n (x / 2), List.range_succ_eq_map, List.countP_cons, List.countP_map]
    have e : ((fun i => x.testBit i) ∘ Nat.succ) = fun i => (x / 2).testBit i := by funext i; simp [Nat.testBit_succ]
    rw [e, Nat.testBit_zero]
    have : x % 2 = if (decide (x % 2 = 1)) = true then 1 else 0 := by
      by_cases h : x % 2 = 1 <;> simp [h]; omega
    omega
/-- The eight bytes of a word. -/
theorem bytes8 (x : Nat) (hx : x < 18446744073709551616) : ∃ a b c d e f g h : Nat, (a < 256 ∧ b < 256 ∧ c < 256 ∧ d < 256 ∧ e < 256 ∧ f < 256 ∧ g < 256 ∧ h < 256) ∧ x = ofD [a, b, c, d, e, f, g, h] :=
  ⟨x % 256, x / 256 % 256, x / 256 / 256 % 256, x / 256 / 256 / 256 % 256, x / 256 / 256 / 256 / 256 % 256, x / 256 / 256 / 256 / 256 / 256 % 256, x / 256 / 256 / 256 / 256 / 256 / 256 % 256, x / 256 / 256 / 256 / 256 / 256 / 256 / 256,
    ⟨by omega, by omega, by omega, by omega, by omega, by omega, by omega, by omega⟩, by simp only [ofD]; omega⟩
theorem pop_bytes {a b c d e f g h : Nat} (hb : a < 256 ∧ b < 256 ∧ c < 256 ∧ d < 256 ∧ e < 256 ∧ f < 256 ∧ g < 256 ∧ h < 256) :
    Lib.popAux 64 (ofD [a, b, c, d, e, f, g, h]) = Lib.popAux 8 a + Lib.popAux 8 b + Lib.popAux 8 c + Lib.popAux 8 d + Lib.popAux 8 e + Lib.popAux 8 f + Lib.popAux 8 g + Lib.popAux 8 h := by
  have step : ∀ (n y z : Nat), y < 256 → Lib.popAux (8 + n) (y + 256 * z) = Lib.popAux 8 y + Lib.popAux n z := fun n y z hy => by
    have h256 : (2 : Nat) ^ 8 = 256 := rfl
    rw [popAux_cat, h256, show (y + 256 * z) % 256 = y by omega, show (y + 256 * z) / 256 = z by omega]
  obtain ⟨h1, h2, h3, h4, h5, h6, h7, h8⟩ := hb
  simp only [ofD]
  rw [show 64 = 8 + 56 from rfl, step 56 _ _ h1, show 56 = 8 + 48 from rfl, step 48 _ _ h2, show 48 = 8 + 40 from rfl, step 40 _ _ h3, show 40 = 8 + 32 from rfl, step 32 _ _ h4, show 32 = 8 + 24 from rfl, step 24 _ _ h5, show 24 = 8 + 16 from rfl, step 16 _ _ h6, show 16 = 8 + 8 from rfl, step 8 _ _ h7]
  have := step 0 h 0 h8
  simp only [Nat.mul_zero, Nat.add_zero, Lib.popAux] at this ⊢
  omega
theorem div8 {a r : Nat} (ha : a < 256) : (a + 256 * r) / 256 = r := by omega
theorem div16 {a b r : Nat} (ha : a < 256) (hb : b < 256) : (a + 256 * (b + 256 * r)) / 65536 = r := by omega
theorem div32 {a b c d r : Nat} (ha : a < 256) (hb : b < 256) (hc : c < 256) (hd : d < 256) : (a + 256 * (b + 256 * (c + 256 * (d + 256 * r)))) / 4294967296 = r := by omega
theorem ofD8 (p1 p2 p3 p4 p5 p6 p7 p8 : Nat) : ofD [p1, p2, p3, p4, p5, p6, p7, p8] = (p1) + 256 * ((p2) + 256 * ((p3) + 256 * ((p4) + 256 * ((p5) + 256 * ((p6) + 256 * ((p7) + 256 * (p8))))))) := by simp only [ofD]; omega
theorem lt8 {a b c d e f g h M : Nat} (ha : a ≤ M) (hb : b ≤ M) (hc : c ≤ M) (hd : d ≤ M) (he : e ≤ M) (hf : f ≤ M) (hg : g ≤ M) (hh : h ≤ M) : (a) + 256 * ((b) + 256 * ((c) + 256 * ((d) + 256 * ((e) + 256 * ((f) + 256 * ((g) + 256 * (h))))))) ≤ M * 72340172838076673 := by omega
section
variable {p1 p2 p3 p4 p5 p6 p7 p8 : Nat} (u1 : p1 ≤ 8) (u2 : p2 ≤ 8) (u3 : p3 ≤ 8) (u4 : p4 ≤ 8) (u5 : p5 ≤ 8) (u6 : p6 ≤ 8) (u7 : p7 ≤ 8) (u8 : p8 ≤ 8)
include u1 u2 u3 u4 u5 u6 u7 u8
set_option linter.unusedSectionVars false
theorem ts1 : ((p1) + 256 * ((p2) + 256 * ((p3) + 256 * ((p4) + 256 * ((p5) + 256 * ((p6) + 256 * ((p7) + 256 * (p8)))))))) + ((p1) + 256 * ((p2) + 256 * ((p3) + 256 * ((p4) + 256 * ((p5) + 256 * ((p6) + 256 * ((p7) + 256 * (p8)))))))) / 256 = (p1 + p2) + 256 * ((p2 + p3) + 256 * ((p3 + p4) + 256 * ((p4 + p5) + 256 * ((p5 + p6) + 256 * ((p6 + p7) + 256 * ((p7 + p8) + 256 * (p8))))))) := by
  rw [div8 (show p1 < 256 by omega)]
  clear u1 u2 u3 u4 u5 u6 u7 u8
  omega
theorem ts2 : ((p1 + p2) + 256 * ((p2 + p3) + 256 * ((p3 + p4) + 256 * ((p4 + p5) + 256 * ((p5 + p6) + 256 * ((p6 + p7) + 256 * ((p7 + p8) + 256 * (p8)))))))) + ((p1 + p2) + 256 * ((p2 + p3) + 256 * ((p3 + p4) + 256 * ((p4 + p5) + 256 * ((p5 + p6) + 256 * ((p6 + p7) + 256 * ((p7 + p8) + 256 * (p8)))))))) / 65536 = (p1 + p2 + p3 + p4) + 256 * ((p2 + p3 + p4 + p5) + 256 * ((p3 + p4 + p5 + p6) + 256 * ((p4 + p5 + p6 + p7) + 256 * ((p5 + p6 + p7 + p8) + 256 * ((p6 + p7 + p8) + 256 * ((p7 + p8) + 256 * (p8))))))) := by
  rw [div16 (show p1 + p2 < 256 by omega) (show p2 + p3 < 256 by omega)]
  clear u1 u2 u3 u4 u5 u6 u7 u8
  omega
theorem ts3 : ((p1 + p2 + p3 + p4) + 256 * ((p2 + p3 + p4 + p5) + 256 * ((p3 + p4 + p5 + p6) + 256 * ((p4 + p5 + p6 + p7) + 256 * ((p5 + p6 + p7 + p8) + 256 * ((p6 + p7 + p8) + 256 * ((p7 + p8) + 256 * (p8)))))))) + ((p1 + p2 + p3 + p4) + 256 * ((p2 + p3 + p4 + p5) + 256 * ((p3 + p4 + p5 + p6) + 256 * ((p4 + p5 + p6 + p7) + 256 * ((p5 + p6 + p7 + p8) + 256 * ((p6 + p7 + p8) + 256 * ((p7 + p8) + 256 * (p8)))))))) / 4294967296 = (p1 + p2 + p3 + p4 + p5 + p6 + p7 + p8) + 256 * ((p2 + p3 + p4 + p5 + p6 + p7 + p8) + 256 * ((p3 + p4 + p5 + p6 + p7 + p8) + 256 * ((p4 + p5 + p6 + p7 + p8) + 256 * ((p5 + p6 + p7 + p8) + 256 * ((p6 + p7 + p8) + 256 * ((p7 + p8) + 256 * (p8))))))) := by
  rw [div32 (show p1 + p2 + p3 + p4 < 256 by omega) (show p2 + p3 + p4 + p5 < 256 by omega) (show p3 + p4 + p5 + p6 < 256 by omega) (show p4 + p5 + p6 + p7 < 256 by omega)]
  clear u1 u2 u3 u4 u5 u6 u7 u8
  omega
theorem ts4 : ((p1) + 256 * ((p2) + 256 * ((p3) + 256 * ((p4) + 256 * ((p5) + 256 * ((p6) + 256 * ((p7) + 256 * (p8))))))) ≤ 8 * 72340172838076673) ∧ ((p1 + p2) + 256 * ((p2 + p3) + 256 * ((p3 + p4) + 256 * ((p4 + p5) + 256 * ((p5 + p6) + 256 * ((p6 + p7) + 256 * ((p7 + p8) + 256 * (p8))))))) ≤ 16 * 72340172838076673) ∧ ((p1 + p2 + p3 + p4) + 256 * ((p2 + p3 + p4 + p5) + 256 * ((p3 + p4 + p5 + p6) + 256 * ((p4 + p5 + p6 + p7) + 256 * ((p5 + p6 + p7 + p8) + 256 * ((p6 + p7 + p8) + 256 * ((p7 + p8) + 256 * (p8))))))) ≤ 32 * 72340172838076673) ∧ ((p1 + p2 + p3 + p4 + p5 + p6 + p7 + p8) + 256 * ((p2 + p3 + p4 + p5 + p6 + p7 + p8) + 256 * ((p3 + p4 + p5 + p6 + p7 + p8) + 256 * ((p4 + p5 + p6 + p7 + p8) + 256 * ((p5 + p6 + p7 + p8) + 256 * ((p6 + p7 + p8) + 256 * ((p7 + p8) + 256 * (p8))))))) ≤ 64 * 72340172838076673) := ⟨lt8 (M := 8) (by omega) (by omega) (by omega) (by omega) (by omega) (by omega) (by omega) (by omega), lt8 (M := 16) (by omega) (by omega) (by omega) (by omega) (by omega) (by omega) (by omega) (by omega), lt8 (M := 32) (by omega) (by omega) (by omega) (by omega) (by omega) (by omega) (by omega) (by omega), lt8 (M := 64) (by omega) (by omega) (by omega) (by omega) (by omega) (by omega) (by omega) (by omega)⟩
end
theorem wrap_nat {a b c : Nat} (h : a + b = c) (hc : c ≤ 64 * 72340172838076673) : IntKind.u64.wrap ((a : Int) + (b : Int)) = (c : Int) := by rw [IntKind.wrap_u64]; omega
theorem cdiv (a b : Nat) : (a : Int) / ((b : Nat) : Int) = ((a / b : Nat) : Int) := rfl
theorem last_step (s m : Nat) (hs : s ≤ 64) (h : s + 256 * m ≤ 64 * 72340172838076673) : bits .and .i64 (wrap64 ((s + 256 * m : Nat) : Int)) 127 = (s : Int) := by
  have a4 : wrap64 ((s + 256 * m : Nat) : Int) = ((s + 256 * m : Nat) : Int) := by unfold wrap64; omega
  have a5 : bits .and .i64 ((s + 256 * m : Nat) : Int) 127 = ((s + 256 * m : Nat) : Int) % 128 := bits_mask .i64 63 (by decide) (fun n h0 h1 => by rw [IntKind.wrap_i64]; omega) 7 (by decide) _ (by omega) (by omega)
  rw [a4, a5]; omega
theorem tail_gen {X y z s m : Nat} (t1 : X + X / 256 = y) (t2 : y + y / 65536 = z) (t3 : z + z / 4294967296 = s + 256 * m) (b2 : y ≤ 16 * 72340172838076673) (b3 : z ≤ 32 * 72340172838076673) (b4 : s + 256 * m ≤ 64 * 72340172838076673) (hs : s ≤ 64) :
    (Go.bits .and .i64 (wrap64 (IntKind.u64.wrap ((IntKind.u64.wrap ((IntKind.u64.wrap ((X : Int) + ((X : Int) / 256))) + ((IntKind.u64.wrap ((X : Int) + ((X : Int) / 256))) / 65536))) + ((IntKind.u64.wrap ((IntKind.u64.wrap ((X : Int) + ((X : Int) / 256))) + ((IntKind.u64.wrap ((X : Int) + ((X : Int) / 256))) / 65536))) / 4294967296)))) 127) = (s : Int) := by
  have w1 : IntKind.u64.wrap ((X : Int) + (X : Int) / 256) = (y : Int) := by
    rw [show (X : Int) / 256 = ((X / 256 : Nat) : Int) from cdiv X 256]; exact wrap_nat t1 (Nat.le_trans b2 (by decide))
  have w2 : IntKind.u64.wrap ((y : Int) + (y : Int) / 65536) = (z : Int) := by
    rw [show (y : Int) / 65536 = ((y / 65536 : Nat) : Int) from cdiv y 65536]; exact wrap_nat t2 (Nat.le_trans b3 (by decide))
  have w3 : IntKind.u64.wrap ((z : Int) + (z : Int) / 4294967296) = ((s + 256 * m : Nat) : Int) := by
    rw [show (z : Int) / 4294967296 = ((z / 4294967296 : Nat) : Int) from cdiv z 4294967296]; exact wrap_nat t3 b4
  rw [w1, w2, w3]
  exact last_step s m hs b4
theorem tail_sum {p1 p2 p3 p4 p5 p6 p7 p8 : Nat} (u1 : p1 ≤ 8) (u2 : p2 ≤ 8) (u3 : p3 ≤ 8) (u4 : p4 ≤ 8) (u5 : p5 ≤ 8) (u6 : p6 ≤ 8) (u7 : p7 ≤ 8) (u8 : p8 ≤ 8) : (Go.bits .and .i64 (wrap64 (IntKind.u64.wrap ((IntKind.u64.wrap ((IntKind.u64.wrap (((ofD [p1, p2, p3, p4, p5, p6, p7, p8] : Nat) : Int) + (((ofD [p1, p2, p3, p4, p5, p6, p7, p8] : Nat) : Int) / 256))) + ((IntKind.u64.wrap (((ofD [p1, p2, p3, p4, p5, p6, p7, p8] : Nat) : Int) + (((ofD [p1, p2, p3, p4, p5, p6, p7, p8] : Nat) : Int) / 256))) / 65536))) + ((IntKind.u64.wrap ((IntKind.u64.wrap (((ofD [p1, p2, p3, p4, p5, p6, p7, p8] : Nat) : Int) + (((ofD [p1, p2, p3, p4, p5, p6, p7, p8] : Nat) : Int) / 256))) + ((IntKind.u64.wrap (((ofD [p1, p2, p3, p4, p5, p6, p7, p8] : Nat) : Int) + (((ofD [p1, p2, p3, p4, p5, p6, p7, p8] : Nat) : Int) / 256))) / 65536))) / 4294967296)))) 127) = ((p1 + p2 + p3 + p4 + p5 + p6 + p7 + p8 : Nat) : Int) := by
  have hs : p1 + p2 + p3 + p4 + p5 + p6 + p7 + p8 ≤ 64 := by omega
  obtain ⟨b1, b2, b3, b4⟩ := ts4 u1 u2 u3 u4 u5 u6 u7 u8
  rw [ofD8]
  exact tail_gen (ts1 u1 u2 u3 u4 u5 u6 u7 u8) (ts2 u1 u2 u3 u4 u5 u6 u7 u8) (ts3 u1 u2 u3 u4 u5 u6 u7 u8) b2 b3 b4 hs
theorem ones64 (x : Nat) (hx : x < 18446744073709551616) : bits_OnesCount64.f (x : Int) = some ((Lib.popAux 64 x : Nat) : Int) := by
  obtain ⟨a, b, c, d, e, f, g, h, hb, rfl⟩ := bytes8 x hx
  obtain ⟨h1, h2, h3, h4, h5, h6, h7, h8⟩ := hb
  obtain ⟨l, hl⟩ : ∃ l, l = [a, b, c, d, e, f, g, h] := ⟨_, rfl⟩
  have hlt : ∀ y ∈ l, y < 256 := by rw [hl]; intro y hy; simp at hy; rcases hy with rfl | rfl | rfl | rfl | rfl | rfl | rfl | rfl <;> assumption
  have hlen : l.length = 8 := by rw [hl]; rfl
  have ok := fun (y : Nat) (hy : y < 256) => bytes_ok ⟨y, hy⟩
  have M0 : ∀ l' : List Nat, l'.length = 8 → ofD (l'.map fun _ => 85) = 6148914691236517205 := fun l' h' => by
    match l', h' with
    | [_, _, _, _, _, _, _, _], _ => simp [ofD]
  have M1 : ∀ l' : List Nat, l'.length = 8 → ofD (l'.map fun _ => 51) = 3689348814741910323 := fun l' h' => by
    match l', h' with
    | [_, _, _, _, _, _, _, _], _ => simp [ofD]
  have M2 : ∀ l' : List Nat, l'.length = 8 → ofD (l'.map fun _ => 15) = 1085102592571150095 := fun l' h' => by
    match l', h' with
    | [_, _, _, _, _, _, _, _], _ => simp [ofD]
  have big : ∀ l' : List Nat, l'.length = 8 → (∀ y ∈ l', y < 256) → ofD l' < 18446744073709551616 := fun l' h1 h2 => by
    have := ofD_lt l' h2
    rw [h1] at this
    exact this
  -- the three steps
  have s1 : ofD l / 2 &&& 6148914691236517205 = ofD (l.map fun d => d / 2 &&& 85) := by
    have := shift_mask 1 7 85 rfl (by decide) l hlt
    rw [M0 l hlen] at this; exact this
  have s2 : ofD l &&& 6148914691236517205 = ofD (l.map fun d => d &&& 85) := by
    have := shift_mask 0 8 85 rfl (by decide) l hlt
    simp only [Nat.pow_zero, Nat.div_one] at this
    rw [M0 l hlen] at this; exact this
  obtain ⟨l1, hl1⟩ : ∃ l1, l1 = l.map g1 := ⟨_, rfl⟩
  have t1 : (ofD l / 2 &&& 6148914691236517205) + (ofD l &&& 6148914691236517205) = ofD l1 := by rw [s1, s2, ofD_add, hl1]; rfl
  have hlt1 : ∀ y ∈ l1, y < 256 := by rw [hl1]; intro y hy; obtain ⟨z, hz, rfl⟩ := List.mem_map.1 hy; exact (ok z (hlt z hz)).1
  have hlen1 : l1.length = 8 := by rw [hl1, List.length_map, hlen]
  have s3 : ofD l1 / 4 &&& 3689348814741910323 = ofD (l1.map fun d => d / 4 &&& 51) := by
    have := shift_mask 2 6 51 rfl (by decide) l1 hlt1
    rw [M1 l1 hlen1] at this; exact this
  have s4 : ofD l1 &&& 3689348814741910323 = ofD (l1.map fun d => d &&& 51) := by
    have := shift_mask 0 8 51 rfl (by decide) l1 hlt1
    simp only [Nat.pow_zero, Nat.div_one] at this
    rw [M1 l1 hlen1] at this; exact this
  obtain ⟨l2, hl2⟩ : ∃ l2, l2 = l1.map g2 := ⟨_, rfl⟩
  have t2 : (ofD l1 / 4 &&& 3689348814741910323) + (ofD l1 &&& 3689348814741910323) = ofD l2 := by rw [s3, s4, ofD_add, hl2]; rfl
  have hlt2 : ∀ y ∈ l2, y < 256 ∧ y % 16 ≤ 4 ∧ y / 16 ≤ 4 := by
    rw [hl2, hl1]; intro y hy; obtain ⟨z, hz, rfl⟩ := List.mem_map.1 hy; obtain ⟨z', hz', rfl⟩ := List.mem_map.1 hz
    exact ⟨(ok z' (hlt z' hz')).2.1, (ok z' (hlt z' hz')).2.2.1, (ok z' (hlt z' hz')).2.2.2.1⟩
  have hlen2 : l2.length = 8 := by rw [hl2, List.length_map, hlen1]
  have t3 : (ofD l2 / 16 + ofD l2) &&& 1085102592571150095 = ofD (l2.map g3) := by
    have := nib_mask l2 (fun y hy => (hlt2 y hy).2)
    rw [M2 l2 hlen2] at this; exact this
  have e3 : l2.map g3 = [Lib.popAux 8 a, Lib.popAux 8 b, Lib.popAux 8 c, Lib.popAux 8 d, Lib.popAux 8 e, Lib.popAux 8 f, Lib.popAux 8 g, Lib.popAux 8 h] := by
    rw [hl2, hl1, hl]
    simp only [List.map_cons, List.map_nil, (ok a h1).2.2.2.2.1, (ok b h2).2.2.2.2.1, (ok c h3).2.2.2.2.1, (ok d h4).2.2.2.2.1, (ok e h5).2.2.2.2.1, (ok f h6).2.2.2.2.1, (ok g h7).2.2.2.2.1, (ok h h8).2.2.2.2.1]
  -- as integers
  have b0 := big l hlen hlt
  have b1 := big l1 hlen1 hlt1
  have b2 := big l2 hlen2 (fun y hy => (hlt2 y hy).1)
  have n2 : ofD l2 / 16 + ofD l2 < 18446744073709551616 := by
    have := ofD_small l2 (fun y hy => by have := hlt2 y hy; omega)
    rw [hlen2] at this
    have h256 : (256 : Nat) ^ 8 = 18446744073709551616 := rfl
    omega
  have i1 : IntKind.u64.wrap (bits .and .u64 (((ofD l : Nat) : Int) / 2) 6148914691236517205 + bits .and .u64 ((ofD l : Nat) : Int) 6148914691236517205) = ((ofD l1 : Nat) : Int) := by
    have x1 : bits .and .u64 ((ofD l / 2 : Nat) : Int) 6148914691236517205 = ((ofD l / 2 &&& 6148914691236517205 : Nat) : Int) := bits_and_u64_nat (ofD l / 2) 6148914691236517205 (by omega) (by decide)
    have x2 : bits .and .u64 ((ofD l : Nat) : Int) 6148914691236517205 = ((ofD l &&& 6148914691236517205 : Nat) : Int) := bits_and_u64_nat (ofD l) 6148914691236517205 b0 (by decide)
    rw [show ((ofD l : Nat) : Int) / 2 = ((ofD l / 2 : Nat) : Int) by omega]
    rw [x1, x2, IntKind.wrap_u64]; omega
  have i2 : IntKind.u64.wrap (bits .and .u64 (((ofD l1 : Nat) : Int) / 4) 3689348814741910323 + bits .and .u64 ((ofD l1 : Nat) : Int) 3689348814741910323) = ((ofD l2 : Nat) : Int) := by
    have x1 : bits .and .u64 ((ofD l1 / 4 : Nat) : Int) 3689348814741910323 = ((ofD l1 / 4 &&& 3689348814741910323 : Nat) : Int) := bits_and_u64_nat (ofD l1 / 4) 3689348814741910323 (by omega) (by decide)
    have x2 : bits .and .u64 ((ofD l1 : Nat) : Int) 3689348814741910323 = ((ofD l1 &&& 3689348814741910323 : Nat) : Int) := bits_and_u64_nat (ofD l1) 3689348814741910323 b1 (by decide)
    rw [show ((ofD l1 : Nat) : Int) / 4 = ((ofD l1 / 4 : Nat) : Int) by omega]
    rw [x1, x2, IntKind.wrap_u64]; omega
  obtain ⟨X, hX⟩ : ∃ X, X = ofD (l2.map g3) := ⟨_, rfl⟩
  have i3 : bits .and .u64 (IntKind.u64.wrap (((ofD l2 : Nat) : Int) / 16 + ((ofD l2 : Nat) : Int))) 1085102592571150095 = ((X : Nat) : Int) := by
    have x1 : bits .and .u64 ((ofD l2 / 16 + ofD l2 : Nat) : Int) 1085102592571150095 = (((ofD l2 / 16 + ofD l2) &&& 1085102592571150095 : Nat) : Int) := bits_and_u64_nat (ofD l2 / 16 + ofD l2) 1085102592571150095 n2 (by decide)
    rw [show IntKind.u64.wrap (((ofD l2 : Nat) : Int) / 16 + ((ofD l2 : Nat) : Int)) = ((ofD l2 / 16 + ofD l2 : Nat) : Int) by rw [IntKind.wrap_u64]; omega, x1, t3, hX]
  have hX2 : X = ofD [Lib.popAux 8 a, Lib.popAux 8 b, Lib.popAux 8 c, Lib.popAux 8 d, Lib.popAux 8 e, Lib.popAux 8 f, Lib.popAux 8 g, Lib.popAux 8 h] := by rw [hX, e3]
  have tot := pop_bytes ⟨h1, h2, h3, h4, h5, h6, h7, h8⟩
  have u1 := (ok a h1).2.2.2.2.2; have u2 := (ok b h2).2.2.2.2.2; have u3 := (ok c h3).2.2.2.2.2; have u4 := (ok d h4).2.2.2.2.2
  have u5 := (ok e h5).2.2.2.2.2; have u6 := (ok f h6).2.2.2.2.2; have u7 := (ok g h7).2.2.2.2.2; have u8 := (ok h h8).2.2.2.2.2
  rw [← hl] at tot ⊢
  simp only at u1 u2 u3 u4 u5 u6 u7 u8
  generalize Lib.popAux 8 a = p1 at *
  generalize Lib.popAux 8 b = p2 at *
  generalize Lib.popAux 8 c = p3 at *
  generalize Lib.popAux 8 d = p4 at *
  generalize Lib.popAux 8 e = p5 at *
  generalize Lib.popAux 8 f = p6 at *
  generalize Lib.popAux 8 g = p7 at *
  generalize Lib.popAux 8 h = p8 at *
  have fin := tail_sum u1 u2 u3 u4 u5 u6 u7 u8
  rw [← hX2] at fin
  unfold bits_OnesCount64.f
  rw [i1, i2, i3, fin, tot]
end Go.Proofs.YtiaegandgjgjhaaDoor.PAll
