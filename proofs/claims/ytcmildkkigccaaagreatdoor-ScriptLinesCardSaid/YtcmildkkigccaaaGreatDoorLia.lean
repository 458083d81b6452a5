/-
  Plain: a number in decimal digits, a line.
-/
import Derived.Test.YtcmildkkigccaaaGreatDoorLinF14
import Derived.Lib.ItoaNum
namespace Go.Proofs.YtcmildkkigccaaaGreatDoor.PLin
open Go.RowKit Go.Proofs.YtcmildkkigccaaaGreatDoorW.PrintWords Go.Proofs.YtcmildkkigccaaaGreatDoorW.PrintLast Go.Proofs.YtcmildkkigccaaaGreatDoorW.PrintMore
set_option linter.unusedVariables false
set_option linter.unusedSimpArgs false
/-- A number's digits. -/
def digB (n : Nat) : ByteArray := ⟨(Lib.decDigits n).toArray⟩
theorem digB_small (n : Nat) (h : n < 10) : digB n = strOfNums [((48 + n : Nat) : Int)] := by
  unfold digB Lib.decDigits
  rw [dif_pos h]
  unfold strOfNums
  rw [List.map_cons, List.map_nil, Int.toNat_natCast]
theorem digB_step (n : Nat) (h : 10 ≤ n) : digB n = digB (n / 10) ++ digB (n % 10) := by
  have e : Lib.decDigits (n % 10) = [UInt8.ofNat (48 + n % 10)] := by unfold Lib.decDigits; rw [dif_pos (by omega)]
  apply ByteArray.ext
  rw [ByteArray.data_append]
  unfold digB
  rw [e]
  conv => lhs; unfold Lib.decDigits
  rw [dif_neg (by omega)]
  simp
theorem digB_size : ∀ (k n : Nat), n < 10 ^ (k + 1) → (digB n).size ≤ k + 1
  | 0, n, h => by rw [digB_small n (by simpa using h)]; simp [strOfNums, ByteArray.size]
  | k + 1, n, h => by
    by_cases h1 : n < 10
    · rw [digB_small n h1]; simp [strOfNums, ByteArray.size]
    · rw [digB_step n (by omega), ByteArray.size_append]
      have a := digB_size k (n / 10) (by rw [Nat.div_lt_iff_lt_mul (by decide)]; rw [Nat.pow_succ] at h; exact h)
      have b := digB_size 0 (n % 10) (by simp; omega)
      omega
theorem num_k : ∀ (k n : Nat), n < 10 ^ (k + 1) → k ≤ 19 → n ≤ 9223372036854775807 → prioryref27_number.f (k + 1) (n : Int) = some (digB n)
  | 0, n, h, _, _ => by
    have h' : n < 10 := by simpa using h
    unfold prioryref27_number.f
    rw [if_pos (by omega), digB_small n h', show wrap64 (48 + (n : Int)) % 256 = ((48 + n : Nat) : Int) by unfold wrap64; omega]
  | k + 1, n, h, hk, hn => by
    by_cases h1 : n < 10
    · unfold prioryref27_number.f
      rw [if_pos (by omega), digB_small n h1, show wrap64 (48 + (n : Int)) % 256 = ((48 + n : Nat) : Int) by unfold wrap64; omega]
    · have hd : n / 10 < 10 ^ (k + 1) := by rw [Nat.div_lt_iff_lt_mul (by decide)]; rw [Nat.pow_succ] at h; exact h
      have a := num_k k (n / 10) hd (by omega) (by omega)
      have hm : n % 10 < 10 ^ (k + 1) := Nat.lt_of_lt_of_le (Nat.mod_lt _ (by decide)) (by rw [Nat.pow_succ]; exact Nat.le_mul_of_pos_left _ (Nat.pow_pos (by decide)))
      have b := num_k k (n % 10) hm (by omega) (by omega)
      have sa := digB_size k _ hd
      have sb := digB_size k _ hm
      conv => lhs; unfold prioryref27_number.f
      rw [if_neg (by omega), show wrap64 (Int.tdiv (n : Int) 10) = ((n / 10 : Nat) : Int) by rw [Int.tdiv_eq_ediv_of_nonneg (by omega)]; unfold wrap64; omega, show Int.tmod (n : Int) 10 = ((n % 10 : Nat) : Int) by rw [Int.tmod_eq_emod_of_nonneg (by omega)]; omega, a, b]
      simp only [Option.bind_some]
      rw [if_pos (by omega), digB_step n (by omega)]
theorem num_f (n : Nat) (hn : n ≤ 9223372036854775807) : prioryref27_number.f 20 (n : Int) = some (digB n) := num_k 19 n (Nat.lt_of_le_of_lt hn (by decide)) (by omega) hn
theorem digB_le (n : Nat) (hn : n ≤ 9223372036854775807) : (digB n).size ≤ 20 := digB_size 19 n (Nat.lt_of_le_of_lt hn (by decide))
def spB : ByteArray := ⟨#[32]⟩
/-- An observation's line. -/
def lineB (a b c d e : Nat) : ByteArray := digB a ++ spB ++ digB b ++ spB ++ digB c ++ spB ++ digB d ++ spB ++ digB e
theorem sp_size : spB.size = 1 := rfl
theorem line_size (a b c d e : Nat) (ha : a ≤ 9223372036854775807) (hb : b ≤ 9223372036854775807) (hc : c ≤ 9223372036854775807) (hd : d ≤ 9223372036854775807) (he : e ≤ 9223372036854775807) : (lineB a b c d e).size ≤ 104 := by
  have := digB_le a ha
  have := digB_le b hb
  have := digB_le c hc
  have := digB_le d hd
  have := digB_le e he
  unfold lineB
  simp only [ByteArray.size_append, sp_size]
  omega
theorem line_f (a b c d e : Nat) (ha : a ≤ 9223372036854775807) (hb : b ≤ 9223372036854775807) (hc : c ≤ 9223372036854775807) (hd : d < 4294967296) (he : e < 4294967296) :
    prioryref27_Line.f 20 (a : Int) (b : Int) (c : Int) (d : Int) (e : Int) = some (lineB a b c d e) := by
  have ha' := digB_le a ha
  have hb' := digB_le b hb
  have hc' := digB_le c hc
  have hd' := digB_le d (by omega)
  have he' := digB_le e (by omega)
  have hs : (⟨#[32]⟩ : ByteArray).size = 1 := rfl
  unfold prioryref27_Line.f
  rw [show wrap64 (d : Int) = (d : Int) by unfold wrap64; omega, show wrap64 (e : Int) = (e : Int) by unfold wrap64; omega, num_f a ha, num_f b hb, num_f c hc, num_f d (by omega), num_f e (by omega)]
  simp only [Option.bind_some, ByteArray.size_append, hs]
  repeat rw [if_pos (by omega)]
  rfl
end Go.Proofs.YtcmildkkigccaaaGreatDoor.PLin
