/-
  copy, make, and the other builtins.
-/
import Derived.Test.YtkmfihpmjnfbfaaGreatDoorOpi
namespace Go.Proofs.YtkmfihpmjnfbfaaGreatDoor.Run
open Go
set_option linter.unusedVariables false
set_option linter.unusedSimpArgs false
section
variable {P : Program} {ρ : Rn} {gl : Gl} {sz : Nat} {tm : Tr Value} {a : Act} {h : AH} {w : World}
theorem copyB_ok (hr : Rel P ρ h w) {ts : Array TypeId} {ty : TypeId} {s s' x x' v : Value} {h' : AH} (hs : VR ρ s s') (hx : VR ρ x x') (e : copyB P h ts s x = some (v, h')) :
    ∃ ρ' v' w', (Builtin.copy_ ts ty #[s', x']).run P w = .ok v' w' ∧ VR ρ' v v' ∧ Rel P ρ' h' w' ∧ Fw ρ h w ρ' h' w' := by
  simp only [copyB, Option.bind_eq_some_iff] at e
  obtain ⟨t, ht, e⟩ := e
  split at e
  · rename_i elem base n c hu
    simp only [Option.bind_eq_some_iff] at e
    obtain ⟨sz, hz, k, hk, new, hnew, e⟩ := e
    have hl := lenB_ok (P := P) hx hk w
    obtain ⟨new', hn1, hn2⟩ := elemsOf_ok hr hx (fun m e => by rw [hk] at e; cases e; exact Nat.min_le_left _ _) hnew
    have hnn := hn2.length
    have hlen : new.length = Nat.min k n * sz := by
      cases hq : Nat.beq new.length (Nat.min k n * sz) with
      | true => exact beq_true hq
      | false => rw [hq] at e; cases e
    have hq : Nat.beq new.length (Nat.min k n * sz) = true := by rw [hlen]; exact Nat.beq_refl _
    rw [hq] at e
    simp only [cond] at e
    cases hk0 : Nat.beq (Nat.min k n) 0 with
    | true =>
      rw [hk0] at e
      simp only at e
      cases e
      have hk0 := beq_true hk0
      rw [hk0, Nat.zero_mul] at hlen
      obtain rfl := List.length_eq_zero_iff.1 hlen
      obtain rfl := hn2.nil'
      refine ⟨ρ, .int .i64 (Nat.min k n), w, ?_, .fl rfl, hr, Fw.refl _ _ _⟩
      have key : ∀ (ad : Option Addr) (c' : Nat), (Builtin.copy_ ts ty #[.slice ad n c', x']).run P w = .ok (.int .i64 (Nat.min k n)) w := by
        intro ad c'
        simp only [Builtin.copy_]
        cases ad <;> simp [ht, run_under hu, hl, run_size hz, hn1, storeCells] <;> rfl
      cases hs with
      | fl hf => exact key _ _
      | slice k1 k2 k3 => exact key _ _
      | slice0 k1 => exact key _ _
    | false =>
      rw [hk0] at e
      simp only at e
      have hk0 := beq_false hk0
      split at e
      · cases e
      · rename_i b o
        split at e
        · rename_i el m cs hg
          cases hb : (Nat.ble (o + new.length) m && new.all one) with
          | false => rw [hb] at e; cases e
          | true =>
            rw [hb] at e; cases e
            simp only [Bool.and_eq_true] at hb
            have hb1 := ble_true hb.1
            rcases hs.sliceInv with ⟨j, c', kk, rfl, _, _⟩ | ⟨k1, rfl, k2, ad, c', rfl⟩
            · obtain ⟨ra, lo, hi', q1, q2, q3, q4, q5⟩ := hr.cellsAt kk hg
              have hw := hr.write (o := o) kk hg q1 hn2 hb1
              have hwr := run_wr (P := P) o new' 0 ra w q1 (by omega) (all_one hn2 hb.2) (q4 rfl)
              exact ⟨ρ, _, _, by simp only [Builtin.copy_]; simp [ht, run_under hu, hl, run_size hz, hn1, hwr]; rfl, .fl rfl, hw.1, hw.2⟩
            · exact absurd (Nat.min_eq_right (Nat.zero_le k)) hk0
        · cases e
      · cases e
  · cases e
theorem and4 {x y z u : Bool} (h : (x && y && z && u) = true) : x = true ∧ y = true ∧ z = true ∧ u = true := by cases x <;> cases y <;> cases z <;> cases u <;> simp_all
theorem wrap_nat {n : Nat} (h : n ≤ 16777216) : IntKind.i64.wrap (n : Int) = n := by
  have h1 : ((n : Int) % 2 ^ 64) = n := Int.emod_eq_of_lt (by omega) (by omega)
  have h2 : IntKind.i64.wrap (n : Int) = if (true && decide ((n : Int) % 2 ^ 64 ≥ 2 ^ 63)) = true then (n : Int) % 2 ^ 64 - 2 ^ 64 else (n : Int) % 2 ^ 64 := rfl
  rw [h2]
  simp only [h1]
  rw [if_neg]
  simp
  omega
theorem makeSliceB_ok (hr : Rel P ρ h w) {t : TypeId} {l l' c c' v : Value} {h' : AH} (hl : VR ρ l l') (hc : VR ρ c c') (e : makeSliceB P h t l c = some (v, h')) :
    ∃ ρ' v' w', (Instr.makeSlice t l' c').run P w = .ok v' w' ∧ VR ρ' v v' ∧ Rel P ρ' h' w' ∧ Fw ρ h w ρ' h' w' := by
  unfold makeSliceB at e
  split at e
  · rename_i elem hu
    simp only [Option.bind_eq_some_iff] at e
    obtain ⟨i, hi, ln, h1, lm, h2, cn, h3, cm, h4, z, hz, e⟩ := e
    cases hb : (Nat.ble lm cm && Nat.ble (cm * (i.bytes + 1)) 16777216 && Nat.beq (Value.cl z).length i.size && Nat.blt cm UNK) with
    | false => rw [hb] at e; cases e
    | true =>
      rw [hb] at e; cases e
      obtain ⟨b1, b2, b3, b4⟩ := and4 hb
      have b1 := ble_true b1; have b2 := ble_true b2; have b3 := beq_true b3; have b4 := blt_true b4
      obtain ⟨rfl, kl, rfl⟩ := hl.asI h1
      obtain ⟨rfl, kc, rfl⟩ := hc.asI h3
      have h2 := natOf_ok h2; have h4 := natOf_ok h4
      subst h2; subst h4
      have hmul : cm * i.bytes ≤ 16777216 ∧ cm ≤ 16777216 := by rw [Nat.mul_add, Nat.mul_one] at b2; exact ⟨by omega, by omega⟩
      obtain ⟨hzf, i2, hi2, hz2⟩ := zeroB_flat hz
      rw [hi] at hi2; cases hi2
      have hn := hr.newRow 0 (t := elem) (l := zeros (Value.cl z) cm) (l' := zeros (Value.cl z) cm) (cs := (zeros (Value.cl z) cm).toArray) (flat_zeros hzf cm) ⟨[], by simp⟩ (by omega)
      refine ⟨_, .slice (some ⟨w.heap.size, 0, none⟩) lm cm, _, ?_, .slice newCells_ptr (.inl ⟨rfl, b4⟩) b1, hn.1, hn.2⟩
      have hcells : ((Array.range (cm * i.size)).map (z.cells[· % z.cells.size]!)) = (zeros (Value.cl z) cm).toArray := by
        apply Array.ext'
        rw [zero_row cm i.size b3]
      have hw1 := wrap_nat (n := lm) (by omega)
      have hw2 := wrap_nat (n := cm) (by omega)
      have hroom : ¬ (cm * i.bytes > roomBytes) := by unfold roomBytes; omega
      have hsz : (sizeOf elem).run P w = .ok i.size w := run_size (by simp [sizeB, hi]) w
      have e1 : ¬ ((cm : Int) < 0) := by omega
      have e2 : ¬ ((lm : Int) < 0) := by omega
      have e3 : ¬ ((cm : Int) < (lm : Int)) := by omega
      have e4 : ¬ ((281474976710656 : Int) < (i.bytes : Int) * (cm : Int)) := by
        have : (i.bytes : Int) * (cm : Int) = ((cm * i.bytes : Nat) : Int) := by rw [Int.natCast_mul, Int.mul_comm]
        rw [this]; omega
      simp only [Instr.makeSlice, Sem.run_bind, run_under hu, Result.andThen_ok]
      simp only [asInt, asIntOf, Sem.run_bind, Sem.run_pure, Result.andThen_ok, info_typeInfo hi, hw1, hw2]
      by_cases h0 : cm * i.size = 0
      · have hnil : (zeros (Value.cl z) cm) = [] := by
          have := congrArg Array.size hcells
          simp [h0] at this
          exact List.length_eq_zero_iff.1 this.symm
        simp [e1, e2, e3, e4, askRoom, hroom, hsz, h0, newRow, hnil]
        rw [show (Array.range 0) = #[] from Array.eq_empty_of_size_eq_zero (by simp), Array.map_empty]
      · simp [e1, e2, e3, e4, askRoom, hroom, hsz, h0, run_zero hz, newRow, hcells]
  · cases e
end
end Go.Proofs.YtkmfihpmjnfbfaaGreatDoor.Run
