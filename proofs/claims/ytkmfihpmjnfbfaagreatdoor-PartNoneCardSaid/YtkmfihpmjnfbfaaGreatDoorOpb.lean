/-
  More operations that look at no block: slices, comparisons, structs.
-/
import Derived.Test.YtkmfihpmjnfbfaaGreatDoorOpa
namespace Go.Proofs.YtkmfihpmjnfbfaaGreatDoor.Run
open Go
set_option linter.unusedVariables false
set_option linter.unusedSimpArgs false
section
variable {P : Program} {ρ : Rn} {gl : Gl} {sz : Nat} {tm : Tr Value} {a : Act} {h : AH} {w : World}
def OV (ρ : Rn) : Option Value → Option Value → Prop
  | none, none => True
  | some v, some v' => VR ρ v v'
  | _, _ => False
theorem OV.flat {x x' : Option Value} (hx : OV ρ x x') (e : optF x = true) : x' = x := by
  cases x <;> cases x' <;> simp_all [OV, optF]
  exact hx.eq_of_flat e
theorem OV.int {x x' : Option Value} {n : Option Nat} (hx : OV ρ x x') (e : optI x = some n) : x' = x := by
  cases x with
  | none => cases x' with
    | none => rfl
    | some v' => exact hx.elim
  | some v => cases x' with
    | none => exact hx.elim
    | some v' =>
      simp only [optI, Option.bind_eq_some_iff] at e
      obtain ⟨i, h1, _⟩ := e
      rw [(VR.asI hx h1).1]
theorem run_sliceBound {x : Value} {n : Int} {m y : Nat} (e : asI x = some n) (e2 : natOf n = some m) (hm : m ≤ y) (code : BoundsCode) (w : World) : (Instr.sliceBound x y code).run P w = .ok m w := by
  cases x <;> simp [asI] at e
  subst e
  have := natOf_ok e2
  subst this
  simp [Instr.sliceBound, asIntOf, hm]
theorem run_sliceBounds (isS : Bool) {len cap : Nat} {lo hi : Option Value} {l h : Option Nat} (e1 : optI lo = some l) (e2 : optI hi = some h) (h1 : l.getD 0 ≤ h.getD len) (h2 : h.getD len ≤ cap) (w : World) :
    (Instr.sliceBounds isS len cap lo hi none).run P w = .ok (l.getD 0, h.getD len, cap) w := by
  cases lo with
  | none =>
    simp only [optI] at e1; cases e1
    cases hi with
    | none => simp only [optI] at e2; cases e2; simp [Instr.sliceBounds]
    | some v =>
      simp only [optI, Option.bind_eq_some_iff, Option.map_eq_some_iff] at e2
      obtain ⟨i, k1, m, k2, rfl⟩ := e2
      simp [Instr.sliceBounds, run_sliceBound k1 k2 h2]
  | some u =>
    simp only [optI, Option.bind_eq_some_iff, Option.map_eq_some_iff] at e1
    obtain ⟨i, k1, m, k2, rfl⟩ := e1
    cases hi with
    | none => simp only [optI] at e2; cases e2; simp at h1; simp [Instr.sliceBounds, run_sliceBound k1 k2 h1]
    | some v =>
      simp only [optI, Option.bind_eq_some_iff, Option.map_eq_some_iff] at e2
      obtain ⟨i', k1', m', k2', rfl⟩ := e2
      simp at h1
      simp [Instr.sliceBounds, run_sliceBound k1' k2' h2, run_sliceBound k1 k2 h1]
theorem and3 {x y z : Bool} (h : (x && y && z) = true) : x = true ∧ y = true ∧ z = true := by cases x <;> cases y <;> cases z <;> simp_all
theorem sliceB_ok {t : TypeId} {x x' v : Value} {lo lo' hi hi' : Option Value} (hx : VR ρ x x') (hl : OV ρ lo lo') (hh : OV ρ hi hi') (e : sliceB P t x lo hi = some v) (w : World) :
    ∃ v', (Instr.sliceAt t x' lo' hi' none).run P w = .ok v' w ∧ VR ρ v v' := by
  unfold sliceB at e
  split at e
  · rename_i s
    cases hf : (optF lo && optF hi) with
    | false => rw [hf] at e; cases e
    | true =>
      rw [hf] at e
      simp only [Bool.and_eq_true] at hf
      obtain rfl := hx.eq_of_flat rfl
      obtain rfl := hl.flat hf.1
      obtain rfl := hh.flat hf.2
      have := pureV_ok e w
      exact ⟨v, this.1, .fl this.2⟩
  · rename_i n c
    cases hf : (optF lo && optF hi) with
    | false => rw [hf] at e; cases e
    | true =>
      rw [hf] at e
      simp only [Bool.and_eq_true] at hf
      obtain rfl := hx.eq_of_flat rfl
      obtain rfl := hl.flat hf.1
      obtain rfl := hh.flat hf.2
      have := pureV_ok e w
      exact ⟨v, this.1, .fl this.2⟩
  · rename_i b o n c
    split at e
    · rename_i elem hu
      simp only [Option.bind_eq_some_iff] at e
      obtain ⟨s, h1, l, h2, m, h3, e⟩ := e
      obtain rfl := hl.int h2
      obtain rfl := hh.int h3
      have hat : ∀ (ad : Option Addr) (n' c' : Nat), l.getD 0 ≤ m.getD n' → m.getD n' ≤ c' → (Instr.sliceAt t (.slice ad n' c') lo' hi' none).run P w = .ok (.slice (if c' = l.getD 0 then ad else ad.map (·.add (l.getD 0 * s))) (m.getD n' - l.getD 0) (c' - l.getD 0)) w := by
        intro ad n' c' k1 k2
        simp [Instr.sliceAt, run_under hu, Instr.slice, run_sliceBounds true h2 h3 k1 k2, run_size h1]
      cases hc : Nat.beq c UNK with
      | true =>
        rw [hc] at e
        simp only [cond] at e
        split at e
        · rename_i hb
          cases e
          have hcu := beq_true hc
          subst hcu
          obtain ⟨b1, b2, b3⟩ := and3 hb
          have b1 := ble_true b1; have b2 := ble_true b2
          rcases hx.sliceInv with ⟨j, c', k, rfl, k2, k3⟩ | ⟨k1, rfl, _, ad, c', rfl⟩
          · refine ⟨_, hat _ n c' b1 (by omega), ?_⟩
            simp only [Option.map_some, addr_add]
            by_cases hcl : c' = l.getD 0
            · rw [if_pos hcl]
              have hml : m.getD n - l.getD 0 = 0 := by omega
              rw [hml]
              by_cases hl0 : l.getD 0 = 0
              · rw [hl0, Nat.zero_mul, Nat.add_zero]
                exact .slice k (.inr ⟨rfl, fun k0 => by rcases k2 with k2 | k2 <;> omega⟩) (Nat.zero_le _)
              · have hs : 0 < o + l.getD 0 * s := by
                  simp only [Bool.or_eq_true] at b3
                  rcases b3 with (b3 | b3) | b3
                  · have := blt_true b3; omega
                  · have := beq_true b3; omega
                  · have := blt_true b3
                    have : 0 < l.getD 0 * s := Nat.mul_pos (by omega) this
                    omega
                exact .slice0 hs
            · rw [if_neg hcl]
              exact .slice k (.inr ⟨rfl, fun k0 => by rcases k2 with k2 | k2 <;> omega⟩) (by omega)
          · have e0 : m.getD 0 = 0 ∧ l.getD 0 = 0 := by omega
            refine ⟨_, hat (some ad) 0 c' b1 (by omega), ?_⟩
            rw [e0.1, e0.2, Nat.zero_mul, Nat.add_zero]
            by_cases hc0 : c' = 0
            · rw [if_pos hc0]; exact .slice0 k1
            · rw [if_neg hc0]; exact .slice0 k1
        · cases e
      | false =>
        rw [hc] at e
        simp only [cond] at e
        have hcn := beq_false hc
        split at e
        · rename_i hb
          cases e
          simp only [Bool.and_eq_true] at hb
          have b1 := ble_true hb.1; have b2 := ble_true hb.2
          rcases hx.sliceInv with ⟨j, c', k, rfl, k2, k3⟩ | ⟨_, _, k, _⟩
          · rcases k2 with ⟨rfl, k2⟩ | k2
            · refine ⟨_, hat _ n c' b1 b2, ?_⟩
              simp only [Option.map_some, addr_add]
              cases hq : Nat.beq c' (l.getD 0) with
              | true =>
                have hq' := beq_true hq
                rw [if_pos hq']
                exact .slice k (.inl ⟨rfl, by omega⟩) (by omega)
              | false =>
                have hq' := beq_false hq
                rw [if_neg hq']
                exact .slice k (.inl ⟨rfl, by omega⟩) (by omega)
            · exact absurd k2.1 hcn
          · exact absurd k hcn
        · cases e
    · cases e
  · rename_i b o
    split at e
    · rename_i n elem hu
      simp only [Option.bind_eq_some_iff] at e
      obtain ⟨s, h1, l, h2, m, h3, e⟩ := e
      obtain rfl := hl.int h2
      obtain rfl := hh.int h3
      obtain ⟨j, k, rfl⟩ := hx.ptrInv
      cases hb : ((l.getD 0).ble (m.getD n) && (m.getD n).ble n && n.blt UNK) with
      | false => rw [hb] at e; cases e
      | true =>
        rw [hb] at e
        cases e
        obtain ⟨b1, b2, b3⟩ := and3 hb
        have b1 := ble_true b1; have b2 := ble_true b2; have b3 := blt_true b3
        refine ⟨_, by simp [Instr.sliceAt, run_under hu, Instr.sureAddr, run_sliceBounds false h2 h3 b1 b2, run_size h1]; rfl, ?_⟩
        have h0 : ∀ oo, VR ρ (.slice (some ⟨b, oo, none⟩) (m.getD n - l.getD 0) (n - l.getD 0)) (.slice (some ⟨j, oo, none⟩) (m.getD n - l.getD 0) (n - l.getD 0)) := fun oo => by
          exact .slice k (.inl ⟨rfl, by omega⟩) (by omega)
        cases hq : Nat.beq n (l.getD 0) with
        | true => rw [if_pos (beq_true hq)]; exact h0 o
        | false => rw [if_neg (beq_false hq), addr_add]; exact h0 _
    · cases e
  · cases e
end
end Go.Proofs.YtkmfihpmjnfbfaaGreatDoor.Run
