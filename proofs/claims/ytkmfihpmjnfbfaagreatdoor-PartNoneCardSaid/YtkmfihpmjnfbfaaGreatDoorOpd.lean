/-
  Comparing, building, asserting, converting.
-/
import Derived.Test.YtkmfihpmjnfbfaaGreatDoorOpc
namespace Go.Proofs.YtkmfihpmjnfbfaaGreatDoor.Run
open Go
set_option linter.unusedVariables false
set_option linter.unusedSimpArgs false
section
variable {P : Program} {ρ : Rn} {gl : Gl} {sz : Nat} {tm : Tr Value} {a : Act} {h : AH} {w : World}
theorem equal_of {t : TypeId} {x y : Value} {r : Bool} (e : ∀ d, (Op.equalIn (d + 1) t x y).run P w = .ok r w) : (Op.equal t x y).run P w = .ok r w := e 9999
theorem run_equalIn_ptr_same {t el : TypeId} {inf : TypeInfo} (ad : Addr) (hu : P.underlying t = some (.pointer el)) (hi : P.info? el = some inf) (d : Nat) (w : World) :
    (Op.equalIn (d + 1) t (.pointer (some ad)) (.pointer (some ad))).run P w = .ok true w := by
  have h1 : (underlying t).run P w = .ok (.pointer el) w := run_under hu w
  unfold Op.equalIn
  rw [Sem.run_bind, h1]
  simp only [Result.andThen_ok]
  rw [Sem.run_bind]
  have h2 : (sizeOf el).run P w = .ok inf.size w := run_size (by simp [sizeB, hi]) w
  rw [h2]
  simp only [Result.andThen_ok]
  by_cases hz : inf.size ≠ 0
  · rw [if_pos hz]; simp [sameAddr]
  · rw [if_neg hz]; simp
theorem nilEqB_ok {t : TypeId} {x x' y y' : Value} {r : Bool} (hx : VR ρ x x') (hy : VR ρ y y') (e : nilEqB P t x y = some r) (w : World) :
    (Op.equal t x' y').run P w = .ok r w ∧ ∀ op ox oy, (eqGuard op t ox oy x' y').run P w = .ok () w := by
  have g0 : ∀ {x' y' : Value}, (∀ cs, x' ≠ .agg cs) → ¬ (x' = .nilIface ∧ y' = .nilIface) → ∀ op ox oy, (eqGuard op t ox oy x' y').run P w = .ok () w := by
    intro x' y' k1 k2 op ox oy
    unfold eqGuard
    cases x' <;> cases y' <;> simp_all <;> split <;> rfl
  unfold nilEqB at e
  split at e
  all_goals first
    | (cases e; rename_i hu; cases hx <;> (try (rename_i hf; simp [flat] at hf; done)) <;> cases hy <;> (try (rename_i hf; simp [flat] at hf; done)) <;>
        exact ⟨equal_of fun d => by simp [Op.equalIn, run_under hu], g0 (by simp) (by simp)⟩)
    | skip
  · rename_i el b o b' o' hu
    simp only [Option.bind_eq_some_iff] at e
    obtain ⟨inf, h1, e⟩ := e
    cases hb : (Nat.beq b b' && Nat.beq o o') with
    | false => rw [hb] at e; cases e
    | true =>
      rw [hb] at e; cases e
      simp only [Bool.and_eq_true] at hb
      have hbb := beq_true hb.1; have hoo := beq_true hb.2
      subst hbb; subst hoo
      obtain ⟨j, k, rfl⟩ := hx.ptrInv
      obtain ⟨j', k', rfl⟩ := hy.ptrInv
      rw [k] at k'; cases k'
      exact ⟨equal_of fun d => run_equalIn_ptr_same ⟨j, o, none⟩ hu h1 d w, g0 (by simp) (by simp)⟩
  · cases e
theorem binB_ok {op : BinOp} {t : TypeId} {ox oy : Operand} {x x' y y' v : Value} (hx : VR ρ x x') (hy : VR ρ y y') (e : binB P op t ox oy x y = some v) (w : World) :
    ∃ v', (do eqGuard op t ox oy x' y'; binOp op t x' y' : Sem Value).run P w = .ok v' w ∧ VR ρ v v' := by
  unfold binB at e
  cases hf : (flat x && flat y) with
  | true =>
    rw [hf] at e
    simp only [Bool.and_eq_true] at hf
    obtain rfl := hx.eq_of_flat hf.1
    obtain rfl := hy.eq_of_flat hf.2
    have := pureV_ok e w
    exact ⟨v, this.1, .fl this.2⟩
  | false =>
    rw [hf] at e
    simp only [cond] at e
    have hnf : ¬ (flat x = true ∧ flat y = true) := by simpa using hf
    have key : ∀ r, nilEqB P t x y = some r → (binOp .eql t x' y').run P w = .ok (.bool r) w ∧ (binOp .neq t x' y').run P w = .ok (.bool (!r)) w ∧ ∀ op ox oy, (eqGuard op t ox oy x' y').run P w = .ok () w := by
      intro r hr
      obtain ⟨h1, h2⟩ := nilEqB_ok hx hy hr w
      have hk : (binOp .eql t x' y') = (do pure (.bool (← Op.equal t x' y'))) ∧ (binOp .neq t x' y') = (do pure (.bool (!(← Op.equal t x' y')))) := by
        unfold nilEqB at hr
        split at hr
        all_goals first
          | (cases hr; cases hx <;> (try (rename_i hf; simp [flat] at hf; done)) <;> cases hy <;> (try (rename_i hf; simp [flat] at hf; done)) <;> exact ⟨rfl, rfl⟩)
          | skip
        · obtain ⟨j, k, rfl⟩ := hx.ptrInv
          obtain ⟨j', k', rfl⟩ := hy.ptrInv
          exact ⟨rfl, rfl⟩
        · cases hr
      rw [hk.1, hk.2]
      exact ⟨by simp [h1], by simp [h1], h2⟩
    split at e
    · simp only [Option.map_eq_some_iff] at e
      obtain ⟨r, hr, rfl⟩ := e
      obtain ⟨h1, h2, h3⟩ := key r hr
      exact ⟨_, by simp [h1, h3], .fl rfl⟩
    · simp only [Option.map_eq_some_iff] at e
      obtain ⟨r, hr, rfl⟩ := e
      obtain ⟨h1, h2, h3⟩ := key r hr
      exact ⟨_, by simp [h2, h3], .fl rfl⟩
    · cases e
end
end Go.Proofs.YtkmfihpmjnfbfaaGreatDoor.Run
