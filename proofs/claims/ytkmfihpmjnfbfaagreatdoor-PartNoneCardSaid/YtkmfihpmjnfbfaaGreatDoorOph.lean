/-
  append.
-/
import Derived.Test.YtkmfihpmjnfbfaaGreatDoorOpg
namespace Go.Proofs.YtkmfihpmjnfbfaaGreatDoor.Run
open Go
set_option linter.unusedVariables false
set_option linter.unusedSimpArgs false
section
variable {P : Program} {ρ : Rn} {gl : Gl} {sz : Nat} {tm : Tr Value} {a : Act} {h : AH} {w : World}
theorem elemsOf_ok (hr : Rel P ρ h w) {s k : Nat} {x x' : Value} {l : List Value} (hx : VR ρ x x') (hk : ∀ m, lenB x = some m → k ≤ m) (e : elemsOf h s k x = some l) : ∃ l', (Builtin.firstCells s k x').run P w = .ok l'.toArray w ∧ L2 ρ l l' := by
  unfold elemsOf at e
  split at e
  · cases e
    obtain rfl := hx.eq_of_flat rfl
    exact ⟨[], by simp [Builtin.firstCells], .nil⟩
  · rename_i b o n c
    split at e
    · rename_i el m cc ro hg
      cases hb : (o + k * s).ble m with
      | false => rw [hb] at e; cases e
      | true =>
        rw [hb] at e
        simp only [cond] at e
        have hb := ble_true hb
        rcases hx.sliceInv with ⟨j, c', kk, rfl, _, _⟩ | ⟨k1, rfl, _, ad, c', rfl⟩
        · obtain ⟨cs, lo, hi, q1, q2, q3, q4, q5⟩ := hr.cellsAt kk hg
          obtain ⟨p1, p2⟩ := rdCells_ok q3 _ _ l e hb
          exact ⟨_, by simp only [Builtin.firstCells]; exact run_rd q1 (by omega), p1⟩
        · have hk0 := hk 0 rfl
          obtain rfl : k = 0 := by omega
          rw [Nat.zero_mul] at e
          simp only [rdCells] at e; cases e
          exact ⟨[], by simp [Builtin.firstCells, loadCells, loadCellsFrom], .nil⟩
    · cases e
  · rename_i str
    cases e
    obtain rfl := hx.eq_of_flat rfl
    refine ⟨(str.data.toList.take k).map fun b => .int .u8 b.toNat, ?_, ?_⟩
    · simp only [Builtin.firstCells]
      show Result.ok _ w = _
      congr 1
      apply Array.ext'
      simp
    · generalize str.data.toList.take k = q
      induction q with
      | nil => exact .nil
      | cons x q ih => exact .cons (.fl rfl) ih
  · cases e
theorem lenB_ok {x x' : Value} {k : Nat} (hx : VR ρ x x') (e : lenB x = some k) (w : World) : (Builtin.lenOf x').run P w = .ok k w := by
  cases x <;> simp [lenB] at e
  · subst e; obtain rfl := hx.eq_of_flat rfl; rfl
  · subst e
    cases hx with
    | fl hf => rfl
    | slice k1 k2 k3 => rfl
    | slice0 k1 => rfl
theorem plain_cases {ts : Array TypeId} (hp : plainArg P ts = true) : ts[1]? = none ∨ ∃ u d, ts[1]? = some u ∧ P.underlying u = some d ∧ (match d with | .int _ => true | _ => false) = false := by
  unfold plainArg at hp
  cases h1 : ts[1]? with
  | none => exact .inl rfl
  | some u =>
    rw [h1] at hp
    simp only at hp
    cases h2 : P.underlying u with
    | none => rw [h2] at hp; cases hp
    | some d =>
      rw [h2] at hp
      refine .inr ⟨u, d, rfl, h2, ?_⟩
      cases d <;> simp at hp <;> rfl
set_option maxHeartbeats 1000000 in
/-- What is appended is no length: the second argument's type does not matter. -/
theorem append_head {ts : Array TypeId} {t elem ty : TypeId} {i : TypeInfo} {base : Option Addr} {n c : Nat} {x' : Value} (ht : ts[0]? = some t) (hp : plainArg P ts = true) (hu : P.underlying t = some (.slice elem)) (hi : P.info? elem = some i) :
    (Builtin.append_ ts ty #[.slice base n c, x']).run P w = (Builtin.append_ #[t] ty #[.slice base n c, x']).run P w := by
  have hsz : (sizeOf elem).run P w = .ok i.size w := run_size (by simp [sizeB, hi]) w
  rcases plain_cases hp with h1 | ⟨u, d, h1, h2, h3⟩
  · unfold Builtin.append_
    simp only [ht, h1]
    rfl
  · unfold Builtin.append_
    simp only [ht, h1, List.getElem?_toArray, List.getElem?_cons_zero, List.getElem?_cons_succ, List.getElem?_nil]
    rw [Sem.run_bind, Sem.run_bind, run_under hu]
    simp only [Result.andThen_ok]
    rw [Sem.run_bind, Sem.run_bind, hsz]
    simp only [Result.andThen_ok]
    rw [Sem.run_bind, run_under h2]
    simp only [Result.andThen_ok]
    cases d <;> first | (simp at h3; done) | rfl
theorem append_room {ts : Array TypeId} {t elem ty : TypeId} {i : TypeInfo} {base : Option Addr} {n c k : Nat} {x' : Value} {new : List Value} {w' : World} (ht : ts[0]? = some t) (hp : plainArg P ts = true) (hu : P.underlying t = some (.slice elem))
    (hi : P.info? elem = some i) (hl : (Builtin.lenOf x').run P w = .ok k w) (hc : n + k ≤ c) (hn : (Builtin.firstCells i.size k x').run P w = .ok new.toArray w)
    (hs : ∀ ad, base = some ad → (storeCells (ad.add (n * i.size)) new).run P w = .ok () w') (h0 : base = none → w' = w) :
    (Builtin.append_ ts ty #[.slice base n c, x']).run P w = .ok (.slice base (n + k) c) w' := by
  have hsz : (sizeOf elem).run P w = .ok i.size w := run_size (by simp [sizeB, hi]) w
  rw [append_head ht hp hu hi]
  cases base with
  | none => simp [Builtin.append_, run_under hu, hsz, hl, hc, hn, h0 rfl]
  | some ad => simp [Builtin.append_, run_under hu, hsz, hl, hc, hn, hs ad rfl]
theorem append_grow {ts : Array TypeId} {t elem ty : TypeId} {i : TypeInfo} {z : Value} {base : Option Addr} {n c k : Nat} {x' : Value} {old new : List Value} (ht : ts[0]? = some t) (hp : plainArg P ts = true) (hu : P.underlying t = some (.slice elem))
    (hi : P.info? elem = some i) (hz : i.zero = some z) (hl : (Builtin.lenOf x').run P w = .ok k w) (hc : c < n + k) (hb : (n + k) * (i.bytes + 1) ≤ 16777216) (hn : (Builtin.firstCells i.size k x').run P w.drew = .ok new.toArray w.drew)
    (ho : (Builtin.firstCells i.size n (.slice base n c)).run P w.drew = .ok old.toArray w.drew) :
    (Builtin.append_ ts ty #[.slice base n c, x']).run P w = .ok (.slice (some ⟨w.heap.size, 0, none⟩) (n + k) (grownCap w (n + k) c elem)) (w.drew.alloc (.cells (old ++ new ++ (Builtin.zeroCells z.cells (grownCap w (n + k) c elem - (n + k))).toList).toArray elem)) := by
  have hsz : (sizeOf elem).run P w = .ok i.size w := run_size (by simp [sizeB, hi]) w
  have hc' : ¬ (n + k ≤ c) := by omega
  have hmul : (n + k) * i.bytes ≤ 16777216 ∧ n + k ≤ 16777216 := by
    rw [Nat.mul_add, Nat.mul_one] at hb
    exact ⟨by omega, by omega⟩
  have h63 : ¬ (9223372036854775807 < ((n : Int) + (k : Int))) := by omega
  have hcap := nextslicecap_le hc
  have h48 : ¬ (281474976710656 < Builtin.nextslicecap (n + k) c * i.bytes) := by
    have : Builtin.nextslicecap (n + k) c * i.bytes ≤ 2 * (n + k) * i.bytes := Nat.mul_le_mul_right _ hcap
    rw [Nat.mul_assoc] at this
    omega
  rw [append_head ht hp hu hi]
  simp [Builtin.append_, run_under hu, hsz, typeInfo, zeroValue, hi, hz, hl, hc', h63, h48, Question.forced, hn, ho, newRow, grownCap]
  congr 2
  apply Array.ext'
  simp [List.append_assoc]
end
end Go.Proofs.YtkmfihpmjnfbfaaGreatDoor.Run
