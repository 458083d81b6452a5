/-
  A range over a map.
-/
import Derived.Test.YtkmfihpmjnfbfaaGreatDoorOpf
namespace Go.Proofs.YtkmfihpmjnfbfaaGreatDoor.Run
open Go
set_option linter.unusedVariables false
set_option linter.unusedSimpArgs false
section
variable {P : Program} {ρ : Rn} {gl : Gl} {sz : Nat} {tm : Tr Value} {a : Act} {h : AH} {w : World}
theorem run_newObj (o : Obj) : (newObj o).run P w = .ok w.heap.size (w.alloc o) := rfl
theorem rangeB_ok (hr : Rel P ρ h w) {t : TypeId} {x x' v : Value} {h' : AH} (hx : VR ρ x x') (e : rangeB P h t x = some (v, h')) :
    ∃ ρ' v' w', (Instr.range t x').run P w = .ok v' w' ∧ VR ρ' v v' ∧ Rel P ρ' h' w' ∧ Fw ρ h w ρ' h' w' := by
  unfold rangeB at e
  split at e
  · rename_i k el hu
    cases e
    obtain rfl := hx.eq_of_flat rfl
    have := hr.new 0 (o := .iter none 0 [] 0) (x := .mapIter none 0 #[] 0) (.iter (m' := none) trivial)
    exact ⟨_, _, _, by simp [Instr.range, run_under hu, run_newObj], .ptr newCells_ptr, this.1, this.2⟩
  · rename_i k el m hu
    split at e
    · rename_i es c hg
      cases e
      obtain ⟨j, kk, rfl⟩ := hx.mapInv
      obtain ⟨es', q1, q2⟩ := hr.mapAt kk hg
      have := hr.new 0 (o := .iter (some m) c [] c) (x := .mapIter (some j) c #[] c) (.iter (m' := some j) (Sub.ext (hr.none (Nat.le_refl _)) _ 0 _ _ kk).1)
      exact ⟨_, _, _, by simp [Instr.range, run_under hu, run_getMap q1, run_newObj], .ptr newCells_ptr, this.1, this.2⟩
    · cases e
  · cases e
theorem ER.filter (q : Nat → Bool) : ∀ {l l' : List MapEntry}, ER ρ l l' → ER ρ (l.filter fun e => q e.born) (l'.filter fun e => q e.born)
  | [], [], _ => trivial
  | [], _ :: _, hh => hh.elim
  | _ :: _, [], hh => hh.elim
  | x :: l, x' :: l', hh => by
    have IH := ER.filter q hh.2.2.2
    simp only [List.filter_cons, ← hh.2.2.1]
    cases q x.born with
    | true => exact ⟨hh.1, hh.2.1, hh.2.2.1, IH⟩
    | false => exact IH
theorem ER.all (q : Nat → Bool) : ∀ {l l' : List MapEntry}, ER ρ l l' → (l.all fun e => q e.born) = l'.all fun e => q e.born
  | [], [], _ => rfl
  | [], _ :: _, hh => hh.elim
  | _ :: _, [], hh => hh.elim
  | x :: l, x' :: l', hh => by simp only [List.all_cons]; rw [ER.all q hh.2.2.2, hh.2.2.1]
theorem ER.find (q : Nat → Bool) : ∀ {l l' : List MapEntry} {e : MapEntry}, ER ρ l l' → l.find? (fun e => q e.born) = some e → ∃ e', l'.find? (fun e => q e.born) = some e' ∧ VR ρ e.key e'.key ∧ VR ρ e.val e'.val
  | [], [], _, _, k => by simp at k
  | [], _ :: _, _, hh, _ => hh.elim
  | _ :: _, [], _, hh, _ => hh.elim
  | x :: l, x' :: l', e, hh, k => by
    simp only [List.find?_cons, ← hh.2.2.1] at k ⊢
    cases hq : q x.born with
    | true => rw [hq] at k; cases k; exact ⟨x', rfl, hh.1, hh.2.1⟩
    | false => rw [hq] at k; exact ER.find q hh.2.2.2 k
theorem Rel.iterAt (hr : Rel P ρ h w) {b j : Nat} {m : Option Nat} {since last : Nat} {seen : List Nat} (hb : ρ b = some j) (hg : h.get b = some (.iter m since seen last)) : ∃ m', w.heap[j]? = some (.mapIter m' since seen.toArray last) ∧ MO ρ m m' := by
  obtain ⟨x, h1, h2⟩ := hr.obj b j _ hb hg trivial
  cases h2 with
  | iter k => exact ⟨_, h1, k⟩
theorem run_getIter {j since last : Nat} {m : Option Nat} {seen : Array Nat} (hj : w.heap[j]? = some (.mapIter m since seen last)) : (getObj j).run P w = .ok (.mapIter m since seen last) w := by simp [getObj, Sem.run, hj]
theorem run_putIter {j since last : Nat} {m : Option Nat} {seen : Array Nat} (hj : w.heap[j]? = some (.mapIter m since seen last)) (o : Obj) : (setObj j o).run P w = .ok () (w.putObj j o) := by simp [setObj, Sem.run, hj, World.putObj]
theorem entryB_ok (hr : Rel P ρ h w) {it it' v : Value} (hx : VR ρ it it') (e : entryB h it = some v) : ∃ v', (Instr.entry it').run P w = .ok v' w ∧ VR ρ v v' := by
  unfold entryB at e
  split at e
  · rename_i r
    split at e
    · rename_i m since seen last hg
      simp only [Option.bind_eq_some_iff] at e
      obtain ⟨stamp, h1, e⟩ := e
      split at e
      · rename_i es c hg2
        cases hc : Nat.beq c last with
        | false => rw [hc] at e; cases e
        | true =>
          rw [hc] at e
          simp only [cond, Option.map_eq_some_iff] at e
          obtain ⟨x, h2, rfl⟩ := e
          have := beq_true hc; subst this
          obtain ⟨j, k, rfl⟩ := hx.ptrInv
          obtain ⟨m', q1, q2⟩ := hr.iterAt k hg
          cases m' with
          | none => exact q2.elim
          | some jm =>
            obtain ⟨es', q3, q4⟩ := hr.mapAt q2 hg2
            have hq : ∀ e : MapEntry, Nat.beq e.born stamp = (e.born == stamp) := fun e => by cases h : Nat.beq e.born stamp <;> simp_all [Nat.beq_eq_true_eq]; exact (beq_false h)
            simp only [hq] at h2
            obtain ⟨x', p1, p2, p3⟩ := ER.find (fun n => n == stamp) q4 h2
            refine ⟨_, ?_, VR.tuple_list (.cons p2 (.cons p3 .nil))⟩
            have hb : seen.toArray.back? = some stamp := by simpa using h1
            have hf : es'.find? (fun e => e.born == stamp) = some x' := by rw [← Array.find?_toList]; exact p1
            simp [Instr.entry, run_getIter q1, hb, run_getMap q3, hf]
      · cases e
    · cases e
  · cases e
theorem nextB_ok (hr : Rel P ρ h w) {it it' v : Value} {h' : AH} (ty : TypeId) (hx : VR ρ it it') (e : nextB h it = some (v, h')) :
    ∃ v' w', (Instr.next it' false ty).run P w = .ok v' w' ∧ VR ρ v v' ∧ Rel P ρ h' w' ∧ Fw ρ h w ρ h' w' := by
  unfold nextB at e
  split at e
  · rename_i r
    obtain ⟨j, k, rfl⟩ := hx.ptrInv
    split at e
    · rename_i since seen last hg
      cases e
      obtain ⟨m', q1, q2⟩ := hr.iterAt k hg
      cases m' with
      | some _ => exact q2.elim
      | none => exact ⟨_, w, by simp [Instr.next, run_getIter q1], VR.tuple_list (.cons (.fl rfl) .nil), hr, Fw.refl _ _ _⟩
    · rename_i m since seen last hg
      obtain ⟨m', q1, q2⟩ := hr.iterAt k hg
      cases m' with
      | none => exact q2.elim
      | some jm =>
        split at e
        · rename_i es c hg2
          obtain ⟨es', q3, q4⟩ := hr.mapAt q2 hg2
          cases hc : (!seen.isEmpty && !es.isEmpty && es.all (fun e => Nat.ble last e.born)) with
          | true => rw [hc] at e; cases e
          | false =>
            rw [hc] at e
            simp only [cond] at e
            have hble : ∀ a b : Nat, Nat.ble a b = decide (a ≤ b) := fun a b => by cases h : Nat.ble a b <;> simp_all [Nat.ble_eq]; exact ble_false h
            have hc' : (!seen.toArray.isEmpty && !es'.isEmpty && es'.all (fun e => decide (e.born ≥ last))) = false := by
              have e1 := ER.all (fun n => Nat.ble last n) q4
              have e2 : es.isEmpty = es'.isEmpty := by
                have := ER.length q4
                cases es with
                | nil => simp at this; have : es' = #[] := Array.eq_empty_of_size_eq_zero (by omega); simp [this]
                | cons x l => simp at this; simp; intro k; subst k; simp at this
              rw [e1, e2] at hc
              rw [← hc]
              simp [hble, ← Array.all_toList]
            have hfl := ER.filter (fun n => !seen.contains n) q4
            have hfl' : (es'.filter fun e => !seen.toArray.contains e.born) = (es'.toList.filter fun e => !seen.contains e.born).toArray := by
              simp [← Array.toList_inj]
            split at e
            · rename_i hnil
              cases e
              rw [hnil] at hfl
              have hn' : (es'.toList.filter fun e => !seen.contains e.born) = [] := by
                cases hq : (es'.toList.filter fun e => !seen.contains e.born) with
                | nil => rfl
                | cons x l => rw [hq] at hfl; exact hfl.elim
              rw [hn'] at hfl'
              refine ⟨_, w, ?_, VR.tuple_list (.cons (.fl rfl) .nil), hr, Fw.refl _ _ _⟩
              simp only [Instr.next, Sem.run_bind, run_getIter q1, Result.andThen_ok, run_getMap q3, hc', hfl', Bool.false_eq_true, if_false]
              simp [choose, Sem.run, Question.forced]
            · rename_i x hone
              split at e
              · rename_i hb
                cases e
                have hb := blt_true hb
                rw [hone] at hfl
                obtain ⟨x', hn', p1, p2, p3⟩ : ∃ x', (es'.toList.filter fun e => !seen.contains e.born) = [x'] ∧ VR ρ x.key x'.key ∧ VR ρ x.val x'.val ∧ x.born = x'.born := by
                  cases hq : (es'.toList.filter fun e => !seen.contains e.born) with
                  | nil => rw [hq] at hfl; exact hfl.elim
                  | cons y l =>
                    rw [hq] at hfl
                    cases l with
                    | nil => exact ⟨y, rfl, hfl.1, hfl.2.1, hfl.2.2.1⟩
                    | cons _ _ => exact hfl.2.2.2.elim
                rw [hn'] at hfl'
                have hlt : j < w.heap.size := (Array.getElem?_eq_some_iff.1 q1).1
                have hput := hr.turn (o1 := .iter (some m) since (seen ++ [x.born]) c) (x1 := .mapIter (some jm) since (seen ++ [x.born]).toArray c) (w' := w.putObj j (.mapIter (some jm) since (seen ++ [x.born]).toArray c)) k hg trivial (fun e n c e => by cases e) (by rw [putObj_get _ hlt, if_pos rfl]) (fun i hi' => by rw [putObj_get _ hlt, if_neg hi']) (by simp [World.putObj]) rfl rfl rfl (fun _ => .iter (m' := some jm) q2)
                refine ⟨_, _, ?_, VR.tuple_list (.cons (.fl rfl) (.cons p1 (.cons p2 .nil))), hput.1, hput.2⟩
                have hb' : x'.born < since := by omega
                have hnb : ¬ (since ≤ x'.born) := by omega
                simp only [Instr.next, Sem.run_bind, run_getIter q1, Result.andThen_ok, run_getMap q3, hc', hfl', Bool.false_eq_true, if_false]
                simp [choose, Sem.run, Question.forced, hb', hnb, run_putIter q1, p3]
              · cases e
            · cases e
        · cases e
    · cases e
  · cases e
end
end Go.Proofs.YtkmfihpmjnfbfaaGreatDoor.Run
