/-
  Maps: looked into, written, ranged over.
-/
import Derived.Test.YtkmfihpmjnfbfaaGreatDoorOpe
namespace Go.Proofs.YtkmfihpmjnfbfaaGreatDoor.Run
open Go
set_option linter.unusedVariables false
set_option linter.unusedSimpArgs false
section
variable {P : Program} {ρ : Rn} {gl : Gl} {sz : Nat} {tm : Tr Value} {a : Act} {h : AH} {w : World}
theorem ER.length : ∀ {l l' : List MapEntry}, ER ρ l l' → l.length = l'.length
  | [], [], _ => rfl
  | [], _ :: _, h => h.elim
  | _ :: _, [], h => h.elim
  | _ :: _, _ :: _, h => by simp [ER.length h.2.2.2]
theorem ER.append : ∀ {l l' m m' : List MapEntry}, ER ρ l l' → ER ρ m m' → ER ρ (l ++ m) (l' ++ m')
  | [], [], _, _, _, k => k
  | [], _ :: _, _, _, h, _ => h.elim
  | _ :: _, [], _, _, h, _ => h.elim
  | _ :: _, _ :: _, _, _, h, k => ⟨h.1, h.2.1, h.2.2.1, ER.append h.2.2.2 k⟩
theorem bytes_eq {a b : ByteArray} (hb : (a == b) = true) : a = b := by
  cases a; cases b
  simp only [BEq.beq, ByteArray.beq] at hb
  rw [Array.isEqv_eq_decide] at hb
  simp at hb
  obtain ⟨h1, h2⟩ := hb
  congr 1
  exact Array.ext h1 (fun i a b => h2 i a)
theorem bytes_self (a : ByteArray) : (a == a) = true := by
  cases a
  simp only [BEq.beq, ByteArray.beq]
  rw [Array.isEqv_eq_decide]
  simp
theorem keyB_flat {d : TypeDesc} {k : Value} (hk : keyB d k = true) : flat k = true := by cases d <;> cases k <;> simp_all [keyB, flat]
theorem sameNow_key {d : TypeDesc} {k x x' : Value} {b : Bool} (hx : VR ρ x x') (e : Instr.sameNow d k x = some b) : x' = x ∧ (b = true → x = k) := by
  unfold Instr.sameNow at e
  split at e
  · split at e
    · rename_i hkk; subst hkk; cases e; exact ⟨hx.eq_of_flat rfl, fun hb => by rw [eq_of_beq hb]⟩
    · cases e
  · cases e
    exact ⟨hx.eq_of_flat rfl, fun hb => by rw [bytes_eq hb]⟩
  · cases e
    exact ⟨hx.eq_of_flat rfl, fun hb => by rw [eq_of_beq hb]⟩
  · cases e
theorem findNow_ok {d : TypeDesc} {k : Value} : ∀ {l l' : List MapEntry} (i : Nat) {r : Option (Nat × Value)}, ER ρ l l' → Instr.findNow d k l i = some r →
    (r = none ∧ Instr.findNow d k l' i = some none) ∨ ∃ m v v', r = some (i + m, v) ∧ Instr.findNow d k l' i = some (some (i + m, v')) ∧ VR ρ v v' ∧ ∃ e e', l[m]? = some e ∧ l'[m]? = some e' ∧ e'.key = k ∧ e.key = k ∧ v = e.val ∧ v' = e'.val
  | [], [], i, r, _, e => by simp only [Instr.findNow] at e; cases e; exact .inl ⟨rfl, rfl⟩
  | [], _ :: _, _, _, hh, _ => hh.elim
  | _ :: _, [], _, _, hh, _ => hh.elim
  | x :: l, x' :: l', i, r, hh, e => by
    simp only [Instr.findNow] at e ⊢
    cases hs : Instr.sameNow d k x.key with
    | none => rw [hs] at e; cases e
    | some b =>
      rw [hs] at e
      obtain ⟨h1, h2⟩ := sameNow_key hh.1 hs
      rw [h1, hs]
      cases b with
      | true =>
        simp only at e ⊢
        cases e
        exact .inr ⟨0, x.val, x'.val, rfl, rfl, hh.2.1, x, x', rfl, rfl, by rw [h1]; exact h2 rfl, h2 rfl, rfl, rfl⟩
      | false =>
        simp only at e ⊢
        rcases findNow_ok (i + 1) hh.2.2.2 e with ⟨k1, k2⟩ | ⟨m, v, v', k1, k2, k3, y, y', q1, q2, q3⟩
        · exact .inl ⟨k1, k2⟩
        · exact .inr ⟨m + 1, v, v', by rw [k1]; congr 2; omega, by rw [k2]; congr 3; omega, k3, y, y', by simpa using q1, by simpa using q2, q3⟩
theorem run_findKey_now {kt : TypeId} {d : TypeDesc} {k : Value} {l : List MapEntry} {r : Option (Nat × Value)} (hd : P.underlying kt = some d) (e : Instr.findNow d k l 0 = some r) (w : World) : (Instr.findKey kt k l).run P w = .ok r w := by
  simp [Instr.findKey, run_under hd, e]
theorem run_check {kt : TypeId} {d : TypeDesc} {k : Value} (hd : P.underlying kt = some d) (hk : keyB d k = true) (em : Bool) (n : Nat) (w : World) : (Instr.checkKey em (n + 1) kt k).run P w = .ok () w := by
  unfold Instr.checkKey
  rw [Sem.run_bind, run_under hd]
  cases d <;> cases k <;> simp_all [keyB]
theorem run_getMap {j : Nat} {es : Array MapEntry} {c : Nat} (hj : w.heap[j]? = some (.map es c)) : (getObj j).run P w = .ok (.map es c) w := by simp [getObj, Sem.run, hj]
theorem run_putMap {j : Nat} {es : Array MapEntry} {c : Nat} (hj : w.heap[j]? = some (.map es c)) (o : Obj) : (setObj j o).run P w = .ok () (w.putObj j o) := by simp [setObj, Sem.run, hj, World.putObj]
theorem Rel.mapAt (hr : Rel P ρ h w) {b j : Nat} {es : List MapEntry} {c : Nat} (hb : ρ b = some j) (hg : h.get b = some (.map es c)) : ∃ es', w.heap[j]? = some (.map es' c) ∧ ER ρ es es'.toList := by
  obtain ⟨x, h1, h2⟩ := hr.obj b j _ hb hg trivial
  cases h2 with
  | map k => exact ⟨_, h1, k⟩
theorem mapOf_ok {t : TypeId} {d : TypeDesc} {e : TypeId} (h1 : mapOf P t = some (d, e)) : ∃ k, P.underlying t = some (.map k e) ∧ P.underlying k = some d := by
  unfold mapOf at h1
  split at h1
  · rename_i k e' hu
    simp only [Option.map_eq_some_iff] at h1
    obtain ⟨d', h2, h3⟩ := h1
    cases h3
    exact ⟨k, hu, h2⟩
  · cases h1
theorem lookupB_ok (hr : Rel P ρ h w) {t : TypeId} {m m' k k' v : Value} {ok : Bool} (hm : VR ρ m m') (hk : VR ρ k k') (e : lookupB P h t m k ok = some v) : ∃ v', (Instr.lookup t m' k' ok).run P w = .ok v' w ∧ VR ρ v v' := by
  have h2 : ∀ {v v' : Value}, VR ρ v v' → ∀ b, VR ρ (.tuple #[v, .bool b]) (.tuple #[v', .bool b]) := fun k b => VR.tuple_list (.cons k (.cons (.fl rfl) .nil))
  simp only [lookupB, Option.bind_eq_some_iff] at e
  obtain ⟨⟨d, el⟩, h1, e⟩ := e
  obtain ⟨kt, u1, u2⟩ := mapOf_ok h1
  cases hkb : keyB d k with
  | false => rw [hkb] at e; cases e
  | true =>
    rw [hkb] at e
    simp only [cond, Option.bind_eq_some_iff] at e
    obtain ⟨es, h3, r, h4, e⟩ := e
    obtain rfl := hk.eq_of_flat (keyB_flat hkb)
    split at h3
    · cases h3
      obtain rfl := hm.eq_of_flat rfl
      rcases findNow_ok (ρ := ρ) (l := []) (l' := []) 0 trivial h4 with ⟨rfl, k2⟩ | ⟨mm, y, y', rfl, k2, k3, x, x', p1, _⟩
      · simp only [Option.map_eq_some_iff] at e
        obtain ⟨z, hz, rfl⟩ := e
        have hzf := (zeroB_flat hz).1
        cases ok with
        | true => exact ⟨_, by simp [Instr.lookup, run_under u1, run_check u2 hkb, run_findKey_now u2 k2, run_zero hz], h2 (.fl hzf) false⟩
        | false => exact ⟨_, by simp [Instr.lookup, run_under u1, run_check u2 hkb, run_findKey_now u2 k2, run_zero hz], .fl hzf⟩
      · simp at p1
    · rename_i b
      split at h3
      · rename_i es0 c hg
        cases h3
        obtain ⟨j, kk, rfl⟩ := hm.mapInv
        obtain ⟨es', q1, q2⟩ := hr.mapAt kk hg
        rcases findNow_ok 0 q2 h4 with ⟨rfl, k2⟩ | ⟨mm, y, y', rfl, k2, k3, _⟩
        · simp only [Option.map_eq_some_iff] at e
          obtain ⟨z, hz, rfl⟩ := e
          have hzf := (zeroB_flat hz).1
          cases ok with
          | true => exact ⟨_, by simp [Instr.lookup, run_under u1, run_getMap q1, run_check u2 hkb, run_findKey_now u2 k2, run_zero hz], h2 (.fl hzf) false⟩
          | false => exact ⟨_, by simp [Instr.lookup, run_under u1, run_getMap q1, run_check u2 hkb, run_findKey_now u2 k2, run_zero hz], .fl hzf⟩
        · simp only at e
          cases e
          cases ok with
          | true => exact ⟨_, by simp [Instr.lookup, run_under u1, run_getMap q1, run_check u2 hkb, run_findKey_now u2 k2], h2 k3 true⟩
          | false => exact ⟨_, by simp [Instr.lookup, run_under u1, run_getMap q1, run_check u2 hkb, run_findKey_now u2 k2], k3⟩
      · cases h3
    · cases h3
theorem ER.modify {k v v' : Value} (hk : flat k = true) (hv : VR ρ v v') : ∀ {l l' : List MapEntry} (m : Nat), ER ρ l l' →
    ER ρ (l.modify m fun e => { e with key := k, val := v }) (l'.modify m fun e => { e with key := k, val := v' })
  | [], [], m, _ => by cases m <;> exact trivial
  | [], _ :: _, _, hh => hh.elim
  | _ :: _, [], _, hh => hh.elim
  | x :: l, x' :: l', 0, hh => ⟨.fl hk, hv, hh.2.2.1, hh.2.2.2⟩
  | x :: l, x' :: l', m + 1, hh => ⟨hh.1, hh.2.1, hh.2.2.1, ER.modify hk hv m hh.2.2.2⟩
theorem keyStays {d : TypeDesc} {k : Value} (hk : keyB d k = true) (w : World) : (Instr.keyThatStays k k).run P w = .ok k w := by
  cases d <;> cases k <;> simp_all [keyB, Instr.keyThatStays, Instr.sameBits, bytes_self]
theorem updB_ok (hr : Rel P ρ h w) {t : TypeId} {m m' k k' v v' : Value} {h' : AH} (hm : VR ρ m m') (hk : VR ρ k k') (hv : VR ρ v v') (e : updB P h t m k v = some h') :
    ∃ w', (Instr.mapUpdate t m' k' v').run P w = .ok () w' ∧ Rel P ρ h' w' ∧ Fw ρ h w ρ h' w' := by
  simp only [updB, Option.bind_eq_some_iff] at e
  obtain ⟨⟨d, el⟩, h1, e⟩ := e
  obtain ⟨kt, u1, u2⟩ := mapOf_ok h1
  cases hkb : keyB d k with
  | false => rw [hkb] at e; cases e
  | true =>
    rw [hkb] at e
    simp only [cond] at e
    obtain rfl := hk.eq_of_flat (keyB_flat hkb)
    split at e
    · rename_i b
      split at e
      · rename_i es c hg
        simp only [Option.map_eq_some_iff] at e
        obtain ⟨r, h4, rfl⟩ := e
        obtain ⟨j, kk, rfl⟩ := hm.mapInv
        obtain ⟨es', q1, q2⟩ := hr.mapAt kk hg
        have hlt : j < w.heap.size := (Array.getElem?_eq_some_iff.1 q1).1
        have hput : ∀ (o1 : AO) (x1 : Obj), OR P ρ (ρ.k b) o1 x1 → Rel P ρ (h.set b o1) (w.putObj j x1) ∧ Fw ρ h w ρ (h.set b o1) (w.putObj j x1) := fun o1 x1 ho =>
          hr.turn (x1 := x1) kk hg trivial (fun e n c e => by cases e) (by rw [putObj_get _ hlt, if_pos rfl]) (fun i hi' => by rw [putObj_get _ hlt, if_neg hi']) (by simp [World.putObj]) rfl rfl rfl (fun _ => ho)
        rcases findNow_ok 0 q2 h4 with ⟨rfl, k2⟩ | ⟨mm, y, y', rfl, k2, k3, x, x', p1, p2, p3, p4, p5⟩
        · have := hput (.map (es ++ [{ key := k', val := v, born := c }]) (c + 1)) (.map (es'.push { key := k', val := v', born := c }) (c + 1)) (.map (by
            rw [Array.toList_push]
            exact ER.append q2 ⟨.fl (keyB_flat hkb), hv, rfl, trivial⟩))
          refine ⟨_, ?_, this.1, this.2⟩
          simp only [Instr.mapUpdate, Sem.run_bind, run_under u1, Result.andThen_ok, run_getMap q1, run_check u2 hkb, run_findKey_now u2 k2]
          rw [run_putMap q1]
        · have := hput (.map (es.modify (0 + mm) fun e => { e with key := k', val := v }) c) (.map (es'.modify (0 + mm) fun e => { e with key := k', val := v' }) c) (.map (by
            rw [Array.toList_modify]
            exact ER.modify (keyB_flat hkb) hv _ q2))
          refine ⟨_, ?_, this.1, this.2⟩
          have hkey : ((es'[0 + mm]?).map (·.key)).getD k' = k' := by
            have p2' : es'[mm]? = some x' := by simpa using p2
            rw [Nat.zero_add, p2']
            exact p3
          simp only [Instr.mapUpdate, Sem.run_bind, run_under u1, Result.andThen_ok, run_getMap q1, run_check u2 hkb, run_findKey_now u2 k2]
          rw [hkey, keyStays hkb]
          simp only [Result.andThen_ok]
          rw [run_putMap q1]
      · cases e
    · cases e
theorem ER.erase : ∀ {l l' : List MapEntry} (m : Nat), ER ρ l l' → ER ρ (l.eraseIdx m) (l'.eraseIdx m)
  | [], [], m, _ => trivial
  | [], _ :: _, _, hh => hh.elim
  | _ :: _, [], _, hh => hh.elim
  | x :: l, x' :: l', 0, hh => hh.2.2.2
  | x :: l, x' :: l', m + 1, hh => ⟨hh.1, hh.2.1, hh.2.2.1, ER.erase m hh.2.2.2⟩
theorem delB_ok (hr : Rel P ρ h w) {t : TypeId} {ts : Array TypeId} {ty : TypeId} {m m' k k' : Value} {h' : AH} (ht : ts[0]? = some t) (hm : VR ρ m m') (hk : VR ρ k k') (e : delB P h t m k = some h') :
    ∃ w', (Builtin.delete_ ts ty #[m', k']).run P w = .ok (.tuple #[]) w' ∧ Rel P ρ h' w' ∧ Fw ρ h w ρ h' w' := by
  simp only [delB, Option.bind_eq_some_iff] at e
  obtain ⟨⟨d, el⟩, h1, e⟩ := e
  obtain ⟨kt, u1, u2⟩ := mapOf_ok h1
  cases hkb : keyB d k with
  | false => rw [hkb] at e; cases e
  | true =>
    rw [hkb] at e
    simp only [cond] at e
    obtain rfl := hk.eq_of_flat (keyB_flat hkb)
    split at e
    · cases e
      obtain rfl := hm.eq_of_flat rfl
      exact ⟨w, by simp [Builtin.delete_, ht, run_under u1, run_check u2 hkb], hr, Fw.refl _ _ _⟩
    · rename_i b
      split at e
      · rename_i es c hg
        simp only [Option.map_eq_some_iff] at e
        obtain ⟨r, h4, rfl⟩ := e
        obtain ⟨j, kk, rfl⟩ := hm.mapInv
        obtain ⟨es', q1, q2⟩ := hr.mapAt kk hg
        have hlt : j < w.heap.size := (Array.getElem?_eq_some_iff.1 q1).1
        have hput : ∀ (o1 : AO) (x1 : Obj), OR P ρ (ρ.k b) o1 x1 → Rel P ρ (h.set b o1) (w.putObj j x1) ∧ Fw ρ h w ρ (h.set b o1) (w.putObj j x1) := fun o1 x1 ho =>
          hr.turn (x1 := x1) kk hg trivial (fun e n c e => by cases e) (by rw [putObj_get _ hlt, if_pos rfl]) (fun i hi' => by rw [putObj_get _ hlt, if_neg hi']) (by simp [World.putObj]) rfl rfl rfl (fun _ => ho)
        rcases findNow_ok 0 q2 h4 with ⟨rfl, k2⟩ | ⟨mm, y, y', rfl, k2, k3, x, x', p1, p2, p3, p4, p5⟩
        · refine ⟨w, ?_, hr, Fw.refl _ _ _⟩
          simp only [Builtin.delete_, ht]
          simp [run_under u1, run_getMap q1, run_check u2 hkb, run_findKey_now u2 k2, run_putMap q1, putObj_self q1]
        · have := hput (.map (es.eraseIdx (0 + mm)) c) (.map (es'.eraseIdxIfInBounds (0 + mm)) c) (.map (by
            have : (es'.eraseIdxIfInBounds (0 + mm)).toList = es'.toList.eraseIdx (0 + mm) := by simp
            rw [this]
            exact ER.erase _ q2))
          refine ⟨_, ?_, this.1, this.2⟩
          simp only [Builtin.delete_, ht]
          simp [run_under u1, run_getMap q1, run_check u2 hkb, run_findKey_now u2 k2, run_putMap q1]
      · cases e
    · cases e
end
end Go.Proofs.YtkmfihpmjnfbfaaGreatDoor.Run
