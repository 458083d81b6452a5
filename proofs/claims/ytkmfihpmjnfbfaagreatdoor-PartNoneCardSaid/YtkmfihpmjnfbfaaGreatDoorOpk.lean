/-
  The builtins.
-/
import Derived.Test.YtkmfihpmjnfbfaaGreatDoorOpj
import Derived.Lib.UnsafeStr
namespace Go.Proofs.YtkmfihpmjnfbfaaGreatDoor.Run
open Go
set_option linter.unusedVariables false
set_option linter.unusedSimpArgs false
section
variable {P : Program} {ρ : Rn} {gl : Gl} {sz : Nat} {tm : Tr Value} {a : Act} {h : AH} {w : World}
theorem opt_bytes (e : List UInt8) : True := trivial
theorem OpOk.eff {s : Sem Value} {ρ' : Rn} {v v' : Value} {h' : AH} {w' : World} (e : s.run P w = .ok v' w') (hv : VR ρ' v v') (hr : Rel P ρ' h' w') (hf : Fw ρ h w ρ' h' w') : OpOk P ρ h w ((do pure (Next.value (← s)) : Sem Next).run P w) (.val v h') :=
  ⟨ρ', v', w', .inl (by rw [Sem.run_bind, e]; rfl), hv, hr, hf⟩
theorem L2.inv1 {v : Value} {l' : List Value} (k : L2 ρ [v] l') : ∃ v', l' = [v'] ∧ VR ρ v v' := by cases k with | cons k k2 => cases k2; exact ⟨_, rfl, k⟩
theorem L2.inv2 {u v : Value} {l' : List Value} (k : L2 ρ [u, v] l') : ∃ u' v', l' = [u', v'] ∧ VR ρ u u' ∧ VR ρ v v' := by
  cases k with | cons k k2 => obtain ⟨v', rfl, k3⟩ := k2.inv1; exact ⟨_, _, rfl, k, k3⟩
theorem freeze_put {j : Nat} {cs : Array Value} {e : TypeId} {f : Nat × Nat} (hj : w.heap[j]? = some (.cells cs e f)) (o n : Nat) : ∃ f', w.freeze ⟨j, o, none⟩ n = w.putObj j (.cells cs e f') := by
  by_cases h0 : n = 0
  · refine ⟨f, ?_⟩
    rw [putObj_self hj]
    simp [World.freeze, h0]
  · refine ⟨if f.1 == f.2 then (o, o + n) else (min f.1 o, max f.2 (o + n)), ?_⟩
    have hlt : j < w.heap.size := (Array.getElem?_eq_some_iff.1 hj).1
    unfold World.freeze World.putObj
    rw [if_neg h0]
    congr 1
    apply Array.ext_getElem?
    intro i
    rw [Array.getElem?_modify]
    by_cases hi : j = i
    · subst hi
      rw [if_pos rfl, hj]
      obtain ⟨lo, hi2⟩ := f
      simp [hlt]
    · rw [if_neg hi, Array.getElem?_setIfInBounds_ne hi]
theorem builtinB_ok (hr : Rel P ρ h w) {b : Builtin} {ts : Array TypeId} {ty : TypeId} {cs : Array Bool} {args args' : List Value} {nx : Nx} (ha : L2 ρ args args') (e : builtinB P h b ts args = some nx) :
    OpOk P ρ h w ((builtin b ts ty cs args'.toArray).run P w) nx := by
  unfold builtinB at e
  split at e
  · rename_i x
    simp only [Option.bind_eq_some_iff] at e
    obtain ⟨t, ht, e⟩ := e
    obtain ⟨x', rfl, hx⟩ := ha.inv1
    split at e
    · rename_i s hu
      cases e
      obtain rfl := hx.eq_of_flat rfl
      exact OpOk.sem hr (s := Builtin.len_ ts ty #[.string s]) (by simp [Builtin.len_, ht, run_under hu]; rfl) (.fl rfl)
    · rename_i el ad n c hu
      cases e
      have key : ∀ (ad : Option Addr) (c' : Nat), OpOk P ρ h w ((builtin .len ts ty cs #[.slice ad n c']).run P w) (.val (.int .i64 n) h) := fun ad c' =>
        OpOk.sem hr (s := Builtin.len_ ts ty #[.slice ad n c']) (by simp [Builtin.len_, ht, run_under hu]; rfl) (.fl rfl)
      cases hx with
      | fl hf => exact key _ _
      | slice k1 k2 k3 => exact key _ _
      | slice0 k1 => exact key _ _
    · rename_i n el hu
      cases e
      exact OpOk.sem hr (s := Builtin.len_ ts ty #[x']) (by simp [Builtin.len_, ht, run_under hu]; rfl) (.fl rfl)
    · rename_i aa hu
      split at e
      · rename_i n el hu2
        cases e
        exact OpOk.sem hr (s := Builtin.len_ ts ty #[x']) (by simp [Builtin.len_, ht, run_under hu, run_under hu2]; rfl) (.fl rfl)
      · cases e
    · rename_i k el hu
      cases e
      obtain rfl := hx.eq_of_flat rfl
      exact OpOk.sem hr (s := Builtin.len_ ts ty #[.map none]) (by simp [Builtin.len_, ht, run_under hu]; rfl) (.fl rfl)
    · rename_i k el bb hu
      split at e
      · rename_i es c hg
        cases e
        obtain ⟨j, kk, rfl⟩ := hx.mapInv
        obtain ⟨es', q1, q2⟩ := hr.mapAt kk hg
        have hl := ER.length q2
        exact OpOk.sem hr (s := Builtin.len_ ts ty #[.map (some j)]) (by simp [Builtin.len_, ht, run_under hu, run_getMap q1]; rfl) (by rw [hl]; exact .fl rfl)
      · cases e
    · cases e
  · rename_i ad n c
    obtain ⟨x', rfl, hx⟩ := ha.inv1
    simp only [Option.bind_eq_some_iff] at e
    obtain ⟨t, ht, e⟩ := e
    split at e
    · rename_i el hu
      cases hc : Nat.beq c UNK with
      | true => rw [hc] at e; cases e
      | false =>
        rw [hc] at e; cases e
        have hc := beq_false hc
        have key : ∀ ad, OpOk P ρ h w ((builtin .cap ts ty cs #[.slice ad n c]).run P w) (.val (.int .i64 c) h) := fun ad =>
          OpOk.sem hr (s := Builtin.cap_ ts ty #[.slice ad n c]) (by simp [Builtin.cap_, ht, run_under hu]; rfl) (.fl rfl)
        cases hx with
        | fl hf => exact key _
        | slice k1 k2 k3 =>
          rcases k2 with ⟨rfl, _⟩ | ⟨k2, _⟩
          · exact key _
          · exact absurd k2 hc
        | slice0 k1 => exact absurd rfl hc
    · cases e
  · rename_i s x
    obtain ⟨s', x', rfl, hs, hx⟩ := ha.inv2
    simp only [effB, Option.map_eq_some_iff] at e
    obtain ⟨⟨v, h'⟩, e, rfl⟩ := e
    obtain ⟨ρ', v', w', h1, h2, h3, h4⟩ := appendB_ok (ty := ty) hr hs hx e
    exact OpOk.eff (s := Builtin.append_ ts ty #[s', x']) h1 h2 h3 h4
  · rename_i s x
    obtain ⟨s', x', rfl, hs, hx⟩ := ha.inv2
    simp only [effB, Option.map_eq_some_iff] at e
    obtain ⟨⟨v, h'⟩, e, rfl⟩ := e
    obtain ⟨ρ', v', w', h1, h2, h3, h4⟩ := copyB_ok (ty := ty) hr hs hx e
    exact OpOk.eff (s := Builtin.copy_ ts ty #[s', x']) h1 h2 h3 h4
  · rename_i s x
    obtain ⟨s', x', rfl, hs, hx⟩ := ha.inv2
    simp only [Option.bind_eq_some_iff, doB, Option.map_eq_some_iff] at e
    obtain ⟨t, ht, h', e, rfl⟩ := e
    obtain ⟨w', h1, h3, h4⟩ := delB_ok (ty := ty) hr ht hs hx e
    exact OpOk.eff (s := Builtin.delete_ ts ty #[s', x']) h1 (.fl rfl) h3 h4
  · rename_i x rest
    cases hf : (x :: rest).all flat with
    | false => rw [hf] at e; cases e
    | true =>
      rw [hf] at e
      simp only [cond, valB, Option.map_eq_some_iff] at e
      obtain ⟨v, e, rfl⟩ := e
      obtain rfl := ha.flat (fun v hv => List.all_eq_true.1 hf v hv)
      have := pureV_ok e w
      exact OpOk.sem hr (s := Builtin.min_ ts ty (x :: rest).toArray) this.1 (.fl this.2)
  · rename_i x rest
    cases hf : (x :: rest).all flat with
    | false => rw [hf] at e; cases e
    | true =>
      rw [hf] at e
      simp only [cond, valB, Option.map_eq_some_iff] at e
      obtain ⟨v, e, rfl⟩ := e
      obtain rfl := ha.flat (fun v hv => List.all_eq_true.1 hf v hv)
      have := pureV_ok e w
      exact OpOk.sem hr (s := Builtin.max_ ts ty (x :: rest).toArray) this.1 (.fl this.2)
  · rename_i n c
    cases e
    obtain ⟨x', rfl, hx⟩ := ha.inv1
    obtain rfl := hx.eq_of_flat rfl
    exact OpOk.sem hr (s := Builtin.unsafeSliceData_ ts ty #[.slice none n c]) rfl (.fl rfl)
  · rename_i b o n c
    cases hn : Nat.beq n 0 with
    | true => rw [hn] at e; cases e
    | false =>
      rw [hn] at e; cases e
      have hn := beq_false hn
      obtain ⟨x', rfl, hx⟩ := ha.inv1
      rcases hx.sliceInv with ⟨j, c', kk, rfl, _, k3⟩ | ⟨_, k, _⟩
      · have hc : c' ≠ 0 := by omega
        exact OpOk.sem hr (s := Builtin.unsafeSliceData_ ts ty #[.slice (some ⟨j, o, none⟩) n c']) (Lib.run_unsafeSliceData_row w _ _ _ _ _ hc) (.ptr kk)
      · exact absurd k hn
  · rename_i n
    split at e
    · rename_i pt it hts
      simp only [Option.bind_eq_some_iff] at e
      obtain ⟨m, hm, e⟩ := e
      cases hb : Nat.beq m 0 with
      | false => rw [hb] at e; cases e
      | true =>
        rw [hb] at e; cases e
        have hb := beq_true hb
        subst hb
        have := natOf_ok hm
        subst this
        obtain ⟨x', y', rfl, hx, hy⟩ := ha.inv2
        obtain rfl := hx.eq_of_flat rfl
        obtain rfl := hy.eq_of_flat rfl
        obtain rfl : ts = #[pt, it] := Array.ext' hts
        exact OpOk.sem hr (s := Builtin.unsafeString_ #[pt, it] ty #[.pointer none, .int .i64 0]) (Lib.run_unsafeString_none w _ _ _ _) (.fl rfl)
    · cases e
  · rename_i b n
    split at e
    · rename_i pt it hts
      simp only [Option.bind_eq_some_iff] at e
      obtain ⟨m, hm, e⟩ := e
      obtain ⟨x', y', rfl, hx, hy⟩ := ha.inv2
      obtain ⟨j, kk, rfl⟩ := hx.ptrInv
      obtain rfl := hy.eq_of_flat rfl
      obtain rfl : ts = #[pt, it] := Array.ext' hts
      have := natOf_ok hm
      subst this
      split at e
      · rename_i el mm cc u hg hu
        cases hb : (Nat.blt 0 m && Nat.ble m mm && Nat.ble m 16777216 && Nat.beq el u && Nat.beq (P.cellsOf u) 1) with
        | false => rw [hb] at e; cases e
        | true =>
          rw [hb] at e
          simp only [cond, Option.bind_eq_some_iff, Option.map_eq_some_iff] at e
          obtain ⟨l, hl, bs, hbs, rfl⟩ := e
          obtain ⟨b1, b2, b3, b4, b5⟩ := and5 hb
          have b1 := blt_true b1; have b2 := ble_true b2; have b3 := ble_true b3; have b4 := beq_true b4; have b5 := beq_true b5
          subst b4
          obtain ⟨ra, lo, hi, q1, q2, q3, q4, q5⟩ := hr.cellsAt kk hg
          obtain ⟨p1, p2⟩ := rdCells_ok q3 _ _ l hl (by omega)
          have e1 := bytesOf_list hbs
          have p3 := p1.flat (fun v hv => by rw [e1] at hv; obtain ⟨z, _, rfl⟩ := List.mem_map.1 hv; rfl)
          have hlen : bs.length = m := by rw [e1] at p2; simpa using p2
          have hlt : j < w.heap.size := (Array.getElem?_eq_some_iff.1 q1).1
          obtain ⟨f', hfz⟩ := freeze_put q1 0 m
          have hput := hr.turn (o1 := .cells el mm cc true) (x1 := .cells ra el f') (w' := w.putObj j (.cells ra el f')) kk hg trivial (fun e n c k => by cases k) (by rw [putObj_get _ hlt, if_pos rfl]) (fun i hi' => by rw [putObj_get _ hlt, if_neg hi']) (by simp [World.putObj]) rfl rfl rfl (fun _ => by
            obtain ⟨lo', hi'⟩ := f'
            exact .cells q5 q2 q3 (fun k => by cases k))
          have hus := Lib.run_unsafeString_row (P := P) w pt it ty el hu b5 j ra.size (by simp [World.shape?, q1]) bs (fun k => by rw [k] at hlen; simp at hlen; omega) (by omega) (by omega) (fun i x hx => by
            rw [addr_add, Nat.zero_add, cell_of (o := 0) q1]
            have : ((ra.toList.drop 0).take m)[i]? = some (.int .u8 x.toNat) := by rw [p3, e1]; simp [hx]
            rw [List.getElem?_take] at this
            split at this
            · simpa using this
            · cases this)
          rw [hlen, hfz] at hus
          exact OpOk.eff (s := Builtin.unsafeString_ #[pt, it] ty #[.pointer (some ⟨j, 0, none⟩), .int .i64 m]) hus (.fl rfl) hput.1 hput.2
      · cases e
    · cases e
  · cases e
end
end Go.Proofs.YtkmfihpmjnfbfaaGreatDoor.Run
