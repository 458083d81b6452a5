/-
  Operands; operations that look at no block.
-/
import Derived.Test.YtkmfihpmjnfbfaaGreatDoorRel
import Derived.Laws.Cells
import Derived.Laws.CopyRow
import Derived.RangeFuncRecord
namespace Go.Proofs.YtkmfihpmjnfbfaaGreatDoor.Run
open Go
set_option linter.unusedVariables false
set_option linter.unusedSimpArgs false
theorem pureRun_ok {α : Type} {P : Program} : ∀ {s : Sem α} {r : α}, pureRun P s = some r → ∀ w, s.run P w = .ok r w := by
  intro s
  induction s with
  | pure a => intro r h w; simp only [pureRun] at h; cases h; rfl
  | program k ih => intro r h w; simp only [pureRun] at h; exact ih P h w
  | mark m k ih => intro r h w; simp only [pureRun] at h; exact ih h w
  | _ => intro r h w; simp [pureRun] at h
theorem pureV_ok {P : Program} {s : Sem Value} {v : Value} (h : pureV P s = some v) (w : World) : s.run P w = .ok v w ∧ flat v = true := by
  simp only [pureV, Option.bind_eq_some_iff] at h
  obtain ⟨u, h1, h2⟩ := h
  cases hf : flat u with
  | false => rw [hf] at h2; cases h2
  | true => rw [hf] at h2; cases h2; exact ⟨pureRun_ok h1 w, hf⟩
def GlOk (ρ : Rn) (gl : Gl) : Prop := ∀ g b, gl g = some b → ρ b = some g
theorem GlOk.mono {ρ ρ' : Rn} (hs : Sub ρ ρ') {gl : Gl} (h : GlOk ρ gl) : GlOk ρ' gl := fun g b e => (hs _ _ (h g b e)).1
section
variable {P : Program} {ρ : Rn} {gl : Gl} {sz : Nat} {tm : Tr Value} {a : Act} {h : AH} {w : World}
theorem opnd_ok (hg : GlOk ρ gl) (ht : TR ρ sz tm a.tmps) {x : Operand} {v : Value} (e : opnd gl tm x = some v) : VR ρ v (a.eval x) := by
  cases x with
  | tmp t => simp only [opnd] at e; cases e; exact ht.2 t
  | const u =>
    simp only [opnd] at e
    cases hf : flat u with
    | false => rw [hf] at e; cases e
    | true => rw [hf] at e; cases e; exact .fl hf
  | global g =>
    simp only [opnd] at e
    cases hb : gl g with
    | none => rw [hb] at e; cases e
    | some b => rw [hb] at e; cases e; exact .ptr (hg g b hb)
  | func f => simp only [opnd] at e; cases e; exact .fn rfl (by simp) rfl (by simp)
theorem opnds_ok (hg : GlOk ρ gl) (ht : TR ρ sz tm a.tmps) : ∀ {l : List Operand} {vs : List Value}, opnds gl tm l = some vs → L2 ρ vs (l.map a.eval)
  | [], vs, e => by simp only [opnds] at e; cases e; exact .nil
  | x :: l, vs, e => by
    simp only [opnds, Option.bind_eq_some_iff, Option.map_eq_some_iff] at e
    obtain ⟨v, h1, vs', h2, rfl⟩ := e
    exact .cons (opnd_ok hg ht h1) (opnds_ok hg ht h2)
inductive P2 (ρ : Rn) : List (Nat × Value) → List (Nat × Value) → Prop
  | nil : P2 ρ [] []
  | cons {i : Nat} {v v' : Value} {l l' : List (Nat × Value)} : VR ρ v v' → P2 ρ l l' → P2 ρ ((i, v) :: l) ((i, v') :: l')
theorem parts_ok (hg : GlOk ρ gl) (ht : TR ρ sz tm a.tmps) : ∀ {l : List (Nat × Operand)} {vs : List (Nat × Value)}, parts gl tm l = some vs → P2 ρ vs (l.map fun (i, x) => (i, a.eval x))
  | [], vs, e => by simp only [parts] at e; cases e; exact .nil
  | (i, x) :: l, vs, e => by
    simp only [parts, Option.bind_eq_some_iff, Option.map_eq_some_iff] at e
    obtain ⟨v, h1, vs', h2, rfl⟩ := e
    exact .cons (opnd_ok hg ht h1) (parts_ok hg ht h2)
theorem getD_set (ts : Array Value) (d t : Nat) (v : Value) (hd : d < ts.size) : (ts.setIfInBounds d v).getD t undef = if t = d then v else ts.getD t undef := by
  by_cases h : t = d
  · subst h; rw [if_pos rfl]; simp [Array.getD, hd]
  · rw [if_neg h]
    simp only [Array.getD_eq_getD_getElem?, Array.getElem?_setIfInBounds_ne (fun e => h e.symm)]
theorem putB_ok (ht : TR ρ sz tm a.tmps) {dst : Option Tmp} {v v' : Value} {tm' : Tr Value} (hv : VR ρ v v') (e : putB sz tm dst v = some tm') : TR ρ sz tm' (a.put dst v').tmps := by
  cases dst with
  | none => simp only [putB] at e; cases e; exact ht
  | some d =>
    simp only [putB] at e
    cases hd : Nat.blt d sz with
    | false => rw [hd] at e; cases e
    | true =>
      rw [hd] at e; cases e
      have hd' : d < a.tmps.size := by rw [ht.1]; exact blt_true hd
      refine ⟨by simp [Act.put, ht.1], fun t => ?_⟩
      show VR ρ (((tm.put d v).get t).getD undef) ((a.tmps.setIfInBounds d v').getD t undef)
      rw [Tr.get_put, getD_set _ _ _ _ hd']
      by_cases h : t = d
      · rw [if_pos h, if_pos h]; exact hv
      · rw [if_neg h, if_neg h]; exact ht.2 t
theorem put_defers (a : Act) (dst : Option Tmp) (v : Value) : (a.put dst v).defers = a.defers := by cases dst <;> rfl
def DR (ρ : Rn) : Df → Deferred → Prop
  | .call f args, d => ∃ cap args', d = ⟨.fn (.func f) cap, args'⟩ ∧ L2 ρ args (args' ++ cap).toList
  | .mark r, d => ∃ r', ρ r = some r' ∧ d = ⟨.collected r', #[]⟩
def OpOk (P : Program) (ρ : Rn) (h : AH) (w : World) (r : Result Next) : Nx → Prop
  | .val v h' => ∃ ρ' v' w', (r = .ok (.value v') w' ∨ (v' = undef ∧ r = .ok .skip w')) ∧ VR ρ' v v' ∧ Rel P ρ' h' w' ∧ Fw ρ h w ρ' h' w'
  | .call f args => ∃ args', r = (callFunc f args').run P w ∧ L2 ρ args args'.toList
  | .round l args => ∃ l' args', ρ l = some l' ∧ r = (Instr.yield l' args').run P w ∧ L2 ρ args args'.toList
  | .defer f args => ∃ d, r = .ok (.defer d) w ∧ DR ρ (.call f args) d
theorem OpOk.val0 (hr : Rel P ρ h w) {r : Result Next} {v v' : Value} (e : r = .ok (.value v') w) (hv : VR ρ v v') : OpOk P ρ h w r (.val v h) :=
  ⟨ρ, v', w, .inl e, hv, hr, Fw.refl ρ h w⟩
/-- A plain operation: Sem a, no block named. -/
theorem OpOk.sem (hr : Rel P ρ h w) {s : Sem Value} {v v' : Value} (e : s.run P w = .ok v' w) (hv : VR ρ v v') : OpOk P ρ h w ((do pure (Next.value (← s)) : Sem Next).run P w) (.val v h) :=
  OpOk.val0 hr (by rw [Sem.run_bind, e]; rfl) hv
theorem info_typeInfo {t : TypeId} {i : TypeInfo} (hi : P.info? t = some i) (w : World) : (typeInfo t).run P w = .ok i w := by simp [typeInfo, program, Sem.run, hi]
theorem run_size {t : TypeId} {s : Nat} (e : sizeB P t = some s) (w : World) : (sizeOf t).run P w = .ok s w := by
  simp only [sizeB, Option.map_eq_some_iff] at e
  obtain ⟨i, h1, rfl⟩ := e
  simp [sizeOf, info_typeInfo h1]
theorem run_under {t : TypeId} {d : TypeDesc} (e : P.underlying t = some d) (w : World) : (underlying t).run P w = .ok d w := by simp [underlying, program, Sem.run, e]
theorem run_agg {t : TypeId} {b : Bool} (e : isAggB P t = some b) (w : World) : (isAgg t).run P w = .ok b w := by
  unfold isAggB at e
  cases hu : P.underlying t with
  | none => rw [hu] at e; cases e
  | some d =>
    rw [hu] at e
    simp only [isAgg, Sem.run_bind, run_under hu, Result.andThen_ok]
    cases d <;> simp_all
theorem zeroB_flat {t : TypeId} {z : Value} (e : zeroB P t = some z) : flat z = true ∧ ∃ i, P.info? t = some i ∧ i.zero = some z := by
  simp only [zeroB, Option.bind_eq_some_iff] at e
  obtain ⟨i, h1, z', h2, e⟩ := e
  cases hf : flat z' with
  | false => rw [hf] at e; cases e
  | true => rw [hf] at e; cases e; exact ⟨hf, i, h1, h2⟩
theorem run_zero {t : TypeId} {z : Value} (e : zeroB P t = some z) (w : World) : (zeroValue t).run P w = .ok z w := by
  obtain ⟨_, i, h1, h2⟩ := zeroB_flat e
  simp [zeroValue, info_typeInfo h1, h2]
theorem cl_eq (v : Value) : Value.cl v = v.cells.toList := by cases v <;> rfl
theorem VR.cells {v v' : Value} (hv : VR ρ v v') : L2 ρ v.cells.toList v'.cells.toList := by
  have h1 : ∀ u u' : Value, VR ρ u u' → L2 ρ [u] [u'] := fun u u' k => .cons k .nil
  cases hv with
  | @fl v hf =>
    cases v <;> first
      | exact h1 _ _ (.fl hf)
      | skip
    rename_i cs
    simp only [flat] at hf
    have h2 : ∀ l : List Value, l.all flat1 = true → L2 ρ l l := by
      intro l
      induction l with
      | nil => intro _; exact .nil
      | cons x l ih => intro hl; simp only [List.all_cons, Bool.and_eq_true] at hl; exact .cons (.fl (flat1_flat hl.1)) (ih hl.2)
    exact h2 _ hf
  | gs => exact h1 _ _ .gs
  | agg k1 k2 => exact L2.ofArr k1 k2
  | ptr k => exact h1 _ _ (.ptr k)
  | slice k k2 k3 => exact h1 _ _ (.slice k k2 k3)
  | slice0 k => exact h1 _ _ (.slice0 k)
  | map k => exact h1 _ _ (.map k)
  | fn k1 k2 k3 k4 => exact h1 _ _ (.fn k1 k2 k3 k4)
  | yield k => exact h1 _ _ (.yield k)
  | iface k => exact h1 _ _ (.iface k)
  | tuple k1 k2 => exact h1 _ _ (.tuple k1 k2)
/-- Taking a part of an aggregate. -/
theorem partB_ok {t : TypeId} {cs cs' : Array Value} {off : Nat} {v : Value} (hc : cs.size = cs'.size) (hk : ∀ (i : Nat) (v v' : Value), cs[i]? = some v → cs'[i]? = some v' → VR ρ v v')
    (e : partB P t cs off = some v) (w : World) : ∃ v', (part t cs' off).run P w = .ok v' w ∧ VR ρ v v' := by
  simp only [partB, Option.bind_eq_some_iff] at e
  obtain ⟨g, h1, e⟩ := e
  simp only [part, Sem.run_bind, run_agg h1, Result.andThen_ok]
  cases g with
  | true =>
    simp only [cond, Option.map_eq_some_iff] at e
    obtain ⟨s, h2, rfl⟩ := e
    refine ⟨.agg (cs'.extract off (off + s)), by simp [run_size h2], .agg (by simp [hc]) (fun i v v' e1 e2 => ?_)⟩
    rw [Array.getElem?_extract] at e1 e2
    split at e1
    · rename_i hi
      rw [if_pos (by rw [← hc]; exact hi)] at e2
      exact hk _ _ _ e1 e2
    · cases e1
  | false =>
    simp only [cond] at e
    have hlt : off < cs.size := (Array.getElem?_eq_some_iff.1 e).1
    have e2 : cs'[off]? = some (cs'[off]'(by omega)) := by simp [show off < cs'.size by omega]
    exact ⟨_, by simp [e2], hk off _ _ e e2⟩
theorem VR.asI {v v' : Value} {n : Int} (hv : VR ρ v v') (e : asI v = some n) : v' = v ∧ ∃ k, v = .int k n := by
  cases v <;> simp [Run.asI] at e
  subst e
  exact ⟨hv.eq_of_flat rfl, _, rfl⟩
theorem natOf_ok {x : Int} {n : Nat} (e : natOf x = some n) : x = (n : Int) := by
  cases x with
  | ofNat m => simp only [natOf] at e; cases e; rfl
  | negSucc m => simp [natOf] at e
/-- Pointers that are alike. -/
theorem VR.ptrInv {b o : Nat} {v' : Value} (hv : VR ρ (.pointer (some ⟨b, o, none⟩)) v') : ∃ j, ρ b = some j ∧ v' = .pointer (some ⟨j, o, none⟩) := by
  cases hv with
  | fl hf => simp [flat] at hf
  | ptr k => exact ⟨_, k, rfl⟩
theorem VR.sliceInv {b o n c : Nat} {v' : Value} (hv : VR ρ (.slice (some ⟨b, o, none⟩) n c) v') :
    (∃ j c', ρ b = some j ∧ v' = .slice (some ⟨j, o, none⟩) n c' ∧ ((c' = c ∧ c < UNK) ∨ (c = UNK ∧ (o = 0 → c' ≤ ρ.k b))) ∧ n ≤ c') ∨ (0 < o ∧ n = 0 ∧ c = UNK ∧ ∃ ad c', v' = .slice (some ad) 0 c') := by
  cases hv with
  | fl hf => simp [flat] at hf
  | slice k k2 k3 => exact .inl ⟨_, _, k, rfl, k2, k3⟩
  | slice0 k => exact .inr ⟨k, rfl, rfl, _, _, rfl⟩
theorem VR.mapInv {b : Nat} {v' : Value} (hv : VR ρ (.map (some b)) v') : ∃ j, ρ b = some j ∧ v' = .map (some j) := by
  cases hv with
  | fl hf => simp [flat] at hf
  | map k => exact ⟨_, k, rfl⟩
theorem addr_add (j o n : Nat) : (⟨j, o, none⟩ : Addr).add n = ⟨j, o + n, none⟩ := by
  unfold Addr.add; by_cases h : n = 0 <;> simp [h]
theorem fieldAddrB_ok {s : TypeId} {x x' : Value} {f : Nat} {v : Value} (hx : VR ρ x x') (e : fieldAddrB P s x f = some v) (w : World) : ∃ v', (Instr.fieldAt s x' f).run P w = .ok v' w ∧ VR ρ v v' := by
  unfold fieldAddrB at e
  split at e
  · rename_i fields b o hu
    simp only [Option.bind_eq_some_iff] at e
    obtain ⟨fd, h1, z, h2, e⟩ := e
    cases hz : Nat.beq z 0 with
    | true => rw [hz] at e; cases e
    | false =>
      rw [hz] at e; cases e
      obtain ⟨j, k, rfl⟩ := hx.ptrInv
      have hz' := beq_false hz
      exact ⟨_, by simp [Instr.fieldAt, run_under hu, h1, Instr.sureAddr, fieldPlace, run_size h2, hz', addr_add], .ptr k⟩
  · cases e
theorem indexAddrB_ok {t : TypeId} {x x' i i' v : Value} (hx : VR ρ x x') (hi : VR ρ i i') (e : indexAddrB P t x i = some v) (w : World) : ∃ v', (Instr.indexAt t x' i').run P w = .ok v' w ∧ VR ρ v v' := by
  simp only [indexAddrB, Option.bind_eq_some_iff] at e
  obtain ⟨n, h1, m, h2, e⟩ := e
  obtain ⟨rfl, kk, rfl⟩ := hi.asI h1
  have hm := natOf_ok h2
  subst hm
  split at e
  · rename_i len elem b o hu
    cases hb : Nat.blt m len with
    | false => rw [hb] at e; cases e
    | true =>
      rw [hb] at e
      simp only [cond, Option.map_eq_some_iff] at e
      obtain ⟨s, h3, rfl⟩ := e
      obtain ⟨j, k, rfl⟩ := hx.ptrInv
      have hlt := blt_true hb
      exact ⟨_, by simp [Instr.indexAt, asIntOf, run_under hu, Instr.sureAddr, run_size h3, hlt, addr_add], .ptr k⟩
  · rename_i elem b o len c hu
    cases hb : Nat.blt m len with
    | false => rw [hb] at e; cases e
    | true =>
      rw [hb] at e
      simp only [cond, Option.map_eq_some_iff] at e
      obtain ⟨s, h3, rfl⟩ := e
      have hlt := blt_true hb
      rcases hx.sliceInv with ⟨j, c', k, rfl, _, _⟩ | ⟨_, h0, _⟩
      · exact ⟨_, by simp [Instr.indexAt, asIntOf, run_under hu, Instr.sureAddr, run_size h3, hlt, addr_add], .ptr k⟩
      · omega
  · cases e
theorem fieldB_ok {t : TypeId} {x x' : Value} {f : Nat} {v : Value} (hx : VR ρ x x') (e : fieldB P t x f = some v) (w : World) : ∃ v', (Instr.field t x' f).run P w = .ok v' w ∧ VR ρ v v' := by
  unfold fieldB at e
  split at e
  · rename_i fields cs hu
    simp only [Option.bind_eq_some_iff] at e
    obtain ⟨fd, h1, e⟩ := e
    have key : ∀ cs' : Array Value, x' = .agg cs' → cs.size = cs'.size → (∀ (i : Nat) (v v' : Value), cs[i]? = some v → cs'[i]? = some v' → VR ρ v v') → ∃ v', (Instr.field t x' f).run P w = .ok v' w ∧ VR ρ v v' := by
      rintro cs' rfl k1 k2
      obtain ⟨v', h2, h3⟩ := partB_ok k1 k2 e w
      exact ⟨v', by simp [Instr.field, run_under hu, h1, asAgg, h2], h3⟩
    cases hx with
    | fl hf =>
      refine key cs rfl rfl (fun i v v' e1 e2 => ?_)
      rw [e1] at e2; cases e2
      simp only [flat] at hf
      exact .fl (flat1_flat (List.all_eq_true.1 hf _ (by have := Array.mem_of_getElem? e1; simpa using this)))
    | agg k1 k2 => exact key _ rfl k1 k2
  · cases e
theorem indexB_ok {t : TypeId} {x x' i i' v : Value} (hx : VR ρ x x') (hi : VR ρ i i') (e : indexB P t x i = some v) (w : World) : ∃ v', (Instr.index t x' i').run P w = .ok v' w ∧ VR ρ v v' := by
  unfold indexB at e
  split at e
  · rename_i cs
    simp only [Option.bind_eq_some_iff] at e
    obtain ⟨n, h1, m, h2, e⟩ := e
    obtain ⟨rfl, kk, rfl⟩ := hi.asI h1
    have hm := natOf_ok h2
    subst hm
    split at e
    · rename_i len elem hu
      cases hb : Nat.blt m len with
      | false => rw [hb] at e; cases e
      | true =>
        rw [hb] at e
        simp only [cond, Option.bind_eq_some_iff] at e
        obtain ⟨s, h3, e⟩ := e
        have hlt := blt_true hb
        have key : ∀ cs' : Array Value, x' = .agg cs' → cs.size = cs'.size → (∀ (i : Nat) (v v' : Value), cs[i]? = some v → cs'[i]? = some v' → VR ρ v v') → ∃ v', (Instr.index t x' (.int kk m)).run P w = .ok v' w ∧ VR ρ v v' := by
          rintro cs' rfl k1 k2
          obtain ⟨v', h4, h5⟩ := partB_ok k1 k2 e w
          exact ⟨v', by simp [Instr.index, asIntOf, run_under hu, hlt, run_size h3, h4], h5⟩
        cases hx with
        | fl hf =>
          refine key cs rfl rfl (fun i v v' e1 e2 => ?_)
          rw [e1] at e2; cases e2
          simp only [flat] at hf
          exact .fl (flat1_flat (List.all_eq_true.1 hf _ (by have := Array.mem_of_getElem? e1; simpa using this)))
        | agg k1 k2 => exact key _ rfl k1 k2
    · cases e
  · rename_i s
    cases hf : flat i with
    | false => rw [hf] at e; cases e
    | true =>
      rw [hf] at e
      obtain rfl := hx.eq_of_flat rfl
      obtain rfl := hi.eq_of_flat hf
      obtain ⟨h1, h2⟩ := pureV_ok e w
      exact ⟨v, h1, .fl h2⟩
  · cases e
end
end Go.Proofs.YtkmfihpmjnfbfaaGreatDoor.Run
