/-
  Walks and plain laws, joined of 12 texts.
-/
import Derived.Test.YtcmildkkigccaaaGreatDoorRel
import Derived.Laws.Cells
import Derived.Laws.CopyRow
import Derived.RangeFuncRecord
import Derived.Laws.BytesString
import Derived.Lib.UnsafeStr
/-
  Operands; operations that look at no block.
-/
namespace Go.Proofs.YtcmildkkigccaaaGreatDoor.Run
open Go
set_option linter.unusedVariables false
set_option linter.unusedSimpArgs false
theorem pureRun_ok {α : Type} {P : Program} : ∀ {s : Sem α} {r : α}, pureRun P s = some r → ∀ w, s.run P w = .ok r w := by
  intro s
  induction s with
  | pure a => intro r h w; simp only [pureRun] at h; cases h; rfl
  | program k ih => intro r h w; simp only [pureRun] at h; exact ih P h w
  | mark m k ih => intro r h w; simp only [pureRun] at h; exact ih h w
  | _ => intro r h w; simp [pureRun] at h
theorem pureV_ok {P : Program} {s : Sem Value} {v : Value} (h : pureV P s = some v) (w : World) : s.run P w = .ok v w ∧ flat v = true := by
  simp only [pureV, Option.bind_eq_some_iff] at h
  obtain ⟨u, h1, h2⟩ := h
  cases hf : flat u with
  | false => rw [hf] at h2; cases h2
  | true => rw [hf] at h2; cases h2; exact ⟨pureRun_ok h1 w, hf⟩
def GlOk (ρ : Rn) (gl : Gl) : Prop := ∀ g b, gl g = some b → ρ b = some g
theorem GlOk.mono {ρ ρ' : Rn} (hs : Sub ρ ρ') {gl : Gl} (h : GlOk ρ gl) : GlOk ρ' gl := fun g b e => (hs _ _ (h g b e)).1
section
variable {P : Program} {ρ : Rn} {gl : Gl} {sz : Nat} {tm : Tr Value} {a : Act} {h : AH} {w : World}
theorem opnd_ok (hg : GlOk ρ gl) (ht : TR ρ sz tm a.tmps) {x : Operand} {v : Value} (e : opnd gl tm x = some v) : VR ρ v (a.eval x) := by
  cases x with
  | tmp t => simp only [opnd] at e; cases e; exact ht.2 t
  | const u =>
    simp only [opnd] at e
    cases hf : flat u with
    | false => rw [hf] at e; cases e
    | true => rw [hf] at e; cases e; exact .fl hf
  | global g =>
    simp only [opnd] at e
    cases hb : gl g with
    | none => rw [hb] at e; cases e
    | some b => rw [hb] at e; cases e; exact .ptr (hg g b hb)
  | func f => simp only [opnd] at e; cases e; exact .fn rfl (by simp) rfl (by simp)
theorem opnds_ok (hg : GlOk ρ gl) (ht : TR ρ sz tm a.tmps) : ∀ {l : List Operand} {vs : List Value}, opnds gl tm l = some vs → L2 ρ vs (l.map a.eval)
  | [], vs, e => by simp only [opnds] at e; cases e; exact .nil
  | x :: l, vs, e => by
    simp only [opnds, Option.bind_eq_some_iff, Option.map_eq_some_iff] at e
    obtain ⟨v, h1, vs', h2, rfl⟩ := e
    exact .cons (opnd_ok hg ht h1) (opnds_ok hg ht h2)
inductive P2 (ρ : Rn) : List (Nat × Value) → List (Nat × Value) → Prop
  | nil : P2 ρ [] []
  | cons {i : Nat} {v v' : Value} {l l' : List (Nat × Value)} : VR ρ v v' → P2 ρ l l' → P2 ρ ((i, v) :: l) ((i, v') :: l')
theorem parts_ok (hg : GlOk ρ gl) (ht : TR ρ sz tm a.tmps) : ∀ {l : List (Nat × Operand)} {vs : List (Nat × Value)}, parts gl tm l = some vs → P2 ρ vs (l.map fun (i, x) => (i, a.eval x))
  | [], vs, e => by simp only [parts] at e; cases e; exact .nil
  | (i, x) :: l, vs, e => by
    simp only [parts, Option.bind_eq_some_iff, Option.map_eq_some_iff] at e
    obtain ⟨v, h1, vs', h2, rfl⟩ := e
    exact .cons (opnd_ok hg ht h1) (parts_ok hg ht h2)
theorem getD_set (ts : Array Value) (d t : Nat) (v : Value) (hd : d < ts.size) : (ts.setIfInBounds d v).getD t undef = if t = d then v else ts.getD t undef := by
  by_cases h : t = d
  · subst h; rw [if_pos rfl]; simp [Array.getD, hd]
  · rw [if_neg h]
    simp only [Array.getD_eq_getD_getElem?, Array.getElem?_setIfInBounds_ne (fun e => h e.symm)]
theorem putB_ok (ht : TR ρ sz tm a.tmps) {dst : Option Tmp} {v v' : Value} {tm' : Tr Value} (hv : VR ρ v v') (e : putB sz tm dst v = some tm') : TR ρ sz tm' (a.put dst v').tmps := by
  cases dst with
  | none => simp only [putB] at e; cases e; exact ht
  | some d =>
    simp only [putB] at e
    cases hd : Nat.blt d sz with
    | false => rw [hd] at e; cases e
    | true =>
      rw [hd] at e; cases e
      have hd' : d < a.tmps.size := by rw [ht.1]; exact blt_true hd
      refine ⟨by simp [Act.put, ht.1], fun t => ?_⟩
      show VR ρ (((tm.put d v).get t).getD undef) ((a.tmps.setIfInBounds d v').getD t undef)
      rw [Tr.get_put, getD_set _ _ _ _ hd']
      by_cases h : t = d
      · rw [if_pos h, if_pos h]; exact hv
      · rw [if_neg h, if_neg h]; exact ht.2 t
theorem put_defers (a : Act) (dst : Option Tmp) (v : Value) : (a.put dst v).defers = a.defers := by cases dst <;> rfl
def DR (ρ : Rn) : Df → Deferred → Prop
  | .call f args, d => ∃ cap args', d = ⟨.fn (.func f) cap, args'⟩ ∧ L2 ρ args (args' ++ cap).toList
  | .mark r, d => ∃ r', ρ r = some r' ∧ d = ⟨.collected r', #[]⟩
def OpOk (P : Program) (ρ : Rn) (h : AH) (w : World) (r : Result Next) : Nx → Prop
  | .val v h' => ∃ ρ' v' w', (r = .ok (.value v') w' ∨ (v' = undef ∧ r = .ok .skip w')) ∧ VR ρ' v v' ∧ Rel P ρ' h' w' ∧ Fw ρ h w ρ' h' w'
  | .call f args => ∃ args', r = (callFunc f args').run P w ∧ L2 ρ args args'.toList
  | .round l args => ∃ l' args', ρ l = some l' ∧ r = (Instr.yield l' args').run P w ∧ L2 ρ args args'.toList
  | .defer f args => ∃ d, r = .ok (.defer d) w ∧ DR ρ (.call f args) d
theorem OpOk.val0 (hr : Rel P ρ h w) {r : Result Next} {v v' : Value} (e : r = .ok (.value v') w) (hv : VR ρ v v') : OpOk P ρ h w r (.val v h) :=
  ⟨ρ, v', w, .inl e, hv, hr, Fw.refl ρ h w⟩
/-- A plain operation: Sem a, no block named. -/
theorem OpOk.sem (hr : Rel P ρ h w) {s : Sem Value} {v v' : Value} (e : s.run P w = .ok v' w) (hv : VR ρ v v') : OpOk P ρ h w ((do pure (Next.value (← s)) : Sem Next).run P w) (.val v h) :=
  OpOk.val0 hr (by rw [Sem.run_bind, e]; rfl) hv
theorem info_typeInfo {t : TypeId} {i : TypeInfo} (hi : P.info? t = some i) (w : World) : (typeInfo t).run P w = .ok i w := by simp [typeInfo, program, Sem.run, hi]
theorem run_size {t : TypeId} {s : Nat} (e : sizeB P t = some s) (w : World) : (sizeOf t).run P w = .ok s w := by
  simp only [sizeB, Option.map_eq_some_iff] at e
  obtain ⟨i, h1, rfl⟩ := e
  simp [sizeOf, info_typeInfo h1]
theorem run_under {t : TypeId} {d : TypeDesc} (e : P.underlying t = some d) (w : World) : (underlying t).run P w = .ok d w := by simp [underlying, program, Sem.run, e]
theorem run_agg {t : TypeId} {b : Bool} (e : isAggB P t = some b) (w : World) : (isAgg t).run P w = .ok b w := by
  unfold isAggB at e
  cases hu : P.underlying t with
  | none => rw [hu] at e; cases e
  | some d =>
    rw [hu] at e
    simp only [isAgg, Sem.run_bind, run_under hu, Result.andThen_ok]
    cases d <;> simp_all
theorem zeroB_flat {t : TypeId} {z : Value} (e : zeroB P t = some z) : flat z = true ∧ ∃ i, P.info? t = some i ∧ i.zero = some z := by
  simp only [zeroB, Option.bind_eq_some_iff] at e
  obtain ⟨i, h1, z', h2, e⟩ := e
  cases hf : flat z' with
  | false => rw [hf] at e; cases e
  | true => rw [hf] at e; cases e; exact ⟨hf, i, h1, h2⟩
theorem run_zero {t : TypeId} {z : Value} (e : zeroB P t = some z) (w : World) : (zeroValue t).run P w = .ok z w := by
  obtain ⟨_, i, h1, h2⟩ := zeroB_flat e
  simp [zeroValue, info_typeInfo h1, h2]
theorem cl_eq (v : Value) : Value.cl v = v.cells.toList := by cases v <;> rfl
theorem VR.cells {v v' : Value} (hv : VR ρ v v') : L2 ρ v.cells.toList v'.cells.toList := by
  have h1 : ∀ u u' : Value, VR ρ u u' → L2 ρ [u] [u'] := fun u u' k => .cons k .nil
  cases hv with
  | @fl v hf =>
    cases v <;> first
      | exact h1 _ _ (.fl hf)
      | skip
    rename_i cs
    simp only [flat] at hf
    have h2 : ∀ l : List Value, l.all flat1 = true → L2 ρ l l := by
      intro l
      induction l with
      | nil => intro _; exact .nil
      | cons x l ih => intro hl; simp only [List.all_cons, Bool.and_eq_true] at hl; exact .cons (.fl (flat1_flat hl.1)) (ih hl.2)
    exact h2 _ hf
  | gs => exact h1 _ _ .gs
  | agg k1 k2 => exact L2.ofArr k1 k2
  | ptr k => exact h1 _ _ (.ptr k)
  | slice k k2 k3 => exact h1 _ _ (.slice k k2 k3)
  | slice0 k => exact h1 _ _ (.slice0 k)
  | map k => exact h1 _ _ (.map k)
  | fn k1 k2 k3 k4 => exact h1 _ _ (.fn k1 k2 k3 k4)
  | yield k => exact h1 _ _ (.yield k)
  | iface k => exact h1 _ _ (.iface k)
  | tuple k1 k2 => exact h1 _ _ (.tuple k1 k2)
/-- Taking a part of an aggregate. -/
theorem partB_ok {t : TypeId} {cs cs' : Array Value} {off : Nat} {v : Value} (hc : cs.size = cs'.size) (hk : ∀ (i : Nat) (v v' : Value), cs[i]? = some v → cs'[i]? = some v' → VR ρ v v')
    (e : partB P t cs off = some v) (w : World) : ∃ v', (part t cs' off).run P w = .ok v' w ∧ VR ρ v v' := by
  simp only [partB, Option.bind_eq_some_iff] at e
  obtain ⟨g, h1, e⟩ := e
  simp only [part, Sem.run_bind, run_agg h1, Result.andThen_ok]
  cases g with
  | true =>
    simp only [cond, Option.map_eq_some_iff] at e
    obtain ⟨s, h2, rfl⟩ := e
    refine ⟨.agg (cs'.extract off (off + s)), by simp [run_size h2], .agg (by simp [hc]) (fun i v v' e1 e2 => ?_)⟩
    rw [Array.getElem?_extract] at e1 e2
    split at e1
    · rename_i hi
      rw [if_pos (by rw [← hc]; exact hi)] at e2
      exact hk _ _ _ e1 e2
    · cases e1
  | false =>
    simp only [cond] at e
    have hlt : off < cs.size := (Array.getElem?_eq_some_iff.1 e).1
    have e2 : cs'[off]? = some (cs'[off]'(by omega)) := by simp [show off < cs'.size by omega]
    exact ⟨_, by simp [e2], hk off _ _ e e2⟩
theorem VR.asI {v v' : Value} {n : Int} (hv : VR ρ v v') (e : asI v = some n) : v' = v ∧ ∃ k, v = .int k n := by
  cases v <;> simp [Run.asI] at e
  subst e
  exact ⟨hv.eq_of_flat rfl, _, rfl⟩
theorem natOf_ok {x : Int} {n : Nat} (e : natOf x = some n) : x = (n : Int) := by
  cases x with
  | ofNat m => simp only [natOf] at e; cases e; rfl
  | negSucc m => simp [natOf] at e
/-- Pointers that are alike. -/
theorem VR.ptrInv {b o : Nat} {v' : Value} (hv : VR ρ (.pointer (some ⟨b, o, none⟩)) v') : ∃ j, ρ b = some j ∧ v' = .pointer (some ⟨j, o, none⟩) := by
  cases hv with
  | fl hf => simp [flat] at hf
  | ptr k => exact ⟨_, k, rfl⟩
theorem VR.sliceInv {b o n c : Nat} {v' : Value} (hv : VR ρ (.slice (some ⟨b, o, none⟩) n c) v') :
    (∃ j c', ρ b = some j ∧ v' = .slice (some ⟨j, o, none⟩) n c' ∧ ((c' = c ∧ c < UNK) ∨ (c = UNK ∧ (o = 0 → c' ≤ ρ.k b))) ∧ n ≤ c') ∨ (0 < o ∧ n = 0 ∧ c = UNK ∧ ∃ ad c', v' = .slice (some ad) 0 c') := by
  cases hv with
  | fl hf => simp [flat] at hf
  | slice k k2 k3 => exact .inl ⟨_, _, k, rfl, k2, k3⟩
  | slice0 k => exact .inr ⟨k, rfl, rfl, _, _, rfl⟩
theorem VR.mapInv {b : Nat} {v' : Value} (hv : VR ρ (.map (some b)) v') : ∃ j, ρ b = some j ∧ v' = .map (some j) := by
  cases hv with
  | fl hf => simp [flat] at hf
  | map k => exact ⟨_, k, rfl⟩
theorem addr_add (j o n : Nat) : (⟨j, o, none⟩ : Addr).add n = ⟨j, o + n, none⟩ := by
  unfold Addr.add; by_cases h : n = 0 <;> simp [h]
theorem fieldAddrB_ok {s : TypeId} {x x' : Value} {f : Nat} {v : Value} (hx : VR ρ x x') (e : fieldAddrB P s x f = some v) (w : World) : ∃ v', (Instr.fieldAt s x' f).run P w = .ok v' w ∧ VR ρ v v' := by
  unfold fieldAddrB at e
  split at e
  · rename_i fields b o hu
    simp only [Option.bind_eq_some_iff] at e
    obtain ⟨fd, h1, z, h2, e⟩ := e
    cases hz : Nat.beq z 0 with
    | true => rw [hz] at e; cases e
    | false =>
      rw [hz] at e; cases e
      obtain ⟨j, k, rfl⟩ := hx.ptrInv
      have hz' := beq_false hz
      exact ⟨_, by simp [Instr.fieldAt, run_under hu, h1, Instr.sureAddr, fieldPlace, run_size h2, hz', addr_add], .ptr k⟩
  · cases e
theorem indexAddrB_ok {t : TypeId} {x x' i i' v : Value} (hx : VR ρ x x') (hi : VR ρ i i') (e : indexAddrB P t x i = some v) (w : World) : ∃ v', (Instr.indexAt t x' i').run P w = .ok v' w ∧ VR ρ v v' := by
  simp only [indexAddrB, Option.bind_eq_some_iff] at e
  obtain ⟨n, h1, m, h2, e⟩ := e
  obtain ⟨rfl, kk, rfl⟩ := hi.asI h1
  have hm := natOf_ok h2
  subst hm
  split at e
  · rename_i len elem b o hu
    cases hb : Nat.blt m len with
    | false => rw [hb] at e; cases e
    | true =>
      rw [hb] at e
      simp only [cond, Option.map_eq_some_iff] at e
      obtain ⟨s, h3, rfl⟩ := e
      obtain ⟨j, k, rfl⟩ := hx.ptrInv
      have hlt := blt_true hb
      exact ⟨_, by simp [Instr.indexAt, asIntOf, run_under hu, Instr.sureAddr, run_size h3, hlt, addr_add], .ptr k⟩
  · rename_i elem b o len c hu
    cases hb : Nat.blt m len with
    | false => rw [hb] at e; cases e
    | true =>
      rw [hb] at e
      simp only [cond, Option.map_eq_some_iff] at e
      obtain ⟨s, h3, rfl⟩ := e
      have hlt := blt_true hb
      rcases hx.sliceInv with ⟨j, c', k, rfl, _, _⟩ | ⟨_, h0, _⟩
      · exact ⟨_, by simp [Instr.indexAt, asIntOf, run_under hu, Instr.sureAddr, run_size h3, hlt, addr_add], .ptr k⟩
      · omega
  · cases e
theorem fieldB_ok {t : TypeId} {x x' : Value} {f : Nat} {v : Value} (hx : VR ρ x x') (e : fieldB P t x f = some v) (w : World) : ∃ v', (Instr.field t x' f).run P w = .ok v' w ∧ VR ρ v v' := by
  unfold fieldB at e
  split at e
  · rename_i fields cs hu
    simp only [Option.bind_eq_some_iff] at e
    obtain ⟨fd, h1, e⟩ := e
    have key : ∀ cs' : Array Value, x' = .agg cs' → cs.size = cs'.size → (∀ (i : Nat) (v v' : Value), cs[i]? = some v → cs'[i]? = some v' → VR ρ v v') → ∃ v', (Instr.field t x' f).run P w = .ok v' w ∧ VR ρ v v' := by
      rintro cs' rfl k1 k2
      obtain ⟨v', h2, h3⟩ := partB_ok k1 k2 e w
      exact ⟨v', by simp [Instr.field, run_under hu, h1, asAgg, h2], h3⟩
    cases hx with
    | fl hf =>
      refine key cs rfl rfl (fun i v v' e1 e2 => ?_)
      rw [e1] at e2; cases e2
      simp only [flat] at hf
      exact .fl (flat1_flat (List.all_eq_true.1 hf _ (by have := Array.mem_of_getElem? e1; simpa using this)))
    | agg k1 k2 => exact key _ rfl k1 k2
  · cases e
theorem indexB_ok {t : TypeId} {x x' i i' v : Value} (hx : VR ρ x x') (hi : VR ρ i i') (e : indexB P t x i = some v) (w : World) : ∃ v', (Instr.index t x' i').run P w = .ok v' w ∧ VR ρ v v' := by
  unfold indexB at e
  split at e
  · rename_i cs
    simp only [Option.bind_eq_some_iff] at e
    obtain ⟨n, h1, m, h2, e⟩ := e
    obtain ⟨rfl, kk, rfl⟩ := hi.asI h1
    have hm := natOf_ok h2
    subst hm
    split at e
    · rename_i len elem hu
      cases hb : Nat.blt m len with
      | false => rw [hb] at e; cases e
      | true =>
        rw [hb] at e
        simp only [cond, Option.bind_eq_some_iff] at e
        obtain ⟨s, h3, e⟩ := e
        have hlt := blt_true hb
        have key : ∀ cs' : Array Value, x' = .agg cs' → cs.size = cs'.size → (∀ (i : Nat) (v v' : Value), cs[i]? = some v → cs'[i]? = some v' → VR ρ v v') → ∃ v', (Instr.index t x' (.int kk m)).run P w = .ok v' w ∧ VR ρ v v' := by
          rintro cs' rfl k1 k2
          obtain ⟨v', h4, h5⟩ := partB_ok k1 k2 e w
          exact ⟨v', by simp [Instr.index, asIntOf, run_under hu, hlt, run_size h3, h4], h5⟩
        cases hx with
        | fl hf =>
          refine key cs rfl rfl (fun i v v' e1 e2 => ?_)
          rw [e1] at e2; cases e2
          simp only [flat] at hf
          exact .fl (flat1_flat (List.all_eq_true.1 hf _ (by have := Array.mem_of_getElem? e1; simpa using this)))
        | agg k1 k2 => exact key _ rfl k1 k2
    · cases e
  · rename_i s
    cases hf : flat i with
    | false => rw [hf] at e; cases e
    | true =>
      rw [hf] at e
      obtain rfl := hx.eq_of_flat rfl
      obtain rfl := hi.eq_of_flat hf
      obtain ⟨h1, h2⟩ := pureV_ok e w
      exact ⟨v, h1, .fl h2⟩
  · cases e
end
end Go.Proofs.YtcmildkkigccaaaGreatDoor.Run

/-
  More operations that look at no block: slices, comparisons, structs.
-/
namespace Go.Proofs.YtcmildkkigccaaaGreatDoor.Run
open Go
set_option linter.unusedVariables false
set_option linter.unusedSimpArgs false
section
variable {P : Program} {ρ : Rn} {gl : Gl} {sz : Nat} {tm : Tr Value} {a : Act} {h : AH} {w : World}
def OV (ρ : Rn) : Option Value → Option Value → Prop
  | none, none => True
  | some v, some v' => VR ρ v v'
  | _, _ => False
theorem OV.flat {x x' : Option Value} (hx : OV ρ x x') (e : optF x = true) : x' = x := by
  cases x <;> cases x' <;> simp_all [OV, optF]
  exact hx.eq_of_flat e
theorem OV.int {x x' : Option Value} {n : Option Nat} (hx : OV ρ x x') (e : optI x = some n) : x' = x := by
  cases x with
  | none => cases x' with
    | none => rfl
    | some v' => exact hx.elim
  | some v => cases x' with
    | none => exact hx.elim
    | some v' =>
      simp only [optI, Option.bind_eq_some_iff] at e
      obtain ⟨i, h1, _⟩ := e
      rw [(VR.asI hx h1).1]
theorem run_sliceBound {x : Value} {n : Int} {m y : Nat} (e : asI x = some n) (e2 : natOf n = some m) (hm : m ≤ y) (code : BoundsCode) (w : World) : (Instr.sliceBound x y code).run P w = .ok m w := by
  cases x <;> simp [asI] at e
  subst e
  have := natOf_ok e2
  subst this
  simp [Instr.sliceBound, asIntOf, hm]
theorem run_sliceBounds (isS : Bool) {len cap : Nat} {lo hi : Option Value} {l h : Option Nat} (e1 : optI lo = some l) (e2 : optI hi = some h) (h1 : l.getD 0 ≤ h.getD len) (h2 : h.getD len ≤ cap) (w : World) :
    (Instr.sliceBounds isS len cap lo hi none).run P w = .ok (l.getD 0, h.getD len, cap) w := by
  cases lo with
  | none =>
    simp only [optI] at e1; cases e1
    cases hi with
    | none => simp only [optI] at e2; cases e2; simp [Instr.sliceBounds]
    | some v =>
      simp only [optI, Option.bind_eq_some_iff, Option.map_eq_some_iff] at e2
      obtain ⟨i, k1, m, k2, rfl⟩ := e2
      simp [Instr.sliceBounds, run_sliceBound k1 k2 h2]
  | some u =>
    simp only [optI, Option.bind_eq_some_iff, Option.map_eq_some_iff] at e1
    obtain ⟨i, k1, m, k2, rfl⟩ := e1
    cases hi with
    | none => simp only [optI] at e2; cases e2; simp at h1; simp [Instr.sliceBounds, run_sliceBound k1 k2 h1]
    | some v =>
      simp only [optI, Option.bind_eq_some_iff, Option.map_eq_some_iff] at e2
      obtain ⟨i', k1', m', k2', rfl⟩ := e2
      simp at h1
      simp [Instr.sliceBounds, run_sliceBound k1' k2' h2, run_sliceBound k1 k2 h1]
theorem and3 {x y z : Bool} (h : (x && y && z) = true) : x = true ∧ y = true ∧ z = true := by cases x <;> cases y <;> cases z <;> simp_all
theorem sliceB_ok {t : TypeId} {x x' v : Value} {lo lo' hi hi' : Option Value} (hx : VR ρ x x') (hl : OV ρ lo lo') (hh : OV ρ hi hi') (e : sliceB P t x lo hi = some v) (w : World) :
    ∃ v', (Instr.sliceAt t x' lo' hi' none).run P w = .ok v' w ∧ VR ρ v v' := by
  unfold sliceB at e
  split at e
  · rename_i s
    cases hf : (optF lo && optF hi) with
    | false => rw [hf] at e; cases e
    | true =>
      rw [hf] at e
      simp only [Bool.and_eq_true] at hf
      obtain rfl := hx.eq_of_flat rfl
      obtain rfl := hl.flat hf.1
      obtain rfl := hh.flat hf.2
      have := pureV_ok e w
      exact ⟨v, this.1, .fl this.2⟩
  · rename_i n c
    cases hf : (optF lo && optF hi) with
    | false => rw [hf] at e; cases e
    | true =>
      rw [hf] at e
      simp only [Bool.and_eq_true] at hf
      obtain rfl := hx.eq_of_flat rfl
      obtain rfl := hl.flat hf.1
      obtain rfl := hh.flat hf.2
      have := pureV_ok e w
      exact ⟨v, this.1, .fl this.2⟩
  · rename_i b o n c
    split at e
    · rename_i elem hu
      simp only [Option.bind_eq_some_iff] at e
      obtain ⟨s, h1, l, h2, m, h3, e⟩ := e
      obtain rfl := hl.int h2
      obtain rfl := hh.int h3
      have hat : ∀ (ad : Option Addr) (n' c' : Nat), l.getD 0 ≤ m.getD n' → m.getD n' ≤ c' → (Instr.sliceAt t (.slice ad n' c') lo' hi' none).run P w = .ok (.slice (if c' = l.getD 0 then ad else ad.map (·.add (l.getD 0 * s))) (m.getD n' - l.getD 0) (c' - l.getD 0)) w := by
        intro ad n' c' k1 k2
        simp [Instr.sliceAt, run_under hu, Instr.slice, run_sliceBounds true h2 h3 k1 k2, run_size h1]
      cases hc : Nat.beq c UNK with
      | true =>
        rw [hc] at e
        simp only [cond] at e
        split at e
        · rename_i hb
          cases e
          have hcu := beq_true hc
          subst hcu
          obtain ⟨b1, b2, b3⟩ := and3 hb
          have b1 := ble_true b1; have b2 := ble_true b2
          rcases hx.sliceInv with ⟨j, c', k, rfl, k2, k3⟩ | ⟨k1, rfl, _, ad, c', rfl⟩
          · refine ⟨_, hat _ n c' b1 (by omega), ?_⟩
            simp only [Option.map_some, addr_add]
            by_cases hcl : c' = l.getD 0
            · rw [if_pos hcl]
              have hml : m.getD n - l.getD 0 = 0 := by omega
              rw [hml]
              by_cases hl0 : l.getD 0 = 0
              · rw [hl0, Nat.zero_mul, Nat.add_zero]
                exact .slice k (.inr ⟨rfl, fun k0 => by rcases k2 with k2 | k2 <;> omega⟩) (Nat.zero_le _)
              · have hs : 0 < o + l.getD 0 * s := by
                  simp only [Bool.or_eq_true] at b3
                  rcases b3 with (b3 | b3) | b3
                  · have := blt_true b3; omega
                  · have := beq_true b3; omega
                  · have := blt_true b3
                    have : 0 < l.getD 0 * s := Nat.mul_pos (by omega) this
                    omega
                exact .slice0 hs
            · rw [if_neg hcl]
              exact .slice k (.inr ⟨rfl, fun k0 => by rcases k2 with k2 | k2 <;> omega⟩) (by omega)
          · have e0 : m.getD 0 = 0 ∧ l.getD 0 = 0 := by omega
            refine ⟨_, hat (some ad) 0 c' b1 (by omega), ?_⟩
            rw [e0.1, e0.2, Nat.zero_mul, Nat.add_zero]
            by_cases hc0 : c' = 0
            · rw [if_pos hc0]; exact .slice0 k1
            · rw [if_neg hc0]; exact .slice0 k1
        · cases e
      | false =>
        rw [hc] at e
        simp only [cond] at e
        have hcn := beq_false hc
        split at e
        · rename_i hb
          cases e
          simp only [Bool.and_eq_true] at hb
          have b1 := ble_true hb.1; have b2 := ble_true hb.2
          rcases hx.sliceInv with ⟨j, c', k, rfl, k2, k3⟩ | ⟨_, _, k, _⟩
          · rcases k2 with ⟨rfl, k2⟩ | k2
            · refine ⟨_, hat _ n c' b1 b2, ?_⟩
              simp only [Option.map_some, addr_add]
              cases hq : Nat.beq c' (l.getD 0) with
              | true =>
                have hq' := beq_true hq
                rw [if_pos hq']
                exact .slice k (.inl ⟨rfl, by omega⟩) (by omega)
              | false =>
                have hq' := beq_false hq
                rw [if_neg hq']
                exact .slice k (.inl ⟨rfl, by omega⟩) (by omega)
            · exact absurd k2.1 hcn
          · exact absurd k hcn
        · cases e
    · cases e
  · rename_i b o
    split at e
    · rename_i n elem hu
      simp only [Option.bind_eq_some_iff] at e
      obtain ⟨s, h1, l, h2, m, h3, e⟩ := e
      obtain rfl := hl.int h2
      obtain rfl := hh.int h3
      obtain ⟨j, k, rfl⟩ := hx.ptrInv
      cases hb : ((l.getD 0).ble (m.getD n) && (m.getD n).ble n && n.blt UNK) with
      | false => rw [hb] at e; cases e
      | true =>
        rw [hb] at e
        cases e
        obtain ⟨b1, b2, b3⟩ := and3 hb
        have b1 := ble_true b1; have b2 := ble_true b2; have b3 := blt_true b3
        refine ⟨_, by simp [Instr.sliceAt, run_under hu, Instr.sureAddr, run_sliceBounds false h2 h3 b1 b2, run_size h1]; rfl, ?_⟩
        have h0 : ∀ oo, VR ρ (.slice (some ⟨b, oo, none⟩) (m.getD n - l.getD 0) (n - l.getD 0)) (.slice (some ⟨j, oo, none⟩) (m.getD n - l.getD 0) (n - l.getD 0)) := fun oo => by
          exact .slice k (.inl ⟨rfl, by omega⟩) (by omega)
        cases hq : Nat.beq n (l.getD 0) with
        | true => rw [if_pos (beq_true hq)]; exact h0 o
        | false => rw [if_neg (beq_false hq), addr_add]; exact h0 _
    · cases e
  · cases e
end
end Go.Proofs.YtcmildkkigccaaaGreatDoor.Run

/-
  Operations that read and write rows of cells.
-/
namespace Go.Proofs.YtcmildkkigccaaaGreatDoor.Run
open Go
set_option linter.unusedVariables false
set_option linter.unusedSimpArgs false
section
variable {P : Program} {ρ : Rn} {gl : Gl} {sz : Nat} {tm : Tr Value} {a : Act} {h : AH} {w : World}
theorem Rel.cellsAt (hr : Rel P ρ h w) {b j n : Nat} {e : TypeId} {c : Tr Value} {ro : Bool} (hb : ρ b = some j) (hg : h.get b = some (.cells e n c ro)) :
    ∃ cs lo hi, w.heap[j]? = some (.cells cs e (lo, hi)) ∧ n ≤ cs.size ∧ (∀ i, i < n → ∃ v v', c.get i = some v ∧ cs[i]? = some v' ∧ VR ρ v v') ∧ (ro = false → ∀ i, i < cs.size → ¬ (lo ≤ i ∧ i < hi)) ∧ ρ.k b * P.cellsOf e ≤ cs.size := by
  obtain ⟨x, h1, h2⟩ := hr.obj b j _ hb hg trivial
  cases h2 with
  | cells k0 k1 k2 k3 => exact ⟨_, _, _, h1, k1, k2, k3, k0⟩
theorem rdCells_ok {c : Tr Value} {cs : Array Value} {n : Nat} (hc : ∀ i, i < n → ∃ v v', c.get i = some v ∧ cs[i]? = some v' ∧ VR ρ v v') :
    ∀ (k o : Nat) (l : List Value), rdCells c o k = some l → o + k ≤ n → L2 ρ l ((cs.toList.drop o).take k) ∧ l.length = k
  | 0, o, l, e, _ => by simp only [rdCells] at e; cases e; exact ⟨by simpa using L2.nil, rfl⟩
  | k + 1, o, l, e, hk => by
    simp only [rdCells, Option.bind_eq_some_iff, Option.map_eq_some_iff] at e
    obtain ⟨v, h1, l', h2, rfl⟩ := e
    obtain ⟨u, u', e1, e2, e3⟩ := hc o (by omega)
    rw [e1] at h1; cases h1
    have IH := rdCells_ok hc k (o + 1) l' h2 (by omega)
    have hlt : o < cs.toList.length := by simpa using (Array.getElem?_eq_some_iff.1 e2).1
    have e4 : cs.toList.drop o = u' :: cs.toList.drop (o + 1) := by
      rw [List.drop_eq_getElem_cons hlt]
      congr 1
      have := (Array.getElem?_eq_some_iff.1 e2).2
      simpa using this
    rw [e4]
    exact ⟨.cons e3 IH.1, by simp [IH.2]⟩
theorem cell_of {j o : Nat} {cs : Array Value} {e : TypeId} {f : Nat × Nat} (hj : w.heap[j]? = some (.cells cs e f)) (i : Nat) : w.cell? ⟨j, i, none⟩ = cs[i]? := by simp [World.cell?, hj]
theorem run_rd {j o k : Nat} {cs : Array Value} {e : TypeId} {f : Nat × Nat} (hj : w.heap[j]? = some (.cells cs e f)) (hk : o + k ≤ cs.size) :
    (loadCells ⟨j, o, none⟩ k).run P w = .ok ((cs.toList.drop o).take k).toArray w := by
  have hl : ((cs.toList.drop o).take k).length = k := by simp; omega
  have := run_loadCells_list (P := P) w ⟨j, o, none⟩ ((cs.toList.drop o).take k) (fun i v e => by
    rw [addr_add, cell_of (o := o) hj]
    rw [List.getElem?_take] at e
    split at e
    · rw [List.getElem?_drop] at e; simpa using e
    · cases e)
  rw [hl] at this
  exact this
theorem loadB_ok (hr : Rel P ρ h w) {t : TypeId} {ad ad' v : Value} (ha : VR ρ ad ad') (e : loadB P h t ad = some v) : ∃ v', (Instr.loadAt t ad').run P w = .ok v' w ∧ VR ρ v v' := by
  unfold loadB at e
  split at e
  · rename_i b o
    split at e
    · rename_i el n c ro hg
      simp only [Option.bind_eq_some_iff] at e
      obtain ⟨g, h1, s, h2, e⟩ := e
      obtain ⟨j, k, rfl⟩ := ha.ptrInv
      obtain ⟨cs, lo, hi, k1, k2, k3, k4, k5⟩ := hr.cellsAt k hg
      cases g with
      | true =>
        simp only [cond] at e
        split at e
        · rename_i hb
          simp only [Option.map_eq_some_iff] at e
          obtain ⟨l, h3, rfl⟩ := e
          have hb := ble_true hb
          obtain ⟨q1, q2⟩ := rdCells_ok k3 s o l h3 hb
          refine ⟨.agg ((cs.toList.drop o).take s).toArray, ?_, VR.agg_list q1⟩
          simp [Instr.loadAt, Instr.sureAddr, loadVar, run_agg h1, run_size h2, run_rd k1 (show o + s ≤ cs.size by omega)]
        · cases e
      | false =>
        simp only [cond] at e
        split at e
        · rename_i hb
          have hb := blt_true hb
          obtain ⟨u, u', e1, e2, e3⟩ := k3 o hb
          rw [e1] at e; cases e
          refine ⟨u', ?_, e3⟩
          simp [Instr.loadAt, Instr.sureAddr, loadVar, run_agg h1, cell_of (o := o) k1, e2]
        · cases e
    · cases e
  · cases e
def wrA : Array Value → Nat → List Value → Array Value
  | cur, _, [] => cur
  | cur, o, v :: l => wrA (cur.setIfInBounds o v) (o + 1) l
theorem wrA_size : ∀ (l : List Value) (cur : Array Value) (o : Nat), (wrA cur o l).size = cur.size
  | [], _, _ => rfl
  | v :: l, cur, o => by rw [wrA, wrA_size l]; simp
theorem wrA_get : ∀ (l : List Value) (cur : Array Value) (o i : Nat), o + l.length ≤ cur.size → (wrA cur o l)[i]? = if o ≤ i ∧ i < o + l.length then l[i - o]? else cur[i]?
  | [], cur, o, i, _ => by rw [if_neg (by simp)]; rfl
  | v :: l, cur, o, i, hl => by
    simp only [List.length_cons] at hl
    rw [wrA, wrA_get l _ (o + 1) i (by simp; omega)]
    by_cases e : i = o
    · subst e
      rw [if_neg (by omega), if_pos (by simp)]
      simp [show i < cur.size by omega]
    · by_cases e2 : o ≤ i ∧ i < o + (v :: l).length
      · have e3 : o + 1 ≤ i ∧ i < o + 1 + l.length := by simp at e2; omega
        rw [if_pos e3, if_pos e2]
        obtain ⟨m, rfl⟩ : ∃ m, i = o + 1 + m := ⟨i - o - 1, by omega⟩
        rw [show o + 1 + m - (o + 1) = m by omega, show o + 1 + m - o = m + 1 by omega]
        rfl
      · have e3 : ¬ (o + 1 ≤ i ∧ i < o + 1 + l.length) := by simp at e2 ⊢; omega
        rw [if_neg e3, if_neg e2, Array.getElem?_setIfInBounds_ne (fun k => e k.symm)]
theorem wrCells_get : ∀ (l : List Value) (c : Tr Value) (o i : Nat), (wrCells c o l).get i = if o ≤ i ∧ i < o + l.length then l[i - o]? else c.get i
  | [], c, o, i => by rw [if_neg (by simp)]; rfl
  | v :: l, c, o, i => by
    rw [wrCells, wrCells_get l _ (o + 1) i, Tr.get_put]
    by_cases e : i = o
    · subst e
      rw [if_neg (by omega), if_pos rfl, if_pos (by simp)]
      simp
    · by_cases e2 : o ≤ i ∧ i < o + (v :: l).length
      · have e3 : o + 1 ≤ i ∧ i < o + 1 + l.length := by simp at e2; omega
        rw [if_pos e3, if_pos e2]
        obtain ⟨m, rfl⟩ : ∃ m, i = o + 1 + m := ⟨i - o - 1, by omega⟩
        rw [show o + 1 + m - (o + 1) = m by omega, show o + 1 + m - o = m + 1 by omega]
        rfl
      · have e3 : ¬ (o + 1 ≤ i ∧ i < o + 1 + l.length) := by simp at e2 ⊢; omega
        rw [if_neg e3, if_neg e, if_neg e2]
theorem set_put {j : Nat} {cur : Array Value} {t : TypeId} {f : Nat × Nat} (hj : w.heap[j]? = some (.cells cur t f)) (o : Nat) (v : Value) : w.setCell ⟨j, o, none⟩ v = w.putObj j (.cells (cur.setIfInBounds o v) t f) := by
  unfold World.setCell World.putObj
  have hlt : j < w.heap.size := (Array.getElem?_eq_some_iff.1 hj).1
  congr 1
  apply Array.ext_getElem?
  intro i
  rw [Array.getElem?_modify]
  by_cases e : j = i
  · subst e
    rw [if_pos rfl, hj]
    simp [hlt]
  · rw [if_neg e, Array.getElem?_setIfInBounds_ne e]
theorem putObj_put (j : Nat) (x y : Obj) : (w.putObj j x).putObj j y = w.putObj j y := by
  unfold World.putObj
  congr 1
  apply Array.ext_getElem?
  intro i
  by_cases e : j = i
  · subst e
    by_cases hlt : j < w.heap.size
    · simp [hlt]
    · simp [hlt]
  · rw [Array.getElem?_setIfInBounds_ne e, Array.getElem?_setIfInBounds_ne e, Array.getElem?_setIfInBounds_ne e]
theorem putObj_self {j : Nat} {x : Obj} (hj : w.heap[j]? = some x) : w.putObj j x = w := by
  unfold World.putObj
  have hlt : j < w.heap.size := (Array.getElem?_eq_some_iff.1 hj).1
  have : w.heap.setIfInBounds j x = w.heap := by
    apply Array.ext_getElem?
    intro i
    by_cases e : j = i
    · subst e; rw [hj]; simp [hlt]
    · rw [Array.getElem?_setIfInBounds_ne e]
  rw [this]
theorem putObj_get {j i : Nat} (x : Obj) (hj : j < w.heap.size) : (w.putObj j x).heap[i]? = if i = j then some x else w.heap[i]? := by
  unfold World.putObj
  by_cases e : i = j
  · subst e; rw [if_pos rfl]; simp [hj]
  · rw [if_neg e]; exact Array.getElem?_setIfInBounds_ne (fun k => e k.symm)
theorem one_ok {v : Value} (h : one v = true) : v.oneCell' = true := by cases v <;> simp_all [one, Value.oneCell']
theorem run_wr {j : Nat} {t : TypeId} {f : Nat × Nat} (o : Nat) : ∀ (vs : List Value) (i : Nat) (cur : Array Value) (w : World), w.heap[j]? = some (.cells cur t f) → o + i + vs.length ≤ cur.size → (∀ v ∈ vs, v.oneCell' = true) →
    (∀ k, k < cur.size → ¬ (f.1 ≤ k ∧ k < f.2)) → (storeCells ⟨j, o, none⟩ vs i).run P w = .ok () (w.putObj j (.cells (wrA cur (o + i) vs) t f))
  | [], i, cur, w, hj, _, _, _ => by simp only [storeCells, wrA]; rw [putObj_self hj]; rfl
  | v :: l, i, cur, w, hj, hl, h1, hf => by
    simp only [List.length_cons] at hl
    have hcell : w.cell? ⟨j, o + i, none⟩ = some (cur[o + i]'(by omega)) := by rw [cell_of (o := o) hj]; simp [show o + i < cur.size by omega]
    have hfro : w.frozen? ⟨j, o + i, none⟩ = false := by
      have := hf (o + i) (by omega)
      simp only [World.frozen?, hj]
      simpa using this
    have hst : (store ((⟨j, o, none⟩ : Addr).add i) v).run P w = .ok () (w.putObj j (.cells (cur.setIfInBounds (o + i) v) t f)) := by
      rw [addr_add, run_store P w _ v _ (h1 v (by simp)), hcell]
      simp [hfro, set_put hj]
    have hlt : j < w.heap.size := (Array.getElem?_eq_some_iff.1 hj).1
    have IH := run_wr o l (i + 1) (cur.setIfInBounds (o + i) v) (w.putObj j (.cells (cur.setIfInBounds (o + i) v) t f)) (by rw [putObj_get _ hlt, if_pos rfl]) (by simp; omega) (fun x hx => h1 x (by simp [hx])) (fun k hk => hf k (by simpa using hk))
    simp only [storeCells, Sem.run_bind, hst, Result.andThen_ok, IH, putObj_put]
    rfl
/-- A row that is written. -/
theorem Rel.write (hr : Rel P ρ h w) {b j n o : Nat} {c : Tr Value} {l l' : List Value} {cs : Array Value} {t : TypeId} {lo hi : Nat} (hb : ρ b = some j) (hg : h.get b = some (.cells t n c false)) (hj : w.heap[j]? = some (.cells cs t (lo, hi)))
    (hl : L2 ρ l l') (ho : o + l.length ≤ n) : Rel P ρ (h.set b (.cells t n (wrCells c o l) false)) (w.putObj j (.cells (wrA cs o l') t (lo, hi))) ∧ Fw ρ h w ρ (h.set b (.cells t n (wrCells c o l) false)) (w.putObj j (.cells (wrA cs o l') t (lo, hi))) := by
  obtain ⟨cs', lo', hi', k1, k2, k3, k4, k5⟩ := hr.cellsAt hb hg
  rw [hj] at k1; cases k1
  have hlt : j < w.heap.size := (Array.getElem?_eq_some_iff.1 hj).1
  have hll := hl.length
  refine hr.turn (x1 := .cells (wrA cs o l') t (lo, hi)) hb hg trivial (fun e n c k => by cases k) (by rw [putObj_get _ hlt, if_pos rfl]) (fun i hi' => by rw [putObj_get _ hlt, if_neg hi']) (by simp [World.putObj]) rfl rfl rfl (fun _ => .cells (by rw [wrA_size]; exact k5) (by rw [wrA_size]; exact k2) (fun i hi' => ?_) (fun e i hi' => by rw [wrA_size] at hi'; exact k4 e i hi'))
  rw [wrCells_get, wrA_get _ _ _ _ (by omega)]
  by_cases e : o ≤ i ∧ i < o + l.length
  · rw [if_pos e, if_pos (by omega)]
    have hv : l[i - o]? = some (l[i - o]'(by omega)) := by simp [show i - o < l.length by omega]
    obtain ⟨v', e1, e2⟩ := hl.get _ _ hv
    exact ⟨_, v', hv, e1, e2⟩
  · rw [if_neg e, if_neg (by omega)]
    exact k3 i hi'
theorem all_one {l l' : List Value} (hl : L2 ρ l l') (h1 : l.all one = true) : ∀ v ∈ l', v.oneCell' = true := by
  induction hl with
  | nil => simp
  | cons hv _ ih =>
    simp only [List.all_cons, Bool.and_eq_true] at h1
    intro v hm
    rcases List.mem_cons.1 hm with rfl | hm
    · refine one_ok ?_
      have := h1.1
      cases hv <;> first | exact this | rfl | (simp [one] at this)
    · exact ih h1.2 v hm
theorem storeB_ok (hr : Rel P ρ h w) {t : TypeId} {ad ad' v v' : Value} {h' : AH} (ha : VR ρ ad ad') (hv : VR ρ v v') (e : storeB P h t ad v = some h') :
    ∃ w', (Instr.storeAt t ad' v').run P w = .ok () w' ∧ Rel P ρ h' w' ∧ Fw ρ h w ρ h' w' := by
  unfold storeB at e
  split at e
  · rename_i b o
    split at e
    · rename_i el n c hg
      simp only [Option.bind_eq_some_iff] at e
      obtain ⟨s, h2, e⟩ := e
      obtain ⟨j, k, rfl⟩ := ha.ptrInv
      obtain ⟨cs, lo, hi, k1, k2, k3, k4, k5⟩ := hr.cellsAt k hg
      cases hb : (Nat.beq (Value.cl v).length s && Nat.ble (o + s) n && (Value.cl v).all one) with
      | false => rw [hb] at e; cases e
      | true =>
        rw [hb] at e; cases e
        obtain ⟨b1, b2, b3⟩ := and3 hb
        have b1 := beq_true b1; have b2 := ble_true b2
        have hL : L2 ρ (Value.cl v) v'.cells.toList := by rw [cl_eq]; exact hv.cells
        have hsz : v'.cells.size = s := by have := hL.length; simp at this; omega
        have hw := hr.write (o := o) k hg k1 hL (by omega)
        refine ⟨_, ?_, hw.1, hw.2⟩
        have := run_wr (P := P) o v'.cells.toList 0 cs w k1 (by simp; omega) (all_one hL b3) (k4 rfl)
        simp [Instr.storeAt, Instr.sureAddr, storeVar, run_size h2, hsz, this]
    · cases e
  · cases e
/-- New rows. -/
theorem Rel.newRow (κ : Nat) (hr : Rel P ρ h w) {l l' : List Value} {cs : Array Value} {t : TypeId} (hl : L2 ρ l l') (hc : ∃ rest, cs.toList = l' ++ rest) (hκ : κ * P.cellsOf t ≤ cs.size) :
    Rel P (Run.ext ρ h.next w.heap.size κ) (newCells h t l) (w.alloc (.cells cs t)) ∧ Fw ρ h w (Run.ext ρ h.next w.heap.size κ) (newCells h t l) (w.alloc (.cells cs t)) := by
  have hs := Sub.ext (hr.none (Nat.le_refl h.next)) w.heap.size κ
  obtain ⟨rest, hc⟩ := hc
  refine hr.new κ (.cells hκ ?_ (fun i hi => ?_) (fun _ i hi => by omega))
  · have : cs.toList.length = l'.length + rest.length := by rw [hc]; simp
    have := hl.length
    simp at *; omega
  · rw [Tr.get_of]
    have hv : l[i]? = some (l[i]'hi) := by simp
    obtain ⟨v', e1, e2⟩ := hl.get _ _ hv
    refine ⟨_, v', hv, ?_, e2.mono hs⟩
    rw [← Array.getElem?_toList, hc, List.getElem?_append_left (by have := hl.length; omega)]
    exact e1
theorem newCells_ptr {n j κ : Nat} : (Run.ext ρ n j κ) n = some j := if_pos rfl
end
end Go.Proofs.YtcmildkkigccaaaGreatDoor.Run

/-
  Comparing, building, asserting, converting.
-/
namespace Go.Proofs.YtcmildkkigccaaaGreatDoor.Run
open Go
set_option linter.unusedVariables false
set_option linter.unusedSimpArgs false
section
variable {P : Program} {ρ : Rn} {gl : Gl} {sz : Nat} {tm : Tr Value} {a : Act} {h : AH} {w : World}
theorem equal_of {t : TypeId} {x y : Value} {r : Bool} (e : ∀ d, (Op.equalIn (d + 1) t x y).run P w = .ok r w) : (Op.equal t x y).run P w = .ok r w := e 9999
theorem run_equalIn_ptr_same {t el : TypeId} {inf : TypeInfo} (ad : Addr) (hu : P.underlying t = some (.pointer el)) (hi : P.info? el = some inf) (d : Nat) (w : World) :
    (Op.equalIn (d + 1) t (.pointer (some ad)) (.pointer (some ad))).run P w = .ok true w := by
  have h1 : (underlying t).run P w = .ok (.pointer el) w := run_under hu w
  unfold Op.equalIn
  rw [Sem.run_bind, h1]
  simp only [Result.andThen_ok]
  rw [Sem.run_bind]
  have h2 : (sizeOf el).run P w = .ok inf.size w := run_size (by simp [sizeB, hi]) w
  rw [h2]
  simp only [Result.andThen_ok]
  by_cases hz : inf.size ≠ 0
  · rw [if_pos hz]; simp [sameAddr]
  · rw [if_neg hz]; simp
theorem nilEqB_ok {t : TypeId} {x x' y y' : Value} {r : Bool} (hx : VR ρ x x') (hy : VR ρ y y') (e : nilEqB P t x y = some r) (w : World) :
    (Op.equal t x' y').run P w = .ok r w ∧ ∀ op ox oy, (eqGuard op t ox oy x' y').run P w = .ok () w := by
  have g0 : ∀ {x' y' : Value}, (∀ cs, x' ≠ .agg cs) → ¬ (x' = .nilIface ∧ y' = .nilIface) → ∀ op ox oy, (eqGuard op t ox oy x' y').run P w = .ok () w := by
    intro x' y' k1 k2 op ox oy
    unfold eqGuard
    cases x' <;> cases y' <;> simp_all <;> split <;> rfl
  unfold nilEqB at e
  split at e
  all_goals first
    | (cases e; rename_i hu; cases hx <;> (try (rename_i hf; simp [flat] at hf; done)) <;> cases hy <;> (try (rename_i hf; simp [flat] at hf; done)) <;>
        exact ⟨equal_of fun d => by simp [Op.equalIn, run_under hu], g0 (by simp) (by simp)⟩)
    | skip
  · rename_i el b o b' o' hu
    simp only [Option.bind_eq_some_iff] at e
    obtain ⟨inf, h1, e⟩ := e
    cases hb : (Nat.beq b b' && Nat.beq o o') with
    | false => rw [hb] at e; cases e
    | true =>
      rw [hb] at e; cases e
      simp only [Bool.and_eq_true] at hb
      have hbb := beq_true hb.1; have hoo := beq_true hb.2
      subst hbb; subst hoo
      obtain ⟨j, k, rfl⟩ := hx.ptrInv
      obtain ⟨j', k', rfl⟩ := hy.ptrInv
      rw [k] at k'; cases k'
      exact ⟨equal_of fun d => run_equalIn_ptr_same ⟨j, o, none⟩ hu h1 d w, g0 (by simp) (by simp)⟩
  · cases e
theorem binB_ok {op : BinOp} {t : TypeId} {ox oy : Operand} {x x' y y' v : Value} (hx : VR ρ x x') (hy : VR ρ y y') (e : binB P op t ox oy x y = some v) (w : World) :
    ∃ v', (do eqGuard op t ox oy x' y'; binOp op t x' y' : Sem Value).run P w = .ok v' w ∧ VR ρ v v' := by
  unfold binB at e
  cases hf : (flat x && flat y) with
  | true =>
    rw [hf] at e
    simp only [Bool.and_eq_true] at hf
    obtain rfl := hx.eq_of_flat hf.1
    obtain rfl := hy.eq_of_flat hf.2
    have := pureV_ok e w
    exact ⟨v, this.1, .fl this.2⟩
  | false =>
    rw [hf] at e
    simp only [cond] at e
    have hnf : ¬ (flat x = true ∧ flat y = true) := by simpa using hf
    have key : ∀ r, nilEqB P t x y = some r → (binOp .eql t x' y').run P w = .ok (.bool r) w ∧ (binOp .neq t x' y').run P w = .ok (.bool (!r)) w ∧ ∀ op ox oy, (eqGuard op t ox oy x' y').run P w = .ok () w := by
      intro r hr
      obtain ⟨h1, h2⟩ := nilEqB_ok hx hy hr w
      have hk : (binOp .eql t x' y') = (do pure (.bool (← Op.equal t x' y'))) ∧ (binOp .neq t x' y') = (do pure (.bool (!(← Op.equal t x' y')))) := by
        unfold nilEqB at hr
        split at hr
        all_goals first
          | (cases hr; cases hx <;> (try (rename_i hf; simp [flat] at hf; done)) <;> cases hy <;> (try (rename_i hf; simp [flat] at hf; done)) <;> exact ⟨rfl, rfl⟩)
          | skip
        · obtain ⟨j, k, rfl⟩ := hx.ptrInv
          obtain ⟨j', k', rfl⟩ := hy.ptrInv
          exact ⟨rfl, rfl⟩
        · cases hr
      rw [hk.1, hk.2]
      exact ⟨by simp [h1], by simp [h1], h2⟩
    split at e
    · simp only [Option.map_eq_some_iff] at e
      obtain ⟨r, hr, rfl⟩ := e
      obtain ⟨h1, h2, h3⟩ := key r hr
      exact ⟨_, by simp [h1, h3], .fl rfl⟩
    · simp only [Option.map_eq_some_iff] at e
      obtain ⟨r, hr, rfl⟩ := e
      obtain ⟨h1, h2, h3⟩ := key r hr
      exact ⟨_, by simp [h2, h3], .fl rfl⟩
    · cases e
end
end Go.Proofs.YtcmildkkigccaaaGreatDoor.Run

/-
  Building, asserting, converting; new rows.
-/
namespace Go.Proofs.YtcmildkkigccaaaGreatDoor.Run
open Go
set_option linter.unusedVariables false
set_option linter.unusedSimpArgs false
section
variable {P : Program} {ρ : Rn} {gl : Gl} {sz : Nat} {tm : Tr Value} {a : Act} {h : AH} {w : World}
theorem L2.set {l l' : List Value} (hl : L2 ρ l l') {v v' : Value} (hv : VR ρ v v') : ∀ i, L2 ρ (l.set i v) (l'.set i v') := by
  induction hl with
  | nil => intro i; exact .nil
  | cons k kl ih =>
    intro i
    cases i with
    | zero => exact .cons hv kl
    | succ i => exact .cons k (ih i)
theorem foldl_fill {m m' : List Value} (hm : L2 ρ m m') : ∀ (off j : Nat) (c c' : Array Value), L2 ρ c.toList c'.toList →
    L2 ρ ((m.zipIdx j).foldl (fun (cs : Array Value) (x : Value × Nat) => cs.setIfInBounds (off + x.2) x.1) c).toList ((m'.zipIdx j).foldl (fun (cs : Array Value) (x : Value × Nat) => cs.setIfInBounds (off + x.2) x.1) c').toList := by
  induction hm with
  | nil => intro off j c c' hc; exact hc
  | cons k _ ih =>
    intro off j c c' hc
    simp only [List.zipIdx_cons, List.foldl_cons]
    exact ih off (j + 1) _ _ (by simpa using hc.set k (off + j))
theorem fill_ok (place : Nat → Option (Nat × Nat)) {ps ps' : List (Nat × Value)} (hp : P2 ρ ps ps') : ∀ {c c' cs : Array Value}, L2 ρ c.toList c'.toList → Instr.fill place c ps = some cs → ∃ cs', Instr.fill place c' ps' = some cs' ∧ L2 ρ cs.toList cs'.toList := by
  induction hp with
  | nil => intro c c' cs hc e; simp only [Instr.fill] at e; cases e; exact ⟨c', rfl, hc⟩
  | @cons i v v' l l' hv hl ih =>
    intro c c' cs hc e
    simp only [Instr.fill] at e ⊢
    cases hpl : place i with
    | none => rw [hpl] at e; cases e
    | some q =>
      obtain ⟨off, size⟩ := q
      rw [hpl] at e
      simp only at e ⊢
      have h1 : v.cells.size = v'.cells.size := by have := hv.cells.length; simpa using this
      have h2 : c.size = c'.size := by have := hc.length; simpa using this
      rw [← h1, ← h2]
      split at e
      · cases e
      · rename_i hb
        rw [if_neg hb]
        refine ih ?_ e
        simp only [← Array.foldl_toList, Array.toList_zipIdx]
        exact foldl_fill hv.cells off 0 _ _ hc
theorem flat_cells {z : Value} (hf : flat z = true) : L2 ρ z.cells.toList z.cells.toList := (VR.fl hf).cells
theorem run_places : ∀ (l : List Field) (ps : List (Nat × Nat)) (w : World), placesB P l = some ps → (l.mapM (fun f => do pure (f.offset, ← sizeOf f.type) : Field → Sem (Nat × Nat))).run P w = .ok ps w
  | [], ps, w, e => by simp only [placesB] at e; cases e; rfl
  | f :: l, ps, w, e => by
    simp only [placesB, Option.bind_eq_some_iff, Option.map_eq_some_iff] at e
    obtain ⟨s, h1, ps', h2, rfl⟩ := e
    rw [List.mapM_cons, Sem.run_bind, Sem.run_bind, run_size h1]
    simp only [Result.andThen_ok, Sem.run_pure]
    rw [Sem.run_bind, run_places l ps' w h2]
    rfl
theorem buildB_ok {t : TypeId} {ps ps' : List (Nat × Value)} {v : Value} (hp : P2 ρ ps ps') (e : buildB P t ps = some v) (w : World) : ∃ v', (Instr.build t ps'.toArray).run P w = .ok v' w ∧ VR ρ v v' := by
  simp only [buildB, Option.bind_eq_some_iff] at e
  obtain ⟨z, h1, e⟩ := e
  have hz := run_zero h1 w
  have hzf := flat_cells (ρ := ρ) (zeroB_flat h1).1
  split at e
  · rename_i fields hu
    simp only [Option.bind_eq_some_iff, Option.map_eq_some_iff] at e
    obtain ⟨pl, h2, cs, h3, rfl⟩ := e
    obtain ⟨cs', h4, h5⟩ := fill_ok _ hp hzf h3
    have hm : (fields.mapM (fun f => do pure (f.offset, ← sizeOf f.type) : Field → Sem (Nat × Nat))).run P w = .ok pl.toArray w := by
      rw [Array.mapM_eq_mapM_toList, Sem.run_map, run_places _ _ w h2]
      rfl
    have h4' : Instr.fill (fun i => pl.toArray[i]?) z.cells ps' = some cs' := by simpa using h4
    refine ⟨.agg cs', ?_, by have := VR.agg_list h5; simpa using this⟩
    simp only [Instr.build, Sem.run_bind, hz, Result.andThen_ok, run_under hu]
    rw [hm]
    simp only [Result.andThen_ok]
    rw [h4']
    rfl
  · rename_i n elem hu
    simp only [Option.bind_eq_some_iff, Option.map_eq_some_iff] at e
    obtain ⟨s, h2, cs, h3, rfl⟩ := e
    obtain ⟨cs', h4, h5⟩ := fill_ok _ hp hzf h3
    refine ⟨.agg cs', ?_, by have := VR.agg_list h5; simpa using this⟩
    simp only [Instr.build, Sem.run_bind, hz, Result.andThen_ok, run_under hu, run_size h2]
    rw [h4]
    rfl
  · cases e
theorem assertB_ok {x x' v : Value} {xt t : TypeId} {ok : Bool} (hx : VR ρ x x') (e : assertB P x xt t ok = some v) (w : World) : ∃ v', (Instr.typeAssert x' xt t ok).run P w = .ok v' w ∧ VR ρ v v' := by
  have h2 : ∀ {v v' : Value}, VR ρ v v' → ∀ b, VR ρ (.tuple #[v, .bool b]) (.tuple #[v', .bool b]) := fun k b => VR.tuple_list (.cons k (.cons (.fl rfl) .nil))
  have hi : ∀ {u : TypeId} {y : Value}, VR ρ (.iface u y) x' → ∃ y', x' = .iface u y' ∧ VR ρ y y' := by
    intro u y k
    cases k with
    | fl hf => exact ⟨y, rfl, .fl hf⟩
    | iface k => exact ⟨_, rfl, k⟩
  unfold assertB at e
  split at e
  · cases e
  · rename_i d u y hd hu
    obtain ⟨y', rfl, hy⟩ := hi hx
    have hnot : ∀ ms, d ≠ .interface ms := fun ms k => hd ms k
    cases hq : Nat.beq u t with
    | true =>
      rw [hq] at e; cases e
      have := beq_true hq; subst this
      cases ok with
      | true =>
        refine ⟨_, ?_, h2 hy true⟩
        simp only [Instr.typeAssert, Sem.run_bind, run_under hu, Result.andThen_ok]
        cases d <;> first | exact absurd rfl (hnot _) | simp
      | false =>
        refine ⟨_, ?_, hy⟩
        simp only [Instr.typeAssert, Sem.run_bind, run_under hu, Result.andThen_ok]
        cases d <;> first | exact absurd rfl (hnot _) | simp
    | false =>
      rw [hq] at e
      have hne := beq_false hq
      cases ok with
      | true =>
        simp only [cond, Option.map_eq_some_iff] at e
        obtain ⟨z, hz, rfl⟩ := e
        refine ⟨_, ?_, h2 (.fl (zeroB_flat hz).1) false⟩
        simp only [Instr.typeAssert, Sem.run_bind, run_under hu, Result.andThen_ok]
        cases d <;> first | exact absurd rfl (hnot _) | simp [hne, run_zero hz]
      | false => cases e
  · rename_i d hd hu
    obtain rfl := hx.eq_of_flat rfl
    have hnot : ∀ ms, d ≠ .interface ms := fun ms k => hd ms k
    cases ok with
    | true =>
      simp only [cond, Option.map_eq_some_iff] at e
      obtain ⟨z, hz, rfl⟩ := e
      refine ⟨_, ?_, h2 (.fl (zeroB_flat hz).1) false⟩
      simp only [Instr.typeAssert, Sem.run_bind, run_under hu, Result.andThen_ok]
      cases d <;> first | exact absurd rfl (hnot _) | simp [run_zero hz]
    | false => cases e
  · cases e
theorem zeros_eq (z : List Value) (hz : 0 < z.length) : ∀ n, ((List.range (n * z.length)).map fun i => z.toArray[i % z.toArray.size]!) = zeros z n := by
  intro n
  induction n with
  | zero => simp [zeros]
  | succ n ih =>
    rw [zeros, ← ih, Nat.succ_mul, Nat.add_comm, List.range_add, List.map_append, List.map_map]
    congr 1
    · apply List.ext_getElem (by simp)
      intro i h1 h2
      simp at h1
      simp [Nat.mod_eq_of_lt h1, h1]
    · apply List.map_congr_left
      intro i _
      simp
theorem zero_row {z : Value} (n s : Nat) (hs : (Value.cl z).length = s) : ((Array.range (n * s)).map (z.cells[· % z.cells.size]!)).toList = zeros (Value.cl z) n := by
  rw [cl_eq] at hs ⊢
  subst hs
  by_cases h0 : z.cells.toList.length = 0
  · have e0 : z.cells.toList = [] := List.length_eq_zero_iff.1 h0
    rw [h0, e0, Nat.mul_zero]
    clear e0 h0
    induction n with
    | zero => simp [zeros]
    | succ n ih => simp only [zeros, List.nil_append]; exact ih
  · have := zeros_eq z.cells.toList (by omega) n
    simpa using this
theorem flat_zeros {z : Value} (hf : flat z = true) : ∀ n, L2 ρ (zeros (Value.cl z) n) (zeros (Value.cl z) n)
  | 0 => .nil
  | n + 1 => L2.append (by rw [cl_eq]; exact flat_cells hf) (flat_zeros hf n)
/-- A new variable. -/
theorem newVar_ok (hr : Rel P ρ h w) {t : TypeId} {v v' : Value} (hv : VR ρ v v') :
    ∃ ρ' w', (newVar t v').run P w = .ok ⟨w.heap.size, 0, none⟩ w' ∧ ρ' h.next = some w.heap.size ∧ Rel P ρ' (newCells h t (Value.cl v)) w' ∧ Fw ρ h w ρ' (newCells h t (Value.cl v)) w' := by
  have hL : L2 ρ (Value.cl v) v'.cells.toList := by rw [cl_eq]; exact hv.cells
  have := hr.newRow 0 (t := t) (cs := v'.cells) hL ⟨[], by simp⟩ (by omega)
  exact ⟨_, _, by simp [newVar, Go.newRow], newCells_ptr, this.1, this.2⟩
theorem rowAt_mono {fits : TypeId → Bool} : ∀ (d : Nat) (e : TypeId) (count count' off n : Nat), count ≤ count' → rowAt P fits d e count off n = true → rowAt P fits d e count' off n = true
  | 0, _, _, _, _, _, _, h => by simp [rowAt] at h
  | d + 1, e, count, count', off, n, hc, h => by
    unfold rowAt at h ⊢
    by_cases h0 : P.cellsOf e = 0
    · simp [h0] at h
    · simp only [h0, if_false] at h ⊢
      simp only [Bool.or_eq_true, Bool.and_eq_true, decide_eq_true_eq] at h ⊢
      rcases h with ⟨⟨h1, h2⟩, h3⟩ | ⟨h1, h2⟩
      · exact .inl ⟨⟨h1, by omega⟩, h3⟩
      · exact .inr ⟨by omega, h2⟩
theorem liesAt_mono : ∀ (d : Nat) (e : TypeId) (count count' off : Nat) (u : TypeId) (n : Nat), count ≤ count' → liesAt P d e count off u n = true → liesAt P d e count' off u n = true
  | 0, _, _, _, _, _, _, _, h => by simp [liesAt] at h
  | d + 1, e, count, count', off, u, n, hc, h => by
    unfold liesAt at h ⊢
    simp only [Bool.or_eq_true] at h ⊢
    rcases h with h | h
    · exact .inl (rowAt_mono _ _ _ _ _ _ hc h)
    · refine .inr ?_
      split at h
      · exact liesAt_mono d _ _ _ _ _ _ hc h
      · exact h
theorem run_viewAt_cells {j : Nat} {cs : Array Value} {e : TypeId} {f : Nat × Nat} (hj : w.heap[j]? = some (.cells cs e f)) : (viewAt j).run P w = .ok none w := by
  simp [viewAt, shape, Sem.run, World.shape?, hj]
theorem run_seenAt_cells {j o : Nat} {cs : Array Value} {e : TypeId} {f : Nat × Nat} (hj : w.heap[j]? = some (.cells cs e f)) : (Conv.seenAt ⟨j, o, none⟩).run P w = .ok ⟨j, o, none⟩ w := by
  unfold Conv.seenAt
  rw [Sem.run_bind, run_viewAt_cells hj]
  rfl
theorem run_variablesAt {j o n : Nat} {cs : Array Value} {e u : TypeId} {f : Nat × Nat} (hj : w.heap[j]? = some (.cells cs e f)) (hl : liesAt P P.depth e (cs.size / P.cellsOf e) o u n = true) :
    (variablesAt ⟨j, o, none⟩ u n).run P w = .ok true w := by
  unfold variablesAt
  simp [program, shape, Sem.run, World.shape?, hj, hl]
theorem bytesOf_list : ∀ {l : List Value} {bs : List UInt8}, bytesOf l = some bs → l = bs.map fun b => .int .u8 b.toNat
  | [], bs, e => by simp only [bytesOf] at e; cases e; rfl
  | v :: l, bs, e => by
    unfold bytesOf at e
    split at e
    · rename_i hq; cases hq
    · rename_i n l' hq
      cases hq
      simp only [Option.bind_eq_some_iff] at e
      obtain ⟨m, hm, e⟩ := e
      have := natOf_ok hm
      subst this
      cases hb : Nat.blt m 256 with
      | false => rw [hb] at e; cases e
      | true =>
        rw [hb] at e
        simp only [cond, Option.map_eq_some_iff] at e
        obtain ⟨bs', h1, rfl⟩ := e
        have hb := blt_true hb
        have h2 := bytesOf_list h1
        rw [List.map_cons, ← h2]
        congr 2
        simp [UInt8.toNat_ofNat]
        omega
    · cases e
theorem bytesOf_map {l : List Value} {bs : List UInt8} (e : bytesOf l = some bs) : ∃ ns : List Int, l = ns.map (.int .u8) ∧ bs = ns.map fun n => n.toNat.toUInt8 := by
  refine ⟨bs.map fun b => (b.toNat : Int), by rw [bytesOf_list e, List.map_map]; rfl, ?_⟩
  rw [List.map_map]
  have : ((fun n : Int => n.toNat.toUInt8) ∘ fun b : UInt8 => (b.toNat : Int)) = id := by funext b; simp
  rw [this, List.map_id]
theorem L2.flat {l l' : List Value} (hl : L2 ρ l l') (hf : ∀ v ∈ l, Run.flat v = true) : l' = l := by
  induction hl with
  | nil => rfl
  | cons k _ ih => rw [k.eq_of_flat (hf _ (by simp)), ih (fun v hv => hf v (by simp [hv]))]
theorem foldl_bytes : ∀ (ns : List Int) (r : ByteArray), ns.foldl (fun r n => r.push (UInt8.ofNat n.toNat)) r = ⟨r.data ++ (ns.map fun n => n.toNat.toUInt8).toArray⟩
  | [], r => by cases r; simp
  | n :: ns, r => by
    rw [List.foldl_cons, foldl_bytes ns]
    cases r
    simp [ByteArray.push, Nat.toUInt8]
theorem convB_ok (hr : Rel P ρ h w) {src dst : TypeId} {x x' v : Value} (hx : VR ρ x x') (e : convB P h src dst x = some v) : ∃ v', (convert src dst x').run P w = .ok v' w ∧ VR ρ v v' := by
  unfold convB at e
  cases hf : flat x with
  | true =>
    rw [hf] at e
    obtain rfl := hx.eq_of_flat hf
    have := pureV_ok e w
    exact ⟨v, this.1, .fl this.2⟩
  | false =>
    rw [hf] at e
    simp only [cond] at e
    split at e
    · rename_i el b o n c hs hd
      split at e
      · rename_i hel
        split at e
        · rename_i el2 m cc ro hg
          split at e
          · rename_i hb
            simp only [Option.bind_eq_some_iff, Option.map_eq_some_iff] at e
            obtain ⟨l, h1, bs, h2, rfl⟩ := e
            have hb := ble_true hb
            rcases hx.sliceInv with ⟨j, c', k, rfl, k2, k3⟩ | ⟨k1, rfl, _, ad, c', rfl⟩
            · obtain ⟨cs, lo, hi, q1, q2, q3, q4, q5⟩ := hr.cellsAt k hg
              obtain ⟨p1, p2⟩ := rdCells_ok q3 n o l h1 hb
              obtain ⟨ns, h3, h4⟩ := bytesOf_map h2
              have p3 := p1.flat (fun v hv => by rw [h3] at hv; obtain ⟨z, _, rfl⟩ := List.mem_map.1 hv; rfl)
              have hrd := run_rd (P := P) (o := o) (k := n) q1 (by omega)
              rw [p3, h3] at hrd
              refine ⟨_, ?_, .fl rfl⟩
              have hbs := run_bytesToString (P := P) w ⟨j, o, none⟩ n c' ns hrd
              rw [foldl_bytes] at hbs
              simp only [convert, Sem.run_bind, run_under hs, run_under hd, Result.andThen_ok, run_under hel]
              rw [hbs, h4]
              simp
            · simp only [rdCells] at h1
              cases h1
              simp only [bytesOf] at h2; cases h2
              refine ⟨.string .empty, ?_, .fl rfl⟩
              have hbs := run_bytesToString (P := P) w ad 0 c' [] (by simp [loadCells, loadCellsFrom])
              simp only [convert, Sem.run_bind, run_under hs, run_under hd, Result.andThen_ok, run_under hel]
              rw [hbs]
              rfl
          · cases e
        · cases e
      · cases e
    · rename_i u b o hs hd
      split at e
      · rename_i el n cc ro s hg hz
        split at e
        · rename_i hb
          cases e
          simp only [Bool.and_eq_true] at hb
          have b1 := blt_true hb.1; have b2 := blt_true hb.2
          obtain ⟨j, k, rfl⟩ := hx.ptrInv
          obtain ⟨cs, lo, hi, q1, q2, q3, q4, q5⟩ := hr.cellsAt k hg
          refine ⟨_, ?_, .ptr k⟩
          have hne : s ≠ 0 := by omega
          have hlt : ¬ (cs.size ≤ o) := by omega
          simp only [convert, Sem.run_bind, run_under hs, run_under hd, Result.andThen_ok, Conv.unsafePointer, run_seenAt_cells q1]
          simp [cellsIn, shape, Sem.run, World.shape?, q1, run_size hz, hne, hlt]
        · cases e
      · cases e
    · rename_i u b o hs hd
      split at e
      · rename_i el n cc ro s hg hz
        split at e
        · rename_i hb
          cases e
          simp only [Bool.and_eq_true] at hb
          have b1 := blt_true hb.1
          obtain ⟨j, k, rfl⟩ := hx.ptrInv
          obtain ⟨cs, lo, hi, q1, q2, q3, q4, q5⟩ := hr.cellsAt k hg
          refine ⟨_, ?_, .ptr k⟩
          have hne : s ≠ 0 := by omega
          have hv := run_variablesAt (P := P) (o := o) q1 (liesAt_mono _ _ _ _ _ _ _ (Nat.div_le_div_right q2) hb.2)
          simp only [convert, Sem.run_bind, run_under hs, run_under hd, Result.andThen_ok, Conv.unsafePointer, run_seenAt_cells q1]
          simp [run_size hz, hne, hv]
        · cases e
      · cases e
    · cases e
end
end Go.Proofs.YtcmildkkigccaaaGreatDoor.Run

/-
  Maps: looked into, written, ranged over.
-/
namespace Go.Proofs.YtcmildkkigccaaaGreatDoor.Run
open Go
set_option linter.unusedVariables false
set_option linter.unusedSimpArgs false
section
variable {P : Program} {ρ : Rn} {gl : Gl} {sz : Nat} {tm : Tr Value} {a : Act} {h : AH} {w : World}
theorem ER.length : ∀ {l l' : List MapEntry}, ER ρ l l' → l.length = l'.length
  | [], [], _ => rfl
  | [], _ :: _, h => h.elim
  | _ :: _, [], h => h.elim
  | _ :: _, _ :: _, h => by simp [ER.length h.2.2.2]
theorem ER.append : ∀ {l l' m m' : List MapEntry}, ER ρ l l' → ER ρ m m' → ER ρ (l ++ m) (l' ++ m')
  | [], [], _, _, _, k => k
  | [], _ :: _, _, _, h, _ => h.elim
  | _ :: _, [], _, _, h, _ => h.elim
  | _ :: _, _ :: _, _, _, h, k => ⟨h.1, h.2.1, h.2.2.1, ER.append h.2.2.2 k⟩
theorem bytes_eq {a b : ByteArray} (hb : (a == b) = true) : a = b := by
  cases a; cases b
  simp only [BEq.beq, ByteArray.beq] at hb
  rw [Array.isEqv_eq_decide] at hb
  simp at hb
  obtain ⟨h1, h2⟩ := hb
  congr 1
  exact Array.ext h1 (fun i a b => h2 i a)
theorem bytes_self (a : ByteArray) : (a == a) = true := by
  cases a
  simp only [BEq.beq, ByteArray.beq]
  rw [Array.isEqv_eq_decide]
  simp
theorem keyB_flat {d : TypeDesc} {k : Value} (hk : keyB d k = true) : flat k = true := by cases d <;> cases k <;> simp_all [keyB, flat]
theorem sameNow_key {d : TypeDesc} {k x x' : Value} {b : Bool} (hx : VR ρ x x') (e : Instr.sameNow d k x = some b) : x' = x ∧ (b = true → x = k) := by
  unfold Instr.sameNow at e
  split at e
  · split at e
    · rename_i hkk; subst hkk; cases e; exact ⟨hx.eq_of_flat rfl, fun hb => by rw [eq_of_beq hb]⟩
    · cases e
  · cases e
    exact ⟨hx.eq_of_flat rfl, fun hb => by rw [bytes_eq hb]⟩
  · cases e
    exact ⟨hx.eq_of_flat rfl, fun hb => by rw [eq_of_beq hb]⟩
  · cases e
theorem findNow_ok {d : TypeDesc} {k : Value} : ∀ {l l' : List MapEntry} (i : Nat) {r : Option (Nat × Value)}, ER ρ l l' → Instr.findNow d k l i = some r →
    (r = none ∧ Instr.findNow d k l' i = some none) ∨ ∃ m v v', r = some (i + m, v) ∧ Instr.findNow d k l' i = some (some (i + m, v')) ∧ VR ρ v v' ∧ ∃ e e', l[m]? = some e ∧ l'[m]? = some e' ∧ e'.key = k ∧ e.key = k ∧ v = e.val ∧ v' = e'.val
  | [], [], i, r, _, e => by simp only [Instr.findNow] at e; cases e; exact .inl ⟨rfl, rfl⟩
  | [], _ :: _, _, _, hh, _ => hh.elim
  | _ :: _, [], _, _, hh, _ => hh.elim
  | x :: l, x' :: l', i, r, hh, e => by
    simp only [Instr.findNow] at e ⊢
    cases hs : Instr.sameNow d k x.key with
    | none => rw [hs] at e; cases e
    | some b =>
      rw [hs] at e
      obtain ⟨h1, h2⟩ := sameNow_key hh.1 hs
      rw [h1, hs]
      cases b with
      | true =>
        simp only at e ⊢
        cases e
        exact .inr ⟨0, x.val, x'.val, rfl, rfl, hh.2.1, x, x', rfl, rfl, by rw [h1]; exact h2 rfl, h2 rfl, rfl, rfl⟩
      | false =>
        simp only at e ⊢
        rcases findNow_ok (i + 1) hh.2.2.2 e with ⟨k1, k2⟩ | ⟨m, v, v', k1, k2, k3, y, y', q1, q2, q3⟩
        · exact .inl ⟨k1, k2⟩
        · exact .inr ⟨m + 1, v, v', by rw [k1]; congr 2; omega, by rw [k2]; congr 3; omega, k3, y, y', by simpa using q1, by simpa using q2, q3⟩
theorem run_findKey_now {kt : TypeId} {d : TypeDesc} {k : Value} {l : List MapEntry} {r : Option (Nat × Value)} (hd : P.underlying kt = some d) (e : Instr.findNow d k l 0 = some r) (w : World) : (Instr.findKey kt k l).run P w = .ok r w := by
  simp [Instr.findKey, run_under hd, e]
theorem run_check {kt : TypeId} {d : TypeDesc} {k : Value} (hd : P.underlying kt = some d) (hk : keyB d k = true) (em : Bool) (n : Nat) (w : World) : (Instr.checkKey em (n + 1) kt k).run P w = .ok () w := by
  unfold Instr.checkKey
  rw [Sem.run_bind, run_under hd]
  cases d <;> cases k <;> simp_all [keyB]
theorem run_getMap {j : Nat} {es : Array MapEntry} {c : Nat} (hj : w.heap[j]? = some (.map es c)) : (getObj j).run P w = .ok (.map es c) w := by simp [getObj, Sem.run, hj]
theorem run_putMap {j : Nat} {es : Array MapEntry} {c : Nat} (hj : w.heap[j]? = some (.map es c)) (o : Obj) : (setObj j o).run P w = .ok () (w.putObj j o) := by simp [setObj, Sem.run, hj, World.putObj]
theorem Rel.mapAt (hr : Rel P ρ h w) {b j : Nat} {es : List MapEntry} {c : Nat} (hb : ρ b = some j) (hg : h.get b = some (.map es c)) : ∃ es', w.heap[j]? = some (.map es' c) ∧ ER ρ es es'.toList := by
  obtain ⟨x, h1, h2⟩ := hr.obj b j _ hb hg trivial
  cases h2 with
  | map k => exact ⟨_, h1, k⟩
theorem mapOf_ok {t : TypeId} {d : TypeDesc} {e : TypeId} (h1 : mapOf P t = some (d, e)) : ∃ k, P.underlying t = some (.map k e) ∧ P.underlying k = some d := by
  unfold mapOf at h1
  split at h1
  · rename_i k e' hu
    simp only [Option.map_eq_some_iff] at h1
    obtain ⟨d', h2, h3⟩ := h1
    cases h3
    exact ⟨k, hu, h2⟩
  · cases h1
theorem lookupB_ok (hr : Rel P ρ h w) {t : TypeId} {m m' k k' v : Value} {ok : Bool} (hm : VR ρ m m') (hk : VR ρ k k') (e : lookupB P h t m k ok = some v) : ∃ v', (Instr.lookup t m' k' ok).run P w = .ok v' w ∧ VR ρ v v' := by
  have h2 : ∀ {v v' : Value}, VR ρ v v' → ∀ b, VR ρ (.tuple #[v, .bool b]) (.tuple #[v', .bool b]) := fun k b => VR.tuple_list (.cons k (.cons (.fl rfl) .nil))
  simp only [lookupB, Option.bind_eq_some_iff] at e
  obtain ⟨⟨d, el⟩, h1, e⟩ := e
  obtain ⟨kt, u1, u2⟩ := mapOf_ok h1
  cases hkb : keyB d k with
  | false => rw [hkb] at e; cases e
  | true =>
    rw [hkb] at e
    simp only [cond, Option.bind_eq_some_iff] at e
    obtain ⟨es, h3, r, h4, e⟩ := e
    obtain rfl := hk.eq_of_flat (keyB_flat hkb)
    split at h3
    · cases h3
      obtain rfl := hm.eq_of_flat rfl
      rcases findNow_ok (ρ := ρ) (l := []) (l' := []) 0 trivial h4 with ⟨rfl, k2⟩ | ⟨mm, y, y', rfl, k2, k3, x, x', p1, _⟩
      · simp only [Option.map_eq_some_iff] at e
        obtain ⟨z, hz, rfl⟩ := e
        have hzf := (zeroB_flat hz).1
        cases ok with
        | true => exact ⟨_, by simp [Instr.lookup, run_under u1, run_check u2 hkb, run_findKey_now u2 k2, run_zero hz], h2 (.fl hzf) false⟩
        | false => exact ⟨_, by simp [Instr.lookup, run_under u1, run_check u2 hkb, run_findKey_now u2 k2, run_zero hz], .fl hzf⟩
      · simp at p1
    · rename_i b
      split at h3
      · rename_i es0 c hg
        cases h3
        obtain ⟨j, kk, rfl⟩ := hm.mapInv
        obtain ⟨es', q1, q2⟩ := hr.mapAt kk hg
        rcases findNow_ok 0 q2 h4 with ⟨rfl, k2⟩ | ⟨mm, y, y', rfl, k2, k3, _⟩
        · simp only [Option.map_eq_some_iff] at e
          obtain ⟨z, hz, rfl⟩ := e
          have hzf := (zeroB_flat hz).1
          cases ok with
          | true => exact ⟨_, by simp [Instr.lookup, run_under u1, run_getMap q1, run_check u2 hkb, run_findKey_now u2 k2, run_zero hz], h2 (.fl hzf) false⟩
          | false => exact ⟨_, by simp [Instr.lookup, run_under u1, run_getMap q1, run_check u2 hkb, run_findKey_now u2 k2, run_zero hz], .fl hzf⟩
        · simp only at e
          cases e
          cases ok with
          | true => exact ⟨_, by simp [Instr.lookup, run_under u1, run_getMap q1, run_check u2 hkb, run_findKey_now u2 k2], h2 k3 true⟩
          | false => exact ⟨_, by simp [Instr.lookup, run_under u1, run_getMap q1, run_check u2 hkb, run_findKey_now u2 k2], k3⟩
      · cases h3
    · cases h3
theorem ER.modify {k v v' : Value} (hk : flat k = true) (hv : VR ρ v v') : ∀ {l l' : List MapEntry} (m : Nat), ER ρ l l' →
    ER ρ (l.modify m fun e => { e with key := k, val := v }) (l'.modify m fun e => { e with key := k, val := v' })
  | [], [], m, _ => by cases m <;> exact trivial
  | [], _ :: _, _, hh => hh.elim
  | _ :: _, [], _, hh => hh.elim
  | x :: l, x' :: l', 0, hh => ⟨.fl hk, hv, hh.2.2.1, hh.2.2.2⟩
  | x :: l, x' :: l', m + 1, hh => ⟨hh.1, hh.2.1, hh.2.2.1, ER.modify hk hv m hh.2.2.2⟩
theorem keyStays {d : TypeDesc} {k : Value} (hk : keyB d k = true) (w : World) : (Instr.keyThatStays k k).run P w = .ok k w := by
  cases d <;> cases k <;> simp_all [keyB, Instr.keyThatStays, Instr.sameBits, bytes_self]
theorem updB_ok (hr : Rel P ρ h w) {t : TypeId} {m m' k k' v v' : Value} {h' : AH} (hm : VR ρ m m') (hk : VR ρ k k') (hv : VR ρ v v') (e : updB P h t m k v = some h') :
    ∃ w', (Instr.mapUpdate t m' k' v').run P w = .ok () w' ∧ Rel P ρ h' w' ∧ Fw ρ h w ρ h' w' := by
  simp only [updB, Option.bind_eq_some_iff] at e
  obtain ⟨⟨d, el⟩, h1, e⟩ := e
  obtain ⟨kt, u1, u2⟩ := mapOf_ok h1
  cases hkb : keyB d k with
  | false => rw [hkb] at e; cases e
  | true =>
    rw [hkb] at e
    simp only [cond] at e
    obtain rfl := hk.eq_of_flat (keyB_flat hkb)
    split at e
    · rename_i b
      split at e
      · rename_i es c hg
        simp only [Option.map_eq_some_iff] at e
        obtain ⟨r, h4, rfl⟩ := e
        obtain ⟨j, kk, rfl⟩ := hm.mapInv
        obtain ⟨es', q1, q2⟩ := hr.mapAt kk hg
        have hlt : j < w.heap.size := (Array.getElem?_eq_some_iff.1 q1).1
        have hput : ∀ (o1 : AO) (x1 : Obj), OR P ρ (ρ.k b) o1 x1 → Rel P ρ (h.set b o1) (w.putObj j x1) ∧ Fw ρ h w ρ (h.set b o1) (w.putObj j x1) := fun o1 x1 ho =>
          hr.turn (x1 := x1) kk hg trivial (fun e n c e => by cases e) (by rw [putObj_get _ hlt, if_pos rfl]) (fun i hi' => by rw [putObj_get _ hlt, if_neg hi']) (by simp [World.putObj]) rfl rfl rfl (fun _ => ho)
        rcases findNow_ok 0 q2 h4 with ⟨rfl, k2⟩ | ⟨mm, y, y', rfl, k2, k3, x, x', p1, p2, p3, p4, p5⟩
        · have := hput (.map (es ++ [{ key := k', val := v, born := c }]) (c + 1)) (.map (es'.push { key := k', val := v', born := c }) (c + 1)) (.map (by
            rw [Array.toList_push]
            exact ER.append q2 ⟨.fl (keyB_flat hkb), hv, rfl, trivial⟩))
          refine ⟨_, ?_, this.1, this.2⟩
          simp only [Instr.mapUpdate, Sem.run_bind, run_under u1, Result.andThen_ok, run_getMap q1, run_check u2 hkb, run_findKey_now u2 k2]
          rw [run_putMap q1]
        · have := hput (.map (es.modify (0 + mm) fun e => { e with key := k', val := v }) c) (.map (es'.modify (0 + mm) fun e => { e with key := k', val := v' }) c) (.map (by
            rw [Array.toList_modify]
            exact ER.modify (keyB_flat hkb) hv _ q2))
          refine ⟨_, ?_, this.1, this.2⟩
          have hkey : ((es'[0 + mm]?).map (·.key)).getD k' = k' := by
            have p2' : es'[mm]? = some x' := by simpa using p2
            rw [Nat.zero_add, p2']
            exact p3
          simp only [Instr.mapUpdate, Sem.run_bind, run_under u1, Result.andThen_ok, run_getMap q1, run_check u2 hkb, run_findKey_now u2 k2]
          rw [hkey, keyStays hkb]
          simp only [Result.andThen_ok]
          rw [run_putMap q1]
      · cases e
    · cases e
theorem ER.erase : ∀ {l l' : List MapEntry} (m : Nat), ER ρ l l' → ER ρ (l.eraseIdx m) (l'.eraseIdx m)
  | [], [], m, _ => trivial
  | [], _ :: _, _, hh => hh.elim
  | _ :: _, [], _, hh => hh.elim
  | x :: l, x' :: l', 0, hh => hh.2.2.2
  | x :: l, x' :: l', m + 1, hh => ⟨hh.1, hh.2.1, hh.2.2.1, ER.erase m hh.2.2.2⟩
theorem delB_ok (hr : Rel P ρ h w) {t : TypeId} {ts : Array TypeId} {ty : TypeId} {m m' k k' : Value} {h' : AH} (ht : ts[0]? = some t) (hm : VR ρ m m') (hk : VR ρ k k') (e : delB P h t m k = some h') :
    ∃ w', (Builtin.delete_ ts ty #[m', k']).run P w = .ok (.tuple #[]) w' ∧ Rel P ρ h' w' ∧ Fw ρ h w ρ h' w' := by
  simp only [delB, Option.bind_eq_some_iff] at e
  obtain ⟨⟨d, el⟩, h1, e⟩ := e
  obtain ⟨kt, u1, u2⟩ := mapOf_ok h1
  cases hkb : keyB d k with
  | false => rw [hkb] at e; cases e
  | true =>
    rw [hkb] at e
    simp only [cond] at e
    obtain rfl := hk.eq_of_flat (keyB_flat hkb)
    split at e
    · cases e
      obtain rfl := hm.eq_of_flat rfl
      exact ⟨w, by simp [Builtin.delete_, ht, run_under u1, run_check u2 hkb], hr, Fw.refl _ _ _⟩
    · rename_i b
      split at e
      · rename_i es c hg
        simp only [Option.map_eq_some_iff] at e
        obtain ⟨r, h4, rfl⟩ := e
        obtain ⟨j, kk, rfl⟩ := hm.mapInv
        obtain ⟨es', q1, q2⟩ := hr.mapAt kk hg
        have hlt : j < w.heap.size := (Array.getElem?_eq_some_iff.1 q1).1
        have hput : ∀ (o1 : AO) (x1 : Obj), OR P ρ (ρ.k b) o1 x1 → Rel P ρ (h.set b o1) (w.putObj j x1) ∧ Fw ρ h w ρ (h.set b o1) (w.putObj j x1) := fun o1 x1 ho =>
          hr.turn (x1 := x1) kk hg trivial (fun e n c e => by cases e) (by rw [putObj_get _ hlt, if_pos rfl]) (fun i hi' => by rw [putObj_get _ hlt, if_neg hi']) (by simp [World.putObj]) rfl rfl rfl (fun _ => ho)
        rcases findNow_ok 0 q2 h4 with ⟨rfl, k2⟩ | ⟨mm, y, y', rfl, k2, k3, x, x', p1, p2, p3, p4, p5⟩
        · refine ⟨w, ?_, hr, Fw.refl _ _ _⟩
          simp only [Builtin.delete_, ht]
          simp [run_under u1, run_getMap q1, run_check u2 hkb, run_findKey_now u2 k2, run_putMap q1, putObj_self q1]
        · have := hput (.map (es.eraseIdx (0 + mm)) c) (.map (es'.eraseIdxIfInBounds (0 + mm)) c) (.map (by
            have : (es'.eraseIdxIfInBounds (0 + mm)).toList = es'.toList.eraseIdx (0 + mm) := by simp
            rw [this]
            exact ER.erase _ q2))
          refine ⟨_, ?_, this.1, this.2⟩
          simp only [Builtin.delete_, ht]
          simp [run_under u1, run_getMap q1, run_check u2 hkb, run_findKey_now u2 k2, run_putMap q1]
      · cases e
    · cases e
end
end Go.Proofs.YtcmildkkigccaaaGreatDoor.Run

/-
  A range over a map.
-/
namespace Go.Proofs.YtcmildkkigccaaaGreatDoor.Run
open Go
set_option linter.unusedVariables false
set_option linter.unusedSimpArgs false
section
variable {P : Program} {ρ : Rn} {gl : Gl} {sz : Nat} {tm : Tr Value} {a : Act} {h : AH} {w : World}
theorem run_newObj (o : Obj) : (newObj o).run P w = .ok w.heap.size (w.alloc o) := rfl
theorem rangeB_ok (hr : Rel P ρ h w) {t : TypeId} {x x' v : Value} {h' : AH} (hx : VR ρ x x') (e : rangeB P h t x = some (v, h')) :
    ∃ ρ' v' w', (Instr.range t x').run P w = .ok v' w' ∧ VR ρ' v v' ∧ Rel P ρ' h' w' ∧ Fw ρ h w ρ' h' w' := by
  unfold rangeB at e
  split at e
  · rename_i k el hu
    cases e
    obtain rfl := hx.eq_of_flat rfl
    have := hr.new 0 (o := .iter none 0 [] 0) (x := .mapIter none 0 #[] 0) (.iter (m' := none) trivial)
    exact ⟨_, _, _, by simp [Instr.range, run_under hu, run_newObj], .ptr newCells_ptr, this.1, this.2⟩
  · rename_i k el m hu
    split at e
    · rename_i es c hg
      cases e
      obtain ⟨j, kk, rfl⟩ := hx.mapInv
      obtain ⟨es', q1, q2⟩ := hr.mapAt kk hg
      have := hr.new 0 (o := .iter (some m) c [] c) (x := .mapIter (some j) c #[] c) (.iter (m' := some j) (Sub.ext (hr.none (Nat.le_refl _)) _ 0 _ _ kk).1)
      exact ⟨_, _, _, by simp [Instr.range, run_under hu, run_getMap q1, run_newObj], .ptr newCells_ptr, this.1, this.2⟩
    · cases e
  · cases e
theorem ER.filter (q : Nat → Bool) : ∀ {l l' : List MapEntry}, ER ρ l l' → ER ρ (l.filter fun e => q e.born) (l'.filter fun e => q e.born)
  | [], [], _ => trivial
  | [], _ :: _, hh => hh.elim
  | _ :: _, [], hh => hh.elim
  | x :: l, x' :: l', hh => by
    have IH := ER.filter q hh.2.2.2
    simp only [List.filter_cons, ← hh.2.2.1]
    cases q x.born with
    | true => exact ⟨hh.1, hh.2.1, hh.2.2.1, IH⟩
    | false => exact IH
theorem ER.all (q : Nat → Bool) : ∀ {l l' : List MapEntry}, ER ρ l l' → (l.all fun e => q e.born) = l'.all fun e => q e.born
  | [], [], _ => rfl
  | [], _ :: _, hh => hh.elim
  | _ :: _, [], hh => hh.elim
  | x :: l, x' :: l', hh => by simp only [List.all_cons]; rw [ER.all q hh.2.2.2, hh.2.2.1]
theorem ER.find (q : Nat → Bool) : ∀ {l l' : List MapEntry} {e : MapEntry}, ER ρ l l' → l.find? (fun e => q e.born) = some e → ∃ e', l'.find? (fun e => q e.born) = some e' ∧ VR ρ e.key e'.key ∧ VR ρ e.val e'.val
  | [], [], _, _, k => by simp at k
  | [], _ :: _, _, hh, _ => hh.elim
  | _ :: _, [], _, hh, _ => hh.elim
  | x :: l, x' :: l', e, hh, k => by
    simp only [List.find?_cons, ← hh.2.2.1] at k ⊢
    cases hq : q x.born with
    | true => rw [hq] at k; cases k; exact ⟨x', rfl, hh.1, hh.2.1⟩
    | false => rw [hq] at k; exact ER.find q hh.2.2.2 k
theorem Rel.iterAt (hr : Rel P ρ h w) {b j : Nat} {m : Option Nat} {since last : Nat} {seen : List Nat} (hb : ρ b = some j) (hg : h.get b = some (.iter m since seen last)) : ∃ m', w.heap[j]? = some (.mapIter m' since seen.toArray last) ∧ MO ρ m m' := by
  obtain ⟨x, h1, h2⟩ := hr.obj b j _ hb hg trivial
  cases h2 with
  | iter k => exact ⟨_, h1, k⟩
theorem run_getIter {j since last : Nat} {m : Option Nat} {seen : Array Nat} (hj : w.heap[j]? = some (.mapIter m since seen last)) : (getObj j).run P w = .ok (.mapIter m since seen last) w := by simp [getObj, Sem.run, hj]
theorem run_putIter {j since last : Nat} {m : Option Nat} {seen : Array Nat} (hj : w.heap[j]? = some (.mapIter m since seen last)) (o : Obj) : (setObj j o).run P w = .ok () (w.putObj j o) := by simp [setObj, Sem.run, hj, World.putObj]
theorem entryB_ok (hr : Rel P ρ h w) {it it' v : Value} (hx : VR ρ it it') (e : entryB h it = some v) : ∃ v', (Instr.entry it').run P w = .ok v' w ∧ VR ρ v v' := by
  unfold entryB at e
  split at e
  · rename_i r
    split at e
    · rename_i m since seen last hg
      simp only [Option.bind_eq_some_iff] at e
      obtain ⟨stamp, h1, e⟩ := e
      split at e
      · rename_i es c hg2
        cases hc : Nat.beq c last with
        | false => rw [hc] at e; cases e
        | true =>
          rw [hc] at e
          simp only [cond, Option.map_eq_some_iff] at e
          obtain ⟨x, h2, rfl⟩ := e
          have := beq_true hc; subst this
          obtain ⟨j, k, rfl⟩ := hx.ptrInv
          obtain ⟨m', q1, q2⟩ := hr.iterAt k hg
          cases m' with
          | none => exact q2.elim
          | some jm =>
            obtain ⟨es', q3, q4⟩ := hr.mapAt q2 hg2
            have hq : ∀ e : MapEntry, Nat.beq e.born stamp = (e.born == stamp) := fun e => by cases h : Nat.beq e.born stamp <;> simp_all [Nat.beq_eq_true_eq]; exact (beq_false h)
            simp only [hq] at h2
            obtain ⟨x', p1, p2, p3⟩ := ER.find (fun n => n == stamp) q4 h2
            refine ⟨_, ?_, VR.tuple_list (.cons p2 (.cons p3 .nil))⟩
            have hb : seen.toArray.back? = some stamp := by simpa using h1
            have hf : es'.find? (fun e => e.born == stamp) = some x' := by rw [← Array.find?_toList]; exact p1
            simp [Instr.entry, run_getIter q1, hb, run_getMap q3, hf]
      · cases e
    · cases e
  · cases e
theorem nextB_ok (hr : Rel P ρ h w) {it it' v : Value} {h' : AH} (ty : TypeId) (hx : VR ρ it it') (e : nextB h it = some (v, h')) :
    ∃ v' w', (Instr.next it' false ty).run P w = .ok v' w' ∧ VR ρ v v' ∧ Rel P ρ h' w' ∧ Fw ρ h w ρ h' w' := by
  unfold nextB at e
  split at e
  · rename_i r
    obtain ⟨j, k, rfl⟩ := hx.ptrInv
    split at e
    · rename_i since seen last hg
      cases e
      obtain ⟨m', q1, q2⟩ := hr.iterAt k hg
      cases m' with
      | some _ => exact q2.elim
      | none => exact ⟨_, w, by simp [Instr.next, run_getIter q1], VR.tuple_list (.cons (.fl rfl) .nil), hr, Fw.refl _ _ _⟩
    · rename_i m since seen last hg
      obtain ⟨m', q1, q2⟩ := hr.iterAt k hg
      cases m' with
      | none => exact q2.elim
      | some jm =>
        split at e
        · rename_i es c hg2
          obtain ⟨es', q3, q4⟩ := hr.mapAt q2 hg2
          cases hc : (!seen.isEmpty && !es.isEmpty && es.all (fun e => Nat.ble last e.born)) with
          | true => rw [hc] at e; cases e
          | false =>
            rw [hc] at e
            simp only [cond] at e
            have hble : ∀ a b : Nat, Nat.ble a b = decide (a ≤ b) := fun a b => by cases h : Nat.ble a b <;> simp_all [Nat.ble_eq]; exact ble_false h
            have hc' : (!seen.toArray.isEmpty && !es'.isEmpty && es'.all (fun e => decide (e.born ≥ last))) = false := by
              have e1 := ER.all (fun n => Nat.ble last n) q4
              have e2 : es.isEmpty = es'.isEmpty := by
                have := ER.length q4
                cases es with
                | nil => simp at this; have : es' = #[] := Array.eq_empty_of_size_eq_zero (by omega); simp [this]
                | cons x l => simp at this; simp; intro k; subst k; simp at this
              rw [e1, e2] at hc
              rw [← hc]
              simp [hble, ← Array.all_toList]
            have hfl := ER.filter (fun n => !seen.contains n) q4
            have hfl' : (es'.filter fun e => !seen.toArray.contains e.born) = (es'.toList.filter fun e => !seen.contains e.born).toArray := by
              simp [← Array.toList_inj]
            split at e
            · rename_i hnil
              cases e
              rw [hnil] at hfl
              have hn' : (es'.toList.filter fun e => !seen.contains e.born) = [] := by
                cases hq : (es'.toList.filter fun e => !seen.contains e.born) with
                | nil => rfl
                | cons x l => rw [hq] at hfl; exact hfl.elim
              rw [hn'] at hfl'
              refine ⟨_, w, ?_, VR.tuple_list (.cons (.fl rfl) .nil), hr, Fw.refl _ _ _⟩
              simp only [Instr.next, Sem.run_bind, run_getIter q1, Result.andThen_ok, run_getMap q3, hc', hfl', Bool.false_eq_true, if_false]
              simp [choose, Sem.run, Question.forced]
            · rename_i x hone
              split at e
              · rename_i hb
                cases e
                have hb := blt_true hb
                rw [hone] at hfl
                obtain ⟨x', hn', p1, p2, p3⟩ : ∃ x', (es'.toList.filter fun e => !seen.contains e.born) = [x'] ∧ VR ρ x.key x'.key ∧ VR ρ x.val x'.val ∧ x.born = x'.born := by
                  cases hq : (es'.toList.filter fun e => !seen.contains e.born) with
                  | nil => rw [hq] at hfl; exact hfl.elim
                  | cons y l =>
                    rw [hq] at hfl
                    cases l with
                    | nil => exact ⟨y, rfl, hfl.1, hfl.2.1, hfl.2.2.1⟩
                    | cons _ _ => exact hfl.2.2.2.elim
                rw [hn'] at hfl'
                have hlt : j < w.heap.size := (Array.getElem?_eq_some_iff.1 q1).1
                have hput := hr.turn (o1 := .iter (some m) since (seen ++ [x.born]) c) (x1 := .mapIter (some jm) since (seen ++ [x.born]).toArray c) (w' := w.putObj j (.mapIter (some jm) since (seen ++ [x.born]).toArray c)) k hg trivial (fun e n c e => by cases e) (by rw [putObj_get _ hlt, if_pos rfl]) (fun i hi' => by rw [putObj_get _ hlt, if_neg hi']) (by simp [World.putObj]) rfl rfl rfl (fun _ => .iter (m' := some jm) q2)
                refine ⟨_, _, ?_, VR.tuple_list (.cons (.fl rfl) (.cons p1 (.cons p2 .nil))), hput.1, hput.2⟩
                have hb' : x'.born < since := by omega
                have hnb : ¬ (since ≤ x'.born) := by omega
                simp only [Instr.next, Sem.run_bind, run_getIter q1, Result.andThen_ok, run_getMap q3, hc', hfl', Bool.false_eq_true, if_false]
                simp [choose, Sem.run, Question.forced, hb', hnb, run_putIter q1, p3]
              · cases e
            · cases e
        · cases e
    · cases e
  · cases e
end
end Go.Proofs.YtcmildkkigccaaaGreatDoor.Run

/-
  append.
-/
namespace Go.Proofs.YtcmildkkigccaaaGreatDoor.Run
open Go
set_option linter.unusedVariables false
set_option linter.unusedSimpArgs false
section
variable {P : Program} {ρ : Rn} {gl : Gl} {sz : Nat} {tm : Tr Value} {a : Act} {h : AH} {w : World}
theorem elemsOf_ok (hr : Rel P ρ h w) {s k : Nat} {x x' : Value} {l : List Value} (hx : VR ρ x x') (hk : ∀ m, lenB x = some m → k ≤ m) (e : elemsOf h s k x = some l) : ∃ l', (Builtin.firstCells s k x').run P w = .ok l'.toArray w ∧ L2 ρ l l' := by
  unfold elemsOf at e
  split at e
  · cases e
    obtain rfl := hx.eq_of_flat rfl
    exact ⟨[], by simp [Builtin.firstCells], .nil⟩
  · rename_i b o n c
    split at e
    · rename_i el m cc ro hg
      cases hb : (o + k * s).ble m with
      | false => rw [hb] at e; cases e
      | true =>
        rw [hb] at e
        simp only [cond] at e
        have hb := ble_true hb
        rcases hx.sliceInv with ⟨j, c', kk, rfl, _, _⟩ | ⟨k1, rfl, _, ad, c', rfl⟩
        · obtain ⟨cs, lo, hi, q1, q2, q3, q4, q5⟩ := hr.cellsAt kk hg
          obtain ⟨p1, p2⟩ := rdCells_ok q3 _ _ l e hb
          exact ⟨_, by simp only [Builtin.firstCells]; exact run_rd q1 (by omega), p1⟩
        · have hk0 := hk 0 rfl
          obtain rfl : k = 0 := by omega
          rw [Nat.zero_mul] at e
          simp only [rdCells] at e; cases e
          exact ⟨[], by simp [Builtin.firstCells, loadCells, loadCellsFrom], .nil⟩
    · cases e
  · rename_i str
    cases e
    obtain rfl := hx.eq_of_flat rfl
    refine ⟨(str.data.toList.take k).map fun b => .int .u8 b.toNat, ?_, ?_⟩
    · simp only [Builtin.firstCells]
      show Result.ok _ w = _
      congr 1
      apply Array.ext'
      simp
    · generalize str.data.toList.take k = q
      induction q with
      | nil => exact .nil
      | cons x q ih => exact .cons (.fl rfl) ih
  · cases e
theorem lenB_ok {x x' : Value} {k : Nat} (hx : VR ρ x x') (e : lenB x = some k) (w : World) : (Builtin.lenOf x').run P w = .ok k w := by
  cases x <;> simp [lenB] at e
  · subst e; obtain rfl := hx.eq_of_flat rfl; rfl
  · subst e
    cases hx with
    | fl hf => rfl
    | slice k1 k2 k3 => rfl
    | slice0 k1 => rfl
theorem plain_cases {ts : Array TypeId} (hp : plainArg P ts = true) : ts[1]? = none ∨ ∃ u d, ts[1]? = some u ∧ P.underlying u = some d ∧ (match d with | .int _ => true | _ => false) = false := by
  unfold plainArg at hp
  cases h1 : ts[1]? with
  | none => exact .inl rfl
  | some u =>
    rw [h1] at hp
    simp only at hp
    cases h2 : P.underlying u with
    | none => rw [h2] at hp; cases hp
    | some d =>
      rw [h2] at hp
      refine .inr ⟨u, d, rfl, h2, ?_⟩
      cases d <;> simp at hp <;> rfl
set_option maxHeartbeats 1000000 in
/-- What is appended is no length: the second argument's type does not matter. -/
theorem append_head {ts : Array TypeId} {t elem ty : TypeId} {i : TypeInfo} {base : Option Addr} {n c : Nat} {x' : Value} (ht : ts[0]? = some t) (hp : plainArg P ts = true) (hu : P.underlying t = some (.slice elem)) (hi : P.info? elem = some i) :
    (Builtin.append_ ts ty #[.slice base n c, x']).run P w = (Builtin.append_ #[t] ty #[.slice base n c, x']).run P w := by
  have hsz : (sizeOf elem).run P w = .ok i.size w := run_size (by simp [sizeB, hi]) w
  rcases plain_cases hp with h1 | ⟨u, d, h1, h2, h3⟩
  · unfold Builtin.append_
    simp only [ht, h1]
    rfl
  · unfold Builtin.append_
    simp only [ht, h1, List.getElem?_toArray, List.getElem?_cons_zero, List.getElem?_cons_succ, List.getElem?_nil]
    rw [Sem.run_bind, Sem.run_bind, run_under hu]
    simp only [Result.andThen_ok]
    rw [Sem.run_bind, Sem.run_bind, hsz]
    simp only [Result.andThen_ok]
    rw [Sem.run_bind, run_under h2]
    simp only [Result.andThen_ok]
    cases d <;> first | (simp at h3; done) | rfl
theorem append_room {ts : Array TypeId} {t elem ty : TypeId} {i : TypeInfo} {base : Option Addr} {n c k : Nat} {x' : Value} {new : List Value} {w' : World} (ht : ts[0]? = some t) (hp : plainArg P ts = true) (hu : P.underlying t = some (.slice elem))
    (hi : P.info? elem = some i) (hl : (Builtin.lenOf x').run P w = .ok k w) (hc : n + k ≤ c) (hn : (Builtin.firstCells i.size k x').run P w = .ok new.toArray w)
    (hs : ∀ ad, base = some ad → (storeCells (ad.add (n * i.size)) new).run P w = .ok () w') (h0 : base = none → w' = w) :
    (Builtin.append_ ts ty #[.slice base n c, x']).run P w = .ok (.slice base (n + k) c) w' := by
  have hsz : (sizeOf elem).run P w = .ok i.size w := run_size (by simp [sizeB, hi]) w
  rw [append_head ht hp hu hi]
  cases base with
  | none => simp [Builtin.append_, run_under hu, hsz, hl, hc, hn, h0 rfl]
  | some ad => simp [Builtin.append_, run_under hu, hsz, hl, hc, hn, hs ad rfl]
theorem append_grow {ts : Array TypeId} {t elem ty : TypeId} {i : TypeInfo} {z : Value} {base : Option Addr} {n c k : Nat} {x' : Value} {old new : List Value} (ht : ts[0]? = some t) (hp : plainArg P ts = true) (hu : P.underlying t = some (.slice elem))
    (hi : P.info? elem = some i) (hz : i.zero = some z) (hl : (Builtin.lenOf x').run P w = .ok k w) (hc : c < n + k) (hb : (n + k) * (i.bytes + 1) ≤ 16777216) (hn : (Builtin.firstCells i.size k x').run P w.drew = .ok new.toArray w.drew)
    (ho : (Builtin.firstCells i.size n (.slice base n c)).run P w.drew = .ok old.toArray w.drew) :
    (Builtin.append_ ts ty #[.slice base n c, x']).run P w = .ok (.slice (some ⟨w.heap.size, 0, none⟩) (n + k) (grownCap w (n + k) c elem)) (w.drew.alloc (.cells (old ++ new ++ (Builtin.zeroCells z.cells (grownCap w (n + k) c elem - (n + k))).toList).toArray elem)) := by
  have hsz : (sizeOf elem).run P w = .ok i.size w := run_size (by simp [sizeB, hi]) w
  have hc' : ¬ (n + k ≤ c) := by omega
  have hmul : (n + k) * i.bytes ≤ 16777216 ∧ n + k ≤ 16777216 := by
    rw [Nat.mul_add, Nat.mul_one] at hb
    exact ⟨by omega, by omega⟩
  have h63 : ¬ (9223372036854775807 < ((n : Int) + (k : Int))) := by omega
  have hcap := nextslicecap_le hc
  have h48 : ¬ (281474976710656 < Builtin.nextslicecap (n + k) c * i.bytes) := by
    have : Builtin.nextslicecap (n + k) c * i.bytes ≤ 2 * (n + k) * i.bytes := Nat.mul_le_mul_right _ hcap
    rw [Nat.mul_assoc] at this
    omega
  rw [append_head ht hp hu hi]
  simp [Builtin.append_, run_under hu, hsz, typeInfo, zeroValue, hi, hz, hl, hc', h63, h48, Question.forced, hn, ho, newRow, grownCap]
  congr 2
  apply Array.ext'
  simp [List.append_assoc]
end
end Go.Proofs.YtcmildkkigccaaaGreatDoor.Run

/-
  append, told of the evaluator.
-/
namespace Go.Proofs.YtcmildkkigccaaaGreatDoor.Run
open Go
set_option linter.unusedVariables false
set_option linter.unusedSimpArgs false
section
variable {P : Program} {ρ : Rn} {gl : Gl} {sz : Nat} {tm : Tr Value} {a : Act} {h : AH} {w : World}
theorem Rel.move {w' : World} (hr : Rel P ρ h w) {b j : Nat} {o o1 : AO} {x1 : Obj} (hb : ρ b = some j) (ho : h.get b = some o) (hl : o.live) (hro : ∀ e n c, o ≠ .cells e n c true)
    (hw : w'.heap[j]? = some x1) (hk : ∀ i, i ≠ j → w'.heap[i]? = w.heap[i]?) (hz : w'.heap.size = w.heap.size) (h1 : w'.os = w.os) (h2 : w'.tape = w.tape) (h3 : w'.output = w.output)
    (hx : OR P ρ (ρ.k b) o1 x1) : Rel P (Run.ext ρ h.next j (ρ.k b)) ((h.set b .gone).new o1) w' ∧ Fw ρ h w (Run.ext ρ h.next j (ρ.k b)) ((h.set b .gone).new o1) w' := by
  have hn := hr.none (Nat.le_refl h.next)
  have hs := Sub.ext hn j (ρ.k b)
  have hnx : (h.set b .gone).next = h.next := rfl
  have hbn : b ≠ h.next := fun e => by rw [e, hn] at hb; cases hb
  have hdj := (hr.dom b j hb).2
  refine ⟨⟨fun c k e => ?_, fun c k a e1 e2 e3 => ?_, fun c c' k a a' e1 e2 e3 e4 e5 e6 => ?_⟩,
    ⟨hs, fun c hc e => ?_, fun c k e => ?_, fun k hk' hnn => hk k (fun e => hnn b (e ▸ hb)), fun c k el n cc e1 e2 => ?_, Nat.le_succ _, by omega, h1, h2, h3⟩⟩
  · simp only [Run.ext] at e
    by_cases hc : c = h.next
    · rw [if_pos hc] at e; cases e; exact ⟨by subst hc; exact Nat.lt_succ_self _, by omega⟩
    · rw [if_neg hc] at e; have := hr.dom c k e; exact ⟨Nat.lt_succ_of_lt this.1, by omega⟩
  · simp only [Run.ext] at e1
    rw [AH.get_new, hnx, AH.get_set] at e2
    by_cases hc : c = h.next
    · rw [if_pos hc] at e1 e2; cases e1; cases e2
      have hk : (Run.ext ρ h.next j (ρ.k b)).k c = ρ.k b := if_pos hc
      rw [hk]
      exact ⟨x1, hw, hx.mono hs⟩
    · rw [if_neg hc] at e1 e2
      by_cases hcb : c = b
      · rw [if_pos hcb] at e2; cases e2; exact e3.elim
      · rw [if_neg hcb] at e2
        obtain ⟨y, hy, hy2⟩ := hr.obj c k a e1 e2 e3
        have hkk : (Run.ext ρ h.next j (ρ.k b)).k c = ρ.k c := if_neg hc
        rw [hkk]
        exact ⟨y, by rw [hk k (fun e => hcb (hr.inj c b k a o e1 (e ▸ hb) e2 e3 ho hl)), hy], hy2.mono hs⟩
  · simp only [Run.ext] at e1 e2
    rw [AH.get_new, hnx, AH.get_set] at e3 e5
    by_cases hc : c = h.next <;> by_cases hc' : c' = h.next
    · rw [hc, hc']
    · rw [if_pos hc] at e1; rw [if_neg hc'] at e2 e5; cases e1
      by_cases hcb : c' = b
      · rw [if_pos hcb] at e5; cases e5; exact e6.elim
      · rw [if_neg hcb] at e5; exact absurd (hr.inj c' b j a' o e2 hb e5 e6 ho hl) hcb
    · rw [if_neg hc] at e1 e3; rw [if_pos hc'] at e2; cases e2
      by_cases hcb : c = b
      · rw [if_pos hcb] at e3; cases e3; exact e4.elim
      · rw [if_neg hcb] at e3; exact absurd (hr.inj c b j a o e1 hb e3 e4 ho hl) hcb
    · rw [if_neg hc] at e1 e3; rw [if_neg hc'] at e2 e5
      by_cases hcb : c = b
      · rw [if_pos hcb] at e3; cases e3; exact e4.elim
      · by_cases hcb' : c' = b
        · rw [if_pos hcb'] at e5; cases e5; exact e6.elim
        · rw [if_neg hcb] at e3; rw [if_neg hcb'] at e5; exact hr.inj c c' k a a' e1 e2 e3 e4 e5 e6
  · simp only [Run.ext]
    rw [AH.get_new, hnx, AH.get_set, if_neg (by omega), if_neg (by omega), if_neg (fun k => by subst k; rw [hb] at e; cases e)]
    exact ⟨e, rfl⟩
  · simp only [Run.ext] at e
    by_cases hc : c = h.next
    · rw [if_pos hc] at e; cases e; exact .inr ⟨b, hb⟩
    · rw [if_neg hc] at e; exact .inr ⟨c, e⟩
  · have hcb : c ≠ b := fun k => by subst k; rw [ho] at e2; cases e2; exact hro _ _ _ rfl
    have hcn : c ≠ h.next := fun k => by rw [k, hn] at e1; cases e1
    rw [AH.get_new, hnx, AH.get_set, if_neg hcn, if_neg hcb]
    exact ⟨rfl, hk k (fun e => hcb (hr.inj c b k _ o e1 (e ▸ hb) e2 trivial ho hl))⟩
theorem Rel.kill (hr : Rel P ρ h w) {b j : Nat} {o : AO} (hb : ρ b = some j) (ho : h.get b = some o) (hl : o.live) (hro : ∀ e n c, o ≠ .cells e n c true) :
    Rel P ρ (h.set b .gone) w ∧ Fw ρ h w ρ (h.set b .gone) w := by
  obtain ⟨x, h1, h2⟩ := hr.obj b j o hb ho hl
  exact hr.turn (o1 := .gone) (x1 := x) hb ho hl hro h1 (fun _ _ => rfl) rfl rfl rfl rfl (fun k => k.elim)
theorem cellsOf_info {e : TypeId} {i : TypeInfo} (hi : P.info? e = some i) : P.cellsOf e = i.size := by simp [Program.cellsOf, hi]
theorem zeroCells_size (z : Array Value) (n : Nat) : (Builtin.zeroCells z n).size = n * z.size := by simp [Builtin.zeroCells]
theorem and5 {x y z u v : Bool} (h : (x && y && z && u && v) = true) : x = true ∧ y = true ∧ z = true ∧ u = true ∧ v = true := by cases x <;> cases y <;> cases z <;> cases u <;> cases v <;> simp_all
theorem L2.nil' {l' : List Value} (h : L2 ρ [] l') : l' = [] := by cases h; rfl
/-- The grown row. -/
theorem grown_ok (hr : Rel P ρ h w) {elem : TypeId} {i : TypeInfo} {z : Value} {n k : Nat} {c : Nat} {old old' new new' : List Value} (hi : P.info? elem = some i) (hz : (Value.cl z).length = i.size)
    (ho : L2 ρ old old') (hn : L2 ρ new new') (hol : old.length = n * i.size) (hnl : new.length = k * i.size) :
    ∃ ρ', ρ' h.next = some w.heap.size ∧ VR ρ' (.slice (some ⟨h.next, 0, none⟩) (n + k) UNK) (.slice (some ⟨w.heap.size, 0, none⟩) (n + k) (grownCap w (n + k) c elem)) ∧
      Rel P ρ' (newCells h elem (old ++ new)) (w.drew.alloc (.cells (old' ++ new' ++ (Builtin.zeroCells z.cells (grownCap w (n + k) c elem - (n + k))).toList).toArray elem)) ∧
      Fw ρ h w ρ' (newCells h elem (old ++ new)) (w.drew.alloc (.cells (old' ++ new' ++ (Builtin.zeroCells z.cells (grownCap w (n + k) c elem - (n + k))).toList).toArray elem)) := by
  have hcap := grownCap_ge w (n + k) c elem
  have hr' : Rel P ρ h w.drew := hr.drawn rfl
  have hzl : z.cells.size = i.size := by rw [cl_eq] at hz; simpa using hz
  have h1 := hr'.newRow (grownCap w (n + k) c elem) (t := elem) (cs := (old' ++ new' ++ (Builtin.zeroCells z.cells (grownCap w (n + k) c elem - (n + k))).toList).toArray) (ho.append hn) ⟨_, rfl⟩ (by
    have e1 := ho.length; have e2 := hn.length
    rw [cellsOf_info hi]
    simp only [List.size_toArray, List.length_append, Array.length_toList, zeroCells_size, hzl, ← e1, ← e2, hol, hnl]
    rw [← Nat.add_mul, ← Nat.add_mul]
    exact Nat.mul_le_mul_right _ (by omega))
  exact ⟨_, newCells_ptr, .slice newCells_ptr (.inr ⟨rfl, fun _ => by show _ ≤ (if h.next = h.next then _ else _); rw [if_pos rfl]; exact Nat.le_refl _⟩) hcap, h1.1, (Fw.drawn (w := w) (w' := w.drew) rfl rfl rfl rfl).trans h1.2⟩
theorem appendB_ok (hr : Rel P ρ h w) {ts : Array TypeId} {ty : TypeId} {s s' x x' v : Value} {h' : AH} (hs : VR ρ s s') (hx : VR ρ x x') (e : appendB P h ts s x = some (v, h')) :
    ∃ ρ' v' w', (Builtin.append_ ts ty #[s', x']).run P w = .ok v' w' ∧ VR ρ' v v' ∧ Rel P ρ' h' w' ∧ Fw ρ h w ρ' h' w' := by
  simp only [appendB, Option.bind_eq_some_iff] at e
  obtain ⟨t, ht, e⟩ := e
  split at e
  · rename_i elem base n c hu
    simp only [Option.bind_eq_some_iff] at e
    obtain ⟨i, hi, z, hz, k, hk, new, hnew, e⟩ := e
    cases hb : (plainArg P ts && Nat.ble ((n + k) * (i.bytes + 1)) 16777216 && Nat.beq new.length (k * i.size) && Nat.beq (Value.cl z).length i.size && new.all one) with
    | false => rw [hb] at e; cases e
    | true =>
      rw [hb] at e
      simp only [cond] at e
      obtain ⟨b1, b2, b3, b4, b5⟩ := and5 hb
      have b2 := ble_true b2; have b3 := beq_true b3; have b4 := beq_true b4
      obtain ⟨hzf, i2, hi2, hz2⟩ := zeroB_flat hz
      rw [hi] at hi2; cases hi2
      have hl := lenB_ok (P := P) hx hk
      obtain ⟨new', hn1, hn2⟩ := elemsOf_ok hr hx (fun m e => by rw [hk] at e; cases e; exact Nat.le_refl _) hnew
      have hr' : Rel P ρ h w.drew := hr.drawn rfl
      obtain ⟨new'', hn3, hn4⟩ := elemsOf_ok hr' hx (fun m e => by rw [hk] at e; cases e; exact Nat.le_refl _) hnew
      have hnn := hn2.length
      split at e
      · -- nil
        cases hc0 : (Nat.beq n 0 && Nat.beq c 0) with
        | false => rw [hc0] at e; cases e
        | true =>
          rw [hc0] at e
          simp only [cond] at e
          simp only [Bool.and_eq_true] at hc0
          have c1 := beq_true hc0.1; have c2 := beq_true hc0.2
          subst c1; subst c2
          obtain rfl := hs.eq_of_flat rfl
          cases hk0 : Nat.beq k 0 with
          | true =>
            rw [hk0] at e
            simp only at e
            cases e
            have := beq_true hk0; subst this
            have hnil : new = [] := List.length_eq_zero_iff.1 (by omega)
            subst hnil
            obtain rfl := hn2.nil'
            exact ⟨ρ, .slice none 0 0, w, append_room ht b1 hu hi (hl w) (Nat.le_refl _) hn1 (fun ad e => by cases e) (fun _ => rfl), .fl rfl, hr, Fw.refl _ _ _⟩
          | false =>
            rw [hk0] at e
            simp only at e
            cases e
            have := beq_false hk0
            obtain ⟨ρ', g1, g2, g3, g4⟩ := grown_ok (c := 0) (n := 0) (k := k) hr hi b4 (L2.nil) hn4 (by simp) b3
            have := append_grow (ty := ty) (base := none) (n := 0) (c := 0) (old := []) ht b1 hu hi hz2 (hl w) (by omega) b2 hn3 (by simp [Builtin.firstCells])
            rw [Nat.zero_add] at g2 g3 g4 this
            rw [List.nil_append] at g3 g4
            exact ⟨ρ', _, _, this, g2, g3, g4⟩
      · rename_i b o
        split at e
        all_goals rename_i hk0
        · -- nothing is appended
          cases e
          simp only [Bool.and_eq_true] at hk0
          have c1 := beq_true hk0.1; have c2 := ble_true hk0.2
          subst c1
          have hnil : new = [] := List.length_eq_zero_iff.1 (by omega)
          subst hnil
          obtain rfl := hn2.nil'
          rcases hs.sliceInv with ⟨j, c', kk, rfl, k2, k3⟩ | ⟨k1, rfl, rfl, ad, c', rfl⟩
          · exact ⟨ρ, .slice (some ⟨j, o, none⟩) n c', w, by have := append_room (ty := ty) (base := some ⟨j, o, none⟩) (n := n) (c := c') (w' := w) ht b1 hu hi (hl w) (by omega) hn1 (fun ad e => by simp [storeCells]) (fun e => by cases e); exact this, .slice kk k2 k3, hr, Fw.refl _ _ _⟩
          · exact ⟨ρ, .slice (some ad) 0 c', w, by have := append_room (ty := ty) (base := some ad) (n := 0) (c := c') (w' := w) ht b1 hu hi (hl w) (by omega) hn1 (fun ad e => by simp [storeCells]) (fun e => by cases e); exact this, .slice0 k1, hr, Fw.refl _ _ _⟩
        · split at e
          · rename_i el m cs hg
            cases hcu : Nat.beq c UNK with
            | true =>
              rw [hcu] at e
              simp only [cond] at e
              have hcu := beq_true hcu
              subst hcu
              cases hb3 : (Nat.beq o 0 && Nat.beq (n * i.size) m && Nat.beq el elem) with
              | false => rw [hb3] at e; cases e
              | true =>
                rw [hb3] at e
                simp only [Option.map_eq_some_iff] at e
                obtain ⟨old, hold, e⟩ := e
                cases e
                obtain ⟨d1, d2, d3⟩ := and3 hb3
                have d1 := beq_true d1; have d2 := beq_true d2; have d3 := beq_true d3
                subst d1; subst d2; subst d3
                rcases hs.sliceInv with ⟨j, c', kk, rfl, k2, k3⟩ | ⟨k1, _⟩
                · have k2' : c' ≤ ρ.k b := by rcases k2 with k2 | k2; · omega
                                              · exact k2.2 rfl
                  obtain ⟨ra, lo, hi', q1, q2, q3, q4, q5⟩ := hr.cellsAt kk hg
                  obtain ⟨p1, p2⟩ := rdCells_ok q3 _ _ old hold (by omega)
                  rw [cellsOf_info hi] at q5
                  have hmul : c' * i.size ≤ ρ.k b * i.size := Nat.mul_le_mul_right _ k2'
                  have hlt : j < w.heap.size := (Array.getElem?_eq_some_iff.1 q1).1
                  by_cases hroom : n + k ≤ c'
                  · have hmul2 : (n + k) * i.size ≤ c' * i.size := Nat.mul_le_mul_right _ hroom
                    have hmul3 : (n + k) * i.size = n * i.size + k * i.size := Nat.add_mul _ _ _
                    have hwr := run_wr (P := P) (0 + n * i.size) new' 0 ra w q1 (by omega) (all_one hn2 b5) (q4 rfl)
                    have hmv := hr.move (o1 := .cells el (old ++ new).length (Tr.ofFrom (old ++ new) 0 .e) false) (w' := w.putObj j (.cells (wrA ra (0 + n * i.size) new') el (lo, hi'))) kk hg trivial (fun e n c k => by cases k)
                      (by rw [putObj_get _ hlt, if_pos rfl]) (fun i hi' => by rw [putObj_get _ hlt, if_neg hi']) (by simp [World.putObj]) rfl rfl rfl
                      (.cells (by rw [wrA_size, cellsOf_info hi]; exact q5) (by rw [wrA_size, List.length_append]; omega) (fun x hx' => by
                        rw [Tr.get_of, wrA_get _ _ _ _ (by omega)]
                        have hxx : x < old.length + new.length := by simpa using hx'
                        by_cases hxo : x < old.length
                        · rw [List.getElem?_append_left hxo, if_neg (by omega)]
                          have hv : old[x]? = some (old[x]'hxo) := by simp
                          obtain ⟨u', e1, e2⟩ := p1.get _ _ hv
                          refine ⟨_, u', hv, ?_, e2⟩
                          rw [List.drop_zero, List.getElem?_take, if_pos (by omega)] at e1
                          simpa using e1
                        · rw [List.getElem?_append_right (by omega), if_pos (by omega)]
                          have hlt2 : x - old.length < new.length := by omega
                          have hv : new[x - old.length]? = some (new[x - old.length]'hlt2) := by simp
                          obtain ⟨u', e1, e2⟩ := hn2.get _ _ hv
                          exact ⟨_, u', hv, by rw [show x - (0 + n * i.size) = x - old.length by omega]; exact e1, e2⟩) (fun e x hx' => q4 rfl x (by rw [wrA_size] at hx'; exact hx')))
                    refine ⟨_, .slice (some ⟨j, 0, none⟩) (n + k) c', _, append_room ht b1 hu hi (hl w) hroom hn1 (fun ad e => by cases e; rw [addr_add]; exact hwr) (fun e => by cases e), ?_, hmv.1, hmv.2⟩
                    refine .slice newCells_ptr (.inr ⟨rfl, fun _ => ?_⟩) hroom
                    show c' ≤ (if h.next = h.next then _ else _)
                    rw [if_pos rfl]; exact k2'
                  · have hkl := hr.kill kk hg trivial (fun e n c k => by cases k)
                    obtain ⟨ρ', g1, g2, g3, g4⟩ := grown_ok (c := c') (n := n) (k := k) hkl.1 hi b4 p1 hn4 p2 b3
                    have := append_grow (ty := ty) (base := some ⟨j, 0, none⟩) (n := n) (c := c') ht b1 hu hi hz2 (hl w) (by omega) b2 hn3 (by simp only [Builtin.firstCells]; exact run_rd (w := w.drew) (o := 0) (k := n * i.size) q1 (by omega))
                    exact ⟨ρ', _, _, this, g2, g3, hkl.2.trans g4⟩
                · omega
            | false =>
              rw [hcu] at e
              simp only [cond] at e
              have hcn := beq_false hcu
              rcases hs.sliceInv with ⟨j, c', kk, rfl, k2, k3⟩ | ⟨_, _, k1, _⟩
              · rcases k2 with ⟨rfl, hlt⟩ | k2
                · obtain ⟨ra, lo, hi', q1, q2, q3, q4, q5⟩ := hr.cellsAt kk hg
                  cases hroom : Nat.ble (n + k) c' with
                  | true =>
                    rw [hroom] at e
                    simp only at e
                    have hroom := ble_true hroom
                    cases hfit : Nat.ble (o + (n + k) * i.size) m with
                    | false => rw [hfit] at e; cases e
                    | true =>
                      rw [hfit] at e
                      cases e
                      have hfit := ble_true hfit
                      have hmul3 : (n + k) * i.size = n * i.size + k * i.size := Nat.add_mul _ _ _
                      have hw := hr.write (o := o + n * i.size) kk hg q1 hn2 (by omega)
                      have hwr := run_wr (P := P) (o + n * i.size) new' 0 ra w q1 (by omega) (all_one hn2 b5) (q4 rfl)
                      exact ⟨ρ, .slice (some ⟨j, o, none⟩) (n + k) c', _, append_room ht b1 hu hi (hl w) hroom hn1 (fun ad e => by cases e; rw [addr_add]; exact hwr) (fun e => by cases e), .slice kk (.inl ⟨rfl, hlt⟩) hroom, hw.1, hw.2⟩
                  | false =>
                    rw [hroom] at e
                    simp only at e
                    have hroom := ble_false hroom
                    cases hfit : Nat.ble (o + n * i.size) m with
                    | false => rw [hfit] at e; cases e
                    | true =>
                      rw [hfit] at e
                      simp only [Option.map_eq_some_iff] at e
                      obtain ⟨old, hold, e⟩ := e
                      cases e
                      have hfit := ble_true hfit
                      obtain ⟨p1, p2⟩ := rdCells_ok q3 _ _ old hold hfit
                      obtain ⟨ρ', g1, g2, g3, g4⟩ := grown_ok (c := c') (n := n) (k := k) hr hi b4 p1 hn4 p2 b3
                      have := append_grow (ty := ty) (base := some ⟨j, o, none⟩) (n := n) (c := c') ht b1 hu hi hz2 (hl w) (by omega) b2 hn3 (by simp only [Builtin.firstCells]; exact run_rd (w := w.drew) (o := o) (k := n * i.size) q1 (by omega))
                      exact ⟨ρ', _, _, this, g2, g3, g4⟩
                · exact absurd k2.1 hcn
              · exact absurd k1 hcn
          · cases e
      · cases e
  · cases e
end
end Go.Proofs.YtcmildkkigccaaaGreatDoor.Run

/-
  copy, make, and the other builtins.
-/
namespace Go.Proofs.YtcmildkkigccaaaGreatDoor.Run
open Go
set_option linter.unusedVariables false
set_option linter.unusedSimpArgs false
section
variable {P : Program} {ρ : Rn} {gl : Gl} {sz : Nat} {tm : Tr Value} {a : Act} {h : AH} {w : World}
theorem copyB_ok (hr : Rel P ρ h w) {ts : Array TypeId} {ty : TypeId} {s s' x x' v : Value} {h' : AH} (hs : VR ρ s s') (hx : VR ρ x x') (e : copyB P h ts s x = some (v, h')) :
    ∃ ρ' v' w', (Builtin.copy_ ts ty #[s', x']).run P w = .ok v' w' ∧ VR ρ' v v' ∧ Rel P ρ' h' w' ∧ Fw ρ h w ρ' h' w' := by
  simp only [copyB, Option.bind_eq_some_iff] at e
  obtain ⟨t, ht, e⟩ := e
  split at e
  · rename_i elem base n c hu
    simp only [Option.bind_eq_some_iff] at e
    obtain ⟨sz, hz, k, hk, new, hnew, e⟩ := e
    have hl := lenB_ok (P := P) hx hk w
    obtain ⟨new', hn1, hn2⟩ := elemsOf_ok hr hx (fun m e => by rw [hk] at e; cases e; exact Nat.min_le_left _ _) hnew
    have hnn := hn2.length
    have hlen : new.length = Nat.min k n * sz := by
      cases hq : Nat.beq new.length (Nat.min k n * sz) with
      | true => exact beq_true hq
      | false => rw [hq] at e; cases e
    have hq : Nat.beq new.length (Nat.min k n * sz) = true := by rw [hlen]; exact Nat.beq_refl _
    rw [hq] at e
    simp only [cond] at e
    cases hk0 : Nat.beq (Nat.min k n) 0 with
    | true =>
      rw [hk0] at e
      simp only at e
      cases e
      have hk0 := beq_true hk0
      rw [hk0, Nat.zero_mul] at hlen
      obtain rfl := List.length_eq_zero_iff.1 hlen
      obtain rfl := hn2.nil'
      refine ⟨ρ, .int .i64 (Nat.min k n), w, ?_, .fl rfl, hr, Fw.refl _ _ _⟩
      have key : ∀ (ad : Option Addr) (c' : Nat), (Builtin.copy_ ts ty #[.slice ad n c', x']).run P w = .ok (.int .i64 (Nat.min k n)) w := by
        intro ad c'
        simp only [Builtin.copy_]
        cases ad <;> simp [ht, run_under hu, hl, run_size hz, hn1, storeCells] <;> rfl
      cases hs with
      | fl hf => exact key _ _
      | slice k1 k2 k3 => exact key _ _
      | slice0 k1 => exact key _ _
    | false =>
      rw [hk0] at e
      simp only at e
      have hk0 := beq_false hk0
      split at e
      · cases e
      · rename_i b o
        split at e
        · rename_i el m cs hg
          cases hb : (Nat.ble (o + new.length) m && new.all one) with
          | false => rw [hb] at e; cases e
          | true =>
            rw [hb] at e; cases e
            simp only [Bool.and_eq_true] at hb
            have hb1 := ble_true hb.1
            rcases hs.sliceInv with ⟨j, c', kk, rfl, _, _⟩ | ⟨k1, rfl, k2, ad, c', rfl⟩
            · obtain ⟨ra, lo, hi', q1, q2, q3, q4, q5⟩ := hr.cellsAt kk hg
              have hw := hr.write (o := o) kk hg q1 hn2 hb1
              have hwr := run_wr (P := P) o new' 0 ra w q1 (by omega) (all_one hn2 hb.2) (q4 rfl)
              exact ⟨ρ, _, _, by simp only [Builtin.copy_]; simp [ht, run_under hu, hl, run_size hz, hn1, hwr]; rfl, .fl rfl, hw.1, hw.2⟩
            · exact absurd (Nat.min_eq_right (Nat.zero_le k)) hk0
        · cases e
      · cases e
  · cases e
theorem and4 {x y z u : Bool} (h : (x && y && z && u) = true) : x = true ∧ y = true ∧ z = true ∧ u = true := by cases x <;> cases y <;> cases z <;> cases u <;> simp_all
theorem wrap_nat {n : Nat} (h : n ≤ 16777216) : IntKind.i64.wrap (n : Int) = n := by
  have h1 : ((n : Int) % 2 ^ 64) = n := Int.emod_eq_of_lt (by omega) (by omega)
  have h2 : IntKind.i64.wrap (n : Int) = if (true && decide ((n : Int) % 2 ^ 64 ≥ 2 ^ 63)) = true then (n : Int) % 2 ^ 64 - 2 ^ 64 else (n : Int) % 2 ^ 64 := rfl
  rw [h2]
  simp only [h1]
  rw [if_neg]
  simp
  omega
theorem makeSliceB_ok (hr : Rel P ρ h w) {t : TypeId} {l l' c c' v : Value} {h' : AH} (hl : VR ρ l l') (hc : VR ρ c c') (e : makeSliceB P h t l c = some (v, h')) :
    ∃ ρ' v' w', (Instr.makeSlice t l' c').run P w = .ok v' w' ∧ VR ρ' v v' ∧ Rel P ρ' h' w' ∧ Fw ρ h w ρ' h' w' := by
  unfold makeSliceB at e
  split at e
  · rename_i elem hu
    simp only [Option.bind_eq_some_iff] at e
    obtain ⟨i, hi, ln, h1, lm, h2, cn, h3, cm, h4, z, hz, e⟩ := e
    cases hb : (Nat.ble lm cm && Nat.ble (cm * (i.bytes + 1)) 16777216 && Nat.beq (Value.cl z).length i.size && Nat.blt cm UNK) with
    | false => rw [hb] at e; cases e
    | true =>
      rw [hb] at e; cases e
      obtain ⟨b1, b2, b3, b4⟩ := and4 hb
      have b1 := ble_true b1; have b2 := ble_true b2; have b3 := beq_true b3; have b4 := blt_true b4
      obtain ⟨rfl, kl, rfl⟩ := hl.asI h1
      obtain ⟨rfl, kc, rfl⟩ := hc.asI h3
      have h2 := natOf_ok h2; have h4 := natOf_ok h4
      subst h2; subst h4
      have hmul : cm * i.bytes ≤ 16777216 ∧ cm ≤ 16777216 := by rw [Nat.mul_add, Nat.mul_one] at b2; exact ⟨by omega, by omega⟩
      obtain ⟨hzf, i2, hi2, hz2⟩ := zeroB_flat hz
      rw [hi] at hi2; cases hi2
      have hn := hr.newRow 0 (t := elem) (l := zeros (Value.cl z) cm) (l' := zeros (Value.cl z) cm) (cs := (zeros (Value.cl z) cm).toArray) (flat_zeros hzf cm) ⟨[], by simp⟩ (by omega)
      refine ⟨_, .slice (some ⟨w.heap.size, 0, none⟩) lm cm, _, ?_, .slice newCells_ptr (.inl ⟨rfl, b4⟩) b1, hn.1, hn.2⟩
      have hcells : ((Array.range (cm * i.size)).map (z.cells[· % z.cells.size]!)) = (zeros (Value.cl z) cm).toArray := by
        apply Array.ext'
        rw [zero_row cm i.size b3]
      have hw1 := wrap_nat (n := lm) (by omega)
      have hw2 := wrap_nat (n := cm) (by omega)
      have hroom : ¬ (cm * i.bytes > roomBytes) := by unfold roomBytes; omega
      have hsz : (sizeOf elem).run P w = .ok i.size w := run_size (by simp [sizeB, hi]) w
      have e1 : ¬ ((cm : Int) < 0) := by omega
      have e2 : ¬ ((lm : Int) < 0) := by omega
      have e3 : ¬ ((cm : Int) < (lm : Int)) := by omega
      have e4 : ¬ ((281474976710656 : Int) < (i.bytes : Int) * (cm : Int)) := by
        have : (i.bytes : Int) * (cm : Int) = ((cm * i.bytes : Nat) : Int) := by rw [Int.natCast_mul, Int.mul_comm]
        rw [this]; omega
      simp only [Instr.makeSlice, Sem.run_bind, run_under hu, Result.andThen_ok]
      simp only [asInt, asIntOf, Sem.run_bind, Sem.run_pure, Result.andThen_ok, info_typeInfo hi, hw1, hw2]
      by_cases h0 : cm * i.size = 0
      · have hnil : (zeros (Value.cl z) cm) = [] := by
          have := congrArg Array.size hcells
          simp [h0] at this
          exact List.length_eq_zero_iff.1 this.symm
        simp [e1, e2, e3, e4, askRoom, hroom, hsz, h0, newRow, hnil]
        rw [show (Array.range 0) = #[] from Array.eq_empty_of_size_eq_zero (by simp), Array.map_empty]
      · simp [e1, e2, e3, e4, askRoom, hroom, hsz, h0, run_zero hz, newRow, hcells]
  · cases e
end
end Go.Proofs.YtcmildkkigccaaaGreatDoor.Run

/-
  The builtins.
-/
namespace Go.Proofs.YtcmildkkigccaaaGreatDoor.Run
open Go
set_option linter.unusedVariables false
set_option linter.unusedSimpArgs false
section
variable {P : Program} {ρ : Rn} {gl : Gl} {sz : Nat} {tm : Tr Value} {a : Act} {h : AH} {w : World}
theorem opt_bytes (e : List UInt8) : True := trivial
theorem OpOk.eff {s : Sem Value} {ρ' : Rn} {v v' : Value} {h' : AH} {w' : World} (e : s.run P w = .ok v' w') (hv : VR ρ' v v') (hr : Rel P ρ' h' w') (hf : Fw ρ h w ρ' h' w') : OpOk P ρ h w ((do pure (Next.value (← s)) : Sem Next).run P w) (.val v h') :=
  ⟨ρ', v', w', .inl (by rw [Sem.run_bind, e]; rfl), hv, hr, hf⟩
theorem L2.inv1 {v : Value} {l' : List Value} (k : L2 ρ [v] l') : ∃ v', l' = [v'] ∧ VR ρ v v' := by cases k with | cons k k2 => cases k2; exact ⟨_, rfl, k⟩
theorem L2.inv2 {u v : Value} {l' : List Value} (k : L2 ρ [u, v] l') : ∃ u' v', l' = [u', v'] ∧ VR ρ u u' ∧ VR ρ v v' := by
  cases k with | cons k k2 => obtain ⟨v', rfl, k3⟩ := k2.inv1; exact ⟨_, _, rfl, k, k3⟩
theorem freeze_put {j : Nat} {cs : Array Value} {e : TypeId} {f : Nat × Nat} (hj : w.heap[j]? = some (.cells cs e f)) (o n : Nat) : ∃ f', w.freeze ⟨j, o, none⟩ n = w.putObj j (.cells cs e f') := by
  by_cases h0 : n = 0
  · refine ⟨f, ?_⟩
    rw [putObj_self hj]
    simp [World.freeze, h0]
  · refine ⟨if f.1 == f.2 then (o, o + n) else (min f.1 o, max f.2 (o + n)), ?_⟩
    have hlt : j < w.heap.size := (Array.getElem?_eq_some_iff.1 hj).1
    unfold World.freeze World.putObj
    rw [if_neg h0]
    congr 1
    apply Array.ext_getElem?
    intro i
    rw [Array.getElem?_modify]
    by_cases hi : j = i
    · subst hi
      rw [if_pos rfl, hj]
      obtain ⟨lo, hi2⟩ := f
      simp [hlt]
    · rw [if_neg hi, Array.getElem?_setIfInBounds_ne hi]
theorem builtinB_ok (hr : Rel P ρ h w) {b : Builtin} {ts : Array TypeId} {ty : TypeId} {cs : Array Bool} {args args' : List Value} {nx : Nx} (ha : L2 ρ args args') (e : builtinB P h b ts args = some nx) :
    OpOk P ρ h w ((builtin b ts ty cs args'.toArray).run P w) nx := by
  unfold builtinB at e
  split at e
  · rename_i x
    simp only [Option.bind_eq_some_iff] at e
    obtain ⟨t, ht, e⟩ := e
    obtain ⟨x', rfl, hx⟩ := ha.inv1
    split at e
    · rename_i s hu
      cases e
      obtain rfl := hx.eq_of_flat rfl
      exact OpOk.sem hr (s := Builtin.len_ ts ty #[.string s]) (by simp [Builtin.len_, ht, run_under hu]; rfl) (.fl rfl)
    · rename_i el ad n c hu
      cases e
      have key : ∀ (ad : Option Addr) (c' : Nat), OpOk P ρ h w ((builtin .len ts ty cs #[.slice ad n c']).run P w) (.val (.int .i64 n) h) := fun ad c' =>
        OpOk.sem hr (s := Builtin.len_ ts ty #[.slice ad n c']) (by simp [Builtin.len_, ht, run_under hu]; rfl) (.fl rfl)
      cases hx with
      | fl hf => exact key _ _
      | slice k1 k2 k3 => exact key _ _
      | slice0 k1 => exact key _ _
    · rename_i n el hu
      cases e
      exact OpOk.sem hr (s := Builtin.len_ ts ty #[x']) (by simp [Builtin.len_, ht, run_under hu]; rfl) (.fl rfl)
    · rename_i aa hu
      split at e
      · rename_i n el hu2
        cases e
        exact OpOk.sem hr (s := Builtin.len_ ts ty #[x']) (by simp [Builtin.len_, ht, run_under hu, run_under hu2]; rfl) (.fl rfl)
      · cases e
    · rename_i k el hu
      cases e
      obtain rfl := hx.eq_of_flat rfl
      exact OpOk.sem hr (s := Builtin.len_ ts ty #[.map none]) (by simp [Builtin.len_, ht, run_under hu]; rfl) (.fl rfl)
    · rename_i k el bb hu
      split at e
      · rename_i es c hg
        cases e
        obtain ⟨j, kk, rfl⟩ := hx.mapInv
        obtain ⟨es', q1, q2⟩ := hr.mapAt kk hg
        have hl := ER.length q2
        exact OpOk.sem hr (s := Builtin.len_ ts ty #[.map (some j)]) (by simp [Builtin.len_, ht, run_under hu, run_getMap q1]; rfl) (by rw [hl]; exact .fl rfl)
      · cases e
    · cases e
  · rename_i ad n c
    obtain ⟨x', rfl, hx⟩ := ha.inv1
    simp only [Option.bind_eq_some_iff] at e
    obtain ⟨t, ht, e⟩ := e
    split at e
    · rename_i el hu
      cases hc : Nat.beq c UNK with
      | true => rw [hc] at e; cases e
      | false =>
        rw [hc] at e; cases e
        have hc := beq_false hc
        have key : ∀ ad, OpOk P ρ h w ((builtin .cap ts ty cs #[.slice ad n c]).run P w) (.val (.int .i64 c) h) := fun ad =>
          OpOk.sem hr (s := Builtin.cap_ ts ty #[.slice ad n c]) (by simp [Builtin.cap_, ht, run_under hu]; rfl) (.fl rfl)
        cases hx with
        | fl hf => exact key _
        | slice k1 k2 k3 =>
          rcases k2 with ⟨rfl, _⟩ | ⟨k2, _⟩
          · exact key _
          · exact absurd k2 hc
        | slice0 k1 => exact absurd rfl hc
    · cases e
  · rename_i s x
    obtain ⟨s', x', rfl, hs, hx⟩ := ha.inv2
    simp only [effB, Option.map_eq_some_iff] at e
    obtain ⟨⟨v, h'⟩, e, rfl⟩ := e
    obtain ⟨ρ', v', w', h1, h2, h3, h4⟩ := appendB_ok (ty := ty) hr hs hx e
    exact OpOk.eff (s := Builtin.append_ ts ty #[s', x']) h1 h2 h3 h4
  · rename_i s x
    obtain ⟨s', x', rfl, hs, hx⟩ := ha.inv2
    simp only [effB, Option.map_eq_some_iff] at e
    obtain ⟨⟨v, h'⟩, e, rfl⟩ := e
    obtain ⟨ρ', v', w', h1, h2, h3, h4⟩ := copyB_ok (ty := ty) hr hs hx e
    exact OpOk.eff (s := Builtin.copy_ ts ty #[s', x']) h1 h2 h3 h4
  · rename_i s x
    obtain ⟨s', x', rfl, hs, hx⟩ := ha.inv2
    simp only [Option.bind_eq_some_iff, doB, Option.map_eq_some_iff] at e
    obtain ⟨t, ht, h', e, rfl⟩ := e
    obtain ⟨w', h1, h3, h4⟩ := delB_ok (ty := ty) hr ht hs hx e
    exact OpOk.eff (s := Builtin.delete_ ts ty #[s', x']) h1 (.fl rfl) h3 h4
  · rename_i x rest
    cases hf : (x :: rest).all flat with
    | false => rw [hf] at e; cases e
    | true =>
      rw [hf] at e
      simp only [cond, valB, Option.map_eq_some_iff] at e
      obtain ⟨v, e, rfl⟩ := e
      obtain rfl := ha.flat (fun v hv => List.all_eq_true.1 hf v hv)
      have := pureV_ok e w
      exact OpOk.sem hr (s := Builtin.min_ ts ty (x :: rest).toArray) this.1 (.fl this.2)
  · rename_i x rest
    cases hf : (x :: rest).all flat with
    | false => rw [hf] at e; cases e
    | true =>
      rw [hf] at e
      simp only [cond, valB, Option.map_eq_some_iff] at e
      obtain ⟨v, e, rfl⟩ := e
      obtain rfl := ha.flat (fun v hv => List.all_eq_true.1 hf v hv)
      have := pureV_ok e w
      exact OpOk.sem hr (s := Builtin.max_ ts ty (x :: rest).toArray) this.1 (.fl this.2)
  · rename_i n c
    cases e
    obtain ⟨x', rfl, hx⟩ := ha.inv1
    obtain rfl := hx.eq_of_flat rfl
    exact OpOk.sem hr (s := Builtin.unsafeSliceData_ ts ty #[.slice none n c]) rfl (.fl rfl)
  · rename_i b o n c
    cases hn : Nat.beq n 0 with
    | true => rw [hn] at e; cases e
    | false =>
      rw [hn] at e; cases e
      have hn := beq_false hn
      obtain ⟨x', rfl, hx⟩ := ha.inv1
      rcases hx.sliceInv with ⟨j, c', kk, rfl, _, k3⟩ | ⟨_, k, _⟩
      · have hc : c' ≠ 0 := by omega
        exact OpOk.sem hr (s := Builtin.unsafeSliceData_ ts ty #[.slice (some ⟨j, o, none⟩) n c']) (Lib.run_unsafeSliceData_row w _ _ _ _ _ hc) (.ptr kk)
      · exact absurd k hn
  · rename_i n
    split at e
    · rename_i pt it hts
      simp only [Option.bind_eq_some_iff] at e
      obtain ⟨m, hm, e⟩ := e
      cases hb : Nat.beq m 0 with
      | false => rw [hb] at e; cases e
      | true =>
        rw [hb] at e; cases e
        have hb := beq_true hb
        subst hb
        have := natOf_ok hm
        subst this
        obtain ⟨x', y', rfl, hx, hy⟩ := ha.inv2
        obtain rfl := hx.eq_of_flat rfl
        obtain rfl := hy.eq_of_flat rfl
        obtain rfl : ts = #[pt, it] := Array.ext' hts
        exact OpOk.sem hr (s := Builtin.unsafeString_ #[pt, it] ty #[.pointer none, .int .i64 0]) (Lib.run_unsafeString_none w _ _ _ _) (.fl rfl)
    · cases e
  · rename_i b n
    split at e
    · rename_i pt it hts
      simp only [Option.bind_eq_some_iff] at e
      obtain ⟨m, hm, e⟩ := e
      obtain ⟨x', y', rfl, hx, hy⟩ := ha.inv2
      obtain ⟨j, kk, rfl⟩ := hx.ptrInv
      obtain rfl := hy.eq_of_flat rfl
      obtain rfl : ts = #[pt, it] := Array.ext' hts
      have := natOf_ok hm
      subst this
      split at e
      · rename_i el mm cc u hg hu
        cases hb : (Nat.blt 0 m && Nat.ble m mm && Nat.ble m 16777216 && Nat.beq el u && Nat.beq (P.cellsOf u) 1) with
        | false => rw [hb] at e; cases e
        | true =>
          rw [hb] at e
          simp only [cond, Option.bind_eq_some_iff, Option.map_eq_some_iff] at e
          obtain ⟨l, hl, bs, hbs, rfl⟩ := e
          obtain ⟨b1, b2, b3, b4, b5⟩ := and5 hb
          have b1 := blt_true b1; have b2 := ble_true b2; have b3 := ble_true b3; have b4 := beq_true b4; have b5 := beq_true b5
          subst b4
          obtain ⟨ra, lo, hi, q1, q2, q3, q4, q5⟩ := hr.cellsAt kk hg
          obtain ⟨p1, p2⟩ := rdCells_ok q3 _ _ l hl (by omega)
          have e1 := bytesOf_list hbs
          have p3 := p1.flat (fun v hv => by rw [e1] at hv; obtain ⟨z, _, rfl⟩ := List.mem_map.1 hv; rfl)
          have hlen : bs.length = m := by rw [e1] at p2; simpa using p2
          have hlt : j < w.heap.size := (Array.getElem?_eq_some_iff.1 q1).1
          obtain ⟨f', hfz⟩ := freeze_put q1 0 m
          have hput := hr.turn (o1 := .cells el mm cc true) (x1 := .cells ra el f') (w' := w.putObj j (.cells ra el f')) kk hg trivial (fun e n c k => by cases k) (by rw [putObj_get _ hlt, if_pos rfl]) (fun i hi' => by rw [putObj_get _ hlt, if_neg hi']) (by simp [World.putObj]) rfl rfl rfl (fun _ => by
            obtain ⟨lo', hi'⟩ := f'
            exact .cells q5 q2 q3 (fun k => by cases k))
          have hus := Lib.run_unsafeString_row (P := P) w pt it ty el hu b5 j ra.size (by simp [World.shape?, q1]) bs (fun k => by rw [k] at hlen; simp at hlen; omega) (by omega) (by omega) (fun i x hx => by
            rw [addr_add, Nat.zero_add, cell_of (o := 0) q1]
            have : ((ra.toList.drop 0).take m)[i]? = some (.int .u8 x.toNat) := by rw [p3, e1]; simp [hx]
            rw [List.getElem?_take] at this
            split at this
            · simpa using this
            · cases this)
          rw [hlen, hfz] at hus
          exact OpOk.eff (s := Builtin.unsafeString_ #[pt, it] ty #[.pointer (some ⟨j, 0, none⟩), .int .i64 m]) hus (.fl rfl) hput.1 hput.2
      · cases e
    · cases e
  · cases e
end
end Go.Proofs.YtcmildkkigccaaaGreatDoor.Run

/-
  Each operation, told of the evaluator.
-/
namespace Go.Proofs.YtcmildkkigccaaaGreatDoor.Run
open Go
set_option linter.unusedVariables false
set_option linter.unusedSimpArgs false
def ExtOk (P : Program) (ext : Ext) : Prop := ∀ f e, ext f = some e → ∀ (ρ : Rn) (h : AH) (w : World) (args : List Value) (args' : Array Value) (v : Value) (h' : AH), Rel P ρ h w → L2 ρ args args'.toList → e h args = some (v, h') →
  ∃ ρ' v' w', (callFunc f args').run P w = .ok (.value v') w' ∧ VR ρ' v v' ∧ Rel P ρ' h' w' ∧ Fw ρ h w ρ' h' w'
section
variable {P : Program} {ρ : Rn} {gl : Gl} {sz : Nat} {tm : Tr Value} {a : Act} {h : AH} {w : World}
theorem VR.boolInv {b : Bool} {v' : Value} (hv : VR ρ (.bool b) v') : v' = .bool b := hv.eq_of_flat rfl
theorem VR.tupleInv {vs : Array Value} {v' : Value} (hv : VR ρ (.tuple vs) v') : ∃ vs', v' = .tuple vs' ∧ L2 ρ vs.toList vs'.toList := by
  cases hv with
  | fl hf =>
    simp only [flat] at hf
    refine ⟨vs, rfl, ?_⟩
    have : vs.toList = [] := by simpa using hf
    rw [this]; exact .nil
  | tuple k1 k2 => exact ⟨_, rfl, L2.ofArr k1 k2⟩
theorem VR.fnInv {f : FuncId} {xs ys : Array Value} {v' : Value} (hv : VR ρ (.func (.func f) xs ys) v') : ∃ xs' ys', v' = .func (.func f) xs' ys' ∧ L2 ρ xs.toList xs'.toList ∧ L2 ρ ys.toList ys'.toList := by
  cases hv with
  | fl hf => simp [flat] at hf
  | fn k1 k2 k3 k4 => exact ⟨_, _, rfl, L2.ofArr k1 k2, L2.ofArr k3 k4⟩
theorem VR.yieldInv {l : Nat} {xs ys : Array Value} {v' : Value} (hv : VR ρ (.func (.yield l) xs ys) v') : ∃ l', ρ l = some l' ∧ v' = .func (.yield l') #[] #[] := by
  cases hv with
  | fl hf => simp [flat] at hf
  | yield k => exact ⟨_, k, rfl⟩
theorem VR.ifaceInv {t : TypeId} {v v' : Value} (hv : VR ρ (.iface t v) v') : ∃ u, v' = .iface t u ∧ VR ρ v u := by
  cases hv with
  | fl hf => exact ⟨v, rfl, .fl hf⟩
  | iface k => exact ⟨_, rfl, k⟩
/-- What a function value comes to. -/
theorem fnB_ok {v v' : Value} {args args' : List Value} {nx : Nx} (hv : VR ρ v v') (ha : L2 ρ args args') (e : fnB v args = some nx) (w : World) :
    ∃ d, (Deferred.ofValue v' args'.toArray).run P w = .ok d w ∧ ((∃ f l l', nx = .call f l ∧ (∀ w', (invoke d.target d.args).run P w' = (callFunc f l').run P w') ∧ L2 ρ l l'.toList ∧ DR ρ (.call f l) d) ∨
      (∃ l l' as as', nx = .round l as ∧ ρ l = some l' ∧ (∀ w', (invoke d.target d.args).run P w' = (Instr.yield l' as').run P w') ∧ L2 ρ as as'.toList)) := by
  unfold fnB at e
  split at e
  · rename_i f first cap
    cases e
    obtain ⟨xs', ys', rfl, k1, k2⟩ := hv.fnInv
    refine ⟨⟨.fn (.func f) ys', xs' ++ args'.toArray⟩, rfl, .inl ⟨f, _, xs' ++ args'.toArray ++ ys', rfl, fun w' => rfl, ?_, ⟨ys', xs' ++ args'.toArray, rfl, ?_⟩⟩⟩
    · simpa using (k1.append ha).append k2
    · simpa using (k1.append ha).append k2
  · rename_i l first cap
    cases e
    obtain ⟨l', k, rfl⟩ := hv.yieldInv
    exact ⟨⟨.fn (.yield l') #[], #[] ++ args'.toArray⟩, rfl, .inr ⟨l, l', args, #[] ++ args'.toArray, rfl, k, fun w' => rfl, by simpa using ha⟩⟩
  · cases e
theorem opOk_pureB (hr : Rel P ρ h w) {s : Sem Value} {nx : Nx} {r : Option Value} (e : valB h r = some nx) (hs : ∀ v, r = some v → ∃ v', s.run P w = .ok v' w ∧ VR ρ v v') : OpOk P ρ h w ((do pure (Next.value (← s)) : Sem Next).run P w) nx := by
  simp only [valB, Option.map_eq_some_iff] at e
  obtain ⟨v, e, rfl⟩ := e
  obtain ⟨v', h1, h2⟩ := hs v e
  exact OpOk.sem hr h1 h2
theorem opOk_effB {s : Sem Value} {nx : Nx} {r : Option (Value × AH)} (e : effB r = some nx) (hs : ∀ v h', r = some (v, h') → ∃ ρ' v' w', s.run P w = .ok v' w' ∧ VR ρ' v v' ∧ Rel P ρ' h' w' ∧ Fw ρ h w ρ' h' w') : OpOk P ρ h w ((do pure (Next.value (← s)) : Sem Next).run P w) nx := by
  simp only [effB, Option.map_eq_some_iff] at e
  obtain ⟨⟨v, h'⟩, e, rfl⟩ := e
  obtain ⟨ρ', v', w', h1, h2, h3, h4⟩ := hs v h' e
  exact OpOk.eff h1 h2 h3 h4
theorem opOk_doB {s : Sem Unit} {nx : Nx} {r : Option AH} (e : doB r = some nx) (hs : ∀ h', r = some h' → ∃ w', s.run P w = .ok () w' ∧ Rel P ρ h' w' ∧ Fw ρ h w ρ h' w') : OpOk P ρ h w ((do s; pure Next.skip : Sem Next).run P w) nx := by
  simp only [doB, Option.map_eq_some_iff] at e
  obtain ⟨h', e, rfl⟩ := e
  obtain ⟨w', h1, h3, h4⟩ := hs h' e
  exact ⟨ρ, undef, w', .inr ⟨rfl, by rw [Sem.run_bind, h1]; rfl⟩, .fl rfl, h3, h4⟩
theorem OV.ofOpt (hg : GlOk ρ gl) (ht : TR ρ sz tm a.tmps) {x : Option Operand} {r : Option Value} (e : ((match x with | none => some none | some v => (opnd gl tm v).map some) : Option (Option Value)) = some r) : OV ρ r (x.map a.eval) := by
  cases x with
  | none => cases e; exact trivial
  | some v =>
    simp only [Option.map_eq_some_iff] at e
    obtain ⟨u, h1, rfl⟩ := e
    exact opnd_ok hg ht h1
theorem alloc_put (w : World) (x y : Obj) : (w.alloc x).putObj w.heap.size y = w.alloc y := by
  unfold World.putObj World.alloc
  congr 1
  apply Array.ext_getElem?
  intro i
  by_cases e : w.heap.size = i
  · subst e
    rw [Array.getElem?_setIfInBounds_self_of_lt (by simp)]
    simp
  · rw [Array.getElem?_setIfInBounds_ne e, Array.getElem?_push, Array.getElem?_push, if_neg (fun k => e k.symm), if_neg (fun k => e k.symm)]
theorem freeze_one {j : Nat} {cs : Array Value} {e : TypeId} (hj : w.heap[j]? = some (.cells cs e (0, 0))) (o : Nat) : w.freeze ⟨j, o, none⟩ 1 = w.putObj j (.cells cs e (o, o + 1)) := by
  have hlt : j < w.heap.size := (Array.getElem?_eq_some_iff.1 hj).1
  unfold World.freeze World.putObj
  rw [if_neg (by omega)]
  congr 1
  apply Array.ext_getElem?
  intro i
  rw [Array.getElem?_modify]
  by_cases hi : j = i
  · subst hi
    rw [if_pos rfl, hj]
    simp [hlt]
  · rw [if_neg hi, Array.getElem?_setIfInBounds_ne hi]
theorem strB_ok (hr : Rel P ρ h w) {s d el : TypeId} {bs : ByteArray} (hs : P.underlying s = some .string) (hd : P.underlying d = some (.slice el)) (hel : P.underlying el = some (.int .u8)) (hc1 : P.cellsOf el = 1) :
    ∃ ρ' v' w', (convert s d (.string bs)).run P w = .ok v' w' ∧ VR ρ' (.slice (some ⟨h.next, 0, none⟩) bs.size UNK) v' ∧ Rel P ρ' (newCells h el (bs.data.toList.map fun b => .int .u8 b.toNat)) w' ∧ Fw ρ h w ρ' (newCells h el (bs.data.toList.map fun b => .int .u8 b.toNat)) w' := by
  have hcap := grownCap_ge w bs.size 0 el
  have hr' : Rel P ρ h w.drew := hr.drawn rfl
  let elems : List Value := bs.data.toList.map fun b => .int .u8 b.toNat
  let cs : Array Value := (bs.data.map fun b => Value.int .u8 b.toNat) ++ Array.replicate (grownCap w bs.size 0 el - bs.size) (Value.int .u8 0)
  have hbs : bs.data.size = bs.size := rfl
  have hsz : cs.size = grownCap w bs.size 0 el := by simp [cs, hbs]; omega
  have hL : ∀ ρ : Rn, L2 ρ elems elems := fun ρ => by
    show L2 ρ (bs.data.toList.map _) (bs.data.toList.map _)
    generalize bs.data.toList = q
    induction q with
    | nil => exact .nil
    | cons x q ih => exact .cons (.fl rfl) ih
  have helen : elems.length = bs.size := by simp [elems, hbs]
  have hnew := hr'.new (grownCap w bs.size 0 el) (o := .cells el elems.length (Tr.ofFrom elems 0 .e) false) (x := .cells cs el (cs.size, cs.size + 1)) (.cells (by rw [hc1, hsz]; omega) (by rw [helen, hsz]; exact hcap) (fun i hi => by
    rw [Tr.get_of]
    have hv : elems[i]? = some (elems[i]'hi) := by simp
    refine ⟨_, elems[i]'hi, hv, ?_, ?_⟩
    · have hlt : i < (bs.data.map fun b => Value.int .u8 b.toNat).size := by simp; rw [helen] at hi; omega
      show ((bs.data.map fun b => Value.int .u8 b.toNat) ++ _)[i]? = _
      rw [Array.getElem?_append_left hlt, ← Array.getElem?_toList, Array.toList_map]
      exact hv
    · obtain ⟨v', e1, e2⟩ := (hL _).get i _ hv
      rw [hv] at e1; cases e1; exact e2) (fun _ i hi => by omega))
  refine ⟨_, .slice (some ⟨w.heap.size, 0, none⟩) bs.size (grownCap w bs.size 0 el), w.drew.alloc (.cells cs el (cs.size, cs.size + 1)), ?_, ?_, hnew.1, (Fw.drawn (w := w) (w' := w.drew) rfl rfl rfl rfl).trans hnew.2⟩
  · have hj : (w.drew.alloc (.cells cs el)).heap[w.heap.size]? = some (.cells cs el (0, 0)) := by show (w.heap.push _)[w.heap.size]? = _; rw [Array.getElem?_push, if_pos rfl]
    have hfz := freeze_one hj cs.size
    have hmark : (markStringish ⟨w.heap.size, 0, none⟩).run P (w.drew.alloc (.cells cs el)) = .ok () (w.drew.alloc (.cells cs el (cs.size, cs.size + 1))) := by
      have : (w.drew.alloc (.cells cs el)).shape? w.heap.size = some (el, cs.size) := by simp only [World.shape?, hj]
      simp only [markStringish, Sem.run_bind, shape, Sem.run, this, Result.andThen_ok, freeze, hfz]
      exact congrArg _ (alloc_put w.drew _ _)
    simp only [convert, Sem.run_bind, run_under hs, run_under hd, Result.andThen_ok, run_under hel, Conv.stringToBytes]
    have hch : (choose (.appendCap bs.size 0 el)).run P w = .ok (grownCap w bs.size 0 el) w.drew := rfl
    rw [hch]
    simp only [Result.andThen_ok, newRow, Sem.run_bind, run_newObj, Sem.run_pure]
    show (((markStringish ⟨w.heap.size, 0, none⟩).run P (w.drew.alloc (.cells cs el))).andThen _) = _
    rw [hmark]
    rfl
  · refine .slice newCells_ptr (.inr ⟨rfl, fun _ => ?_⟩) hcap
    show _ ≤ (if h.next = h.next then _ else _)
    rw [if_pos rfl]; exact Nat.le_refl _
theorem buildSliceB_ok (hr : Rel P ρ h w) {t : TypeId} {n : Nat} {l l' : List (Nat × Value)} {nx : Nx} (hp : P2 ρ l l') (e : (match P.underlying t with
    | some (.slice elem) => (sizeB P elem).bind fun s => (zeroB P elem).bind fun z =>
      cond (Nat.ble (n * s) 16777216 && Nat.beq (Value.cl z).length s && Nat.blt n UNK) ((Instr.fill (fun i => some (i * s, s)) (zeros (Value.cl z) n).toArray l).map fun cs => .val (.slice (some ⟨h.next, 0, none⟩) n n) (newCells h elem cs.toList)) none
    | _ => none) = some nx) : OpOk P ρ h w ((do pure (Next.value (← Instr.buildSlice t n l'.toArray)) : Sem Next).run P w) nx := by
  split at e
  · rename_i el hu
    simp only [Option.bind_eq_some_iff] at e
    obtain ⟨s, hs, z, hz, e⟩ := e
    cases hb : (Nat.ble (n * s) 16777216 && Nat.beq (Value.cl z).length s && Nat.blt n UNK) with
    | false => rw [hb] at e; cases e
    | true =>
      rw [hb] at e
      simp only [cond, Option.map_eq_some_iff] at e
      obtain ⟨cs, hcs, rfl⟩ := e
      obtain ⟨b1, b2, b3⟩ := and3 hb
      have b1 := ble_true b1; have b2 := beq_true b2; have b3 := blt_true b3
      obtain ⟨cs', q1, q2⟩ := fill_ok _ hp (c := (zeros (Value.cl z) n).toArray) (c' := (zeros (Value.cl z) n).toArray) (flat_zeros (zeroB_flat hz).1 n) hcs
      have hn := hr.newRow 0 (t := el) (cs := cs') q2 ⟨[], by simp⟩ (by omega)
      refine OpOk.eff (s := Instr.buildSlice t n l'.toArray) (v' := .slice (some ⟨w.heap.size, 0, none⟩) n n) ?_ (.slice newCells_ptr (.inl ⟨rfl, b3⟩) (Nat.le_refl _)) hn.1 hn.2
      have hcells : ((Array.range (n * s)).map (z.cells[· % z.cells.size]!)) = (zeros (Value.cl z) n).toArray := by
        apply Array.ext'
        rw [zero_row n s b2]
      have hroom : ¬ (2 ^ 24 < n * s) := by omega
      by_cases h0 : n * s = 0
      · have hnil : (zeros (Value.cl z) n) = [] := by
          have := congrArg Array.size hcells
          simp [h0] at this
          exact List.length_eq_zero_iff.1 this.symm
        rw [hnil] at q1
        simp only [Instr.buildSlice, Sem.run_bind, run_under hu, run_size hs, Result.andThen_ok]
        rw [h0]
        have q1' : Instr.fill (fun i => some (i * s, s)) ((Array.range 0).map fun x => (#[] : Array Value)[x % (#[] : Array Value).size]!) l' = some cs' := by
          rw [show (Array.range 0) = #[] from Array.eq_empty_of_size_eq_zero (by simp), Array.map_empty]; exact q1
        simp at q1'
        simp [q1', newRow]
      · simp only [Instr.buildSlice, Sem.run_bind, run_under hu, run_size hs, Result.andThen_ok]
        simp [hroom, h0, run_zero hz, hcells, q1, newRow]
  · cases e
set_option maxHeartbeats 4000000 in
theorem opB_ok {ext : Ext} (he : ExtOk P ext) (hg : GlOk ρ gl) (ht : TR ρ sz tm a.tmps) (hr : Rel P ρ h w) {o : Oper} {nx : Nx} (e : opB P ext gl tm h o = some nx) : OpOk P ρ h w ((execOp a.eval o).run P w) nx := by
  obtain ⟨dst, op, type, pos, after, guard⟩ := o
  have ho : ∀ {x : Operand} {v : Value}, opnd gl tm x = some v → VR ρ v (a.eval x) := fun e => opnd_ok hg ht e
  cases op <;> simp only [opB] at e
  case move x =>
    simp only [valB, Option.map_eq_some_iff] at e
    obtain ⟨v, e, rfl⟩ := e
    exact OpOk.val0 hr rfl (ho e)
  case assign x =>
    simp only [valB, Option.map_eq_some_iff] at e
    obtain ⟨v, e, rfl⟩ := e
    exact OpOk.val0 hr rfl (ho e)
  case pick c x y =>
    simp only [Option.bind_eq_some_iff] at e
    obtain ⟨cv, hc, e⟩ := e
    have hc' := ho hc
    split at e
    · have hb := hc'.boolInv
      simp only [valB, Option.map_eq_some_iff] at e
      obtain ⟨v, e, rfl⟩ := e
      exact OpOk.val0 (v' := a.eval x) hr (by simp [execOp, hb, asBool]) (ho e)
    · have hb := hc'.boolInv
      simp only [valB, Option.map_eq_some_iff] at e
      obtain ⟨v, e, rfl⟩ := e
      exact OpOk.val0 (v' := a.eval y) hr (by simp [execOp, hb, asBool]) (ho e)
    · cases e
  case alloc t =>
    simp only [Option.map_eq_some_iff] at e
    obtain ⟨z, hz, rfl⟩ := e
    obtain ⟨ρ', w', h1, h2, h3, h4⟩ := newVar_ok (t := t) hr (.fl (zeroB_flat hz).1 : VR ρ z z)
    exact OpOk.eff (s := Instr.alloc t true (.tuple #[])) (by simp [Instr.alloc, run_zero hz, h1]) (.ptr h2) h3 h4
  case box t x =>
    simp only [Option.map_eq_some_iff] at e
    obtain ⟨v, hv, rfl⟩ := e
    obtain ⟨ρ', w', h1, h2, h3, h4⟩ := newVar_ok (t := t) hr (ho hv)
    exact OpOk.eff (s := Instr.box t (a.eval x)) (by simp [Instr.box, h1]) (.ptr h2) h3 h4
  case build t ps =>
    simp only [Option.bind_eq_some_iff] at e
    obtain ⟨l, hl, e⟩ := e
    have hp := parts_ok hg ht hl
    have hps : (ps.map fun (i, x) => (i, a.eval x)) = (ps.toList.map fun (i, x) => (i, a.eval x)).toArray := by rw [← List.map_toArray, Array.toArray_toList]
    refine opOk_pureB (s := Instr.build t (ps.map fun (i, x) => (i, a.eval x))) hr e (fun v hv => ?_)
    rw [hps]
    exact buildB_ok hp hv w
  case buildSlice t n ps =>
    simp only [Option.bind_eq_some_iff] at e
    obtain ⟨l, hl, e⟩ := e
    have hp := parts_ok hg ht hl
    have hps : (ps.map fun (i, x) => (i, a.eval x)) = (ps.toList.map fun (i, x) => (i, a.eval x)).toArray := by rw [← List.map_toArray, Array.toArray_toList]
    have := buildSliceB_ok hr hp e
    rw [← hps] at this
    exact this
  case load t x =>
    simp only [Option.bind_eq_some_iff] at e
    obtain ⟨ad, hx, e⟩ := e
    exact opOk_pureB (s := Instr.loadAt t (a.eval x)) hr e (fun v hv => loadB_ok hr (ho hx) hv)
  case store t x y =>
    simp only [Option.bind_eq_some_iff] at e
    obtain ⟨ad, hx, v, hy, e⟩ := e
    exact opOk_doB (s := Instr.storeAt t (a.eval x) (a.eval y)) e (fun h' hv => storeB_ok hr (ho hx) (ho hy) hv)
  case nilCheck x =>
    simp only [Option.bind_eq_some_iff] at e
    obtain ⟨v, hx, e⟩ := e
    have hv := ho hx
    split at e
    · rename_i ad
      cases e
      refine OpOk.val0 (v' := a.eval x) hr ?_ hv
      have hq : ∃ ad', a.eval x = .pointer (some ad') := by
        revert hv
        generalize a.eval x = xv
        intro hv
        cases hv with
        | fl hf => simp [flat] at hf
        | ptr k => exact ⟨_, rfl⟩
      obtain ⟨ad', hq⟩ := hq
      simp [execOp, hq]
    · rename_i f xs ys
      cases e
      refine OpOk.val0 (v' := a.eval x) hr ?_ hv
      obtain ⟨xs', ys', hq, _, _⟩ := hv.fnInv
      simp [execOp, hq]
    · rename_i t u
      cases e
      refine OpOk.val0 (v' := a.eval x) hr ?_ hv
      obtain ⟨u', hq, _⟩ := hv.ifaceInv
      simp [execOp, hq]
    · cases e
  case binOp op t x y yt =>
    simp only [Option.bind_eq_some_iff] at e
    obtain ⟨va, hx, vb, hy, e⟩ := e
    exact opOk_pureB (s := do eqGuard op t x y (a.eval x) (a.eval y); binOp op t (a.eval x) (a.eval y)) hr e (fun v hv => binB_ok (ho hx) (ho hy) hv w)
  case unOp op t x =>
    simp only [Option.bind_eq_some_iff] at e
    obtain ⟨va, hx, e⟩ := e
    cases hf : flat va with
    | false => rw [hf] at e; cases e
    | true =>
      rw [hf] at e
      have hq := (ho hx).eq_of_flat hf
      refine opOk_pureB (s := Op.unary op (a.eval x)) hr e (fun v hv => ?_)
      have := pureV_ok hv w
      rw [hq]
      exact ⟨v, this.1, .fl this.2⟩
  case convert s d x =>
    simp only [Option.bind_eq_some_iff] at e
    obtain ⟨va, hx, e⟩ := e
    split at e
    · rename_i el bs hs hd
      split at e
      · rename_i hel
        cases hc1 : Nat.beq (P.cellsOf el) 1 with
        | false => rw [hc1] at e; cases e
        | true =>
        rw [hc1] at e
        cases e
        have hq := (ho hx).eq_of_flat rfl
        obtain ⟨ρ', v', w', h1, h2, h3, h4⟩ := strB_ok hr hs hd hel (beq_true hc1) (bs := bs)
        exact OpOk.eff (s := convert s d (a.eval x)) (by rw [hq]; exact h1) h2 h3 h4
      · cases e
    · exact opOk_pureB (s := convert s d (a.eval x)) hr e (fun v hv => convB_ok hr (ho hx) hv)
  case makeInterface t x =>
    simp only [Option.bind_eq_some_iff] at e
    obtain ⟨va, hx, e⟩ := e
    split at e
    · cases e
    · rename_i d hd hu
      cases e
      refine OpOk.sem (s := Instr.makeInterface t (a.eval x)) (v' := .iface t (a.eval x)) hr ?_ (.iface (ho hx))
      simp only [Instr.makeInterface, Sem.run_bind, run_under hu, Result.andThen_ok]
      cases d <;> first | exact absurd rfl (hd _) | rfl
    · cases e
  case makeFunc fn first cap =>
    simp only [Option.bind_eq_some_iff] at e
    obtain ⟨xs, hxs, ys, hys, e⟩ := e
    split at e
    · rename_i f
      cases e
      have k1 := opnds_ok hg ht hxs
      have k2 := opnds_ok hg ht hys
      refine OpOk.sem (s := Instr.makeFunc (.func f) (first.map a.eval) (cap.map a.eval)) (v' := .func (.func f) (first.map a.eval) (cap.map a.eval)) hr rfl ?_
      have e1 : first.map a.eval = (first.toList.map a.eval).toArray := by rw [← List.map_toArray, Array.toArray_toList]
      have e2 : cap.map a.eval = (cap.toList.map a.eval).toArray := by rw [← List.map_toArray, Array.toArray_toList]
      rw [e1, e2]
      exact .fn (by simpa using k1.length) k1.arr (by simpa using k2.length) k2.arr
    · cases e
  case makeMap t r =>
    cases r with
    | some _ => cases e
    | none =>
      cases e
      have := hr.new 0 (o := .map [] 0) (x := .map #[] 0) (.map trivial)
      exact OpOk.eff (s := Instr.makeMap t none) rfl (.map newCells_ptr) this.1 this.2
  case makeSlice t l c =>
    simp only [Option.bind_eq_some_iff] at e
    obtain ⟨vl, hl, vc, hc, e⟩ := e
    exact opOk_effB (s := Instr.makeSlice t (a.eval l) (a.eval c)) e (fun v h' hv => makeSliceB_ok hr (ho hl) (ho hc) hv)
  case slice t x lo hi mx =>
    simp only [Option.bind_eq_some_iff] at e
    obtain ⟨vx, hx, vl, hl, vh, hh, e⟩ := e
    cases mx with
    | some _ => cases e
    | none =>
      exact opOk_pureB (s := Instr.sliceAt t (a.eval x) (lo.map a.eval) (hi.map a.eval) none) hr e (fun v hv => sliceB_ok (ho hx) (OV.ofOpt hg ht hl) (OV.ofOpt hg ht hh) hv w)
  case fieldAddr s x f =>
    simp only [Option.bind_eq_some_iff] at e
    obtain ⟨vx, hx, e⟩ := e
    exact opOk_pureB (s := Instr.fieldAt s (a.eval x) f) hr e (fun v hv => fieldAddrB_ok (ho hx) hv w)
  case field s x f =>
    simp only [Option.bind_eq_some_iff] at e
    obtain ⟨vx, hx, e⟩ := e
    exact opOk_pureB (s := Instr.field s (a.eval x) f) hr e (fun v hv => fieldB_ok (ho hx) hv w)
  case indexAddr t x i =>
    simp only [Option.bind_eq_some_iff] at e
    obtain ⟨vx, hx, vi, hi, e⟩ := e
    exact opOk_pureB (s := Instr.indexAt t (a.eval x) (a.eval i)) hr e (fun v hv => indexAddrB_ok (ho hx) (ho hi) hv w)
  case index t x i =>
    simp only [Option.bind_eq_some_iff] at e
    obtain ⟨vx, hx, vi, hi, e⟩ := e
    exact opOk_pureB (s := Instr.index t (a.eval x) (a.eval i)) hr e (fun v hv => indexB_ok (ho hx) (ho hi) hv w)
  case lookup t m k ok =>
    simp only [Option.bind_eq_some_iff] at e
    obtain ⟨vm, hm, vk, hk, e⟩ := e
    exact opOk_pureB (s := Instr.lookup t (a.eval m) (a.eval k) ok) hr e (fun v hv => lookupB_ok hr (ho hm) (ho hk) hv)
  case mapUpdate t m k x =>
    simp only [Option.bind_eq_some_iff] at e
    obtain ⟨vm, hm, vk, hk, vx, hx, e⟩ := e
    exact opOk_doB (s := Instr.mapUpdate t (a.eval m) (a.eval k) (a.eval x)) e (fun h' hv => updB_ok hr (ho hm) (ho hk) (ho hx) hv)
  case insert t m k x =>
    simp only [Option.bind_eq_some_iff] at e
    obtain ⟨vm, hm, vk, hk, vx, hx, e⟩ := e
    exact opOk_doB (s := Instr.mapUpdate t (a.eval m) (a.eval k) (a.eval x)) e (fun h' hv => updB_ok hr (ho hm) (ho hk) (ho hx) hv)
  case range t x =>
    simp only [Option.bind_eq_some_iff] at e
    obtain ⟨vx, hx, e⟩ := e
    exact opOk_effB (s := Instr.range t (a.eval x)) e (fun v h' hv => rangeB_ok hr (ho hx) hv)
  case next it b =>
    cases b with
    | true => cases e
    | false =>
      simp only [Option.bind_eq_some_iff] at e
      obtain ⟨vx, hx, e⟩ := e
      exact opOk_effB (s := Instr.next (a.eval it) false type) e (fun v h' hv => let ⟨v', w', q1, q2, q3, q4⟩ := nextB_ok hr type (ho hx) hv; ⟨ρ, v', w', q1, q2, q3, q4⟩)
  case entry it =>
    simp only [Option.bind_eq_some_iff] at e
    obtain ⟨vx, hx, e⟩ := e
    exact opOk_pureB (s := Instr.entry (a.eval it)) hr e (fun v hv => entryB_ok hr (ho hx) hv)
  case typeAssert x xt t ok =>
    simp only [Option.bind_eq_some_iff] at e
    obtain ⟨vx, hx, e⟩ := e
    exact opOk_pureB (s := Instr.typeAssert (a.eval x) xt t ok) hr e (fun v hv => assertB_ok (ho hx) hv w)
  case extract t i =>
    simp only [Option.bind_eq_some_iff] at e
    obtain ⟨vx, hx, e⟩ := e
    split at e
    · rename_i vs
      obtain ⟨vs', hq, k⟩ := (ho hx).tupleInv
      refine opOk_pureB (s := Instr.extract (a.eval t) i) hr e (fun v hv => ?_)
      obtain ⟨v', e1, e2⟩ := k.get i v (by simpa using hv)
      exact ⟨v', by rw [hq]; simp [Instr.extract, show vs'[i]? = some v' by simpa using e1], e2⟩
    · cases e
  case call c =>
    simp only [Option.bind_eq_some_iff] at e
    obtain ⟨vs, hvs, e⟩ := e
    have k1 := opnds_ok hg ht hvs
    have e1 : c.args.map a.eval = (c.args.toList.map a.eval).toArray := by rw [← List.map_toArray, Array.toArray_toList]
    obtain ⟨callee, args, ats⟩ := c
    cases callee with
    | builtin b =>
      simp only at e
      have := builtinB_ok (ty := type) (cs := args.map fun | .const _ => true | _ => false) hr k1 e
      rw [← e1] at this
      exact this
    | value f =>
      simp only [Option.bind_eq_some_iff] at e
      obtain ⟨vf, hf, nx', hnx, e⟩ := e
      obtain ⟨d, q1, q2⟩ := fnB_ok (P := P) (ho hf) k1 hnx w
      rw [← e1] at q1
      have hrun : (execOp a.eval ⟨dst, .call ⟨.value f, args, ats⟩, type, pos, after, guard⟩).run P w = (invoke d.target d.args).run P w := by
        show ((resolve a.eval ⟨.value f, args, ats⟩ type) >>= fun d => invoke d.target d.args).run P w = _
        have : (resolve a.eval ⟨.value f, args, ats⟩ type) = Deferred.ofValue (a.eval f) (args.map a.eval) := rfl
        rw [this, Sem.run_bind, q1]
        rfl
      rw [hrun]
      rcases q2 with ⟨g, l, l', rfl, q3, q4, _⟩ | ⟨l, l', as, as', rfl, q3, q4, q5⟩
      · simp only at e
        split at e
        · rename_i ee hext
          simp only [effB, Option.map_eq_some_iff] at e
          obtain ⟨⟨v, h'⟩, e, rfl⟩ := e
          obtain ⟨ρ', v', w', p1, p2, p3, p4⟩ := he g ee hext ρ h w l l' v h' hr q4 e
          exact ⟨ρ', v', w', .inl (by rw [q3, p1]), p2, p3, p4⟩
        · cases e
          exact ⟨l', q3 w, q4⟩
      · simp only at e
        cases e
        exact ⟨l', as', q3, q4 w, q5⟩
    | invoke r name =>
      simp only [Option.bind_eq_some_iff] at e
      obtain ⟨vr, hvr, e⟩ := e
      split at e
      · rename_i t v
        simp only [Option.bind_eq_some_iff] at e
        obtain ⟨i, hi, m, hm, e⟩ := e
        split at e
        · rename_i g el hp hfn hu
          cases e
          obtain ⟨u, hq, hu2⟩ := (ho hvr).ifaceInv
          refine ⟨#[u] ++ args.map a.eval, ?_, ?_⟩
          · show ((resolve a.eval ⟨.invoke r name, args, ats⟩ type) >>= fun d => invoke d.target d.args).run P w = _
            have : (resolve a.eval ⟨.invoke r name, args, ats⟩ type) = pure { target := .fn (.method name) #[], args := #[a.eval r] ++ args.map a.eval } := rfl
            rw [this, Sem.run_bind, Sem.run_pure, Result.andThen_ok, hq]
            have hpe : m.path = #[] := Array.ext' hp
            have hmeth : (method (P.types.size + Made.depth) t u name).run P w = .ok (g, u) w := by
              have : P.types.size + Made.depth = (P.types.size + 99) + 1 := by simp [Made.depth]
              rw [this]
              unfold method
              rw [Sem.run_bind, info_typeInfo hi]
              simp only [Result.andThen_ok, hm]
              simp [hp, hfn, follow, receiverAt, run_under hu, Place.get]
            simp only [invoke]
            have h0 : (#[Value.iface t u] ++ args.map a.eval)[0]? = some (.iface t u) := by simp [Array.getElem?_append]
            simp only [h0]
            have hx : (#[Value.iface t u] ++ args.map a.eval).extract 1 (#[Value.iface t u] ++ args.map a.eval).size = args.map a.eval := by
              apply Array.ext'
              simp
              exact List.take_of_length_le (by simp)
            rw [hx]
            simp only [callMethod, Sem.run_bind, program]
            show (((method (P.types.size + Made.depth) t u name).run P w).andThen _) = _
            rw [hmeth]
            rfl
          · rw [e1]
            simpa using L2.cons hu2 k1
        · cases e
      · cases e
  case defer c =>
    simp only [Option.bind_eq_some_iff] at e
    obtain ⟨vs, hvs, e⟩ := e
    have k1 := opnds_ok hg ht hvs
    have e1 : c.args.map a.eval = (c.args.toList.map a.eval).toArray := by rw [← List.map_toArray, Array.toArray_toList]
    obtain ⟨callee, args, ats⟩ := c
    cases callee with
    | value f =>
      simp only [Option.bind_eq_some_iff] at e
      obtain ⟨vf, hf, e⟩ := e
      split at e
      · rename_i g l hnx
        cases e
        obtain ⟨d, q1, q2⟩ := fnB_ok (P := P) (ho hf) k1 hnx w
        rw [← e1] at q1
        rcases q2 with ⟨g', l2, l', hq, q3, q4, q5⟩ | ⟨l2, l', as, as', hq, _⟩
        · cases hq
          refine ⟨d, ?_, q5⟩
          show ((resolve a.eval ⟨.value f, args, ats⟩ type) >>= fun d => (pure (Next.defer d) : Sem Next)).run P w = _
          have : (resolve a.eval ⟨.value f, args, ats⟩ type) = Deferred.ofValue (a.eval f) (args.map a.eval) := rfl
          rw [this, Sem.run_bind, q1]
          rfl
        · cases hq
      · cases e
    | builtin b => cases e
    | invoke r name => cases e
  all_goals cases e
end
end Go.Proofs.YtcmildkkigccaaaGreatDoor.Run
