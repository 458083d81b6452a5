/-
  Steps and plain regions, told of the evaluator.
-/
import Derived.Test.YtkmfihpmjnfbfaaGreatDoorOpl
import Derived.TacticsIn
namespace Go.Proofs.YtkmfihpmjnfbfaaGreatDoor.Run
open Go
set_option linter.unusedVariables false
set_option linter.unusedSimpArgs false
/-- No bounds; within a round, or not. -/
def F0 (ro : Option Nat) : Fence := { Fence.wide with round := ro }
theorem F0_fn (ro : Option Nat) (f : FuncId) : (F0 ro).fn f := trivial
theorem F0_in (ro : Option Nat) (l : Nat) : (F0 ro).inRound l = F0 (some l) := rfl
theorem F0_depth {ro : Option Nat} {p : Prop} : (F0 ro).depth.isSome = true → p := fun h => by simp [F0, Fence.wide] at h
theorem F0_calls {ro ro' : Option Nat} {n : Nat} {P : Program} {f : FuncId} {args : Array Value} {w : World} {R : Ending → World → Prop} (h : CallsIn (F0 ro) n P f args w R) : CallsIn (F0 ro') n P f args w R := h
theorem F0_round {ro ro' : Option Nat} {n : Nat} {P : Program} {l : Nat} {f : FuncId} {tmps : Array Value} {asg body : Code} {w : World} {R : Ending → World → Prop} (h : RoundIn (F0 ro) n P l f tmps asg body w R) : RoundIn (F0 ro') n P l f tmps asg body w R := h
def NG (P : Program) : Prop := ∀ (f : FuncId) (fn : Func), P.funcs[f]? = some fn → fn.body.isSome = true → (fn.name == "runtime.NumGoroutine") = false
/-- What a call brings. -/
def Back (P : Program) (ρ : Rn) (h : AH) (w : World) (v : Value) (h' : AH) : Ending → World → Prop :=
  fun e w' => ∃ v' ρ', e = .returned v' ∧ VR ρ' v v' ∧ Rel P ρ' h' w' ∧ Fw ρ h w ρ' h' w'
def CallOk (P : Program) (gl : Gl) (call : CallR) : Prop := ∀ (n : Nat) (f : FuncId) (args : List Value) (args' : Array Value) (ρ : Rn) (h : AH) (w : World) (v : Value) (h' : AH),
  GlOk ρ gl → Rel P ρ h w → L2 ρ args args'.toList → call f args h = some (v, h') → CallsIn (F0 none) n P f args' w (Back P ρ h w v h') ∧ ∀ (fn : Func), P.funcs[f]? = some fn → fn.body.isSome = true
def RoundOk (P : Program) (gl : Gl) (round : RoundR) : Prop := ∀ (n : Nat) (l l' : Nat) (args : List Value) (args' : Array Value) (ρ : Rn) (h : AH) (w : World) (v : Value) (h' : AH),
  GlOk ρ gl → Rel P ρ h w → ρ l = some l' → L2 ρ args args'.toList → round l args h = some (v, h') →
  ∃ fn tmps asg body, (Instr.yield l' args').run P w = .ok (.round l' fn tmps asg body) w ∧ RoundIn (F0 none) n P l' fn tmps asg body w (Back P ρ h w v h')
def DL (ρ : Rn) : List Df → List Deferred → Prop
  | [], [] => True
  | d :: l, d' :: l' => DR ρ d d' ∧ DL ρ l l'
  | _, _ => False
theorem DR.mono {ρ ρ' : Rn} (hs : Sub ρ ρ') {d : Df} {d' : Deferred} (h : DR ρ d d') : DR ρ' d d' := by
  cases d with
  | call f args => obtain ⟨cap, args', h1, h2⟩ := h; exact ⟨cap, args', h1, h2.mono hs⟩
  | mark r => obtain ⟨r', h1, h2⟩ := h; exact ⟨r', (hs _ _ h1).1, h2⟩
theorem DL.mono {ρ ρ' : Rn} (hs : Sub ρ ρ') : ∀ {l : List Df} {l' : List Deferred}, DL ρ l l' → DL ρ' l l'
  | [], [], _ => trivial
  | [], _ :: _, h => h.elim
  | _ :: _, [], h => h.elim
  | _ :: _, _ :: _, h => ⟨h.1.mono hs, h.2.mono hs⟩
/-- A state against an activation. -/
structure SR (P : Program) (ρ : Rn) (st : St) (a : Act) (w : World) : Prop where
  tm : TR ρ st.sz st.tm a.tmps
  rel : Rel P ρ st.h w
  ds : DL ρ st.ds a.defers
/-- What holds behind a step from st to st'. -/
def Upto (P : Program) (ρ : Rn) (st : St) (w : World) (st' : St) (K : Act → World → Prop) : Prop :=
  ∀ ρ' a' w', SR P ρ' st' a' w' → Fw ρ st.h w ρ' st'.h w' → K a' w'
section
variable {P : Program} {ρ : Rn} {gl : Gl} {ext : Ext} {call : CallR} {round : RoundR} {st st' : St} {a : Act} {w : World} {ro : Option Nat} {n : Nat}
theorem VR.bool_of {v : Value} {b : Bool} (h : VR ρ v (.bool b)) : v = .bool b := by
  cases h with
  | fl hf => rfl
theorem goes_ok {ops : Array Oper} {sz : Nat} {tm : Tr Value} {o : Oper} (ht : TR ρ sz tm a.tmps) : goesB ops.toList tm o = Region.wanted o (yielded ops a.tmps) := by
  unfold goesB Region.wanted
  cases hg : o.guard with
  | none => rfl
  | some q =>
    obtain ⟨j, want⟩ := q
    simp only [yielded]
    have e1 : ops.toList[j]? = ops[j]? := by simp
    rw [e1]
    cases h1 : ops[j]? with
    | none => simp
    | some g =>
      simp only [Option.bind_some]
      cases h2 : g.dst with
      | none => simp
      | some d =>
        simp only [Option.bind_some]
        have hd := ht.2 d
        rw [Array.getD_eq_getD_getElem?] at hd
        cases h3 : tm.get d with
        | none =>
          rw [h3] at hd
          have := hd.eq_of_flat rfl
          cases h4 : a.tmps[d]? with
          | none => simp
          | some u => rw [h4] at this; simp at this; subst this; simp [undef]
        | some v =>
          rw [h3] at hd
          simp only [Option.getD_some] at hd
          cases h4 : a.tmps[d]? with
          | none =>
            rw [h4] at hd
            simp only [Option.getD_none] at hd
            cases v <;> simp
            have := hd.eq_of_flat rfl
            simp [undef] at this
          | some u =>
            rw [h4] at hd
            simp only [Option.getD_some] at hd
            cases u <;> cases v <;> simp
            all_goals first
              | (have := hd.eq_of_flat rfl; simp at this; done)
              | (have := hd.bool_of; simp at this; done)
              | skip
            have := hd.eq_of_flat rfl
            simp at this
            subst this
            rfl
theorem SR.putUndef (hs : SR P ρ st a w) {dst : Option Tmp} {tm' : Tr Value} (e : putB st.sz st.tm dst undef = some tm') : SR P ρ ⟨tm', st.h, st.ds, st.sz, st.rd⟩ (a.put dst undef) w :=
  ⟨putB_ok hs.tm (.fl rfl) e, hs.rel, by rw [put_defers]; exact hs.ds⟩
/-- An operation that is carried out. -/
theorem opStep_ok (he : ExtOk P ext) (hc : CallOk P gl call) (hrd : RoundOk P gl round) (hn : NG P) (hg : GlOk ρ gl) (hs : SR P ρ st a w) (hro : ro.isSome = true → st.rd = true)
    {o : Oper} {nx : Nx} (e : opB P ext gl st.tm st.h o = some nx) (e2 : nxB call round o.dst st nx = some st') {K : Act → World → Prop} {Q : Exit → Act → World → Prop} (hk : Upto P ρ st w st' K) :
    o.wpIn (F0 ro) n P a w K Q := by
  refine ⟨fun f _ => F0_fn ro f, ?_⟩
  have hop := opB_ok he hg hs.tm hs.rel e
  have hsem : (∀ c, o.op ≠ .defer c) → o.semAt (F0 ro).round a.eval = execOp a.eval o := Oper.semAt_eq _ _ _
  have hnd : ro = none ∨ ∀ c, o.op ≠ .defer c := by
    cases ro with
    | none => exact .inl rfl
    | some l =>
      refine .inr (fun c hc => ?_)
      have hr := hro rfl
      simp only [opB, hc] at e
      simp only [Option.bind_eq_some_iff] at e
      obtain ⟨vs, _, e⟩ := e
      split at e
      · simp only [Option.bind_eq_some_iff] at e
        obtain ⟨vf, _, e⟩ := e
        split at e
        · cases e
          simp [nxB, hr] at e2
        · cases e
      · cases e
  have hex : o.semAt (F0 ro).round a.eval = execOp a.eval o := by
    rcases hnd with rfl | h
    · exact Oper.semAt_none _ _
    · exact hsem h
  rw [hex]
  cases nx with
  | val v h' =>
    obtain ⟨ρ', v', w', hr, hv, hrel, hf⟩ := hop
    simp only [nxB, Option.map_eq_some_iff] at e2
    obtain ⟨tm', e2, rfl⟩ := e2
    have hput : SR P ρ' ⟨tm', h', st.ds, st.sz, st.rd⟩ (a.put o.dst v') w' := ⟨putB_ok (hs.tm.mono hf.sub) hv e2, hrel, by rw [put_defers]; exact hs.ds.mono hf.sub⟩
    have := hk ρ' (a.put o.dst v') w' hput hf
    rcases hr with hr | ⟨rfl, hr⟩
    · rw [hr]; exact this
    · rw [hr]; exact this
  | call f args =>
    obtain ⟨args', hr, ha⟩ := hop
    simp only [nxB, Option.bind_eq_some_iff] at e2
    obtain ⟨⟨v, h'⟩, ec, e2⟩ := e2
    simp only [Option.map_eq_some_iff] at e2
    obtain ⟨tm', e2, rfl⟩ := e2
    obtain ⟨hcall, hbody⟩ := hc (n - 1) f args args' ρ st.h w v h' hg hs.rel ha ec
    have hfn : ∃ fn, P.funcs[f]? = some fn := by
      have hx := hcall.2 [] (room_wide _)
      obtain ⟨e, w', fr, hb, hcomes, hfn, hleave⟩ := hx
      obtain ⟨v', ρ', rfl, _⟩ := hb
      obtain ⟨_, _, _, fn, hfn2, _⟩ := hleave
      exact ⟨fn, hfn ▸ hfn2⟩
    obtain ⟨fn, hfn⟩ := hfn
    have hb := hbody fn hfn
    have hrun : (callFunc f args').run P w = .ok (.enter f args') w := by
      have hname := hn f fn hfn hb
      have hb' : fn.body.isNone = false := by cases h : fn.body <;> simp_all
      simp only [callFunc, program]
      show ((match P.funcs[f]? with | none => stuck "call: no such function" | some fn => _ : Sem Next)).run P w = _
      rw [hfn]
      simp [hname, hb']
    rw [hr, hrun]
    refine ⟨F0_depth, ?_⟩
    refine (F0_calls hcall).mono (fun e w' hbk => ?_)
    obtain ⟨v', ρ', rfl, hv, hrel, hf⟩ := hbk
    exact hk ρ' (a.put o.dst v') w' ⟨putB_ok (hs.tm.mono hf.sub) hv e2, hrel, by rw [put_defers]; exact hs.ds.mono hf.sub⟩ hf
  | round l args =>
    obtain ⟨l', args', hl, hr, ha⟩ := hop
    simp only [nxB, Option.bind_eq_some_iff] at e2
    obtain ⟨⟨v, h'⟩, ec, e2⟩ := e2
    simp only [Option.map_eq_some_iff] at e2
    obtain ⟨tm', e2, rfl⟩ := e2
    obtain ⟨fn, tmps, asg, body, h1, h2⟩ := hrd (n - 1) l l' args args' ρ st.h w v h' hg hs.rel hl ha ec
    rw [hr, h1]
    refine ⟨F0_depth, ?_⟩
    refine (F0_round h2).mono (fun e w' hbk => ?_)
    obtain ⟨v', ρ', rfl, hv, hrel, hf⟩ := hbk
    exact hk ρ' (a.put o.dst v') w' ⟨putB_ok (hs.tm.mono hf.sub) hv e2, hrel, by rw [put_defers]; exact hs.ds.mono hf.sub⟩ hf
  | defer f args =>
    obtain ⟨d, hr, hd⟩ := hop
    cases hrr : st.rd with
    | true => simp [nxB, hrr] at e2
    | false =>
      simp only [nxB, hrr, cond, Option.map_eq_some_iff] at e2
      obtain ⟨tm', e2, rfl⟩ := e2
      rw [hr]
      have ht : TR ρ st.sz tm' (({ a with defers := d :: a.defers } : Act).put o.dst undef).tmps := putB_ok (a := { a with defers := d :: a.defers }) hs.tm (.fl rfl) e2
      exact hk ρ _ w ⟨ht, hs.rel, by rw [put_defers]; exact ⟨hd, hs.ds⟩⟩ (Fw.refl _ _ _)
theorem stepB_ok (he : ExtOk P ext) (hc : CallOk P gl call) (hrd : RoundOk P gl round) (hn : NG P) (hg : GlOk ρ gl) (hs : SR P ρ st a w) (hro : ro.isSome = true → st.rd = true)
    {ops : Array Oper} {i : Nat} {o : Oper} (hi : ops[i]? = some o) (e : stepB P ext gl call round ops.toList o st = some st') {K : Act → World → Prop} {Q : Exit → Act → World → Prop} (hk : Upto P ρ st w st' K) :
    wpOpIn (F0 ro) n P ops Q i K a w := by
  unfold wpOpIn
  rw [hi]
  simp only
  unfold stepB at e
  rw [goes_ok hs.tm] at e
  cases hw : Region.wanted o (yielded ops a.tmps) with
  | true =>
    rw [hw] at e
    simp only [cond, Option.bind_eq_some_iff] at e
    obtain ⟨nx, e1, e2⟩ := e
    rw [if_pos rfl]
    exact opStep_ok he hc hrd hn hg hs hro e1 e2 hk
  | false =>
    rw [hw] at e
    simp only [cond, Option.map_eq_some_iff] at e
    obtain ⟨tm', e1, rfl⟩ := e
    rw [if_neg (by simp)]
    exact ⟨fun f _ => F0_fn ro f, hk ρ _ w (hs.putUndef e1) (Fw.refl _ _ _)⟩
theorem stepB_rd {ops : List Oper} {o : Oper} (e : stepB P ext gl call round ops o st = some st') : st'.rd = st.rd ∧ st'.sz = st.sz := by
  unfold stepB at e
  cases hg : goesB ops st.tm o with
  | true =>
    rw [hg] at e
    simp only [cond, Option.bind_eq_some_iff] at e
    obtain ⟨nx, _, e⟩ := e
    cases nx with
    | val v h => simp only [nxB, Option.map_eq_some_iff] at e; obtain ⟨_, _, rfl⟩ := e; exact ⟨rfl, rfl⟩
    | call f l => simp only [nxB, Option.bind_eq_some_iff, Option.map_eq_some_iff] at e; obtain ⟨_, _, _, _, rfl⟩ := e; exact ⟨rfl, rfl⟩
    | round f l => simp only [nxB, Option.bind_eq_some_iff, Option.map_eq_some_iff] at e; obtain ⟨_, _, _, _, rfl⟩ := e; exact ⟨rfl, rfl⟩
    | defer f l =>
      cases hr : st.rd with
      | true => simp [nxB, hr] at e
      | false => simp only [nxB, hr, cond, Option.map_eq_some_iff] at e; obtain ⟨_, _, rfl⟩ := e; exact ⟨rfl, rfl⟩
  | false => rw [hg] at e; simp only [cond, Option.map_eq_some_iff] at e; obtain ⟨_, _, rfl⟩ := e; exact ⟨rfl, rfl⟩
theorem opsB_ok (he : ExtOk P ext) (hc : CallOk P gl call) (hrd : RoundOk P gl round) (hn : NG P) {ops : Array Oper} {Q : Exit → Act → World → Prop} :
    ∀ (l : List Oper) (i : Nat) (st st' : St) (ρ : Rn) (a : Act) (w : World), ops.toList.drop i = l → GlOk ρ gl → SR P ρ st a w → (ro.isSome = true → st.rd = true) → opsB P ext gl call round ops.toList l st = some st' →
      Upto P ρ st w st' (Q .normal) → wpOpsIn (F0 ro) n P ops Q (List.range' i l.length) a w
  | [], i, st, st', ρ, a, w, _, hg, hs, hro, e, hk => by simp only [opsB] at e; cases e; exact hk ρ a w hs (Fw.refl _ _ _)
  | o :: l, i, st, st', ρ, a, w, hl, hg, hs, hro, e, hk => by
    simp only [opsB, Option.bind_eq_some_iff] at e
    obtain ⟨st1, e1, e2⟩ := e
    have hlt : i < ops.toList.length := by
      rcases Nat.lt_or_ge i ops.toList.length with h | h
      · exact h
      · rw [List.drop_eq_nil_of_le h] at hl; cases hl
    rw [List.drop_eq_getElem_cons hlt] at hl
    obtain ⟨h1, h2⟩ := List.cons.inj hl
    have hi : ops[i]? = some o := by rw [← Array.getElem?_toList, List.getElem?_eq_getElem hlt, h1]
    rw [List.length_cons, List.range'_succ, wpOpsIn_cons]
    refine stepB_ok he hc hrd hn hg hs hro hi e1 (fun ρ' a' w' hs' hf => ?_)
    exact opsB_ok he hc hrd hn l (i + 1) st1 st' ρ' a' w' h2 (hg.mono hf.sub) hs' (fun h => by rw [(stepB_rd e1).1]; exact hro h) e2 (fun ρ'' a'' w'' hs'' hf'' => hk ρ'' a'' w'' hs'' (hf.trans hf''))
end
end Go.Proofs.YtkmfihpmjnfbfaaGreatDoor.Run
