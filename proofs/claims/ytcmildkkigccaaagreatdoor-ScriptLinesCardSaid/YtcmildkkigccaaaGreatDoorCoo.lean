/-
  Walks and plain laws, joined of 5 texts.
-/
import Derived.Test.YtcmildkkigccaaaGreatDoorOpp
import Derived.TacticsIn
import Derived.RangeFuncNested
import Derived.RangeFuncLeaves
/-
  Steps and plain regions, told of the evaluator.
-/
namespace Go.Proofs.YtcmildkkigccaaaGreatDoor.Run
open Go
set_option linter.unusedVariables false
set_option linter.unusedSimpArgs false
/-- No bounds; within a round, or not. -/
def F0 (ro : Option Nat) : Fence := { Fence.wide with round := ro }
theorem F0_fn (ro : Option Nat) (f : FuncId) : (F0 ro).fn f := trivial
theorem F0_in (ro : Option Nat) (l : Nat) : (F0 ro).inRound l = F0 (some l) := rfl
theorem F0_depth {ro : Option Nat} {p : Prop} : (F0 ro).depth.isSome = true → p := fun h => by simp [F0, Fence.wide] at h
theorem F0_calls {ro ro' : Option Nat} {n : Nat} {P : Program} {f : FuncId} {args : Array Value} {w : World} {R : Ending → World → Prop} (h : CallsIn (F0 ro) n P f args w R) : CallsIn (F0 ro') n P f args w R := h
theorem F0_round {ro ro' : Option Nat} {n : Nat} {P : Program} {l : Nat} {f : FuncId} {tmps : Array Value} {asg body : Code} {w : World} {R : Ending → World → Prop} (h : RoundIn (F0 ro) n P l f tmps asg body w R) : RoundIn (F0 ro') n P l f tmps asg body w R := h
def NG (P : Program) : Prop := ∀ (f : FuncId) (fn : Func), P.funcs[f]? = some fn → fn.body.isSome = true → (fn.name == "runtime.NumGoroutine") = false
/-- What a call brings. -/
def Back (P : Program) (ρ : Rn) (h : AH) (w : World) (v : Value) (h' : AH) : Ending → World → Prop :=
  fun e w' => ∃ v' ρ', e = .returned v' ∧ VR ρ' v v' ∧ Rel P ρ' h' w' ∧ Fw ρ h w ρ' h' w'
def CallOk (P : Program) (gl : Gl) (call : CallR) : Prop := ∀ (n : Nat) (f : FuncId) (args : List Value) (args' : Array Value) (ρ : Rn) (h : AH) (w : World) (v : Value) (h' : AH),
  GlOk ρ gl → Rel P ρ h w → L2 ρ args args'.toList → call f args h = some (v, h') → CallsIn (F0 none) n P f args' w (Back P ρ h w v h') ∧ ∀ (fn : Func), P.funcs[f]? = some fn → fn.body.isSome = true
def RoundOk (P : Program) (gl : Gl) (round : RoundR) : Prop := ∀ (n : Nat) (l l' : Nat) (args : List Value) (args' : Array Value) (ρ : Rn) (h : AH) (w : World) (v : Value) (h' : AH),
  GlOk ρ gl → Rel P ρ h w → ρ l = some l' → L2 ρ args args'.toList → round l args h = some (v, h') →
  ∃ fn tmps asg body, (Instr.yield l' args').run P w = .ok (.round l' fn tmps asg body) w ∧ RoundIn (F0 none) n P l' fn tmps asg body w (Back P ρ h w v h')
def DL (ρ : Rn) : List Df → List Deferred → Prop
  | [], [] => True
  | d :: l, d' :: l' => DR ρ d d' ∧ DL ρ l l'
  | _, _ => False
theorem DR.mono {ρ ρ' : Rn} (hs : Sub ρ ρ') {d : Df} {d' : Deferred} (h : DR ρ d d') : DR ρ' d d' := by
  cases d with
  | call f args => obtain ⟨cap, args', h1, h2⟩ := h; exact ⟨cap, args', h1, h2.mono hs⟩
  | mark r => obtain ⟨r', h1, h2⟩ := h; exact ⟨r', (hs _ _ h1).1, h2⟩
theorem DL.mono {ρ ρ' : Rn} (hs : Sub ρ ρ') : ∀ {l : List Df} {l' : List Deferred}, DL ρ l l' → DL ρ' l l'
  | [], [], _ => trivial
  | [], _ :: _, h => h.elim
  | _ :: _, [], h => h.elim
  | _ :: _, _ :: _, h => ⟨h.1.mono hs, h.2.mono hs⟩
/-- A state against an activation. -/
structure SR (P : Program) (ρ : Rn) (st : St) (a : Act) (w : World) : Prop where
  tm : TR ρ st.sz st.tm a.tmps
  rel : Rel P ρ st.h w
  ds : DL ρ st.ds a.defers
/-- What holds behind a step from st to st'. -/
def Upto (P : Program) (ρ : Rn) (st : St) (w : World) (st' : St) (K : Act → World → Prop) : Prop :=
  ∀ ρ' a' w', SR P ρ' st' a' w' → Fw ρ st.h w ρ' st'.h w' → K a' w'
section
variable {P : Program} {ρ : Rn} {gl : Gl} {ext : Ext} {call : CallR} {round : RoundR} {st st' : St} {a : Act} {w : World} {ro : Option Nat} {n : Nat}
theorem VR.bool_of {v : Value} {b : Bool} (h : VR ρ v (.bool b)) : v = .bool b := by
  cases h with
  | fl hf => rfl
theorem goes_ok {ops : Array Oper} {sz : Nat} {tm : Tr Value} {o : Oper} (ht : TR ρ sz tm a.tmps) : goesB ops.toList tm o = Region.wanted o (yielded ops a.tmps) := by
  unfold goesB Region.wanted
  cases hg : o.guard with
  | none => rfl
  | some q =>
    obtain ⟨j, want⟩ := q
    simp only [yielded]
    have e1 : ops.toList[j]? = ops[j]? := by simp
    rw [e1]
    cases h1 : ops[j]? with
    | none => simp
    | some g =>
      simp only [Option.bind_some]
      cases h2 : g.dst with
      | none => simp
      | some d =>
        simp only [Option.bind_some]
        have hd := ht.2 d
        rw [Array.getD_eq_getD_getElem?] at hd
        cases h3 : tm.get d with
        | none =>
          rw [h3] at hd
          have := hd.eq_of_flat rfl
          cases h4 : a.tmps[d]? with
          | none => simp
          | some u => rw [h4] at this; simp at this; subst this; simp [undef]
        | some v =>
          rw [h3] at hd
          simp only [Option.getD_some] at hd
          cases h4 : a.tmps[d]? with
          | none =>
            rw [h4] at hd
            simp only [Option.getD_none] at hd
            cases v <;> simp
            have := hd.eq_of_flat rfl
            simp [undef] at this
          | some u =>
            rw [h4] at hd
            simp only [Option.getD_some] at hd
            cases u <;> cases v <;> simp
            all_goals first
              | (have := hd.eq_of_flat rfl; simp at this; done)
              | (have := hd.bool_of; simp at this; done)
              | skip
            have := hd.eq_of_flat rfl
            simp at this
            subst this
            rfl
theorem SR.putUndef (hs : SR P ρ st a w) {dst : Option Tmp} {tm' : Tr Value} (e : putB st.sz st.tm dst undef = some tm') : SR P ρ ⟨tm', st.h, st.ds, st.sz, st.rd⟩ (a.put dst undef) w :=
  ⟨putB_ok hs.tm (.fl rfl) e, hs.rel, by rw [put_defers]; exact hs.ds⟩
/-- An operation that is carried out. -/
theorem opStep_ok (he : ExtOk P ext) (hc : CallOk P gl call) (hrd : RoundOk P gl round) (hn : NG P) (hg : GlOk ρ gl) (hs : SR P ρ st a w) (hro : ro.isSome = true → st.rd = true)
    {o : Oper} {nx : Nx} (e : opB P ext gl st.tm st.h o = some nx) (e2 : nxB call round o.dst st nx = some st') {K : Act → World → Prop} {Q : Exit → Act → World → Prop} (hk : Upto P ρ st w st' K) :
    o.wpIn (F0 ro) n P a w K Q := by
  refine ⟨fun f _ => F0_fn ro f, ?_⟩
  have hop := opB_ok he hg hs.tm hs.rel e
  have hsem : (∀ c, o.op ≠ .defer c) → o.semAt (F0 ro).round a.eval = execOp a.eval o := Oper.semAt_eq _ _ _
  have hnd : ro = none ∨ ∀ c, o.op ≠ .defer c := by
    cases ro with
    | none => exact .inl rfl
    | some l =>
      refine .inr (fun c hc => ?_)
      have hr := hro rfl
      simp only [opB, hc] at e
      simp only [Option.bind_eq_some_iff] at e
      obtain ⟨vs, _, e⟩ := e
      split at e
      · simp only [Option.bind_eq_some_iff] at e
        obtain ⟨vf, _, e⟩ := e
        split at e
        · cases e
          simp [nxB, hr] at e2
        · cases e
      · cases e
  have hex : o.semAt (F0 ro).round a.eval = execOp a.eval o := by
    rcases hnd with rfl | h
    · exact Oper.semAt_none _ _
    · exact hsem h
  rw [hex]
  cases nx with
  | val v h' =>
    obtain ⟨ρ', v', w', hr, hv, hrel, hf⟩ := hop
    simp only [nxB, Option.map_eq_some_iff] at e2
    obtain ⟨tm', e2, rfl⟩ := e2
    have hput : SR P ρ' ⟨tm', h', st.ds, st.sz, st.rd⟩ (a.put o.dst v') w' := ⟨putB_ok (hs.tm.mono hf.sub) hv e2, hrel, by rw [put_defers]; exact hs.ds.mono hf.sub⟩
    have := hk ρ' (a.put o.dst v') w' hput hf
    rcases hr with hr | ⟨rfl, hr⟩
    · rw [hr]; exact this
    · rw [hr]; exact this
  | call f args =>
    obtain ⟨args', hr, ha⟩ := hop
    simp only [nxB, Option.bind_eq_some_iff] at e2
    obtain ⟨⟨v, h'⟩, ec, e2⟩ := e2
    simp only [Option.map_eq_some_iff] at e2
    obtain ⟨tm', e2, rfl⟩ := e2
    obtain ⟨hcall, hbody⟩ := hc (n - 1) f args args' ρ st.h w v h' hg hs.rel ha ec
    have hfn : ∃ fn, P.funcs[f]? = some fn := by
      have hx := hcall.2 [] (room_wide _)
      obtain ⟨e, w', fr, hb, hcomes, hfn, hleave⟩ := hx
      obtain ⟨v', ρ', rfl, _⟩ := hb
      obtain ⟨_, _, _, fn, hfn2, _⟩ := hleave
      exact ⟨fn, hfn ▸ hfn2⟩
    obtain ⟨fn, hfn⟩ := hfn
    have hb := hbody fn hfn
    have hrun : (callFunc f args').run P w = .ok (.enter f args') w := by
      have hname := hn f fn hfn hb
      have hb' : fn.body.isNone = false := by cases h : fn.body <;> simp_all
      simp only [callFunc, program]
      show ((match P.funcs[f]? with | none => stuck "call: no such function" | some fn => _ : Sem Next)).run P w = _
      rw [hfn]
      simp [hname, hb']
    rw [hr, hrun]
    refine ⟨F0_depth, ?_⟩
    refine (F0_calls hcall).mono (fun e w' hbk => ?_)
    obtain ⟨v', ρ', rfl, hv, hrel, hf⟩ := hbk
    exact hk ρ' (a.put o.dst v') w' ⟨putB_ok (hs.tm.mono hf.sub) hv e2, hrel, by rw [put_defers]; exact hs.ds.mono hf.sub⟩ hf
  | round l args =>
    obtain ⟨l', args', hl, hr, ha⟩ := hop
    simp only [nxB, Option.bind_eq_some_iff] at e2
    obtain ⟨⟨v, h'⟩, ec, e2⟩ := e2
    simp only [Option.map_eq_some_iff] at e2
    obtain ⟨tm', e2, rfl⟩ := e2
    obtain ⟨fn, tmps, asg, body, h1, h2⟩ := hrd (n - 1) l l' args args' ρ st.h w v h' hg hs.rel hl ha ec
    rw [hr, h1]
    refine ⟨F0_depth, ?_⟩
    refine (F0_round h2).mono (fun e w' hbk => ?_)
    obtain ⟨v', ρ', rfl, hv, hrel, hf⟩ := hbk
    exact hk ρ' (a.put o.dst v') w' ⟨putB_ok (hs.tm.mono hf.sub) hv e2, hrel, by rw [put_defers]; exact hs.ds.mono hf.sub⟩ hf
  | defer f args =>
    obtain ⟨d, hr, hd⟩ := hop
    cases hrr : st.rd with
    | true => simp [nxB, hrr] at e2
    | false =>
      simp only [nxB, hrr, cond, Option.map_eq_some_iff] at e2
      obtain ⟨tm', e2, rfl⟩ := e2
      rw [hr]
      have ht : TR ρ st.sz tm' (({ a with defers := d :: a.defers } : Act).put o.dst undef).tmps := putB_ok (a := { a with defers := d :: a.defers }) hs.tm (.fl rfl) e2
      exact hk ρ _ w ⟨ht, hs.rel, by rw [put_defers]; exact ⟨hd, hs.ds⟩⟩ (Fw.refl _ _ _)
theorem stepB_ok (he : ExtOk P ext) (hc : CallOk P gl call) (hrd : RoundOk P gl round) (hn : NG P) (hg : GlOk ρ gl) (hs : SR P ρ st a w) (hro : ro.isSome = true → st.rd = true)
    {ops : Array Oper} {i : Nat} {o : Oper} (hi : ops[i]? = some o) (e : stepB P ext gl call round ops.toList o st = some st') {K : Act → World → Prop} {Q : Exit → Act → World → Prop} (hk : Upto P ρ st w st' K) :
    wpOpIn (F0 ro) n P ops Q i K a w := by
  unfold wpOpIn
  rw [hi]
  simp only
  unfold stepB at e
  rw [goes_ok hs.tm] at e
  cases hw : Region.wanted o (yielded ops a.tmps) with
  | true =>
    rw [hw] at e
    simp only [cond, Option.bind_eq_some_iff] at e
    obtain ⟨nx, e1, e2⟩ := e
    rw [if_pos rfl]
    exact opStep_ok he hc hrd hn hg hs hro e1 e2 hk
  | false =>
    rw [hw] at e
    simp only [cond, Option.map_eq_some_iff] at e
    obtain ⟨tm', e1, rfl⟩ := e
    rw [if_neg (by simp)]
    exact ⟨fun f _ => F0_fn ro f, hk ρ _ w (hs.putUndef e1) (Fw.refl _ _ _)⟩
theorem stepB_rd {ops : List Oper} {o : Oper} (e : stepB P ext gl call round ops o st = some st') : st'.rd = st.rd ∧ st'.sz = st.sz := by
  unfold stepB at e
  cases hg : goesB ops st.tm o with
  | true =>
    rw [hg] at e
    simp only [cond, Option.bind_eq_some_iff] at e
    obtain ⟨nx, _, e⟩ := e
    cases nx with
    | val v h => simp only [nxB, Option.map_eq_some_iff] at e; obtain ⟨_, _, rfl⟩ := e; exact ⟨rfl, rfl⟩
    | call f l => simp only [nxB, Option.bind_eq_some_iff, Option.map_eq_some_iff] at e; obtain ⟨_, _, _, _, rfl⟩ := e; exact ⟨rfl, rfl⟩
    | round f l => simp only [nxB, Option.bind_eq_some_iff, Option.map_eq_some_iff] at e; obtain ⟨_, _, _, _, rfl⟩ := e; exact ⟨rfl, rfl⟩
    | defer f l =>
      cases hr : st.rd with
      | true => simp [nxB, hr] at e
      | false => simp only [nxB, hr, cond, Option.map_eq_some_iff] at e; obtain ⟨_, _, rfl⟩ := e; exact ⟨rfl, rfl⟩
  | false => rw [hg] at e; simp only [cond, Option.map_eq_some_iff] at e; obtain ⟨_, _, rfl⟩ := e; exact ⟨rfl, rfl⟩
theorem opsB_ok (he : ExtOk P ext) (hc : CallOk P gl call) (hrd : RoundOk P gl round) (hn : NG P) {ops : Array Oper} {Q : Exit → Act → World → Prop} :
    ∀ (l : List Oper) (i : Nat) (st st' : St) (ρ : Rn) (a : Act) (w : World), ops.toList.drop i = l → GlOk ρ gl → SR P ρ st a w → (ro.isSome = true → st.rd = true) → opsB P ext gl call round ops.toList l st = some st' →
      Upto P ρ st w st' (Q .normal) → wpOpsIn (F0 ro) n P ops Q (List.range' i l.length) a w
  | [], i, st, st', ρ, a, w, _, hg, hs, hro, e, hk => by simp only [opsB] at e; cases e; exact hk ρ a w hs (Fw.refl _ _ _)
  | o :: l, i, st, st', ρ, a, w, hl, hg, hs, hro, e, hk => by
    simp only [opsB, Option.bind_eq_some_iff] at e
    obtain ⟨st1, e1, e2⟩ := e
    have hlt : i < ops.toList.length := by
      rcases Nat.lt_or_ge i ops.toList.length with h | h
      · exact h
      · rw [List.drop_eq_nil_of_le h] at hl; cases hl
    rw [List.drop_eq_getElem_cons hlt] at hl
    obtain ⟨h1, h2⟩ := List.cons.inj hl
    have hi : ops[i]? = some o := by rw [← Array.getElem?_toList, List.getElem?_eq_getElem hlt, h1]
    rw [List.length_cons, List.range'_succ, wpOpsIn_cons]
    refine stepB_ok he hc hrd hn hg hs hro hi e1 (fun ρ' a' w' hs' hf => ?_)
    exact opsB_ok he hc hrd hn l (i + 1) st1 st' ρ' a' w' h2 (hg.mono hf.sub) hs' (fun h => by rw [(stepB_rd e1).1]; exact hro h) e2 (fun ρ'' a'' w'' hs'' hf'' => hk ρ'' a'' w'' hs'' (hf.trans hf''))
end
end Go.Proofs.YtcmildkkigccaaaGreatDoor.Run

/-
  Code, told of the evaluator.
-/
namespace Go.Proofs.YtcmildkkigccaaaGreatDoor.Run
open Go
set_option linter.unusedVariables false
set_option linter.unusedSimpArgs false
def exOf : Ex → Exit
  | .normal => .normal
  | .exit id => .exit id
  | .ret => .ret
/-- A loop from behind its round on. -/
def LK (F : Fence) (n : Nat) (P : Program) (c : Code) (Q : Exit → Act → World → Prop) (a : Act) (w : World) : Prop :=
  ∀ (b : Frame) (k : List Item) (cs : List Frame), b.roundOf = F.round → F.fn b.fn → F.room (cs.length + 1 + n) → ∃ e a' w', Q e a' w' ∧ ArrivesIn (Machine.fenced P F) P (lone (b.atR a (.code c :: .inLoop c :: k)) cs w) b k cs e a' w'
section
variable {F : Fence} {n : Nat} {P : Program} {c : Code} {Q : Exit → Act → World → Prop} {a : Act} {w : World}
theorem LK.step (h : c.wpIn F n P (Exit.then (LK F n P c Q) Q) a w) : LK F n P c Q a w := by
  intro b k cs hro hb hr
  obtain ⟨e, a₁, w₁, hq, harr⟩ := h b (.inLoop c :: k) cs hro hb hr
  cases e with
  | normal =>
    obtain ⟨e₂, a₂, w₂, hq₂, harr₂⟩ := hq b k cs hro hb hr
    exact ⟨e₂, a₂, w₂, hq₂, .of_steps (StepsIn.trans harr (.one (fenced_calm hb hr rfl) stepR_inLoop)) harr₂⟩
  | exit id => exact ⟨_, a₁, w₁, hq, .pass (x := .inLoop c) rfl (fun _ _ => .inl (by simp)) harr⟩
  | goto l => exact ⟨_, a₁, w₁, hq, .pass (x := .inLoop c) rfl (fun _ _ => .inl (by simp)) harr⟩
  | ret => exact ⟨_, a₁, w₁, hq, .pass (x := .inLoop c) rfl (fun _ _ => .inl (by simp)) harr⟩
  | panic ch => exact ⟨_, a₁, w₁, hq, .pass (x := .inLoop c) rfl (fun _ _ => .inl (by simp)) harr⟩
  | outgrown => exact ⟨_, a₁, w₁, hq, .pass (x := .inLoop c) rfl (fun _ _ => .inl (by simp)) harr⟩
theorem LK.loop (h : LK F n P c Q a w) : (Code.loop c).wpIn F n P Q a w := by
  intro b k cs hro hb hr
  obtain ⟨e, a', w', hq, harr⟩ := h b k cs hro hb hr
  exact ⟨e, a', w', hq, .of_steps (.one (fenced_calm hb hr rfl) stepR_loop) harr⟩
end
/-- In which round, in both. -/
def Around (ρ : Rn) : Option Nat → Option Nat → Prop
  | none, none => True
  | some l, some l' => ρ l = some l'
  | _, _ => False
theorem Around.mono {ρ ρ' : Rn} (hs : Sub ρ ρ') {x y : Option Nat} (h : Around ρ x y) : Around ρ' x y := by
  cases x <;> cases y <;> simp_all [Around]
  exact (hs _ _ h).1
def DrawOk (P : Program) (ext : Ext) (gl : Gl) (call : CallR) (round : RoundR) : Prop := ∀ (id : Nat) (ops : Array Oper) (st st' : St) (ρ : Rn) (a : Act) (w : World) (ro : Option Nat) (n : Nat) (Q : Exit → Act → World → Prop),
  drawB P ext gl call round ops.toList st = some st' → GlOk ρ gl → SR P ρ st a w → (ro.isSome = true → st.rd = true) → Upto P ρ st w st' (Q .normal) → (Code.region id ops true).wpIn (F0 ro) n P Q a w
section
variable {P : Program} {gl : Gl} {ext : Ext} {call : CallR} {round : RoundR} {ro : Option Nat} {around : Option Nat} {fn : FuncId}
theorem opsB_rd {ops : List Oper} : ∀ {l : List Oper} {st st' : St}, opsB P ext gl call round ops l st = some st' → st'.rd = st.rd ∧ st'.sz = st.sz
  | [], st, st', e => by simp only [opsB] at e; cases e; exact ⟨rfl, rfl⟩
  | o :: l, st, st', e => by
    simp only [opsB, Option.bind_eq_some_iff] at e
    obtain ⟨st1, e1, e2⟩ := e
    have h1 := stepB_rd e1
    have h2 := opsB_rd e2
    exact ⟨h2.1.trans h1.1, h2.2.trans h1.2⟩
theorem runB_rd {ops : List Oper} : ∀ {l : List Slot} {st st' : St} {hs hs' : List AH}, runB P ext gl call round ops l st hs = some (st', hs') → st'.rd = st.rd ∧ st'.sz = st.sz
  | [], st, st', hs, hs', e => by simp only [runB] at e; cases e; exact ⟨rfl, rfl⟩
  | o :: l, st, st', hs, hs', e => by
    simp only [runB, Option.bind_eq_some_iff] at e
    obtain ⟨st1, e1, e2⟩ := e
    have h1 := stepB_rd e1
    have h2 := runB_rd e2
    exact ⟨h2.1.trans h1.1, h2.2.trans h1.2⟩
theorem regionB_rd {ops : List Oper} {draw : Bool} {st st' : St} (e : regionB P ext gl call round ops draw st = some st') : st'.rd = st.rd ∧ st'.sz = st.sz := by
  cases draw with
  | false => exact opsB_rd e
  | true =>
    simp only [regionB, cond, drawB, Option.bind_eq_some_iff] at e
    obtain ⟨⟨seq, es⟩, _, ⟨st1, hs⟩, h2, e⟩ := e
    have h3 := runB_rd h2
    simp only at e
    split at e
    · cases e; exact h3
    · cases e
theorem codeB_rd : ∀ {m : Nat} {c : Code} {st st' : St} {x : Ex}, codeB P ext gl call round fn around m c st = some (x, st') → st'.rd = st.rd ∧ st'.sz = st.sz
  | 0, c, st, st', x, e => by simp [codeB] at e
  | m + 1, c, st, st', x, e => by
    cases c <;> simp only [codeB] at e
    case skip => cases e; exact ⟨rfl, rfl⟩
    case region id ops draw =>
      simp only [Option.map_eq_some_iff] at e
      obtain ⟨st1, e1, e⟩ := e
      cases e
      exact regionB_rd e1
    case seq a b =>
      simp only [Option.bind_eq_some_iff] at e
      obtain ⟨⟨y, st1⟩, e1, e⟩ := e
      have h1 := codeB_rd e1
      cases y with
      | normal => have h2 := codeB_rd e; exact ⟨h2.1.trans h1.1, h2.2.trans h1.2⟩
      | exit id => cases e; exact h1
      | ret => cases e; exact h1
    case cond c a b =>
      simp only [Option.bind_eq_some_iff] at e
      obtain ⟨v, e1, e⟩ := e
      split at e
      · exact codeB_rd e
      · exact codeB_rd e
      · cases e
    case block id c =>
      simp only [Option.map_eq_some_iff] at e
      obtain ⟨⟨y, st1⟩, e1, e⟩ := e
      have h1 := codeB_rd e1
      cases y <;> (simp only [Prod.mk.injEq] at e; obtain ⟨_, rfl⟩ := e; exact h1)
    case loop c =>
      simp only [Option.bind_eq_some_iff] at e
      obtain ⟨⟨y, st1⟩, e1, e⟩ := e
      have h1 := codeB_rd e1
      cases y with
      | normal => have h2 := codeB_rd e; exact ⟨h2.1.trans h1.1, h2.2.trans h1.2⟩
      | exit id => cases e; exact h1
      | ret => cases e; exact h1
    case exit id => cases e; exact ⟨rfl, rfl⟩
    case ret => cases e; exact ⟨rfl, rfl⟩
    case rangeFunc f ps asg body =>
      simp only [Option.bind_eq_some_iff] at e
      obtain ⟨v, e1, ⟨d, h, ds⟩, e2, nx, e3, e⟩ := e
      split at e
      · simp only [Option.bind_eq_some_iff] at e
        obtain ⟨⟨v2, h2⟩, e4, e⟩ := e
        simp only at e
        split at e
        · split at e
          · cases e
          · split at e
            · cases e; exact ⟨rfl, rfl⟩
            · cases e; exact ⟨rfl, rfl⟩
            · cases e; exact ⟨rfl, rfl⟩
            · cases e
        · cases e
      · cases e
    all_goals cases e
end
end Go.Proofs.YtcmildkkigccaaaGreatDoor.Run

/-
  Code, told of the evaluator: the walk.
-/
namespace Go.Proofs.YtcmildkkigccaaaGreatDoor.Run
open Go
set_option linter.unusedVariables false
set_option linter.unusedSimpArgs false
section
variable {P : Program} {ρ : Rn} {gl : Gl} {ext : Ext} {call : CallR} {round : RoundR} {ro : Option Nat} {around : Option Nat} {fn : FuncId} {h : AH} {w : World}
theorem Rel.loopAt (hr : Rel P ρ h w) {l l' : Nat} {s : LoopState} {pend : Option Code} {fn : FuncId} {tm : Tr Value} {sz : Nat} {ps : List Tmp} {asg body : Code} {d : Nat} (hl : ρ l = some l') (hg : h.get l = some (.loop s pend fn tm sz ps asg body d)) :
    ∃ fn' ts d', w.heap[l']? = some (.loop ⟨s, pend, fn', ts, ps.toArray, asg, body, d'⟩) ∧ TR ρ sz tm ts ∧ ρ d = some d' := by
  obtain ⟨x, h1, h2⟩ := hr.obj l l' _ hl hg trivial
  cases h2 with
  | loop k1 k2 => exact ⟨_, _, _, h1, k1, k2⟩
theorem Rel.putLoop (hr : Rel P ρ h w) {l l' : Nat} {o o1 : AO} {x1 : Obj} (hl : ρ l = some l') (hg : h.get l = some o) (hlv : o.live) (hro : ∀ e n c, o ≠ .cells e n c true) (ho : OR P ρ (ρ.k l) o1 x1) :
    Rel P ρ (h.set l o1) (w.putObj l' x1) ∧ Fw ρ h w ρ (h.set l o1) (w.putObj l' x1) := by
  have hlt := (hr.dom l l' hl).2
  exact hr.turn (x1 := x1) hl hg hlv hro (by rw [putObj_get _ hlt, if_pos rfl]) (fun i hi' => by rw [putObj_get _ hlt, if_neg hi']) (by simp [World.putObj]) rfl rfl rfl (fun _ => ho)
theorem enter_ok (hr : Rel P ρ h w) {st : St} {a : Act} (hs : SR P ρ st a w) {ps : Array Tmp} {asg body : Code} {d : Nat} {h1 : AH} {ds : List Df} (fn fn' : FuncId)
    (e : ((match around with
        | some l => (match st.h.get l with | some (.loop _ _ _ _ _ _ _ _ d) => some (d, st.h, st.ds) | _ => none)
        | none => some (st.h.next, st.h.new (.dfs true), .mark st.h.next :: st.ds)) : Option (Nat × AH × List Df)) = some (d, h1, ds)) (har : Around ρ around ro) :
    ∃ ρ' l' mark w', (Instr.enterLoop fn' a.tmps ps asg body ro).run P w = .ok (l', mark) w' ∧ ρ' h1.next = some l' ∧ DL ρ' ds (mark ++ a.defers) ∧
      Rel P ρ' (h1.new (.loop .ready none fn st.tm st.sz ps.toList asg body d)) w' ∧ Fw ρ st.h w ρ' (h1.new (.loop .ready none fn st.tm st.sz ps.toList asg body d)) w' := by
  cases around with
  | none =>
    cases ro with
    | some _ => exact har.elim
    | none =>
      simp only [Option.some.injEq, Prod.mk.injEq] at e
      obtain ⟨rfl, rfl, rfl⟩ := e
      have n1 := hs.rel.new 0 (o := .dfs true) (x := .deferred (some [])) .dfs1
      have hs1 : Sub ρ (Run.ext ρ st.h.next w.heap.size 0) := n1.2.sub
      have htr := (hs.tm.mono hs1)
      have n2 := n1.1.new 0 (o := .loop .ready none fn st.tm st.sz ps.toList asg body st.h.next) (x := .loop ⟨.ready, none, fn', a.tmps, ps.toList.toArray, asg, body, w.heap.size⟩)
        (.loop (htr.mono (Sub.ext (n1.1.none (Nat.le_refl _)) _ 0)) (Sub.ext (n1.1.none (Nat.le_refl _)) _ 0 _ _ newCells_ptr).1)
      refine ⟨_, w.heap.size + 1, [{ target := .collected w.heap.size, args := #[] }], _, ?_, ?_, ?_, n2.1, n1.2.trans n2.2⟩
      · simp [Instr.enterLoop, run_newObj, Array.toArray_toList]
      · have := newCells_ptr (ρ := Run.ext ρ st.h.next w.heap.size 0) (n := (st.h.new (.dfs true)).next) (j := (w.alloc (.deferred (some []))).heap.size) (κ := 0)
        exact this.trans (by rw [World.size_alloc])
      · exact ⟨⟨w.heap.size, (n2.2.sub _ _ newCells_ptr).1, rfl⟩, (hs.ds.mono hs1).mono n2.2.sub⟩
  | some l0 =>
    cases ro with
    | none => exact har.elim
    | some l0' =>
      simp only at e
      split at e
      · rename_i s0 pend0 fn0 tm0 sz0 ps0 asg0 body0 d0 hg
        simp only [Option.some.injEq, Prod.mk.injEq] at e
        obtain ⟨rfl, rfl, rfl⟩ := e
        obtain ⟨fn1, ts1, d', q1, q2, q3⟩ := hs.rel.loopAt har hg
        have n2 := hs.rel.new 0 (o := .loop .ready none fn st.tm st.sz ps.toList asg body d0) (x := .loop ⟨.ready, none, fn', a.tmps, ps.toList.toArray, asg, body, d'⟩)
          (.loop (hs.tm.mono (Sub.ext (hs.rel.none (Nat.le_refl _)) _ 0)) (Sub.ext (hs.rel.none (Nat.le_refl _)) _ 0 _ _ q3).1)
        refine ⟨_, w.heap.size, [], _, ?_, newCells_ptr, ?_, n2.1, n2.2⟩
        · rw [run_enterLoop_inner q1]
        · exact hs.ds.mono n2.2.sub
      · cases e
def CodeOk (P : Program) (ext : Ext) (gl : Gl) (call : CallR) (round : RoundR) (fn : FuncId) (around ro : Option Nat) (m : Nat) : Prop :=
  ∀ (c : Code) (st st' : St) (x : Ex) (ρ : Rn) (a : Act) (w : World) (n : Nat) (Q : Exit → Act → World → Prop), codeB P ext gl call round fn around m c st = some (x, st') → GlOk ρ gl → SR P ρ st a w → (ro.isSome = true → st.rd = true) → Around ρ around ro →
      Upto P ρ st w st' (Q (exOf x)) → c.wpIn (F0 ro) n P Q a w
def LoopOk (P : Program) (ext : Ext) (gl : Gl) (call : CallR) (round : RoundR) (fn : FuncId) (around ro : Option Nat) (m : Nat) : Prop :=
  ∀ (c : Code) (st st' : St) (x : Ex) (ρ : Rn) (a : Act) (w : World) (n : Nat) (Q : Exit → Act → World → Prop), codeB P ext gl call round fn around m (.loop c) st = some (x, st') → GlOk ρ gl → SR P ρ st a w → (ro.isSome = true → st.rd = true) → Around ρ around ro →
      Upto P ρ st w st' (Q (exOf x)) → LK (F0 ro) n P c Q a w
theorem loop_ok {m : Nat} (A : CodeOk P ext gl call round fn around ro m) (B : LoopOk P ext gl call round fn around ro m) : LoopOk P ext gl call round fn around ro (m + 1) := by
  intro c st st' x ρ a w n Q e hg hs hro har hk
  simp only [codeB, Option.bind_eq_some_iff] at e
  obtain ⟨⟨y, st1⟩, e1, e⟩ := e
  have hrd1 := (codeB_rd e1).1
  refine LK.step (A c st st1 y ρ a w n _ e1 hg hs hro har ?_)
  cases y with
  | normal =>
    intro ρ' a' w' hs' hf
    exact B c st1 st' x ρ' a' w' n Q e (hg.mono hf.sub) hs' (fun h => by rw [hrd1]; exact hro h) (har.mono hf.sub) (fun ρ'' a'' w'' hs'' hf'' => hk ρ'' a'' w'' hs'' (hf.trans hf''))
  | exit id => cases e; exact fun ρ' a' w' hs' hf => hk ρ' a' w' hs' hf
  | ret => cases e; exact fun ρ' a' w' hs' hf => hk ρ' a' w' hs' hf
/-- Code. -/
theorem codeB_step (he : ExtOk P ext) (hc : CallOk P gl call) (hrd : RoundOk P gl round) (hn : NG P) (hdr : DrawOk P ext gl call round) {m : Nat} (IH : CodeOk P ext gl call round fn around ro m) (IL : LoopOk P ext gl call round fn around ro m) : CodeOk P ext gl call round fn around ro (m + 1) := by
    intro c st st' x ρ a w n Q e hg hs hro har hk
    have IB := loop_ok IH IL
    cases c
    case loop c1 => exact LK.loop (IB c1 st st' x ρ a w n Q e hg hs hro har hk)
    all_goals simp only [codeB] at e
    case skip =>
      cases e
      exact wpIn_skip (hk ρ a w hs (Fw.refl _ _ _))
    case region id ops draw =>
      simp only [Option.map_eq_some_iff] at e
      obtain ⟨st1, e1, e⟩ := e
      cases e
      cases draw with
      | false =>
        refine wpIn_region ?_
        rw [List.range_eq_range', ← Array.length_toList]
        exact opsB_ok he hc hrd hn ops.toList 0 st st' ρ a w (by simp) hg hs hro e1 hk
      | true => exact hdr id ops st st' ρ a w ro n Q e1 hg hs hro hk
    case seq a1 b1 =>
      simp only [Option.bind_eq_some_iff] at e
      obtain ⟨⟨y, st1⟩, e1, e⟩ := e
      have hrd1 := (codeB_rd e1).1
      refine wpIn_seq (IH a1 st st1 y ρ a w n _ e1 hg hs hro har ?_)
      cases y with
      | normal =>
        intro ρ' a' w' hs' hf
        exact IH b1 st1 st' x ρ' a' w' n Q e (hg.mono hf.sub) hs' (fun h => by rw [hrd1]; exact hro h) (har.mono hf.sub) (fun ρ'' a'' w'' hs'' hf'' => hk ρ'' a'' w'' hs'' (hf.trans hf''))
      | exit id => cases e; exact fun ρ' a' w' hs' hf => hk ρ' a' w' hs' hf
      | ret => cases e; exact fun ρ' a' w' hs' hf => hk ρ' a' w' hs' hf
    case cond cc a1 b1 =>
      simp only [Option.bind_eq_some_iff] at e
      obtain ⟨v, e1, e⟩ := e
      have hv := opnd_ok hg hs.tm e1
      split at e
      · exact wpIn_cond_true hv.boolInv (IH a1 st st' x ρ a w n Q e hg hs hro har hk)
      · exact wpIn_cond_false hv.boolInv (IH b1 st st' x ρ a w n Q e hg hs hro har hk)
      · cases e
    case block id c1 =>
      simp only [Option.map_eq_some_iff] at e
      obtain ⟨⟨y, st1⟩, e1, e⟩ := e
      refine wpIn_block (IH c1 st st1 y ρ a w n _ e1 hg hs hro har ?_)
      cases y with
      | normal =>
        simp only [Prod.mk.injEq] at e
        obtain ⟨rfl, rfl⟩ := e
        exact fun ρ' a' w' hs' hf => hk ρ' a' w' hs' hf
      | ret =>
        simp only [Prod.mk.injEq] at e
        obtain ⟨rfl, rfl⟩ := e
        exact fun ρ' a' w' hs' hf => hk ρ' a' w' hs' hf
      | exit k =>
        simp only [Prod.mk.injEq] at e
        obtain ⟨rfl, rfl⟩ := e
        intro ρ' a' w' hs' hf
        have := hk ρ' a' w' hs' hf
        cases hq : Nat.beq k id with
        | true =>
          rw [hq] at this
          simp only [exOf, Exit.inBlock]
          rw [if_pos (beq_true hq)]
          exact this
        | false =>
          rw [hq] at this
          simp only [exOf, Exit.inBlock]
          rw [if_neg (beq_false hq)]
          exact this
    case exit id =>
      cases e
      exact wpIn_exit (hk ρ a w hs (Fw.refl _ _ _))
    case ret =>
      cases e
      exact wpIn_ret (hk ρ a w hs (Fw.refl _ _ _))
    case rangeFunc f ps asg body =>
      simp only [Option.bind_eq_some_iff] at e
      obtain ⟨v, e1, ⟨d, h1, ds⟩, e2, nx, e3, e⟩ := e
      refine wpIn_rangeFunc (fun fn' _ => ?_)
      obtain ⟨ρ1, l', mark, w1, q1, q2, q3, q4, q5⟩ := enter_ok hs.rel hs (ps := ps) (asg := asg) (body := body) fn fn' e2 har
      have hv := (opnd_ok hg hs.tm e1).mono q5.sub
      obtain ⟨df, p1, p2⟩ := fnB_ok (P := P) (args' := [.func (.yield l') #[] #[]]) hv (.cons (.yield q2) .nil) e3 w1
      rcases p2 with ⟨g, args, args', rfl, p3, p4, _⟩ | ⟨_, _, _, _, rfl, _⟩
      · simp only [Option.bind_eq_some_iff] at e
        obtain ⟨⟨v2, h2⟩, e4, e⟩ := e
        have hg1 := hg.mono q5.sub
        obtain ⟨hcall, hbody⟩ := hc (n - 1) g args args' ρ1 _ w1 v2 h2 hg1 q4 p4 e4
        have hfn : ∃ fn, P.funcs[g]? = some fn := by
          have hx := hcall.2 [] (room_wide _)
          obtain ⟨e, w', fr, hb, hcomes, hfn, hleave⟩ := hx
          obtain ⟨v', ρ', rfl, _⟩ := hb
          obtain ⟨_, _, _, fn, hfn2, _⟩ := hleave
          exact ⟨fn, hfn ▸ hfn2⟩
        obtain ⟨fg, hfn⟩ := hfn
        have hb := hbody fg hfn
        have hrun : (callFunc g args').run P w1 = .ok (.enter g args') w1 := by
          have hname := hn g fg hfn hb
          have hb' : fg.body.isNone = false := by cases h : fg.body <;> simp_all
          simp only [callFunc, program]
          show ((match P.funcs[g]? with | none => stuck "call: no such function" | some fn => _ : Sem Next)).run P w1 = _
          rw [hfn]
          simp [hname, hb']
        refine ⟨l', mark, w1, df, w1, g, args', w1, q1, (by show (Deferred.ofValue (a.eval f) (#[Operand.const (.func (.yield l') #[] #[])].map a.eval)).run P w1 = _; rw [show (#[Operand.const (.func (.yield l') #[] #[])].map a.eval) = #[.func (.yield l') #[] #[]] by simp [Act.eval]]; exact p1), fun f' _ => F0_fn ro f', by rw [p3]; exact hrun, F0_depth, (F0_calls hcall).mono ?_⟩
        intro en w3 hbk
        obtain ⟨v', ρ', rfl, hv', hrel, hf⟩ := hbk
        simp only at e
        split at e
        · rename_i s pend fn2 tm2 sz2 ps2 asg2 body2 d2 hgl
          have hl2 := (hf.sub _ _ q2).1
          obtain ⟨fn3, ts3, d3, z1, z2, z3⟩ := hrel.loopAt hl2 hgl
          split at e
          · cases e
          · rename_i hbusy
            have hput := hrel.putLoop (o1 := .loop .exhausted pend fn2 tm2 sz2 ps2 asg2 body2 d2) (x1 := .loop ⟨.exhausted, pend, fn3, ts3, ps2.toArray, asg2, body2, d3⟩) hl2 hgl trivial (fun e n c k => by cases k) (.loop z2 z3)
            have hend : (Instr.endLoop l').run P w3 = .ok pend (w3.putObj l' (.loop ⟨.exhausted, pend, fn3, ts3, ps2.toArray, asg2, body2, d3⟩)) := by
              exact run_endLoop z1 (fun k => hbusy k)
            refine ⟨pend, _, hend, ?_⟩
            have hf2 := (q5.trans hf).trans hput.2
            have hs2 : SR P ρ' ⟨st.tm, h2.set h1.next (.loop .exhausted pend fn2 tm2 sz2 ps2 asg2 body2 d2), ds, st.sz, st.rd⟩ { a with defers := mark ++ a.defers } (w3.putObj l' (.loop ⟨.exhausted, pend, fn3, ts3, ps2.toArray, asg2, body2, d3⟩)) :=
              ⟨hs.tm.mono hf2.sub, hput.1, q3.mono hf.sub⟩
            split at e
            · cases e
              exact hk ρ' _ _ hs2 hf2
            · cases e
              exact wpIn_ret (hk ρ' _ _ hs2 hf2)
            · cases e
              exact wpIn_exit (hk ρ' _ _ hs2 hf2)
            · cases e
        · cases e
      · cases e
    all_goals cases e
theorem codeB_ok (he : ExtOk P ext) (hc : CallOk P gl call) (hrd : RoundOk P gl round) (hn : NG P) (hdr : DrawOk P ext gl call round) : ∀ m, CodeOk P ext gl call round fn around ro m ∧ LoopOk P ext gl call round fn around ro m
  | 0 => ⟨fun c st st' x ρ a w n Q e => by simp [codeB] at e, fun c st st' x ρ a w n Q e => by simp [codeB] at e⟩
  | m + 1 => let ⟨A, B⟩ := codeB_ok he hc hrd hn hdr m; ⟨codeB_step he hc hrd hn hdr A B, loop_ok A B⟩
end
end Go.Proofs.YtcmildkkigccaaaGreatDoor.Run

/-
  Rounds, deferred calls, calls: the evaluator's word.
-/
namespace Go.Proofs.YtcmildkkigccaaaGreatDoor.Run
open Go
set_option linter.unusedVariables false
set_option linter.unusedSimpArgs false
section
variable {P : Program} {ρ : Rn} {gl : Gl} {ext : Ext} {dfr : Dfr} {call : CallR} {round : RoundR} {h : AH} {w : World}
theorem zip_ok {sz : Nat} : ∀ (ps : List Tmp) (args args' : List Value) (tm : Tr Value) (ts : Array Value), L2 ρ args args' → ps.all (fun t => Nat.blt t sz) = true → TR ρ sz tm ts →
    TR ρ sz ((ps.zip args).foldl (fun tm (x : Tmp × Value) => tm.put x.1 x.2) tm) ((ps.zip args').foldl (fun ts (x : Tmp × Value) => ts.setIfInBounds x.1 x.2) ts)
  | [], args, args', tm, ts, ha, hp, ht => by simpa using ht
  | p :: ps, [], args', tm, ts, ha, hp, ht => by cases ha; simpa using ht
  | p :: ps, v :: args, args', tm, ts, ha, hp, ht => by
    cases ha with
    | cons hv ha =>
      simp only [List.all_cons, Bool.and_eq_true] at hp
      simp only [List.zip_cons_cons, List.foldl_cons]
      refine zip_ok ps _ _ _ _ ha hp.2 ?_
      have := putB_ok (a := ⟨ts, []⟩) (dst := some p) ht hv (tm' := tm.put p v) (by simp [putB, hp.1])
      exact this
theorem endB_ok (hr : Rel P ρ h w) {l l' : Nat} {s : LoopState} {jump : Option Code} {h' : AH} (hl : ρ l = some l') (hs : s = if jump.isNone then .ready else .done) (e : endB l s jump h = some h') :
    ∃ w', (Instr.endRound l' jump).run P w = .ok (.bool jump.isNone) w' ∧ Rel P ρ h' w' ∧ Fw ρ h w ρ h' w' := by
  unfold endB at e
  split at e
  · rename_i s0 pend fn tm sz ps asg body d hg
    cases e
    obtain ⟨fn', ts, d', q1, q2, q3⟩ := hr.loopAt hl hg
    have hput := hr.putLoop (o1 := .loop s jump fn tm sz ps asg body d) (x1 := .loop ⟨s, jump, fn', ts, ps.toArray, asg, body, d'⟩) hl hg trivial (fun e n c k => by cases k) (.loop q2 q3)
    refine ⟨_, ?_, hput.1, hput.2⟩
    rw [run_endRound jump q1, hs]
  · cases e
theorem roundB_ok (he : ExtOk P ext) (hc : CallOk P gl call) (hrd : RoundOk P gl round) (hn : NG P) (hdr : DrawOk P ext gl call round) (m : Nat) : RoundOk P gl (fun l args h => roundB P ext gl call round m l args h) := by
  intro n l l' args args' ρ h w v h' hg hr hl ha e
  dsimp only at e
  unfold roundB at e
  split at e
  · rename_i pend fn tm sz ps asg body d hgl
    obtain ⟨fn', ts, d', q1, q2, q3⟩ := hr.loopAt hl hgl
    cases hb : (Nat.beq ps.length args.length && ps.all (fun t => Nat.blt t sz)) with
    | false => rw [hb] at e; cases e
    | true =>
      rw [hb] at e
      simp only [cond, Option.bind_eq_some_iff] at e
      obtain ⟨⟨x, st1⟩, e1, e⟩ := e
      simp only [Bool.and_eq_true] at hb
      have hlen := beq_true hb.1
      have hal := ha.length
      have hsz : args'.size = ps.toArray.size := by simp at hal ⊢; omega
      refine ⟨fn', (ps.zip args'.toList).foldl (fun ts (x : Tmp × Value) => ts.setIfInBounds x.1 x.2) ts, asg, body, ?_, ?_⟩
      · rw [run_yield q1 hsz]
        simp only
        congr 2
        rw [← Array.foldl_toList]
        simp
      · have htr := zip_ok ps args args'.toList tm ts ha hb.2 q2
        have hs0 : SR P ρ ⟨(ps.zip args).foldl (fun tm (x : Tmp × Value) => tm.put x.1 x.2) tm, h, [], sz, true⟩ ⟨(ps.zip args'.toList).foldl (fun ts (x : Tmp × Value) => ts.setIfInBounds x.1 x.2) ts, []⟩ w := ⟨htr, hr, trivial⟩
        have hcode := (codeB_ok (fn := fn) (around := some l) (ro := some l') he hc hrd hn hdr m).1
        refine roundIn_of_wpIn (F0_fn none fn') ?_
        have hrd1 := (codeB_rd e1).1
        cases x with
        | normal =>
          simp only at e
          refine hcode asg _ st1 .normal ρ _ w n _ e1 hg hs0 (fun _ => rfl) hl ?_
          intro ρ1 a1 w1 hs1 hf1
          split at e
          · rename_i pend2 fn2 tm2 sz2 ps2 asg2 body2 d2 hgl2
            simp only [Option.bind_eq_some_iff] at e
            obtain ⟨⟨y, st2⟩, e2, e⟩ := e
            have hl1 := (hf1.sub _ _ hl).1
            obtain ⟨fn3, ts3, d3, z1, z2, z3⟩ := hs1.rel.loopAt hl1 hgl2
            have hput := hs1.rel.putLoop (o1 := .loop .busy pend2 fn2 tm2 sz2 ps2 asg2 body2 d2) (x1 := .loop ⟨.busy, pend2, fn3, ts3, ps2.toArray, asg2, body2, d3⟩) hl1 hgl2 trivial (fun e n c k => by cases k) (.loop z2 z3)
            refine ⟨_, run_beginRound z1 rfl, ?_⟩
            have hf2 := hf1.trans hput.2
            have hs2 : SR P ρ1 ⟨st1.tm, st1.h.set l (.loop .busy pend2 fn2 tm2 sz2 ps2 asg2 body2 d2), st1.ds, st1.sz, st1.rd⟩ a1 (w1.putObj l' (.loop ⟨.busy, pend2, fn3, ts3, ps2.toArray, asg2, body2, d3⟩)) := ⟨hs1.tm, hput.1, hs1.ds⟩
            refine hcode body _ st2 y ρ1 a1 _ n _ e2 (hg.mono hf2.sub) hs2 (fun _ => hrd1) (hf2.sub _ _ hl).1 ?_
            intro ρ3 a3 w3 hs3 hf3
            have hl3 := (hf3.sub _ _ hl1).1
            have hend : ∀ (s : LoopState) (jump : Option Code), s = (if jump.isNone then .ready else .done) → (endB l s jump st2.h).map (fun h => (Value.bool jump.isNone, h)) = some (v, h') →
                ∃ u w', (Instr.endRound l' jump).run P w3 = .ok u w' ∧ Back P ρ h w v h' (.returned u) w' := by
              intro s jump hsj hmap
              simp only [Option.map_eq_some_iff] at hmap
              obtain ⟨h5, h6, h7⟩ := hmap
              cases h7
              obtain ⟨w4, k1, k2, k3⟩ := endB_ok hs3.rel hl3 hsj h6
              exact ⟨_, w4, k1, _, ρ3, rfl, .fl rfl, k2, (hf2.trans hf3).trans k3⟩
            cases y with
            | normal => exact hend .ready none rfl e
            | ret => exact hend .done (some .ret) rfl e
            | exit id => exact hend .done (some (.exit id)) rfl e
          · cases e
        | exit id => cases e
        | ret => cases e
  · cases e
end
end Go.Proofs.YtcmildkkigccaaaGreatDoor.Run

/-
  Calls: the evaluator's word.
-/
namespace Go.Proofs.YtcmildkkigccaaaGreatDoor.Run
open Go
set_option linter.unusedVariables false
set_option linter.unusedSimpArgs false
/-- Deferred calls that are taken as given: in a frame that returns. -/
def DfrOk (P : Program) (dfr : Dfr) : Prop := ∀ f d, dfr f = some d → ∀ (ρ : Rn) (h : AH) (w : World) (args : List Value) (args' : Array Value) (h' : AH) (n : Nat), Rel P ρ h w → L2 ρ args args'.toList → d h args = some h' →
  CallsDIn (F0 none) n P f args' .returning w (fun e u w' => (∃ v, e = .returned v) ∧ u = .returning ∧ ∃ ρ', Rel P ρ' h' w' ∧ Fw ρ h w ρ' h' w') ∧ ∃ fn, P.funcs[f]? = some fn ∧ fn.body.isSome = true
section
variable {P : Program} {ρ : Rn} {gl : Gl} {ext : Ext} {dfr : Dfr} {call : CallR} {round : RoundR} {h : AH} {w : World}
theorem run_callFunc (hn : NG P) {f : FuncId} {fn : Func} (hf : P.funcs[f]? = some fn) (hb : fn.body.isSome = true) (args : Array Value) (w : World) : (callFunc f args).run P w = .ok (.enter f args) w := by
  have hname := hn f fn hf hb
  have hb' : fn.body.isNone = false := by cases h : fn.body <;> simp_all
  simp only [callFunc, program]
  show ((match P.funcs[f]? with | none => stuck "call: no such function" | some fn => _ : Sem Next)).run P w = _
  rw [hf]
  simp [hname, hb']
def resF (ts : Array Value) : ResultVar → Sem Value
  | .tmp t => pure (ts.getD t undef)
  | .cell a t => do loadVar t (← asAddr (ts.getD a undef))
theorem resB_ok (hr : Rel P ρ h w) {sz : Nat} {tm : Tr Value} {ts : Array Value} (ht : TR ρ sz tm ts) : ∀ (l : List ResultVar) (vs : List Value), resB P tm h l = some vs →
    ∃ vs', (l.mapM (resF ts)).run P w = .ok vs' w ∧ L2 ρ vs vs'
  | [], vs, e => by simp only [resB] at e; cases e; exact ⟨[], rfl, .nil⟩
  | .tmp t :: l, vs, e => by
    simp only [resB, Option.map_eq_some_iff] at e
    obtain ⟨vs1, e1, rfl⟩ := e
    obtain ⟨vs', h1, h2⟩ := resB_ok hr ht l vs1 e1
    refine ⟨ts.getD t undef :: vs', ?_, .cons (ht.2 t) h2⟩
    rw [List.mapM_cons, Sem.run_bind]
    simp only [resF, Sem.run_pure, Result.andThen_ok]
    rw [Sem.run_bind, h1]
    rfl
  | .cell x t :: l, vs, e => by
    simp only [resB, Option.bind_eq_some_iff, Option.map_eq_some_iff] at e
    obtain ⟨v, e0, vs1, e1, rfl⟩ := e
    obtain ⟨vs', h1, h2⟩ := resB_ok hr ht l vs1 e1
    have hx := ht.2 x
    obtain ⟨v', h3, h4⟩ := loadB_ok hr hx e0
    have hp : ∃ ad, ts.getD x undef = .pointer (some ad) := by
      revert hx
      revert e0
      generalize (tm.get x).getD undef = q
      generalize ts.getD x undef = q'
      intro e0 hx
      unfold loadB at e0
      split at e0
      · obtain ⟨j, _, rfl⟩ := hx.ptrInv; exact ⟨_, rfl⟩
      · cases e0
    obtain ⟨ad, hp⟩ := hp
    refine ⟨v' :: vs', ?_, .cons h4 h2⟩
    rw [hp] at h3
    rw [List.mapM_cons, Sem.run_bind]
    have h5 : (resF ts (.cell x t)).run P w = .ok v' w := by
      simp only [resF, hp]
      exact h3
    rw [h5]
    simp only [Result.andThen_ok]
    rw [Sem.run_bind, h1]
    rfl
theorem results_ok (hr : Rel P ρ h w) {sz : Nat} {tm : Tr Value} {ts : Array Value} (ht : TR ρ sz tm ts) {fn : Func} {vs : List Value} (e : resB P tm h fn.results.toList = some vs) : ∃ v', (results fn ts).run P w = .ok v' w ∧ VR ρ (retB vs) v' := by
  obtain ⟨vs', h1, h2⟩ := resB_ok hr ht _ _ e
  have hlen := h2.length
  have hres : results fn ts = (do let vs ← fn.results.mapM (resF ts); pure (if h : vs.size = 1 then vs[0] else .tuple vs)) := by
    unfold results
    first
      | rfl
      | (congr 1; congr 1; funext x; cases x <;> rfl)
  rw [hres]
  rw [Sem.run_bind, Array.mapM_eq_mapM_toList, Sem.run_map, h1]
  simp only [Result.andThen_ok]
  cases h2 with
  | nil => exact ⟨.tuple #[], rfl, .fl rfl⟩
  | cons k1 k2 =>
    cases k2 with
    | nil => exact ⟨_, rfl, k1⟩
    | cons k3 k4 => exact ⟨_, rfl, VR.tuple_list (.cons k1 (.cons k3 k4))⟩
theorem Rel.dfsAt (hr : Rel P ρ h w) {r r' : Nat} (hl : ρ r = some r') (hg : h.get r = some (.dfs true)) : w.heap[r']? = some (.deferred (some [])) := by
  obtain ⟨x, h1, h2⟩ := hr.obj r r' _ hl hg trivial
  cases h2
  exact h1
theorem leave_ok (hn : NG P) (hd : DfrOk P dfr) {fn : Func} {sz : Nat} {tm : Tr Value} {ts : Array Value} {R : Ending → World → Prop} {n : Nat} :
    ∀ (ds : List Df) (ds' : List Deferred) (ρ : Rn) (h h1 : AH) (w : World), DL ρ ds ds' → Rel P ρ h w → TR ρ sz tm ts → leaveB dfr ds h = some h1 →
      (∀ ρ1 w1, Rel P ρ1 h1 w1 → Fw ρ h w ρ1 h1 w1 → ∃ u, (results fn ts).run P w1 = .ok u w1 ∧ R (.returned u) w1) → LeavesInM (F0 none) n P fn ts R ds' .returning w
  | [], [], ρ, h, h1, w, _, hr, ht, e, hk => by
    simp only [leaveB] at e
    cases e
    exact hk ρ w hr (Fw.refl _ _ _)
  | [], _ :: _, _, _, _, _, hdl, _, _, _, _ => hdl.elim
  | _ :: _, [], _, _, _, _, hdl, _, _, _, _ => hdl.elim
  | .mark r :: ds, d' :: ds', ρ, h, h1, w, hdl, hr, ht, e, hk => by
    obtain ⟨⟨r', k1, rfl⟩, hdl⟩ := hdl
    simp only [leaveB] at e
    split at e
    · rename_i hg
      have hq := hr.dfsAt k1 hg
      have hput := hr.putLoop (o1 := .dfs false) (x1 := .deferred none) k1 hg trivial (fun e n c k => by cases k) .dfs0
      refine ⟨by simp, .inl ⟨r', _, rfl, run_takeDeferred hq, ?_⟩⟩
      exact leave_ok hn hd ds ds' ρ _ h1 _ hdl hput.1 ht e (fun ρ1 w1 q1 q2 => hk ρ1 w1 q1 (hput.2.trans q2))
    · cases e
  | .call f args :: ds, d' :: ds', ρ, h, h1, w, hdl, hr, ht, e, hk => by
    obtain ⟨⟨cap, args', rfl, ha⟩, hdl⟩ := hdl
    simp only [leaveB, Option.bind_eq_some_iff] at e
    obtain ⟨dd, e1, h2, e2, e⟩ := e
    obtain ⟨hcall, fn', hf, hb⟩ := hd f dd e1 ρ h w args (args' ++ cap) h2 (n - 1) hr ha e2
    refine ⟨by simp, .inr ⟨F0_depth, .func f, cap, f, args' ++ cap, rfl, run_callFunc hn hf hb _ _, fun g _ => F0_fn none g, hcall.mono ?_⟩⟩
    intro en u w1 hq
    obtain ⟨⟨vv, rfl⟩, rfl, ρ1, q1, q2⟩ := hq
    exact leave_ok hn hd ds ds' ρ1 h2 h1 w1 (hdl.mono q2.sub) q1 (ht.mono q2.sub) e (fun ρ2 w2 q3 q4 => hk ρ2 w2 q3 (q2.trans q4))
theorem callStep_ok (he : ExtOk P ext) (hc : CallOk P gl call) (hrd : RoundOk P gl round) (hn : NG P) (hdr : DrawOk P ext gl call round) (hd : DfrOk P dfr) (m : Nat) : CallOk P gl (fun f args h =>
    (P.funcs[f]?).bind fun fn => (fn.body).bind fun c =>
    cond (Nat.ble args.length fn.ntmps)
    ((codeB P ext gl call round f none m c ⟨Tr.ofFrom args 0 .e, h, [], fn.ntmps, false⟩).bind fun (x, st) =>
      (match x with
      | .exit _ => none
      | _ => (leaveB dfr st.ds st.h).bind fun h => (resB P st.tm h fn.results.toList).map fun vs => (retB vs, h))) none) := by
  intro n f args args' ρ h w v h' hg hr ha e
  simp only [Option.bind_eq_some_iff] at e
  obtain ⟨fn, hf, c, hb, e⟩ := e
  refine ⟨?_, fun fn2 hf2 => by rw [hf] at hf2; cases hf2; rw [hb]; rfl⟩
  cases hle : Nat.ble args.length fn.ntmps with
  | false => rw [hle] at e; cases e
  | true =>
    rw [hle] at e
    simp only [cond, Option.bind_eq_some_iff] at e
    obtain ⟨⟨x, st1⟩, e1, e⟩ := e
    have hle := ble_true hle
    have hal := ha.length
    refine callsIn_of_wp_marks hf hb (F0_fn none f) ?_
    have hs0 : SR P ρ ⟨Tr.ofFrom args 0 .e, h, [], fn.ntmps, false⟩ { tmps := args' ++ Array.replicate (fn.ntmps - args'.size) undef, defers := [] } w := by
      refine ⟨⟨?_, fun t => ?_⟩, hr, trivial⟩
      · simp at hal ⊢; omega
      · rw [Tr.get_of]
        show VR ρ _ ((args' ++ Array.replicate (fn.ntmps - args'.size) undef).getD t undef)
        rw [Array.getD_eq_getD_getElem?]
        by_cases ht : t < args.length
        · have hv : args[t]? = some (args[t]'ht) := by simp
          obtain ⟨v', k1, k2⟩ := ha.get t _ hv
          have hlt : t < args'.size := by simp at hal; omega
          rw [hv, Array.getElem?_append_left hlt, ← Array.getElem?_toList, k1]
          exact k2
        · rw [List.getElem?_eq_none (by omega)]
          have hge : args'.size ≤ t := by simp at hal; omega
          rw [Array.getElem?_append_right hge]
          simp only [Option.getD_none]
          rw [Array.getElem?_replicate]
          split <;> exact .fl rfl
    have hcode := (codeB_ok (fn := f) (around := none) (ro := none) he hc hrd hn hdr m).1
    have hfin : (leaveB dfr st1.ds st1.h).bind (fun h => (resB P st1.tm h fn.results.toList).map fun vs => (retB vs, h)) = some (v, h') → Upto P ρ ⟨Tr.ofFrom args 0 .e, h, [], fn.ntmps, false⟩ w st1 (fun a' w' => LeavesInM (F0 none) n P fn a'.tmps (Back P ρ h w v h') a'.defers .returning w') := by
      intro e ρ' a' w' hs' hf'
      simp only [Option.bind_eq_some_iff, Option.map_eq_some_iff] at e
      obtain ⟨h2, e2, vs, e3, e⟩ := e
      cases e
      refine leave_ok hn hd st1.ds a'.defers ρ' st1.h _ w' hs'.ds hs'.rel hs'.tm e2 (fun ρ1 w1 q1 q2 => ?_)
      obtain ⟨u, k1, k2⟩ := results_ok q1 (hs'.tm.mono q2.sub) e3
      exact ⟨u, k1, u, ρ1, rfl, k2, q1, hf'.trans q2⟩
    cases x with
    | exit id => cases e
    | normal => exact hcode c _ st1 .normal ρ _ w n _ e1 hg hs0 (fun h => by cases h) trivial (hfin e)
    | ret => exact hcode c _ st1 .ret ρ _ w n _ e1 hg hs0 (fun h => by cases h) trivial (hfin e)
end
/-- A contract that is given. -/
theorem hookB_ok {P : Program} {gl : Gl} {hk call : CallR} (h1 : CallOk P gl hk) (h2 : CallOk P gl call) : CallOk P gl (hookB hk call) := by
  intro n f args args' ρ h w v h' hg hr ha e
  unfold hookB at e
  split at e
  · rename_i r hr1
    cases e
    exact h1 n f args args' ρ h w v h' hg hr ha hr1
  · exact h2 n f args args' ρ h w v h' hg hr ha e
/-- The evaluator's word, of every call. -/
theorem callB_ok {P : Program} {gl : Gl} {ext : Ext} {dfr : Dfr} {hk : CallR} (hkok : CallOk P gl hk) (he : ExtOk P ext) (hn : NG P) (hd : DfrOk P dfr) (hdr : ∀ call round, CallOk P gl call → RoundOk P gl round → DrawOk P ext gl call round) :
    ∀ m, CallOk P gl (callB P ext dfr hk gl m) ∧ RoundOk P gl (callB.goB P ext dfr hk gl m)
  | 0 => ⟨fun n f args args' ρ h w v h' _ _ _ e => by simp [callB] at e, fun n l l' args args' ρ h w v h' _ _ _ _ e => by simp [callB.goB] at e⟩
  | m + 1 => by
    obtain ⟨hc, hr⟩ := callB_ok hkok he hn hd hdr m
    have hdr' := hdr _ _ hc hr
    constructor
    · have := callStep_ok he hc hr hn hdr' hd m
      unfold callB
      exact hookB_ok hkok this
    · have := roundB_ok he hc hr hn hdr' m
      unfold callB.goB
      exact this
end Go.Proofs.YtcmildkkigccaaaGreatDoor.Run
