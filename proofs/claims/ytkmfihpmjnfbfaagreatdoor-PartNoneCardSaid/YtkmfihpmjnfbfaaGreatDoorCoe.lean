/-
  Calls: the evaluator's word.
-/
import Derived.Test.YtkmfihpmjnfbfaaGreatDoorCod
namespace Go.Proofs.YtkmfihpmjnfbfaaGreatDoor.Run
open Go
set_option linter.unusedVariables false
set_option linter.unusedSimpArgs false
/-- Deferred calls that are taken as given: in a frame that returns. -/
def DfrOk (P : Program) (dfr : Dfr) : Prop := ∀ f d, dfr f = some d → ∀ (ρ : Rn) (h : AH) (w : World) (args : List Value) (args' : Array Value) (h' : AH) (n : Nat), Rel P ρ h w → L2 ρ args args'.toList → d h args = some h' →
  CallsDIn (F0 none) n P f args' .returning w (fun e u w' => (∃ v, e = .returned v) ∧ u = .returning ∧ ∃ ρ', Rel P ρ' h' w' ∧ Fw ρ h w ρ' h' w') ∧ ∃ fn, P.funcs[f]? = some fn ∧ fn.body.isSome = true
section
variable {P : Program} {ρ : Rn} {gl : Gl} {ext : Ext} {dfr : Dfr} {call : CallR} {round : RoundR} {h : AH} {w : World}
theorem run_callFunc (hn : NG P) {f : FuncId} {fn : Func} (hf : P.funcs[f]? = some fn) (hb : fn.body.isSome = true) (args : Array Value) (w : World) : (callFunc f args).run P w = .ok (.enter f args) w := by
  have hname := hn f fn hf hb
  have hb' : fn.body.isNone = false := by cases h : fn.body <;> simp_all
  simp only [callFunc, program]
  show ((match P.funcs[f]? with | none => stuck "call: no such function" | some fn => _ : Sem Next)).run P w = _
  rw [hf]
  simp [hname, hb']
def resF (ts : Array Value) : ResultVar → Sem Value
  | .tmp t => pure (ts.getD t undef)
  | .cell a t => do loadVar t (← asAddr (ts.getD a undef))
theorem resB_ok (hr : Rel P ρ h w) {sz : Nat} {tm : Tr Value} {ts : Array Value} (ht : TR ρ sz tm ts) : ∀ (l : List ResultVar) (vs : List Value), resB P tm h l = some vs →
    ∃ vs', (l.mapM (resF ts)).run P w = .ok vs' w ∧ L2 ρ vs vs'
  | [], vs, e => by simp only [resB] at e; cases e; exact ⟨[], rfl, .nil⟩
  | .tmp t :: l, vs, e => by
    simp only [resB, Option.map_eq_some_iff] at e
    obtain ⟨vs1, e1, rfl⟩ := e
    obtain ⟨vs', h1, h2⟩ := resB_ok hr ht l vs1 e1
    refine ⟨ts.getD t undef :: vs', ?_, .cons (ht.2 t) h2⟩
    rw [List.mapM_cons, Sem.run_bind]
    simp only [resF, Sem.run_pure, Result.andThen_ok]
    rw [Sem.run_bind, h1]
    rfl
  | .cell x t :: l, vs, e => by
    simp only [resB, Option.bind_eq_some_iff, Option.map_eq_some_iff] at e
    obtain ⟨v, e0, vs1, e1, rfl⟩ := e
    obtain ⟨vs', h1, h2⟩ := resB_ok hr ht l vs1 e1
    have hx := ht.2 x
    obtain ⟨v', h3, h4⟩ := loadB_ok hr hx e0
    have hp : ∃ ad, ts.getD x undef = .pointer (some ad) := by
      revert hx
      revert e0
      generalize (tm.get x).getD undef = q
      generalize ts.getD x undef = q'
      intro e0 hx
      unfold loadB at e0
      split at e0
      · obtain ⟨j, _, rfl⟩ := hx.ptrInv; exact ⟨_, rfl⟩
      · cases e0
    obtain ⟨ad, hp⟩ := hp
    refine ⟨v' :: vs', ?_, .cons h4 h2⟩
    rw [hp] at h3
    rw [List.mapM_cons, Sem.run_bind]
    have h5 : (resF ts (.cell x t)).run P w = .ok v' w := by
      simp only [resF, hp]
      exact h3
    rw [h5]
    simp only [Result.andThen_ok]
    rw [Sem.run_bind, h1]
    rfl
theorem results_ok (hr : Rel P ρ h w) {sz : Nat} {tm : Tr Value} {ts : Array Value} (ht : TR ρ sz tm ts) {fn : Func} {vs : List Value} (e : resB P tm h fn.results.toList = some vs) : ∃ v', (results fn ts).run P w = .ok v' w ∧ VR ρ (retB vs) v' := by
  obtain ⟨vs', h1, h2⟩ := resB_ok hr ht _ _ e
  have hlen := h2.length
  have hres : results fn ts = (do let vs ← fn.results.mapM (resF ts); pure (if h : vs.size = 1 then vs[0] else .tuple vs)) := by
    unfold results
    first
      | rfl
      | (congr 1; congr 1; funext x; cases x <;> rfl)
  rw [hres]
  rw [Sem.run_bind, Array.mapM_eq_mapM_toList, Sem.run_map, h1]
  simp only [Result.andThen_ok]
  cases h2 with
  | nil => exact ⟨.tuple #[], rfl, .fl rfl⟩
  | cons k1 k2 =>
    cases k2 with
    | nil => exact ⟨_, rfl, k1⟩
    | cons k3 k4 => exact ⟨_, rfl, VR.tuple_list (.cons k1 (.cons k3 k4))⟩
theorem Rel.dfsAt (hr : Rel P ρ h w) {r r' : Nat} (hl : ρ r = some r') (hg : h.get r = some (.dfs true)) : w.heap[r']? = some (.deferred (some [])) := by
  obtain ⟨x, h1, h2⟩ := hr.obj r r' _ hl hg trivial
  cases h2
  exact h1
theorem leave_ok (hn : NG P) (hd : DfrOk P dfr) {fn : Func} {sz : Nat} {tm : Tr Value} {ts : Array Value} {R : Ending → World → Prop} {n : Nat} :
    ∀ (ds : List Df) (ds' : List Deferred) (ρ : Rn) (h h1 : AH) (w : World), DL ρ ds ds' → Rel P ρ h w → TR ρ sz tm ts → leaveB dfr ds h = some h1 →
      (∀ ρ1 w1, Rel P ρ1 h1 w1 → Fw ρ h w ρ1 h1 w1 → ∃ u, (results fn ts).run P w1 = .ok u w1 ∧ R (.returned u) w1) → LeavesInM (F0 none) n P fn ts R ds' .returning w
  | [], [], ρ, h, h1, w, _, hr, ht, e, hk => by
    simp only [leaveB] at e
    cases e
    exact hk ρ w hr (Fw.refl _ _ _)
  | [], _ :: _, _, _, _, _, hdl, _, _, _, _ => hdl.elim
  | _ :: _, [], _, _, _, _, hdl, _, _, _, _ => hdl.elim
  | .mark r :: ds, d' :: ds', ρ, h, h1, w, hdl, hr, ht, e, hk => by
    obtain ⟨⟨r', k1, rfl⟩, hdl⟩ := hdl
    simp only [leaveB] at e
    split at e
    · rename_i hg
      have hq := hr.dfsAt k1 hg
      have hput := hr.putLoop (o1 := .dfs false) (x1 := .deferred none) k1 hg trivial (fun e n c k => by cases k) .dfs0
      refine ⟨by simp, .inl ⟨r', _, rfl, run_takeDeferred hq, ?_⟩⟩
      exact leave_ok hn hd ds ds' ρ _ h1 _ hdl hput.1 ht e (fun ρ1 w1 q1 q2 => hk ρ1 w1 q1 (hput.2.trans q2))
    · cases e
  | .call f args :: ds, d' :: ds', ρ, h, h1, w, hdl, hr, ht, e, hk => by
    obtain ⟨⟨cap, args', rfl, ha⟩, hdl⟩ := hdl
    simp only [leaveB, Option.bind_eq_some_iff] at e
    obtain ⟨dd, e1, h2, e2, e⟩ := e
    obtain ⟨hcall, fn', hf, hb⟩ := hd f dd e1 ρ h w args (args' ++ cap) h2 (n - 1) hr ha e2
    refine ⟨by simp, .inr ⟨F0_depth, .func f, cap, f, args' ++ cap, rfl, run_callFunc hn hf hb _ _, fun g _ => F0_fn none g, hcall.mono ?_⟩⟩
    intro en u w1 hq
    obtain ⟨⟨vv, rfl⟩, rfl, ρ1, q1, q2⟩ := hq
    exact leave_ok hn hd ds ds' ρ1 h2 h1 w1 (hdl.mono q2.sub) q1 (ht.mono q2.sub) e (fun ρ2 w2 q3 q4 => hk ρ2 w2 q3 (q2.trans q4))
theorem callStep_ok (he : ExtOk P ext) (hc : CallOk P gl call) (hrd : RoundOk P gl round) (hn : NG P) (hdr : DrawOk P ext gl call round) (hd : DfrOk P dfr) (m : Nat) : CallOk P gl (fun f args h =>
    (P.funcs[f]?).bind fun fn => (fn.body).bind fun c =>
    cond (Nat.ble args.length fn.ntmps)
    ((codeB P ext gl call round f none m c ⟨Tr.ofFrom args 0 .e, h, [], fn.ntmps, false⟩).bind fun (x, st) =>
      (match x with
      | .exit _ => none
      | _ => (leaveB dfr st.ds st.h).bind fun h => (resB P st.tm h fn.results.toList).map fun vs => (retB vs, h))) none) := by
  intro n f args args' ρ h w v h' hg hr ha e
  simp only [Option.bind_eq_some_iff] at e
  obtain ⟨fn, hf, c, hb, e⟩ := e
  refine ⟨?_, fun fn2 hf2 => by rw [hf] at hf2; cases hf2; rw [hb]; rfl⟩
  cases hle : Nat.ble args.length fn.ntmps with
  | false => rw [hle] at e; cases e
  | true =>
    rw [hle] at e
    simp only [cond, Option.bind_eq_some_iff] at e
    obtain ⟨⟨x, st1⟩, e1, e⟩ := e
    have hle := ble_true hle
    have hal := ha.length
    refine callsIn_of_wp_marks hf hb (F0_fn none f) ?_
    have hs0 : SR P ρ ⟨Tr.ofFrom args 0 .e, h, [], fn.ntmps, false⟩ { tmps := args' ++ Array.replicate (fn.ntmps - args'.size) undef, defers := [] } w := by
      refine ⟨⟨?_, fun t => ?_⟩, hr, trivial⟩
      · simp at hal ⊢; omega
      · rw [Tr.get_of]
        show VR ρ _ ((args' ++ Array.replicate (fn.ntmps - args'.size) undef).getD t undef)
        rw [Array.getD_eq_getD_getElem?]
        by_cases ht : t < args.length
        · have hv : args[t]? = some (args[t]'ht) := by simp
          obtain ⟨v', k1, k2⟩ := ha.get t _ hv
          have hlt : t < args'.size := by simp at hal; omega
          rw [hv, Array.getElem?_append_left hlt, ← Array.getElem?_toList, k1]
          exact k2
        · rw [List.getElem?_eq_none (by omega)]
          have hge : args'.size ≤ t := by simp at hal; omega
          rw [Array.getElem?_append_right hge]
          simp only [Option.getD_none]
          rw [Array.getElem?_replicate]
          split <;> exact .fl rfl
    have hcode := (codeB_ok (fn := f) (around := none) (ro := none) he hc hrd hn hdr m).1
    have hfin : (leaveB dfr st1.ds st1.h).bind (fun h => (resB P st1.tm h fn.results.toList).map fun vs => (retB vs, h)) = some (v, h') → Upto P ρ ⟨Tr.ofFrom args 0 .e, h, [], fn.ntmps, false⟩ w st1 (fun a' w' => LeavesInM (F0 none) n P fn a'.tmps (Back P ρ h w v h') a'.defers .returning w') := by
      intro e ρ' a' w' hs' hf'
      simp only [Option.bind_eq_some_iff, Option.map_eq_some_iff] at e
      obtain ⟨h2, e2, vs, e3, e⟩ := e
      cases e
      refine leave_ok hn hd st1.ds a'.defers ρ' st1.h _ w' hs'.ds hs'.rel hs'.tm e2 (fun ρ1 w1 q1 q2 => ?_)
      obtain ⟨u, k1, k2⟩ := results_ok q1 (hs'.tm.mono q2.sub) e3
      exact ⟨u, k1, u, ρ1, rfl, k2, q1, hf'.trans q2⟩
    cases x with
    | exit id => cases e
    | normal => exact hcode c _ st1 .normal ρ _ w n _ e1 hg hs0 (fun h => by cases h) trivial (hfin e)
    | ret => exact hcode c _ st1 .ret ρ _ w n _ e1 hg hs0 (fun h => by cases h) trivial (hfin e)
end
/-- A contract that is given. -/
theorem hookB_ok {P : Program} {gl : Gl} {hk call : CallR} (h1 : CallOk P gl hk) (h2 : CallOk P gl call) : CallOk P gl (hookB hk call) := by
  intro n f args args' ρ h w v h' hg hr ha e
  unfold hookB at e
  split at e
  · rename_i r hr1
    cases e
    exact h1 n f args args' ρ h w v h' hg hr ha hr1
  · exact h2 n f args args' ρ h w v h' hg hr ha e
/-- The evaluator's word, of every call. -/
theorem callB_ok {P : Program} {gl : Gl} {ext : Ext} {dfr : Dfr} {hk : CallR} (hkok : CallOk P gl hk) (he : ExtOk P ext) (hn : NG P) (hd : DfrOk P dfr) (hdr : ∀ call round, CallOk P gl call → RoundOk P gl round → DrawOk P ext gl call round) :
    ∀ m, CallOk P gl (callB P ext dfr hk gl m) ∧ RoundOk P gl (callB.goB P ext dfr hk gl m)
  | 0 => ⟨fun n f args args' ρ h w v h' _ _ _ e => by simp [callB] at e, fun n l l' args args' ρ h w v h' _ _ _ _ e => by simp [callB.goB] at e⟩
  | m + 1 => by
    obtain ⟨hc, hr⟩ := callB_ok hkok he hn hd hdr m
    have hdr' := hdr _ _ hc hr
    constructor
    · have := callStep_ok he hc hr hn hdr' hd m
      unfold callB
      exact hookB_ok hkok this
    · have := roundB_ok he hc hr hn hdr' m
      unfold callB.goB
      exact this
end Go.Proofs.YtkmfihpmjnfbfaaGreatDoor.Run
