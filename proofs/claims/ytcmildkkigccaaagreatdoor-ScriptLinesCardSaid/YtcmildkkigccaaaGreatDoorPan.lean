/-
  A call that gives up inside, and whose deferred call catches it.
-/
import Derived.Test.YtcmildkkigccaaaGreatDoorHok
import Derived.RecoverIn
namespace Go.Proofs.YtcmildkkigccaaaGreatDoor.Run
open Go
set_option linter.unusedVariables false
set_option linter.unusedSimpArgs false
def spl : Nat → Code → List Code × Code
  | 0, c => ([], c)
  | n + 1, c => match c with
    | .seq a b => (a :: (spl n b).1, (spl n b).2)
    | c => ([], c)
def seqs : List Code → Code → Code
  | [], r => r
  | a :: l, r => .seq a (seqs l r)
theorem seqs_spl : ∀ n c, seqs (spl n c).1 (spl n c).2 = c
  | 0, c => rfl
  | n + 1, c => by
    cases c
    case seq a b => simp only [spl, seqs, seqs_spl n b]
    all_goals rfl
def evalL (P : Program) (ext : Ext) (gl : Gl) (call : CallR) (round : RoundR) (fn : FuncId) (m : Nat) : List Code → St → Option St
  | [], st => some st
  | c :: l, st => (codeB P ext gl call round fn none m c st).bind fun r => match r.1 with
    | .normal => evalL P ext gl call round fn m l r.2
    | _ => none
def isCall (g : FuncId) (gargs : List Value) : Option Nx → Bool
  | some (.call f args) => Nat.beq f g && sameL args gargs
  | _ => false
theorem of_isCall {g : FuncId} {gargs : List Value} {x : Option Nx} (h : isCall g gargs x = true) : x = some (.call g gargs) := by
  unfold isCall at h
  split at h
  · simp only [Bool.and_eq_true] at h
    rw [beq_true h.1, sameL_eq h.2]
  · cases h
theorem l2_flat {ρ : Rn} {l l' : List Value} (h : L2 ρ l l') (hf : l.all flat = true) : l' = l := h.flat (fun v hv => List.all_eq_true.1 hf v hv)
/-- What gives up. -/
def PanOk (P : Program) (g : FuncId) (gargs : List Value) (chain : List PanicEntry) : Prop :=
  (∀ (w : World) (n : Nat), CallsIn (F0 none) n P g gargs.toArray w (fun e w' => e = .panicked chain ∧ w' = w)) ∧ ∃ fn, P.funcs[g]? = some fn ∧ fn.body.isSome = true
/-- What catches it. -/
def DfpOk (P : Program) (chain : List PanicEntry) (dfp : FuncId → AH → List Value → Option AH) : Prop := ∀ (d : FuncId) (ρ : Rn) (h : AH) (w : World) (args : List Value) (args' : Array Value) (h3 : AH) (n : Nat), Rel P ρ h w → L2 ρ args args'.toList → dfp d h args = some h3 →
  CallsDIn (F0 none) n P d args' (.panicking chain) w (fun e u w' => (∃ v, e = .returned v) ∧ settle u = .returning ∧ ∃ ρ', Rel P ρ' h3 w' ∧ Fw ρ h w ρ' h3 w') ∧ ∃ fn, P.funcs[d]? = some fn ∧ fn.body.isSome = true
section
variable {P : Program} {ρ : Rn} {gl : Gl} {ext : Ext} {call : CallR} {round : RoundR} {n : Nat}
theorem evalL_ok (he : ExtOk P ext) (hc : CallOk P gl call) (hrd : RoundOk P gl round) (hn : NG P) (hdr : DrawOk P ext gl call round) {fn : FuncId} {m : Nat} {rest : Code} {Q : Exit → Act → World → Prop} :
    ∀ (l : List Code) (st st' : St) (ρ : Rn) (a : Act) (w : World), evalL P ext gl call round fn m l st = some st' → GlOk ρ gl → SR P ρ st a w → Upto P ρ st w st' (fun a w => rest.wpIn (F0 none) n P Q a w) → (seqs l rest).wpIn (F0 none) n P Q a w
  | [], st, st', ρ, a, w, e, hg, hs, hk => by cases e; exact hk ρ a w hs (Fw.refl _ _ _)
  | c :: l, st, st', ρ, a, w, e, hg, hs, hk => by
    simp only [evalL, Option.bind_eq_some_iff] at e
    obtain ⟨⟨x, st1⟩, e1, e⟩ := e
    cases x with
    | normal =>
      refine wpIn_seq ((codeB_ok (fn := fn) (around := none) (ro := none) he hc hrd hn hdr m).1 c st st1 .normal ρ a w n _ e1 hg hs (fun h => by cases h) trivial ?_)
      intro ρ' a' w' hs' hf
      exact evalL_ok he hc hrd hn hdr l st1 st' ρ' a' w' e (hg.mono hf.sub) hs' (fun ρ'' a'' w'' hs'' hf'' => hk ρ'' a'' w'' hs'' (hf.trans hf''))
    | exit id => cases e
    | ret => cases e
theorem opsPan_ok (he : ExtOk P ext) (hc : CallOk P gl call) (hrd : RoundOk P gl round) (hn : NG P) {ops : Array Oper} {Q : Exit → Act → World → Prop} {g : FuncId} {gargs : List Value} {chain : List PanicEntry} (hp : PanOk P g gargs chain) (hfl : gargs.all flat = true) :
    ∀ (pre : List Oper) (i : Nat) (st st1 : St) (ρ : Rn) (a : Act) (w : World) (o : Oper) (post : List Oper), ops.toList.drop i = pre ++ o :: post → GlOk ρ gl → SR P ρ st a w →
      opsB P ext gl call round ops.toList pre st = some st1 → goesB ops.toList st1.tm o = true → opB P ext gl st1.tm st1.h o = some (.call g gargs) →
      Upto P ρ st w st1 (fun a w => Q (.panic chain) a w) → wpOpsIn (F0 none) n P ops Q (List.range' i (pre ++ o :: post).length) a w
  | [], i, st, st1, ρ, a, w, o, post, hl, hg, hs, e, hgo, hop, hk => by
    simp only [opsB] at e
    cases e
    simp only [List.nil_append] at hl ⊢
    have hlt : i < ops.toList.length := by
      rcases Nat.lt_or_ge i ops.toList.length with h | h
      · exact h
      · rw [List.drop_eq_nil_of_le h] at hl; cases hl
    rw [List.drop_eq_getElem_cons hlt] at hl
    obtain ⟨h1, h2⟩ := List.cons.inj hl
    have hi : ops[i]? = some o := by rw [← Array.getElem?_toList, List.getElem?_eq_getElem hlt, h1]
    rw [List.length_cons, List.range'_succ, wpOpsIn_cons]
    unfold wpOpIn
    rw [hi]
    simp only
    rw [if_pos (by rw [← goes_ok hs.tm]; exact hgo)]
    refine ⟨fun f _ => F0_fn none f, ?_⟩
    obtain ⟨args', hr, ha⟩ := opB_ok he hg hs.tm hs.rel hop
    have hae : args' = gargs.toArray := by
      apply Array.ext'
      rw [l2_flat ha hfl]
    subst hae
    obtain ⟨hp1, fn, hf, hb⟩ := hp
    rw [show o.semAt (F0 none).round a.eval = execOp a.eval o from Oper.semAt_none _ _, hr, run_callFunc hn hf hb]
    refine ⟨F0_depth, ?_⟩
    refine (hp1 w (n - 1)).mono (fun e w' hq => ?_)
    obtain ⟨rfl, rfl⟩ := hq
    exact hk ρ a w' hs (Fw.refl _ _ _)
  | o' :: pre, i, st, st1, ρ, a, w, o, post, hl, hg, hs, e, hgo, hop, hk => by
    simp only [opsB, Option.bind_eq_some_iff] at e
    obtain ⟨st2, e1, e2⟩ := e
    simp only [List.cons_append] at hl ⊢
    have hlt : i < ops.toList.length := by
      rcases Nat.lt_or_ge i ops.toList.length with h | h
      · exact h
      · rw [List.drop_eq_nil_of_le h] at hl; cases hl
    rw [List.drop_eq_getElem_cons hlt] at hl
    obtain ⟨h1, h2⟩ := List.cons.inj hl
    have hi : ops[i]? = some o' := by rw [← Array.getElem?_toList, List.getElem?_eq_getElem hlt, h1]
    rw [List.length_cons, List.range'_succ, wpOpsIn_cons]
    refine stepB_ok he hc hrd hn hg hs (fun h => by cases h) hi e1 (fun ρ' a' w' hs' hf => ?_)
    exact opsPan_ok he hc hrd hn hp hfl pre (i + 1) st2 st1 ρ' a' w' o post h2 (hg.mono hf.sub) hs' e2 hgo hop (fun ρ'' a'' w'' hs'' hf'' => hk ρ'' a'' w'' hs'' (hf.trans hf''))
def panB (P : Program) (ext : Ext) (gl : Gl) (call : CallR) (round : RoundR) (f : FuncId) (m k j : Nat) (c : Code) (g : FuncId) (gargs : List Value) (dfp : FuncId → AH → List Value → Option AH) (res : List ResultVar) (st0 : St) : Option (Value × AH) :=
  (evalL P ext gl call round f m (spl k c).1 st0).bind fun st1 =>
  match (spl k c).2 with
  | .seq (.region _ ops false) _ => (opsB P ext gl call round ops.toList (ops.toList.take j) st1).bind fun st2 =>
    match ops.toList.drop j with
    | o :: _ => cond (goesB ops.toList st2.tm o && isCall g gargs (opB P ext gl st2.tm st2.h o))
      (match st2.ds with
      | [.call d dargs] => (dfp d st2.h dargs).bind fun h3 => (resB P st2.tm h3 res).map fun vs => (retB vs, h3)
      | _ => none) none
    | [] => none
  | _ => none
theorem panB_ok (he : ExtOk P ext) (hc : CallOk P gl call) (hrd : RoundOk P gl round) (hn : NG P) (hdr : DrawOk P ext gl call round) {g : FuncId} {gargs : List Value} {chain : List PanicEntry} (hp : PanOk P g gargs chain) (hfl : gargs.all flat = true)
    {dfp : FuncId → AH → List Value → Option AH} (hd : DfpOk P chain dfp) {f : FuncId} {fn : Func} {c : Code} (hf : P.funcs[f]? = some fn) (hb : fn.body = some c) {m k j : Nat} {args : List Value} {args' : Array Value} {h : AH} {w : World} {v : Value} {h3 : AH}
    (hle : args.length ≤ fn.ntmps) (hg : GlOk ρ gl) (hr : Rel P ρ h w) (ha : L2 ρ args args'.toList) (e : panB P ext gl call round f m k j c g gargs dfp fn.results.toList ⟨Tr.ofFrom args 0 .e, h, [], fn.ntmps, false⟩ = some (v, h3)) :
    CallsIn (F0 none) n P f args' w (Back P ρ h w v h3) := by
  refine callsIn_of_wp_marks hf hb (F0_fn none f) ?_
  have hs0 : SR P ρ ⟨Tr.ofFrom args 0 .e, h, [], fn.ntmps, false⟩ { tmps := args' ++ Array.replicate (fn.ntmps - args'.size) undef, defers := [] } w := by
    have hal := ha.length
    refine ⟨⟨?_, fun t => ?_⟩, hr, trivial⟩
    · simp at hal ⊢; omega
    · rw [Tr.get_of]
      show VR ρ _ ((args' ++ Array.replicate (fn.ntmps - args'.size) undef).getD t undef)
      rw [Array.getD_eq_getD_getElem?]
      by_cases ht : t < args.length
      · have hv : args[t]? = some (args[t]'ht) := by simp
        obtain ⟨v', k1, k2⟩ := ha.get t _ hv
        have hlt : t < args'.size := by simp at hal; omega
        rw [hv, Array.getElem?_append_left hlt, ← Array.getElem?_toList, k1]
        exact k2
      · rw [List.getElem?_eq_none (by omega)]
        have hge : args'.size ≤ t := by simp at hal; omega
        rw [Array.getElem?_append_right hge]
        simp only [Option.getD_none]
        rw [Array.getElem?_replicate]
        split <;> exact .fl rfl
  unfold panB at e
  simp only [Option.bind_eq_some_iff] at e
  obtain ⟨st1, e1, e⟩ := e
  rw [← seqs_spl k c]
  refine evalL_ok he hc hrd hn hdr _ _ st1 ρ _ w e1 hg hs0 ?_
  intro ρ1 a1 w1 hs1 hf1
  split at e
  · rename_i id ops c9 hq
    rw [hq]
    simp only [Option.bind_eq_some_iff] at e
    obtain ⟨st2, e2, e⟩ := e
    split at e
    · rename_i o post hdrop
      cases hgo : (goesB ops.toList st2.tm o && isCall g gargs (opB P ext gl st2.tm st2.h o)) with
      | false => rw [hgo] at e; cases e
      | true =>
        rw [hgo] at e
        simp only [cond] at e
        simp only [Bool.and_eq_true] at hgo
        split at e
        · rename_i d dargs hds
          simp only [Option.bind_eq_some_iff, Option.map_eq_some_iff] at e
          obtain ⟨h4, e4, vs, e5, e6⟩ := e
          cases e6
          have hsplit : ops.toList.drop 0 = ops.toList.take j ++ o :: post := by rw [← hdrop, List.drop_zero, List.take_append_drop]
          have hlen : (ops.toList.take j ++ o :: post).length = ops.size := by rw [← hsplit, List.drop_zero, Array.length_toList]
          refine wpIn_seq (wpIn_region ?_)
          rw [List.range_eq_range', ← hlen]
          refine opsPan_ok he hc hrd hn hp hfl (ops.toList.take j) 0 st1 st2 ρ1 a1 w1 o post hsplit (hg.mono hf1.sub) hs1 e2 hgo.1 (of_isCall hgo.2) ?_
          intro ρ2 a2 w2 hs2 hf2
          have hds2 := hs2.ds
          rw [hds] at hds2
          show LeavesInM (F0 none) n P fn a2.tmps (Back P ρ h w (retB vs) h3) a2.defers (.panicking chain) w2
          revert hds2
          generalize a2.defers = D
          intro hds2
          cases D with
          | nil => exact hds2.elim
          | cons d' D =>
            obtain ⟨⟨cap, args2, rfl, ha2⟩, hdl⟩ := hds2
            cases D with
            | cons _ _ => exact hdl.elim
            | nil =>
              obtain ⟨hcall, fn', hf', hb'⟩ := hd d ρ2 st2.h w2 dargs (args2 ++ cap) h3 (n - 1) hs2.rel ha2 e4
              refine ⟨by simp, .inr ⟨F0_depth, .func d, cap, d, args2 ++ cap, rfl, run_callFunc hn hf' hb' _ _, fun g _ => F0_fn none g, hcall.mono ?_⟩⟩
              intro en u w3 hq3
              obtain ⟨⟨vv, rfl⟩, hu, ρ3, q1, q2⟩ := hq3
              show LeavesInM (F0 none) n P fn a2.tmps _ [] (settle u) w3
              rw [hu]
              obtain ⟨v', k1, k2⟩ := results_ok q1 (hs2.tm.mono q2.sub) e5
              exact ⟨v', k1, v', ρ3, rfl, k2, q1, (hf1.trans hf2).trans q2⟩
        · cases e
    · cases e
  · cases e
end
/-- Such a call, as a contract. -/
def hkPan (P : Program) (ext : Ext) (gl : Gl) (call : CallR) (round : RoundR) (f : FuncId) (m k j : Nat) (fn : Func) (c : Code) (g : FuncId) (gargs : List Value) (dfp : FuncId → AH → List Value → Option AH) (s : List Value) : CallR :=
  fun f' args h => cond (Nat.beq f' f && sameL args s) (panB P ext gl call round f m k j c g gargs dfp fn.results.toList ⟨Tr.ofFrom args 0 .e, h, [], fn.ntmps, false⟩) none
theorem hkPan_ok {P : Program} {ext : Ext} {gl gl' : Gl} {call : CallR} {round : RoundR} (he : ExtOk P ext) (hc : CallOk P gl call) (hrd : RoundOk P gl round) (hn : NG P) (hdr : DrawOk P ext gl call round) {g : FuncId} {gargs : List Value} {chain : List PanicEntry} (hp : PanOk P g gargs chain) (hfl : gargs.all flat = true)
    {dfp : FuncId → AH → List Value → Option AH} (hd : DfpOk P chain dfp) {f : FuncId} {fn : Func} {c : Code} (hf : P.funcs[f]? = some fn) (hb : fn.body = some c) {m k j : Nat} {s : List Value} (hle : s.length ≤ fn.ntmps) (hgl : ∀ ρ, GlOk ρ gl) :
    CallOk P gl' (hkPan P ext gl call round f m k j fn c g gargs dfp s) := by
  intro n f' args args' ρ h w v h' hg hr ha e
  unfold hkPan at e
  cases hb2 : (Nat.beq f' f && sameL args s) with
  | false => rw [hb2] at e; cases e
  | true =>
    rw [hb2] at e
    simp only [Bool.and_eq_true] at hb2
    obtain rfl := beq_true hb2.1
    obtain rfl := sameL_eq hb2.2
    refine ⟨panB_ok he hc hrd hn hdr hp hfl hd hf hb hle (hgl ρ) hr ha e, ?_⟩
    intro fn2 hfn
    rw [hf] at hfn
    cases hfn
    rw [hb]; rfl
end Go.Proofs.YtcmildkkigccaaaGreatDoor.Run
