/-
  A call whose first test hangs on what nobody knows: both ways.
-/
import Derived.Test.YtkmfihpmjnfbfaaGreatDoorHof
namespace Go.Proofs.YtkmfihpmjnfbfaaGreatDoor.Run
open Go
set_option linter.unusedVariables false
set_option linter.unusedSimpArgs false
def preB (P : Program) (ext : Ext) (gl : Gl) (call : CallR) (round : RoundR) (f : FuncId) (m k j : Nat) (c : Code) (g : FuncId) (isG : List Value → Bool) (st0 : St) : Option (St × Option Tmp) :=
  (evalL P ext gl call round f m (spl k c).1 st0).bind fun st1 =>
  match (spl k c).2 with
  | .seq (.seq (.region _ ops false) _) _ => (opsB P ext gl call round ops.toList (ops.toList.take j) st1).bind fun st2 =>
    match ops.toList.drop j with
    | [o] => cond (goesB ops.toList st2.tm o) (match opB P ext gl st2.tm st2.h o with
      | some (.call g' gargs) => cond (Nat.beq g' g && isG gargs) (some (st2, o.dst)) none
      | _ => none) none
    | _ => none
  | _ => none
def tailC (k : Nat) (c : Code) : Code := match (spl k c).2 with | .seq (.seq _ a) b => .seq a b | _ => .skip
noncomputable def restB (P : Program) (ext : Ext) (dfr : Dfr) (gl : Gl) (call : CallR) (round : RoundR) (f : FuncId) (m : Nat) (c9 : Code) (res : List ResultVar) (b : Bool) (r : St × Option Tmp) : Option (Value × AH) :=
  (putB r.1.sz r.1.tm r.2 (.bool b)).bind fun tm => (codeR P ext gl call round f none (m + 1) c9 ⟨tm, r.1.h, r.1.ds, r.1.sz, r.1.rd⟩).bind fun x =>
    match x.1 with
    | .exit _ => none
    | _ => (leaveB dfr x.2.ds x.2.h).bind fun h => (resB P x.2.tm h res).map fun vs => (retB vs, h)
noncomputable def bothB (P : Program) (ext : Ext) (dfr : Dfr) (gl : Gl) (call : CallR) (round : RoundR) (f : FuncId) (m k j : Nat) (c : Code) (g : FuncId) (isG : List Value → Bool) (res : List ResultVar) (st0 : St) : Option Bool :=
  (preB P ext gl call round f m k j c g isG st0).bind fun r => (restB P ext dfr gl call round f m (tailC k c) res true r).bind fun x => (restB P ext dfr gl call round f m (tailC k c) res false r).map fun y => isTrue x && isTrue y
section
variable {P : Program} {ρ : Rn} {gl : Gl} {ext : Ext} {dfr : Dfr} {call : CallR} {round : RoundR} {n : Nat}
theorem restB_ok (he : ExtOk P ext) (hc : CallOk P gl call) (hrd : RoundOk P gl round) (hn : NG P) (hdr : DrawOk P ext gl call round) (hd : DfrOk P dfr) {f : FuncId} {fn : Func} {m : Nat} {c8 c9 : Code} {b : Bool} {st2 : St} {dst : Option Tmp} {v : Value} {h' : AH}
    (hg : GlOk ρ gl) {a : Act} {w : World} (hs : SR P ρ st2 a w) (e : restB P ext dfr gl call round f m (.seq c8 c9) fn.results.toList b (st2, dst) = some (v, h')) {R : Ending → World → Prop}
    (hR : ∀ v' ρ' w', VR ρ' v v' → Rel P ρ' h' w' → Fw ρ st2.h w ρ' h' w' → R (.returned v') w') :
    c8.wpIn (F0 none) n P (Exit.then (c9.wpIn (F0 none) n P (bodyPostM (F0 none) n P fn R)) (bodyPostM (F0 none) n P fn R)) (a.put dst (.bool b)) w := by
  unfold restB at e
  simp only [Option.bind_eq_some_iff] at e
  obtain ⟨tm, e1, ⟨x, st4⟩, e2, e⟩ := e
  rw [codeR_eq] at e2
  have hs3 : SR P ρ ⟨tm, st2.h, st2.ds, st2.sz, st2.rd⟩ (a.put dst (.bool b)) w := ⟨putB_ok hs.tm (.fl rfl) e1, hs.rel, by rw [put_defers]; exact hs.ds⟩
  have hfin : (leaveB dfr st4.ds st4.h).bind (fun h => (resB P st4.tm h fn.results.toList).map fun vs => (retB vs, h)) = some (v, h') → ∀ ρ1 st1 w1, Fw ρ st2.h w ρ1 st1 w1 → ∀ ρ' a' w', SR P ρ' st4 a' w' → Fw ρ1 st1 w1 ρ' st4.h w' → LeavesInM (F0 none) n P fn a'.tmps R a'.defers .returning w' := by
    intro e ρ1 st1 w1 hfa ρ' a' w' hs' hf'
    simp only [Option.bind_eq_some_iff, Option.map_eq_some_iff] at e
    obtain ⟨h2, e2, vs, e3, e⟩ := e
    cases e
    refine leave_ok hn hd st4.ds a'.defers ρ' st4.h _ w' hs'.ds hs'.rel hs'.tm e2 (fun ρ1 w1 q1 q2 => ?_)
    obtain ⟨u, k1, k2⟩ := results_ok q1 (hs'.tm.mono q2.sub) e3
    exact ⟨u, k1, hR u ρ1 w1 k2 q1 ((hfa.trans hf').trans q2)⟩
  have hcode := (codeB_ok (fn := f) (around := none) (ro := none) he hc hrd hn hdr m).1
  simp only [codeB, Option.bind_eq_some_iff] at e2
  obtain ⟨⟨y, st5⟩, e4, e5⟩ := e2
  refine hcode c8 _ st5 y ρ _ w n _ e4 hg hs3 (fun h => by cases h) trivial ?_
  cases y with
  | normal =>
    intro ρ5 a5 w5 hs5 hf5
    simp only at e5
    show c9.wpIn (F0 none) n P _ a5 w5
    cases x with
    | exit id => cases e
    | normal => exact hcode c9 _ st4 .normal ρ5 a5 w5 n _ e5 (hg.mono hf5.sub) hs5 (fun h => by cases h) trivial (fun ρ' a' w' hs' hf' => hfin e ρ5 st5.h w5 hf5 ρ' a' w' hs' hf')
    | ret => exact hcode c9 _ st4 .ret ρ5 a5 w5 n _ e5 (hg.mono hf5.sub) hs5 (fun h => by cases h) trivial (fun ρ' a' w' hs' hf' => hfin e ρ5 st5.h w5 hf5 ρ' a' w' hs' hf')
  | exit id => cases e5; cases e
  | ret =>
    cases e5
    intro ρ5 a5 w5 hs5 hf5
    exact hfin e ρ st2.h w (Fw.refl _ _ _) ρ5 a5 w5 hs5 hf5
theorem isTrue_inv {x : Value × AH} (h : isTrue x = true) : x.1 = .bool true := by
  unfold isTrue at h
  split at h
  · rename_i b hb; rw [hb, h]
  · cases h
theorem both_calls (he : ExtOk P ext) (hc : CallOk P gl call) (hrd : RoundOk P gl round) (hn : NG P) (hdr : DrawOk P ext gl call round) (hd : DfrOk P dfr) {f g : FuncId} {fn : Func} {c : Code} (hf : P.funcs[f]? = some fn) (hb : fn.body = some c) {isG : List Value → Bool}
    (hcall : ∀ (ρ1 : Rn) (gargs : List Value) (args2 : Array Value) (w1 : World), isG gargs = true → L2 ρ1 gargs args2.toList → Calls P g args2 w1 (fun e W => (∃ b, e = .returned (.bool b)) ∧ w1.grownBy W none)) (hgb : ∃ fn, P.funcs[g]? = some fn ∧ fn.body.isSome = true)
    {m k j : Nat} {args : List Value} {args' : Array Value} {h : AH} {w : World} (hle : args.length ≤ fn.ntmps) (hg : GlOk ρ gl) (hr : Rel P ρ h w) (hro : ∀ b j, ρ b = some j → ∃ e n c, h.get b = some (.cells e n c true)) (ha : L2 ρ args args'.toList)
    (e : bothB P ext dfr gl call round f m k j c g isG fn.results.toList ⟨Tr.ofFrom args 0 .e, h, [], fn.ntmps, false⟩ = some true) :
    Calls P f args' w (fun e W' => e = .returned (.bool true) ∧ Go.RowKit.Below w.heap.size w W') := by
  refine (callsIn_wide (n := 0)).1 ?_
  refine callsIn_of_wp_marks (F := F0 none) hf hb (F0_fn none f) ?_
  have hs0 : SR P ρ ⟨Tr.ofFrom args 0 .e, h, [], fn.ntmps, false⟩ { tmps := args' ++ Array.replicate (fn.ntmps - args'.size) undef, defers := [] } w := by
    have hal := ha.length
    refine ⟨⟨?_, fun t => ?_⟩, hr, trivial⟩
    · simp at hal ⊢; omega
    · rw [Tr.get_of]
      show VR ρ _ ((args' ++ Array.replicate (fn.ntmps - args'.size) undef).getD t undef)
      rw [Array.getD_eq_getD_getElem?]
      by_cases ht : t < args.length
      · have hv : args[t]? = some (args[t]'ht) := by simp
        obtain ⟨v', k1, k2⟩ := ha.get t _ hv
        have hlt : t < args'.size := by simp at hal; omega
        rw [hv, Array.getElem?_append_left hlt, ← Array.getElem?_toList, k1]
        exact k2
      · rw [List.getElem?_eq_none (by omega)]
        have hge : args'.size ≤ t := by simp at hal; omega
        rw [Array.getElem?_append_right hge]
        simp only [Option.getD_none]
        rw [Array.getElem?_replicate]
        split <;> exact .fl rfl
  unfold bothB at e
  simp only [Option.bind_eq_some_iff, Option.map_eq_some_iff] at e
  obtain ⟨⟨st2, dst⟩, e0, x, ex, y, ey, exy⟩ := e
  simp only [Bool.and_eq_true] at exy
  unfold preB at e0
  simp only [Option.bind_eq_some_iff] at e0
  obtain ⟨st1, e1, e0⟩ := e0
  rw [← seqs_spl k c]
  refine evalL_ok he hc hrd hn hdr _ _ st1 ρ _ w e1 hg hs0 ?_
  intro ρ1 a1 w1 hs1 hf1
  split at e0
  · rename_i id ops c8 c9 hq
    rw [hq]
    have htail : tailC k c = .seq c8 c9 := by unfold tailC; rw [hq]
    rw [htail] at ex ey
    simp only [Option.bind_eq_some_iff] at e0
    obtain ⟨st2', e2, e0⟩ := e0
    split at e0
    · rename_i o hdrop
      cases hgo : goesB ops.toList st2'.tm o with
      | false => rw [hgo] at e0; cases e0
      | true =>
        rw [hgo] at e0
        simp only [cond] at e0
        split at e0
        · rename_i g' gargs hop
          cases hb2 : (Nat.beq g' g && isG gargs) with
          | false => rw [hb2] at e0; cases e0
          | true =>
            rw [hb2] at e0
            simp only [Option.some.injEq, Prod.mk.injEq] at e0
            obtain ⟨rfl, rfl⟩ := e0
            simp only [Bool.and_eq_true] at hb2
            obtain rfl := beq_true hb2.1
            have hlen : ops.toList.length = (ops.toList.take j).length + 1 := by
              have h1 : (ops.toList.take j ++ ops.toList.drop j).length = ops.toList.length := by rw [List.take_append_drop]
              rw [hdrop, List.length_append] at h1
              simpa using h1.symm
            refine wpIn_seq (wpIn_seq (wpIn_region ?_))
            rw [List.range_eq_range', show ops.size = (ops.toList.take j).length + 1 from (Array.length_toList).symm.trans hlen]
            have key : ∀ (pre : List Oper) (i : Nat) (st : St) (ρq : Rn) (a : Act) (wq : World), ops.toList.drop i = pre ++ [o] → GlOk ρq gl → SR P ρq st a wq → opsB P ext gl call round ops.toList pre st = some st2' → Fw ρ h w ρq st.h wq →
                wpOpsIn (F0 none) 0 P ops (Exit.then (c8.wpIn (F0 none) 0 P (Exit.then (c9.wpIn (F0 none) 0 P (bodyPostM (F0 none) 0 P fn fun e W' => e = .returned (.bool true) ∧ Go.RowKit.Below w.heap.size w W')) (bodyPostM (F0 none) 0 P fn fun e W' => e = .returned (.bool true) ∧ Go.RowKit.Below w.heap.size w W'))) (Exit.then (c9.wpIn (F0 none) 0 P (bodyPostM (F0 none) 0 P fn fun e W' => e = .returned (.bool true) ∧ Go.RowKit.Below w.heap.size w W')) (bodyPostM (F0 none) 0 P fn fun e W' => e = .returned (.bool true) ∧ Go.RowKit.Below w.heap.size w W'))) (List.range' i (pre.length + 1)) a wq := by
              intro pre
              induction pre with
              | nil =>
                intro i st ρq a wq hl hgq hsq e5 hfq
                simp only [opsB] at e5
                cases e5
                simp only [List.nil_append] at hl
                have hlt : i < ops.toList.length := by
                  rcases Nat.lt_or_ge i ops.toList.length with h | h
                  · exact h
                  · rw [List.drop_eq_nil_of_le h] at hl; cases hl
                rw [List.drop_eq_getElem_cons hlt] at hl
                obtain ⟨h1, h2⟩ := List.cons.inj hl
                have hi : ops[i]? = some o := by rw [← Array.getElem?_toList, List.getElem?_eq_getElem hlt, h1]
                rw [show ([] : List Oper).length + 1 = 1 from rfl, List.range'_succ, wpOpsIn_cons]
                unfold wpOpIn
                rw [hi]
                simp only
                rw [if_pos (by rw [← goes_ok hsq.tm]; exact hgo)]
                refine ⟨fun f _ => F0_fn none f, ?_⟩
                obtain ⟨args2, hr2, ha2⟩ := opB_ok he hgq hsq.tm hsq.rel hop
                obtain ⟨fn', hf', hb'⟩ := hgb
                rw [show o.semAt (F0 none).round a.eval = execOp a.eval o from Oper.semAt_none _ _, hr2, run_callFunc hn hf' hb']
                refine ⟨F0_depth, ?_⟩
                refine ((callsIn_wide (n := 0 - 1)).2 (hcall ρq gargs args2 wq hb2.2 ha2)).mono (fun e W hq3 => ?_)
                obtain ⟨⟨b, rfl⟩, hgr⟩ := hq3
                have hkp : ∀ j, j < wq.heap.size → W.heap[j]? = wq.heap[j]? := fun j hj => hgr.block j hj (fun e => by cases e)
                have hrelW := hsq.rel.kept hkp hgr.size
                have hsW : SR P ρq st2' a W := ⟨hsq.tm, hrelW, hsq.ds⟩
                have hfW : Fw ρ h w ρq st2'.h W := hfq.trans ⟨Sub.refl _, fun _ _ e => ⟨e, rfl⟩, fun b j e => .inr ⟨b, e⟩, fun j hj _ => hkp j hj, fun b j e n c e1 _ => ⟨rfl, hkp j (hsq.rel.dom b j e1).2⟩, Nat.le_refl _, hgr.size, hgr.os, hgr.tape, hgr.output⟩
                have hfin : ∀ (x : Value × AH), isTrue x = true → ∀ v' ρ' w', VR ρ' x.1 v' → Rel P ρ' x.2 w' → Fw ρq st2'.h W ρ' x.2 w' → (Ending.returned v' = .returned (.bool true) ∧ Go.RowKit.Below w.heap.size w w') := by
                  intro x hx v' ρ' w' hv hrel hf
                  rw [isTrue_inv hx] at hv
                  have hff := hfW.trans hf
                  refine ⟨by rw [hv.boolInv], hff.os, hff.tape, hff.output, hff.size, fun k hk => ?_⟩
                  by_cases hq : ∃ b, ρ b = some k
                  · obtain ⟨b, hb⟩ := hq
                    obtain ⟨el, n, c, hx⟩ := hro b k hb
                    exact (hff.ro b k el n c hb hx).2
                  · exact hff.keep k hk (fun b hb => hq ⟨b, hb⟩)
                show c8.wpIn (F0 none) 0 P _ (a.put o.dst (.bool b)) W
                cases b with
                | true => exact restB_ok he hc hrd hn hdr hd (hgq) hsW ex (hfin x exy.1)
                | false => exact restB_ok he hc hrd hn hdr hd (hgq) hsW ey (hfin y exy.2)
              | cons o' pre ih =>
                intro i st ρq a wq hl hgq hsq e5 hfq
                simp only [opsB, Option.bind_eq_some_iff] at e5
                obtain ⟨st5, e6, e7⟩ := e5
                simp only [List.cons_append] at hl
                have hlt : i < ops.toList.length := by
                  rcases Nat.lt_or_ge i ops.toList.length with h | h
                  · exact h
                  · rw [List.drop_eq_nil_of_le h] at hl; cases hl
                rw [List.drop_eq_getElem_cons hlt] at hl
                obtain ⟨h1, h2⟩ := List.cons.inj hl
                have hi : ops[i]? = some o' := by rw [← Array.getElem?_toList, List.getElem?_eq_getElem hlt, h1]
                rw [List.length_cons, List.range'_succ, wpOpsIn_cons]
                refine stepB_ok he hc hrd hn hgq hsq (fun h => by cases h) hi e6 (fun ρ' a' w' hs' hf' => ?_)
                exact ih (i + 1) st5 ρ' a' w' h2 (hgq.mono hf'.sub) hs' e7 (hfq.trans hf')
            exact key (ops.toList.take j) 0 st1 ρ1 a1 w1 (by rw [← hdrop, List.drop_zero, List.take_append_drop]) (hg.mono hf1.sub) hs1 e2 hf1
        · cases e0
    · cases e0
  · cases e0
theorem both_of {f g : FuncId} {m k j : Nat} {c : Code} {isG : List Value → Bool} {res : List ResultVar} {st0 : St} {r : St × Option Tmp} (e0 : preB P ext gl call round f m k j c g isG st0 = some r)
    (e1 : (restB P ext dfr gl call round f m (tailC k c) res true r).map isTrue = some true) (e2 : (restB P ext dfr gl call round f m (tailC k c) res false r).map isTrue = some true) : bothB P ext dfr gl call round f m k j c g isG res st0 = some true := by
  obtain ⟨x, hx, hx2⟩ := Option.map_eq_some_iff.1 e1
  obtain ⟨y, hy, hy2⟩ := Option.map_eq_some_iff.1 e2
  unfold bothB
  rw [e0]
  simp only [Option.bind_some]
  rw [hx]
  simp only [Option.bind_some]
  rw [hy]
  simp only [Option.map_some, hx2, hy2]
  rfl
end
end Go.Proofs.YtkmfihpmjnfbfaaGreatDoor.Run
