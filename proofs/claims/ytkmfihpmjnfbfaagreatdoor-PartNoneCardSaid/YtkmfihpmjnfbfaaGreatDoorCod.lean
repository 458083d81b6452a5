/-
  Rounds, deferred calls, calls: the evaluator's word.
-/
import Derived.Test.YtkmfihpmjnfbfaaGreatDoorCoc
import Derived.RangeFuncLeaves
namespace Go.Proofs.YtkmfihpmjnfbfaaGreatDoor.Run
open Go
set_option linter.unusedVariables false
set_option linter.unusedSimpArgs false
section
variable {P : Program} {ρ : Rn} {gl : Gl} {ext : Ext} {dfr : Dfr} {call : CallR} {round : RoundR} {h : AH} {w : World}
theorem zip_ok {sz : Nat} : ∀ (ps : List Tmp) (args args' : List Value) (tm : Tr Value) (ts : Array Value), L2 ρ args args' → ps.all (fun t => Nat.blt t sz) = true → TR ρ sz tm ts →
    TR ρ sz ((ps.zip args).foldl (fun tm (x : Tmp × Value) => tm.put x.1 x.2) tm) ((ps.zip args').foldl (fun ts (x : Tmp × Value) => ts.setIfInBounds x.1 x.2) ts)
  | [], args, args', tm, ts, ha, hp, ht => by simpa using ht
  | p :: ps, [], args', tm, ts, ha, hp, ht => by cases ha; simpa using ht
  | p :: ps, v :: args, args', tm, ts, ha, hp, ht => by
    cases ha with
    | cons hv ha =>
      simp only [List.all_cons, Bool.and_eq_true] at hp
      simp only [List.zip_cons_cons, List.foldl_cons]
      refine zip_ok ps _ _ _ _ ha hp.2 ?_
      have := putB_ok (a := ⟨ts, []⟩) (dst := some p) ht hv (tm' := tm.put p v) (by simp [putB, hp.1])
      exact this
theorem endB_ok (hr : Rel P ρ h w) {l l' : Nat} {s : LoopState} {jump : Option Code} {h' : AH} (hl : ρ l = some l') (hs : s = if jump.isNone then .ready else .done) (e : endB l s jump h = some h') :
    ∃ w', (Instr.endRound l' jump).run P w = .ok (.bool jump.isNone) w' ∧ Rel P ρ h' w' ∧ Fw ρ h w ρ h' w' := by
  unfold endB at e
  split at e
  · rename_i s0 pend fn tm sz ps asg body d hg
    cases e
    obtain ⟨fn', ts, d', q1, q2, q3⟩ := hr.loopAt hl hg
    have hput := hr.putLoop (o1 := .loop s jump fn tm sz ps asg body d) (x1 := .loop ⟨s, jump, fn', ts, ps.toArray, asg, body, d'⟩) hl hg trivial (fun e n c k => by cases k) (.loop q2 q3)
    refine ⟨_, ?_, hput.1, hput.2⟩
    rw [run_endRound jump q1, hs]
  · cases e
theorem roundB_ok (he : ExtOk P ext) (hc : CallOk P gl call) (hrd : RoundOk P gl round) (hn : NG P) (hdr : DrawOk P ext gl call round) (m : Nat) : RoundOk P gl (fun l args h => roundB P ext gl call round m l args h) := by
  intro n l l' args args' ρ h w v h' hg hr hl ha e
  dsimp only at e
  unfold roundB at e
  split at e
  · rename_i pend fn tm sz ps asg body d hgl
    obtain ⟨fn', ts, d', q1, q2, q3⟩ := hr.loopAt hl hgl
    cases hb : (Nat.beq ps.length args.length && ps.all (fun t => Nat.blt t sz)) with
    | false => rw [hb] at e; cases e
    | true =>
      rw [hb] at e
      simp only [cond, Option.bind_eq_some_iff] at e
      obtain ⟨⟨x, st1⟩, e1, e⟩ := e
      simp only [Bool.and_eq_true] at hb
      have hlen := beq_true hb.1
      have hal := ha.length
      have hsz : args'.size = ps.toArray.size := by simp at hal ⊢; omega
      refine ⟨fn', (ps.zip args'.toList).foldl (fun ts (x : Tmp × Value) => ts.setIfInBounds x.1 x.2) ts, asg, body, ?_, ?_⟩
      · rw [run_yield q1 hsz]
        simp only
        congr 2
        rw [← Array.foldl_toList]
        simp
      · have htr := zip_ok ps args args'.toList tm ts ha hb.2 q2
        have hs0 : SR P ρ ⟨(ps.zip args).foldl (fun tm (x : Tmp × Value) => tm.put x.1 x.2) tm, h, [], sz, true⟩ ⟨(ps.zip args'.toList).foldl (fun ts (x : Tmp × Value) => ts.setIfInBounds x.1 x.2) ts, []⟩ w := ⟨htr, hr, trivial⟩
        have hcode := (codeB_ok (fn := fn) (around := some l) (ro := some l') he hc hrd hn hdr m).1
        refine roundIn_of_wpIn (F0_fn none fn') ?_
        have hrd1 := (codeB_rd e1).1
        cases x with
        | normal =>
          simp only at e
          refine hcode asg _ st1 .normal ρ _ w n _ e1 hg hs0 (fun _ => rfl) hl ?_
          intro ρ1 a1 w1 hs1 hf1
          split at e
          · rename_i pend2 fn2 tm2 sz2 ps2 asg2 body2 d2 hgl2
            simp only [Option.bind_eq_some_iff] at e
            obtain ⟨⟨y, st2⟩, e2, e⟩ := e
            have hl1 := (hf1.sub _ _ hl).1
            obtain ⟨fn3, ts3, d3, z1, z2, z3⟩ := hs1.rel.loopAt hl1 hgl2
            have hput := hs1.rel.putLoop (o1 := .loop .busy pend2 fn2 tm2 sz2 ps2 asg2 body2 d2) (x1 := .loop ⟨.busy, pend2, fn3, ts3, ps2.toArray, asg2, body2, d3⟩) hl1 hgl2 trivial (fun e n c k => by cases k) (.loop z2 z3)
            refine ⟨_, run_beginRound z1 rfl, ?_⟩
            have hf2 := hf1.trans hput.2
            have hs2 : SR P ρ1 ⟨st1.tm, st1.h.set l (.loop .busy pend2 fn2 tm2 sz2 ps2 asg2 body2 d2), st1.ds, st1.sz, st1.rd⟩ a1 (w1.putObj l' (.loop ⟨.busy, pend2, fn3, ts3, ps2.toArray, asg2, body2, d3⟩)) := ⟨hs1.tm, hput.1, hs1.ds⟩
            refine hcode body _ st2 y ρ1 a1 _ n _ e2 (hg.mono hf2.sub) hs2 (fun _ => hrd1) (hf2.sub _ _ hl).1 ?_
            intro ρ3 a3 w3 hs3 hf3
            have hl3 := (hf3.sub _ _ hl1).1
            have hend : ∀ (s : LoopState) (jump : Option Code), s = (if jump.isNone then .ready else .done) → (endB l s jump st2.h).map (fun h => (Value.bool jump.isNone, h)) = some (v, h') →
                ∃ u w', (Instr.endRound l' jump).run P w3 = .ok u w' ∧ Back P ρ h w v h' (.returned u) w' := by
              intro s jump hsj hmap
              simp only [Option.map_eq_some_iff] at hmap
              obtain ⟨h5, h6, h7⟩ := hmap
              cases h7
              obtain ⟨w4, k1, k2, k3⟩ := endB_ok hs3.rel hl3 hsj h6
              exact ⟨_, w4, k1, _, ρ3, rfl, .fl rfl, k2, (hf2.trans hf3).trans k3⟩
            cases y with
            | normal => exact hend .ready none rfl e
            | ret => exact hend .done (some .ret) rfl e
            | exit id => exact hend .done (some (.exit id)) rfl e
          · cases e
        | exit id => cases e
        | ret => cases e
  · cases e
end
end Go.Proofs.YtkmfihpmjnfbfaaGreatDoor.Run
