/-
  Code, told of the evaluator: the walk.
-/
import Derived.Test.YtkmfihpmjnfbfaaGreatDoorCob
namespace Go.Proofs.YtkmfihpmjnfbfaaGreatDoor.Run
open Go
set_option linter.unusedVariables false
set_option linter.unusedSimpArgs false
section
variable {P : Program} {ρ : Rn} {gl : Gl} {ext : Ext} {call : CallR} {round : RoundR} {ro : Option Nat} {around : Option Nat} {fn : FuncId} {h : AH} {w : World}
theorem Rel.loopAt (hr : Rel P ρ h w) {l l' : Nat} {s : LoopState} {pend : Option Code} {fn : FuncId} {tm : Tr Value} {sz : Nat} {ps : List Tmp} {asg body : Code} {d : Nat} (hl : ρ l = some l') (hg : h.get l = some (.loop s pend fn tm sz ps asg body d)) :
    ∃ fn' ts d', w.heap[l']? = some (.loop ⟨s, pend, fn', ts, ps.toArray, asg, body, d'⟩) ∧ TR ρ sz tm ts ∧ ρ d = some d' := by
  obtain ⟨x, h1, h2⟩ := hr.obj l l' _ hl hg trivial
  cases h2 with
  | loop k1 k2 => exact ⟨_, _, _, h1, k1, k2⟩
theorem Rel.putLoop (hr : Rel P ρ h w) {l l' : Nat} {o o1 : AO} {x1 : Obj} (hl : ρ l = some l') (hg : h.get l = some o) (hlv : o.live) (hro : ∀ e n c, o ≠ .cells e n c true) (ho : OR P ρ (ρ.k l) o1 x1) :
    Rel P ρ (h.set l o1) (w.putObj l' x1) ∧ Fw ρ h w ρ (h.set l o1) (w.putObj l' x1) := by
  have hlt := (hr.dom l l' hl).2
  exact hr.turn (x1 := x1) hl hg hlv hro (by rw [putObj_get _ hlt, if_pos rfl]) (fun i hi' => by rw [putObj_get _ hlt, if_neg hi']) (by simp [World.putObj]) rfl rfl rfl (fun _ => ho)
theorem enter_ok (hr : Rel P ρ h w) {st : St} {a : Act} (hs : SR P ρ st a w) {ps : Array Tmp} {asg body : Code} {d : Nat} {h1 : AH} {ds : List Df} (fn fn' : FuncId)
    (e : ((match around with
        | some l => (match st.h.get l with | some (.loop _ _ _ _ _ _ _ _ d) => some (d, st.h, st.ds) | _ => none)
        | none => some (st.h.next, st.h.new (.dfs true), .mark st.h.next :: st.ds)) : Option (Nat × AH × List Df)) = some (d, h1, ds)) (har : Around ρ around ro) :
    ∃ ρ' l' mark w', (Instr.enterLoop fn' a.tmps ps asg body ro).run P w = .ok (l', mark) w' ∧ ρ' h1.next = some l' ∧ DL ρ' ds (mark ++ a.defers) ∧
      Rel P ρ' (h1.new (.loop .ready none fn st.tm st.sz ps.toList asg body d)) w' ∧ Fw ρ st.h w ρ' (h1.new (.loop .ready none fn st.tm st.sz ps.toList asg body d)) w' := by
  cases around with
  | none =>
    cases ro with
    | some _ => exact har.elim
    | none =>
      simp only [Option.some.injEq, Prod.mk.injEq] at e
      obtain ⟨rfl, rfl, rfl⟩ := e
      have n1 := hs.rel.new 0 (o := .dfs true) (x := .deferred (some [])) .dfs1
      have hs1 : Sub ρ (Run.ext ρ st.h.next w.heap.size 0) := n1.2.sub
      have htr := (hs.tm.mono hs1)
      have n2 := n1.1.new 0 (o := .loop .ready none fn st.tm st.sz ps.toList asg body st.h.next) (x := .loop ⟨.ready, none, fn', a.tmps, ps.toList.toArray, asg, body, w.heap.size⟩)
        (.loop (htr.mono (Sub.ext (n1.1.none (Nat.le_refl _)) _ 0)) (Sub.ext (n1.1.none (Nat.le_refl _)) _ 0 _ _ newCells_ptr).1)
      refine ⟨_, w.heap.size + 1, [{ target := .collected w.heap.size, args := #[] }], _, ?_, ?_, ?_, n2.1, n1.2.trans n2.2⟩
      · simp [Instr.enterLoop, run_newObj, Array.toArray_toList]
      · have := newCells_ptr (ρ := Run.ext ρ st.h.next w.heap.size 0) (n := (st.h.new (.dfs true)).next) (j := (w.alloc (.deferred (some []))).heap.size) (κ := 0)
        exact this.trans (by rw [World.size_alloc])
      · exact ⟨⟨w.heap.size, (n2.2.sub _ _ newCells_ptr).1, rfl⟩, (hs.ds.mono hs1).mono n2.2.sub⟩
  | some l0 =>
    cases ro with
    | none => exact har.elim
    | some l0' =>
      simp only at e
      split at e
      · rename_i s0 pend0 fn0 tm0 sz0 ps0 asg0 body0 d0 hg
        simp only [Option.some.injEq, Prod.mk.injEq] at e
        obtain ⟨rfl, rfl, rfl⟩ := e
        obtain ⟨fn1, ts1, d', q1, q2, q3⟩ := hs.rel.loopAt har hg
        have n2 := hs.rel.new 0 (o := .loop .ready none fn st.tm st.sz ps.toList asg body d0) (x := .loop ⟨.ready, none, fn', a.tmps, ps.toList.toArray, asg, body, d'⟩)
          (.loop (hs.tm.mono (Sub.ext (hs.rel.none (Nat.le_refl _)) _ 0)) (Sub.ext (hs.rel.none (Nat.le_refl _)) _ 0 _ _ q3).1)
        refine ⟨_, w.heap.size, [], _, ?_, newCells_ptr, ?_, n2.1, n2.2⟩
        · rw [run_enterLoop_inner q1]
        · exact hs.ds.mono n2.2.sub
      · cases e
def CodeOk (P : Program) (ext : Ext) (gl : Gl) (call : CallR) (round : RoundR) (fn : FuncId) (around ro : Option Nat) (m : Nat) : Prop :=
  ∀ (c : Code) (st st' : St) (x : Ex) (ρ : Rn) (a : Act) (w : World) (n : Nat) (Q : Exit → Act → World → Prop), codeB P ext gl call round fn around m c st = some (x, st') → GlOk ρ gl → SR P ρ st a w → (ro.isSome = true → st.rd = true) → Around ρ around ro →
      Upto P ρ st w st' (Q (exOf x)) → c.wpIn (F0 ro) n P Q a w
def LoopOk (P : Program) (ext : Ext) (gl : Gl) (call : CallR) (round : RoundR) (fn : FuncId) (around ro : Option Nat) (m : Nat) : Prop :=
  ∀ (c : Code) (st st' : St) (x : Ex) (ρ : Rn) (a : Act) (w : World) (n : Nat) (Q : Exit → Act → World → Prop), codeB P ext gl call round fn around m (.loop c) st = some (x, st') → GlOk ρ gl → SR P ρ st a w → (ro.isSome = true → st.rd = true) → Around ρ around ro →
      Upto P ρ st w st' (Q (exOf x)) → LK (F0 ro) n P c Q a w
theorem loop_ok {m : Nat} (A : CodeOk P ext gl call round fn around ro m) (B : LoopOk P ext gl call round fn around ro m) : LoopOk P ext gl call round fn around ro (m + 1) := by
  intro c st st' x ρ a w n Q e hg hs hro har hk
  simp only [codeB, Option.bind_eq_some_iff] at e
  obtain ⟨⟨y, st1⟩, e1, e⟩ := e
  have hrd1 := (codeB_rd e1).1
  refine LK.step (A c st st1 y ρ a w n _ e1 hg hs hro har ?_)
  cases y with
  | normal =>
    intro ρ' a' w' hs' hf
    exact B c st1 st' x ρ' a' w' n Q e (hg.mono hf.sub) hs' (fun h => by rw [hrd1]; exact hro h) (har.mono hf.sub) (fun ρ'' a'' w'' hs'' hf'' => hk ρ'' a'' w'' hs'' (hf.trans hf''))
  | exit id => cases e; exact fun ρ' a' w' hs' hf => hk ρ' a' w' hs' hf
  | ret => cases e; exact fun ρ' a' w' hs' hf => hk ρ' a' w' hs' hf
/-- Code. -/
theorem codeB_step (he : ExtOk P ext) (hc : CallOk P gl call) (hrd : RoundOk P gl round) (hn : NG P) (hdr : DrawOk P ext gl call round) {m : Nat} (IH : CodeOk P ext gl call round fn around ro m) (IL : LoopOk P ext gl call round fn around ro m) : CodeOk P ext gl call round fn around ro (m + 1) := by
    intro c st st' x ρ a w n Q e hg hs hro har hk
    have IB := loop_ok IH IL
    cases c
    case loop c1 => exact LK.loop (IB c1 st st' x ρ a w n Q e hg hs hro har hk)
    all_goals simp only [codeB] at e
    case skip =>
      cases e
      exact wpIn_skip (hk ρ a w hs (Fw.refl _ _ _))
    case region id ops draw =>
      simp only [Option.map_eq_some_iff] at e
      obtain ⟨st1, e1, e⟩ := e
      cases e
      cases draw with
      | false =>
        refine wpIn_region ?_
        rw [List.range_eq_range', ← Array.length_toList]
        exact opsB_ok he hc hrd hn ops.toList 0 st st' ρ a w (by simp) hg hs hro e1 hk
      | true => exact hdr id ops st st' ρ a w ro n Q e1 hg hs hro hk
    case seq a1 b1 =>
      simp only [Option.bind_eq_some_iff] at e
      obtain ⟨⟨y, st1⟩, e1, e⟩ := e
      have hrd1 := (codeB_rd e1).1
      refine wpIn_seq (IH a1 st st1 y ρ a w n _ e1 hg hs hro har ?_)
      cases y with
      | normal =>
        intro ρ' a' w' hs' hf
        exact IH b1 st1 st' x ρ' a' w' n Q e (hg.mono hf.sub) hs' (fun h => by rw [hrd1]; exact hro h) (har.mono hf.sub) (fun ρ'' a'' w'' hs'' hf'' => hk ρ'' a'' w'' hs'' (hf.trans hf''))
      | exit id => cases e; exact fun ρ' a' w' hs' hf => hk ρ' a' w' hs' hf
      | ret => cases e; exact fun ρ' a' w' hs' hf => hk ρ' a' w' hs' hf
    case cond cc a1 b1 =>
      simp only [Option.bind_eq_some_iff] at e
      obtain ⟨v, e1, e⟩ := e
      have hv := opnd_ok hg hs.tm e1
      split at e
      · exact wpIn_cond_true hv.boolInv (IH a1 st st' x ρ a w n Q e hg hs hro har hk)
      · exact wpIn_cond_false hv.boolInv (IH b1 st st' x ρ a w n Q e hg hs hro har hk)
      · cases e
    case block id c1 =>
      simp only [Option.map_eq_some_iff] at e
      obtain ⟨⟨y, st1⟩, e1, e⟩ := e
      refine wpIn_block (IH c1 st st1 y ρ a w n _ e1 hg hs hro har ?_)
      cases y with
      | normal =>
        simp only [Prod.mk.injEq] at e
        obtain ⟨rfl, rfl⟩ := e
        exact fun ρ' a' w' hs' hf => hk ρ' a' w' hs' hf
      | ret =>
        simp only [Prod.mk.injEq] at e
        obtain ⟨rfl, rfl⟩ := e
        exact fun ρ' a' w' hs' hf => hk ρ' a' w' hs' hf
      | exit k =>
        simp only [Prod.mk.injEq] at e
        obtain ⟨rfl, rfl⟩ := e
        intro ρ' a' w' hs' hf
        have := hk ρ' a' w' hs' hf
        cases hq : Nat.beq k id with
        | true =>
          rw [hq] at this
          simp only [exOf, Exit.inBlock]
          rw [if_pos (beq_true hq)]
          exact this
        | false =>
          rw [hq] at this
          simp only [exOf, Exit.inBlock]
          rw [if_neg (beq_false hq)]
          exact this
    case exit id =>
      cases e
      exact wpIn_exit (hk ρ a w hs (Fw.refl _ _ _))
    case ret =>
      cases e
      exact wpIn_ret (hk ρ a w hs (Fw.refl _ _ _))
    case rangeFunc f ps asg body =>
      simp only [Option.bind_eq_some_iff] at e
      obtain ⟨v, e1, ⟨d, h1, ds⟩, e2, nx, e3, e⟩ := e
      refine wpIn_rangeFunc (fun fn' _ => ?_)
      obtain ⟨ρ1, l', mark, w1, q1, q2, q3, q4, q5⟩ := enter_ok hs.rel hs (ps := ps) (asg := asg) (body := body) fn fn' e2 har
      have hv := (opnd_ok hg hs.tm e1).mono q5.sub
      obtain ⟨df, p1, p2⟩ := fnB_ok (P := P) (args' := [.func (.yield l') #[] #[]]) hv (.cons (.yield q2) .nil) e3 w1
      rcases p2 with ⟨g, args, args', rfl, p3, p4, _⟩ | ⟨_, _, _, _, rfl, _⟩
      · simp only [Option.bind_eq_some_iff] at e
        obtain ⟨⟨v2, h2⟩, e4, e⟩ := e
        have hg1 := hg.mono q5.sub
        obtain ⟨hcall, hbody⟩ := hc (n - 1) g args args' ρ1 _ w1 v2 h2 hg1 q4 p4 e4
        have hfn : ∃ fn, P.funcs[g]? = some fn := by
          have hx := hcall.2 [] (room_wide _)
          obtain ⟨e, w', fr, hb, hcomes, hfn, hleave⟩ := hx
          obtain ⟨v', ρ', rfl, _⟩ := hb
          obtain ⟨_, _, _, fn, hfn2, _⟩ := hleave
          exact ⟨fn, hfn ▸ hfn2⟩
        obtain ⟨fg, hfn⟩ := hfn
        have hb := hbody fg hfn
        have hrun : (callFunc g args').run P w1 = .ok (.enter g args') w1 := by
          have hname := hn g fg hfn hb
          have hb' : fg.body.isNone = false := by cases h : fg.body <;> simp_all
          simp only [callFunc, program]
          show ((match P.funcs[g]? with | none => stuck "call: no such function" | some fn => _ : Sem Next)).run P w1 = _
          rw [hfn]
          simp [hname, hb']
        refine ⟨l', mark, w1, df, w1, g, args', w1, q1, (by show (Deferred.ofValue (a.eval f) (#[Operand.const (.func (.yield l') #[] #[])].map a.eval)).run P w1 = _; rw [show (#[Operand.const (.func (.yield l') #[] #[])].map a.eval) = #[.func (.yield l') #[] #[]] by simp [Act.eval]]; exact p1), fun f' _ => F0_fn ro f', by rw [p3]; exact hrun, F0_depth, (F0_calls hcall).mono ?_⟩
        intro en w3 hbk
        obtain ⟨v', ρ', rfl, hv', hrel, hf⟩ := hbk
        simp only at e
        split at e
        · rename_i s pend fn2 tm2 sz2 ps2 asg2 body2 d2 hgl
          have hl2 := (hf.sub _ _ q2).1
          obtain ⟨fn3, ts3, d3, z1, z2, z3⟩ := hrel.loopAt hl2 hgl
          split at e
          · cases e
          · rename_i hbusy
            have hput := hrel.putLoop (o1 := .loop .exhausted pend fn2 tm2 sz2 ps2 asg2 body2 d2) (x1 := .loop ⟨.exhausted, pend, fn3, ts3, ps2.toArray, asg2, body2, d3⟩) hl2 hgl trivial (fun e n c k => by cases k) (.loop z2 z3)
            have hend : (Instr.endLoop l').run P w3 = .ok pend (w3.putObj l' (.loop ⟨.exhausted, pend, fn3, ts3, ps2.toArray, asg2, body2, d3⟩)) := by
              exact run_endLoop z1 (fun k => hbusy k)
            refine ⟨pend, _, hend, ?_⟩
            have hf2 := (q5.trans hf).trans hput.2
            have hs2 : SR P ρ' ⟨st.tm, h2.set h1.next (.loop .exhausted pend fn2 tm2 sz2 ps2 asg2 body2 d2), ds, st.sz, st.rd⟩ { a with defers := mark ++ a.defers } (w3.putObj l' (.loop ⟨.exhausted, pend, fn3, ts3, ps2.toArray, asg2, body2, d3⟩)) :=
              ⟨hs.tm.mono hf2.sub, hput.1, q3.mono hf.sub⟩
            split at e
            · cases e
              exact hk ρ' _ _ hs2 hf2
            · cases e
              exact wpIn_ret (hk ρ' _ _ hs2 hf2)
            · cases e
              exact wpIn_exit (hk ρ' _ _ hs2 hf2)
            · cases e
        · cases e
      · cases e
    all_goals cases e
theorem codeB_ok (he : ExtOk P ext) (hc : CallOk P gl call) (hrd : RoundOk P gl round) (hn : NG P) (hdr : DrawOk P ext gl call round) : ∀ m, CodeOk P ext gl call round fn around ro m ∧ LoopOk P ext gl call round fn around ro m
  | 0 => ⟨fun c st st' x ρ a w n Q e => by simp [codeB] at e, fun c st st' x ρ a w n Q e => by simp [codeB] at e⟩
  | m + 1 => let ⟨A, B⟩ := codeB_ok he hc hrd hn hdr m; ⟨codeB_step he hc hrd hn hdr A B, loop_ok A B⟩
end
end Go.Proofs.YtkmfihpmjnfbfaaGreatDoor.Run
