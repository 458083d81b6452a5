/-
  Walks and plain laws, joined of 7 texts.
-/
import Derived.Test.YtcmildkkigccaaaGreatDoorCoo
import Derived.OrdersIn
/-
  Regions of open order: what an operation hangs on.
-/
namespace Go.Proofs.YtcmildkkigccaaaGreatDoor.Run
open Go
set_option linter.unusedVariables false
set_option linter.unusedSimpArgs false
section
variable {P : Program} {ρ : Rn} {gl : Gl} {ext : Ext} {call : CallR} {round : RoundR} {tm tm2 : Tr Value} {h : AH}
theorem opnd_congr {x : Operand} (hx : ∀ t, t ∈ tmpsOf x → tm.get t = tm2.get t) : opnd gl tm x = opnd gl tm2 x := by
  cases x with
  | tmp t => simp only [opnd]; rw [hx t (by simp [tmpsOf])]
  | const v => rfl
  | global g => rfl
  | func f => rfl
theorem opnds_congr : ∀ {l : List Operand}, (∀ x ∈ l, opnd gl tm x = opnd gl tm2 x) → opnds gl tm l = opnds gl tm2 l
  | [], _ => rfl
  | x :: l, hh => by
    simp only [opnds]
    rw [hh x (by simp), opnds_congr (fun y hy => hh y (by simp [hy]))]
theorem parts_congr : ∀ {l : List (Nat × Operand)}, (∀ x ∈ l.map (·.2), opnd gl tm x = opnd gl tm2 x) → parts gl tm l = parts gl tm2 l
  | [], _ => rfl
  | (i, x) :: l, hh => by
    simp only [parts]
    rw [hh x (by simp), parts_congr (fun y hy => hh y (by simp at hy ⊢; exact .inr hy))]
theorem opB_congr {o : Oper} (ho : ∀ x ∈ o.op.operands, opnd gl tm x = opnd gl tm2 x) : opB P ext gl tm h o = opB P ext gl tm2 h o := by
  obtain ⟨dst, op, type, pos, after, guard⟩ := o
  cases op
  case call c =>
    obtain ⟨callee, args, ats⟩ := c
    cases callee with
    | value f =>
      have e1 : opnds gl tm args.toList = opnds gl tm2 args.toList := opnds_congr (fun x hx => ho x (by simp [Op.operands, Call.operands]; exact .inr (by simpa using hx)))
      have e2 : opnd gl tm f = opnd gl tm2 f := ho f (by simp [Op.operands, Call.operands])
      simp only [opB, e1, e2]
    | invoke r name =>
      have e1 : opnds gl tm args.toList = opnds gl tm2 args.toList := opnds_congr (fun x hx => ho x (by simp [Op.operands, Call.operands]; exact .inr (by simpa using hx)))
      have e2 : opnd gl tm r = opnd gl tm2 r := ho r (by simp [Op.operands, Call.operands])
      simp only [opB, e1, e2]
    | builtin b =>
      have e1 : opnds gl tm args.toList = opnds gl tm2 args.toList := opnds_congr (fun x hx => ho x (by simp [Op.operands, Call.operands]; simpa using hx))
      simp only [opB, e1]
  case defer c =>
    obtain ⟨callee, args, ats⟩ := c
    cases callee with
    | value f =>
      have e1 : opnds gl tm args.toList = opnds gl tm2 args.toList := opnds_congr (fun x hx => ho x (by simp [Op.operands, Call.operands]; exact .inr (by simpa using hx)))
      have e2 : opnd gl tm f = opnd gl tm2 f := ho f (by simp [Op.operands, Call.operands])
      simp only [opB, e1, e2]
    | invoke r name =>
      have e1 : opnds gl tm args.toList = opnds gl tm2 args.toList := opnds_congr (fun x hx => ho x (by simp [Op.operands, Call.operands]; exact .inr (by simpa using hx)))
      simp only [opB, e1]
    | builtin b =>
      have e1 : opnds gl tm args.toList = opnds gl tm2 args.toList := opnds_congr (fun x hx => ho x (by simp [Op.operands, Call.operands]; simpa using hx))
      simp only [opB, e1]
  case build t ps =>
    have e1 : parts gl tm ps.toList = parts gl tm2 ps.toList := parts_congr (fun x hx => ho x (by simpa [Op.operands] using hx))
    simp only [opB, e1]
  case buildSlice t n ps =>
    have e1 : parts gl tm ps.toList = parts gl tm2 ps.toList := parts_congr (fun x hx => ho x (by simpa [Op.operands] using hx))
    simp only [opB, e1]
  case makeFunc fn first cap =>
    have e1 : opnds gl tm first.toList = opnds gl tm2 first.toList := opnds_congr (fun x hx => ho x (by simp [Op.operands]; exact .inl (by simpa using hx)))
    have e2 : opnds gl tm cap.toList = opnds gl tm2 cap.toList := opnds_congr (fun x hx => ho x (by simp [Op.operands]; exact .inr (by simpa using hx)))
    simp only [opB, e1, e2]
  case makeMap t r => cases r <;> rfl
  case slice t x lo hi mx =>
    have e1 : opnd gl tm x = opnd gl tm2 x := ho x (by simp [Op.operands])
    have e2 : ∀ y, lo = some y → opnd gl tm y = opnd gl tm2 y := fun y hy => ho y (by simp [Op.operands, hy])
    have e3 : ∀ y, hi = some y → opnd gl tm y = opnd gl tm2 y := fun y hy => ho y (by simp [Op.operands, hy])
    cases lo <;> cases hi <;> simp only [opB, e1] <;> (try rw [e2 _ rfl]) <;> (try rw [e3 _ rfl])
  case next it b =>
    have e1 : opnd gl tm it = opnd gl tm2 it := ho it (by simp [Op.operands])
    cases b <;> simp only [opB, e1]
  case pick c x y =>
    have e1 : opnd gl tm c = opnd gl tm2 c := ho c (by simp [Op.operands])
    have e2 : opnd gl tm x = opnd gl tm2 x := ho x (by simp [Op.operands])
    have e3 : opnd gl tm y = opnd gl tm2 y := ho y (by simp [Op.operands])
    simp only [opB, e1, e2, e3]
  all_goals first
    | rfl
    | (rename_i x; have e1 : opnd gl tm x = opnd gl tm2 x := ho x (by simp [Op.operands]); simp only [opB, e1]; done)
    | (rename_i x _; have e1 : opnd gl tm x = opnd gl tm2 x := ho x (by simp [Op.operands]); simp only [opB, e1]; done)
    | (rename_i x _ _ _; have e1 : opnd gl tm x = opnd gl tm2 x := ho x (by simp [Op.operands]); simp only [opB, e1]; done)
    | (rename_i x y; have e1 : opnd gl tm x = opnd gl tm2 x := ho x (by simp [Op.operands]); have e2 : opnd gl tm y = opnd gl tm2 y := ho y (by simp [Op.operands]); simp only [opB, e1, e2]; done)
    | (rename_i x y _; have e1 : opnd gl tm x = opnd gl tm2 x := ho x (by simp [Op.operands]); have e2 : opnd gl tm y = opnd gl tm2 y := ho y (by simp [Op.operands]); simp only [opB, e1, e2]; done)
    | (rename_i x y z; have e1 : opnd gl tm x = opnd gl tm2 x := ho x (by simp [Op.operands]); have e2 : opnd gl tm y = opnd gl tm2 y := ho y (by simp [Op.operands]); have e3 : opnd gl tm z = opnd gl tm2 z := ho z (by simp [Op.operands]); simp only [opB, e1, e2, e3]; done)
/-- An operation that looks at no block. -/
theorem opB_p {o : Oper} (hc : clsB P o = .p) {nx : Nx} (e : opB P ext gl tm h o = some nx) : ∃ v, nx = .val v h ∧ ∀ h2, opB P ext gl tm h2 o = some (.val v h2) := by
  have hv : ∀ {r : Option Value}, valB h r = some nx → ∃ v, nx = .val v h ∧ ∀ h2, valB h2 r = some (.val v h2) := by
    intro r e
    simp only [valB, Option.map_eq_some_iff] at e
    obtain ⟨v, rfl, rfl⟩ := e
    exact ⟨v, rfl, fun h2 => rfl⟩
  obtain ⟨dst, op, type, pos, after, guard⟩ := o
  cases op <;> simp only [clsB] at hc <;> (try (cases hc; done)) <;> simp only [opB] at e ⊢
  case move x => exact hv e
  case assign x => exact hv e
  case pick c x y =>
    simp only [Option.bind_eq_some_iff] at e
    obtain ⟨cv, h1, e⟩ := e
    rw [h1]
    simp only [Option.bind_some]
    split at e
    · exact hv e
    · exact hv e
    · cases e
  case build t ps =>
    simp only [Option.bind_eq_some_iff] at e
    obtain ⟨l, h1, e⟩ := e
    rw [h1]
    exact hv e
  case nilCheck x =>
    simp only [Option.bind_eq_some_iff] at e
    obtain ⟨v, h1, e⟩ := e
    rw [h1]
    simp only [Option.bind_some]
    split at e
    · cases e; exact ⟨_, rfl, fun h2 => rfl⟩
    · cases e; exact ⟨_, rfl, fun h2 => rfl⟩
    · cases e; exact ⟨_, rfl, fun h2 => rfl⟩
    · cases e
  case binOp op t x y yt =>
    simp only [Option.bind_eq_some_iff] at e
    obtain ⟨va, h1, vb, h2, e⟩ := e
    rw [h1, h2]
    exact hv e
  case unOp op t x =>
    simp only [Option.bind_eq_some_iff] at e
    obtain ⟨va, h1, e⟩ := e
    rw [h1]
    simp only [Option.bind_some]
    cases hf : flat va with
    | false => rw [hf] at e; cases e
    | true => rw [hf] at e; exact hv e
  case makeInterface t x =>
    simp only [Option.bind_eq_some_iff] at e
    obtain ⟨va, h1, e⟩ := e
    rw [h1]
    simp only [Option.bind_some]
    split at e
    · cases e
    · rename_i d hd hu
      cases e
      exact ⟨_, rfl, fun h2 => rfl⟩
    · cases e
  case makeFunc fn first cap =>
    simp only [Option.bind_eq_some_iff] at e
    obtain ⟨xs, h1, ys, h2, e⟩ := e
    rw [h1, h2]
    simp only [Option.bind_some]
    split at e
    · cases e; exact ⟨_, rfl, fun h2 => rfl⟩
    · cases e
  case slice t x lo hi mx =>
    simp only [Option.bind_eq_some_iff] at e
    obtain ⟨vx, h1, vl, h2, vh, h3, e⟩ := e
    rw [h1]
    simp only [Option.bind_some]
    rw [h2]
    simp only [Option.bind_some]
    rw [h3]
    simp only [Option.bind_some]
    cases mx with
    | some _ => cases e
    | none => exact hv e
  case fieldAddr s x f =>
    simp only [Option.bind_eq_some_iff] at e
    obtain ⟨vx, h1, e⟩ := e
    rw [h1]
    exact hv e
  case field s x f =>
    simp only [Option.bind_eq_some_iff] at e
    obtain ⟨vx, h1, e⟩ := e
    rw [h1]
    exact hv e
  case indexAddr t x i =>
    simp only [Option.bind_eq_some_iff] at e
    obtain ⟨vx, h1, vi, h2, e⟩ := e
    rw [h1, h2]
    exact hv e
  case index t x i =>
    simp only [Option.bind_eq_some_iff] at e
    obtain ⟨vx, h1, vi, h2, e⟩ := e
    rw [h1, h2]
    exact hv e
  case typeAssert x xt t ok =>
    simp only [Option.bind_eq_some_iff] at e
    obtain ⟨vx, h1, e⟩ := e
    rw [h1]
    exact hv e
  case extract t i =>
    simp only [Option.bind_eq_some_iff] at e
    obtain ⟨vx, h1, e⟩ := e
    rw [h1]
    simp only [Option.bind_some]
    split at e
    · exact hv e
    · cases e
  case makeMap t r => cases r <;> cases hc
  case call c =>
    obtain ⟨callee, xs, ats⟩ := c
    cases callee with
    | value f => cases hc
    | invoke r name => cases hc
    | builtin b => cases b <;> cases hc
  all_goals (first | (split at hc <;> cases hc) | skip)
theorem builtin_r {b : Builtin} (hb : b = .len ∨ b = .cap ∨ b = .min ∨ b = .max) {ts : Array TypeId} {args : List Value} {nx : Nx} (e : builtinB P h b ts args = some nx) : ∃ v, nx = .val v h := by
  have hv : ∀ {r : Option Value}, valB h r = some nx → ∃ v, nx = .val v h := by
    intro r e
    simp only [valB, Option.map_eq_some_iff] at e
    obtain ⟨v, _, rfl⟩ := e
    exact ⟨v, rfl⟩
  rcases hb with rfl | rfl | rfl | rfl
  · match args with
    | [] => cases e
    | x :: y :: l => cases e
    | [x] =>
      simp only [builtinB, Option.bind_eq_some_iff] at e
      obtain ⟨t, _, e⟩ := e
      split at e
      · cases e; exact ⟨_, rfl⟩
      · cases e; exact ⟨_, rfl⟩
      · cases e; exact ⟨_, rfl⟩
      · split at e
        · cases e; exact ⟨_, rfl⟩
        · cases e
      · cases e; exact ⟨_, rfl⟩
      · split at e
        · cases e; exact ⟨_, rfl⟩
        · cases e
      · cases e
  · match args with
    | [] => cases e
    | x :: y :: l => cases x <;> cases e
    | [x] =>
      cases x <;> try (cases e; done)
      simp only [builtinB, Option.bind_eq_some_iff] at e
      obtain ⟨t, _, e⟩ := e
      split at e
      · simp only [cond] at e
        split at e
        · cases e
        · cases e; exact ⟨_, rfl⟩
      · cases e
  · match args with
    | [] => cases e
    | x :: l =>
      simp only [builtinB] at e
      cases hf : (x :: l).all flat with
      | false => rw [hf] at e; cases e
      | true => rw [hf] at e; exact hv e
  · match args with
    | [] => cases e
    | x :: l =>
      simp only [builtinB] at e
      cases hf : (x :: l).all flat with
      | false => rw [hf] at e; cases e
      | true => rw [hf] at e; exact hv e
/-- An operation that only looks. -/
theorem opB_r {o : Oper} (hc : clsB P o = .r) {nx : Nx} (e : opB P ext gl tm h o = some nx) : ∃ v, nx = .val v h := by
  have hv : ∀ {r : Option Value}, valB h r = some nx → ∃ v, nx = .val v h := by
    intro r e
    simp only [valB, Option.map_eq_some_iff] at e
    obtain ⟨v, _, rfl⟩ := e
    exact ⟨v, rfl⟩
  obtain ⟨dst, op, type, pos, after, guard⟩ := o
  cases op <;> simp only [clsB] at hc <;> (try (cases hc; done)) <;> simp only [opB] at e ⊢
  case load t x =>
    simp only [Option.bind_eq_some_iff] at e
    obtain ⟨_, _, e⟩ := e
    exact hv e
  case lookup t m k ok =>
    simp only [Option.bind_eq_some_iff] at e
    obtain ⟨_, _, _, _, e⟩ := e
    exact hv e
  case entry it =>
    simp only [Option.bind_eq_some_iff] at e
    obtain ⟨_, _, e⟩ := e
    exact hv e
  case convert s d x =>
    simp only [Option.bind_eq_some_iff] at e
    obtain ⟨va, hx, e⟩ := e
    split at e
    · rename_i el bs hs hd
      simp only [hd] at hc
      cases hc
    · exact hv e
  case makeMap t r => cases r <;> cases hc
  case call c =>
    simp only [Option.bind_eq_some_iff] at e
    obtain ⟨args, _, e⟩ := e
    obtain ⟨callee, xs, ats⟩ := c
    cases callee with
    | value f => cases hc
    | invoke r name => cases hc
    | builtin b =>
      simp only at e
      refine builtin_r ?_ e
      cases b <;> first | (cases hc; done) | simp
  all_goals (first | (split at hc <;> cases hc) | skip)
end
end Go.Proofs.YtcmildkkigccaaaGreatDoor.Run

/-
  Regions of open order: new blocks, whenever they are laid; the order's masks.
-/
namespace Go.Proofs.YtcmildkkigccaaaGreatDoor.Run
open Go
set_option linter.unusedVariables false
set_option linter.unusedSimpArgs false
theorem sameV_eq {a b : Value} (h : sameV a b = true) : a = b := by
  unfold sameV at h
  split at h
  all_goals first
    | rfl
    | (rw [eq_of_beq h]; done)
    | (simp only [Bool.and_eq_true] at h; rw [eq_of_beq h.1, eq_of_beq h.2]; done)
    | (simp only [Bool.and_eq_true] at h; rw [eq_of_beq h.1.1, beq_true h.1.2, beq_true h.2]; done)
    | (simp only [Bool.and_eq_true] at h; rw [beq_true h.1.1, eq_of_beq h.1.2, eq_of_beq h.2]; done)
    | (simp only [Bool.and_eq_true] at h; rw [beq_true h.1, eq_of_beq h.2]; done)
    | (rename_i a b; have := eq_of_beq h; cases a; cases b; simp at this; rw [this]; done)
    | (cases h; done)
    | (simp only [Bool.and_eq_true, List.isEmpty_iff] at h; rw [beq_true h.1.1.1.1, Array.ext' (h.1.1.1.2.trans h.1.2.symm), Array.ext' (h.1.1.2.trans h.2.symm)]; done)
    | skip
theorem sameL_eq : ∀ {l m : List Value}, sameL l m = true → l = m
  | [], [], _ => rfl
  | [], _ :: _, h => by cases h
  | _ :: _, [], h => by cases h
  | a :: l, b :: m, h => by
    simp only [sameL, Bool.and_eq_true] at h
    rw [sameV_eq h.1, sameL_eq h.2]
theorem sameW_eq {a b : Value} (h : sameW a b = true) : a = b := by
  unfold sameW at h
  split at h
  · rw [Array.ext' (sameL_eq h)]
  · rw [Array.ext' (sameL_eq h)]
  · simp only [Bool.and_eq_true] at h
    rw [beq_true h.1.1, Array.ext' (sameL_eq h.1.2), Array.ext' (sameL_eq h.2)]
  · exact sameV_eq h
section
variable {P : Program} {ρ : Rn} {gl : Gl} {ext : Ext} {call : CallR} {round : RoundR} {tm tm2 : Tr Value} {h : AH} {w : World}
theorem cellsOR {t : TypeId} {l l' : List Value} (hl : L2 ρ l l') : OR P ρ 0 (.cells t l.length (Tr.ofFrom l 0 .e) false) (.cells l'.toArray t (0, 0)) := by
  have hlen := hl.length
  refine .cells (by omega) (by simp; omega) (fun i hi => ?_) (fun _ i _ => by omega)
  rw [Tr.get_of]
  have hv : l[i]? = some (l[i]'hi) := by simp
  obtain ⟨v', e1, e2⟩ := hl.get _ _ hv
  exact ⟨_, v', hv, by simpa using e1, e2⟩
/-- A new block: its number is the evaluator's next one, and what it holds hangs on no other. -/
theorem opB_a {o : Oper} (hc : clsB P o = .a) {nx : Nx} (e : opB P ext gl tm h o = some nx) : ∃ (obj : AO) (mk : Nat → Value), obj.live ∧ (∀ h2, opB P ext gl tm h2 o = some (.val (mk h2.next) (h2.new obj))) ∧
    ∀ (ρ : Rn) (sz : Nat) (a : Act) (w : World), GlOk ρ gl → TR ρ sz tm a.tmps → ∃ (x : Obj) (mk' : Nat → Value), (execOp a.eval o).run P w = .ok (.value (mk' w.heap.size)) (w.alloc x) ∧
      (∀ ρ', Sub ρ ρ' → OR P ρ' 0 obj x) ∧ ∀ (ρ' : Rn) (b j : Nat), ρ' b = some j → VR ρ' (mk b) (mk' j) := by
  obtain ⟨dst, op, type, pos, after, guard⟩ := o
  cases op <;> simp only [clsB] at hc <;> (try (cases hc; done)) <;> simp only [opB] at e ⊢
  case alloc t =>
    simp only [Option.map_eq_some_iff] at e
    obtain ⟨z, hz, rfl⟩ := e
    refine ⟨.cells t (Value.cl z).length (Tr.ofFrom (Value.cl z) 0 .e) false, fun b => .pointer (some ⟨b, 0, none⟩), trivial, fun h2 => by rw [hz]; rfl, fun ρ sz a w hg ht => ⟨.cells z.cells t, fun j => .pointer (some ⟨j, 0, none⟩), ?_, fun ρ' hs => ?_, fun ρ' b j hb => .ptr hb⟩⟩
    · show ((do pure (Next.value (← Instr.alloc t true (.tuple #[]))) : Sem Next)).run P w = _
      simp [Instr.alloc, run_zero hz, newVar, newRow]
    · have := cellsOR (P := P) (t := t) (l := Value.cl z) (l' := z.cells.toList) (by rw [cl_eq]; exact flat_cells (ρ := ρ') (zeroB_flat hz).1)
      simpa using this
  case box t x =>
    simp only [Option.map_eq_some_iff] at e
    obtain ⟨v, hv, rfl⟩ := e
    refine ⟨.cells t (Value.cl v).length (Tr.ofFrom (Value.cl v) 0 .e) false, fun b => .pointer (some ⟨b, 0, none⟩), trivial, fun h2 => by rw [hv]; rfl, fun ρ sz a w hg ht => ⟨.cells (a.eval x).cells t, fun j => .pointer (some ⟨j, 0, none⟩), ?_, fun ρ' hs => ?_, fun ρ' b j hb => .ptr hb⟩⟩
    · show ((do pure (Next.value (← Instr.box t (a.eval x))) : Sem Next)).run P w = _
      simp [Instr.box, newVar, newRow]
    · have := cellsOR (P := P) (t := t) (l := Value.cl v) (l' := (a.eval x).cells.toList) (by rw [cl_eq]; exact ((opnd_ok hg ht hv).mono hs).cells)
      simpa using this
  case buildSlice t n ps =>
    simp only [Option.bind_eq_some_iff] at e
    obtain ⟨l, hl, e⟩ := e
    rw [hl]
    simp only [Option.bind_some]
    split at e
    · rename_i el hu
      simp only [Option.bind_eq_some_iff] at e
      obtain ⟨s, hs, z, hz, e⟩ := e
      cases hb : (Nat.ble (n * s) 16777216 && Nat.beq (Value.cl z).length s && Nat.blt n UNK) with
      | false => rw [hb] at e; cases e
      | true =>
        rw [hb] at e
        simp only [cond, Option.map_eq_some_iff] at e
        obtain ⟨cs, hcs, rfl⟩ := e
        obtain ⟨b1, b2, b3⟩ := and3 hb
        have b1 := ble_true b1; have b2 := beq_true b2; have b3 := blt_true b3
        refine ⟨.cells el cs.toList.length (Tr.ofFrom cs.toList 0 .e) false, fun b => .slice (some ⟨b, 0, none⟩) n n, trivial, fun h2 => by rw [hs, hz]; simp only [Option.bind_some]; rw [hb, hcs]; rfl, fun ρ sz a w hg ht => ?_⟩
        have hp := parts_ok hg ht hl
        obtain ⟨cs', q1, q2⟩ := fill_ok _ hp (c := (zeros (Value.cl z) n).toArray) (c' := (zeros (Value.cl z) n).toArray) (flat_zeros (zeroB_flat hz).1 n) hcs
        refine ⟨.cells cs' el, fun j => .slice (some ⟨j, 0, none⟩) n n, ?_, fun ρ' hsub => ?_, fun ρ' b j hb => .slice hb (.inl ⟨rfl, b3⟩) (Nat.le_refl _)⟩
        · have hps : (ps.map fun (i, x) => (i, a.eval x)) = (ps.toList.map fun (i, x) => (i, a.eval x)).toArray := by rw [← List.map_toArray, Array.toArray_toList]
          show ((do pure (Next.value (← Instr.buildSlice t n (ps.map fun (i, x) => (i, a.eval x)))) : Sem Next)).run P w = _
          rw [hps]
          have hcells : ((Array.range (n * s)).map (z.cells[· % z.cells.size]!)) = (zeros (Value.cl z) n).toArray := by
            apply Array.ext'
            rw [zero_row n s b2]
          have hroom : ¬ (2 ^ 24 < n * s) := by omega
          by_cases h0 : n * s = 0
          · have hnil : (zeros (Value.cl z) n) = [] := by
              have := congrArg Array.size hcells
              simp [h0] at this
              exact List.length_eq_zero_iff.1 this.symm
            rw [hnil] at q1
            simp only [Instr.buildSlice, Sem.run_bind, run_under hu, run_size hs, Result.andThen_ok]
            rw [h0]
            have q1' : Instr.fill (fun i => some (i * s, s)) ((Array.range 0).map fun x => (#[] : Array Value)[x % (#[] : Array Value).size]!) (ps.toList.map fun (i, x) => (i, a.eval x)) = some cs' := by
              rw [show (Array.range 0) = #[] from Array.eq_empty_of_size_eq_zero (by simp), Array.map_empty]; exact q1
            simp at q1'
            simp [q1', newRow]
          · simp only [Instr.buildSlice, Sem.run_bind, run_under hu, run_size hs, Result.andThen_ok]
            simp [hroom, h0, run_zero hz, hcells, q1, newRow]
        · have := cellsOR (P := P) (t := el) (q2.mono hsub)
          simpa using this
    · cases e
  case makeMap t r =>
    cases r with
    | some _ => cases hc
    | none =>
      refine ⟨.map [] 0, fun b => .map (some b), trivial, fun h2 => rfl, fun ρ sz a w hg ht => ⟨.map #[] 0, fun j => .map (some j), rfl, fun ρ' hs => .map trivial, fun ρ' b j hb => .map hb⟩⟩
  case call c =>
    obtain ⟨callee, xs, ats⟩ := c
    cases callee with
    | value f => cases hc
    | invoke r name => cases hc
    | builtin b => cases b <;> cases hc
  all_goals (first | (split at hc <;> cases hc) | skip)
/-- A block of the evaluator's that is laid only now. -/
theorem Rel.late (hr : Rel P ρ h w) {β : Nat} {o : AO} {x : Obj} (hβ : ρ β = Option.none) (hlt : β < h.next) (hg : h.get β = some o) (ho : OR P (Run.ext ρ β w.heap.size 0) 0 o x) : Rel P (Run.ext ρ β w.heap.size 0) h (w.alloc x) := by
  have hs := Sub.ext hβ w.heap.size 0
  have hsz : (w.alloc x).heap.size = w.heap.size + 1 := by simp
  have hold : ∀ j, j < w.heap.size → (w.alloc x).heap[j]? = w.heap[j]? := fun j hj => by show (w.heap.push x)[j]? = _; rw [Array.getElem?_push, if_neg (Nat.ne_of_lt hj)]
  refine ⟨fun b j e => ?_, fun b j a e1 e2 e3 => ?_, fun b b' j a a' e1 e2 e3 e4 e5 e6 => ?_⟩
  · simp only [Run.ext] at e
    by_cases hb : b = β
    · rw [if_pos hb] at e; cases e; exact ⟨by omega, by omega⟩
    · rw [if_neg hb] at e; have := hr.dom b j e; exact ⟨this.1, by omega⟩
  · simp only [Run.ext] at e1
    by_cases hb : b = β
    · rw [if_pos hb] at e1; cases e1
      subst hb
      rw [hg] at e2; cases e2
      have hk : (Run.ext ρ b w.heap.size 0).k b = 0 := if_pos rfl
      rw [hk]
      exact ⟨x, (by show (w.heap.push x)[w.heap.size]? = _; rw [Array.getElem?_push, if_pos rfl]), ho⟩
    · rw [if_neg hb] at e1
      obtain ⟨y, hy, hy2⟩ := hr.obj b j a e1 e2 e3
      have hk : (Run.ext ρ β w.heap.size 0).k b = ρ.k b := if_neg hb
      rw [hk]
      exact ⟨y, by rw [hold j (hr.dom b j e1).2]; exact hy, hy2.mono hs⟩
  · simp only [Run.ext] at e1 e2
    by_cases hb : b = β <;> by_cases hb' : b' = β
    · rw [hb, hb']
    · rw [if_pos hb] at e1; rw [if_neg hb'] at e2; cases e1; have := (hr.dom b' _ e2).2; omega
    · rw [if_neg hb] at e1; rw [if_pos hb'] at e2; cases e2; have := (hr.dom b _ e1).2; omega
    · rw [if_neg hb] at e1; rw [if_neg hb'] at e2; exact hr.inj b b' j a a' e1 e2 e3 e4 e5 e6
theorem Fw.late {ρ0 : Rn} {h0 : AH} {w0 : World} (hf : Fw ρ0 h0 w0 ρ h w) {β : Nat} {x : Obj} (hβ : ρ β = none) (hlt : h0.next ≤ β) (hr : Rel P ρ h w) : Fw ρ0 h0 w0 (Run.ext ρ β w.heap.size 0) h (w.alloc x) where
  sub := hf.sub.trans (Sub.ext hβ w.heap.size 0)
  old b hb e := by
    have := hf.old b hb e
    simp only [Run.ext]
    rw [if_neg (by omega)]
    exact this
  new b j e := by
    simp only [Run.ext] at e
    by_cases hb : b = β
    · rw [if_pos hb] at e; cases e; exact .inl hf.size
    · rw [if_neg hb] at e; exact hf.new b j e
  keep j hj hn := by
    have h1 : j < w.heap.size := Nat.lt_of_lt_of_le hj hf.size
    have : (w.alloc x).heap[j]? = w.heap[j]? := by show (w.heap.push x)[j]? = _; rw [Array.getElem?_push, if_neg (Nat.ne_of_lt h1)]
    rw [this]; exact hf.keep j hj hn
  ro b j e n c h1 h2 := by
    have h3 := hf.ro b j e n c h1 h2
    have h4 := (hr.dom b j (hf.sub b j h1).1).2
    have : (w.alloc x).heap[j]? = w.heap[j]? := by show (w.heap.push x)[j]? = _; rw [Array.getElem?_push, if_neg (Nat.ne_of_lt h4)]
    exact ⟨h3.1, this.trans h3.2⟩
  next := hf.next
  size := by have := hf.size; simp; omega
  os := hf.os
  tape := hf.tape
  output := hf.output
theorem Rel.grow (hr : Rel P ρ h w) {h2 : AH} (hs : ∀ b, b < h.next → h2.get b = h.get b) (hn : h.next ≤ h2.next) : Rel P ρ h2 w :=
  ⟨fun b j e => let d := hr.dom b j e; ⟨Nat.lt_of_lt_of_le d.1 hn, d.2⟩, fun b j o e1 e2 e3 => hr.obj b j o e1 ((hs b (hr.dom b j e1).1).symm.trans e2) e3,
    fun b b' j o o' e1 e2 e3 e4 e5 e6 => hr.inj b b' j o o' e1 e2 ((hs b (hr.dom b j e1).1).symm.trans e3) e4 ((hs b' (hr.dom b' j e2).1).symm.trans e5) e6⟩
theorem Fw.grow {ρ0 : Rn} {h0 : AH} {w0 : World} (hf : Fw ρ0 h0 w0 ρ h w) (hr : Rel P ρ h w) {h2 : AH} (hs : ∀ b, b < h.next → h2.get b = h.get b) (hn : h.next ≤ h2.next) : Fw ρ0 h0 w0 ρ h2 w :=
  ⟨hf.sub, fun b hb e => let d := hf.old b hb e; ⟨d.1, (hs b (Nat.lt_of_lt_of_le hb hf.next)).trans d.2⟩, hf.new, hf.keep, fun b j e n c h1 h2' => let d := hf.ro b j e n c h1 h2'; ⟨(hs b (hr.dom b j (hf.sub b j h1).1).1).trans d.1, d.2⟩,
    Nat.le_trans hf.next hn, hf.size, hf.os, hf.tape, hf.output⟩
end
/-! ### The masks -/
theorem testBit_two (i k : Nat) : (2 ^ i).testBit k = decide (i = k) := Nat.testBit_two_pow
theorem fold_bits (acc : List Nat) (k : Nat) : ∀ (l : List Edge) (s : Nat), (l.foldl (fun s e => cond (Region.binds .any e) (s ||| 2 ^ e.on ||| acc.getD e.on 0) s) s).testBit k = true ↔
    s.testBit k = true ∨ ∃ e ∈ l, Region.binds .any e = true ∧ (e.on = k ∨ (acc.getD e.on 0).testBit k = true)
  | [], s => by simp
  | e :: l, s => by
    rw [List.foldl_cons, fold_bits acc k l]
    cases hb : Region.binds .any e with
    | false => simp [hb]
    | true =>
      simp only [cond, Nat.testBit_or, testBit_two, Bool.or_eq_true, decide_eq_true_eq, List.mem_cons]
      constructor
      · rintro (((h | h) | h) | ⟨e', h1, h2⟩)
        · exact .inl h
        · exact .inr ⟨e, .inl rfl, hb, .inl h⟩
        · exact .inr ⟨e, .inl rfl, hb, .inr h⟩
        · exact .inr ⟨e', .inr h1, h2⟩
      · rintro (h | ⟨e', rfl | h1, h2, h3⟩)
        · exact .inl (.inl (.inl h))
        · rcases h3 with h3 | h3
          · exact .inl (.inl (.inr h3))
          · exact .inl (.inr h3)
        · exact .inr ⟨e', h1, h2, h3⟩
def maskB (o : Oper) (acc : List Nat) : Nat := o.after.toList.foldl (fun s e => cond (Region.binds .any e) (s ||| 2 ^ e.on ||| acc.getD e.on 0) s) 0
theorem ancs_eq : ∀ (l : List Oper) (acc : List Nat), ∃ rest, ancs l acc = acc ++ rest ∧ rest.length = l.length ∧ ∀ j o, l[j]? = some o → rest[j]? = some (maskB o (acc ++ rest.take j))
  | [], acc => ⟨[], by simp [ancs], rfl, fun j o e => by simp at e⟩
  | o :: l, acc => by
    obtain ⟨rest, h1, h2, h3⟩ := ancs_eq l (acc ++ [maskB o acc])
    refine ⟨maskB o acc :: rest, ?_, by simp [h2], fun j o' e => ?_⟩
    · simp only [ancs]
      rw [show (acc ++ [o.after.toList.foldl (fun s e => cond (Region.binds .any e) (s ||| 2 ^ e.on ||| acc.getD e.on 0) s) 0]) = acc ++ [maskB o acc] from rfl, h1]
      simp
    · cases j with
      | zero => simp at e; subst e; simp
      | succ j =>
        have := h3 j o' (by simpa using e)
        simp only [List.getElem?_cons_succ, List.take_succ_cons]
        rw [this]
        simp
/-- The mask of an operation, by its number. -/
def ancM (ops : List Oper) (i : Nat) : Nat := (ancs ops [])[i]?.getD 0
theorem ancM_bits {ops : List Oper} {i : Nat} {o : Oper} (ho : ops[i]? = some o) (k : Nat) : (ancM ops i).testBit k = true ↔ ∃ e ∈ o.after.toList, Region.binds .any e = true ∧ (e.on = k ∨ (e.on < i ∧ (ancM ops e.on).testBit k = true)) := by
  obtain ⟨rest, h1, h2, h3⟩ := ancs_eq ops []
  simp only [List.nil_append] at h1 h3
  have hm : ancM ops i = maskB o (rest.take i) := by
    unfold ancM
    rw [h1, h3 i o ho]
    rfl
  rw [hm]
  unfold maskB
  rw [fold_bits]
  have hget : ∀ e : Edge, ((rest.take i).getD e.on 0).testBit k = true ↔ (e.on < i ∧ (ancM ops e.on).testBit k = true) := by
    intro e
    unfold ancM
    rw [h1, List.getD_eq_getElem?_getD, List.getElem?_take]
    by_cases hlt : e.on < i
    · rw [if_pos hlt]; simp [hlt]
    · rw [if_neg hlt]; simp [hlt]
  constructor
  · rintro (h | ⟨e, k1, k2, k3⟩)
    · simp at h
    · refine ⟨e, k1, k2, ?_⟩
      rcases k3 with k3 | k3
      · exact .inl k3
      · exact .inr ((hget e).1 k3)
  · rintro ⟨e, k1, k2, k3⟩
    refine .inr ⟨e, k1, k2, ?_⟩
    rcases k3 with k3 | k3
    · exact .inl k3
    · exact .inr ((hget e).2 k3)
/-- Where s stands in its list: all that is ahead of it. -/
def Good (pre l : List Slot) : Prop := ∀ (l1 : List Slot) (s : Slot) (l2 : List Slot), l = l1 ++ s :: l2 → (∀ s' ∈ pre ++ l1, s'.i ≠ s.i) ∧ (∀ k, s.anc.testBit k = true → ∃ s' ∈ pre ++ l1, s'.i = k) ∧
  ((s.cls.isA || s.cls.isE) = true → ∀ s' ∈ pre ++ l1, s'.cls.isE = true → s.anc.testBit s'.i = true)
theorem or_sub {a b : Nat} (h : Nat.beq (a ||| b) b = true) (k : Nat) (hk : a.testBit k = true) : b.testBit k = true := by
  have := beq_true h
  rw [← this, Nat.testBit_or, hk]; rfl
theorem seqOk_good : ∀ (l pre : List Slot) (d e : Nat), (∀ k, d.testBit k = true ↔ ∃ s ∈ pre, s.i = k) → (∀ k, e.testBit k = true ↔ ∃ s ∈ pre, s.cls.isE = true ∧ s.i = k) → seqOk l d e = true → Good pre l
  | [], pre, d, e, _, _, _ => fun l1 s l2 hl => by cases l1 <;> simp at hl
  | x :: l, pre, d, e, hd, he, h => by
    simp only [seqOk] at h
    obtain ⟨h1, h2, h3, h4⟩ : (!d.testBit x.i) = true ∧ Nat.beq (x.anc ||| d) d = true ∧ (cond (x.cls.isA || x.cls.isE) (Nat.beq (x.anc ||| e) x.anc) true) = true ∧ seqOk l (d ||| 2 ^ x.i) (cond x.cls.isE (e ||| 2 ^ x.i) e) = true := by
      simp only [Bool.and_eq_true] at h
      exact ⟨h.1.1.1, h.1.1.2, h.1.2, h.2⟩
    have IH := seqOk_good l (pre ++ [x]) (d ||| 2 ^ x.i) (cond x.cls.isE (e ||| 2 ^ x.i) e) (fun k => by
      rw [Nat.testBit_or, testBit_two, Bool.or_eq_true, hd, decide_eq_true_eq]
      constructor
      · rintro (⟨s, k1, k2⟩ | k1)
        · exact ⟨s, by simp [k1], k2⟩
        · exact ⟨x, by simp, k1⟩
      · rintro ⟨s, k1, k2⟩
        rcases List.mem_append.1 k1 with k1 | k1
        · exact .inl ⟨s, k1, k2⟩
        · simp at k1; subst k1; exact .inr k2) (fun k => by
      cases hE : x.cls.isE with
      | false =>
        simp only [cond]
        rw [he]
        constructor
        · rintro ⟨s, k1, k2⟩; exact ⟨s, by simp [k1], k2⟩
        · rintro ⟨s, k1, k2, k3⟩
          rcases List.mem_append.1 k1 with k1 | k1
          · exact ⟨s, k1, k2, k3⟩
          · simp at k1; subst k1; rw [hE] at k2; cases k2
      | true =>
        simp only [cond]
        rw [Nat.testBit_or, testBit_two, Bool.or_eq_true, he, decide_eq_true_eq]
        constructor
        · rintro (⟨s, k1, k2⟩ | k1)
          · exact ⟨s, by simp [k1], k2⟩
          · exact ⟨x, by simp, hE, k1⟩
        · rintro ⟨s, k1, k2, k3⟩
          rcases List.mem_append.1 k1 with k1 | k1
          · exact .inl ⟨s, k1, k2, k3⟩
          · simp at k1; subst k1; exact .inr k3) h4
    intro l1 s l2 hl
    cases l1 with
    | nil =>
      simp only [List.nil_append, List.cons.injEq] at hl
      obtain ⟨rfl, rfl⟩ := hl
      refine ⟨fun s' hs' hi => ?_, fun k hk => ?_, fun hae s' hs' hE => ?_⟩
      · have : d.testBit x.i = true := (hd _).2 ⟨s', by simpa using hs', hi⟩
        rw [this] at h1; cases h1
      · obtain ⟨s', k1, k2⟩ := (hd k).1 (or_sub h2 k hk)
        exact ⟨s', by simpa using k1, k2⟩
      · rw [hae] at h3
        have h3' : Nat.beq (e ||| x.anc) x.anc = true := by rw [Nat.or_comm]; exact h3
        exact or_sub h3' _ ((he _).2 ⟨s', by simpa using hs', hE, rfl⟩)
    | cons y l1 =>
      simp only [List.cons_append, List.cons.injEq] at hl
      obtain ⟨rfl, hl⟩ := hl
      have := IH l1 s l2 hl
      simpa [List.append_assoc] using this
end Go.Proofs.YtcmildkkigccaaaGreatDoor.Run

/-
  Regions of open order: the run that is fixed, and its parts.
-/
namespace Go.Proofs.YtcmildkkigccaaaGreatDoor.Run
open Go
set_option linter.unusedVariables false
set_option linter.unusedSimpArgs false
theorem maskAll_bits : ∀ (l : List Slot) (k : Nat), (maskAll l).testBit k = true ↔ ∃ s ∈ l, s.i = k
  | [], k => by simp [maskAll]
  | x :: l, k => by
    simp only [maskAll, Nat.testBit_or, testBit_two, Bool.or_eq_true, decide_eq_true_eq, maskAll_bits l k, List.mem_cons]
    constructor
    · rintro (h | ⟨s, h1, h2⟩)
      · exact ⟨x, .inl rfl, h⟩
      · exact ⟨s, .inr h1, h2⟩
    · rintro ⟨s, rfl | h1, h2⟩
      · exact .inl h2
      · exact .inr ⟨s, h1, h2⟩
theorem slotsB_mem {P : Program} : ∀ (l : List Oper) (as : List Nat) (k : Nat) (s : Slot), s ∈ slotsB P l as k → ∃ j, s.i = k + j ∧ l[j]? = some s.o ∧ s.anc = (as[j]?).getD 0 ∧ s.cls = clsB P s.o
  | [], as, k, s, h => by simp [slotsB] at h
  | o :: l, as, k, s, h => by
    simp only [slotsB, List.mem_cons] at h
    rcases h with rfl | h
    · exact ⟨0, rfl, rfl, by cases as <;> rfl, rfl⟩
    · obtain ⟨j, h1, h2, h3, h4⟩ := slotsB_mem l as.tail (k + 1) s h
      exact ⟨j + 1, by omega, by simpa using h2, by rw [h3]; cases as <;> simp, h4⟩
theorem seqB_mem {ss : List Slot} : ∀ (es : List Slot) (ls : List (Slot × Nat)) (k : Nat) (s : Slot), s ∈ seqB ss es ls k → s ∈ es ∨ ∃ n, (s, n) ∈ ls
  | [], ls, k, s, h => by
    simp only [seqB, List.mem_map, List.mem_filter] at h
    obtain ⟨⟨a, b⟩, ⟨h1, _⟩, rfl⟩ := h
    exact .inr ⟨b, h1⟩
  | e :: es, ls, k, s, h => by
    simp only [seqB, List.mem_append, List.mem_map, List.mem_filter, List.mem_cons] at h
    rcases h with ⟨⟨a, b⟩, ⟨h1, _⟩, rfl⟩ | rfl | h
    · exact .inr ⟨b, h1⟩
    · exact .inl (by simp)
    · rcases seqB_mem es ls (k + 1) s h with h | h
      · exact .inl (by simp [h])
      · exact .inr h
/-- What the checks of a region say. -/
structure Stat (P : Program) (ops : Array Oper) (seq : List Slot) : Prop where
  mem : ∀ s ∈ seq, ops[s.i]? = some s.o ∧ s.anc = ancM ops.toList s.i ∧ s.cls = clsB P s.o
  good : Good [] seq
  pairs : ∀ x ∈ seq, ∀ y ∈ seq, pairOk ops.toList x y = true
  all : ∀ i, i < ops.size → ∃ s ∈ seq, s.i = i
theorem statB_ok {P : Program} {ops : Array Oper} {seq es : List Slot} (e : statB P ops.toList = some (seq, es)) : Stat P ops seq ∧ es = effs seq := by
  unfold statB at e
  simp only at e
  generalize hseq : seqB _ _ _ 0 = q at e
  cases hb : (Nat.beq (maskAll q) (2 ^ ops.toList.length - 1) && q.all (fun x => q.all fun y => pairOk ops.toList x y) && seqOk q 0 0) with
  | false => rw [hb] at e; cases e
  | true =>
    rw [hb] at e
    cases e
    obtain ⟨b1, b2, b3⟩ := and3 hb
    have b1 := beq_true b1
    refine ⟨⟨fun s hs => ?_, seqOk_good seq [] 0 0 (fun k => by simp) (fun k => by simp) b3, fun x hx y hy => List.all_eq_true.1 (List.all_eq_true.1 b2 x hx) y hy, fun i hi => ?_⟩, rfl⟩
    · have hm : s ∈ slotsB P ops.toList (ancs ops.toList []) 0 := by
        rw [← hseq] at hs
        rcases seqB_mem _ _ _ _ hs with h | ⟨n, h⟩
        · exact (List.mem_filter.1 h).1
        · simp only [List.mem_map, List.mem_filter] at h
          obtain ⟨a, ⟨h1, _⟩, h2⟩ := h
          cases h2
          exact h1
      obtain ⟨j, h1, h2, h3, h4⟩ := slotsB_mem _ _ _ _ hm
      have hj : s.i = j := by omega
      subst hj
      exact ⟨by simpa using h2, h3, h4⟩
    · refine (maskAll_bits seq i).1 ?_
      rw [b1, Nat.testBit_two_pow_sub_one]
      simpa using hi
section
variable {P : Program} {gl : Gl} {ext : Ext} {call : CallR} {round : RoundR}
inductive Runs (P : Program) (ext : Ext) (gl : Gl) (call : CallR) (round : RoundR) (ops : List Oper) : List Slot → St → St → Prop
  | nil {st : St} : Runs P ext gl call round ops [] st st
  | cons {s : Slot} {l : List Slot} {st st1 st2 : St} : stepB P ext gl call round ops s.o st = some st1 → Runs P ext gl call round ops l st1 st2 → Runs P ext gl call round ops (s :: l) st st2
variable {ops : List Oper}
theorem Runs.split : ∀ {l1 l2 : List Slot} {st st' : St}, Runs P ext gl call round ops (l1 ++ l2) st st' → ∃ m, Runs P ext gl call round ops l1 st m ∧ Runs P ext gl call round ops l2 m st'
  | [], l2, st, st', h => ⟨st, .nil, h⟩
  | s :: l1, l2, st, st', h => by
    cases h with
    | cons h1 h2 => obtain ⟨m, k1, k2⟩ := Runs.split h2; exact ⟨m, .cons h1 k1, k2⟩
theorem Runs.append {l1 l2 : List Slot} {st m st' : St} (h : Runs P ext gl call round ops l1 st m) (h' : Runs P ext gl call round ops l2 m st') : Runs P ext gl call round ops (l1 ++ l2) st st' := by
  induction h with
  | nil => exact h'
  | cons k _ ih => exact .cons k (ih h')
theorem Runs.det {l : List Slot} {st a b : St} (h : Runs P ext gl call round ops l st a) (h' : Runs P ext gl call round ops l st b) : a = b := by
  induction h with
  | nil => cases h'; rfl
  | cons k _ ih =>
    cases h' with
    | cons k' h' => rw [k] at k'; cases k'; exact ih h'
theorem stepB_tm {o : Oper} {st st1 : St} (e : stepB P ext gl call round ops o st = some st1) (t : Nat) (ht : o.dst ≠ some t) : st1.tm.get t = st.tm.get t := by
  have hp : ∀ {v : Value} {tm' : Tr Value}, putB st.sz st.tm o.dst v = some tm' → tm'.get t = st.tm.get t := by
    intro v tm' h
    unfold putB at h
    split at h
    · rename_i d hd
      cases hb : Nat.blt d st.sz with
      | false => rw [hb] at h; cases h
      | true => rw [hb] at h; cases h; rw [Tr.get_put, if_neg (fun k => ht (by rw [hd, k]))]
    · cases h; rfl
  unfold stepB at e
  cases hg : goesB ops st.tm o with
  | true =>
    rw [hg] at e
    simp only [cond, Option.bind_eq_some_iff] at e
    obtain ⟨nx, _, e⟩ := e
    cases nx with
    | val v h => simp only [nxB, Option.map_eq_some_iff] at e; obtain ⟨_, h1, rfl⟩ := e; exact hp h1
    | call f l => simp only [nxB, Option.bind_eq_some_iff, Option.map_eq_some_iff] at e; obtain ⟨_, _, _, h1, rfl⟩ := e; exact hp h1
    | round f l => simp only [nxB, Option.bind_eq_some_iff, Option.map_eq_some_iff] at e; obtain ⟨_, _, _, h1, rfl⟩ := e; exact hp h1
    | defer f l =>
      cases hr : st.rd with
      | true => simp [nxB, hr] at e
      | false => simp only [nxB, hr, cond, Option.map_eq_some_iff] at e; obtain ⟨_, h1, rfl⟩ := e; exact hp h1
  | false => rw [hg] at e; simp only [cond, Option.map_eq_some_iff] at e; obtain ⟨_, h1, rfl⟩ := e; exact hp h1
theorem Runs.keep {l : List Slot} {st st1 : St} (h : Runs P ext gl call round ops l st st1) (t : Nat) (ht : ∀ s ∈ l, s.o.dst ≠ some t) : st1.tm.get t = st.tm.get t := by
  induction h with
  | nil => rfl
  | cons k _ ih => rw [ih (fun s hs => ht s (by simp [hs])), stepB_tm k t (ht _ (by simp))]
theorem Runs.szrd {l : List Slot} {st st1 : St} (h : Runs P ext gl call round ops l st st1) : st1.rd = st.rd ∧ st1.sz = st.sz := by
  induction h with
  | nil => exact ⟨rfl, rfl⟩
  | cons k _ ih => have := stepB_rd k; exact ⟨ih.1.trans this.1, ih.2.trans this.2⟩
/-- A step that is no effect: the heap grows at most. -/
theorem stepB_calm {o : Oper} {st st1 : St} (hc : (clsB P o).isE = false) (e : stepB P ext gl call round ops o st = some st1) :
    st1.ds = st.ds ∧ st.h.next ≤ st1.h.next ∧ (∀ b, b < st.h.next → st1.h.get b = st.h.get b) ∧
    ((goesB ops st.tm o = false ∧ st1.h = st.h ∧ putB st.sz st.tm o.dst undef = some st1.tm) ∨ (goesB ops st.tm o = true ∧ ∃ v h', opB P ext gl st.tm st.h o = some (.val v h') ∧ st1.h = h' ∧ putB st.sz st.tm o.dst v = some st1.tm)) := by
  unfold stepB at e
  cases hg : goesB ops st.tm o with
  | false =>
    rw [hg] at e
    simp only [cond, Option.map_eq_some_iff] at e
    obtain ⟨tm', h1, rfl⟩ := e
    exact ⟨rfl, Nat.le_refl _, fun _ _ => rfl, .inl ⟨rfl, rfl, h1⟩⟩
  | true =>
    rw [hg] at e
    simp only [cond, Option.bind_eq_some_iff] at e
    obtain ⟨nx, h1, e⟩ := e
    have hval : ∃ v h', nx = .val v h' ∧ st.h.next ≤ h'.next ∧ ∀ b, b < st.h.next → h'.get b = st.h.get b := by
      cases hcl : clsB P o with
      | a =>
        obtain ⟨obj, mk, _, h2, _⟩ := opB_a hcl h1
        have := h2 st.h
        rw [h1] at this
        cases this
        exact ⟨_, _, rfl, Nat.le_succ _, fun b hb => by rw [AH.get_new, if_neg (by omega)]⟩
      | p => obtain ⟨v, rfl, _⟩ := opB_p hcl h1; exact ⟨v, _, rfl, Nat.le_refl _, fun _ _ => rfl⟩
      | r => obtain ⟨v, rfl⟩ := opB_r hcl h1; exact ⟨v, _, rfl, Nat.le_refl _, fun _ _ => rfl⟩
      | e => rw [hcl] at hc; cases hc
    obtain ⟨v, h', rfl, h2, h3⟩ := hval
    simp only [nxB, Option.map_eq_some_iff] at e
    obtain ⟨tm', h4, rfl⟩ := e
    exact ⟨rfl, h2, h3, .inr ⟨rfl, v, h', h1, rfl, h4⟩⟩
theorem Runs.calm {l : List Slot} {st st1 : St} (h : Runs P ext gl call round ops l st st1) (hc : ∀ s ∈ l, (clsB P s.o).isE = false) : st1.ds = st.ds ∧ st.h.next ≤ st1.h.next ∧ ∀ b, b < st.h.next → st1.h.get b = st.h.get b := by
  induction h with
  | nil => exact ⟨rfl, Nat.le_refl _, fun _ _ => rfl⟩
  | cons k _ ih =>
    have h1 := stepB_calm (hc _ (by simp)) k
    have h2 := ih (fun s hs => hc s (by simp [hs]))
    exact ⟨h2.1.trans h1.1, Nat.le_trans h1.2.1 h2.2.1, fun b hb => (h2.2.2 b (Nat.lt_of_lt_of_le hb h1.2.1)).trans (h1.2.2.1 b hb)⟩
theorem runB_prefix : ∀ {l : List Slot} {st st' : St} {hs hs' : List AH}, runB P ext gl call round ops l st hs = some (st', hs') → ∃ more, hs' = hs ++ more
  | [], st, st', hs, hs', e => by simp only [runB] at e; cases e; exact ⟨_, rfl⟩
  | s :: l, st, st', hs, hs', e => by
    simp only [runB, Option.bind_eq_some_iff] at e
    obtain ⟨st1, _, e⟩ := e
    obtain ⟨more, h⟩ := runB_prefix e
    cases hE : s.cls.isE with
    | true => rw [hE] at h; exact ⟨[st.h] ++ more, by rw [h]; simp⟩
    | false => rw [hE] at h; exact ⟨more, h⟩
theorem runB_runs : ∀ {l : List Slot} {st st' : St} {hs hs' : List AH}, runB P ext gl call round ops l st hs = some (st', hs') → Runs P ext gl call round ops l st st'
  | [], st, st', hs, hs', e => by simp only [runB] at e; cases e; exact .nil
  | s :: l, st, st', hs, hs', e => by
    simp only [runB, Option.bind_eq_some_iff] at e
    obtain ⟨st1, h1, e⟩ := e
    exact .cons h1 (runB_runs e)
theorem runB_heaps : ∀ {pre rest : List Slot} {st st' sp : St} {hs hs' : List AH}, runB P ext gl call round ops (pre ++ rest) st hs = some (st', hs') → Runs P ext gl call round ops pre st sp → (rest = [] ∨ ∃ e r, rest = e :: r ∧ e.cls.isE = true) →
    hs'[hs.length + (effs pre).length]? = some sp.h
  | [], rest, st, st', sp, hs, hs', e, hr, hc => by
    cases hr
    simp only [List.nil_append] at e
    rcases hc with rfl | ⟨x, r, rfl, hx⟩
    · simp only [runB] at e; cases e; simp [effs]
    · simp only [runB, Option.bind_eq_some_iff] at e
      obtain ⟨st1, _, e⟩ := e
      rw [hx] at e
      obtain ⟨more, h⟩ := runB_prefix e
      rw [h]
      simp [effs, cond]
  | s :: pre, rest, st, st', sp, hs, hs', e, hr, hc => by
    cases hr with
    | cons k hr =>
      simp only [List.cons_append, runB, Option.bind_eq_some_iff] at e
      obtain ⟨st1, h1, e⟩ := e
      rw [k] at h1; cases h1
      have IH := runB_heaps e hr hc
      cases hE : s.cls.isE with
      | true =>
        rw [hE] at IH
        simp only [cond, List.length_append, List.length_cons, List.length_nil] at IH
        have : (effs (s :: pre)).length = (effs pre).length + 1 := by simp [effs, hE]
        rw [this, ← IH]
        congr 1
        omega
      | false =>
        rw [hE] at IH
        have : (effs (s :: pre)).length = (effs pre).length := by simp [effs, hE]
        rw [this]
        exact IH
theorem readsB_at {tm : Tr Value} {s : Slot} : ∀ (todo done : List Slot) (hs : List AH), readsB P ext gl tm s done todo hs = true → ∀ d t, todo = d ++ t → ∀ h, hs[d.length]? = some h → mayB s (done ++ d) t = true → readAt P ext gl tm s h = true
  | [], done, [], e, d, t, hdt, h, hh, hm => by simp [readsB] at e
  | [], done, x :: hs, e, d, t, hdt, h, hh, hm => by
    simp only [readsB] at e
    have h1 : d = [] ∧ t = [] := by simpa using hdt
    obtain ⟨rfl, rfl⟩ := h1
    simp at hh; subst hh
    rw [List.append_nil] at hm
    rw [hm] at e; exact e
  | y :: todo, done, [], e, d, t, hdt, h, hh, hm => by simp [readsB] at e
  | y :: todo, done, x :: hs, e, d, t, hdt, h, hh, hm => by
    simp only [readsB, Bool.and_eq_true] at e
    cases d with
    | nil =>
      simp only [List.nil_append] at hdt
      subst hdt
      simp at hh; subst hh
      rw [List.append_nil] at hm
      have := e.1
      rw [hm] at this; exact this
    | cons z d =>
      simp only [List.cons_append, List.cons.injEq] at hdt
      obtain ⟨rfl, rfl⟩ := hdt
      exact readsB_at (d ++ t) (done ++ [y]) hs e.2 d t rfl h (by simpa using hh) (by simpa [List.append_assoc] using hm)
/-- What holds of a drawn region that the evaluator has run. -/
structure Ctx (P : Program) (ext : Ext) (gl : Gl) (call : CallR) (round : RoundR) (ops : Array Oper) (seq : List Slot) (st0 st' : St) : Prop where
  stat : Stat P ops seq
  runs : Runs P ext gl call round ops.toList seq st0 st'
  reads : ∀ (pre rest : List Slot) (sp : St) (s : Slot), seq = pre ++ rest → Runs P ext gl call round ops.toList pre st0 sp → (rest = [] ∨ ∃ e r, rest = e :: r ∧ e.cls.isE = true) → s ∈ seq → s.cls.isR = true → goesB ops.toList st'.tm s.o = true →
    mayB s (effs pre) (effs rest) = true → readAt P ext gl st'.tm s sp.h = true
theorem drawB_ctx {ops : Array Oper} {st st' : St} (e : drawB P ext gl call round ops.toList st = some st') : ∃ seq, Ctx P ext gl call round ops seq st st' := by
  simp only [drawB, Option.bind_eq_some_iff] at e
  obtain ⟨⟨seq, es⟩, h1, ⟨st1, hs⟩, h2, e⟩ := e
  obtain ⟨h3, rfl⟩ := statB_ok h1
  simp only at e h2
  cases hb : (seq.all fun s => cond (s.cls.isR && goesB ops.toList st1.tm s.o) (readsB P ext gl st1.tm s [] (effs seq) hs) true) with
  | false => rw [hb] at e; cases e
  | true =>
    rw [hb] at e
    cases e
    refine ⟨seq, h3, runB_runs h2, fun pre rest sp s hsplit hrun hrest hs' hR hg hm => ?_⟩
    have h4 := List.all_eq_true.1 hb s hs'
    rw [hR, hg] at h4
    simp only [Bool.and_self, cond] at h4
    subst hsplit
    have h5 := runB_heaps h2 hrun hrest
    simp only [List.length_nil, Nat.zero_add] at h5
    exact readsB_at _ _ _ h4 (effs pre) (effs rest) (by simp [effs]) sp.h h5 (by simpa using hm)
end
end Go.Proofs.YtcmildkkigccaaaGreatDoor.Run

/-
  Regions of open order: whatever order is drawn, it is as the run that is fixed.
-/
namespace Go.Proofs.YtcmildkkigccaaaGreatDoor.Run
open Go
set_option linter.unusedVariables false
set_option linter.unusedSimpArgs false
section
variable {P : Program} {gl : Gl} {ext : Ext} {call : CallR} {round : RoundR} {ops : Array Oper} {seq : List Slot} {st0 st' : St}
/-- The state ahead of s in the fixed run. -/
def Before (P : Program) (ext : Ext) (gl : Gl) (call : CallR) (round : RoundR) (ops : Array Oper) (seq : List Slot) (st0 : St) (s : Slot) (sq : St) : Prop :=
  ∃ q1 q2, seq = q1 ++ s :: q2 ∧ Runs P ext gl call round ops.toList q1 st0 sq
theorem slot_unique (hc : Stat P ops seq) {x y : Slot} (hx : x ∈ seq) (hy : y ∈ seq) (h : x.i = y.i) : x = y := by
  obtain ⟨q1, q2, rfl⟩ := List.append_of_mem hx
  rcases List.mem_append.1 hy with h1 | h1
  · exact absurd h.symm ((hc.good q1 x q2 rfl).1 y (by simpa using h1))
  · rcases List.mem_cons.1 h1 with h1 | h1
    · exact h1.symm
    · obtain ⟨r1, r2, rfl⟩ := List.append_of_mem h1
      have := (hc.good (q1 ++ x :: r1) y r2 (by simp)).1 x (by simp)
      exact absurd h this
theorem split_unique (hc : Stat P ops seq) {s : Slot} {q1 q2 r1 r2 : List Slot} (h1 : seq = q1 ++ s :: q2) (h2 : seq = r1 ++ s :: r2) : q1 = r1 ∧ q2 = r2 := by
  have h3 := h1.symm.trans h2
  rcases List.append_eq_append_iff.1 h3 with ⟨as, e1, e2⟩ | ⟨as, e1, e2⟩
  · cases as with
    | nil => simp at e1 e2; exact ⟨e1.symm, e2⟩
    | cons a as =>
      simp only [List.cons_append, List.cons.injEq] at e2
      obtain ⟨rfl, e2⟩ := e2
      exact absurd rfl ((hc.good r1 s r2 h2).1 s (by rw [e1]; simp))
  · cases as with
    | nil => simp at e1 e2; exact ⟨e1, e2.symm⟩
    | cons a as =>
      simp only [List.cons_append, List.cons.injEq] at e2
      obtain ⟨rfl, e2⟩ := e2
      exact absurd rfl ((hc.good q1 s q2 h1).1 s (by rw [e1]; simp))
theorem Before.det (hc : Stat P ops seq) {s : Slot} {a b : St} (h1 : Before P ext gl call round ops seq st0 s a) (h2 : Before P ext gl call round ops seq st0 s b) : a = b := by
  obtain ⟨q1, q2, e1, r1⟩ := h1
  obtain ⟨p1, p2, e2, r2⟩ := h2
  obtain ⟨rfl, _⟩ := split_unique hc e1 e2
  exact r1.det r2
theorem Before.exist (hx : Ctx P ext gl call round ops seq st0 st') {s : Slot} (hs : s ∈ seq) : ∃ sq sq1 q1 q2, seq = q1 ++ s :: q2 ∧ Runs P ext gl call round ops.toList q1 st0 sq ∧ stepB P ext gl call round ops.toList s.o sq = some sq1 ∧ Runs P ext gl call round ops.toList q2 sq1 st' := by
  obtain ⟨q1, q2, rfl⟩ := List.append_of_mem hs
  obtain ⟨m, k1, k2⟩ := hx.runs.split
  cases k2 with
  | cons k k2 => exact ⟨m, _, q1, q2, rfl, k1, k, k2⟩
/-- Only one operation lays a temporary. -/
theorem one_writer (hc : Stat P ops seq) {x y : Slot} (hx : x ∈ seq) (hy : y ∈ seq) {t : Nat} (h1 : x.o.dst = some t) (h2 : y.o.dst = some t) : x = y := by
  refine slot_unique hc hx hy ?_
  have := hc.pairs x hx y hy
  unfold pairOk at this
  rw [h1, h2] at this
  simp only at this
  cases hb : Nat.beq x.i y.i with
  | true => exact beq_true hb
  | false =>
    rw [hb, Nat.beq_refl] at this
    cases this
/-- What is done holds what stands before it. -/
def Closed (ops : Array Oper) (D : Nat → Prop) : Prop := ∀ i o, ops[i]? = some o → D i → ∀ e ∈ o.after.toList, Region.binds .any e = true → D e.on
theorem Closed.anc {D : Nat → Prop} (hcl : Closed ops D) : ∀ (i : Nat), D i → ∀ k, (ancM ops.toList i).testBit k = true → D k := by
  intro i
  induction i using Nat.strongRecOn with
  | _ i ih =>
    intro hd k hk
    cases ho : ops[i]? with
    | none =>
      have : ops.toList[i]? = none := by simpa using ho
      obtain ⟨rest, h1, h2, _⟩ := ancs_eq ops.toList []
      simp only [List.nil_append] at h1
      unfold ancM at hk
      rw [h1, List.getElem?_eq_none (by rw [h2]; exact List.getElem?_eq_none_iff.1 this)] at hk
      simp at hk
    | some o =>
      obtain ⟨e, h1, h2, h3⟩ := (ancM_bits (by simpa using ho) k).1 hk
      have hde := hcl i o ho hd e h1 h2
      rcases h3 with h3 | ⟨h3, h4⟩
      · rw [← h3]; exact hde
      · exact ih e.on h3 hde k h4
theorem ready_anc {D : Nat → Prop} (hcl : Closed ops D) {i : Nat} {o : Oper} (ho : ops[i]? = some o) (hr : ∀ e ∈ o.after.toList, Region.binds .any e = true → D e.on) (k : Nat) (hk : (ancM ops.toList i).testBit k = true) : D k := by
  obtain ⟨e, h1, h2, h3⟩ := (ancM_bits (by simpa using ho) k).1 hk
  rcases h3 with h3 | ⟨h3, h4⟩
  · rw [← h3]; exact hr e h1 h2
  · exact hcl.anc e.on (hr e h1 h2) k h4
/-- Temporaries behind what is done. -/
structure Tmps (seq : List Slot) (st0 st' : St) (D : Nat → Prop) (tm : Tr Value) : Prop where
  done : ∀ s ∈ seq, D s.i → ∀ t, s.o.dst = some t → tm.get t = st'.tm.get t
  rest : ∀ t, (∀ s ∈ seq, D s.i → s.o.dst ≠ some t) → tm.get t = st0.tm.get t
/-- What a ready operation sees is what it saw in the fixed run. -/
theorem sees (hx : Ctx P ext gl call round ops seq st0 st') {D : Nat → Prop} {tm : Tr Value} (hcl : Closed ops D) (ht : Tmps seq st0 st' D tm) {s : Slot} {q1 q2 : List Slot} {sq : St} (hsp : seq = q1 ++ s :: q2) (hrun : Runs P ext gl call round ops.toList q1 st0 sq)
    (hnd : ¬ D s.i) (hr : ∀ k, s.anc.testBit k = true → D k) {t : Nat} (hl : t ∈ looksB ops.toList s.o) : sq.tm.get t = tm.get t ∧ (s.cls.isR = true → sq.tm.get t = st'.tm.get t) := by
  have hs : s ∈ seq := by rw [hsp]; simp
  obtain ⟨sq', sq1, p1, p2, e1, r1, k, r2⟩ := Before.exist hx hs
  obtain ⟨rfl, rfl⟩ := split_unique hx.stat hsp e1
  obtain rfl := hrun.det r1
  by_cases hw : ∃ x ∈ seq, x.o.dst = some t
  · obtain ⟨x, hxm, hxd⟩ := hw
    have hp := hx.stat.pairs x hxm s hs
    unfold pairOk at hp
    rw [hxd] at hp
    simp only at hp
    cases hb : Nat.beq x.i s.i with
    | true =>
      have hbb := hb
      have := slot_unique hx.stat hxm hs (beq_true hb)
      subst this
      have h1 : sq.tm.get t = st0.tm.get t := hrun.keep t (fun y hy hyd => by
        have hym : y ∈ seq := by rw [hsp]; simp [hy]
        have := one_writer hx.stat hym hxm hyd hxd
        subst this
        exact (hx.stat.good q1 y q2 hsp).1 y (by simpa using hy) rfl)
      refine ⟨?_, fun h => by
        rw [hb] at hp
        have hlc : (looksB ops.toList x.o).contains t = true := by simpa using hl
        rw [h, hlc] at hp
        cases hp⟩
      rw [h1]
      exact (ht.rest t (fun y hy hd hyd => by
        have := one_writer hx.stat hy hxm hyd hxd
        subst this
        exact hnd hd)).symm
    | false =>
      rw [hb] at hp
      simp only [cond] at hp
      have hlc : (looksB ops.toList s.o).contains t = true := by simpa using hl
      have hp2 : cond (Nat.blt x.i s.i) (s.anc.testBit x.i) (x.anc.testBit s.i && !s.cls.isR) = true := by
        revert hp
        cases hd : s.o.dst with
        | none => simp only [hlc]; exact id
        | some d' =>
          simp only
          cases hq : Nat.beq t d' with
          | true => intro hp; cases hp
          | false => simp only [hlc]; exact id
      cases hlt : Nat.blt x.i s.i with
      | true =>
        rw [hlt] at hp2
        simp only [cond] at hp2
        obtain ⟨x', hx'm, hx'i⟩ := (hx.stat.good q1 s q2 hsp).2.1 _ hp2
        simp only [List.nil_append] at hx'm
        have : x' = x := slot_unique hx.stat (by rw [hsp]; simp [hx'm]) hxm hx'i
        subst this
        obtain ⟨a1, a2, rfl⟩ := List.append_of_mem hx'm
        have h1 : st'.tm.get t = sq.tm.get t := (Runs.cons k r2).keep t (fun y hy hyd => by
          have hym : y ∈ seq := by rw [hsp]; simp at hy ⊢; rcases hy with rfl | hy <;> simp [*]
          have := one_writer hx.stat hym hxm hyd hxd
          subst this
          have hg := hx.stat.good (a1 ++ y :: a2) s q2 hsp
          rcases List.mem_cons.1 hy with rfl | hy
          · exact hg.1 y (by simp) rfl
          · obtain ⟨c1, c2, rfl⟩ := List.append_of_mem hy
            exact (hx.stat.good ((a1 ++ y :: a2) ++ s :: c1) y c2 (by rw [hsp]; simp)).1 y (by simp) rfl)
        have h2 := ht.done x' hxm (hr _ hp2) t hxd
        exact ⟨by rw [h2, h1], fun _ => h1.symm⟩
      | false =>
        rw [hlt] at hp2
        simp only [cond, Bool.and_eq_true, Bool.not_eq_true'] at hp2
        have hxa : (ancM ops.toList x.i).testBit s.i = true := by rw [← (hx.stat.mem x hxm).2.1]; exact hp2.1
        have h1 : sq.tm.get t = st0.tm.get t := hrun.keep t (fun y hy hyd => by
          have hym : y ∈ seq := by rw [hsp]; simp [hy]
          have := one_writer hx.stat hym hxm hyd hxd
          subst this
          obtain ⟨a1, a2, rfl⟩ := List.append_of_mem hy
          obtain ⟨z, hz, hzi⟩ := (hx.stat.good a1 y (a2 ++ s :: q2) (by rw [hsp]; simp)).2.1 _ hp2.1
          exact (hx.stat.good (a1 ++ y :: a2) s q2 hsp).1 z (by simp at hz ⊢; simp [hz]) hzi)
        refine ⟨?_, fun h => by rw [h] at hp2; cases hp2.2⟩
        rw [h1]
        exact (ht.rest t (fun y hy hd hyd => by
          have := one_writer hx.stat hy hxm hyd hxd
          subst this
          exact hnd (hcl.anc _ hd _ hxa))).symm
  · have hno : ∀ y ∈ seq, y.o.dst ≠ some t := fun y hy hyd => hw ⟨y, hy, hyd⟩
    have h1 : sq.tm.get t = st0.tm.get t := hrun.keep t (fun y hy => hno y (by rw [hsp]; simp [hy]))
    have h2 : st'.tm.get t = st0.tm.get t := hx.runs.keep t hno
    exact ⟨by rw [h1]; exact (ht.rest t (fun y hy _ => hno y hy)).symm, fun _ => by rw [h1, h2]⟩
theorem opnd_sees {tm tm2 : Tr Value} {o : Oper} (h : ∀ t ∈ looksB ops.toList o, tm.get t = tm2.get t) : ∀ x ∈ o.op.operands, opnd gl tm x = opnd gl tm2 x :=
  fun x hx => opnd_congr (fun t ht => h t (by simp only [looksB, List.mem_append, List.mem_flatMap]; exact .inl ⟨x, by simpa using hx, ht⟩))
theorem goes_sees {tm tm2 : Tr Value} {o : Oper} (h : ∀ t ∈ looksB ops.toList o, tm.get t = tm2.get t) : goesB ops.toList tm o = goesB ops.toList tm2 o := by
  unfold goesB
  cases hg : o.guard with
  | none => rfl
  | some q =>
    obtain ⟨j, want⟩ := q
    simp only
    cases h1 : ops.toList[j]? with
    | none => rfl
    | some g =>
      simp only
      cases h2 : g.dst with
      | none => rfl
      | some d =>
        simp only
        rw [h d (by simp [looksB, hg, h1, h2])]
end
end Go.Proofs.YtcmildkkigccaaaGreatDoor.Run

/-
  Regions of open order: the induction.
-/
namespace Go.Proofs.YtcmildkkigccaaaGreatDoor.Run
open Go
set_option linter.unusedVariables false
set_option linter.unusedSimpArgs false
theorem firstE : ∀ (l : List Slot), ∃ mid rest, l = mid ++ rest ∧ (∀ s ∈ mid, s.cls.isE = false) ∧ (rest = [] ∨ ∃ e r, rest = e :: r ∧ e.cls.isE = true)
  | [] => ⟨[], [], rfl, by simp, .inl rfl⟩
  | s :: l => by
    cases hE : s.cls.isE with
    | true => exact ⟨[], s :: l, rfl, by simp, .inr ⟨s, l, rfl, hE⟩⟩
    | false =>
      obtain ⟨mid, rest, h1, h2, h3⟩ := firstE l
      refine ⟨s :: mid, rest, by rw [h1]; rfl, fun x hx => ?_, h3⟩
      rcases List.mem_cons.1 hx with rfl | hx
      · exact hE
      · exact h2 x hx
section
variable {P : Program} {gl : Gl} {ext : Ext} {call : CallR} {round : RoundR} {ops : Array Oper} {seq : List Slot} {st0 st' : St}
/-- New blocks that are not laid yet. -/
def HA (P : Program) (ext : Ext) (gl : Gl) (call : CallR) (round : RoundR) (ops : Array Oper) (seq : List Slot) (st0 : St) (pre : List Slot) (D : Nat → Prop) (ρ : Rn) (h : AH) : Prop :=
  ∀ s ∈ pre, s.cls.isA = true → ¬ D s.i → ∀ sq, Before P ext gl call round ops seq st0 s sq → goesB ops.toList sq.tm s.o = true → ∀ v obj, opB P ext gl sq.tm sq.h s.o = some (.val v (sq.h.new obj)) →
    ρ sq.h.next = none ∧ h.get sq.h.next = some obj ∧ sq.h.next < h.next ∧ st0.h.next ≤ sq.h.next
/-- Their numbers are not one. -/
def HD (P : Program) (ext : Ext) (gl : Gl) (call : CallR) (round : RoundR) (ops : Array Oper) (seq : List Slot) (st0 : St) (pre : List Slot) (D : Nat → Prop) : Prop :=
  ∀ s ∈ pre, ∀ y ∈ pre, s ≠ y → s.cls.isA = true → y.cls.isA = true → ¬ D s.i → ¬ D y.i → ∀ sq z, Before P ext gl call round ops seq st0 s sq → Before P ext gl call round ops seq st0 y z → goesB ops.toList sq.tm s.o = true → goesB ops.toList z.tm y.o = true →
    sq.h.next ≠ z.h.next
def Inv (P : Program) (ext : Ext) (gl : Gl) (call : CallR) (round : RoundR) (ops : Array Oper) (seq : List Slot) (st0 st' : St) (ρ0 : Rn) (w0 : World) (D : Nat → Prop) (a : Act) (w : World) : Prop :=
  Closed ops D ∧ ∃ (pre rest : List Slot) (sp : St) (ρ : Rn) (tm : Tr Value), seq = pre ++ rest ∧ Runs P ext gl call round ops.toList pre st0 sp ∧ (rest = [] ∨ ∃ e r, rest = e :: r ∧ e.cls.isE = true) ∧ (∀ s ∈ pre, s.cls.isE = true → D s.i) ∧ (∀ s ∈ rest, s.cls.isE = true → ¬ D s.i) ∧
    Rel P ρ sp.h w ∧ Fw ρ0 st0.h w0 ρ sp.h w ∧ TR ρ st0.sz tm a.tmps ∧ Tmps seq st0 st' D tm ∧ DL ρ sp.ds a.defers ∧ HA P ext gl call round ops seq st0 pre D ρ sp.h ∧ HD P ext gl call round ops seq st0 pre D
/-- From behind an effect on to the next one. -/
theorem advance (hx : Ctx P ext gl call round ops seq st0 st') {ρ0 : Rn} {w0 : World} {D : Nat → Prop} {a : Act} {w : World} {p0 r0 : List Slot} {x : St} {ρ : Rn} {tm : Tr Value} (hcl : Closed ops D) (hs : seq = p0 ++ r0) (hrun : Runs P ext gl call round ops.toList p0 st0 x)
    (hE1 : ∀ s ∈ p0, s.cls.isE = true → D s.i) (hE2 : ∀ s ∈ r0, s.cls.isE = true → ¬ D s.i) (hrel : Rel P ρ x.h w) (hfw : Fw ρ0 st0.h w0 ρ x.h w) (htr : TR ρ st0.sz tm a.tmps) (ht : Tmps seq st0 st' D tm) (hds : DL ρ x.ds a.defers)
    (hA : HA P ext gl call round ops seq st0 p0 D ρ x.h) (hD : HD P ext gl call round ops seq st0 p0 D) : Inv P ext gl call round ops seq st0 st' ρ0 w0 D a w := by
  obtain ⟨mid, rest, h1, h2, h3⟩ := firstE r0
  subst h1
  have hruns := hx.runs
  rw [hs] at hruns
  obtain ⟨m, k1, k2⟩ := hruns.split
  obtain rfl := hrun.det k1
  obtain ⟨sp, k3, k4⟩ := k2.split
  have hcm : ∀ s ∈ mid, (clsB P s.o).isE = false := fun s hm => by rw [← (hx.stat.mem s (by rw [hs]; simp [hm])).2.2]; exact h2 s hm
  obtain ⟨c1, c2, c3⟩ := k3.calm hcm
  refine ⟨hcl, p0 ++ mid, rest, sp, ρ, tm, by rw [hs]; simp, hrun.append k3, h3, fun s hm hE => ?_, fun s hm => hE2 s (by simp [hm]), hrel.grow c3 c2, hfw.grow hrel c3 c2, htr, ht, by rw [c1]; exact hds, ?_, ?_⟩
  · rcases List.mem_append.1 hm with hm | hm
    · exact hE1 s hm hE
    · rw [h2 s hm] at hE; cases hE
  · intro s hm hsA hnd sq hb hg v obj hop
    rcases List.mem_append.1 hm with hm | hm
    · obtain ⟨z1, z2, z3, z4⟩ := hA s hm hsA hnd sq hb hg v obj hop
      exact ⟨z1, by rw [c3 _ z3]; exact z2, Nat.lt_of_lt_of_le z3 c2, z4⟩
    · obtain ⟨m1, m2, rfl⟩ := List.append_of_mem hm
      obtain ⟨q1, q2, e1, r1⟩ := hb
      obtain ⟨rfl, rfl⟩ := split_unique hx.stat (q1 := p0 ++ m1) (q2 := m2 ++ rest) (by rw [hs]; simp) e1
      obtain ⟨m, r2, r3⟩ := r1.split
      obtain rfl := hrun.det r2
      have hc1 := r3.calm (fun s hm => hcm s (by simp [hm]))
      obtain ⟨u, r4, r5⟩ := Runs.split (l1 := m1) (l2 := s :: m2) (by simpa using k3)
      obtain rfl := r3.det r4
      cases r5 with
      | cons r5 r6 =>
        rename_i sq1
        have hsc := stepB_calm (hcm s (by simp)) r5
        have hc2 := r6.calm (fun s hm => hcm s (by simp [hm]))
        have hh : sq1.h = sq.h.new obj := by
          rcases hsc.2.2.2 with ⟨k, _⟩ | ⟨_, v', h', k, k', _⟩
          · rw [hg] at k; cases k
          · rw [hop] at k; cases k; exact k'
        have hlt : sq.h.next < sq1.h.next := by rw [hh]; exact Nat.lt_succ_self _
        refine ⟨hrel.none hc1.2.1, ?_, Nat.lt_of_lt_of_le hlt hc2.2.1, Nat.le_trans hfw.next hc1.2.1⟩
        rw [hc2.2.2 _ hlt, hh, AH.get_new, if_pos rfl]
  · have inMid : ∀ (s : Slot) (m1 m2 : List Slot) (sq : St), mid = m1 ++ s :: m2 → Before P ext gl call round ops seq st0 s sq → Runs P ext gl call round ops.toList m1 x sq := by
      intro s m1 m2 sq hm hb
      obtain ⟨q1, q2, e1, r1⟩ := hb
      obtain ⟨rfl, rfl⟩ := split_unique hx.stat (q1 := p0 ++ m1) (q2 := m2 ++ rest) (by rw [hs, hm]; simp) e1
      obtain ⟨m, r2, r3⟩ := r1.split
      obtain rfl := hrun.det r2
      exact r3
    have later : ∀ (s y : Slot) (m1 m2 m3 : List Slot) (sq z : St), mid = m1 ++ s :: (m2 ++ y :: m3) → s.cls.isA = true → Before P ext gl call round ops seq st0 s sq → Before P ext gl call round ops seq st0 y z → goesB ops.toList sq.tm s.o = true → sq.h.next < z.h.next := by
      intro s y m1 m2 m3 sq z hm hsA hb hb2 hg
      have r1 := inMid s m1 _ sq hm hb
      have r2 := inMid y (m1 ++ s :: m2) m3 z (by rw [hm]; simp) hb2
      obtain ⟨u, r3, r4⟩ := r2.split
      obtain rfl := r1.det r3
      cases r4 with
      | cons r4 r5 =>
        rename_i sq1
        have hcl2 : clsB P s.o = .a := by
          rw [← (hx.stat.mem s (by rw [hs, hm]; simp)).2.2]
          cases hq : s.cls <;> rw [hq] at hsA <;> first | rfl | cases hsA
        have hsc := stepB_calm (by rw [hcl2]; rfl) r4
        have hc2 := r5.calm (fun y hy => hcm y (by rw [hm]; simp [hy]))
        rcases hsc.2.2.2 with ⟨k, _⟩ | ⟨_, v', h', k, k', _⟩
        · rw [hg] at k; cases k
        · obtain ⟨obj, mk, _, ha, _⟩ := opB_a hcl2 k
          have hk := ha sq.h
          rw [k] at hk
          cases hk
          have : sq.h.next < sq1.h.next := by rw [k']; exact Nat.lt_succ_self _
          exact Nat.lt_of_lt_of_le this hc2.2.1
    intro s hm y hym hsy hsA hyA hnd hndy sq z hb hb2 hg hg2
    have opNew : ∀ (s : Slot), s ∈ seq → s.cls.isA = true → ∀ sq, Before P ext gl call round ops seq st0 s sq → goesB ops.toList sq.tm s.o = true → ∃ v obj, opB P ext gl sq.tm sq.h s.o = some (.val v (sq.h.new obj)) := by
      intro s hss hsA sq hb hg
      obtain ⟨sq', sq1, a1, a2, g1, g2, g3, g4⟩ := Before.exist hx hss
      obtain rfl := Before.det hx.stat hb ⟨a1, a2, g1, g2⟩
      have hcl2 : clsB P s.o = .a := by
        rw [← (hx.stat.mem s hss).2.2]
        cases hq : s.cls <;> rw [hq] at hsA <;> first | rfl | cases hsA
      have hsc := stepB_calm (by rw [hcl2]; rfl) g3
      rcases hsc.2.2.2 with ⟨k, _⟩ | ⟨_, v', h', k, k', _⟩
      · rw [hg] at k; cases k
      · obtain ⟨obj, mk, _, ha, _⟩ := opB_a hcl2 k
        exact ⟨_, obj, ha sq.h⟩
    have inSeq : ∀ y, y ∈ p0 ++ mid → y ∈ seq := fun y hy => by rw [hs]; simp at hy ⊢; rcases hy with h | h <;> simp [h]
    rcases List.mem_append.1 hm with hm | hm
    · rcases List.mem_append.1 hym with hym | hym
      · exact hD s hm y hym hsy hsA hyA hnd hndy sq z hb hb2 hg hg2
      · obtain ⟨v, obj, hop⟩ := opNew s (inSeq s (by simp [hm])) hsA sq hb hg
        have h1 := (hA s hm hsA hnd sq hb hg v obj hop).2.2.1
        obtain ⟨m1, m2, hm2⟩ := List.append_of_mem hym
        have h2 := (inMid y m1 m2 z hm2 hb2).calm (fun s hm => hcm s (by rw [hm2]; simp [hm]))
        have := h2.2.1
        omega
    · rcases List.mem_append.1 hym with hym | hym
      · obtain ⟨v, obj, hop⟩ := opNew y (inSeq y (by simp [hym])) hyA z hb2 hg2
        have h1 := (hA y hym hyA hndy z hb2 hg2 v obj hop).2.2.1
        obtain ⟨m1, m2, hm2⟩ := List.append_of_mem hm
        have h2 := (inMid s m1 m2 sq hm2 hb).calm (fun s hm => hcm s (by rw [hm2]; simp [hm]))
        have := h2.2.1
        omega
      · obtain ⟨m1, m2, hm2⟩ := List.append_of_mem hm
        rw [hm2] at hym
        rcases List.mem_append.1 hym with hy | hy
        · obtain ⟨c1, c2, rfl⟩ := List.append_of_mem hy
          have := later y s c1 c2 m2 z sq (by rw [hm2]; simp) hyA hb2 hb hg2
          omega
        · rcases List.mem_cons.1 hy with hy | hy
          · exact absurd hy.symm hsy
          · obtain ⟨c1, c2, rfl⟩ := List.append_of_mem hy
            have := later s y m1 c1 c2 sq z hm2 hsA hb hb2 hg
            omega
theorem nxB_tm {dst : Option Tmp} {st st1 : St} {nx : Nx} (e : nxB call round dst st nx = some st1) : ∃ u, putB st.sz st.tm dst u = some st1.tm ∧ ∀ tm2 tm2', putB st.sz tm2 dst u = some tm2' → nxB call round dst ⟨tm2, st.h, st.ds, st.sz, st.rd⟩ nx = some ⟨tm2', st1.h, st1.ds, st.sz, st.rd⟩ := by
  cases nx with
  | val v h => simp only [nxB, Option.map_eq_some_iff] at e; obtain ⟨_, h1, rfl⟩ := e; exact ⟨v, h1, fun tm2 tm2' h2 => by simp only [nxB]; rw [h2]; rfl⟩
  | call f l => simp only [nxB, Option.bind_eq_some_iff, Option.map_eq_some_iff] at e; obtain ⟨⟨v, h⟩, h0, _, h1, rfl⟩ := e; exact ⟨v, h1, fun tm2 tm2' h2 => by simp only [nxB]; rw [h0]; simp only [Option.bind_some]; rw [h2]; rfl⟩
  | round f l => simp only [nxB, Option.bind_eq_some_iff, Option.map_eq_some_iff] at e; obtain ⟨⟨v, h⟩, h0, _, h1, rfl⟩ := e; exact ⟨v, h1, fun tm2 tm2' h2 => by simp only [nxB]; rw [h0]; simp only [Option.bind_some]; rw [h2]; rfl⟩
  | defer f l =>
    cases hr : st.rd with
    | true => simp [nxB, hr] at e
    | false => simp only [nxB, hr, cond, Option.map_eq_some_iff] at e; obtain ⟨_, h1, rfl⟩ := e; exact ⟨undef, h1, fun tm2 tm2' h2 => by simp only [nxB, cond]; rw [h2]; rfl⟩
theorem putB_other {sz : Nat} {tm tm' tm2 : Tr Value} {dst : Option Tmp} {u : Value} (h : putB sz tm dst u = some tm') : ∃ tm2', putB sz tm2 dst u = some tm2' ∧ (∀ t, dst = some t → tm2'.get t = some u ∧ tm'.get t = some u) ∧ ∀ t, dst ≠ some t → tm2'.get t = tm2.get t := by
  cases dst with
  | none => exact ⟨tm2, rfl, fun t e => (by cases e), fun _ _ => rfl⟩
  | some d =>
    simp only [putB] at h
    cases hb : Nat.blt d sz with
    | false => rw [hb] at h; cases h
    | true =>
      rw [hb] at h; cases h
      refine ⟨tm2.put d u, by simp only [putB]; rw [hb]; rfl, fun t e => ?_, fun t e => ?_⟩
      · cases e; exact ⟨by rw [Tr.get_put, if_pos rfl], by rw [Tr.get_put, if_pos rfl]⟩
      · rw [Tr.get_put, if_neg (fun k => e (by rw [k]))]
/-- Temporaries, one operation on. -/
theorem Tmps.next (hx : Ctx P ext gl call round ops seq st0 st') {D : Nat → Prop} {tm : Tr Value} (ht : Tmps seq st0 st' D tm) {s : Slot} {q1 q2 : List Slot} {sq1 : St} (hsp : seq = q1 ++ s :: q2) (hrun2 : Runs P ext gl call round ops.toList q2 sq1 st') {tm0 : Tr Value} {u : Value} (hput : putB st0.sz tm0 s.o.dst u = some sq1.tm) :
    ∃ tm', putB st0.sz tm s.o.dst u = some tm' ∧ Tmps seq st0 st' (fun k => k = s.i ∨ D k) tm' := by
  obtain ⟨tm', h1, h2, h3⟩ := putB_other (tm2 := tm) hput
  have hs : s ∈ seq := by rw [hsp]; simp
  refine ⟨tm', h1, fun y hy hd t hyt => ?_, fun t hno => ?_⟩
  · rcases hd with hd | hd
    · have := slot_unique hx.stat hy hs hd
      subst this
      obtain ⟨z1, z2⟩ := h2 t hyt
      have : st'.tm.get t = sq1.tm.get t := hrun2.keep t (fun x hxm hxt => by
        have hxs : x ∈ seq := by rw [hsp]; simp [hxm]
        have := one_writer hx.stat hxs hy hxt hyt
        subst this
        obtain ⟨c1, c2, rfl⟩ := List.append_of_mem hxm
        exact (hx.stat.good (q1 ++ x :: c1) x c2 (by rw [hsp]; simp)).1 x (by simp) rfl)
      rw [this, z1, z2]
    · by_cases hq : s.o.dst = some t
      · have := one_writer hx.stat hy hs hyt hq
        subst this
        obtain ⟨z1, z2⟩ := h2 t hyt
        have : st'.tm.get t = sq1.tm.get t := hrun2.keep t (fun x hxm hxt => by
          have hxs : x ∈ seq := by rw [hsp]; simp [hxm]
          have := one_writer hx.stat hxs hy hxt hyt
          subst this
          obtain ⟨c1, c2, rfl⟩ := List.append_of_mem hxm
          exact (hx.stat.good (q1 ++ x :: c1) x c2 (by rw [hsp]; simp)).1 x (by simp) rfl)
        rw [this, z1, z2]
      · rw [h3 t hq]; exact ht.done y hy hd t hyt
  · rw [h3 t (hno s hs (.inl rfl))]
    exact ht.rest t (fun y hy hd => hno y hy (.inr hd))
end
end Go.Proofs.YtcmildkkigccaaaGreatDoor.Run

/-
  Regions of open order: each order that may be drawn.
-/
namespace Go.Proofs.YtcmildkkigccaaaGreatDoor.Run
open Go
set_option linter.unusedVariables false
set_option linter.unusedSimpArgs false
section
variable {P : Program} {gl : Gl} {ext : Ext} {call : CallR} {round : RoundR} {ops : Array Oper} {seq : List Slot} {st0 st' : St} {ro : Option Nat} {n : Nat} {Q : Exit → Act → World → Prop}
theorem mem_rest (hs : Stat P ops seq) {pre rest : List Slot} (hsp : seq = pre ++ rest) {s : Slot} (hm : s ∈ seq) (hn : s ∉ pre) : s ∈ rest := by
  rw [hsp] at hm
  rcases List.mem_append.1 hm with h | h
  · exact absurd h hn
  · exact h
/-- An effect, and a new block, that is ready stands at the front. -/
theorem front (hs : Stat P ops seq) {D : Nat → Prop} {pre rest : List Slot} (hsp : seq = pre ++ rest) (hrest : rest = [] ∨ ∃ e r, rest = e :: r ∧ e.cls.isE = true) (hE2 : ∀ s ∈ rest, s.cls.isE = true → ¬ D s.i) {s : Slot} (hm : s ∈ rest)
    (hc : (s.cls.isA || s.cls.isE) = true) (hr : ∀ k, s.anc.testBit k = true → D k) : ∃ r, rest = s :: r := by
  rcases hrest with rfl | ⟨e, r, rfl, hE⟩
  · cases hm
  · rcases List.mem_cons.1 hm with rfl | hm
    · exact ⟨r, rfl⟩
    · obtain ⟨r1, r2, rfl⟩ := List.append_of_mem hm
      have := (hs.good (pre ++ e :: r1) s r2 (by rw [hsp]; simp)).2.2 hc e (by simp) hE
      exact absurd (hr _ this) (hE2 e (by simp) hE)
theorem inv_step (he : ExtOk P ext) (hc : CallOk P gl call) (hrd : RoundOk P gl round) (hn : NG P) (hx : Ctx P ext gl call round ops seq st0 st') {ρ0 : Rn} {w0 : World} (hg : GlOk ρ0 gl) (hro : ro.isSome = true → st0.rd = true) {D : Nat → Prop} {a : Act} {w : World}
    (hi : Inv P ext gl call round ops seq st0 st' ρ0 w0 D a w) {i : Nat} {o : Oper} (ho : ops[i]? = some o) (hnd : ¬ D i) (hr : ∀ e ∈ o.after.toList, Region.binds .any e = true → D e.on) {K : Act → World → Prop}
    (hk : ∀ a' w', Inv P ext gl call round ops seq st0 st' ρ0 w0 (fun k => k = i ∨ D k) a' w' → K a' w') : wpOpIn (F0 ro) n P ops Q i K a w := by
  obtain ⟨hcl, pre, rest, sp, ρ, tm, hsp, hrun, hrest, hE1, hE2, hrel, hfw, htr, htm, hds, hA, hD⟩ := hi
  have hilt : i < ops.size := (Array.getElem?_eq_some_iff.1 ho).1
  obtain ⟨s, hs, rfl⟩ := hx.stat.all i hilt
  obtain ⟨m1, m2, m3⟩ := hx.stat.mem s hs
  rw [ho] at m1
  obtain rfl : s.o = o := (Option.some.inj m1).symm
  obtain ⟨sq, sq1, q1, q2, e1, r1, k1, r2⟩ := Before.exist hx hs
  have hready : ∀ k, s.anc.testBit k = true → D k := fun k hk => ready_anc hcl ho hr k (by rw [← m2]; exact hk)
  have hcl' : Closed ops (fun k => k = s.i ∨ D k) := by
    intro j o' ho' hd e he hb
    rcases hd with rfl | hd
    · rw [ho] at ho'; cases ho'; exact .inr (hr e he hb)
    · exact .inr (hcl j o' ho' hd e he hb)
  have hsee : ∀ t ∈ looksB ops.toList s.o, sq.tm.get t = tm.get t := fun t ht => (sees hx hcl htm e1 r1 hnd hready ht).1
  have hseeR : s.cls.isR = true → ∀ t ∈ looksB ops.toList s.o, st'.tm.get t = tm.get t := fun hR t ht => by rw [← hsee t ht]; exact ((sees hx hcl htm e1 r1 hnd hready ht).2 hR).symm
  have hgoes : goesB ops.toList tm s.o = goesB ops.toList sq.tm s.o := goes_sees (fun t ht => (hsee t ht).symm)
  have hopc : ∀ h, opB P ext gl tm h s.o = opB P ext gl sq.tm h s.o := fun h => opB_congr (opnd_sees (fun t ht => (hsee t ht).symm))
  have hsz := r1.szrd
  have hne : ∀ y ∈ seq, y ≠ s → y.i ≠ s.i := fun y hy h1 h2 => h1 (slot_unique hx.stat hy hs h2)
  have hg' : GlOk ρ gl := hg.mono hfw.sub
  have hrdS := hrun.szrd
  -- the front, where it does not move
  have stay : ∀ {ρ' : Rn} {a' : Act} {w' : World} {tm' : Tr Value}, s.cls.isE = false → Rel P ρ' sp.h w' → Fw ρ0 st0.h w0 ρ' sp.h w' → TR ρ' st0.sz tm' a'.tmps → Tmps seq st0 st' (fun k => k = s.i ∨ D k) tm' → DL ρ' sp.ds a'.defers →
      HA P ext gl call round ops seq st0 pre (fun k => k = s.i ∨ D k) ρ' sp.h → K a' w' := by
    intro ρ' a' w' tm' hE h1 h2 h3 h4 h5 h6
    exact hk a' w' ⟨hcl', pre, rest, sp, ρ', tm', hsp, hrun, hrest, fun y hy hyE => .inr (hE1 y hy hyE), fun y hy hyE => by
      rintro (h | h)
      · have := slot_unique hx.stat (by rw [hsp]; simp [hy]) hs h
        subst this
        rw [hE] at hyE; cases hyE
      · exact hE2 y hy hyE h, h1, h2, h3, h4, h5, h6, fun x hx y hy g1 g2 g3 g4 g5 => hD x hx y hy g1 g2 g3 (fun h => g4 (.inr h)) (fun h => g5 (.inr h))⟩
  have hA' : HA P ext gl call round ops seq st0 pre (fun k => k = s.i ∨ D k) ρ sp.h := fun y hy hyA hyd => hA y hy hyA (fun h => hyd (.inr h))
  -- the front, where it moves
  have move : ∀ {ρ' : Rn} {a' : Act} {w' : World} {tm' : Tr Value} {r : List Slot}, rest = s :: r → s.cls.isE = true → Rel P ρ' sq1.h w' → Fw ρ sp.h w ρ' sq1.h w' → TR ρ' st0.sz tm' a'.tmps → Tmps seq st0 st' (fun k => k = s.i ∨ D k) tm' → DL ρ' sq1.ds a'.defers → K a' w' := by
    intro ρ' a' w' tm' r hrs hE h1 h2 h3 h4 h5
    subst hrs
    obtain ⟨rfl, rfl⟩ := split_unique hx.stat hsp e1
    obtain rfl := hrun.det r1
    refine hk a' w' (advance hx (p0 := pre ++ [s]) (r0 := r) (x := sq1) hcl' (by rw [hsp]; simp) (hrun.append (.cons k1 .nil)) (fun y hy hyE => ?_) (fun y hy hyE => ?_) h1 (hfw.trans h2) h3 h4 h5 ?_ ?_)
    · rcases List.mem_append.1 hy with hy | hy
      · exact .inr (hE1 y hy hyE)
      · simp at hy; subst hy; exact .inl rfl
    · rintro (h | h)
      · have := slot_unique hx.stat (by rw [hsp]; simp [hy]) hs h
        subst this
        obtain ⟨c1, c2, rfl⟩ := List.append_of_mem hy
        exact (hx.stat.good (pre ++ y :: c1) y c2 (by rw [hsp]; simp)).1 y (by simp) rfl
      · exact hE2 y (by simp [hy]) hyE h
    · intro y hy hyA hyd z hz hzg v obj hop
      rcases List.mem_append.1 hy with hy | hy
      · obtain ⟨z1, z2, z3, z4⟩ := hA y hy hyA (fun h => hyd (.inr h)) z hz hzg v obj hop
        have := h2.old _ z3 z1
        exact ⟨this.1, by rw [this.2]; exact z2, Nat.lt_of_lt_of_le z3 h2.next, z4⟩
      · simp at hy; subst hy; exact absurd (.inl rfl) hyd
    · intro x hx y hy g1 g2 g3 g4 g5
      rcases List.mem_append.1 hx with hx | hx
      · rcases List.mem_append.1 hy with hy | hy
        · exact hD x hx y hy g1 g2 g3 (fun h => g4 (.inr h)) (fun h => g5 (.inr h))
        · simp at hy; subst hy; exact absurd (.inl rfl) g5
      · simp at hx; subst hx; exact absurd (.inl rfl) g4
  unfold wpOpIn
  rw [ho]
  simp only
  rw [← goes_ok htr, hgoes]
  cases hgo : goesB ops.toList sq.tm s.o with
  | false =>
    rw [if_neg (by simp)]
    refine ⟨fun f _ => F0_fn ro f, ?_⟩
    have hk1 := k1
    unfold stepB at hk1
    rw [hgo] at hk1
    simp only [cond, Option.map_eq_some_iff] at hk1
    obtain ⟨tm1, h1, h2⟩ := hk1
    have hput : putB st0.sz sq.tm s.o.dst undef = some sq1.tm := by rw [← hsz.2, h1, ← h2]
    obtain ⟨tm', h3, h4⟩ := htm.next hx e1 r2 hput
    have htr' : TR ρ st0.sz tm' (a.put s.o.dst undef).tmps := putB_ok htr (.fl rfl) h3
    cases hE : s.cls.isE with
    | false => exact stay hE hrel hfw htr' h4 (by rw [put_defers]; exact hds) hA'
    | true =>
      have hmr : s ∈ rest := mem_rest hx.stat hsp hs (fun h => hnd (hE1 s h hE))
      obtain ⟨r, hrs⟩ := front hx.stat hsp hrest hE2 hmr (by rw [hE]; simp) hready
      have hsq : sq = sp := by
        subst hrs
        obtain ⟨rfl, rfl⟩ := split_unique hx.stat hsp e1
        exact (hrun.det r1).symm
      subst hsq
      have hh : sq1.h = sq.h ∧ sq1.ds = sq.ds := by rw [← h2]; exact ⟨rfl, rfl⟩
      refine move hrs hE (by rw [hh.1]; exact hrel) (by rw [hh.1]; exact Fw.refl _ _ _) htr' h4 (by rw [put_defers, hh.2]; exact hds)
  | true =>
    rw [if_pos rfl]
    have hk1 := k1
    unfold stepB at hk1
    rw [hgo] at hk1
    simp only [cond, Option.bind_eq_some_iff] at hk1
    obtain ⟨nx, hop, hnx⟩ := hk1
    cases hcls : s.cls with
    | e =>
      obtain ⟨u, hu1, hu2⟩ := nxB_tm hnx
      have hput : putB st0.sz sq.tm s.o.dst u = some sq1.tm := by rw [← hsz.2]; exact hu1
      obtain ⟨tm', h3, h4⟩ := htm.next hx e1 r2 hput
      have hE : s.cls.isE = true := by rw [hcls]; rfl
      have hmr : s ∈ rest := mem_rest hx.stat hsp hs (fun h => hnd (hE1 s h hE))
      obtain ⟨r, hrs⟩ := front hx.stat hsp hrest hE2 hmr (by rw [hE]; simp) hready
      have hsq : sq = sp := by
        subst hrs
        obtain ⟨rfl, rfl⟩ := split_unique hx.stat hsp e1
        exact (hrun.det r1).symm
      subst hsq
      have hS : SR P ρ ⟨tm, sq.h, sq.ds, sq.sz, sq.rd⟩ a w := ⟨by rw [hsz.2]; exact htr, hrel, hds⟩
      have hnx' := hu2 tm tm' (by rw [hsz.2]; exact h3)
      refine opStep_ok (st := ⟨tm, sq.h, sq.ds, sq.sz, sq.rd⟩) he hc hrd hn hg' hS (fun h => by show sq.rd = true; rw [hsz.1]; exact hro h) (by show opB P ext gl tm sq.h s.o = some nx; rw [hopc]; exact hop) hnx' ?_
      intro ρ' a' w' hS' hF
      have := hS'.tm
      simp only [hsz.2] at this
      exact move hrs hE hS'.rel hF this h4 hS'.ds
    | a =>
      have hclsB : clsB P s.o = .a := by rw [← m3]; exact hcls
      have hmp : s ∈ pre := by
        rcases List.mem_append.1 (by rw [← hsp]; exact hs) with h | h
        · exact h
        · obtain ⟨r, hrs⟩ := front hx.stat hsp hrest hE2 h (by rw [hcls]; rfl) hready
          rcases hrest with h0 | ⟨e, r', h0, hE⟩
          · rw [h0] at hrs; cases hrs
          · rw [h0] at hrs; cases hrs; rw [hcls] at hE; cases hE
      obtain ⟨obj, mk, hlive, ha1, ha2⟩ := opB_a hclsB ((hopc sq.h).trans hop)
      have hopq : opB P ext gl sq.tm sq.h s.o = some (.val (mk sq.h.next) (sq.h.new obj)) := by rw [← hopc]; exact ha1 sq.h
      rw [hop] at hopq
      cases hopq
      simp only [nxB, Option.map_eq_some_iff] at hnx
      obtain ⟨tmq, h5, h6⟩ := hnx
      have hput : putB st0.sz sq.tm s.o.dst (mk sq.h.next) = some sq1.tm := by rw [← hsz.2, h5, ← h6]
      obtain ⟨tm', h3, h4⟩ := htm.next hx e1 r2 hput
      have hsA : s.cls.isA = true := by rw [hcls]; rfl
      have hbef : Before P ext gl call round ops seq st0 s sq := ⟨q1, q2, e1, r1⟩
      obtain ⟨z1, z2, z3, z4⟩ := hA s hmp hsA hnd sq hbef hgo _ obj hop
      obtain ⟨x, mk', hx1, hx2, hx3⟩ := ha2 ρ st0.sz a w hg' htr
      have hsub := Sub.ext z1 w.heap.size 0
      have hlate := hrel.late (x := x) z1 z3 z2 (hx2 _ hsub)
      have hflate := hfw.late (x := x) z1 z4 hrel
      refine ⟨fun f _ => F0_fn ro f, ?_⟩
      have hsem : s.o.semAt (F0 ro).round a.eval = execOp a.eval s.o := Oper.semAt_eq _ _ _ (fun c hc => by
        have : clsB P s.o = .e := by unfold clsB; rw [hc]
        rw [this] at hclsB; cases hclsB)
      rw [hsem, hx1]
      have hE : s.cls.isE = false := by rw [hcls]; rfl
      refine stay (tm' := tm') hE hlate hflate (putB_ok (htr.mono hsub) (hx3 _ _ _ newCells_ptr) h3) h4 (by rw [put_defers]; exact hds.mono hsub) ?_
      intro y hy hyA hyd z hz hzg v2 obj2 hop2
      have hyD : ¬ D y.i := fun h => hyd (.inr h)
      have hys : s ≠ y := fun h => hyd (.inl (by rw [h]))
      obtain ⟨g1, g2, g3, g4⟩ := hA y hy hyA hyD z hz hzg v2 obj2 hop2
      have hne2 := hD s hmp y hy hys hsA hyA hnd hyD sq z hbef hz hgo hzg
      refine ⟨?_, g2, g3, g4⟩
      show (if z.h.next = sq.h.next then _ else _) = _
      rw [if_neg (fun h => hne2 h.symm)]
      exact g1
    | p =>
      have hclsB : clsB P s.o = .p := by rw [← m3]; exact hcls
      obtain ⟨v, rfl, hp2⟩ := opB_p hclsB hop
      simp only [nxB, Option.map_eq_some_iff] at hnx
      obtain ⟨tmq, h5, h6⟩ := hnx
      have hput : putB st0.sz sq.tm s.o.dst v = some sq1.tm := by rw [← hsz.2, h5, ← h6]
      obtain ⟨tm', h3, h4⟩ := htm.next hx e1 r2 hput
      have hE : s.cls.isE = false := by rw [hcls]; rfl
      have hS : SR P ρ ⟨tm, sp.h, sp.ds, st0.sz, st0.rd⟩ a w := ⟨htr, hrel, hds⟩
      refine opStep_ok (st := ⟨tm, sp.h, sp.ds, st0.sz, st0.rd⟩) (st' := ⟨tm', sp.h, sp.ds, st0.sz, st0.rd⟩) (nx := .val v sp.h) he hc hrd hn hg' hS hro (by show opB P ext gl tm sp.h s.o = _; rw [hopc]; exact hp2 sp.h) (by simp only [nxB]; rw [h3]; rfl) ?_
      intro ρ' a' w' hS' hF
      refine stay hE hS'.rel (hfw.trans hF) hS'.tm h4 hS'.ds ?_
      intro y hy hyA hyd z hz hzg v2 obj2 hop2
      obtain ⟨g1, g2, g3, g4⟩ := hA y hy hyA (fun h => hyd (.inr h)) z hz hzg v2 obj2 hop2
      exact ⟨(hF.old _ g3 g1).1, g2, g3, g4⟩
    | r =>
      have hclsB : clsB P s.o = .r := by rw [← m3]; exact hcls
      obtain ⟨v, rfl⟩ := opB_r hclsB hop
      simp only [nxB, Option.map_eq_some_iff] at hnx
      obtain ⟨tmq, h5, h6⟩ := hnx
      have hput : putB st0.sz sq.tm s.o.dst v = some sq1.tm := by rw [← hsz.2, h5, ← h6]
      obtain ⟨tm', h3, h4⟩ := htm.next hx e1 r2 hput
      have hE : s.cls.isE = false := by rw [hcls]; rfl
      have hR : s.cls.isR = true := by rw [hcls]; rfl
      have hlook := hseeR hR
      have hgo2 : goesB ops.toList st'.tm s.o = true := by rw [goes_sees hlook, hgoes]; exact hgo
      have hmay : mayB s (effs pre) (effs rest) = true := by
        simp only [mayB, Bool.and_eq_true, List.all_eq_true, Bool.not_eq_true']
        refine ⟨fun e hem => ?_, fun e hem => ?_⟩
        · obtain ⟨k3, k4⟩ := List.mem_filter.1 hem
          cases hq : e.anc.testBit s.i with
          | false => rfl
          | true =>
            have hem2 : e ∈ seq := by rw [hsp]; simp [k3]
            exact absurd (hcl.anc _ (hE1 e k3 k4) _ (by rw [← (hx.stat.mem e hem2).2.1]; exact hq)) hnd
        · obtain ⟨k3, k4⟩ := List.mem_filter.1 hem
          cases hq : s.anc.testBit e.i with
          | false => rfl
          | true => exact absurd (hready _ hq) (hE2 e k3 k4)
      have hread := hx.reads pre rest sp s hsp hrun hrest hs hR hgo2 hmay
      unfold readAt at hread
      have hopr : opB P ext gl st'.tm sp.h s.o = opB P ext gl tm sp.h s.o := opB_congr (opnd_sees hlook)
      rw [hopr] at hread
      cases hop2 : opB P ext gl tm sp.h s.o with
      | none => rw [hop2] at hread; cases hread
      | some nx2 =>
        obtain ⟨v2, rfl⟩ := opB_r hclsB hop2
        rw [hop2] at hread
        simp only at hread
        have h3' : putB st0.sz tm s.o.dst v2 = some tm' := by
          cases hd : s.o.dst with
          | none => rw [hd] at h3; exact h3
          | some d =>
            rw [hd] at hread h3 hput
            simp only at hread
            have hq1 : sq1.tm.get d = some v := by
              obtain ⟨_, _, z3, _⟩ := putB_other (tm2 := sq.tm) hput
              exact (z3 d rfl).2
            have hq2 : st'.tm.get d = sq1.tm.get d := r2.keep d (fun y hym hyt => by
              have hys : y ∈ seq := by rw [e1]; simp [hym]
              have := one_writer hx.stat hys hs hyt hd
              subst this
              obtain ⟨c1, c2, rfl⟩ := List.append_of_mem hym
              exact (hx.stat.good (q1 ++ y :: c1) y c2 (by rw [e1]; simp)).1 y (by simp) rfl)
            rw [hq2, hq1] at hread
            rw [sameW_eq hread]
            exact h3
        have hS : SR P ρ ⟨tm, sp.h, sp.ds, st0.sz, st0.rd⟩ a w := ⟨htr, hrel, hds⟩
        refine opStep_ok (st := ⟨tm, sp.h, sp.ds, st0.sz, st0.rd⟩) (st' := ⟨tm', sp.h, sp.ds, st0.sz, st0.rd⟩) (nx := .val v2 sp.h) he hc hrd hn hg' hS hro hop2 (by simp only [nxB]; rw [h3']; rfl) ?_
        intro ρ' a' w' hS' hF
        refine stay hE hS'.rel (hfw.trans hF) hS'.tm h4 hS'.ds ?_
        intro y hy hyA hyd z hz hzg v2 obj2 hop2
        obtain ⟨g1, g2, g3, g4⟩ := hA y hy hyA (fun h => hyd (.inr h)) z hz hzg v2 obj2 hop2
        exact ⟨(hF.old _ g3 g1).1, g2, g3, g4⟩
end
end Go.Proofs.YtcmildkkigccaaaGreatDoor.Run

/-
  Regions of open order: every order.
-/
namespace Go.Proofs.YtcmildkkigccaaaGreatDoor.Run
open Go
set_option linter.unusedVariables false
set_option linter.unusedSimpArgs false
section
variable {P : Program} {gl : Gl} {ext : Ext} {call : CallR} {round : RoundR} {ops : Array Oper} {seq : List Slot} {st0 st' : St} {ro : Option Nat} {n : Nat} {Q : Exit → Act → World → Prop}
def Ls (listed : Array Bool) : Nat → Prop := fun k => listed.getD k false = true
theorem Ls.set {listed : Array Bool} {i : Nat} (hi : i < listed.size) : Ls (listed.setIfInBounds i true) = fun k => k = i ∨ Ls listed k := by
  funext k
  apply propext
  unfold Ls
  rw [Array.getD_eq_getD_getElem?, Array.getD_eq_getD_getElem?, Array.getElem?_setIfInBounds]
  by_cases h : i = k
  · subst h
    simp [hi]
  · rw [if_neg h]
    constructor
    · exact fun h => .inr h
    · rintro (h' | h')
      · exact absurd h'.symm h
      · exact h'
theorem ready_iff {listed : Array Bool} (hsz : listed.size = ops.size) {i : Nat} : i ∈ Region.ready .any ops listed ↔ ∃ o, ops[i]? = some o ∧ ¬ Ls listed i ∧ ∀ e ∈ o.after.toList, Region.binds .any e = true → Ls listed e.on := by
  unfold Region.ready
  rw [List.mem_filter, List.mem_range, Bool.and_eq_true]
  constructor
  · rintro ⟨h1, h2, h3⟩
    refine ⟨ops[i], by simp [h1], ?_, ?_⟩
    · unfold Ls
      intro h
      rw [Array.getD_eq_getD_getElem?] at h h2
      rw [Array.getElem?_eq_getElem (by omega)] at h h2
      simp at h h2
      rw [h] at h2; cases h2
    · rw [Array.getElem?_eq_getElem h1] at h3
      simp only [Option.map_some, Option.getD_some, Array.all_eq_true'] at h3
      intro e he hb
      have := h3 e (by simpa using he)
      rw [hb] at this
      exact this
  · rintro ⟨o, h1, h2, h3⟩
    have hlt : i < ops.size := (Array.getElem?_eq_some_iff.1 h1).1
    refine ⟨hlt, ?_, ?_⟩
    · unfold Ls at h2
      rw [Array.getD_eq_getD_getElem?] at h2 ⊢
      rw [Array.getElem?_eq_getElem (by omega)] at h2 ⊢
      simp at h2 ⊢
      exact h2
    · rw [h1]
      simp only [Option.map_some, Option.getD_some, Array.all_eq_true']
      intro e he
      cases hb : Region.binds .any e with
      | false => rfl
      | true => exact h3 e (by simpa using he) hb
/-- Nothing is ready: all is done. -/
theorem all_done (hs : Stat P ops seq) {listed : Array Bool} (hsz : listed.size = ops.size) (h : Region.ready .any ops listed = []) : ∀ s ∈ seq, Ls listed s.i := by
  have key : ∀ l pre, seq = pre ++ l → (∀ s ∈ pre, Ls listed s.i) → ∀ s ∈ seq, Ls listed s.i := by
    intro l
    induction l with
    | nil => intro pre e hp s hm; rw [e, List.append_nil] at hm; exact hp s hm
    | cons x l ih =>
      intro pre e hp
      refine ih (pre ++ [x]) (by rw [e]; simp) (fun s hm => ?_)
      rcases List.mem_append.1 hm with hm | hm
      · exact hp s hm
      · simp at hm; subst hm
        have hxm : s ∈ seq := by rw [e]; simp
        obtain ⟨m1, m2, m3⟩ := hs.mem s hxm
        by_cases hd : Ls listed s.i
        · exact hd
        · exfalso
          have : s.i ∈ Region.ready .any ops listed := (ready_iff hsz).2 ⟨s.o, m1, hd, fun e' he hb => by
            have hbit : s.anc.testBit e'.on = true := by rw [m2]; exact (ancM_bits (by simpa using m1) _).2 ⟨e', he, hb, .inl rfl⟩
            obtain ⟨y, hy, hyi⟩ := (hs.good pre s l e).2.1 _ hbit
            rw [← hyi]
            exact hp y (by simpa using hy)⟩
          rw [h] at this; cases this
  exact key seq [] rfl (by simp)
theorem tr_same {ρ : Rn} {sz : Nat} {tm tm2 : Tr Value} {tmps : Array Value} (h : TR ρ sz tm tmps) (e : ∀ t, tm.get t = tm2.get t) : TR ρ sz tm2 tmps := ⟨h.1, fun t => by rw [← e t]; exact h.2 t⟩
theorem inv_end (hx : Ctx P ext gl call round ops seq st0 st') {ρ0 : Rn} {w0 : World} {listed : Array Bool} (hsz : listed.size = ops.size) (hready : Region.ready .any ops listed = []) {a : Act} {w : World}
    (hi : Inv P ext gl call round ops seq st0 st' ρ0 w0 (Ls listed) a w) {K : Act → World → Prop} (hk : Upto P ρ0 st0 w0 st' K) : K a w := by
  obtain ⟨hcl, pre, rest, sp, ρ, tm, hsp, hrun, hrest, hE1, hE2, hrel, hfw, htr, htm, hds, hA, hD⟩ := hi
  have hall := all_done hx.stat hsz hready
  have hnil : rest = [] := by
    rcases hrest with h | ⟨e, r, rfl, hE⟩
    · exact h
    · exact absurd (hall e (by rw [hsp]; simp)) (hE2 e (by simp) hE)
  subst hnil
  rw [List.append_nil] at hsp
  subst hsp
  obtain rfl := hrun.det hx.runs
  have hszrd := hrun.szrd
  refine hk ρ a w ⟨?_, hrel, hds⟩ hfw
  rw [hszrd.2]
  refine tr_same htr (fun t => ?_)
  by_cases hw : ∃ s ∈ seq, s.o.dst = some t
  · obtain ⟨s, hs, ht⟩ := hw
    exact htm.done s hs (hall s hs) t ht
  · have hno : ∀ s ∈ seq, s.o.dst ≠ some t := fun s hs ht => hw ⟨s, hs, ht⟩
    rw [htm.rest t (fun s hs _ => hno s hs), hrun.keep t hno]
theorem any_ok (he : ExtOk P ext) (hc : CallOk P gl call) (hrd : RoundOk P gl round) (hn : NG P) (hx : Ctx P ext gl call round ops seq st0 st') {ρ0 : Rn} {w0 : World} (hg : GlOk ρ0 gl) (hro : ro.isSome = true → st0.rd = true)
    (hk : Upto P ρ0 st0 w0 st' (Q .normal)) : ∀ (fuel : Nat) (listed : Array Bool) (a : Act) (w : World), listed.size = ops.size → listed.toList.count false ≤ fuel → Inv P ext gl call round ops seq st0 st' ρ0 w0 (Ls listed) a w → wpAnyIn (F0 ro) n P .any ops Q fuel listed a w
  | 0, listed, a, w, hsz, hct, hi => by
    have hready : Region.ready .any ops listed = [] := by
      apply List.eq_nil_iff_forall_not_mem.2
      intro i hm
      obtain ⟨o, h1, h2, _⟩ := (ready_iff hsz).1 hm
      have hlt : i < ops.size := (Array.getElem?_eq_some_iff.1 h1).1
      apply h2
      unfold Ls
      rw [Array.getD_eq_getD_getElem?, Array.getElem?_eq_getElem (by omega)]
      have hnm := List.count_eq_zero.1 (Nat.le_zero.1 hct)
      simp only [Option.getD_some]
      cases hq : listed[i]'(by omega) with
      | true => rfl
      | false => exact absurd (by rw [← hq]; simp) hnm
    exact ⟨hready, inv_end hx hsz hready hi hk⟩
  | fuel + 1, listed, a, w, hsz, hct, hi => by
    refine ⟨fun hready => inv_end hx hsz hready hi hk, fun i hm => ?_⟩
    obtain ⟨o, h1, h2, h3⟩ := (ready_iff hsz).1 hm
    have hlt : i < listed.size := by have := (Array.getElem?_eq_some_iff.1 h1).1; omega
    refine inv_step he hc hrd hn hx hg hro hi h1 h2 h3 (fun a' w' hi' => ?_)
    refine any_ok he hc hrd hn hx hg hro hk fuel _ a' w' (by simpa using hsz) ?_ (by rw [Ls.set hlt]; exact hi')
    have hf : listed[i]'hlt = false := by
      cases hq : listed[i]'hlt with
      | false => rfl
      | true =>
        exfalso; apply h2; unfold Ls
        rw [Array.getD_eq_getD_getElem?, Array.getElem?_eq_getElem hlt, hq]; rfl
    have hl : i < listed.toList.length := by simpa using hlt
    have : (listed.toList.set i true).count false + 1 = listed.toList.count false := by
      have hpos : 0 < listed.toList.count false := List.count_pos_iff.2 (by rw [← hf]; simp)
      have hlf : listed.toList[i] = false := by simpa using hf
      rw [List.count_set hl, hlf]
      have e1 : (if (false == false) = true then 1 else 0) = 1 := rfl
      have e2 : (if (true == false) = true then 1 else 0) = 0 := rfl
      rw [e1, e2]
      omega
    rw [Array.toList_setIfInBounds]
    omega
theorem draw_ok (hm : P.follows .mixedOrders = true) (he : ExtOk P ext) (hn : NG P) (hc : CallOk P gl call) (hrd : RoundOk P gl round) : DrawOk P ext gl call round := by
  intro id ops st st' ρ a w ro n Q e hg hs hro hk
  obtain ⟨seq, hx⟩ := drawB_ctx e
  refine wpIn_region_any hm ?_
  have hL : Ls (Array.replicate ops.size false) = fun _ => False := by
    funext k
    apply propext
    unfold Ls
    rw [Array.getD_eq_getD_getElem?, Array.getElem?_replicate]
    by_cases h : k < ops.size <;> simp [h]
  refine any_ok (w0 := w) (ρ0 := ρ) he hc hrd hn hx hg hro hk ops.size _ a _ (by simp) (by simp) ?_
  rw [hL]
  refine advance hx (p0 := []) (r0 := seq) (x := st) (ρ := ρ) (tm := st.tm) (fun _ _ _ h => h.elim) rfl .nil (fun s h => by cases h) (fun _ _ _ h => h) (hs.rel.drawn rfl) (Fw.drawn rfl rfl rfl rfl) hs.tm ⟨fun _ _ h => h.elim, fun _ _ => rfl⟩ hs.ds (fun s h => by cases h) (fun s h => by cases h)
/-- The evaluator's word, of every call. -/
theorem run_ok {dfr : Dfr} {hk : CallR} (hkok : CallOk P gl hk) (hm : P.follows .mixedOrders = true) (he : ExtOk P ext) (hn : NG P) (hd : DfrOk P dfr) (m : Nat) : CallOk P gl (callB P ext dfr hk gl m) :=
  (callB_ok hkok he hn hd (fun call round hc hr => draw_ok hm he hn hc hr) m).1
end
end Go.Proofs.YtcmildkkigccaaaGreatDoor.Run
