/-
  Regions of open order: what an operation hangs on.
-/
import Derived.Test.YtkmfihpmjnfbfaaGreatDoorCoe
namespace Go.Proofs.YtkmfihpmjnfbfaaGreatDoor.Run
open Go
set_option linter.unusedVariables false
set_option linter.unusedSimpArgs false
section
variable {P : Program} {ρ : Rn} {gl : Gl} {ext : Ext} {call : CallR} {round : RoundR} {tm tm2 : Tr Value} {h : AH}
theorem opnd_congr {x : Operand} (hx : ∀ t, t ∈ tmpsOf x → tm.get t = tm2.get t) : opnd gl tm x = opnd gl tm2 x := by
  cases x with
  | tmp t => simp only [opnd]; rw [hx t (by simp [tmpsOf])]
  | const v => rfl
  | global g => rfl
  | func f => rfl
theorem opnds_congr : ∀ {l : List Operand}, (∀ x ∈ l, opnd gl tm x = opnd gl tm2 x) → opnds gl tm l = opnds gl tm2 l
  | [], _ => rfl
  | x :: l, hh => by
    simp only [opnds]
    rw [hh x (by simp), opnds_congr (fun y hy => hh y (by simp [hy]))]
theorem parts_congr : ∀ {l : List (Nat × Operand)}, (∀ x ∈ l.map (·.2), opnd gl tm x = opnd gl tm2 x) → parts gl tm l = parts gl tm2 l
  | [], _ => rfl
  | (i, x) :: l, hh => by
    simp only [parts]
    rw [hh x (by simp), parts_congr (fun y hy => hh y (by simp at hy ⊢; exact .inr hy))]
theorem opB_congr {o : Oper} (ho : ∀ x ∈ o.op.operands, opnd gl tm x = opnd gl tm2 x) : opB P ext gl tm h o = opB P ext gl tm2 h o := by
  obtain ⟨dst, op, type, pos, after, guard⟩ := o
  cases op
  case call c =>
    obtain ⟨callee, args, ats⟩ := c
    cases callee with
    | value f =>
      have e1 : opnds gl tm args.toList = opnds gl tm2 args.toList := opnds_congr (fun x hx => ho x (by simp [Op.operands, Call.operands]; exact .inr (by simpa using hx)))
      have e2 : opnd gl tm f = opnd gl tm2 f := ho f (by simp [Op.operands, Call.operands])
      simp only [opB, e1, e2]
    | invoke r name =>
      have e1 : opnds gl tm args.toList = opnds gl tm2 args.toList := opnds_congr (fun x hx => ho x (by simp [Op.operands, Call.operands]; exact .inr (by simpa using hx)))
      have e2 : opnd gl tm r = opnd gl tm2 r := ho r (by simp [Op.operands, Call.operands])
      simp only [opB, e1, e2]
    | builtin b =>
      have e1 : opnds gl tm args.toList = opnds gl tm2 args.toList := opnds_congr (fun x hx => ho x (by simp [Op.operands, Call.operands]; simpa using hx))
      simp only [opB, e1]
  case defer c =>
    obtain ⟨callee, args, ats⟩ := c
    cases callee with
    | value f =>
      have e1 : opnds gl tm args.toList = opnds gl tm2 args.toList := opnds_congr (fun x hx => ho x (by simp [Op.operands, Call.operands]; exact .inr (by simpa using hx)))
      have e2 : opnd gl tm f = opnd gl tm2 f := ho f (by simp [Op.operands, Call.operands])
      simp only [opB, e1, e2]
    | invoke r name =>
      have e1 : opnds gl tm args.toList = opnds gl tm2 args.toList := opnds_congr (fun x hx => ho x (by simp [Op.operands, Call.operands]; exact .inr (by simpa using hx)))
      simp only [opB, e1]
    | builtin b =>
      have e1 : opnds gl tm args.toList = opnds gl tm2 args.toList := opnds_congr (fun x hx => ho x (by simp [Op.operands, Call.operands]; simpa using hx))
      simp only [opB, e1]
  case build t ps =>
    have e1 : parts gl tm ps.toList = parts gl tm2 ps.toList := parts_congr (fun x hx => ho x (by simpa [Op.operands] using hx))
    simp only [opB, e1]
  case buildSlice t n ps =>
    have e1 : parts gl tm ps.toList = parts gl tm2 ps.toList := parts_congr (fun x hx => ho x (by simpa [Op.operands] using hx))
    simp only [opB, e1]
  case makeFunc fn first cap =>
    have e1 : opnds gl tm first.toList = opnds gl tm2 first.toList := opnds_congr (fun x hx => ho x (by simp [Op.operands]; exact .inl (by simpa using hx)))
    have e2 : opnds gl tm cap.toList = opnds gl tm2 cap.toList := opnds_congr (fun x hx => ho x (by simp [Op.operands]; exact .inr (by simpa using hx)))
    simp only [opB, e1, e2]
  case makeMap t r => cases r <;> rfl
  case slice t x lo hi mx =>
    have e1 : opnd gl tm x = opnd gl tm2 x := ho x (by simp [Op.operands])
    have e2 : ∀ y, lo = some y → opnd gl tm y = opnd gl tm2 y := fun y hy => ho y (by simp [Op.operands, hy])
    have e3 : ∀ y, hi = some y → opnd gl tm y = opnd gl tm2 y := fun y hy => ho y (by simp [Op.operands, hy])
    cases lo <;> cases hi <;> simp only [opB, e1] <;> (try rw [e2 _ rfl]) <;> (try rw [e3 _ rfl])
  case next it b =>
    have e1 : opnd gl tm it = opnd gl tm2 it := ho it (by simp [Op.operands])
    cases b <;> simp only [opB, e1]
  case pick c x y =>
    have e1 : opnd gl tm c = opnd gl tm2 c := ho c (by simp [Op.operands])
    have e2 : opnd gl tm x = opnd gl tm2 x := ho x (by simp [Op.operands])
    have e3 : opnd gl tm y = opnd gl tm2 y := ho y (by simp [Op.operands])
    simp only [opB, e1, e2, e3]
  all_goals first
    | rfl
    | (rename_i x; have e1 : opnd gl tm x = opnd gl tm2 x := ho x (by simp [Op.operands]); simp only [opB, e1]; done)
    | (rename_i x _; have e1 : opnd gl tm x = opnd gl tm2 x := ho x (by simp [Op.operands]); simp only [opB, e1]; done)
    | (rename_i x _ _ _; have e1 : opnd gl tm x = opnd gl tm2 x := ho x (by simp [Op.operands]); simp only [opB, e1]; done)
    | (rename_i x y; have e1 : opnd gl tm x = opnd gl tm2 x := ho x (by simp [Op.operands]); have e2 : opnd gl tm y = opnd gl tm2 y := ho y (by simp [Op.operands]); simp only [opB, e1, e2]; done)
    | (rename_i x y _; have e1 : opnd gl tm x = opnd gl tm2 x := ho x (by simp [Op.operands]); have e2 : opnd gl tm y = opnd gl tm2 y := ho y (by simp [Op.operands]); simp only [opB, e1, e2]; done)
    | (rename_i x y z; have e1 : opnd gl tm x = opnd gl tm2 x := ho x (by simp [Op.operands]); have e2 : opnd gl tm y = opnd gl tm2 y := ho y (by simp [Op.operands]); have e3 : opnd gl tm z = opnd gl tm2 z := ho z (by simp [Op.operands]); simp only [opB, e1, e2, e3]; done)
/-- An operation that looks at no block. -/
theorem opB_p {o : Oper} (hc : clsB P o = .p) {nx : Nx} (e : opB P ext gl tm h o = some nx) : ∃ v, nx = .val v h ∧ ∀ h2, opB P ext gl tm h2 o = some (.val v h2) := by
  have hv : ∀ {r : Option Value}, valB h r = some nx → ∃ v, nx = .val v h ∧ ∀ h2, valB h2 r = some (.val v h2) := by
    intro r e
    simp only [valB, Option.map_eq_some_iff] at e
    obtain ⟨v, rfl, rfl⟩ := e
    exact ⟨v, rfl, fun h2 => rfl⟩
  obtain ⟨dst, op, type, pos, after, guard⟩ := o
  cases op <;> simp only [clsB] at hc <;> (try (cases hc; done)) <;> simp only [opB] at e ⊢
  case move x => exact hv e
  case assign x => exact hv e
  case pick c x y =>
    simp only [Option.bind_eq_some_iff] at e
    obtain ⟨cv, h1, e⟩ := e
    rw [h1]
    simp only [Option.bind_some]
    split at e
    · exact hv e
    · exact hv e
    · cases e
  case build t ps =>
    simp only [Option.bind_eq_some_iff] at e
    obtain ⟨l, h1, e⟩ := e
    rw [h1]
    exact hv e
  case nilCheck x =>
    simp only [Option.bind_eq_some_iff] at e
    obtain ⟨v, h1, e⟩ := e
    rw [h1]
    simp only [Option.bind_some]
    split at e
    · cases e; exact ⟨_, rfl, fun h2 => rfl⟩
    · cases e; exact ⟨_, rfl, fun h2 => rfl⟩
    · cases e; exact ⟨_, rfl, fun h2 => rfl⟩
    · cases e
  case binOp op t x y yt =>
    simp only [Option.bind_eq_some_iff] at e
    obtain ⟨va, h1, vb, h2, e⟩ := e
    rw [h1, h2]
    exact hv e
  case unOp op t x =>
    simp only [Option.bind_eq_some_iff] at e
    obtain ⟨va, h1, e⟩ := e
    rw [h1]
    simp only [Option.bind_some]
    cases hf : flat va with
    | false => rw [hf] at e; cases e
    | true => rw [hf] at e; exact hv e
  case makeInterface t x =>
    simp only [Option.bind_eq_some_iff] at e
    obtain ⟨va, h1, e⟩ := e
    rw [h1]
    simp only [Option.bind_some]
    split at e
    · cases e
    · rename_i d hd hu
      cases e
      exact ⟨_, rfl, fun h2 => rfl⟩
    · cases e
  case makeFunc fn first cap =>
    simp only [Option.bind_eq_some_iff] at e
    obtain ⟨xs, h1, ys, h2, e⟩ := e
    rw [h1, h2]
    simp only [Option.bind_some]
    split at e
    · cases e; exact ⟨_, rfl, fun h2 => rfl⟩
    · cases e
  case slice t x lo hi mx =>
    simp only [Option.bind_eq_some_iff] at e
    obtain ⟨vx, h1, vl, h2, vh, h3, e⟩ := e
    rw [h1]
    simp only [Option.bind_some]
    rw [h2]
    simp only [Option.bind_some]
    rw [h3]
    simp only [Option.bind_some]
    cases mx with
    | some _ => cases e
    | none => exact hv e
  case fieldAddr s x f =>
    simp only [Option.bind_eq_some_iff] at e
    obtain ⟨vx, h1, e⟩ := e
    rw [h1]
    exact hv e
  case field s x f =>
    simp only [Option.bind_eq_some_iff] at e
    obtain ⟨vx, h1, e⟩ := e
    rw [h1]
    exact hv e
  case indexAddr t x i =>
    simp only [Option.bind_eq_some_iff] at e
    obtain ⟨vx, h1, vi, h2, e⟩ := e
    rw [h1, h2]
    exact hv e
  case index t x i =>
    simp only [Option.bind_eq_some_iff] at e
    obtain ⟨vx, h1, vi, h2, e⟩ := e
    rw [h1, h2]
    exact hv e
  case typeAssert x xt t ok =>
    simp only [Option.bind_eq_some_iff] at e
    obtain ⟨vx, h1, e⟩ := e
    rw [h1]
    exact hv e
  case extract t i =>
    simp only [Option.bind_eq_some_iff] at e
    obtain ⟨vx, h1, e⟩ := e
    rw [h1]
    simp only [Option.bind_some]
    split at e
    · exact hv e
    · cases e
  case makeMap t r => cases r <;> cases hc
  case call c =>
    obtain ⟨callee, xs, ats⟩ := c
    cases callee with
    | value f => cases hc
    | invoke r name => cases hc
    | builtin b => cases b <;> cases hc
  all_goals (first | (split at hc <;> cases hc) | skip)
theorem builtin_r {b : Builtin} (hb : b = .len ∨ b = .cap ∨ b = .min ∨ b = .max) {ts : Array TypeId} {args : List Value} {nx : Nx} (e : builtinB P h b ts args = some nx) : ∃ v, nx = .val v h := by
  have hv : ∀ {r : Option Value}, valB h r = some nx → ∃ v, nx = .val v h := by
    intro r e
    simp only [valB, Option.map_eq_some_iff] at e
    obtain ⟨v, _, rfl⟩ := e
    exact ⟨v, rfl⟩
  rcases hb with rfl | rfl | rfl | rfl
  · match args with
    | [] => cases e
    | x :: y :: l => cases e
    | [x] =>
      simp only [builtinB, Option.bind_eq_some_iff] at e
      obtain ⟨t, _, e⟩ := e
      split at e
      · cases e; exact ⟨_, rfl⟩
      · cases e; exact ⟨_, rfl⟩
      · cases e; exact ⟨_, rfl⟩
      · split at e
        · cases e; exact ⟨_, rfl⟩
        · cases e
      · cases e; exact ⟨_, rfl⟩
      · split at e
        · cases e; exact ⟨_, rfl⟩
        · cases e
      · cases e
  · match args with
    | [] => cases e
    | x :: y :: l => cases x <;> cases e
    | [x] =>
      cases x <;> try (cases e; done)
      simp only [builtinB, Option.bind_eq_some_iff] at e
      obtain ⟨t, _, e⟩ := e
      split at e
      · simp only [cond] at e
        split at e
        · cases e
        · cases e; exact ⟨_, rfl⟩
      · cases e
  · match args with
    | [] => cases e
    | x :: l =>
      simp only [builtinB] at e
      cases hf : (x :: l).all flat with
      | false => rw [hf] at e; cases e
      | true => rw [hf] at e; exact hv e
  · match args with
    | [] => cases e
    | x :: l =>
      simp only [builtinB] at e
      cases hf : (x :: l).all flat with
      | false => rw [hf] at e; cases e
      | true => rw [hf] at e; exact hv e
/-- An operation that only looks. -/
theorem opB_r {o : Oper} (hc : clsB P o = .r) {nx : Nx} (e : opB P ext gl tm h o = some nx) : ∃ v, nx = .val v h := by
  have hv : ∀ {r : Option Value}, valB h r = some nx → ∃ v, nx = .val v h := by
    intro r e
    simp only [valB, Option.map_eq_some_iff] at e
    obtain ⟨v, _, rfl⟩ := e
    exact ⟨v, rfl⟩
  obtain ⟨dst, op, type, pos, after, guard⟩ := o
  cases op <;> simp only [clsB] at hc <;> (try (cases hc; done)) <;> simp only [opB] at e ⊢
  case load t x =>
    simp only [Option.bind_eq_some_iff] at e
    obtain ⟨_, _, e⟩ := e
    exact hv e
  case lookup t m k ok =>
    simp only [Option.bind_eq_some_iff] at e
    obtain ⟨_, _, _, _, e⟩ := e
    exact hv e
  case entry it =>
    simp only [Option.bind_eq_some_iff] at e
    obtain ⟨_, _, e⟩ := e
    exact hv e
  case convert s d x =>
    simp only [Option.bind_eq_some_iff] at e
    obtain ⟨va, hx, e⟩ := e
    split at e
    · rename_i el bs hs hd
      simp only [hd] at hc
      cases hc
    · exact hv e
  case makeMap t r => cases r <;> cases hc
  case call c =>
    simp only [Option.bind_eq_some_iff] at e
    obtain ⟨args, _, e⟩ := e
    obtain ⟨callee, xs, ats⟩ := c
    cases callee with
    | value f => cases hc
    | invoke r name => cases hc
    | builtin b =>
      simp only at e
      refine builtin_r ?_ e
      cases b <;> first | (cases hc; done) | simp
  all_goals (first | (split at hc <;> cases hc) | skip)
end
end Go.Proofs.YtkmfihpmjnfbfaaGreatDoor.Run
