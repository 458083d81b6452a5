/-
  Code, told of the evaluator.
-/
import Derived.Test.YtkmfihpmjnfbfaaGreatDoorCoa
import Derived.RangeFuncNested
namespace Go.Proofs.YtkmfihpmjnfbfaaGreatDoor.Run
open Go
set_option linter.unusedVariables false
set_option linter.unusedSimpArgs false
def exOf : Ex → Exit
  | .normal => .normal
  | .exit id => .exit id
  | .ret => .ret
/-- A loop from behind its round on. -/
def LK (F : Fence) (n : Nat) (P : Program) (c : Code) (Q : Exit → Act → World → Prop) (a : Act) (w : World) : Prop :=
  ∀ (b : Frame) (k : List Item) (cs : List Frame), b.roundOf = F.round → F.fn b.fn → F.room (cs.length + 1 + n) → ∃ e a' w', Q e a' w' ∧ ArrivesIn (Machine.fenced P F) P (lone (b.atR a (.code c :: .inLoop c :: k)) cs w) b k cs e a' w'
section
variable {F : Fence} {n : Nat} {P : Program} {c : Code} {Q : Exit → Act → World → Prop} {a : Act} {w : World}
theorem LK.step (h : c.wpIn F n P (Exit.then (LK F n P c Q) Q) a w) : LK F n P c Q a w := by
  intro b k cs hro hb hr
  obtain ⟨e, a₁, w₁, hq, harr⟩ := h b (.inLoop c :: k) cs hro hb hr
  cases e with
  | normal =>
    obtain ⟨e₂, a₂, w₂, hq₂, harr₂⟩ := hq b k cs hro hb hr
    exact ⟨e₂, a₂, w₂, hq₂, .of_steps (StepsIn.trans harr (.one (fenced_calm hb hr rfl) stepR_inLoop)) harr₂⟩
  | exit id => exact ⟨_, a₁, w₁, hq, .pass (x := .inLoop c) rfl (fun _ _ => .inl (by simp)) harr⟩
  | goto l => exact ⟨_, a₁, w₁, hq, .pass (x := .inLoop c) rfl (fun _ _ => .inl (by simp)) harr⟩
  | ret => exact ⟨_, a₁, w₁, hq, .pass (x := .inLoop c) rfl (fun _ _ => .inl (by simp)) harr⟩
  | panic ch => exact ⟨_, a₁, w₁, hq, .pass (x := .inLoop c) rfl (fun _ _ => .inl (by simp)) harr⟩
  | outgrown => exact ⟨_, a₁, w₁, hq, .pass (x := .inLoop c) rfl (fun _ _ => .inl (by simp)) harr⟩
theorem LK.loop (h : LK F n P c Q a w) : (Code.loop c).wpIn F n P Q a w := by
  intro b k cs hro hb hr
  obtain ⟨e, a', w', hq, harr⟩ := h b k cs hro hb hr
  exact ⟨e, a', w', hq, .of_steps (.one (fenced_calm hb hr rfl) stepR_loop) harr⟩
end
/-- In which round, in both. -/
def Around (ρ : Rn) : Option Nat → Option Nat → Prop
  | none, none => True
  | some l, some l' => ρ l = some l'
  | _, _ => False
theorem Around.mono {ρ ρ' : Rn} (hs : Sub ρ ρ') {x y : Option Nat} (h : Around ρ x y) : Around ρ' x y := by
  cases x <;> cases y <;> simp_all [Around]
  exact (hs _ _ h).1
def DrawOk (P : Program) (ext : Ext) (gl : Gl) (call : CallR) (round : RoundR) : Prop := ∀ (id : Nat) (ops : Array Oper) (st st' : St) (ρ : Rn) (a : Act) (w : World) (ro : Option Nat) (n : Nat) (Q : Exit → Act → World → Prop),
  drawB P ext gl call round ops.toList st = some st' → GlOk ρ gl → SR P ρ st a w → (ro.isSome = true → st.rd = true) → Upto P ρ st w st' (Q .normal) → (Code.region id ops true).wpIn (F0 ro) n P Q a w
section
variable {P : Program} {gl : Gl} {ext : Ext} {call : CallR} {round : RoundR} {ro : Option Nat} {around : Option Nat} {fn : FuncId}
theorem opsB_rd {ops : List Oper} : ∀ {l : List Oper} {st st' : St}, opsB P ext gl call round ops l st = some st' → st'.rd = st.rd ∧ st'.sz = st.sz
  | [], st, st', e => by simp only [opsB] at e; cases e; exact ⟨rfl, rfl⟩
  | o :: l, st, st', e => by
    simp only [opsB, Option.bind_eq_some_iff] at e
    obtain ⟨st1, e1, e2⟩ := e
    have h1 := stepB_rd e1
    have h2 := opsB_rd e2
    exact ⟨h2.1.trans h1.1, h2.2.trans h1.2⟩
theorem runB_rd {ops : List Oper} : ∀ {l : List Slot} {st st' : St} {hs hs' : List AH}, runB P ext gl call round ops l st hs = some (st', hs') → st'.rd = st.rd ∧ st'.sz = st.sz
  | [], st, st', hs, hs', e => by simp only [runB] at e; cases e; exact ⟨rfl, rfl⟩
  | o :: l, st, st', hs, hs', e => by
    simp only [runB, Option.bind_eq_some_iff] at e
    obtain ⟨st1, e1, e2⟩ := e
    have h1 := stepB_rd e1
    have h2 := runB_rd e2
    exact ⟨h2.1.trans h1.1, h2.2.trans h1.2⟩
theorem regionB_rd {ops : List Oper} {draw : Bool} {st st' : St} (e : regionB P ext gl call round ops draw st = some st') : st'.rd = st.rd ∧ st'.sz = st.sz := by
  cases draw with
  | false => exact opsB_rd e
  | true =>
    simp only [regionB, cond, drawB, Option.bind_eq_some_iff] at e
    obtain ⟨⟨seq, es⟩, _, ⟨st1, hs⟩, h2, e⟩ := e
    have h3 := runB_rd h2
    simp only at e
    split at e
    · cases e; exact h3
    · cases e
theorem codeB_rd : ∀ {m : Nat} {c : Code} {st st' : St} {x : Ex}, codeB P ext gl call round fn around m c st = some (x, st') → st'.rd = st.rd ∧ st'.sz = st.sz
  | 0, c, st, st', x, e => by simp [codeB] at e
  | m + 1, c, st, st', x, e => by
    cases c <;> simp only [codeB] at e
    case skip => cases e; exact ⟨rfl, rfl⟩
    case region id ops draw =>
      simp only [Option.map_eq_some_iff] at e
      obtain ⟨st1, e1, e⟩ := e
      cases e
      exact regionB_rd e1
    case seq a b =>
      simp only [Option.bind_eq_some_iff] at e
      obtain ⟨⟨y, st1⟩, e1, e⟩ := e
      have h1 := codeB_rd e1
      cases y with
      | normal => have h2 := codeB_rd e; exact ⟨h2.1.trans h1.1, h2.2.trans h1.2⟩
      | exit id => cases e; exact h1
      | ret => cases e; exact h1
    case cond c a b =>
      simp only [Option.bind_eq_some_iff] at e
      obtain ⟨v, e1, e⟩ := e
      split at e
      · exact codeB_rd e
      · exact codeB_rd e
      · cases e
    case block id c =>
      simp only [Option.map_eq_some_iff] at e
      obtain ⟨⟨y, st1⟩, e1, e⟩ := e
      have h1 := codeB_rd e1
      cases y <;> (simp only [Prod.mk.injEq] at e; obtain ⟨_, rfl⟩ := e; exact h1)
    case loop c =>
      simp only [Option.bind_eq_some_iff] at e
      obtain ⟨⟨y, st1⟩, e1, e⟩ := e
      have h1 := codeB_rd e1
      cases y with
      | normal => have h2 := codeB_rd e; exact ⟨h2.1.trans h1.1, h2.2.trans h1.2⟩
      | exit id => cases e; exact h1
      | ret => cases e; exact h1
    case exit id => cases e; exact ⟨rfl, rfl⟩
    case ret => cases e; exact ⟨rfl, rfl⟩
    case rangeFunc f ps asg body =>
      simp only [Option.bind_eq_some_iff] at e
      obtain ⟨v, e1, ⟨d, h, ds⟩, e2, nx, e3, e⟩ := e
      split at e
      · simp only [Option.bind_eq_some_iff] at e
        obtain ⟨⟨v2, h2⟩, e4, e⟩ := e
        simp only at e
        split at e
        · split at e
          · cases e
          · split at e
            · cases e; exact ⟨rfl, rfl⟩
            · cases e; exact ⟨rfl, rfl⟩
            · cases e; exact ⟨rfl, rfl⟩
            · cases e
        · cases e
      · cases e
    all_goals cases e
end
end Go.Proofs.YtkmfihpmjnfbfaaGreatDoor.Run
