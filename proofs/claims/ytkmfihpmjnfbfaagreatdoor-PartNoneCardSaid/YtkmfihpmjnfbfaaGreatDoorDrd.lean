/-
  Regions of open order: whatever order is drawn, it is as the run that is fixed.
-/
import Derived.Test.YtkmfihpmjnfbfaaGreatDoorDrc
namespace Go.Proofs.YtkmfihpmjnfbfaaGreatDoor.Run
open Go
set_option linter.unusedVariables false
set_option linter.unusedSimpArgs false
section
variable {P : Program} {gl : Gl} {ext : Ext} {call : CallR} {round : RoundR} {ops : Array Oper} {seq : List Slot} {st0 st' : St}
/-- The state ahead of s in the fixed run. -/
def Before (P : Program) (ext : Ext) (gl : Gl) (call : CallR) (round : RoundR) (ops : Array Oper) (seq : List Slot) (st0 : St) (s : Slot) (sq : St) : Prop :=
  ∃ q1 q2, seq = q1 ++ s :: q2 ∧ Runs P ext gl call round ops.toList q1 st0 sq
theorem slot_unique (hc : Stat P ops seq) {x y : Slot} (hx : x ∈ seq) (hy : y ∈ seq) (h : x.i = y.i) : x = y := by
  obtain ⟨q1, q2, rfl⟩ := List.append_of_mem hx
  rcases List.mem_append.1 hy with h1 | h1
  · exact absurd h.symm ((hc.good q1 x q2 rfl).1 y (by simpa using h1))
  · rcases List.mem_cons.1 h1 with h1 | h1
    · exact h1.symm
    · obtain ⟨r1, r2, rfl⟩ := List.append_of_mem h1
      have := (hc.good (q1 ++ x :: r1) y r2 (by simp)).1 x (by simp)
      exact absurd h this
theorem split_unique (hc : Stat P ops seq) {s : Slot} {q1 q2 r1 r2 : List Slot} (h1 : seq = q1 ++ s :: q2) (h2 : seq = r1 ++ s :: r2) : q1 = r1 ∧ q2 = r2 := by
  have h3 := h1.symm.trans h2
  rcases List.append_eq_append_iff.1 h3 with ⟨as, e1, e2⟩ | ⟨as, e1, e2⟩
  · cases as with
    | nil => simp at e1 e2; exact ⟨e1.symm, e2⟩
    | cons a as =>
      simp only [List.cons_append, List.cons.injEq] at e2
      obtain ⟨rfl, e2⟩ := e2
      exact absurd rfl ((hc.good r1 s r2 h2).1 s (by rw [e1]; simp))
  · cases as with
    | nil => simp at e1 e2; exact ⟨e1, e2.symm⟩
    | cons a as =>
      simp only [List.cons_append, List.cons.injEq] at e2
      obtain ⟨rfl, e2⟩ := e2
      exact absurd rfl ((hc.good q1 s q2 h1).1 s (by rw [e1]; simp))
theorem Before.det (hc : Stat P ops seq) {s : Slot} {a b : St} (h1 : Before P ext gl call round ops seq st0 s a) (h2 : Before P ext gl call round ops seq st0 s b) : a = b := by
  obtain ⟨q1, q2, e1, r1⟩ := h1
  obtain ⟨p1, p2, e2, r2⟩ := h2
  obtain ⟨rfl, _⟩ := split_unique hc e1 e2
  exact r1.det r2
theorem Before.exist (hx : Ctx P ext gl call round ops seq st0 st') {s : Slot} (hs : s ∈ seq) : ∃ sq sq1 q1 q2, seq = q1 ++ s :: q2 ∧ Runs P ext gl call round ops.toList q1 st0 sq ∧ stepB P ext gl call round ops.toList s.o sq = some sq1 ∧ Runs P ext gl call round ops.toList q2 sq1 st' := by
  obtain ⟨q1, q2, rfl⟩ := List.append_of_mem hs
  obtain ⟨m, k1, k2⟩ := hx.runs.split
  cases k2 with
  | cons k k2 => exact ⟨m, _, q1, q2, rfl, k1, k, k2⟩
/-- Only one operation lays a temporary. -/
theorem one_writer (hc : Stat P ops seq) {x y : Slot} (hx : x ∈ seq) (hy : y ∈ seq) {t : Nat} (h1 : x.o.dst = some t) (h2 : y.o.dst = some t) : x = y := by
  refine slot_unique hc hx hy ?_
  have := hc.pairs x hx y hy
  unfold pairOk at this
  rw [h1, h2] at this
  simp only at this
  cases hb : Nat.beq x.i y.i with
  | true => exact beq_true hb
  | false =>
    rw [hb, Nat.beq_refl] at this
    cases this
/-- What is done holds what stands before it. -/
def Closed (ops : Array Oper) (D : Nat → Prop) : Prop := ∀ i o, ops[i]? = some o → D i → ∀ e ∈ o.after.toList, Region.binds .any e = true → D e.on
theorem Closed.anc {D : Nat → Prop} (hcl : Closed ops D) : ∀ (i : Nat), D i → ∀ k, (ancM ops.toList i).testBit k = true → D k := by
  intro i
  induction i using Nat.strongRecOn with
  | _ i ih =>
    intro hd k hk
    cases ho : ops[i]? with
    | none =>
      have : ops.toList[i]? = none := by simpa using ho
      obtain ⟨rest, h1, h2, _⟩ := ancs_eq ops.toList []
      simp only [List.nil_append] at h1
      unfold ancM at hk
      rw [h1, List.getElem?_eq_none (by rw [h2]; exact List.getElem?_eq_none_iff.1 this)] at hk
      simp at hk
    | some o =>
      obtain ⟨e, h1, h2, h3⟩ := (ancM_bits (by simpa using ho) k).1 hk
      have hde := hcl i o ho hd e h1 h2
      rcases h3 with h3 | ⟨h3, h4⟩
      · rw [← h3]; exact hde
      · exact ih e.on h3 hde k h4
theorem ready_anc {D : Nat → Prop} (hcl : Closed ops D) {i : Nat} {o : Oper} (ho : ops[i]? = some o) (hr : ∀ e ∈ o.after.toList, Region.binds .any e = true → D e.on) (k : Nat) (hk : (ancM ops.toList i).testBit k = true) : D k := by
  obtain ⟨e, h1, h2, h3⟩ := (ancM_bits (by simpa using ho) k).1 hk
  rcases h3 with h3 | ⟨h3, h4⟩
  · rw [← h3]; exact hr e h1 h2
  · exact hcl.anc e.on (hr e h1 h2) k h4
/-- Temporaries behind what is done. -/
structure Tmps (seq : List Slot) (st0 st' : St) (D : Nat → Prop) (tm : Tr Value) : Prop where
  done : ∀ s ∈ seq, D s.i → ∀ t, s.o.dst = some t → tm.get t = st'.tm.get t
  rest : ∀ t, (∀ s ∈ seq, D s.i → s.o.dst ≠ some t) → tm.get t = st0.tm.get t
/-- What a ready operation sees is what it saw in the fixed run. -/
theorem sees (hx : Ctx P ext gl call round ops seq st0 st') {D : Nat → Prop} {tm : Tr Value} (hcl : Closed ops D) (ht : Tmps seq st0 st' D tm) {s : Slot} {q1 q2 : List Slot} {sq : St} (hsp : seq = q1 ++ s :: q2) (hrun : Runs P ext gl call round ops.toList q1 st0 sq)
    (hnd : ¬ D s.i) (hr : ∀ k, s.anc.testBit k = true → D k) {t : Nat} (hl : t ∈ looksB ops.toList s.o) : sq.tm.get t = tm.get t ∧ (s.cls.isR = true → sq.tm.get t = st'.tm.get t) := by
  have hs : s ∈ seq := by rw [hsp]; simp
  obtain ⟨sq', sq1, p1, p2, e1, r1, k, r2⟩ := Before.exist hx hs
  obtain ⟨rfl, rfl⟩ := split_unique hx.stat hsp e1
  obtain rfl := hrun.det r1
  by_cases hw : ∃ x ∈ seq, x.o.dst = some t
  · obtain ⟨x, hxm, hxd⟩ := hw
    have hp := hx.stat.pairs x hxm s hs
    unfold pairOk at hp
    rw [hxd] at hp
    simp only at hp
    cases hb : Nat.beq x.i s.i with
    | true =>
      have hbb := hb
      have := slot_unique hx.stat hxm hs (beq_true hb)
      subst this
      have h1 : sq.tm.get t = st0.tm.get t := hrun.keep t (fun y hy hyd => by
        have hym : y ∈ seq := by rw [hsp]; simp [hy]
        have := one_writer hx.stat hym hxm hyd hxd
        subst this
        exact (hx.stat.good q1 y q2 hsp).1 y (by simpa using hy) rfl)
      refine ⟨?_, fun h => by
        rw [hb] at hp
        have hlc : (looksB ops.toList x.o).contains t = true := by simpa using hl
        rw [h, hlc] at hp
        cases hp⟩
      rw [h1]
      exact (ht.rest t (fun y hy hd hyd => by
        have := one_writer hx.stat hy hxm hyd hxd
        subst this
        exact hnd hd)).symm
    | false =>
      rw [hb] at hp
      simp only [cond] at hp
      have hlc : (looksB ops.toList s.o).contains t = true := by simpa using hl
      have hp2 : cond (Nat.blt x.i s.i) (s.anc.testBit x.i) (x.anc.testBit s.i && !s.cls.isR) = true := by
        revert hp
        cases hd : s.o.dst with
        | none => simp only [hlc]; exact id
        | some d' =>
          simp only
          cases hq : Nat.beq t d' with
          | true => intro hp; cases hp
          | false => simp only [hlc]; exact id
      cases hlt : Nat.blt x.i s.i with
      | true =>
        rw [hlt] at hp2
        simp only [cond] at hp2
        obtain ⟨x', hx'm, hx'i⟩ := (hx.stat.good q1 s q2 hsp).2.1 _ hp2
        simp only [List.nil_append] at hx'm
        have : x' = x := slot_unique hx.stat (by rw [hsp]; simp [hx'm]) hxm hx'i
        subst this
        obtain ⟨a1, a2, rfl⟩ := List.append_of_mem hx'm
        have h1 : st'.tm.get t = sq.tm.get t := (Runs.cons k r2).keep t (fun y hy hyd => by
          have hym : y ∈ seq := by rw [hsp]; simp at hy ⊢; rcases hy with rfl | hy <;> simp [*]
          have := one_writer hx.stat hym hxm hyd hxd
          subst this
          have hg := hx.stat.good (a1 ++ y :: a2) s q2 hsp
          rcases List.mem_cons.1 hy with rfl | hy
          · exact hg.1 y (by simp) rfl
          · obtain ⟨c1, c2, rfl⟩ := List.append_of_mem hy
            exact (hx.stat.good ((a1 ++ y :: a2) ++ s :: c1) y c2 (by rw [hsp]; simp)).1 y (by simp) rfl)
        have h2 := ht.done x' hxm (hr _ hp2) t hxd
        exact ⟨by rw [h2, h1], fun _ => h1.symm⟩
      | false =>
        rw [hlt] at hp2
        simp only [cond, Bool.and_eq_true, Bool.not_eq_true'] at hp2
        have hxa : (ancM ops.toList x.i).testBit s.i = true := by rw [← (hx.stat.mem x hxm).2.1]; exact hp2.1
        have h1 : sq.tm.get t = st0.tm.get t := hrun.keep t (fun y hy hyd => by
          have hym : y ∈ seq := by rw [hsp]; simp [hy]
          have := one_writer hx.stat hym hxm hyd hxd
          subst this
          obtain ⟨a1, a2, rfl⟩ := List.append_of_mem hy
          obtain ⟨z, hz, hzi⟩ := (hx.stat.good a1 y (a2 ++ s :: q2) (by rw [hsp]; simp)).2.1 _ hp2.1
          exact (hx.stat.good (a1 ++ y :: a2) s q2 hsp).1 z (by simp at hz ⊢; simp [hz]) hzi)
        refine ⟨?_, fun h => by rw [h] at hp2; cases hp2.2⟩
        rw [h1]
        exact (ht.rest t (fun y hy hd hyd => by
          have := one_writer hx.stat hy hxm hyd hxd
          subst this
          exact hnd (hcl.anc _ hd _ hxa))).symm
  · have hno : ∀ y ∈ seq, y.o.dst ≠ some t := fun y hy hyd => hw ⟨y, hy, hyd⟩
    have h1 : sq.tm.get t = st0.tm.get t := hrun.keep t (fun y hy => hno y (by rw [hsp]; simp [hy]))
    have h2 : st'.tm.get t = st0.tm.get t := hx.runs.keep t hno
    exact ⟨by rw [h1]; exact (ht.rest t (fun y hy _ => hno y hy)).symm, fun _ => by rw [h1, h2]⟩
theorem opnd_sees {tm tm2 : Tr Value} {o : Oper} (h : ∀ t ∈ looksB ops.toList o, tm.get t = tm2.get t) : ∀ x ∈ o.op.operands, opnd gl tm x = opnd gl tm2 x :=
  fun x hx => opnd_congr (fun t ht => h t (by simp only [looksB, List.mem_append, List.mem_flatMap]; exact .inl ⟨x, by simpa using hx, ht⟩))
theorem goes_sees {tm tm2 : Tr Value} {o : Oper} (h : ∀ t ∈ looksB ops.toList o, tm.get t = tm2.get t) : goesB ops.toList tm o = goesB ops.toList tm2 o := by
  unfold goesB
  cases hg : o.guard with
  | none => rfl
  | some q =>
    obtain ⟨j, want⟩ := q
    simp only
    cases h1 : ops.toList[j]? with
    | none => rfl
    | some g =>
      simp only
      cases h2 : g.dst with
      | none => rfl
      | some d =>
        simp only
        rw [h d (by simp [looksB, hg, h1, h2])]
end
end Go.Proofs.YtkmfihpmjnfbfaaGreatDoor.Run
