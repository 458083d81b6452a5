/-
  Regions of open order: the induction.
-/
import Derived.Test.YtkmfihpmjnfbfaaGreatDoorDrd
namespace Go.Proofs.YtkmfihpmjnfbfaaGreatDoor.Run
open Go
set_option linter.unusedVariables false
set_option linter.unusedSimpArgs false
theorem firstE : ∀ (l : List Slot), ∃ mid rest, l = mid ++ rest ∧ (∀ s ∈ mid, s.cls.isE = false) ∧ (rest = [] ∨ ∃ e r, rest = e :: r ∧ e.cls.isE = true)
  | [] => ⟨[], [], rfl, by simp, .inl rfl⟩
  | s :: l => by
    cases hE : s.cls.isE with
    | true => exact ⟨[], s :: l, rfl, by simp, .inr ⟨s, l, rfl, hE⟩⟩
    | false =>
      obtain ⟨mid, rest, h1, h2, h3⟩ := firstE l
      refine ⟨s :: mid, rest, by rw [h1]; rfl, fun x hx => ?_, h3⟩
      rcases List.mem_cons.1 hx with rfl | hx
      · exact hE
      · exact h2 x hx
section
variable {P : Program} {gl : Gl} {ext : Ext} {call : CallR} {round : RoundR} {ops : Array Oper} {seq : List Slot} {st0 st' : St}
/-- New blocks that are not laid yet. -/
def HA (P : Program) (ext : Ext) (gl : Gl) (call : CallR) (round : RoundR) (ops : Array Oper) (seq : List Slot) (st0 : St) (pre : List Slot) (D : Nat → Prop) (ρ : Rn) (h : AH) : Prop :=
  ∀ s ∈ pre, s.cls.isA = true → ¬ D s.i → ∀ sq, Before P ext gl call round ops seq st0 s sq → goesB ops.toList sq.tm s.o = true → ∀ v obj, opB P ext gl sq.tm sq.h s.o = some (.val v (sq.h.new obj)) →
    ρ sq.h.next = none ∧ h.get sq.h.next = some obj ∧ sq.h.next < h.next ∧ st0.h.next ≤ sq.h.next
/-- Their numbers are not one. -/
def HD (P : Program) (ext : Ext) (gl : Gl) (call : CallR) (round : RoundR) (ops : Array Oper) (seq : List Slot) (st0 : St) (pre : List Slot) (D : Nat → Prop) : Prop :=
  ∀ s ∈ pre, ∀ y ∈ pre, s ≠ y → s.cls.isA = true → y.cls.isA = true → ¬ D s.i → ¬ D y.i → ∀ sq z, Before P ext gl call round ops seq st0 s sq → Before P ext gl call round ops seq st0 y z → goesB ops.toList sq.tm s.o = true → goesB ops.toList z.tm y.o = true →
    sq.h.next ≠ z.h.next
def Inv (P : Program) (ext : Ext) (gl : Gl) (call : CallR) (round : RoundR) (ops : Array Oper) (seq : List Slot) (st0 st' : St) (ρ0 : Rn) (w0 : World) (D : Nat → Prop) (a : Act) (w : World) : Prop :=
  Closed ops D ∧ ∃ (pre rest : List Slot) (sp : St) (ρ : Rn) (tm : Tr Value), seq = pre ++ rest ∧ Runs P ext gl call round ops.toList pre st0 sp ∧ (rest = [] ∨ ∃ e r, rest = e :: r ∧ e.cls.isE = true) ∧ (∀ s ∈ pre, s.cls.isE = true → D s.i) ∧ (∀ s ∈ rest, s.cls.isE = true → ¬ D s.i) ∧
    Rel P ρ sp.h w ∧ Fw ρ0 st0.h w0 ρ sp.h w ∧ TR ρ st0.sz tm a.tmps ∧ Tmps seq st0 st' D tm ∧ DL ρ sp.ds a.defers ∧ HA P ext gl call round ops seq st0 pre D ρ sp.h ∧ HD P ext gl call round ops seq st0 pre D
/-- From behind an effect on to the next one. -/
theorem advance (hx : Ctx P ext gl call round ops seq st0 st') {ρ0 : Rn} {w0 : World} {D : Nat → Prop} {a : Act} {w : World} {p0 r0 : List Slot} {x : St} {ρ : Rn} {tm : Tr Value} (hcl : Closed ops D) (hs : seq = p0 ++ r0) (hrun : Runs P ext gl call round ops.toList p0 st0 x)
    (hE1 : ∀ s ∈ p0, s.cls.isE = true → D s.i) (hE2 : ∀ s ∈ r0, s.cls.isE = true → ¬ D s.i) (hrel : Rel P ρ x.h w) (hfw : Fw ρ0 st0.h w0 ρ x.h w) (htr : TR ρ st0.sz tm a.tmps) (ht : Tmps seq st0 st' D tm) (hds : DL ρ x.ds a.defers)
    (hA : HA P ext gl call round ops seq st0 p0 D ρ x.h) (hD : HD P ext gl call round ops seq st0 p0 D) : Inv P ext gl call round ops seq st0 st' ρ0 w0 D a w := by
  obtain ⟨mid, rest, h1, h2, h3⟩ := firstE r0
  subst h1
  have hruns := hx.runs
  rw [hs] at hruns
  obtain ⟨m, k1, k2⟩ := hruns.split
  obtain rfl := hrun.det k1
  obtain ⟨sp, k3, k4⟩ := k2.split
  have hcm : ∀ s ∈ mid, (clsB P s.o).isE = false := fun s hm => by rw [← (hx.stat.mem s (by rw [hs]; simp [hm])).2.2]; exact h2 s hm
  obtain ⟨c1, c2, c3⟩ := k3.calm hcm
  refine ⟨hcl, p0 ++ mid, rest, sp, ρ, tm, by rw [hs]; simp, hrun.append k3, h3, fun s hm hE => ?_, fun s hm => hE2 s (by simp [hm]), hrel.grow c3 c2, hfw.grow hrel c3 c2, htr, ht, by rw [c1]; exact hds, ?_, ?_⟩
  · rcases List.mem_append.1 hm with hm | hm
    · exact hE1 s hm hE
    · rw [h2 s hm] at hE; cases hE
  · intro s hm hsA hnd sq hb hg v obj hop
    rcases List.mem_append.1 hm with hm | hm
    · obtain ⟨z1, z2, z3, z4⟩ := hA s hm hsA hnd sq hb hg v obj hop
      exact ⟨z1, by rw [c3 _ z3]; exact z2, Nat.lt_of_lt_of_le z3 c2, z4⟩
    · obtain ⟨m1, m2, rfl⟩ := List.append_of_mem hm
      obtain ⟨q1, q2, e1, r1⟩ := hb
      obtain ⟨rfl, rfl⟩ := split_unique hx.stat (q1 := p0 ++ m1) (q2 := m2 ++ rest) (by rw [hs]; simp) e1
      obtain ⟨m, r2, r3⟩ := r1.split
      obtain rfl := hrun.det r2
      have hc1 := r3.calm (fun s hm => hcm s (by simp [hm]))
      obtain ⟨u, r4, r5⟩ := Runs.split (l1 := m1) (l2 := s :: m2) (by simpa using k3)
      obtain rfl := r3.det r4
      cases r5 with
      | cons r5 r6 =>
        rename_i sq1
        have hsc := stepB_calm (hcm s (by simp)) r5
        have hc2 := r6.calm (fun s hm => hcm s (by simp [hm]))
        have hh : sq1.h = sq.h.new obj := by
          rcases hsc.2.2.2 with ⟨k, _⟩ | ⟨_, v', h', k, k', _⟩
          · rw [hg] at k; cases k
          · rw [hop] at k; cases k; exact k'
        have hlt : sq.h.next < sq1.h.next := by rw [hh]; exact Nat.lt_succ_self _
        refine ⟨hrel.none hc1.2.1, ?_, Nat.lt_of_lt_of_le hlt hc2.2.1, Nat.le_trans hfw.next hc1.2.1⟩
        rw [hc2.2.2 _ hlt, hh, AH.get_new, if_pos rfl]
  · have inMid : ∀ (s : Slot) (m1 m2 : List Slot) (sq : St), mid = m1 ++ s :: m2 → Before P ext gl call round ops seq st0 s sq → Runs P ext gl call round ops.toList m1 x sq := by
      intro s m1 m2 sq hm hb
      obtain ⟨q1, q2, e1, r1⟩ := hb
      obtain ⟨rfl, rfl⟩ := split_unique hx.stat (q1 := p0 ++ m1) (q2 := m2 ++ rest) (by rw [hs, hm]; simp) e1
      obtain ⟨m, r2, r3⟩ := r1.split
      obtain rfl := hrun.det r2
      exact r3
    have later : ∀ (s y : Slot) (m1 m2 m3 : List Slot) (sq z : St), mid = m1 ++ s :: (m2 ++ y :: m3) → s.cls.isA = true → Before P ext gl call round ops seq st0 s sq → Before P ext gl call round ops seq st0 y z → goesB ops.toList sq.tm s.o = true → sq.h.next < z.h.next := by
      intro s y m1 m2 m3 sq z hm hsA hb hb2 hg
      have r1 := inMid s m1 _ sq hm hb
      have r2 := inMid y (m1 ++ s :: m2) m3 z (by rw [hm]; simp) hb2
      obtain ⟨u, r3, r4⟩ := r2.split
      obtain rfl := r1.det r3
      cases r4 with
      | cons r4 r5 =>
        rename_i sq1
        have hcl2 : clsB P s.o = .a := by
          rw [← (hx.stat.mem s (by rw [hs, hm]; simp)).2.2]
          cases hq : s.cls <;> rw [hq] at hsA <;> first | rfl | cases hsA
        have hsc := stepB_calm (by rw [hcl2]; rfl) r4
        have hc2 := r5.calm (fun y hy => hcm y (by rw [hm]; simp [hy]))
        rcases hsc.2.2.2 with ⟨k, _⟩ | ⟨_, v', h', k, k', _⟩
        · rw [hg] at k; cases k
        · obtain ⟨obj, mk, _, ha, _⟩ := opB_a hcl2 k
          have hk := ha sq.h
          rw [k] at hk
          cases hk
          have : sq.h.next < sq1.h.next := by rw [k']; exact Nat.lt_succ_self _
          exact Nat.lt_of_lt_of_le this hc2.2.1
    intro s hm y hym hsy hsA hyA hnd hndy sq z hb hb2 hg hg2
    have opNew : ∀ (s : Slot), s ∈ seq → s.cls.isA = true → ∀ sq, Before P ext gl call round ops seq st0 s sq → goesB ops.toList sq.tm s.o = true → ∃ v obj, opB P ext gl sq.tm sq.h s.o = some (.val v (sq.h.new obj)) := by
      intro s hss hsA sq hb hg
      obtain ⟨sq', sq1, a1, a2, g1, g2, g3, g4⟩ := Before.exist hx hss
      obtain rfl := Before.det hx.stat hb ⟨a1, a2, g1, g2⟩
      have hcl2 : clsB P s.o = .a := by
        rw [← (hx.stat.mem s hss).2.2]
        cases hq : s.cls <;> rw [hq] at hsA <;> first | rfl | cases hsA
      have hsc := stepB_calm (by rw [hcl2]; rfl) g3
      rcases hsc.2.2.2 with ⟨k, _⟩ | ⟨_, v', h', k, k', _⟩
      · rw [hg] at k; cases k
      · obtain ⟨obj, mk, _, ha, _⟩ := opB_a hcl2 k
        exact ⟨_, obj, ha sq.h⟩
    have inSeq : ∀ y, y ∈ p0 ++ mid → y ∈ seq := fun y hy => by rw [hs]; simp at hy ⊢; rcases hy with h | h <;> simp [h]
    rcases List.mem_append.1 hm with hm | hm
    · rcases List.mem_append.1 hym with hym | hym
      · exact hD s hm y hym hsy hsA hyA hnd hndy sq z hb hb2 hg hg2
      · obtain ⟨v, obj, hop⟩ := opNew s (inSeq s (by simp [hm])) hsA sq hb hg
        have h1 := (hA s hm hsA hnd sq hb hg v obj hop).2.2.1
        obtain ⟨m1, m2, hm2⟩ := List.append_of_mem hym
        have h2 := (inMid y m1 m2 z hm2 hb2).calm (fun s hm => hcm s (by rw [hm2]; simp [hm]))
        have := h2.2.1
        omega
    · rcases List.mem_append.1 hym with hym | hym
      · obtain ⟨v, obj, hop⟩ := opNew y (inSeq y (by simp [hym])) hyA z hb2 hg2
        have h1 := (hA y hym hyA hndy z hb2 hg2 v obj hop).2.2.1
        obtain ⟨m1, m2, hm2⟩ := List.append_of_mem hm
        have h2 := (inMid s m1 m2 sq hm2 hb).calm (fun s hm => hcm s (by rw [hm2]; simp [hm]))
        have := h2.2.1
        omega
      · obtain ⟨m1, m2, hm2⟩ := List.append_of_mem hm
        rw [hm2] at hym
        rcases List.mem_append.1 hym with hy | hy
        · obtain ⟨c1, c2, rfl⟩ := List.append_of_mem hy
          have := later y s c1 c2 m2 z sq (by rw [hm2]; simp) hyA hb2 hb hg2
          omega
        · rcases List.mem_cons.1 hy with hy | hy
          · exact absurd hy.symm hsy
          · obtain ⟨c1, c2, rfl⟩ := List.append_of_mem hy
            have := later s y m1 c1 c2 sq z hm2 hsA hb hb2 hg
            omega
theorem nxB_tm {dst : Option Tmp} {st st1 : St} {nx : Nx} (e : nxB call round dst st nx = some st1) : ∃ u, putB st.sz st.tm dst u = some st1.tm ∧ ∀ tm2 tm2', putB st.sz tm2 dst u = some tm2' → nxB call round dst ⟨tm2, st.h, st.ds, st.sz, st.rd⟩ nx = some ⟨tm2', st1.h, st1.ds, st.sz, st.rd⟩ := by
  cases nx with
  | val v h => simp only [nxB, Option.map_eq_some_iff] at e; obtain ⟨_, h1, rfl⟩ := e; exact ⟨v, h1, fun tm2 tm2' h2 => by simp only [nxB]; rw [h2]; rfl⟩
  | call f l => simp only [nxB, Option.bind_eq_some_iff, Option.map_eq_some_iff] at e; obtain ⟨⟨v, h⟩, h0, _, h1, rfl⟩ := e; exact ⟨v, h1, fun tm2 tm2' h2 => by simp only [nxB]; rw [h0]; simp only [Option.bind_some]; rw [h2]; rfl⟩
  | round f l => simp only [nxB, Option.bind_eq_some_iff, Option.map_eq_some_iff] at e; obtain ⟨⟨v, h⟩, h0, _, h1, rfl⟩ := e; exact ⟨v, h1, fun tm2 tm2' h2 => by simp only [nxB]; rw [h0]; simp only [Option.bind_some]; rw [h2]; rfl⟩
  | defer f l =>
    cases hr : st.rd with
    | true => simp [nxB, hr] at e
    | false => simp only [nxB, hr, cond, Option.map_eq_some_iff] at e; obtain ⟨_, h1, rfl⟩ := e; exact ⟨undef, h1, fun tm2 tm2' h2 => by simp only [nxB, cond]; rw [h2]; rfl⟩
theorem putB_other {sz : Nat} {tm tm' tm2 : Tr Value} {dst : Option Tmp} {u : Value} (h : putB sz tm dst u = some tm') : ∃ tm2', putB sz tm2 dst u = some tm2' ∧ (∀ t, dst = some t → tm2'.get t = some u ∧ tm'.get t = some u) ∧ ∀ t, dst ≠ some t → tm2'.get t = tm2.get t := by
  cases dst with
  | none => exact ⟨tm2, rfl, fun t e => (by cases e), fun _ _ => rfl⟩
  | some d =>
    simp only [putB] at h
    cases hb : Nat.blt d sz with
    | false => rw [hb] at h; cases h
    | true =>
      rw [hb] at h; cases h
      refine ⟨tm2.put d u, by simp only [putB]; rw [hb]; rfl, fun t e => ?_, fun t e => ?_⟩
      · cases e; exact ⟨by rw [Tr.get_put, if_pos rfl], by rw [Tr.get_put, if_pos rfl]⟩
      · rw [Tr.get_put, if_neg (fun k => e (by rw [k]))]
/-- Temporaries, one operation on. -/
theorem Tmps.next (hx : Ctx P ext gl call round ops seq st0 st') {D : Nat → Prop} {tm : Tr Value} (ht : Tmps seq st0 st' D tm) {s : Slot} {q1 q2 : List Slot} {sq1 : St} (hsp : seq = q1 ++ s :: q2) (hrun2 : Runs P ext gl call round ops.toList q2 sq1 st') {tm0 : Tr Value} {u : Value} (hput : putB st0.sz tm0 s.o.dst u = some sq1.tm) :
    ∃ tm', putB st0.sz tm s.o.dst u = some tm' ∧ Tmps seq st0 st' (fun k => k = s.i ∨ D k) tm' := by
  obtain ⟨tm', h1, h2, h3⟩ := putB_other (tm2 := tm) hput
  have hs : s ∈ seq := by rw [hsp]; simp
  refine ⟨tm', h1, fun y hy hd t hyt => ?_, fun t hno => ?_⟩
  · rcases hd with hd | hd
    · have := slot_unique hx.stat hy hs hd
      subst this
      obtain ⟨z1, z2⟩ := h2 t hyt
      have : st'.tm.get t = sq1.tm.get t := hrun2.keep t (fun x hxm hxt => by
        have hxs : x ∈ seq := by rw [hsp]; simp [hxm]
        have := one_writer hx.stat hxs hy hxt hyt
        subst this
        obtain ⟨c1, c2, rfl⟩ := List.append_of_mem hxm
        exact (hx.stat.good (q1 ++ x :: c1) x c2 (by rw [hsp]; simp)).1 x (by simp) rfl)
      rw [this, z1, z2]
    · by_cases hq : s.o.dst = some t
      · have := one_writer hx.stat hy hs hyt hq
        subst this
        obtain ⟨z1, z2⟩ := h2 t hyt
        have : st'.tm.get t = sq1.tm.get t := hrun2.keep t (fun x hxm hxt => by
          have hxs : x ∈ seq := by rw [hsp]; simp [hxm]
          have := one_writer hx.stat hxs hy hxt hyt
          subst this
          obtain ⟨c1, c2, rfl⟩ := List.append_of_mem hxm
          exact (hx.stat.good (q1 ++ x :: c1) x c2 (by rw [hsp]; simp)).1 x (by simp) rfl)
        rw [this, z1, z2]
      · rw [h3 t hq]; exact ht.done y hy hd t hyt
  · rw [h3 t (hno s hs (.inl rfl))]
    exact ht.rest t (fun y hy hd => hno y hy (.inr hd))
end
end Go.Proofs.YtkmfihpmjnfbfaaGreatDoor.Run
