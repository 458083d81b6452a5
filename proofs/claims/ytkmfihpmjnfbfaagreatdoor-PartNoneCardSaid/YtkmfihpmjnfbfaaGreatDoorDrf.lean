/-
  Regions of open order: each order that may be drawn.
-/
import Derived.Test.YtkmfihpmjnfbfaaGreatDoorDre
namespace Go.Proofs.YtkmfihpmjnfbfaaGreatDoor.Run
open Go
set_option linter.unusedVariables false
set_option linter.unusedSimpArgs false
section
variable {P : Program} {gl : Gl} {ext : Ext} {call : CallR} {round : RoundR} {ops : Array Oper} {seq : List Slot} {st0 st' : St} {ro : Option Nat} {n : Nat} {Q : Exit → Act → World → Prop}
theorem mem_rest (hs : Stat P ops seq) {pre rest : List Slot} (hsp : seq = pre ++ rest) {s : Slot} (hm : s ∈ seq) (hn : s ∉ pre) : s ∈ rest := by
  rw [hsp] at hm
  rcases List.mem_append.1 hm with h | h
  · exact absurd h hn
  · exact h
/-- An effect, and a new block, that is ready stands at the front. -/
theorem front (hs : Stat P ops seq) {D : Nat → Prop} {pre rest : List Slot} (hsp : seq = pre ++ rest) (hrest : rest = [] ∨ ∃ e r, rest = e :: r ∧ e.cls.isE = true) (hE2 : ∀ s ∈ rest, s.cls.isE = true → ¬ D s.i) {s : Slot} (hm : s ∈ rest)
    (hc : (s.cls.isA || s.cls.isE) = true) (hr : ∀ k, s.anc.testBit k = true → D k) : ∃ r, rest = s :: r := by
  rcases hrest with rfl | ⟨e, r, rfl, hE⟩
  · cases hm
  · rcases List.mem_cons.1 hm with rfl | hm
    · exact ⟨r, rfl⟩
    · obtain ⟨r1, r2, rfl⟩ := List.append_of_mem hm
      have := (hs.good (pre ++ e :: r1) s r2 (by rw [hsp]; simp)).2.2 hc e (by simp) hE
      exact absurd (hr _ this) (hE2 e (by simp) hE)
theorem inv_step (he : ExtOk P ext) (hc : CallOk P gl call) (hrd : RoundOk P gl round) (hn : NG P) (hx : Ctx P ext gl call round ops seq st0 st') {ρ0 : Rn} {w0 : World} (hg : GlOk ρ0 gl) (hro : ro.isSome = true → st0.rd = true) {D : Nat → Prop} {a : Act} {w : World}
    (hi : Inv P ext gl call round ops seq st0 st' ρ0 w0 D a w) {i : Nat} {o : Oper} (ho : ops[i]? = some o) (hnd : ¬ D i) (hr : ∀ e ∈ o.after.toList, Region.binds .any e = true → D e.on) {K : Act → World → Prop}
    (hk : ∀ a' w', Inv P ext gl call round ops seq st0 st' ρ0 w0 (fun k => k = i ∨ D k) a' w' → K a' w') : wpOpIn (F0 ro) n P ops Q i K a w := by
  obtain ⟨hcl, pre, rest, sp, ρ, tm, hsp, hrun, hrest, hE1, hE2, hrel, hfw, htr, htm, hds, hA, hD⟩ := hi
  have hilt : i < ops.size := (Array.getElem?_eq_some_iff.1 ho).1
  obtain ⟨s, hs, rfl⟩ := hx.stat.all i hilt
  obtain ⟨m1, m2, m3⟩ := hx.stat.mem s hs
  rw [ho] at m1
  obtain rfl : s.o = o := (Option.some.inj m1).symm
  obtain ⟨sq, sq1, q1, q2, e1, r1, k1, r2⟩ := Before.exist hx hs
  have hready : ∀ k, s.anc.testBit k = true → D k := fun k hk => ready_anc hcl ho hr k (by rw [← m2]; exact hk)
  have hcl' : Closed ops (fun k => k = s.i ∨ D k) := by
    intro j o' ho' hd e he hb
    rcases hd with rfl | hd
    · rw [ho] at ho'; cases ho'; exact .inr (hr e he hb)
    · exact .inr (hcl j o' ho' hd e he hb)
  have hsee : ∀ t ∈ looksB ops.toList s.o, sq.tm.get t = tm.get t := fun t ht => (sees hx hcl htm e1 r1 hnd hready ht).1
  have hseeR : s.cls.isR = true → ∀ t ∈ looksB ops.toList s.o, st'.tm.get t = tm.get t := fun hR t ht => by rw [← hsee t ht]; exact ((sees hx hcl htm e1 r1 hnd hready ht).2 hR).symm
  have hgoes : goesB ops.toList tm s.o = goesB ops.toList sq.tm s.o := goes_sees (fun t ht => (hsee t ht).symm)
  have hopc : ∀ h, opB P ext gl tm h s.o = opB P ext gl sq.tm h s.o := fun h => opB_congr (opnd_sees (fun t ht => (hsee t ht).symm))
  have hsz := r1.szrd
  have hne : ∀ y ∈ seq, y ≠ s → y.i ≠ s.i := fun y hy h1 h2 => h1 (slot_unique hx.stat hy hs h2)
  have hg' : GlOk ρ gl := hg.mono hfw.sub
  have hrdS := hrun.szrd
  -- the front, where it does not move
  have stay : ∀ {ρ' : Rn} {a' : Act} {w' : World} {tm' : Tr Value}, s.cls.isE = false → Rel P ρ' sp.h w' → Fw ρ0 st0.h w0 ρ' sp.h w' → TR ρ' st0.sz tm' a'.tmps → Tmps seq st0 st' (fun k => k = s.i ∨ D k) tm' → DL ρ' sp.ds a'.defers →
      HA P ext gl call round ops seq st0 pre (fun k => k = s.i ∨ D k) ρ' sp.h → K a' w' := by
    intro ρ' a' w' tm' hE h1 h2 h3 h4 h5 h6
    exact hk a' w' ⟨hcl', pre, rest, sp, ρ', tm', hsp, hrun, hrest, fun y hy hyE => .inr (hE1 y hy hyE), fun y hy hyE => by
      rintro (h | h)
      · have := slot_unique hx.stat (by rw [hsp]; simp [hy]) hs h
        subst this
        rw [hE] at hyE; cases hyE
      · exact hE2 y hy hyE h, h1, h2, h3, h4, h5, h6, fun x hx y hy g1 g2 g3 g4 g5 => hD x hx y hy g1 g2 g3 (fun h => g4 (.inr h)) (fun h => g5 (.inr h))⟩
  have hA' : HA P ext gl call round ops seq st0 pre (fun k => k = s.i ∨ D k) ρ sp.h := fun y hy hyA hyd => hA y hy hyA (fun h => hyd (.inr h))
  -- the front, where it moves
  have move : ∀ {ρ' : Rn} {a' : Act} {w' : World} {tm' : Tr Value} {r : List Slot}, rest = s :: r → s.cls.isE = true → Rel P ρ' sq1.h w' → Fw ρ sp.h w ρ' sq1.h w' → TR ρ' st0.sz tm' a'.tmps → Tmps seq st0 st' (fun k => k = s.i ∨ D k) tm' → DL ρ' sq1.ds a'.defers → K a' w' := by
    intro ρ' a' w' tm' r hrs hE h1 h2 h3 h4 h5
    subst hrs
    obtain ⟨rfl, rfl⟩ := split_unique hx.stat hsp e1
    obtain rfl := hrun.det r1
    refine hk a' w' (advance hx (p0 := pre ++ [s]) (r0 := r) (x := sq1) hcl' (by rw [hsp]; simp) (hrun.append (.cons k1 .nil)) (fun y hy hyE => ?_) (fun y hy hyE => ?_) h1 (hfw.trans h2) h3 h4 h5 ?_ ?_)
    · rcases List.mem_append.1 hy with hy | hy
      · exact .inr (hE1 y hy hyE)
      · simp at hy; subst hy; exact .inl rfl
    · rintro (h | h)
      · have := slot_unique hx.stat (by rw [hsp]; simp [hy]) hs h
        subst this
        obtain ⟨c1, c2, rfl⟩ := List.append_of_mem hy
        exact (hx.stat.good (pre ++ y :: c1) y c2 (by rw [hsp]; simp)).1 y (by simp) rfl
      · exact hE2 y (by simp [hy]) hyE h
    · intro y hy hyA hyd z hz hzg v obj hop
      rcases List.mem_append.1 hy with hy | hy
      · obtain ⟨z1, z2, z3, z4⟩ := hA y hy hyA (fun h => hyd (.inr h)) z hz hzg v obj hop
        have := h2.old _ z3 z1
        exact ⟨this.1, by rw [this.2]; exact z2, Nat.lt_of_lt_of_le z3 h2.next, z4⟩
      · simp at hy; subst hy; exact absurd (.inl rfl) hyd
    · intro x hx y hy g1 g2 g3 g4 g5
      rcases List.mem_append.1 hx with hx | hx
      · rcases List.mem_append.1 hy with hy | hy
        · exact hD x hx y hy g1 g2 g3 (fun h => g4 (.inr h)) (fun h => g5 (.inr h))
        · simp at hy; subst hy; exact absurd (.inl rfl) g5
      · simp at hx; subst hx; exact absurd (.inl rfl) g4
  unfold wpOpIn
  rw [ho]
  simp only
  rw [← goes_ok htr, hgoes]
  cases hgo : goesB ops.toList sq.tm s.o with
  | false =>
    rw [if_neg (by simp)]
    refine ⟨fun f _ => F0_fn ro f, ?_⟩
    have hk1 := k1
    unfold stepB at hk1
    rw [hgo] at hk1
    simp only [cond, Option.map_eq_some_iff] at hk1
    obtain ⟨tm1, h1, h2⟩ := hk1
    have hput : putB st0.sz sq.tm s.o.dst undef = some sq1.tm := by rw [← hsz.2, h1, ← h2]
    obtain ⟨tm', h3, h4⟩ := htm.next hx e1 r2 hput
    have htr' : TR ρ st0.sz tm' (a.put s.o.dst undef).tmps := putB_ok htr (.fl rfl) h3
    cases hE : s.cls.isE with
    | false => exact stay hE hrel hfw htr' h4 (by rw [put_defers]; exact hds) hA'
    | true =>
      have hmr : s ∈ rest := mem_rest hx.stat hsp hs (fun h => hnd (hE1 s h hE))
      obtain ⟨r, hrs⟩ := front hx.stat hsp hrest hE2 hmr (by rw [hE]; simp) hready
      have hsq : sq = sp := by
        subst hrs
        obtain ⟨rfl, rfl⟩ := split_unique hx.stat hsp e1
        exact (hrun.det r1).symm
      subst hsq
      have hh : sq1.h = sq.h ∧ sq1.ds = sq.ds := by rw [← h2]; exact ⟨rfl, rfl⟩
      refine move hrs hE (by rw [hh.1]; exact hrel) (by rw [hh.1]; exact Fw.refl _ _ _) htr' h4 (by rw [put_defers, hh.2]; exact hds)
  | true =>
    rw [if_pos rfl]
    have hk1 := k1
    unfold stepB at hk1
    rw [hgo] at hk1
    simp only [cond, Option.bind_eq_some_iff] at hk1
    obtain ⟨nx, hop, hnx⟩ := hk1
    cases hcls : s.cls with
    | e =>
      obtain ⟨u, hu1, hu2⟩ := nxB_tm hnx
      have hput : putB st0.sz sq.tm s.o.dst u = some sq1.tm := by rw [← hsz.2]; exact hu1
      obtain ⟨tm', h3, h4⟩ := htm.next hx e1 r2 hput
      have hE : s.cls.isE = true := by rw [hcls]; rfl
      have hmr : s ∈ rest := mem_rest hx.stat hsp hs (fun h => hnd (hE1 s h hE))
      obtain ⟨r, hrs⟩ := front hx.stat hsp hrest hE2 hmr (by rw [hE]; simp) hready
      have hsq : sq = sp := by
        subst hrs
        obtain ⟨rfl, rfl⟩ := split_unique hx.stat hsp e1
        exact (hrun.det r1).symm
      subst hsq
      have hS : SR P ρ ⟨tm, sq.h, sq.ds, sq.sz, sq.rd⟩ a w := ⟨by rw [hsz.2]; exact htr, hrel, hds⟩
      have hnx' := hu2 tm tm' (by rw [hsz.2]; exact h3)
      refine opStep_ok (st := ⟨tm, sq.h, sq.ds, sq.sz, sq.rd⟩) he hc hrd hn hg' hS (fun h => by show sq.rd = true; rw [hsz.1]; exact hro h) (by show opB P ext gl tm sq.h s.o = some nx; rw [hopc]; exact hop) hnx' ?_
      intro ρ' a' w' hS' hF
      have := hS'.tm
      simp only [hsz.2] at this
      exact move hrs hE hS'.rel hF this h4 hS'.ds
    | a =>
      have hclsB : clsB P s.o = .a := by rw [← m3]; exact hcls
      have hmp : s ∈ pre := by
        rcases List.mem_append.1 (by rw [← hsp]; exact hs) with h | h
        · exact h
        · obtain ⟨r, hrs⟩ := front hx.stat hsp hrest hE2 h (by rw [hcls]; rfl) hready
          rcases hrest with h0 | ⟨e, r', h0, hE⟩
          · rw [h0] at hrs; cases hrs
          · rw [h0] at hrs; cases hrs; rw [hcls] at hE; cases hE
      obtain ⟨obj, mk, hlive, ha1, ha2⟩ := opB_a hclsB ((hopc sq.h).trans hop)
      have hopq : opB P ext gl sq.tm sq.h s.o = some (.val (mk sq.h.next) (sq.h.new obj)) := by rw [← hopc]; exact ha1 sq.h
      rw [hop] at hopq
      cases hopq
      simp only [nxB, Option.map_eq_some_iff] at hnx
      obtain ⟨tmq, h5, h6⟩ := hnx
      have hput : putB st0.sz sq.tm s.o.dst (mk sq.h.next) = some sq1.tm := by rw [← hsz.2, h5, ← h6]
      obtain ⟨tm', h3, h4⟩ := htm.next hx e1 r2 hput
      have hsA : s.cls.isA = true := by rw [hcls]; rfl
      have hbef : Before P ext gl call round ops seq st0 s sq := ⟨q1, q2, e1, r1⟩
      obtain ⟨z1, z2, z3, z4⟩ := hA s hmp hsA hnd sq hbef hgo _ obj hop
      obtain ⟨x, mk', hx1, hx2, hx3⟩ := ha2 ρ st0.sz a w hg' htr
      have hsub := Sub.ext z1 w.heap.size 0
      have hlate := hrel.late (x := x) z1 z3 z2 (hx2 _ hsub)
      have hflate := hfw.late (x := x) z1 z4 hrel
      refine ⟨fun f _ => F0_fn ro f, ?_⟩
      have hsem : s.o.semAt (F0 ro).round a.eval = execOp a.eval s.o := Oper.semAt_eq _ _ _ (fun c hc => by
        have : clsB P s.o = .e := by unfold clsB; rw [hc]
        rw [this] at hclsB; cases hclsB)
      rw [hsem, hx1]
      have hE : s.cls.isE = false := by rw [hcls]; rfl
      refine stay (tm' := tm') hE hlate hflate (putB_ok (htr.mono hsub) (hx3 _ _ _ newCells_ptr) h3) h4 (by rw [put_defers]; exact hds.mono hsub) ?_
      intro y hy hyA hyd z hz hzg v2 obj2 hop2
      have hyD : ¬ D y.i := fun h => hyd (.inr h)
      have hys : s ≠ y := fun h => hyd (.inl (by rw [h]))
      obtain ⟨g1, g2, g3, g4⟩ := hA y hy hyA hyD z hz hzg v2 obj2 hop2
      have hne2 := hD s hmp y hy hys hsA hyA hnd hyD sq z hbef hz hgo hzg
      refine ⟨?_, g2, g3, g4⟩
      show (if z.h.next = sq.h.next then _ else _) = _
      rw [if_neg (fun h => hne2 h.symm)]
      exact g1
    | p =>
      have hclsB : clsB P s.o = .p := by rw [← m3]; exact hcls
      obtain ⟨v, rfl, hp2⟩ := opB_p hclsB hop
      simp only [nxB, Option.map_eq_some_iff] at hnx
      obtain ⟨tmq, h5, h6⟩ := hnx
      have hput : putB st0.sz sq.tm s.o.dst v = some sq1.tm := by rw [← hsz.2, h5, ← h6]
      obtain ⟨tm', h3, h4⟩ := htm.next hx e1 r2 hput
      have hE : s.cls.isE = false := by rw [hcls]; rfl
      have hS : SR P ρ ⟨tm, sp.h, sp.ds, st0.sz, st0.rd⟩ a w := ⟨htr, hrel, hds⟩
      refine opStep_ok (st := ⟨tm, sp.h, sp.ds, st0.sz, st0.rd⟩) (st' := ⟨tm', sp.h, sp.ds, st0.sz, st0.rd⟩) (nx := .val v sp.h) he hc hrd hn hg' hS hro (by show opB P ext gl tm sp.h s.o = _; rw [hopc]; exact hp2 sp.h) (by simp only [nxB]; rw [h3]; rfl) ?_
      intro ρ' a' w' hS' hF
      refine stay hE hS'.rel (hfw.trans hF) hS'.tm h4 hS'.ds ?_
      intro y hy hyA hyd z hz hzg v2 obj2 hop2
      obtain ⟨g1, g2, g3, g4⟩ := hA y hy hyA (fun h => hyd (.inr h)) z hz hzg v2 obj2 hop2
      exact ⟨(hF.old _ g3 g1).1, g2, g3, g4⟩
    | r =>
      have hclsB : clsB P s.o = .r := by rw [← m3]; exact hcls
      obtain ⟨v, rfl⟩ := opB_r hclsB hop
      simp only [nxB, Option.map_eq_some_iff] at hnx
      obtain ⟨tmq, h5, h6⟩ := hnx
      have hput : putB st0.sz sq.tm s.o.dst v = some sq1.tm := by rw [← hsz.2, h5, ← h6]
      obtain ⟨tm', h3, h4⟩ := htm.next hx e1 r2 hput
      have hE : s.cls.isE = false := by rw [hcls]; rfl
      have hR : s.cls.isR = true := by rw [hcls]; rfl
      have hlook := hseeR hR
      have hgo2 : goesB ops.toList st'.tm s.o = true := by rw [goes_sees hlook, hgoes]; exact hgo
      have hmay : mayB s (effs pre) (effs rest) = true := by
        simp only [mayB, Bool.and_eq_true, List.all_eq_true, Bool.not_eq_true']
        refine ⟨fun e hem => ?_, fun e hem => ?_⟩
        · obtain ⟨k3, k4⟩ := List.mem_filter.1 hem
          cases hq : e.anc.testBit s.i with
          | false => rfl
          | true =>
            have hem2 : e ∈ seq := by rw [hsp]; simp [k3]
            exact absurd (hcl.anc _ (hE1 e k3 k4) _ (by rw [← (hx.stat.mem e hem2).2.1]; exact hq)) hnd
        · obtain ⟨k3, k4⟩ := List.mem_filter.1 hem
          cases hq : s.anc.testBit e.i with
          | false => rfl
          | true => exact absurd (hready _ hq) (hE2 e k3 k4)
      have hread := hx.reads pre rest sp s hsp hrun hrest hs hR hgo2 hmay
      unfold readAt at hread
      have hopr : opB P ext gl st'.tm sp.h s.o = opB P ext gl tm sp.h s.o := opB_congr (opnd_sees hlook)
      rw [hopr] at hread
      cases hop2 : opB P ext gl tm sp.h s.o with
      | none => rw [hop2] at hread; cases hread
      | some nx2 =>
        obtain ⟨v2, rfl⟩ := opB_r hclsB hop2
        rw [hop2] at hread
        simp only at hread
        have h3' : putB st0.sz tm s.o.dst v2 = some tm' := by
          cases hd : s.o.dst with
          | none => rw [hd] at h3; exact h3
          | some d =>
            rw [hd] at hread h3 hput
            simp only at hread
            have hq1 : sq1.tm.get d = some v := by
              obtain ⟨_, _, z3, _⟩ := putB_other (tm2 := sq.tm) hput
              exact (z3 d rfl).2
            have hq2 : st'.tm.get d = sq1.tm.get d := r2.keep d (fun y hym hyt => by
              have hys : y ∈ seq := by rw [e1]; simp [hym]
              have := one_writer hx.stat hys hs hyt hd
              subst this
              obtain ⟨c1, c2, rfl⟩ := List.append_of_mem hym
              exact (hx.stat.good (q1 ++ y :: c1) y c2 (by rw [e1]; simp)).1 y (by simp) rfl)
            rw [hq2, hq1] at hread
            rw [sameW_eq hread]
            exact h3
        have hS : SR P ρ ⟨tm, sp.h, sp.ds, st0.sz, st0.rd⟩ a w := ⟨htr, hrel, hds⟩
        refine opStep_ok (st := ⟨tm, sp.h, sp.ds, st0.sz, st0.rd⟩) (st' := ⟨tm', sp.h, sp.ds, st0.sz, st0.rd⟩) (nx := .val v2 sp.h) he hc hrd hn hg' hS hro hop2 (by simp only [nxB]; rw [h3']; rfl) ?_
        intro ρ' a' w' hS' hF
        refine stay hE hS'.rel (hfw.trans hF) hS'.tm h4 hS'.ds ?_
        intro y hy hyA hyd z hz hzg v2 obj2 hop2
        obtain ⟨g1, g2, g3, g4⟩ := hA y hy hyA (fun h => hyd (.inr h)) z hz hzg v2 obj2 hop2
        exact ⟨(hF.old _ g3 g1).1, g2, g3, g4⟩
end
end Go.Proofs.YtkmfihpmjnfbfaaGreatDoor.Run
