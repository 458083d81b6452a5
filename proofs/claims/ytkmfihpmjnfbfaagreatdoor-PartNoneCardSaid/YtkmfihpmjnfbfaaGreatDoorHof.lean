/-
  Closed calls, taken as given in another run: what they answer, flat, or one new row.
-/
import Derived.Test.YtkmfihpmjnfbfaaGreatDoorPan
namespace Go.Proofs.YtkmfihpmjnfbfaaGreatDoor.Run
open Go
set_option linter.unusedVariables false
set_option linter.unusedSimpArgs false
/-- Flat, or several such. -/
def flat2 : Value → Bool
  | .tuple vs => vs.toList.all flat
  | v => flat v
theorem l2_refl {ρ : Rn} : ∀ l : List Value, l.all flat = true → L2 ρ l l
  | [], _ => .nil
  | v :: l, h => by simp only [List.all_cons, Bool.and_eq_true] at h; exact .cons (.fl h.1) (l2_refl l h.2)
theorem vr_refl2 {ρ : Rn} {v : Value} (h : flat2 v = true) : VR ρ v v := by
  cases v with
  | tuple vs => exact .tuple rfl (fun i a b e e' => by rw [e] at e'; cases e'; exact .fl (List.all_eq_true.1 h _ (by simpa using Array.mem_of_getElem? e)))
  | _ => exact .fl h
theorem vr_eq2 {ρ : Rn} {v v' : Value} (hv : VR ρ v v') (h : flat2 v = true) : v' = v := by
  cases v with
  | tuple vs =>
    obtain ⟨vs', rfl, hl⟩ := hv.tupleInv
    have := l2_flat hl h
    congr 1
    exact Array.ext' this
  | _ => exact hv.eq_of_flat h
/-- Are lists alike, sums of parts too? -/
def sameLW : List Value → List Value → Bool
  | [], [] => true
  | a :: l, b :: m => sameW a b && sameLW l m
  | _, _ => false
theorem sameLW_eq : ∀ {l m : List Value}, sameLW l m = true → l = m
  | [], [], _ => rfl
  | [], _ :: _, h => by cases h
  | _ :: _, [], h => by cases h
  | a :: l, b :: m, h => by
    simp only [sameLW, Bool.and_eq_true] at h
    rw [sameW_eq h.1, sameLW_eq h.2]
/-- Function f of these arguments: this answer, and nothing turns. -/
def hkF (f : FuncId) (args : List Value) (v : Value) : CallR := fun g a h => cond (Nat.beq g f && sameLW a args) (some (v, h)) none
/-- One contract, or another. -/
def hkOr (a b : CallR) : CallR := fun f args h => match a f args h with
  | some r => some r
  | none => b f args h
theorem hkOr_ok {P : Program} {gl : Gl} {a b : CallR} (h1 : CallOk P gl a) (h2 : CallOk P gl b) : CallOk P gl (hkOr a b) := by
  intro n f args args' ρ h w v h' hg hr ha e
  unfold hkOr at e
  split at e
  · rename_i r hr1
    cases e
    exact h1 n f args args' ρ h w v h' hg hr ha hr1
  · exact h2 n f args args' ρ h w v h' hg hr ha e
section
variable {P : Program} {gl gl' : Gl} {ext : Ext} {dfr : Dfr} {hk : CallR}
theorem hkF_ok (hkok : CallOk P gl hk) (hm : P.follows .mixedOrders = true) (he : ExtOk P ext) (hn : NG P) (hd : DfrOk P dfr) {m : Nat} {f : FuncId} {args : List Value} {v : Value}
    (hgN : GlOk ρN gl) (hfa : args.all flat = true) (hfv : flat2 v = true) (e : (callQ P ext dfr hk gl m f args hN).map (·.1) = some v) : CallOk P gl' (hkF f args v) := by
  rw [callQ_eq] at e
  obtain ⟨⟨v0, h2⟩, e0, hv0⟩ := Option.map_eq_some_iff.1 e
  simp only at hv0
  subst hv0
  intro n g a a' ρ h w v' h' hg hr ha e1
  unfold hkF at e1
  cases hb : (Nat.beq g f && sameLW a args) with
  | false => rw [hb] at e1; cases e1
  | true =>
    rw [hb] at e1
    cases e1
    simp only [Bool.and_eq_true] at hb
    obtain rfl := beq_true hb.1
    obtain rfl := sameLW_eq hb.2
    have hl : L2 ρN a a'.toList := by rw [l2_flat ha hfa]; exact l2_refl a hfa
    obtain ⟨k1, k2⟩ := run_ok hkok hm he hn hd m n g a a' ρN hN w _ h2 hgN relN hl e0
    refine ⟨k1.mono ?_, k2⟩
    rintro en W' ⟨v2, ρ', rfl, hv, hrel, hf⟩
    exact ⟨v0, ρ, by rw [vr_eq2 hv hfv], vr_refl2 hfv, hr.kept (fun j hj => hf.keep j hj (fun b e => by cases e)) hf.size, Fw.far hr hf⟩
/-- Function f of these arguments: a new row of n elements, cells l, and x. -/
def hkS (f : FuncId) (args : List Value) (el : TypeId) (n : Nat) (l : List Value) (x : Value) : CallR := fun g a h => cond (Nat.beq g f && sameLW a args) (some (.tuple #[.slice (some ⟨h.next, 0, none⟩) n UNK, x], newCells h el l)) none
/-- Is that what a run answered? -/
def isRow (el : TypeId) (n : Nat) (l : List Value) (x : Value) (r : Value × AH) : Bool :=
  match r.1 with
  | .tuple vs => (match vs.toList with
    | [.slice (some ⟨b, 0, none⟩) m c, y] => (match r.2.get b with
      | some (.cells e' k c' false) => Nat.beq m n && Nat.beq c UNK && sameV y x && Nat.beq e' el && Nat.beq k l.length && (match rdCells c' 0 k with | some l' => sameL l' l | none => false)
      | _ => false)
    | _ => false)
  | _ => false
theorem rdCells_at : ∀ (k : Nat) (c : Tr Value) (o : Nat) (l : List Value), rdCells c o k = some l → l.length = k ∧ ∀ i, i < k → c.get (o + i) = l[i]?
  | 0, c, o, l, e => by simp only [rdCells] at e; cases e; exact ⟨rfl, fun i h => by omega⟩
  | k + 1, c, o, l, e => by
    simp only [rdCells, Option.bind_eq_some_iff, Option.map_eq_some_iff] at e
    obtain ⟨v, e1, l', e2, rfl⟩ := e
    obtain ⟨h1, h2⟩ := rdCells_at k c (o + 1) l' e2
    refine ⟨by simp [h1], fun i hi => ?_⟩
    cases i with
    | zero => simpa using e1
    | succ i => rw [show o + (i + 1) = o + 1 + i by omega, h2 i (by omega)]; simp
theorem hkS_ok (hkok : CallOk P gl hk) (hm : P.follows .mixedOrders = true) (he : ExtOk P ext) (hn : NG P) (hd : DfrOk P dfr) {m : Nat} {f : FuncId} {args : List Value} {el : TypeId} {n0 : Nat} {l : List Value} {x : Value}
    (hgN : GlOk ρN gl) (hfa : args.all flat = true) (hfl : l.all flat = true) (hfx : flat x = true) (e : (callQ P ext dfr hk gl m f args hN).map (isRow el n0 l x) = some true) : CallOk P gl' (hkS f args el n0 l x) := by
  rw [callQ_eq] at e
  obtain ⟨⟨v0, h2⟩, e0, hv0⟩ := Option.map_eq_some_iff.1 e
  unfold isRow at hv0
  simp only at hv0
  split at hv0
  · rename_i vs
    split at hv0
    · rename_i b mm c y hvs
      split at hv0
      · rename_i e' k c' hget
        simp only [Bool.and_eq_true] at hv0
        obtain ⟨⟨⟨⟨⟨q1, q2⟩, q3⟩, q4⟩, q5⟩, q6⟩ := hv0
        obtain rfl := beq_true q1
        have q2 := beq_true q2
        obtain rfl := sameV_eq q3
        obtain rfl := beq_true q4
        have q5 := beq_true q5
        split at q6
        · rename_i l' hrd
          obtain rfl := sameL_eq q6
          obtain ⟨hlen, hat⟩ := rdCells_at k c' 0 l' hrd
          intro n g a a' ρ h w v' h' hg hr ha e1
          unfold hkS at e1
          cases hb : (Nat.beq g f && sameLW a args) with
          | false => rw [hb] at e1; cases e1
          | true =>
            rw [hb] at e1
            cases e1
            simp only [Bool.and_eq_true] at hb
            obtain rfl := beq_true hb.1
            obtain rfl := sameLW_eq hb.2
            have hl : L2 ρN a a'.toList := by rw [l2_flat ha hfa]; exact l2_refl a hfa
            obtain ⟨k1, k2⟩ := run_ok hkok hm he hn hd m n g a a' ρN hN w _ h2 hgN relN hl e0
            refine ⟨k1.mono ?_, k2⟩
            rintro en W' ⟨v2, ρ', rfl, hv, hrel, hf⟩
            obtain ⟨vs', rfl, hvl⟩ := hv.tupleInv
            rw [hvs] at hvl
            obtain ⟨vs'⟩ := vs'
            cases hvl with
            | cons g1 g2 =>
              cases g2 with
              | cons g3 g4 =>
                cases g4
                have hy := g3.eq_of_flat hfx
                subst hy
                rcases g1.sliceInv with ⟨j, cc, j1, rfl, j2, j3⟩ | ⟨j0, _⟩
                · have hcap : cc ≤ ρ'.k b := by
                    rcases j2 with ⟨rfl, j4⟩ | ⟨_, j4⟩
                    · omega
                    · exact j4 rfl
                  have hjw : w.heap.size ≤ j := by
                    rcases hf.new b j j1 with h | ⟨b0, h⟩
                    · exact h
                    · cases h
                  obtain ⟨ob, ho1, ho2⟩ := hrel.obj b j _ j1 hget trivial
                  have hjs := (hrel.dom b j j1).2
                  cases ho2 with
                  | cells s1 s2 s3 s4 =>
                    rename_i cs lo hi
                    have hkeep : ∀ i, i < w.heap.size → W'.heap[i]? = w.heap[i]? := fun i hi => hf.keep i hi (fun b e => by cases e)
                    have hn0 := hr.none (Nat.le_refl h.next)
                    have hs := Sub.ext hn0 j (ρ'.k b)
                    have hρ : (Run.ext ρ h.next j (ρ'.k b)) h.next = some j := if_pos rfl
                    have hρk : (Run.ext ρ h.next j (ρ'.k b)).k h.next = ρ'.k b := if_pos rfl
                    have hcell : OR P (Run.ext ρ h.next j (ρ'.k b)) (ρ'.k b) (.cells e' l'.length (Tr.ofFrom l' 0 .e) false) (.cells cs e' (lo, hi)) := by
                      refine .cells s1 (by rw [hlen]; exact s2) (fun i hi' => ?_) s4
                      obtain ⟨u, u', t1, t2, t3⟩ := s3 i (by omega)
                      have hi2 := hat i (by omega)
                      rw [Nat.zero_add, t1] at hi2
                      have hfu : flat u = true := List.all_eq_true.1 hfl u (by exact List.mem_of_getElem? hi2.symm)
                      have := t3.eq_of_flat hfu
                      subst this
                      exact ⟨u', u', by rw [Tr.get_of]; exact hi2.symm, t2, .fl hfu⟩
                    refine ⟨_, Run.ext ρ h.next j (ρ'.k b), rfl, ?_, ⟨fun b1 j' e => ?_, fun b1 j' o e1 e2 e3 => ?_, fun b1 b2 j' o o' e1 e2 e3 e4 e5 e6 => ?_⟩, ⟨hs, fun b1 hb1 e => ?_, fun b1 j' e => ?_, fun j' hj' _ => hkeep j' hj', fun b1 j' el n c e1 e2 => ?_, Nat.le_succ _, hf.size, hf.os, hf.tape, hf.output⟩⟩
                    · exact VR.tuple_list (.cons (.slice hρ (.inr ⟨rfl, fun _ => by rw [hρk]; exact hcap⟩) j3) (.cons (.fl hfx) .nil))
                    · simp only [Run.ext] at e
                      by_cases hb1 : b1 = h.next
                      · rw [if_pos hb1] at e; cases e; exact ⟨by subst hb1; exact Nat.lt_succ_self _, hjs⟩
                      · rw [if_neg hb1] at e; have := hr.dom b1 j' e; have h3 := hf.size; exact ⟨Nat.lt_succ_of_lt this.1, by omega⟩
                    · simp only [Run.ext] at e1
                      have e2' : (h.new (.cells e' l'.length (Tr.ofFrom l' 0 .e) false)).get b1 = some o := e2
                      rw [AH.get_new] at e2'
                      by_cases hb1 : b1 = h.next
                      · rw [if_pos hb1] at e1 e2'
                        cases e1; cases e2'
                        subst hb1
                        exact ⟨_, ho1, by rw [hρk]; exact hcell⟩
                      · rw [if_neg hb1] at e1 e2'
                        obtain ⟨y1, hy1, hy2⟩ := hr.obj b1 j' o e1 e2' e3
                        have hk1 : (Run.ext ρ h.next j (ρ'.k b)).k b1 = ρ.k b1 := if_neg hb1
                        rw [hk1]
                        exact ⟨y1, by rw [hkeep j' (hr.dom b1 j' e1).2]; exact hy1, hy2.mono hs⟩
                    · simp only [Run.ext] at e1 e2
                      have e3' : (h.new (.cells e' l'.length (Tr.ofFrom l' 0 .e) false)).get b1 = some o := e3
                      have e5' : (h.new (.cells e' l'.length (Tr.ofFrom l' 0 .e) false)).get b2 = some o' := e5
                      rw [AH.get_new] at e3' e5'
                      by_cases h1 : b1 = h.next <;> by_cases h2' : b2 = h.next
                      · rw [h1, h2']
                      · rw [if_pos h1] at e1; rw [if_neg h2'] at e2; cases e1; have := (hr.dom b2 _ e2).2; omega
                      · rw [if_neg h1] at e1; rw [if_pos h2'] at e2; cases e2; have := (hr.dom b1 _ e1).2; omega
                      · rw [if_neg h1] at e1 e3'; rw [if_neg h2'] at e2 e5'; exact hr.inj b1 b2 j' o o' e1 e2 e3' e4 e5' e6
                    · simp only [Run.ext]
                      refine ⟨by rw [if_neg (by omega)]; exact e, ?_⟩
                      show (h.new _).get b1 = _
                      rw [AH.get_new, if_neg (by omega)]
                    · simp only [Run.ext] at e
                      by_cases hb1 : b1 = h.next
                      · rw [if_pos hb1] at e; cases e; exact .inl hjw
                      · rw [if_neg hb1] at e; exact .inr ⟨b1, e⟩
                    · have := hr.dom b1 j' e1
                      refine ⟨?_, hkeep j' this.2⟩
                      show (h.new _).get b1 = _
                      rw [AH.get_new, if_neg (by omega)]
                · omega
        · cases q6
      · cases hv0
    · cases hv0
  · cases hv0
end
end Go.Proofs.YtkmfihpmjnfbfaaGreatDoor.Run
