/-
  Regions of open order: every order.
-/
import Derived.Test.YtkmfihpmjnfbfaaGreatDoorDrf
import Derived.OrdersIn
namespace Go.Proofs.YtkmfihpmjnfbfaaGreatDoor.Run
open Go
set_option linter.unusedVariables false
set_option linter.unusedSimpArgs false
section
variable {P : Program} {gl : Gl} {ext : Ext} {call : CallR} {round : RoundR} {ops : Array Oper} {seq : List Slot} {st0 st' : St} {ro : Option Nat} {n : Nat} {Q : Exit → Act → World → Prop}
def Ls (listed : Array Bool) : Nat → Prop := fun k => listed.getD k false = true
theorem Ls.set {listed : Array Bool} {i : Nat} (hi : i < listed.size) : Ls (listed.setIfInBounds i true) = fun k => k = i ∨ Ls listed k := by
  funext k
  apply propext
  unfold Ls
  rw [Array.getD_eq_getD_getElem?, Array.getD_eq_getD_getElem?, Array.getElem?_setIfInBounds]
  by_cases h : i = k
  · subst h
    simp [hi]
  · rw [if_neg h]
    constructor
    · exact fun h => .inr h
    · rintro (h' | h')
      · exact absurd h'.symm h
      · exact h'
theorem ready_iff {listed : Array Bool} (hsz : listed.size = ops.size) {i : Nat} : i ∈ Region.ready .any ops listed ↔ ∃ o, ops[i]? = some o ∧ ¬ Ls listed i ∧ ∀ e ∈ o.after.toList, Region.binds .any e = true → Ls listed e.on := by
  unfold Region.ready
  rw [List.mem_filter, List.mem_range, Bool.and_eq_true]
  constructor
  · rintro ⟨h1, h2, h3⟩
    refine ⟨ops[i], by simp [h1], ?_, ?_⟩
    · unfold Ls
      intro h
      rw [Array.getD_eq_getD_getElem?] at h h2
      rw [Array.getElem?_eq_getElem (by omega)] at h h2
      simp at h h2
      rw [h] at h2; cases h2
    · rw [Array.getElem?_eq_getElem h1] at h3
      simp only [Option.map_some, Option.getD_some, Array.all_eq_true'] at h3
      intro e he hb
      have := h3 e (by simpa using he)
      rw [hb] at this
      exact this
  · rintro ⟨o, h1, h2, h3⟩
    have hlt : i < ops.size := (Array.getElem?_eq_some_iff.1 h1).1
    refine ⟨hlt, ?_, ?_⟩
    · unfold Ls at h2
      rw [Array.getD_eq_getD_getElem?] at h2 ⊢
      rw [Array.getElem?_eq_getElem (by omega)] at h2 ⊢
      simp at h2 ⊢
      exact h2
    · rw [h1]
      simp only [Option.map_some, Option.getD_some, Array.all_eq_true']
      intro e he
      cases hb : Region.binds .any e with
      | false => rfl
      | true => exact h3 e (by simpa using he) hb
/-- Nothing is ready: all is done. -/
theorem all_done (hs : Stat P ops seq) {listed : Array Bool} (hsz : listed.size = ops.size) (h : Region.ready .any ops listed = []) : ∀ s ∈ seq, Ls listed s.i := by
  have key : ∀ l pre, seq = pre ++ l → (∀ s ∈ pre, Ls listed s.i) → ∀ s ∈ seq, Ls listed s.i := by
    intro l
    induction l with
    | nil => intro pre e hp s hm; rw [e, List.append_nil] at hm; exact hp s hm
    | cons x l ih =>
      intro pre e hp
      refine ih (pre ++ [x]) (by rw [e]; simp) (fun s hm => ?_)
      rcases List.mem_append.1 hm with hm | hm
      · exact hp s hm
      · simp at hm; subst hm
        have hxm : s ∈ seq := by rw [e]; simp
        obtain ⟨m1, m2, m3⟩ := hs.mem s hxm
        by_cases hd : Ls listed s.i
        · exact hd
        · exfalso
          have : s.i ∈ Region.ready .any ops listed := (ready_iff hsz).2 ⟨s.o, m1, hd, fun e' he hb => by
            have hbit : s.anc.testBit e'.on = true := by rw [m2]; exact (ancM_bits (by simpa using m1) _).2 ⟨e', he, hb, .inl rfl⟩
            obtain ⟨y, hy, hyi⟩ := (hs.good pre s l e).2.1 _ hbit
            rw [← hyi]
            exact hp y (by simpa using hy)⟩
          rw [h] at this; cases this
  exact key seq [] rfl (by simp)
theorem tr_same {ρ : Rn} {sz : Nat} {tm tm2 : Tr Value} {tmps : Array Value} (h : TR ρ sz tm tmps) (e : ∀ t, tm.get t = tm2.get t) : TR ρ sz tm2 tmps := ⟨h.1, fun t => by rw [← e t]; exact h.2 t⟩
theorem inv_end (hx : Ctx P ext gl call round ops seq st0 st') {ρ0 : Rn} {w0 : World} {listed : Array Bool} (hsz : listed.size = ops.size) (hready : Region.ready .any ops listed = []) {a : Act} {w : World}
    (hi : Inv P ext gl call round ops seq st0 st' ρ0 w0 (Ls listed) a w) {K : Act → World → Prop} (hk : Upto P ρ0 st0 w0 st' K) : K a w := by
  obtain ⟨hcl, pre, rest, sp, ρ, tm, hsp, hrun, hrest, hE1, hE2, hrel, hfw, htr, htm, hds, hA, hD⟩ := hi
  have hall := all_done hx.stat hsz hready
  have hnil : rest = [] := by
    rcases hrest with h | ⟨e, r, rfl, hE⟩
    · exact h
    · exact absurd (hall e (by rw [hsp]; simp)) (hE2 e (by simp) hE)
  subst hnil
  rw [List.append_nil] at hsp
  subst hsp
  obtain rfl := hrun.det hx.runs
  have hszrd := hrun.szrd
  refine hk ρ a w ⟨?_, hrel, hds⟩ hfw
  rw [hszrd.2]
  refine tr_same htr (fun t => ?_)
  by_cases hw : ∃ s ∈ seq, s.o.dst = some t
  · obtain ⟨s, hs, ht⟩ := hw
    exact htm.done s hs (hall s hs) t ht
  · have hno : ∀ s ∈ seq, s.o.dst ≠ some t := fun s hs ht => hw ⟨s, hs, ht⟩
    rw [htm.rest t (fun s hs _ => hno s hs), hrun.keep t hno]
theorem any_ok (he : ExtOk P ext) (hc : CallOk P gl call) (hrd : RoundOk P gl round) (hn : NG P) (hx : Ctx P ext gl call round ops seq st0 st') {ρ0 : Rn} {w0 : World} (hg : GlOk ρ0 gl) (hro : ro.isSome = true → st0.rd = true)
    (hk : Upto P ρ0 st0 w0 st' (Q .normal)) : ∀ (fuel : Nat) (listed : Array Bool) (a : Act) (w : World), listed.size = ops.size → listed.toList.count false ≤ fuel → Inv P ext gl call round ops seq st0 st' ρ0 w0 (Ls listed) a w → wpAnyIn (F0 ro) n P .any ops Q fuel listed a w
  | 0, listed, a, w, hsz, hct, hi => by
    have hready : Region.ready .any ops listed = [] := by
      apply List.eq_nil_iff_forall_not_mem.2
      intro i hm
      obtain ⟨o, h1, h2, _⟩ := (ready_iff hsz).1 hm
      have hlt : i < ops.size := (Array.getElem?_eq_some_iff.1 h1).1
      apply h2
      unfold Ls
      rw [Array.getD_eq_getD_getElem?, Array.getElem?_eq_getElem (by omega)]
      have hnm := List.count_eq_zero.1 (Nat.le_zero.1 hct)
      simp only [Option.getD_some]
      cases hq : listed[i]'(by omega) with
      | true => rfl
      | false => exact absurd (by rw [← hq]; simp) hnm
    exact ⟨hready, inv_end hx hsz hready hi hk⟩
  | fuel + 1, listed, a, w, hsz, hct, hi => by
    refine ⟨fun hready => inv_end hx hsz hready hi hk, fun i hm => ?_⟩
    obtain ⟨o, h1, h2, h3⟩ := (ready_iff hsz).1 hm
    have hlt : i < listed.size := by have := (Array.getElem?_eq_some_iff.1 h1).1; omega
    refine inv_step he hc hrd hn hx hg hro hi h1 h2 h3 (fun a' w' hi' => ?_)
    refine any_ok he hc hrd hn hx hg hro hk fuel _ a' w' (by simpa using hsz) ?_ (by rw [Ls.set hlt]; exact hi')
    have hf : listed[i]'hlt = false := by
      cases hq : listed[i]'hlt with
      | false => rfl
      | true =>
        exfalso; apply h2; unfold Ls
        rw [Array.getD_eq_getD_getElem?, Array.getElem?_eq_getElem hlt, hq]; rfl
    have hl : i < listed.toList.length := by simpa using hlt
    have : (listed.toList.set i true).count false + 1 = listed.toList.count false := by
      have hpos : 0 < listed.toList.count false := List.count_pos_iff.2 (by rw [← hf]; simp)
      have hlf : listed.toList[i] = false := by simpa using hf
      rw [List.count_set hl, hlf]
      have e1 : (if (false == false) = true then 1 else 0) = 1 := rfl
      have e2 : (if (true == false) = true then 1 else 0) = 0 := rfl
      rw [e1, e2]
      omega
    rw [Array.toList_setIfInBounds]
    omega
theorem draw_ok (hm : P.follows .mixedOrders = true) (he : ExtOk P ext) (hn : NG P) (hc : CallOk P gl call) (hrd : RoundOk P gl round) : DrawOk P ext gl call round := by
  intro id ops st st' ρ a w ro n Q e hg hs hro hk
  obtain ⟨seq, hx⟩ := drawB_ctx e
  refine wpIn_region_any hm ?_
  have hL : Ls (Array.replicate ops.size false) = fun _ => False := by
    funext k
    apply propext
    unfold Ls
    rw [Array.getD_eq_getD_getElem?, Array.getElem?_replicate]
    by_cases h : k < ops.size <;> simp [h]
  refine any_ok (w0 := w) (ρ0 := ρ) he hc hrd hn hx hg hro hk ops.size _ a _ (by simp) (by simp) ?_
  rw [hL]
  refine advance hx (p0 := []) (r0 := seq) (x := st) (ρ := ρ) (tm := st.tm) (fun _ _ _ h => h.elim) rfl .nil (fun s h => by cases h) (fun _ _ _ h => h) (hs.rel.drawn rfl) (Fw.drawn rfl rfl rfl rfl) hs.tm ⟨fun _ _ h => h.elim, fun _ _ => rfl⟩ hs.ds (fun s h => by cases h) (fun s h => by cases h)
/-- The evaluator's word, of every call. -/
theorem run_ok {dfr : Dfr} {hk : CallR} (hkok : CallOk P gl hk) (hm : P.follows .mixedOrders = true) (he : ExtOk P ext) (hn : NG P) (hd : DfrOk P dfr) (m : Nat) : CallOk P gl (callB P ext dfr hk gl m) :=
  (callB_ok hkok he hn hd (fun call round hc hr => draw_ok hm he hn hc hr) m).1
end
end Go.Proofs.YtkmfihpmjnfbfaaGreatDoor.Run
