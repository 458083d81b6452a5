/-
  What a run of closed calls wants of this program: the table, what deferred calls do, bytes that are no configuration's.
-/
import Derived.Test.YtcmildkkigccaaaGreatDoorPan
import Derived.WalkKit
import Derived.ProofKit
import Derived.Lib.LaidTab
import Derived.Lib.TrailingZeros
import Derived.Lib.MakeNoZero
import Derived.Laws.Externs
import Derived.Test.YtcmildkkigccaaaGreatDoorRows
import Derived.KernelRfl
import Derived.RecoverIn
import Derived.Tactics
import Derived.Tactics2
namespace Go.Proofs.YtcmildkkigccaaaGreatDoor.Run
open Go Go.Proofs Go.Proofs.YtcmildkkigccaaaGreatDoor
set_option linter.unusedSimpArgs false
set_option linter.unusedVariables false
theorem follows : Tryz.prog.follows .mixedOrders = true := by kernel_rfl
theorem ng : NG Tryz.prog := ng_of (by kernel_rfl)
/-- conf.caught, where nothing gave up. -/
theorem caught_idle (a : Value) (w : World) (n : Nat) :
    CallsDIn (F0 none) n Tryz.prog 87 #[a] .returning w fun e u' w' => e = .returned (.tuple #[]) ∧ u' = .returning ∧ w' = w := by
  refine callsDIn_of_wpSIn Tryz.func87 rfl trivial fun c₀ cs hu => ?_
  apply wpSIn_seq
  apply wpSIn_region
  simp [wpOpsSIn, go_sem, recoverD, hu, Tryz.ntmps87, Exit.thenS, F0, Fence.wide]
  apply wpSIn_seq
  apply wpSIn_region
  simp [wpOpsSIn, go_sem, Exit.thenS, F0, Fence.wide]
  refine wpSIn_cond (t := false) (by simp [Act.eval, Array.replicate]) ?_
  simp only [Bool.false_eq_true, if_false]
  refine wpSIn_of_wpIn rfl (wpIn_skip ?_)
  cases c₀
  simp_all [bodyPostS, results, Tryz.results87]
def call0 : CallR := fun _ _ _ => none
def round0 : RoundR := fun _ _ _ => none
theorem call0_ok : CallOk Tryz.prog gl0 call0 := fun n f args args' ρ h w v h' _ _ _ e => by cases e
theorem round0_ok : RoundOk Tryz.prog gl0 round0 := fun n l l' args args' ρ h w v h' _ _ _ _ e => by cases e
/-- The parts of what Get defers. -/
noncomputable def g1A : Code := match Tryz.f57.body with | some (.seq (.seq _ a) _) => a | _ => .skip
noncomputable def g1B : Code := match Tryz.f57.body with | some (.seq _ b) => b | _ => .skip
noncomputable def get1 (v : Value) (h : AH) (args : List Value) : Option AH :=
  match args with
  | [a, b] => (codeB Tryz.prog ext0 gl0 call0 round0 57 none 100 g1A ⟨Tr.ofFrom [a, b, v, v] 0 .e, h, [], 12, false⟩).bind fun r => match r.1 with
    | .normal => (codeB Tryz.prog ext0 gl0 call0 round0 57 none 100 g1B r.2).bind fun r => match r.1, r.2.ds with
      | .normal, [] => some r.2.h
      | _, _ => none
    | _ => none
  | _ => none
theorem sr_of {P : Program} {ρ : Rn} {l : List Value} {l' : List Value} {sz k : Nat} {h : AH} {w : World} (ha : L2 ρ l l') (hr : Rel P ρ h w) (hs : l.length + k = sz) :
    SR P ρ ⟨Tr.ofFrom l 0 .e, h, [], sz, false⟩ { tmps := l'.toArray ++ Array.replicate k undef, defers := [] } w := by
  have hal := ha.length
  refine ⟨⟨?_, fun t => ?_⟩, hr, trivial⟩
  · simp; omega
  · rw [Tr.get_of]
    show VR ρ _ ((l'.toArray ++ Array.replicate k undef).getD t undef)
    rw [Array.getD_eq_getD_getElem?]
    by_cases ht : t < l.length
    · have hv : l[t]? = some (l[t]'ht) := by simp
      obtain ⟨v', k1, k2⟩ := ha.get t _ hv
      rw [hv, Array.getElem?_append_left (by simp; omega)]
      simp only [List.getElem?_toArray]
      rw [k1]
      exact k2
    · rw [List.getElem?_eq_none (by omega), Array.getElem?_append_right (by simp; omega)]
      simp only [Option.getD_none]
      rw [Array.getElem?_replicate]
      split <;> exact .fl rfl
theorem get1_inv {v : Value} {h h' : AH} {args : List Value} (e : get1 v h args = some h') : ∃ a b st1 st2, args = [a, b] ∧ codeB Tryz.prog ext0 gl0 call0 round0 57 none 100 g1A ⟨Tr.ofFrom [a, b, v, v] 0 .e, h, [], 12, false⟩ = some (.normal, st1) ∧
    codeB Tryz.prog ext0 gl0 call0 round0 57 none 100 g1B st1 = some (.normal, st2) ∧ st2.ds = [] ∧ st2.h = h' := by
  unfold get1 at e
  split at e
  · rename_i a b
    simp only [Option.bind_eq_some_iff] at e
    obtain ⟨⟨x, st1⟩, e1, e⟩ := e
    cases x with
    | normal =>
      simp only [Option.bind_eq_some_iff] at e
      obtain ⟨⟨y, st2⟩, e2, e⟩ := e
      split at e
      · rename_i h1 h2
        cases e
        simp only at h1 h2
        subst h1
        exact ⟨a, b, st1, st2, rfl, e1, e2, h2, rfl⟩
      · cases e
    | exit id => cases e
    | ret => cases e
  · cases e
theorem get1_rest {v : Value} (hv : flat v = true) {ρ : Rn} {h h' : AH} {w : World} {args : List Value} {args' : Array Value} (n : Nat) (hr : Rel Tryz.prog ρ h w) (ha : L2 ρ args args'.toList) (e : get1 v h args = some h') {QA QB : Exit → Act → World → Prop} {a : Act}
    (hact : a = { tmps := (args'.toList ++ [v, v]).toArray ++ Array.replicate 8 undef, defers := [] })
    (hA : ∀ a1 w1, g1B.wpIn (F0 none) n Tryz.prog QB a1 w1 → QA .normal a1 w1)
    (hk : ∀ a' w' ρ', a'.defers = [] → Rel Tryz.prog ρ' h' w' → Fw ρ h w ρ' h' w' → QB .normal a' w') :
    g1A.wpIn (F0 none) n Tryz.prog QA a w := by
  obtain ⟨x, y, st1, st2, rfl, e1, e2, e3, rfl⟩ := get1_inv e
  have hdr : DrawOk Tryz.prog ext0 gl0 call0 round0 := draw_ok follows ext0_ok ng call0_ok round0_ok
  have hg : ∀ ρ, GlOk ρ gl0 := fun ρ g b h => by cases h
  have hl : L2 ρ [x, y, v, v] (args'.toList ++ [v, v]) := by
    have := ha.append (m := [v, v]) (m' := [v, v]) (.cons (.fl hv) (.cons (.fl hv) .nil))
    exact this
  refine (codeB_ok (fn := 57) (around := none) (ro := none) ext0_ok call0_ok round0_ok ng hdr 100).1 g1A _ st1 .normal ρ a w n _ e1 (hg ρ) (by rw [hact]; exact sr_of hl hr rfl) (fun h => by cases h) trivial ?_
  intro ρ1 a1 w1 hs1 hf1
  refine hA a1 w1 ((codeB_ok (fn := 57) (around := none) (ro := none) ext0_ok call0_ok round0_ok ng hdr 100).1 g1B _ st2 .normal ρ1 a1 w1 n _ e2 (hg ρ1) hs1 (fun h => by cases h) trivial ?_)
  intro ρ2 a2 w2 hs2 hf2
  have hds := hs2.ds
  rw [e3] at hds
  refine hk a2 w2 ρ2 ?_ hs2.rel (hf1.trans hf2)
  revert hds
  cases a2.defers with
  | nil => exact fun _ => rfl
  | cons _ _ => exact fun h => h.elim
theorem get1_returning {ρ : Rn} {h h' : AH} {w : World} {args : List Value} {args' : Array Value} (n : Nat) (hr : Rel Tryz.prog ρ h w) (ha : L2 ρ args args'.toList) (e : get1 .nilIface h args = some h') :
    CallsDIn (F0 none) n Tryz.prog 57 args' .returning w (fun e u w' => (∃ v, e = .returned v) ∧ u = .returning ∧ ∃ ρ', Rel Tryz.prog ρ' h' w' ∧ Fw ρ h w ρ' h' w') := by
  obtain ⟨x, y, st1, st2, e0, _⟩ := get1_inv e
  have hlen : args'.toList.length = 2 := by rw [← ha.length, e0]; rfl
  obtain ⟨l'⟩ := args'
  obtain ⟨x', y', rfl⟩ : ∃ x' y', l' = [x', y'] := by
    match l', hlen with
    | [x', y'], _ => exact ⟨x', y', rfl⟩
  refine callsDIn_of_wpSIn Tryz.func57 rfl trivial fun c₀ cs hu => ?_
  apply wpSIn_seq
  apply wpSIn_seq
  apply wpSIn_region
  simp [wpOpsSIn, go_sem, recoverD, hu, Tryz.ntmps57, Exit.thenS, F0, Fence.wide]
  refine wpSIn_of_wpIn (F := F0 none) rfl (get1_rest (v := .nilIface) rfl n hr ha e (QB := fun e a' w' => bodyPostS Tryz.prog Tryz.f57 c₀ cs (fun e u w' => (∃ v, e = .returned v) ∧ u = .returning ∧ ∃ ρ', Rel Tryz.prog ρ' h' w' ∧ Fw ρ h w ρ' h' w') e a' (c₀ :: cs) w') (by simp [Array.replicate, undef]) (fun a1 w1 hB => wpSIn_of_wpIn rfl hB) ?_)
  intro a' w' ρ' hds hrel hf
  refine ⟨hds, .returning, by cases c₀; simp_all, .tuple #[], by simp [results, Tryz.results57], ⟨_, rfl⟩, rfl, ρ', hrel, hf⟩
/-- What deferred calls do where nothing gave up. -/
noncomputable def dfrD : Dfr := fun f => cond (Nat.beq f 87) (some fun h args => match args with | [_] => some h | _ => none) (cond (Nat.beq f 57) (some (get1 .nilIface)) none)
theorem dfrD_ok : DfrOk Tryz.prog dfrD := by
  intro f d hfd ρ h w args args' h' n hrel ha e
  unfold dfrD at hfd
  cases h1 : Nat.beq f 87 with
  | true =>
    rw [h1] at hfd
    obtain rfl := beq_true h1
    cases hfd
    simp only at e
    split at e
    · cases e
      obtain ⟨l'⟩ := args'
      cases ha with
      | cons h1 h2 =>
        cases h2
        refine ⟨(caught_idle _ w n).mono ?_, _, Tryz.func87, rfl⟩
        rintro en u w' ⟨rfl, rfl, rfl⟩
        exact ⟨⟨_, rfl⟩, rfl, ρ, hrel, Fw.refl _ _ _⟩
    · cases e
  | false =>
    rw [h1] at hfd
    simp only [cond] at hfd
    cases h2 : Nat.beq f 57 with
    | true =>
      rw [h2] at hfd
      obtain rfl := beq_true h2
      cases hfd
      exact ⟨get1_returning n hrel ha e, _, Tryz.func57, rfl⟩
    | false => rw [h2] at hfd; cases hfd
/-- Functions without a body. -/
def extS : Ext := fun f => cond (Nat.beq f 51) (some fun h args => match args with | [x] => some (x, h) | _ => none) (cond (Nat.beq f 85) (some fun h args => match args with
  | [.int .i64 (.ofNat n)] => cond (Nat.ble n 16777216) (some (.slice (some ⟨h.next, 0, none⟩) n UNK, h.new (.cells 5 0 .e false))) none
  | _ => none) none)
theorem extS_ok : ExtOk Tryz.prog extS := by
  intro f e hf ρ h w args args' v h' hr ha e1
  unfold extS at hf
  cases h1 : Nat.beq f 51 with
  | true =>
    rw [h1] at hf
    obtain rfl := beq_true h1
    cases hf
    simp only at e1
    split at e1
    · cases e1
      obtain ⟨l'⟩ := args'
      cases ha with
      | cons k1 k2 =>
        cases k2
        refine ⟨ρ, _, w, ?_, k1, hr, Fw.refl _ _ _⟩
        show (callFunc 51 #[_]).run Tryz.prog w = _
        rw [run_callFunc_extern Tryz.func51 (by kernel_rfl) (by kernel_rfl) (by kernel_rfl) (e := Extern.AbiNoEscape.same) (by kernel_rfl)]
        rfl
    · cases e1
  | false =>
    rw [h1] at hf
    simp only [cond] at hf
    cases h2 : Nat.beq f 85 with
    | false => rw [h2] at hf; cases hf
    | true =>
      rw [h2] at hf
      obtain rfl := beq_true h2
      cases hf
      simp only at e1
      split at e1
      · rename_i n
        cases h3 : Nat.ble n 16777216 with
        | false => rw [h3] at e1; cases e1
        | true =>
          rw [h3] at e1
          cases e1
          have hn := ble_true h3
          obtain ⟨l'⟩ := args'
          cases ha with
          | cons k1 k2 =>
            cases k2
            have hx := k1.eq_of_flat rfl
            subst hx
            obtain ⟨cs, hrun, q1, _⟩ := Lib.run_makeNoZero (P := Tryz.prog) w #[3] 45 5 Tryz.underlying45 n (by omega)
            have hd : Rel Tryz.prog ρ h w.drew.drew := hr.drawn rfl
            have hc5 : Tryz.prog.cellsOf 5 = 1 := by kernel_rfl
            have := hd.new cs.size (o := .cells 5 0 .e false) (x := .cells cs 5) (.cells (by rw [hc5]; omega) (Nat.zero_le _) (fun i hi => by omega) (fun _ i hi => by omega))
            have hρ : (Run.ext ρ h.next w.drew.drew.heap.size cs.size) h.next = some w.heap.size := if_pos rfl
            have hk : (Run.ext ρ h.next w.drew.drew.heap.size cs.size).k h.next = cs.size := if_pos rfl
            refine ⟨_, .slice (some ⟨w.heap.size, 0, none⟩) n cs.size, _, ?_, .slice hρ (.inr ⟨rfl, fun _ => by rw [hk]; exact Nat.le_refl _⟩) q1, this.1, (Fw.drawn (w := w) (w' := w.drew.drew) rfl rfl rfl rfl).trans this.2⟩
            show (callFunc 85 #[.int .i64 (n : Int)]).run Tryz.prog w = _
            rw [run_callFunc_extern Tryz.func85 (by kernel_rfl) (by kernel_rfl) (by kernel_rfl) (e := Extern.BytealgMakeNoZero.makeNoZero #[3] #[45]) (by kernel_rfl), hrun]
            rfl
      · cases e1
/-- The table. -/
def tabV : List Value := (Lib.deBruijn64tab.map fun n : Nat => (n : Int)).map fun z => Value.int .u8 z
def hT (t : TypeId) : AH := (⟨0, .e⟩ : AH).new (.cells t 64 (Tr.ofFrom tabV 0 .e) true)
def ρT : Rn := ⟨fun b => if b = 0 then some 3 else none, fun _ => 0⟩
def glT : Gl := fun g => match g with | 3 => some 0 | _ => none
theorem glT_ok : GlOk ρT glT := by
  intro g b h
  unfold glT at h
  split at h
  · cases h; rfl
  · cases h
theorem ρT_at {b j : Nat} (h : ρT b = some j) : b = 0 ∧ j = 3 := by
  have : (if b = 0 then some 3 else none : Option Nat) = some j := h
  split at this
  · cases this; exact ⟨by assumption, rfl⟩
  · cases this
theorem tabV_len : tabV.length = 64 := by kernel_rfl
theorem tabV_flat (v : Value) (hv : v ∈ tabV) : flat v = true := by
  unfold tabV at hv
  obtain ⟨z, _, rfl⟩ := List.mem_map.1 hv
  rfl
theorem relT {w : World} (ht : Lib.TabIs Tryz.prog w "math/bits.deBruijn64tab" .u8 (Lib.deBruijn64tab.map fun n : Nat => (n : Int))) : ∃ t, Rel Tryz.prog ρT (hT t) w := by
  have h1 : Tryz.prog.globalNamed "math/bits.deBruijn64tab" = some 3 := by kernel_rfl
  unfold Lib.TabIs World.var? at ht
  rw [h1] at ht
  simp only [Option.bind_some] at ht
  split at ht
  · rename_i cs t lk hh
    cases ht
    obtain ⟨lo, hi⟩ := lk
    have hsz : 3 < w.heap.size := (Array.getElem?_eq_some_iff.1 hh).1
    have hget : (hT t).get 0 = some (.cells t 64 (Tr.ofFrom tabV 0 .e) true) := by unfold hT; rw [AH.get_new]; rfl
    refine ⟨t, fun b j e => ?_, fun b j o e e2 e3 => ?_, fun b b' j o o' e1 e2 _ _ _ _ => ?_⟩
    · obtain ⟨rfl, rfl⟩ := ρT_at e
      exact ⟨by show 0 < 0 + 1; omega, hsz⟩
    · obtain ⟨rfl, rfl⟩ := ρT_at e
      rw [hget] at e2
      cases e2
      refine ⟨_, hh, .cells (by show 0 * _ ≤ _; omega) ?_ (fun i hi => ?_) (fun h => by cases h)⟩
      · have := tabV_len
        unfold tabV at this
        simp at this ⊢
        omega
      · rw [Tr.get_of]
        have hlt : i < tabV.length := by rw [tabV_len]; exact hi
        refine ⟨tabV[i], tabV[i], by simp [hlt], ?_, ?_⟩
        · show (tabV.toArray)[i]? = _
          simp [hlt]
        · refine .fl ?_
          exact tabV_flat _ (List.getElem_mem hlt)
    · rw [(ρT_at e1).1, (ρT_at e2).1]
  · cases ht
theorem roT (t : TypeId) : ∀ b j, ρT b = some j → ∃ e n c, (hT t).get b = some (.cells e n c true) := by
  intro b j e
  obtain ⟨rfl, rfl⟩ := ρT_at e
  exact ⟨t, 64, _, by unfold hT; rw [AH.get_new]; rfl⟩
end Go.Proofs.YtcmildkkigccaaaGreatDoor.Run
