/-
  A closed call: the evaluator's answer is the call's.
-/
import Derived.Test.YtcmildkkigccaaaGreatDoorDrr
import Derived.Below
namespace Go.Proofs.YtcmildkkigccaaaGreatDoor.Run
open Go
set_option linter.unusedVariables false
set_option linter.unusedSimpArgs false
def isTrue (r : Value × AH) : Bool := match r.1 with | .bool b => b | _ => false
theorem of_isTrue {x : Option (Value × AH)} (h : x.map isTrue = some true) : ∃ h', x = some (.bool true, h') := by
  obtain ⟨⟨v, h'⟩, rfl, hv⟩ := Option.map_eq_some_iff.1 h
  unfold isTrue at hv
  simp only at hv
  split at hv
  · exact ⟨h', by rw [hv]⟩
  · cases hv
def ngB (P : Program) : Bool := P.funcs.toList.all fun fn => !(fn.body.isSome && fn.name == "runtime.NumGoroutine")
theorem ng_of {P : Program} (h : ngB P = true) : NG P := by
  intro f fn hf hb
  have hm : fn ∈ P.funcs.toList := by simpa using Array.mem_of_getElem? hf
  have := List.all_eq_true.1 h fn hm
  rw [hb] at this
  simpa using this
/-- No world of its own: nothing but what is handed in. -/
def ρN : Rn := ⟨fun _ => none, fun _ => 0⟩
def hN : AH := ⟨0, .e⟩
theorem relN {P : Program} {w : World} : Rel P ρN hN w := ⟨fun b j e => (by cases e), fun b j o e => (by cases e), fun b b' j o o' e => (by cases e)⟩
theorem run_calls {P : Program} {gl : Gl} {ext : Ext} {dfr : Dfr} {hk : CallR} (hkok : CallOk P gl hk) (hm : P.follows .mixedOrders = true) (he : ExtOk P ext) (hn : NG P) (hd : DfrOk P dfr) {m : Nat} {f : FuncId} {args : List Value} {args' : Array Value} {ρ : Rn} {h : AH} {w : World}
    (hrel : Rel P ρ h w) (hg : GlOk ρ gl) (ha : L2 ρ args args'.toList) (hro : ∀ b j, ρ b = some j → ∃ e n c, h.get b = some (.cells e n c true)) (e : (callB P ext dfr hk gl m f args h).map isTrue = some true) :
    Calls P f args' w (fun e W' => e = .returned (.bool true) ∧ Go.RowKit.Below w.heap.size w W') := by
  obtain ⟨h', e⟩ := of_isTrue e
  have hc := (run_ok hkok hm he hn hd m 0 f args args' ρ h w _ h' hg hrel ha e).1
  refine (callsIn_wide.1 hc).mono (fun en W' hb => ?_)
  obtain ⟨v', ρ', rfl, hv, hrel', hf⟩ := hb
  refine ⟨by rw [hv.boolInv], hf.os, hf.tape, hf.output, hf.size, fun k hk => ?_⟩
  by_cases hq : ∃ b, ρ b = some k
  · obtain ⟨b, hb⟩ := hq
    obtain ⟨el, n, c, hx⟩ := hro b k hb
    exact (hf.ro b k el n c hb hx).2
  · exact hf.keep k hk (fun b hb => hq ⟨b, hb⟩)
/-- No call out, nothing deferred, no package's variable. -/
def ext0 : Ext := fun _ => none
def dfr0 : Dfr := fun _ => none
def gl0 : Gl := fun _ => none
/-- No contract. -/
def hk0 : CallR := fun _ _ _ => none
theorem hk0_ok {P : Program} {gl : Gl} : CallOk P gl hk0 := fun n f args args' ρ h w v h' _ _ _ e => by cases e
theorem ext0_ok {P : Program} : ExtOk P ext0 := fun f e h => by cases h
theorem dfr0_ok {P : Program} : DfrOk P dfr0 := fun f e h => by cases h
theorem run_plain {P : Program} (hm : P.follows .mixedOrders = true) (hn : NG P) {m : Nat} {f : FuncId} {args : Array Value} (hargs : args.toList.all flat = true) (e : (callB P ext0 dfr0 hk0 gl0 m f args.toList hN).map isTrue = some true) (w : World) :
    Calls P f args w (fun e W' => e = .returned (.bool true) ∧ Go.RowKit.Below w.heap.size w W') :=
  run_calls hk0_ok hm ext0_ok hn dfr0_ok relN (fun g b h => by cases h) (by
    have : ∀ l : List Value, l.all flat = true → L2 ρN l l := by
      intro l
      induction l with
      | nil => exact fun _ => .nil
      | cons v l ih => exact fun h => by simp only [List.all_cons, Bool.and_eq_true] at h; exact .cons (.fl h.1) (ih h.2)
    exact this _ hargs) (fun b j h => by cases h) e
end Go.Proofs.YtcmildkkigccaaaGreatDoor.Run
