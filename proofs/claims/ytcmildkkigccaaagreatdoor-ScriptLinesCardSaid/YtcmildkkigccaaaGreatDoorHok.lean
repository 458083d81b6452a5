/-
  A closed call that answers true, taken as given in another run.
-/
import Derived.Test.YtcmildkkigccaaaGreatDoorEvr
namespace Go.Proofs.YtcmildkkigccaaaGreatDoor.Run
open Go
set_option linter.unusedVariables false
set_option linter.unusedSimpArgs false
/-- Function f without arguments: true, and nothing turns. -/
def hkT (f : FuncId) : CallR := fun g args h => match Nat.beq g f, args with
  | true, [] => some (.bool true, h)
  | _, _ => none
theorem Rel.kept {P : Program} {ρ : Rn} {h : AH} {w w' : World} (hr : Rel P ρ h w) (hk : ∀ j, j < w.heap.size → w'.heap[j]? = w.heap[j]?) (hs : w.heap.size ≤ w'.heap.size) : Rel P ρ h w' :=
  ⟨fun b j e => ⟨(hr.dom b j e).1, Nat.lt_of_lt_of_le (hr.dom b j e).2 hs⟩, fun b j o e1 e2 e3 => by rw [hk j (hr.dom b j e1).2]; exact hr.obj b j o e1 e2 e3, hr.inj⟩
/-- What a run that begins with nothing of the heap does, seen from any heap. -/
theorem Fw.far {P : Program} {ρ ρ' : Rn} {h h' : AH} {w w' : World} (hr : Rel P ρ h w) (hf : Fw ρN hN w ρ' h' w') : Fw ρ h w ρ h w' :=
  ⟨Sub.refl ρ, fun _ _ e => ⟨e, rfl⟩, fun b j e => .inr ⟨b, e⟩, fun j hj _ => hf.keep j hj (fun b e => by cases e), fun b j e n c e1 _ => ⟨rfl, hf.keep j (hr.dom b j e1).2 (fun b e => by cases e)⟩, Nat.le_refl _, hf.size, hf.os, hf.tape, hf.output⟩
theorem hkT_ok {P : Program} {gl : Gl} {ext : Ext} {dfr : Dfr} {hk : CallR} (hkok : CallOk P gl hk) (hm : P.follows .mixedOrders = true) (he : ExtOk P ext) (hn : NG P) (hd : DfrOk P dfr) {m : Nat} {f : FuncId}
    (hgN : GlOk ρN gl) (e : (callQ P ext dfr hk gl m f [] hN).map isTrue = some true) : CallOk P gl (hkT f) := by
  rw [callQ_eq] at e
  obtain ⟨h2, e⟩ := of_isTrue e
  intro n g args args' ρ h w v h' hg hr ha e1
  unfold hkT at e1
  split at e1
  · rename_i hb
    cases e1
    obtain rfl := beq_true hb
    obtain ⟨l'⟩ := args'
    cases ha
    obtain ⟨k1, k2⟩ := run_ok hkok hm he hn hd m n g [] #[] ρN hN w _ h2 hgN relN .nil e
    refine ⟨k1.mono ?_, k2⟩
    rintro en W' ⟨v', ρ', rfl, hv, hrel, hf⟩
    refine ⟨.bool true, ρ, by rw [hv.boolInv], .fl rfl, hr.kept (fun j hj => hf.keep j hj (fun b e => by cases e)) hf.size, Fw.far hr hf⟩
  · cases e1
end Go.Proofs.YtcmildkkigccaaaGreatDoor.Run
