/-
  Slices that came in, as the walks read them.
-/
import Derived.Test.YtbaddcojhggamaaAllBase
import Derived.Test.YtbaddcojhggamaaRows
import Derived.WalkKit
import Derived.ProofKit
import Derived.Deep.Slices
import Derived.Lib.SmallJoins
namespace Go.Proofs.Ytbaddcojhggamaa.PAll
open Go.ChangeShapes Go.WideShapes Go.Deep Go.Joins
open Go.RowKit Go.Proofs.YtbaddcojhggamaaW.PrintWords Go.Proofs.YtbaddcojhggamaaW.PrintLast Go.Proofs.YtbaddcojhggamaaW.PrintMore
set_option linter.unusedVariables false
theorem slice_kd {α H : Type} {enc : TypeId × Value → H} {P : Program} {w : World} {r : Reach} {base : Nat} {spare : Nat → Bool} {held : Bool} {d : Kd α} {t e : TypeId} {v : Value} {x : DataW H} {ps : List MemPlace} (ht : P.underlying t = some (.slice e)) (hc : P.cellsOf e = d.sz)
    (hel : ∀ n cs y, DataW.trod enc P w 0 spare held n e cs = some y → ∃ a, d.K w a cs) (hv : Value.okWide P w r base t v) (h : DataW.Trod enc P w 0 spare held t v x ps) :
    ∃ (A : Option Addr) (c : Nat) (l : List α), v = .slice A l.length c ∧ l.length ≤ c ∧ Kd.C d w A l.length l := by
  obtain ⟨A, len, cap, rfl⟩ := okWide_slice ht hv
  obtain ⟨fuel, hf⟩ := h
  rcases open_slice ht hf with ⟨hcs, _⟩ | ⟨a, len', cap', m, n, D, Pl, hcs, hb, hl, hm, hmm, _, hx⟩
  · simp [Value.cells] at hcs
    obtain ⟨rfl, rfl, rfl⟩ := hcs
    exact ⟨none, 0, [], rfl, Nat.le_refl _, rfl, Nat.zero_le _, fun h => absurd h (Nat.lt_irrefl 0)⟩
  · simp [Value.cells] at hcs
    obtain ⟨rfl, rfl, rfl⟩ := hcs
    have hlen : len ≤ m := by rw [hmm]; split <;> omega
    have hex : ∀ i : Fin len, ∃ a', ∃ cs', w.cells? 0 (a.add (i.1 * P.cellsOf e)) (P.cellsOf e) = some cs' ∧ d.K w a' cs' := fun i => by
      obtain ⟨cs', h1, h2⟩ := hx i.1 (by have := i.2; omega)
      obtain ⟨y, hy⟩ := hel _ _ _ h2
      exact ⟨y, cs', h1, hy⟩
    refine ⟨some a, cap, List.ofFn fun i => Classical.choose (hex i), by simp, by simpa using hl, rfl, by simp; exact Nat.le_trans hl (Nat.le_trans hm (by decide)), fun _ => ⟨a, rfl, fun j p hp => ?_⟩⟩
    rw [List.getElem?_ofFn] at hp
    split at hp
    · rename_i hj
      injection hp with hp
      obtain ⟨cs', h1, h2⟩ := Classical.choose_spec (hex ⟨j, hj⟩)
      obtain ⟨_, h3, h4⟩ := World.cells?_some h1
      rw [hp] at h2
      refine ⟨cs', d.K_len h2, h2, fun i u hu => ?_⟩
      have hi : i < P.cellsOf e := by
        rw [← h3]
        exact (List.getElem?_eq_some_iff.1 hu).1
      have := h4 i hi
      rw [hu, Go.Deep.add_add, hc] at this
      exact this
    · cases hp
theorem slice_p63 {H : Type} {enc : TypeId × Value → H} {w : World} {r : Reach} {base : Nat} {spare : Nat → Bool} {held : Bool} {v : Value} {x : DataW H} {ps : List MemPlace} (hv : Value.okWide Try.prog w r base 63 v) (h : DataW.Trod enc Try.prog w 0 spare held 63 v x ps) :
    ∃ (A : Option Addr) (c : Nat) (l : List Int), v = .slice A l.length c ∧ l.length ≤ c ∧ Kd.C (Kd.int .i64) w A l.length l := by
  refine slice_kd Try.underlying63 (by kernel_rfl) (fun n cs y hy => ?_) hv h
  obtain ⟨a0, e0, _, _⟩ := DataW.trod_int Try.underlying3 hy
  exact ⟨a0, e0⟩
end Go.Proofs.Ytbaddcojhggamaa.PAll
