/-
  Events that came in, as the walks read them.
-/
import Derived.Test.YtcmildkkigccaaaGreatDoorSxb
import Derived.Test.YtcmildkkigccaaaGreatDoorRows
import Derived.WalkKit
import Derived.ProofKit
import Derived.Deep.Slices
import Derived.Lib.SmallJoins
import Derived.KernelRfl
namespace Go.Proofs.YtcmildkkigccaaaGreatDoor.PAll
open Go.ChangeShapes Go.WideShapes Go.Deep Go.Joins
open Go.RowKit Go.Proofs.YtcmildkkigccaaaGreatDoorW.PrintWords Go.Proofs.YtcmildkkigccaaaGreatDoorW.PrintLast Go.Proofs.YtcmildkkigccaaaGreatDoorW.PrintMore
set_option linter.unusedVariables false
theorem slice_kdG {α H : Type} {enc : TypeId × Value → H} {P : Program} {w : World} {r : Reach} {base : Nat} {spare : Nat → Bool} {held : Bool} {d : Kd α} {t e : TypeId} {v : Value} {x : DataW H} {ps : List MemPlace} {G : α → Prop} (ht : P.underlying t = some (.slice e)) (hc : P.cellsOf e = d.sz)
    (hel : ∀ n cs y, DataW.trod enc P w 0 spare held n e cs = some y → ∃ a, d.K w a cs ∧ G a) (hv : Value.okWide P w r base t v) (h : DataW.Trod enc P w 0 spare held t v x ps) :
    ∃ (A : Option Addr) (c : Nat) (l : List α), v = .slice A l.length c ∧ l.length ≤ c ∧ Kd.C d w A l.length l ∧ ∀ a ∈ l, G a := by
  obtain ⟨A, len, cap, rfl⟩ := okWide_slice ht hv
  obtain ⟨fuel, hf⟩ := h
  rcases open_slice ht hf with ⟨hcs, _⟩ | ⟨a, len', cap', m, n, D, Pl, hcs, hb, hl, hm, hmm, _, hx⟩
  · simp [Value.cells] at hcs
    obtain ⟨rfl, rfl, rfl⟩ := hcs
    exact ⟨none, 0, [], rfl, Nat.le_refl _, ⟨rfl, Nat.zero_le _, fun h => absurd h (Nat.lt_irrefl 0)⟩, fun a h => by cases h⟩
  · simp [Value.cells] at hcs
    obtain ⟨rfl, rfl, rfl⟩ := hcs
    have hlen : len ≤ m := by rw [hmm]; split <;> omega
    have hex : ∀ i : Fin len, ∃ a', (∃ cs', w.cells? 0 (a.add (i.1 * P.cellsOf e)) (P.cellsOf e) = some cs' ∧ d.K w a' cs') ∧ G a' := fun i => by
      obtain ⟨cs', h1, h2⟩ := hx i.1 (by have := i.2; omega)
      obtain ⟨y, hy, hg⟩ := hel _ _ _ h2
      exact ⟨y, ⟨cs', h1, hy⟩, hg⟩
    refine ⟨some a, cap, List.ofFn fun i => Classical.choose (hex i), by simp, by simpa using hl, ⟨rfl, by simp; exact Nat.le_trans hl (Nat.le_trans hm (by decide)), fun _ => ⟨a, rfl, fun j p hp => ?_⟩⟩, fun y hy => ?_⟩
    · rw [List.getElem?_ofFn] at hp
      split at hp
      · rename_i hj
        injection hp with hp
        obtain ⟨cs', h1, h2⟩ := (Classical.choose_spec (hex ⟨j, hj⟩)).1
        obtain ⟨_, h3, h4⟩ := World.cells?_some h1
        rw [hp] at h2
        refine ⟨cs', d.K_len h2, h2, fun i u hu => ?_⟩
        have hi : i < P.cellsOf e := by
          rw [← h3]
          exact (List.getElem?_eq_some_iff.1 hu).1
        have := h4 i hi
        rw [hu, Go.Deep.add_add, hc] at this
        exact this
      · cases hp
    · obtain ⟨i, rfl⟩ := (List.mem_ofFn).1 hy
      exact (Classical.choose_spec (hex i)).2
theorem u32_wf (n : Int) (h : (Lit.int .u32 n).wf = true) : 0 ≤ n ∧ n < 4294967296 := by
  have h' : (decide (IntKind.u32.min ≤ n) && decide (n ≤ IntKind.u32.max)) = true := h
  rw [Bool.and_eq_true] at h'
  have e0 : IntKind.u32.min = 0 := by kernel_rfl
  have e1 : IntKind.u32.max = 4294967295 := by kernel_rfl
  have a := of_decide_eq_true h'.1
  have b := of_decide_eq_true h'.2
  rw [e0] at a
  rw [e1] at b
  omega
def Wd (y : S40) : Prop := 0 ≤ y.f2 ∧ y.f2 < 4294967296
set_option maxRecDepth 100000 in
theorem event_k40 {H : Type} {enc : TypeId × Value → H} {w : World} {spare : Nat → Bool} {held : Bool} (n : Nat) (cs : List Value) (y : DataW H × List MemPlace) (hy : DataW.trod enc Tryz.prog w 0 spare held n 40 cs = some y) : ∃ a, k40.K w a cs ∧ Wd a := by
  obtain ⟨y0, y1, y2, m, _, hlen, h0, h1, h2⟩ := trod_struct3 Tryz.underlying40 hy
  have hC : Tryz.prog.cellsOf 40 = 3 := by kernel_rfl
  have hC3 : Tryz.prog.cellsOf 3 = 1 := by kernel_rfl
  have hC33 : Tryz.prog.cellsOf 33 = 1 := by kernel_rfl
  rw [hC] at hlen
  match cs, hlen with
  | [c0, c1, c2], _ =>
    simp only [hC3, hC33] at h0 h1 h2
    obtain ⟨a0, e0, _, _⟩ := DataW.trod_int Tryz.underlying3 h0
    obtain ⟨a1, e1, _, _⟩ := DataW.trod_int Tryz.underlying3 h1
    obtain ⟨a2, e2, _, hw⟩ := DataW.trod_int Tryz.underlying33 h2
    simp at e0 e1 e2
    subst e0 e1 e2
    exact ⟨⟨a0, a1, a2⟩, k40_mk w ⟨a0, a1, a2⟩, u32_wf a2 hw⟩
set_option maxRecDepth 100000 in
theorem slice_k40 {H : Type} {enc : TypeId × Value → H} {w : World} {r : Reach} {base : Nat} {spare : Nat → Bool} {held : Bool} {v : Value} {x : DataW H} {ps : List MemPlace} (hv : Value.okWide Tryz.prog w r base 22 v) (h : DataW.Trod enc Tryz.prog w 0 spare held 22 v x ps) :
    ∃ (A : Option Addr) (c : Nat) (l : List S40), v = .slice A l.length c ∧ l.length ≤ c ∧ Kd.C k40 w A l.length l ∧ Wide l := by
  obtain ⟨A, c, l, h1, h2, h3, h4⟩ := slice_kdG (d := k40) (G := Wd) Tryz.underlying22 (by kernel_rfl) event_k40 hv h
  exact ⟨A, c, l, h1, h2, h3, fun x hx => h4 x hx⟩
/-- The second table of a row's condition. -/
theorem tabIs_of_second {P : Program} {W : World} {name : String} {k : IntKind} {zs : List Int} {x : String} {dx : DataW Unit} {rest : List (String × DataW Unit)} {g : Nat} {t e : TypeId} {n : Nat}
    (hg : P.globalNamed name = some g) (hty : (P.globals[g]?).map (·.type) = some t) (ht : P.underlying t = some (.array n e)) (he : P.underlying e = some (.int k)) (hce : P.cellsOf e = 1) (hct : P.cellsOf t = n)
    (h : laidMet P ((x, dx) :: (name, Lib.tabData k zs) :: rest) W) : Lib.TabIs P W name k zs := by
  obtain ⟨ps, ⟨_, _, _, _, p1, q1, _, _, _, _, h2, _⟩, _⟩ := h
  obtain ⟨g', t', cs, fuel, p, q, hg', ht', hvar, hd, _, _⟩ := h2
  obtain rfl := Option.some.inj (hg.symm.trans hg')
  obtain rfl := Option.some.inj (hty.symm.trans ht')
  unfold Lib.TabIs
  rw [hvar, ← Lib.cells_of_tab ht he hce hct hd]
end Go.Proofs.YtcmildkkigccaaaGreatDoor.PAll
