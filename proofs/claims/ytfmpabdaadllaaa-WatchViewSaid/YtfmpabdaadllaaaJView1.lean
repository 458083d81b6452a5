/-
  Walks and plain laws, joined of 11 texts.
-/
import Derived.Test.YtfmpabdaadllaaaBas
import Derived.Test.YtfmpabdaadllaaaRows
import Derived.WalkKit
import Derived.ProofKit
import Derived.Deep.Slices
import Derived.Lib.SmallJoins
import Derived.Test.YtfmpabdaadllaaaGD
import Derived.Test.YtfmpabdaadllaaaGE
import Derived.Test.YtfmpabdaadllaaaGB
/-
  What came in, as the walks read it: slices of structs, a configuration.
-/
namespace Go.Proofs.Ytfmpabdaadllaaa.PAll
open Go.ChangeShapes Go.WideShapes Go.Deep Go.Joins
open Go.RowKit Go.Proofs.YtfmpabdaadllaaaW.PrintWords Go.Proofs.YtfmpabdaadllaaaW.PrintLast
set_option linter.unusedVariables false
theorem slice_kc {α H : Type} {enc : TypeId × Value → H} {P : Program} {w : World} {spare : Nat → Bool} {held : Bool} {d : Kd α} {t e : TypeId} {cs : List Value} {fuel : Nat} {x : DataW H × List MemPlace} (ht : P.underlying t = some (.slice e)) (hc : P.cellsOf e = d.sz)
    (hel : ∀ n cs y, DataW.trod enc P w 0 spare held n e cs = some y → ∃ a, d.K w a cs) (hf : DataW.trod enc P w 0 spare held fuel t cs = some x) :
    ∃ (A : Option Addr) (c : Nat) (l : List α), cs = [.slice A l.length c] ∧ l.length ≤ c ∧ Kd.C d w A l.length l := by
  rcases open_slice ht hf with ⟨hcs, _⟩ | ⟨a, len, cap, m, n, D, Pl, hcs, hb, hl, hm, hmm, _, hx⟩
  · exact ⟨none, 0, [], hcs, Nat.le_refl _, rfl, Nat.zero_le _, fun h => absurd h (Nat.lt_irrefl 0)⟩
  · have hlen : len ≤ m := by rw [hmm]; split <;> omega
    have hex : ∀ i : Fin len, ∃ a', ∃ cs', w.cells? 0 (a.add (i.1 * P.cellsOf e)) (P.cellsOf e) = some cs' ∧ d.K w a' cs' := fun i => by
      obtain ⟨cs', h1, h2⟩ := hx i.1 (by have := i.2; omega)
      obtain ⟨y, hy⟩ := hel _ _ _ h2
      exact ⟨y, cs', h1, hy⟩
    refine ⟨some a, cap, List.ofFn fun i => Classical.choose (hex i), by rw [hcs]; simp, by simpa using hl, rfl, by simp; exact Nat.le_trans hl (Nat.le_trans hm (by decide)), fun _ => ⟨a, rfl, fun j p hp => ?_⟩⟩
    rw [List.getElem?_ofFn] at hp
    split at hp
    · rename_i hj
      injection hp with hp
      obtain ⟨cs', h1, h2⟩ := Classical.choose_spec (hex ⟨j, hj⟩)
      obtain ⟨_, h3, h4⟩ := World.cells?_some h1
      rw [hp] at h2
      refine ⟨cs', d.K_len h2, h2, fun i u hu => ?_⟩
      have hi : i < P.cellsOf e := by
        rw [← h3]
        exact (List.getElem?_eq_some_iff.1 hu).1
      have := h4 i hi
      rw [hu, Go.Deep.add_add, hc] at this
      exact this
    · cases hp
theorem slice_kd {α H : Type} {enc : TypeId × Value → H} {P : Program} {w : World} {r : Reach} {base : Nat} {spare : Nat → Bool} {held : Bool} {d : Kd α} {t e : TypeId} {v : Value} {x : DataW H} {ps : List MemPlace} (ht : P.underlying t = some (.slice e)) (hc : P.cellsOf e = d.sz)
    (hel : ∀ n cs y, DataW.trod enc P w 0 spare held n e cs = some y → ∃ a, d.K w a cs) (hv : Value.okWide P w r base t v) (h : DataW.Trod enc P w 0 spare held t v x ps) :
    ∃ (A : Option Addr) (c : Nat) (l : List α), v = .slice A l.length c ∧ l.length ≤ c ∧ Kd.C d w A l.length l := by
  obtain ⟨A, len, cap, rfl⟩ := okWide_slice ht hv
  obtain ⟨fuel, hf⟩ := h
  obtain ⟨A', c', l, hcs, h1, h2⟩ := slice_kc ht hc hel hf
  simp [Value.cells] at hcs
  obtain ⟨rfl, rfl, rfl⟩ := hcs
  exact ⟨_, _, l, rfl, h1, h2⟩
section
variable {H : Type} {enc : TypeId × Value → H} {w : World} {r : Reach} {base : Nat} {spare : Nat → Bool} {held : Bool}
theorem trod_struct5 {P : Program} {b0 : Nat} {t : TypeId} {f0 f1 f2 f3 f4 : Field} {fuel : Nat} {cs : List Value} {x : DataW H × List MemPlace} (ht : P.underlying t = some (.struct #[f0, f1, f2, f3, f4])) (h : DataW.trod enc P w b0 spare held fuel t cs = some x) :
    ∃ y0 y1 y2 y3 y4 n, cs.length = P.cellsOf t ∧ DataW.trod enc P w b0 spare held n f0.type ((cs.drop f0.offset).take (P.cellsOf f0.type)) = some y0 ∧
      DataW.trod enc P w b0 spare held n f1.type ((cs.drop f1.offset).take (P.cellsOf f1.type)) = some y1 ∧ DataW.trod enc P w b0 spare held n f2.type ((cs.drop f2.offset).take (P.cellsOf f2.type)) = some y2 ∧
      DataW.trod enc P w b0 spare held n f3.type ((cs.drop f3.offset).take (P.cellsOf f3.type)) = some y3 ∧ DataW.trod enc P w b0 spare held n f4.type ((cs.drop f4.offset).take (P.cellsOf f4.type)) = some y4 := by
  obtain ⟨xs, n, _, rfl, hl, hlen, hf⟩ := DataW.trod_struct ht h
  match xs, hlen with
  | [y0, y1, y2, y3, y4], _ => exact ⟨y0, y1, y2, y3, y4, n, hl, by simpa using hf 0 f0 rfl, by simpa using hf 1 f1 rfl, by simpa using hf 2 f2 rfl, by simpa using hf 3 f3 rfl, by simpa using hf 4 f4 rfl⟩
theorem el73 {n : Nat} {cs : List Value} {y : DataW H × List MemPlace} (hy : DataW.trod enc Try.prog w 0 spare held n 73 cs = some y) : ∃ a, k73.K w a cs := by
  obtain ⟨y0, y1, m, _, hlen, h0, h1⟩ := trod_struct2 Try.underlying73 hy
  have hC : Try.prog.cellsOf 73 = 2 := by kernel_rfl
  have hC3 : Try.prog.cellsOf 3 = 1 := by kernel_rfl
  rw [hC] at hlen
  match cs, hlen with
  | [c0, c1], _ =>
    simp only [hC3] at h0 h1
    obtain ⟨a0, e0, _, _⟩ := DataW.trod_int Try.underlying3 h0
    obtain ⟨a1, e1, _, _⟩ := DataW.trod_int Try.underlying3 h1
    simp at e0 e1
    subst e0 e1
    exact ⟨⟨a0, a1⟩, k73_mk w ⟨a0, a1⟩⟩
theorem el75 {n : Nat} {cs : List Value} {y : DataW H × List MemPlace} (hy : DataW.trod enc Try.prog w 0 spare held n 75 cs = some y) : ∃ a, k75.K w a cs := by
  obtain ⟨y0, y1, m, _, hlen, h0, h1⟩ := trod_struct2 Try.underlying75 hy
  have hC : Try.prog.cellsOf 75 = 2 := by kernel_rfl
  have hC3 : Try.prog.cellsOf 3 = 1 := by kernel_rfl
  rw [hC] at hlen
  match cs, hlen with
  | [c0, c1], _ =>
    simp only [hC3] at h0 h1
    obtain ⟨a0, e0, _, _⟩ := DataW.trod_int Try.underlying3 h0
    obtain ⟨a1, e1, _, _⟩ := DataW.trod_int Try.underlying3 h1
    simp at e0 e1
    subst e0 e1
    exact ⟨⟨a0, a1⟩, k75_mk w ⟨a0, a1⟩⟩
theorem el46 {n : Nat} {cs : List Value} {y : DataW H × List MemPlace} (hy : DataW.trod enc Try.prog w 0 spare held n 46 cs = some y) : ∃ a, k46.K w a cs := by
  obtain ⟨y0, y1, y2, y3, m, _, hlen, h0, h1, h2, h3⟩ := trod_struct4 Try.underlying46 hy
  have hC : Try.prog.cellsOf 46 = 4 := by kernel_rfl
  have hC3 : Try.prog.cellsOf 3 = 1 := by kernel_rfl
  rw [hC] at hlen
  match cs, hlen with
  | [c0, c1, c2, c3], _ =>
    simp only [hC3] at h0 h1 h2 h3
    obtain ⟨a0, e0, _, _⟩ := DataW.trod_int Try.underlying3 h0
    obtain ⟨a1, e1, _, _⟩ := DataW.trod_int Try.underlying3 h1
    obtain ⟨a2, e2, _, _⟩ := DataW.trod_int Try.underlying3 h2
    obtain ⟨a3, e3, _, _⟩ := DataW.trod_int Try.underlying3 h3
    simp at e0 e1 e2 e3
    subst e0 e1 e2 e3
    exact ⟨⟨a0, a1, a2, a3⟩, k46_mk w ⟨a0, a1, a2, a3⟩⟩
theorem el56 {n : Nat} {cs : List Value} {y : DataW H × List MemPlace} (hy : DataW.trod enc Try.prog w 0 spare held n 56 cs = some y) : ∃ a, k56.K w a cs := by
  obtain ⟨y0, y1, y2, m, _, hlen, h0, h1, h2⟩ := trod_struct3 Try.underlying56 hy
  have hC : Try.prog.cellsOf 56 = 3 := by kernel_rfl
  have hC3 : Try.prog.cellsOf 3 = 1 := by kernel_rfl
  have hC54 : Try.prog.cellsOf 54 = 1 := by kernel_rfl
  rw [hC] at hlen
  match cs, hlen with
  | [c0, c1, c2], _ =>
    simp only [hC3] at h0 h1
    simp only [hC54] at h2
    obtain ⟨a0, e0, _, _⟩ := DataW.trod_int Try.underlying3 h0
    obtain ⟨a1, e1, _, _⟩ := DataW.trod_int Try.underlying3 h1
    obtain ⟨a2, e2, _, _⟩ := DataW.trod_int Try.underlying54 h2
    simp at e0 e1 e2
    subst e0 e1 e2
    exact ⟨⟨a0, a1, a2⟩, k56_mk w ⟨a0, a1, a2⟩⟩
theorem el58 {n : Nat} {cs : List Value} {y : DataW H × List MemPlace} (hy : DataW.trod enc Try.prog w 0 spare held n 58 cs = some y) : ∃ a, k58.K w a cs := by
  obtain ⟨y0, y1, y2, y3, y4, m, hlen, h0, h1, h2, h3, h4⟩ := trod_struct5 Try.underlying58 hy
  have hC : Try.prog.cellsOf 58 = 5 := by kernel_rfl
  have hC3 : Try.prog.cellsOf 3 = 1 := by kernel_rfl
  have hC30 : Try.prog.cellsOf 30 = 1 := by kernel_rfl
  have hC54 : Try.prog.cellsOf 54 = 1 := by kernel_rfl
  rw [hC] at hlen
  match cs, hlen with
  | [c0, c1, c2, c3, c4], _ =>
    simp only [hC3] at h0 h1
    simp only [hC30] at h2
    simp only [hC54] at h3 h4
    obtain ⟨a0, e0, _, _⟩ := DataW.trod_int Try.underlying3 h0
    obtain ⟨a1, e1, _, _⟩ := DataW.trod_int Try.underlying3 h1
    obtain ⟨a2, e2, _, _⟩ := DataW.trod_int Try.underlying30 h2
    obtain ⟨a3, e3, _, _⟩ := DataW.trod_int Try.underlying54 h3
    obtain ⟨a4, e4, _, _⟩ := DataW.trod_int Try.underlying54 h4
    simp at e0 e1 e2 e3 e4
    subst e0 e1 e2 e3 e4
    exact ⟨⟨a0, a1, a2, a3, a4⟩, k58_mk w ⟨a0, a1, a2, a3, a4⟩⟩
theorem slice_p27 {v : Value} {x : DataW H} {ps : List MemPlace} (hv : Value.okWide Try.prog w r base 27 v) (h : DataW.Trod enc Try.prog w 0 spare held 27 v x ps) :
    ∃ (A : Option Addr) (c : Nat) (l : List S56), v = .slice A l.length c ∧ l.length ≤ c ∧ Kd.C k56 w A l.length l :=
  slice_kd Try.underlying27 (by kernel_rfl) (fun n cs y hy => el56 hy) hv h
theorem slice_p48 {v : Value} {x : DataW H} {ps : List MemPlace} (hv : Value.okWide Try.prog w r base 48 v) (h : DataW.Trod enc Try.prog w 0 spare held 48 v x ps) :
    ∃ (A : Option Addr) (c : Nat) (l : List S58), v = .slice A l.length c ∧ l.length ≤ c ∧ Kd.C k58 w A l.length l :=
  slice_kd Try.underlying48 (by kernel_rfl) (fun n cs y hy => el58 hy) hv h
/-- A configuration. -/
theorem conf_26 {v : Value} {x : DataW H} {ps : List MemPlace} (hv : Value.okWide Try.prog w r base 26 v) (h : DataW.Trod enc Try.prog w 0 spare held 26 v x ps) :
    ∃ (A0 : Option Addr) (c0 : Nat) (l0 : List S73) (A1 : Option Addr) (c1 : Nat) (l1 : List S75) (A2 : Option Addr) (c2 : Nat) (l2 : List S46), v = .agg #[.slice A0 l0.length c0, .slice A1 l1.length c1, .slice A2 l2.length c2] ∧
      (l0.length ≤ c0 ∧ Kd.C k73 w A0 l0.length l0) ∧ (l1.length ≤ c1 ∧ Kd.C k75 w A1 l1.length l1) ∧ (l2.length ≤ c2 ∧ Kd.C k46 w A2 l2.length l2) := by
  obtain ⟨v0, v1, v2, y0, y1, y2, m, rfl, _, _, h0, h1, h2⟩ := open_agg3 Try.underlying26 (by kernel_rfl) (by kernel_rfl) hv h
  obtain ⟨A0, c0, l0, e0, g0⟩ := slice_kc (d := k73) Try.underlying22 (by kernel_rfl) (fun n cs y hy => el73 hy) h0
  obtain ⟨A1, c1, l1, e1, g1⟩ := slice_kc (d := k75) Try.underlying23 (by kernel_rfl) (fun n cs y hy => el75 hy) h1
  obtain ⟨A2, c2, l2, e2, g2⟩ := slice_kc (d := k46) Try.underlying24 (by kernel_rfl) (fun n cs y hy => el46 hy) h2
  simp at e0 e1 e2
  subst e0 e1 e2
  exact ⟨A0, c0, l0, A1, c1, l1, A2, c2, l2, rfl, g0, g1, g2⟩
end
end Go.Proofs.Ytfmpabdaadllaaa.PAll

/-
  Whom an event falls to, against the document.
-/
namespace Go.Proofs.Ytfmpabdaadllaaa.PAll
open Go.RowKit Go.Proofs.YtfmpabdaadllaaaW.PrintWords Go.Proofs.YtfmpabdaadllaaaW.PrintLast
set_option linter.unusedVariables false
set_option linter.unusedSimpArgs false
theorem partS_nn {W : List S75} (h : WOk W) (n : Nat) : 0 ≤ partS W n := h.pt _ (posS_ok h n).1
theorem falls_val {W : List S75} (h : WOk W) (l : List S56) (i : Nat) : (fallsE W l i = -1 ↔ (l.getD i z56).f0 = 1) ∧ ((l.getD i z56).f0 ≠ 1 → fallsE W l i = partS W (tkN l i)) := by
  have := partS_nn h (tkN l i)
  unfold fallsE
  by_cases e : (l.getD i z56).f0 = 1
  · rw [if_pos e]; exact ⟨⟨fun _ => e, fun _ => rfl⟩, fun h => absurd e h⟩
  · rw [if_neg e]; exact ⟨⟨fun h => by omega, fun h => absurd h e⟩, fun _ => rfl⟩
end Go.Proofs.Ytfmpabdaadllaaa.PAll

namespace Go.Proofs.Ytfmpabdaadllaaa.PAll
open Go.RowKit Go.Proofs.YtfmpabdaadllaaaW.PrintWords Go.Proofs.YtfmpabdaadllaaaW.PrintLast
set_option linter.unusedVariables false
set_option linter.unusedSimpArgs false
attribute [local go_sem high] eqA56
/-! ### prioryref27_SameEvents: function 16 -/
def prioryref27_SameEvents.l0 : Nat → List (S56) → List (S56) → Int → Option (Bool)
  | 0, _, _, _ => none
  | k + 1, x0, x1, x5 => if x5 < (x0.length : Int) then (if 0 ≤ x5 then (if x5 < (x1.length : Int) then (if (!(((rd_T56 x0 x5).f0) == ((rd_T56 x1 x5).f0)) || (!(((rd_T56 x0 x5).f1) == ((rd_T56 x1 x5).f1)) || (!(((rd_T56 x0 x5).f2) == ((rd_T56 x1 x5).f2))))) = true then (some false) else (prioryref27_SameEvents.l0 k x0 x1 (wrap64 (x5 + 1)))) else (none)) else (none)) else (some true)
def prioryref27_SameEvents.f (k : Nat) (l0 : List (S56)) (l1 : List (S56)) : Option (Bool) := if (l0.length : Int) = (l1.length : Int) then (prioryref27_SameEvents.l0 k l0 l1 0) else (some false)
theorem prioryref27_SameEvents.mono_l : ∀ k, (∀ y0 y1 y2, LeO (prioryref27_SameEvents.l0 k y0 y1 y2) (prioryref27_SameEvents.l0 (k + 1) y0 y1 y2))
  | 0 => fun _ _ _ r h => by simp [prioryref27_SameEvents.l0] at h
  | k + 1 => by
    have ih0 := prioryref27_SameEvents.mono_l k
    · intro y0 y1 y2
      unfold prioryref27_SameEvents.l0
      repeat' first
      | (with_reducible exact ih0 _ _ _)
      | (with_reducible exact LeO.refl _)
      | (with_reducible exact LeO.none _)
      | (with_reducible refine LeO.ite ?_ ?_)
      | (with_reducible refine LeO.bind ?_ (fun _ => ?_))
      | exact ih0 _ _ _
      | exact LeO.none _
      | refine LeO.ite ?_ ?_
      | refine LeO.bind ?_ (fun _ => ?_)
theorem prioryref27_SameEvents.mono : ∀ a0 a1 k, LeO (prioryref27_SameEvents.f k a0 a1) (prioryref27_SameEvents.f (k + 1) a0 a1) := by
  intro a0 a1 k
  have ih0 := prioryref27_SameEvents.mono_l k
  unfold prioryref27_SameEvents.f
  repeat' first
      | (with_reducible exact ih0 _ _ _)
      | (with_reducible exact LeO.refl _)
      | (with_reducible exact LeO.none _)
      | (with_reducible refine LeO.ite ?_ ?_)
      | (with_reducible refine LeO.bind ?_ (fun _ => ?_))
      | exact ih0 _ _ _
      | exact LeO.none _
      | refine LeO.ite ?_ ?_
      | refine LeO.bind ?_ (fun _ => ?_)
set_option maxHeartbeats 8000000 in
set_option maxRecDepth 100000 in
theorem prioryref27_SameEvents.calls (k : Nat) (A0 : Option Addr) (c0 : Nat) (l0 : List (S56)) (A1 : Option Addr) (c1 : Nat) (l1 : List (S56)) (r : Bool) (w : World) (hr0 : Kd.C k56 w A0 l0.length l0) (hc0 : l0.length ≤ c0) (hr1 : Kd.C k56 w A1 l1.length l1) (hc1 : l1.length ≤ c1) (h : prioryref27_SameEvents.f k l0 l1 = some r) :
    Calls Try.prog 16 #[.slice A0 l0.length c0, .slice A1 l1.length c1] w fun e w' => e = .returned (.bool r) ∧ Drawn0 w w' := by
  have hu56 := Try.underlying56
  have HR0 := Aside0.mk hr0
  have HC0 := Aside0.mk hc0
  clear hr0 hc0
  have HR1 := Aside0.mk hr1
  have HC1 := Aside0.mk hc1
  clear hr1 hc1
  have H : (if (l0.length : Int) = (l1.length : Int) then (prioryref27_SameEvents.l0 k l0 l1 0) else (some false)) = some r := h
  clear h
  by_cases c3 : (l0.length : Int) = (l1.length : Int)
  · rw [if_pos c3] at H
    have c3b0 : ((l0.length : Int) == (l1.length : Int)) = true := beq_iff_eq.mpr c3
    have c3b1 : ((l0.length : Int) != (l1.length : Int)) = false := bne_eq_false_iff_eq.mpr c3
    have c3b2 : (l0.length == l1.length) = true := by first | simpa using c3 | (simp at c3 ⊢; omega)
    clear c3
    have H' := Aside0.mk H
    clear H
    go_enter Try.func16, Try.ntmps16
    go_wp2
    repeat (go_quiet (fail); try go_wp2)
    go_loopg [5] k (fun kq v5 w' => ∃ (x5_1 : Int), v5 = .int .i64 x5_1 ∧ Aside0 (prioryref27_SameEvents.l0 kq l0 l1 x5_1 = some r) ∧ Aside0 (kq ≤ k) ∧ Drawn0 w w')
    case atStart => exact ⟨(0), (by first | rfl | (simp; done) | (simp [*]; done)), H', ⟨Nat.le_refl _⟩, by repeat (first | exact Drawn0.refl _ | apply Drawn0.step)⟩
    case round =>
      clear H'
      try clear c1
      try clear p2
      try clear c3
      try clear c3b0
      try clear c3b1
      try clear c3b2
      obtain ⟨x5_1, rfl, HA, HK1, ⟨m1, rfl⟩⟩ := hrel
      cases gk with
      | zero => exact absurd HA.out (by simp [prioryref27_SameEvents.l0])
      | succ k1 =>
        have H := HA.out
        clear HA
        simp only [prioryref27_SameEvents.l0] at H
        by_cases c4 : x5_1 < (l0.length : Int)
        · rw [if_pos c4] at H
          have c4b0 : decide (x5_1 < (l0.length : Int)) = true := decide_eq_true c4
          clear c4
          by_cases c5 : 0 ≤ x5_1
          · rw [if_pos c5] at H
            have c5b0 : decide (0 ≤ x5_1) = true := decide_eq_true c5
            clear c5
            by_cases c6 : x5_1 < (l1.length : Int)
            · rw [if_pos c6] at H
              have c6b0 : decide (x5_1 < (l1.length : Int)) = true := decide_eq_true c6
              clear c6
              by_cases c7 : (!(((rd_T56 l0 x5_1).f0) == ((rd_T56 l1 x5_1).f0)) || (!(((rd_T56 l0 x5_1).f1) == ((rd_T56 l1 x5_1).f1)) || (!(((rd_T56 l0 x5_1).f2) == ((rd_T56 l1 x5_1).f2))))) = true
              · rw [if_pos c7] at H
                have c7b0 : (!(((rd_T56 l0 x5_1).f0) == ((rd_T56 l1 x5_1).f0)) || (!(((rd_T56 l0 x5_1).f1) == ((rd_T56 l1 x5_1).f1)) || (!(((rd_T56 l0 x5_1).f2) == ((rd_T56 l1 x5_1).f2))))) = true := c7
                clear c7
                obtain rfl := Option.some.inj H
                have p262 : 0 ≤ (x5_1 : Int) := of_decide_eq_true (by first | (with_reducible assumption) | assumption)
                have q262 : x5_1 < (l0.length : Int) := of_decide_eq_true (by first | (with_reducible assumption) | assumption)
                obtain ⟨ad262, e262, hx262_0, hx262_1, hx262_2⟩ := at_T56 HR0.out x5_1 p262 q262
                cases e262
                replace p262 := eq_true p262
                replace q262 := eq_true q262
                have p263 : 0 ≤ (x5_1 : Int) := of_decide_eq_true (by first | (with_reducible assumption) | assumption)
                have q263 : x5_1 < (l1.length : Int) := of_decide_eq_true (by first | (with_reducible assumption) | assumption)
                obtain ⟨ad263, e263, hx263_0, hx263_1, hx263_2⟩ := at_T56 HR1.out x5_1 p263 q263
                cases e263
                replace p263 := eq_true p263
                replace q263 := eq_true q263
                go_wp2
                repeat (go_quiet (fail); try go_wp2)
                go_ret
                exact ⟨by first | rfl | (simp; done) | (simp [*]; done), by repeat (first | exact Drawn0.refl _ | apply Drawn0.step)⟩
              · rw [if_neg c7] at H
                have c7b0 : (!(((rd_T56 l0 x5_1).f0) == ((rd_T56 l1 x5_1).f0)) || (!(((rd_T56 l0 x5_1).f1) == ((rd_T56 l1 x5_1).f1)) || (!(((rd_T56 l0 x5_1).f2) == ((rd_T56 l1 x5_1).f2))))) = false := by simpa using c7
                clear c7
                have H' := Aside0.mk H
                clear H
                have p262 : 0 ≤ (x5_1 : Int) := of_decide_eq_true (by first | (with_reducible assumption) | assumption)
                have q262 : x5_1 < (l0.length : Int) := of_decide_eq_true (by first | (with_reducible assumption) | assumption)
                obtain ⟨ad262, e262, hx262_0, hx262_1, hx262_2⟩ := at_T56 HR0.out x5_1 p262 q262
                cases e262
                replace p262 := eq_true p262
                replace q262 := eq_true q262
                have p263 : 0 ≤ (x5_1 : Int) := of_decide_eq_true (by first | (with_reducible assumption) | assumption)
                have q263 : x5_1 < (l1.length : Int) := of_decide_eq_true (by first | (with_reducible assumption) | assumption)
                obtain ⟨ad263, e263, hx263_0, hx263_1, hx263_2⟩ := at_T56 HR1.out x5_1 p263 q263
                cases e263
                replace p263 := eq_true p263
                replace q263 := eq_true q263
                go_wp2
                repeat (go_quiet (fail); try go_wp2)
                go_roundg k1
                case measure => have := HK1.out; omega
                case rel => exact ⟨(wrap64 (x5_1 + 1)), (by first | rfl | (simp; done) | (simp [*]; done)), H', ⟨by have := HK1.out; omega⟩, by repeat (first | exact Drawn0.refl _ | apply Drawn0.step)⟩
            · rw [if_neg c6] at H
              exact absurd H (by simp)
          · rw [if_neg c5] at H
            exact absurd H (by simp)
        · rw [if_neg c4] at H
          have c4b0 : decide (x5_1 < (l0.length : Int)) = false := decide_eq_false c4
          clear c4
          obtain rfl := Option.some.inj H
          go_wp2
          repeat (go_quiet (fail); try go_wp2)
          go_ret
          exact ⟨by first | rfl | (simp; done) | (simp [*]; done), by repeat (first | exact Drawn0.refl _ | apply Drawn0.step)⟩
  · rw [if_neg c3] at H
    have c3b0 : ((l0.length : Int) == (l1.length : Int)) = false := beq_eq_false_iff_ne.mpr c3
    have c3b1 : ((l0.length : Int) != (l1.length : Int)) = true := bne_iff_ne.mpr c3
    have c3b2 : (l0.length == l1.length) = false := by first | simpa using c3 | (simp at c3 ⊢; omega)
    obtain rfl := Option.some.inj H
    go_enter Try.func16, Try.ntmps16
    go_wp2
    repeat (go_quiet (fail); try go_wp2)
    go_ret
    exact ⟨by first | rfl | (simp; done) | (simp [*]; done), by repeat (first | exact Drawn0.refl _ | apply Drawn0.step)⟩
end Go.Proofs.Ytfmpabdaadllaaa.PAll

namespace Go.Proofs.Ytfmpabdaadllaaa.PAll
open Go.RowKit Go.Proofs.YtfmpabdaadllaaaW.PrintWords Go.Proofs.YtfmpabdaadllaaaW.PrintLast
set_option linter.unusedVariables false
set_option linter.unusedSimpArgs false
attribute [local go_sem high] eqA58
/-! ### prioryref27_Same: function 25 -/
def prioryref27_Same.l0 : Nat → List (S58) → List (S58) → Int → Option (Bool)
  | 0, _, _, _ => none
  | k + 1, x0, x1, x5 => if x5 < (x0.length : Int) then (if 0 ≤ x5 then (if x5 < (x1.length : Int) then (if (!(((rd_T58 x0 x5).f0) == ((rd_T58 x1 x5).f0)) || (!(((rd_T58 x0 x5).f1) == ((rd_T58 x1 x5).f1)) || (!(((rd_T58 x0 x5).f2) == ((rd_T58 x1 x5).f2)) || (!(((rd_T58 x0 x5).f3) == ((rd_T58 x1 x5).f3)) || (!(((rd_T58 x0 x5).f4) == ((rd_T58 x1 x5).f4))))))) = true then (some false) else (prioryref27_Same.l0 k x0 x1 (wrap64 (x5 + 1)))) else (none)) else (none)) else (some true)
def prioryref27_Same.f (k : Nat) (l0 : List (S58)) (l1 : List (S58)) : Option (Bool) := if (l0.length : Int) = (l1.length : Int) then (prioryref27_Same.l0 k l0 l1 0) else (some false)
theorem prioryref27_Same.mono_l : ∀ k, (∀ y0 y1 y2, LeO (prioryref27_Same.l0 k y0 y1 y2) (prioryref27_Same.l0 (k + 1) y0 y1 y2))
  | 0 => fun _ _ _ r h => by simp [prioryref27_Same.l0] at h
  | k + 1 => by
    have ih0 := prioryref27_Same.mono_l k
    · intro y0 y1 y2
      unfold prioryref27_Same.l0
      repeat' first
      | (with_reducible exact ih0 _ _ _)
      | (with_reducible exact LeO.refl _)
      | (with_reducible exact LeO.none _)
      | (with_reducible refine LeO.ite ?_ ?_)
      | (with_reducible refine LeO.bind ?_ (fun _ => ?_))
      | exact ih0 _ _ _
      | exact LeO.none _
      | refine LeO.ite ?_ ?_
      | refine LeO.bind ?_ (fun _ => ?_)
theorem prioryref27_Same.mono : ∀ a0 a1 k, LeO (prioryref27_Same.f k a0 a1) (prioryref27_Same.f (k + 1) a0 a1) := by
  intro a0 a1 k
  have ih0 := prioryref27_Same.mono_l k
  unfold prioryref27_Same.f
  repeat' first
      | (with_reducible exact ih0 _ _ _)
      | (with_reducible exact LeO.refl _)
      | (with_reducible exact LeO.none _)
      | (with_reducible refine LeO.ite ?_ ?_)
      | (with_reducible refine LeO.bind ?_ (fun _ => ?_))
      | exact ih0 _ _ _
      | exact LeO.none _
      | refine LeO.ite ?_ ?_
      | refine LeO.bind ?_ (fun _ => ?_)
set_option maxHeartbeats 8000000 in
set_option maxRecDepth 100000 in
theorem prioryref27_Same.calls (k : Nat) (A0 : Option Addr) (c0 : Nat) (l0 : List (S58)) (A1 : Option Addr) (c1 : Nat) (l1 : List (S58)) (r : Bool) (w : World) (hr0 : Kd.C k58 w A0 l0.length l0) (hc0 : l0.length ≤ c0) (hr1 : Kd.C k58 w A1 l1.length l1) (hc1 : l1.length ≤ c1) (h : prioryref27_Same.f k l0 l1 = some r) :
    Calls Try.prog 25 #[.slice A0 l0.length c0, .slice A1 l1.length c1] w fun e w' => e = .returned (.bool r) ∧ Drawn0 w w' := by
  have hu58 := Try.underlying58
  have HR0 := Aside0.mk hr0
  have HC0 := Aside0.mk hc0
  clear hr0 hc0
  have HR1 := Aside0.mk hr1
  have HC1 := Aside0.mk hc1
  clear hr1 hc1
  have H : (if (l0.length : Int) = (l1.length : Int) then (prioryref27_Same.l0 k l0 l1 0) else (some false)) = some r := h
  clear h
  by_cases c3 : (l0.length : Int) = (l1.length : Int)
  · rw [if_pos c3] at H
    have c3b0 : ((l0.length : Int) == (l1.length : Int)) = true := beq_iff_eq.mpr c3
    have c3b1 : ((l0.length : Int) != (l1.length : Int)) = false := bne_eq_false_iff_eq.mpr c3
    have c3b2 : (l0.length == l1.length) = true := by first | simpa using c3 | (simp at c3 ⊢; omega)
    clear c3
    have H' := Aside0.mk H
    clear H
    go_enter Try.func25, Try.ntmps25
    go_wp2
    repeat (go_quiet (fail); try go_wp2)
    go_loopg [5] k (fun kq v5 w' => ∃ (x5_1 : Int), v5 = .int .i64 x5_1 ∧ Aside0 (prioryref27_Same.l0 kq l0 l1 x5_1 = some r) ∧ Aside0 (kq ≤ k) ∧ Drawn0 w w')
    case atStart => exact ⟨(0), (by first | rfl | (simp; done) | (simp [*]; done)), H', ⟨Nat.le_refl _⟩, by repeat (first | exact Drawn0.refl _ | apply Drawn0.step)⟩
    case round =>
      clear H'
      try clear c1
      try clear c2
      try clear p2
      try clear c3
      try clear c3b0
      try clear c3b1
      try clear c3b2
      obtain ⟨x5_1, rfl, HA, HK1, ⟨m1, rfl⟩⟩ := hrel
      cases gk with
      | zero => exact absurd HA.out (by simp [prioryref27_Same.l0])
      | succ k1 =>
        have H := HA.out
        clear HA
        simp only [prioryref27_Same.l0] at H
        by_cases c4 : x5_1 < (l0.length : Int)
        · rw [if_pos c4] at H
          have c4b0 : decide (x5_1 < (l0.length : Int)) = true := decide_eq_true c4
          clear c4
          by_cases c5 : 0 ≤ x5_1
          · rw [if_pos c5] at H
            have c5b0 : decide (0 ≤ x5_1) = true := decide_eq_true c5
            clear c5
            by_cases c6 : x5_1 < (l1.length : Int)
            · rw [if_pos c6] at H
              have c6b0 : decide (x5_1 < (l1.length : Int)) = true := decide_eq_true c6
              clear c6
              by_cases c7 : (!(((rd_T58 l0 x5_1).f0) == ((rd_T58 l1 x5_1).f0)) || (!(((rd_T58 l0 x5_1).f1) == ((rd_T58 l1 x5_1).f1)) || (!(((rd_T58 l0 x5_1).f2) == ((rd_T58 l1 x5_1).f2)) || (!(((rd_T58 l0 x5_1).f3) == ((rd_T58 l1 x5_1).f3)) || (!(((rd_T58 l0 x5_1).f4) == ((rd_T58 l1 x5_1).f4))))))) = true
              · rw [if_pos c7] at H
                have c7b0 : (!(((rd_T58 l0 x5_1).f0) == ((rd_T58 l1 x5_1).f0)) || (!(((rd_T58 l0 x5_1).f1) == ((rd_T58 l1 x5_1).f1)) || (!(((rd_T58 l0 x5_1).f2) == ((rd_T58 l1 x5_1).f2)) || (!(((rd_T58 l0 x5_1).f3) == ((rd_T58 l1 x5_1).f3)) || (!(((rd_T58 l0 x5_1).f4) == ((rd_T58 l1 x5_1).f4))))))) = true := c7
                clear c7
                obtain rfl := Option.some.inj H
                have p445 : 0 ≤ (x5_1 : Int) := of_decide_eq_true (by first | (with_reducible assumption) | assumption)
                have q445 : x5_1 < (l0.length : Int) := of_decide_eq_true (by first | (with_reducible assumption) | assumption)
                obtain ⟨ad445, e445, hx445_0, hx445_1, hx445_2, hx445_3, hx445_4⟩ := at_T58 HR0.out x5_1 p445 q445
                cases e445
                replace p445 := eq_true p445
                replace q445 := eq_true q445
                have p446 : 0 ≤ (x5_1 : Int) := of_decide_eq_true (by first | (with_reducible assumption) | assumption)
                have q446 : x5_1 < (l1.length : Int) := of_decide_eq_true (by first | (with_reducible assumption) | assumption)
                obtain ⟨ad446, e446, hx446_0, hx446_1, hx446_2, hx446_3, hx446_4⟩ := at_T58 HR1.out x5_1 p446 q446
                cases e446
                replace p446 := eq_true p446
                replace q446 := eq_true q446
                go_wp2
                repeat (go_quiet (fail); try go_wp2)
                go_ret
                exact ⟨by first | rfl | (simp; done) | (simp [*]; done), by repeat (first | exact Drawn0.refl _ | apply Drawn0.step)⟩
              · rw [if_neg c7] at H
                have c7b0 : (!(((rd_T58 l0 x5_1).f0) == ((rd_T58 l1 x5_1).f0)) || (!(((rd_T58 l0 x5_1).f1) == ((rd_T58 l1 x5_1).f1)) || (!(((rd_T58 l0 x5_1).f2) == ((rd_T58 l1 x5_1).f2)) || (!(((rd_T58 l0 x5_1).f3) == ((rd_T58 l1 x5_1).f3)) || (!(((rd_T58 l0 x5_1).f4) == ((rd_T58 l1 x5_1).f4))))))) = false := by simpa using c7
                clear c7
                have H' := Aside0.mk H
                clear H
                have p445 : 0 ≤ (x5_1 : Int) := of_decide_eq_true (by first | (with_reducible assumption) | assumption)
                have q445 : x5_1 < (l0.length : Int) := of_decide_eq_true (by first | (with_reducible assumption) | assumption)
                obtain ⟨ad445, e445, hx445_0, hx445_1, hx445_2, hx445_3, hx445_4⟩ := at_T58 HR0.out x5_1 p445 q445
                cases e445
                replace p445 := eq_true p445
                replace q445 := eq_true q445
                have p446 : 0 ≤ (x5_1 : Int) := of_decide_eq_true (by first | (with_reducible assumption) | assumption)
                have q446 : x5_1 < (l1.length : Int) := of_decide_eq_true (by first | (with_reducible assumption) | assumption)
                obtain ⟨ad446, e446, hx446_0, hx446_1, hx446_2, hx446_3, hx446_4⟩ := at_T58 HR1.out x5_1 p446 q446
                cases e446
                replace p446 := eq_true p446
                replace q446 := eq_true q446
                go_wp2
                repeat (go_quiet (fail); try go_wp2)
                go_roundg k1
                case measure => have := HK1.out; omega
                case rel => exact ⟨(wrap64 (x5_1 + 1)), (by first | rfl | (simp; done) | (simp [*]; done)), H', ⟨by have := HK1.out; omega⟩, by repeat (first | exact Drawn0.refl _ | apply Drawn0.step)⟩
            · rw [if_neg c6] at H
              exact absurd H (by simp)
          · rw [if_neg c5] at H
            exact absurd H (by simp)
        · rw [if_neg c4] at H
          have c4b0 : decide (x5_1 < (l0.length : Int)) = false := decide_eq_false c4
          clear c4
          obtain rfl := Option.some.inj H
          go_wp2
          repeat (go_quiet (fail); try go_wp2)
          go_ret
          exact ⟨by first | rfl | (simp; done) | (simp [*]; done), by repeat (first | exact Drawn0.refl _ | apply Drawn0.step)⟩
  · rw [if_neg c3] at H
    have c3b0 : ((l0.length : Int) == (l1.length : Int)) = false := beq_eq_false_iff_ne.mpr c3
    have c3b1 : ((l0.length : Int) != (l1.length : Int)) = true := bne_iff_ne.mpr c3
    have c3b2 : (l0.length == l1.length) = false := by first | simpa using c3 | (simp at c3 ⊢; omega)
    obtain rfl := Option.some.inj H
    go_enter Try.func25, Try.ntmps25
    go_wp2
    repeat (go_quiet (fail); try go_wp2)
    go_ret
    exact ⟨by first | rfl | (simp; done) | (simp [*]; done), by repeat (first | exact Drawn0.refl _ | apply Drawn0.step)⟩
end Go.Proofs.Ytfmpabdaadllaaa.PAll

/-
  Two lists that are the same.
-/
namespace Go.Proofs.Ytfmpabdaadllaaa.PAll
open Go.RowKit Go.Proofs.YtfmpabdaadllaaaW.PrintWords Go.Proofs.YtfmpabdaadllaaaW.PrintLast
set_option linter.unusedVariables false
set_option linter.unusedSimpArgs false
theorem same_l0 (l : List Int) (hl : l.length ≤ 1000) : ∀ (d j k : Nat), j + d = l.length → d < k → prioryref08_Same.l0 k l l (j : Int) = some true
  | 0, j, k + 1, hd, hk => by rw [prioryref08_Same.l0, if_neg (by omega)]
  | d + 1, j, k + 1, hd, hk => by
    have ih := same_l0 l hl d (j + 1) k (by omega) (by omega)
    rw [prioryref08_Same.l0, if_pos (by omega), if_pos (by omega), if_pos (by omega), if_pos rfl, succ_w (by omega)]
    exact ih
theorem same_f (l : List Int) (hl : l.length ≤ 1000) (k : Nat) (hk : 2000 ≤ k) : prioryref08_Same.f k l l = some true := by
  unfold prioryref08_Same.f
  rw [if_pos rfl]
  exact same_l0 l hl l.length 0 k (by omega) (by omega)
theorem sameO_l0 (l : List S58) (hl : l.length ≤ 1000) : ∀ (d j k : Nat), j + d = l.length → d < k → prioryref27_Same.l0 k l l (j : Int) = some true
  | 0, j, k + 1, hd, hk => by rw [prioryref27_Same.l0, if_neg (by omega)]
  | d + 1, j, k + 1, hd, hk => by
    have ih := sameO_l0 l hl d (j + 1) k (by omega) (by omega)
    rw [prioryref27_Same.l0, if_pos (by omega), if_pos (by omega), if_pos (by omega), succ_w (by omega)]
    simp only [beq_self_eq_true, Bool.not_true, Bool.or_self]
    rw [if_neg (by decide)]
    exact ih
theorem sameO_f (l : List S58) (hl : l.length ≤ 1000) (k : Nat) (hk : 2000 ≤ k) : prioryref27_Same.f k l l = some true := by
  unfold prioryref27_Same.f
  rw [if_pos rfl]
  exact sameO_l0 l hl l.length 0 k (by omega) (by omega)
theorem sameE_l0 (l : List S56) (hl : l.length ≤ 1000) : ∀ (d j k : Nat), j + d = l.length → d < k → prioryref27_SameEvents.l0 k l l (j : Int) = some true
  | 0, j, k + 1, hd, hk => by rw [prioryref27_SameEvents.l0, if_neg (by omega)]
  | d + 1, j, k + 1, hd, hk => by
    have ih := sameE_l0 l hl d (j + 1) k (by omega) (by omega)
    rw [prioryref27_SameEvents.l0, if_pos (by omega), if_pos (by omega), if_pos (by omega), succ_w (by omega)]
    simp only [beq_self_eq_true, Bool.not_true, Bool.or_self]
    rw [if_neg (by decide)]
    exact ih
theorem sameE_f (l : List S56) (hl : l.length ≤ 1000) (k : Nat) (hk : 2000 ≤ k) : prioryref27_SameEvents.f k l l = some true := by
  unfold prioryref27_SameEvents.f
  rw [if_pos rfl]
  exact sameE_l0 l hl l.length 0 k (by omega) (by omega)
end Go.Proofs.Ytfmpabdaadllaaa.PAll

/-
  watch.View.
-/
namespace Go.Proofs.Ytfmpabdaadllaaa.PAll
open Go.RowKit Go.Shelf Go.Proofs.YtfmpabdaadllaaaM Go.Proofs.YtfmpabdaadllaaaW.PrintWords Go.Proofs.YtfmpabdaadllaaaW.PrintLast
attribute [local go_sem] Oper.semAt_some
set_option linter.unusedVariables false
set_option linter.unusedSimpArgs false
theorem R_grown_n {α : Type} {d : Kd α} {e base : Nat} {ok : Nat → Prop} {A B : World} {v : Value} {xs : List α} (h : d.R e A base ok v xs) (hg : A.grownBy B none) : d.R e B base ok v xs :=
  Kd.R_mono (Kd.R_move (Kd.R_bound h) (fun k hk => hg.block k hk.2.2.1 (by simp))) (fun _ hk => hk.1)
def viewB (Wn : List S75) (l : List S56) (part : Int) (i : Nat) : Bool := fallsE Wn l i == part || (fallsE Wn l i == -1 && behE Wn l i == part)
def viewL (vb : Nat → Bool) (os : List S58) : Nat → List S58
  | 0 => []
  | i + 1 => viewL vb os i ++ if vb i = true then [os.getD i z58] else []
theorem viewL_len (vb : Nat → Bool) (os : List S58) : ∀ i, (viewL vb os i).length ≤ i
  | 0 => Nat.le_refl _
  | i + 1 => by
    have := viewL_len vb os i
    unfold viewL
    split <;> simp <;> omega
def viewE (P : List S73) (Wn : List S75) (Cn : List S46) (l : List S56) (os : List S58) (part : Int) : List S58 := if begE P Wn Cn part = 0 then (if l.length = os.length then viewL (viewB Wn l part) os l.length else []) else []
def viewR (P : List S73) (Wn : List S75) (Cn : List S46) (l : List S56) (os : List S58) (part : Int) : Int := if begE P Wn Cn part = 0 then (if l.length = os.length then 0 else 2) else begE P Wn Cn part
/-- What is kept while a region's first operations go in any order, one of which lays a row. -/
def RdA (k m : Nat) (vals : List Value) (W0 W1 : World) (b : Nat → Bool) (f : Nat → Value) (W : World) : Prop :=
  W = (if b m = true then W1 else W0.drew) ∧ ∀ j, j < k → b j = true → f j = vals.getD j undef
theorem RdA.start (k m : Nat) (vals : List Value) (W0 W1 : World) : RdA k m vals W0 W1 (fun _ => false) (fun _ => undef) W0.drew := ⟨rfl, fun _ _ h => by cases h⟩
theorem RdA.next {k m : Nat} {vals : List Value} {W0 W1 : World} {b : Nat → Bool} {f : Nat → Value} {W : World} {i : Nat} {v : Value} (h : RdA k m vals W0 W1 b f W) (hi : i ≠ m) (hv : v = vals.getD i undef) : RdA k m vals W0 W1 (up1 b i) (upv f i v) W := by
  refine ⟨?_, fun j hj hb => ?_⟩
  · have : up1 b i m = b m := by
      cases hb : b m
      · cases hu : up1 b i m with
        | false => rfl
        | true => exact absurd (up1_of hu (fun e => hi e.symm)) (by rw [hb]; decide)
      · unfold up1; simp [hb]
    rw [this]
    exact h.1
  · unfold upv
    by_cases e : j = i
    · rw [if_pos e, hv, e]
    · rw [if_neg e]; exact h.2 j hj (up1_of hb e)
theorem RdA.nextm {k m : Nat} {vals : List Value} {W0 W1 : World} {b : Nat → Bool} {f : Nat → Value} {W W' : World} {v : Value} (h : RdA k m vals W0 W1 b f W) (hv : v = vals.getD m undef) (hW : W' = W1) : RdA k m vals W0 W1 (up1 b m) (upv f m v) W' := by
  refine ⟨?_, fun j hj hb => ?_⟩
  · have : up1 b m m = true := by unfold up1; simp
    rw [this, if_pos rfl, hW]
  · unfold upv
    by_cases e : j = m
    · rw [if_pos e, hv, e]
    · rw [if_neg e]; exact h.2 j hj (up1_of hb e)
set_option maxRecDepth 100000 in
set_option maxHeartbeats 8000000 in
theorem view_good (P : List S73) (Wn : List S75) (Cn : List S46) (l : List S56) (os : List S58) (part : Int) (A0 : Option Addr) (c0 : Nat) (A1 : Option Addr) (c1 : Nat) (A2 : Option Addr) (c2 : Nat) (A : Option Addr) (c : Nat) (Ao : Option Addr) (co : Nat) (w : World) (h0 : Kd.C k73 w A0 P.length P) (hc0 : P.length ≤ c0) (h1 : Kd.C k75 w A1 Wn.length Wn) (hc1 : Wn.length ≤ c1) (h2 : Kd.C k46 w A2 Cn.length Cn) (hc2 : Cn.length ≤ c2) (hl : Kd.C k56 w A l.length l) (hcl : l.length ≤ c) (ho : Kd.C k58 w Ao os.length os) (hco : os.length ≤ co) (hlen : l.length ≤ 1000000) (he : begE P Wn Cn part = 0) (hlo : l.length = os.length) :
    Calls Try.prog 23 #[.agg #[.slice A0 P.length c0, .slice A1 Wn.length c1, .slice A2 Cn.length c2], .slice A l.length c, .slice Ao os.length co, .int .i64 part] w fun e W' => ∃ v, e = .returned (.tuple #[v, .int .i64 0]) ∧ k58.R 58 W' w.heap.size (fun _ => True) v (viewL (viewB Wn l part) os l.length) ∧ w.grownBy W' none := by
  obtain ⟨w3, hw3⟩ : ∃ w3, w3 = ((w.alloc (.cells #[.slice A0 P.length c0, .slice A1 Wn.length c1, .slice A2 Cn.length c2] 26)).alloc (.cells #[.slice Ao os.length co] 48)).alloc (.cells #[.int .i64 part] 3) := ⟨_, rfl⟩
  have hA : w.grownBy w3 none := by rw [hw3]; exact ((World.grownBy_alloc w _ none).trans (World.grownBy_alloc _ _ none)).trans (World.grownBy_alloc _ _ none)
  have hsz3 : w3.heap.size = w.heap.size + 3 := by rw [hw3]; simp
  have b3o : w3.heap[w.heap.size + 1]? = some (.cells #[.slice Ao os.length co] 48 (0, 0)) := by rw [hw3]; exact blk_alloc (new_at _ (by simp)) _
  have b3p : w3.heap[w.heap.size + 1 + 1]? = some (.cells #[.int .i64 part] 3 (0, 0)) := by rw [hw3]; exact new_at _ (by simp)
  have hN := (begin_calls P Wn Cn part A0 c0 A1 c1 A2 c2 _ (Kd.C_below h0 (below_of_grown hA)) hc0 (Kd.C_below h1 (below_of_grown hA)) hc1 (Kd.C_below h2 (below_of_grown hA)) hc2).1 he
  have HW := Aside0.mk (chkE_ok (begE_chk he).1).wok
  have HL := Aside0.mk (Kd.C_below hl (below_of_grown hA))
  have HO := Aside0.mk (Kd.C_below ho (below_of_grown hA))
  have HN := Aside0.mk hN
  have HA := Aside0.mk hA
  have HLEN := Aside0.mk (And.intro hlen hlo)
  have H3 := Aside0.mk (And.intro hsz3 (And.intro b3o b3p))
  have hlb : ((l.length : Int) != (os.length : Int)) = false := by rw [bne_eq_false_iff_eq, hlo]
  rw [hw3] at HN
  have HW3 := Aside0.mk hw3
  clear h0 h1 h2 hA hN hl ho hlen he hlo hsz3 b3o b3p hw3
  refine (callsIn_wide (n := 6)).1 ?_
  refine callsIn_of_wp_marks Try.func23 rfl trivial ?_ rfl
  simp only [Try.ntmps23, List.size_toArray, List.length_cons, List.length_nil, Nat.reduceAdd, Nat.reduceSub, Array.replicate_succ, Array.replicate_zero, List.push_toArray, List.append_toArray, List.nil_append, List.cons_append]
  gi_wp2_with (first
    | (refine ⟨trivial, ?_⟩; gi_at_call 27; refine (callsIn_wide.2 HN.out).mono ?_; rintro e W1 ⟨gs, hgs, rfl, hS, hg⟩; rw [← HW3.out] at hgs hg; have xo := (blk_cell (blk_grown H3.out.2.1 hg (by simp)) 0).trans rfl; have HS := Aside0.mk hS; have HG1 := Aside0.mk hg; have HGS := Aside0.mk hgs; clear hS hg hgs)
    | (refine ⟨trivial, ?_⟩; gi_at_call 33; refine (callsIn_wide.2 (turns_calls gs A l.length c _)).mono ?_; rintro e W2 ⟨rfl, rfl⟩))
  obtain ⟨Wr, hWr⟩ : ∃ Wr, Wr = (((W1.alloc (.cells #[.slice none 0 0] 48)).alloc (.cells #[.int .i64 0] 3)).alloc (.cells #[.pointer (some ⟨gs, 0, none⟩)] 60)).alloc (.cells #[.slice A l.length c] 27) := ⟨_, rfl⟩
  obtain ⟨bo, hbo⟩ : ∃ bo, bo = W1.heap.size := ⟨_, rfl⟩
  have hsz : Wr.heap.size = bo + 4 := by rw [hWr, hbo]; simp
  have hGr : W1.grownBy Wr none := by rw [hWr]; exact (((World.grownBy_alloc W1 _ none).trans (World.grownBy_alloc _ _ none)).trans (World.grownBy_alloc _ _ none)).trans (World.grownBy_alloc _ _ none)
  have q0 : Wr.heap[bo]? = some (.cells #[.slice none 0 0] 48 (0, 0)) := by rw [hWr, hbo]; exact blk_alloc (blk_alloc (blk_alloc (new_at _ rfl) _) _) _
  have q1 : Wr.heap[bo + 1]? = some (.cells #[.int .i64 0] 3 (0, 0)) := by rw [hWr, hbo]; exact blk_alloc (blk_alloc (new_at _ (by simp)) _) _
  have qx : BoxS Wr (bo + 1 + 1) gs := by unfold BoxS; rw [hWr, hbo]; exact blk_alloc (new_at _ (by simp)) _
  have ql : BoxL Wr (bo + 1 + 1 + 1) A l.length c := by unfold BoxL; rw [hWr, hbo]; exact new_at _ (by simp)
  have hgl : gs < bo := by rw [hbo]; exact HS.out.lt
  have hgw : w3.heap.size ≤ gs := HGS.out
  have hw33 := H3.out.1
  rw [← hWr, ← hbo]
  have HSR := Aside0.mk (HS.out.grown hGr)
  have HGR := Aside0.mk (HG1.out.trans hGr)
  have HZ := Aside0.mk (And.intro hsz (And.intro hgl hgw))
  clear hWr hbo hGr xo hlb
  refine wpIn_rangeFunc_G (F := Fence.wide) (n := 6) rfl (by decide) (gf := 40) (lb := #[.pointer (some ⟨bo + 1 + 1 + 1, 0, none⟩), .pointer (some ⟨bo + 1 + 1, 0, none⟩)]) rfl trivial (enters_of Try.func40 (by kernel_rfl) rfl)
    (turns_seq 5 (by decide) w3 (bo + 1 + 1 + 1) (bo + 1 + 1) gs (by omega) (by omega) hgw Wn HW.out A c l HL.out) (fun _ => rfl)
    (fun i W => i ≤ l.length ∧ (∃ v, W.heap[bo]? = some (.cells #[v] 48 (0, 0)) ∧ k58.R 58 W (bo + 4) (fun _ => True) v (viewL (viewB Wn l part) os i)) ∧ W.heap[bo + 1]? = some (.cells #[.int .i64 (i : Int)] 3 (0, 0)) ∧ w3.grownBy W none)
    (fun _ _ => False) ?hI (fun cd A B row h _ _ => h.elim) ?hTI (fun A B h k hk1 hlt => h.block k hlt (fun e => by cases e; omega)) ?hIK (fun cd A B h _ => h.elim)
    ⟨Nat.zero_le _, ⟨_, q0, Kd.R_nil _ _ _ _ _⟩, q1, HGR.out⟩ ⟨qx, ql, HSR.out, HGR.out⟩ ?round ?done (fun D cd W _ h _ => h.elim)
  case hI =>
    rintro i A B row ⟨a0, ⟨v, a1, a2⟩, a4, a3⟩ hg hr
    have hr' : ∀ r, row = some r → ∃ o : Obj, A.heap[r]? = some o ∧ o.isCells = false := fun r e => (hr r e).2
    exact ⟨a0, ⟨v, cells_own a1 hg hr', R_own a2 hg hr'⟩, cells_own a4 hg hr', a3.andThen hg (fun j e => .inl (by have := (hr j e).1; omega))⟩
  case hTI =>
    rintro i A B row ⟨a1, a2, a3, a4⟩ hg hr
    have hr' : ∀ r, row = some r → ∃ o : Obj, A.heap[r]? = some o ∧ o.isCells = false := fun r e => (hr r e).2
    exact ⟨cells_own a1 hg hr', cells_own a2 hg hr', a3.own hg hr', a4.andThen hg (fun j e => .inl (by have := (hr j e).1; omega))⟩
  case hIK =>
    rintro i A B ⟨a0, ⟨v, a1, a2⟩, a4, a3⟩ hg
    exact ⟨a0, ⟨v, blk_grown a1 hg (by simp; omega), R_grown_m a2 hg (by omega)⟩, blk_grown a4 hg (by simp; omega), a3.andThen hg (fun j e => by cases e; exact .inl hgw)⟩
  case done =>
    rintro D i W hD hi hTI ⟨a0, ⟨v, a1, a2⟩, a4, a3⟩ hK
    subst hi
    obtain ⟨A8, c8, rfl, _, _⟩ := Kd.R_reads a2
    have x1 := (blk_cell a1 0).trans rfl
    have HI := Aside0.mk (And.intro a1 (And.intro a2 a3))
    have HK := Aside0.mk hK
    clear a1 a2 a3 a4 hTI hK q0 q1 qx ql
    gi_wp2
    refine ⟨by simp, .inl ⟨_, _, rfl, run_takeDeferred HK.out, ?_⟩⟩
    have hr : ∀ r, some D = some r → ∃ o : Obj, W.heap[r]? = some o ∧ o.isCells = false := fun r e => by cases e; exact ⟨_, HK.out, rfl⟩
    have hp := grownBy_putObj' W D (.deferred none)
    exact ⟨.tuple #[.slice A8 (viewL (viewB Wn l part) os l.length).length c8, .int .i64 0], by simp [results, Try.f23, go_sem], _, rfl, Kd.R_lower (R_own HI.out.2.1 hp hr) (by omega), HA.out.trans (HI.out.2.2.andThen hp (fun j e => by cases e; exact .inl (by omega)))⟩
  case round =>
    rintro ll kk x kk' W hll ⟨a0, ⟨v, a1, a2⟩, a4, a3⟩ hTI ⟨hil, rfl, rfl⟩
    simp only
    obtain ⟨vb, hvb⟩ : ∃ vb, vb = viewB Wn l part := ⟨_, rfl⟩
    obtain ⟨fe, hfe⟩ : ∃ fe, fe = fallsE Wn l kk := ⟨_, rfl⟩
    obtain ⟨be, hbe⟩ : ∃ be, be = behE Wn l kk := ⟨_, rfl⟩
    have HVB := Aside0.mk (show vb kk = (fe == part || (fe == -1 && be == part)) by rw [hvb, hfe, hbe]; rfl)
    rw [← hfe, ← hbe]
    rw [← hvb] at a2 ⊢
    have HI := Aside0.mk (And.intro a1 (And.intro a2 (And.intro a4 a3)))
    have HT := Aside0.mk hTI
    obtain ⟨A8, c8, rfl, hq8, _⟩ := Kd.R_reads a2
    have hio : kk < os.length := by have := HLEN.out.2; omega
    clear a1 a2 a3 a4 hTI hfe hbe q0 q1 qx ql hvb
    gi_wp2
    refine ⟨KeepsFrom.refl _ _, fun W2 hg2 hob => ?_⟩
    obtain ⟨o2, ho2, hc2⟩ := hob
    have hr2 : ∀ r, some ll = some r → ∃ o : Obj, W.heap[r]? = some o ∧ o.isCells = false := fun r e => by cases e; exact ⟨o2, ho2, hc2⟩
    have p1 := cells_own HI.out.1 hg2 hr2
    have p2 := R_own HI.out.2.1 hg2 hr2
    have p4 := cells_own HI.out.2.2.1 hg2 hr2
    have p3 : w3.grownBy W2 none := HI.out.2.2.2.andThen hg2 (fun j e => by cases e; exact .inl (by omega))
    have t1 : BoxS W2 (bo + 1 + 1) gs := cells_own HT.out.1 hg2 hr2
    have t2 : BoxL W2 (bo + 1 + 1 + 1) A l.length c := cells_own HT.out.2.1 hg2 hr2
    have t3 := HT.out.2.2.1.own hg2 hr2
    have r0 : W2.cell? ⟨bo, 0, none⟩ = some (.slice A8 (viewL vb os kk).length c8) := (blk_cell p1 0).trans rfl
    have rk : W2.cell? ⟨bo + 1, 0, none⟩ = some (.int .i64 (kk : Int)) := (blk_cell p4 0).trans rfl
    have fk := blk_frozen p4 0
    have ro := (blk_cell (blk_grown H3.out.2.1 p3 (by simp)) 0).trans rfl
    have rp := (blk_cell (blk_grown H3.out.2.2 p3 (by simp)) 0).trans rfl
    obtain ⟨ad, eA, y0, y1, y2, y3, y4⟩ := at_T58 HO.out (kk : Int) (by omega) (by omega)
    subst eA
    obtain ⟨xo, hxo⟩ : ∃ xo, xo = os.getD kk z58 := ⟨_, rfl⟩
    have hrx : rd_T58 os (kk : Int) = xo := by unfold rd_T58; rw [Int.toNat_natCast, hxo]
    rw [hrx, Int.toNat_natCast] at y0 y1 y2 y3 y4
    replace y0 := cells_keep y0 (below_of_grown p3)
    replace y1 := cells_keep y1 (below_of_grown p3)
    replace y2 := cells_keep y2 (below_of_grown p3)
    replace y3 := cells_keep y3 (below_of_grown p3)
    replace y4 := cells_keep y4 (below_of_grown p3)
    have hSV : viewL vb os (kk + 1) = viewL vb os kk ++ if vb kk = true then [xo] else [] := by rw [hxo]; rfl
    obtain ⟨q0, q1, q2, q3, q4⟩ := xo
    have HSV := Aside0.mk hSV
    have hi0 : (0 : Int) ≤ (kk : Int) := by omega
    have hik : (kk : Int) < (os.length : Int) := by omega
    have hw1' : IntKind.i64.wrap ((kk : Int) + 1) = ((kk + 1 : Nat) : Int) := (IntWalk.i64_left _).trans ((IntWalk.wrap64_in _ (by have := HLEN.out.1; omega)).trans (by omega))
    have HP := Aside0.mk (And.intro p1 (And.intro p2 (And.intro p4 p3)))
    have HT2 := Aside0.mk (And.intro t1 (And.intro t2 t3))
    have hB2 : bo + 4 ≤ W2.heap.size := by have := (Array.getElem?_eq_some_iff.1 ho2).1; have := hg2.size; omega
    have HB2 := Aside0.mk hB2
    have HGG2 := Aside0.mk hg2
    simp only at y0 y1 y2 y3 y4
    clear hg2 hr2 p1 p2 p3 p4 t1 t2 t3 ho2 hB2 hxo hrx hSV
    cases e1 : (fe == part)
    · cases e2 : (fe == -1)
      · skip
        have HS := Aside0.mk (show viewL vb os (kk + 1) = viewL vb os kk by rw [HSV.out, HVB.out]; simp [*])
        clear r0 ro
        gi_wp2
        have g5 := gb_set W2 (bo + 1) 0 (.int .i64 ((kk + 1 : Nat) : Int))
        have E5 := blk_far HP.out.1 (p := ⟨bo + 1, 0, none⟩) (by simp) (.int .i64 ((kk + 1 : Nat) : Int))
        have K5 := blk_put HP.out.2.2.1 0 (.int .i64 ((kk + 1 : Nat) : Int)) rfl
        have hgz : w3.grownBy _ none := HP.out.2.2.2.andThen g5 (fun j e => by cases e; exact .inl (by omega))
        rw [HS.out]
        refine ⟨(KeepsOthers.setCell _ _ _).from _, ⟨by omega, ⟨_, E5, ?_⟩, K5, hgz⟩, ?_⟩
        · exact Kd.R_mono (Kd.R_far (p := ⟨bo + 1, 0, none⟩) (Kd.R_bound HP.out.2.1) (fun k hk e => by have h5 := hk.2.1; have h6 : k = bo + 1 := e; omega) _) (fun _ _ => trivial)
        · exact ⟨blk_grown HT2.out.1 g5 (fun e => by have := Option.some.inj e; omega), blk_grown HT2.out.2.1 g5 (fun e => by have := Option.some.inj e; omega), HT2.out.2.2.row g5 (fun r e => by cases e; omega), hgz⟩
      · cases e3 : (be == part)
        · skip
          have HS := Aside0.mk (show viewL vb os (kk + 1) = viewL vb os kk by rw [HSV.out, HVB.out]; simp [*])
          clear r0 ro
          gi_wp2
          have g5 := gb_set W2 (bo + 1) 0 (.int .i64 ((kk + 1 : Nat) : Int))
          have E5 := blk_far HP.out.1 (p := ⟨bo + 1, 0, none⟩) (by simp) (.int .i64 ((kk + 1 : Nat) : Int))
          have K5 := blk_put HP.out.2.2.1 0 (.int .i64 ((kk + 1 : Nat) : Int)) rfl
          have hgz : w3.grownBy _ none := HP.out.2.2.2.andThen g5 (fun j e => by cases e; exact .inl (by omega))
          rw [HS.out]
          refine ⟨(KeepsOthers.setCell _ _ _).from _, ⟨by omega, ⟨_, E5, ?_⟩, K5, hgz⟩, ?_⟩
          · exact Kd.R_mono (Kd.R_far (p := ⟨bo + 1, 0, none⟩) (Kd.R_bound HP.out.2.1) (fun k hk e => by have h5 := hk.2.1; have h6 : k = bo + 1 := e; omega) _) (fun _ _ => trivial)
          · exact ⟨blk_grown HT2.out.1 g5 (fun e => by have := Option.some.inj e; omega), blk_grown HT2.out.2.1 g5 (fun e => by have := Option.some.inj e; omega), HT2.out.2.2.row g5 (fun r e => by cases e; omega), hgz⟩
        · gi_wp2_with fail
          have hd1 : W2.grownBy W2.drew none := gb_drew (World.grownBy.refl _ _)
          obtain ⟨W1d, hW1d⟩ : ∃ W1d, W1d = W2.drew.alloc (.cells #[.int .i64 q0, .int .i64 q1, .int .i64 q2, .int .u32 q3, .int .u32 q4] 58) := ⟨_, rfl⟩
          have hd2 : W2.grownBy W1d none := by rw [hW1d]; exact hd1.trans (World.grownBy_alloc _ _ none)
          have HW1D := Aside0.mk hW1d
          clear hW1d
          have r0' := (blk_cell (blk_grown HP.out.1 hd2 (by simp)) 0).trans rfl
          have rk' := (blk_cell (blk_grown HP.out.2.2.1 hd2 (by simp)) 0).trans rfl
          have ro' := (blk_cell (blk_grown H3.out.2.1 (HP.out.2.2.2.trans hd2) (by simp)) 0).trans rfl
          have y0' := cells_keep y0 (below_of_grown hd2)
          have y1' := cells_keep y1 (below_of_grown hd2)
          have y2' := cells_keep y2 (below_of_grown hd2)
          have y3' := cells_keep y3 (below_of_grown hd2)
          have y4' := cells_keep y4 (below_of_grown hd2)
          refine wpIn_draw (l := _) (by kernel_rfl) 6 [(0, 47), (1, 48), (2, 49), (3, 50), (4, 51), (5, 52)] (RdA 6 5 [.slice A8 (viewL vb os kk).length c8, .slice (some ad) os.length co, .int .i64 (kk : Int), .pointer (some (ad.add (kk * 5))), .agg #[.int .i64 q0, .int .i64 q1, .int .i64 q2, .int .u32 q3, .int .u32 q4], .slice (some ⟨W2.heap.size, 0, none⟩) 1 1] W2 W1d) (by kernel_rfl) rfl (RdA.start _ _ _ _ _) ?hs ?ht
          case hs =>
            intro i o hi ho bq fq W' hbi hdep hI
            have HI := Aside0.mk hI
            have HD := Aside0.mk hdep
            have hwq := hI.1
            clear hI hdep
            match i, hi, ho, hbi with
            | 0, _, ho, hbi =>
              cases ho
              simp only [frm, Act.put, List.setIfInBounds_toArray, List.set_cons_zero, List.set_cons_succ, Array.getD_eq_getD_getElem?, List.getElem?_toArray, List.getElem?_cons_zero, List.getElem?_cons_succ, Option.getD_some]
              cases hq5 : bq 5
              · rw [hq5, if_neg (by decide)] at hwq
                subst hwq
                clear hq5
                gi_wp2
                exact ⟨_, rfl, HI.out.next (by decide) rfl⟩
              · rw [hq5, if_pos rfl] at hwq
                subst hwq
                clear hq5
                gi_wp2
                exact ⟨_, rfl, HI.out.next (by decide) rfl⟩
            | 1, _, ho, hbi =>
              cases ho
              simp only [frm, Act.put, List.setIfInBounds_toArray, List.set_cons_zero, List.set_cons_succ, Array.getD_eq_getD_getElem?, List.getElem?_toArray, List.getElem?_cons_zero, List.getElem?_cons_succ, Option.getD_some]
              cases hq5 : bq 5
              · rw [hq5, if_neg (by decide)] at hwq
                subst hwq
                clear hq5
                gi_wp2
                exact ⟨_, rfl, HI.out.next (by decide) rfl⟩
              · rw [hq5, if_pos rfl] at hwq
                subst hwq
                clear hq5
                gi_wp2
                exact ⟨_, rfl, HI.out.next (by decide) rfl⟩
            | 2, _, ho, hbi =>
              cases ho
              simp only [frm, Act.put, List.setIfInBounds_toArray, List.set_cons_zero, List.set_cons_succ, Array.getD_eq_getD_getElem?, List.getElem?_toArray, List.getElem?_cons_zero, List.getElem?_cons_succ, Option.getD_some]
              cases hq5 : bq 5
              · rw [hq5, if_neg (by decide)] at hwq
                subst hwq
                clear hq5
                gi_wp2
                exact ⟨_, rfl, HI.out.next (by decide) rfl⟩
              · rw [hq5, if_pos rfl] at hwq
                subst hwq
                clear hq5
                gi_wp2
                exact ⟨_, rfl, HI.out.next (by decide) rfl⟩
            | 3, _, ho, hbi =>
              cases ho
              have hb1 : bq 1 = true := HD.out { on := 1, ground := Ground.data } (by simp) rfl
              have h1 : fq 1 = .slice (some ad) os.length co := HI.out.2 1 (by decide) hb1
              have hb2 : bq 2 = true := HD.out { on := 2, ground := Ground.data } (by simp) rfl
              have h2 : fq 2 = .int .i64 (kk : Int) := HI.out.2 2 (by decide) hb2
              simp only [frm, Act.put, List.setIfInBounds_toArray, List.set_cons_zero, List.set_cons_succ, Array.getD_eq_getD_getElem?, List.getElem?_toArray, List.getElem?_cons_zero, List.getElem?_cons_succ, Option.getD_some, hb1, h1, hb2, h2, sel_true]
              clear h1 hb1
              clear h2 hb2
              cases hq5 : bq 5
              · rw [hq5, if_neg (by decide)] at hwq
                subst hwq
                clear hq5
                gi_wp2
                exact ⟨_, rfl, HI.out.next (by decide) rfl⟩
              · rw [hq5, if_pos rfl] at hwq
                subst hwq
                clear hq5
                gi_wp2
                exact ⟨_, rfl, HI.out.next (by decide) rfl⟩
            | 4, _, ho, hbi =>
              cases ho
              have hb3 : bq 3 = true := HD.out { on := 3, ground := Ground.data } (by simp) rfl
              have h3 : fq 3 = .pointer (some (ad.add (kk * 5))) := HI.out.2 3 (by decide) hb3
              simp only [frm, Act.put, List.setIfInBounds_toArray, List.set_cons_zero, List.set_cons_succ, Array.getD_eq_getD_getElem?, List.getElem?_toArray, List.getElem?_cons_zero, List.getElem?_cons_succ, Option.getD_some, hb3, h3, sel_true]
              clear h3 hb3
              cases hq5 : bq 5
              · rw [hq5, if_neg (by decide)] at hwq
                subst hwq
                clear hq5
                gi_wp2
                exact ⟨_, rfl, HI.out.next (by decide) rfl⟩
              · rw [hq5, if_pos rfl] at hwq
                subst hwq
                clear hq5
                gi_wp2
                exact ⟨_, rfl, HI.out.next (by decide) rfl⟩
            | 5, _, ho, hbi =>
              cases ho
              have hb4 : bq 4 = true := HD.out { on := 4, ground := Ground.data } (by simp) rfl
              have h4 : fq 4 = .agg #[.int .i64 q0, .int .i64 q1, .int .i64 q2, .int .u32 q3, .int .u32 q4] := HI.out.2 4 (by decide) hb4
              simp only [frm, Act.put, List.setIfInBounds_toArray, List.set_cons_zero, List.set_cons_succ, Array.getD_eq_getD_getElem?, List.getElem?_toArray, List.getElem?_cons_zero, List.getElem?_cons_succ, Option.getD_some, hb4, h4, sel_true]
              clear h4 hb4
              rw [hbi, if_neg (by decide)] at hwq
              subst hwq
              gi_wp2
              exact ⟨_, rfl, HI.out.nextm rfl HW1D.out.symm⟩
          case ht =>
            intro bq fq W' hb hI
            have hwq := hI.1
            rw [hb 5 (by decide), if_pos rfl] at hwq
            subst hwq
            have h0 : fq 0 = .slice A8 (viewL vb os kk).length c8 := hI.2 0 (by decide) (hb 0 (by decide))
            have h1 : fq 1 = .slice (some ad) os.length co := hI.2 1 (by decide) (hb 1 (by decide))
            have h2 : fq 2 = .int .i64 (kk : Int) := hI.2 2 (by decide) (hb 2 (by decide))
            have h3 : fq 3 = .pointer (some (ad.add (kk * 5))) := hI.2 3 (by decide) (hb 3 (by decide))
            have h4 : fq 4 = .agg #[.int .i64 q0, .int .i64 q1, .int .i64 q2, .int .u32 q3, .int .u32 q4] := hI.2 4 (by decide) (hb 4 (by decide))
            have h5 : fq 5 = .slice (some ⟨W2.heap.size, 0, none⟩) 1 1 := hI.2 5 (by decide) (hb 5 (by decide))
            simp only [frm, Act.put, List.setIfInBounds_toArray, List.set_cons_zero, List.set_cons_succ, Array.getD_eq_getD_getElem?, List.getElem?_toArray, List.getElem?_cons_zero, List.getElem?_cons_succ, Option.getD_some, sel_true, h0, h1, h2, h3, h4, h5]
            clear hI hb h0 h1 h2 h3 h4 h5
            simp only [List.drop_succ_cons, List.drop_zero]
            have HS := Aside0.mk (show viewL vb os (kk + 1) = viewL vb os kk ++ [⟨q0, q1, q2, q3, q4⟩] by rw [HSV.out, HVB.out]; simp [*])
            rw [HW1D.out]
            have HPO := Aside0.mk (blk_grown HP.out.1 hd1 (by simp))
            have HPK := Aside0.mk (blk_grown HP.out.2.2.1 hd1 (by simp))
            have HPR := Aside0.mk (R_grown_n HP.out.2.1 hd1)
            have HPG := Aside0.mk (HP.out.2.2.2.trans hd1)
            have HD1 := Aside0.mk hd1
            clear r0 rk ro rp hd1 hd2 r0' rk' ro' y0 y1 y2 y3 y4 y0' y1' y2' y3' y4'
            gi_wp2_with (gi_at_builtin; go_loud (refine R_appendIn k58 (W := W2.drew) (bo + 4) rfl (.tmp 47) (.tmp 52) 48 58 (.agg #[.int .i64 0, .int .i64 0, .int .i64 0, .int .u32 0, .int .u32 0]) 32 rfl Try.underlying48 info58 rfl (by decide) (by decide) (.slice A8 (viewL vb os kk).length c8) (viewL vb os kk) ⟨q0, q1, q2, q3, q4⟩ [.int .i64 q0, .int .i64 q1, .int .i64 q2, .int .u32 q3, .int .u32 q4] (fun _ => True) (fun _ => False) rfl rfl (k58_mkM _ _ _ ⟨q0, q1, q2, q3, q4⟩) (fun _ h => h.elim) (fun _ _ => trivial) HPR.out HB2.out ?hln ?_); (case hln => have := viewL_len vb os kk; have := HLEN.out; omega); intro v1 W3 hR3 hg3 hat3; rw [← HS.out] at hR3; obtain ⟨Tj, hTj⟩ : ∃ Tj, Tj = viewL vb os (kk + 1) := ⟨_, rfl⟩; rw [← hTj] at hR3; obtain ⟨A9, c9, rfl, _, _⟩ := Kd.R_reads hR3; have hne : ∀ b, b < bo + 4 → some b ≠ (Value.slice A8 (viewL vb os kk).length c8).ownBlock := (fun b hb e => by have := Kd.R_base HPR.out b e.symm; omega); have e3 := blk_grown HPO.out hg3 (hne bo (by omega)); have k3 := blk_grown HPK.out hg3 (hne (bo + 1) (by omega)); have y30 := (blk_cell e3 0).trans rfl; have z30 := blk_frozen e3 0; have w30 := (blk_cell (blk_far k3 (p := ⟨bo, 0, none⟩) (by simp) (.slice A9 Tj.length c9)) 0).trans rfl; have w31 := blk_frozen (blk_far k3 (p := ⟨bo, 0, none⟩) (by simp) (.slice A9 Tj.length c9)) 0; have E3 := Aside0.mk e3; have K3 := Aside0.mk k3; have HR3 := Aside0.mk hR3; have HG3 := Aside0.mk hg3; have HNE := Aside0.mk hne; have HTJ := Aside0.mk hTj; clear hR3 hg3 hat3 e3 k3 hne hTj)
            rw [← HTJ.out]
            have hrow : ∀ (j : Nat) (o : Obj), (Value.slice A8 (viewL vb os kk).length c8).ownBlock = some j → W2.drew.heap[j]? = some o → o.isCells = true := fun j o hj ho => by
              obtain ⟨_, _, _, q, _, cells, h5⟩ := (Kd.R_bound HPR.out).1 j hj
              rw [h5] at ho; cases ho; rfl
            have hs3 := (HT2.out.2.2.grown HD1.out).row HG3.out (fun r e => by have := Kd.R_base HPR.out r e; omega)
            have hgf : w3.grownBy W3 none := HPG.out.andThen HG3.out (fun j e => .inl (by have := Kd.R_base HPR.out j e; omega))
            have g4 := gb_set W3 bo 0 (.slice A9 Tj.length c9)
            have g5 := gb_set (W3.setCell ⟨bo, 0, none⟩ (.slice A9 Tj.length c9)) (bo + 1) 0 (.int .i64 ((kk + 1 : Nat) : Int))
            have E5 := blk_far (blk_put E3.out 0 (.slice A9 Tj.length c9) rfl) (p := ⟨bo + 1, 0, none⟩) (by simp) (.int .i64 ((kk + 1 : Nat) : Int))
            have K5 := blk_put (blk_far K3.out (p := ⟨bo, 0, none⟩) (by simp) (.slice A9 Tj.length c9)) 0 (.int .i64 ((kk + 1 : Nat) : Int)) rfl
            have hgz : w3.grownBy _ none := (hgf.andThen g4 (fun j e => by cases e; exact .inl (by omega))).andThen g5 (fun j e => by cases e; exact .inl (by omega))
            have keepb : ∀ (b : Nat) (o : Obj), b ≠ bo → b ≠ bo + 1 → b < bo + 4 → W2.heap[b]? = some o → _ := fun b o n1 n2 n3 h => blk_grown (blk_grown (blk_grown (blk_grown h HD1.out (by simp)) HG3.out (HNE.out _ n3)) g4 (fun e => n1 (Option.some.inj e))) g5 (fun e => n2 (Option.some.inj e))
            refine ⟨((((KeepsOthers.of_grownBy HD1.out (fun j o h => by cases h)).trans (KeepsOthers.of_grownBy HG3.out hrow)).trans (KeepsOthers.setCell _ _ _)).trans (KeepsOthers.setCell _ _ _)).from _, ⟨by omega, ⟨_, E5, ?_⟩, K5, hgz⟩, ?_⟩
            · exact Kd.R_mono (Kd.R_far (p := ⟨bo + 1, 0, none⟩) (Kd.R_far (p := ⟨bo, 0, none⟩) (Kd.R_bound HR3.out) (fun k hk e => by have h5 := hk.2.1; have h6 : k = bo := e; omega) _) (fun k hk e => by have h5 := hk.2.1; have h6 : k = bo + 1 := e; omega) _) (fun _ _ => trivial)
            · exact ⟨keepb _ _ (by omega) (by omega) (by omega) HT2.out.1, keepb _ _ (by omega) (by omega) (by omega) HT2.out.2.1, (hs3.row g4 (fun r e => by cases e; omega)).row g5 (fun r e => by cases e; omega), hgz⟩
    · gi_wp2_with fail
      have hd1 : W2.grownBy W2.drew none := gb_drew (World.grownBy.refl _ _)
      obtain ⟨W1d, hW1d⟩ : ∃ W1d, W1d = W2.drew.alloc (.cells #[.int .i64 q0, .int .i64 q1, .int .i64 q2, .int .u32 q3, .int .u32 q4] 58) := ⟨_, rfl⟩
      have hd2 : W2.grownBy W1d none := by rw [hW1d]; exact hd1.trans (World.grownBy_alloc _ _ none)
      have HW1D := Aside0.mk hW1d
      clear hW1d
      have r0' := (blk_cell (blk_grown HP.out.1 hd2 (by simp)) 0).trans rfl
      have rk' := (blk_cell (blk_grown HP.out.2.2.1 hd2 (by simp)) 0).trans rfl
      have ro' := (blk_cell (blk_grown H3.out.2.1 (HP.out.2.2.2.trans hd2) (by simp)) 0).trans rfl
      have y0' := cells_keep y0 (below_of_grown hd2)
      have y1' := cells_keep y1 (below_of_grown hd2)
      have y2' := cells_keep y2 (below_of_grown hd2)
      have y3' := cells_keep y3 (below_of_grown hd2)
      have y4' := cells_keep y4 (below_of_grown hd2)
      refine wpIn_draw (l := _) (by kernel_rfl) 6 [(0, 47), (1, 48), (2, 49), (3, 50), (4, 51), (5, 52)] (RdA 6 5 [.slice A8 (viewL vb os kk).length c8, .slice (some ad) os.length co, .int .i64 (kk : Int), .pointer (some (ad.add (kk * 5))), .agg #[.int .i64 q0, .int .i64 q1, .int .i64 q2, .int .u32 q3, .int .u32 q4], .slice (some ⟨W2.heap.size, 0, none⟩) 1 1] W2 W1d) (by kernel_rfl) rfl (RdA.start _ _ _ _ _) ?hs ?ht
      case hs =>
        intro i o hi ho bq fq W' hbi hdep hI
        have HI := Aside0.mk hI
        have HD := Aside0.mk hdep
        have hwq := hI.1
        clear hI hdep
        match i, hi, ho, hbi with
        | 0, _, ho, hbi =>
          cases ho
          simp only [frm, Act.put, List.setIfInBounds_toArray, List.set_cons_zero, List.set_cons_succ, Array.getD_eq_getD_getElem?, List.getElem?_toArray, List.getElem?_cons_zero, List.getElem?_cons_succ, Option.getD_some]
          cases hq5 : bq 5
          · rw [hq5, if_neg (by decide)] at hwq
            subst hwq
            clear hq5
            gi_wp2
            exact ⟨_, rfl, HI.out.next (by decide) rfl⟩
          · rw [hq5, if_pos rfl] at hwq
            subst hwq
            clear hq5
            gi_wp2
            exact ⟨_, rfl, HI.out.next (by decide) rfl⟩
        | 1, _, ho, hbi =>
          cases ho
          simp only [frm, Act.put, List.setIfInBounds_toArray, List.set_cons_zero, List.set_cons_succ, Array.getD_eq_getD_getElem?, List.getElem?_toArray, List.getElem?_cons_zero, List.getElem?_cons_succ, Option.getD_some]
          cases hq5 : bq 5
          · rw [hq5, if_neg (by decide)] at hwq
            subst hwq
            clear hq5
            gi_wp2
            exact ⟨_, rfl, HI.out.next (by decide) rfl⟩
          · rw [hq5, if_pos rfl] at hwq
            subst hwq
            clear hq5
            gi_wp2
            exact ⟨_, rfl, HI.out.next (by decide) rfl⟩
        | 2, _, ho, hbi =>
          cases ho
          simp only [frm, Act.put, List.setIfInBounds_toArray, List.set_cons_zero, List.set_cons_succ, Array.getD_eq_getD_getElem?, List.getElem?_toArray, List.getElem?_cons_zero, List.getElem?_cons_succ, Option.getD_some]
          cases hq5 : bq 5
          · rw [hq5, if_neg (by decide)] at hwq
            subst hwq
            clear hq5
            gi_wp2
            exact ⟨_, rfl, HI.out.next (by decide) rfl⟩
          · rw [hq5, if_pos rfl] at hwq
            subst hwq
            clear hq5
            gi_wp2
            exact ⟨_, rfl, HI.out.next (by decide) rfl⟩
        | 3, _, ho, hbi =>
          cases ho
          have hb1 : bq 1 = true := HD.out { on := 1, ground := Ground.data } (by simp) rfl
          have h1 : fq 1 = .slice (some ad) os.length co := HI.out.2 1 (by decide) hb1
          have hb2 : bq 2 = true := HD.out { on := 2, ground := Ground.data } (by simp) rfl
          have h2 : fq 2 = .int .i64 (kk : Int) := HI.out.2 2 (by decide) hb2
          simp only [frm, Act.put, List.setIfInBounds_toArray, List.set_cons_zero, List.set_cons_succ, Array.getD_eq_getD_getElem?, List.getElem?_toArray, List.getElem?_cons_zero, List.getElem?_cons_succ, Option.getD_some, hb1, h1, hb2, h2, sel_true]
          clear h1 hb1
          clear h2 hb2
          cases hq5 : bq 5
          · rw [hq5, if_neg (by decide)] at hwq
            subst hwq
            clear hq5
            gi_wp2
            exact ⟨_, rfl, HI.out.next (by decide) rfl⟩
          · rw [hq5, if_pos rfl] at hwq
            subst hwq
            clear hq5
            gi_wp2
            exact ⟨_, rfl, HI.out.next (by decide) rfl⟩
        | 4, _, ho, hbi =>
          cases ho
          have hb3 : bq 3 = true := HD.out { on := 3, ground := Ground.data } (by simp) rfl
          have h3 : fq 3 = .pointer (some (ad.add (kk * 5))) := HI.out.2 3 (by decide) hb3
          simp only [frm, Act.put, List.setIfInBounds_toArray, List.set_cons_zero, List.set_cons_succ, Array.getD_eq_getD_getElem?, List.getElem?_toArray, List.getElem?_cons_zero, List.getElem?_cons_succ, Option.getD_some, hb3, h3, sel_true]
          clear h3 hb3
          cases hq5 : bq 5
          · rw [hq5, if_neg (by decide)] at hwq
            subst hwq
            clear hq5
            gi_wp2
            exact ⟨_, rfl, HI.out.next (by decide) rfl⟩
          · rw [hq5, if_pos rfl] at hwq
            subst hwq
            clear hq5
            gi_wp2
            exact ⟨_, rfl, HI.out.next (by decide) rfl⟩
        | 5, _, ho, hbi =>
          cases ho
          have hb4 : bq 4 = true := HD.out { on := 4, ground := Ground.data } (by simp) rfl
          have h4 : fq 4 = .agg #[.int .i64 q0, .int .i64 q1, .int .i64 q2, .int .u32 q3, .int .u32 q4] := HI.out.2 4 (by decide) hb4
          simp only [frm, Act.put, List.setIfInBounds_toArray, List.set_cons_zero, List.set_cons_succ, Array.getD_eq_getD_getElem?, List.getElem?_toArray, List.getElem?_cons_zero, List.getElem?_cons_succ, Option.getD_some, hb4, h4, sel_true]
          clear h4 hb4
          rw [hbi, if_neg (by decide)] at hwq
          subst hwq
          gi_wp2
          exact ⟨_, rfl, HI.out.nextm rfl HW1D.out.symm⟩
      case ht =>
        intro bq fq W' hb hI
        have hwq := hI.1
        rw [hb 5 (by decide), if_pos rfl] at hwq
        subst hwq
        have h0 : fq 0 = .slice A8 (viewL vb os kk).length c8 := hI.2 0 (by decide) (hb 0 (by decide))
        have h1 : fq 1 = .slice (some ad) os.length co := hI.2 1 (by decide) (hb 1 (by decide))
        have h2 : fq 2 = .int .i64 (kk : Int) := hI.2 2 (by decide) (hb 2 (by decide))
        have h3 : fq 3 = .pointer (some (ad.add (kk * 5))) := hI.2 3 (by decide) (hb 3 (by decide))
        have h4 : fq 4 = .agg #[.int .i64 q0, .int .i64 q1, .int .i64 q2, .int .u32 q3, .int .u32 q4] := hI.2 4 (by decide) (hb 4 (by decide))
        have h5 : fq 5 = .slice (some ⟨W2.heap.size, 0, none⟩) 1 1 := hI.2 5 (by decide) (hb 5 (by decide))
        simp only [frm, Act.put, List.setIfInBounds_toArray, List.set_cons_zero, List.set_cons_succ, Array.getD_eq_getD_getElem?, List.getElem?_toArray, List.getElem?_cons_zero, List.getElem?_cons_succ, Option.getD_some, sel_true, h0, h1, h2, h3, h4, h5]
        clear hI hb h0 h1 h2 h3 h4 h5
        simp only [List.drop_succ_cons, List.drop_zero]
        have HS := Aside0.mk (show viewL vb os (kk + 1) = viewL vb os kk ++ [⟨q0, q1, q2, q3, q4⟩] by rw [HSV.out, HVB.out]; simp [*])
        rw [HW1D.out]
        have HPO := Aside0.mk (blk_grown HP.out.1 hd1 (by simp))
        have HPK := Aside0.mk (blk_grown HP.out.2.2.1 hd1 (by simp))
        have HPR := Aside0.mk (R_grown_n HP.out.2.1 hd1)
        have HPG := Aside0.mk (HP.out.2.2.2.trans hd1)
        have HD1 := Aside0.mk hd1
        clear r0 rk ro rp hd1 hd2 r0' rk' ro' y0 y1 y2 y3 y4 y0' y1' y2' y3' y4'
        gi_wp2_with (gi_at_builtin; go_loud (refine R_appendIn k58 (W := W2.drew) (bo + 4) rfl (.tmp 47) (.tmp 52) 48 58 (.agg #[.int .i64 0, .int .i64 0, .int .i64 0, .int .u32 0, .int .u32 0]) 32 rfl Try.underlying48 info58 rfl (by decide) (by decide) (.slice A8 (viewL vb os kk).length c8) (viewL vb os kk) ⟨q0, q1, q2, q3, q4⟩ [.int .i64 q0, .int .i64 q1, .int .i64 q2, .int .u32 q3, .int .u32 q4] (fun _ => True) (fun _ => False) rfl rfl (k58_mkM _ _ _ ⟨q0, q1, q2, q3, q4⟩) (fun _ h => h.elim) (fun _ _ => trivial) HPR.out HB2.out ?hln ?_); (case hln => have := viewL_len vb os kk; have := HLEN.out; omega); intro v1 W3 hR3 hg3 hat3; rw [← HS.out] at hR3; obtain ⟨Tj, hTj⟩ : ∃ Tj, Tj = viewL vb os (kk + 1) := ⟨_, rfl⟩; rw [← hTj] at hR3; obtain ⟨A9, c9, rfl, _, _⟩ := Kd.R_reads hR3; have hne : ∀ b, b < bo + 4 → some b ≠ (Value.slice A8 (viewL vb os kk).length c8).ownBlock := (fun b hb e => by have := Kd.R_base HPR.out b e.symm; omega); have e3 := blk_grown HPO.out hg3 (hne bo (by omega)); have k3 := blk_grown HPK.out hg3 (hne (bo + 1) (by omega)); have y30 := (blk_cell e3 0).trans rfl; have z30 := blk_frozen e3 0; have w30 := (blk_cell (blk_far k3 (p := ⟨bo, 0, none⟩) (by simp) (.slice A9 Tj.length c9)) 0).trans rfl; have w31 := blk_frozen (blk_far k3 (p := ⟨bo, 0, none⟩) (by simp) (.slice A9 Tj.length c9)) 0; have E3 := Aside0.mk e3; have K3 := Aside0.mk k3; have HR3 := Aside0.mk hR3; have HG3 := Aside0.mk hg3; have HNE := Aside0.mk hne; have HTJ := Aside0.mk hTj; clear hR3 hg3 hat3 e3 k3 hne hTj)
        rw [← HTJ.out]
        have hrow : ∀ (j : Nat) (o : Obj), (Value.slice A8 (viewL vb os kk).length c8).ownBlock = some j → W2.drew.heap[j]? = some o → o.isCells = true := fun j o hj ho => by
          obtain ⟨_, _, _, q, _, cells, h5⟩ := (Kd.R_bound HPR.out).1 j hj
          rw [h5] at ho; cases ho; rfl
        have hs3 := (HT2.out.2.2.grown HD1.out).row HG3.out (fun r e => by have := Kd.R_base HPR.out r e; omega)
        have hgf : w3.grownBy W3 none := HPG.out.andThen HG3.out (fun j e => .inl (by have := Kd.R_base HPR.out j e; omega))
        have g4 := gb_set W3 bo 0 (.slice A9 Tj.length c9)
        have g5 := gb_set (W3.setCell ⟨bo, 0, none⟩ (.slice A9 Tj.length c9)) (bo + 1) 0 (.int .i64 ((kk + 1 : Nat) : Int))
        have E5 := blk_far (blk_put E3.out 0 (.slice A9 Tj.length c9) rfl) (p := ⟨bo + 1, 0, none⟩) (by simp) (.int .i64 ((kk + 1 : Nat) : Int))
        have K5 := blk_put (blk_far K3.out (p := ⟨bo, 0, none⟩) (by simp) (.slice A9 Tj.length c9)) 0 (.int .i64 ((kk + 1 : Nat) : Int)) rfl
        have hgz : w3.grownBy _ none := (hgf.andThen g4 (fun j e => by cases e; exact .inl (by omega))).andThen g5 (fun j e => by cases e; exact .inl (by omega))
        have keepb : ∀ (b : Nat) (o : Obj), b ≠ bo → b ≠ bo + 1 → b < bo + 4 → W2.heap[b]? = some o → _ := fun b o n1 n2 n3 h => blk_grown (blk_grown (blk_grown (blk_grown h HD1.out (by simp)) HG3.out (HNE.out _ n3)) g4 (fun e => n1 (Option.some.inj e))) g5 (fun e => n2 (Option.some.inj e))
        refine ⟨((((KeepsOthers.of_grownBy HD1.out (fun j o h => by cases h)).trans (KeepsOthers.of_grownBy HG3.out hrow)).trans (KeepsOthers.setCell _ _ _)).trans (KeepsOthers.setCell _ _ _)).from _, ⟨by omega, ⟨_, E5, ?_⟩, K5, hgz⟩, ?_⟩
        · exact Kd.R_mono (Kd.R_far (p := ⟨bo + 1, 0, none⟩) (Kd.R_far (p := ⟨bo, 0, none⟩) (Kd.R_bound HR3.out) (fun k hk e => by have h5 := hk.2.1; have h6 : k = bo := e; omega) _) (fun k hk e => by have h5 := hk.2.1; have h6 : k = bo + 1 := e; omega) _) (fun _ _ => trivial)
        · exact ⟨keepb _ _ (by omega) (by omega) (by omega) HT2.out.1, keepb _ _ (by omega) (by omega) (by omega) HT2.out.2.1, (hs3.row g4 (fun r e => by cases e; omega)).row g5 (fun r e => by cases e; omega), hgz⟩
set_option maxHeartbeats 4000000 in
theorem view_bad (P : List S73) (Wn : List S75) (Cn : List S46) (l : List S56) (os : List S58) (part : Int) (A0 : Option Addr) (c0 : Nat) (A1 : Option Addr) (c1 : Nat) (A2 : Option Addr) (c2 : Nat) (A : Option Addr) (c : Nat) (Ao : Option Addr) (co : Nat) (w : World) (h0 : Kd.C k73 w A0 P.length P) (hc0 : P.length ≤ c0) (h1 : Kd.C k75 w A1 Wn.length Wn) (hc1 : Wn.length ≤ c1) (h2 : Kd.C k46 w A2 Cn.length Cn) (hc2 : Cn.length ≤ c2) (hno : ¬ (begE P Wn Cn part = 0 ∧ l.length = os.length)) :
    Calls Try.prog 23 #[.agg #[.slice A0 P.length c0, .slice A1 Wn.length c1, .slice A2 Cn.length c2], .slice A l.length c, .slice Ao os.length co, .int .i64 part] w fun e W' => e = .returned (.tuple #[.slice none 0 0, .int .i64 (viewR P Wn Cn l os part)]) ∧ w.grownBy W' none := by
  obtain ⟨w3, hw3⟩ : ∃ w3, w3 = ((w.alloc (.cells #[.slice A0 P.length c0, .slice A1 Wn.length c1, .slice A2 Cn.length c2] 26)).alloc (.cells #[.slice Ao os.length co] 48)).alloc (.cells #[.int .i64 part] 3) := ⟨_, rfl⟩
  have hA : w.grownBy w3 none := by rw [hw3]; exact ((World.grownBy_alloc w _ none).trans (World.grownBy_alloc _ _ none)).trans (World.grownBy_alloc _ _ none)
  have b3o : w3.heap[w.heap.size + 1]? = some (.cells #[.slice Ao os.length co] 48 (0, 0)) := by rw [hw3]; exact blk_alloc (new_at _ (by simp)) _
  have hN := (begin_calls P Wn Cn part A0 c0 A1 c1 A2 c2 _ (Kd.C_below h0 (below_of_grown hA)) hc0 (Kd.C_below h1 (below_of_grown hA)) hc1 (Kd.C_below h2 (below_of_grown hA)) hc2)
  by_cases he : begE P Wn Cn part = 0
  · have hlo : ¬ l.length = os.length := fun h => hno ⟨he, h⟩
    have hv : viewR P Wn Cn l os part = 2 := by unfold viewR; rw [if_pos he, if_neg hlo]
    have hlb : ((l.length : Int) != (os.length : Int)) = true := by rw [bne_iff_ne]; omega
    have HN := Aside0.mk (hN.1 he)
    have HA := Aside0.mk hA
    have H3 := Aside0.mk b3o
    rw [hv]
    rw [hw3] at HN
    have HW3 := Aside0.mk hw3
    clear h0 h1 h2 hA hN he hlo hv hno b3o hw3
    go_enter Try.func23, Try.ntmps23
    go_wp2_with (go_at_call 27; refine HN.out.mono ?_; rintro e W1 ⟨gs, hgs, rfl, hS, hg⟩; rw [← HW3.out] at hg; have xo := (blk_cell (blk_grown H3.out hg (by simp)) 0).trans rfl; have HG1 := Aside0.mk (HA.out.trans hg); clear hg hS hgs)
    go_ret2
    exact ⟨rfl, HG1.out⟩
  · have hn := hN.2 he
    have hv : viewR P Wn Cn l os part = begE P Wn Cn part := by unfold viewR; rw [if_neg he]
    rw [hv]
    obtain ⟨E, hE⟩ : ∃ E, E = begE P Wn Cn part := ⟨_, rfl⟩
    rw [← hE] at hn he ⊢
    have HN := Aside0.mk hn
    have HA := Aside0.mk hA
    rw [hw3] at HN
    have HW3 := Aside0.mk hw3
    have e0b : (E != 0) = true := by rw [bne_iff_ne]; exact he
    clear h0 h1 h2 hA hN he hn hE hv hno b3o hw3
    go_enter Try.func23, Try.ntmps23
    go_wp2_with (go_at_call 27; refine HN.out.mono ?_; rintro e W1 ⟨rfl, hg⟩; rw [← HW3.out] at hg; have HG1 := Aside0.mk (HA.out.trans hg); clear hg)
    go_ret2
    exact ⟨rfl, HG1.out⟩
def watch_View.f (k : Nat) (l0_0 : List S73) (l0_1 : List S75) (l0_2 : List S46) (l1 : List S56) (l2 : List S58) (a3 : Int) : Option (List S58 × Int) := if l1.length ≤ 1000000 then some (viewE l0_0 l0_1 l0_2 l1 l2 a3, viewR l0_0 l0_1 l0_2 l1 l2 a3) else none
theorem watch_View.mono : ∀ a0 a1 a2 a3 a4 a5 k, LeO (watch_View.f k a0 a1 a2 a3 a4 a5) (watch_View.f (k + 1) a0 a1 a2 a3 a4 a5) := fun _ _ _ _ _ _ _ => LeO.refl _
theorem watch_View.calls (k : Nat) (A0_0 : Option Addr) (c0_0 : Nat) (l0_0 : List (S73)) (A0_1 : Option Addr) (c0_1 : Nat) (l0_1 : List (S75)) (A0_2 : Option Addr) (c0_2 : Nat) (l0_2 : List (S46)) (A1 : Option Addr) (c1 : Nat) (l1 : List (S56)) (A2 : Option Addr) (c2 : Nat) (l2 : List (S58)) (a3 : Int) (r1 : List (S58)) (r2 : Int) (w : World) (hr0_0 : Kd.C k73 w A0_0 l0_0.length l0_0) (hc0_0 : l0_0.length ≤ c0_0) (hr0_1 : Kd.C k75 w A0_1 l0_1.length l0_1) (hc0_1 : l0_1.length ≤ c0_1) (hr0_2 : Kd.C k46 w A0_2 l0_2.length l0_2) (hc0_2 : l0_2.length ≤ c0_2) (hr1 : Kd.C k56 w A1 l1.length l1) (hc1 : l1.length ≤ c1) (hr2 : Kd.C k58 w A2 l2.length l2) (hc2 : l2.length ≤ c2) (h : watch_View.f k l0_0 l0_1 l0_2 l1 l2 a3 = some (r1, r2)) :
    Calls Try.prog 23 #[.agg #[.slice A0_0 l0_0.length c0_0, .slice A0_1 l0_1.length c0_1, .slice A0_2 l0_2.length c0_2], .slice A1 l1.length c1, .slice A2 l2.length c2, .int .i64 a3] w fun e w' => ∃ v0_ : Value, e = .returned (.tuple #[v0_, .int .i64 r2]) ∧ Kd.R k58 58 w' w.heap.size (fun _ => True) v0_ r1 ∧ Below w.heap.size w w' := by
  unfold watch_View.f at h
  by_cases hl : l1.length ≤ 1000000
  · rw [if_pos hl] at h
    obtain ⟨rfl, rfl⟩ := Prod.mk.inj (Option.some.inj h)
    by_cases hg : begE l0_0 l0_1 l0_2 a3 = 0 ∧ l1.length = l2.length
    · have h1 : viewE l0_0 l0_1 l0_2 l1 l2 a3 = viewL (viewB l0_1 l1 a3) l2 l1.length := by unfold viewE; rw [if_pos hg.1, if_pos hg.2]
      have h2 : viewR l0_0 l0_1 l0_2 l1 l2 a3 = 0 := by unfold viewR; rw [if_pos hg.1, if_pos hg.2]
      rw [h1, h2]
      exact (view_good l0_0 l0_1 l0_2 l1 l2 a3 A0_0 c0_0 A0_1 c0_1 A0_2 c0_2 A1 c1 A2 c2 w hr0_0 hc0_0 hr0_1 hc0_1 hr0_2 hc0_2 hr1 hc1 hr2 hc2 hl hg.1 hg.2).mono (fun e W ⟨v, a, b, d⟩ => ⟨v, a, b, below_of_grown d⟩)
    · have h1 : viewE l0_0 l0_1 l0_2 l1 l2 a3 = [] := by
        unfold viewE
        by_cases h0 : begE l0_0 l0_1 l0_2 a3 = 0
        · rw [if_pos h0, if_neg (fun h => hg ⟨h0, h⟩)]
        · rw [if_neg h0]
      rw [h1]
      exact (view_bad l0_0 l0_1 l0_2 l1 l2 a3 A0_0 c0_0 A0_1 c0_1 A0_2 c0_2 A1 c1 A2 c2 w hr0_0 hc0_0 hr0_1 hc0_1 hr0_2 hc0_2 hg).mono (fun e W ⟨a, d⟩ => ⟨_, a, Kd.R_nil _ _ _ _ _, below_of_grown d⟩)
  · rw [if_neg hl] at h; cases h
end Go.Proofs.Ytfmpabdaadllaaa.PAll

/-
  What View tells, in plain Lean.
-/
namespace Go.Proofs.Ytfmpabdaadllaaa.PAll
open Go.RowKit Go.Proofs.YtfmpabdaadllaaaW.PrintWords Go.Proofs.YtfmpabdaadllaaaW.PrintLast
set_option linter.unusedVariables false
set_option linter.unusedSimpArgs false
theorem viewE_len (P : List S73) (W : List S75) (C : List S46) (l : List S56) (os : List S58) (part : Int) : (viewE P W C l os part).length ≤ l.length := by
  unfold viewE
  split
  · split
    · exact viewL_len _ _ _
    · exact Nat.zero_le _
  · exact Nat.zero_le _
theorem wview_f (P : List S73) (W : List S75) (C : List S46) (l : List S56) (os : List S58) (part : Int) (hl : l.length ≤ 1000) (k : Nat) : watch_View.f k P W C l os part = some (viewE P W C l os part, viewR P W C l os part) := by unfold watch_View.f; rw [if_pos (by omega)]
end Go.Proofs.Ytfmpabdaadllaaa.PAll

namespace Go.Proofs.Ytfmpabdaadllaaa.PAll
open Go.RowKit Go.Proofs.YtfmpabdaadllaaaW.PrintWords Go.Proofs.YtfmpabdaadllaaaW.PrintLast
set_option linter.unusedVariables false
set_option linter.unusedSimpArgs false
attribute [local go_sem high] eqA58
/-! ### prioryref28_View: function 24 -/
def prioryref28_View.l0 : Nat → List (S56) → List (S58) → Int → List (S58) → Int → List (S73) → List (S75) → List (S46) → Option ((List (S58)) × Int)
  | 0, _, _, _, _, _, _, _, _ => none
  | k + 1, x1, x2, x3, x11, x12, x431000, x431001, x431002 => if x12 < (x1.length : Int) then (if 0 ≤ x12 then (if ((rd_T56 x1 x12).f0) = 1 then ((prioryref28_at.f k x431000 x431001 x431002 x1 (wrap64 (x12 + 1))).bind fun t433 => (if t433 = x3 then (if x12 < (x2.length : Int) then (if x11.length < 4398046511104 then (prioryref28_View.l0 k x1 x2 x3 (x11 ++ [(⟨(rd_T58 x2 x12).f0, (rd_T58 x2 x12).f1, (rd_T58 x2 x12).f2, (rd_T58 x2 x12).f3, (rd_T58 x2 x12).f4⟩ : S58)]) (wrap64 (x12 + 1)) x431000 x431001 x431002) else (none)) else (none)) else (prioryref28_View.l0 k x1 x2 x3 x11 (wrap64 (x12 + 1)) x431000 x431001 x431002))) else ((prioryref28_at.f k x431000 x431001 x431002 x1 x12).bind fun t440 => (if t440 = x3 then (if x12 < (x2.length : Int) then (if x11.length < 4398046511104 then (prioryref28_View.l0 k x1 x2 x3 (x11 ++ [(⟨(rd_T58 x2 x12).f0, (rd_T58 x2 x12).f1, (rd_T58 x2 x12).f2, (rd_T58 x2 x12).f3, (rd_T58 x2 x12).f4⟩ : S58)]) (wrap64 (x12 + 1)) x431000 x431001 x431002) else (none)) else (none)) else (prioryref28_View.l0 k x1 x2 x3 x11 (wrap64 (x12 + 1)) x431000 x431001 x431002)))) else (none)) else (some (x11, 0))
def prioryref28_View.f (k : Nat) (l0_0 : List (S73)) (l0_1 : List (S75)) (l0_2 : List (S46)) (l1 : List (S56)) (l2 : List (S58)) (a3 : Int) : Option ((List (S58)) × Int) := (prioryref28_asked.f k l0_0 l0_1 l0_2 a3).bind fun t431 => (if t431 = 0 then (if (l1.length : Int) = (l2.length : Int) then (prioryref28_View.l0 k l1 l2 a3 ([] : List (S58)) 0 l0_0 l0_1 l0_2) else (some (([] : List (S58)), 2))) else (some (([] : List (S58)), t431)))
theorem prioryref28_View.mono_l : ∀ k, (∀ y0 y1 y2 y3 y4 y5 y6 y7, LeO (prioryref28_View.l0 k y0 y1 y2 y3 y4 y5 y6 y7) (prioryref28_View.l0 (k + 1) y0 y1 y2 y3 y4 y5 y6 y7))
  | 0 => fun _ _ _ _ _ _ _ _ r h => by simp [prioryref28_View.l0] at h
  | k + 1 => by
    have ih0 := prioryref28_View.mono_l k
    · intro y0 y1 y2 y3 y4 y5 y6 y7
      unfold prioryref28_View.l0
      repeat' first
      | (with_reducible exact ih0 _ _ _ _ _ _ _ _)
      | (with_reducible exact prioryref28_asked.mono _ _ _ _ _)
      | (with_reducible exact prioryref28_at.mono _ _ _ _ _ _)
      | (with_reducible exact LeO.refl _)
      | (with_reducible exact LeO.none _)
      | (with_reducible refine LeO.ite ?_ ?_)
      | (with_reducible refine LeO.bind ?_ (fun _ => ?_))
      | exact ih0 _ _ _ _ _ _ _ _
      | exact prioryref28_asked.mono _ _ _ _ _
      | exact prioryref28_at.mono _ _ _ _ _ _
      | exact LeO.none _
      | refine LeO.ite ?_ ?_
      | refine LeO.bind ?_ (fun _ => ?_)
theorem prioryref28_View.mono : ∀ a0 a1 a2 a3 a4 a5 k, LeO (prioryref28_View.f k a0 a1 a2 a3 a4 a5) (prioryref28_View.f (k + 1) a0 a1 a2 a3 a4 a5) := by
  intro a0 a1 a2 a3 a4 a5 k
  have ih0 := prioryref28_View.mono_l k
  unfold prioryref28_View.f
  repeat' first
      | (with_reducible exact ih0 _ _ _ _ _ _ _ _)
      | (with_reducible exact prioryref28_asked.mono _ _ _ _ _)
      | (with_reducible exact prioryref28_at.mono _ _ _ _ _ _)
      | (with_reducible exact LeO.refl _)
      | (with_reducible exact LeO.none _)
      | (with_reducible refine LeO.ite ?_ ?_)
      | (with_reducible refine LeO.bind ?_ (fun _ => ?_))
      | exact ih0 _ _ _ _ _ _ _ _
      | exact prioryref28_asked.mono _ _ _ _ _
      | exact prioryref28_at.mono _ _ _ _ _ _
      | exact LeO.none _
      | refine LeO.ite ?_ ?_
      | refine LeO.bind ?_ (fun _ => ?_)
set_option maxHeartbeats 8000000 in
set_option maxRecDepth 100000 in
theorem prioryref28_View.calls (k : Nat) (A0_0 : Option Addr) (c0_0 : Nat) (l0_0 : List (S73)) (A0_1 : Option Addr) (c0_1 : Nat) (l0_1 : List (S75)) (A0_2 : Option Addr) (c0_2 : Nat) (l0_2 : List (S46)) (A1 : Option Addr) (c1 : Nat) (l1 : List (S56)) (A2 : Option Addr) (c2 : Nat) (l2 : List (S58)) (a3 : Int) (r1 : List (S58)) (r2 : Int) (w : World) (hr0_0 : Kd.C k73 w A0_0 l0_0.length l0_0) (hc0_0 : l0_0.length ≤ c0_0) (hr0_1 : Kd.C k75 w A0_1 l0_1.length l0_1) (hc0_1 : l0_1.length ≤ c0_1) (hr0_2 : Kd.C k46 w A0_2 l0_2.length l0_2) (hc0_2 : l0_2.length ≤ c0_2) (hr1 : Kd.C k56 w A1 l1.length l1) (hc1 : l1.length ≤ c1) (hr2 : Kd.C k58 w A2 l2.length l2) (hc2 : l2.length ≤ c2) (h : prioryref28_View.f k l0_0 l0_1 l0_2 l1 l2 a3 = some (r1, r2)) :
    Calls Try.prog 24 #[.agg #[.slice A0_0 l0_0.length c0_0, .slice A0_1 l0_1.length c0_1, .slice A0_2 l0_2.length c0_2], .slice A1 l1.length c1, .slice A2 l2.length c2, .int .i64 a3] w fun e w' => ∃ v0_ : Value, e = .returned (.tuple #[v0_, .int .i64 r2]) ∧ Kd.R k58 58 w' w.heap.size (fun _ => True) v0_ r1 ∧ Below w.heap.size w w' := by
  have hu26 := Try.underlying26
  have hu58 := Try.underlying58
  have HR0_0 := Aside0.mk hr0_0
  have HC0_0 := Aside0.mk hc0_0
  clear hr0_0 hc0_0
  have HR0_1 := Aside0.mk hr0_1
  have HC0_1 := Aside0.mk hc0_1
  clear hr0_1 hc0_1
  have HR0_2 := Aside0.mk hr0_2
  have HC0_2 := Aside0.mk hc0_2
  clear hr0_2 hc0_2
  have HR1 := Aside0.mk hr1
  have HC1 := Aside0.mk hc1
  clear hr1 hc1
  have HR2 := Aside0.mk hr2
  have HC2 := Aside0.mk hc2
  clear hr2 hc2
  have HB := Aside0.mk (Below.refl w.heap.size w)
  have H : ((prioryref28_asked.f k l0_0 l0_1 l0_2 a3).bind fun t431 => (if t431 = 0 then (if (l1.length : Int) = (l2.length : Int) then (prioryref28_View.l0 k l1 l2 a3 ([] : List (S58)) 0 l0_0 l0_1 l0_2) else (some (([] : List (S58)), 2))) else (some (([] : List (S58)), t431)))) = some (r1, r2) := h
  clear h
  replace H := Option.bind_eq_some_iff.mp H
  obtain ⟨t431, A50, H⟩ := H
  replace H : (if t431 = 0 then (if (l1.length : Int) = (l2.length : Int) then (prioryref28_View.l0 k l1 l2 a3 ([] : List (S58)) 0 l0_0 l0_1 l0_2) else (some (([] : List (S58)), 2))) else (some (([] : List (S58)), t431))) = some (r1, r2) := H
  have A5 := Aside0.mk A50
  clear A50
  by_cases c6 : t431 = 0
  · rw [if_pos c6] at H
    have c6b0 : (t431 == 0) = true := beq_iff_eq.mpr c6
    have c6b1 : (t431 != 0) = false := bne_eq_false_iff_eq.mpr c6
    clear c6
    by_cases c7 : (l1.length : Int) = (l2.length : Int)
    · rw [if_pos c7] at H
      have c7b0 : ((l1.length : Int) == (l2.length : Int)) = true := beq_iff_eq.mpr c7
      have c7b1 : ((l1.length : Int) != (l2.length : Int)) = false := bne_eq_false_iff_eq.mpr c7
      have c7b2 : (l1.length == l2.length) = true := by first | simpa using c7 | (simp at c7 ⊢; omega)
      clear c7
      have H' := Aside0.mk H
      clear H
      go_enter Try.func24, Try.ntmps24
      go_wp2_with (first | ((with_reducible refine gate_dst (N := 4) rfl ?_); refine box_event ?hg (N := 4) ?hd (cs := #[.slice A0_0 l0_0.length c0_0, .slice A0_1 l0_1.length c0_1, .slice A0_2 l0_2.length c0_2]) (t := 26) ?hr ?_; (case hd => rfl); (case hg => rfl); (case hr => first | (go_simp; done) | (go_simp; rfl)); intro gb430 hg w8 hbox hb; have n0_ := Aside0.mk (below_step (by repeat (first | (with_reducible first | exact HB.out | apply below_alloc | apply pw_below_drewN | apply below_drew1) | exact HB.out)) hb); have n1_ := Aside0.mk (hbox); have n2_ := Aside0.mk ((by rw [hg]; exact (below_size (by repeat (first | (with_reducible first | exact HB.out | apply below_alloc | apply pw_below_drewN | apply below_drew1) | exact HB.out))) : w.heap.size ≤ gb430)); have n3_ := Aside0.mk ((by rw [hg]; exact (below_size (by repeat (first | (with_reducible first | exact HB.out | apply below_alloc | apply pw_below_drewN | apply below_drew1) | exact HB.out))) : w.heap.size ≤ gb430)); clear HB; have HB := n0_; have BK430 := n1_; have GW430 := n2_; have GE430 := n3_; clear n0_ n1_ n2_ n3_; clear hb hbox hg; have hcz9_0 : w8.cell? ⟨gb430, 0, none⟩ = some (.slice A0_0 l0_0.length c0_0) := (blk_cell BK430.out 0).trans rfl; have hcz9_1 : w8.cell? ⟨gb430, 1, none⟩ = some (.slice A0_1 l0_1.length c0_1) := (blk_cell BK430.out 1).trans rfl; have hcz9_2 : w8.cell? ⟨gb430, 2, none⟩ = some (.slice A0_2 l0_2.length c0_2) := (blk_cell BK430.out 2).trans rfl; have hfz9_0 := blk_frozen BK430.out 0; have hfz9_1 := blk_frozen BK430.out 1; have hfz9_2 := blk_frozen BK430.out 2) | ((with_reducible refine gate_callee (f := 30) rfl ?_); refine goesL_ (some 15) rfl rfl Try.func30 (by kernel_rfl) rfl #[.agg #[.slice A0_0 l0_0.length c0_0, .slice A0_1 l0_1.length c0_1, .slice A0_2 l0_2.length c0_2], .int .i64 a3] rfl (by (try simp only [List.map_toArray, List.map_cons, List.map_nil]); first | done | rfl | (simp only [List.length_drop, List.length_take]; rfl)) ?_; (with_reducible refine (prioryref28_asked.calls k _ _ l0_0 _ _ l0_1 _ _ l0_2 a3 t431 _ ?side1 ?side2 ?side3 ?side4 ?side5 ?side6 A5.out).mono ?_); (case side1 => repeat (first | exact (Kd.C_below HR0_0.out HB.out) | (with_reducible refine Kd.C_alloc ?_ _) | (with_reducible refine Kd.C_drewN ?_ _) | (with_reducible refine Kd.C_drew ?_))); (case side2 => exact HC0_0.out); (case side3 => repeat (first | exact (Kd.C_below HR0_1.out HB.out) | (with_reducible refine Kd.C_alloc ?_ _) | (with_reducible refine Kd.C_drewN ?_ _) | (with_reducible refine Kd.C_drew ?_))); (case side4 => exact HC0_1.out); (case side5 => repeat (first | exact (Kd.C_below HR0_2.out HB.out) | (with_reducible refine Kd.C_alloc ?_ _) | (with_reducible refine Kd.C_drewN ?_ _) | (with_reducible refine Kd.C_drew ?_))); (case side6 => exact HC0_2.out); rintro e w10 ⟨rfl, hb⟩; refine ⟨_, rfl, ?_⟩; have n0_ := Aside0.mk (blk_below (g := gb430) (o := .cells #[.slice A0_0 l0_0.length c0_0, .slice A0_1 l0_1.length c0_1, .slice A0_2 l0_2.length c0_2] 26 (0, 0)) (by (with_reducible repeat (first | refine blk_drewN ?_ _ | refine blk_drew ?_ | refine blk_alloc ?_ _)); exact BK430.out) hb); have n1_ := Aside0.mk (below_step (by repeat (first | (with_reducible first | exact HB.out | apply below_alloc | apply pw_below_drewN | apply below_drew1 | refine below_set ?_ GE430.out) | exact HB.out)) hb); clear BK430; clear HB; have BK430 := n0_; have HB := n1_; clear n0_ n1_; (try clear hb); (try clear hb2); (try clear hk); (try clear hi)))
      go_loopg [11, 12] k (fun kq v11 v12 w' => ∃ (x11_1 : List (S58)) (x12_1 : Int), v12 = .int .i64 x12_1 ∧ Aside0 (prioryref28_View.l0 kq l1 l2 a3 x11_1 x12_1 l0_0 l0_1 l0_2 = some (r1, r2)) ∧ Aside0 (kq ≤ k) ∧ Aside0 (Kd.R k58 58 w' w.heap.size (fun _ => True) v11 x11_1) ∧ Aside0 (w'.heap[gb430]? = some (.cells #[(.slice A0_0 l0_0.length c0_0), (.slice A0_1 l0_1.length c0_1), (.slice A0_2 l0_2.length c0_2)] 26 (0, 0))) ∧ Aside0 (Below w.heap.size w w'))
      case atStart => exact ⟨(([] : List (S58))), (0), (by first | rfl | (simp; done) | (simp [*]; done)), H', ⟨Nat.le_refl _⟩, ⟨by first | exact Kd.R_nil _ _ _ _ _ | exact Kd.N_nil _ _ _ _ _ | exact Kd.V_nil _ _ _ _ _ | exact Kd.Q_nil _ _ _ _ _ | exact Kd.S_nil _ _ _ _ _⟩, ⟨by (with_reducible repeat (first | refine blk_drewN ?_ _ | refine blk_drew ?_ | refine blk_alloc ?_ _)); exact BK430.out⟩, ⟨by repeat (first | (with_reducible first | exact HB.out | apply below_alloc | apply pw_below_drewN | apply below_drew1 | refine below_set ?_ GE430.out) | exact HB.out)⟩⟩
      case round =>
        clear H'
        try clear c1
        try clear c2
        try clear p2
        try clear c3
        try clear c6
        try clear c6b0
        try clear c6b1
        try clear c7
        try clear c7b0
        try clear c7b1
        try clear c7b2
        try clear hcz9_0
        try clear hcz9_1
        try clear hcz9_2
        try clear hfz9_0
        try clear hfz9_1
        try clear hfz9_2
        obtain ⟨x11_1, x12_1, rfl, HA, HK1, HO_11, BK430, HB⟩ := hrel
        cases gk with
        | zero => exact absurd HA.out (by simp [prioryref28_View.l0])
        | succ k1 =>
          have H := HA.out
          clear HA
          simp only [prioryref28_View.l0] at H
          by_cases c11 : x12_1 < (l1.length : Int)
          · rw [if_pos c11] at H
            have c11b0 : decide (x12_1 < (l1.length : Int)) = true := decide_eq_true c11
            clear c11
            by_cases c12 : 0 ≤ x12_1
            · rw [if_pos c12] at H
              have c12b0 : decide (0 ≤ x12_1) = true := decide_eq_true c12
              clear c12
              by_cases c13 : ((rd_T56 l1 x12_1).f0) = 1
              · rw [if_pos c13] at H
                have c13b0 : (((rd_T56 l1 x12_1).f0) == 1) = true := beq_iff_eq.mpr c13
                have c13b1 : (((rd_T56 l1 x12_1).f0) != 1) = false := bne_eq_false_iff_eq.mpr c13
                clear c13
                replace H := Option.bind_eq_some_iff.mp H
                obtain ⟨t433, A140, H⟩ := H
                replace H : (if t433 = a3 then (if x12_1 < (l2.length : Int) then (if x11_1.length < 4398046511104 then (prioryref28_View.l0 k1 l1 l2 a3 (x11_1 ++ [(⟨(rd_T58 l2 x12_1).f0, (rd_T58 l2 x12_1).f1, (rd_T58 l2 x12_1).f2, (rd_T58 l2 x12_1).f3, (rd_T58 l2 x12_1).f4⟩ : S58)]) (wrap64 (x12_1 + 1)) l0_0 l0_1 l0_2) else (none)) else (none)) else (prioryref28_View.l0 k1 l1 l2 a3 x11_1 (wrap64 (x12_1 + 1)) l0_0 l0_1 l0_2)) = some (r1, r2) := H
                have A14 := Aside0.mk A140
                clear A140
                by_cases c15 : t433 = a3
                · rw [if_pos c15] at H
                  have c15b0 : (t433 == a3) = true := beq_iff_eq.mpr c15
                  have c15b1 : (t433 != a3) = false := bne_eq_false_iff_eq.mpr c15
                  clear c15
                  by_cases c16 : x12_1 < (l2.length : Int)
                  · rw [if_pos c16] at H
                    have c16b0 : decide (x12_1 < (l2.length : Int)) = true := decide_eq_true c16
                    clear c16
                    by_cases c17 : x11_1.length < 4398046511104
                    · rw [if_pos c17] at H
                      have LMc17 := Aside0.mk c17
                      clear c17
                      obtain ⟨y435, hy435⟩ : ∃ y_ : List (S58), y_ = (x11_1 ++ [(⟨(rd_T58 l2 x12_1).f0, (rd_T58 l2 x12_1).f1, (rd_T58 l2 x12_1).f2, (rd_T58 l2 x12_1).f3, (rd_T58 l2 x12_1).f4⟩ : S58)]) := ⟨_, rfl⟩
                      replace H : (prioryref28_View.l0 k1 l1 l2 a3 y435 (wrap64 (x12_1 + 1)) l0_0 l0_1 l0_2) = some (r1, r2) := by first | (rw [hy435]; with_reducible exact H) | (have H2_ := (Option.bind_some _ _).symm.trans H; rw [hy435]; with_reducible exact H2_) | (have H2_ := (Option.bind_some _ _).symm.trans H; with_reducible exact H2_) | with_reducible exact H | (rw [hy435]; exact H) | exact H
                      have Ny435 := Aside0.mk hy435
                      clear hy435
                      have H' := Aside0.mk H
                      clear H
                      have p432 : 0 ≤ (x12_1 : Int) := of_decide_eq_true (by first | (with_reducible assumption) | assumption)
                      have q432 : x12_1 < (l1.length : Int) := of_decide_eq_true (by first | (with_reducible assumption) | assumption)
                      obtain ⟨ad432, e432, hx432_0, hx432_1, hx432_2⟩ := at_T56 HR1.out x12_1 p432 q432
                      cases e432
                      replace hx432_0 := (HB.out.cell (World.block_lt_of_cell? w _ hx432_0)).trans hx432_0
                      replace hx432_1 := (HB.out.cell (World.block_lt_of_cell? w _ hx432_1)).trans hx432_1
                      replace hx432_2 := (HB.out.cell (World.block_lt_of_cell? w _ hx432_2)).trans hx432_2
                      replace p432 := eq_true p432
                      replace q432 := eq_true q432
                      have hcz18_0 : wr.cell? ⟨gb430, 0, none⟩ = some (.slice A0_0 l0_0.length c0_0) := (blk_cell BK430.out 0).trans rfl
                      have hcz18_1 : wr.cell? ⟨gb430, 1, none⟩ = some (.slice A0_1 l0_1.length c0_1) := (blk_cell BK430.out 1).trans rfl
                      have hcz18_2 : wr.cell? ⟨gb430, 2, none⟩ = some (.slice A0_2 l0_2.length c0_2) := (blk_cell BK430.out 2).trans rfl
                      have hfz18_0 := blk_frozen BK430.out 0
                      have hfz18_1 := blk_frozen BK430.out 1
                      have hfz18_2 := blk_frozen BK430.out 2
                      go_wp2_with (first | (go_at_call 31; (with_reducible refine (prioryref28_at.calls k1 _ _ l0_0 _ _ l0_1 _ _ l0_2 _ _ l1 (wrap64 (x12_1 + 1)) t433 _ ?side1 ?side2 ?side3 ?side4 ?side5 ?side6 ?side7 ?side8 A14.out).mono ?_); (case side1 => repeat (first | exact (Kd.C_below HR0_0.out HB.out) | (with_reducible refine Kd.C_alloc ?_ _) | (with_reducible refine Kd.C_drewN ?_ _) | (with_reducible refine Kd.C_drew ?_))); (case side2 => exact HC0_0.out); (case side3 => repeat (first | exact (Kd.C_below HR0_1.out HB.out) | (with_reducible refine Kd.C_alloc ?_ _) | (with_reducible refine Kd.C_drewN ?_ _) | (with_reducible refine Kd.C_drew ?_))); (case side4 => exact HC0_1.out); (case side5 => repeat (first | exact (Kd.C_below HR0_2.out HB.out) | (with_reducible refine Kd.C_alloc ?_ _) | (with_reducible refine Kd.C_drewN ?_ _) | (with_reducible refine Kd.C_drew ?_))); (case side6 => exact HC0_2.out); (case side7 => repeat (first | exact (Kd.C_below HR1.out HB.out) | (with_reducible refine Kd.C_alloc ?_ _) | (with_reducible refine Kd.C_drewN ?_ _) | (with_reducible refine Kd.C_drew ?_))); (case side8 => exact HC1.out); rintro e w19 ⟨rfl, hb⟩; have n0_ := Aside0.mk (Kd.R_below (by (with_reducible repeat (first | apply Kd.R_alloc | apply Kd.R_drewN | apply Kd.R_drew)); exact HO_11.out) hb); have n1_ := Aside0.mk (blk_below (g := gb430) (o := .cells #[.slice A0_0 l0_0.length c0_0, .slice A0_1 l0_1.length c0_1, .slice A0_2 l0_2.length c0_2] 26 (0, 0)) (by (with_reducible repeat (first | refine blk_drewN ?_ _ | refine blk_drew ?_ | refine blk_alloc ?_ _)); exact BK430.out) hb); have n2_ := Aside0.mk (below_step (by repeat (first | (with_reducible first | exact HB.out | apply below_alloc | apply pw_below_drewN | apply below_drew1 | refine below_set ?_ GE430.out) | exact HB.out)) hb); clear HO_11; clear BK430; clear HB; have HO_11 := n0_; have BK430 := n1_; have HB := n2_; clear n0_ n1_ n2_; (try clear hb); (try clear hb2); (try clear hk); (try clear hi); have p434 : 0 ≤ (x12_1 : Int) := of_decide_eq_true (by first | (with_reducible assumption) | assumption); have q434 : x12_1 < (l2.length : Int) := of_decide_eq_true (by first | (with_reducible assumption) | assumption); obtain ⟨ad434, e434, hx434_0, hx434_1, hx434_2, hx434_3, hx434_4⟩ := at_T58 HR2.out x12_1 p434 q434; cases e434; replace hx434_0 := (HB.out.cell (World.block_lt_of_cell? w _ hx434_0)).trans hx434_0; replace hx434_1 := (HB.out.cell (World.block_lt_of_cell? w _ hx434_1)).trans hx434_1; replace hx434_2 := (HB.out.cell (World.block_lt_of_cell? w _ hx434_2)).trans hx434_2; replace hx434_3 := (HB.out.cell (World.block_lt_of_cell? w _ hx434_3)).trans hx434_3; replace hx434_4 := (HB.out.cell (World.block_lt_of_cell? w _ hx434_4)).trans hx434_4; replace p434 := eq_true p434; replace q434 := eq_true q434) | ((with_reducible refine gate_builtin (b := .append) (xs := #[.tmp 61, .tmp 66]) rfl ?_); at_builtin; refine Kd.R_append k58 (w0 := w) w.heap.size rfl (.tmp 61) (.tmp 66) 48 58 (.agg #[(.int .i64 0), (.int .i64 0), (.int .i64 0), (.int .u32 0), (.int .u32 0)]) 32 rfl Try.underlying48 info58 rfl (by decide) (by omega) u11 x11_1 (⟨(rd_T58 l2 x12_1).f0, (rd_T58 l2 x12_1).f1, (rd_T58 l2 x12_1).f2, (rd_T58 l2 x12_1).f3, (rd_T58 l2 x12_1).f4⟩ : S58) [.int .i64 ((rd_T58 l2 x12_1).f0), .int .i64 ((rd_T58 l2 x12_1).f1), .int .i64 ((rd_T58 l2 x12_1).f2), .int .u32 ((rd_T58 l2 x12_1).f3), .int .u32 ((rd_T58 l2 x12_1).f4)] (fun _ => True) (fun _ => False) rfl rfl ?aP (fun _ hk => hk.elim) ?aF ?aO ?aB ?aS ?aL ?_; (case aP => exact k58_mkM _ _ _ (⟨(rd_T58 l2 x12_1).f0, (rd_T58 l2 x12_1).f1, (rd_T58 l2 x12_1).f2, (rd_T58 l2 x12_1).f3, (rd_T58 l2 x12_1).f4⟩ : S58)); (case aB => exact (by repeat (first | (with_reducible first | exact HB.out | apply below_alloc | apply pw_below_drewN | apply below_drew1 | refine below_set ?_ GE430.out) | exact HB.out))); (case aF => exact (fun _ _ => trivial)); (case aO => exact (by (with_reducible repeat (first | apply Kd.R_alloc | apply Kd.R_drewN | apply Kd.R_drew)); exact HO_11.out)); (case aS => exact (below_size (by repeat (first | (with_reducible first | exact HB.out | apply below_alloc | apply pw_below_drewN | apply below_drew1 | refine below_set ?_ GE430.out) | exact HB.out)))); (case aL => have := LMc17.out; omega); intro v436 w20 ho hb hg hat; rw [← Ny435.out] at ho; have n0_ := Aside0.mk (blk_grown (g := gb430) (o := .cells #[.slice A0_0 l0_0.length c0_0, .slice A0_1 l0_1.length c0_1, .slice A0_2 l0_2.length c0_2] 26 (0, 0)) (by (with_reducible repeat (first | refine blk_drewN ?_ _ | refine blk_drew ?_ | refine blk_alloc ?_ _)); exact BK430.out) hg (Kd.R_ne HO_11.out BK430.out (by decide))); have n1_ := Aside0.mk (hb); have n2_ := Aside0.mk (ho); clear BK430; clear HB; clear HO_11; have BK430 := n0_; have HB := n1_; have HO437 := n2_; clear n0_ n1_ n2_; clear ho hb hg hat))
                      go_roundg k1
                      case measure => have := HK1.out; omega
                      case rel => exact ⟨(y435), (wrap64 (x12_1 + 1)), (by first | rfl | (simp; done) | (simp [*]; done)), H', ⟨by have := HK1.out; omega⟩, ⟨by (with_reducible repeat (first | apply Kd.R_alloc | apply Kd.R_drewN | apply Kd.R_drew)); exact HO437.out⟩, ⟨by (with_reducible repeat (first | refine blk_drewN ?_ _ | refine blk_drew ?_ | refine blk_alloc ?_ _)); exact BK430.out⟩, ⟨by repeat (first | (with_reducible first | exact HB.out | apply below_alloc | apply pw_below_drewN | apply below_drew1 | refine below_set ?_ GE430.out) | exact HB.out)⟩⟩
                    · rw [if_neg c17] at H
                      exact absurd H (by simp)
                  · rw [if_neg c16] at H
                    exact absurd H (by simp)
                · rw [if_neg c15] at H
                  have c15b0 : (t433 == a3) = false := beq_eq_false_iff_ne.mpr c15
                  have c15b1 : (t433 != a3) = true := bne_iff_ne.mpr c15
                  have H' := Aside0.mk H
                  clear H
                  have p432 : 0 ≤ (x12_1 : Int) := of_decide_eq_true (by first | (with_reducible assumption) | assumption)
                  have q432 : x12_1 < (l1.length : Int) := of_decide_eq_true (by first | (with_reducible assumption) | assumption)
                  obtain ⟨ad432, e432, hx432_0, hx432_1, hx432_2⟩ := at_T56 HR1.out x12_1 p432 q432
                  cases e432
                  replace hx432_0 := (HB.out.cell (World.block_lt_of_cell? w _ hx432_0)).trans hx432_0
                  replace hx432_1 := (HB.out.cell (World.block_lt_of_cell? w _ hx432_1)).trans hx432_1
                  replace hx432_2 := (HB.out.cell (World.block_lt_of_cell? w _ hx432_2)).trans hx432_2
                  replace p432 := eq_true p432
                  replace q432 := eq_true q432
                  have hcz21_0 : wr.cell? ⟨gb430, 0, none⟩ = some (.slice A0_0 l0_0.length c0_0) := (blk_cell BK430.out 0).trans rfl
                  have hcz21_1 : wr.cell? ⟨gb430, 1, none⟩ = some (.slice A0_1 l0_1.length c0_1) := (blk_cell BK430.out 1).trans rfl
                  have hcz21_2 : wr.cell? ⟨gb430, 2, none⟩ = some (.slice A0_2 l0_2.length c0_2) := (blk_cell BK430.out 2).trans rfl
                  have hfz21_0 := blk_frozen BK430.out 0
                  have hfz21_1 := blk_frozen BK430.out 1
                  have hfz21_2 := blk_frozen BK430.out 2
                  go_wp2_with (first | (go_at_call 31; (with_reducible refine (prioryref28_at.calls k1 _ _ l0_0 _ _ l0_1 _ _ l0_2 _ _ l1 (wrap64 (x12_1 + 1)) t433 _ ?side1 ?side2 ?side3 ?side4 ?side5 ?side6 ?side7 ?side8 A14.out).mono ?_); (case side1 => repeat (first | exact (Kd.C_below HR0_0.out HB.out) | (with_reducible refine Kd.C_alloc ?_ _) | (with_reducible refine Kd.C_drewN ?_ _) | (with_reducible refine Kd.C_drew ?_))); (case side2 => exact HC0_0.out); (case side3 => repeat (first | exact (Kd.C_below HR0_1.out HB.out) | (with_reducible refine Kd.C_alloc ?_ _) | (with_reducible refine Kd.C_drewN ?_ _) | (with_reducible refine Kd.C_drew ?_))); (case side4 => exact HC0_1.out); (case side5 => repeat (first | exact (Kd.C_below HR0_2.out HB.out) | (with_reducible refine Kd.C_alloc ?_ _) | (with_reducible refine Kd.C_drewN ?_ _) | (with_reducible refine Kd.C_drew ?_))); (case side6 => exact HC0_2.out); (case side7 => repeat (first | exact (Kd.C_below HR1.out HB.out) | (with_reducible refine Kd.C_alloc ?_ _) | (with_reducible refine Kd.C_drewN ?_ _) | (with_reducible refine Kd.C_drew ?_))); (case side8 => exact HC1.out); rintro e w22 ⟨rfl, hb⟩; have n0_ := Aside0.mk (Kd.R_below (by (with_reducible repeat (first | apply Kd.R_alloc | apply Kd.R_drewN | apply Kd.R_drew)); exact HO_11.out) hb); have n1_ := Aside0.mk (blk_below (g := gb430) (o := .cells #[.slice A0_0 l0_0.length c0_0, .slice A0_1 l0_1.length c0_1, .slice A0_2 l0_2.length c0_2] 26 (0, 0)) (by (with_reducible repeat (first | refine blk_drewN ?_ _ | refine blk_drew ?_ | refine blk_alloc ?_ _)); exact BK430.out) hb); have n2_ := Aside0.mk (below_step (by repeat (first | (with_reducible first | exact HB.out | apply below_alloc | apply pw_below_drewN | apply below_drew1 | refine below_set ?_ GE430.out) | exact HB.out)) hb); clear HO_11; clear BK430; clear HB; have HO_11 := n0_; have BK430 := n1_; have HB := n2_; clear n0_ n1_ n2_; (try clear hb); (try clear hb2); (try clear hk); (try clear hi); have p438 : 0 ≤ (x12_1 : Int) := of_decide_eq_true (by first | (with_reducible assumption) | assumption); have q438 : x12_1 < (l1.length : Int) := of_decide_eq_true (by first | (with_reducible assumption) | assumption); obtain ⟨ad438, e438, hx438_0, hx438_1, hx438_2⟩ := at_T56 HR1.out x12_1 p438 q438; obtain rfl : ad432 = ad438 := (by injection e438); replace hx438_0 := (HB.out.cell (World.block_lt_of_cell? w _ hx438_0)).trans hx438_0; replace hx438_1 := (HB.out.cell (World.block_lt_of_cell? w _ hx438_1)).trans hx438_1; replace hx438_2 := (HB.out.cell (World.block_lt_of_cell? w _ hx438_2)).trans hx438_2; replace p438 := eq_true p438; replace q438 := eq_true q438))
                  go_roundg k1
                  case measure => have := HK1.out; omega
                  case rel => exact ⟨(x11_1), (wrap64 (x12_1 + 1)), (by first | rfl | (simp; done) | (simp [*]; done)), H', ⟨by have := HK1.out; omega⟩, ⟨by (with_reducible repeat (first | apply Kd.R_alloc | apply Kd.R_drewN | apply Kd.R_drew)); exact HO_11.out⟩, ⟨by (with_reducible repeat (first | refine blk_drewN ?_ _ | refine blk_drew ?_ | refine blk_alloc ?_ _)); exact BK430.out⟩, ⟨by repeat (first | (with_reducible first | exact HB.out | apply below_alloc | apply pw_below_drewN | apply below_drew1 | refine below_set ?_ GE430.out) | exact HB.out)⟩⟩
              · rw [if_neg c13] at H
                have c13b0 : (((rd_T56 l1 x12_1).f0) == 1) = false := beq_eq_false_iff_ne.mpr c13
                have c13b1 : (((rd_T56 l1 x12_1).f0) != 1) = true := bne_iff_ne.mpr c13
                replace H := Option.bind_eq_some_iff.mp H
                obtain ⟨t440, A230, H⟩ := H
                replace H : (if t440 = a3 then (if x12_1 < (l2.length : Int) then (if x11_1.length < 4398046511104 then (prioryref28_View.l0 k1 l1 l2 a3 (x11_1 ++ [(⟨(rd_T58 l2 x12_1).f0, (rd_T58 l2 x12_1).f1, (rd_T58 l2 x12_1).f2, (rd_T58 l2 x12_1).f3, (rd_T58 l2 x12_1).f4⟩ : S58)]) (wrap64 (x12_1 + 1)) l0_0 l0_1 l0_2) else (none)) else (none)) else (prioryref28_View.l0 k1 l1 l2 a3 x11_1 (wrap64 (x12_1 + 1)) l0_0 l0_1 l0_2)) = some (r1, r2) := H
                have A23 := Aside0.mk A230
                clear A230
                by_cases c24 : t440 = a3
                · rw [if_pos c24] at H
                  have c24b0 : (t440 == a3) = true := beq_iff_eq.mpr c24
                  have c24b1 : (t440 != a3) = false := bne_eq_false_iff_eq.mpr c24
                  clear c24
                  by_cases c25 : x12_1 < (l2.length : Int)
                  · rw [if_pos c25] at H
                    have c25b0 : decide (x12_1 < (l2.length : Int)) = true := decide_eq_true c25
                    clear c25
                    by_cases c26 : x11_1.length < 4398046511104
                    · rw [if_pos c26] at H
                      have LMc26 := Aside0.mk c26
                      clear c26
                      obtain ⟨y442, hy442⟩ : ∃ y_ : List (S58), y_ = (x11_1 ++ [(⟨(rd_T58 l2 x12_1).f0, (rd_T58 l2 x12_1).f1, (rd_T58 l2 x12_1).f2, (rd_T58 l2 x12_1).f3, (rd_T58 l2 x12_1).f4⟩ : S58)]) := ⟨_, rfl⟩
                      replace H : (prioryref28_View.l0 k1 l1 l2 a3 y442 (wrap64 (x12_1 + 1)) l0_0 l0_1 l0_2) = some (r1, r2) := by first | (rw [hy442]; with_reducible exact H) | (have H2_ := (Option.bind_some _ _).symm.trans H; rw [hy442]; with_reducible exact H2_) | (have H2_ := (Option.bind_some _ _).symm.trans H; with_reducible exact H2_) | with_reducible exact H | (rw [hy442]; exact H) | exact H
                      have Ny442 := Aside0.mk hy442
                      clear hy442
                      have H' := Aside0.mk H
                      clear H
                      have p432 : 0 ≤ (x12_1 : Int) := of_decide_eq_true (by first | (with_reducible assumption) | assumption)
                      have q432 : x12_1 < (l1.length : Int) := of_decide_eq_true (by first | (with_reducible assumption) | assumption)
                      obtain ⟨ad432, e432, hx432_0, hx432_1, hx432_2⟩ := at_T56 HR1.out x12_1 p432 q432
                      cases e432
                      replace hx432_0 := (HB.out.cell (World.block_lt_of_cell? w _ hx432_0)).trans hx432_0
                      replace hx432_1 := (HB.out.cell (World.block_lt_of_cell? w _ hx432_1)).trans hx432_1
                      replace hx432_2 := (HB.out.cell (World.block_lt_of_cell? w _ hx432_2)).trans hx432_2
                      replace p432 := eq_true p432
                      replace q432 := eq_true q432
                      have p439 : 0 ≤ (x12_1 : Int) := of_decide_eq_true (by first | (with_reducible assumption) | assumption)
                      have q439 : x12_1 < (l1.length : Int) := of_decide_eq_true (by first | (with_reducible assumption) | assumption)
                      obtain ⟨ad439, e439, hx439_0, hx439_1, hx439_2⟩ := at_T56 HR1.out x12_1 p439 q439
                      obtain rfl : ad432 = ad439 := (by injection e439)
                      replace hx439_0 := (HB.out.cell (World.block_lt_of_cell? w _ hx439_0)).trans hx439_0
                      replace hx439_1 := (HB.out.cell (World.block_lt_of_cell? w _ hx439_1)).trans hx439_1
                      replace hx439_2 := (HB.out.cell (World.block_lt_of_cell? w _ hx439_2)).trans hx439_2
                      replace p439 := eq_true p439
                      replace q439 := eq_true q439
                      have hcz27_0 : wr.cell? ⟨gb430, 0, none⟩ = some (.slice A0_0 l0_0.length c0_0) := (blk_cell BK430.out 0).trans rfl
                      have hcz27_1 : wr.cell? ⟨gb430, 1, none⟩ = some (.slice A0_1 l0_1.length c0_1) := (blk_cell BK430.out 1).trans rfl
                      have hcz27_2 : wr.cell? ⟨gb430, 2, none⟩ = some (.slice A0_2 l0_2.length c0_2) := (blk_cell BK430.out 2).trans rfl
                      have hfz27_0 := blk_frozen BK430.out 0
                      have hfz27_1 := blk_frozen BK430.out 1
                      have hfz27_2 := blk_frozen BK430.out 2
                      go_wp2_with (first | (go_at_call 31; (with_reducible refine (prioryref28_at.calls k1 _ _ l0_0 _ _ l0_1 _ _ l0_2 _ _ l1 x12_1 t440 _ ?side1 ?side2 ?side3 ?side4 ?side5 ?side6 ?side7 ?side8 A23.out).mono ?_); (case side1 => repeat (first | exact (Kd.C_below HR0_0.out HB.out) | (with_reducible refine Kd.C_alloc ?_ _) | (with_reducible refine Kd.C_drewN ?_ _) | (with_reducible refine Kd.C_drew ?_))); (case side2 => exact HC0_0.out); (case side3 => repeat (first | exact (Kd.C_below HR0_1.out HB.out) | (with_reducible refine Kd.C_alloc ?_ _) | (with_reducible refine Kd.C_drewN ?_ _) | (with_reducible refine Kd.C_drew ?_))); (case side4 => exact HC0_1.out); (case side5 => repeat (first | exact (Kd.C_below HR0_2.out HB.out) | (with_reducible refine Kd.C_alloc ?_ _) | (with_reducible refine Kd.C_drewN ?_ _) | (with_reducible refine Kd.C_drew ?_))); (case side6 => exact HC0_2.out); (case side7 => repeat (first | exact (Kd.C_below HR1.out HB.out) | (with_reducible refine Kd.C_alloc ?_ _) | (with_reducible refine Kd.C_drewN ?_ _) | (with_reducible refine Kd.C_drew ?_))); (case side8 => exact HC1.out); rintro e w28 ⟨rfl, hb⟩; have n0_ := Aside0.mk (Kd.R_below (by (with_reducible repeat (first | apply Kd.R_alloc | apply Kd.R_drewN | apply Kd.R_drew)); exact HO_11.out) hb); have n1_ := Aside0.mk (blk_below (g := gb430) (o := .cells #[.slice A0_0 l0_0.length c0_0, .slice A0_1 l0_1.length c0_1, .slice A0_2 l0_2.length c0_2] 26 (0, 0)) (by (with_reducible repeat (first | refine blk_drewN ?_ _ | refine blk_drew ?_ | refine blk_alloc ?_ _)); exact BK430.out) hb); have n2_ := Aside0.mk (below_step (by repeat (first | (with_reducible first | exact HB.out | apply below_alloc | apply pw_below_drewN | apply below_drew1 | refine below_set ?_ GE430.out) | exact HB.out)) hb); clear HO_11; clear BK430; clear HB; have HO_11 := n0_; have BK430 := n1_; have HB := n2_; clear n0_ n1_ n2_; (try clear hb); (try clear hb2); (try clear hk); (try clear hi); have p441 : 0 ≤ (x12_1 : Int) := of_decide_eq_true (by first | (with_reducible assumption) | assumption); have q441 : x12_1 < (l2.length : Int) := of_decide_eq_true (by first | (with_reducible assumption) | assumption); obtain ⟨ad441, e441, hx441_0, hx441_1, hx441_2, hx441_3, hx441_4⟩ := at_T58 HR2.out x12_1 p441 q441; cases e441; replace hx441_0 := (HB.out.cell (World.block_lt_of_cell? w _ hx441_0)).trans hx441_0; replace hx441_1 := (HB.out.cell (World.block_lt_of_cell? w _ hx441_1)).trans hx441_1; replace hx441_2 := (HB.out.cell (World.block_lt_of_cell? w _ hx441_2)).trans hx441_2; replace hx441_3 := (HB.out.cell (World.block_lt_of_cell? w _ hx441_3)).trans hx441_3; replace hx441_4 := (HB.out.cell (World.block_lt_of_cell? w _ hx441_4)).trans hx441_4; replace p441 := eq_true p441; replace q441 := eq_true q441) | ((with_reducible refine gate_builtin (b := .append) (xs := #[.tmp 61, .tmp 66]) rfl ?_); at_builtin; refine Kd.R_append k58 (w0 := w) w.heap.size rfl (.tmp 61) (.tmp 66) 48 58 (.agg #[(.int .i64 0), (.int .i64 0), (.int .i64 0), (.int .u32 0), (.int .u32 0)]) 32 rfl Try.underlying48 info58 rfl (by decide) (by omega) u11 x11_1 (⟨(rd_T58 l2 x12_1).f0, (rd_T58 l2 x12_1).f1, (rd_T58 l2 x12_1).f2, (rd_T58 l2 x12_1).f3, (rd_T58 l2 x12_1).f4⟩ : S58) [.int .i64 ((rd_T58 l2 x12_1).f0), .int .i64 ((rd_T58 l2 x12_1).f1), .int .i64 ((rd_T58 l2 x12_1).f2), .int .u32 ((rd_T58 l2 x12_1).f3), .int .u32 ((rd_T58 l2 x12_1).f4)] (fun _ => True) (fun _ => False) rfl rfl ?aP (fun _ hk => hk.elim) ?aF ?aO ?aB ?aS ?aL ?_; (case aP => exact k58_mkM _ _ _ (⟨(rd_T58 l2 x12_1).f0, (rd_T58 l2 x12_1).f1, (rd_T58 l2 x12_1).f2, (rd_T58 l2 x12_1).f3, (rd_T58 l2 x12_1).f4⟩ : S58)); (case aB => exact (by repeat (first | (with_reducible first | exact HB.out | apply below_alloc | apply pw_below_drewN | apply below_drew1 | refine below_set ?_ GE430.out) | exact HB.out))); (case aF => exact (fun _ _ => trivial)); (case aO => exact (by (with_reducible repeat (first | apply Kd.R_alloc | apply Kd.R_drewN | apply Kd.R_drew)); exact HO_11.out)); (case aS => exact (below_size (by repeat (first | (with_reducible first | exact HB.out | apply below_alloc | apply pw_below_drewN | apply below_drew1 | refine below_set ?_ GE430.out) | exact HB.out)))); (case aL => have := LMc26.out; omega); intro v443 w29 ho hb hg hat; rw [← Ny442.out] at ho; have n0_ := Aside0.mk (blk_grown (g := gb430) (o := .cells #[.slice A0_0 l0_0.length c0_0, .slice A0_1 l0_1.length c0_1, .slice A0_2 l0_2.length c0_2] 26 (0, 0)) (by (with_reducible repeat (first | refine blk_drewN ?_ _ | refine blk_drew ?_ | refine blk_alloc ?_ _)); exact BK430.out) hg (Kd.R_ne HO_11.out BK430.out (by decide))); have n1_ := Aside0.mk (hb); have n2_ := Aside0.mk (ho); clear BK430; clear HB; clear HO_11; have BK430 := n0_; have HB := n1_; have HO444 := n2_; clear n0_ n1_ n2_; clear ho hb hg hat))
                      go_roundg k1
                      case measure => have := HK1.out; omega
                      case rel => exact ⟨(y442), (wrap64 (x12_1 + 1)), (by first | rfl | (simp; done) | (simp [*]; done)), H', ⟨by have := HK1.out; omega⟩, ⟨by (with_reducible repeat (first | apply Kd.R_alloc | apply Kd.R_drewN | apply Kd.R_drew)); exact HO444.out⟩, ⟨by (with_reducible repeat (first | refine blk_drewN ?_ _ | refine blk_drew ?_ | refine blk_alloc ?_ _)); exact BK430.out⟩, ⟨by repeat (first | (with_reducible first | exact HB.out | apply below_alloc | apply pw_below_drewN | apply below_drew1 | refine below_set ?_ GE430.out) | exact HB.out)⟩⟩
                    · rw [if_neg c26] at H
                      exact absurd H (by simp)
                  · rw [if_neg c25] at H
                    exact absurd H (by simp)
                · rw [if_neg c24] at H
                  have c24b0 : (t440 == a3) = false := beq_eq_false_iff_ne.mpr c24
                  have c24b1 : (t440 != a3) = true := bne_iff_ne.mpr c24
                  have H' := Aside0.mk H
                  clear H
                  have p432 : 0 ≤ (x12_1 : Int) := of_decide_eq_true (by first | (with_reducible assumption) | assumption)
                  have q432 : x12_1 < (l1.length : Int) := of_decide_eq_true (by first | (with_reducible assumption) | assumption)
                  obtain ⟨ad432, e432, hx432_0, hx432_1, hx432_2⟩ := at_T56 HR1.out x12_1 p432 q432
                  cases e432
                  replace hx432_0 := (HB.out.cell (World.block_lt_of_cell? w _ hx432_0)).trans hx432_0
                  replace hx432_1 := (HB.out.cell (World.block_lt_of_cell? w _ hx432_1)).trans hx432_1
                  replace hx432_2 := (HB.out.cell (World.block_lt_of_cell? w _ hx432_2)).trans hx432_2
                  replace p432 := eq_true p432
                  replace q432 := eq_true q432
                  have p439 : 0 ≤ (x12_1 : Int) := of_decide_eq_true (by first | (with_reducible assumption) | assumption)
                  have q439 : x12_1 < (l1.length : Int) := of_decide_eq_true (by first | (with_reducible assumption) | assumption)
                  obtain ⟨ad439, e439, hx439_0, hx439_1, hx439_2⟩ := at_T56 HR1.out x12_1 p439 q439
                  obtain rfl : ad432 = ad439 := (by injection e439)
                  replace hx439_0 := (HB.out.cell (World.block_lt_of_cell? w _ hx439_0)).trans hx439_0
                  replace hx439_1 := (HB.out.cell (World.block_lt_of_cell? w _ hx439_1)).trans hx439_1
                  replace hx439_2 := (HB.out.cell (World.block_lt_of_cell? w _ hx439_2)).trans hx439_2
                  replace p439 := eq_true p439
                  replace q439 := eq_true q439
                  have hcz30_0 : wr.cell? ⟨gb430, 0, none⟩ = some (.slice A0_0 l0_0.length c0_0) := (blk_cell BK430.out 0).trans rfl
                  have hcz30_1 : wr.cell? ⟨gb430, 1, none⟩ = some (.slice A0_1 l0_1.length c0_1) := (blk_cell BK430.out 1).trans rfl
                  have hcz30_2 : wr.cell? ⟨gb430, 2, none⟩ = some (.slice A0_2 l0_2.length c0_2) := (blk_cell BK430.out 2).trans rfl
                  have hfz30_0 := blk_frozen BK430.out 0
                  have hfz30_1 := blk_frozen BK430.out 1
                  have hfz30_2 := blk_frozen BK430.out 2
                  go_wp2_with (first | (go_at_call 31; (with_reducible refine (prioryref28_at.calls k1 _ _ l0_0 _ _ l0_1 _ _ l0_2 _ _ l1 x12_1 t440 _ ?side1 ?side2 ?side3 ?side4 ?side5 ?side6 ?side7 ?side8 A23.out).mono ?_); (case side1 => repeat (first | exact (Kd.C_below HR0_0.out HB.out) | (with_reducible refine Kd.C_alloc ?_ _) | (with_reducible refine Kd.C_drewN ?_ _) | (with_reducible refine Kd.C_drew ?_))); (case side2 => exact HC0_0.out); (case side3 => repeat (first | exact (Kd.C_below HR0_1.out HB.out) | (with_reducible refine Kd.C_alloc ?_ _) | (with_reducible refine Kd.C_drewN ?_ _) | (with_reducible refine Kd.C_drew ?_))); (case side4 => exact HC0_1.out); (case side5 => repeat (first | exact (Kd.C_below HR0_2.out HB.out) | (with_reducible refine Kd.C_alloc ?_ _) | (with_reducible refine Kd.C_drewN ?_ _) | (with_reducible refine Kd.C_drew ?_))); (case side6 => exact HC0_2.out); (case side7 => repeat (first | exact (Kd.C_below HR1.out HB.out) | (with_reducible refine Kd.C_alloc ?_ _) | (with_reducible refine Kd.C_drewN ?_ _) | (with_reducible refine Kd.C_drew ?_))); (case side8 => exact HC1.out); rintro e w31 ⟨rfl, hb⟩; have n0_ := Aside0.mk (Kd.R_below (by (with_reducible repeat (first | apply Kd.R_alloc | apply Kd.R_drewN | apply Kd.R_drew)); exact HO_11.out) hb); have n1_ := Aside0.mk (blk_below (g := gb430) (o := .cells #[.slice A0_0 l0_0.length c0_0, .slice A0_1 l0_1.length c0_1, .slice A0_2 l0_2.length c0_2] 26 (0, 0)) (by (with_reducible repeat (first | refine blk_drewN ?_ _ | refine blk_drew ?_ | refine blk_alloc ?_ _)); exact BK430.out) hb); have n2_ := Aside0.mk (below_step (by repeat (first | (with_reducible first | exact HB.out | apply below_alloc | apply pw_below_drewN | apply below_drew1 | refine below_set ?_ GE430.out) | exact HB.out)) hb); clear HO_11; clear BK430; clear HB; have HO_11 := n0_; have BK430 := n1_; have HB := n2_; clear n0_ n1_ n2_; (try clear hb); (try clear hb2); (try clear hk); (try clear hi)))
                  go_roundg k1
                  case measure => have := HK1.out; omega
                  case rel => exact ⟨(x11_1), (wrap64 (x12_1 + 1)), (by first | rfl | (simp; done) | (simp [*]; done)), H', ⟨by have := HK1.out; omega⟩, ⟨by (with_reducible repeat (first | apply Kd.R_alloc | apply Kd.R_drewN | apply Kd.R_drew)); exact HO_11.out⟩, ⟨by (with_reducible repeat (first | refine blk_drewN ?_ _ | refine blk_drew ?_ | refine blk_alloc ?_ _)); exact BK430.out⟩, ⟨by repeat (first | (with_reducible first | exact HB.out | apply below_alloc | apply pw_below_drewN | apply below_drew1 | refine below_set ?_ GE430.out) | exact HB.out)⟩⟩
            · rw [if_neg c12] at H
              exact absurd H (by simp)
          · rw [if_neg c11] at H
            have c11b0 : decide (x12_1 < (l1.length : Int)) = false := decide_eq_false c11
            clear c11
            simp only [Option.some.injEq, Prod.mk.injEq] at H
            obtain ⟨rfl, rfl⟩ := H
            go_wp2
            go_ret2
            exact ⟨_, by first | rfl | (simp [errW_none, errW_some] <;> rfl) | (simp [*, errW_none, errW_some] <;> rfl), by (with_reducible repeat (first | apply Kd.R_alloc | apply Kd.R_drewN | apply Kd.R_drew)); exact HO_11.out, by repeat (first | (with_reducible first | exact HB.out | apply below_alloc | apply pw_below_drewN | apply below_drew1 | refine below_set ?_ GE430.out) | exact HB.out)⟩
    · rw [if_neg c7] at H
      have c7b0 : ((l1.length : Int) == (l2.length : Int)) = false := beq_eq_false_iff_ne.mpr c7
      have c7b1 : ((l1.length : Int) != (l2.length : Int)) = true := bne_iff_ne.mpr c7
      have c7b2 : (l1.length == l2.length) = false := by first | simpa using c7 | (simp at c7 ⊢; omega)
      simp only [Option.some.injEq, Prod.mk.injEq] at H
      obtain ⟨rfl, rfl⟩ := H
      go_enter Try.func24, Try.ntmps24
      go_wp2_with (first | ((with_reducible refine gate_dst (N := 4) rfl ?_); refine box_event ?hg (N := 4) ?hd (cs := #[.slice A0_0 l0_0.length c0_0, .slice A0_1 l0_1.length c0_1, .slice A0_2 l0_2.length c0_2]) (t := 26) ?hr ?_; (case hd => rfl); (case hg => rfl); (case hr => first | (go_simp; done) | (go_simp; rfl)); intro gb430 hg w32 hbox hb; have n0_ := Aside0.mk (below_step (by repeat (first | (with_reducible first | exact HB.out | apply below_alloc | apply pw_below_drewN | apply below_drew1) | exact HB.out)) hb); have n1_ := Aside0.mk (hbox); have n2_ := Aside0.mk ((by rw [hg]; exact (below_size (by repeat (first | (with_reducible first | exact HB.out | apply below_alloc | apply pw_below_drewN | apply below_drew1) | exact HB.out))) : w.heap.size ≤ gb430)); have n3_ := Aside0.mk ((by rw [hg]; exact (below_size (by repeat (first | (with_reducible first | exact HB.out | apply below_alloc | apply pw_below_drewN | apply below_drew1) | exact HB.out))) : w.heap.size ≤ gb430)); clear HB; have HB := n0_; have BK430 := n1_; have GW430 := n2_; have GE430 := n3_; clear n0_ n1_ n2_ n3_; clear hb hbox hg; have hcz33_0 : w32.cell? ⟨gb430, 0, none⟩ = some (.slice A0_0 l0_0.length c0_0) := (blk_cell BK430.out 0).trans rfl; have hcz33_1 : w32.cell? ⟨gb430, 1, none⟩ = some (.slice A0_1 l0_1.length c0_1) := (blk_cell BK430.out 1).trans rfl; have hcz33_2 : w32.cell? ⟨gb430, 2, none⟩ = some (.slice A0_2 l0_2.length c0_2) := (blk_cell BK430.out 2).trans rfl; have hfz33_0 := blk_frozen BK430.out 0; have hfz33_1 := blk_frozen BK430.out 1; have hfz33_2 := blk_frozen BK430.out 2) | ((with_reducible refine gate_callee (f := 30) rfl ?_); refine goesL_ (some 15) rfl rfl Try.func30 (by kernel_rfl) rfl #[.agg #[.slice A0_0 l0_0.length c0_0, .slice A0_1 l0_1.length c0_1, .slice A0_2 l0_2.length c0_2], .int .i64 a3] rfl (by (try simp only [List.map_toArray, List.map_cons, List.map_nil]); first | done | rfl | (simp only [List.length_drop, List.length_take]; rfl)) ?_; (with_reducible refine (prioryref28_asked.calls k _ _ l0_0 _ _ l0_1 _ _ l0_2 a3 t431 _ ?side1 ?side2 ?side3 ?side4 ?side5 ?side6 A5.out).mono ?_); (case side1 => repeat (first | exact (Kd.C_below HR0_0.out HB.out) | (with_reducible refine Kd.C_alloc ?_ _) | (with_reducible refine Kd.C_drewN ?_ _) | (with_reducible refine Kd.C_drew ?_))); (case side2 => exact HC0_0.out); (case side3 => repeat (first | exact (Kd.C_below HR0_1.out HB.out) | (with_reducible refine Kd.C_alloc ?_ _) | (with_reducible refine Kd.C_drewN ?_ _) | (with_reducible refine Kd.C_drew ?_))); (case side4 => exact HC0_1.out); (case side5 => repeat (first | exact (Kd.C_below HR0_2.out HB.out) | (with_reducible refine Kd.C_alloc ?_ _) | (with_reducible refine Kd.C_drewN ?_ _) | (with_reducible refine Kd.C_drew ?_))); (case side6 => exact HC0_2.out); rintro e w34 ⟨rfl, hb⟩; refine ⟨_, rfl, ?_⟩; have n0_ := Aside0.mk (blk_below (g := gb430) (o := .cells #[.slice A0_0 l0_0.length c0_0, .slice A0_1 l0_1.length c0_1, .slice A0_2 l0_2.length c0_2] 26 (0, 0)) (by (with_reducible repeat (first | refine blk_drewN ?_ _ | refine blk_drew ?_ | refine blk_alloc ?_ _)); exact BK430.out) hb); have n1_ := Aside0.mk (below_step (by repeat (first | (with_reducible first | exact HB.out | apply below_alloc | apply pw_below_drewN | apply below_drew1 | refine below_set ?_ GE430.out) | exact HB.out)) hb); clear BK430; clear HB; have BK430 := n0_; have HB := n1_; clear n0_ n1_; (try clear hb); (try clear hb2); (try clear hk); (try clear hi)))
      go_ret2
      exact ⟨_, by first | rfl | (simp [errW_none, errW_some] <;> rfl) | (simp [*, errW_none, errW_some] <;> rfl), by first | exact Kd.R_nil _ _ _ _ _ | exact Kd.N_nil _ _ _ _ _ | exact Kd.V_nil _ _ _ _ _ | exact Kd.Q_nil _ _ _ _ _ | exact Kd.S_nil _ _ _ _ _, by repeat (first | (with_reducible first | exact HB.out | apply below_alloc | apply pw_below_drewN | apply below_drew1 | refine below_set ?_ GE430.out) | exact HB.out)⟩
  · rw [if_neg c6] at H
    have c6b0 : (t431 == 0) = false := beq_eq_false_iff_ne.mpr c6
    have c6b1 : (t431 != 0) = true := bne_iff_ne.mpr c6
    simp only [Option.some.injEq, Prod.mk.injEq] at H
    obtain ⟨rfl, rfl⟩ := H
    go_enter Try.func24, Try.ntmps24
    go_wp2_with (first | ((with_reducible refine gate_dst (N := 4) rfl ?_); refine box_event ?hg (N := 4) ?hd (cs := #[.slice A0_0 l0_0.length c0_0, .slice A0_1 l0_1.length c0_1, .slice A0_2 l0_2.length c0_2]) (t := 26) ?hr ?_; (case hd => rfl); (case hg => rfl); (case hr => first | (go_simp; done) | (go_simp; rfl)); intro gb430 hg w35 hbox hb; have n0_ := Aside0.mk (below_step (by repeat (first | (with_reducible first | exact HB.out | apply below_alloc | apply pw_below_drewN | apply below_drew1) | exact HB.out)) hb); have n1_ := Aside0.mk (hbox); have n2_ := Aside0.mk ((by rw [hg]; exact (below_size (by repeat (first | (with_reducible first | exact HB.out | apply below_alloc | apply pw_below_drewN | apply below_drew1) | exact HB.out))) : w.heap.size ≤ gb430)); have n3_ := Aside0.mk ((by rw [hg]; exact (below_size (by repeat (first | (with_reducible first | exact HB.out | apply below_alloc | apply pw_below_drewN | apply below_drew1) | exact HB.out))) : w.heap.size ≤ gb430)); clear HB; have HB := n0_; have BK430 := n1_; have GW430 := n2_; have GE430 := n3_; clear n0_ n1_ n2_ n3_; clear hb hbox hg; have hcz36_0 : w35.cell? ⟨gb430, 0, none⟩ = some (.slice A0_0 l0_0.length c0_0) := (blk_cell BK430.out 0).trans rfl; have hcz36_1 : w35.cell? ⟨gb430, 1, none⟩ = some (.slice A0_1 l0_1.length c0_1) := (blk_cell BK430.out 1).trans rfl; have hcz36_2 : w35.cell? ⟨gb430, 2, none⟩ = some (.slice A0_2 l0_2.length c0_2) := (blk_cell BK430.out 2).trans rfl; have hfz36_0 := blk_frozen BK430.out 0; have hfz36_1 := blk_frozen BK430.out 1; have hfz36_2 := blk_frozen BK430.out 2) | ((with_reducible refine gate_callee (f := 30) rfl ?_); refine goesL_ (some 15) rfl rfl Try.func30 (by kernel_rfl) rfl #[.agg #[.slice A0_0 l0_0.length c0_0, .slice A0_1 l0_1.length c0_1, .slice A0_2 l0_2.length c0_2], .int .i64 a3] rfl (by (try simp only [List.map_toArray, List.map_cons, List.map_nil]); first | done | rfl | (simp only [List.length_drop, List.length_take]; rfl)) ?_; (with_reducible refine (prioryref28_asked.calls k _ _ l0_0 _ _ l0_1 _ _ l0_2 a3 t431 _ ?side1 ?side2 ?side3 ?side4 ?side5 ?side6 A5.out).mono ?_); (case side1 => repeat (first | exact (Kd.C_below HR0_0.out HB.out) | (with_reducible refine Kd.C_alloc ?_ _) | (with_reducible refine Kd.C_drewN ?_ _) | (with_reducible refine Kd.C_drew ?_))); (case side2 => exact HC0_0.out); (case side3 => repeat (first | exact (Kd.C_below HR0_1.out HB.out) | (with_reducible refine Kd.C_alloc ?_ _) | (with_reducible refine Kd.C_drewN ?_ _) | (with_reducible refine Kd.C_drew ?_))); (case side4 => exact HC0_1.out); (case side5 => repeat (first | exact (Kd.C_below HR0_2.out HB.out) | (with_reducible refine Kd.C_alloc ?_ _) | (with_reducible refine Kd.C_drewN ?_ _) | (with_reducible refine Kd.C_drew ?_))); (case side6 => exact HC0_2.out); rintro e w37 ⟨rfl, hb⟩; refine ⟨_, rfl, ?_⟩; have n0_ := Aside0.mk (blk_below (g := gb430) (o := .cells #[.slice A0_0 l0_0.length c0_0, .slice A0_1 l0_1.length c0_1, .slice A0_2 l0_2.length c0_2] 26 (0, 0)) (by (with_reducible repeat (first | refine blk_drewN ?_ _ | refine blk_drew ?_ | refine blk_alloc ?_ _)); exact BK430.out) hb); have n1_ := Aside0.mk (below_step (by repeat (first | (with_reducible first | exact HB.out | apply below_alloc | apply pw_below_drewN | apply below_drew1 | refine below_set ?_ GE430.out) | exact HB.out)) hb); clear BK430; clear HB; have BK430 := n0_; have HB := n1_; clear n0_ n1_; (try clear hb); (try clear hb2); (try clear hk); (try clear hi)))
    go_ret2
    exact ⟨_, by first | rfl | (simp [errW_none, errW_some] <;> rfl) | (simp [*, errW_none, errW_some] <;> rfl), by first | exact Kd.R_nil _ _ _ _ _ | exact Kd.N_nil _ _ _ _ _ | exact Kd.V_nil _ _ _ _ _ | exact Kd.Q_nil _ _ _ _ _ | exact Kd.S_nil _ _ _ _ _, by repeat (first | (with_reducible first | exact HB.out | apply below_alloc | apply pw_below_drewN | apply below_drew1 | refine below_set ?_ GE430.out) | exact HB.out)⟩
end Go.Proofs.Ytfmpabdaadllaaa.PAll

/-
  The document's View.
-/
namespace Go.Proofs.Ytfmpabdaadllaaa.PAll
open Go.RowKit Go.Proofs.YtfmpabdaadllaaaW.PrintWords Go.Proofs.YtfmpabdaadllaaaW.PrintLast
set_option linter.unusedVariables false
set_option linter.unusedSimpArgs false
theorem viewB_val {W : List S75} (h : WOk W) {l : List S56} {part : Int} (hp : 0 ≤ part) {i : Nat} : viewB W l part i = if (l.getD i z56).f0 = 1 then decide (partS W (tkN l (i + 1)) = part) else decide (partS W (tkN l i) = part) := by
  have hv := falls_val h l i
  have hd : ∀ x : Int, (x == part) = decide (x = part) := fun x => by
    cases hq : (x == part) with
    | true => exact (decide_eq_true (beq_iff_eq.1 hq)).symm
    | false => exact (decide_eq_false (beq_eq_false_iff_ne.1 hq)).symm
  unfold viewB behE
  by_cases e : (l.getD i z56).f0 = 1
  · have h1 : ((-1 : Int) == part) = false := beq_eq_false_iff_ne.2 (by omega)
    rw [if_pos e, hv.1.2 e, h1, hd]; rfl
  · have h1 : (fallsE W l i == -1) = false := beq_eq_false_iff_ne.2 (fun h => e (hv.1.1 h))
    rw [if_neg e, h1, hv.2 e, hd, Bool.false_and, Bool.or_false]
set_option maxRecDepth 100000 in
theorem rview_l0 (P : List S73) (W : List S75) (C : List S46) (he : chkE P W C = 0) (part : Int) (hp : 0 ≤ part) (l : List S56) (os : List S58) (hlo : l.length = os.length) (hl : l.length ≤ 1000) : ∀ (d j k : Nat), j + d = l.length → d + 12000 < k → prioryref28_View.l0 k l os part (viewL (viewB W l part) os j) (j : Int) P W C = some (viewL (viewB W l part) os l.length, 0)
  | 0, j, k, hd, hk => by
    obtain ⟨k, rfl⟩ : ∃ k', k = k' + 1 := ⟨k - 1, by omega⟩
    rw [prioryref28_View.l0, if_neg (by omega), show j = l.length by omega]
  | d + 1, j, k, hd, hk => by
    obtain ⟨k, rfl⟩ : ∃ k', k = k' + 1 := ⟨k - 1, by omega⟩
    have ih := rview_l0 P W C he part hp l os hlo hl d (j + 1) k (by omega) (by omega)
    have hlen := viewL_len (viewB W l part) os j
    obtain ⟨N, hN⟩ : ∃ N, N = 4398046511104 := ⟨_, rfl⟩
    have hxN : (viewL (viewB W l part) os j).length < N := by omega
    have hvb := viewB_val (chkE_ok he).wok (l := l) (part := part) hp (i := j)
    rw [show viewL (viewB W l part) os (j + 1) = viewL (viewB W l part) os j ++ if viewB W l part j = true then [os.getD j z58] else [] from rfl, hvb] at ih
    rw [prioryref28_View.l0, ← hN, if_pos (by omega), if_pos (by omega), rd56, rd58, succ_w (by omega), at_f P W C he l j (by omega) (by omega) k (by omega), at_f P W C he l (j + 1) (by omega) (by omega) k (by omega)]
    simp only [Option.bind_some]
    rw [if_pos (show (j : Int) < (os.length : Int) by omega), if_pos hxN]
    by_cases e : (l.getD j z56).f0 = 1
    · rw [if_pos e] at ih ⊢
      by_cases e2 : partS W (tkN l (j + 1)) = part
      · rw [decide_eq_true e2, if_pos rfl] at ih
        rw [if_pos e2]; exact ih
      · rw [decide_eq_false e2, if_neg (by decide), List.append_nil] at ih
        rw [if_neg e2]; exact ih
    · rw [if_neg e] at ih ⊢
      by_cases e2 : partS W (tkN l j) = part
      · rw [decide_eq_true e2, if_pos rfl] at ih
        rw [if_pos e2]; exact ih
      · rw [decide_eq_false e2, if_neg (by decide), List.append_nil] at ih
        rw [if_neg e2]; exact ih
theorem rview_f (P : List S73) (W : List S75) (C : List S46) (l : List S56) (os : List S58) (part : Int) (hl : l.length ≤ 1000) (k : Nat) (hk : 20000 ≤ k) : prioryref28_View.f k P W C l os part = some (viewE P W C l os part, viewR P W C l os part) := by
  unfold prioryref28_View.f viewE viewR
  rw [asked_f P W C part k (by omega)]
  simp only [Option.bind_some]
  by_cases h : begE P W C part = 0
  · rw [if_pos h, if_pos h, if_pos h]
    by_cases h2 : l.length = os.length
    · rw [if_pos (by omega), if_pos h2, if_pos h2]
      exact rview_l0 P W C (begE_chk h).1 part (begE_chk h).2.1 l os h2 hl l.length 0 k (by omega) (by omega)
    · rw [if_neg (by omega), if_neg h2, if_neg h2]
  · rw [if_neg h, if_neg h, if_neg h]
end Go.Proofs.Ytfmpabdaadllaaa.PAll

namespace Go.Proofs.Ytfmpabdaadllaaa.PAll
open Go.RowKit Go.Proofs.YtfmpabdaadllaaaW.PrintWords Go.Proofs.YtfmpabdaadllaaaW.PrintLast
set_option linter.unusedVariables false
set_option linter.unusedSimpArgs false
/-! ### priorylaw28_WatchView: function 7 -/
def priorylaw28_WatchView.j0 : Nat → List (S56) → List (S58) → Int → Bool → List (S73) → List (S75) → List (S46) → Option (Bool)
  | 0, _, _, _, _, _, _, _ => none
  | k + 1, x1, x2, x3, x20, x448000, x448001, x448002 => if x20 = true then ((priorylaw28_awake.f k).bind fun t449 => (some t449)) else ((watch_View.f k x448000 x448001 x448002 x1 x2 x3).bind fun bt450 => ((prioryref28_View.f k x448000 x448001 x448002 x1 x2 x3).bind fun bt454 => ((prioryref27_Same.f k bt450.1 bt454.1).bind fun t458 => (if t458 = true then (if bt450.2 = bt454.2 then ((priorylaw28_awake.f k).bind fun t459 => (some t459)) else (some false)) else (some false)))))
def priorylaw28_WatchView.f (k : Nat) (l0_0 : List (S73)) (l0_1 : List (S75)) (l0_2 : List (S46)) (l1 : List (S56)) (l2 : List (S58)) (a3 : Int) : Option (Bool) := (priorylaw28_long.f l0_0 l0_1 l0_2 l1).bind fun t448 => (if t448 = true then (priorylaw28_WatchView.j0 k l1 l2 a3 true l0_0 l0_1 l0_2) else (priorylaw28_WatchView.j0 k l1 l2 a3 (decide ((l2.length : Int) > 200)) l0_0 l0_1 l0_2))
theorem priorylaw28_WatchView.mono_l : ∀ k, (∀ y0 y1 y2 y3 y4 y5 y6, LeO (priorylaw28_WatchView.j0 k y0 y1 y2 y3 y4 y5 y6) (priorylaw28_WatchView.j0 (k + 1) y0 y1 y2 y3 y4 y5 y6))
  | 0 => fun _ _ _ _ _ _ _ r h => by simp [priorylaw28_WatchView.j0] at h
  | k + 1 => by
    have ih0 := priorylaw28_WatchView.mono_l k
    · intro y0 y1 y2 y3 y4 y5 y6
      unfold priorylaw28_WatchView.j0
      repeat' first
      | (with_reducible exact ih0 _ _ _ _ _ _ _)
      | (with_reducible exact priorylaw28_awake.mono _)
      | (with_reducible exact prioryref27_Same.mono _ _ _)
      | (with_reducible exact prioryref28_View.mono _ _ _ _ _ _ _)
      | (with_reducible exact watch_View.mono _ _ _ _ _ _ _)
      | (with_reducible exact LeO.refl _)
      | (with_reducible exact LeO.none _)
      | (with_reducible refine LeO.ite ?_ ?_)
      | (with_reducible refine LeO.bind ?_ (fun _ => ?_))
      | exact ih0 _ _ _ _ _ _ _
      | exact priorylaw28_awake.mono _
      | exact prioryref27_Same.mono _ _ _
      | exact prioryref28_View.mono _ _ _ _ _ _ _
      | exact watch_View.mono _ _ _ _ _ _ _
      | exact LeO.none _
      | refine LeO.ite ?_ ?_
      | refine LeO.bind ?_ (fun _ => ?_)
theorem priorylaw28_WatchView.mono : ∀ a0 a1 a2 a3 a4 a5 k, LeO (priorylaw28_WatchView.f k a0 a1 a2 a3 a4 a5) (priorylaw28_WatchView.f (k + 1) a0 a1 a2 a3 a4 a5) := by
  intro a0 a1 a2 a3 a4 a5 k
  have ih0 := priorylaw28_WatchView.mono_l k
  unfold priorylaw28_WatchView.f
  repeat' first
      | (with_reducible exact ih0 _ _ _ _ _ _ _)
      | (with_reducible exact priorylaw28_awake.mono _)
      | (with_reducible exact prioryref27_Same.mono _ _ _)
      | (with_reducible exact prioryref28_View.mono _ _ _ _ _ _ _)
      | (with_reducible exact watch_View.mono _ _ _ _ _ _ _)
      | (with_reducible exact LeO.refl _)
      | (with_reducible exact LeO.none _)
      | (with_reducible refine LeO.ite ?_ ?_)
      | (with_reducible refine LeO.bind ?_ (fun _ => ?_))
      | exact ih0 _ _ _ _ _ _ _
      | exact priorylaw28_awake.mono _
      | exact prioryref27_Same.mono _ _ _
      | exact prioryref28_View.mono _ _ _ _ _ _ _
      | exact watch_View.mono _ _ _ _ _ _ _
      | exact LeO.none _
      | refine LeO.ite ?_ ?_
      | refine LeO.bind ?_ (fun _ => ?_)
set_option maxHeartbeats 8000000 in
set_option maxRecDepth 100000 in
theorem priorylaw28_WatchView.calls (k : Nat) (A0_0 : Option Addr) (c0_0 : Nat) (l0_0 : List (S73)) (A0_1 : Option Addr) (c0_1 : Nat) (l0_1 : List (S75)) (A0_2 : Option Addr) (c0_2 : Nat) (l0_2 : List (S46)) (A1 : Option Addr) (c1 : Nat) (l1 : List (S56)) (A2 : Option Addr) (c2 : Nat) (l2 : List (S58)) (a3 : Int) (r : Bool) (w : World) (hr0_0 : Kd.C k73 w A0_0 l0_0.length l0_0) (hc0_0 : l0_0.length ≤ c0_0) (hr0_1 : Kd.C k75 w A0_1 l0_1.length l0_1) (hc0_1 : l0_1.length ≤ c0_1) (hr0_2 : Kd.C k46 w A0_2 l0_2.length l0_2) (hc0_2 : l0_2.length ≤ c0_2) (hr1 : Kd.C k56 w A1 l1.length l1) (hc1 : l1.length ≤ c1) (hr2 : Kd.C k58 w A2 l2.length l2) (hc2 : l2.length ≤ c2) (h : priorylaw28_WatchView.f k l0_0 l0_1 l0_2 l1 l2 a3 = some r) :
    Calls Try.prog 7 #[.agg #[.slice A0_0 l0_0.length c0_0, .slice A0_1 l0_1.length c0_1, .slice A0_2 l0_2.length c0_2], .slice A1 l1.length c1, .slice A2 l2.length c2, .int .i64 a3] w fun e w' => e = .returned (.bool r) ∧ Below w.heap.size w w' := by
  have hu26 := Try.underlying26
  have HR0_0 := Aside0.mk hr0_0
  have HC0_0 := Aside0.mk hc0_0
  clear hr0_0 hc0_0
  have HR0_1 := Aside0.mk hr0_1
  have HC0_1 := Aside0.mk hc0_1
  clear hr0_1 hc0_1
  have HR0_2 := Aside0.mk hr0_2
  have HC0_2 := Aside0.mk hc0_2
  clear hr0_2 hc0_2
  have HR1 := Aside0.mk hr1
  have HC1 := Aside0.mk hc1
  clear hr1 hc1
  have HR2 := Aside0.mk hr2
  have HC2 := Aside0.mk hc2
  clear hr2 hc2
  have HB := Aside0.mk (Below.refl w.heap.size w)
  have H : ((priorylaw28_long.f l0_0 l0_1 l0_2 l1).bind fun t448 => (if t448 = true then (priorylaw28_WatchView.j0 k l1 l2 a3 true l0_0 l0_1 l0_2) else (priorylaw28_WatchView.j0 k l1 l2 a3 (decide ((l2.length : Int) > 200)) l0_0 l0_1 l0_2))) = some r := h
  clear h
  have HC5 := Aside0.mk H
  clear H
  go_enter Try.func7, Try.ntmps7
  go_upto_region 1 with (first | ((with_reducible refine gate_dst (N := 4) rfl ?_); (try (refine gate_guard (by rfl) ?_; dsimp only)); refine box_event ?hg (N := 4) ?hd (cs := #[.slice A0_0 l0_0.length c0_0, .slice A0_1 l0_1.length c0_1, .slice A0_2 l0_2.length c0_2]) (t := 26) ?hr ?_; (case hd => rfl); (case hg => rfl); (case hr => first | (go_simp; done) | (go_simp; rfl)); intro gb447 hg w6 hbox hb; have n0_ := Aside0.mk (below_step (by repeat (first | (with_reducible first | exact HB.out | apply below_alloc | apply pw_below_drewN | apply below_drew1) | exact HB.out)) hb); have n1_ := Aside0.mk (hbox); have n2_ := Aside0.mk ((by rw [hg]; exact (below_size (by repeat (first | (with_reducible first | exact HB.out | apply below_alloc | apply pw_below_drewN | apply below_drew1) | exact HB.out))) : w.heap.size ≤ gb447)); have n3_ := Aside0.mk ((by rw [hg]; exact (below_size (by repeat (first | (with_reducible first | exact HB.out | apply below_alloc | apply pw_below_drewN | apply below_drew1) | exact HB.out))) : w.heap.size ≤ gb447)); clear HB; have HB := n0_; have BK447 := n1_; have GW447 := n2_; have GE447 := n3_; clear n0_ n1_ n2_ n3_; clear hb hbox hg))
  (try simp only [Act.put, List.setIfInBounds_toArray, List.set_cons_zero, List.set_cons_succ])
  go_cut [20] (fun v20 wc => ∃ (kq : Nat) (x20_4 : Bool), v20 = .bool x20_4 ∧ Aside0 (priorylaw28_WatchView.j0 kq l1 l2 a3 x20_4 l0_0 l0_1 l0_2 = some r) ∧ Aside0 (kq ≤ k) ∧ Aside0 (wc.heap[gb447]? = some (.cells #[(.slice A0_0 l0_0.length c0_0), (.slice A0_1 l0_1.length c0_1), (.slice A0_2 l0_2.length c0_2)] 26 (0, 0))) ∧ Aside0 (Below w.heap.size w wc))
  case first =>
    have H := HC5.out
    clear HC5
    replace H := Option.bind_eq_some_iff.mp H
    obtain ⟨t448, A70, H⟩ := H
    replace H : (if t448 = true then (priorylaw28_WatchView.j0 k l1 l2 a3 true l0_0 l0_1 l0_2) else (priorylaw28_WatchView.j0 k l1 l2 a3 (decide ((l2.length : Int) > 200)) l0_0 l0_1 l0_2)) = some r := H
    have A7 := Aside0.mk A70
    clear A70
    by_cases c8 : t448 = true
    · subst c8
      have H1 : (priorylaw28_WatchView.j0 k l1 l2 a3 true l0_0 l0_1 l0_2) = some r := by rw [if_pos rfl] at H; exact H
      clear H
      have H := H1
      clear H1
      have H' := Aside0.mk H
      clear H
      have hcz9_0 : w6.cell? ⟨gb447, 0, none⟩ = some (.slice A0_0 l0_0.length c0_0) := (blk_cell BK447.out 0).trans rfl
      have hcz9_1 : w6.cell? ⟨gb447, 1, none⟩ = some (.slice A0_1 l0_1.length c0_1) := (blk_cell BK447.out 1).trans rfl
      have hcz9_2 : w6.cell? ⟨gb447, 2, none⟩ = some (.slice A0_2 l0_2.length c0_2) := (blk_cell BK447.out 2).trans rfl
      have hfz9_0 := blk_frozen BK447.out 0
      have hfz9_1 := blk_frozen BK447.out 1
      have hfz9_2 := blk_frozen BK447.out 2
      go_wp2_with (first | ((with_reducible refine gate_callee (f := 10) rfl ?_); refine goesL_ (some 15) rfl rfl Try.func10 (by kernel_rfl) rfl #[.agg #[.slice A0_0 l0_0.length c0_0, .slice A0_1 l0_1.length c0_1, .slice A0_2 l0_2.length c0_2], .slice A1 l1.length c1] rfl (by (try simp only [List.map_toArray, List.map_cons, List.map_nil]); first | done | rfl | (simp only [List.length_drop, List.length_take]; rfl)) ?_; (with_reducible refine (priorylaw28_long.calls _ _ l0_0 _ _ l0_1 _ _ l0_2 _ _ l1 true _ ?side1 ?side2 ?side3 ?side4 ?side5 ?side6 ?side7 ?side8 A7.out).mono ?_); (case side1 => repeat (first | exact (Kd.C_below HR0_0.out HB.out) | (with_reducible refine Kd.C_alloc ?_ _) | (with_reducible refine Kd.C_drewN ?_ _) | (with_reducible refine Kd.C_drew ?_))); (case side2 => exact HC0_0.out); (case side3 => repeat (first | exact (Kd.C_below HR0_1.out HB.out) | (with_reducible refine Kd.C_alloc ?_ _) | (with_reducible refine Kd.C_drewN ?_ _) | (with_reducible refine Kd.C_drew ?_))); (case side4 => exact HC0_1.out); (case side5 => repeat (first | exact (Kd.C_below HR0_2.out HB.out) | (with_reducible refine Kd.C_alloc ?_ _) | (with_reducible refine Kd.C_drewN ?_ _) | (with_reducible refine Kd.C_drew ?_))); (case side6 => exact HC0_2.out); (case side7 => repeat (first | exact (Kd.C_below HR1.out HB.out) | (with_reducible refine Kd.C_alloc ?_ _) | (with_reducible refine Kd.C_drewN ?_ _) | (with_reducible refine Kd.C_drew ?_))); (case side8 => exact HC1.out); rintro e w10 ⟨rfl, hb⟩; refine ⟨_, rfl, ?_⟩; have n0_ := Aside0.mk (blk_below (g := gb447) (o := .cells #[.slice A0_0 l0_0.length c0_0, .slice A0_1 l0_1.length c0_1, .slice A0_2 l0_2.length c0_2] 26 (0, 0)) (by (with_reducible repeat (first | refine blk_drewN ?_ _ | refine blk_drew ?_ | refine blk_alloc ?_ _)); exact BK447.out) hb); have n1_ := Aside0.mk (below_step (by repeat (first | (with_reducible first | exact HB.out | apply below_alloc | apply pw_below_drewN | apply below_drew1 | refine below_set ?_ GE447.out) | exact HB.out)) hb); clear BK447; clear HB; have BK447 := n0_; have HB := n1_; clear n0_ n1_; (try clear hb); (try clear hb2); (try clear hk); (try clear hi)))
      go_meet
      case rel => exact ⟨_, (true), (by first | rfl | (simp; done) | (simp [*]; done)), H', ⟨by first | omega | exact Nat.le_refl _⟩, ⟨by (with_reducible repeat (first | refine blk_drewN ?_ _ | refine blk_drew ?_ | refine blk_alloc ?_ _)); exact BK447.out⟩, ⟨by repeat (first | (with_reducible first | exact HB.out | apply below_alloc | apply pw_below_drewN | apply below_drew1 | refine below_set ?_ GE447.out) | exact HB.out)⟩⟩
    · replace c8 := Bool.eq_false_iff.mpr c8
      subst c8
      have H1 : (priorylaw28_WatchView.j0 k l1 l2 a3 (decide ((l2.length : Int) > 200)) l0_0 l0_1 l0_2) = some r := by rw [if_neg (show ¬ (false = true) by decide)] at H; exact H
      clear H
      have H := H1
      clear H1
      have H' := Aside0.mk H
      clear H
      have hcz11_0 : w6.cell? ⟨gb447, 0, none⟩ = some (.slice A0_0 l0_0.length c0_0) := (blk_cell BK447.out 0).trans rfl
      have hcz11_1 : w6.cell? ⟨gb447, 1, none⟩ = some (.slice A0_1 l0_1.length c0_1) := (blk_cell BK447.out 1).trans rfl
      have hcz11_2 : w6.cell? ⟨gb447, 2, none⟩ = some (.slice A0_2 l0_2.length c0_2) := (blk_cell BK447.out 2).trans rfl
      have hfz11_0 := blk_frozen BK447.out 0
      have hfz11_1 := blk_frozen BK447.out 1
      have hfz11_2 := blk_frozen BK447.out 2
      go_wp2_with (first | ((with_reducible refine gate_callee (f := 10) rfl ?_); refine goesL_ (some 15) rfl rfl Try.func10 (by kernel_rfl) rfl #[.agg #[.slice A0_0 l0_0.length c0_0, .slice A0_1 l0_1.length c0_1, .slice A0_2 l0_2.length c0_2], .slice A1 l1.length c1] rfl (by (try simp only [List.map_toArray, List.map_cons, List.map_nil]); first | done | rfl | (simp only [List.length_drop, List.length_take]; rfl)) ?_; (with_reducible refine (priorylaw28_long.calls _ _ l0_0 _ _ l0_1 _ _ l0_2 _ _ l1 false _ ?side1 ?side2 ?side3 ?side4 ?side5 ?side6 ?side7 ?side8 A7.out).mono ?_); (case side1 => repeat (first | exact (Kd.C_below HR0_0.out HB.out) | (with_reducible refine Kd.C_alloc ?_ _) | (with_reducible refine Kd.C_drewN ?_ _) | (with_reducible refine Kd.C_drew ?_))); (case side2 => exact HC0_0.out); (case side3 => repeat (first | exact (Kd.C_below HR0_1.out HB.out) | (with_reducible refine Kd.C_alloc ?_ _) | (with_reducible refine Kd.C_drewN ?_ _) | (with_reducible refine Kd.C_drew ?_))); (case side4 => exact HC0_1.out); (case side5 => repeat (first | exact (Kd.C_below HR0_2.out HB.out) | (with_reducible refine Kd.C_alloc ?_ _) | (with_reducible refine Kd.C_drewN ?_ _) | (with_reducible refine Kd.C_drew ?_))); (case side6 => exact HC0_2.out); (case side7 => repeat (first | exact (Kd.C_below HR1.out HB.out) | (with_reducible refine Kd.C_alloc ?_ _) | (with_reducible refine Kd.C_drewN ?_ _) | (with_reducible refine Kd.C_drew ?_))); (case side8 => exact HC1.out); rintro e w12 ⟨rfl, hb⟩; refine ⟨_, rfl, ?_⟩; have n0_ := Aside0.mk (blk_below (g := gb447) (o := .cells #[.slice A0_0 l0_0.length c0_0, .slice A0_1 l0_1.length c0_1, .slice A0_2 l0_2.length c0_2] 26 (0, 0)) (by (with_reducible repeat (first | refine blk_drewN ?_ _ | refine blk_drew ?_ | refine blk_alloc ?_ _)); exact BK447.out) hb); have n1_ := Aside0.mk (below_step (by repeat (first | (with_reducible first | exact HB.out | apply below_alloc | apply pw_below_drewN | apply below_drew1 | refine below_set ?_ GE447.out) | exact HB.out)) hb); clear BK447; clear HB; have BK447 := n0_; have HB := n1_; clear n0_ n1_; (try clear hb); (try clear hb2); (try clear hk); (try clear hi)))
      go_meet
      case rel => exact ⟨_, (decide ((l2.length : Int) > 200)), (by first | rfl | (simp; done) | (simp [*]; done)), H', ⟨by first | omega | exact Nat.le_refl _⟩, ⟨by (with_reducible repeat (first | refine blk_drewN ?_ _ | refine blk_drew ?_ | refine blk_alloc ?_ _)); exact BK447.out⟩, ⟨by repeat (first | (with_reducible first | exact HB.out | apply below_alloc | apply pw_below_drewN | apply below_drew1 | refine below_set ?_ GE447.out) | exact HB.out)⟩⟩
  case rest =>
    clear HC5
    try clear c1
    try clear c2
    try clear p2
    try clear c7
    try clear c8
    try clear c10
    try clear hcz11_0
    try clear hcz11_1
    try clear hcz11_2
    try clear hcz9_0
    try clear hcz9_1
    try clear hcz9_2
    try clear hfz11_0
    try clear hfz11_1
    try clear hfz11_2
    try clear hfz9_0
    try clear hfz9_1
    try clear hfz9_2
    obtain ⟨kq, x20_4, rfl, HA, HJ4, BK447, HB⟩ := hcut
    cases kq with
    | zero => exact absurd HA.out (by simp [priorylaw28_WatchView.j0])
    | succ kj4 =>
      have H := HA.out
      clear HA
      simp only [priorylaw28_WatchView.j0] at H
      by_cases c13 : x20_4 = true
      · subst c13
        have H1 : ((priorylaw28_awake.f kj4).bind fun t449 => (some t449)) = some r := by rw [if_pos rfl] at H; exact H
        clear H
        have H := H1
        clear H1
        replace H := Option.bind_eq_some_iff.mp H
        obtain ⟨t449, A140, H⟩ := H
        replace H : (some t449) = some r := H
        have A14 := Aside0.mk A140
        clear A140
        obtain rfl := Option.some.inj H
        go_wp2_with (first | ((with_reducible refine gate_callee (f := 11) rfl ?_); refine goesL_ (some 21) rfl rfl Try.func11 (by kernel_rfl) rfl #[] rfl (by (try simp only [List.map_toArray, List.map_cons, List.map_nil]); first | done | rfl | (simp only [List.length_drop, List.length_take]; rfl)) ?_; (with_reducible refine (priorylaw28_awake.calls kj4  t449 _ A14.out).mono ?_); rintro e w15 ⟨rfl, hb⟩; refine ⟨_, rfl, ?_⟩; have n0_ := Aside0.mk (blk_below (g := gb447) (o := .cells #[.slice A0_0 l0_0.length c0_0, .slice A0_1 l0_1.length c0_1, .slice A0_2 l0_2.length c0_2] 26 (0, 0)) (by (with_reducible repeat (first | refine blk_drewN ?_ _ | refine blk_drew ?_ | refine blk_alloc ?_ _)); exact BK447.out) hb); have n1_ := Aside0.mk (below_step (by repeat (first | (with_reducible first | exact HB.out | apply below_alloc | apply pw_below_drewN | apply below_drew1 | refine below_set ?_ GE447.out) | exact HB.out)) hb); clear BK447; clear HB; have BK447 := n0_; have HB := n1_; clear n0_ n1_; (try clear hb); (try clear hb2); (try clear hk); (try clear hi)))
        go_ret
        exact ⟨by first | rfl | (simp [errW_none, errW_some] <;> rfl) | (simp [*, errW_none, errW_some] <;> rfl), by repeat (first | (with_reducible first | exact HB.out | apply below_alloc | apply pw_below_drewN | apply below_drew1 | refine below_set ?_ GE447.out) | exact HB.out)⟩
      · replace c13 := Bool.eq_false_iff.mpr c13
        subst c13
        have H1 : ((watch_View.f kj4 l0_0 l0_1 l0_2 l1 l2 a3).bind fun bt450 => ((prioryref28_View.f kj4 l0_0 l0_1 l0_2 l1 l2 a3).bind fun bt454 => ((prioryref27_Same.f kj4 bt450.1 bt454.1).bind fun t458 => (if t458 = true then (if bt450.2 = bt454.2 then ((priorylaw28_awake.f kj4).bind fun t459 => (some t459)) else (some false)) else (some false))))) = some r := by rw [if_neg (show ¬ (false = true) by decide)] at H; exact H
        clear H
        have H := H1
        clear H1
        replace H := Option.bind_eq_some_iff.mp H
        obtain ⟨⟨t450, t453⟩, A160, H⟩ := H
        replace H : ((prioryref28_View.f kj4 l0_0 l0_1 l0_2 l1 l2 a3).bind fun bt454 => ((prioryref27_Same.f kj4 t450 bt454.1).bind fun t458 => (if t458 = true then (if t453 = bt454.2 then ((priorylaw28_awake.f kj4).bind fun t459 => (some t459)) else (some false)) else (some false)))) = some r := H
        have A16 := Aside0.mk A160
        clear A160
        replace H := Option.bind_eq_some_iff.mp H
        obtain ⟨⟨t454, t457⟩, A170, H⟩ := H
        replace H : ((prioryref27_Same.f kj4 t450 t454).bind fun t458 => (if t458 = true then (if t453 = t457 then ((priorylaw28_awake.f kj4).bind fun t459 => (some t459)) else (some false)) else (some false))) = some r := H
        have A17 := Aside0.mk A170
        clear A170
        replace H := Option.bind_eq_some_iff.mp H
        obtain ⟨t458, A180, H⟩ := H
        replace H : (if t458 = true then (if t453 = t457 then ((priorylaw28_awake.f kj4).bind fun t459 => (some t459)) else (some false)) else (some false)) = some r := H
        have A18 := Aside0.mk A180
        clear A180
        by_cases c19 : t458 = true
        · subst c19
          have H1 : (if t453 = t457 then ((priorylaw28_awake.f kj4).bind fun t459 => (some t459)) else (some false)) = some r := by rw [if_pos rfl] at H; exact H
          clear H
          have H := H1
          clear H1
          by_cases c20 : t453 = t457
          · rw [if_pos c20] at H
            have c20b0 : (t453 == t457) = true := beq_iff_eq.mpr c20
            have c20b1 : (t453 != t457) = false := bne_eq_false_iff_eq.mpr c20
            clear c20
            replace H := Option.bind_eq_some_iff.mp H
            obtain ⟨t459, A210, H⟩ := H
            replace H : (some t459) = some r := H
            have A21 := Aside0.mk A210
            clear A210
            obtain rfl := Option.some.inj H
            have hcz22_0 : wc.cell? ⟨gb447, 0, none⟩ = some (.slice A0_0 l0_0.length c0_0) := (blk_cell BK447.out 0).trans rfl
            have hcz22_1 : wc.cell? ⟨gb447, 1, none⟩ = some (.slice A0_1 l0_1.length c0_1) := (blk_cell BK447.out 1).trans rfl
            have hcz22_2 : wc.cell? ⟨gb447, 2, none⟩ = some (.slice A0_2 l0_2.length c0_2) := (blk_cell BK447.out 2).trans rfl
            have hfz22_0 := blk_frozen BK447.out 0
            have hfz22_1 := blk_frozen BK447.out 1
            have hfz22_2 := blk_frozen BK447.out 2
            go_wp2_with (first | ((with_reducible refine gate_callee (f := 23) rfl ?_); refine goesL_ (some 27) rfl rfl Try.func23 (by kernel_rfl) rfl #[.agg #[.slice A0_0 l0_0.length c0_0, .slice A0_1 l0_1.length c0_1, .slice A0_2 l0_2.length c0_2], .slice A1 l1.length c1, .slice A2 l2.length c2, .int .i64 a3] rfl (by (try simp only [List.map_toArray, List.map_cons, List.map_nil]); first | done | rfl | (simp only [List.length_drop, List.length_take]; rfl)) ?_; (with_reducible refine (watch_View.calls kj4 _ _ l0_0 _ _ l0_1 _ _ l0_2 _ _ l1 _ _ l2 a3 t450 t453 _ ?side1 ?side2 ?side3 ?side4 ?side5 ?side6 ?side7 ?side8 ?side9 ?side10 A16.out).mono ?_); (case side1 => repeat (first | exact (Kd.C_below HR0_0.out HB.out) | (with_reducible refine Kd.C_alloc ?_ _) | (with_reducible refine Kd.C_drewN ?_ _) | (with_reducible refine Kd.C_drew ?_))); (case side2 => exact HC0_0.out); (case side3 => repeat (first | exact (Kd.C_below HR0_1.out HB.out) | (with_reducible refine Kd.C_alloc ?_ _) | (with_reducible refine Kd.C_drewN ?_ _) | (with_reducible refine Kd.C_drew ?_))); (case side4 => exact HC0_1.out); (case side5 => repeat (first | exact (Kd.C_below HR0_2.out HB.out) | (with_reducible refine Kd.C_alloc ?_ _) | (with_reducible refine Kd.C_drewN ?_ _) | (with_reducible refine Kd.C_drew ?_))); (case side6 => exact HC0_2.out); (case side7 => repeat (first | exact (Kd.C_below HR1.out HB.out) | (with_reducible refine Kd.C_alloc ?_ _) | (with_reducible refine Kd.C_drewN ?_ _) | (with_reducible refine Kd.C_drew ?_))); (case side8 => exact HC1.out); (case side9 => repeat (first | exact (Kd.C_below HR2.out HB.out) | (with_reducible refine Kd.C_alloc ?_ _) | (with_reducible refine Kd.C_drewN ?_ _) | (with_reducible refine Kd.C_drew ?_))); (case side10 => exact HC2.out); rintro e w23 ⟨v451, rfl, ho0, hb⟩; refine ⟨_, rfl, ?_⟩; have n0_ := Aside0.mk (Kd.R_lower ho0 (below_size (by repeat (first | (with_reducible first | exact HB.out | apply below_alloc | apply pw_below_drewN | apply below_drew1 | refine below_set ?_ GE447.out) | exact HB.out)))); have n1_ := Aside0.mk (blk_below (g := gb447) (o := .cells #[.slice A0_0 l0_0.length c0_0, .slice A0_1 l0_1.length c0_1, .slice A0_2 l0_2.length c0_2] 26 (0, 0)) (by (with_reducible repeat (first | refine blk_drewN ?_ _ | refine blk_drew ?_ | refine blk_alloc ?_ _)); exact BK447.out) hb); have n2_ := Aside0.mk (below_step (by repeat (first | (with_reducible first | exact HB.out | apply below_alloc | apply pw_below_drewN | apply below_drew1 | refine below_set ?_ GE447.out) | exact HB.out)) hb); clear BK447; clear HB; have HO452 := n0_; have BK447 := n1_; have HB := n2_; clear n0_ n1_ n2_; (try clear hb); (try clear hb2); (try clear hk); (try clear hi); (try clear ho0); have hcz24_0 : w23.cell? ⟨gb447, 0, none⟩ = some (.slice A0_0 l0_0.length c0_0) := (blk_cell BK447.out 0).trans rfl; have hcz24_1 : w23.cell? ⟨gb447, 1, none⟩ = some (.slice A0_1 l0_1.length c0_1) := (blk_cell BK447.out 1).trans rfl; have hcz24_2 : w23.cell? ⟨gb447, 2, none⟩ = some (.slice A0_2 l0_2.length c0_2) := (blk_cell BK447.out 2).trans rfl; have hfz24_0 := blk_frozen BK447.out 0; have hfz24_1 := blk_frozen BK447.out 1; have hfz24_2 := blk_frozen BK447.out 2) | ((with_reducible refine gate_callee (f := 24) rfl ?_); refine goesL_ (some 35) rfl rfl Try.func24 (by kernel_rfl) rfl #[.agg #[.slice A0_0 l0_0.length c0_0, .slice A0_1 l0_1.length c0_1, .slice A0_2 l0_2.length c0_2], .slice A1 l1.length c1, .slice A2 l2.length c2, .int .i64 a3] rfl (by (try simp only [List.map_toArray, List.map_cons, List.map_nil]); first | done | rfl | (simp only [List.length_drop, List.length_take]; rfl)) ?_; (with_reducible refine (prioryref28_View.calls kj4 _ _ l0_0 _ _ l0_1 _ _ l0_2 _ _ l1 _ _ l2 a3 t454 t457 _ ?side1 ?side2 ?side3 ?side4 ?side5 ?side6 ?side7 ?side8 ?side9 ?side10 A17.out).mono ?_); (case side1 => repeat (first | exact (Kd.C_below HR0_0.out HB.out) | (with_reducible refine Kd.C_alloc ?_ _) | (with_reducible refine Kd.C_drewN ?_ _) | (with_reducible refine Kd.C_drew ?_))); (case side2 => exact HC0_0.out); (case side3 => repeat (first | exact (Kd.C_below HR0_1.out HB.out) | (with_reducible refine Kd.C_alloc ?_ _) | (with_reducible refine Kd.C_drewN ?_ _) | (with_reducible refine Kd.C_drew ?_))); (case side4 => exact HC0_1.out); (case side5 => repeat (first | exact (Kd.C_below HR0_2.out HB.out) | (with_reducible refine Kd.C_alloc ?_ _) | (with_reducible refine Kd.C_drewN ?_ _) | (with_reducible refine Kd.C_drew ?_))); (case side6 => exact HC0_2.out); (case side7 => repeat (first | exact (Kd.C_below HR1.out HB.out) | (with_reducible refine Kd.C_alloc ?_ _) | (with_reducible refine Kd.C_drewN ?_ _) | (with_reducible refine Kd.C_drew ?_))); (case side8 => exact HC1.out); (case side9 => repeat (first | exact (Kd.C_below HR2.out HB.out) | (with_reducible refine Kd.C_alloc ?_ _) | (with_reducible refine Kd.C_drewN ?_ _) | (with_reducible refine Kd.C_drew ?_))); (case side10 => exact HC2.out); rintro e w25 ⟨v455, rfl, ho0, hb⟩; refine ⟨_, rfl, ?_⟩; have n0_ := Aside0.mk (Kd.R_elder' (by (with_reducible repeat (first | apply Kd.R_alloc | apply Kd.R_drewN | apply Kd.R_drew)); exact HO452.out) (Kd.R_base ho0) hb); have n1_ := Aside0.mk (Kd.R_lower (Kd.R_new' ho0 (Kd.R_lt (by (with_reducible repeat (first | apply Kd.R_alloc | apply Kd.R_drewN | apply Kd.R_drew)); exact HO452.out))) (below_size (by repeat (first | (with_reducible first | exact HB.out | apply below_alloc | apply pw_below_drewN | apply below_drew1 | refine below_set ?_ GE447.out) | exact HB.out)))); have n2_ := Aside0.mk (blk_below (g := gb447) (o := .cells #[.slice A0_0 l0_0.length c0_0, .slice A0_1 l0_1.length c0_1, .slice A0_2 l0_2.length c0_2] 26 (0, 0)) (by (with_reducible repeat (first | refine blk_drewN ?_ _ | refine blk_drew ?_ | refine blk_alloc ?_ _)); exact BK447.out) hb); have n3_ := Aside0.mk (below_step (by repeat (first | (with_reducible first | exact HB.out | apply below_alloc | apply pw_below_drewN | apply below_drew1 | refine below_set ?_ GE447.out) | exact HB.out)) hb); clear HO452; clear BK447; clear HB; have HO452 := n0_; have HO456 := n1_; have BK447 := n2_; have HB := n3_; clear n0_ n1_ n2_ n3_; (try clear hb); (try clear hb2); (try clear hk); (try clear hi); (try clear ho0); obtain ⟨Ao26, co26, eo26⟩ := Kd.R_slice HO452.out; subst eo26; obtain ⟨Ao27, co27, eo27⟩ := Kd.R_slice HO456.out; subst eo27) | ((with_reducible refine gate_callee (f := 25) rfl ?_); refine goesL_ (some 40) rfl rfl Try.func25 (by kernel_rfl) rfl #[.slice Ao26 t450.length co26, .slice Ao27 t454.length co27] rfl (by (try simp only [List.map_toArray, List.map_cons, List.map_nil]); first | done | rfl | (simp only [List.length_drop, List.length_take]; rfl)) ?_; (with_reducible refine (prioryref27_Same.calls kj4 _ _ t450 _ _ t454 true _ ?side1 ?side2 ?side3 ?side4 A18.out).mono ?_); (case side1 => repeat (first | exact (Kd.R_reads' HO452.out).2.2 | (with_reducible refine Kd.C_alloc ?_ _) | (with_reducible refine Kd.C_drewN ?_ _) | (with_reducible refine Kd.C_drew ?_))); (case side2 => exact (Kd.R_reads' HO452.out).2.1); (case side3 => repeat (first | exact (Kd.R_reads' HO456.out).2.2 | (with_reducible refine Kd.C_alloc ?_ _) | (with_reducible refine Kd.C_drewN ?_ _) | (with_reducible refine Kd.C_drew ?_))); (case side4 => exact (Kd.R_reads' HO456.out).2.1); rintro e w' ⟨rfl, ⟨nd, rfl⟩⟩; refine ⟨_, rfl, ?_⟩) | (go_at_call 11; (with_reducible refine (priorylaw28_awake.calls kj4  t459 _ A21.out).mono ?_); rintro e w28 ⟨rfl, hb⟩; have n0_ := Aside0.mk (Kd.R_below (by (with_reducible repeat (first | apply Kd.R_alloc | apply Kd.R_drewN | apply Kd.R_drew)); exact HO452.out) hb); have n1_ := Aside0.mk (Kd.R_below (by (with_reducible repeat (first | apply Kd.R_alloc | apply Kd.R_drewN | apply Kd.R_drew)); exact HO456.out) hb); have n2_ := Aside0.mk (blk_below (g := gb447) (o := .cells #[.slice A0_0 l0_0.length c0_0, .slice A0_1 l0_1.length c0_1, .slice A0_2 l0_2.length c0_2] 26 (0, 0)) (by (with_reducible repeat (first | refine blk_drewN ?_ _ | refine blk_drew ?_ | refine blk_alloc ?_ _)); exact BK447.out) hb); have n3_ := Aside0.mk (below_step (by repeat (first | (with_reducible first | exact HB.out | apply below_alloc | apply pw_below_drewN | apply below_drew1 | refine below_set ?_ GE447.out) | exact HB.out)) hb); clear HO452; clear HO456; clear BK447; clear HB; have HO452 := n0_; have HO456 := n1_; have BK447 := n2_; have HB := n3_; clear n0_ n1_ n2_ n3_; (try clear hb); (try clear hb2); (try clear hk); (try clear hi)))
            go_ret
            exact ⟨by first | rfl | (simp [errW_none, errW_some] <;> rfl) | (simp [*, errW_none, errW_some] <;> rfl), by repeat (first | (with_reducible first | exact HB.out | apply below_alloc | apply pw_below_drewN | apply below_drew1 | refine below_set ?_ GE447.out) | exact HB.out)⟩
          · rw [if_neg c20] at H
            have c20b0 : (t453 == t457) = false := beq_eq_false_iff_ne.mpr c20
            have c20b1 : (t453 != t457) = true := bne_iff_ne.mpr c20
            obtain rfl := Option.some.inj H
            have hcz29_0 : wc.cell? ⟨gb447, 0, none⟩ = some (.slice A0_0 l0_0.length c0_0) := (blk_cell BK447.out 0).trans rfl
            have hcz29_1 : wc.cell? ⟨gb447, 1, none⟩ = some (.slice A0_1 l0_1.length c0_1) := (blk_cell BK447.out 1).trans rfl
            have hcz29_2 : wc.cell? ⟨gb447, 2, none⟩ = some (.slice A0_2 l0_2.length c0_2) := (blk_cell BK447.out 2).trans rfl
            have hfz29_0 := blk_frozen BK447.out 0
            have hfz29_1 := blk_frozen BK447.out 1
            have hfz29_2 := blk_frozen BK447.out 2
            go_wp2_with (first | ((with_reducible refine gate_callee (f := 23) rfl ?_); refine goesL_ (some 27) rfl rfl Try.func23 (by kernel_rfl) rfl #[.agg #[.slice A0_0 l0_0.length c0_0, .slice A0_1 l0_1.length c0_1, .slice A0_2 l0_2.length c0_2], .slice A1 l1.length c1, .slice A2 l2.length c2, .int .i64 a3] rfl (by (try simp only [List.map_toArray, List.map_cons, List.map_nil]); first | done | rfl | (simp only [List.length_drop, List.length_take]; rfl)) ?_; (with_reducible refine (watch_View.calls kj4 _ _ l0_0 _ _ l0_1 _ _ l0_2 _ _ l1 _ _ l2 a3 t450 t453 _ ?side1 ?side2 ?side3 ?side4 ?side5 ?side6 ?side7 ?side8 ?side9 ?side10 A16.out).mono ?_); (case side1 => repeat (first | exact (Kd.C_below HR0_0.out HB.out) | (with_reducible refine Kd.C_alloc ?_ _) | (with_reducible refine Kd.C_drewN ?_ _) | (with_reducible refine Kd.C_drew ?_))); (case side2 => exact HC0_0.out); (case side3 => repeat (first | exact (Kd.C_below HR0_1.out HB.out) | (with_reducible refine Kd.C_alloc ?_ _) | (with_reducible refine Kd.C_drewN ?_ _) | (with_reducible refine Kd.C_drew ?_))); (case side4 => exact HC0_1.out); (case side5 => repeat (first | exact (Kd.C_below HR0_2.out HB.out) | (with_reducible refine Kd.C_alloc ?_ _) | (with_reducible refine Kd.C_drewN ?_ _) | (with_reducible refine Kd.C_drew ?_))); (case side6 => exact HC0_2.out); (case side7 => repeat (first | exact (Kd.C_below HR1.out HB.out) | (with_reducible refine Kd.C_alloc ?_ _) | (with_reducible refine Kd.C_drewN ?_ _) | (with_reducible refine Kd.C_drew ?_))); (case side8 => exact HC1.out); (case side9 => repeat (first | exact (Kd.C_below HR2.out HB.out) | (with_reducible refine Kd.C_alloc ?_ _) | (with_reducible refine Kd.C_drewN ?_ _) | (with_reducible refine Kd.C_drew ?_))); (case side10 => exact HC2.out); rintro e w30 ⟨v451, rfl, ho0, hb⟩; refine ⟨_, rfl, ?_⟩; have n0_ := Aside0.mk (Kd.R_lower ho0 (below_size (by repeat (first | (with_reducible first | exact HB.out | apply below_alloc | apply pw_below_drewN | apply below_drew1 | refine below_set ?_ GE447.out) | exact HB.out)))); have n1_ := Aside0.mk (blk_below (g := gb447) (o := .cells #[.slice A0_0 l0_0.length c0_0, .slice A0_1 l0_1.length c0_1, .slice A0_2 l0_2.length c0_2] 26 (0, 0)) (by (with_reducible repeat (first | refine blk_drewN ?_ _ | refine blk_drew ?_ | refine blk_alloc ?_ _)); exact BK447.out) hb); have n2_ := Aside0.mk (below_step (by repeat (first | (with_reducible first | exact HB.out | apply below_alloc | apply pw_below_drewN | apply below_drew1 | refine below_set ?_ GE447.out) | exact HB.out)) hb); clear BK447; clear HB; have HO452 := n0_; have BK447 := n1_; have HB := n2_; clear n0_ n1_ n2_; (try clear hb); (try clear hb2); (try clear hk); (try clear hi); (try clear ho0); have hcz31_0 : w30.cell? ⟨gb447, 0, none⟩ = some (.slice A0_0 l0_0.length c0_0) := (blk_cell BK447.out 0).trans rfl; have hcz31_1 : w30.cell? ⟨gb447, 1, none⟩ = some (.slice A0_1 l0_1.length c0_1) := (blk_cell BK447.out 1).trans rfl; have hcz31_2 : w30.cell? ⟨gb447, 2, none⟩ = some (.slice A0_2 l0_2.length c0_2) := (blk_cell BK447.out 2).trans rfl; have hfz31_0 := blk_frozen BK447.out 0; have hfz31_1 := blk_frozen BK447.out 1; have hfz31_2 := blk_frozen BK447.out 2) | ((with_reducible refine gate_callee (f := 24) rfl ?_); refine goesL_ (some 35) rfl rfl Try.func24 (by kernel_rfl) rfl #[.agg #[.slice A0_0 l0_0.length c0_0, .slice A0_1 l0_1.length c0_1, .slice A0_2 l0_2.length c0_2], .slice A1 l1.length c1, .slice A2 l2.length c2, .int .i64 a3] rfl (by (try simp only [List.map_toArray, List.map_cons, List.map_nil]); first | done | rfl | (simp only [List.length_drop, List.length_take]; rfl)) ?_; (with_reducible refine (prioryref28_View.calls kj4 _ _ l0_0 _ _ l0_1 _ _ l0_2 _ _ l1 _ _ l2 a3 t454 t457 _ ?side1 ?side2 ?side3 ?side4 ?side5 ?side6 ?side7 ?side8 ?side9 ?side10 A17.out).mono ?_); (case side1 => repeat (first | exact (Kd.C_below HR0_0.out HB.out) | (with_reducible refine Kd.C_alloc ?_ _) | (with_reducible refine Kd.C_drewN ?_ _) | (with_reducible refine Kd.C_drew ?_))); (case side2 => exact HC0_0.out); (case side3 => repeat (first | exact (Kd.C_below HR0_1.out HB.out) | (with_reducible refine Kd.C_alloc ?_ _) | (with_reducible refine Kd.C_drewN ?_ _) | (with_reducible refine Kd.C_drew ?_))); (case side4 => exact HC0_1.out); (case side5 => repeat (first | exact (Kd.C_below HR0_2.out HB.out) | (with_reducible refine Kd.C_alloc ?_ _) | (with_reducible refine Kd.C_drewN ?_ _) | (with_reducible refine Kd.C_drew ?_))); (case side6 => exact HC0_2.out); (case side7 => repeat (first | exact (Kd.C_below HR1.out HB.out) | (with_reducible refine Kd.C_alloc ?_ _) | (with_reducible refine Kd.C_drewN ?_ _) | (with_reducible refine Kd.C_drew ?_))); (case side8 => exact HC1.out); (case side9 => repeat (first | exact (Kd.C_below HR2.out HB.out) | (with_reducible refine Kd.C_alloc ?_ _) | (with_reducible refine Kd.C_drewN ?_ _) | (with_reducible refine Kd.C_drew ?_))); (case side10 => exact HC2.out); rintro e w32 ⟨v455, rfl, ho0, hb⟩; refine ⟨_, rfl, ?_⟩; have n0_ := Aside0.mk (Kd.R_elder' (by (with_reducible repeat (first | apply Kd.R_alloc | apply Kd.R_drewN | apply Kd.R_drew)); exact HO452.out) (Kd.R_base ho0) hb); have n1_ := Aside0.mk (Kd.R_lower (Kd.R_new' ho0 (Kd.R_lt (by (with_reducible repeat (first | apply Kd.R_alloc | apply Kd.R_drewN | apply Kd.R_drew)); exact HO452.out))) (below_size (by repeat (first | (with_reducible first | exact HB.out | apply below_alloc | apply pw_below_drewN | apply below_drew1 | refine below_set ?_ GE447.out) | exact HB.out)))); have n2_ := Aside0.mk (blk_below (g := gb447) (o := .cells #[.slice A0_0 l0_0.length c0_0, .slice A0_1 l0_1.length c0_1, .slice A0_2 l0_2.length c0_2] 26 (0, 0)) (by (with_reducible repeat (first | refine blk_drewN ?_ _ | refine blk_drew ?_ | refine blk_alloc ?_ _)); exact BK447.out) hb); have n3_ := Aside0.mk (below_step (by repeat (first | (with_reducible first | exact HB.out | apply below_alloc | apply pw_below_drewN | apply below_drew1 | refine below_set ?_ GE447.out) | exact HB.out)) hb); clear HO452; clear BK447; clear HB; have HO452 := n0_; have HO456 := n1_; have BK447 := n2_; have HB := n3_; clear n0_ n1_ n2_ n3_; (try clear hb); (try clear hb2); (try clear hk); (try clear hi); (try clear ho0); obtain ⟨Ao33, co33, eo33⟩ := Kd.R_slice HO452.out; subst eo33; obtain ⟨Ao34, co34, eo34⟩ := Kd.R_slice HO456.out; subst eo34) | ((with_reducible refine gate_callee (f := 25) rfl ?_); refine goesL_ (some 40) rfl rfl Try.func25 (by kernel_rfl) rfl #[.slice Ao33 t450.length co33, .slice Ao34 t454.length co34] rfl (by (try simp only [List.map_toArray, List.map_cons, List.map_nil]); first | done | rfl | (simp only [List.length_drop, List.length_take]; rfl)) ?_; (with_reducible refine (prioryref27_Same.calls kj4 _ _ t450 _ _ t454 true _ ?side1 ?side2 ?side3 ?side4 A18.out).mono ?_); (case side1 => repeat (first | exact (Kd.R_reads' HO452.out).2.2 | (with_reducible refine Kd.C_alloc ?_ _) | (with_reducible refine Kd.C_drewN ?_ _) | (with_reducible refine Kd.C_drew ?_))); (case side2 => exact (Kd.R_reads' HO452.out).2.1); (case side3 => repeat (first | exact (Kd.R_reads' HO456.out).2.2 | (with_reducible refine Kd.C_alloc ?_ _) | (with_reducible refine Kd.C_drewN ?_ _) | (with_reducible refine Kd.C_drew ?_))); (case side4 => exact (Kd.R_reads' HO456.out).2.1); rintro e w' ⟨rfl, ⟨nd, rfl⟩⟩; refine ⟨_, rfl, ?_⟩))
            go_ret
            exact ⟨by first | rfl | (simp [errW_none, errW_some] <;> rfl) | (simp [*, errW_none, errW_some] <;> rfl), by repeat (first | (with_reducible first | exact HB.out | apply below_alloc | apply pw_below_drewN | apply below_drew1 | refine below_set ?_ GE447.out) | exact HB.out)⟩
        · replace c19 := Bool.eq_false_iff.mpr c19
          subst c19
          have H1 : (some false) = some r := by rw [if_neg (show ¬ (false = true) by decide)] at H; exact H
          clear H
          have H := H1
          clear H1
          obtain rfl := Option.some.inj H
          have hcz35_0 : wc.cell? ⟨gb447, 0, none⟩ = some (.slice A0_0 l0_0.length c0_0) := (blk_cell BK447.out 0).trans rfl
          have hcz35_1 : wc.cell? ⟨gb447, 1, none⟩ = some (.slice A0_1 l0_1.length c0_1) := (blk_cell BK447.out 1).trans rfl
          have hcz35_2 : wc.cell? ⟨gb447, 2, none⟩ = some (.slice A0_2 l0_2.length c0_2) := (blk_cell BK447.out 2).trans rfl
          have hfz35_0 := blk_frozen BK447.out 0
          have hfz35_1 := blk_frozen BK447.out 1
          have hfz35_2 := blk_frozen BK447.out 2
          go_wp2_with (first | ((with_reducible refine gate_callee (f := 23) rfl ?_); refine goesL_ (some 27) rfl rfl Try.func23 (by kernel_rfl) rfl #[.agg #[.slice A0_0 l0_0.length c0_0, .slice A0_1 l0_1.length c0_1, .slice A0_2 l0_2.length c0_2], .slice A1 l1.length c1, .slice A2 l2.length c2, .int .i64 a3] rfl (by (try simp only [List.map_toArray, List.map_cons, List.map_nil]); first | done | rfl | (simp only [List.length_drop, List.length_take]; rfl)) ?_; (with_reducible refine (watch_View.calls kj4 _ _ l0_0 _ _ l0_1 _ _ l0_2 _ _ l1 _ _ l2 a3 t450 t453 _ ?side1 ?side2 ?side3 ?side4 ?side5 ?side6 ?side7 ?side8 ?side9 ?side10 A16.out).mono ?_); (case side1 => repeat (first | exact (Kd.C_below HR0_0.out HB.out) | (with_reducible refine Kd.C_alloc ?_ _) | (with_reducible refine Kd.C_drewN ?_ _) | (with_reducible refine Kd.C_drew ?_))); (case side2 => exact HC0_0.out); (case side3 => repeat (first | exact (Kd.C_below HR0_1.out HB.out) | (with_reducible refine Kd.C_alloc ?_ _) | (with_reducible refine Kd.C_drewN ?_ _) | (with_reducible refine Kd.C_drew ?_))); (case side4 => exact HC0_1.out); (case side5 => repeat (first | exact (Kd.C_below HR0_2.out HB.out) | (with_reducible refine Kd.C_alloc ?_ _) | (with_reducible refine Kd.C_drewN ?_ _) | (with_reducible refine Kd.C_drew ?_))); (case side6 => exact HC0_2.out); (case side7 => repeat (first | exact (Kd.C_below HR1.out HB.out) | (with_reducible refine Kd.C_alloc ?_ _) | (with_reducible refine Kd.C_drewN ?_ _) | (with_reducible refine Kd.C_drew ?_))); (case side8 => exact HC1.out); (case side9 => repeat (first | exact (Kd.C_below HR2.out HB.out) | (with_reducible refine Kd.C_alloc ?_ _) | (with_reducible refine Kd.C_drewN ?_ _) | (with_reducible refine Kd.C_drew ?_))); (case side10 => exact HC2.out); rintro e w36 ⟨v451, rfl, ho0, hb⟩; refine ⟨_, rfl, ?_⟩; have n0_ := Aside0.mk (Kd.R_lower ho0 (below_size (by repeat (first | (with_reducible first | exact HB.out | apply below_alloc | apply pw_below_drewN | apply below_drew1 | refine below_set ?_ GE447.out) | exact HB.out)))); have n1_ := Aside0.mk (blk_below (g := gb447) (o := .cells #[.slice A0_0 l0_0.length c0_0, .slice A0_1 l0_1.length c0_1, .slice A0_2 l0_2.length c0_2] 26 (0, 0)) (by (with_reducible repeat (first | refine blk_drewN ?_ _ | refine blk_drew ?_ | refine blk_alloc ?_ _)); exact BK447.out) hb); have n2_ := Aside0.mk (below_step (by repeat (first | (with_reducible first | exact HB.out | apply below_alloc | apply pw_below_drewN | apply below_drew1 | refine below_set ?_ GE447.out) | exact HB.out)) hb); clear BK447; clear HB; have HO452 := n0_; have BK447 := n1_; have HB := n2_; clear n0_ n1_ n2_; (try clear hb); (try clear hb2); (try clear hk); (try clear hi); (try clear ho0); have hcz37_0 : w36.cell? ⟨gb447, 0, none⟩ = some (.slice A0_0 l0_0.length c0_0) := (blk_cell BK447.out 0).trans rfl; have hcz37_1 : w36.cell? ⟨gb447, 1, none⟩ = some (.slice A0_1 l0_1.length c0_1) := (blk_cell BK447.out 1).trans rfl; have hcz37_2 : w36.cell? ⟨gb447, 2, none⟩ = some (.slice A0_2 l0_2.length c0_2) := (blk_cell BK447.out 2).trans rfl; have hfz37_0 := blk_frozen BK447.out 0; have hfz37_1 := blk_frozen BK447.out 1; have hfz37_2 := blk_frozen BK447.out 2) | ((with_reducible refine gate_callee (f := 24) rfl ?_); refine goesL_ (some 35) rfl rfl Try.func24 (by kernel_rfl) rfl #[.agg #[.slice A0_0 l0_0.length c0_0, .slice A0_1 l0_1.length c0_1, .slice A0_2 l0_2.length c0_2], .slice A1 l1.length c1, .slice A2 l2.length c2, .int .i64 a3] rfl (by (try simp only [List.map_toArray, List.map_cons, List.map_nil]); first | done | rfl | (simp only [List.length_drop, List.length_take]; rfl)) ?_; (with_reducible refine (prioryref28_View.calls kj4 _ _ l0_0 _ _ l0_1 _ _ l0_2 _ _ l1 _ _ l2 a3 t454 t457 _ ?side1 ?side2 ?side3 ?side4 ?side5 ?side6 ?side7 ?side8 ?side9 ?side10 A17.out).mono ?_); (case side1 => repeat (first | exact (Kd.C_below HR0_0.out HB.out) | (with_reducible refine Kd.C_alloc ?_ _) | (with_reducible refine Kd.C_drewN ?_ _) | (with_reducible refine Kd.C_drew ?_))); (case side2 => exact HC0_0.out); (case side3 => repeat (first | exact (Kd.C_below HR0_1.out HB.out) | (with_reducible refine Kd.C_alloc ?_ _) | (with_reducible refine Kd.C_drewN ?_ _) | (with_reducible refine Kd.C_drew ?_))); (case side4 => exact HC0_1.out); (case side5 => repeat (first | exact (Kd.C_below HR0_2.out HB.out) | (with_reducible refine Kd.C_alloc ?_ _) | (with_reducible refine Kd.C_drewN ?_ _) | (with_reducible refine Kd.C_drew ?_))); (case side6 => exact HC0_2.out); (case side7 => repeat (first | exact (Kd.C_below HR1.out HB.out) | (with_reducible refine Kd.C_alloc ?_ _) | (with_reducible refine Kd.C_drewN ?_ _) | (with_reducible refine Kd.C_drew ?_))); (case side8 => exact HC1.out); (case side9 => repeat (first | exact (Kd.C_below HR2.out HB.out) | (with_reducible refine Kd.C_alloc ?_ _) | (with_reducible refine Kd.C_drewN ?_ _) | (with_reducible refine Kd.C_drew ?_))); (case side10 => exact HC2.out); rintro e w38 ⟨v455, rfl, ho0, hb⟩; refine ⟨_, rfl, ?_⟩; have n0_ := Aside0.mk (Kd.R_elder' (by (with_reducible repeat (first | apply Kd.R_alloc | apply Kd.R_drewN | apply Kd.R_drew)); exact HO452.out) (Kd.R_base ho0) hb); have n1_ := Aside0.mk (Kd.R_lower (Kd.R_new' ho0 (Kd.R_lt (by (with_reducible repeat (first | apply Kd.R_alloc | apply Kd.R_drewN | apply Kd.R_drew)); exact HO452.out))) (below_size (by repeat (first | (with_reducible first | exact HB.out | apply below_alloc | apply pw_below_drewN | apply below_drew1 | refine below_set ?_ GE447.out) | exact HB.out)))); have n2_ := Aside0.mk (blk_below (g := gb447) (o := .cells #[.slice A0_0 l0_0.length c0_0, .slice A0_1 l0_1.length c0_1, .slice A0_2 l0_2.length c0_2] 26 (0, 0)) (by (with_reducible repeat (first | refine blk_drewN ?_ _ | refine blk_drew ?_ | refine blk_alloc ?_ _)); exact BK447.out) hb); have n3_ := Aside0.mk (below_step (by repeat (first | (with_reducible first | exact HB.out | apply below_alloc | apply pw_below_drewN | apply below_drew1 | refine below_set ?_ GE447.out) | exact HB.out)) hb); clear HO452; clear BK447; clear HB; have HO452 := n0_; have HO456 := n1_; have BK447 := n2_; have HB := n3_; clear n0_ n1_ n2_ n3_; (try clear hb); (try clear hb2); (try clear hk); (try clear hi); (try clear ho0); obtain ⟨Ao39, co39, eo39⟩ := Kd.R_slice HO452.out; subst eo39; obtain ⟨Ao40, co40, eo40⟩ := Kd.R_slice HO456.out; subst eo40) | ((with_reducible refine gate_callee (f := 25) rfl ?_); refine goesL_ (some 40) rfl rfl Try.func25 (by kernel_rfl) rfl #[.slice Ao39 t450.length co39, .slice Ao40 t454.length co40] rfl (by (try simp only [List.map_toArray, List.map_cons, List.map_nil]); first | done | rfl | (simp only [List.length_drop, List.length_take]; rfl)) ?_; (with_reducible refine (prioryref27_Same.calls kj4 _ _ t450 _ _ t454 false _ ?side1 ?side2 ?side3 ?side4 A18.out).mono ?_); (case side1 => repeat (first | exact (Kd.R_reads' HO452.out).2.2 | (with_reducible refine Kd.C_alloc ?_ _) | (with_reducible refine Kd.C_drewN ?_ _) | (with_reducible refine Kd.C_drew ?_))); (case side2 => exact (Kd.R_reads' HO452.out).2.1); (case side3 => repeat (first | exact (Kd.R_reads' HO456.out).2.2 | (with_reducible refine Kd.C_alloc ?_ _) | (with_reducible refine Kd.C_drewN ?_ _) | (with_reducible refine Kd.C_drew ?_))); (case side4 => exact (Kd.R_reads' HO456.out).2.1); rintro e w' ⟨rfl, ⟨nd, rfl⟩⟩; refine ⟨_, rfl, ?_⟩))
          go_ret
          exact ⟨by first | rfl | (simp [errW_none, errW_some] <;> rfl) | (simp [*, errW_none, errW_some] <;> rfl), by repeat (first | (with_reducible first | exact HB.out | apply below_alloc | apply pw_below_drewN | apply below_drew1 | refine below_set ?_ GE447.out) | exact HB.out)⟩
end Go.Proofs.Ytfmpabdaadllaaa.PAll

/-
  The law View in plain Lean.
-/
namespace Go.Proofs.Ytfmpabdaadllaaa.PAll
open Go.RowKit Go.Proofs.YtfmpabdaadllaaaW.PrintWords Go.Proofs.YtfmpabdaadllaaaW.PrintLast
set_option linter.unusedVariables false
set_option linter.unusedSimpArgs false
theorem view_law (P : List S73) (W : List S75) (C : List S46) (l : List S56) (os : List S58) (part : Int) : priorylaw28_WatchView.f 30001 P W C l os part = some true := by
  obtain ⟨b, hb, hs⟩ := long_f P W C l
  unfold priorylaw28_WatchView.f
  rw [hb]
  simp only [Option.bind_some]
  cases b
  · obtain ⟨h1, h2, h3, h4⟩ := hs rfl
    have t1 := viewE_len P W C l os part
    rw [if_neg (by decide)]
    generalize decide ((os.length : Int) > 200) = c
    rw [priorylaw28_WatchView.j0]
    cases c
    · rw [if_neg (by decide), wview_f P W C l os part (by omega), rview_f P W C l os part (by omega) 30000 (by omega)]
      simp only [Option.bind_some]
      rw [sameO_f _ (by omega) 30000 (by omega)]
      simp only [Option.bind_some]
      rw [if_pos trivial, if_pos trivial]
      rfl
    · rfl
  · rfl
end Go.Proofs.Ytfmpabdaadllaaa.PAll
