/-
  Walks and plain laws, joined of 8 texts.
-/
import Derived.Test.YtfmpabdaadllaaaBas
import Derived.Test.YtfmpabdaadllaaaRows
import Derived.WalkKit
import Derived.ProofKit
import Derived.Deep.Slices
import Derived.Lib.SmallJoins
import Derived.Test.YtfmpabdaadllaaaGB
import Derived.Test.YtfmpabdaadllaaaGE
/-
  What came in, as the walks read it: slices of structs, a configuration.
-/
namespace Go.Proofs.Ytfmpabdaadllaaa.PAll
open Go.ChangeShapes Go.WideShapes Go.Deep Go.Joins
open Go.RowKit Go.Proofs.YtfmpabdaadllaaaW.PrintWords Go.Proofs.YtfmpabdaadllaaaW.PrintLast
set_option linter.unusedVariables false
theorem slice_kc {α H : Type} {enc : TypeId × Value → H} {P : Program} {w : World} {spare : Nat → Bool} {held : Bool} {d : Kd α} {t e : TypeId} {cs : List Value} {fuel : Nat} {x : DataW H × List MemPlace} (ht : P.underlying t = some (.slice e)) (hc : P.cellsOf e = d.sz)
    (hel : ∀ n cs y, DataW.trod enc P w 0 spare held n e cs = some y → ∃ a, d.K w a cs) (hf : DataW.trod enc P w 0 spare held fuel t cs = some x) :
    ∃ (A : Option Addr) (c : Nat) (l : List α), cs = [.slice A l.length c] ∧ l.length ≤ c ∧ Kd.C d w A l.length l := by
  rcases open_slice ht hf with ⟨hcs, _⟩ | ⟨a, len, cap, m, n, D, Pl, hcs, hb, hl, hm, hmm, _, hx⟩
  · exact ⟨none, 0, [], hcs, Nat.le_refl _, rfl, Nat.zero_le _, fun h => absurd h (Nat.lt_irrefl 0)⟩
  · have hlen : len ≤ m := by rw [hmm]; split <;> omega
    have hex : ∀ i : Fin len, ∃ a', ∃ cs', w.cells? 0 (a.add (i.1 * P.cellsOf e)) (P.cellsOf e) = some cs' ∧ d.K w a' cs' := fun i => by
      obtain ⟨cs', h1, h2⟩ := hx i.1 (by have := i.2; omega)
      obtain ⟨y, hy⟩ := hel _ _ _ h2
      exact ⟨y, cs', h1, hy⟩
    refine ⟨some a, cap, List.ofFn fun i => Classical.choose (hex i), by rw [hcs]; simp, by simpa using hl, rfl, by simp; exact Nat.le_trans hl (Nat.le_trans hm (by decide)), fun _ => ⟨a, rfl, fun j p hp => ?_⟩⟩
    rw [List.getElem?_ofFn] at hp
    split at hp
    · rename_i hj
      injection hp with hp
      obtain ⟨cs', h1, h2⟩ := Classical.choose_spec (hex ⟨j, hj⟩)
      obtain ⟨_, h3, h4⟩ := World.cells?_some h1
      rw [hp] at h2
      refine ⟨cs', d.K_len h2, h2, fun i u hu => ?_⟩
      have hi : i < P.cellsOf e := by
        rw [← h3]
        exact (List.getElem?_eq_some_iff.1 hu).1
      have := h4 i hi
      rw [hu, Go.Deep.add_add, hc] at this
      exact this
    · cases hp
theorem slice_kd {α H : Type} {enc : TypeId × Value → H} {P : Program} {w : World} {r : Reach} {base : Nat} {spare : Nat → Bool} {held : Bool} {d : Kd α} {t e : TypeId} {v : Value} {x : DataW H} {ps : List MemPlace} (ht : P.underlying t = some (.slice e)) (hc : P.cellsOf e = d.sz)
    (hel : ∀ n cs y, DataW.trod enc P w 0 spare held n e cs = some y → ∃ a, d.K w a cs) (hv : Value.okWide P w r base t v) (h : DataW.Trod enc P w 0 spare held t v x ps) :
    ∃ (A : Option Addr) (c : Nat) (l : List α), v = .slice A l.length c ∧ l.length ≤ c ∧ Kd.C d w A l.length l := by
  obtain ⟨A, len, cap, rfl⟩ := okWide_slice ht hv
  obtain ⟨fuel, hf⟩ := h
  obtain ⟨A', c', l, hcs, h1, h2⟩ := slice_kc ht hc hel hf
  simp [Value.cells] at hcs
  obtain ⟨rfl, rfl, rfl⟩ := hcs
  exact ⟨_, _, l, rfl, h1, h2⟩
section
variable {H : Type} {enc : TypeId × Value → H} {w : World} {r : Reach} {base : Nat} {spare : Nat → Bool} {held : Bool}
theorem trod_struct5 {P : Program} {b0 : Nat} {t : TypeId} {f0 f1 f2 f3 f4 : Field} {fuel : Nat} {cs : List Value} {x : DataW H × List MemPlace} (ht : P.underlying t = some (.struct #[f0, f1, f2, f3, f4])) (h : DataW.trod enc P w b0 spare held fuel t cs = some x) :
    ∃ y0 y1 y2 y3 y4 n, cs.length = P.cellsOf t ∧ DataW.trod enc P w b0 spare held n f0.type ((cs.drop f0.offset).take (P.cellsOf f0.type)) = some y0 ∧
      DataW.trod enc P w b0 spare held n f1.type ((cs.drop f1.offset).take (P.cellsOf f1.type)) = some y1 ∧ DataW.trod enc P w b0 spare held n f2.type ((cs.drop f2.offset).take (P.cellsOf f2.type)) = some y2 ∧
      DataW.trod enc P w b0 spare held n f3.type ((cs.drop f3.offset).take (P.cellsOf f3.type)) = some y3 ∧ DataW.trod enc P w b0 spare held n f4.type ((cs.drop f4.offset).take (P.cellsOf f4.type)) = some y4 := by
  obtain ⟨xs, n, _, rfl, hl, hlen, hf⟩ := DataW.trod_struct ht h
  match xs, hlen with
  | [y0, y1, y2, y3, y4], _ => exact ⟨y0, y1, y2, y3, y4, n, hl, by simpa using hf 0 f0 rfl, by simpa using hf 1 f1 rfl, by simpa using hf 2 f2 rfl, by simpa using hf 3 f3 rfl, by simpa using hf 4 f4 rfl⟩
theorem el73 {n : Nat} {cs : List Value} {y : DataW H × List MemPlace} (hy : DataW.trod enc Try.prog w 0 spare held n 73 cs = some y) : ∃ a, k73.K w a cs := by
  obtain ⟨y0, y1, m, _, hlen, h0, h1⟩ := trod_struct2 Try.underlying73 hy
  have hC : Try.prog.cellsOf 73 = 2 := by kernel_rfl
  have hC3 : Try.prog.cellsOf 3 = 1 := by kernel_rfl
  rw [hC] at hlen
  match cs, hlen with
  | [c0, c1], _ =>
    simp only [hC3] at h0 h1
    obtain ⟨a0, e0, _, _⟩ := DataW.trod_int Try.underlying3 h0
    obtain ⟨a1, e1, _, _⟩ := DataW.trod_int Try.underlying3 h1
    simp at e0 e1
    subst e0 e1
    exact ⟨⟨a0, a1⟩, k73_mk w ⟨a0, a1⟩⟩
theorem el75 {n : Nat} {cs : List Value} {y : DataW H × List MemPlace} (hy : DataW.trod enc Try.prog w 0 spare held n 75 cs = some y) : ∃ a, k75.K w a cs := by
  obtain ⟨y0, y1, m, _, hlen, h0, h1⟩ := trod_struct2 Try.underlying75 hy
  have hC : Try.prog.cellsOf 75 = 2 := by kernel_rfl
  have hC3 : Try.prog.cellsOf 3 = 1 := by kernel_rfl
  rw [hC] at hlen
  match cs, hlen with
  | [c0, c1], _ =>
    simp only [hC3] at h0 h1
    obtain ⟨a0, e0, _, _⟩ := DataW.trod_int Try.underlying3 h0
    obtain ⟨a1, e1, _, _⟩ := DataW.trod_int Try.underlying3 h1
    simp at e0 e1
    subst e0 e1
    exact ⟨⟨a0, a1⟩, k75_mk w ⟨a0, a1⟩⟩
theorem el46 {n : Nat} {cs : List Value} {y : DataW H × List MemPlace} (hy : DataW.trod enc Try.prog w 0 spare held n 46 cs = some y) : ∃ a, k46.K w a cs := by
  obtain ⟨y0, y1, y2, y3, m, _, hlen, h0, h1, h2, h3⟩ := trod_struct4 Try.underlying46 hy
  have hC : Try.prog.cellsOf 46 = 4 := by kernel_rfl
  have hC3 : Try.prog.cellsOf 3 = 1 := by kernel_rfl
  rw [hC] at hlen
  match cs, hlen with
  | [c0, c1, c2, c3], _ =>
    simp only [hC3] at h0 h1 h2 h3
    obtain ⟨a0, e0, _, _⟩ := DataW.trod_int Try.underlying3 h0
    obtain ⟨a1, e1, _, _⟩ := DataW.trod_int Try.underlying3 h1
    obtain ⟨a2, e2, _, _⟩ := DataW.trod_int Try.underlying3 h2
    obtain ⟨a3, e3, _, _⟩ := DataW.trod_int Try.underlying3 h3
    simp at e0 e1 e2 e3
    subst e0 e1 e2 e3
    exact ⟨⟨a0, a1, a2, a3⟩, k46_mk w ⟨a0, a1, a2, a3⟩⟩
theorem el56 {n : Nat} {cs : List Value} {y : DataW H × List MemPlace} (hy : DataW.trod enc Try.prog w 0 spare held n 56 cs = some y) : ∃ a, k56.K w a cs := by
  obtain ⟨y0, y1, y2, m, _, hlen, h0, h1, h2⟩ := trod_struct3 Try.underlying56 hy
  have hC : Try.prog.cellsOf 56 = 3 := by kernel_rfl
  have hC3 : Try.prog.cellsOf 3 = 1 := by kernel_rfl
  have hC54 : Try.prog.cellsOf 54 = 1 := by kernel_rfl
  rw [hC] at hlen
  match cs, hlen with
  | [c0, c1, c2], _ =>
    simp only [hC3] at h0 h1
    simp only [hC54] at h2
    obtain ⟨a0, e0, _, _⟩ := DataW.trod_int Try.underlying3 h0
    obtain ⟨a1, e1, _, _⟩ := DataW.trod_int Try.underlying3 h1
    obtain ⟨a2, e2, _, _⟩ := DataW.trod_int Try.underlying54 h2
    simp at e0 e1 e2
    subst e0 e1 e2
    exact ⟨⟨a0, a1, a2⟩, k56_mk w ⟨a0, a1, a2⟩⟩
theorem el58 {n : Nat} {cs : List Value} {y : DataW H × List MemPlace} (hy : DataW.trod enc Try.prog w 0 spare held n 58 cs = some y) : ∃ a, k58.K w a cs := by
  obtain ⟨y0, y1, y2, y3, y4, m, hlen, h0, h1, h2, h3, h4⟩ := trod_struct5 Try.underlying58 hy
  have hC : Try.prog.cellsOf 58 = 5 := by kernel_rfl
  have hC3 : Try.prog.cellsOf 3 = 1 := by kernel_rfl
  have hC30 : Try.prog.cellsOf 30 = 1 := by kernel_rfl
  have hC54 : Try.prog.cellsOf 54 = 1 := by kernel_rfl
  rw [hC] at hlen
  match cs, hlen with
  | [c0, c1, c2, c3, c4], _ =>
    simp only [hC3] at h0 h1
    simp only [hC30] at h2
    simp only [hC54] at h3 h4
    obtain ⟨a0, e0, _, _⟩ := DataW.trod_int Try.underlying3 h0
    obtain ⟨a1, e1, _, _⟩ := DataW.trod_int Try.underlying3 h1
    obtain ⟨a2, e2, _, _⟩ := DataW.trod_int Try.underlying30 h2
    obtain ⟨a3, e3, _, _⟩ := DataW.trod_int Try.underlying54 h3
    obtain ⟨a4, e4, _, _⟩ := DataW.trod_int Try.underlying54 h4
    simp at e0 e1 e2 e3 e4
    subst e0 e1 e2 e3 e4
    exact ⟨⟨a0, a1, a2, a3, a4⟩, k58_mk w ⟨a0, a1, a2, a3, a4⟩⟩
theorem slice_p27 {v : Value} {x : DataW H} {ps : List MemPlace} (hv : Value.okWide Try.prog w r base 27 v) (h : DataW.Trod enc Try.prog w 0 spare held 27 v x ps) :
    ∃ (A : Option Addr) (c : Nat) (l : List S56), v = .slice A l.length c ∧ l.length ≤ c ∧ Kd.C k56 w A l.length l :=
  slice_kd Try.underlying27 (by kernel_rfl) (fun n cs y hy => el56 hy) hv h
theorem slice_p48 {v : Value} {x : DataW H} {ps : List MemPlace} (hv : Value.okWide Try.prog w r base 48 v) (h : DataW.Trod enc Try.prog w 0 spare held 48 v x ps) :
    ∃ (A : Option Addr) (c : Nat) (l : List S58), v = .slice A l.length c ∧ l.length ≤ c ∧ Kd.C k58 w A l.length l :=
  slice_kd Try.underlying48 (by kernel_rfl) (fun n cs y hy => el58 hy) hv h
/-- A configuration. -/
theorem conf_26 {v : Value} {x : DataW H} {ps : List MemPlace} (hv : Value.okWide Try.prog w r base 26 v) (h : DataW.Trod enc Try.prog w 0 spare held 26 v x ps) :
    ∃ (A0 : Option Addr) (c0 : Nat) (l0 : List S73) (A1 : Option Addr) (c1 : Nat) (l1 : List S75) (A2 : Option Addr) (c2 : Nat) (l2 : List S46), v = .agg #[.slice A0 l0.length c0, .slice A1 l1.length c1, .slice A2 l2.length c2] ∧
      (l0.length ≤ c0 ∧ Kd.C k73 w A0 l0.length l0) ∧ (l1.length ≤ c1 ∧ Kd.C k75 w A1 l1.length l1) ∧ (l2.length ≤ c2 ∧ Kd.C k46 w A2 l2.length l2) := by
  obtain ⟨v0, v1, v2, y0, y1, y2, m, rfl, _, _, h0, h1, h2⟩ := open_agg3 Try.underlying26 (by kernel_rfl) (by kernel_rfl) hv h
  obtain ⟨A0, c0, l0, e0, g0⟩ := slice_kc (d := k73) Try.underlying22 (by kernel_rfl) (fun n cs y hy => el73 hy) h0
  obtain ⟨A1, c1, l1, e1, g1⟩ := slice_kc (d := k75) Try.underlying23 (by kernel_rfl) (fun n cs y hy => el75 hy) h1
  obtain ⟨A2, c2, l2, e2, g2⟩ := slice_kc (d := k46) Try.underlying24 (by kernel_rfl) (fun n cs y hy => el46 hy) h2
  simp at e0 e1 e2
  subst e0 e1 e2
  exact ⟨A0, c0, l0, A1, c1, l1, A2, c2, l2, rfl, g0, g1, g2⟩
end
end Go.Proofs.Ytfmpabdaadllaaa.PAll

/-
  watch.View.
-/
namespace Go.Proofs.Ytfmpabdaadllaaa.PAll
open Go.RowKit Go.Shelf Go.Proofs.YtfmpabdaadllaaaM Go.Proofs.YtfmpabdaadllaaaW.PrintWords Go.Proofs.YtfmpabdaadllaaaW.PrintLast
attribute [local go_sem] Oper.semAt_some
set_option linter.unusedVariables false
set_option linter.unusedSimpArgs false
theorem R_grown_n {α : Type} {d : Kd α} {e base : Nat} {ok : Nat → Prop} {A B : World} {v : Value} {xs : List α} (h : d.R e A base ok v xs) (hg : A.grownBy B none) : d.R e B base ok v xs :=
  Kd.R_mono (Kd.R_move (Kd.R_bound h) (fun k hk => hg.block k hk.2.2.1 (by simp))) (fun _ hk => hk.1)
def viewB (Wn : List S75) (l : List S56) (part : Int) (i : Nat) : Bool := fallsE Wn l i == part || (fallsE Wn l i == -1 && behE Wn l i == part)
def viewL (vb : Nat → Bool) (os : List S58) : Nat → List S58
  | 0 => []
  | i + 1 => viewL vb os i ++ if vb i = true then [os.getD i z58] else []
theorem viewL_len (vb : Nat → Bool) (os : List S58) : ∀ i, (viewL vb os i).length ≤ i
  | 0 => Nat.le_refl _
  | i + 1 => by
    have := viewL_len vb os i
    unfold viewL
    split <;> simp <;> omega
def viewE (P : List S73) (Wn : List S75) (Cn : List S46) (l : List S56) (os : List S58) (part : Int) : List S58 := if begE P Wn Cn part = 0 then (if l.length = os.length then viewL (viewB Wn l part) os l.length else []) else []
def viewR (P : List S73) (Wn : List S75) (Cn : List S46) (l : List S56) (os : List S58) (part : Int) : Int := if begE P Wn Cn part = 0 then (if l.length = os.length then 0 else 2) else begE P Wn Cn part
/-- What is kept while a region's first operations go in any order, one of which lays a row. -/
def RdA (k m : Nat) (vals : List Value) (W0 W1 : World) (b : Nat → Bool) (f : Nat → Value) (W : World) : Prop :=
  W = (if b m = true then W1 else W0.drew) ∧ ∀ j, j < k → b j = true → f j = vals.getD j undef
theorem RdA.start (k m : Nat) (vals : List Value) (W0 W1 : World) : RdA k m vals W0 W1 (fun _ => false) (fun _ => undef) W0.drew := ⟨rfl, fun _ _ h => by cases h⟩
theorem RdA.next {k m : Nat} {vals : List Value} {W0 W1 : World} {b : Nat → Bool} {f : Nat → Value} {W : World} {i : Nat} {v : Value} (h : RdA k m vals W0 W1 b f W) (hi : i ≠ m) (hv : v = vals.getD i undef) : RdA k m vals W0 W1 (up1 b i) (upv f i v) W := by
  refine ⟨?_, fun j hj hb => ?_⟩
  · have : up1 b i m = b m := by
      cases hb : b m
      · cases hu : up1 b i m with
        | false => rfl
        | true => exact absurd (up1_of hu (fun e => hi e.symm)) (by rw [hb]; decide)
      · unfold up1; simp [hb]
    rw [this]
    exact h.1
  · unfold upv
    by_cases e : j = i
    · rw [if_pos e, hv, e]
    · rw [if_neg e]; exact h.2 j hj (up1_of hb e)
theorem RdA.nextm {k m : Nat} {vals : List Value} {W0 W1 : World} {b : Nat → Bool} {f : Nat → Value} {W W' : World} {v : Value} (h : RdA k m vals W0 W1 b f W) (hv : v = vals.getD m undef) (hW : W' = W1) : RdA k m vals W0 W1 (up1 b m) (upv f m v) W' := by
  refine ⟨?_, fun j hj hb => ?_⟩
  · have : up1 b m m = true := by unfold up1; simp
    rw [this, if_pos rfl, hW]
  · unfold upv
    by_cases e : j = m
    · rw [if_pos e, hv, e]
    · rw [if_neg e]; exact h.2 j hj (up1_of hb e)
set_option maxRecDepth 100000 in
set_option maxHeartbeats 8000000 in
theorem view_good (P : List S73) (Wn : List S75) (Cn : List S46) (l : List S56) (os : List S58) (part : Int) (A0 : Option Addr) (c0 : Nat) (A1 : Option Addr) (c1 : Nat) (A2 : Option Addr) (c2 : Nat) (A : Option Addr) (c : Nat) (Ao : Option Addr) (co : Nat) (w : World) (h0 : Kd.C k73 w A0 P.length P) (hc0 : P.length ≤ c0) (h1 : Kd.C k75 w A1 Wn.length Wn) (hc1 : Wn.length ≤ c1) (h2 : Kd.C k46 w A2 Cn.length Cn) (hc2 : Cn.length ≤ c2) (hl : Kd.C k56 w A l.length l) (hcl : l.length ≤ c) (ho : Kd.C k58 w Ao os.length os) (hco : os.length ≤ co) (hlen : l.length ≤ 1000000) (he : begE P Wn Cn part = 0) (hlo : l.length = os.length) :
    Calls Try.prog 23 #[.agg #[.slice A0 P.length c0, .slice A1 Wn.length c1, .slice A2 Cn.length c2], .slice A l.length c, .slice Ao os.length co, .int .i64 part] w fun e W' => ∃ v, e = .returned (.tuple #[v, .int .i64 0]) ∧ k58.R 58 W' w.heap.size (fun _ => True) v (viewL (viewB Wn l part) os l.length) ∧ w.grownBy W' none := by
  obtain ⟨w3, hw3⟩ : ∃ w3, w3 = ((w.alloc (.cells #[.slice A0 P.length c0, .slice A1 Wn.length c1, .slice A2 Cn.length c2] 26)).alloc (.cells #[.slice Ao os.length co] 48)).alloc (.cells #[.int .i64 part] 3) := ⟨_, rfl⟩
  have hA : w.grownBy w3 none := by rw [hw3]; exact ((World.grownBy_alloc w _ none).trans (World.grownBy_alloc _ _ none)).trans (World.grownBy_alloc _ _ none)
  have hsz3 : w3.heap.size = w.heap.size + 3 := by rw [hw3]; simp
  have b3o : w3.heap[w.heap.size + 1]? = some (.cells #[.slice Ao os.length co] 48 (0, 0)) := by rw [hw3]; exact blk_alloc (new_at _ (by simp)) _
  have b3p : w3.heap[w.heap.size + 1 + 1]? = some (.cells #[.int .i64 part] 3 (0, 0)) := by rw [hw3]; exact new_at _ (by simp)
  have hN := (begin_calls P Wn Cn part A0 c0 A1 c1 A2 c2 _ (Kd.C_below h0 (below_of_grown hA)) hc0 (Kd.C_below h1 (below_of_grown hA)) hc1 (Kd.C_below h2 (below_of_grown hA)) hc2).1 he
  have HW := Aside0.mk (chkE_ok (begE_chk he).1).wok
  have HL := Aside0.mk (Kd.C_below hl (below_of_grown hA))
  have HO := Aside0.mk (Kd.C_below ho (below_of_grown hA))
  have HN := Aside0.mk hN
  have HA := Aside0.mk hA
  have HLEN := Aside0.mk (And.intro hlen hlo)
  have H3 := Aside0.mk (And.intro hsz3 (And.intro b3o b3p))
  have hlb : ((l.length : Int) != (os.length : Int)) = false := by rw [bne_eq_false_iff_eq, hlo]
  rw [hw3] at HN
  have HW3 := Aside0.mk hw3
  clear h0 h1 h2 hA hN hl ho hlen he hlo hsz3 b3o b3p hw3
  refine (callsIn_wide (n := 6)).1 ?_
  refine callsIn_of_wp_marks Try.func23 rfl trivial ?_ rfl
  simp only [Try.ntmps23, List.size_toArray, List.length_cons, List.length_nil, Nat.reduceAdd, Nat.reduceSub, Array.replicate_succ, Array.replicate_zero, List.push_toArray, List.append_toArray, List.nil_append, List.cons_append]
  gi_wp2_with (first
    | (refine ⟨trivial, ?_⟩; gi_at_call 27; refine (callsIn_wide.2 HN.out).mono ?_; rintro e W1 ⟨gs, hgs, rfl, hS, hg⟩; rw [← HW3.out] at hgs hg; have xo := (blk_cell (blk_grown H3.out.2.1 hg (by simp)) 0).trans rfl; have HS := Aside0.mk hS; have HG1 := Aside0.mk hg; have HGS := Aside0.mk hgs; clear hS hg hgs)
    | (refine ⟨trivial, ?_⟩; gi_at_call 33; refine (callsIn_wide.2 (turns_calls gs A l.length c _)).mono ?_; rintro e W2 ⟨rfl, rfl⟩))
  obtain ⟨Wr, hWr⟩ : ∃ Wr, Wr = (((W1.alloc (.cells #[.slice none 0 0] 48)).alloc (.cells #[.int .i64 0] 3)).alloc (.cells #[.pointer (some ⟨gs, 0, none⟩)] 60)).alloc (.cells #[.slice A l.length c] 27) := ⟨_, rfl⟩
  obtain ⟨bo, hbo⟩ : ∃ bo, bo = W1.heap.size := ⟨_, rfl⟩
  have hsz : Wr.heap.size = bo + 4 := by rw [hWr, hbo]; simp
  have hGr : W1.grownBy Wr none := by rw [hWr]; exact (((World.grownBy_alloc W1 _ none).trans (World.grownBy_alloc _ _ none)).trans (World.grownBy_alloc _ _ none)).trans (World.grownBy_alloc _ _ none)
  have q0 : Wr.heap[bo]? = some (.cells #[.slice none 0 0] 48 (0, 0)) := by rw [hWr, hbo]; exact blk_alloc (blk_alloc (blk_alloc (new_at _ rfl) _) _) _
  have q1 : Wr.heap[bo + 1]? = some (.cells #[.int .i64 0] 3 (0, 0)) := by rw [hWr, hbo]; exact blk_alloc (blk_alloc (new_at _ (by simp)) _) _
  have qx : BoxS Wr (bo + 1 + 1) gs := by unfold BoxS; rw [hWr, hbo]; exact blk_alloc (new_at _ (by simp)) _
  have ql : BoxL Wr (bo + 1 + 1 + 1) A l.length c := by unfold BoxL; rw [hWr, hbo]; exact new_at _ (by simp)
  have hgl : gs < bo := by rw [hbo]; exact HS.out.lt
  have hgw : w3.heap.size ≤ gs := HGS.out
  have hw33 := H3.out.1
  rw [← hWr, ← hbo]
  have HSR := Aside0.mk (HS.out.grown hGr)
  have HGR := Aside0.mk (HG1.out.trans hGr)
  have HZ := Aside0.mk (And.intro hsz (And.intro hgl hgw))
  clear hWr hbo hGr xo hlb
  refine wpIn_rangeFunc_G (F := Fence.wide) (n := 6) rfl (by decide) (gf := 40) (lb := #[.pointer (some ⟨bo + 1 + 1 + 1, 0, none⟩), .pointer (some ⟨bo + 1 + 1, 0, none⟩)]) rfl trivial (enters_of Try.func40 (by kernel_rfl) rfl)
    (turns_seq 5 (by decide) w3 (bo + 1 + 1 + 1) (bo + 1 + 1) gs (by omega) (by omega) hgw Wn HW.out A c l HL.out) (fun _ => rfl)
    (fun i W => i ≤ l.length ∧ (∃ v, W.heap[bo]? = some (.cells #[v] 48 (0, 0)) ∧ k58.R 58 W (bo + 4) (fun _ => True) v (viewL (viewB Wn l part) os i)) ∧ W.heap[bo + 1]? = some (.cells #[.int .i64 (i : Int)] 3 (0, 0)) ∧ w3.grownBy W none)
    (fun _ _ => False) ?hI (fun cd A B row h _ _ => h.elim) ?hTI (fun A B h k hk1 hlt => h.block k hlt (fun e => by cases e; omega)) ?hIK (fun cd A B h _ => h.elim)
    ⟨Nat.zero_le _, ⟨_, q0, Kd.R_nil _ _ _ _ _⟩, q1, HGR.out⟩ ⟨qx, ql, HSR.out, HGR.out⟩ ?round ?done (fun D cd W _ h _ => h.elim)
  case hI =>
    rintro i A B row ⟨a0, ⟨v, a1, a2⟩, a4, a3⟩ hg hr
    have hr' : ∀ r, row = some r → ∃ o : Obj, A.heap[r]? = some o ∧ o.isCells = false := fun r e => (hr r e).2
    exact ⟨a0, ⟨v, cells_own a1 hg hr', R_own a2 hg hr'⟩, cells_own a4 hg hr', a3.andThen hg (fun j e => .inl (by have := (hr j e).1; omega))⟩
  case hTI =>
    rintro i A B row ⟨a1, a2, a3, a4⟩ hg hr
    have hr' : ∀ r, row = some r → ∃ o : Obj, A.heap[r]? = some o ∧ o.isCells = false := fun r e => (hr r e).2
    exact ⟨cells_own a1 hg hr', cells_own a2 hg hr', a3.own hg hr', a4.andThen hg (fun j e => .inl (by have := (hr j e).1; omega))⟩
  case hIK =>
    rintro i A B ⟨a0, ⟨v, a1, a2⟩, a4, a3⟩ hg
    exact ⟨a0, ⟨v, blk_grown a1 hg (by simp; omega), R_grown_m a2 hg (by omega)⟩, blk_grown a4 hg (by simp; omega), a3.andThen hg (fun j e => by cases e; exact .inl hgw)⟩
  case done =>
    rintro D i W hD hi hTI ⟨a0, ⟨v, a1, a2⟩, a4, a3⟩ hK
    subst hi
    obtain ⟨A8, c8, rfl, _, _⟩ := Kd.R_reads a2
    have x1 := (blk_cell a1 0).trans rfl
    have HI := Aside0.mk (And.intro a1 (And.intro a2 a3))
    have HK := Aside0.mk hK
    clear a1 a2 a3 a4 hTI hK q0 q1 qx ql
    gi_wp2
    refine ⟨by simp, .inl ⟨_, _, rfl, run_takeDeferred HK.out, ?_⟩⟩
    have hr : ∀ r, some D = some r → ∃ o : Obj, W.heap[r]? = some o ∧ o.isCells = false := fun r e => by cases e; exact ⟨_, HK.out, rfl⟩
    have hp := grownBy_putObj' W D (.deferred none)
    exact ⟨.tuple #[.slice A8 (viewL (viewB Wn l part) os l.length).length c8, .int .i64 0], by simp [results, Try.f23, go_sem], _, rfl, Kd.R_lower (R_own HI.out.2.1 hp hr) (by omega), HA.out.trans (HI.out.2.2.andThen hp (fun j e => by cases e; exact .inl (by omega)))⟩
  case round =>
    rintro ll kk x kk' W hll ⟨a0, ⟨v, a1, a2⟩, a4, a3⟩ hTI ⟨hil, rfl, rfl⟩
    simp only
    obtain ⟨vb, hvb⟩ : ∃ vb, vb = viewB Wn l part := ⟨_, rfl⟩
    obtain ⟨fe, hfe⟩ : ∃ fe, fe = fallsE Wn l kk := ⟨_, rfl⟩
    obtain ⟨be, hbe⟩ : ∃ be, be = behE Wn l kk := ⟨_, rfl⟩
    have HVB := Aside0.mk (show vb kk = (fe == part || (fe == -1 && be == part)) by rw [hvb, hfe, hbe]; rfl)
    rw [← hfe, ← hbe]
    rw [← hvb] at a2 ⊢
    have HI := Aside0.mk (And.intro a1 (And.intro a2 (And.intro a4 a3)))
    have HT := Aside0.mk hTI
    obtain ⟨A8, c8, rfl, hq8, _⟩ := Kd.R_reads a2
    have hio : kk < os.length := by have := HLEN.out.2; omega
    clear a1 a2 a3 a4 hTI hfe hbe q0 q1 qx ql hvb
    gi_wp2
    refine ⟨KeepsFrom.refl _ _, fun W2 hg2 hob => ?_⟩
    obtain ⟨o2, ho2, hc2⟩ := hob
    have hr2 : ∀ r, some ll = some r → ∃ o : Obj, W.heap[r]? = some o ∧ o.isCells = false := fun r e => by cases e; exact ⟨o2, ho2, hc2⟩
    have p1 := cells_own HI.out.1 hg2 hr2
    have p2 := R_own HI.out.2.1 hg2 hr2
    have p4 := cells_own HI.out.2.2.1 hg2 hr2
    have p3 : w3.grownBy W2 none := HI.out.2.2.2.andThen hg2 (fun j e => by cases e; exact .inl (by omega))
    have t1 : BoxS W2 (bo + 1 + 1) gs := cells_own HT.out.1 hg2 hr2
    have t2 : BoxL W2 (bo + 1 + 1 + 1) A l.length c := cells_own HT.out.2.1 hg2 hr2
    have t3 := HT.out.2.2.1.own hg2 hr2
    have r0 : W2.cell? ⟨bo, 0, none⟩ = some (.slice A8 (viewL vb os kk).length c8) := (blk_cell p1 0).trans rfl
    have rk : W2.cell? ⟨bo + 1, 0, none⟩ = some (.int .i64 (kk : Int)) := (blk_cell p4 0).trans rfl
    have fk := blk_frozen p4 0
    have ro := (blk_cell (blk_grown H3.out.2.1 p3 (by simp)) 0).trans rfl
    have rp := (blk_cell (blk_grown H3.out.2.2 p3 (by simp)) 0).trans rfl
    obtain ⟨ad, eA, y0, y1, y2, y3, y4⟩ := at_T58 HO.out (kk : Int) (by omega) (by omega)
    subst eA
    obtain ⟨xo, hxo⟩ : ∃ xo, xo = os.getD kk z58 := ⟨_, rfl⟩
    have hrx : rd_T58 os (kk : Int) = xo := by unfold rd_T58; rw [Int.toNat_natCast, hxo]
    rw [hrx, Int.toNat_natCast] at y0 y1 y2 y3 y4
    replace y0 := cells_keep y0 (below_of_grown p3)
    replace y1 := cells_keep y1 (below_of_grown p3)
    replace y2 := cells_keep y2 (below_of_grown p3)
    replace y3 := cells_keep y3 (below_of_grown p3)
    replace y4 := cells_keep y4 (below_of_grown p3)
    have hSV : viewL vb os (kk + 1) = viewL vb os kk ++ if vb kk = true then [xo] else [] := by rw [hxo]; rfl
    obtain ⟨q0, q1, q2, q3, q4⟩ := xo
    have HSV := Aside0.mk hSV
    have hi0 : (0 : Int) ≤ (kk : Int) := by omega
    have hik : (kk : Int) < (os.length : Int) := by omega
    have hw1' : IntKind.i64.wrap ((kk : Int) + 1) = ((kk + 1 : Nat) : Int) := (IntWalk.i64_left _).trans ((IntWalk.wrap64_in _ (by have := HLEN.out.1; omega)).trans (by omega))
    have HP := Aside0.mk (And.intro p1 (And.intro p2 (And.intro p4 p3)))
    have HT2 := Aside0.mk (And.intro t1 (And.intro t2 t3))
    have hB2 : bo + 4 ≤ W2.heap.size := by have := (Array.getElem?_eq_some_iff.1 ho2).1; have := hg2.size; omega
    have HB2 := Aside0.mk hB2
    have HGG2 := Aside0.mk hg2
    simp only at y0 y1 y2 y3 y4
    clear hg2 hr2 p1 p2 p3 p4 t1 t2 t3 ho2 hB2 hxo hrx hSV
    cases e1 : (fe == part)
    · cases e2 : (fe == -1)
      · skip
        have HS := Aside0.mk (show viewL vb os (kk + 1) = viewL vb os kk by rw [HSV.out, HVB.out]; simp [*])
        clear r0 ro
        gi_wp2
        have g5 := gb_set W2 (bo + 1) 0 (.int .i64 ((kk + 1 : Nat) : Int))
        have E5 := blk_far HP.out.1 (p := ⟨bo + 1, 0, none⟩) (by simp) (.int .i64 ((kk + 1 : Nat) : Int))
        have K5 := blk_put HP.out.2.2.1 0 (.int .i64 ((kk + 1 : Nat) : Int)) rfl
        have hgz : w3.grownBy _ none := HP.out.2.2.2.andThen g5 (fun j e => by cases e; exact .inl (by omega))
        rw [HS.out]
        refine ⟨(KeepsOthers.setCell _ _ _).from _, ⟨by omega, ⟨_, E5, ?_⟩, K5, hgz⟩, ?_⟩
        · exact Kd.R_mono (Kd.R_far (p := ⟨bo + 1, 0, none⟩) (Kd.R_bound HP.out.2.1) (fun k hk e => by have h5 := hk.2.1; have h6 : k = bo + 1 := e; omega) _) (fun _ _ => trivial)
        · exact ⟨blk_grown HT2.out.1 g5 (fun e => by have := Option.some.inj e; omega), blk_grown HT2.out.2.1 g5 (fun e => by have := Option.some.inj e; omega), HT2.out.2.2.row g5 (fun r e => by cases e; omega), hgz⟩
      · cases e3 : (be == part)
        · skip
          have HS := Aside0.mk (show viewL vb os (kk + 1) = viewL vb os kk by rw [HSV.out, HVB.out]; simp [*])
          clear r0 ro
          gi_wp2
          have g5 := gb_set W2 (bo + 1) 0 (.int .i64 ((kk + 1 : Nat) : Int))
          have E5 := blk_far HP.out.1 (p := ⟨bo + 1, 0, none⟩) (by simp) (.int .i64 ((kk + 1 : Nat) : Int))
          have K5 := blk_put HP.out.2.2.1 0 (.int .i64 ((kk + 1 : Nat) : Int)) rfl
          have hgz : w3.grownBy _ none := HP.out.2.2.2.andThen g5 (fun j e => by cases e; exact .inl (by omega))
          rw [HS.out]
          refine ⟨(KeepsOthers.setCell _ _ _).from _, ⟨by omega, ⟨_, E5, ?_⟩, K5, hgz⟩, ?_⟩
          · exact Kd.R_mono (Kd.R_far (p := ⟨bo + 1, 0, none⟩) (Kd.R_bound HP.out.2.1) (fun k hk e => by have h5 := hk.2.1; have h6 : k = bo + 1 := e; omega) _) (fun _ _ => trivial)
          · exact ⟨blk_grown HT2.out.1 g5 (fun e => by have := Option.some.inj e; omega), blk_grown HT2.out.2.1 g5 (fun e => by have := Option.some.inj e; omega), HT2.out.2.2.row g5 (fun r e => by cases e; omega), hgz⟩
        · gi_wp2_with fail
          have hd1 : W2.grownBy W2.drew none := gb_drew (World.grownBy.refl _ _)
          obtain ⟨W1d, hW1d⟩ : ∃ W1d, W1d = W2.drew.alloc (.cells #[.int .i64 q0, .int .i64 q1, .int .i64 q2, .int .u32 q3, .int .u32 q4] 58) := ⟨_, rfl⟩
          have hd2 : W2.grownBy W1d none := by rw [hW1d]; exact hd1.trans (World.grownBy_alloc _ _ none)
          have HW1D := Aside0.mk hW1d
          clear hW1d
          have r0' := (blk_cell (blk_grown HP.out.1 hd2 (by simp)) 0).trans rfl
          have rk' := (blk_cell (blk_grown HP.out.2.2.1 hd2 (by simp)) 0).trans rfl
          have ro' := (blk_cell (blk_grown H3.out.2.1 (HP.out.2.2.2.trans hd2) (by simp)) 0).trans rfl
          have y0' := cells_keep y0 (below_of_grown hd2)
          have y1' := cells_keep y1 (below_of_grown hd2)
          have y2' := cells_keep y2 (below_of_grown hd2)
          have y3' := cells_keep y3 (below_of_grown hd2)
          have y4' := cells_keep y4 (below_of_grown hd2)
          refine wpIn_draw (l := _) (by kernel_rfl) 6 [(0, 47), (1, 48), (2, 49), (3, 50), (4, 51), (5, 52)] (RdA 6 5 [.slice A8 (viewL vb os kk).length c8, .slice (some ad) os.length co, .int .i64 (kk : Int), .pointer (some (ad.add (kk * 5))), .agg #[.int .i64 q0, .int .i64 q1, .int .i64 q2, .int .u32 q3, .int .u32 q4], .slice (some ⟨W2.heap.size, 0, none⟩) 1 1] W2 W1d) (by kernel_rfl) rfl (RdA.start _ _ _ _ _) ?hs ?ht
          case hs =>
            intro i o hi ho bq fq W' hbi hdep hI
            have HI := Aside0.mk hI
            have HD := Aside0.mk hdep
            have hwq := hI.1
            clear hI hdep
            match i, hi, ho, hbi with
            | 0, _, ho, hbi =>
              cases ho
              simp only [frm, Act.put, List.setIfInBounds_toArray, List.set_cons_zero, List.set_cons_succ, Array.getD_eq_getD_getElem?, List.getElem?_toArray, List.getElem?_cons_zero, List.getElem?_cons_succ, Option.getD_some]
              cases hq5 : bq 5
              · rw [hq5, if_neg (by decide)] at hwq
                subst hwq
                clear hq5
                gi_wp2
                exact ⟨_, rfl, HI.out.next (by decide) rfl⟩
              · rw [hq5, if_pos rfl] at hwq
                subst hwq
                clear hq5
                gi_wp2
                exact ⟨_, rfl, HI.out.next (by decide) rfl⟩
            | 1, _, ho, hbi =>
              cases ho
              simp only [frm, Act.put, List.setIfInBounds_toArray, List.set_cons_zero, List.set_cons_succ, Array.getD_eq_getD_getElem?, List.getElem?_toArray, List.getElem?_cons_zero, List.getElem?_cons_succ, Option.getD_some]
              cases hq5 : bq 5
              · rw [hq5, if_neg (by decide)] at hwq
                subst hwq
                clear hq5
                gi_wp2
                exact ⟨_, rfl, HI.out.next (by decide) rfl⟩
              · rw [hq5, if_pos rfl] at hwq
                subst hwq
                clear hq5
                gi_wp2
                exact ⟨_, rfl, HI.out.next (by decide) rfl⟩
            | 2, _, ho, hbi =>
              cases ho
              simp only [frm, Act.put, List.setIfInBounds_toArray, List.set_cons_zero, List.set_cons_succ, Array.getD_eq_getD_getElem?, List.getElem?_toArray, List.getElem?_cons_zero, List.getElem?_cons_succ, Option.getD_some]
              cases hq5 : bq 5
              · rw [hq5, if_neg (by decide)] at hwq
                subst hwq
                clear hq5
                gi_wp2
                exact ⟨_, rfl, HI.out.next (by decide) rfl⟩
              · rw [hq5, if_pos rfl] at hwq
                subst hwq
                clear hq5
                gi_wp2
                exact ⟨_, rfl, HI.out.next (by decide) rfl⟩
            | 3, _, ho, hbi =>
              cases ho
              have hb1 : bq 1 = true := HD.out { on := 1, ground := Ground.data } (by simp) rfl
              have h1 : fq 1 = .slice (some ad) os.length co := HI.out.2 1 (by decide) hb1
              have hb2 : bq 2 = true := HD.out { on := 2, ground := Ground.data } (by simp) rfl
              have h2 : fq 2 = .int .i64 (kk : Int) := HI.out.2 2 (by decide) hb2
              simp only [frm, Act.put, List.setIfInBounds_toArray, List.set_cons_zero, List.set_cons_succ, Array.getD_eq_getD_getElem?, List.getElem?_toArray, List.getElem?_cons_zero, List.getElem?_cons_succ, Option.getD_some, hb1, h1, hb2, h2, sel_true]
              clear h1 hb1
              clear h2 hb2
              cases hq5 : bq 5
              · rw [hq5, if_neg (by decide)] at hwq
                subst hwq
                clear hq5
                gi_wp2
                exact ⟨_, rfl, HI.out.next (by decide) rfl⟩
              · rw [hq5, if_pos rfl] at hwq
                subst hwq
                clear hq5
                gi_wp2
                exact ⟨_, rfl, HI.out.next (by decide) rfl⟩
            | 4, _, ho, hbi =>
              cases ho
              have hb3 : bq 3 = true := HD.out { on := 3, ground := Ground.data } (by simp) rfl
              have h3 : fq 3 = .pointer (some (ad.add (kk * 5))) := HI.out.2 3 (by decide) hb3
              simp only [frm, Act.put, List.setIfInBounds_toArray, List.set_cons_zero, List.set_cons_succ, Array.getD_eq_getD_getElem?, List.getElem?_toArray, List.getElem?_cons_zero, List.getElem?_cons_succ, Option.getD_some, hb3, h3, sel_true]
              clear h3 hb3
              cases hq5 : bq 5
              · rw [hq5, if_neg (by decide)] at hwq
                subst hwq
                clear hq5
                gi_wp2
                exact ⟨_, rfl, HI.out.next (by decide) rfl⟩
              · rw [hq5, if_pos rfl] at hwq
                subst hwq
                clear hq5
                gi_wp2
                exact ⟨_, rfl, HI.out.next (by decide) rfl⟩
            | 5, _, ho, hbi =>
              cases ho
              have hb4 : bq 4 = true := HD.out { on := 4, ground := Ground.data } (by simp) rfl
              have h4 : fq 4 = .agg #[.int .i64 q0, .int .i64 q1, .int .i64 q2, .int .u32 q3, .int .u32 q4] := HI.out.2 4 (by decide) hb4
              simp only [frm, Act.put, List.setIfInBounds_toArray, List.set_cons_zero, List.set_cons_succ, Array.getD_eq_getD_getElem?, List.getElem?_toArray, List.getElem?_cons_zero, List.getElem?_cons_succ, Option.getD_some, hb4, h4, sel_true]
              clear h4 hb4
              rw [hbi, if_neg (by decide)] at hwq
              subst hwq
              gi_wp2
              exact ⟨_, rfl, HI.out.nextm rfl HW1D.out.symm⟩
          case ht =>
            intro bq fq W' hb hI
            have hwq := hI.1
            rw [hb 5 (by decide), if_pos rfl] at hwq
            subst hwq
            have h0 : fq 0 = .slice A8 (viewL vb os kk).length c8 := hI.2 0 (by decide) (hb 0 (by decide))
            have h1 : fq 1 = .slice (some ad) os.length co := hI.2 1 (by decide) (hb 1 (by decide))
            have h2 : fq 2 = .int .i64 (kk : Int) := hI.2 2 (by decide) (hb 2 (by decide))
            have h3 : fq 3 = .pointer (some (ad.add (kk * 5))) := hI.2 3 (by decide) (hb 3 (by decide))
            have h4 : fq 4 = .agg #[.int .i64 q0, .int .i64 q1, .int .i64 q2, .int .u32 q3, .int .u32 q4] := hI.2 4 (by decide) (hb 4 (by decide))
            have h5 : fq 5 = .slice (some ⟨W2.heap.size, 0, none⟩) 1 1 := hI.2 5 (by decide) (hb 5 (by decide))
            simp only [frm, Act.put, List.setIfInBounds_toArray, List.set_cons_zero, List.set_cons_succ, Array.getD_eq_getD_getElem?, List.getElem?_toArray, List.getElem?_cons_zero, List.getElem?_cons_succ, Option.getD_some, sel_true, h0, h1, h2, h3, h4, h5]
            clear hI hb h0 h1 h2 h3 h4 h5
            simp only [List.drop_succ_cons, List.drop_zero]
            have HS := Aside0.mk (show viewL vb os (kk + 1) = viewL vb os kk ++ [⟨q0, q1, q2, q3, q4⟩] by rw [HSV.out, HVB.out]; simp [*])
            rw [HW1D.out]
            have HPO := Aside0.mk (blk_grown HP.out.1 hd1 (by simp))
            have HPK := Aside0.mk (blk_grown HP.out.2.2.1 hd1 (by simp))
            have HPR := Aside0.mk (R_grown_n HP.out.2.1 hd1)
            have HPG := Aside0.mk (HP.out.2.2.2.trans hd1)
            have HD1 := Aside0.mk hd1
            clear r0 rk ro rp hd1 hd2 r0' rk' ro' y0 y1 y2 y3 y4 y0' y1' y2' y3' y4'
            gi_wp2_with (gi_at_builtin; go_loud (refine R_appendIn k58 (W := W2.drew) (bo + 4) rfl (.tmp 47) (.tmp 52) 48 58 (.agg #[.int .i64 0, .int .i64 0, .int .i64 0, .int .u32 0, .int .u32 0]) 32 rfl Try.underlying48 info58 rfl (by decide) (by decide) (.slice A8 (viewL vb os kk).length c8) (viewL vb os kk) ⟨q0, q1, q2, q3, q4⟩ [.int .i64 q0, .int .i64 q1, .int .i64 q2, .int .u32 q3, .int .u32 q4] (fun _ => True) (fun _ => False) rfl rfl (k58_mkM _ _ _ ⟨q0, q1, q2, q3, q4⟩) (fun _ h => h.elim) (fun _ _ => trivial) HPR.out HB2.out ?hln ?_); (case hln => have := viewL_len vb os kk; have := HLEN.out; omega); intro v1 W3 hR3 hg3 hat3; rw [← HS.out] at hR3; obtain ⟨Tj, hTj⟩ : ∃ Tj, Tj = viewL vb os (kk + 1) := ⟨_, rfl⟩; rw [← hTj] at hR3; obtain ⟨A9, c9, rfl, _, _⟩ := Kd.R_reads hR3; have hne : ∀ b, b < bo + 4 → some b ≠ (Value.slice A8 (viewL vb os kk).length c8).ownBlock := (fun b hb e => by have := Kd.R_base HPR.out b e.symm; omega); have e3 := blk_grown HPO.out hg3 (hne bo (by omega)); have k3 := blk_grown HPK.out hg3 (hne (bo + 1) (by omega)); have y30 := (blk_cell e3 0).trans rfl; have z30 := blk_frozen e3 0; have w30 := (blk_cell (blk_far k3 (p := ⟨bo, 0, none⟩) (by simp) (.slice A9 Tj.length c9)) 0).trans rfl; have w31 := blk_frozen (blk_far k3 (p := ⟨bo, 0, none⟩) (by simp) (.slice A9 Tj.length c9)) 0; have E3 := Aside0.mk e3; have K3 := Aside0.mk k3; have HR3 := Aside0.mk hR3; have HG3 := Aside0.mk hg3; have HNE := Aside0.mk hne; have HTJ := Aside0.mk hTj; clear hR3 hg3 hat3 e3 k3 hne hTj)
            rw [← HTJ.out]
            have hrow : ∀ (j : Nat) (o : Obj), (Value.slice A8 (viewL vb os kk).length c8).ownBlock = some j → W2.drew.heap[j]? = some o → o.isCells = true := fun j o hj ho => by
              obtain ⟨_, _, _, q, _, cells, h5⟩ := (Kd.R_bound HPR.out).1 j hj
              rw [h5] at ho; cases ho; rfl
            have hs3 := (HT2.out.2.2.grown HD1.out).row HG3.out (fun r e => by have := Kd.R_base HPR.out r e; omega)
            have hgf : w3.grownBy W3 none := HPG.out.andThen HG3.out (fun j e => .inl (by have := Kd.R_base HPR.out j e; omega))
            have g4 := gb_set W3 bo 0 (.slice A9 Tj.length c9)
            have g5 := gb_set (W3.setCell ⟨bo, 0, none⟩ (.slice A9 Tj.length c9)) (bo + 1) 0 (.int .i64 ((kk + 1 : Nat) : Int))
            have E5 := blk_far (blk_put E3.out 0 (.slice A9 Tj.length c9) rfl) (p := ⟨bo + 1, 0, none⟩) (by simp) (.int .i64 ((kk + 1 : Nat) : Int))
            have K5 := blk_put (blk_far K3.out (p := ⟨bo, 0, none⟩) (by simp) (.slice A9 Tj.length c9)) 0 (.int .i64 ((kk + 1 : Nat) : Int)) rfl
            have hgz : w3.grownBy _ none := (hgf.andThen g4 (fun j e => by cases e; exact .inl (by omega))).andThen g5 (fun j e => by cases e; exact .inl (by omega))
            have keepb : ∀ (b : Nat) (o : Obj), b ≠ bo → b ≠ bo + 1 → b < bo + 4 → W2.heap[b]? = some o → _ := fun b o n1 n2 n3 h => blk_grown (blk_grown (blk_grown (blk_grown h HD1.out (by simp)) HG3.out (HNE.out _ n3)) g4 (fun e => n1 (Option.some.inj e))) g5 (fun e => n2 (Option.some.inj e))
            refine ⟨((((KeepsOthers.of_grownBy HD1.out (fun j o h => by cases h)).trans (KeepsOthers.of_grownBy HG3.out hrow)).trans (KeepsOthers.setCell _ _ _)).trans (KeepsOthers.setCell _ _ _)).from _, ⟨by omega, ⟨_, E5, ?_⟩, K5, hgz⟩, ?_⟩
            · exact Kd.R_mono (Kd.R_far (p := ⟨bo + 1, 0, none⟩) (Kd.R_far (p := ⟨bo, 0, none⟩) (Kd.R_bound HR3.out) (fun k hk e => by have h5 := hk.2.1; have h6 : k = bo := e; omega) _) (fun k hk e => by have h5 := hk.2.1; have h6 : k = bo + 1 := e; omega) _) (fun _ _ => trivial)
            · exact ⟨keepb _ _ (by omega) (by omega) (by omega) HT2.out.1, keepb _ _ (by omega) (by omega) (by omega) HT2.out.2.1, (hs3.row g4 (fun r e => by cases e; omega)).row g5 (fun r e => by cases e; omega), hgz⟩
    · gi_wp2_with fail
      have hd1 : W2.grownBy W2.drew none := gb_drew (World.grownBy.refl _ _)
      obtain ⟨W1d, hW1d⟩ : ∃ W1d, W1d = W2.drew.alloc (.cells #[.int .i64 q0, .int .i64 q1, .int .i64 q2, .int .u32 q3, .int .u32 q4] 58) := ⟨_, rfl⟩
      have hd2 : W2.grownBy W1d none := by rw [hW1d]; exact hd1.trans (World.grownBy_alloc _ _ none)
      have HW1D := Aside0.mk hW1d
      clear hW1d
      have r0' := (blk_cell (blk_grown HP.out.1 hd2 (by simp)) 0).trans rfl
      have rk' := (blk_cell (blk_grown HP.out.2.2.1 hd2 (by simp)) 0).trans rfl
      have ro' := (blk_cell (blk_grown H3.out.2.1 (HP.out.2.2.2.trans hd2) (by simp)) 0).trans rfl
      have y0' := cells_keep y0 (below_of_grown hd2)
      have y1' := cells_keep y1 (below_of_grown hd2)
      have y2' := cells_keep y2 (below_of_grown hd2)
      have y3' := cells_keep y3 (below_of_grown hd2)
      have y4' := cells_keep y4 (below_of_grown hd2)
      refine wpIn_draw (l := _) (by kernel_rfl) 6 [(0, 47), (1, 48), (2, 49), (3, 50), (4, 51), (5, 52)] (RdA 6 5 [.slice A8 (viewL vb os kk).length c8, .slice (some ad) os.length co, .int .i64 (kk : Int), .pointer (some (ad.add (kk * 5))), .agg #[.int .i64 q0, .int .i64 q1, .int .i64 q2, .int .u32 q3, .int .u32 q4], .slice (some ⟨W2.heap.size, 0, none⟩) 1 1] W2 W1d) (by kernel_rfl) rfl (RdA.start _ _ _ _ _) ?hs ?ht
      case hs =>
        intro i o hi ho bq fq W' hbi hdep hI
        have HI := Aside0.mk hI
        have HD := Aside0.mk hdep
        have hwq := hI.1
        clear hI hdep
        match i, hi, ho, hbi with
        | 0, _, ho, hbi =>
          cases ho
          simp only [frm, Act.put, List.setIfInBounds_toArray, List.set_cons_zero, List.set_cons_succ, Array.getD_eq_getD_getElem?, List.getElem?_toArray, List.getElem?_cons_zero, List.getElem?_cons_succ, Option.getD_some]
          cases hq5 : bq 5
          · rw [hq5, if_neg (by decide)] at hwq
            subst hwq
            clear hq5
            gi_wp2
            exact ⟨_, rfl, HI.out.next (by decide) rfl⟩
          · rw [hq5, if_pos rfl] at hwq
            subst hwq
            clear hq5
            gi_wp2
            exact ⟨_, rfl, HI.out.next (by decide) rfl⟩
        | 1, _, ho, hbi =>
          cases ho
          simp only [frm, Act.put, List.setIfInBounds_toArray, List.set_cons_zero, List.set_cons_succ, Array.getD_eq_getD_getElem?, List.getElem?_toArray, List.getElem?_cons_zero, List.getElem?_cons_succ, Option.getD_some]
          cases hq5 : bq 5
          · rw [hq5, if_neg (by decide)] at hwq
            subst hwq
            clear hq5
            gi_wp2
            exact ⟨_, rfl, HI.out.next (by decide) rfl⟩
          · rw [hq5, if_pos rfl] at hwq
            subst hwq
            clear hq5
            gi_wp2
            exact ⟨_, rfl, HI.out.next (by decide) rfl⟩
        | 2, _, ho, hbi =>
          cases ho
          simp only [frm, Act.put, List.setIfInBounds_toArray, List.set_cons_zero, List.set_cons_succ, Array.getD_eq_getD_getElem?, List.getElem?_toArray, List.getElem?_cons_zero, List.getElem?_cons_succ, Option.getD_some]
          cases hq5 : bq 5
          · rw [hq5, if_neg (by decide)] at hwq
            subst hwq
            clear hq5
            gi_wp2
            exact ⟨_, rfl, HI.out.next (by decide) rfl⟩
          · rw [hq5, if_pos rfl] at hwq
            subst hwq
            clear hq5
            gi_wp2
            exact ⟨_, rfl, HI.out.next (by decide) rfl⟩
        | 3, _, ho, hbi =>
          cases ho
          have hb1 : bq 1 = true := HD.out { on := 1, ground := Ground.data } (by simp) rfl
          have h1 : fq 1 = .slice (some ad) os.length co := HI.out.2 1 (by decide) hb1
          have hb2 : bq 2 = true := HD.out { on := 2, ground := Ground.data } (by simp) rfl
          have h2 : fq 2 = .int .i64 (kk : Int) := HI.out.2 2 (by decide) hb2
          simp only [frm, Act.put, List.setIfInBounds_toArray, List.set_cons_zero, List.set_cons_succ, Array.getD_eq_getD_getElem?, List.getElem?_toArray, List.getElem?_cons_zero, List.getElem?_cons_succ, Option.getD_some, hb1, h1, hb2, h2, sel_true]
          clear h1 hb1
          clear h2 hb2
          cases hq5 : bq 5
          · rw [hq5, if_neg (by decide)] at hwq
            subst hwq
            clear hq5
            gi_wp2
            exact ⟨_, rfl, HI.out.next (by decide) rfl⟩
          · rw [hq5, if_pos rfl] at hwq
            subst hwq
            clear hq5
            gi_wp2
            exact ⟨_, rfl, HI.out.next (by decide) rfl⟩
        | 4, _, ho, hbi =>
          cases ho
          have hb3 : bq 3 = true := HD.out { on := 3, ground := Ground.data } (by simp) rfl
          have h3 : fq 3 = .pointer (some (ad.add (kk * 5))) := HI.out.2 3 (by decide) hb3
          simp only [frm, Act.put, List.setIfInBounds_toArray, List.set_cons_zero, List.set_cons_succ, Array.getD_eq_getD_getElem?, List.getElem?_toArray, List.getElem?_cons_zero, List.getElem?_cons_succ, Option.getD_some, hb3, h3, sel_true]
          clear h3 hb3
          cases hq5 : bq 5
          · rw [hq5, if_neg (by decide)] at hwq
            subst hwq
            clear hq5
            gi_wp2
            exact ⟨_, rfl, HI.out.next (by decide) rfl⟩
          · rw [hq5, if_pos rfl] at hwq
            subst hwq
            clear hq5
            gi_wp2
            exact ⟨_, rfl, HI.out.next (by decide) rfl⟩
        | 5, _, ho, hbi =>
          cases ho
          have hb4 : bq 4 = true := HD.out { on := 4, ground := Ground.data } (by simp) rfl
          have h4 : fq 4 = .agg #[.int .i64 q0, .int .i64 q1, .int .i64 q2, .int .u32 q3, .int .u32 q4] := HI.out.2 4 (by decide) hb4
          simp only [frm, Act.put, List.setIfInBounds_toArray, List.set_cons_zero, List.set_cons_succ, Array.getD_eq_getD_getElem?, List.getElem?_toArray, List.getElem?_cons_zero, List.getElem?_cons_succ, Option.getD_some, hb4, h4, sel_true]
          clear h4 hb4
          rw [hbi, if_neg (by decide)] at hwq
          subst hwq
          gi_wp2
          exact ⟨_, rfl, HI.out.nextm rfl HW1D.out.symm⟩
      case ht =>
        intro bq fq W' hb hI
        have hwq := hI.1
        rw [hb 5 (by decide), if_pos rfl] at hwq
        subst hwq
        have h0 : fq 0 = .slice A8 (viewL vb os kk).length c8 := hI.2 0 (by decide) (hb 0 (by decide))
        have h1 : fq 1 = .slice (some ad) os.length co := hI.2 1 (by decide) (hb 1 (by decide))
        have h2 : fq 2 = .int .i64 (kk : Int) := hI.2 2 (by decide) (hb 2 (by decide))
        have h3 : fq 3 = .pointer (some (ad.add (kk * 5))) := hI.2 3 (by decide) (hb 3 (by decide))
        have h4 : fq 4 = .agg #[.int .i64 q0, .int .i64 q1, .int .i64 q2, .int .u32 q3, .int .u32 q4] := hI.2 4 (by decide) (hb 4 (by decide))
        have h5 : fq 5 = .slice (some ⟨W2.heap.size, 0, none⟩) 1 1 := hI.2 5 (by decide) (hb 5 (by decide))
        simp only [frm, Act.put, List.setIfInBounds_toArray, List.set_cons_zero, List.set_cons_succ, Array.getD_eq_getD_getElem?, List.getElem?_toArray, List.getElem?_cons_zero, List.getElem?_cons_succ, Option.getD_some, sel_true, h0, h1, h2, h3, h4, h5]
        clear hI hb h0 h1 h2 h3 h4 h5
        simp only [List.drop_succ_cons, List.drop_zero]
        have HS := Aside0.mk (show viewL vb os (kk + 1) = viewL vb os kk ++ [⟨q0, q1, q2, q3, q4⟩] by rw [HSV.out, HVB.out]; simp [*])
        rw [HW1D.out]
        have HPO := Aside0.mk (blk_grown HP.out.1 hd1 (by simp))
        have HPK := Aside0.mk (blk_grown HP.out.2.2.1 hd1 (by simp))
        have HPR := Aside0.mk (R_grown_n HP.out.2.1 hd1)
        have HPG := Aside0.mk (HP.out.2.2.2.trans hd1)
        have HD1 := Aside0.mk hd1
        clear r0 rk ro rp hd1 hd2 r0' rk' ro' y0 y1 y2 y3 y4 y0' y1' y2' y3' y4'
        gi_wp2_with (gi_at_builtin; go_loud (refine R_appendIn k58 (W := W2.drew) (bo + 4) rfl (.tmp 47) (.tmp 52) 48 58 (.agg #[.int .i64 0, .int .i64 0, .int .i64 0, .int .u32 0, .int .u32 0]) 32 rfl Try.underlying48 info58 rfl (by decide) (by decide) (.slice A8 (viewL vb os kk).length c8) (viewL vb os kk) ⟨q0, q1, q2, q3, q4⟩ [.int .i64 q0, .int .i64 q1, .int .i64 q2, .int .u32 q3, .int .u32 q4] (fun _ => True) (fun _ => False) rfl rfl (k58_mkM _ _ _ ⟨q0, q1, q2, q3, q4⟩) (fun _ h => h.elim) (fun _ _ => trivial) HPR.out HB2.out ?hln ?_); (case hln => have := viewL_len vb os kk; have := HLEN.out; omega); intro v1 W3 hR3 hg3 hat3; rw [← HS.out] at hR3; obtain ⟨Tj, hTj⟩ : ∃ Tj, Tj = viewL vb os (kk + 1) := ⟨_, rfl⟩; rw [← hTj] at hR3; obtain ⟨A9, c9, rfl, _, _⟩ := Kd.R_reads hR3; have hne : ∀ b, b < bo + 4 → some b ≠ (Value.slice A8 (viewL vb os kk).length c8).ownBlock := (fun b hb e => by have := Kd.R_base HPR.out b e.symm; omega); have e3 := blk_grown HPO.out hg3 (hne bo (by omega)); have k3 := blk_grown HPK.out hg3 (hne (bo + 1) (by omega)); have y30 := (blk_cell e3 0).trans rfl; have z30 := blk_frozen e3 0; have w30 := (blk_cell (blk_far k3 (p := ⟨bo, 0, none⟩) (by simp) (.slice A9 Tj.length c9)) 0).trans rfl; have w31 := blk_frozen (blk_far k3 (p := ⟨bo, 0, none⟩) (by simp) (.slice A9 Tj.length c9)) 0; have E3 := Aside0.mk e3; have K3 := Aside0.mk k3; have HR3 := Aside0.mk hR3; have HG3 := Aside0.mk hg3; have HNE := Aside0.mk hne; have HTJ := Aside0.mk hTj; clear hR3 hg3 hat3 e3 k3 hne hTj)
        rw [← HTJ.out]
        have hrow : ∀ (j : Nat) (o : Obj), (Value.slice A8 (viewL vb os kk).length c8).ownBlock = some j → W2.drew.heap[j]? = some o → o.isCells = true := fun j o hj ho => by
          obtain ⟨_, _, _, q, _, cells, h5⟩ := (Kd.R_bound HPR.out).1 j hj
          rw [h5] at ho; cases ho; rfl
        have hs3 := (HT2.out.2.2.grown HD1.out).row HG3.out (fun r e => by have := Kd.R_base HPR.out r e; omega)
        have hgf : w3.grownBy W3 none := HPG.out.andThen HG3.out (fun j e => .inl (by have := Kd.R_base HPR.out j e; omega))
        have g4 := gb_set W3 bo 0 (.slice A9 Tj.length c9)
        have g5 := gb_set (W3.setCell ⟨bo, 0, none⟩ (.slice A9 Tj.length c9)) (bo + 1) 0 (.int .i64 ((kk + 1 : Nat) : Int))
        have E5 := blk_far (blk_put E3.out 0 (.slice A9 Tj.length c9) rfl) (p := ⟨bo + 1, 0, none⟩) (by simp) (.int .i64 ((kk + 1 : Nat) : Int))
        have K5 := blk_put (blk_far K3.out (p := ⟨bo, 0, none⟩) (by simp) (.slice A9 Tj.length c9)) 0 (.int .i64 ((kk + 1 : Nat) : Int)) rfl
        have hgz : w3.grownBy _ none := (hgf.andThen g4 (fun j e => by cases e; exact .inl (by omega))).andThen g5 (fun j e => by cases e; exact .inl (by omega))
        have keepb : ∀ (b : Nat) (o : Obj), b ≠ bo → b ≠ bo + 1 → b < bo + 4 → W2.heap[b]? = some o → _ := fun b o n1 n2 n3 h => blk_grown (blk_grown (blk_grown (blk_grown h HD1.out (by simp)) HG3.out (HNE.out _ n3)) g4 (fun e => n1 (Option.some.inj e))) g5 (fun e => n2 (Option.some.inj e))
        refine ⟨((((KeepsOthers.of_grownBy HD1.out (fun j o h => by cases h)).trans (KeepsOthers.of_grownBy HG3.out hrow)).trans (KeepsOthers.setCell _ _ _)).trans (KeepsOthers.setCell _ _ _)).from _, ⟨by omega, ⟨_, E5, ?_⟩, K5, hgz⟩, ?_⟩
        · exact Kd.R_mono (Kd.R_far (p := ⟨bo + 1, 0, none⟩) (Kd.R_far (p := ⟨bo, 0, none⟩) (Kd.R_bound HR3.out) (fun k hk e => by have h5 := hk.2.1; have h6 : k = bo := e; omega) _) (fun k hk e => by have h5 := hk.2.1; have h6 : k = bo + 1 := e; omega) _) (fun _ _ => trivial)
        · exact ⟨keepb _ _ (by omega) (by omega) (by omega) HT2.out.1, keepb _ _ (by omega) (by omega) (by omega) HT2.out.2.1, (hs3.row g4 (fun r e => by cases e; omega)).row g5 (fun r e => by cases e; omega), hgz⟩
set_option maxHeartbeats 4000000 in
theorem view_bad (P : List S73) (Wn : List S75) (Cn : List S46) (l : List S56) (os : List S58) (part : Int) (A0 : Option Addr) (c0 : Nat) (A1 : Option Addr) (c1 : Nat) (A2 : Option Addr) (c2 : Nat) (A : Option Addr) (c : Nat) (Ao : Option Addr) (co : Nat) (w : World) (h0 : Kd.C k73 w A0 P.length P) (hc0 : P.length ≤ c0) (h1 : Kd.C k75 w A1 Wn.length Wn) (hc1 : Wn.length ≤ c1) (h2 : Kd.C k46 w A2 Cn.length Cn) (hc2 : Cn.length ≤ c2) (hno : ¬ (begE P Wn Cn part = 0 ∧ l.length = os.length)) :
    Calls Try.prog 23 #[.agg #[.slice A0 P.length c0, .slice A1 Wn.length c1, .slice A2 Cn.length c2], .slice A l.length c, .slice Ao os.length co, .int .i64 part] w fun e W' => e = .returned (.tuple #[.slice none 0 0, .int .i64 (viewR P Wn Cn l os part)]) ∧ w.grownBy W' none := by
  obtain ⟨w3, hw3⟩ : ∃ w3, w3 = ((w.alloc (.cells #[.slice A0 P.length c0, .slice A1 Wn.length c1, .slice A2 Cn.length c2] 26)).alloc (.cells #[.slice Ao os.length co] 48)).alloc (.cells #[.int .i64 part] 3) := ⟨_, rfl⟩
  have hA : w.grownBy w3 none := by rw [hw3]; exact ((World.grownBy_alloc w _ none).trans (World.grownBy_alloc _ _ none)).trans (World.grownBy_alloc _ _ none)
  have b3o : w3.heap[w.heap.size + 1]? = some (.cells #[.slice Ao os.length co] 48 (0, 0)) := by rw [hw3]; exact blk_alloc (new_at _ (by simp)) _
  have hN := (begin_calls P Wn Cn part A0 c0 A1 c1 A2 c2 _ (Kd.C_below h0 (below_of_grown hA)) hc0 (Kd.C_below h1 (below_of_grown hA)) hc1 (Kd.C_below h2 (below_of_grown hA)) hc2)
  by_cases he : begE P Wn Cn part = 0
  · have hlo : ¬ l.length = os.length := fun h => hno ⟨he, h⟩
    have hv : viewR P Wn Cn l os part = 2 := by unfold viewR; rw [if_pos he, if_neg hlo]
    have hlb : ((l.length : Int) != (os.length : Int)) = true := by rw [bne_iff_ne]; omega
    have HN := Aside0.mk (hN.1 he)
    have HA := Aside0.mk hA
    have H3 := Aside0.mk b3o
    rw [hv]
    rw [hw3] at HN
    have HW3 := Aside0.mk hw3
    clear h0 h1 h2 hA hN he hlo hv hno b3o hw3
    go_enter Try.func23, Try.ntmps23
    go_wp2_with (go_at_call 27; refine HN.out.mono ?_; rintro e W1 ⟨gs, hgs, rfl, hS, hg⟩; rw [← HW3.out] at hg; have xo := (blk_cell (blk_grown H3.out hg (by simp)) 0).trans rfl; have HG1 := Aside0.mk (HA.out.trans hg); clear hg hS hgs)
    go_ret2
    exact ⟨rfl, HG1.out⟩
  · have hn := hN.2 he
    have hv : viewR P Wn Cn l os part = begE P Wn Cn part := by unfold viewR; rw [if_neg he]
    rw [hv]
    obtain ⟨E, hE⟩ : ∃ E, E = begE P Wn Cn part := ⟨_, rfl⟩
    rw [← hE] at hn he ⊢
    have HN := Aside0.mk hn
    have HA := Aside0.mk hA
    rw [hw3] at HN
    have HW3 := Aside0.mk hw3
    have e0b : (E != 0) = true := by rw [bne_iff_ne]; exact he
    clear h0 h1 h2 hA hN he hn hE hv hno b3o hw3
    go_enter Try.func23, Try.ntmps23
    go_wp2_with (go_at_call 27; refine HN.out.mono ?_; rintro e W1 ⟨rfl, hg⟩; rw [← HW3.out] at hg; have HG1 := Aside0.mk (HA.out.trans hg); clear hg)
    go_ret2
    exact ⟨rfl, HG1.out⟩
def watch_View.f (k : Nat) (l0_0 : List S73) (l0_1 : List S75) (l0_2 : List S46) (l1 : List S56) (l2 : List S58) (a3 : Int) : Option (List S58 × Int) := if l1.length ≤ 1000000 then some (viewE l0_0 l0_1 l0_2 l1 l2 a3, viewR l0_0 l0_1 l0_2 l1 l2 a3) else none
theorem watch_View.mono : ∀ a0 a1 a2 a3 a4 a5 k, LeO (watch_View.f k a0 a1 a2 a3 a4 a5) (watch_View.f (k + 1) a0 a1 a2 a3 a4 a5) := fun _ _ _ _ _ _ _ => LeO.refl _
theorem watch_View.calls (k : Nat) (A0_0 : Option Addr) (c0_0 : Nat) (l0_0 : List (S73)) (A0_1 : Option Addr) (c0_1 : Nat) (l0_1 : List (S75)) (A0_2 : Option Addr) (c0_2 : Nat) (l0_2 : List (S46)) (A1 : Option Addr) (c1 : Nat) (l1 : List (S56)) (A2 : Option Addr) (c2 : Nat) (l2 : List (S58)) (a3 : Int) (r1 : List (S58)) (r2 : Int) (w : World) (hr0_0 : Kd.C k73 w A0_0 l0_0.length l0_0) (hc0_0 : l0_0.length ≤ c0_0) (hr0_1 : Kd.C k75 w A0_1 l0_1.length l0_1) (hc0_1 : l0_1.length ≤ c0_1) (hr0_2 : Kd.C k46 w A0_2 l0_2.length l0_2) (hc0_2 : l0_2.length ≤ c0_2) (hr1 : Kd.C k56 w A1 l1.length l1) (hc1 : l1.length ≤ c1) (hr2 : Kd.C k58 w A2 l2.length l2) (hc2 : l2.length ≤ c2) (h : watch_View.f k l0_0 l0_1 l0_2 l1 l2 a3 = some (r1, r2)) :
    Calls Try.prog 23 #[.agg #[.slice A0_0 l0_0.length c0_0, .slice A0_1 l0_1.length c0_1, .slice A0_2 l0_2.length c0_2], .slice A1 l1.length c1, .slice A2 l2.length c2, .int .i64 a3] w fun e w' => ∃ v0_ : Value, e = .returned (.tuple #[v0_, .int .i64 r2]) ∧ Kd.R k58 58 w' w.heap.size (fun _ => True) v0_ r1 ∧ Below w.heap.size w w' := by
  unfold watch_View.f at h
  by_cases hl : l1.length ≤ 1000000
  · rw [if_pos hl] at h
    obtain ⟨rfl, rfl⟩ := Prod.mk.inj (Option.some.inj h)
    by_cases hg : begE l0_0 l0_1 l0_2 a3 = 0 ∧ l1.length = l2.length
    · have h1 : viewE l0_0 l0_1 l0_2 l1 l2 a3 = viewL (viewB l0_1 l1 a3) l2 l1.length := by unfold viewE; rw [if_pos hg.1, if_pos hg.2]
      have h2 : viewR l0_0 l0_1 l0_2 l1 l2 a3 = 0 := by unfold viewR; rw [if_pos hg.1, if_pos hg.2]
      rw [h1, h2]
      exact (view_good l0_0 l0_1 l0_2 l1 l2 a3 A0_0 c0_0 A0_1 c0_1 A0_2 c0_2 A1 c1 A2 c2 w hr0_0 hc0_0 hr0_1 hc0_1 hr0_2 hc0_2 hr1 hc1 hr2 hc2 hl hg.1 hg.2).mono (fun e W ⟨v, a, b, d⟩ => ⟨v, a, b, below_of_grown d⟩)
    · have h1 : viewE l0_0 l0_1 l0_2 l1 l2 a3 = [] := by
        unfold viewE
        by_cases h0 : begE l0_0 l0_1 l0_2 a3 = 0
        · rw [if_pos h0, if_neg (fun h => hg ⟨h0, h⟩)]
        · rw [if_neg h0]
      rw [h1]
      exact (view_bad l0_0 l0_1 l0_2 l1 l2 a3 A0_0 c0_0 A0_1 c0_1 A0_2 c0_2 A1 c1 A2 c2 w hr0_0 hc0_0 hr0_1 hc0_1 hr0_2 hc0_2 hg).mono (fun e W ⟨a, d⟩ => ⟨_, a, Kd.R_nil _ _ _ _ _, below_of_grown d⟩)
  · rw [if_neg hl] at h; cases h
end Go.Proofs.Ytfmpabdaadllaaa.PAll

/-
  What View tells, in plain Lean.
-/
namespace Go.Proofs.Ytfmpabdaadllaaa.PAll
open Go.RowKit Go.Proofs.YtfmpabdaadllaaaW.PrintWords Go.Proofs.YtfmpabdaadllaaaW.PrintLast
set_option linter.unusedVariables false
set_option linter.unusedSimpArgs false
theorem viewE_len (P : List S73) (W : List S75) (C : List S46) (l : List S56) (os : List S58) (part : Int) : (viewE P W C l os part).length ≤ l.length := by
  unfold viewE
  split
  · split
    · exact viewL_len _ _ _
    · exact Nat.zero_le _
  · exact Nat.zero_le _
theorem wview_f (P : List S73) (W : List S75) (C : List S46) (l : List S56) (os : List S58) (part : Int) (hl : l.length ≤ 1000) (k : Nat) : watch_View.f k P W C l os part = some (viewE P W C l os part, viewR P W C l os part) := by unfold watch_View.f; rw [if_pos (by omega)]
end Go.Proofs.Ytfmpabdaadllaaa.PAll

/-
  Who sees an event, who keeps it.
-/
namespace Go.Proofs.Ytfmpabdaadllaaa.PAll
open Go.RowKit Go.Proofs.YtfmpabdaadllaaaW.PrintWords Go.Proofs.YtfmpabdaadllaaaW.PrintLast
set_option linter.unusedVariables false
set_option linter.unusedSimpArgs false
theorem partS_nn {W : List S75} (h : WOk W) (n : Nat) : 0 ≤ partS W n := h.pt _ (posS_ok h n).1
theorem partS_lt {P : List S73} {W : List S75} {C : List S46} (h : chkE P W C = 0) (n : Nat) : partS W n < (P.length : Int) := by
  have hn := chkE_ok h
  have := hn.w _ (posS_ok hn.wok n).1
  unfold okW at this
  rw [Bool.and_eq_true] at this
  have := (inB_true.1 this.1).2
  unfold partS
  omega
theorem falls_val {W : List S75} (h : WOk W) (l : List S56) (i : Nat) : (fallsE W l i = -1 ↔ (l.getD i z56).f0 = 1) ∧ ((l.getD i z56).f0 ≠ 1 → fallsE W l i = partS W (tkN l i)) := by
  have := partS_nn h (tkN l i)
  unfold fallsE
  by_cases e : (l.getD i z56).f0 = 1
  · rw [if_pos e]; exact ⟨⟨fun _ => e, fun _ => rfl⟩, fun h => absurd e h⟩
  · rw [if_neg e]; exact ⟨⟨fun h => by omega, fun h => absurd h e⟩, fun _ => rfl⟩
/-- Who sees an event. -/
def whoE (W : List S75) (l : List S56) (i : Nat) : Int := if (l.getD i z56).f0 = 1 then partS W (tkN l (i + 1)) else partS W (tkN l i)
theorem viewB_who {W : List S75} (h : WOk W) {l : List S56} {part : Int} (hp : 0 ≤ part) {i : Nat} : viewB W l part i = decide (whoE W l i = part) := by
  have hv := falls_val h l i
  have hd : ∀ x : Int, (x == part) = decide (x = part) := fun x => by
    cases hq : (x == part) with
    | true => exact (decide_eq_true (beq_iff_eq.1 hq)).symm
    | false => exact (decide_eq_false (beq_eq_false_iff_ne.1 hq)).symm
  unfold viewB behE whoE
  by_cases e : (l.getD i z56).f0 = 1
  · have h1 : ((-1 : Int) == part) = false := beq_eq_false_iff_ne.2 (by omega)
    rw [if_pos e, hv.1.2 e, h1, hd]; rfl
  · have h1 : (fallsE W l i == -1) = false := beq_eq_false_iff_ne.2 (fun h => e (hv.1.1 h))
    rw [if_neg e, h1, hv.2 e, hd, Bool.false_and, Bool.or_false]
theorem who_bd {P : List S73} {W : List S75} {C : List S46} (h : chkE P W C = 0) (l : List S56) (i : Nat) : 0 ≤ whoE W l i ∧ whoE W l i < (P.length : Int) := by
  unfold whoE
  split
  · exact ⟨partS_nn (chkE_ok h).wok _, partS_lt h _⟩
  · exact ⟨partS_nn (chkE_ok h).wok _, partS_lt h _⟩
theorem begE_in {P : List S73} {W : List S75} {C : List S46} (h : chkE P W C = 0) {i : Nat} (hi : i < P.length) : begE P W C (i : Int) = 0 := by
  unfold begE
  rw [if_neg (fun e : chkE P W C ≠ 0 => e h), if_pos (by omega)]
theorem viewE_in {P : List S73} {W : List S75} {C : List S46} (h : chkE P W C = 0) {i : Nat} (hi : i < P.length) {l : List S56} {os : List S58} (hl : l.length = os.length) : viewE P W C l os (i : Int) = viewL (viewB W l (i : Int)) os l.length ∧ viewR P W C l os (i : Int) = 0 := by
  unfold viewE viewR
  rw [begE_in h hi, if_pos rfl, if_pos rfl, if_pos hl, if_pos hl]
  exact ⟨rfl, rfl⟩
end Go.Proofs.Ytfmpabdaadllaaa.PAll

/-
  Alike as a proposition.
-/
namespace Go.Proofs.Ytfmpabdaadllaaa.PAll
open Go.RowKit Go.Proofs.YtfmpabdaadllaaaW.PrintWords Go.Proofs.YtfmpabdaadllaaaW.PrintLast
set_option linter.unusedVariables false
set_option linter.unusedSimpArgs false
theorem eq56_iff {x y : S56} : eq56 x y = true ↔ x = y := by
  obtain ⟨a, b, c⟩ := x
  obtain ⟨d, e, f⟩ := y
  unfold eq56
  simp
/-- Alike, as a proposition. -/
def AlikeP (W : List S75) (part : Int) (l m : List S56) : Prop := l.length = m.length ∧ ∀ i, i < l.length → ((l.getD i z56).f0 = 1 ↔ (m.getD i z56).f0 = 1) ∧ (fallsE W l i = part → l.getD i z56 = m.getD i z56)
theorem sameB_iff {W : List S75} {part : Int} {l m : List S56} : sameB W l m part = true ↔ AlikeP W part l m := by
  unfold sameB AlikeP badB
  rw [Bool.and_eq_true, beq_iff_eq, List.all_eq_true]
  refine and_congr_right fun hlm => ⟨fun h i hi => ?_, fun h i hi => ?_⟩
  · have := h i (List.mem_range.2 hi)
    rw [Bool.not_eq_true', Bool.or_eq_false_iff, bne_eq_false_iff_eq, Bool.and_eq_false_iff, beq_eq_false_iff_ne, Bool.not_eq_false'] at this
    refine ⟨⟨fun e => ?_, fun e => ?_⟩, fun e => ?_⟩
    · have h1 := this.1; rw [beq_iff_eq.2 e] at h1; exact beq_iff_eq.1 h1.symm
    · have h1 := this.1; rw [beq_iff_eq.2 e] at h1; exact beq_iff_eq.1 h1
    · rcases this.2 with h2 | h2
      · exact absurd e h2
      · exact eq56_iff.1 h2
  · obtain ⟨h1, h2⟩ := h i (List.mem_range.1 hi)
    have e1 : ((l.getD i z56).f0 == 1) = ((m.getD i z56).f0 == 1) := by
      by_cases e : (l.getD i z56).f0 = 1
      · rw [beq_iff_eq.2 e, beq_iff_eq.2 (h1.1 e)]
      · rw [beq_eq_false_iff_ne.2 e, beq_eq_false_iff_ne.2 (fun q => e (h1.2 q))]
    rw [e1, bne_self_eq_false, Bool.false_or]
    by_cases e : fallsE W l i = part
    · rw [eq56_iff.2 (h2 e)]; simp
    · rw [beq_eq_false_iff_ne.2 e]; rfl
theorem tkN_alike {W : List S75} {part : Int} {l m : List S56} (h : AlikeP W part l m) : ∀ i, i ≤ l.length → tkN l i = tkN m i
  | 0, _ => rfl
  | i + 1, hi => by
    have ih := tkN_alike h i (by omega)
    have hx := (h.2 i (by omega)).1
    rw [tkN_succ (show i < l.length by omega), tkN_succ (show i < m.length by have := h.1; omega), ih]
    by_cases e : (l.getD i z56).f0 = 1
    · rw [if_pos e, if_pos (hx.1 e)]
    · rw [if_neg e, if_neg (fun q => e (hx.2 q))]
theorem falls_alike {W : List S75} {part : Int} {l m : List S56} (h : AlikeP W part l m) {i : Nat} (hi : i < l.length) : fallsE W l i = fallsE W m i := by
  have hx := (h.2 i hi).1
  unfold fallsE
  rw [tkN_alike h i (by omega)]
  by_cases e : (l.getD i z56).f0 = 1
  · rw [if_pos e, if_pos (hx.1 e)]
  · rw [if_neg e, if_neg (fun q => e (hx.2 q))]
theorem AlikeP.refl (W : List S75) (part : Int) (l : List S56) : AlikeP W part l l := ⟨rfl, fun _ _ => ⟨Iff.rfl, fun _ => rfl⟩⟩
theorem AlikeP.symm {W : List S75} {part : Int} {l m : List S56} (h : AlikeP W part l m) : AlikeP W part m l :=
  ⟨h.1.symm, fun i hi => ⟨(h.2 i (by have := h.1; omega)).1.symm, fun e => ((h.2 i (by have := h.1; omega)).2 ((falls_alike h (by have := h.1; omega)).trans e)).symm⟩⟩
theorem AlikeP.trans {W : List S75} {part : Int} {l m n : List S56} (h : AlikeP W part l m) (h2 : AlikeP W part m n) : AlikeP W part l n :=
  ⟨h.1.trans h2.1, fun i hi => ⟨(h.2 i hi).1.trans (h2.2 i (by have := h.1; omega)).1, fun e => ((h.2 i hi).2 e).trans ((h2.2 i (by have := h.1; omega)).2 ((falls_alike h hi).symm.trans e))⟩⟩
end Go.Proofs.Ytfmpabdaadllaaa.PAll

namespace Go.Proofs.Ytfmpabdaadllaaa.PAll
open Go.RowKit Go.Proofs.YtfmpabdaadllaaaW.PrintWords Go.Proofs.YtfmpabdaadllaaaW.PrintLast
set_option linter.unusedVariables false
set_option linter.unusedSimpArgs false
attribute [local go_sem high] eqA56
/-! ### prioryref27_SameEvents: function 16 -/
def prioryref27_SameEvents.l0 : Nat → List (S56) → List (S56) → Int → Option (Bool)
  | 0, _, _, _ => none
  | k + 1, x0, x1, x5 => if x5 < (x0.length : Int) then (if 0 ≤ x5 then (if x5 < (x1.length : Int) then (if (!(((rd_T56 x0 x5).f0) == ((rd_T56 x1 x5).f0)) || (!(((rd_T56 x0 x5).f1) == ((rd_T56 x1 x5).f1)) || (!(((rd_T56 x0 x5).f2) == ((rd_T56 x1 x5).f2))))) = true then (some false) else (prioryref27_SameEvents.l0 k x0 x1 (wrap64 (x5 + 1)))) else (none)) else (none)) else (some true)
def prioryref27_SameEvents.f (k : Nat) (l0 : List (S56)) (l1 : List (S56)) : Option (Bool) := if (l0.length : Int) = (l1.length : Int) then (prioryref27_SameEvents.l0 k l0 l1 0) else (some false)
theorem prioryref27_SameEvents.mono_l : ∀ k, (∀ y0 y1 y2, LeO (prioryref27_SameEvents.l0 k y0 y1 y2) (prioryref27_SameEvents.l0 (k + 1) y0 y1 y2))
  | 0 => fun _ _ _ r h => by simp [prioryref27_SameEvents.l0] at h
  | k + 1 => by
    have ih0 := prioryref27_SameEvents.mono_l k
    · intro y0 y1 y2
      unfold prioryref27_SameEvents.l0
      repeat' first
      | (with_reducible exact ih0 _ _ _)
      | (with_reducible exact LeO.refl _)
      | (with_reducible exact LeO.none _)
      | (with_reducible refine LeO.ite ?_ ?_)
      | (with_reducible refine LeO.bind ?_ (fun _ => ?_))
      | exact ih0 _ _ _
      | exact LeO.none _
      | refine LeO.ite ?_ ?_
      | refine LeO.bind ?_ (fun _ => ?_)
theorem prioryref27_SameEvents.mono : ∀ a0 a1 k, LeO (prioryref27_SameEvents.f k a0 a1) (prioryref27_SameEvents.f (k + 1) a0 a1) := by
  intro a0 a1 k
  have ih0 := prioryref27_SameEvents.mono_l k
  unfold prioryref27_SameEvents.f
  repeat' first
      | (with_reducible exact ih0 _ _ _)
      | (with_reducible exact LeO.refl _)
      | (with_reducible exact LeO.none _)
      | (with_reducible refine LeO.ite ?_ ?_)
      | (with_reducible refine LeO.bind ?_ (fun _ => ?_))
      | exact ih0 _ _ _
      | exact LeO.none _
      | refine LeO.ite ?_ ?_
      | refine LeO.bind ?_ (fun _ => ?_)
set_option maxHeartbeats 8000000 in
set_option maxRecDepth 100000 in
theorem prioryref27_SameEvents.calls (k : Nat) (A0 : Option Addr) (c0 : Nat) (l0 : List (S56)) (A1 : Option Addr) (c1 : Nat) (l1 : List (S56)) (r : Bool) (w : World) (hr0 : Kd.C k56 w A0 l0.length l0) (hc0 : l0.length ≤ c0) (hr1 : Kd.C k56 w A1 l1.length l1) (hc1 : l1.length ≤ c1) (h : prioryref27_SameEvents.f k l0 l1 = some r) :
    Calls Try.prog 16 #[.slice A0 l0.length c0, .slice A1 l1.length c1] w fun e w' => e = .returned (.bool r) ∧ Drawn0 w w' := by
  have hu56 := Try.underlying56
  have HR0 := Aside0.mk hr0
  have HC0 := Aside0.mk hc0
  clear hr0 hc0
  have HR1 := Aside0.mk hr1
  have HC1 := Aside0.mk hc1
  clear hr1 hc1
  have H : (if (l0.length : Int) = (l1.length : Int) then (prioryref27_SameEvents.l0 k l0 l1 0) else (some false)) = some r := h
  clear h
  by_cases c3 : (l0.length : Int) = (l1.length : Int)
  · rw [if_pos c3] at H
    have c3b0 : ((l0.length : Int) == (l1.length : Int)) = true := beq_iff_eq.mpr c3
    have c3b1 : ((l0.length : Int) != (l1.length : Int)) = false := bne_eq_false_iff_eq.mpr c3
    have c3b2 : (l0.length == l1.length) = true := by first | simpa using c3 | (simp at c3 ⊢; omega)
    clear c3
    have H' := Aside0.mk H
    clear H
    go_enter Try.func16, Try.ntmps16
    go_wp2
    repeat (go_quiet (fail); try go_wp2)
    go_loopg [5] k (fun kq v5 w' => ∃ (x5_1 : Int), v5 = .int .i64 x5_1 ∧ Aside0 (prioryref27_SameEvents.l0 kq l0 l1 x5_1 = some r) ∧ Aside0 (kq ≤ k) ∧ Drawn0 w w')
    case atStart => exact ⟨(0), (by first | rfl | (simp; done) | (simp [*]; done)), H', ⟨Nat.le_refl _⟩, by repeat (first | exact Drawn0.refl _ | apply Drawn0.step)⟩
    case round =>
      clear H'
      try clear c1
      try clear p2
      try clear c3
      try clear c3b0
      try clear c3b1
      try clear c3b2
      obtain ⟨x5_1, rfl, HA, HK1, ⟨m1, rfl⟩⟩ := hrel
      cases gk with
      | zero => exact absurd HA.out (by simp [prioryref27_SameEvents.l0])
      | succ k1 =>
        have H := HA.out
        clear HA
        simp only [prioryref27_SameEvents.l0] at H
        by_cases c4 : x5_1 < (l0.length : Int)
        · rw [if_pos c4] at H
          have c4b0 : decide (x5_1 < (l0.length : Int)) = true := decide_eq_true c4
          clear c4
          by_cases c5 : 0 ≤ x5_1
          · rw [if_pos c5] at H
            have c5b0 : decide (0 ≤ x5_1) = true := decide_eq_true c5
            clear c5
            by_cases c6 : x5_1 < (l1.length : Int)
            · rw [if_pos c6] at H
              have c6b0 : decide (x5_1 < (l1.length : Int)) = true := decide_eq_true c6
              clear c6
              by_cases c7 : (!(((rd_T56 l0 x5_1).f0) == ((rd_T56 l1 x5_1).f0)) || (!(((rd_T56 l0 x5_1).f1) == ((rd_T56 l1 x5_1).f1)) || (!(((rd_T56 l0 x5_1).f2) == ((rd_T56 l1 x5_1).f2))))) = true
              · rw [if_pos c7] at H
                have c7b0 : (!(((rd_T56 l0 x5_1).f0) == ((rd_T56 l1 x5_1).f0)) || (!(((rd_T56 l0 x5_1).f1) == ((rd_T56 l1 x5_1).f1)) || (!(((rd_T56 l0 x5_1).f2) == ((rd_T56 l1 x5_1).f2))))) = true := c7
                clear c7
                obtain rfl := Option.some.inj H
                have p262 : 0 ≤ (x5_1 : Int) := of_decide_eq_true (by first | (with_reducible assumption) | assumption)
                have q262 : x5_1 < (l0.length : Int) := of_decide_eq_true (by first | (with_reducible assumption) | assumption)
                obtain ⟨ad262, e262, hx262_0, hx262_1, hx262_2⟩ := at_T56 HR0.out x5_1 p262 q262
                cases e262
                replace p262 := eq_true p262
                replace q262 := eq_true q262
                have p263 : 0 ≤ (x5_1 : Int) := of_decide_eq_true (by first | (with_reducible assumption) | assumption)
                have q263 : x5_1 < (l1.length : Int) := of_decide_eq_true (by first | (with_reducible assumption) | assumption)
                obtain ⟨ad263, e263, hx263_0, hx263_1, hx263_2⟩ := at_T56 HR1.out x5_1 p263 q263
                cases e263
                replace p263 := eq_true p263
                replace q263 := eq_true q263
                go_wp2
                repeat (go_quiet (fail); try go_wp2)
                go_ret
                exact ⟨by first | rfl | (simp; done) | (simp [*]; done), by repeat (first | exact Drawn0.refl _ | apply Drawn0.step)⟩
              · rw [if_neg c7] at H
                have c7b0 : (!(((rd_T56 l0 x5_1).f0) == ((rd_T56 l1 x5_1).f0)) || (!(((rd_T56 l0 x5_1).f1) == ((rd_T56 l1 x5_1).f1)) || (!(((rd_T56 l0 x5_1).f2) == ((rd_T56 l1 x5_1).f2))))) = false := by simpa using c7
                clear c7
                have H' := Aside0.mk H
                clear H
                have p262 : 0 ≤ (x5_1 : Int) := of_decide_eq_true (by first | (with_reducible assumption) | assumption)
                have q262 : x5_1 < (l0.length : Int) := of_decide_eq_true (by first | (with_reducible assumption) | assumption)
                obtain ⟨ad262, e262, hx262_0, hx262_1, hx262_2⟩ := at_T56 HR0.out x5_1 p262 q262
                cases e262
                replace p262 := eq_true p262
                replace q262 := eq_true q262
                have p263 : 0 ≤ (x5_1 : Int) := of_decide_eq_true (by first | (with_reducible assumption) | assumption)
                have q263 : x5_1 < (l1.length : Int) := of_decide_eq_true (by first | (with_reducible assumption) | assumption)
                obtain ⟨ad263, e263, hx263_0, hx263_1, hx263_2⟩ := at_T56 HR1.out x5_1 p263 q263
                cases e263
                replace p263 := eq_true p263
                replace q263 := eq_true q263
                go_wp2
                repeat (go_quiet (fail); try go_wp2)
                go_roundg k1
                case measure => have := HK1.out; omega
                case rel => exact ⟨(wrap64 (x5_1 + 1)), (by first | rfl | (simp; done) | (simp [*]; done)), H', ⟨by have := HK1.out; omega⟩, by repeat (first | exact Drawn0.refl _ | apply Drawn0.step)⟩
            · rw [if_neg c6] at H
              exact absurd H (by simp)
          · rw [if_neg c5] at H
            exact absurd H (by simp)
        · rw [if_neg c4] at H
          have c4b0 : decide (x5_1 < (l0.length : Int)) = false := decide_eq_false c4
          clear c4
          obtain rfl := Option.some.inj H
          go_wp2
          repeat (go_quiet (fail); try go_wp2)
          go_ret
          exact ⟨by first | rfl | (simp; done) | (simp [*]; done), by repeat (first | exact Drawn0.refl _ | apply Drawn0.step)⟩
  · rw [if_neg c3] at H
    have c3b0 : ((l0.length : Int) == (l1.length : Int)) = false := beq_eq_false_iff_ne.mpr c3
    have c3b1 : ((l0.length : Int) != (l1.length : Int)) = true := bne_iff_ne.mpr c3
    have c3b2 : (l0.length == l1.length) = false := by first | simpa using c3 | (simp at c3 ⊢; omega)
    obtain rfl := Option.some.inj H
    go_enter Try.func16, Try.ntmps16
    go_wp2
    repeat (go_quiet (fail); try go_wp2)
    go_ret
    exact ⟨by first | rfl | (simp; done) | (simp [*]; done), by repeat (first | exact Drawn0.refl _ | apply Drawn0.step)⟩
end Go.Proofs.Ytfmpabdaadllaaa.PAll

namespace Go.Proofs.Ytfmpabdaadllaaa.PAll
open Go.RowKit Go.Proofs.YtfmpabdaadllaaaW.PrintWords Go.Proofs.YtfmpabdaadllaaaW.PrintLast
set_option linter.unusedVariables false
set_option linter.unusedSimpArgs false
/-! ### priorylaw28_WatchAll: function 8 -/
def priorylaw28_WatchAll.l0 : Nat → List (S56) → List (S56) → List (S56) → Int → Bool → Int → Bool → Int → List (S58) → Int → Int → List (S73) → List (S75) → List (S46) → Option (Bool)
  | 0, _, _, _, _, _, _, _, _, _, _, _, _, _, _ => none
  | k + 1, x1, x7, x9, x10, x11, x12, x13, x14, x15, x16, x17, x461000, x461001, x461002 => if x17 < (x461000.length : Int) then ((watch_View.f k x461000 x461001 x461002 x1 x15 x17).bind fun bt479 => (if bt479.2 = 0 then (priorylaw28_WatchAll.l0 k x1 x7 x9 x10 x11 x12 x13 x14 x15 (wrap64 (x16 + (bt479.1.length : Int))) (wrap64 (x17 + 1)) x461000 x461001 x461002) else (some false))) else (if x10 = 0 then ((prioryref27_SameEvents.f k x7 x9).bind fun t483 => (if t483 = true then (if x11 = true then (if x13 = true then (if x12 = 0 then (if x14 = 0 then (if x16 = (x1.length : Int) then ((priorylaw28_awake.f k).bind fun t484 => (some t484)) else (some false)) else (some false)) else (some false)) else (some false)) else (some false)) else (some false))) else (some false))
def priorylaw28_WatchAll.f (k : Nat) (l0_0 : List (S73)) (l0_1 : List (S75)) (l0_2 : List (S46)) (l1 : List (S56)) (a2 : Int) : Option (Bool) := (priorylaw28_long.f l0_0 l0_1 l0_2 l1).bind fun t461 => (if t461 = true then ((priorylaw28_awake.f k).bind fun t462 => (some t462)) else ((watch_Cut.f k l0_0 l0_1 l0_2 l1 a2).bind fun bt463 => (if bt463.2 = 0 then ((watch_Cut.f k l0_0 l0_1 l0_2 bt463.1 a2).bind fun bt468 => ((watch_Alike.f k l0_0 l0_1 l0_2 l1 bt463.1 a2).bind fun bt472 => ((watch_Alike.f k l0_0 l0_1 l0_2 bt463.1 l1 a2).bind fun bt474 => (if 0 ≤ (l1.length : Int) then (if ((l1.length : Int) : Int).toNat ≤ 8796093022208 then (priorylaw28_WatchAll.l0 k l1 bt463.1 bt468.1 bt468.2 bt472.1 bt472.2 bt474.1 bt474.2 (List.replicate ((l1.length : Int) : Int).toNat z58) 0 0 l0_0 l0_1 l0_2) else (none)) else (none))))) else (if (bt463.1.length : Int) = 0 then ((priorylaw28_awake.f k).bind fun t467 => (some t467)) else (some false)))))
theorem priorylaw28_WatchAll.mono_l : ∀ k, (∀ y0 y1 y2 y3 y4 y5 y6 y7 y8 y9 y10 y11 y12 y13, LeO (priorylaw28_WatchAll.l0 k y0 y1 y2 y3 y4 y5 y6 y7 y8 y9 y10 y11 y12 y13) (priorylaw28_WatchAll.l0 (k + 1) y0 y1 y2 y3 y4 y5 y6 y7 y8 y9 y10 y11 y12 y13))
  | 0 => fun _ _ _ _ _ _ _ _ _ _ _ _ _ _ r h => by simp [priorylaw28_WatchAll.l0] at h
  | k + 1 => by
    have ih0 := priorylaw28_WatchAll.mono_l k
    · intro y0 y1 y2 y3 y4 y5 y6 y7 y8 y9 y10 y11 y12 y13
      unfold priorylaw28_WatchAll.l0
      repeat' first
      | (with_reducible exact ih0 _ _ _ _ _ _ _ _ _ _ _ _ _ _)
      | (with_reducible exact priorylaw28_awake.mono _)
      | (with_reducible exact prioryref27_SameEvents.mono _ _ _)
      | (with_reducible exact watch_Alike.mono _ _ _ _ _ _ _)
      | (with_reducible exact watch_Cut.mono _ _ _ _ _ _)
      | (with_reducible exact watch_View.mono _ _ _ _ _ _ _)
      | (with_reducible exact LeO.refl _)
      | (with_reducible exact LeO.none _)
      | (with_reducible refine LeO.ite ?_ ?_)
      | (with_reducible refine LeO.bind ?_ (fun _ => ?_))
      | exact ih0 _ _ _ _ _ _ _ _ _ _ _ _ _ _
      | exact priorylaw28_awake.mono _
      | exact prioryref27_SameEvents.mono _ _ _
      | exact watch_Alike.mono _ _ _ _ _ _ _
      | exact watch_Cut.mono _ _ _ _ _ _
      | exact watch_View.mono _ _ _ _ _ _ _
      | exact LeO.none _
      | refine LeO.ite ?_ ?_
      | refine LeO.bind ?_ (fun _ => ?_)
theorem priorylaw28_WatchAll.mono : ∀ a0 a1 a2 a3 a4 k, LeO (priorylaw28_WatchAll.f k a0 a1 a2 a3 a4) (priorylaw28_WatchAll.f (k + 1) a0 a1 a2 a3 a4) := by
  intro a0 a1 a2 a3 a4 k
  have ih0 := priorylaw28_WatchAll.mono_l k
  unfold priorylaw28_WatchAll.f
  repeat' first
      | (with_reducible exact ih0 _ _ _ _ _ _ _ _ _ _ _ _ _ _)
      | (with_reducible exact priorylaw28_awake.mono _)
      | (with_reducible exact prioryref27_SameEvents.mono _ _ _)
      | (with_reducible exact watch_Alike.mono _ _ _ _ _ _ _)
      | (with_reducible exact watch_Cut.mono _ _ _ _ _ _)
      | (with_reducible exact watch_View.mono _ _ _ _ _ _ _)
      | (with_reducible exact LeO.refl _)
      | (with_reducible exact LeO.none _)
      | (with_reducible refine LeO.ite ?_ ?_)
      | (with_reducible refine LeO.bind ?_ (fun _ => ?_))
      | exact ih0 _ _ _ _ _ _ _ _ _ _ _ _ _ _
      | exact priorylaw28_awake.mono _
      | exact prioryref27_SameEvents.mono _ _ _
      | exact watch_Alike.mono _ _ _ _ _ _ _
      | exact watch_Cut.mono _ _ _ _ _ _
      | exact watch_View.mono _ _ _ _ _ _ _
      | exact LeO.none _
      | refine LeO.ite ?_ ?_
      | refine LeO.bind ?_ (fun _ => ?_)
set_option maxHeartbeats 8000000 in
set_option maxRecDepth 100000 in
theorem priorylaw28_WatchAll.calls (k : Nat) (A0_0 : Option Addr) (c0_0 : Nat) (l0_0 : List (S73)) (A0_1 : Option Addr) (c0_1 : Nat) (l0_1 : List (S75)) (A0_2 : Option Addr) (c0_2 : Nat) (l0_2 : List (S46)) (A1 : Option Addr) (c1 : Nat) (l1 : List (S56)) (a2 : Int) (r : Bool) (w : World) (hr0_0 : Kd.C k73 w A0_0 l0_0.length l0_0) (hc0_0 : l0_0.length ≤ c0_0) (hr0_1 : Kd.C k75 w A0_1 l0_1.length l0_1) (hc0_1 : l0_1.length ≤ c0_1) (hr0_2 : Kd.C k46 w A0_2 l0_2.length l0_2) (hc0_2 : l0_2.length ≤ c0_2) (hr1 : Kd.C k56 w A1 l1.length l1) (hc1 : l1.length ≤ c1) (h : priorylaw28_WatchAll.f k l0_0 l0_1 l0_2 l1 a2 = some r) :
    Calls Try.prog 8 #[.agg #[.slice A0_0 l0_0.length c0_0, .slice A0_1 l0_1.length c0_1, .slice A0_2 l0_2.length c0_2], .slice A1 l1.length c1, .int .i64 a2] w fun e w' => e = .returned (.bool r) ∧ Below w.heap.size w w' := by
  have hu26 := Try.underlying26
  have HR0_0 := Aside0.mk hr0_0
  have HC0_0 := Aside0.mk hc0_0
  clear hr0_0 hc0_0
  have HR0_1 := Aside0.mk hr0_1
  have HC0_1 := Aside0.mk hc0_1
  clear hr0_1 hc0_1
  have HR0_2 := Aside0.mk hr0_2
  have HC0_2 := Aside0.mk hc0_2
  clear hr0_2 hc0_2
  have HR1 := Aside0.mk hr1
  have HC1 := Aside0.mk hc1
  clear hr1 hc1
  have HB := Aside0.mk (Below.refl w.heap.size w)
  have H : ((priorylaw28_long.f l0_0 l0_1 l0_2 l1).bind fun t461 => (if t461 = true then ((priorylaw28_awake.f k).bind fun t462 => (some t462)) else ((watch_Cut.f k l0_0 l0_1 l0_2 l1 a2).bind fun bt463 => (if bt463.2 = 0 then ((watch_Cut.f k l0_0 l0_1 l0_2 bt463.1 a2).bind fun bt468 => ((watch_Alike.f k l0_0 l0_1 l0_2 l1 bt463.1 a2).bind fun bt472 => ((watch_Alike.f k l0_0 l0_1 l0_2 bt463.1 l1 a2).bind fun bt474 => (if 0 ≤ (l1.length : Int) then (if ((l1.length : Int) : Int).toNat ≤ 8796093022208 then (priorylaw28_WatchAll.l0 k l1 bt463.1 bt468.1 bt468.2 bt472.1 bt472.2 bt474.1 bt474.2 (List.replicate ((l1.length : Int) : Int).toNat z58) 0 0 l0_0 l0_1 l0_2) else (none)) else (none))))) else (if (bt463.1.length : Int) = 0 then ((priorylaw28_awake.f k).bind fun t467 => (some t467)) else (some false)))))) = some r := h
  clear h
  replace H := Option.bind_eq_some_iff.mp H
  obtain ⟨t461, A40, H⟩ := H
  replace H : (if t461 = true then ((priorylaw28_awake.f k).bind fun t462 => (some t462)) else ((watch_Cut.f k l0_0 l0_1 l0_2 l1 a2).bind fun bt463 => (if bt463.2 = 0 then ((watch_Cut.f k l0_0 l0_1 l0_2 bt463.1 a2).bind fun bt468 => ((watch_Alike.f k l0_0 l0_1 l0_2 l1 bt463.1 a2).bind fun bt472 => ((watch_Alike.f k l0_0 l0_1 l0_2 bt463.1 l1 a2).bind fun bt474 => (if 0 ≤ (l1.length : Int) then (if ((l1.length : Int) : Int).toNat ≤ 8796093022208 then (priorylaw28_WatchAll.l0 k l1 bt463.1 bt468.1 bt468.2 bt472.1 bt472.2 bt474.1 bt474.2 (List.replicate ((l1.length : Int) : Int).toNat z58) 0 0 l0_0 l0_1 l0_2) else (none)) else (none))))) else (if (bt463.1.length : Int) = 0 then ((priorylaw28_awake.f k).bind fun t467 => (some t467)) else (some false))))) = some r := H
  have A4 := Aside0.mk A40
  clear A40
  by_cases c5 : t461 = true
  · subst c5
    have H1 : ((priorylaw28_awake.f k).bind fun t462 => (some t462)) = some r := by rw [if_pos rfl] at H; exact H
    clear H
    have H := H1
    clear H1
    replace H := Option.bind_eq_some_iff.mp H
    obtain ⟨t462, A60, H⟩ := H
    replace H : (some t462) = some r := H
    have A6 := Aside0.mk A60
    clear A60
    obtain rfl := Option.some.inj H
    go_enter Try.func8, Try.ntmps8
    go_wp2_with (first | ((with_reducible refine gate_dst (N := 3) rfl ?_); (try (refine gate_guard (by rfl) ?_; dsimp only)); refine box_event ?hg (N := 3) ?hd (cs := #[.slice A0_0 l0_0.length c0_0, .slice A0_1 l0_1.length c0_1, .slice A0_2 l0_2.length c0_2]) (t := 26) ?hr ?_; (case hd => rfl); (case hg => rfl); (case hr => first | (go_simp; done) | (go_simp; rfl)); intro gb460 hg w7 hbox hb; have n0_ := Aside0.mk (below_step (by repeat (first | (with_reducible first | exact HB.out | apply below_alloc | apply pw_below_drewN | apply below_drew1) | exact HB.out)) hb); have n1_ := Aside0.mk (hbox); have n2_ := Aside0.mk ((by rw [hg]; exact (below_size (by repeat (first | (with_reducible first | exact HB.out | apply below_alloc | apply pw_below_drewN | apply below_drew1) | exact HB.out))) : w.heap.size ≤ gb460)); have n3_ := Aside0.mk ((by rw [hg]; exact (below_size (by repeat (first | (with_reducible first | exact HB.out | apply below_alloc | apply pw_below_drewN | apply below_drew1) | exact HB.out))) : w.heap.size ≤ gb460)); clear HB; have HB := n0_; have BK460 := n1_; have GW460 := n2_; have GE460 := n3_; clear n0_ n1_ n2_ n3_; clear hb hbox hg; have hcz8_0 : w7.cell? ⟨gb460, 0, none⟩ = some (.slice A0_0 l0_0.length c0_0) := (blk_cell BK460.out 0).trans rfl; have hcz8_1 : w7.cell? ⟨gb460, 1, none⟩ = some (.slice A0_1 l0_1.length c0_1) := (blk_cell BK460.out 1).trans rfl; have hcz8_2 : w7.cell? ⟨gb460, 2, none⟩ = some (.slice A0_2 l0_2.length c0_2) := (blk_cell BK460.out 2).trans rfl; have hfz8_0 := blk_frozen BK460.out 0; have hfz8_1 := blk_frozen BK460.out 1; have hfz8_2 := blk_frozen BK460.out 2) | ((with_reducible refine gate_callee (f := 10) rfl ?_); refine goesL_ (some 22) rfl rfl Try.func10 (by kernel_rfl) rfl #[.agg #[.slice A0_0 l0_0.length c0_0, .slice A0_1 l0_1.length c0_1, .slice A0_2 l0_2.length c0_2], .slice A1 l1.length c1] rfl (by (try simp only [List.map_toArray, List.map_cons, List.map_nil]); first | done | rfl | (simp only [List.length_drop, List.length_take]; rfl)) ?_; (with_reducible refine (priorylaw28_long.calls _ _ l0_0 _ _ l0_1 _ _ l0_2 _ _ l1 true _ ?side1 ?side2 ?side3 ?side4 ?side5 ?side6 ?side7 ?side8 A4.out).mono ?_); (case side1 => repeat (first | exact (Kd.C_below HR0_0.out HB.out) | (with_reducible refine Kd.C_alloc ?_ _) | (with_reducible refine Kd.C_drewN ?_ _) | (with_reducible refine Kd.C_drew ?_))); (case side2 => exact HC0_0.out); (case side3 => repeat (first | exact (Kd.C_below HR0_1.out HB.out) | (with_reducible refine Kd.C_alloc ?_ _) | (with_reducible refine Kd.C_drewN ?_ _) | (with_reducible refine Kd.C_drew ?_))); (case side4 => exact HC0_1.out); (case side5 => repeat (first | exact (Kd.C_below HR0_2.out HB.out) | (with_reducible refine Kd.C_alloc ?_ _) | (with_reducible refine Kd.C_drewN ?_ _) | (with_reducible refine Kd.C_drew ?_))); (case side6 => exact HC0_2.out); (case side7 => repeat (first | exact (Kd.C_below HR1.out HB.out) | (with_reducible refine Kd.C_alloc ?_ _) | (with_reducible refine Kd.C_drewN ?_ _) | (with_reducible refine Kd.C_drew ?_))); (case side8 => exact HC1.out); rintro e w9 ⟨rfl, hb⟩; refine ⟨_, rfl, ?_⟩; have n0_ := Aside0.mk (blk_below (g := gb460) (o := .cells #[.slice A0_0 l0_0.length c0_0, .slice A0_1 l0_1.length c0_1, .slice A0_2 l0_2.length c0_2] 26 (0, 0)) (by (with_reducible repeat (first | refine blk_drewN ?_ _ | refine blk_drew ?_ | refine blk_alloc ?_ _)); exact BK460.out) hb); have n1_ := Aside0.mk (below_step (by repeat (first | (with_reducible first | exact HB.out | apply below_alloc | apply pw_below_drewN | apply below_drew1 | refine below_set ?_ GE460.out) | exact HB.out)) hb); clear BK460; clear HB; have BK460 := n0_; have HB := n1_; clear n0_ n1_; (try clear hb); (try clear hb2); (try clear hk); (try clear hi)) | ((with_reducible refine gate_callee (f := 11) rfl ?_); refine goesL_ (some 23) rfl rfl Try.func11 (by kernel_rfl) rfl #[] rfl (by (try simp only [List.map_toArray, List.map_cons, List.map_nil]); first | done | rfl | (simp only [List.length_drop, List.length_take]; rfl)) ?_; (with_reducible refine (priorylaw28_awake.calls k  t462 _ A6.out).mono ?_); rintro e w10 ⟨rfl, hb⟩; refine ⟨_, rfl, ?_⟩; have n0_ := Aside0.mk (blk_below (g := gb460) (o := .cells #[.slice A0_0 l0_0.length c0_0, .slice A0_1 l0_1.length c0_1, .slice A0_2 l0_2.length c0_2] 26 (0, 0)) (by (with_reducible repeat (first | refine blk_drewN ?_ _ | refine blk_drew ?_ | refine blk_alloc ?_ _)); exact BK460.out) hb); have n1_ := Aside0.mk (below_step (by repeat (first | (with_reducible first | exact HB.out | apply below_alloc | apply pw_below_drewN | apply below_drew1 | refine below_set ?_ GE460.out) | exact HB.out)) hb); clear BK460; clear HB; have BK460 := n0_; have HB := n1_; clear n0_ n1_; (try clear hb); (try clear hb2); (try clear hk); (try clear hi)))
    go_ret
    exact ⟨by first | rfl | (simp [errW_none, errW_some] <;> rfl) | (simp [*, errW_none, errW_some] <;> rfl), by repeat (first | (with_reducible first | exact HB.out | apply below_alloc | apply pw_below_drewN | apply below_drew1 | refine below_set ?_ GE460.out) | exact HB.out)⟩
  · replace c5 := Bool.eq_false_iff.mpr c5
    subst c5
    have H1 : ((watch_Cut.f k l0_0 l0_1 l0_2 l1 a2).bind fun bt463 => (if bt463.2 = 0 then ((watch_Cut.f k l0_0 l0_1 l0_2 bt463.1 a2).bind fun bt468 => ((watch_Alike.f k l0_0 l0_1 l0_2 l1 bt463.1 a2).bind fun bt472 => ((watch_Alike.f k l0_0 l0_1 l0_2 bt463.1 l1 a2).bind fun bt474 => (if 0 ≤ (l1.length : Int) then (if ((l1.length : Int) : Int).toNat ≤ 8796093022208 then (priorylaw28_WatchAll.l0 k l1 bt463.1 bt468.1 bt468.2 bt472.1 bt472.2 bt474.1 bt474.2 (List.replicate ((l1.length : Int) : Int).toNat z58) 0 0 l0_0 l0_1 l0_2) else (none)) else (none))))) else (if (bt463.1.length : Int) = 0 then ((priorylaw28_awake.f k).bind fun t467 => (some t467)) else (some false)))) = some r := by rw [if_neg (show ¬ (false = true) by decide)] at H; exact H
    clear H
    have H := H1
    clear H1
    replace H := Option.bind_eq_some_iff.mp H
    obtain ⟨⟨t463, t466⟩, A110, H⟩ := H
    replace H : (if t466 = 0 then ((watch_Cut.f k l0_0 l0_1 l0_2 t463 a2).bind fun bt468 => ((watch_Alike.f k l0_0 l0_1 l0_2 l1 t463 a2).bind fun bt472 => ((watch_Alike.f k l0_0 l0_1 l0_2 t463 l1 a2).bind fun bt474 => (if 0 ≤ (l1.length : Int) then (if ((l1.length : Int) : Int).toNat ≤ 8796093022208 then (priorylaw28_WatchAll.l0 k l1 t463 bt468.1 bt468.2 bt472.1 bt472.2 bt474.1 bt474.2 (List.replicate ((l1.length : Int) : Int).toNat z58) 0 0 l0_0 l0_1 l0_2) else (none)) else (none))))) else (if (t463.length : Int) = 0 then ((priorylaw28_awake.f k).bind fun t467 => (some t467)) else (some false))) = some r := H
    have A11 := Aside0.mk A110
    clear A110
    by_cases c12 : t466 = 0
    · rw [if_pos c12] at H
      have c12b0 : (t466 == 0) = true := beq_iff_eq.mpr c12
      have c12b1 : (t466 != 0) = false := bne_eq_false_iff_eq.mpr c12
      clear c12
      replace H := Option.bind_eq_some_iff.mp H
      obtain ⟨⟨t468, t471⟩, A130, H⟩ := H
      replace H : ((watch_Alike.f k l0_0 l0_1 l0_2 l1 t463 a2).bind fun bt472 => ((watch_Alike.f k l0_0 l0_1 l0_2 t463 l1 a2).bind fun bt474 => (if 0 ≤ (l1.length : Int) then (if ((l1.length : Int) : Int).toNat ≤ 8796093022208 then (priorylaw28_WatchAll.l0 k l1 t463 t468 t471 bt472.1 bt472.2 bt474.1 bt474.2 (List.replicate ((l1.length : Int) : Int).toNat z58) 0 0 l0_0 l0_1 l0_2) else (none)) else (none)))) = some r := H
      have A13 := Aside0.mk A130
      clear A130
      replace H := Option.bind_eq_some_iff.mp H
      obtain ⟨⟨t472, t473⟩, A140, H⟩ := H
      replace H : ((watch_Alike.f k l0_0 l0_1 l0_2 t463 l1 a2).bind fun bt474 => (if 0 ≤ (l1.length : Int) then (if ((l1.length : Int) : Int).toNat ≤ 8796093022208 then (priorylaw28_WatchAll.l0 k l1 t463 t468 t471 t472 t473 bt474.1 bt474.2 (List.replicate ((l1.length : Int) : Int).toNat z58) 0 0 l0_0 l0_1 l0_2) else (none)) else (none))) = some r := H
      have A14 := Aside0.mk A140
      clear A140
      replace H := Option.bind_eq_some_iff.mp H
      obtain ⟨⟨t474, t475⟩, A150, H⟩ := H
      replace H : (if 0 ≤ (l1.length : Int) then (if ((l1.length : Int) : Int).toNat ≤ 8796093022208 then (priorylaw28_WatchAll.l0 k l1 t463 t468 t471 t472 t473 t474 t475 (List.replicate ((l1.length : Int) : Int).toNat z58) 0 0 l0_0 l0_1 l0_2) else (none)) else (none)) = some r := H
      have A15 := Aside0.mk A150
      clear A150
      by_cases c16 : 0 ≤ (l1.length : Int)
      · rw [if_pos c16] at H
        have c16b0 := eq_true c16
        have c16b1 : decide (0 ≤ (l1.length : Int)) = true := decide_eq_true c16
        clear c16
        by_cases c17 : ((l1.length : Int) : Int).toNat ≤ 8796093022208
        · rw [if_pos c17] at H
          have c17b0 := eq_true c17
          have c17b1 : decide (((l1.length : Int) : Int).toNat ≤ 8796093022208) = true := decide_eq_true c17
          clear c17
          obtain ⟨y476, hy476⟩ : ∃ y_ : List (S58), y_ = (List.replicate ((l1.length : Int) : Int).toNat z58) := ⟨_, rfl⟩
          replace H : (priorylaw28_WatchAll.l0 k l1 t463 t468 t471 t472 t473 t474 t475 y476 0 0 l0_0 l0_1 l0_2) = some r := by first | (rw [hy476]; with_reducible exact H) | (have H2_ := (Option.bind_some _ _).symm.trans H; rw [hy476]; with_reducible exact H2_) | (have H2_ := (Option.bind_some _ _).symm.trans H; with_reducible exact H2_) | with_reducible exact H | (rw [hy476]; exact H) | exact H
          have Ny476 := Aside0.mk hy476
          clear hy476
          have H' := Aside0.mk H
          clear H
          go_enter Try.func8, Try.ntmps8
          go_wp2_with (first | ((with_reducible refine gate_dst (N := 3) rfl ?_); (try (refine gate_guard (by rfl) ?_; dsimp only)); refine box_event ?hg (N := 3) ?hd (cs := #[.slice A0_0 l0_0.length c0_0, .slice A0_1 l0_1.length c0_1, .slice A0_2 l0_2.length c0_2]) (t := 26) ?hr ?_; (case hd => rfl); (case hg => rfl); (case hr => first | (go_simp; done) | (go_simp; rfl)); intro gb460 hg w18 hbox hb; have n0_ := Aside0.mk (below_step (by repeat (first | (with_reducible first | exact HB.out | apply below_alloc | apply pw_below_drewN | apply below_drew1) | exact HB.out)) hb); have n1_ := Aside0.mk (hbox); have n2_ := Aside0.mk ((by rw [hg]; exact (below_size (by repeat (first | (with_reducible first | exact HB.out | apply below_alloc | apply pw_below_drewN | apply below_drew1) | exact HB.out))) : w.heap.size ≤ gb460)); have n3_ := Aside0.mk ((by rw [hg]; exact (below_size (by repeat (first | (with_reducible first | exact HB.out | apply below_alloc | apply pw_below_drewN | apply below_drew1) | exact HB.out))) : w.heap.size ≤ gb460)); clear HB; have HB := n0_; have BK460 := n1_; have GW460 := n2_; have GE460 := n3_; clear n0_ n1_ n2_ n3_; clear hb hbox hg; have hcz19_0 : w18.cell? ⟨gb460, 0, none⟩ = some (.slice A0_0 l0_0.length c0_0) := (blk_cell BK460.out 0).trans rfl; have hcz19_1 : w18.cell? ⟨gb460, 1, none⟩ = some (.slice A0_1 l0_1.length c0_1) := (blk_cell BK460.out 1).trans rfl; have hcz19_2 : w18.cell? ⟨gb460, 2, none⟩ = some (.slice A0_2 l0_2.length c0_2) := (blk_cell BK460.out 2).trans rfl; have hfz19_0 := blk_frozen BK460.out 0; have hfz19_1 := blk_frozen BK460.out 1; have hfz19_2 := blk_frozen BK460.out 2) | ((with_reducible refine gate_callee (f := 10) rfl ?_); refine goesL_ (some 22) rfl rfl Try.func10 (by kernel_rfl) rfl #[.agg #[.slice A0_0 l0_0.length c0_0, .slice A0_1 l0_1.length c0_1, .slice A0_2 l0_2.length c0_2], .slice A1 l1.length c1] rfl (by (try simp only [List.map_toArray, List.map_cons, List.map_nil]); first | done | rfl | (simp only [List.length_drop, List.length_take]; rfl)) ?_; (with_reducible refine (priorylaw28_long.calls _ _ l0_0 _ _ l0_1 _ _ l0_2 _ _ l1 false _ ?side1 ?side2 ?side3 ?side4 ?side5 ?side6 ?side7 ?side8 A4.out).mono ?_); (case side1 => repeat (first | exact (Kd.C_below HR0_0.out HB.out) | (with_reducible refine Kd.C_alloc ?_ _) | (with_reducible refine Kd.C_drewN ?_ _) | (with_reducible refine Kd.C_drew ?_))); (case side2 => exact HC0_0.out); (case side3 => repeat (first | exact (Kd.C_below HR0_1.out HB.out) | (with_reducible refine Kd.C_alloc ?_ _) | (with_reducible refine Kd.C_drewN ?_ _) | (with_reducible refine Kd.C_drew ?_))); (case side4 => exact HC0_1.out); (case side5 => repeat (first | exact (Kd.C_below HR0_2.out HB.out) | (with_reducible refine Kd.C_alloc ?_ _) | (with_reducible refine Kd.C_drewN ?_ _) | (with_reducible refine Kd.C_drew ?_))); (case side6 => exact HC0_2.out); (case side7 => repeat (first | exact (Kd.C_below HR1.out HB.out) | (with_reducible refine Kd.C_alloc ?_ _) | (with_reducible refine Kd.C_drewN ?_ _) | (with_reducible refine Kd.C_drew ?_))); (case side8 => exact HC1.out); rintro e w20 ⟨rfl, hb⟩; refine ⟨_, rfl, ?_⟩; have n0_ := Aside0.mk (blk_below (g := gb460) (o := .cells #[.slice A0_0 l0_0.length c0_0, .slice A0_1 l0_1.length c0_1, .slice A0_2 l0_2.length c0_2] 26 (0, 0)) (by (with_reducible repeat (first | refine blk_drewN ?_ _ | refine blk_drew ?_ | refine blk_alloc ?_ _)); exact BK460.out) hb); have n1_ := Aside0.mk (below_step (by repeat (first | (with_reducible first | exact HB.out | apply below_alloc | apply pw_below_drewN | apply below_drew1 | refine below_set ?_ GE460.out) | exact HB.out)) hb); clear BK460; clear HB; have BK460 := n0_; have HB := n1_; clear n0_ n1_; (try clear hb); (try clear hb2); (try clear hk); (try clear hi); have hcz21_0 : w20.cell? ⟨gb460, 0, none⟩ = some (.slice A0_0 l0_0.length c0_0) := (blk_cell BK460.out 0).trans rfl; have hcz21_1 : w20.cell? ⟨gb460, 1, none⟩ = some (.slice A0_1 l0_1.length c0_1) := (blk_cell BK460.out 1).trans rfl; have hcz21_2 : w20.cell? ⟨gb460, 2, none⟩ = some (.slice A0_2 l0_2.length c0_2) := (blk_cell BK460.out 2).trans rfl; have hfz21_0 := blk_frozen BK460.out 0; have hfz21_1 := blk_frozen BK460.out 1; have hfz21_2 := blk_frozen BK460.out 2) | ((with_reducible refine gate_callee (f := 12) rfl ?_); refine goesL_ (some 28) rfl rfl Try.func12 (by kernel_rfl) rfl #[.agg #[.slice A0_0 l0_0.length c0_0, .slice A0_1 l0_1.length c0_1, .slice A0_2 l0_2.length c0_2], .slice A1 l1.length c1, .int .i64 a2] rfl (by (try simp only [List.map_toArray, List.map_cons, List.map_nil]); first | done | rfl | (simp only [List.length_drop, List.length_take]; rfl)) ?_; (with_reducible refine (watch_Cut.calls k _ _ l0_0 _ _ l0_1 _ _ l0_2 _ _ l1 a2 t463 t466 _ ?side1 ?side2 ?side3 ?side4 ?side5 ?side6 ?side7 ?side8 A11.out).mono ?_); (case side1 => repeat (first | exact (Kd.C_below HR0_0.out HB.out) | (with_reducible refine Kd.C_alloc ?_ _) | (with_reducible refine Kd.C_drewN ?_ _) | (with_reducible refine Kd.C_drew ?_))); (case side2 => exact HC0_0.out); (case side3 => repeat (first | exact (Kd.C_below HR0_1.out HB.out) | (with_reducible refine Kd.C_alloc ?_ _) | (with_reducible refine Kd.C_drewN ?_ _) | (with_reducible refine Kd.C_drew ?_))); (case side4 => exact HC0_1.out); (case side5 => repeat (first | exact (Kd.C_below HR0_2.out HB.out) | (with_reducible refine Kd.C_alloc ?_ _) | (with_reducible refine Kd.C_drewN ?_ _) | (with_reducible refine Kd.C_drew ?_))); (case side6 => exact HC0_2.out); (case side7 => repeat (first | exact (Kd.C_below HR1.out HB.out) | (with_reducible refine Kd.C_alloc ?_ _) | (with_reducible refine Kd.C_drewN ?_ _) | (with_reducible refine Kd.C_drew ?_))); (case side8 => exact HC1.out); rintro e w22 ⟨v464, rfl, ho0, hb⟩; refine ⟨_, rfl, ?_⟩; have n0_ := Aside0.mk (Kd.R_lower ho0 (below_size (by repeat (first | (with_reducible first | exact HB.out | apply below_alloc | apply pw_below_drewN | apply below_drew1 | refine below_set ?_ GE460.out) | exact HB.out)))); have n1_ := Aside0.mk (blk_below (g := gb460) (o := .cells #[.slice A0_0 l0_0.length c0_0, .slice A0_1 l0_1.length c0_1, .slice A0_2 l0_2.length c0_2] 26 (0, 0)) (by (with_reducible repeat (first | refine blk_drewN ?_ _ | refine blk_drew ?_ | refine blk_alloc ?_ _)); exact BK460.out) hb); have n2_ := Aside0.mk (below_step (by repeat (first | (with_reducible first | exact HB.out | apply below_alloc | apply pw_below_drewN | apply below_drew1 | refine below_set ?_ GE460.out) | exact HB.out)) hb); clear BK460; clear HB; have HO465 := n0_; have BK460 := n1_; have HB := n2_; clear n0_ n1_ n2_; (try clear hb); (try clear hb2); (try clear hk); (try clear hi); (try clear ho0); have hcz23_0 : w22.cell? ⟨gb460, 0, none⟩ = some (.slice A0_0 l0_0.length c0_0) := (blk_cell BK460.out 0).trans rfl; have hcz23_1 : w22.cell? ⟨gb460, 1, none⟩ = some (.slice A0_1 l0_1.length c0_1) := (blk_cell BK460.out 1).trans rfl; have hcz23_2 : w22.cell? ⟨gb460, 2, none⟩ = some (.slice A0_2 l0_2.length c0_2) := (blk_cell BK460.out 2).trans rfl; have hfz23_0 := blk_frozen BK460.out 0; have hfz23_1 := blk_frozen BK460.out 1; have hfz23_2 := blk_frozen BK460.out 2; obtain ⟨Ao24, co24, eo24⟩ := Kd.R_slice HO465.out; subst eo24) | ((with_reducible refine gate_callee (f := 12) rfl ?_); refine goesL_ (some 43) rfl rfl Try.func12 (by kernel_rfl) rfl #[.agg #[.slice A0_0 l0_0.length c0_0, .slice A0_1 l0_1.length c0_1, .slice A0_2 l0_2.length c0_2], .slice Ao24 t463.length co24, .int .i64 a2] rfl (by (try simp only [List.map_toArray, List.map_cons, List.map_nil]); first | done | rfl | (simp only [List.length_drop, List.length_take]; rfl)) ?_; (with_reducible refine (watch_Cut.calls k _ _ l0_0 _ _ l0_1 _ _ l0_2 _ _ t463 a2 t468 t471 _ ?side1 ?side2 ?side3 ?side4 ?side5 ?side6 ?side7 ?side8 A13.out).mono ?_); (case side1 => repeat (first | exact (Kd.C_below HR0_0.out HB.out) | (with_reducible refine Kd.C_alloc ?_ _) | (with_reducible refine Kd.C_drewN ?_ _) | (with_reducible refine Kd.C_drew ?_))); (case side2 => exact HC0_0.out); (case side3 => repeat (first | exact (Kd.C_below HR0_1.out HB.out) | (with_reducible refine Kd.C_alloc ?_ _) | (with_reducible refine Kd.C_drewN ?_ _) | (with_reducible refine Kd.C_drew ?_))); (case side4 => exact HC0_1.out); (case side5 => repeat (first | exact (Kd.C_below HR0_2.out HB.out) | (with_reducible refine Kd.C_alloc ?_ _) | (with_reducible refine Kd.C_drewN ?_ _) | (with_reducible refine Kd.C_drew ?_))); (case side6 => exact HC0_2.out); (case side7 => repeat (first | exact (Kd.R_reads' HO465.out).2.2 | (with_reducible refine Kd.C_alloc ?_ _) | (with_reducible refine Kd.C_drewN ?_ _) | (with_reducible refine Kd.C_drew ?_))); (case side8 => exact (Kd.R_reads' HO465.out).2.1); rintro e w25 ⟨v469, rfl, ho0, hb⟩; refine ⟨_, rfl, ?_⟩; have n0_ := Aside0.mk (Kd.R_elder' (by (with_reducible repeat (first | apply Kd.R_alloc | apply Kd.R_drewN | apply Kd.R_drew)); exact HO465.out) (Kd.R_base ho0) hb); have n1_ := Aside0.mk (Kd.R_lower (Kd.R_new' ho0 (Kd.R_lt (by (with_reducible repeat (first | apply Kd.R_alloc | apply Kd.R_drewN | apply Kd.R_drew)); exact HO465.out))) (below_size (by repeat (first | (with_reducible first | exact HB.out | apply below_alloc | apply pw_below_drewN | apply below_drew1 | refine below_set ?_ GE460.out) | exact HB.out)))); have n2_ := Aside0.mk (blk_below (g := gb460) (o := .cells #[.slice A0_0 l0_0.length c0_0, .slice A0_1 l0_1.length c0_1, .slice A0_2 l0_2.length c0_2] 26 (0, 0)) (by (with_reducible repeat (first | refine blk_drewN ?_ _ | refine blk_drew ?_ | refine blk_alloc ?_ _)); exact BK460.out) hb); have n3_ := Aside0.mk (below_step (by repeat (first | (with_reducible first | exact HB.out | apply below_alloc | apply pw_below_drewN | apply below_drew1 | refine below_set ?_ GE460.out) | exact HB.out)) hb); clear HO465; clear BK460; clear HB; have HO465 := n0_; have HO470 := n1_; have BK460 := n2_; have HB := n3_; clear n0_ n1_ n2_ n3_; (try clear hb); (try clear hb2); (try clear hk); (try clear hi); (try clear ho0); have hcz26_0 : w25.cell? ⟨gb460, 0, none⟩ = some (.slice A0_0 l0_0.length c0_0) := (blk_cell BK460.out 0).trans rfl; have hcz26_1 : w25.cell? ⟨gb460, 1, none⟩ = some (.slice A0_1 l0_1.length c0_1) := (blk_cell BK460.out 1).trans rfl; have hcz26_2 : w25.cell? ⟨gb460, 2, none⟩ = some (.slice A0_2 l0_2.length c0_2) := (blk_cell BK460.out 2).trans rfl; have hfz26_0 := blk_frozen BK460.out 0; have hfz26_1 := blk_frozen BK460.out 1; have hfz26_2 := blk_frozen BK460.out 2) | ((with_reducible refine gate_callee (f := 14) rfl ?_); refine goesL_ (some 51) rfl rfl Try.func14 (by kernel_rfl) rfl #[.agg #[.slice A0_0 l0_0.length c0_0, .slice A0_1 l0_1.length c0_1, .slice A0_2 l0_2.length c0_2], .slice A1 l1.length c1, .slice Ao24 t463.length co24, .int .i64 a2] rfl (by (try simp only [List.map_toArray, List.map_cons, List.map_nil]); first | done | rfl | (simp only [List.length_drop, List.length_take]; rfl)) ?_; (with_reducible refine (watch_Alike.calls k _ _ l0_0 _ _ l0_1 _ _ l0_2 _ _ l1 _ _ t463 a2 t472 t473 _ ?side1 ?side2 ?side3 ?side4 ?side5 ?side6 ?side7 ?side8 ?side9 ?side10 A14.out).mono ?_); (case side1 => repeat (first | exact (Kd.C_below HR0_0.out HB.out) | (with_reducible refine Kd.C_alloc ?_ _) | (with_reducible refine Kd.C_drewN ?_ _) | (with_reducible refine Kd.C_drew ?_))); (case side2 => exact HC0_0.out); (case side3 => repeat (first | exact (Kd.C_below HR0_1.out HB.out) | (with_reducible refine Kd.C_alloc ?_ _) | (with_reducible refine Kd.C_drewN ?_ _) | (with_reducible refine Kd.C_drew ?_))); (case side4 => exact HC0_1.out); (case side5 => repeat (first | exact (Kd.C_below HR0_2.out HB.out) | (with_reducible refine Kd.C_alloc ?_ _) | (with_reducible refine Kd.C_drewN ?_ _) | (with_reducible refine Kd.C_drew ?_))); (case side6 => exact HC0_2.out); (case side7 => repeat (first | exact (Kd.C_below HR1.out HB.out) | (with_reducible refine Kd.C_alloc ?_ _) | (with_reducible refine Kd.C_drewN ?_ _) | (with_reducible refine Kd.C_drew ?_))); (case side8 => exact HC1.out); (case side9 => repeat (first | exact (Kd.R_reads' HO465.out).2.2 | (with_reducible refine Kd.C_alloc ?_ _) | (with_reducible refine Kd.C_drewN ?_ _) | (with_reducible refine Kd.C_drew ?_))); (case side10 => exact (Kd.R_reads' HO465.out).2.1); rintro e w27 ⟨rfl, hb⟩; refine ⟨_, rfl, ?_⟩; have n0_ := Aside0.mk (Kd.R_below (by (with_reducible repeat (first | apply Kd.R_alloc | apply Kd.R_drewN | apply Kd.R_drew)); exact HO465.out) hb); have n1_ := Aside0.mk (Kd.R_below (by (with_reducible repeat (first | apply Kd.R_alloc | apply Kd.R_drewN | apply Kd.R_drew)); exact HO470.out) hb); have n2_ := Aside0.mk (blk_below (g := gb460) (o := .cells #[.slice A0_0 l0_0.length c0_0, .slice A0_1 l0_1.length c0_1, .slice A0_2 l0_2.length c0_2] 26 (0, 0)) (by (with_reducible repeat (first | refine blk_drewN ?_ _ | refine blk_drew ?_ | refine blk_alloc ?_ _)); exact BK460.out) hb); have n3_ := Aside0.mk (below_step (by repeat (first | (with_reducible first | exact HB.out | apply below_alloc | apply pw_below_drewN | apply below_drew1 | refine below_set ?_ GE460.out) | exact HB.out)) hb); clear HO465; clear HO470; clear BK460; clear HB; have HO465 := n0_; have HO470 := n1_; have BK460 := n2_; have HB := n3_; clear n0_ n1_ n2_ n3_; (try clear hb); (try clear hb2); (try clear hk); (try clear hi); have hcz28_0 : w27.cell? ⟨gb460, 0, none⟩ = some (.slice A0_0 l0_0.length c0_0) := (blk_cell BK460.out 0).trans rfl; have hcz28_1 : w27.cell? ⟨gb460, 1, none⟩ = some (.slice A0_1 l0_1.length c0_1) := (blk_cell BK460.out 1).trans rfl; have hcz28_2 : w27.cell? ⟨gb460, 2, none⟩ = some (.slice A0_2 l0_2.length c0_2) := (blk_cell BK460.out 2).trans rfl; have hfz28_0 := blk_frozen BK460.out 0; have hfz28_1 := blk_frozen BK460.out 1; have hfz28_2 := blk_frozen BK460.out 2) | ((with_reducible refine gate_callee (f := 14) rfl ?_); refine goesL_ (some 59) rfl rfl Try.func14 (by kernel_rfl) rfl #[.agg #[.slice A0_0 l0_0.length c0_0, .slice A0_1 l0_1.length c0_1, .slice A0_2 l0_2.length c0_2], .slice Ao24 t463.length co24, .slice A1 l1.length c1, .int .i64 a2] rfl (by (try simp only [List.map_toArray, List.map_cons, List.map_nil]); first | done | rfl | (simp only [List.length_drop, List.length_take]; rfl)) ?_; (with_reducible refine (watch_Alike.calls k _ _ l0_0 _ _ l0_1 _ _ l0_2 _ _ t463 _ _ l1 a2 t474 t475 _ ?side1 ?side2 ?side3 ?side4 ?side5 ?side6 ?side7 ?side8 ?side9 ?side10 A15.out).mono ?_); (case side1 => repeat (first | exact (Kd.C_below HR0_0.out HB.out) | (with_reducible refine Kd.C_alloc ?_ _) | (with_reducible refine Kd.C_drewN ?_ _) | (with_reducible refine Kd.C_drew ?_))); (case side2 => exact HC0_0.out); (case side3 => repeat (first | exact (Kd.C_below HR0_1.out HB.out) | (with_reducible refine Kd.C_alloc ?_ _) | (with_reducible refine Kd.C_drewN ?_ _) | (with_reducible refine Kd.C_drew ?_))); (case side4 => exact HC0_1.out); (case side5 => repeat (first | exact (Kd.C_below HR0_2.out HB.out) | (with_reducible refine Kd.C_alloc ?_ _) | (with_reducible refine Kd.C_drewN ?_ _) | (with_reducible refine Kd.C_drew ?_))); (case side6 => exact HC0_2.out); (case side7 => repeat (first | exact (Kd.R_reads' HO465.out).2.2 | (with_reducible refine Kd.C_alloc ?_ _) | (with_reducible refine Kd.C_drewN ?_ _) | (with_reducible refine Kd.C_drew ?_))); (case side8 => exact (Kd.R_reads' HO465.out).2.1); (case side9 => repeat (first | exact (Kd.C_below HR1.out HB.out) | (with_reducible refine Kd.C_alloc ?_ _) | (with_reducible refine Kd.C_drewN ?_ _) | (with_reducible refine Kd.C_drew ?_))); (case side10 => exact HC1.out); rintro e w29 ⟨rfl, hb⟩; refine ⟨_, rfl, ?_⟩; have n0_ := Aside0.mk (Kd.R_below (by (with_reducible repeat (first | apply Kd.R_alloc | apply Kd.R_drewN | apply Kd.R_drew)); exact HO465.out) hb); have n1_ := Aside0.mk (Kd.R_below (by (with_reducible repeat (first | apply Kd.R_alloc | apply Kd.R_drewN | apply Kd.R_drew)); exact HO470.out) hb); have n2_ := Aside0.mk (blk_below (g := gb460) (o := .cells #[.slice A0_0 l0_0.length c0_0, .slice A0_1 l0_1.length c0_1, .slice A0_2 l0_2.length c0_2] 26 (0, 0)) (by (with_reducible repeat (first | refine blk_drewN ?_ _ | refine blk_drew ?_ | refine blk_alloc ?_ _)); exact BK460.out) hb); have n3_ := Aside0.mk (below_step (by repeat (first | (with_reducible first | exact HB.out | apply below_alloc | apply pw_below_drewN | apply below_drew1 | refine below_set ?_ GE460.out) | exact HB.out)) hb); clear HO465; clear HO470; clear BK460; clear HB; have HO465 := n0_; have HO470 := n1_; have BK460 := n2_; have HB := n3_; clear n0_ n1_ n2_ n3_; (try clear hb); (try clear hb2); (try clear hk); (try clear hi)) | ((with_reducible refine gate_dst (N := 64) rfl ?_); (try (refine gate_guard (by rfl) ?_; dsimp only)); refine Kd.R_make k58 _ 58 rfl (N := 64) rfl 48 _ _ rfl (l1.length : Int) rfl rfl Try.underlying48 (.agg #[(.int .i64 0), (.int .i64 0), (.int .i64 0), (.int .u32 0), (.int .u32 0)]) 32 info58 rfl (by decide) (by omega) z58 (ok := fun _ => True) (okp := fun _ => True) (k58_mkM _ _ _ z58 ) (fun _ hk => hk) trivial (of_decide_eq_true (by first | (with_reducible assumption) | assumption)) (Nat.le_trans (Nat.mul_le_mul_right _ (of_decide_eq_true (by first | (with_reducible assumption) | assumption) : (l1.length : Int).toNat ≤ 8796093022208)) (by omega)) (Below.refl _ _) (Nat.le_refl _) ?_; intro v477 w30 ho31 hb hg_ hnew_; clear hg_ hnew_; (first | rw [← Ny476.out] at ho31 | (simp only [Int.reduceToNat] at ho31; rw [← Ny476.out] at ho31)); have n0_ := Aside0.mk (Kd.R_below (by (with_reducible repeat (first | apply Kd.R_alloc | apply Kd.R_drewN | apply Kd.R_drew)); exact HO465.out) hb); have n1_ := Aside0.mk (Kd.R_below (by (with_reducible repeat (first | apply Kd.R_alloc | apply Kd.R_drewN | apply Kd.R_drew)); exact HO470.out) hb); have n2_ := Aside0.mk (Kd.R_lower ho31 (below_size (by repeat (first | (with_reducible first | exact HB.out | apply below_alloc | apply pw_below_drewN | apply below_drew1 | refine below_set ?_ GE460.out) | exact HB.out)))); have n3_ := Aside0.mk (blk_below (g := gb460) (o := .cells #[.slice A0_0 l0_0.length c0_0, .slice A0_1 l0_1.length c0_1, .slice A0_2 l0_2.length c0_2] 26 (0, 0)) (by (with_reducible repeat (first | refine blk_drewN ?_ _ | refine blk_drew ?_ | refine blk_alloc ?_ _)); exact BK460.out) hb); have n4_ := Aside0.mk (below_step (by repeat (first | (with_reducible first | exact HB.out | apply below_alloc | apply pw_below_drewN | apply below_drew1 | refine below_set ?_ GE460.out) | exact HB.out)) hb); clear HO465; clear HO470; clear BK460; clear HB; have HO465 := n0_; have HO470 := n1_; have HO478 := n2_; have BK460 := n3_; have HB := n4_; clear n0_ n1_ n2_ n3_ n4_; clear hb ho31))
          go_loopg [16, 17] k (fun kq v16 v17 w' => ∃ (x16_1 : Int) (x17_1 : Int), v16 = .int .i64 x16_1 ∧ v17 = .int .i64 x17_1 ∧ Aside0 (priorylaw28_WatchAll.l0 kq l1 t463 t468 t471 t472 t473 t474 t475 y476 x16_1 x17_1 l0_0 l0_1 l0_2 = some r) ∧ Aside0 (kq ≤ k) ∧ Aside0 (Kd.R k56 56 w' w.heap.size (fun k_ => some k_ ≠ (v469 : Value).ownBlock) (.slice Ao24 t463.length co24) t463) ∧ Aside0 (Kd.R k56 56 w' w.heap.size (fun k_ => some k_ ≠ ((.slice Ao24 t463.length co24) : Value).ownBlock) v469 t468) ∧ Aside0 (Kd.R k58 58 w' w.heap.size (fun _ => True) v477 y476) ∧ Aside0 (w'.heap[gb460]? = some (.cells #[(.slice A0_0 l0_0.length c0_0), (.slice A0_1 l0_1.length c0_1), (.slice A0_2 l0_2.length c0_2)] 26 (0, 0))) ∧ Aside0 (Below w.heap.size w w'))
          case atStart => exact ⟨(0), (0), (by first | rfl | (simp; done) | (simp [*]; done)), (by first | rfl | (simp; done) | (simp [*]; done)), H', ⟨Nat.le_refl _⟩, ⟨by (with_reducible repeat (first | apply Kd.R_alloc | apply Kd.R_drewN | apply Kd.R_drew)); exact Kd.R_mono HO465.out (fun _ hk => hk.2)⟩, ⟨by (with_reducible repeat (first | apply Kd.R_alloc | apply Kd.R_drewN | apply Kd.R_drew)); exact Kd.R_mono HO470.out (fun _ hk => hk.2)⟩, ⟨by (with_reducible repeat (first | apply Kd.R_alloc | apply Kd.R_drewN | apply Kd.R_drew)); exact HO478.out⟩, ⟨by (with_reducible repeat (first | refine blk_drewN ?_ _ | refine blk_drew ?_ | refine blk_alloc ?_ _)); exact BK460.out⟩, ⟨by repeat (first | (with_reducible first | exact HB.out | apply below_alloc | apply pw_below_drewN | apply below_drew1 | refine below_set ?_ GE460.out) | exact HB.out)⟩⟩
          case round =>
            clear H'
            try clear c1
            try clear p2
            try clear c5
            try clear c8
            try clear c10
            try clear c11
            try clear c12
            try clear c12b0
            try clear c12b1
            try clear c14
            try clear c16
            try clear c16b0
            try clear c16b1
            try clear c17
            try clear c17b0
            try clear c17b1
            try clear hcz19_0
            try clear hcz19_1
            try clear hcz19_2
            try clear hcz21_0
            try clear hcz21_1
            try clear hcz21_2
            try clear hcz23_0
            try clear hcz23_1
            try clear hcz23_2
            try clear hcz26_0
            try clear hcz26_1
            try clear hcz26_2
            try clear hcz28_0
            try clear hcz28_1
            try clear hcz28_2
            try clear hcz8_0
            try clear hcz8_1
            try clear hcz8_2
            try clear hfz19_0
            try clear hfz19_1
            try clear hfz19_2
            try clear hfz21_0
            try clear hfz21_1
            try clear hfz21_2
            try clear hfz23_0
            try clear hfz23_1
            try clear hfz23_2
            try clear hfz26_0
            try clear hfz26_1
            try clear hfz26_2
            try clear hfz28_0
            try clear hfz28_1
            try clear hfz28_2
            try clear hfz8_0
            try clear hfz8_1
            try clear hfz8_2
            obtain ⟨x16_1, x17_1, rfl, rfl, HA, HK1, HO_7, HO_9, HO_15, BK460, HB⟩ := hrel
            cases gk with
            | zero => exact absurd HA.out (by simp [priorylaw28_WatchAll.l0])
            | succ k1 =>
              have H := HA.out
              clear HA
              simp only [priorylaw28_WatchAll.l0] at H
              by_cases c32 : x17_1 < (l0_0.length : Int)
              · rw [if_pos c32] at H
                have c32b0 : decide (x17_1 < (l0_0.length : Int)) = true := decide_eq_true c32
                clear c32
                replace H := Option.bind_eq_some_iff.mp H
                obtain ⟨⟨t479, t482⟩, A330, H⟩ := H
                replace H : (if t482 = 0 then (priorylaw28_WatchAll.l0 k1 l1 t463 t468 t471 t472 t473 t474 t475 y476 (wrap64 (x16_1 + (t479.length : Int))) (wrap64 (x17_1 + 1)) l0_0 l0_1 l0_2) else (some false)) = some r := H
                have A33 := Aside0.mk A330
                clear A330
                by_cases c34 : t482 = 0
                · rw [if_pos c34] at H
                  have c34b0 : (t482 == 0) = true := beq_iff_eq.mpr c34
                  have c34b1 : (t482 != 0) = false := bne_eq_false_iff_eq.mpr c34
                  clear c34
                  have H' := Aside0.mk H
                  clear H
                  have hcz35_0 : wr.cell? ⟨gb460, 0, none⟩ = some (.slice A0_0 l0_0.length c0_0) := (blk_cell BK460.out 0).trans rfl
                  have hcz35_1 : wr.cell? ⟨gb460, 1, none⟩ = some (.slice A0_1 l0_1.length c0_1) := (blk_cell BK460.out 1).trans rfl
                  have hcz35_2 : wr.cell? ⟨gb460, 2, none⟩ = some (.slice A0_2 l0_2.length c0_2) := (blk_cell BK460.out 2).trans rfl
                  have hfz35_0 := blk_frozen BK460.out 0
                  have hfz35_1 := blk_frozen BK460.out 1
                  have hfz35_2 := blk_frozen BK460.out 2
                  obtain ⟨Ao36, co36, eo36⟩ := Kd.R_slice HO_15.out
                  subst eo36
                  go_wp2_with (first | ((with_reducible refine gate_callee (f := 23) rfl ?_); refine goesL_ (some 77) rfl rfl Try.func23 (by kernel_rfl) rfl #[.agg #[.slice A0_0 l0_0.length c0_0, .slice A0_1 l0_1.length c0_1, .slice A0_2 l0_2.length c0_2], .slice A1 l1.length c1, .slice Ao36 y476.length co36, .int .i64 x17_1] rfl (by (try simp only [List.map_toArray, List.map_cons, List.map_nil]); first | done | rfl | (simp only [List.length_drop, List.length_take]; rfl)) ?_; (with_reducible refine (watch_View.calls k1 _ _ l0_0 _ _ l0_1 _ _ l0_2 _ _ l1 _ _ y476 x17_1 t479 t482 _ ?side1 ?side2 ?side3 ?side4 ?side5 ?side6 ?side7 ?side8 ?side9 ?side10 A33.out).mono ?_); (case side1 => repeat (first | exact (Kd.C_below HR0_0.out HB.out) | (with_reducible refine Kd.C_alloc ?_ _) | (with_reducible refine Kd.C_drewN ?_ _) | (with_reducible refine Kd.C_drew ?_))); (case side2 => exact HC0_0.out); (case side3 => repeat (first | exact (Kd.C_below HR0_1.out HB.out) | (with_reducible refine Kd.C_alloc ?_ _) | (with_reducible refine Kd.C_drewN ?_ _) | (with_reducible refine Kd.C_drew ?_))); (case side4 => exact HC0_1.out); (case side5 => repeat (first | exact (Kd.C_below HR0_2.out HB.out) | (with_reducible refine Kd.C_alloc ?_ _) | (with_reducible refine Kd.C_drewN ?_ _) | (with_reducible refine Kd.C_drew ?_))); (case side6 => exact HC0_2.out); (case side7 => repeat (first | exact (Kd.C_below HR1.out HB.out) | (with_reducible refine Kd.C_alloc ?_ _) | (with_reducible refine Kd.C_drewN ?_ _) | (with_reducible refine Kd.C_drew ?_))); (case side8 => exact HC1.out); (case side9 => repeat (first | exact (Kd.R_reads' HO_15.out).2.2 | (with_reducible refine Kd.C_alloc ?_ _) | (with_reducible refine Kd.C_drewN ?_ _) | (with_reducible refine Kd.C_drew ?_))); (case side10 => exact (Kd.R_reads' HO_15.out).2.1); rintro e w37 ⟨v480, rfl, ho0, hb⟩; refine ⟨_, rfl, ?_⟩; have n0_ := Aside0.mk (Kd.R_below (by (with_reducible repeat (first | apply Kd.R_alloc | apply Kd.R_drewN | apply Kd.R_drew)); exact HO_7.out) hb); have n1_ := Aside0.mk (Kd.R_below (by (with_reducible repeat (first | apply Kd.R_alloc | apply Kd.R_drewN | apply Kd.R_drew)); exact HO_9.out) hb); have n2_ := Aside0.mk (Kd.R_elder' (by (with_reducible repeat (first | apply Kd.R_alloc | apply Kd.R_drewN | apply Kd.R_drew)); exact HO_15.out) (Kd.R_base ho0) hb); have n3_ := Aside0.mk (Kd.R_lower (Kd.R_new' ho0 (Kd.R_lt (by (with_reducible repeat (first | apply Kd.R_alloc | apply Kd.R_drewN | apply Kd.R_drew)); exact HO_15.out))) (below_size (by repeat (first | (with_reducible first | exact HB.out | apply below_alloc | apply pw_below_drewN | apply below_drew1 | refine below_set ?_ GE460.out) | exact HB.out)))); have n4_ := Aside0.mk (blk_below (g := gb460) (o := .cells #[.slice A0_0 l0_0.length c0_0, .slice A0_1 l0_1.length c0_1, .slice A0_2 l0_2.length c0_2] 26 (0, 0)) (by (with_reducible repeat (first | refine blk_drewN ?_ _ | refine blk_drew ?_ | refine blk_alloc ?_ _)); exact BK460.out) hb); have n5_ := Aside0.mk (below_step (by repeat (first | (with_reducible first | exact HB.out | apply below_alloc | apply pw_below_drewN | apply below_drew1 | refine below_set ?_ GE460.out) | exact HB.out)) hb); clear HO_7; clear HO_9; clear HO_15; clear BK460; clear HB; have HO_7 := n0_; have HO_9 := n1_; have HO_15 := n2_; have HO481 := n3_; have BK460 := n4_; have HB := n5_; clear n0_ n1_ n2_ n3_ n4_ n5_; (try clear hb); (try clear hb2); (try clear hk); (try clear hi); (try clear ho0); obtain ⟨Ao38, co38, eo38⟩ := Kd.R_slice HO481.out; subst eo38))
                  go_roundg k1
                  case measure => have := HK1.out; omega
                  case rel => exact ⟨(wrap64 (x16_1 + (t479.length : Int))), (wrap64 (x17_1 + 1)), (by first | rfl | (simp; done) | (simp [*]; done)), (by first | rfl | (simp; done) | (simp [*]; done)), H', ⟨by have := HK1.out; omega⟩, ⟨by (with_reducible repeat (first | apply Kd.R_alloc | apply Kd.R_drewN | apply Kd.R_drew)); exact HO_7.out⟩, ⟨by (with_reducible repeat (first | apply Kd.R_alloc | apply Kd.R_drewN | apply Kd.R_drew)); exact HO_9.out⟩, ⟨by (with_reducible repeat (first | apply Kd.R_alloc | apply Kd.R_drewN | apply Kd.R_drew)); exact Kd.R_mono HO_15.out (fun _ hk => trivial)⟩, ⟨by (with_reducible repeat (first | refine blk_drewN ?_ _ | refine blk_drew ?_ | refine blk_alloc ?_ _)); exact BK460.out⟩, ⟨by repeat (first | (with_reducible first | exact HB.out | apply below_alloc | apply pw_below_drewN | apply below_drew1 | refine below_set ?_ GE460.out) | exact HB.out)⟩⟩
                · rw [if_neg c34] at H
                  have c34b0 : (t482 == 0) = false := beq_eq_false_iff_ne.mpr c34
                  have c34b1 : (t482 != 0) = true := bne_iff_ne.mpr c34
                  obtain rfl := Option.some.inj H
                  have hcz39_0 : wr.cell? ⟨gb460, 0, none⟩ = some (.slice A0_0 l0_0.length c0_0) := (blk_cell BK460.out 0).trans rfl
                  have hcz39_1 : wr.cell? ⟨gb460, 1, none⟩ = some (.slice A0_1 l0_1.length c0_1) := (blk_cell BK460.out 1).trans rfl
                  have hcz39_2 : wr.cell? ⟨gb460, 2, none⟩ = some (.slice A0_2 l0_2.length c0_2) := (blk_cell BK460.out 2).trans rfl
                  have hfz39_0 := blk_frozen BK460.out 0
                  have hfz39_1 := blk_frozen BK460.out 1
                  have hfz39_2 := blk_frozen BK460.out 2
                  obtain ⟨Ao40, co40, eo40⟩ := Kd.R_slice HO_15.out
                  subst eo40
                  go_wp2_with (first | ((with_reducible refine gate_callee (f := 23) rfl ?_); refine goesL_ (some 77) rfl rfl Try.func23 (by kernel_rfl) rfl #[.agg #[.slice A0_0 l0_0.length c0_0, .slice A0_1 l0_1.length c0_1, .slice A0_2 l0_2.length c0_2], .slice A1 l1.length c1, .slice Ao40 y476.length co40, .int .i64 x17_1] rfl (by (try simp only [List.map_toArray, List.map_cons, List.map_nil]); first | done | rfl | (simp only [List.length_drop, List.length_take]; rfl)) ?_; (with_reducible refine (watch_View.calls k1 _ _ l0_0 _ _ l0_1 _ _ l0_2 _ _ l1 _ _ y476 x17_1 t479 t482 _ ?side1 ?side2 ?side3 ?side4 ?side5 ?side6 ?side7 ?side8 ?side9 ?side10 A33.out).mono ?_); (case side1 => repeat (first | exact (Kd.C_below HR0_0.out HB.out) | (with_reducible refine Kd.C_alloc ?_ _) | (with_reducible refine Kd.C_drewN ?_ _) | (with_reducible refine Kd.C_drew ?_))); (case side2 => exact HC0_0.out); (case side3 => repeat (first | exact (Kd.C_below HR0_1.out HB.out) | (with_reducible refine Kd.C_alloc ?_ _) | (with_reducible refine Kd.C_drewN ?_ _) | (with_reducible refine Kd.C_drew ?_))); (case side4 => exact HC0_1.out); (case side5 => repeat (first | exact (Kd.C_below HR0_2.out HB.out) | (with_reducible refine Kd.C_alloc ?_ _) | (with_reducible refine Kd.C_drewN ?_ _) | (with_reducible refine Kd.C_drew ?_))); (case side6 => exact HC0_2.out); (case side7 => repeat (first | exact (Kd.C_below HR1.out HB.out) | (with_reducible refine Kd.C_alloc ?_ _) | (with_reducible refine Kd.C_drewN ?_ _) | (with_reducible refine Kd.C_drew ?_))); (case side8 => exact HC1.out); (case side9 => repeat (first | exact (Kd.R_reads' HO_15.out).2.2 | (with_reducible refine Kd.C_alloc ?_ _) | (with_reducible refine Kd.C_drewN ?_ _) | (with_reducible refine Kd.C_drew ?_))); (case side10 => exact (Kd.R_reads' HO_15.out).2.1); rintro e w41 ⟨v480, rfl, ho0, hb⟩; refine ⟨_, rfl, ?_⟩; have n0_ := Aside0.mk (Kd.R_below (by (with_reducible repeat (first | apply Kd.R_alloc | apply Kd.R_drewN | apply Kd.R_drew)); exact HO_7.out) hb); have n1_ := Aside0.mk (Kd.R_below (by (with_reducible repeat (first | apply Kd.R_alloc | apply Kd.R_drewN | apply Kd.R_drew)); exact HO_9.out) hb); have n2_ := Aside0.mk (Kd.R_elder' (by (with_reducible repeat (first | apply Kd.R_alloc | apply Kd.R_drewN | apply Kd.R_drew)); exact HO_15.out) (Kd.R_base ho0) hb); have n3_ := Aside0.mk (Kd.R_lower (Kd.R_new' ho0 (Kd.R_lt (by (with_reducible repeat (first | apply Kd.R_alloc | apply Kd.R_drewN | apply Kd.R_drew)); exact HO_15.out))) (below_size (by repeat (first | (with_reducible first | exact HB.out | apply below_alloc | apply pw_below_drewN | apply below_drew1 | refine below_set ?_ GE460.out) | exact HB.out)))); have n4_ := Aside0.mk (blk_below (g := gb460) (o := .cells #[.slice A0_0 l0_0.length c0_0, .slice A0_1 l0_1.length c0_1, .slice A0_2 l0_2.length c0_2] 26 (0, 0)) (by (with_reducible repeat (first | refine blk_drewN ?_ _ | refine blk_drew ?_ | refine blk_alloc ?_ _)); exact BK460.out) hb); have n5_ := Aside0.mk (below_step (by repeat (first | (with_reducible first | exact HB.out | apply below_alloc | apply pw_below_drewN | apply below_drew1 | refine below_set ?_ GE460.out) | exact HB.out)) hb); clear HO_7; clear HO_9; clear HO_15; clear BK460; clear HB; have HO_7 := n0_; have HO_9 := n1_; have HO_15 := n2_; have HO481 := n3_; have BK460 := n4_; have HB := n5_; clear n0_ n1_ n2_ n3_ n4_ n5_; (try clear hb); (try clear hb2); (try clear hk); (try clear hi); (try clear ho0)))
                  go_ret
                  exact ⟨by first | rfl | (simp [errW_none, errW_some] <;> rfl) | (simp [*, errW_none, errW_some] <;> rfl), by repeat (first | (with_reducible first | exact HB.out | apply below_alloc | apply pw_below_drewN | apply below_drew1 | refine below_set ?_ GE460.out) | exact HB.out)⟩
              · rw [if_neg c32] at H
                have c32b0 : decide (x17_1 < (l0_0.length : Int)) = false := decide_eq_false c32
                clear c32
                by_cases c42 : t471 = 0
                · rw [if_pos c42] at H
                  have c42b0 : (t471 == 0) = true := beq_iff_eq.mpr c42
                  have c42b1 : (t471 != 0) = false := bne_eq_false_iff_eq.mpr c42
                  clear c42
                  replace H := Option.bind_eq_some_iff.mp H
                  obtain ⟨t483, A430, H⟩ := H
                  replace H : (if t483 = true then (if t472 = true then (if t474 = true then (if t473 = 0 then (if t475 = 0 then (if x16_1 = (l1.length : Int) then ((priorylaw28_awake.f k1).bind fun t484 => (some t484)) else (some false)) else (some false)) else (some false)) else (some false)) else (some false)) else (some false)) = some r := H
                  have A43 := Aside0.mk A430
                  clear A430
                  by_cases c44 : t483 = true
                  · subst c44
                    have H1 : (if t472 = true then (if t474 = true then (if t473 = 0 then (if t475 = 0 then (if x16_1 = (l1.length : Int) then ((priorylaw28_awake.f k1).bind fun t484 => (some t484)) else (some false)) else (some false)) else (some false)) else (some false)) else (some false)) = some r := by rw [if_pos rfl] at H; exact H
                    clear H
                    have H := H1
                    clear H1
                    by_cases c45 : t472 = true
                    · subst c45
                      have H1 : (if t474 = true then (if t473 = 0 then (if t475 = 0 then (if x16_1 = (l1.length : Int) then ((priorylaw28_awake.f k1).bind fun t484 => (some t484)) else (some false)) else (some false)) else (some false)) else (some false)) = some r := by rw [if_pos rfl] at H; exact H
                      clear H
                      have H := H1
                      clear H1
                      by_cases c46 : t474 = true
                      · subst c46
                        have H1 : (if t473 = 0 then (if t475 = 0 then (if x16_1 = (l1.length : Int) then ((priorylaw28_awake.f k1).bind fun t484 => (some t484)) else (some false)) else (some false)) else (some false)) = some r := by rw [if_pos rfl] at H; exact H
                        clear H
                        have H := H1
                        clear H1
                        by_cases c47 : t473 = 0
                        · rw [if_pos c47] at H
                          have c47b0 : (t473 == 0) = true := beq_iff_eq.mpr c47
                          have c47b1 : (t473 != 0) = false := bne_eq_false_iff_eq.mpr c47
                          clear c47
                          by_cases c48 : t475 = 0
                          · rw [if_pos c48] at H
                            have c48b0 : (t475 == 0) = true := beq_iff_eq.mpr c48
                            have c48b1 : (t475 != 0) = false := bne_eq_false_iff_eq.mpr c48
                            clear c48
                            by_cases c49 : x16_1 = (l1.length : Int)
                            · rw [if_pos c49] at H
                              have c49b0 : (x16_1 == (l1.length : Int)) = true := beq_iff_eq.mpr c49
                              have c49b1 : (x16_1 != (l1.length : Int)) = false := bne_eq_false_iff_eq.mpr c49
                              clear c49
                              replace H := Option.bind_eq_some_iff.mp H
                              obtain ⟨t484, A500, H⟩ := H
                              replace H : (some t484) = some r := H
                              have A50 := Aside0.mk A500
                              clear A500
                              obtain rfl := Option.some.inj H
                              have hcz51_0 : wr.cell? ⟨gb460, 0, none⟩ = some (.slice A0_0 l0_0.length c0_0) := (blk_cell BK460.out 0).trans rfl
                              have hcz51_1 : wr.cell? ⟨gb460, 1, none⟩ = some (.slice A0_1 l0_1.length c0_1) := (blk_cell BK460.out 1).trans rfl
                              have hcz51_2 : wr.cell? ⟨gb460, 2, none⟩ = some (.slice A0_2 l0_2.length c0_2) := (blk_cell BK460.out 2).trans rfl
                              have hfz51_0 := blk_frozen BK460.out 0
                              have hfz51_1 := blk_frozen BK460.out 1
                              have hfz51_2 := blk_frozen BK460.out 2
                              obtain ⟨Ao52, co52, eo52⟩ := Kd.R_slice HO_9.out
                              subst eo52
                              go_wp2_with (first | (go_at_call 16; (with_reducible refine (prioryref27_SameEvents.calls k1 _ _ t463 _ _ t468 true _ ?side1 ?side2 ?side3 ?side4 A43.out).mono ?_); (case side1 => repeat (first | exact (Kd.R_reads' HO_7.out).2.2 | (with_reducible refine Kd.C_alloc ?_ _) | (with_reducible refine Kd.C_drewN ?_ _) | (with_reducible refine Kd.C_drew ?_))); (case side2 => exact (Kd.R_reads' HO_7.out).2.1); (case side3 => repeat (first | exact (Kd.R_reads' HO_9.out).2.2 | (with_reducible refine Kd.C_alloc ?_ _) | (with_reducible refine Kd.C_drewN ?_ _) | (with_reducible refine Kd.C_drew ?_))); (case side4 => exact (Kd.R_reads' HO_9.out).2.1); rintro e w' ⟨rfl, ⟨nd, rfl⟩⟩) | (go_at_call 11; (with_reducible refine (priorylaw28_awake.calls k1  t484 _ A50.out).mono ?_); rintro e w53 ⟨rfl, hb⟩; have n0_ := Aside0.mk (Kd.R_below (by (with_reducible repeat (first | apply Kd.R_alloc | apply Kd.R_drewN | apply Kd.R_drew)); exact HO_7.out) hb); have n1_ := Aside0.mk (Kd.R_below (by (with_reducible repeat (first | apply Kd.R_alloc | apply Kd.R_drewN | apply Kd.R_drew)); exact HO_9.out) hb); have n2_ := Aside0.mk (Kd.R_below (by (with_reducible repeat (first | apply Kd.R_alloc | apply Kd.R_drewN | apply Kd.R_drew)); exact HO_15.out) hb); have n3_ := Aside0.mk (blk_below (g := gb460) (o := .cells #[.slice A0_0 l0_0.length c0_0, .slice A0_1 l0_1.length c0_1, .slice A0_2 l0_2.length c0_2] 26 (0, 0)) (by (with_reducible repeat (first | refine blk_drewN ?_ _ | refine blk_drew ?_ | refine blk_alloc ?_ _)); exact BK460.out) hb); have n4_ := Aside0.mk (below_step (by repeat (first | (with_reducible first | exact HB.out | apply below_alloc | apply pw_below_drewN | apply below_drew1 | refine below_set ?_ GE460.out) | exact HB.out)) hb); clear HO_7; clear HO_9; clear HO_15; clear BK460; clear HB; have HO_7 := n0_; have HO_9 := n1_; have HO_15 := n2_; have BK460 := n3_; have HB := n4_; clear n0_ n1_ n2_ n3_ n4_; (try clear hb); (try clear hb2); (try clear hk); (try clear hi)))
                              go_ret
                              exact ⟨by first | rfl | (simp [errW_none, errW_some] <;> rfl) | (simp [*, errW_none, errW_some] <;> rfl), by repeat (first | (with_reducible first | exact HB.out | apply below_alloc | apply pw_below_drewN | apply below_drew1 | refine below_set ?_ GE460.out) | exact HB.out)⟩
                            · rw [if_neg c49] at H
                              have c49b0 : (x16_1 == (l1.length : Int)) = false := beq_eq_false_iff_ne.mpr c49
                              have c49b1 : (x16_1 != (l1.length : Int)) = true := bne_iff_ne.mpr c49
                              obtain rfl := Option.some.inj H
                              have hcz54_0 : wr.cell? ⟨gb460, 0, none⟩ = some (.slice A0_0 l0_0.length c0_0) := (blk_cell BK460.out 0).trans rfl
                              have hcz54_1 : wr.cell? ⟨gb460, 1, none⟩ = some (.slice A0_1 l0_1.length c0_1) := (blk_cell BK460.out 1).trans rfl
                              have hcz54_2 : wr.cell? ⟨gb460, 2, none⟩ = some (.slice A0_2 l0_2.length c0_2) := (blk_cell BK460.out 2).trans rfl
                              have hfz54_0 := blk_frozen BK460.out 0
                              have hfz54_1 := blk_frozen BK460.out 1
                              have hfz54_2 := blk_frozen BK460.out 2
                              obtain ⟨Ao55, co55, eo55⟩ := Kd.R_slice HO_9.out
                              subst eo55
                              go_wp2_with (first | (go_at_call 16; (with_reducible refine (prioryref27_SameEvents.calls k1 _ _ t463 _ _ t468 true _ ?side1 ?side2 ?side3 ?side4 A43.out).mono ?_); (case side1 => repeat (first | exact (Kd.R_reads' HO_7.out).2.2 | (with_reducible refine Kd.C_alloc ?_ _) | (with_reducible refine Kd.C_drewN ?_ _) | (with_reducible refine Kd.C_drew ?_))); (case side2 => exact (Kd.R_reads' HO_7.out).2.1); (case side3 => repeat (first | exact (Kd.R_reads' HO_9.out).2.2 | (with_reducible refine Kd.C_alloc ?_ _) | (with_reducible refine Kd.C_drewN ?_ _) | (with_reducible refine Kd.C_drew ?_))); (case side4 => exact (Kd.R_reads' HO_9.out).2.1); rintro e w' ⟨rfl, ⟨nd, rfl⟩⟩))
                              go_ret
                              exact ⟨by first | rfl | (simp [errW_none, errW_some] <;> rfl) | (simp [*, errW_none, errW_some] <;> rfl), by repeat (first | (with_reducible first | exact HB.out | apply below_alloc | apply pw_below_drewN | apply below_drew1 | refine below_set ?_ GE460.out) | exact HB.out)⟩
                          · rw [if_neg c48] at H
                            have c48b0 : (t475 == 0) = false := beq_eq_false_iff_ne.mpr c48
                            have c48b1 : (t475 != 0) = true := bne_iff_ne.mpr c48
                            obtain rfl := Option.some.inj H
                            have hcz56_0 : wr.cell? ⟨gb460, 0, none⟩ = some (.slice A0_0 l0_0.length c0_0) := (blk_cell BK460.out 0).trans rfl
                            have hcz56_1 : wr.cell? ⟨gb460, 1, none⟩ = some (.slice A0_1 l0_1.length c0_1) := (blk_cell BK460.out 1).trans rfl
                            have hcz56_2 : wr.cell? ⟨gb460, 2, none⟩ = some (.slice A0_2 l0_2.length c0_2) := (blk_cell BK460.out 2).trans rfl
                            have hfz56_0 := blk_frozen BK460.out 0
                            have hfz56_1 := blk_frozen BK460.out 1
                            have hfz56_2 := blk_frozen BK460.out 2
                            obtain ⟨Ao57, co57, eo57⟩ := Kd.R_slice HO_9.out
                            subst eo57
                            go_wp2_with (first | (go_at_call 16; (with_reducible refine (prioryref27_SameEvents.calls k1 _ _ t463 _ _ t468 true _ ?side1 ?side2 ?side3 ?side4 A43.out).mono ?_); (case side1 => repeat (first | exact (Kd.R_reads' HO_7.out).2.2 | (with_reducible refine Kd.C_alloc ?_ _) | (with_reducible refine Kd.C_drewN ?_ _) | (with_reducible refine Kd.C_drew ?_))); (case side2 => exact (Kd.R_reads' HO_7.out).2.1); (case side3 => repeat (first | exact (Kd.R_reads' HO_9.out).2.2 | (with_reducible refine Kd.C_alloc ?_ _) | (with_reducible refine Kd.C_drewN ?_ _) | (with_reducible refine Kd.C_drew ?_))); (case side4 => exact (Kd.R_reads' HO_9.out).2.1); rintro e w' ⟨rfl, ⟨nd, rfl⟩⟩))
                            go_ret
                            exact ⟨by first | rfl | (simp [errW_none, errW_some] <;> rfl) | (simp [*, errW_none, errW_some] <;> rfl), by repeat (first | (with_reducible first | exact HB.out | apply below_alloc | apply pw_below_drewN | apply below_drew1 | refine below_set ?_ GE460.out) | exact HB.out)⟩
                        · rw [if_neg c47] at H
                          have c47b0 : (t473 == 0) = false := beq_eq_false_iff_ne.mpr c47
                          have c47b1 : (t473 != 0) = true := bne_iff_ne.mpr c47
                          obtain rfl := Option.some.inj H
                          have hcz58_0 : wr.cell? ⟨gb460, 0, none⟩ = some (.slice A0_0 l0_0.length c0_0) := (blk_cell BK460.out 0).trans rfl
                          have hcz58_1 : wr.cell? ⟨gb460, 1, none⟩ = some (.slice A0_1 l0_1.length c0_1) := (blk_cell BK460.out 1).trans rfl
                          have hcz58_2 : wr.cell? ⟨gb460, 2, none⟩ = some (.slice A0_2 l0_2.length c0_2) := (blk_cell BK460.out 2).trans rfl
                          have hfz58_0 := blk_frozen BK460.out 0
                          have hfz58_1 := blk_frozen BK460.out 1
                          have hfz58_2 := blk_frozen BK460.out 2
                          obtain ⟨Ao59, co59, eo59⟩ := Kd.R_slice HO_9.out
                          subst eo59
                          go_wp2_with (first | (go_at_call 16; (with_reducible refine (prioryref27_SameEvents.calls k1 _ _ t463 _ _ t468 true _ ?side1 ?side2 ?side3 ?side4 A43.out).mono ?_); (case side1 => repeat (first | exact (Kd.R_reads' HO_7.out).2.2 | (with_reducible refine Kd.C_alloc ?_ _) | (with_reducible refine Kd.C_drewN ?_ _) | (with_reducible refine Kd.C_drew ?_))); (case side2 => exact (Kd.R_reads' HO_7.out).2.1); (case side3 => repeat (first | exact (Kd.R_reads' HO_9.out).2.2 | (with_reducible refine Kd.C_alloc ?_ _) | (with_reducible refine Kd.C_drewN ?_ _) | (with_reducible refine Kd.C_drew ?_))); (case side4 => exact (Kd.R_reads' HO_9.out).2.1); rintro e w' ⟨rfl, ⟨nd, rfl⟩⟩))
                          go_ret
                          exact ⟨by first | rfl | (simp [errW_none, errW_some] <;> rfl) | (simp [*, errW_none, errW_some] <;> rfl), by repeat (first | (with_reducible first | exact HB.out | apply below_alloc | apply pw_below_drewN | apply below_drew1 | refine below_set ?_ GE460.out) | exact HB.out)⟩
                      · replace c46 := Bool.eq_false_iff.mpr c46
                        subst c46
                        have H1 : (some false) = some r := by rw [if_neg (show ¬ (false = true) by decide)] at H; exact H
                        clear H
                        have H := H1
                        clear H1
                        obtain rfl := Option.some.inj H
                        have hcz60_0 : wr.cell? ⟨gb460, 0, none⟩ = some (.slice A0_0 l0_0.length c0_0) := (blk_cell BK460.out 0).trans rfl
                        have hcz60_1 : wr.cell? ⟨gb460, 1, none⟩ = some (.slice A0_1 l0_1.length c0_1) := (blk_cell BK460.out 1).trans rfl
                        have hcz60_2 : wr.cell? ⟨gb460, 2, none⟩ = some (.slice A0_2 l0_2.length c0_2) := (blk_cell BK460.out 2).trans rfl
                        have hfz60_0 := blk_frozen BK460.out 0
                        have hfz60_1 := blk_frozen BK460.out 1
                        have hfz60_2 := blk_frozen BK460.out 2
                        obtain ⟨Ao61, co61, eo61⟩ := Kd.R_slice HO_9.out
                        subst eo61
                        go_wp2_with (first | (go_at_call 16; (with_reducible refine (prioryref27_SameEvents.calls k1 _ _ t463 _ _ t468 true _ ?side1 ?side2 ?side3 ?side4 A43.out).mono ?_); (case side1 => repeat (first | exact (Kd.R_reads' HO_7.out).2.2 | (with_reducible refine Kd.C_alloc ?_ _) | (with_reducible refine Kd.C_drewN ?_ _) | (with_reducible refine Kd.C_drew ?_))); (case side2 => exact (Kd.R_reads' HO_7.out).2.1); (case side3 => repeat (first | exact (Kd.R_reads' HO_9.out).2.2 | (with_reducible refine Kd.C_alloc ?_ _) | (with_reducible refine Kd.C_drewN ?_ _) | (with_reducible refine Kd.C_drew ?_))); (case side4 => exact (Kd.R_reads' HO_9.out).2.1); rintro e w' ⟨rfl, ⟨nd, rfl⟩⟩))
                        go_ret
                        exact ⟨by first | rfl | (simp [errW_none, errW_some] <;> rfl) | (simp [*, errW_none, errW_some] <;> rfl), by repeat (first | (with_reducible first | exact HB.out | apply below_alloc | apply pw_below_drewN | apply below_drew1 | refine below_set ?_ GE460.out) | exact HB.out)⟩
                    · replace c45 := Bool.eq_false_iff.mpr c45
                      subst c45
                      have H1 : (some false) = some r := by rw [if_neg (show ¬ (false = true) by decide)] at H; exact H
                      clear H
                      have H := H1
                      clear H1
                      obtain rfl := Option.some.inj H
                      have hcz62_0 : wr.cell? ⟨gb460, 0, none⟩ = some (.slice A0_0 l0_0.length c0_0) := (blk_cell BK460.out 0).trans rfl
                      have hcz62_1 : wr.cell? ⟨gb460, 1, none⟩ = some (.slice A0_1 l0_1.length c0_1) := (blk_cell BK460.out 1).trans rfl
                      have hcz62_2 : wr.cell? ⟨gb460, 2, none⟩ = some (.slice A0_2 l0_2.length c0_2) := (blk_cell BK460.out 2).trans rfl
                      have hfz62_0 := blk_frozen BK460.out 0
                      have hfz62_1 := blk_frozen BK460.out 1
                      have hfz62_2 := blk_frozen BK460.out 2
                      obtain ⟨Ao63, co63, eo63⟩ := Kd.R_slice HO_9.out
                      subst eo63
                      go_wp2_with (first | (go_at_call 16; (with_reducible refine (prioryref27_SameEvents.calls k1 _ _ t463 _ _ t468 true _ ?side1 ?side2 ?side3 ?side4 A43.out).mono ?_); (case side1 => repeat (first | exact (Kd.R_reads' HO_7.out).2.2 | (with_reducible refine Kd.C_alloc ?_ _) | (with_reducible refine Kd.C_drewN ?_ _) | (with_reducible refine Kd.C_drew ?_))); (case side2 => exact (Kd.R_reads' HO_7.out).2.1); (case side3 => repeat (first | exact (Kd.R_reads' HO_9.out).2.2 | (with_reducible refine Kd.C_alloc ?_ _) | (with_reducible refine Kd.C_drewN ?_ _) | (with_reducible refine Kd.C_drew ?_))); (case side4 => exact (Kd.R_reads' HO_9.out).2.1); rintro e w' ⟨rfl, ⟨nd, rfl⟩⟩))
                      go_ret
                      exact ⟨by first | rfl | (simp [errW_none, errW_some] <;> rfl) | (simp [*, errW_none, errW_some] <;> rfl), by repeat (first | (with_reducible first | exact HB.out | apply below_alloc | apply pw_below_drewN | apply below_drew1 | refine below_set ?_ GE460.out) | exact HB.out)⟩
                  · replace c44 := Bool.eq_false_iff.mpr c44
                    subst c44
                    have H1 : (some false) = some r := by rw [if_neg (show ¬ (false = true) by decide)] at H; exact H
                    clear H
                    have H := H1
                    clear H1
                    obtain rfl := Option.some.inj H
                    have hcz64_0 : wr.cell? ⟨gb460, 0, none⟩ = some (.slice A0_0 l0_0.length c0_0) := (blk_cell BK460.out 0).trans rfl
                    have hcz64_1 : wr.cell? ⟨gb460, 1, none⟩ = some (.slice A0_1 l0_1.length c0_1) := (blk_cell BK460.out 1).trans rfl
                    have hcz64_2 : wr.cell? ⟨gb460, 2, none⟩ = some (.slice A0_2 l0_2.length c0_2) := (blk_cell BK460.out 2).trans rfl
                    have hfz64_0 := blk_frozen BK460.out 0
                    have hfz64_1 := blk_frozen BK460.out 1
                    have hfz64_2 := blk_frozen BK460.out 2
                    obtain ⟨Ao65, co65, eo65⟩ := Kd.R_slice HO_9.out
                    subst eo65
                    go_wp2_with (first | (go_at_call 16; (with_reducible refine (prioryref27_SameEvents.calls k1 _ _ t463 _ _ t468 false _ ?side1 ?side2 ?side3 ?side4 A43.out).mono ?_); (case side1 => repeat (first | exact (Kd.R_reads' HO_7.out).2.2 | (with_reducible refine Kd.C_alloc ?_ _) | (with_reducible refine Kd.C_drewN ?_ _) | (with_reducible refine Kd.C_drew ?_))); (case side2 => exact (Kd.R_reads' HO_7.out).2.1); (case side3 => repeat (first | exact (Kd.R_reads' HO_9.out).2.2 | (with_reducible refine Kd.C_alloc ?_ _) | (with_reducible refine Kd.C_drewN ?_ _) | (with_reducible refine Kd.C_drew ?_))); (case side4 => exact (Kd.R_reads' HO_9.out).2.1); rintro e w' ⟨rfl, ⟨nd, rfl⟩⟩))
                    go_ret
                    exact ⟨by first | rfl | (simp [errW_none, errW_some] <;> rfl) | (simp [*, errW_none, errW_some] <;> rfl), by repeat (first | (with_reducible first | exact HB.out | apply below_alloc | apply pw_below_drewN | apply below_drew1 | refine below_set ?_ GE460.out) | exact HB.out)⟩
                · rw [if_neg c42] at H
                  have c42b0 : (t471 == 0) = false := beq_eq_false_iff_ne.mpr c42
                  have c42b1 : (t471 != 0) = true := bne_iff_ne.mpr c42
                  obtain rfl := Option.some.inj H
                  have hcz66_0 : wr.cell? ⟨gb460, 0, none⟩ = some (.slice A0_0 l0_0.length c0_0) := (blk_cell BK460.out 0).trans rfl
                  have hcz66_1 : wr.cell? ⟨gb460, 1, none⟩ = some (.slice A0_1 l0_1.length c0_1) := (blk_cell BK460.out 1).trans rfl
                  have hcz66_2 : wr.cell? ⟨gb460, 2, none⟩ = some (.slice A0_2 l0_2.length c0_2) := (blk_cell BK460.out 2).trans rfl
                  have hfz66_0 := blk_frozen BK460.out 0
                  have hfz66_1 := blk_frozen BK460.out 1
                  have hfz66_2 := blk_frozen BK460.out 2
                  go_wp2
                  go_ret
                  exact ⟨by first | rfl | (simp [errW_none, errW_some] <;> rfl) | (simp [*, errW_none, errW_some] <;> rfl), by repeat (first | (with_reducible first | exact HB.out | apply below_alloc | apply pw_below_drewN | apply below_drew1 | refine below_set ?_ GE460.out) | exact HB.out)⟩
        · rw [if_neg c17] at H
          exact absurd H (by simp)
      · rw [if_neg c16] at H
        exact absurd H (by simp)
    · rw [if_neg c12] at H
      have c12b0 : (t466 == 0) = false := beq_eq_false_iff_ne.mpr c12
      have c12b1 : (t466 != 0) = true := bne_iff_ne.mpr c12
      by_cases c67 : (t463.length : Int) = 0
      · rw [if_pos c67] at H
        have c67b0 : ((t463.length : Int) == 0) = true := beq_iff_eq.mpr c67
        have c67b1 : ((t463.length : Int) != 0) = false := bne_eq_false_iff_eq.mpr c67
        clear c67
        replace H := Option.bind_eq_some_iff.mp H
        obtain ⟨t467, A680, H⟩ := H
        replace H : (some t467) = some r := H
        have A68 := Aside0.mk A680
        clear A680
        obtain rfl := Option.some.inj H
        go_enter Try.func8, Try.ntmps8
        go_wp2_with (first | ((with_reducible refine gate_dst (N := 3) rfl ?_); (try (refine gate_guard (by rfl) ?_; dsimp only)); refine box_event ?hg (N := 3) ?hd (cs := #[.slice A0_0 l0_0.length c0_0, .slice A0_1 l0_1.length c0_1, .slice A0_2 l0_2.length c0_2]) (t := 26) ?hr ?_; (case hd => rfl); (case hg => rfl); (case hr => first | (go_simp; done) | (go_simp; rfl)); intro gb460 hg w69 hbox hb; have n0_ := Aside0.mk (below_step (by repeat (first | (with_reducible first | exact HB.out | apply below_alloc | apply pw_below_drewN | apply below_drew1) | exact HB.out)) hb); have n1_ := Aside0.mk (hbox); have n2_ := Aside0.mk ((by rw [hg]; exact (below_size (by repeat (first | (with_reducible first | exact HB.out | apply below_alloc | apply pw_below_drewN | apply below_drew1) | exact HB.out))) : w.heap.size ≤ gb460)); have n3_ := Aside0.mk ((by rw [hg]; exact (below_size (by repeat (first | (with_reducible first | exact HB.out | apply below_alloc | apply pw_below_drewN | apply below_drew1) | exact HB.out))) : w.heap.size ≤ gb460)); clear HB; have HB := n0_; have BK460 := n1_; have GW460 := n2_; have GE460 := n3_; clear n0_ n1_ n2_ n3_; clear hb hbox hg; have hcz70_0 : w69.cell? ⟨gb460, 0, none⟩ = some (.slice A0_0 l0_0.length c0_0) := (blk_cell BK460.out 0).trans rfl; have hcz70_1 : w69.cell? ⟨gb460, 1, none⟩ = some (.slice A0_1 l0_1.length c0_1) := (blk_cell BK460.out 1).trans rfl; have hcz70_2 : w69.cell? ⟨gb460, 2, none⟩ = some (.slice A0_2 l0_2.length c0_2) := (blk_cell BK460.out 2).trans rfl; have hfz70_0 := blk_frozen BK460.out 0; have hfz70_1 := blk_frozen BK460.out 1; have hfz70_2 := blk_frozen BK460.out 2) | ((with_reducible refine gate_callee (f := 10) rfl ?_); refine goesL_ (some 22) rfl rfl Try.func10 (by kernel_rfl) rfl #[.agg #[.slice A0_0 l0_0.length c0_0, .slice A0_1 l0_1.length c0_1, .slice A0_2 l0_2.length c0_2], .slice A1 l1.length c1] rfl (by (try simp only [List.map_toArray, List.map_cons, List.map_nil]); first | done | rfl | (simp only [List.length_drop, List.length_take]; rfl)) ?_; (with_reducible refine (priorylaw28_long.calls _ _ l0_0 _ _ l0_1 _ _ l0_2 _ _ l1 false _ ?side1 ?side2 ?side3 ?side4 ?side5 ?side6 ?side7 ?side8 A4.out).mono ?_); (case side1 => repeat (first | exact (Kd.C_below HR0_0.out HB.out) | (with_reducible refine Kd.C_alloc ?_ _) | (with_reducible refine Kd.C_drewN ?_ _) | (with_reducible refine Kd.C_drew ?_))); (case side2 => exact HC0_0.out); (case side3 => repeat (first | exact (Kd.C_below HR0_1.out HB.out) | (with_reducible refine Kd.C_alloc ?_ _) | (with_reducible refine Kd.C_drewN ?_ _) | (with_reducible refine Kd.C_drew ?_))); (case side4 => exact HC0_1.out); (case side5 => repeat (first | exact (Kd.C_below HR0_2.out HB.out) | (with_reducible refine Kd.C_alloc ?_ _) | (with_reducible refine Kd.C_drewN ?_ _) | (with_reducible refine Kd.C_drew ?_))); (case side6 => exact HC0_2.out); (case side7 => repeat (first | exact (Kd.C_below HR1.out HB.out) | (with_reducible refine Kd.C_alloc ?_ _) | (with_reducible refine Kd.C_drewN ?_ _) | (with_reducible refine Kd.C_drew ?_))); (case side8 => exact HC1.out); rintro e w71 ⟨rfl, hb⟩; refine ⟨_, rfl, ?_⟩; have n0_ := Aside0.mk (blk_below (g := gb460) (o := .cells #[.slice A0_0 l0_0.length c0_0, .slice A0_1 l0_1.length c0_1, .slice A0_2 l0_2.length c0_2] 26 (0, 0)) (by (with_reducible repeat (first | refine blk_drewN ?_ _ | refine blk_drew ?_ | refine blk_alloc ?_ _)); exact BK460.out) hb); have n1_ := Aside0.mk (below_step (by repeat (first | (with_reducible first | exact HB.out | apply below_alloc | apply pw_below_drewN | apply below_drew1 | refine below_set ?_ GE460.out) | exact HB.out)) hb); clear BK460; clear HB; have BK460 := n0_; have HB := n1_; clear n0_ n1_; (try clear hb); (try clear hb2); (try clear hk); (try clear hi); have hcz72_0 : w71.cell? ⟨gb460, 0, none⟩ = some (.slice A0_0 l0_0.length c0_0) := (blk_cell BK460.out 0).trans rfl; have hcz72_1 : w71.cell? ⟨gb460, 1, none⟩ = some (.slice A0_1 l0_1.length c0_1) := (blk_cell BK460.out 1).trans rfl; have hcz72_2 : w71.cell? ⟨gb460, 2, none⟩ = some (.slice A0_2 l0_2.length c0_2) := (blk_cell BK460.out 2).trans rfl; have hfz72_0 := blk_frozen BK460.out 0; have hfz72_1 := blk_frozen BK460.out 1; have hfz72_2 := blk_frozen BK460.out 2) | ((with_reducible refine gate_callee (f := 12) rfl ?_); refine goesL_ (some 28) rfl rfl Try.func12 (by kernel_rfl) rfl #[.agg #[.slice A0_0 l0_0.length c0_0, .slice A0_1 l0_1.length c0_1, .slice A0_2 l0_2.length c0_2], .slice A1 l1.length c1, .int .i64 a2] rfl (by (try simp only [List.map_toArray, List.map_cons, List.map_nil]); first | done | rfl | (simp only [List.length_drop, List.length_take]; rfl)) ?_; (with_reducible refine (watch_Cut.calls k _ _ l0_0 _ _ l0_1 _ _ l0_2 _ _ l1 a2 t463 t466 _ ?side1 ?side2 ?side3 ?side4 ?side5 ?side6 ?side7 ?side8 A11.out).mono ?_); (case side1 => repeat (first | exact (Kd.C_below HR0_0.out HB.out) | (with_reducible refine Kd.C_alloc ?_ _) | (with_reducible refine Kd.C_drewN ?_ _) | (with_reducible refine Kd.C_drew ?_))); (case side2 => exact HC0_0.out); (case side3 => repeat (first | exact (Kd.C_below HR0_1.out HB.out) | (with_reducible refine Kd.C_alloc ?_ _) | (with_reducible refine Kd.C_drewN ?_ _) | (with_reducible refine Kd.C_drew ?_))); (case side4 => exact HC0_1.out); (case side5 => repeat (first | exact (Kd.C_below HR0_2.out HB.out) | (with_reducible refine Kd.C_alloc ?_ _) | (with_reducible refine Kd.C_drewN ?_ _) | (with_reducible refine Kd.C_drew ?_))); (case side6 => exact HC0_2.out); (case side7 => repeat (first | exact (Kd.C_below HR1.out HB.out) | (with_reducible refine Kd.C_alloc ?_ _) | (with_reducible refine Kd.C_drewN ?_ _) | (with_reducible refine Kd.C_drew ?_))); (case side8 => exact HC1.out); rintro e w73 ⟨v464, rfl, ho0, hb⟩; refine ⟨_, rfl, ?_⟩; have n0_ := Aside0.mk (Kd.R_lower ho0 (below_size (by repeat (first | (with_reducible first | exact HB.out | apply below_alloc | apply pw_below_drewN | apply below_drew1 | refine below_set ?_ GE460.out) | exact HB.out)))); have n1_ := Aside0.mk (blk_below (g := gb460) (o := .cells #[.slice A0_0 l0_0.length c0_0, .slice A0_1 l0_1.length c0_1, .slice A0_2 l0_2.length c0_2] 26 (0, 0)) (by (with_reducible repeat (first | refine blk_drewN ?_ _ | refine blk_drew ?_ | refine blk_alloc ?_ _)); exact BK460.out) hb); have n2_ := Aside0.mk (below_step (by repeat (first | (with_reducible first | exact HB.out | apply below_alloc | apply pw_below_drewN | apply below_drew1 | refine below_set ?_ GE460.out) | exact HB.out)) hb); clear BK460; clear HB; have HO465 := n0_; have BK460 := n1_; have HB := n2_; clear n0_ n1_ n2_; (try clear hb); (try clear hb2); (try clear hk); (try clear hi); (try clear ho0); obtain ⟨Ao74, co74, eo74⟩ := Kd.R_slice HO465.out; subst eo74) | (go_at_call 11; (with_reducible refine (priorylaw28_awake.calls k  t467 _ A68.out).mono ?_); rintro e w75 ⟨rfl, hb⟩; have n0_ := Aside0.mk (Kd.R_below (by (with_reducible repeat (first | apply Kd.R_alloc | apply Kd.R_drewN | apply Kd.R_drew)); exact HO465.out) hb); have n1_ := Aside0.mk (blk_below (g := gb460) (o := .cells #[.slice A0_0 l0_0.length c0_0, .slice A0_1 l0_1.length c0_1, .slice A0_2 l0_2.length c0_2] 26 (0, 0)) (by (with_reducible repeat (first | refine blk_drewN ?_ _ | refine blk_drew ?_ | refine blk_alloc ?_ _)); exact BK460.out) hb); have n2_ := Aside0.mk (below_step (by repeat (first | (with_reducible first | exact HB.out | apply below_alloc | apply pw_below_drewN | apply below_drew1 | refine below_set ?_ GE460.out) | exact HB.out)) hb); clear HO465; clear BK460; clear HB; have HO465 := n0_; have BK460 := n1_; have HB := n2_; clear n0_ n1_ n2_; (try clear hb); (try clear hb2); (try clear hk); (try clear hi)))
        go_ret
        exact ⟨by first | rfl | (simp [errW_none, errW_some] <;> rfl) | (simp [*, errW_none, errW_some] <;> rfl), by repeat (first | (with_reducible first | exact HB.out | apply below_alloc | apply pw_below_drewN | apply below_drew1 | refine below_set ?_ GE460.out) | exact HB.out)⟩
      · rw [if_neg c67] at H
        have c67b0 : ((t463.length : Int) == 0) = false := beq_eq_false_iff_ne.mpr c67
        have c67b1 : ((t463.length : Int) != 0) = true := bne_iff_ne.mpr c67
        have c67b2 : ¬ (t463 = []) := fun h_ => c67 (by rw [h_]; rfl)
        obtain rfl := Option.some.inj H
        go_enter Try.func8, Try.ntmps8
        go_wp2_with (first | ((with_reducible refine gate_dst (N := 3) rfl ?_); (try (refine gate_guard (by rfl) ?_; dsimp only)); refine box_event ?hg (N := 3) ?hd (cs := #[.slice A0_0 l0_0.length c0_0, .slice A0_1 l0_1.length c0_1, .slice A0_2 l0_2.length c0_2]) (t := 26) ?hr ?_; (case hd => rfl); (case hg => rfl); (case hr => first | (go_simp; done) | (go_simp; rfl)); intro gb460 hg w76 hbox hb; have n0_ := Aside0.mk (below_step (by repeat (first | (with_reducible first | exact HB.out | apply below_alloc | apply pw_below_drewN | apply below_drew1) | exact HB.out)) hb); have n1_ := Aside0.mk (hbox); have n2_ := Aside0.mk ((by rw [hg]; exact (below_size (by repeat (first | (with_reducible first | exact HB.out | apply below_alloc | apply pw_below_drewN | apply below_drew1) | exact HB.out))) : w.heap.size ≤ gb460)); have n3_ := Aside0.mk ((by rw [hg]; exact (below_size (by repeat (first | (with_reducible first | exact HB.out | apply below_alloc | apply pw_below_drewN | apply below_drew1) | exact HB.out))) : w.heap.size ≤ gb460)); clear HB; have HB := n0_; have BK460 := n1_; have GW460 := n2_; have GE460 := n3_; clear n0_ n1_ n2_ n3_; clear hb hbox hg; have hcz77_0 : w76.cell? ⟨gb460, 0, none⟩ = some (.slice A0_0 l0_0.length c0_0) := (blk_cell BK460.out 0).trans rfl; have hcz77_1 : w76.cell? ⟨gb460, 1, none⟩ = some (.slice A0_1 l0_1.length c0_1) := (blk_cell BK460.out 1).trans rfl; have hcz77_2 : w76.cell? ⟨gb460, 2, none⟩ = some (.slice A0_2 l0_2.length c0_2) := (blk_cell BK460.out 2).trans rfl; have hfz77_0 := blk_frozen BK460.out 0; have hfz77_1 := blk_frozen BK460.out 1; have hfz77_2 := blk_frozen BK460.out 2) | ((with_reducible refine gate_callee (f := 10) rfl ?_); refine goesL_ (some 22) rfl rfl Try.func10 (by kernel_rfl) rfl #[.agg #[.slice A0_0 l0_0.length c0_0, .slice A0_1 l0_1.length c0_1, .slice A0_2 l0_2.length c0_2], .slice A1 l1.length c1] rfl (by (try simp only [List.map_toArray, List.map_cons, List.map_nil]); first | done | rfl | (simp only [List.length_drop, List.length_take]; rfl)) ?_; (with_reducible refine (priorylaw28_long.calls _ _ l0_0 _ _ l0_1 _ _ l0_2 _ _ l1 false _ ?side1 ?side2 ?side3 ?side4 ?side5 ?side6 ?side7 ?side8 A4.out).mono ?_); (case side1 => repeat (first | exact (Kd.C_below HR0_0.out HB.out) | (with_reducible refine Kd.C_alloc ?_ _) | (with_reducible refine Kd.C_drewN ?_ _) | (with_reducible refine Kd.C_drew ?_))); (case side2 => exact HC0_0.out); (case side3 => repeat (first | exact (Kd.C_below HR0_1.out HB.out) | (with_reducible refine Kd.C_alloc ?_ _) | (with_reducible refine Kd.C_drewN ?_ _) | (with_reducible refine Kd.C_drew ?_))); (case side4 => exact HC0_1.out); (case side5 => repeat (first | exact (Kd.C_below HR0_2.out HB.out) | (with_reducible refine Kd.C_alloc ?_ _) | (with_reducible refine Kd.C_drewN ?_ _) | (with_reducible refine Kd.C_drew ?_))); (case side6 => exact HC0_2.out); (case side7 => repeat (first | exact (Kd.C_below HR1.out HB.out) | (with_reducible refine Kd.C_alloc ?_ _) | (with_reducible refine Kd.C_drewN ?_ _) | (with_reducible refine Kd.C_drew ?_))); (case side8 => exact HC1.out); rintro e w78 ⟨rfl, hb⟩; refine ⟨_, rfl, ?_⟩; have n0_ := Aside0.mk (blk_below (g := gb460) (o := .cells #[.slice A0_0 l0_0.length c0_0, .slice A0_1 l0_1.length c0_1, .slice A0_2 l0_2.length c0_2] 26 (0, 0)) (by (with_reducible repeat (first | refine blk_drewN ?_ _ | refine blk_drew ?_ | refine blk_alloc ?_ _)); exact BK460.out) hb); have n1_ := Aside0.mk (below_step (by repeat (first | (with_reducible first | exact HB.out | apply below_alloc | apply pw_below_drewN | apply below_drew1 | refine below_set ?_ GE460.out) | exact HB.out)) hb); clear BK460; clear HB; have BK460 := n0_; have HB := n1_; clear n0_ n1_; (try clear hb); (try clear hb2); (try clear hk); (try clear hi); have hcz79_0 : w78.cell? ⟨gb460, 0, none⟩ = some (.slice A0_0 l0_0.length c0_0) := (blk_cell BK460.out 0).trans rfl; have hcz79_1 : w78.cell? ⟨gb460, 1, none⟩ = some (.slice A0_1 l0_1.length c0_1) := (blk_cell BK460.out 1).trans rfl; have hcz79_2 : w78.cell? ⟨gb460, 2, none⟩ = some (.slice A0_2 l0_2.length c0_2) := (blk_cell BK460.out 2).trans rfl; have hfz79_0 := blk_frozen BK460.out 0; have hfz79_1 := blk_frozen BK460.out 1; have hfz79_2 := blk_frozen BK460.out 2) | ((with_reducible refine gate_callee (f := 12) rfl ?_); refine goesL_ (some 28) rfl rfl Try.func12 (by kernel_rfl) rfl #[.agg #[.slice A0_0 l0_0.length c0_0, .slice A0_1 l0_1.length c0_1, .slice A0_2 l0_2.length c0_2], .slice A1 l1.length c1, .int .i64 a2] rfl (by (try simp only [List.map_toArray, List.map_cons, List.map_nil]); first | done | rfl | (simp only [List.length_drop, List.length_take]; rfl)) ?_; (with_reducible refine (watch_Cut.calls k _ _ l0_0 _ _ l0_1 _ _ l0_2 _ _ l1 a2 t463 t466 _ ?side1 ?side2 ?side3 ?side4 ?side5 ?side6 ?side7 ?side8 A11.out).mono ?_); (case side1 => repeat (first | exact (Kd.C_below HR0_0.out HB.out) | (with_reducible refine Kd.C_alloc ?_ _) | (with_reducible refine Kd.C_drewN ?_ _) | (with_reducible refine Kd.C_drew ?_))); (case side2 => exact HC0_0.out); (case side3 => repeat (first | exact (Kd.C_below HR0_1.out HB.out) | (with_reducible refine Kd.C_alloc ?_ _) | (with_reducible refine Kd.C_drewN ?_ _) | (with_reducible refine Kd.C_drew ?_))); (case side4 => exact HC0_1.out); (case side5 => repeat (first | exact (Kd.C_below HR0_2.out HB.out) | (with_reducible refine Kd.C_alloc ?_ _) | (with_reducible refine Kd.C_drewN ?_ _) | (with_reducible refine Kd.C_drew ?_))); (case side6 => exact HC0_2.out); (case side7 => repeat (first | exact (Kd.C_below HR1.out HB.out) | (with_reducible refine Kd.C_alloc ?_ _) | (with_reducible refine Kd.C_drewN ?_ _) | (with_reducible refine Kd.C_drew ?_))); (case side8 => exact HC1.out); rintro e w80 ⟨v464, rfl, ho0, hb⟩; refine ⟨_, rfl, ?_⟩; have n0_ := Aside0.mk (Kd.R_lower ho0 (below_size (by repeat (first | (with_reducible first | exact HB.out | apply below_alloc | apply pw_below_drewN | apply below_drew1 | refine below_set ?_ GE460.out) | exact HB.out)))); have n1_ := Aside0.mk (blk_below (g := gb460) (o := .cells #[.slice A0_0 l0_0.length c0_0, .slice A0_1 l0_1.length c0_1, .slice A0_2 l0_2.length c0_2] 26 (0, 0)) (by (with_reducible repeat (first | refine blk_drewN ?_ _ | refine blk_drew ?_ | refine blk_alloc ?_ _)); exact BK460.out) hb); have n2_ := Aside0.mk (below_step (by repeat (first | (with_reducible first | exact HB.out | apply below_alloc | apply pw_below_drewN | apply below_drew1 | refine below_set ?_ GE460.out) | exact HB.out)) hb); clear BK460; clear HB; have HO465 := n0_; have BK460 := n1_; have HB := n2_; clear n0_ n1_ n2_; (try clear hb); (try clear hb2); (try clear hk); (try clear hi); (try clear ho0); obtain ⟨Ao81, co81, eo81⟩ := Kd.R_slice HO465.out; subst eo81))
        go_ret
        exact ⟨by first | rfl | (simp [errW_none, errW_some] <;> rfl) | (simp [*, errW_none, errW_some] <;> rfl), by repeat (first | (with_reducible first | exact HB.out | apply below_alloc | apply pw_below_drewN | apply below_drew1 | refine below_set ?_ GE460.out) | exact HB.out)⟩
end Go.Proofs.Ytfmpabdaadllaaa.PAll

/-
  The law All in plain Lean.
-/
namespace Go.Proofs.Ytfmpabdaadllaaa.PAll
open Go.RowKit Go.Proofs.YtfmpabdaadllaaaW.PrintWords Go.Proofs.YtfmpabdaadllaaaW.PrintLast
set_option linter.unusedVariables false
set_option linter.unusedSimpArgs false
theorem ssameE_l0 (l : List S56) (hl : l.length ≤ 1000) : ∀ (d j k : Nat), j + d = l.length → d < k → prioryref27_SameEvents.l0 k l l (j : Int) = some true
  | 0, j, k + 1, hd, hk => by rw [prioryref27_SameEvents.l0, if_neg (by omega)]
  | d + 1, j, k + 1, hd, hk => by
    have ih := ssameE_l0 l hl d (j + 1) k (by omega) (by omega)
    rw [prioryref27_SameEvents.l0, if_pos (by omega), if_pos (by omega), if_pos (by omega), succ_w (by omega)]
    simp only [beq_self_eq_true, Bool.not_true, Bool.or_self]
    rw [if_neg (by decide)]
    exact ih
theorem ssameE_f (l : List S56) (hl : l.length ≤ 1000) (k : Nat) (hk : 2000 ≤ k) : prioryref27_SameEvents.f k l l = some true := by
  unfold prioryref27_SameEvents.f
  rw [if_pos rfl]
  exact ssameE_l0 l hl l.length 0 k (by omega) (by omega)
def cutF (kb : Nat → Bool) (l : List S56) (j : Nat) : S56 := if kb j = true then l.getD j z56 else ⟨0, 0, 0⟩
theorem cutL_map (kb : Nat → Bool) (l : List S56) : ∀ n, cutL kb l n = (List.range n).map (cutF kb l)
  | 0 => rfl
  | n + 1 => by rw [List.range_succ, List.map_append, ← cutL_map kb l n]; rfl
theorem cutL_getD (kb : Nat → Bool) (l : List S56) {n j : Nat} (h : j < n) : (cutL kb l n).getD j z56 = cutF kb l j := by
  rw [cutL_map, List.getD_eq_getElem?_getD, List.getElem?_map, List.getElem?_range h]
  rfl
theorem cut_alike {W : List S75} (h : WOk W) (part : Int) (l : List S56) : AlikeP W part l (cutL (keepB W l part) l l.length) := by
  refine ⟨(cutL_len _ _ _).symm, fun i hi => ?_⟩
  rw [cutL_getD _ _ hi]
  unfold cutF
  have hv := falls_val h l i
  have hk : keepB W l part i = (fallsE W l i == -1 || fallsE W l i == part) := by unfold keepB; rw [fallsL_getD hi]
  rw [hk]
  by_cases e : (l.getD i z56).f0 = 1
  · rw [hv.1.2 e]
    exact ⟨Iff.rfl, fun _ => rfl⟩
  · have h1 : (fallsE W l i == -1) = false := beq_eq_false_iff_ne.2 (fun q => e (hv.1.1 q))
    rw [h1, Bool.false_or]
    by_cases e2 : fallsE W l i = part
    · rw [beq_iff_eq.2 e2]; exact ⟨Iff.rfl, fun _ => rfl⟩
    · rw [beq_eq_false_iff_ne.2 e2]
      exact ⟨⟨fun q => absurd q e, fun q => (by simp at q)⟩, fun q => absurd q e2⟩
theorem cut_twice {W : List S75} (h : WOk W) (part : Int) (l m : List S56) (hm : m = cutL (keepB W l part) l l.length) : cutL (keepB W m part) m m.length = m := by
  have ha : AlikeP W part l m := by rw [hm]; exact cut_alike h part l
  have hlen : m.length = l.length := by rw [hm, cutL_len]
  rw [cutL_map, hlen]
  conv => rhs; rw [hm, cutL_map]
  apply List.map_congr_left
  intro j hj
  have hj := List.mem_range.1 hj
  have hg : m.getD j z56 = cutF (keepB W l part) l j := by rw [hm]; exact cutL_getD _ _ hj
  have hk : keepB W m part j = keepB W l part j := by unfold keepB; rw [fallsL_getD hj, fallsL_getD (by omega), falls_alike ha hj]
  unfold cutF at hg ⊢
  rw [hk, hg]
  by_cases e : keepB W l part j = true
  · rw [if_pos e, if_pos e]
  · simp only [if_neg e]
def sumV (W : List S75) (l : List S56) (os : List S58) (n : Nat) : Nat → Nat
  | 0 => 0
  | i + 1 => sumV W l os n i + (viewL (viewB W l (i : Int)) os n).length
theorem sumV_zero (W : List S75) (l : List S56) (os : List S58) : ∀ i, sumV W l os 0 i = 0
  | 0 => rfl
  | i + 1 => by unfold sumV; rw [sumV_zero W l os i]; rfl
theorem sumV_step {W : List S75} (h : WOk W) (l : List S56) (os : List S58) (n : Nat) : ∀ i, sumV W l os (n + 1) i = sumV W l os n i + if 0 ≤ whoE W l n ∧ whoE W l n < (i : Int) then 1 else 0
  | 0 => by unfold sumV; rw [if_neg (by omega)]
  | i + 1 => by
    have ih := sumV_step h l os n i
    have hv := viewB_who h (l := l) (part := (i : Int)) (by omega) (i := n)
    unfold sumV
    rw [ih, show viewL (viewB W l (i : Int)) os (n + 1) = viewL (viewB W l (i : Int)) os n ++ if viewB W l (i : Int) n = true then [os.getD n z58] else [] from rfl, List.length_append, hv]
    by_cases e : whoE W l n = (i : Int)
    · rw [decide_eq_true e, if_pos rfl, if_neg (by omega), if_pos (by omega)]; simp only [List.length_cons, List.length_nil]; omega
    · rw [decide_eq_false e, if_neg (show ¬ (false = true) by decide)]
      by_cases e2 : 0 ≤ whoE W l n ∧ whoE W l n < (i : Int)
      · rw [if_pos e2, if_pos (by omega)]; simp only [List.length_nil]; omega
      · rw [if_neg e2, if_neg (by omega)]; simp only [List.length_nil]; omega
theorem sumV_all {P : List S73} {W : List S75} {C : List S46} (h : chkE P W C = 0) (l : List S56) (os : List S58) : ∀ n, sumV W l os n P.length = n
  | 0 => sumV_zero W l os _
  | n + 1 => by rw [sumV_step (chkE_ok h).wok, sumV_all h l os n, if_pos (who_bd h l n)]
theorem sumV_le {W : List S75} (l : List S56) (os : List S58) (n : Nat) : ∀ i, sumV W l os n i ≤ n * i
  | 0 => Nat.le_refl _
  | i + 1 => by
    have := sumV_le (W := W) l os n i
    have := viewL_len (viewB W l (i : Int)) os n
    unfold sumV
    rw [Nat.mul_succ]
    omega
set_option maxRecDepth 100000 in
theorem all_l0 (P : List S73) (W : List S75) (C : List S46) (h : chkE P W C = 0) (l m : List S56) (os : List S58) (hlo : l.length = os.length) (hl : l.length ≤ 1000) (hm : m.length ≤ 1000) : ∀ (d i k : Nat), i + d = P.length → d + 3000 < k →
    priorylaw28_WatchAll.l0 k l m m 0 true 0 true 0 os (sumV W l os l.length i : Int) (i : Int) P W C = some true
  | 0, i, k, hd, hk => by
    obtain ⟨k, rfl⟩ : ∃ k', k = k' + 1 := ⟨k - 1, by omega⟩
    rw [priorylaw28_WatchAll.l0, if_neg (by omega), if_pos rfl, ssameE_f m hm k (by omega)]
    simp only [Option.bind_some]
    rw [if_pos trivial, if_pos trivial, if_pos trivial, if_pos trivial, if_pos trivial, show i = P.length by omega, sumV_all h, if_pos rfl]
    rfl
  | d + 1, i, k, hd, hk => by
    obtain ⟨k, rfl⟩ : ∃ k', k = k' + 1 := ⟨k - 1, by omega⟩
    have ih := all_l0 P W C h l m os hlo hl hm d (i + 1) k (by omega) (by omega)
    have h8 := (chkE_ok h).p1
    have hv := viewE_in h (show i < P.length by omega) hlo
    have h1 := sumV_le (W := W) l os l.length i
    have h2 := viewL_len (viewB W l (i : Int)) os l.length
    have h3 : l.length * i ≤ 1000 * 8 := Nat.mul_le_mul hl (by omega)
    rw [priorylaw28_WatchAll.l0, if_pos (by omega), wview_f P W C l os (i : Int) hl k, hv.1, hv.2]
    simp only [Option.bind_some]
    rw [if_pos trivial, succ_w (by omega), wrap_id (by omega)]
    have e : ((sumV W l os l.length i : Nat) : Int) + ((viewL (viewB W l (i : Int)) os l.length).length : Int) = ((sumV W l os l.length (i + 1) : Nat) : Int) := by
      rw [show sumV W l os l.length (i + 1) = sumV W l os l.length i + (viewL (viewB W l (i : Int)) os l.length).length from rfl]; omega
    rw [e]
    exact ih
theorem all_law (P : List S73) (W : List S75) (C : List S46) (l : List S56) (part : Int) : priorylaw28_WatchAll.f 30000 P W C l part = some true := by
  obtain ⟨b, hb, hs⟩ := long_f P W C l
  unfold priorylaw28_WatchAll.f
  rw [hb]
  simp only [Option.bind_some]
  cases b
  · obtain ⟨h1, h2, h3, h4⟩ := hs rfl
    rw [if_neg (by decide), wcut_f P W C l part (by omega)]
    simp only [Option.bind_some]
    by_cases he : begE P W C part = 0
    · have hc := (begE_chk he).1
      have hwk := (chkE_ok hc).wok
      obtain ⟨m, hm⟩ : ∃ m, m = cutE P W C l part := ⟨_, rfl⟩
      have hm2 : m = cutL (keepB W l part) l l.length := by rw [hm]; unfold cutE; rw [if_pos he]
      have hml : m.length = l.length := by rw [hm2, cutL_len]
      have hcc : cutE P W C m part = m := by unfold cutE; rw [if_pos he]; exact cut_twice hwk part l m hm2
      have ha : AlikeP W part l m := by rw [hm2]; exact cut_alike hwk part l
      have a1 : alikeE P W C l m part = true := by unfold alikeE; rw [if_pos he]; exact sameB_iff.2 ha
      have a2 : alikeE P W C m l part = true := by unfold alikeE; rw [if_pos he]; exact sameB_iff.2 ha.symm
      rw [if_pos he, ← hm, wcut_f P W C m part (by omega), walike_f P W C l m part (by omega), walike_f P W C m l part (by omega), hcc, a1, a2, he]
      simp only [Option.bind_some]
      obtain ⟨N, hN⟩ : ∃ N, N = 8796093022208 := ⟨_, rfl⟩
      rw [← hN, Int.toNat_natCast]
      have hlN : l.length ≤ N := by omega
      rw [if_pos (show (0 : Int) ≤ (l.length : Int) by omega), if_pos hlN]
      exact all_l0 P W C hc l m (List.replicate l.length z58) (by rw [List.length_replicate]) (by omega) (by omega) P.length 0 30000 (by omega) (by have := (chkE_ok hc).p1; omega)
    · have hn : cutE P W C l part = [] := by unfold cutE; rw [if_neg he]
      rw [if_neg he, hn]
      rfl
  · rfl
end Go.Proofs.Ytfmpabdaadllaaa.PAll
