/-
  Walks and plain laws, joined of 6 texts.
-/
import Derived.Test.YtfmpabdaadllaaaBas
import Derived.Test.YtfmpabdaadllaaaRows
import Derived.WalkKit
import Derived.ProofKit
import Derived.Deep.Slices
import Derived.Lib.SmallJoins
import Derived.Test.YtfmpabdaadllaaaGB
import Derived.Test.YtfmpabdaadllaaaGE
import Derived.Test.YtfmpabdaadllaaaGA
/-
  What came in, as the walks read it: slices of structs, a configuration.
-/
namespace Go.Proofs.Ytfmpabdaadllaaa.PAll
open Go.ChangeShapes Go.WideShapes Go.Deep Go.Joins
open Go.RowKit Go.Proofs.YtfmpabdaadllaaaW.PrintWords Go.Proofs.YtfmpabdaadllaaaW.PrintLast
set_option linter.unusedVariables false
theorem slice_kc {α H : Type} {enc : TypeId × Value → H} {P : Program} {w : World} {spare : Nat → Bool} {held : Bool} {d : Kd α} {t e : TypeId} {cs : List Value} {fuel : Nat} {x : DataW H × List MemPlace} (ht : P.underlying t = some (.slice e)) (hc : P.cellsOf e = d.sz)
    (hel : ∀ n cs y, DataW.trod enc P w 0 spare held n e cs = some y → ∃ a, d.K w a cs) (hf : DataW.trod enc P w 0 spare held fuel t cs = some x) :
    ∃ (A : Option Addr) (c : Nat) (l : List α), cs = [.slice A l.length c] ∧ l.length ≤ c ∧ Kd.C d w A l.length l := by
  rcases open_slice ht hf with ⟨hcs, _⟩ | ⟨a, len, cap, m, n, D, Pl, hcs, hb, hl, hm, hmm, _, hx⟩
  · exact ⟨none, 0, [], hcs, Nat.le_refl _, rfl, Nat.zero_le _, fun h => absurd h (Nat.lt_irrefl 0)⟩
  · have hlen : len ≤ m := by rw [hmm]; split <;> omega
    have hex : ∀ i : Fin len, ∃ a', ∃ cs', w.cells? 0 (a.add (i.1 * P.cellsOf e)) (P.cellsOf e) = some cs' ∧ d.K w a' cs' := fun i => by
      obtain ⟨cs', h1, h2⟩ := hx i.1 (by have := i.2; omega)
      obtain ⟨y, hy⟩ := hel _ _ _ h2
      exact ⟨y, cs', h1, hy⟩
    refine ⟨some a, cap, List.ofFn fun i => Classical.choose (hex i), by rw [hcs]; simp, by simpa using hl, rfl, by simp; exact Nat.le_trans hl (Nat.le_trans hm (by decide)), fun _ => ⟨a, rfl, fun j p hp => ?_⟩⟩
    rw [List.getElem?_ofFn] at hp
    split at hp
    · rename_i hj
      injection hp with hp
      obtain ⟨cs', h1, h2⟩ := Classical.choose_spec (hex ⟨j, hj⟩)
      obtain ⟨_, h3, h4⟩ := World.cells?_some h1
      rw [hp] at h2
      refine ⟨cs', d.K_len h2, h2, fun i u hu => ?_⟩
      have hi : i < P.cellsOf e := by
        rw [← h3]
        exact (List.getElem?_eq_some_iff.1 hu).1
      have := h4 i hi
      rw [hu, Go.Deep.add_add, hc] at this
      exact this
    · cases hp
theorem slice_kd {α H : Type} {enc : TypeId × Value → H} {P : Program} {w : World} {r : Reach} {base : Nat} {spare : Nat → Bool} {held : Bool} {d : Kd α} {t e : TypeId} {v : Value} {x : DataW H} {ps : List MemPlace} (ht : P.underlying t = some (.slice e)) (hc : P.cellsOf e = d.sz)
    (hel : ∀ n cs y, DataW.trod enc P w 0 spare held n e cs = some y → ∃ a, d.K w a cs) (hv : Value.okWide P w r base t v) (h : DataW.Trod enc P w 0 spare held t v x ps) :
    ∃ (A : Option Addr) (c : Nat) (l : List α), v = .slice A l.length c ∧ l.length ≤ c ∧ Kd.C d w A l.length l := by
  obtain ⟨A, len, cap, rfl⟩ := okWide_slice ht hv
  obtain ⟨fuel, hf⟩ := h
  obtain ⟨A', c', l, hcs, h1, h2⟩ := slice_kc ht hc hel hf
  simp [Value.cells] at hcs
  obtain ⟨rfl, rfl, rfl⟩ := hcs
  exact ⟨_, _, l, rfl, h1, h2⟩
section
variable {H : Type} {enc : TypeId × Value → H} {w : World} {r : Reach} {base : Nat} {spare : Nat → Bool} {held : Bool}
theorem trod_struct5 {P : Program} {b0 : Nat} {t : TypeId} {f0 f1 f2 f3 f4 : Field} {fuel : Nat} {cs : List Value} {x : DataW H × List MemPlace} (ht : P.underlying t = some (.struct #[f0, f1, f2, f3, f4])) (h : DataW.trod enc P w b0 spare held fuel t cs = some x) :
    ∃ y0 y1 y2 y3 y4 n, cs.length = P.cellsOf t ∧ DataW.trod enc P w b0 spare held n f0.type ((cs.drop f0.offset).take (P.cellsOf f0.type)) = some y0 ∧
      DataW.trod enc P w b0 spare held n f1.type ((cs.drop f1.offset).take (P.cellsOf f1.type)) = some y1 ∧ DataW.trod enc P w b0 spare held n f2.type ((cs.drop f2.offset).take (P.cellsOf f2.type)) = some y2 ∧
      DataW.trod enc P w b0 spare held n f3.type ((cs.drop f3.offset).take (P.cellsOf f3.type)) = some y3 ∧ DataW.trod enc P w b0 spare held n f4.type ((cs.drop f4.offset).take (P.cellsOf f4.type)) = some y4 := by
  obtain ⟨xs, n, _, rfl, hl, hlen, hf⟩ := DataW.trod_struct ht h
  match xs, hlen with
  | [y0, y1, y2, y3, y4], _ => exact ⟨y0, y1, y2, y3, y4, n, hl, by simpa using hf 0 f0 rfl, by simpa using hf 1 f1 rfl, by simpa using hf 2 f2 rfl, by simpa using hf 3 f3 rfl, by simpa using hf 4 f4 rfl⟩
theorem el73 {n : Nat} {cs : List Value} {y : DataW H × List MemPlace} (hy : DataW.trod enc Try.prog w 0 spare held n 73 cs = some y) : ∃ a, k73.K w a cs := by
  obtain ⟨y0, y1, m, _, hlen, h0, h1⟩ := trod_struct2 Try.underlying73 hy
  have hC : Try.prog.cellsOf 73 = 2 := by kernel_rfl
  have hC3 : Try.prog.cellsOf 3 = 1 := by kernel_rfl
  rw [hC] at hlen
  match cs, hlen with
  | [c0, c1], _ =>
    simp only [hC3] at h0 h1
    obtain ⟨a0, e0, _, _⟩ := DataW.trod_int Try.underlying3 h0
    obtain ⟨a1, e1, _, _⟩ := DataW.trod_int Try.underlying3 h1
    simp at e0 e1
    subst e0 e1
    exact ⟨⟨a0, a1⟩, k73_mk w ⟨a0, a1⟩⟩
theorem el75 {n : Nat} {cs : List Value} {y : DataW H × List MemPlace} (hy : DataW.trod enc Try.prog w 0 spare held n 75 cs = some y) : ∃ a, k75.K w a cs := by
  obtain ⟨y0, y1, m, _, hlen, h0, h1⟩ := trod_struct2 Try.underlying75 hy
  have hC : Try.prog.cellsOf 75 = 2 := by kernel_rfl
  have hC3 : Try.prog.cellsOf 3 = 1 := by kernel_rfl
  rw [hC] at hlen
  match cs, hlen with
  | [c0, c1], _ =>
    simp only [hC3] at h0 h1
    obtain ⟨a0, e0, _, _⟩ := DataW.trod_int Try.underlying3 h0
    obtain ⟨a1, e1, _, _⟩ := DataW.trod_int Try.underlying3 h1
    simp at e0 e1
    subst e0 e1
    exact ⟨⟨a0, a1⟩, k75_mk w ⟨a0, a1⟩⟩
theorem el46 {n : Nat} {cs : List Value} {y : DataW H × List MemPlace} (hy : DataW.trod enc Try.prog w 0 spare held n 46 cs = some y) : ∃ a, k46.K w a cs := by
  obtain ⟨y0, y1, y2, y3, m, _, hlen, h0, h1, h2, h3⟩ := trod_struct4 Try.underlying46 hy
  have hC : Try.prog.cellsOf 46 = 4 := by kernel_rfl
  have hC3 : Try.prog.cellsOf 3 = 1 := by kernel_rfl
  rw [hC] at hlen
  match cs, hlen with
  | [c0, c1, c2, c3], _ =>
    simp only [hC3] at h0 h1 h2 h3
    obtain ⟨a0, e0, _, _⟩ := DataW.trod_int Try.underlying3 h0
    obtain ⟨a1, e1, _, _⟩ := DataW.trod_int Try.underlying3 h1
    obtain ⟨a2, e2, _, _⟩ := DataW.trod_int Try.underlying3 h2
    obtain ⟨a3, e3, _, _⟩ := DataW.trod_int Try.underlying3 h3
    simp at e0 e1 e2 e3
    subst e0 e1 e2 e3
    exact ⟨⟨a0, a1, a2, a3⟩, k46_mk w ⟨a0, a1, a2, a3⟩⟩
theorem el56 {n : Nat} {cs : List Value} {y : DataW H × List MemPlace} (hy : DataW.trod enc Try.prog w 0 spare held n 56 cs = some y) : ∃ a, k56.K w a cs := by
  obtain ⟨y0, y1, y2, m, _, hlen, h0, h1, h2⟩ := trod_struct3 Try.underlying56 hy
  have hC : Try.prog.cellsOf 56 = 3 := by kernel_rfl
  have hC3 : Try.prog.cellsOf 3 = 1 := by kernel_rfl
  have hC54 : Try.prog.cellsOf 54 = 1 := by kernel_rfl
  rw [hC] at hlen
  match cs, hlen with
  | [c0, c1, c2], _ =>
    simp only [hC3] at h0 h1
    simp only [hC54] at h2
    obtain ⟨a0, e0, _, _⟩ := DataW.trod_int Try.underlying3 h0
    obtain ⟨a1, e1, _, _⟩ := DataW.trod_int Try.underlying3 h1
    obtain ⟨a2, e2, _, _⟩ := DataW.trod_int Try.underlying54 h2
    simp at e0 e1 e2
    subst e0 e1 e2
    exact ⟨⟨a0, a1, a2⟩, k56_mk w ⟨a0, a1, a2⟩⟩
theorem el58 {n : Nat} {cs : List Value} {y : DataW H × List MemPlace} (hy : DataW.trod enc Try.prog w 0 spare held n 58 cs = some y) : ∃ a, k58.K w a cs := by
  obtain ⟨y0, y1, y2, y3, y4, m, hlen, h0, h1, h2, h3, h4⟩ := trod_struct5 Try.underlying58 hy
  have hC : Try.prog.cellsOf 58 = 5 := by kernel_rfl
  have hC3 : Try.prog.cellsOf 3 = 1 := by kernel_rfl
  have hC30 : Try.prog.cellsOf 30 = 1 := by kernel_rfl
  have hC54 : Try.prog.cellsOf 54 = 1 := by kernel_rfl
  rw [hC] at hlen
  match cs, hlen with
  | [c0, c1, c2, c3, c4], _ =>
    simp only [hC3] at h0 h1
    simp only [hC30] at h2
    simp only [hC54] at h3 h4
    obtain ⟨a0, e0, _, _⟩ := DataW.trod_int Try.underlying3 h0
    obtain ⟨a1, e1, _, _⟩ := DataW.trod_int Try.underlying3 h1
    obtain ⟨a2, e2, _, _⟩ := DataW.trod_int Try.underlying30 h2
    obtain ⟨a3, e3, _, _⟩ := DataW.trod_int Try.underlying54 h3
    obtain ⟨a4, e4, _, _⟩ := DataW.trod_int Try.underlying54 h4
    simp at e0 e1 e2 e3 e4
    subst e0 e1 e2 e3 e4
    exact ⟨⟨a0, a1, a2, a3, a4⟩, k58_mk w ⟨a0, a1, a2, a3, a4⟩⟩
theorem slice_p27 {v : Value} {x : DataW H} {ps : List MemPlace} (hv : Value.okWide Try.prog w r base 27 v) (h : DataW.Trod enc Try.prog w 0 spare held 27 v x ps) :
    ∃ (A : Option Addr) (c : Nat) (l : List S56), v = .slice A l.length c ∧ l.length ≤ c ∧ Kd.C k56 w A l.length l :=
  slice_kd Try.underlying27 (by kernel_rfl) (fun n cs y hy => el56 hy) hv h
theorem slice_p48 {v : Value} {x : DataW H} {ps : List MemPlace} (hv : Value.okWide Try.prog w r base 48 v) (h : DataW.Trod enc Try.prog w 0 spare held 48 v x ps) :
    ∃ (A : Option Addr) (c : Nat) (l : List S58), v = .slice A l.length c ∧ l.length ≤ c ∧ Kd.C k58 w A l.length l :=
  slice_kd Try.underlying48 (by kernel_rfl) (fun n cs y hy => el58 hy) hv h
/-- A configuration. -/
theorem conf_26 {v : Value} {x : DataW H} {ps : List MemPlace} (hv : Value.okWide Try.prog w r base 26 v) (h : DataW.Trod enc Try.prog w 0 spare held 26 v x ps) :
    ∃ (A0 : Option Addr) (c0 : Nat) (l0 : List S73) (A1 : Option Addr) (c1 : Nat) (l1 : List S75) (A2 : Option Addr) (c2 : Nat) (l2 : List S46), v = .agg #[.slice A0 l0.length c0, .slice A1 l1.length c1, .slice A2 l2.length c2] ∧
      (l0.length ≤ c0 ∧ Kd.C k73 w A0 l0.length l0) ∧ (l1.length ≤ c1 ∧ Kd.C k75 w A1 l1.length l1) ∧ (l2.length ≤ c2 ∧ Kd.C k46 w A2 l2.length l2) := by
  obtain ⟨v0, v1, v2, y0, y1, y2, m, rfl, _, _, h0, h1, h2⟩ := open_agg3 Try.underlying26 (by kernel_rfl) (by kernel_rfl) hv h
  obtain ⟨A0, c0, l0, e0, g0⟩ := slice_kc (d := k73) Try.underlying22 (by kernel_rfl) (fun n cs y hy => el73 hy) h0
  obtain ⟨A1, c1, l1, e1, g1⟩ := slice_kc (d := k75) Try.underlying23 (by kernel_rfl) (fun n cs y hy => el75 hy) h1
  obtain ⟨A2, c2, l2, e2, g2⟩ := slice_kc (d := k46) Try.underlying24 (by kernel_rfl) (fun n cs y hy => el46 hy) h2
  simp at e0 e1 e2
  subst e0 e1 e2
  exact ⟨A0, c0, l0, A1, c1, l1, A2, c2, l2, rfl, g0, g1, g2⟩
end
end Go.Proofs.Ytfmpabdaadllaaa.PAll

/-
  watch.View.
-/
namespace Go.Proofs.Ytfmpabdaadllaaa.PAll
open Go.RowKit Go.Shelf Go.Proofs.YtfmpabdaadllaaaM Go.Proofs.YtfmpabdaadllaaaW.PrintWords Go.Proofs.YtfmpabdaadllaaaW.PrintLast
attribute [local go_sem] Oper.semAt_some
set_option linter.unusedVariables false
set_option linter.unusedSimpArgs false
theorem R_grown_n {α : Type} {d : Kd α} {e base : Nat} {ok : Nat → Prop} {A B : World} {v : Value} {xs : List α} (h : d.R e A base ok v xs) (hg : A.grownBy B none) : d.R e B base ok v xs :=
  Kd.R_mono (Kd.R_move (Kd.R_bound h) (fun k hk => hg.block k hk.2.2.1 (by simp))) (fun _ hk => hk.1)
def viewB (Wn : List S75) (l : List S56) (part : Int) (i : Nat) : Bool := fallsE Wn l i == part || (fallsE Wn l i == -1 && behE Wn l i == part)
def viewL (vb : Nat → Bool) (os : List S58) : Nat → List S58
  | 0 => []
  | i + 1 => viewL vb os i ++ if vb i = true then [os.getD i z58] else []
theorem viewL_len (vb : Nat → Bool) (os : List S58) : ∀ i, (viewL vb os i).length ≤ i
  | 0 => Nat.le_refl _
  | i + 1 => by
    have := viewL_len vb os i
    unfold viewL
    split <;> simp <;> omega
def viewE (P : List S73) (Wn : List S75) (Cn : List S46) (l : List S56) (os : List S58) (part : Int) : List S58 := if begE P Wn Cn part = 0 then (if l.length = os.length then viewL (viewB Wn l part) os l.length else []) else []
def viewR (P : List S73) (Wn : List S75) (Cn : List S46) (l : List S56) (os : List S58) (part : Int) : Int := if begE P Wn Cn part = 0 then (if l.length = os.length then 0 else 2) else begE P Wn Cn part
/-- What is kept while a region's first operations go in any order, one of which lays a row. -/
def RdA (k m : Nat) (vals : List Value) (W0 W1 : World) (b : Nat → Bool) (f : Nat → Value) (W : World) : Prop :=
  W = (if b m = true then W1 else W0.drew) ∧ ∀ j, j < k → b j = true → f j = vals.getD j undef
theorem RdA.start (k m : Nat) (vals : List Value) (W0 W1 : World) : RdA k m vals W0 W1 (fun _ => false) (fun _ => undef) W0.drew := ⟨rfl, fun _ _ h => by cases h⟩
theorem RdA.next {k m : Nat} {vals : List Value} {W0 W1 : World} {b : Nat → Bool} {f : Nat → Value} {W : World} {i : Nat} {v : Value} (h : RdA k m vals W0 W1 b f W) (hi : i ≠ m) (hv : v = vals.getD i undef) : RdA k m vals W0 W1 (up1 b i) (upv f i v) W := by
  refine ⟨?_, fun j hj hb => ?_⟩
  · have : up1 b i m = b m := by
      cases hb : b m
      · cases hu : up1 b i m with
        | false => rfl
        | true => exact absurd (up1_of hu (fun e => hi e.symm)) (by rw [hb]; decide)
      · unfold up1; simp [hb]
    rw [this]
    exact h.1
  · unfold upv
    by_cases e : j = i
    · rw [if_pos e, hv, e]
    · rw [if_neg e]; exact h.2 j hj (up1_of hb e)
theorem RdA.nextm {k m : Nat} {vals : List Value} {W0 W1 : World} {b : Nat → Bool} {f : Nat → Value} {W W' : World} {v : Value} (h : RdA k m vals W0 W1 b f W) (hv : v = vals.getD m undef) (hW : W' = W1) : RdA k m vals W0 W1 (up1 b m) (upv f m v) W' := by
  refine ⟨?_, fun j hj hb => ?_⟩
  · have : up1 b m m = true := by unfold up1; simp
    rw [this, if_pos rfl, hW]
  · unfold upv
    by_cases e : j = m
    · rw [if_pos e, hv, e]
    · rw [if_neg e]; exact h.2 j hj (up1_of hb e)
set_option maxRecDepth 100000 in
set_option maxHeartbeats 8000000 in
theorem view_good (P : List S73) (Wn : List S75) (Cn : List S46) (l : List S56) (os : List S58) (part : Int) (A0 : Option Addr) (c0 : Nat) (A1 : Option Addr) (c1 : Nat) (A2 : Option Addr) (c2 : Nat) (A : Option Addr) (c : Nat) (Ao : Option Addr) (co : Nat) (w : World) (h0 : Kd.C k73 w A0 P.length P) (hc0 : P.length ≤ c0) (h1 : Kd.C k75 w A1 Wn.length Wn) (hc1 : Wn.length ≤ c1) (h2 : Kd.C k46 w A2 Cn.length Cn) (hc2 : Cn.length ≤ c2) (hl : Kd.C k56 w A l.length l) (hcl : l.length ≤ c) (ho : Kd.C k58 w Ao os.length os) (hco : os.length ≤ co) (hlen : l.length ≤ 1000000) (he : begE P Wn Cn part = 0) (hlo : l.length = os.length) :
    Calls Try.prog 23 #[.agg #[.slice A0 P.length c0, .slice A1 Wn.length c1, .slice A2 Cn.length c2], .slice A l.length c, .slice Ao os.length co, .int .i64 part] w fun e W' => ∃ v, e = .returned (.tuple #[v, .int .i64 0]) ∧ k58.R 58 W' w.heap.size (fun _ => True) v (viewL (viewB Wn l part) os l.length) ∧ w.grownBy W' none := by
  obtain ⟨w3, hw3⟩ : ∃ w3, w3 = ((w.alloc (.cells #[.slice A0 P.length c0, .slice A1 Wn.length c1, .slice A2 Cn.length c2] 26)).alloc (.cells #[.slice Ao os.length co] 48)).alloc (.cells #[.int .i64 part] 3) := ⟨_, rfl⟩
  have hA : w.grownBy w3 none := by rw [hw3]; exact ((World.grownBy_alloc w _ none).trans (World.grownBy_alloc _ _ none)).trans (World.grownBy_alloc _ _ none)
  have hsz3 : w3.heap.size = w.heap.size + 3 := by rw [hw3]; simp
  have b3o : w3.heap[w.heap.size + 1]? = some (.cells #[.slice Ao os.length co] 48 (0, 0)) := by rw [hw3]; exact blk_alloc (new_at _ (by simp)) _
  have b3p : w3.heap[w.heap.size + 1 + 1]? = some (.cells #[.int .i64 part] 3 (0, 0)) := by rw [hw3]; exact new_at _ (by simp)
  have hN := (begin_calls P Wn Cn part A0 c0 A1 c1 A2 c2 _ (Kd.C_below h0 (below_of_grown hA)) hc0 (Kd.C_below h1 (below_of_grown hA)) hc1 (Kd.C_below h2 (below_of_grown hA)) hc2).1 he
  have HW := Aside0.mk (chkE_ok (begE_chk he).1).wok
  have HL := Aside0.mk (Kd.C_below hl (below_of_grown hA))
  have HO := Aside0.mk (Kd.C_below ho (below_of_grown hA))
  have HN := Aside0.mk hN
  have HA := Aside0.mk hA
  have HLEN := Aside0.mk (And.intro hlen hlo)
  have H3 := Aside0.mk (And.intro hsz3 (And.intro b3o b3p))
  have hlb : ((l.length : Int) != (os.length : Int)) = false := by rw [bne_eq_false_iff_eq, hlo]
  rw [hw3] at HN
  have HW3 := Aside0.mk hw3
  clear h0 h1 h2 hA hN hl ho hlen he hlo hsz3 b3o b3p hw3
  refine (callsIn_wide (n := 6)).1 ?_
  refine callsIn_of_wp_marks Try.func23 rfl trivial ?_ rfl
  simp only [Try.ntmps23, List.size_toArray, List.length_cons, List.length_nil, Nat.reduceAdd, Nat.reduceSub, Array.replicate_succ, Array.replicate_zero, List.push_toArray, List.append_toArray, List.nil_append, List.cons_append]
  gi_wp2_with (first
    | (refine ⟨trivial, ?_⟩; gi_at_call 27; refine (callsIn_wide.2 HN.out).mono ?_; rintro e W1 ⟨gs, hgs, rfl, hS, hg⟩; rw [← HW3.out] at hgs hg; have xo := (blk_cell (blk_grown H3.out.2.1 hg (by simp)) 0).trans rfl; have HS := Aside0.mk hS; have HG1 := Aside0.mk hg; have HGS := Aside0.mk hgs; clear hS hg hgs)
    | (refine ⟨trivial, ?_⟩; gi_at_call 33; refine (callsIn_wide.2 (turns_calls gs A l.length c _)).mono ?_; rintro e W2 ⟨rfl, rfl⟩))
  obtain ⟨Wr, hWr⟩ : ∃ Wr, Wr = (((W1.alloc (.cells #[.slice none 0 0] 48)).alloc (.cells #[.int .i64 0] 3)).alloc (.cells #[.pointer (some ⟨gs, 0, none⟩)] 60)).alloc (.cells #[.slice A l.length c] 27) := ⟨_, rfl⟩
  obtain ⟨bo, hbo⟩ : ∃ bo, bo = W1.heap.size := ⟨_, rfl⟩
  have hsz : Wr.heap.size = bo + 4 := by rw [hWr, hbo]; simp
  have hGr : W1.grownBy Wr none := by rw [hWr]; exact (((World.grownBy_alloc W1 _ none).trans (World.grownBy_alloc _ _ none)).trans (World.grownBy_alloc _ _ none)).trans (World.grownBy_alloc _ _ none)
  have q0 : Wr.heap[bo]? = some (.cells #[.slice none 0 0] 48 (0, 0)) := by rw [hWr, hbo]; exact blk_alloc (blk_alloc (blk_alloc (new_at _ rfl) _) _) _
  have q1 : Wr.heap[bo + 1]? = some (.cells #[.int .i64 0] 3 (0, 0)) := by rw [hWr, hbo]; exact blk_alloc (blk_alloc (new_at _ (by simp)) _) _
  have qx : BoxS Wr (bo + 1 + 1) gs := by unfold BoxS; rw [hWr, hbo]; exact blk_alloc (new_at _ (by simp)) _
  have ql : BoxL Wr (bo + 1 + 1 + 1) A l.length c := by unfold BoxL; rw [hWr, hbo]; exact new_at _ (by simp)
  have hgl : gs < bo := by rw [hbo]; exact HS.out.lt
  have hgw : w3.heap.size ≤ gs := HGS.out
  have hw33 := H3.out.1
  rw [← hWr, ← hbo]
  have HSR := Aside0.mk (HS.out.grown hGr)
  have HGR := Aside0.mk (HG1.out.trans hGr)
  have HZ := Aside0.mk (And.intro hsz (And.intro hgl hgw))
  clear hWr hbo hGr xo hlb
  refine wpIn_rangeFunc_G (F := Fence.wide) (n := 6) rfl (by decide) (gf := 40) (lb := #[.pointer (some ⟨bo + 1 + 1 + 1, 0, none⟩), .pointer (some ⟨bo + 1 + 1, 0, none⟩)]) rfl trivial (enters_of Try.func40 (by kernel_rfl) rfl)
    (turns_seq 5 (by decide) w3 (bo + 1 + 1 + 1) (bo + 1 + 1) gs (by omega) (by omega) hgw Wn HW.out A c l HL.out) (fun _ => rfl)
    (fun i W => i ≤ l.length ∧ (∃ v, W.heap[bo]? = some (.cells #[v] 48 (0, 0)) ∧ k58.R 58 W (bo + 4) (fun _ => True) v (viewL (viewB Wn l part) os i)) ∧ W.heap[bo + 1]? = some (.cells #[.int .i64 (i : Int)] 3 (0, 0)) ∧ w3.grownBy W none)
    (fun _ _ => False) ?hI (fun cd A B row h _ _ => h.elim) ?hTI (fun A B h k hk1 hlt => h.block k hlt (fun e => by cases e; omega)) ?hIK (fun cd A B h _ => h.elim)
    ⟨Nat.zero_le _, ⟨_, q0, Kd.R_nil _ _ _ _ _⟩, q1, HGR.out⟩ ⟨qx, ql, HSR.out, HGR.out⟩ ?round ?done (fun D cd W _ h _ => h.elim)
  case hI =>
    rintro i A B row ⟨a0, ⟨v, a1, a2⟩, a4, a3⟩ hg hr
    have hr' : ∀ r, row = some r → ∃ o : Obj, A.heap[r]? = some o ∧ o.isCells = false := fun r e => (hr r e).2
    exact ⟨a0, ⟨v, cells_own a1 hg hr', R_own a2 hg hr'⟩, cells_own a4 hg hr', a3.andThen hg (fun j e => .inl (by have := (hr j e).1; omega))⟩
  case hTI =>
    rintro i A B row ⟨a1, a2, a3, a4⟩ hg hr
    have hr' : ∀ r, row = some r → ∃ o : Obj, A.heap[r]? = some o ∧ o.isCells = false := fun r e => (hr r e).2
    exact ⟨cells_own a1 hg hr', cells_own a2 hg hr', a3.own hg hr', a4.andThen hg (fun j e => .inl (by have := (hr j e).1; omega))⟩
  case hIK =>
    rintro i A B ⟨a0, ⟨v, a1, a2⟩, a4, a3⟩ hg
    exact ⟨a0, ⟨v, blk_grown a1 hg (by simp; omega), R_grown_m a2 hg (by omega)⟩, blk_grown a4 hg (by simp; omega), a3.andThen hg (fun j e => by cases e; exact .inl hgw)⟩
  case done =>
    rintro D i W hD hi hTI ⟨a0, ⟨v, a1, a2⟩, a4, a3⟩ hK
    subst hi
    obtain ⟨A8, c8, rfl, _, _⟩ := Kd.R_reads a2
    have x1 := (blk_cell a1 0).trans rfl
    have HI := Aside0.mk (And.intro a1 (And.intro a2 a3))
    have HK := Aside0.mk hK
    clear a1 a2 a3 a4 hTI hK q0 q1 qx ql
    gi_wp2
    refine ⟨by simp, .inl ⟨_, _, rfl, run_takeDeferred HK.out, ?_⟩⟩
    have hr : ∀ r, some D = some r → ∃ o : Obj, W.heap[r]? = some o ∧ o.isCells = false := fun r e => by cases e; exact ⟨_, HK.out, rfl⟩
    have hp := grownBy_putObj' W D (.deferred none)
    exact ⟨.tuple #[.slice A8 (viewL (viewB Wn l part) os l.length).length c8, .int .i64 0], by simp [results, Try.f23, go_sem], _, rfl, Kd.R_lower (R_own HI.out.2.1 hp hr) (by omega), HA.out.trans (HI.out.2.2.andThen hp (fun j e => by cases e; exact .inl (by omega)))⟩
  case round =>
    rintro ll kk x kk' W hll ⟨a0, ⟨v, a1, a2⟩, a4, a3⟩ hTI ⟨hil, rfl, rfl⟩
    simp only
    obtain ⟨vb, hvb⟩ : ∃ vb, vb = viewB Wn l part := ⟨_, rfl⟩
    obtain ⟨fe, hfe⟩ : ∃ fe, fe = fallsE Wn l kk := ⟨_, rfl⟩
    obtain ⟨be, hbe⟩ : ∃ be, be = behE Wn l kk := ⟨_, rfl⟩
    have HVB := Aside0.mk (show vb kk = (fe == part || (fe == -1 && be == part)) by rw [hvb, hfe, hbe]; rfl)
    rw [← hfe, ← hbe]
    rw [← hvb] at a2 ⊢
    have HI := Aside0.mk (And.intro a1 (And.intro a2 (And.intro a4 a3)))
    have HT := Aside0.mk hTI
    obtain ⟨A8, c8, rfl, hq8, _⟩ := Kd.R_reads a2
    have hio : kk < os.length := by have := HLEN.out.2; omega
    clear a1 a2 a3 a4 hTI hfe hbe q0 q1 qx ql hvb
    gi_wp2
    refine ⟨KeepsFrom.refl _ _, fun W2 hg2 hob => ?_⟩
    obtain ⟨o2, ho2, hc2⟩ := hob
    have hr2 : ∀ r, some ll = some r → ∃ o : Obj, W.heap[r]? = some o ∧ o.isCells = false := fun r e => by cases e; exact ⟨o2, ho2, hc2⟩
    have p1 := cells_own HI.out.1 hg2 hr2
    have p2 := R_own HI.out.2.1 hg2 hr2
    have p4 := cells_own HI.out.2.2.1 hg2 hr2
    have p3 : w3.grownBy W2 none := HI.out.2.2.2.andThen hg2 (fun j e => by cases e; exact .inl (by omega))
    have t1 : BoxS W2 (bo + 1 + 1) gs := cells_own HT.out.1 hg2 hr2
    have t2 : BoxL W2 (bo + 1 + 1 + 1) A l.length c := cells_own HT.out.2.1 hg2 hr2
    have t3 := HT.out.2.2.1.own hg2 hr2
    have r0 : W2.cell? ⟨bo, 0, none⟩ = some (.slice A8 (viewL vb os kk).length c8) := (blk_cell p1 0).trans rfl
    have rk : W2.cell? ⟨bo + 1, 0, none⟩ = some (.int .i64 (kk : Int)) := (blk_cell p4 0).trans rfl
    have fk := blk_frozen p4 0
    have ro := (blk_cell (blk_grown H3.out.2.1 p3 (by simp)) 0).trans rfl
    have rp := (blk_cell (blk_grown H3.out.2.2 p3 (by simp)) 0).trans rfl
    obtain ⟨ad, eA, y0, y1, y2, y3, y4⟩ := at_T58 HO.out (kk : Int) (by omega) (by omega)
    subst eA
    obtain ⟨xo, hxo⟩ : ∃ xo, xo = os.getD kk z58 := ⟨_, rfl⟩
    have hrx : rd_T58 os (kk : Int) = xo := by unfold rd_T58; rw [Int.toNat_natCast, hxo]
    rw [hrx, Int.toNat_natCast] at y0 y1 y2 y3 y4
    replace y0 := cells_keep y0 (below_of_grown p3)
    replace y1 := cells_keep y1 (below_of_grown p3)
    replace y2 := cells_keep y2 (below_of_grown p3)
    replace y3 := cells_keep y3 (below_of_grown p3)
    replace y4 := cells_keep y4 (below_of_grown p3)
    have hSV : viewL vb os (kk + 1) = viewL vb os kk ++ if vb kk = true then [xo] else [] := by rw [hxo]; rfl
    obtain ⟨q0, q1, q2, q3, q4⟩ := xo
    have HSV := Aside0.mk hSV
    have hi0 : (0 : Int) ≤ (kk : Int) := by omega
    have hik : (kk : Int) < (os.length : Int) := by omega
    have hw1' : IntKind.i64.wrap ((kk : Int) + 1) = ((kk + 1 : Nat) : Int) := (IntWalk.i64_left _).trans ((IntWalk.wrap64_in _ (by have := HLEN.out.1; omega)).trans (by omega))
    have HP := Aside0.mk (And.intro p1 (And.intro p2 (And.intro p4 p3)))
    have HT2 := Aside0.mk (And.intro t1 (And.intro t2 t3))
    have hB2 : bo + 4 ≤ W2.heap.size := by have := (Array.getElem?_eq_some_iff.1 ho2).1; have := hg2.size; omega
    have HB2 := Aside0.mk hB2
    have HGG2 := Aside0.mk hg2
    simp only at y0 y1 y2 y3 y4
    clear hg2 hr2 p1 p2 p3 p4 t1 t2 t3 ho2 hB2 hxo hrx hSV
    cases e1 : (fe == part)
    · cases e2 : (fe == -1)
      · skip
        have HS := Aside0.mk (show viewL vb os (kk + 1) = viewL vb os kk by rw [HSV.out, HVB.out]; simp [*])
        clear r0 ro
        gi_wp2
        have g5 := gb_set W2 (bo + 1) 0 (.int .i64 ((kk + 1 : Nat) : Int))
        have E5 := blk_far HP.out.1 (p := ⟨bo + 1, 0, none⟩) (by simp) (.int .i64 ((kk + 1 : Nat) : Int))
        have K5 := blk_put HP.out.2.2.1 0 (.int .i64 ((kk + 1 : Nat) : Int)) rfl
        have hgz : w3.grownBy _ none := HP.out.2.2.2.andThen g5 (fun j e => by cases e; exact .inl (by omega))
        rw [HS.out]
        refine ⟨(KeepsOthers.setCell _ _ _).from _, ⟨by omega, ⟨_, E5, ?_⟩, K5, hgz⟩, ?_⟩
        · exact Kd.R_mono (Kd.R_far (p := ⟨bo + 1, 0, none⟩) (Kd.R_bound HP.out.2.1) (fun k hk e => by have h5 := hk.2.1; have h6 : k = bo + 1 := e; omega) _) (fun _ _ => trivial)
        · exact ⟨blk_grown HT2.out.1 g5 (fun e => by have := Option.some.inj e; omega), blk_grown HT2.out.2.1 g5 (fun e => by have := Option.some.inj e; omega), HT2.out.2.2.row g5 (fun r e => by cases e; omega), hgz⟩
      · cases e3 : (be == part)
        · skip
          have HS := Aside0.mk (show viewL vb os (kk + 1) = viewL vb os kk by rw [HSV.out, HVB.out]; simp [*])
          clear r0 ro
          gi_wp2
          have g5 := gb_set W2 (bo + 1) 0 (.int .i64 ((kk + 1 : Nat) : Int))
          have E5 := blk_far HP.out.1 (p := ⟨bo + 1, 0, none⟩) (by simp) (.int .i64 ((kk + 1 : Nat) : Int))
          have K5 := blk_put HP.out.2.2.1 0 (.int .i64 ((kk + 1 : Nat) : Int)) rfl
          have hgz : w3.grownBy _ none := HP.out.2.2.2.andThen g5 (fun j e => by cases e; exact .inl (by omega))
          rw [HS.out]
          refine ⟨(KeepsOthers.setCell _ _ _).from _, ⟨by omega, ⟨_, E5, ?_⟩, K5, hgz⟩, ?_⟩
          · exact Kd.R_mono (Kd.R_far (p := ⟨bo + 1, 0, none⟩) (Kd.R_bound HP.out.2.1) (fun k hk e => by have h5 := hk.2.1; have h6 : k = bo + 1 := e; omega) _) (fun _ _ => trivial)
          · exact ⟨blk_grown HT2.out.1 g5 (fun e => by have := Option.some.inj e; omega), blk_grown HT2.out.2.1 g5 (fun e => by have := Option.some.inj e; omega), HT2.out.2.2.row g5 (fun r e => by cases e; omega), hgz⟩
        · gi_wp2_with fail
          have hd1 : W2.grownBy W2.drew none := gb_drew (World.grownBy.refl _ _)
          obtain ⟨W1d, hW1d⟩ : ∃ W1d, W1d = W2.drew.alloc (.cells #[.int .i64 q0, .int .i64 q1, .int .i64 q2, .int .u32 q3, .int .u32 q4] 58) := ⟨_, rfl⟩
          have hd2 : W2.grownBy W1d none := by rw [hW1d]; exact hd1.trans (World.grownBy_alloc _ _ none)
          have HW1D := Aside0.mk hW1d
          clear hW1d
          have r0' := (blk_cell (blk_grown HP.out.1 hd2 (by simp)) 0).trans rfl
          have rk' := (blk_cell (blk_grown HP.out.2.2.1 hd2 (by simp)) 0).trans rfl
          have ro' := (blk_cell (blk_grown H3.out.2.1 (HP.out.2.2.2.trans hd2) (by simp)) 0).trans rfl
          have y0' := cells_keep y0 (below_of_grown hd2)
          have y1' := cells_keep y1 (below_of_grown hd2)
          have y2' := cells_keep y2 (below_of_grown hd2)
          have y3' := cells_keep y3 (below_of_grown hd2)
          have y4' := cells_keep y4 (below_of_grown hd2)
          refine wpIn_draw (l := _) (by kernel_rfl) 6 [(0, 47), (1, 48), (2, 49), (3, 50), (4, 51), (5, 52)] (RdA 6 5 [.slice A8 (viewL vb os kk).length c8, .slice (some ad) os.length co, .int .i64 (kk : Int), .pointer (some (ad.add (kk * 5))), .agg #[.int .i64 q0, .int .i64 q1, .int .i64 q2, .int .u32 q3, .int .u32 q4], .slice (some ⟨W2.heap.size, 0, none⟩) 1 1] W2 W1d) (by kernel_rfl) rfl (RdA.start _ _ _ _ _) ?hs ?ht
          case hs =>
            intro i o hi ho bq fq W' hbi hdep hI
            have HI := Aside0.mk hI
            have HD := Aside0.mk hdep
            have hwq := hI.1
            clear hI hdep
            match i, hi, ho, hbi with
            | 0, _, ho, hbi =>
              cases ho
              simp only [frm, Act.put, List.setIfInBounds_toArray, List.set_cons_zero, List.set_cons_succ, Array.getD_eq_getD_getElem?, List.getElem?_toArray, List.getElem?_cons_zero, List.getElem?_cons_succ, Option.getD_some]
              cases hq5 : bq 5
              · rw [hq5, if_neg (by decide)] at hwq
                subst hwq
                clear hq5
                gi_wp2
                exact ⟨_, rfl, HI.out.next (by decide) rfl⟩
              · rw [hq5, if_pos rfl] at hwq
                subst hwq
                clear hq5
                gi_wp2
                exact ⟨_, rfl, HI.out.next (by decide) rfl⟩
            | 1, _, ho, hbi =>
              cases ho
              simp only [frm, Act.put, List.setIfInBounds_toArray, List.set_cons_zero, List.set_cons_succ, Array.getD_eq_getD_getElem?, List.getElem?_toArray, List.getElem?_cons_zero, List.getElem?_cons_succ, Option.getD_some]
              cases hq5 : bq 5
              · rw [hq5, if_neg (by decide)] at hwq
                subst hwq
                clear hq5
                gi_wp2
                exact ⟨_, rfl, HI.out.next (by decide) rfl⟩
              · rw [hq5, if_pos rfl] at hwq
                subst hwq
                clear hq5
                gi_wp2
                exact ⟨_, rfl, HI.out.next (by decide) rfl⟩
            | 2, _, ho, hbi =>
              cases ho
              simp only [frm, Act.put, List.setIfInBounds_toArray, List.set_cons_zero, List.set_cons_succ, Array.getD_eq_getD_getElem?, List.getElem?_toArray, List.getElem?_cons_zero, List.getElem?_cons_succ, Option.getD_some]
              cases hq5 : bq 5
              · rw [hq5, if_neg (by decide)] at hwq
                subst hwq
                clear hq5
                gi_wp2
                exact ⟨_, rfl, HI.out.next (by decide) rfl⟩
              · rw [hq5, if_pos rfl] at hwq
                subst hwq
                clear hq5
                gi_wp2
                exact ⟨_, rfl, HI.out.next (by decide) rfl⟩
            | 3, _, ho, hbi =>
              cases ho
              have hb1 : bq 1 = true := HD.out { on := 1, ground := Ground.data } (by simp) rfl
              have h1 : fq 1 = .slice (some ad) os.length co := HI.out.2 1 (by decide) hb1
              have hb2 : bq 2 = true := HD.out { on := 2, ground := Ground.data } (by simp) rfl
              have h2 : fq 2 = .int .i64 (kk : Int) := HI.out.2 2 (by decide) hb2
              simp only [frm, Act.put, List.setIfInBounds_toArray, List.set_cons_zero, List.set_cons_succ, Array.getD_eq_getD_getElem?, List.getElem?_toArray, List.getElem?_cons_zero, List.getElem?_cons_succ, Option.getD_some, hb1, h1, hb2, h2, sel_true]
              clear h1 hb1
              clear h2 hb2
              cases hq5 : bq 5
              · rw [hq5, if_neg (by decide)] at hwq
                subst hwq
                clear hq5
                gi_wp2
                exact ⟨_, rfl, HI.out.next (by decide) rfl⟩
              · rw [hq5, if_pos rfl] at hwq
                subst hwq
                clear hq5
                gi_wp2
                exact ⟨_, rfl, HI.out.next (by decide) rfl⟩
            | 4, _, ho, hbi =>
              cases ho
              have hb3 : bq 3 = true := HD.out { on := 3, ground := Ground.data } (by simp) rfl
              have h3 : fq 3 = .pointer (some (ad.add (kk * 5))) := HI.out.2 3 (by decide) hb3
              simp only [frm, Act.put, List.setIfInBounds_toArray, List.set_cons_zero, List.set_cons_succ, Array.getD_eq_getD_getElem?, List.getElem?_toArray, List.getElem?_cons_zero, List.getElem?_cons_succ, Option.getD_some, hb3, h3, sel_true]
              clear h3 hb3
              cases hq5 : bq 5
              · rw [hq5, if_neg (by decide)] at hwq
                subst hwq
                clear hq5
                gi_wp2
                exact ⟨_, rfl, HI.out.next (by decide) rfl⟩
              · rw [hq5, if_pos rfl] at hwq
                subst hwq
                clear hq5
                gi_wp2
                exact ⟨_, rfl, HI.out.next (by decide) rfl⟩
            | 5, _, ho, hbi =>
              cases ho
              have hb4 : bq 4 = true := HD.out { on := 4, ground := Ground.data } (by simp) rfl
              have h4 : fq 4 = .agg #[.int .i64 q0, .int .i64 q1, .int .i64 q2, .int .u32 q3, .int .u32 q4] := HI.out.2 4 (by decide) hb4
              simp only [frm, Act.put, List.setIfInBounds_toArray, List.set_cons_zero, List.set_cons_succ, Array.getD_eq_getD_getElem?, List.getElem?_toArray, List.getElem?_cons_zero, List.getElem?_cons_succ, Option.getD_some, hb4, h4, sel_true]
              clear h4 hb4
              rw [hbi, if_neg (by decide)] at hwq
              subst hwq
              gi_wp2
              exact ⟨_, rfl, HI.out.nextm rfl HW1D.out.symm⟩
          case ht =>
            intro bq fq W' hb hI
            have hwq := hI.1
            rw [hb 5 (by decide), if_pos rfl] at hwq
            subst hwq
            have h0 : fq 0 = .slice A8 (viewL vb os kk).length c8 := hI.2 0 (by decide) (hb 0 (by decide))
            have h1 : fq 1 = .slice (some ad) os.length co := hI.2 1 (by decide) (hb 1 (by decide))
            have h2 : fq 2 = .int .i64 (kk : Int) := hI.2 2 (by decide) (hb 2 (by decide))
            have h3 : fq 3 = .pointer (some (ad.add (kk * 5))) := hI.2 3 (by decide) (hb 3 (by decide))
            have h4 : fq 4 = .agg #[.int .i64 q0, .int .i64 q1, .int .i64 q2, .int .u32 q3, .int .u32 q4] := hI.2 4 (by decide) (hb 4 (by decide))
            have h5 : fq 5 = .slice (some ⟨W2.heap.size, 0, none⟩) 1 1 := hI.2 5 (by decide) (hb 5 (by decide))
            simp only [frm, Act.put, List.setIfInBounds_toArray, List.set_cons_zero, List.set_cons_succ, Array.getD_eq_getD_getElem?, List.getElem?_toArray, List.getElem?_cons_zero, List.getElem?_cons_succ, Option.getD_some, sel_true, h0, h1, h2, h3, h4, h5]
            clear hI hb h0 h1 h2 h3 h4 h5
            simp only [List.drop_succ_cons, List.drop_zero]
            have HS := Aside0.mk (show viewL vb os (kk + 1) = viewL vb os kk ++ [⟨q0, q1, q2, q3, q4⟩] by rw [HSV.out, HVB.out]; simp [*])
            rw [HW1D.out]
            have HPO := Aside0.mk (blk_grown HP.out.1 hd1 (by simp))
            have HPK := Aside0.mk (blk_grown HP.out.2.2.1 hd1 (by simp))
            have HPR := Aside0.mk (R_grown_n HP.out.2.1 hd1)
            have HPG := Aside0.mk (HP.out.2.2.2.trans hd1)
            have HD1 := Aside0.mk hd1
            clear r0 rk ro rp hd1 hd2 r0' rk' ro' y0 y1 y2 y3 y4 y0' y1' y2' y3' y4'
            gi_wp2_with (gi_at_builtin; go_loud (refine R_appendIn k58 (W := W2.drew) (bo + 4) rfl (.tmp 47) (.tmp 52) 48 58 (.agg #[.int .i64 0, .int .i64 0, .int .i64 0, .int .u32 0, .int .u32 0]) 32 rfl Try.underlying48 info58 rfl (by decide) (by decide) (.slice A8 (viewL vb os kk).length c8) (viewL vb os kk) ⟨q0, q1, q2, q3, q4⟩ [.int .i64 q0, .int .i64 q1, .int .i64 q2, .int .u32 q3, .int .u32 q4] (fun _ => True) (fun _ => False) rfl rfl (k58_mkM _ _ _ ⟨q0, q1, q2, q3, q4⟩) (fun _ h => h.elim) (fun _ _ => trivial) HPR.out HB2.out ?hln ?_); (case hln => have := viewL_len vb os kk; have := HLEN.out; omega); intro v1 W3 hR3 hg3 hat3; rw [← HS.out] at hR3; obtain ⟨Tj, hTj⟩ : ∃ Tj, Tj = viewL vb os (kk + 1) := ⟨_, rfl⟩; rw [← hTj] at hR3; obtain ⟨A9, c9, rfl, _, _⟩ := Kd.R_reads hR3; have hne : ∀ b, b < bo + 4 → some b ≠ (Value.slice A8 (viewL vb os kk).length c8).ownBlock := (fun b hb e => by have := Kd.R_base HPR.out b e.symm; omega); have e3 := blk_grown HPO.out hg3 (hne bo (by omega)); have k3 := blk_grown HPK.out hg3 (hne (bo + 1) (by omega)); have y30 := (blk_cell e3 0).trans rfl; have z30 := blk_frozen e3 0; have w30 := (blk_cell (blk_far k3 (p := ⟨bo, 0, none⟩) (by simp) (.slice A9 Tj.length c9)) 0).trans rfl; have w31 := blk_frozen (blk_far k3 (p := ⟨bo, 0, none⟩) (by simp) (.slice A9 Tj.length c9)) 0; have E3 := Aside0.mk e3; have K3 := Aside0.mk k3; have HR3 := Aside0.mk hR3; have HG3 := Aside0.mk hg3; have HNE := Aside0.mk hne; have HTJ := Aside0.mk hTj; clear hR3 hg3 hat3 e3 k3 hne hTj)
            rw [← HTJ.out]
            have hrow : ∀ (j : Nat) (o : Obj), (Value.slice A8 (viewL vb os kk).length c8).ownBlock = some j → W2.drew.heap[j]? = some o → o.isCells = true := fun j o hj ho => by
              obtain ⟨_, _, _, q, _, cells, h5⟩ := (Kd.R_bound HPR.out).1 j hj
              rw [h5] at ho; cases ho; rfl
            have hs3 := (HT2.out.2.2.grown HD1.out).row HG3.out (fun r e => by have := Kd.R_base HPR.out r e; omega)
            have hgf : w3.grownBy W3 none := HPG.out.andThen HG3.out (fun j e => .inl (by have := Kd.R_base HPR.out j e; omega))
            have g4 := gb_set W3 bo 0 (.slice A9 Tj.length c9)
            have g5 := gb_set (W3.setCell ⟨bo, 0, none⟩ (.slice A9 Tj.length c9)) (bo + 1) 0 (.int .i64 ((kk + 1 : Nat) : Int))
            have E5 := blk_far (blk_put E3.out 0 (.slice A9 Tj.length c9) rfl) (p := ⟨bo + 1, 0, none⟩) (by simp) (.int .i64 ((kk + 1 : Nat) : Int))
            have K5 := blk_put (blk_far K3.out (p := ⟨bo, 0, none⟩) (by simp) (.slice A9 Tj.length c9)) 0 (.int .i64 ((kk + 1 : Nat) : Int)) rfl
            have hgz : w3.grownBy _ none := (hgf.andThen g4 (fun j e => by cases e; exact .inl (by omega))).andThen g5 (fun j e => by cases e; exact .inl (by omega))
            have keepb : ∀ (b : Nat) (o : Obj), b ≠ bo → b ≠ bo + 1 → b < bo + 4 → W2.heap[b]? = some o → _ := fun b o n1 n2 n3 h => blk_grown (blk_grown (blk_grown (blk_grown h HD1.out (by simp)) HG3.out (HNE.out _ n3)) g4 (fun e => n1 (Option.some.inj e))) g5 (fun e => n2 (Option.some.inj e))
            refine ⟨((((KeepsOthers.of_grownBy HD1.out (fun j o h => by cases h)).trans (KeepsOthers.of_grownBy HG3.out hrow)).trans (KeepsOthers.setCell _ _ _)).trans (KeepsOthers.setCell _ _ _)).from _, ⟨by omega, ⟨_, E5, ?_⟩, K5, hgz⟩, ?_⟩
            · exact Kd.R_mono (Kd.R_far (p := ⟨bo + 1, 0, none⟩) (Kd.R_far (p := ⟨bo, 0, none⟩) (Kd.R_bound HR3.out) (fun k hk e => by have h5 := hk.2.1; have h6 : k = bo := e; omega) _) (fun k hk e => by have h5 := hk.2.1; have h6 : k = bo + 1 := e; omega) _) (fun _ _ => trivial)
            · exact ⟨keepb _ _ (by omega) (by omega) (by omega) HT2.out.1, keepb _ _ (by omega) (by omega) (by omega) HT2.out.2.1, (hs3.row g4 (fun r e => by cases e; omega)).row g5 (fun r e => by cases e; omega), hgz⟩
    · gi_wp2_with fail
      have hd1 : W2.grownBy W2.drew none := gb_drew (World.grownBy.refl _ _)
      obtain ⟨W1d, hW1d⟩ : ∃ W1d, W1d = W2.drew.alloc (.cells #[.int .i64 q0, .int .i64 q1, .int .i64 q2, .int .u32 q3, .int .u32 q4] 58) := ⟨_, rfl⟩
      have hd2 : W2.grownBy W1d none := by rw [hW1d]; exact hd1.trans (World.grownBy_alloc _ _ none)
      have HW1D := Aside0.mk hW1d
      clear hW1d
      have r0' := (blk_cell (blk_grown HP.out.1 hd2 (by simp)) 0).trans rfl
      have rk' := (blk_cell (blk_grown HP.out.2.2.1 hd2 (by simp)) 0).trans rfl
      have ro' := (blk_cell (blk_grown H3.out.2.1 (HP.out.2.2.2.trans hd2) (by simp)) 0).trans rfl
      have y0' := cells_keep y0 (below_of_grown hd2)
      have y1' := cells_keep y1 (below_of_grown hd2)
      have y2' := cells_keep y2 (below_of_grown hd2)
      have y3' := cells_keep y3 (below_of_grown hd2)
      have y4' := cells_keep y4 (below_of_grown hd2)
      refine wpIn_draw (l := _) (by kernel_rfl) 6 [(0, 47), (1, 48), (2, 49), (3, 50), (4, 51), (5, 52)] (RdA 6 5 [.slice A8 (viewL vb os kk).length c8, .slice (some ad) os.length co, .int .i64 (kk : Int), .pointer (some (ad.add (kk * 5))), .agg #[.int .i64 q0, .int .i64 q1, .int .i64 q2, .int .u32 q3, .int .u32 q4], .slice (some ⟨W2.heap.size, 0, none⟩) 1 1] W2 W1d) (by kernel_rfl) rfl (RdA.start _ _ _ _ _) ?hs ?ht
      case hs =>
        intro i o hi ho bq fq W' hbi hdep hI
        have HI := Aside0.mk hI
        have HD := Aside0.mk hdep
        have hwq := hI.1
        clear hI hdep
        match i, hi, ho, hbi with
        | 0, _, ho, hbi =>
          cases ho
          simp only [frm, Act.put, List.setIfInBounds_toArray, List.set_cons_zero, List.set_cons_succ, Array.getD_eq_getD_getElem?, List.getElem?_toArray, List.getElem?_cons_zero, List.getElem?_cons_succ, Option.getD_some]
          cases hq5 : bq 5
          · rw [hq5, if_neg (by decide)] at hwq
            subst hwq
            clear hq5
            gi_wp2
            exact ⟨_, rfl, HI.out.next (by decide) rfl⟩
          · rw [hq5, if_pos rfl] at hwq
            subst hwq
            clear hq5
            gi_wp2
            exact ⟨_, rfl, HI.out.next (by decide) rfl⟩
        | 1, _, ho, hbi =>
          cases ho
          simp only [frm, Act.put, List.setIfInBounds_toArray, List.set_cons_zero, List.set_cons_succ, Array.getD_eq_getD_getElem?, List.getElem?_toArray, List.getElem?_cons_zero, List.getElem?_cons_succ, Option.getD_some]
          cases hq5 : bq 5
          · rw [hq5, if_neg (by decide)] at hwq
            subst hwq
            clear hq5
            gi_wp2
            exact ⟨_, rfl, HI.out.next (by decide) rfl⟩
          · rw [hq5, if_pos rfl] at hwq
            subst hwq
            clear hq5
            gi_wp2
            exact ⟨_, rfl, HI.out.next (by decide) rfl⟩
        | 2, _, ho, hbi =>
          cases ho
          simp only [frm, Act.put, List.setIfInBounds_toArray, List.set_cons_zero, List.set_cons_succ, Array.getD_eq_getD_getElem?, List.getElem?_toArray, List.getElem?_cons_zero, List.getElem?_cons_succ, Option.getD_some]
          cases hq5 : bq 5
          · rw [hq5, if_neg (by decide)] at hwq
            subst hwq
            clear hq5
            gi_wp2
            exact ⟨_, rfl, HI.out.next (by decide) rfl⟩
          · rw [hq5, if_pos rfl] at hwq
            subst hwq
            clear hq5
            gi_wp2
            exact ⟨_, rfl, HI.out.next (by decide) rfl⟩
        | 3, _, ho, hbi =>
          cases ho
          have hb1 : bq 1 = true := HD.out { on := 1, ground := Ground.data } (by simp) rfl
          have h1 : fq 1 = .slice (some ad) os.length co := HI.out.2 1 (by decide) hb1
          have hb2 : bq 2 = true := HD.out { on := 2, ground := Ground.data } (by simp) rfl
          have h2 : fq 2 = .int .i64 (kk : Int) := HI.out.2 2 (by decide) hb2
          simp only [frm, Act.put, List.setIfInBounds_toArray, List.set_cons_zero, List.set_cons_succ, Array.getD_eq_getD_getElem?, List.getElem?_toArray, List.getElem?_cons_zero, List.getElem?_cons_succ, Option.getD_some, hb1, h1, hb2, h2, sel_true]
          clear h1 hb1
          clear h2 hb2
          cases hq5 : bq 5
          · rw [hq5, if_neg (by decide)] at hwq
            subst hwq
            clear hq5
            gi_wp2
            exact ⟨_, rfl, HI.out.next (by decide) rfl⟩
          · rw [hq5, if_pos rfl] at hwq
            subst hwq
            clear hq5
            gi_wp2
            exact ⟨_, rfl, HI.out.next (by decide) rfl⟩
        | 4, _, ho, hbi =>
          cases ho
          have hb3 : bq 3 = true := HD.out { on := 3, ground := Ground.data } (by simp) rfl
          have h3 : fq 3 = .pointer (some (ad.add (kk * 5))) := HI.out.2 3 (by decide) hb3
          simp only [frm, Act.put, List.setIfInBounds_toArray, List.set_cons_zero, List.set_cons_succ, Array.getD_eq_getD_getElem?, List.getElem?_toArray, List.getElem?_cons_zero, List.getElem?_cons_succ, Option.getD_some, hb3, h3, sel_true]
          clear h3 hb3
          cases hq5 : bq 5
          · rw [hq5, if_neg (by decide)] at hwq
            subst hwq
            clear hq5
            gi_wp2
            exact ⟨_, rfl, HI.out.next (by decide) rfl⟩
          · rw [hq5, if_pos rfl] at hwq
            subst hwq
            clear hq5
            gi_wp2
            exact ⟨_, rfl, HI.out.next (by decide) rfl⟩
        | 5, _, ho, hbi =>
          cases ho
          have hb4 : bq 4 = true := HD.out { on := 4, ground := Ground.data } (by simp) rfl
          have h4 : fq 4 = .agg #[.int .i64 q0, .int .i64 q1, .int .i64 q2, .int .u32 q3, .int .u32 q4] := HI.out.2 4 (by decide) hb4
          simp only [frm, Act.put, List.setIfInBounds_toArray, List.set_cons_zero, List.set_cons_succ, Array.getD_eq_getD_getElem?, List.getElem?_toArray, List.getElem?_cons_zero, List.getElem?_cons_succ, Option.getD_some, hb4, h4, sel_true]
          clear h4 hb4
          rw [hbi, if_neg (by decide)] at hwq
          subst hwq
          gi_wp2
          exact ⟨_, rfl, HI.out.nextm rfl HW1D.out.symm⟩
      case ht =>
        intro bq fq W' hb hI
        have hwq := hI.1
        rw [hb 5 (by decide), if_pos rfl] at hwq
        subst hwq
        have h0 : fq 0 = .slice A8 (viewL vb os kk).length c8 := hI.2 0 (by decide) (hb 0 (by decide))
        have h1 : fq 1 = .slice (some ad) os.length co := hI.2 1 (by decide) (hb 1 (by decide))
        have h2 : fq 2 = .int .i64 (kk : Int) := hI.2 2 (by decide) (hb 2 (by decide))
        have h3 : fq 3 = .pointer (some (ad.add (kk * 5))) := hI.2 3 (by decide) (hb 3 (by decide))
        have h4 : fq 4 = .agg #[.int .i64 q0, .int .i64 q1, .int .i64 q2, .int .u32 q3, .int .u32 q4] := hI.2 4 (by decide) (hb 4 (by decide))
        have h5 : fq 5 = .slice (some ⟨W2.heap.size, 0, none⟩) 1 1 := hI.2 5 (by decide) (hb 5 (by decide))
        simp only [frm, Act.put, List.setIfInBounds_toArray, List.set_cons_zero, List.set_cons_succ, Array.getD_eq_getD_getElem?, List.getElem?_toArray, List.getElem?_cons_zero, List.getElem?_cons_succ, Option.getD_some, sel_true, h0, h1, h2, h3, h4, h5]
        clear hI hb h0 h1 h2 h3 h4 h5
        simp only [List.drop_succ_cons, List.drop_zero]
        have HS := Aside0.mk (show viewL vb os (kk + 1) = viewL vb os kk ++ [⟨q0, q1, q2, q3, q4⟩] by rw [HSV.out, HVB.out]; simp [*])
        rw [HW1D.out]
        have HPO := Aside0.mk (blk_grown HP.out.1 hd1 (by simp))
        have HPK := Aside0.mk (blk_grown HP.out.2.2.1 hd1 (by simp))
        have HPR := Aside0.mk (R_grown_n HP.out.2.1 hd1)
        have HPG := Aside0.mk (HP.out.2.2.2.trans hd1)
        have HD1 := Aside0.mk hd1
        clear r0 rk ro rp hd1 hd2 r0' rk' ro' y0 y1 y2 y3 y4 y0' y1' y2' y3' y4'
        gi_wp2_with (gi_at_builtin; go_loud (refine R_appendIn k58 (W := W2.drew) (bo + 4) rfl (.tmp 47) (.tmp 52) 48 58 (.agg #[.int .i64 0, .int .i64 0, .int .i64 0, .int .u32 0, .int .u32 0]) 32 rfl Try.underlying48 info58 rfl (by decide) (by decide) (.slice A8 (viewL vb os kk).length c8) (viewL vb os kk) ⟨q0, q1, q2, q3, q4⟩ [.int .i64 q0, .int .i64 q1, .int .i64 q2, .int .u32 q3, .int .u32 q4] (fun _ => True) (fun _ => False) rfl rfl (k58_mkM _ _ _ ⟨q0, q1, q2, q3, q4⟩) (fun _ h => h.elim) (fun _ _ => trivial) HPR.out HB2.out ?hln ?_); (case hln => have := viewL_len vb os kk; have := HLEN.out; omega); intro v1 W3 hR3 hg3 hat3; rw [← HS.out] at hR3; obtain ⟨Tj, hTj⟩ : ∃ Tj, Tj = viewL vb os (kk + 1) := ⟨_, rfl⟩; rw [← hTj] at hR3; obtain ⟨A9, c9, rfl, _, _⟩ := Kd.R_reads hR3; have hne : ∀ b, b < bo + 4 → some b ≠ (Value.slice A8 (viewL vb os kk).length c8).ownBlock := (fun b hb e => by have := Kd.R_base HPR.out b e.symm; omega); have e3 := blk_grown HPO.out hg3 (hne bo (by omega)); have k3 := blk_grown HPK.out hg3 (hne (bo + 1) (by omega)); have y30 := (blk_cell e3 0).trans rfl; have z30 := blk_frozen e3 0; have w30 := (blk_cell (blk_far k3 (p := ⟨bo, 0, none⟩) (by simp) (.slice A9 Tj.length c9)) 0).trans rfl; have w31 := blk_frozen (blk_far k3 (p := ⟨bo, 0, none⟩) (by simp) (.slice A9 Tj.length c9)) 0; have E3 := Aside0.mk e3; have K3 := Aside0.mk k3; have HR3 := Aside0.mk hR3; have HG3 := Aside0.mk hg3; have HNE := Aside0.mk hne; have HTJ := Aside0.mk hTj; clear hR3 hg3 hat3 e3 k3 hne hTj)
        rw [← HTJ.out]
        have hrow : ∀ (j : Nat) (o : Obj), (Value.slice A8 (viewL vb os kk).length c8).ownBlock = some j → W2.drew.heap[j]? = some o → o.isCells = true := fun j o hj ho => by
          obtain ⟨_, _, _, q, _, cells, h5⟩ := (Kd.R_bound HPR.out).1 j hj
          rw [h5] at ho; cases ho; rfl
        have hs3 := (HT2.out.2.2.grown HD1.out).row HG3.out (fun r e => by have := Kd.R_base HPR.out r e; omega)
        have hgf : w3.grownBy W3 none := HPG.out.andThen HG3.out (fun j e => .inl (by have := Kd.R_base HPR.out j e; omega))
        have g4 := gb_set W3 bo 0 (.slice A9 Tj.length c9)
        have g5 := gb_set (W3.setCell ⟨bo, 0, none⟩ (.slice A9 Tj.length c9)) (bo + 1) 0 (.int .i64 ((kk + 1 : Nat) : Int))
        have E5 := blk_far (blk_put E3.out 0 (.slice A9 Tj.length c9) rfl) (p := ⟨bo + 1, 0, none⟩) (by simp) (.int .i64 ((kk + 1 : Nat) : Int))
        have K5 := blk_put (blk_far K3.out (p := ⟨bo, 0, none⟩) (by simp) (.slice A9 Tj.length c9)) 0 (.int .i64 ((kk + 1 : Nat) : Int)) rfl
        have hgz : w3.grownBy _ none := (hgf.andThen g4 (fun j e => by cases e; exact .inl (by omega))).andThen g5 (fun j e => by cases e; exact .inl (by omega))
        have keepb : ∀ (b : Nat) (o : Obj), b ≠ bo → b ≠ bo + 1 → b < bo + 4 → W2.heap[b]? = some o → _ := fun b o n1 n2 n3 h => blk_grown (blk_grown (blk_grown (blk_grown h HD1.out (by simp)) HG3.out (HNE.out _ n3)) g4 (fun e => n1 (Option.some.inj e))) g5 (fun e => n2 (Option.some.inj e))
        refine ⟨((((KeepsOthers.of_grownBy HD1.out (fun j o h => by cases h)).trans (KeepsOthers.of_grownBy HG3.out hrow)).trans (KeepsOthers.setCell _ _ _)).trans (KeepsOthers.setCell _ _ _)).from _, ⟨by omega, ⟨_, E5, ?_⟩, K5, hgz⟩, ?_⟩
        · exact Kd.R_mono (Kd.R_far (p := ⟨bo + 1, 0, none⟩) (Kd.R_far (p := ⟨bo, 0, none⟩) (Kd.R_bound HR3.out) (fun k hk e => by have h5 := hk.2.1; have h6 : k = bo := e; omega) _) (fun k hk e => by have h5 := hk.2.1; have h6 : k = bo + 1 := e; omega) _) (fun _ _ => trivial)
        · exact ⟨keepb _ _ (by omega) (by omega) (by omega) HT2.out.1, keepb _ _ (by omega) (by omega) (by omega) HT2.out.2.1, (hs3.row g4 (fun r e => by cases e; omega)).row g5 (fun r e => by cases e; omega), hgz⟩
set_option maxHeartbeats 4000000 in
theorem view_bad (P : List S73) (Wn : List S75) (Cn : List S46) (l : List S56) (os : List S58) (part : Int) (A0 : Option Addr) (c0 : Nat) (A1 : Option Addr) (c1 : Nat) (A2 : Option Addr) (c2 : Nat) (A : Option Addr) (c : Nat) (Ao : Option Addr) (co : Nat) (w : World) (h0 : Kd.C k73 w A0 P.length P) (hc0 : P.length ≤ c0) (h1 : Kd.C k75 w A1 Wn.length Wn) (hc1 : Wn.length ≤ c1) (h2 : Kd.C k46 w A2 Cn.length Cn) (hc2 : Cn.length ≤ c2) (hno : ¬ (begE P Wn Cn part = 0 ∧ l.length = os.length)) :
    Calls Try.prog 23 #[.agg #[.slice A0 P.length c0, .slice A1 Wn.length c1, .slice A2 Cn.length c2], .slice A l.length c, .slice Ao os.length co, .int .i64 part] w fun e W' => e = .returned (.tuple #[.slice none 0 0, .int .i64 (viewR P Wn Cn l os part)]) ∧ w.grownBy W' none := by
  obtain ⟨w3, hw3⟩ : ∃ w3, w3 = ((w.alloc (.cells #[.slice A0 P.length c0, .slice A1 Wn.length c1, .slice A2 Cn.length c2] 26)).alloc (.cells #[.slice Ao os.length co] 48)).alloc (.cells #[.int .i64 part] 3) := ⟨_, rfl⟩
  have hA : w.grownBy w3 none := by rw [hw3]; exact ((World.grownBy_alloc w _ none).trans (World.grownBy_alloc _ _ none)).trans (World.grownBy_alloc _ _ none)
  have b3o : w3.heap[w.heap.size + 1]? = some (.cells #[.slice Ao os.length co] 48 (0, 0)) := by rw [hw3]; exact blk_alloc (new_at _ (by simp)) _
  have hN := (begin_calls P Wn Cn part A0 c0 A1 c1 A2 c2 _ (Kd.C_below h0 (below_of_grown hA)) hc0 (Kd.C_below h1 (below_of_grown hA)) hc1 (Kd.C_below h2 (below_of_grown hA)) hc2)
  by_cases he : begE P Wn Cn part = 0
  · have hlo : ¬ l.length = os.length := fun h => hno ⟨he, h⟩
    have hv : viewR P Wn Cn l os part = 2 := by unfold viewR; rw [if_pos he, if_neg hlo]
    have hlb : ((l.length : Int) != (os.length : Int)) = true := by rw [bne_iff_ne]; omega
    have HN := Aside0.mk (hN.1 he)
    have HA := Aside0.mk hA
    have H3 := Aside0.mk b3o
    rw [hv]
    rw [hw3] at HN
    have HW3 := Aside0.mk hw3
    clear h0 h1 h2 hA hN he hlo hv hno b3o hw3
    go_enter Try.func23, Try.ntmps23
    go_wp2_with (go_at_call 27; refine HN.out.mono ?_; rintro e W1 ⟨gs, hgs, rfl, hS, hg⟩; rw [← HW3.out] at hg; have xo := (blk_cell (blk_grown H3.out hg (by simp)) 0).trans rfl; have HG1 := Aside0.mk (HA.out.trans hg); clear hg hS hgs)
    go_ret2
    exact ⟨rfl, HG1.out⟩
  · have hn := hN.2 he
    have hv : viewR P Wn Cn l os part = begE P Wn Cn part := by unfold viewR; rw [if_neg he]
    rw [hv]
    obtain ⟨E, hE⟩ : ∃ E, E = begE P Wn Cn part := ⟨_, rfl⟩
    rw [← hE] at hn he ⊢
    have HN := Aside0.mk hn
    have HA := Aside0.mk hA
    rw [hw3] at HN
    have HW3 := Aside0.mk hw3
    have e0b : (E != 0) = true := by rw [bne_iff_ne]; exact he
    clear h0 h1 h2 hA hN he hn hE hv hno b3o hw3
    go_enter Try.func23, Try.ntmps23
    go_wp2_with (go_at_call 27; refine HN.out.mono ?_; rintro e W1 ⟨rfl, hg⟩; rw [← HW3.out] at hg; have HG1 := Aside0.mk (HA.out.trans hg); clear hg)
    go_ret2
    exact ⟨rfl, HG1.out⟩
def watch_View.f (k : Nat) (l0_0 : List S73) (l0_1 : List S75) (l0_2 : List S46) (l1 : List S56) (l2 : List S58) (a3 : Int) : Option (List S58 × Int) := if l1.length ≤ 1000000 then some (viewE l0_0 l0_1 l0_2 l1 l2 a3, viewR l0_0 l0_1 l0_2 l1 l2 a3) else none
theorem watch_View.mono : ∀ a0 a1 a2 a3 a4 a5 k, LeO (watch_View.f k a0 a1 a2 a3 a4 a5) (watch_View.f (k + 1) a0 a1 a2 a3 a4 a5) := fun _ _ _ _ _ _ _ => LeO.refl _
theorem watch_View.calls (k : Nat) (A0_0 : Option Addr) (c0_0 : Nat) (l0_0 : List (S73)) (A0_1 : Option Addr) (c0_1 : Nat) (l0_1 : List (S75)) (A0_2 : Option Addr) (c0_2 : Nat) (l0_2 : List (S46)) (A1 : Option Addr) (c1 : Nat) (l1 : List (S56)) (A2 : Option Addr) (c2 : Nat) (l2 : List (S58)) (a3 : Int) (r1 : List (S58)) (r2 : Int) (w : World) (hr0_0 : Kd.C k73 w A0_0 l0_0.length l0_0) (hc0_0 : l0_0.length ≤ c0_0) (hr0_1 : Kd.C k75 w A0_1 l0_1.length l0_1) (hc0_1 : l0_1.length ≤ c0_1) (hr0_2 : Kd.C k46 w A0_2 l0_2.length l0_2) (hc0_2 : l0_2.length ≤ c0_2) (hr1 : Kd.C k56 w A1 l1.length l1) (hc1 : l1.length ≤ c1) (hr2 : Kd.C k58 w A2 l2.length l2) (hc2 : l2.length ≤ c2) (h : watch_View.f k l0_0 l0_1 l0_2 l1 l2 a3 = some (r1, r2)) :
    Calls Try.prog 23 #[.agg #[.slice A0_0 l0_0.length c0_0, .slice A0_1 l0_1.length c0_1, .slice A0_2 l0_2.length c0_2], .slice A1 l1.length c1, .slice A2 l2.length c2, .int .i64 a3] w fun e w' => ∃ v0_ : Value, e = .returned (.tuple #[v0_, .int .i64 r2]) ∧ Kd.R k58 58 w' w.heap.size (fun _ => True) v0_ r1 ∧ Below w.heap.size w w' := by
  unfold watch_View.f at h
  by_cases hl : l1.length ≤ 1000000
  · rw [if_pos hl] at h
    obtain ⟨rfl, rfl⟩ := Prod.mk.inj (Option.some.inj h)
    by_cases hg : begE l0_0 l0_1 l0_2 a3 = 0 ∧ l1.length = l2.length
    · have h1 : viewE l0_0 l0_1 l0_2 l1 l2 a3 = viewL (viewB l0_1 l1 a3) l2 l1.length := by unfold viewE; rw [if_pos hg.1, if_pos hg.2]
      have h2 : viewR l0_0 l0_1 l0_2 l1 l2 a3 = 0 := by unfold viewR; rw [if_pos hg.1, if_pos hg.2]
      rw [h1, h2]
      exact (view_good l0_0 l0_1 l0_2 l1 l2 a3 A0_0 c0_0 A0_1 c0_1 A0_2 c0_2 A1 c1 A2 c2 w hr0_0 hc0_0 hr0_1 hc0_1 hr0_2 hc0_2 hr1 hc1 hr2 hc2 hl hg.1 hg.2).mono (fun e W ⟨v, a, b, d⟩ => ⟨v, a, b, below_of_grown d⟩)
    · have h1 : viewE l0_0 l0_1 l0_2 l1 l2 a3 = [] := by
        unfold viewE
        by_cases h0 : begE l0_0 l0_1 l0_2 a3 = 0
        · rw [if_pos h0, if_neg (fun h => hg ⟨h0, h⟩)]
        · rw [if_neg h0]
      rw [h1]
      exact (view_bad l0_0 l0_1 l0_2 l1 l2 a3 A0_0 c0_0 A0_1 c0_1 A0_2 c0_2 A1 c1 A2 c2 w hr0_0 hc0_0 hr0_1 hc0_1 hr0_2 hc0_2 hg).mono (fun e W ⟨a, d⟩ => ⟨_, a, Kd.R_nil _ _ _ _ _, below_of_grown d⟩)
  · rw [if_neg hl] at h; cases h
end Go.Proofs.Ytfmpabdaadllaaa.PAll

/-
  What View tells, in plain Lean.
-/
namespace Go.Proofs.Ytfmpabdaadllaaa.PAll
open Go.RowKit Go.Proofs.YtfmpabdaadllaaaW.PrintWords Go.Proofs.YtfmpabdaadllaaaW.PrintLast
set_option linter.unusedVariables false
set_option linter.unusedSimpArgs false
theorem viewE_len (P : List S73) (W : List S75) (C : List S46) (l : List S56) (os : List S58) (part : Int) : (viewE P W C l os part).length ≤ l.length := by
  unfold viewE
  split
  · split
    · exact viewL_len _ _ _
    · exact Nat.zero_le _
  · exact Nat.zero_le _
theorem wview_f (P : List S73) (W : List S75) (C : List S46) (l : List S56) (os : List S58) (part : Int) (hl : l.length ≤ 1000) (k : Nat) : watch_View.f k P W C l os part = some (viewE P W C l os part, viewR P W C l os part) := by unfold watch_View.f; rw [if_pos (by omega)]
end Go.Proofs.Ytfmpabdaadllaaa.PAll

/-
  Who sees an event, who keeps it.
-/
namespace Go.Proofs.Ytfmpabdaadllaaa.PAll
open Go.RowKit Go.Proofs.YtfmpabdaadllaaaW.PrintWords Go.Proofs.YtfmpabdaadllaaaW.PrintLast
set_option linter.unusedVariables false
set_option linter.unusedSimpArgs false
theorem partS_nn {W : List S75} (h : WOk W) (n : Nat) : 0 ≤ partS W n := h.pt _ (posS_ok h n).1
theorem partS_lt {P : List S73} {W : List S75} {C : List S46} (h : chkE P W C = 0) (n : Nat) : partS W n < (P.length : Int) := by
  have hn := chkE_ok h
  have := hn.w _ (posS_ok hn.wok n).1
  unfold okW at this
  rw [Bool.and_eq_true] at this
  have := (inB_true.1 this.1).2
  unfold partS
  omega
theorem falls_val {W : List S75} (h : WOk W) (l : List S56) (i : Nat) : (fallsE W l i = -1 ↔ (l.getD i z56).f0 = 1) ∧ ((l.getD i z56).f0 ≠ 1 → fallsE W l i = partS W (tkN l i)) := by
  have := partS_nn h (tkN l i)
  unfold fallsE
  by_cases e : (l.getD i z56).f0 = 1
  · rw [if_pos e]; exact ⟨⟨fun _ => e, fun _ => rfl⟩, fun h => absurd e h⟩
  · rw [if_neg e]; exact ⟨⟨fun h => by omega, fun h => absurd h e⟩, fun _ => rfl⟩
/-- Who sees an event. -/
def whoE (W : List S75) (l : List S56) (i : Nat) : Int := if (l.getD i z56).f0 = 1 then partS W (tkN l (i + 1)) else partS W (tkN l i)
theorem viewB_who {W : List S75} (h : WOk W) {l : List S56} {part : Int} (hp : 0 ≤ part) {i : Nat} : viewB W l part i = decide (whoE W l i = part) := by
  have hv := falls_val h l i
  have hd : ∀ x : Int, (x == part) = decide (x = part) := fun x => by
    cases hq : (x == part) with
    | true => exact (decide_eq_true (beq_iff_eq.1 hq)).symm
    | false => exact (decide_eq_false (beq_eq_false_iff_ne.1 hq)).symm
  unfold viewB behE whoE
  by_cases e : (l.getD i z56).f0 = 1
  · have h1 : ((-1 : Int) == part) = false := beq_eq_false_iff_ne.2 (by omega)
    rw [if_pos e, hv.1.2 e, h1, hd]; rfl
  · have h1 : (fallsE W l i == -1) = false := beq_eq_false_iff_ne.2 (fun h => e (hv.1.1 h))
    rw [if_neg e, h1, hv.2 e, hd, Bool.false_and, Bool.or_false]
theorem who_bd {P : List S73} {W : List S75} {C : List S46} (h : chkE P W C = 0) (l : List S56) (i : Nat) : 0 ≤ whoE W l i ∧ whoE W l i < (P.length : Int) := by
  unfold whoE
  split
  · exact ⟨partS_nn (chkE_ok h).wok _, partS_lt h _⟩
  · exact ⟨partS_nn (chkE_ok h).wok _, partS_lt h _⟩
theorem begE_in {P : List S73} {W : List S75} {C : List S46} (h : chkE P W C = 0) {i : Nat} (hi : i < P.length) : begE P W C (i : Int) = 0 := by
  unfold begE
  rw [if_neg (fun e : chkE P W C ≠ 0 => e h), if_pos (by omega)]
theorem viewE_in {P : List S73} {W : List S75} {C : List S46} (h : chkE P W C = 0) {i : Nat} (hi : i < P.length) {l : List S56} {os : List S58} (hl : l.length = os.length) : viewE P W C l os (i : Int) = viewL (viewB W l (i : Int)) os l.length ∧ viewR P W C l os (i : Int) = 0 := by
  unfold viewE viewR
  rw [begE_in h hi, if_pos rfl, if_pos rfl, if_pos hl, if_pos hl]
  exact ⟨rfl, rfl⟩
end Go.Proofs.Ytfmpabdaadllaaa.PAll

namespace Go.Proofs.Ytfmpabdaadllaaa.PAll
open Go.RowKit Go.Proofs.YtfmpabdaadllaaaW.PrintWords Go.Proofs.YtfmpabdaadllaaaW.PrintLast
set_option linter.unusedVariables false
set_option linter.unusedSimpArgs false
/-! ### priorylaw28_WatchParts: function 9 -/
mutual
def priorylaw28_WatchParts.j0 : Nat → List (S56) → Bool → List (S73) → List (S75) → List (S46) → Option (Bool)
  | 0, _, _, _, _, _ => none
  | k + 1, x1, x21, x486000, x486001, x486002 => if x21 = true then ((priorylaw28_awake.f k).bind fun t488 => (some t488)) else ((watch_Turns.f k x486000 x486001 x486002 x1).bind fun bt489 => (if bt489.2 = 0 then (priorylaw28_WatchParts.j1 k x1 bt489.1 ((bt489.1.length : Int) != (x1.length : Int)) x486000 x486001 x486002) else (priorylaw28_WatchParts.j1 k x1 bt489.1 true x486000 x486001 x486002)))
def priorylaw28_WatchParts.j1 : Nat → List (S56) → List Int → Bool → List (S73) → List (S75) → List (S46) → Option (Bool)
  | 0, _, _, _, _, _, _ => none
  | k + 1, x1, x5, x37, x486000, x486001, x486002 => if x37 = true then (some false) else (priorylaw28_WatchParts.l0 k x1 x5 0 x486000 x486001 x486002)
def priorylaw28_WatchParts.l0 : Nat → List (S56) → List Int → Int → List (S73) → List (S75) → List (S46) → Option (Bool)
  | 0, _, _, _, _, _, _ => none
  | k + 1, x1, x5, x7, x486000, x486001, x486002 => if x7 < (x1.length : Int) then (if 0 ≤ x7 then (if x7 < (x5.length : Int) then (if ((decide ((rd x5 x7) < 0)) != (((rd_T56 x1 x7).f0) == 1)) = true then (priorylaw28_WatchParts.j3 k x1 x5 x7 true x486000 x486001 x486002) else (priorylaw28_WatchParts.j3 k x1 x5 x7 (decide ((rd x5 x7) ≥ (x486000.length : Int))) x486000 x486001 x486002)) else (none)) else (none)) else ((priorylaw28_awake.f k).bind fun t493 => (some t493))
def priorylaw28_WatchParts.j3 : Nat → List (S56) → List Int → Int → Bool → List (S73) → List (S75) → List (S46) → Option (Bool)
  | 0, _, _, _, _, _, _, _ => none
  | k + 1, x1, x5, x7, x65, x486000, x486001, x486002 => if x65 = true then (some false) else (if 0 ≤ (x1.length : Int) then (if ((x1.length : Int) : Int).toNat ≤ 8796093022208 then ((some (List.replicate ((x1.length : Int) : Int).toNat z58 : List (S58))).bind fun y497 => (if 0 ≤ x7 then (if x7 < (y497.length : Int) then (priorylaw28_WatchParts.l1 k x1 x5 x7 (y497.set (x7 : Int).toNat (⟨0, 0, 0, 7, 0⟩ : S58)) 0 0 x486000 x486001 x486002) else (none)) else (none))) else (none)) else (none))
def priorylaw28_WatchParts.l1 : Nat → List (S56) → List Int → Int → List (S58) → Int → Int → List (S73) → List (S75) → List (S46) → Option (Bool)
  | 0, _, _, _, _, _, _, _, _, _ => none
  | k + 1, x1, x5, x7, x8, x9, x10, x486000, x486001, x486002 => if x10 < (x486000.length : Int) then ((watch_View.f k x486000 x486001 x486002 x1 x8 x10).bind fun bt501 => (if bt501.2 = 0 then (priorylaw28_WatchParts.l2 k x1 x5 x7 x8 x9 x10 bt501.1 0 x486000 x486001 x486002) else (some false))) else (if x9 = 1 then (priorylaw28_WatchParts.l0 k x1 x5 (wrap64 (x7 + 1)) x486000 x486001 x486002) else (some false))
def priorylaw28_WatchParts.l2 : Nat → List (S56) → List Int → Int → List (S58) → Int → Int → List (S58) → Int → List (S73) → List (S75) → List (S46) → Option (Bool)
  | 0, _, _, _, _, _, _, _, _, _, _, _ => none
  | k + 1, x1, x5, x7, x8, x9, x10, x11, x13, x486000, x486001, x486002 => if x13 < (x11.length : Int) then (if 0 ≤ x13 then (if ((rd_T58 x11 x13).f3) = 7 then (if 0 ≤ x7 then (if x7 < (x5.length : Int) then (if (rd x5 x7) ≥ 0 then (if x10 = (rd x5 x7) then (priorylaw28_WatchParts.l2 k x1 x5 x7 x8 (wrap64 (x9 + 1)) x10 x11 (wrap64 (x13 + 1)) x486000 x486001 x486002) else (some false)) else (priorylaw28_WatchParts.l2 k x1 x5 x7 x8 (wrap64 (x9 + 1)) x10 x11 (wrap64 (x13 + 1)) x486000 x486001 x486002)) else (none)) else (none)) else (priorylaw28_WatchParts.l2 k x1 x5 x7 x8 x9 x10 x11 (wrap64 (x13 + 1)) x486000 x486001 x486002)) else (none)) else (priorylaw28_WatchParts.l1 k x1 x5 x7 x8 x9 (wrap64 (x10 + 1)) x486000 x486001 x486002)
end
def priorylaw28_WatchParts.f (k : Nat) (l0_0 : List (S73)) (l0_1 : List (S75)) (l0_2 : List (S46)) (l1 : List (S56)) : Option (Bool) := (priorylaw28_long.f l0_0 l0_1 l0_2 l1).bind fun t486 => (if t486 = true then (priorylaw28_WatchParts.j0 k l1 true l0_0 l0_1 l0_2) else ((conf_Check.f k l0_0 l0_1 l0_2).bind fun t487 => (priorylaw28_WatchParts.j0 k l1 (t487 != 0) l0_0 l0_1 l0_2)))
theorem priorylaw28_WatchParts.mono_l : ∀ k, (∀ y0 y1 y2 y3 y4, LeO (priorylaw28_WatchParts.j0 k y0 y1 y2 y3 y4) (priorylaw28_WatchParts.j0 (k + 1) y0 y1 y2 y3 y4)) ∧ (∀ y0 y1 y2 y3 y4 y5, LeO (priorylaw28_WatchParts.j1 k y0 y1 y2 y3 y4 y5) (priorylaw28_WatchParts.j1 (k + 1) y0 y1 y2 y3 y4 y5)) ∧ (∀ y0 y1 y2 y3 y4 y5, LeO (priorylaw28_WatchParts.l0 k y0 y1 y2 y3 y4 y5) (priorylaw28_WatchParts.l0 (k + 1) y0 y1 y2 y3 y4 y5)) ∧ (∀ y0 y1 y2 y3 y4 y5 y6, LeO (priorylaw28_WatchParts.j3 k y0 y1 y2 y3 y4 y5 y6) (priorylaw28_WatchParts.j3 (k + 1) y0 y1 y2 y3 y4 y5 y6)) ∧ (∀ y0 y1 y2 y3 y4 y5 y6 y7 y8, LeO (priorylaw28_WatchParts.l1 k y0 y1 y2 y3 y4 y5 y6 y7 y8) (priorylaw28_WatchParts.l1 (k + 1) y0 y1 y2 y3 y4 y5 y6 y7 y8)) ∧ (∀ y0 y1 y2 y3 y4 y5 y6 y7 y8 y9 y10, LeO (priorylaw28_WatchParts.l2 k y0 y1 y2 y3 y4 y5 y6 y7 y8 y9 y10) (priorylaw28_WatchParts.l2 (k + 1) y0 y1 y2 y3 y4 y5 y6 y7 y8 y9 y10))
  | 0 => ⟨fun _ _ _ _ _ r h => by simp [priorylaw28_WatchParts.j0] at h, fun _ _ _ _ _ _ r h => by simp [priorylaw28_WatchParts.j1] at h, fun _ _ _ _ _ _ r h => by simp [priorylaw28_WatchParts.l0] at h, fun _ _ _ _ _ _ _ r h => by simp [priorylaw28_WatchParts.j3] at h, fun _ _ _ _ _ _ _ _ _ r h => by simp [priorylaw28_WatchParts.l1] at h, fun _ _ _ _ _ _ _ _ _ _ _ r h => by simp [priorylaw28_WatchParts.l2] at h⟩
  | k + 1 => by
    obtain ⟨ih0, ih1, ih2, ih3, ih4, ih5⟩ := priorylaw28_WatchParts.mono_l k
    refine ⟨?_, ?_, ?_, ?_, ?_, ?_⟩
    · intro y0 y1 y2 y3 y4
      unfold priorylaw28_WatchParts.j0
      repeat' first
      | (with_reducible exact ih0 _ _ _ _ _)
      | (with_reducible exact ih1 _ _ _ _ _ _)
      | (with_reducible exact ih2 _ _ _ _ _ _)
      | (with_reducible exact ih3 _ _ _ _ _ _ _)
      | (with_reducible exact ih4 _ _ _ _ _ _ _ _ _)
      | (with_reducible exact ih5 _ _ _ _ _ _ _ _ _ _ _)
      | (with_reducible exact conf_Check.mono _ _ _ _)
      | (with_reducible exact priorylaw28_awake.mono _)
      | (with_reducible exact watch_Turns.mono _ _ _ _ _)
      | (with_reducible exact watch_View.mono _ _ _ _ _ _ _)
      | (with_reducible exact LeO.refl _)
      | (with_reducible exact LeO.none _)
      | (with_reducible refine LeO.ite ?_ ?_)
      | (with_reducible refine LeO.bind ?_ (fun _ => ?_))
      | exact ih0 _ _ _ _ _
      | exact ih1 _ _ _ _ _ _
      | exact ih2 _ _ _ _ _ _
      | exact ih3 _ _ _ _ _ _ _
      | exact ih4 _ _ _ _ _ _ _ _ _
      | exact ih5 _ _ _ _ _ _ _ _ _ _ _
      | exact conf_Check.mono _ _ _ _
      | exact priorylaw28_awake.mono _
      | exact watch_Turns.mono _ _ _ _ _
      | exact watch_View.mono _ _ _ _ _ _ _
      | exact LeO.none _
      | refine LeO.ite ?_ ?_
      | refine LeO.bind ?_ (fun _ => ?_)
    · intro y0 y1 y2 y3 y4 y5
      unfold priorylaw28_WatchParts.j1
      repeat' first
      | (with_reducible exact ih0 _ _ _ _ _)
      | (with_reducible exact ih1 _ _ _ _ _ _)
      | (with_reducible exact ih2 _ _ _ _ _ _)
      | (with_reducible exact ih3 _ _ _ _ _ _ _)
      | (with_reducible exact ih4 _ _ _ _ _ _ _ _ _)
      | (with_reducible exact ih5 _ _ _ _ _ _ _ _ _ _ _)
      | (with_reducible exact conf_Check.mono _ _ _ _)
      | (with_reducible exact priorylaw28_awake.mono _)
      | (with_reducible exact watch_Turns.mono _ _ _ _ _)
      | (with_reducible exact watch_View.mono _ _ _ _ _ _ _)
      | (with_reducible exact LeO.refl _)
      | (with_reducible exact LeO.none _)
      | (with_reducible refine LeO.ite ?_ ?_)
      | (with_reducible refine LeO.bind ?_ (fun _ => ?_))
      | exact ih0 _ _ _ _ _
      | exact ih1 _ _ _ _ _ _
      | exact ih2 _ _ _ _ _ _
      | exact ih3 _ _ _ _ _ _ _
      | exact ih4 _ _ _ _ _ _ _ _ _
      | exact ih5 _ _ _ _ _ _ _ _ _ _ _
      | exact conf_Check.mono _ _ _ _
      | exact priorylaw28_awake.mono _
      | exact watch_Turns.mono _ _ _ _ _
      | exact watch_View.mono _ _ _ _ _ _ _
      | exact LeO.none _
      | refine LeO.ite ?_ ?_
      | refine LeO.bind ?_ (fun _ => ?_)
    · intro y0 y1 y2 y3 y4 y5
      unfold priorylaw28_WatchParts.l0
      repeat' first
      | (with_reducible exact ih0 _ _ _ _ _)
      | (with_reducible exact ih1 _ _ _ _ _ _)
      | (with_reducible exact ih2 _ _ _ _ _ _)
      | (with_reducible exact ih3 _ _ _ _ _ _ _)
      | (with_reducible exact ih4 _ _ _ _ _ _ _ _ _)
      | (with_reducible exact ih5 _ _ _ _ _ _ _ _ _ _ _)
      | (with_reducible exact conf_Check.mono _ _ _ _)
      | (with_reducible exact priorylaw28_awake.mono _)
      | (with_reducible exact watch_Turns.mono _ _ _ _ _)
      | (with_reducible exact watch_View.mono _ _ _ _ _ _ _)
      | (with_reducible exact LeO.refl _)
      | (with_reducible exact LeO.none _)
      | (with_reducible refine LeO.ite ?_ ?_)
      | (with_reducible refine LeO.bind ?_ (fun _ => ?_))
      | exact ih0 _ _ _ _ _
      | exact ih1 _ _ _ _ _ _
      | exact ih2 _ _ _ _ _ _
      | exact ih3 _ _ _ _ _ _ _
      | exact ih4 _ _ _ _ _ _ _ _ _
      | exact ih5 _ _ _ _ _ _ _ _ _ _ _
      | exact conf_Check.mono _ _ _ _
      | exact priorylaw28_awake.mono _
      | exact watch_Turns.mono _ _ _ _ _
      | exact watch_View.mono _ _ _ _ _ _ _
      | exact LeO.none _
      | refine LeO.ite ?_ ?_
      | refine LeO.bind ?_ (fun _ => ?_)
    · intro y0 y1 y2 y3 y4 y5 y6
      unfold priorylaw28_WatchParts.j3
      repeat' first
      | (with_reducible exact ih0 _ _ _ _ _)
      | (with_reducible exact ih1 _ _ _ _ _ _)
      | (with_reducible exact ih2 _ _ _ _ _ _)
      | (with_reducible exact ih3 _ _ _ _ _ _ _)
      | (with_reducible exact ih4 _ _ _ _ _ _ _ _ _)
      | (with_reducible exact ih5 _ _ _ _ _ _ _ _ _ _ _)
      | (with_reducible exact conf_Check.mono _ _ _ _)
      | (with_reducible exact priorylaw28_awake.mono _)
      | (with_reducible exact watch_Turns.mono _ _ _ _ _)
      | (with_reducible exact watch_View.mono _ _ _ _ _ _ _)
      | (with_reducible exact LeO.refl _)
      | (with_reducible exact LeO.none _)
      | (with_reducible refine LeO.ite ?_ ?_)
      | (with_reducible refine LeO.bind ?_ (fun _ => ?_))
      | exact ih0 _ _ _ _ _
      | exact ih1 _ _ _ _ _ _
      | exact ih2 _ _ _ _ _ _
      | exact ih3 _ _ _ _ _ _ _
      | exact ih4 _ _ _ _ _ _ _ _ _
      | exact ih5 _ _ _ _ _ _ _ _ _ _ _
      | exact conf_Check.mono _ _ _ _
      | exact priorylaw28_awake.mono _
      | exact watch_Turns.mono _ _ _ _ _
      | exact watch_View.mono _ _ _ _ _ _ _
      | exact LeO.none _
      | refine LeO.ite ?_ ?_
      | refine LeO.bind ?_ (fun _ => ?_)
    · intro y0 y1 y2 y3 y4 y5 y6 y7 y8
      unfold priorylaw28_WatchParts.l1
      repeat' first
      | (with_reducible exact ih0 _ _ _ _ _)
      | (with_reducible exact ih1 _ _ _ _ _ _)
      | (with_reducible exact ih2 _ _ _ _ _ _)
      | (with_reducible exact ih3 _ _ _ _ _ _ _)
      | (with_reducible exact ih4 _ _ _ _ _ _ _ _ _)
      | (with_reducible exact ih5 _ _ _ _ _ _ _ _ _ _ _)
      | (with_reducible exact conf_Check.mono _ _ _ _)
      | (with_reducible exact priorylaw28_awake.mono _)
      | (with_reducible exact watch_Turns.mono _ _ _ _ _)
      | (with_reducible exact watch_View.mono _ _ _ _ _ _ _)
      | (with_reducible exact LeO.refl _)
      | (with_reducible exact LeO.none _)
      | (with_reducible refine LeO.ite ?_ ?_)
      | (with_reducible refine LeO.bind ?_ (fun _ => ?_))
      | exact ih0 _ _ _ _ _
      | exact ih1 _ _ _ _ _ _
      | exact ih2 _ _ _ _ _ _
      | exact ih3 _ _ _ _ _ _ _
      | exact ih4 _ _ _ _ _ _ _ _ _
      | exact ih5 _ _ _ _ _ _ _ _ _ _ _
      | exact conf_Check.mono _ _ _ _
      | exact priorylaw28_awake.mono _
      | exact watch_Turns.mono _ _ _ _ _
      | exact watch_View.mono _ _ _ _ _ _ _
      | exact LeO.none _
      | refine LeO.ite ?_ ?_
      | refine LeO.bind ?_ (fun _ => ?_)
    · intro y0 y1 y2 y3 y4 y5 y6 y7 y8 y9 y10
      unfold priorylaw28_WatchParts.l2
      repeat' first
      | (with_reducible exact ih0 _ _ _ _ _)
      | (with_reducible exact ih1 _ _ _ _ _ _)
      | (with_reducible exact ih2 _ _ _ _ _ _)
      | (with_reducible exact ih3 _ _ _ _ _ _ _)
      | (with_reducible exact ih4 _ _ _ _ _ _ _ _ _)
      | (with_reducible exact ih5 _ _ _ _ _ _ _ _ _ _ _)
      | (with_reducible exact conf_Check.mono _ _ _ _)
      | (with_reducible exact priorylaw28_awake.mono _)
      | (with_reducible exact watch_Turns.mono _ _ _ _ _)
      | (with_reducible exact watch_View.mono _ _ _ _ _ _ _)
      | (with_reducible exact LeO.refl _)
      | (with_reducible exact LeO.none _)
      | (with_reducible refine LeO.ite ?_ ?_)
      | (with_reducible refine LeO.bind ?_ (fun _ => ?_))
      | exact ih0 _ _ _ _ _
      | exact ih1 _ _ _ _ _ _
      | exact ih2 _ _ _ _ _ _
      | exact ih3 _ _ _ _ _ _ _
      | exact ih4 _ _ _ _ _ _ _ _ _
      | exact ih5 _ _ _ _ _ _ _ _ _ _ _
      | exact conf_Check.mono _ _ _ _
      | exact priorylaw28_awake.mono _
      | exact watch_Turns.mono _ _ _ _ _
      | exact watch_View.mono _ _ _ _ _ _ _
      | exact LeO.none _
      | refine LeO.ite ?_ ?_
      | refine LeO.bind ?_ (fun _ => ?_)
theorem priorylaw28_WatchParts.mono : ∀ a0 a1 a2 a3 k, LeO (priorylaw28_WatchParts.f k a0 a1 a2 a3) (priorylaw28_WatchParts.f (k + 1) a0 a1 a2 a3) := by
  intro a0 a1 a2 a3 k
  obtain ⟨ih0, ih1, ih2, ih3, ih4, ih5⟩ := priorylaw28_WatchParts.mono_l k
  unfold priorylaw28_WatchParts.f
  repeat' first
      | (with_reducible exact ih0 _ _ _ _ _)
      | (with_reducible exact ih1 _ _ _ _ _ _)
      | (with_reducible exact ih2 _ _ _ _ _ _)
      | (with_reducible exact ih3 _ _ _ _ _ _ _)
      | (with_reducible exact ih4 _ _ _ _ _ _ _ _ _)
      | (with_reducible exact ih5 _ _ _ _ _ _ _ _ _ _ _)
      | (with_reducible exact conf_Check.mono _ _ _ _)
      | (with_reducible exact priorylaw28_awake.mono _)
      | (with_reducible exact watch_Turns.mono _ _ _ _ _)
      | (with_reducible exact watch_View.mono _ _ _ _ _ _ _)
      | (with_reducible exact LeO.refl _)
      | (with_reducible exact LeO.none _)
      | (with_reducible refine LeO.ite ?_ ?_)
      | (with_reducible refine LeO.bind ?_ (fun _ => ?_))
      | exact ih0 _ _ _ _ _
      | exact ih1 _ _ _ _ _ _
      | exact ih2 _ _ _ _ _ _
      | exact ih3 _ _ _ _ _ _ _
      | exact ih4 _ _ _ _ _ _ _ _ _
      | exact ih5 _ _ _ _ _ _ _ _ _ _ _
      | exact conf_Check.mono _ _ _ _
      | exact priorylaw28_awake.mono _
      | exact watch_Turns.mono _ _ _ _ _
      | exact watch_View.mono _ _ _ _ _ _ _
      | exact LeO.none _
      | refine LeO.ite ?_ ?_
      | refine LeO.bind ?_ (fun _ => ?_)
set_option maxHeartbeats 8000000 in
set_option maxRecDepth 100000 in
theorem priorylaw28_WatchParts.calls (k : Nat) (A0_0 : Option Addr) (c0_0 : Nat) (l0_0 : List (S73)) (A0_1 : Option Addr) (c0_1 : Nat) (l0_1 : List (S75)) (A0_2 : Option Addr) (c0_2 : Nat) (l0_2 : List (S46)) (A1 : Option Addr) (c1 : Nat) (l1 : List (S56)) (r : Bool) (w : World) (hr0_0 : Kd.C k73 w A0_0 l0_0.length l0_0) (hc0_0 : l0_0.length ≤ c0_0) (hr0_1 : Kd.C k75 w A0_1 l0_1.length l0_1) (hc0_1 : l0_1.length ≤ c0_1) (hr0_2 : Kd.C k46 w A0_2 l0_2.length l0_2) (hc0_2 : l0_2.length ≤ c0_2) (hr1 : Kd.C k56 w A1 l1.length l1) (hc1 : l1.length ≤ c1) (h : priorylaw28_WatchParts.f k l0_0 l0_1 l0_2 l1 = some r) :
    Calls Try.prog 9 #[.agg #[.slice A0_0 l0_0.length c0_0, .slice A0_1 l0_1.length c0_1, .slice A0_2 l0_2.length c0_2], .slice A1 l1.length c1] w fun e w' => e = .returned (.bool r) ∧ Below w.heap.size w w' := by
  have hu26 := Try.underlying26
  have hu58 := Try.underlying58
  have HR0_0 := Aside0.mk hr0_0
  have HC0_0 := Aside0.mk hc0_0
  clear hr0_0 hc0_0
  have HR0_1 := Aside0.mk hr0_1
  have HC0_1 := Aside0.mk hc0_1
  clear hr0_1 hc0_1
  have HR0_2 := Aside0.mk hr0_2
  have HC0_2 := Aside0.mk hc0_2
  clear hr0_2 hc0_2
  have HR1 := Aside0.mk hr1
  have HC1 := Aside0.mk hc1
  clear hr1 hc1
  have HB := Aside0.mk (Below.refl w.heap.size w)
  have H : ((priorylaw28_long.f l0_0 l0_1 l0_2 l1).bind fun t486 => (if t486 = true then (priorylaw28_WatchParts.j0 k l1 true l0_0 l0_1 l0_2) else ((conf_Check.f k l0_0 l0_1 l0_2).bind fun t487 => (priorylaw28_WatchParts.j0 k l1 (t487 != 0) l0_0 l0_1 l0_2)))) = some r := h
  clear h
  have HC3 := Aside0.mk H
  clear H
  go_enter Try.func9, Try.ntmps9
  go_upto_region 1 with (first | ((with_reducible refine gate_dst (N := 2) rfl ?_); (try (refine gate_guard (by rfl) ?_; dsimp only)); refine box_event ?hg (N := 2) ?hd (cs := #[.slice A0_0 l0_0.length c0_0, .slice A0_1 l0_1.length c0_1, .slice A0_2 l0_2.length c0_2]) (t := 26) ?hr ?_; (case hd => rfl); (case hg => rfl); (case hr => first | (go_simp; done) | (go_simp; rfl)); intro gb485 hg w4 hbox hb; have n0_ := Aside0.mk (below_step (by repeat (first | (with_reducible first | exact HB.out | apply below_alloc | apply pw_below_drewN | apply below_drew1) | exact HB.out)) hb); have n1_ := Aside0.mk (hbox); have n2_ := Aside0.mk ((by rw [hg]; exact (below_size (by repeat (first | (with_reducible first | exact HB.out | apply below_alloc | apply pw_below_drewN | apply below_drew1) | exact HB.out))) : w.heap.size ≤ gb485)); have n3_ := Aside0.mk ((by rw [hg]; exact (below_size (by repeat (first | (with_reducible first | exact HB.out | apply below_alloc | apply pw_below_drewN | apply below_drew1) | exact HB.out))) : w.heap.size ≤ gb485)); clear HB; have HB := n0_; have BK485 := n1_; have GW485 := n2_; have GE485 := n3_; clear n0_ n1_ n2_ n3_; clear hb hbox hg))
  repeat (go_quiet (first | ((with_reducible refine gate_dst (N := 2) rfl ?_); (try (refine gate_guard (by rfl) ?_; dsimp only)); refine box_event ?hg (N := 2) ?hd (cs := #[.slice A0_0 l0_0.length c0_0, .slice A0_1 l0_1.length c0_1, .slice A0_2 l0_2.length c0_2]) (t := 26) ?hr ?_; (case hd => rfl); (case hg => rfl); (case hr => first | (go_simp; done) | (go_simp; rfl)); intro gb485 hg w4 hbox hb; have n0_ := Aside0.mk (below_step (by repeat (first | (with_reducible first | exact HB.out | apply below_alloc | apply pw_below_drewN | apply below_drew1) | exact HB.out)) hb); have n1_ := Aside0.mk (hbox); have n2_ := Aside0.mk ((by rw [hg]; exact (below_size (by repeat (first | (with_reducible first | exact HB.out | apply below_alloc | apply pw_below_drewN | apply below_drew1) | exact HB.out))) : w.heap.size ≤ gb485)); have n3_ := Aside0.mk ((by rw [hg]; exact (below_size (by repeat (first | (with_reducible first | exact HB.out | apply below_alloc | apply pw_below_drewN | apply below_drew1) | exact HB.out))) : w.heap.size ≤ gb485)); clear HB; have HB := n0_; have BK485 := n1_; have GW485 := n2_; have GE485 := n3_; clear n0_ n1_ n2_ n3_; clear hb hbox hg)); go_upto_region 1 with (first | ((with_reducible refine gate_dst (N := 2) rfl ?_); (try (refine gate_guard (by rfl) ?_; dsimp only)); refine box_event ?hg (N := 2) ?hd (cs := #[.slice A0_0 l0_0.length c0_0, .slice A0_1 l0_1.length c0_1, .slice A0_2 l0_2.length c0_2]) (t := 26) ?hr ?_; (case hd => rfl); (case hg => rfl); (case hr => first | (go_simp; done) | (go_simp; rfl)); intro gb485 hg w4 hbox hb; have n0_ := Aside0.mk (below_step (by repeat (first | (with_reducible first | exact HB.out | apply below_alloc | apply pw_below_drewN | apply below_drew1) | exact HB.out)) hb); have n1_ := Aside0.mk (hbox); have n2_ := Aside0.mk ((by rw [hg]; exact (below_size (by repeat (first | (with_reducible first | exact HB.out | apply below_alloc | apply pw_below_drewN | apply below_drew1) | exact HB.out))) : w.heap.size ≤ gb485)); have n3_ := Aside0.mk ((by rw [hg]; exact (below_size (by repeat (first | (with_reducible first | exact HB.out | apply below_alloc | apply pw_below_drewN | apply below_drew1) | exact HB.out))) : w.heap.size ≤ gb485)); clear HB; have HB := n0_; have BK485 := n1_; have GW485 := n2_; have GE485 := n3_; clear n0_ n1_ n2_ n3_; clear hb hbox hg)))
  (try simp only [Act.put, List.setIfInBounds_toArray, List.set_cons_zero, List.set_cons_succ])
  go_cut [21] (fun v21 wc => ∃ (kq : Nat) (x21_2 : Bool), v21 = .bool x21_2 ∧ Aside0 (priorylaw28_WatchParts.j0 kq l1 x21_2 l0_0 l0_1 l0_2 = some r) ∧ Aside0 (kq ≤ k) ∧ Aside0 (wc.heap[gb485]? = some (.cells #[(.slice A0_0 l0_0.length c0_0), (.slice A0_1 l0_1.length c0_1), (.slice A0_2 l0_2.length c0_2)] 26 (0, 0))) ∧ Aside0 (Below w.heap.size w wc))
  case first =>
    have H := HC3.out
    clear HC3
    replace H := Option.bind_eq_some_iff.mp H
    obtain ⟨t486, A50, H⟩ := H
    replace H : (if t486 = true then (priorylaw28_WatchParts.j0 k l1 true l0_0 l0_1 l0_2) else ((conf_Check.f k l0_0 l0_1 l0_2).bind fun t487 => (priorylaw28_WatchParts.j0 k l1 (t487 != 0) l0_0 l0_1 l0_2))) = some r := H
    have A5 := Aside0.mk A50
    clear A50
    by_cases c6 : t486 = true
    · subst c6
      have H1 : (priorylaw28_WatchParts.j0 k l1 true l0_0 l0_1 l0_2) = some r := by rw [if_pos rfl] at H; exact H
      clear H
      have H := H1
      clear H1
      have H' := Aside0.mk H
      clear H
      have hcz7_0 : w4.cell? ⟨gb485, 0, none⟩ = some (.slice A0_0 l0_0.length c0_0) := (blk_cell BK485.out 0).trans rfl
      have hcz7_1 : w4.cell? ⟨gb485, 1, none⟩ = some (.slice A0_1 l0_1.length c0_1) := (blk_cell BK485.out 1).trans rfl
      have hcz7_2 : w4.cell? ⟨gb485, 2, none⟩ = some (.slice A0_2 l0_2.length c0_2) := (blk_cell BK485.out 2).trans rfl
      have hfz7_0 := blk_frozen BK485.out 0
      have hfz7_1 := blk_frozen BK485.out 1
      have hfz7_2 := blk_frozen BK485.out 2
      go_wp2_with (first | (go_at_call 10; (with_reducible refine (priorylaw28_long.calls _ _ l0_0 _ _ l0_1 _ _ l0_2 _ _ l1 true _ ?side1 ?side2 ?side3 ?side4 ?side5 ?side6 ?side7 ?side8 A5.out).mono ?_); (case side1 => repeat (first | exact (Kd.C_below HR0_0.out HB.out) | (with_reducible refine Kd.C_alloc ?_ _) | (with_reducible refine Kd.C_drewN ?_ _) | (with_reducible refine Kd.C_drew ?_))); (case side2 => exact HC0_0.out); (case side3 => repeat (first | exact (Kd.C_below HR0_1.out HB.out) | (with_reducible refine Kd.C_alloc ?_ _) | (with_reducible refine Kd.C_drewN ?_ _) | (with_reducible refine Kd.C_drew ?_))); (case side4 => exact HC0_1.out); (case side5 => repeat (first | exact (Kd.C_below HR0_2.out HB.out) | (with_reducible refine Kd.C_alloc ?_ _) | (with_reducible refine Kd.C_drewN ?_ _) | (with_reducible refine Kd.C_drew ?_))); (case side6 => exact HC0_2.out); (case side7 => repeat (first | exact (Kd.C_below HR1.out HB.out) | (with_reducible refine Kd.C_alloc ?_ _) | (with_reducible refine Kd.C_drewN ?_ _) | (with_reducible refine Kd.C_drew ?_))); (case side8 => exact HC1.out); rintro e w8 ⟨rfl, hb⟩; have n0_ := Aside0.mk (blk_below (g := gb485) (o := .cells #[.slice A0_0 l0_0.length c0_0, .slice A0_1 l0_1.length c0_1, .slice A0_2 l0_2.length c0_2] 26 (0, 0)) (by (with_reducible repeat (first | refine blk_drewN ?_ _ | refine blk_drew ?_ | refine blk_alloc ?_ _)); exact BK485.out) hb); have n1_ := Aside0.mk (below_step (by repeat (first | (with_reducible first | exact HB.out | apply below_alloc | apply pw_below_drewN | apply below_drew1 | refine below_set ?_ GE485.out) | exact HB.out)) hb); clear BK485; clear HB; have BK485 := n0_; have HB := n1_; clear n0_ n1_; (try clear hb); (try clear hb2); (try clear hk); (try clear hi)))
      repeat (go_quiet (first | (go_at_call 10; (with_reducible refine (priorylaw28_long.calls _ _ l0_0 _ _ l0_1 _ _ l0_2 _ _ l1 true _ ?side1 ?side2 ?side3 ?side4 ?side5 ?side6 ?side7 ?side8 A5.out).mono ?_); (case side1 => repeat (first | exact (Kd.C_below HR0_0.out HB.out) | (with_reducible refine Kd.C_alloc ?_ _) | (with_reducible refine Kd.C_drewN ?_ _) | (with_reducible refine Kd.C_drew ?_))); (case side2 => exact HC0_0.out); (case side3 => repeat (first | exact (Kd.C_below HR0_1.out HB.out) | (with_reducible refine Kd.C_alloc ?_ _) | (with_reducible refine Kd.C_drewN ?_ _) | (with_reducible refine Kd.C_drew ?_))); (case side4 => exact HC0_1.out); (case side5 => repeat (first | exact (Kd.C_below HR0_2.out HB.out) | (with_reducible refine Kd.C_alloc ?_ _) | (with_reducible refine Kd.C_drewN ?_ _) | (with_reducible refine Kd.C_drew ?_))); (case side6 => exact HC0_2.out); (case side7 => repeat (first | exact (Kd.C_below HR1.out HB.out) | (with_reducible refine Kd.C_alloc ?_ _) | (with_reducible refine Kd.C_drewN ?_ _) | (with_reducible refine Kd.C_drew ?_))); (case side8 => exact HC1.out); rintro e w8 ⟨rfl, hb⟩; have n0_ := Aside0.mk (blk_below (g := gb485) (o := .cells #[.slice A0_0 l0_0.length c0_0, .slice A0_1 l0_1.length c0_1, .slice A0_2 l0_2.length c0_2] 26 (0, 0)) (by (with_reducible repeat (first | refine blk_drewN ?_ _ | refine blk_drew ?_ | refine blk_alloc ?_ _)); exact BK485.out) hb); have n1_ := Aside0.mk (below_step (by repeat (first | (with_reducible first | exact HB.out | apply below_alloc | apply pw_below_drewN | apply below_drew1 | refine below_set ?_ GE485.out) | exact HB.out)) hb); clear BK485; clear HB; have BK485 := n0_; have HB := n1_; clear n0_ n1_; (try clear hb); (try clear hb2); (try clear hk); (try clear hi))); try go_wp2_with (first | (go_at_call 10; (with_reducible refine (priorylaw28_long.calls _ _ l0_0 _ _ l0_1 _ _ l0_2 _ _ l1 true _ ?side1 ?side2 ?side3 ?side4 ?side5 ?side6 ?side7 ?side8 A5.out).mono ?_); (case side1 => repeat (first | exact (Kd.C_below HR0_0.out HB.out) | (with_reducible refine Kd.C_alloc ?_ _) | (with_reducible refine Kd.C_drewN ?_ _) | (with_reducible refine Kd.C_drew ?_))); (case side2 => exact HC0_0.out); (case side3 => repeat (first | exact (Kd.C_below HR0_1.out HB.out) | (with_reducible refine Kd.C_alloc ?_ _) | (with_reducible refine Kd.C_drewN ?_ _) | (with_reducible refine Kd.C_drew ?_))); (case side4 => exact HC0_1.out); (case side5 => repeat (first | exact (Kd.C_below HR0_2.out HB.out) | (with_reducible refine Kd.C_alloc ?_ _) | (with_reducible refine Kd.C_drewN ?_ _) | (with_reducible refine Kd.C_drew ?_))); (case side6 => exact HC0_2.out); (case side7 => repeat (first | exact (Kd.C_below HR1.out HB.out) | (with_reducible refine Kd.C_alloc ?_ _) | (with_reducible refine Kd.C_drewN ?_ _) | (with_reducible refine Kd.C_drew ?_))); (case side8 => exact HC1.out); rintro e w8 ⟨rfl, hb⟩; have n0_ := Aside0.mk (blk_below (g := gb485) (o := .cells #[.slice A0_0 l0_0.length c0_0, .slice A0_1 l0_1.length c0_1, .slice A0_2 l0_2.length c0_2] 26 (0, 0)) (by (with_reducible repeat (first | refine blk_drewN ?_ _ | refine blk_drew ?_ | refine blk_alloc ?_ _)); exact BK485.out) hb); have n1_ := Aside0.mk (below_step (by repeat (first | (with_reducible first | exact HB.out | apply below_alloc | apply pw_below_drewN | apply below_drew1 | refine below_set ?_ GE485.out) | exact HB.out)) hb); clear BK485; clear HB; have BK485 := n0_; have HB := n1_; clear n0_ n1_; (try clear hb); (try clear hb2); (try clear hk); (try clear hi))))
      go_meet
      case rel => exact ⟨_, (true), (by first | rfl | (simp; done) | (simp [*]; done)), H', ⟨by first | omega | exact Nat.le_refl _⟩, ⟨by (with_reducible repeat (first | refine blk_drewN ?_ _ | refine blk_drew ?_ | refine blk_alloc ?_ _)); exact BK485.out⟩, ⟨by repeat (first | (with_reducible first | exact HB.out | apply below_alloc | apply pw_below_drewN | apply below_drew1 | refine below_set ?_ GE485.out) | exact HB.out)⟩⟩
    · replace c6 := Bool.eq_false_iff.mpr c6
      subst c6
      have H1 : ((conf_Check.f k l0_0 l0_1 l0_2).bind fun t487 => (priorylaw28_WatchParts.j0 k l1 (t487 != 0) l0_0 l0_1 l0_2)) = some r := by rw [if_neg (show ¬ (false = true) by decide)] at H; exact H
      clear H
      have H := H1
      clear H1
      replace H := Option.bind_eq_some_iff.mp H
      obtain ⟨t487, A90, H⟩ := H
      replace H : (priorylaw28_WatchParts.j0 k l1 (t487 != 0) l0_0 l0_1 l0_2) = some r := H
      have A9 := Aside0.mk A90
      clear A90
      have H' := Aside0.mk H
      clear H
      have hcz10_0 : w4.cell? ⟨gb485, 0, none⟩ = some (.slice A0_0 l0_0.length c0_0) := (blk_cell BK485.out 0).trans rfl
      have hcz10_1 : w4.cell? ⟨gb485, 1, none⟩ = some (.slice A0_1 l0_1.length c0_1) := (blk_cell BK485.out 1).trans rfl
      have hcz10_2 : w4.cell? ⟨gb485, 2, none⟩ = some (.slice A0_2 l0_2.length c0_2) := (blk_cell BK485.out 2).trans rfl
      have hfz10_0 := blk_frozen BK485.out 0
      have hfz10_1 := blk_frozen BK485.out 1
      have hfz10_2 := blk_frozen BK485.out 2
      go_wp2_with (first | (go_at_call 10; (with_reducible refine (priorylaw28_long.calls _ _ l0_0 _ _ l0_1 _ _ l0_2 _ _ l1 false _ ?side1 ?side2 ?side3 ?side4 ?side5 ?side6 ?side7 ?side8 A5.out).mono ?_); (case side1 => repeat (first | exact (Kd.C_below HR0_0.out HB.out) | (with_reducible refine Kd.C_alloc ?_ _) | (with_reducible refine Kd.C_drewN ?_ _) | (with_reducible refine Kd.C_drew ?_))); (case side2 => exact HC0_0.out); (case side3 => repeat (first | exact (Kd.C_below HR0_1.out HB.out) | (with_reducible refine Kd.C_alloc ?_ _) | (with_reducible refine Kd.C_drewN ?_ _) | (with_reducible refine Kd.C_drew ?_))); (case side4 => exact HC0_1.out); (case side5 => repeat (first | exact (Kd.C_below HR0_2.out HB.out) | (with_reducible refine Kd.C_alloc ?_ _) | (with_reducible refine Kd.C_drewN ?_ _) | (with_reducible refine Kd.C_drew ?_))); (case side6 => exact HC0_2.out); (case side7 => repeat (first | exact (Kd.C_below HR1.out HB.out) | (with_reducible refine Kd.C_alloc ?_ _) | (with_reducible refine Kd.C_drewN ?_ _) | (with_reducible refine Kd.C_drew ?_))); (case side8 => exact HC1.out); rintro e w11 ⟨rfl, hb⟩; have n0_ := Aside0.mk (blk_below (g := gb485) (o := .cells #[.slice A0_0 l0_0.length c0_0, .slice A0_1 l0_1.length c0_1, .slice A0_2 l0_2.length c0_2] 26 (0, 0)) (by (with_reducible repeat (first | refine blk_drewN ?_ _ | refine blk_drew ?_ | refine blk_alloc ?_ _)); exact BK485.out) hb); have n1_ := Aside0.mk (below_step (by repeat (first | (with_reducible first | exact HB.out | apply below_alloc | apply pw_below_drewN | apply below_drew1 | refine below_set ?_ GE485.out) | exact HB.out)) hb); clear BK485; clear HB; have BK485 := n0_; have HB := n1_; clear n0_ n1_; (try clear hb); (try clear hb2); (try clear hk); (try clear hi); have hcz12_0 : w11.cell? ⟨gb485, 0, none⟩ = some (.slice A0_0 l0_0.length c0_0) := (blk_cell BK485.out 0).trans rfl; have hcz12_1 : w11.cell? ⟨gb485, 1, none⟩ = some (.slice A0_1 l0_1.length c0_1) := (blk_cell BK485.out 1).trans rfl; have hcz12_2 : w11.cell? ⟨gb485, 2, none⟩ = some (.slice A0_2 l0_2.length c0_2) := (blk_cell BK485.out 2).trans rfl; have hfz12_0 := blk_frozen BK485.out 0; have hfz12_1 := blk_frozen BK485.out 1; have hfz12_2 := blk_frozen BK485.out 2) | (go_at_call 22; (with_reducible refine (conf_Check.calls k _ _ l0_0 _ _ l0_1 _ _ l0_2 t487 _ ?side1 ?side2 ?side3 ?side4 ?side5 ?side6 A9.out).mono ?_); (case side1 => repeat (first | exact (Kd.C_below HR0_0.out HB.out) | (with_reducible refine Kd.C_alloc ?_ _) | (with_reducible refine Kd.C_drewN ?_ _) | (with_reducible refine Kd.C_drew ?_))); (case side2 => exact HC0_0.out); (case side3 => repeat (first | exact (Kd.C_below HR0_1.out HB.out) | (with_reducible refine Kd.C_alloc ?_ _) | (with_reducible refine Kd.C_drewN ?_ _) | (with_reducible refine Kd.C_drew ?_))); (case side4 => exact HC0_1.out); (case side5 => repeat (first | exact (Kd.C_below HR0_2.out HB.out) | (with_reducible refine Kd.C_alloc ?_ _) | (with_reducible refine Kd.C_drewN ?_ _) | (with_reducible refine Kd.C_drew ?_))); (case side6 => exact HC0_2.out); rintro e w13 ⟨rfl, hb⟩; have n0_ := Aside0.mk (blk_below (g := gb485) (o := .cells #[.slice A0_0 l0_0.length c0_0, .slice A0_1 l0_1.length c0_1, .slice A0_2 l0_2.length c0_2] 26 (0, 0)) (by (with_reducible repeat (first | refine blk_drewN ?_ _ | refine blk_drew ?_ | refine blk_alloc ?_ _)); exact BK485.out) hb); have n1_ := Aside0.mk (below_step (by repeat (first | (with_reducible first | exact HB.out | apply below_alloc | apply pw_below_drewN | apply below_drew1 | refine below_set ?_ GE485.out) | exact HB.out)) hb); clear BK485; clear HB; have BK485 := n0_; have HB := n1_; clear n0_ n1_; (try clear hb); (try clear hb2); (try clear hk); (try clear hi)))
      repeat (go_quiet (first | (go_at_call 10; (with_reducible refine (priorylaw28_long.calls _ _ l0_0 _ _ l0_1 _ _ l0_2 _ _ l1 false _ ?side1 ?side2 ?side3 ?side4 ?side5 ?side6 ?side7 ?side8 A5.out).mono ?_); (case side1 => repeat (first | exact (Kd.C_below HR0_0.out HB.out) | (with_reducible refine Kd.C_alloc ?_ _) | (with_reducible refine Kd.C_drewN ?_ _) | (with_reducible refine Kd.C_drew ?_))); (case side2 => exact HC0_0.out); (case side3 => repeat (first | exact (Kd.C_below HR0_1.out HB.out) | (with_reducible refine Kd.C_alloc ?_ _) | (with_reducible refine Kd.C_drewN ?_ _) | (with_reducible refine Kd.C_drew ?_))); (case side4 => exact HC0_1.out); (case side5 => repeat (first | exact (Kd.C_below HR0_2.out HB.out) | (with_reducible refine Kd.C_alloc ?_ _) | (with_reducible refine Kd.C_drewN ?_ _) | (with_reducible refine Kd.C_drew ?_))); (case side6 => exact HC0_2.out); (case side7 => repeat (first | exact (Kd.C_below HR1.out HB.out) | (with_reducible refine Kd.C_alloc ?_ _) | (with_reducible refine Kd.C_drewN ?_ _) | (with_reducible refine Kd.C_drew ?_))); (case side8 => exact HC1.out); rintro e w11 ⟨rfl, hb⟩; have n0_ := Aside0.mk (blk_below (g := gb485) (o := .cells #[.slice A0_0 l0_0.length c0_0, .slice A0_1 l0_1.length c0_1, .slice A0_2 l0_2.length c0_2] 26 (0, 0)) (by (with_reducible repeat (first | refine blk_drewN ?_ _ | refine blk_drew ?_ | refine blk_alloc ?_ _)); exact BK485.out) hb); have n1_ := Aside0.mk (below_step (by repeat (first | (with_reducible first | exact HB.out | apply below_alloc | apply pw_below_drewN | apply below_drew1 | refine below_set ?_ GE485.out) | exact HB.out)) hb); clear BK485; clear HB; have BK485 := n0_; have HB := n1_; clear n0_ n1_; (try clear hb); (try clear hb2); (try clear hk); (try clear hi); have hcz12_0 : w11.cell? ⟨gb485, 0, none⟩ = some (.slice A0_0 l0_0.length c0_0) := (blk_cell BK485.out 0).trans rfl; have hcz12_1 : w11.cell? ⟨gb485, 1, none⟩ = some (.slice A0_1 l0_1.length c0_1) := (blk_cell BK485.out 1).trans rfl; have hcz12_2 : w11.cell? ⟨gb485, 2, none⟩ = some (.slice A0_2 l0_2.length c0_2) := (blk_cell BK485.out 2).trans rfl; have hfz12_0 := blk_frozen BK485.out 0; have hfz12_1 := blk_frozen BK485.out 1; have hfz12_2 := blk_frozen BK485.out 2) | (go_at_call 22; (with_reducible refine (conf_Check.calls k _ _ l0_0 _ _ l0_1 _ _ l0_2 t487 _ ?side1 ?side2 ?side3 ?side4 ?side5 ?side6 A9.out).mono ?_); (case side1 => repeat (first | exact (Kd.C_below HR0_0.out HB.out) | (with_reducible refine Kd.C_alloc ?_ _) | (with_reducible refine Kd.C_drewN ?_ _) | (with_reducible refine Kd.C_drew ?_))); (case side2 => exact HC0_0.out); (case side3 => repeat (first | exact (Kd.C_below HR0_1.out HB.out) | (with_reducible refine Kd.C_alloc ?_ _) | (with_reducible refine Kd.C_drewN ?_ _) | (with_reducible refine Kd.C_drew ?_))); (case side4 => exact HC0_1.out); (case side5 => repeat (first | exact (Kd.C_below HR0_2.out HB.out) | (with_reducible refine Kd.C_alloc ?_ _) | (with_reducible refine Kd.C_drewN ?_ _) | (with_reducible refine Kd.C_drew ?_))); (case side6 => exact HC0_2.out); rintro e w13 ⟨rfl, hb⟩; have n0_ := Aside0.mk (blk_below (g := gb485) (o := .cells #[.slice A0_0 l0_0.length c0_0, .slice A0_1 l0_1.length c0_1, .slice A0_2 l0_2.length c0_2] 26 (0, 0)) (by (with_reducible repeat (first | refine blk_drewN ?_ _ | refine blk_drew ?_ | refine blk_alloc ?_ _)); exact BK485.out) hb); have n1_ := Aside0.mk (below_step (by repeat (first | (with_reducible first | exact HB.out | apply below_alloc | apply pw_below_drewN | apply below_drew1 | refine below_set ?_ GE485.out) | exact HB.out)) hb); clear BK485; clear HB; have BK485 := n0_; have HB := n1_; clear n0_ n1_; (try clear hb); (try clear hb2); (try clear hk); (try clear hi))); try go_wp2_with (first | (go_at_call 10; (with_reducible refine (priorylaw28_long.calls _ _ l0_0 _ _ l0_1 _ _ l0_2 _ _ l1 false _ ?side1 ?side2 ?side3 ?side4 ?side5 ?side6 ?side7 ?side8 A5.out).mono ?_); (case side1 => repeat (first | exact (Kd.C_below HR0_0.out HB.out) | (with_reducible refine Kd.C_alloc ?_ _) | (with_reducible refine Kd.C_drewN ?_ _) | (with_reducible refine Kd.C_drew ?_))); (case side2 => exact HC0_0.out); (case side3 => repeat (first | exact (Kd.C_below HR0_1.out HB.out) | (with_reducible refine Kd.C_alloc ?_ _) | (with_reducible refine Kd.C_drewN ?_ _) | (with_reducible refine Kd.C_drew ?_))); (case side4 => exact HC0_1.out); (case side5 => repeat (first | exact (Kd.C_below HR0_2.out HB.out) | (with_reducible refine Kd.C_alloc ?_ _) | (with_reducible refine Kd.C_drewN ?_ _) | (with_reducible refine Kd.C_drew ?_))); (case side6 => exact HC0_2.out); (case side7 => repeat (first | exact (Kd.C_below HR1.out HB.out) | (with_reducible refine Kd.C_alloc ?_ _) | (with_reducible refine Kd.C_drewN ?_ _) | (with_reducible refine Kd.C_drew ?_))); (case side8 => exact HC1.out); rintro e w11 ⟨rfl, hb⟩; have n0_ := Aside0.mk (blk_below (g := gb485) (o := .cells #[.slice A0_0 l0_0.length c0_0, .slice A0_1 l0_1.length c0_1, .slice A0_2 l0_2.length c0_2] 26 (0, 0)) (by (with_reducible repeat (first | refine blk_drewN ?_ _ | refine blk_drew ?_ | refine blk_alloc ?_ _)); exact BK485.out) hb); have n1_ := Aside0.mk (below_step (by repeat (first | (with_reducible first | exact HB.out | apply below_alloc | apply pw_below_drewN | apply below_drew1 | refine below_set ?_ GE485.out) | exact HB.out)) hb); clear BK485; clear HB; have BK485 := n0_; have HB := n1_; clear n0_ n1_; (try clear hb); (try clear hb2); (try clear hk); (try clear hi); have hcz12_0 : w11.cell? ⟨gb485, 0, none⟩ = some (.slice A0_0 l0_0.length c0_0) := (blk_cell BK485.out 0).trans rfl; have hcz12_1 : w11.cell? ⟨gb485, 1, none⟩ = some (.slice A0_1 l0_1.length c0_1) := (blk_cell BK485.out 1).trans rfl; have hcz12_2 : w11.cell? ⟨gb485, 2, none⟩ = some (.slice A0_2 l0_2.length c0_2) := (blk_cell BK485.out 2).trans rfl; have hfz12_0 := blk_frozen BK485.out 0; have hfz12_1 := blk_frozen BK485.out 1; have hfz12_2 := blk_frozen BK485.out 2) | (go_at_call 22; (with_reducible refine (conf_Check.calls k _ _ l0_0 _ _ l0_1 _ _ l0_2 t487 _ ?side1 ?side2 ?side3 ?side4 ?side5 ?side6 A9.out).mono ?_); (case side1 => repeat (first | exact (Kd.C_below HR0_0.out HB.out) | (with_reducible refine Kd.C_alloc ?_ _) | (with_reducible refine Kd.C_drewN ?_ _) | (with_reducible refine Kd.C_drew ?_))); (case side2 => exact HC0_0.out); (case side3 => repeat (first | exact (Kd.C_below HR0_1.out HB.out) | (with_reducible refine Kd.C_alloc ?_ _) | (with_reducible refine Kd.C_drewN ?_ _) | (with_reducible refine Kd.C_drew ?_))); (case side4 => exact HC0_1.out); (case side5 => repeat (first | exact (Kd.C_below HR0_2.out HB.out) | (with_reducible refine Kd.C_alloc ?_ _) | (with_reducible refine Kd.C_drewN ?_ _) | (with_reducible refine Kd.C_drew ?_))); (case side6 => exact HC0_2.out); rintro e w13 ⟨rfl, hb⟩; have n0_ := Aside0.mk (blk_below (g := gb485) (o := .cells #[.slice A0_0 l0_0.length c0_0, .slice A0_1 l0_1.length c0_1, .slice A0_2 l0_2.length c0_2] 26 (0, 0)) (by (with_reducible repeat (first | refine blk_drewN ?_ _ | refine blk_drew ?_ | refine blk_alloc ?_ _)); exact BK485.out) hb); have n1_ := Aside0.mk (below_step (by repeat (first | (with_reducible first | exact HB.out | apply below_alloc | apply pw_below_drewN | apply below_drew1 | refine below_set ?_ GE485.out) | exact HB.out)) hb); clear BK485; clear HB; have BK485 := n0_; have HB := n1_; clear n0_ n1_; (try clear hb); (try clear hb2); (try clear hk); (try clear hi))))
      go_meet
      case rel => exact ⟨_, ((t487 != 0)), (by first | rfl | (simp; done) | (simp [*]; done)), H', ⟨by first | omega | exact Nat.le_refl _⟩, ⟨by (with_reducible repeat (first | refine blk_drewN ?_ _ | refine blk_drew ?_ | refine blk_alloc ?_ _)); exact BK485.out⟩, ⟨by repeat (first | (with_reducible first | exact HB.out | apply below_alloc | apply pw_below_drewN | apply below_drew1 | refine below_set ?_ GE485.out) | exact HB.out)⟩⟩
  case rest =>
    clear HC3
    try clear c1
    try clear p2
    try clear c6
    try clear c9
    try clear hcz10_0
    try clear hcz10_1
    try clear hcz10_2
    try clear hcz12_0
    try clear hcz12_1
    try clear hcz12_2
    try clear hcz7_0
    try clear hcz7_1
    try clear hcz7_2
    try clear hfz10_0
    try clear hfz10_1
    try clear hfz10_2
    try clear hfz12_0
    try clear hfz12_1
    try clear hfz12_2
    try clear hfz7_0
    try clear hfz7_1
    try clear hfz7_2
    obtain ⟨kq, x21_2, rfl, HA, HJ2, BK485, HB⟩ := hcut
    cases kq with
    | zero => exact absurd HA.out (by simp [priorylaw28_WatchParts.j0])
    | succ kj2 =>
      have H := HA.out
      clear HA
      simp only [priorylaw28_WatchParts.j0] at H
      by_cases c14 : x21_2 = true
      · subst c14
        have H1 : ((priorylaw28_awake.f kj2).bind fun t488 => (some t488)) = some r := by rw [if_pos rfl] at H; exact H
        clear H
        have H := H1
        clear H1
        replace H := Option.bind_eq_some_iff.mp H
        obtain ⟨t488, A150, H⟩ := H
        replace H : (some t488) = some r := H
        have A15 := Aside0.mk A150
        clear A150
        obtain rfl := Option.some.inj H
        go_wp2_with (first | (go_at_call 11; (with_reducible refine (priorylaw28_awake.calls kj2  t488 _ A15.out).mono ?_); rintro e w16 ⟨rfl, hb⟩; have n0_ := Aside0.mk (blk_below (g := gb485) (o := .cells #[.slice A0_0 l0_0.length c0_0, .slice A0_1 l0_1.length c0_1, .slice A0_2 l0_2.length c0_2] 26 (0, 0)) (by (with_reducible repeat (first | refine blk_drewN ?_ _ | refine blk_drew ?_ | refine blk_alloc ?_ _)); exact BK485.out) hb); have n1_ := Aside0.mk (below_step (by repeat (first | (with_reducible first | exact HB.out | apply below_alloc | apply pw_below_drewN | apply below_drew1 | refine below_set ?_ GE485.out) | exact HB.out)) hb); clear BK485; clear HB; have BK485 := n0_; have HB := n1_; clear n0_ n1_; (try clear hb); (try clear hb2); (try clear hk); (try clear hi)))
        repeat (go_quiet (first | (go_at_call 11; (with_reducible refine (priorylaw28_awake.calls kj2  t488 _ A15.out).mono ?_); rintro e w16 ⟨rfl, hb⟩; have n0_ := Aside0.mk (blk_below (g := gb485) (o := .cells #[.slice A0_0 l0_0.length c0_0, .slice A0_1 l0_1.length c0_1, .slice A0_2 l0_2.length c0_2] 26 (0, 0)) (by (with_reducible repeat (first | refine blk_drewN ?_ _ | refine blk_drew ?_ | refine blk_alloc ?_ _)); exact BK485.out) hb); have n1_ := Aside0.mk (below_step (by repeat (first | (with_reducible first | exact HB.out | apply below_alloc | apply pw_below_drewN | apply below_drew1 | refine below_set ?_ GE485.out) | exact HB.out)) hb); clear BK485; clear HB; have BK485 := n0_; have HB := n1_; clear n0_ n1_; (try clear hb); (try clear hb2); (try clear hk); (try clear hi))); try go_wp2_with (first | (go_at_call 11; (with_reducible refine (priorylaw28_awake.calls kj2  t488 _ A15.out).mono ?_); rintro e w16 ⟨rfl, hb⟩; have n0_ := Aside0.mk (blk_below (g := gb485) (o := .cells #[.slice A0_0 l0_0.length c0_0, .slice A0_1 l0_1.length c0_1, .slice A0_2 l0_2.length c0_2] 26 (0, 0)) (by (with_reducible repeat (first | refine blk_drewN ?_ _ | refine blk_drew ?_ | refine blk_alloc ?_ _)); exact BK485.out) hb); have n1_ := Aside0.mk (below_step (by repeat (first | (with_reducible first | exact HB.out | apply below_alloc | apply pw_below_drewN | apply below_drew1 | refine below_set ?_ GE485.out) | exact HB.out)) hb); clear BK485; clear HB; have BK485 := n0_; have HB := n1_; clear n0_ n1_; (try clear hb); (try clear hb2); (try clear hk); (try clear hi))))
        go_ret
        exact ⟨by first | rfl | (simp [errW_none, errW_some] <;> rfl) | (simp [*, errW_none, errW_some] <;> rfl), by repeat (first | (with_reducible first | exact HB.out | apply below_alloc | apply pw_below_drewN | apply below_drew1 | refine below_set ?_ GE485.out) | exact HB.out)⟩
      · replace c14 := Bool.eq_false_iff.mpr c14
        subst c14
        have H1 : ((watch_Turns.f kj2 l0_0 l0_1 l0_2 l1).bind fun bt489 => (if bt489.2 = 0 then (priorylaw28_WatchParts.j1 kj2 l1 bt489.1 ((bt489.1.length : Int) != (l1.length : Int)) l0_0 l0_1 l0_2) else (priorylaw28_WatchParts.j1 kj2 l1 bt489.1 true l0_0 l0_1 l0_2))) = some r := by rw [if_neg (show ¬ (false = true) by decide)] at H; exact H
        clear H
        have H := H1
        clear H1
        replace H := Option.bind_eq_some_iff.mp H
        obtain ⟨⟨t489, t492⟩, A170, H⟩ := H
        replace H : (if t492 = 0 then (priorylaw28_WatchParts.j1 kj2 l1 t489 ((t489.length : Int) != (l1.length : Int)) l0_0 l0_1 l0_2) else (priorylaw28_WatchParts.j1 kj2 l1 t489 true l0_0 l0_1 l0_2)) = some r := H
        have A17 := Aside0.mk A170
        clear A170
        have HC18 := Aside0.mk H
        clear H
        have hcz19_0 : wc.cell? ⟨gb485, 0, none⟩ = some (.slice A0_0 l0_0.length c0_0) := (blk_cell BK485.out 0).trans rfl
        have hcz19_1 : wc.cell? ⟨gb485, 1, none⟩ = some (.slice A0_1 l0_1.length c0_1) := (blk_cell BK485.out 1).trans rfl
        have hcz19_2 : wc.cell? ⟨gb485, 2, none⟩ = some (.slice A0_2 l0_2.length c0_2) := (blk_cell BK485.out 2).trans rfl
        have hfz19_0 := blk_frozen BK485.out 0
        have hfz19_1 := blk_frozen BK485.out 1
        have hfz19_2 := blk_frozen BK485.out 2
        go_upto_region 4 with (first | (go_at_call 17; (with_reducible refine (watch_Turns.calls kj2 _ _ l0_0 _ _ l0_1 _ _ l0_2 _ _ l1 t489 t492 _ ?side1 ?side2 ?side3 ?side4 ?side5 ?side6 ?side7 ?side8 A17.out).mono ?_); (case side1 => repeat (first | exact (Kd.C_below HR0_0.out HB.out) | (with_reducible refine Kd.C_alloc ?_ _) | (with_reducible refine Kd.C_drewN ?_ _) | (with_reducible refine Kd.C_drew ?_))); (case side2 => exact HC0_0.out); (case side3 => repeat (first | exact (Kd.C_below HR0_1.out HB.out) | (with_reducible refine Kd.C_alloc ?_ _) | (with_reducible refine Kd.C_drewN ?_ _) | (with_reducible refine Kd.C_drew ?_))); (case side4 => exact HC0_1.out); (case side5 => repeat (first | exact (Kd.C_below HR0_2.out HB.out) | (with_reducible refine Kd.C_alloc ?_ _) | (with_reducible refine Kd.C_drewN ?_ _) | (with_reducible refine Kd.C_drew ?_))); (case side6 => exact HC0_2.out); (case side7 => repeat (first | exact (Kd.C_below HR1.out HB.out) | (with_reducible refine Kd.C_alloc ?_ _) | (with_reducible refine Kd.C_drewN ?_ _) | (with_reducible refine Kd.C_drew ?_))); (case side8 => exact HC1.out); rintro e w20 ⟨v490, rfl, ho0, hb⟩; have n0_ := Aside0.mk (Kd.R_lower ho0 (below_size (by repeat (first | (with_reducible first | exact HB.out | apply below_alloc | apply pw_below_drewN | apply below_drew1 | refine below_set ?_ GE485.out) | exact HB.out)))); have n1_ := Aside0.mk (blk_below (g := gb485) (o := .cells #[.slice A0_0 l0_0.length c0_0, .slice A0_1 l0_1.length c0_1, .slice A0_2 l0_2.length c0_2] 26 (0, 0)) (by (with_reducible repeat (first | refine blk_drewN ?_ _ | refine blk_drew ?_ | refine blk_alloc ?_ _)); exact BK485.out) hb); have n2_ := Aside0.mk (below_step (by repeat (first | (with_reducible first | exact HB.out | apply below_alloc | apply pw_below_drewN | apply below_drew1 | refine below_set ?_ GE485.out) | exact HB.out)) hb); clear BK485; clear HB; have HO491 := n0_; have BK485 := n1_; have HB := n2_; clear n0_ n1_ n2_; (try clear hb); (try clear hb2); (try clear hk); (try clear hi); (try clear ho0)))
        repeat (go_quiet (first | (go_at_call 17; (with_reducible refine (watch_Turns.calls kj2 _ _ l0_0 _ _ l0_1 _ _ l0_2 _ _ l1 t489 t492 _ ?side1 ?side2 ?side3 ?side4 ?side5 ?side6 ?side7 ?side8 A17.out).mono ?_); (case side1 => repeat (first | exact (Kd.C_below HR0_0.out HB.out) | (with_reducible refine Kd.C_alloc ?_ _) | (with_reducible refine Kd.C_drewN ?_ _) | (with_reducible refine Kd.C_drew ?_))); (case side2 => exact HC0_0.out); (case side3 => repeat (first | exact (Kd.C_below HR0_1.out HB.out) | (with_reducible refine Kd.C_alloc ?_ _) | (with_reducible refine Kd.C_drewN ?_ _) | (with_reducible refine Kd.C_drew ?_))); (case side4 => exact HC0_1.out); (case side5 => repeat (first | exact (Kd.C_below HR0_2.out HB.out) | (with_reducible refine Kd.C_alloc ?_ _) | (with_reducible refine Kd.C_drewN ?_ _) | (with_reducible refine Kd.C_drew ?_))); (case side6 => exact HC0_2.out); (case side7 => repeat (first | exact (Kd.C_below HR1.out HB.out) | (with_reducible refine Kd.C_alloc ?_ _) | (with_reducible refine Kd.C_drewN ?_ _) | (with_reducible refine Kd.C_drew ?_))); (case side8 => exact HC1.out); rintro e w20 ⟨v490, rfl, ho0, hb⟩; have n0_ := Aside0.mk (Kd.R_lower ho0 (below_size (by repeat (first | (with_reducible first | exact HB.out | apply below_alloc | apply pw_below_drewN | apply below_drew1 | refine below_set ?_ GE485.out) | exact HB.out)))); have n1_ := Aside0.mk (blk_below (g := gb485) (o := .cells #[.slice A0_0 l0_0.length c0_0, .slice A0_1 l0_1.length c0_1, .slice A0_2 l0_2.length c0_2] 26 (0, 0)) (by (with_reducible repeat (first | refine blk_drewN ?_ _ | refine blk_drew ?_ | refine blk_alloc ?_ _)); exact BK485.out) hb); have n2_ := Aside0.mk (below_step (by repeat (first | (with_reducible first | exact HB.out | apply below_alloc | apply pw_below_drewN | apply below_drew1 | refine below_set ?_ GE485.out) | exact HB.out)) hb); clear BK485; clear HB; have HO491 := n0_; have BK485 := n1_; have HB := n2_; clear n0_ n1_ n2_; (try clear hb); (try clear hb2); (try clear hk); (try clear hi); (try clear ho0))); go_upto_region 4 with (first | (go_at_call 17; (with_reducible refine (watch_Turns.calls kj2 _ _ l0_0 _ _ l0_1 _ _ l0_2 _ _ l1 t489 t492 _ ?side1 ?side2 ?side3 ?side4 ?side5 ?side6 ?side7 ?side8 A17.out).mono ?_); (case side1 => repeat (first | exact (Kd.C_below HR0_0.out HB.out) | (with_reducible refine Kd.C_alloc ?_ _) | (with_reducible refine Kd.C_drewN ?_ _) | (with_reducible refine Kd.C_drew ?_))); (case side2 => exact HC0_0.out); (case side3 => repeat (first | exact (Kd.C_below HR0_1.out HB.out) | (with_reducible refine Kd.C_alloc ?_ _) | (with_reducible refine Kd.C_drewN ?_ _) | (with_reducible refine Kd.C_drew ?_))); (case side4 => exact HC0_1.out); (case side5 => repeat (first | exact (Kd.C_below HR0_2.out HB.out) | (with_reducible refine Kd.C_alloc ?_ _) | (with_reducible refine Kd.C_drewN ?_ _) | (with_reducible refine Kd.C_drew ?_))); (case side6 => exact HC0_2.out); (case side7 => repeat (first | exact (Kd.C_below HR1.out HB.out) | (with_reducible refine Kd.C_alloc ?_ _) | (with_reducible refine Kd.C_drewN ?_ _) | (with_reducible refine Kd.C_drew ?_))); (case side8 => exact HC1.out); rintro e w20 ⟨v490, rfl, ho0, hb⟩; have n0_ := Aside0.mk (Kd.R_lower ho0 (below_size (by repeat (first | (with_reducible first | exact HB.out | apply below_alloc | apply pw_below_drewN | apply below_drew1 | refine below_set ?_ GE485.out) | exact HB.out)))); have n1_ := Aside0.mk (blk_below (g := gb485) (o := .cells #[.slice A0_0 l0_0.length c0_0, .slice A0_1 l0_1.length c0_1, .slice A0_2 l0_2.length c0_2] 26 (0, 0)) (by (with_reducible repeat (first | refine blk_drewN ?_ _ | refine blk_drew ?_ | refine blk_alloc ?_ _)); exact BK485.out) hb); have n2_ := Aside0.mk (below_step (by repeat (first | (with_reducible first | exact HB.out | apply below_alloc | apply pw_below_drewN | apply below_drew1 | refine below_set ?_ GE485.out) | exact HB.out)) hb); clear BK485; clear HB; have HO491 := n0_; have BK485 := n1_; have HB := n2_; clear n0_ n1_ n2_; (try clear hb); (try clear hb2); (try clear hk); (try clear hi); (try clear ho0))))
        (try simp only [Act.put, List.setIfInBounds_toArray, List.set_cons_zero, List.set_cons_succ])
        go_cut [37] (fun v37 wc => ∃ (kq : Nat) (x37_17 : Bool), v37 = .bool x37_17 ∧ Aside0 (priorylaw28_WatchParts.j1 kq l1 t489 x37_17 l0_0 l0_1 l0_2 = some r) ∧ Aside0 (kq ≤ kj2) ∧ Aside0 (Kd.R (Kd.int .i64) 3 wc w.heap.size (fun _ => True) v490 t489) ∧ Aside0 (wc.heap[gb485]? = some (.cells #[(.slice A0_0 l0_0.length c0_0), (.slice A0_1 l0_1.length c0_1), (.slice A0_2 l0_2.length c0_2)] 26 (0, 0))) ∧ Aside0 (Below w.heap.size w wc))
        case first =>
          have H := HC18.out
          clear HC18
          by_cases c21 : t492 = 0
          · rw [if_pos c21] at H
            have c21b0 : (t492 == 0) = true := beq_iff_eq.mpr c21
            have c21b1 : (t492 != 0) = false := bne_eq_false_iff_eq.mpr c21
            clear c21
            (first | rw [c21b0] | (simp only [i64_w, i32_w]; rw [c21b0]) | skip)
            have H' := Aside0.mk H
            clear H
            obtain ⟨Ao22, co22, eo22⟩ := Kd.R_slice HO491.out
            subst eo22
            go_wp2
            repeat (go_quiet (fail); try go_wp2)
            go_meet
            case rel => exact ⟨_, (((t489.length : Int) != (l1.length : Int))), (by first | rfl | (simp; done) | (simp [*]; done)), H', ⟨by have := HJ2.out; first | omega | exact Nat.le_refl _⟩, ⟨by (with_reducible repeat (first | apply Kd.R_alloc | apply Kd.R_drewN | apply Kd.R_drew)); exact HO491.out⟩, ⟨by (with_reducible repeat (first | refine blk_drewN ?_ _ | refine blk_drew ?_ | refine blk_alloc ?_ _)); exact BK485.out⟩, ⟨by repeat (first | (with_reducible first | exact HB.out | apply below_alloc | apply pw_below_drewN | apply below_drew1 | refine below_set ?_ GE485.out) | exact HB.out)⟩⟩
          · rw [if_neg c21] at H
            have c21b0 : (t492 == 0) = false := beq_eq_false_iff_ne.mpr c21
            have c21b1 : (t492 != 0) = true := bne_iff_ne.mpr c21
            (first | rw [c21b0] | (simp only [i64_w, i32_w]; rw [c21b0]) | skip)
            have H' := Aside0.mk H
            clear H
            go_wp2
            repeat (go_quiet (fail); try go_wp2)
            go_meet
            case rel => exact ⟨_, (true), (by first | rfl | (simp; done) | (simp [*]; done)), H', ⟨by have := HJ2.out; first | omega | exact Nat.le_refl _⟩, ⟨by (with_reducible repeat (first | apply Kd.R_alloc | apply Kd.R_drewN | apply Kd.R_drew)); exact HO491.out⟩, ⟨by (with_reducible repeat (first | refine blk_drewN ?_ _ | refine blk_drew ?_ | refine blk_alloc ?_ _)); exact BK485.out⟩, ⟨by repeat (first | (with_reducible first | exact HB.out | apply below_alloc | apply pw_below_drewN | apply below_drew1 | refine below_set ?_ GE485.out) | exact HB.out)⟩⟩
        case rest =>
          clear HC18
          try clear c1
          try clear c2
          try clear p2
          try clear c6
          try clear c9
          try clear c14
          try clear c21
          try clear c21b0
          try clear c21b1
          try clear hcz10_0
          try clear hcz10_1
          try clear hcz10_2
          try clear hcz12_0
          try clear hcz12_1
          try clear hcz12_2
          try clear hcz19_0
          try clear hcz19_1
          try clear hcz19_2
          try clear hcz7_0
          try clear hcz7_1
          try clear hcz7_2
          try clear hfz10_0
          try clear hfz10_1
          try clear hfz10_2
          try clear hfz12_0
          try clear hfz12_1
          try clear hfz12_2
          try clear hfz19_0
          try clear hfz19_1
          try clear hfz19_2
          try clear hfz7_0
          try clear hfz7_1
          try clear hfz7_2
          try clear p2
          obtain ⟨kq, x37_17, rfl, HA, HJ17, HO_5, BK485, HB⟩ := hcut
          cases kq with
          | zero => exact absurd HA.out (by simp [priorylaw28_WatchParts.j1])
          | succ kj17 =>
            have H := HA.out
            clear HA
            simp only [priorylaw28_WatchParts.j1] at H
            by_cases c23 : x37_17 = true
            · subst c23
              have H1 : (some false) = some r := by rw [if_pos rfl] at H; exact H
              clear H
              have H := H1
              clear H1
              obtain rfl := Option.some.inj H
              go_wp2
              repeat (go_quiet (fail); try go_wp2)
              go_ret
              exact ⟨by first | rfl | (simp [errW_none, errW_some] <;> rfl) | (simp [*, errW_none, errW_some] <;> rfl), by repeat (first | (with_reducible first | exact HB.out | apply below_alloc | apply pw_below_drewN | apply below_drew1 | refine below_set ?_ GE485.out) | exact HB.out)⟩
            · replace c23 := Bool.eq_false_iff.mpr c23
              subst c23
              have H1 : (priorylaw28_WatchParts.l0 kj17 l1 t489 0 l0_0 l0_1 l0_2) = some r := by rw [if_neg (show ¬ (false = true) by decide)] at H; exact H
              clear H
              have H := H1
              clear H1
              have H' := Aside0.mk H
              clear H
              go_wp2
              repeat (go_quiet (fail); try go_wp2)
              go_loopg [7] kj17 (fun kq v7 w' => ∃ (x7_3 : Int), v7 = .int .i64 x7_3 ∧ Aside0 (priorylaw28_WatchParts.l0 kq l1 t489 x7_3 l0_0 l0_1 l0_2 = some r) ∧ Aside0 (kq ≤ kj17) ∧ Aside0 (Kd.R (Kd.int .i64) 3 w' w.heap.size (fun _ => True) v490 t489) ∧ Aside0 (w'.heap[gb485]? = some (.cells #[(.slice A0_0 l0_0.length c0_0), (.slice A0_1 l0_1.length c0_1), (.slice A0_2 l0_2.length c0_2)] 26 (0, 0))) ∧ Aside0 (Below w.heap.size w w'))
              case atStart => exact ⟨(0), (by first | rfl | (simp; done) | (simp [*]; done)), H', ⟨Nat.le_refl _⟩, ⟨by (with_reducible repeat (first | apply Kd.R_alloc | apply Kd.R_drewN | apply Kd.R_drew)); exact HO_5.out⟩, ⟨by (with_reducible repeat (first | refine blk_drewN ?_ _ | refine blk_drew ?_ | refine blk_alloc ?_ _)); exact BK485.out⟩, ⟨by repeat (first | (with_reducible first | exact HB.out | apply below_alloc | apply pw_below_drewN | apply below_drew1 | refine below_set ?_ GE485.out) | exact HB.out)⟩⟩
              case round =>
                clear H'
                try clear c1
                try clear c2
                try clear p2
                try clear c6
                try clear c9
                try clear c14
                try clear c21
                try clear c21b0
                try clear c21b1
                try clear c23
                try clear hcz10_0
                try clear hcz10_1
                try clear hcz10_2
                try clear hcz12_0
                try clear hcz12_1
                try clear hcz12_2
                try clear hcz19_0
                try clear hcz19_1
                try clear hcz19_2
                try clear hcz7_0
                try clear hcz7_1
                try clear hcz7_2
                try clear hfz10_0
                try clear hfz10_1
                try clear hfz10_2
                try clear hfz12_0
                try clear hfz12_1
                try clear hfz12_2
                try clear hfz19_0
                try clear hfz19_1
                try clear hfz19_2
                try clear hfz7_0
                try clear hfz7_1
                try clear hfz7_2
                try clear p2
                obtain ⟨x7_3, rfl, HA, HK3, HO_5, BK485, HB⟩ := hrel
                cases gk with
                | zero => exact absurd HA.out (by simp [priorylaw28_WatchParts.l0])
                | succ k3 =>
                  have H := HA.out
                  clear HA
                  simp only [priorylaw28_WatchParts.l0] at H
                  by_cases c24 : x7_3 < (l1.length : Int)
                  · rw [if_pos c24] at H
                    have c24b0 : decide (x7_3 < (l1.length : Int)) = true := decide_eq_true c24
                    clear c24
                    have HC25 := Aside0.mk H
                    clear H
                    go_upto_region 9 with (fail)
                    repeat (go_quiet (fail); go_upto_region 9 with (fail))
                    go_cut [65] (fun v65 wc => ∃ (kq : Nat) (x65_24 : Bool), v65 = .bool x65_24 ∧ Aside0 (priorylaw28_WatchParts.j3 kq l1 t489 x7_3 x65_24 l0_0 l0_1 l0_2 = some r) ∧ Aside0 (kq ≤ k3) ∧ Aside0 (Kd.R (Kd.int .i64) 3 wc w.heap.size (fun _ => True) v490 t489) ∧ Aside0 (wc.heap[gb485]? = some (.cells #[(.slice A0_0 l0_0.length c0_0), (.slice A0_1 l0_1.length c0_1), (.slice A0_2 l0_2.length c0_2)] 26 (0, 0))) ∧ Aside0 (Below w.heap.size w wc))
                    case first =>
                      have H := HC25.out
                      clear HC25
                      by_cases c26 : 0 ≤ x7_3
                      · rw [if_pos c26] at H
                        have c26b0 : decide (0 ≤ x7_3) = true := decide_eq_true c26
                        clear c26
                        (first | rw [c26b0] | (simp only [i64_w, i32_w]; rw [c26b0]) | skip)
                        by_cases c27 : x7_3 < (t489.length : Int)
                        · rw [if_pos c27] at H
                          have c27b0 : decide (x7_3 < (t489.length : Int)) = true := decide_eq_true c27
                          clear c27
                          by_cases c28 : ((decide ((rd t489 x7_3) < 0)) != (((rd_T56 l1 x7_3).f0) == 1)) = true
                          · rw [if_pos c28] at H
                            have c28b0 : ((decide ((rd t489 x7_3) < 0)) != (((rd_T56 l1 x7_3).f0) == 1)) = true := c28
                            (try (have c28b1 : decide ((decide ((rd t489 x7_3) < 0)) = (((rd_T56 l1 x7_3).f0) == 1)) = false := by simpa using c28))
                            (try (have c28b2 : ((decide ((rd t489 x7_3) < 0)) == (((rd_T56 l1 x7_3).f0) == 1)) = false := by simpa using c28))
                            (try (have c28b3 : ¬ ((decide ((rd t489 x7_3) < 0)) = (((rd_T56 l1 x7_3).f0) == 1)) := by simpa using c28))
                            clear c28
                            have H' := Aside0.mk H
                            clear H
                            obtain ⟨Ao29, co29, eo29⟩ := Kd.R_slice HO_5.out
                            subst eo29
                            have p494 : 0 ≤ (x7_3 : Int) := of_decide_eq_true (by first | (with_reducible assumption) | assumption)
                            have q494 : x7_3 < (t489.length : Int) := of_decide_eq_true (by first | (with_reducible assumption) | assumption)
                            obtain ⟨ad494, e494, hx494_0⟩ := Kd.at_int (Kd.R_reads' HO_5.out).2.2 x7_3 p494 q494
                            cases e494
                            replace p494 := eq_true p494
                            replace q494 := eq_true q494
                            have p495 : 0 ≤ (x7_3 : Int) := of_decide_eq_true (by first | (with_reducible assumption) | assumption)
                            have q495 : x7_3 < (l1.length : Int) := of_decide_eq_true (by first | (with_reducible assumption) | assumption)
                            obtain ⟨ad495, e495, hx495_0, hx495_1, hx495_2⟩ := at_T56 HR1.out x7_3 p495 q495
                            cases e495
                            replace hx495_0 := (HB.out.cell (World.block_lt_of_cell? w _ hx495_0)).trans hx495_0
                            replace hx495_1 := (HB.out.cell (World.block_lt_of_cell? w _ hx495_1)).trans hx495_1
                            replace hx495_2 := (HB.out.cell (World.block_lt_of_cell? w _ hx495_2)).trans hx495_2
                            replace p495 := eq_true p495
                            replace q495 := eq_true q495
                            go_wp2
                            repeat (go_quiet (fail); try go_wp2)
                            go_meet
                            case rel => exact ⟨_, (true), (by first | rfl | (simp; done) | (simp [*]; done)), H', ⟨by have := HJ2.out; have := HJ17.out; have := HK3.out; first | omega | exact Nat.le_refl _⟩, ⟨by (with_reducible repeat (first | apply Kd.R_alloc | apply Kd.R_drewN | apply Kd.R_drew)); exact HO_5.out⟩, ⟨by (with_reducible repeat (first | refine blk_drewN ?_ _ | refine blk_drew ?_ | refine blk_alloc ?_ _)); exact BK485.out⟩, ⟨by repeat (first | (with_reducible first | exact HB.out | apply below_alloc | apply pw_below_drewN | apply below_drew1 | refine below_set ?_ GE485.out) | exact HB.out)⟩⟩
                          · rw [if_neg c28] at H
                            have c28b0 : ((decide ((rd t489 x7_3) < 0)) != (((rd_T56 l1 x7_3).f0) == 1)) = false := by simpa using c28
                            (try (have c28b1 : decide ((decide ((rd t489 x7_3) < 0)) = (((rd_T56 l1 x7_3).f0) == 1)) = true := by simpa using c28))
                            (try (have c28b2 : ((decide ((rd t489 x7_3) < 0)) == (((rd_T56 l1 x7_3).f0) == 1)) = true := by simpa using c28))
                            clear c28
                            have H' := Aside0.mk H
                            clear H
                            obtain ⟨Ao30, co30, eo30⟩ := Kd.R_slice HO_5.out
                            subst eo30
                            have p494 : 0 ≤ (x7_3 : Int) := of_decide_eq_true (by first | (with_reducible assumption) | assumption)
                            have q494 : x7_3 < (t489.length : Int) := of_decide_eq_true (by first | (with_reducible assumption) | assumption)
                            obtain ⟨ad494, e494, hx494_0⟩ := Kd.at_int (Kd.R_reads' HO_5.out).2.2 x7_3 p494 q494
                            cases e494
                            replace p494 := eq_true p494
                            replace q494 := eq_true q494
                            have p495 : 0 ≤ (x7_3 : Int) := of_decide_eq_true (by first | (with_reducible assumption) | assumption)
                            have q495 : x7_3 < (l1.length : Int) := of_decide_eq_true (by first | (with_reducible assumption) | assumption)
                            obtain ⟨ad495, e495, hx495_0, hx495_1, hx495_2⟩ := at_T56 HR1.out x7_3 p495 q495
                            cases e495
                            replace hx495_0 := (HB.out.cell (World.block_lt_of_cell? w _ hx495_0)).trans hx495_0
                            replace hx495_1 := (HB.out.cell (World.block_lt_of_cell? w _ hx495_1)).trans hx495_1
                            replace hx495_2 := (HB.out.cell (World.block_lt_of_cell? w _ hx495_2)).trans hx495_2
                            replace p495 := eq_true p495
                            replace q495 := eq_true q495
                            have p496 : 0 ≤ (x7_3 : Int) := of_decide_eq_true (by first | (with_reducible assumption) | assumption)
                            have q496 : x7_3 < (t489.length : Int) := of_decide_eq_true (by first | (with_reducible assumption) | assumption)
                            obtain ⟨ad496, e496, hx496_0⟩ := Kd.at_int (Kd.R_reads' HO_5.out).2.2 x7_3 p496 q496
                            obtain rfl : ad494 = ad496 := (by injection e496)
                            replace p496 := eq_true p496
                            replace q496 := eq_true q496
                            have hcz31_0 : wr.cell? ⟨gb485, 0, none⟩ = some (.slice A0_0 l0_0.length c0_0) := (blk_cell BK485.out 0).trans rfl
                            have hcz31_1 : wr.cell? ⟨gb485, 1, none⟩ = some (.slice A0_1 l0_1.length c0_1) := (blk_cell BK485.out 1).trans rfl
                            have hcz31_2 : wr.cell? ⟨gb485, 2, none⟩ = some (.slice A0_2 l0_2.length c0_2) := (blk_cell BK485.out 2).trans rfl
                            have hfz31_0 := blk_frozen BK485.out 0
                            have hfz31_1 := blk_frozen BK485.out 1
                            have hfz31_2 := blk_frozen BK485.out 2
                            go_wp2
                            repeat (go_quiet (fail); try go_wp2)
                            go_meet
                            case rel => exact ⟨_, (decide ((rd t489 x7_3) ≥ (l0_0.length : Int))), (by first | rfl | (simp; done) | (simp [*]; done)), H', ⟨by have := HJ2.out; have := HJ17.out; have := HK3.out; first | omega | exact Nat.le_refl _⟩, ⟨by (with_reducible repeat (first | apply Kd.R_alloc | apply Kd.R_drewN | apply Kd.R_drew)); exact HO_5.out⟩, ⟨by (with_reducible repeat (first | refine blk_drewN ?_ _ | refine blk_drew ?_ | refine blk_alloc ?_ _)); exact BK485.out⟩, ⟨by repeat (first | (with_reducible first | exact HB.out | apply below_alloc | apply pw_below_drewN | apply below_drew1 | refine below_set ?_ GE485.out) | exact HB.out)⟩⟩
                        · rw [if_neg c27] at H
                          exact absurd H (by simp)
                      · rw [if_neg c26] at H
                        exact absurd H (by simp)
                    case rest =>
                      clear HC25
                      try clear c1
                      try clear c2
                      try clear p2
                      try clear p4
                      try clear q4
                      try clear hx4
                      try clear c6
                      try clear c9
                      try clear c14
                      try clear c21
                      try clear c21b0
                      try clear c21b1
                      try clear c23
                      try clear c24
                      try clear c24b0
                      try clear c26
                      try clear c26b0
                      try clear c27
                      try clear c27b0
                      try clear c28
                      try clear c28b0
                      try clear c28b1
                      try clear c28b2
                      try clear hcz10_0
                      try clear hcz10_1
                      try clear hcz10_2
                      try clear hcz12_0
                      try clear hcz12_1
                      try clear hcz12_2
                      try clear hcz19_0
                      try clear hcz19_1
                      try clear hcz19_2
                      try clear hcz31_0
                      try clear hcz31_1
                      try clear hcz31_2
                      try clear hcz7_0
                      try clear hcz7_1
                      try clear hcz7_2
                      try clear hfz10_0
                      try clear hfz10_1
                      try clear hfz10_2
                      try clear hfz12_0
                      try clear hfz12_1
                      try clear hfz12_2
                      try clear hfz19_0
                      try clear hfz19_1
                      try clear hfz19_2
                      try clear hfz31_0
                      try clear hfz31_1
                      try clear hfz31_2
                      try clear hfz7_0
                      try clear hfz7_1
                      try clear hfz7_2
                      try clear hx494_0
                      try clear hx495_0
                      try clear hx495_1
                      try clear hx495_2
                      try clear hx496_0
                      try clear p2
                      try clear p494
                      try clear p495
                      try clear p496
                      try clear q494
                      try clear q495
                      try clear q496
                      obtain ⟨kq, x65_24, rfl, HA, HJ24, HO_5, BK485, HB⟩ := hcut
                      cases kq with
                      | zero => exact absurd HA.out (by simp [priorylaw28_WatchParts.j3])
                      | succ kj24 =>
                        have H := HA.out
                        clear HA
                        simp only [priorylaw28_WatchParts.j3] at H
                        by_cases c32 : x65_24 = true
                        · subst c32
                          have H1 : (some false) = some r := by rw [if_pos rfl] at H; exact H
                          clear H
                          have H := H1
                          clear H1
                          obtain rfl := Option.some.inj H
                          go_wp2
                          repeat (go_quiet (fail); try go_wp2)
                          go_ret
                          exact ⟨by first | rfl | (simp [errW_none, errW_some] <;> rfl) | (simp [*, errW_none, errW_some] <;> rfl), by repeat (first | (with_reducible first | exact HB.out | apply below_alloc | apply pw_below_drewN | apply below_drew1 | refine below_set ?_ GE485.out) | exact HB.out)⟩
                        · replace c32 := Bool.eq_false_iff.mpr c32
                          subst c32
                          have H1 : (if 0 ≤ (l1.length : Int) then (if ((l1.length : Int) : Int).toNat ≤ 8796093022208 then ((some (List.replicate ((l1.length : Int) : Int).toNat z58 : List (S58))).bind fun y497 => (if 0 ≤ x7_3 then (if x7_3 < (y497.length : Int) then (priorylaw28_WatchParts.l1 kj24 l1 t489 x7_3 (y497.set (x7_3 : Int).toNat (⟨0, 0, 0, 7, 0⟩ : S58)) 0 0 l0_0 l0_1 l0_2) else (none)) else (none))) else (none)) else (none)) = some r := by rw [if_neg (show ¬ (false = true) by decide)] at H; exact H
                          clear H
                          have H := H1
                          clear H1
                          by_cases c33 : 0 ≤ (l1.length : Int)
                          · rw [if_pos c33] at H
                            have c33b0 := eq_true c33
                            have c33b1 : decide (0 ≤ (l1.length : Int)) = true := decide_eq_true c33
                            clear c33
                            by_cases c34 : ((l1.length : Int) : Int).toNat ≤ 8796093022208
                            · rw [if_pos c34] at H
                              have c34b0 := eq_true c34
                              have c34b1 : decide (((l1.length : Int) : Int).toNat ≤ 8796093022208) = true := decide_eq_true c34
                              clear c34
                              obtain ⟨y497, hy497⟩ : ∃ y_ : List (S58), y_ = (List.replicate ((l1.length : Int) : Int).toNat z58) := ⟨_, rfl⟩
                              replace H : (if 0 ≤ x7_3 then (if x7_3 < (y497.length : Int) then (priorylaw28_WatchParts.l1 kj24 l1 t489 x7_3 (y497.set (x7_3 : Int).toNat (⟨0, 0, 0, 7, 0⟩ : S58)) 0 0 l0_0 l0_1 l0_2) else (none)) else (none)) = some r := by first | (rw [hy497]; with_reducible exact H) | (have H2_ := (Option.bind_some _ _).symm.trans H; rw [hy497]; with_reducible exact H2_) | (have H2_ := (Option.bind_some _ _).symm.trans H; with_reducible exact H2_) | with_reducible exact H | (rw [hy497]; exact H) | exact H
                              have Ny497 := Aside0.mk hy497
                              clear hy497
                              by_cases c35 : 0 ≤ x7_3
                              · rw [if_pos c35] at H
                                have c35b0 : decide (0 ≤ x7_3) = true := decide_eq_true c35
                                clear c35
                                by_cases c36 : x7_3 < (y497.length : Int)
                                · rw [if_pos c36] at H
                                  have c36b0 : decide (x7_3 < (y497.length : Int)) = true := decide_eq_true c36
                                  clear c36
                                  obtain ⟨y500, hy500⟩ : ∃ y_ : List (S58), y_ = (y497.set (x7_3 : Int).toNat (⟨0, 0, 0, 7, 0⟩ : S58)) := ⟨_, rfl⟩
                                  replace H : (priorylaw28_WatchParts.l1 kj24 l1 t489 x7_3 y500 0 0 l0_0 l0_1 l0_2) = some r := by first | (rw [hy500]; with_reducible exact H) | (have H2_ := (Option.bind_some _ _).symm.trans H; rw [hy500]; with_reducible exact H2_) | (have H2_ := (Option.bind_some _ _).symm.trans H; with_reducible exact H2_) | with_reducible exact H | (rw [hy500]; exact H) | exact H
                                  have Ny500 := Aside0.mk hy500
                                  clear hy500
                                  have H' := Aside0.mk H
                                  clear H
                                  go_wp2_with (first | ((with_reducible refine gate_dst (N := 68) rfl ?_); (try (refine gate_guard (by rfl) ?_; dsimp only)); refine Kd.R_make k58 _ 58 rfl (N := 68) rfl 48 _ _ rfl (l1.length : Int) rfl rfl Try.underlying48 (.agg #[(.int .i64 0), (.int .i64 0), (.int .i64 0), (.int .u32 0), (.int .u32 0)]) 32 info58 rfl (by decide) (by omega) z58 (ok := fun _ => True) (okp := fun _ => True) (k58_mkM _ _ _ z58 ) (fun _ hk => hk) trivial (of_decide_eq_true (by first | (with_reducible assumption) | assumption)) (Nat.le_trans (Nat.mul_le_mul_right _ (of_decide_eq_true (by first | (with_reducible assumption) | assumption) : (l1.length : Int).toNat ≤ 8796093022208)) (by omega)) (Below.refl _ _) (Nat.le_refl _) ?_; intro v498 w38 ho39 hb hg_ hnew_; clear hg_ hnew_; (first | rw [← Ny497.out] at ho39 | (simp only [Int.reduceToNat] at ho39; rw [← Ny497.out] at ho39)); have n0_ := Aside0.mk (Kd.R_below (by (with_reducible repeat (first | apply Kd.R_alloc | apply Kd.R_drewN | apply Kd.R_drew)); exact HO_5.out) hb); have n1_ := Aside0.mk (Kd.R_lower ho39 (below_size (by repeat (first | (with_reducible first | exact HB.out | apply below_alloc | apply pw_below_drewN | apply below_drew1 | refine below_set ?_ GE485.out) | exact HB.out)))); have n2_ := Aside0.mk (blk_below (g := gb485) (o := .cells #[.slice A0_0 l0_0.length c0_0, .slice A0_1 l0_1.length c0_1, .slice A0_2 l0_2.length c0_2] 26 (0, 0)) (by (with_reducible repeat (first | refine blk_drewN ?_ _ | refine blk_drew ?_ | refine blk_alloc ?_ _)); exact BK485.out) hb); have n3_ := Aside0.mk (below_step (by repeat (first | (with_reducible first | exact HB.out | apply below_alloc | apply pw_below_drewN | apply below_drew1 | refine below_set ?_ GE485.out) | exact HB.out)) hb); clear HO_5; clear BK485; clear HB; have HO_5 := n0_; have HO499 := n1_; have BK485 := n2_; have HB := n3_; clear n0_ n1_ n2_ n3_; clear hb ho39; have p37 : 0 ≤ (x7_3 : Int) := of_decide_eq_true (by first | (with_reducible assumption) | assumption); have q37 : (x7_3 : Int) < ((y497.length : Int) : Int) := of_decide_eq_true (by first | (with_reducible assumption) | assumption); obtain ⟨go37, co37, eo37, gb37, gl37, cl37, HG37⟩ := Kd.R_form HO499.out (by omega); (first | cases eo37 | (injection eo37 with ea_ en_ ec_; (first | subst ea_ | (injection ea_ with ea_; subst ea_)); subst ec_; clear en_)); have GB37 := Aside0.mk gb37; have GG37 := Aside0.mk HG37; clear gb37 gl37 HG37; obtain ⟨ce37, hcl37, hM37, hcc37, hfr37⟩ := Kd.R_elem HO499.out z58 (x7_3 : Int) p37 q37; obtain rfl := k58_openM hM37; have hx37_0 : w38.cell? ⟨go37, (x7_3 : Int).toNat * 5, none⟩ = some (.int .i64 ((rd_T58 y497 x7_3).f0)) := hcc37 0 _ rfl; have hx37_1 : w38.cell? ⟨go37, (x7_3 : Int).toNat * 5 + 1, none⟩ = some (.int .i64 ((rd_T58 y497 x7_3).f1)) := hcc37 1 _ rfl; have hx37_2 : w38.cell? ⟨go37, (x7_3 : Int).toNat * 5 + 2, none⟩ = some (.int .i64 ((rd_T58 y497 x7_3).f2)) := hcc37 2 _ rfl; have hx37_3 : w38.cell? ⟨go37, (x7_3 : Int).toNat * 5 + 3, none⟩ = some (.int .u32 ((rd_T58 y497 x7_3).f3)) := hcc37 3 _ rfl; have hx37_4 : w38.cell? ⟨go37, (x7_3 : Int).toNat * 5 + 4, none⟩ = some (.int .u32 ((rd_T58 y497 x7_3).f4)) := hcc37 4 _ rfl; have hf37_0 : w38.frozen? ⟨go37, (x7_3 : Int).toNat * 5, none⟩ = false := hfr37 0; have hf37_1 : w38.frozen? ⟨go37, (x7_3 : Int).toNat * 5 + 1, none⟩ = false := hfr37 1; have hf37_2 : w38.frozen? ⟨go37, (x7_3 : Int).toNat * 5 + 2, none⟩ = false := hfr37 2; have hf37_3 : w38.frozen? ⟨go37, (x7_3 : Int).toNat * 5 + 3, none⟩ = false := hfr37 3; have hf37_4 : w38.frozen? ⟨go37, (x7_3 : Int).toNat * 5 + 4, none⟩ = false := hfr37 4; clear hcl37 hcc37 hfr37 hM37; replace p37 := eq_true p37; replace q37 := eq_true q37; have HX40 := Aside0.mk (show Kd.R k58 58 w38 w.heap.size (fun _ => True) (.slice (some ⟨go37, 0, none⟩) y497.length co37) y497 from (by (with_reducible repeat (first | apply Kd.R_alloc | apply Kd.R_drewN | apply Kd.R_drew)); exact HO499.out)); obtain ⟨ce40, hcl40, hM40, hcc40, hfr40⟩ := Kd.R_elem HX40.out z58 (x7_3 : Int) (of_decide_eq_true (by first | (with_reducible assumption) | assumption)) (by have h_ : (x7_3 : Int) < ((y497.length : Int) : Int) := of_decide_eq_true (by first | (with_reducible assumption) | assumption); first | exact h_ | (have e_ := (Kd.R_reads' HO499.out).1; omega) | simpa using h_); obtain rfl := k58_openM hM40; have HP40 := Kd.R_seg HX40.out (x7_3 : Int) (of_decide_eq_true (by first | (with_reducible assumption) | assumption)) (by have h_ : (x7_3 : Int) < ((y497.length : Int) : Int) := of_decide_eq_true (by first | (with_reducible assumption) | assumption); first | exact h_ | (have e_ := (Kd.R_reads' HO499.out).1; omega) | simpa using h_) (seg := [.int .i64 0, .int .i64 0, .int .i64 0, .int .u32 7, .int .u32 0]) (j := 0) hcl40 hcc40 (show 5 ≤ 5 from by decide) (x' := (⟨0, 0, 0, 7, 0⟩ : S58)) (k58_mkM _ _ _ (⟨0, 0, 0, 7, 0⟩ : S58) ) (fun _ hk => hk); have hx40_0 := hcc40 0 _ rfl; (try simp only [show (k58).sz = 5 from rfl, Nat.mul_one, Nat.add_zero] at hx40_0); have hf40_0 := hfr40 0; (try simp only [show (k58).sz = 5 from rfl, Nat.mul_one, Nat.add_zero] at hf40_0); have hx40_1 := hcc40 1 _ rfl; (try simp only [show (k58).sz = 5 from rfl, Nat.mul_one, Nat.add_zero] at hx40_1); have hf40_1 := hfr40 1; (try simp only [show (k58).sz = 5 from rfl, Nat.mul_one, Nat.add_zero] at hf40_1); have hx40_2 := hcc40 2 _ rfl; (try simp only [show (k58).sz = 5 from rfl, Nat.mul_one, Nat.add_zero] at hx40_2); have hf40_2 := hfr40 2; (try simp only [show (k58).sz = 5 from rfl, Nat.mul_one, Nat.add_zero] at hf40_2); have hx40_3 := hcc40 3 _ rfl; (try simp only [show (k58).sz = 5 from rfl, Nat.mul_one, Nat.add_zero] at hx40_3); have hf40_3 := hfr40 3; (try simp only [show (k58).sz = 5 from rfl, Nat.mul_one, Nat.add_zero] at hf40_3); have hx40_4 := hcc40 4 _ rfl; (try simp only [show (k58).sz = 5 from rfl, Nat.mul_one, Nat.add_zero] at hx40_4); have hf40_4 := hfr40 4; (try simp only [show (k58).sz = 5 from rfl, Nat.mul_one, Nat.add_zero] at hf40_4); clear hcl40 hcc40 hfr40 hM40) | ((with_reducible refine gate_store (t := 58) (p := 72) rfl ?_); (try (rw [drewN_self w38]; generalize hq_ : World.drewN w38 _ = w38; have n0_ := Aside0.mk (Kd.R_at hq_ HO_5.out); have n1_ := Aside0.mk (Kd.R_at hq_ HO499.out); have n2_ := Aside0.mk (blk_at hq_ BK485.out); have n3_ := Aside0.mk (below_at hq_ HB.out); clear hq_ HO_5 HO499 BK485 HB; have HO_5 := n0_; have HO499 := n1_; have BK485 := n2_; have HB := n3_; clear n0_ n1_ n2_ n3_; (try (have HX40 := Aside0.mk (show Kd.R k58 58 w38 w.heap.size (fun _ => True) (.slice (some ⟨go37, 0, none⟩) y497.length co37) y497 from (by (with_reducible repeat (first | apply Kd.R_alloc | apply Kd.R_drewN | apply Kd.R_drew)); exact HO499.out)))); (try (obtain ⟨ce40, hcl40, hM40, hcc40, hfr40⟩ := Kd.R_elem HX40.out z58 (x7_3 : Int) (of_decide_eq_true (by first | (with_reducible assumption) | assumption)) (by have h_ : (x7_3 : Int) < ((y497.length : Int) : Int) := of_decide_eq_true (by first | (with_reducible assumption) | assumption); first | exact h_ | (have e_ := (Kd.R_reads' HO499.out).1; omega) | simpa using h_))); (try (obtain rfl := k58_openM hM40)); (try (have HP40 := Kd.R_seg HX40.out (x7_3 : Int) (of_decide_eq_true (by first | (with_reducible assumption) | assumption)) (by have h_ : (x7_3 : Int) < ((y497.length : Int) : Int) := of_decide_eq_true (by first | (with_reducible assumption) | assumption); first | exact h_ | (have e_ := (Kd.R_reads' HO499.out).1; omega) | simpa using h_) (seg := [.int .i64 0, .int .i64 0, .int .i64 0, .int .u32 7, .int .u32 0]) (j := 0) hcl40 hcc40 (show 5 ≤ 5 from by decide) (x' := (⟨0, 0, 0, 7, 0⟩ : S58)) (k58_mkM _ _ _ (⟨0, 0, 0, 7, 0⟩ : S58) ) (fun _ hk => hk))); (try (have hx40_0 := hcc40 0 _ rfl)); (try (try simp only [show (k58).sz = 5 from rfl, Nat.mul_one, Nat.add_zero] at hx40_0)); (try (have hf40_0 := hfr40 0)); (try (try simp only [show (k58).sz = 5 from rfl, Nat.mul_one, Nat.add_zero] at hf40_0)); (try (have hx40_1 := hcc40 1 _ rfl)); (try (try simp only [show (k58).sz = 5 from rfl, Nat.mul_one, Nat.add_zero] at hx40_1)); (try (have hf40_1 := hfr40 1)); (try (try simp only [show (k58).sz = 5 from rfl, Nat.mul_one, Nat.add_zero] at hf40_1)); (try (have hx40_2 := hcc40 2 _ rfl)); (try (try simp only [show (k58).sz = 5 from rfl, Nat.mul_one, Nat.add_zero] at hx40_2)); (try (have hf40_2 := hfr40 2)); (try (try simp only [show (k58).sz = 5 from rfl, Nat.mul_one, Nat.add_zero] at hf40_2)); (try (have hx40_3 := hcc40 3 _ rfl)); (try (try simp only [show (k58).sz = 5 from rfl, Nat.mul_one, Nat.add_zero] at hx40_3)); (try (have hf40_3 := hfr40 3)); (try (try simp only [show (k58).sz = 5 from rfl, Nat.mul_one, Nat.add_zero] at hf40_3)); (try (have hx40_4 := hcc40 4 _ rfl)); (try (try simp only [show (k58).sz = 5 from rfl, Nat.mul_one, Nat.add_zero] at hx40_4)); (try (have hf40_4 := hfr40 4)); (try (try simp only [show (k58).sz = 5 from rfl, Nat.mul_one, Nat.add_zero] at hf40_4)); (try (clear hcl40 hcc40 hfr40 hM40)))); refine store_event (t := 58) (p := 72) (v := ?vo_w41) (w1 := (((((w38.setCell ⟨go37, (x7_3 : Int).toNat * 5, none⟩ (.int .i64 0)).setCell ⟨go37, (x7_3 : Int).toNat * 5 + 1, none⟩ (.int .i64 0)).setCell ⟨go37, (x7_3 : Int).toNat * 5 + 2, none⟩ (.int .i64 0)).setCell ⟨go37, (x7_3 : Int).toNat * 5 + 3, none⟩ (.int .u32 7)).setCell ⟨go37, (x7_3 : Int).toNat * 5 + 4, none⟩ (.int .u32 0))) ?hg ?ho ?hn ?hr ?_; (case ho => rfl); (case hg => rfl); (case hn => rfl); (case hr => first | (go_simp; done) | (go_simp; rfl)); intro w41 hw; have hg : w38.grownBy w41 (some go37) := (by rw [hw]; exact HP40.2); have hp_ : Kd.R k58 58 w41 w.heap.size (fun _ => True) (.slice (some ⟨go37, 0, none⟩) y497.length co37) y500 := (by rw [hw, Ny500.out]; exact HP40.1); clear HP40; have n0_ := Aside0.mk (Kd.R_over' (v := (.slice (some ⟨go37, 0, none⟩) y497.length co37)) (by (with_reducible repeat (first | apply Kd.R_alloc | apply Kd.R_drewN | apply Kd.R_drew)); exact HO_5.out) (Kd.R_typed HO499.out) (by decide) hg); have n1_ := Aside0.mk (blk_grown (g := gb485) (o := .cells #[.slice A0_0 l0_0.length c0_0, .slice A0_1 l0_1.length c0_1, .slice A0_2 l0_2.length c0_2] 26 (0, 0)) (by (with_reducible repeat (first | refine blk_drewN ?_ _ | refine blk_drew ?_ | refine blk_alloc ?_ _)); exact BK485.out) hg (Kd.R_ne HO499.out BK485.out (by decide))); have n2_ := Aside0.mk (hp_); have n3_ := Aside0.mk ((by rw [hw]; exact below_set (below_set (below_set (below_set (below_set (HB.out) GB37.out) GB37.out) GB37.out) GB37.out) GB37.out : Below w.heap.size w w41)); clear HO_5; clear BK485; clear HO499; clear HB; have HO_5 := n0_; have BK485 := n1_; have HO499 := n2_; have HB := n3_; clear n0_ n1_ n2_ n3_; clear hg hw hp_))
                                  repeat (go_quiet (first | ((with_reducible refine gate_dst (N := 68) rfl ?_); (try (refine gate_guard (by rfl) ?_; dsimp only)); refine Kd.R_make k58 _ 58 rfl (N := 68) rfl 48 _ _ rfl (l1.length : Int) rfl rfl Try.underlying48 (.agg #[(.int .i64 0), (.int .i64 0), (.int .i64 0), (.int .u32 0), (.int .u32 0)]) 32 info58 rfl (by decide) (by omega) z58 (ok := fun _ => True) (okp := fun _ => True) (k58_mkM _ _ _ z58 ) (fun _ hk => hk) trivial (of_decide_eq_true (by first | (with_reducible assumption) | assumption)) (Nat.le_trans (Nat.mul_le_mul_right _ (of_decide_eq_true (by first | (with_reducible assumption) | assumption) : (l1.length : Int).toNat ≤ 8796093022208)) (by omega)) (Below.refl _ _) (Nat.le_refl _) ?_; intro v498 w38 ho39 hb hg_ hnew_; clear hg_ hnew_; (first | rw [← Ny497.out] at ho39 | (simp only [Int.reduceToNat] at ho39; rw [← Ny497.out] at ho39)); have n0_ := Aside0.mk (Kd.R_below (by (with_reducible repeat (first | apply Kd.R_alloc | apply Kd.R_drewN | apply Kd.R_drew)); exact HO_5.out) hb); have n1_ := Aside0.mk (Kd.R_lower ho39 (below_size (by repeat (first | (with_reducible first | exact HB.out | apply below_alloc | apply pw_below_drewN | apply below_drew1 | refine below_set ?_ GE485.out) | exact HB.out)))); have n2_ := Aside0.mk (blk_below (g := gb485) (o := .cells #[.slice A0_0 l0_0.length c0_0, .slice A0_1 l0_1.length c0_1, .slice A0_2 l0_2.length c0_2] 26 (0, 0)) (by (with_reducible repeat (first | refine blk_drewN ?_ _ | refine blk_drew ?_ | refine blk_alloc ?_ _)); exact BK485.out) hb); have n3_ := Aside0.mk (below_step (by repeat (first | (with_reducible first | exact HB.out | apply below_alloc | apply pw_below_drewN | apply below_drew1 | refine below_set ?_ GE485.out) | exact HB.out)) hb); clear HO_5; clear BK485; clear HB; have HO_5 := n0_; have HO499 := n1_; have BK485 := n2_; have HB := n3_; clear n0_ n1_ n2_ n3_; clear hb ho39; have p37 : 0 ≤ (x7_3 : Int) := of_decide_eq_true (by first | (with_reducible assumption) | assumption); have q37 : (x7_3 : Int) < ((y497.length : Int) : Int) := of_decide_eq_true (by first | (with_reducible assumption) | assumption); obtain ⟨go37, co37, eo37, gb37, gl37, cl37, HG37⟩ := Kd.R_form HO499.out (by omega); (first | cases eo37 | (injection eo37 with ea_ en_ ec_; (first | subst ea_ | (injection ea_ with ea_; subst ea_)); subst ec_; clear en_)); have GB37 := Aside0.mk gb37; have GG37 := Aside0.mk HG37; clear gb37 gl37 HG37; obtain ⟨ce37, hcl37, hM37, hcc37, hfr37⟩ := Kd.R_elem HO499.out z58 (x7_3 : Int) p37 q37; obtain rfl := k58_openM hM37; have hx37_0 : w38.cell? ⟨go37, (x7_3 : Int).toNat * 5, none⟩ = some (.int .i64 ((rd_T58 y497 x7_3).f0)) := hcc37 0 _ rfl; have hx37_1 : w38.cell? ⟨go37, (x7_3 : Int).toNat * 5 + 1, none⟩ = some (.int .i64 ((rd_T58 y497 x7_3).f1)) := hcc37 1 _ rfl; have hx37_2 : w38.cell? ⟨go37, (x7_3 : Int).toNat * 5 + 2, none⟩ = some (.int .i64 ((rd_T58 y497 x7_3).f2)) := hcc37 2 _ rfl; have hx37_3 : w38.cell? ⟨go37, (x7_3 : Int).toNat * 5 + 3, none⟩ = some (.int .u32 ((rd_T58 y497 x7_3).f3)) := hcc37 3 _ rfl; have hx37_4 : w38.cell? ⟨go37, (x7_3 : Int).toNat * 5 + 4, none⟩ = some (.int .u32 ((rd_T58 y497 x7_3).f4)) := hcc37 4 _ rfl; have hf37_0 : w38.frozen? ⟨go37, (x7_3 : Int).toNat * 5, none⟩ = false := hfr37 0; have hf37_1 : w38.frozen? ⟨go37, (x7_3 : Int).toNat * 5 + 1, none⟩ = false := hfr37 1; have hf37_2 : w38.frozen? ⟨go37, (x7_3 : Int).toNat * 5 + 2, none⟩ = false := hfr37 2; have hf37_3 : w38.frozen? ⟨go37, (x7_3 : Int).toNat * 5 + 3, none⟩ = false := hfr37 3; have hf37_4 : w38.frozen? ⟨go37, (x7_3 : Int).toNat * 5 + 4, none⟩ = false := hfr37 4; clear hcl37 hcc37 hfr37 hM37; replace p37 := eq_true p37; replace q37 := eq_true q37; have HX40 := Aside0.mk (show Kd.R k58 58 w38 w.heap.size (fun _ => True) (.slice (some ⟨go37, 0, none⟩) y497.length co37) y497 from (by (with_reducible repeat (first | apply Kd.R_alloc | apply Kd.R_drewN | apply Kd.R_drew)); exact HO499.out)); obtain ⟨ce40, hcl40, hM40, hcc40, hfr40⟩ := Kd.R_elem HX40.out z58 (x7_3 : Int) (of_decide_eq_true (by first | (with_reducible assumption) | assumption)) (by have h_ : (x7_3 : Int) < ((y497.length : Int) : Int) := of_decide_eq_true (by first | (with_reducible assumption) | assumption); first | exact h_ | (have e_ := (Kd.R_reads' HO499.out).1; omega) | simpa using h_); obtain rfl := k58_openM hM40; have HP40 := Kd.R_seg HX40.out (x7_3 : Int) (of_decide_eq_true (by first | (with_reducible assumption) | assumption)) (by have h_ : (x7_3 : Int) < ((y497.length : Int) : Int) := of_decide_eq_true (by first | (with_reducible assumption) | assumption); first | exact h_ | (have e_ := (Kd.R_reads' HO499.out).1; omega) | simpa using h_) (seg := [.int .i64 0, .int .i64 0, .int .i64 0, .int .u32 7, .int .u32 0]) (j := 0) hcl40 hcc40 (show 5 ≤ 5 from by decide) (x' := (⟨0, 0, 0, 7, 0⟩ : S58)) (k58_mkM _ _ _ (⟨0, 0, 0, 7, 0⟩ : S58) ) (fun _ hk => hk); have hx40_0 := hcc40 0 _ rfl; (try simp only [show (k58).sz = 5 from rfl, Nat.mul_one, Nat.add_zero] at hx40_0); have hf40_0 := hfr40 0; (try simp only [show (k58).sz = 5 from rfl, Nat.mul_one, Nat.add_zero] at hf40_0); have hx40_1 := hcc40 1 _ rfl; (try simp only [show (k58).sz = 5 from rfl, Nat.mul_one, Nat.add_zero] at hx40_1); have hf40_1 := hfr40 1; (try simp only [show (k58).sz = 5 from rfl, Nat.mul_one, Nat.add_zero] at hf40_1); have hx40_2 := hcc40 2 _ rfl; (try simp only [show (k58).sz = 5 from rfl, Nat.mul_one, Nat.add_zero] at hx40_2); have hf40_2 := hfr40 2; (try simp only [show (k58).sz = 5 from rfl, Nat.mul_one, Nat.add_zero] at hf40_2); have hx40_3 := hcc40 3 _ rfl; (try simp only [show (k58).sz = 5 from rfl, Nat.mul_one, Nat.add_zero] at hx40_3); have hf40_3 := hfr40 3; (try simp only [show (k58).sz = 5 from rfl, Nat.mul_one, Nat.add_zero] at hf40_3); have hx40_4 := hcc40 4 _ rfl; (try simp only [show (k58).sz = 5 from rfl, Nat.mul_one, Nat.add_zero] at hx40_4); have hf40_4 := hfr40 4; (try simp only [show (k58).sz = 5 from rfl, Nat.mul_one, Nat.add_zero] at hf40_4); clear hcl40 hcc40 hfr40 hM40) | ((with_reducible refine gate_store (t := 58) (p := 72) rfl ?_); (try (rw [drewN_self w38]; generalize hq_ : World.drewN w38 _ = w38; have n0_ := Aside0.mk (Kd.R_at hq_ HO_5.out); have n1_ := Aside0.mk (Kd.R_at hq_ HO499.out); have n2_ := Aside0.mk (blk_at hq_ BK485.out); have n3_ := Aside0.mk (below_at hq_ HB.out); clear hq_ HO_5 HO499 BK485 HB; have HO_5 := n0_; have HO499 := n1_; have BK485 := n2_; have HB := n3_; clear n0_ n1_ n2_ n3_; (try (have HX40 := Aside0.mk (show Kd.R k58 58 w38 w.heap.size (fun _ => True) (.slice (some ⟨go37, 0, none⟩) y497.length co37) y497 from (by (with_reducible repeat (first | apply Kd.R_alloc | apply Kd.R_drewN | apply Kd.R_drew)); exact HO499.out)))); (try (obtain ⟨ce40, hcl40, hM40, hcc40, hfr40⟩ := Kd.R_elem HX40.out z58 (x7_3 : Int) (of_decide_eq_true (by first | (with_reducible assumption) | assumption)) (by have h_ : (x7_3 : Int) < ((y497.length : Int) : Int) := of_decide_eq_true (by first | (with_reducible assumption) | assumption); first | exact h_ | (have e_ := (Kd.R_reads' HO499.out).1; omega) | simpa using h_))); (try (obtain rfl := k58_openM hM40)); (try (have HP40 := Kd.R_seg HX40.out (x7_3 : Int) (of_decide_eq_true (by first | (with_reducible assumption) | assumption)) (by have h_ : (x7_3 : Int) < ((y497.length : Int) : Int) := of_decide_eq_true (by first | (with_reducible assumption) | assumption); first | exact h_ | (have e_ := (Kd.R_reads' HO499.out).1; omega) | simpa using h_) (seg := [.int .i64 0, .int .i64 0, .int .i64 0, .int .u32 7, .int .u32 0]) (j := 0) hcl40 hcc40 (show 5 ≤ 5 from by decide) (x' := (⟨0, 0, 0, 7, 0⟩ : S58)) (k58_mkM _ _ _ (⟨0, 0, 0, 7, 0⟩ : S58) ) (fun _ hk => hk))); (try (have hx40_0 := hcc40 0 _ rfl)); (try (try simp only [show (k58).sz = 5 from rfl, Nat.mul_one, Nat.add_zero] at hx40_0)); (try (have hf40_0 := hfr40 0)); (try (try simp only [show (k58).sz = 5 from rfl, Nat.mul_one, Nat.add_zero] at hf40_0)); (try (have hx40_1 := hcc40 1 _ rfl)); (try (try simp only [show (k58).sz = 5 from rfl, Nat.mul_one, Nat.add_zero] at hx40_1)); (try (have hf40_1 := hfr40 1)); (try (try simp only [show (k58).sz = 5 from rfl, Nat.mul_one, Nat.add_zero] at hf40_1)); (try (have hx40_2 := hcc40 2 _ rfl)); (try (try simp only [show (k58).sz = 5 from rfl, Nat.mul_one, Nat.add_zero] at hx40_2)); (try (have hf40_2 := hfr40 2)); (try (try simp only [show (k58).sz = 5 from rfl, Nat.mul_one, Nat.add_zero] at hf40_2)); (try (have hx40_3 := hcc40 3 _ rfl)); (try (try simp only [show (k58).sz = 5 from rfl, Nat.mul_one, Nat.add_zero] at hx40_3)); (try (have hf40_3 := hfr40 3)); (try (try simp only [show (k58).sz = 5 from rfl, Nat.mul_one, Nat.add_zero] at hf40_3)); (try (have hx40_4 := hcc40 4 _ rfl)); (try (try simp only [show (k58).sz = 5 from rfl, Nat.mul_one, Nat.add_zero] at hx40_4)); (try (have hf40_4 := hfr40 4)); (try (try simp only [show (k58).sz = 5 from rfl, Nat.mul_one, Nat.add_zero] at hf40_4)); (try (clear hcl40 hcc40 hfr40 hM40)))); refine store_event (t := 58) (p := 72) (v := ?vo_w41) (w1 := (((((w38.setCell ⟨go37, (x7_3 : Int).toNat * 5, none⟩ (.int .i64 0)).setCell ⟨go37, (x7_3 : Int).toNat * 5 + 1, none⟩ (.int .i64 0)).setCell ⟨go37, (x7_3 : Int).toNat * 5 + 2, none⟩ (.int .i64 0)).setCell ⟨go37, (x7_3 : Int).toNat * 5 + 3, none⟩ (.int .u32 7)).setCell ⟨go37, (x7_3 : Int).toNat * 5 + 4, none⟩ (.int .u32 0))) ?hg ?ho ?hn ?hr ?_; (case ho => rfl); (case hg => rfl); (case hn => rfl); (case hr => first | (go_simp; done) | (go_simp; rfl)); intro w41 hw; have hg : w38.grownBy w41 (some go37) := (by rw [hw]; exact HP40.2); have hp_ : Kd.R k58 58 w41 w.heap.size (fun _ => True) (.slice (some ⟨go37, 0, none⟩) y497.length co37) y500 := (by rw [hw, Ny500.out]; exact HP40.1); clear HP40; have n0_ := Aside0.mk (Kd.R_over' (v := (.slice (some ⟨go37, 0, none⟩) y497.length co37)) (by (with_reducible repeat (first | apply Kd.R_alloc | apply Kd.R_drewN | apply Kd.R_drew)); exact HO_5.out) (Kd.R_typed HO499.out) (by decide) hg); have n1_ := Aside0.mk (blk_grown (g := gb485) (o := .cells #[.slice A0_0 l0_0.length c0_0, .slice A0_1 l0_1.length c0_1, .slice A0_2 l0_2.length c0_2] 26 (0, 0)) (by (with_reducible repeat (first | refine blk_drewN ?_ _ | refine blk_drew ?_ | refine blk_alloc ?_ _)); exact BK485.out) hg (Kd.R_ne HO499.out BK485.out (by decide))); have n2_ := Aside0.mk (hp_); have n3_ := Aside0.mk ((by rw [hw]; exact below_set (below_set (below_set (below_set (below_set (HB.out) GB37.out) GB37.out) GB37.out) GB37.out) GB37.out : Below w.heap.size w w41)); clear HO_5; clear BK485; clear HO499; clear HB; have HO_5 := n0_; have BK485 := n1_; have HO499 := n2_; have HB := n3_; clear n0_ n1_ n2_ n3_; clear hg hw hp_)); try go_wp2_with (first | ((with_reducible refine gate_dst (N := 68) rfl ?_); (try (refine gate_guard (by rfl) ?_; dsimp only)); refine Kd.R_make k58 _ 58 rfl (N := 68) rfl 48 _ _ rfl (l1.length : Int) rfl rfl Try.underlying48 (.agg #[(.int .i64 0), (.int .i64 0), (.int .i64 0), (.int .u32 0), (.int .u32 0)]) 32 info58 rfl (by decide) (by omega) z58 (ok := fun _ => True) (okp := fun _ => True) (k58_mkM _ _ _ z58 ) (fun _ hk => hk) trivial (of_decide_eq_true (by first | (with_reducible assumption) | assumption)) (Nat.le_trans (Nat.mul_le_mul_right _ (of_decide_eq_true (by first | (with_reducible assumption) | assumption) : (l1.length : Int).toNat ≤ 8796093022208)) (by omega)) (Below.refl _ _) (Nat.le_refl _) ?_; intro v498 w38 ho39 hb hg_ hnew_; clear hg_ hnew_; (first | rw [← Ny497.out] at ho39 | (simp only [Int.reduceToNat] at ho39; rw [← Ny497.out] at ho39)); have n0_ := Aside0.mk (Kd.R_below (by (with_reducible repeat (first | apply Kd.R_alloc | apply Kd.R_drewN | apply Kd.R_drew)); exact HO_5.out) hb); have n1_ := Aside0.mk (Kd.R_lower ho39 (below_size (by repeat (first | (with_reducible first | exact HB.out | apply below_alloc | apply pw_below_drewN | apply below_drew1 | refine below_set ?_ GE485.out) | exact HB.out)))); have n2_ := Aside0.mk (blk_below (g := gb485) (o := .cells #[.slice A0_0 l0_0.length c0_0, .slice A0_1 l0_1.length c0_1, .slice A0_2 l0_2.length c0_2] 26 (0, 0)) (by (with_reducible repeat (first | refine blk_drewN ?_ _ | refine blk_drew ?_ | refine blk_alloc ?_ _)); exact BK485.out) hb); have n3_ := Aside0.mk (below_step (by repeat (first | (with_reducible first | exact HB.out | apply below_alloc | apply pw_below_drewN | apply below_drew1 | refine below_set ?_ GE485.out) | exact HB.out)) hb); clear HO_5; clear BK485; clear HB; have HO_5 := n0_; have HO499 := n1_; have BK485 := n2_; have HB := n3_; clear n0_ n1_ n2_ n3_; clear hb ho39; have p37 : 0 ≤ (x7_3 : Int) := of_decide_eq_true (by first | (with_reducible assumption) | assumption); have q37 : (x7_3 : Int) < ((y497.length : Int) : Int) := of_decide_eq_true (by first | (with_reducible assumption) | assumption); obtain ⟨go37, co37, eo37, gb37, gl37, cl37, HG37⟩ := Kd.R_form HO499.out (by omega); (first | cases eo37 | (injection eo37 with ea_ en_ ec_; (first | subst ea_ | (injection ea_ with ea_; subst ea_)); subst ec_; clear en_)); have GB37 := Aside0.mk gb37; have GG37 := Aside0.mk HG37; clear gb37 gl37 HG37; obtain ⟨ce37, hcl37, hM37, hcc37, hfr37⟩ := Kd.R_elem HO499.out z58 (x7_3 : Int) p37 q37; obtain rfl := k58_openM hM37; have hx37_0 : w38.cell? ⟨go37, (x7_3 : Int).toNat * 5, none⟩ = some (.int .i64 ((rd_T58 y497 x7_3).f0)) := hcc37 0 _ rfl; have hx37_1 : w38.cell? ⟨go37, (x7_3 : Int).toNat * 5 + 1, none⟩ = some (.int .i64 ((rd_T58 y497 x7_3).f1)) := hcc37 1 _ rfl; have hx37_2 : w38.cell? ⟨go37, (x7_3 : Int).toNat * 5 + 2, none⟩ = some (.int .i64 ((rd_T58 y497 x7_3).f2)) := hcc37 2 _ rfl; have hx37_3 : w38.cell? ⟨go37, (x7_3 : Int).toNat * 5 + 3, none⟩ = some (.int .u32 ((rd_T58 y497 x7_3).f3)) := hcc37 3 _ rfl; have hx37_4 : w38.cell? ⟨go37, (x7_3 : Int).toNat * 5 + 4, none⟩ = some (.int .u32 ((rd_T58 y497 x7_3).f4)) := hcc37 4 _ rfl; have hf37_0 : w38.frozen? ⟨go37, (x7_3 : Int).toNat * 5, none⟩ = false := hfr37 0; have hf37_1 : w38.frozen? ⟨go37, (x7_3 : Int).toNat * 5 + 1, none⟩ = false := hfr37 1; have hf37_2 : w38.frozen? ⟨go37, (x7_3 : Int).toNat * 5 + 2, none⟩ = false := hfr37 2; have hf37_3 : w38.frozen? ⟨go37, (x7_3 : Int).toNat * 5 + 3, none⟩ = false := hfr37 3; have hf37_4 : w38.frozen? ⟨go37, (x7_3 : Int).toNat * 5 + 4, none⟩ = false := hfr37 4; clear hcl37 hcc37 hfr37 hM37; replace p37 := eq_true p37; replace q37 := eq_true q37; have HX40 := Aside0.mk (show Kd.R k58 58 w38 w.heap.size (fun _ => True) (.slice (some ⟨go37, 0, none⟩) y497.length co37) y497 from (by (with_reducible repeat (first | apply Kd.R_alloc | apply Kd.R_drewN | apply Kd.R_drew)); exact HO499.out)); obtain ⟨ce40, hcl40, hM40, hcc40, hfr40⟩ := Kd.R_elem HX40.out z58 (x7_3 : Int) (of_decide_eq_true (by first | (with_reducible assumption) | assumption)) (by have h_ : (x7_3 : Int) < ((y497.length : Int) : Int) := of_decide_eq_true (by first | (with_reducible assumption) | assumption); first | exact h_ | (have e_ := (Kd.R_reads' HO499.out).1; omega) | simpa using h_); obtain rfl := k58_openM hM40; have HP40 := Kd.R_seg HX40.out (x7_3 : Int) (of_decide_eq_true (by first | (with_reducible assumption) | assumption)) (by have h_ : (x7_3 : Int) < ((y497.length : Int) : Int) := of_decide_eq_true (by first | (with_reducible assumption) | assumption); first | exact h_ | (have e_ := (Kd.R_reads' HO499.out).1; omega) | simpa using h_) (seg := [.int .i64 0, .int .i64 0, .int .i64 0, .int .u32 7, .int .u32 0]) (j := 0) hcl40 hcc40 (show 5 ≤ 5 from by decide) (x' := (⟨0, 0, 0, 7, 0⟩ : S58)) (k58_mkM _ _ _ (⟨0, 0, 0, 7, 0⟩ : S58) ) (fun _ hk => hk); have hx40_0 := hcc40 0 _ rfl; (try simp only [show (k58).sz = 5 from rfl, Nat.mul_one, Nat.add_zero] at hx40_0); have hf40_0 := hfr40 0; (try simp only [show (k58).sz = 5 from rfl, Nat.mul_one, Nat.add_zero] at hf40_0); have hx40_1 := hcc40 1 _ rfl; (try simp only [show (k58).sz = 5 from rfl, Nat.mul_one, Nat.add_zero] at hx40_1); have hf40_1 := hfr40 1; (try simp only [show (k58).sz = 5 from rfl, Nat.mul_one, Nat.add_zero] at hf40_1); have hx40_2 := hcc40 2 _ rfl; (try simp only [show (k58).sz = 5 from rfl, Nat.mul_one, Nat.add_zero] at hx40_2); have hf40_2 := hfr40 2; (try simp only [show (k58).sz = 5 from rfl, Nat.mul_one, Nat.add_zero] at hf40_2); have hx40_3 := hcc40 3 _ rfl; (try simp only [show (k58).sz = 5 from rfl, Nat.mul_one, Nat.add_zero] at hx40_3); have hf40_3 := hfr40 3; (try simp only [show (k58).sz = 5 from rfl, Nat.mul_one, Nat.add_zero] at hf40_3); have hx40_4 := hcc40 4 _ rfl; (try simp only [show (k58).sz = 5 from rfl, Nat.mul_one, Nat.add_zero] at hx40_4); have hf40_4 := hfr40 4; (try simp only [show (k58).sz = 5 from rfl, Nat.mul_one, Nat.add_zero] at hf40_4); clear hcl40 hcc40 hfr40 hM40) | ((with_reducible refine gate_store (t := 58) (p := 72) rfl ?_); (try (rw [drewN_self w38]; generalize hq_ : World.drewN w38 _ = w38; have n0_ := Aside0.mk (Kd.R_at hq_ HO_5.out); have n1_ := Aside0.mk (Kd.R_at hq_ HO499.out); have n2_ := Aside0.mk (blk_at hq_ BK485.out); have n3_ := Aside0.mk (below_at hq_ HB.out); clear hq_ HO_5 HO499 BK485 HB; have HO_5 := n0_; have HO499 := n1_; have BK485 := n2_; have HB := n3_; clear n0_ n1_ n2_ n3_; (try (have HX40 := Aside0.mk (show Kd.R k58 58 w38 w.heap.size (fun _ => True) (.slice (some ⟨go37, 0, none⟩) y497.length co37) y497 from (by (with_reducible repeat (first | apply Kd.R_alloc | apply Kd.R_drewN | apply Kd.R_drew)); exact HO499.out)))); (try (obtain ⟨ce40, hcl40, hM40, hcc40, hfr40⟩ := Kd.R_elem HX40.out z58 (x7_3 : Int) (of_decide_eq_true (by first | (with_reducible assumption) | assumption)) (by have h_ : (x7_3 : Int) < ((y497.length : Int) : Int) := of_decide_eq_true (by first | (with_reducible assumption) | assumption); first | exact h_ | (have e_ := (Kd.R_reads' HO499.out).1; omega) | simpa using h_))); (try (obtain rfl := k58_openM hM40)); (try (have HP40 := Kd.R_seg HX40.out (x7_3 : Int) (of_decide_eq_true (by first | (with_reducible assumption) | assumption)) (by have h_ : (x7_3 : Int) < ((y497.length : Int) : Int) := of_decide_eq_true (by first | (with_reducible assumption) | assumption); first | exact h_ | (have e_ := (Kd.R_reads' HO499.out).1; omega) | simpa using h_) (seg := [.int .i64 0, .int .i64 0, .int .i64 0, .int .u32 7, .int .u32 0]) (j := 0) hcl40 hcc40 (show 5 ≤ 5 from by decide) (x' := (⟨0, 0, 0, 7, 0⟩ : S58)) (k58_mkM _ _ _ (⟨0, 0, 0, 7, 0⟩ : S58) ) (fun _ hk => hk))); (try (have hx40_0 := hcc40 0 _ rfl)); (try (try simp only [show (k58).sz = 5 from rfl, Nat.mul_one, Nat.add_zero] at hx40_0)); (try (have hf40_0 := hfr40 0)); (try (try simp only [show (k58).sz = 5 from rfl, Nat.mul_one, Nat.add_zero] at hf40_0)); (try (have hx40_1 := hcc40 1 _ rfl)); (try (try simp only [show (k58).sz = 5 from rfl, Nat.mul_one, Nat.add_zero] at hx40_1)); (try (have hf40_1 := hfr40 1)); (try (try simp only [show (k58).sz = 5 from rfl, Nat.mul_one, Nat.add_zero] at hf40_1)); (try (have hx40_2 := hcc40 2 _ rfl)); (try (try simp only [show (k58).sz = 5 from rfl, Nat.mul_one, Nat.add_zero] at hx40_2)); (try (have hf40_2 := hfr40 2)); (try (try simp only [show (k58).sz = 5 from rfl, Nat.mul_one, Nat.add_zero] at hf40_2)); (try (have hx40_3 := hcc40 3 _ rfl)); (try (try simp only [show (k58).sz = 5 from rfl, Nat.mul_one, Nat.add_zero] at hx40_3)); (try (have hf40_3 := hfr40 3)); (try (try simp only [show (k58).sz = 5 from rfl, Nat.mul_one, Nat.add_zero] at hf40_3)); (try (have hx40_4 := hcc40 4 _ rfl)); (try (try simp only [show (k58).sz = 5 from rfl, Nat.mul_one, Nat.add_zero] at hx40_4)); (try (have hf40_4 := hfr40 4)); (try (try simp only [show (k58).sz = 5 from rfl, Nat.mul_one, Nat.add_zero] at hf40_4)); (try (clear hcl40 hcc40 hfr40 hM40)))); refine store_event (t := 58) (p := 72) (v := ?vo_w41) (w1 := (((((w38.setCell ⟨go37, (x7_3 : Int).toNat * 5, none⟩ (.int .i64 0)).setCell ⟨go37, (x7_3 : Int).toNat * 5 + 1, none⟩ (.int .i64 0)).setCell ⟨go37, (x7_3 : Int).toNat * 5 + 2, none⟩ (.int .i64 0)).setCell ⟨go37, (x7_3 : Int).toNat * 5 + 3, none⟩ (.int .u32 7)).setCell ⟨go37, (x7_3 : Int).toNat * 5 + 4, none⟩ (.int .u32 0))) ?hg ?ho ?hn ?hr ?_; (case ho => rfl); (case hg => rfl); (case hn => rfl); (case hr => first | (go_simp; done) | (go_simp; rfl)); intro w41 hw; have hg : w38.grownBy w41 (some go37) := (by rw [hw]; exact HP40.2); have hp_ : Kd.R k58 58 w41 w.heap.size (fun _ => True) (.slice (some ⟨go37, 0, none⟩) y497.length co37) y500 := (by rw [hw, Ny500.out]; exact HP40.1); clear HP40; have n0_ := Aside0.mk (Kd.R_over' (v := (.slice (some ⟨go37, 0, none⟩) y497.length co37)) (by (with_reducible repeat (first | apply Kd.R_alloc | apply Kd.R_drewN | apply Kd.R_drew)); exact HO_5.out) (Kd.R_typed HO499.out) (by decide) hg); have n1_ := Aside0.mk (blk_grown (g := gb485) (o := .cells #[.slice A0_0 l0_0.length c0_0, .slice A0_1 l0_1.length c0_1, .slice A0_2 l0_2.length c0_2] 26 (0, 0)) (by (with_reducible repeat (first | refine blk_drewN ?_ _ | refine blk_drew ?_ | refine blk_alloc ?_ _)); exact BK485.out) hg (Kd.R_ne HO499.out BK485.out (by decide))); have n2_ := Aside0.mk (hp_); have n3_ := Aside0.mk ((by rw [hw]; exact below_set (below_set (below_set (below_set (below_set (HB.out) GB37.out) GB37.out) GB37.out) GB37.out) GB37.out : Below w.heap.size w w41)); clear HO_5; clear BK485; clear HO499; clear HB; have HO_5 := n0_; have BK485 := n1_; have HO499 := n2_; have HB := n3_; clear n0_ n1_ n2_ n3_; clear hg hw hp_)))
                                  go_loopg [9, 10] kj24 (fun kq v9 v10 w' => ∃ (x9_5 : Int) (x10_5 : Int), v9 = .int .i64 x9_5 ∧ v10 = .int .i64 x10_5 ∧ Aside0 (priorylaw28_WatchParts.l1 kq l1 t489 x7_3 y500 x9_5 x10_5 l0_0 l0_1 l0_2 = some r) ∧ Aside0 (kq ≤ kj24) ∧ Aside0 (Kd.R (Kd.int .i64) 3 w' w.heap.size (fun _ => True) v490 t489) ∧ Aside0 (Kd.R k58 58 w' w.heap.size (fun _ => True) (.slice (some ⟨go37, 0, none⟩) y497.length co37) y500) ∧ Aside0 (w'.heap[gb485]? = some (.cells #[(.slice A0_0 l0_0.length c0_0), (.slice A0_1 l0_1.length c0_1), (.slice A0_2 l0_2.length c0_2)] 26 (0, 0))) ∧ Aside0 (Below w.heap.size w w'))
                                  case atStart => exact ⟨(0), (0), (by first | rfl | (simp; done) | (simp [*]; done)), (by first | rfl | (simp; done) | (simp [*]; done)), H', ⟨Nat.le_refl _⟩, ⟨by (with_reducible repeat (first | apply Kd.R_alloc | apply Kd.R_drewN | apply Kd.R_drew)); exact HO_5.out⟩, ⟨by (with_reducible repeat (first | apply Kd.R_alloc | apply Kd.R_drewN | apply Kd.R_drew)); exact HO499.out⟩, ⟨by (with_reducible repeat (first | refine blk_drewN ?_ _ | refine blk_drew ?_ | refine blk_alloc ?_ _)); exact BK485.out⟩, ⟨by repeat (first | (with_reducible first | exact HB.out | apply below_alloc | apply pw_below_drewN | apply below_drew1 | refine below_set ?_ GE485.out) | exact HB.out)⟩⟩
                                  case round =>
                                    clear H'
                                    try clear c1
                                    try clear c2
                                    try clear p2
                                    try clear c3
                                    try clear p3
                                    try clear q3
                                    try clear hx3
                                    try clear hf3
                                    try clear c4
                                    try clear p4
                                    try clear q4
                                    try clear hx4
                                    try clear hf4
                                    try clear c6
                                    try clear c9
                                    try clear c14
                                    try clear c21
                                    try clear c21b0
                                    try clear c21b1
                                    try clear c23
                                    try clear c24
                                    try clear c24b0
                                    try clear c26
                                    try clear c26b0
                                    try clear c27
                                    try clear c27b0
                                    try clear c28
                                    try clear c28b0
                                    try clear c28b1
                                    try clear c28b2
                                    try clear c32
                                    try clear c33
                                    try clear c33b0
                                    try clear c33b1
                                    try clear c34
                                    try clear c34b0
                                    try clear c34b1
                                    try clear c35
                                    try clear c35b0
                                    try clear c36
                                    try clear c36b0
                                    try clear c37
                                    try clear p37
                                    try clear q37
                                    try clear hx37
                                    try clear hf37
                                    try clear c40
                                    try clear hx40
                                    try clear hf40
                                    try clear hcz10_0
                                    try clear hcz10_1
                                    try clear hcz10_2
                                    try clear hcz12_0
                                    try clear hcz12_1
                                    try clear hcz12_2
                                    try clear hcz19_0
                                    try clear hcz19_1
                                    try clear hcz19_2
                                    try clear hcz31_0
                                    try clear hcz31_1
                                    try clear hcz31_2
                                    try clear hcz7_0
                                    try clear hcz7_1
                                    try clear hcz7_2
                                    try clear hfz10_0
                                    try clear hfz10_1
                                    try clear hfz10_2
                                    try clear hfz12_0
                                    try clear hfz12_1
                                    try clear hfz12_2
                                    try clear hfz19_0
                                    try clear hfz19_1
                                    try clear hfz19_2
                                    try clear hfz31_0
                                    try clear hfz31_1
                                    try clear hfz31_2
                                    try clear hfz7_0
                                    try clear hfz7_1
                                    try clear hfz7_2
                                    try clear hx37_0
                                    try clear hx37_1
                                    try clear hx37_2
                                    try clear hx37_3
                                    try clear hx37_4
                                    try clear hx40_0
                                    try clear hx40_1
                                    try clear hx40_2
                                    try clear hx40_3
                                    try clear hx40_4
                                    try clear hx494_0
                                    try clear hx495_0
                                    try clear hx495_1
                                    try clear hx495_2
                                    try clear hx496_0
                                    try clear p2
                                    try clear p37
                                    try clear p4
                                    try clear p494
                                    try clear p495
                                    try clear p496
                                    try clear q37
                                    try clear q4
                                    try clear q494
                                    try clear q495
                                    try clear q496
                                    obtain ⟨x9_5, x10_5, rfl, rfl, HA, HK5, HO_5, HO_8, BK485, HB⟩ := hrel
                                    have hl8_5 := (Kd.R_reads' HO_8.out).1
                                    rw [hl8_5] at HO_8
                                    (try simp only [hl8_5])
                                    (try simp only [hl8_5] at BK485)
                                    (try simp only [hl8_5] at HO_5)
                                    cases gk with
                                    | zero => exact absurd HA.out (by simp [priorylaw28_WatchParts.l1])
                                    | succ k5 =>
                                      have H := HA.out
                                      clear HA
                                      simp only [priorylaw28_WatchParts.l1] at H
                                      by_cases c42 : x10_5 < (l0_0.length : Int)
                                      · rw [if_pos c42] at H
                                        have c42b0 : decide (x10_5 < (l0_0.length : Int)) = true := decide_eq_true c42
                                        clear c42
                                        replace H := Option.bind_eq_some_iff.mp H
                                        obtain ⟨⟨t501, t504⟩, A430, H⟩ := H
                                        replace H : (if t504 = 0 then (priorylaw28_WatchParts.l2 k5 l1 t489 x7_3 y500 x9_5 x10_5 t501 0 l0_0 l0_1 l0_2) else (some false)) = some r := H
                                        have A43 := Aside0.mk A430
                                        clear A430
                                        by_cases c44 : t504 = 0
                                        · rw [if_pos c44] at H
                                          have c44b0 : (t504 == 0) = true := beq_iff_eq.mpr c44
                                          have c44b1 : (t504 != 0) = false := bne_eq_false_iff_eq.mpr c44
                                          clear c44
                                          have H' := Aside0.mk H
                                          clear H
                                          have hcz45_0 : wr.cell? ⟨gb485, 0, none⟩ = some (.slice A0_0 l0_0.length c0_0) := (blk_cell BK485.out 0).trans rfl
                                          have hcz45_1 : wr.cell? ⟨gb485, 1, none⟩ = some (.slice A0_1 l0_1.length c0_1) := (blk_cell BK485.out 1).trans rfl
                                          have hcz45_2 : wr.cell? ⟨gb485, 2, none⟩ = some (.slice A0_2 l0_2.length c0_2) := (blk_cell BK485.out 2).trans rfl
                                          have hfz45_0 := blk_frozen BK485.out 0
                                          have hfz45_1 := blk_frozen BK485.out 1
                                          have hfz45_2 := blk_frozen BK485.out 2
                                          go_wp2_with (first | (go_at_call 23; (with_reducible refine (watch_View.calls k5 _ _ l0_0 _ _ l0_1 _ _ l0_2 _ _ l1 _ _ y500 x10_5 t501 t504 _ ?side1 ?side2 ?side3 ?side4 ?side5 ?side6 ?side7 ?side8 ?side9 ?side10 A43.out).mono ?_); (case side1 => repeat (first | exact (Kd.C_below HR0_0.out HB.out) | (with_reducible refine Kd.C_alloc ?_ _) | (with_reducible refine Kd.C_drewN ?_ _) | (with_reducible refine Kd.C_drew ?_))); (case side2 => exact HC0_0.out); (case side3 => repeat (first | exact (Kd.C_below HR0_1.out HB.out) | (with_reducible refine Kd.C_alloc ?_ _) | (with_reducible refine Kd.C_drewN ?_ _) | (with_reducible refine Kd.C_drew ?_))); (case side4 => exact HC0_1.out); (case side5 => repeat (first | exact (Kd.C_below HR0_2.out HB.out) | (with_reducible refine Kd.C_alloc ?_ _) | (with_reducible refine Kd.C_drewN ?_ _) | (with_reducible refine Kd.C_drew ?_))); (case side6 => exact HC0_2.out); (case side7 => repeat (first | exact (Kd.C_below HR1.out HB.out) | (with_reducible refine Kd.C_alloc ?_ _) | (with_reducible refine Kd.C_drewN ?_ _) | (with_reducible refine Kd.C_drew ?_))); (case side8 => exact HC1.out); (case side9 => repeat (first | exact (Kd.R_reads' HO_8.out).2.2 | (with_reducible refine Kd.C_alloc ?_ _) | (with_reducible refine Kd.C_drewN ?_ _) | (with_reducible refine Kd.C_drew ?_))); (case side10 => exact (Kd.R_reads' HO_8.out).2.1); rintro e w46 ⟨v502, rfl, ho0, hb⟩; have n0_ := Aside0.mk (Kd.R_below (by (with_reducible repeat (first | apply Kd.R_alloc | apply Kd.R_drewN | apply Kd.R_drew)); exact HO_5.out) hb); have n1_ := Aside0.mk (Kd.R_elder' (by (with_reducible repeat (first | apply Kd.R_alloc | apply Kd.R_drewN | apply Kd.R_drew)); exact HO_8.out) (Kd.R_base ho0) hb); have n2_ := Aside0.mk (Kd.R_lower (Kd.R_new' ho0 (Kd.R_lt (by (with_reducible repeat (first | apply Kd.R_alloc | apply Kd.R_drewN | apply Kd.R_drew)); exact HO_8.out))) (below_size (by repeat (first | (with_reducible first | exact HB.out | apply below_alloc | apply pw_below_drewN | apply below_drew1 | refine below_set ?_ GE485.out) | exact HB.out)))); have n3_ := Aside0.mk (blk_below (g := gb485) (o := .cells #[.slice A0_0 l0_0.length c0_0, .slice A0_1 l0_1.length c0_1, .slice A0_2 l0_2.length c0_2] 26 (0, 0)) (by (with_reducible repeat (first | refine blk_drewN ?_ _ | refine blk_drew ?_ | refine blk_alloc ?_ _)); exact BK485.out) hb); have n4_ := Aside0.mk (below_step (by repeat (first | (with_reducible first | exact HB.out | apply below_alloc | apply pw_below_drewN | apply below_drew1 | refine below_set ?_ GE485.out) | exact HB.out)) hb); clear HO_5; clear HO_8; clear BK485; clear HB; have HO_5 := n0_; have HO_8 := n1_; have HO503 := n2_; have BK485 := n3_; have HB := n4_; clear n0_ n1_ n2_ n3_ n4_; (try clear hb); (try clear hb2); (try clear hk); (try clear hi); (try clear ho0)))
                                          repeat (go_quiet (first | (go_at_call 23; (with_reducible refine (watch_View.calls k5 _ _ l0_0 _ _ l0_1 _ _ l0_2 _ _ l1 _ _ y500 x10_5 t501 t504 _ ?side1 ?side2 ?side3 ?side4 ?side5 ?side6 ?side7 ?side8 ?side9 ?side10 A43.out).mono ?_); (case side1 => repeat (first | exact (Kd.C_below HR0_0.out HB.out) | (with_reducible refine Kd.C_alloc ?_ _) | (with_reducible refine Kd.C_drewN ?_ _) | (with_reducible refine Kd.C_drew ?_))); (case side2 => exact HC0_0.out); (case side3 => repeat (first | exact (Kd.C_below HR0_1.out HB.out) | (with_reducible refine Kd.C_alloc ?_ _) | (with_reducible refine Kd.C_drewN ?_ _) | (with_reducible refine Kd.C_drew ?_))); (case side4 => exact HC0_1.out); (case side5 => repeat (first | exact (Kd.C_below HR0_2.out HB.out) | (with_reducible refine Kd.C_alloc ?_ _) | (with_reducible refine Kd.C_drewN ?_ _) | (with_reducible refine Kd.C_drew ?_))); (case side6 => exact HC0_2.out); (case side7 => repeat (first | exact (Kd.C_below HR1.out HB.out) | (with_reducible refine Kd.C_alloc ?_ _) | (with_reducible refine Kd.C_drewN ?_ _) | (with_reducible refine Kd.C_drew ?_))); (case side8 => exact HC1.out); (case side9 => repeat (first | exact (Kd.R_reads' HO_8.out).2.2 | (with_reducible refine Kd.C_alloc ?_ _) | (with_reducible refine Kd.C_drewN ?_ _) | (with_reducible refine Kd.C_drew ?_))); (case side10 => exact (Kd.R_reads' HO_8.out).2.1); rintro e w46 ⟨v502, rfl, ho0, hb⟩; have n0_ := Aside0.mk (Kd.R_below (by (with_reducible repeat (first | apply Kd.R_alloc | apply Kd.R_drewN | apply Kd.R_drew)); exact HO_5.out) hb); have n1_ := Aside0.mk (Kd.R_elder' (by (with_reducible repeat (first | apply Kd.R_alloc | apply Kd.R_drewN | apply Kd.R_drew)); exact HO_8.out) (Kd.R_base ho0) hb); have n2_ := Aside0.mk (Kd.R_lower (Kd.R_new' ho0 (Kd.R_lt (by (with_reducible repeat (first | apply Kd.R_alloc | apply Kd.R_drewN | apply Kd.R_drew)); exact HO_8.out))) (below_size (by repeat (first | (with_reducible first | exact HB.out | apply below_alloc | apply pw_below_drewN | apply below_drew1 | refine below_set ?_ GE485.out) | exact HB.out)))); have n3_ := Aside0.mk (blk_below (g := gb485) (o := .cells #[.slice A0_0 l0_0.length c0_0, .slice A0_1 l0_1.length c0_1, .slice A0_2 l0_2.length c0_2] 26 (0, 0)) (by (with_reducible repeat (first | refine blk_drewN ?_ _ | refine blk_drew ?_ | refine blk_alloc ?_ _)); exact BK485.out) hb); have n4_ := Aside0.mk (below_step (by repeat (first | (with_reducible first | exact HB.out | apply below_alloc | apply pw_below_drewN | apply below_drew1 | refine below_set ?_ GE485.out) | exact HB.out)) hb); clear HO_5; clear HO_8; clear BK485; clear HB; have HO_5 := n0_; have HO_8 := n1_; have HO503 := n2_; have BK485 := n3_; have HB := n4_; clear n0_ n1_ n2_ n3_ n4_; (try clear hb); (try clear hb2); (try clear hk); (try clear hi); (try clear ho0))); try go_wp2_with (first | (go_at_call 23; (with_reducible refine (watch_View.calls k5 _ _ l0_0 _ _ l0_1 _ _ l0_2 _ _ l1 _ _ y500 x10_5 t501 t504 _ ?side1 ?side2 ?side3 ?side4 ?side5 ?side6 ?side7 ?side8 ?side9 ?side10 A43.out).mono ?_); (case side1 => repeat (first | exact (Kd.C_below HR0_0.out HB.out) | (with_reducible refine Kd.C_alloc ?_ _) | (with_reducible refine Kd.C_drewN ?_ _) | (with_reducible refine Kd.C_drew ?_))); (case side2 => exact HC0_0.out); (case side3 => repeat (first | exact (Kd.C_below HR0_1.out HB.out) | (with_reducible refine Kd.C_alloc ?_ _) | (with_reducible refine Kd.C_drewN ?_ _) | (with_reducible refine Kd.C_drew ?_))); (case side4 => exact HC0_1.out); (case side5 => repeat (first | exact (Kd.C_below HR0_2.out HB.out) | (with_reducible refine Kd.C_alloc ?_ _) | (with_reducible refine Kd.C_drewN ?_ _) | (with_reducible refine Kd.C_drew ?_))); (case side6 => exact HC0_2.out); (case side7 => repeat (first | exact (Kd.C_below HR1.out HB.out) | (with_reducible refine Kd.C_alloc ?_ _) | (with_reducible refine Kd.C_drewN ?_ _) | (with_reducible refine Kd.C_drew ?_))); (case side8 => exact HC1.out); (case side9 => repeat (first | exact (Kd.R_reads' HO_8.out).2.2 | (with_reducible refine Kd.C_alloc ?_ _) | (with_reducible refine Kd.C_drewN ?_ _) | (with_reducible refine Kd.C_drew ?_))); (case side10 => exact (Kd.R_reads' HO_8.out).2.1); rintro e w46 ⟨v502, rfl, ho0, hb⟩; have n0_ := Aside0.mk (Kd.R_below (by (with_reducible repeat (first | apply Kd.R_alloc | apply Kd.R_drewN | apply Kd.R_drew)); exact HO_5.out) hb); have n1_ := Aside0.mk (Kd.R_elder' (by (with_reducible repeat (first | apply Kd.R_alloc | apply Kd.R_drewN | apply Kd.R_drew)); exact HO_8.out) (Kd.R_base ho0) hb); have n2_ := Aside0.mk (Kd.R_lower (Kd.R_new' ho0 (Kd.R_lt (by (with_reducible repeat (first | apply Kd.R_alloc | apply Kd.R_drewN | apply Kd.R_drew)); exact HO_8.out))) (below_size (by repeat (first | (with_reducible first | exact HB.out | apply below_alloc | apply pw_below_drewN | apply below_drew1 | refine below_set ?_ GE485.out) | exact HB.out)))); have n3_ := Aside0.mk (blk_below (g := gb485) (o := .cells #[.slice A0_0 l0_0.length c0_0, .slice A0_1 l0_1.length c0_1, .slice A0_2 l0_2.length c0_2] 26 (0, 0)) (by (with_reducible repeat (first | refine blk_drewN ?_ _ | refine blk_drew ?_ | refine blk_alloc ?_ _)); exact BK485.out) hb); have n4_ := Aside0.mk (below_step (by repeat (first | (with_reducible first | exact HB.out | apply below_alloc | apply pw_below_drewN | apply below_drew1 | refine below_set ?_ GE485.out) | exact HB.out)) hb); clear HO_5; clear HO_8; clear BK485; clear HB; have HO_5 := n0_; have HO_8 := n1_; have HO503 := n2_; have BK485 := n3_; have HB := n4_; clear n0_ n1_ n2_ n3_ n4_; (try clear hb); (try clear hb2); (try clear hk); (try clear hi); (try clear ho0))))
                                          go_loopg [9, 13] k5 (fun kq v9 v13 w' => ∃ (x9_6 : Int) (x13_6 : Int), v9 = .int .i64 x9_6 ∧ v13 = .int .i64 x13_6 ∧ Aside0 (priorylaw28_WatchParts.l2 kq l1 t489 x7_3 y500 x9_6 x10_5 t501 x13_6 l0_0 l0_1 l0_2 = some r) ∧ Aside0 (kq ≤ k5) ∧ Aside0 (Kd.R (Kd.int .i64) 3 w' w.heap.size (fun _ => True) v490 t489) ∧ Aside0 (Kd.R k58 58 w' w.heap.size (fun k_ => some k_ ≠ (v502 : Value).ownBlock) (.slice (some ⟨go37, 0, none⟩) y500.length co37) y500) ∧ Aside0 (Kd.R k58 58 w' w.heap.size (fun k_ => some k_ ≠ ((.slice (some ⟨go37, 0, none⟩) y500.length co37) : Value).ownBlock) v502 t501) ∧ Aside0 (w'.heap[gb485]? = some (.cells #[(.slice A0_0 l0_0.length c0_0), (.slice A0_1 l0_1.length c0_1), (.slice A0_2 l0_2.length c0_2)] 26 (0, 0))) ∧ Aside0 (Below w.heap.size w w'))
                                          case atStart => exact ⟨(x9_5), (0), (by first | rfl | (simp; done) | (simp [*]; done)), (by first | rfl | (simp; done) | (simp [*]; done)), H', ⟨Nat.le_refl _⟩, ⟨by (try simp only [hl8_5]); (with_reducible repeat (first | apply Kd.R_alloc | apply Kd.R_drewN | apply Kd.R_drew)); exact HO_5.out⟩, ⟨by (try simp only [hl8_5]); (with_reducible repeat (first | apply Kd.R_alloc | apply Kd.R_drewN | apply Kd.R_drew)); exact Kd.R_mono HO_8.out (fun _ hk => hk.2)⟩, ⟨by (try simp only [hl8_5]); (with_reducible repeat (first | apply Kd.R_alloc | apply Kd.R_drewN | apply Kd.R_drew)); exact Kd.R_mono HO503.out (fun _ hk => hk.2)⟩, ⟨by (try simp only [hl8_5]); (with_reducible repeat (first | refine blk_drewN ?_ _ | refine blk_drew ?_ | refine blk_alloc ?_ _)); exact BK485.out⟩, ⟨by repeat (first | (with_reducible first | exact HB.out | apply below_alloc | apply pw_below_drewN | apply below_drew1 | refine below_set ?_ GE485.out) | exact HB.out)⟩⟩
                                          case round =>
                                            clear H'
                                            try clear c1
                                            try clear c2
                                            try clear p2
                                            try clear c3
                                            try clear p3
                                            try clear q3
                                            try clear hx3
                                            try clear hf3
                                            try clear c4
                                            try clear p4
                                            try clear q4
                                            try clear hx4
                                            try clear hf4
                                            try clear c6
                                            try clear c9
                                            try clear c14
                                            try clear c21
                                            try clear c21b0
                                            try clear c21b1
                                            try clear c23
                                            try clear c24
                                            try clear c24b0
                                            try clear c26
                                            try clear c26b0
                                            try clear c27
                                            try clear c27b0
                                            try clear c28
                                            try clear c28b0
                                            try clear c28b1
                                            try clear c28b2
                                            try clear c32
                                            try clear c33
                                            try clear c33b0
                                            try clear c33b1
                                            try clear c34
                                            try clear c34b0
                                            try clear c34b1
                                            try clear c35
                                            try clear c35b0
                                            try clear c36
                                            try clear c36b0
                                            try clear c37
                                            try clear p37
                                            try clear q37
                                            try clear hx37
                                            try clear hf37
                                            try clear c40
                                            try clear hx40
                                            try clear hf40
                                            try clear c42
                                            try clear c42b0
                                            try clear c44
                                            try clear c44b0
                                            try clear c44b1
                                            try clear hcz10_0
                                            try clear hcz10_1
                                            try clear hcz10_2
                                            try clear hcz12_0
                                            try clear hcz12_1
                                            try clear hcz12_2
                                            try clear hcz19_0
                                            try clear hcz19_1
                                            try clear hcz19_2
                                            try clear hcz31_0
                                            try clear hcz31_1
                                            try clear hcz31_2
                                            try clear hcz45_0
                                            try clear hcz45_1
                                            try clear hcz45_2
                                            try clear hcz7_0
                                            try clear hcz7_1
                                            try clear hcz7_2
                                            try clear hfz10_0
                                            try clear hfz10_1
                                            try clear hfz10_2
                                            try clear hfz12_0
                                            try clear hfz12_1
                                            try clear hfz12_2
                                            try clear hfz19_0
                                            try clear hfz19_1
                                            try clear hfz19_2
                                            try clear hfz31_0
                                            try clear hfz31_1
                                            try clear hfz31_2
                                            try clear hfz45_0
                                            try clear hfz45_1
                                            try clear hfz45_2
                                            try clear hfz7_0
                                            try clear hfz7_1
                                            try clear hfz7_2
                                            try clear hx37_0
                                            try clear hx37_1
                                            try clear hx37_2
                                            try clear hx37_3
                                            try clear hx37_4
                                            try clear hx40_0
                                            try clear hx40_1
                                            try clear hx40_2
                                            try clear hx40_3
                                            try clear hx40_4
                                            try clear hx494_0
                                            try clear hx495_0
                                            try clear hx495_1
                                            try clear hx495_2
                                            try clear hx496_0
                                            try clear p2
                                            try clear p3
                                            try clear p37
                                            try clear p4
                                            try clear p494
                                            try clear p495
                                            try clear p496
                                            try clear q3
                                            try clear q37
                                            try clear q4
                                            try clear q494
                                            try clear q495
                                            try clear q496
                                            obtain ⟨x9_6, x13_6, rfl, rfl, HA, HK6, HO_5, HO_8, HO_11, BK485, HB⟩ := hrel
                                            cases gk with
                                            | zero => exact absurd HA.out (by simp [priorylaw28_WatchParts.l2])
                                            | succ k6 =>
                                              have H := HA.out
                                              clear HA
                                              simp only [priorylaw28_WatchParts.l2] at H
                                              by_cases c47 : x13_6 < (t501.length : Int)
                                              · rw [if_pos c47] at H
                                                have c47b0 : decide (x13_6 < (t501.length : Int)) = true := decide_eq_true c47
                                                clear c47
                                                by_cases c48 : 0 ≤ x13_6
                                                · rw [if_pos c48] at H
                                                  have c48b0 : decide (0 ≤ x13_6) = true := decide_eq_true c48
                                                  clear c48
                                                  by_cases c49 : ((rd_T58 t501 x13_6).f3) = 7
                                                  · rw [if_pos c49] at H
                                                    have c49b0 : (((rd_T58 t501 x13_6).f3) == 7) = true := beq_iff_eq.mpr c49
                                                    have c49b1 : (((rd_T58 t501 x13_6).f3) != 7) = false := bne_eq_false_iff_eq.mpr c49
                                                    clear c49
                                                    by_cases c50 : 0 ≤ x7_3
                                                    · rw [if_pos c50] at H
                                                      have c50b0 : decide (0 ≤ x7_3) = true := decide_eq_true c50
                                                      clear c50
                                                      by_cases c51 : x7_3 < (t489.length : Int)
                                                      · rw [if_pos c51] at H
                                                        have c51b0 : decide (x7_3 < (t489.length : Int)) = true := decide_eq_true c51
                                                        clear c51
                                                        by_cases c52 : (rd t489 x7_3) ≥ 0
                                                        · rw [if_pos c52] at H
                                                          have c52b0 : decide (0 ≤ (rd t489 x7_3)) = true := decide_eq_true c52
                                                          clear c52
                                                          by_cases c53 : x10_5 = (rd t489 x7_3)
                                                          · rw [if_pos c53] at H
                                                            have c53b0 : (x10_5 == (rd t489 x7_3)) = true := beq_iff_eq.mpr c53
                                                            have c53b1 : (x10_5 != (rd t489 x7_3)) = false := bne_eq_false_iff_eq.mpr c53
                                                            clear c53
                                                            have H' := Aside0.mk H
                                                            clear H
                                                            obtain ⟨Ao54, co54, eo54⟩ := Kd.R_slice HO_11.out
                                                            subst eo54
                                                            have p505 : 0 ≤ (x13_6 : Int) := of_decide_eq_true (by first | (with_reducible assumption) | assumption)
                                                            have q505 : x13_6 < (t501.length : Int) := of_decide_eq_true (by first | (with_reducible assumption) | assumption)
                                                            obtain ⟨ad505, e505, hx505_0, hx505_1, hx505_2, hx505_3, hx505_4⟩ := at_T58 (Kd.R_reads' HO_11.out).2.2 x13_6 p505 q505
                                                            cases e505
                                                            replace p505 := eq_true p505
                                                            replace q505 := eq_true q505
                                                            obtain ⟨Ao55, co55, eo55⟩ := Kd.R_slice HO_5.out
                                                            subst eo55
                                                            have p506 : 0 ≤ (x7_3 : Int) := of_decide_eq_true (by first | (with_reducible assumption) | assumption)
                                                            have q506 : x7_3 < (t489.length : Int) := of_decide_eq_true (by first | (with_reducible assumption) | assumption)
                                                            obtain ⟨ad506, e506, hx506_0⟩ := Kd.at_int (Kd.R_reads' HO_5.out).2.2 x7_3 p506 q506
                                                            cases e506
                                                            replace p506 := eq_true p506
                                                            replace q506 := eq_true q506
                                                            have p507 : 0 ≤ (x7_3 : Int) := of_decide_eq_true (by first | (with_reducible assumption) | assumption)
                                                            have q507 : x7_3 < (t489.length : Int) := of_decide_eq_true (by first | (with_reducible assumption) | assumption)
                                                            obtain ⟨ad507, e507, hx507_0⟩ := Kd.at_int (Kd.R_reads' HO_5.out).2.2 x7_3 p507 q507
                                                            obtain rfl : ad506 = ad507 := (by injection e507)
                                                            replace p507 := eq_true p507
                                                            replace q507 := eq_true q507
                                                            go_wp2
                                                            repeat (go_quiet (fail); try go_wp2)
                                                            go_roundg k6
                                                            case measure => have := HJ2.out; have := HJ17.out; have := HK3.out; have := HJ24.out; have := HK5.out; have := HK6.out; omega
                                                            case rel => exact ⟨(wrap64 (x9_6 + 1)), (wrap64 (x13_6 + 1)), (by first | rfl | (simp; done) | (simp [*]; done)), (by first | rfl | (simp; done) | (simp [*]; done)), H', ⟨by have := HJ2.out; have := HJ17.out; have := HK3.out; have := HJ24.out; have := HK5.out; have := HK6.out; omega⟩, ⟨by (try simp only [hl8_5]); (with_reducible repeat (first | apply Kd.R_alloc | apply Kd.R_drewN | apply Kd.R_drew)); exact HO_5.out⟩, ⟨by (try simp only [hl8_5]); (with_reducible repeat (first | apply Kd.R_alloc | apply Kd.R_drewN | apply Kd.R_drew)); exact HO_8.out⟩, ⟨by (try simp only [hl8_5]); (with_reducible repeat (first | apply Kd.R_alloc | apply Kd.R_drewN | apply Kd.R_drew)); exact HO_11.out⟩, ⟨by (try simp only [hl8_5]); (with_reducible repeat (first | refine blk_drewN ?_ _ | refine blk_drew ?_ | refine blk_alloc ?_ _)); exact BK485.out⟩, ⟨by repeat (first | (with_reducible first | exact HB.out | apply below_alloc | apply pw_below_drewN | apply below_drew1 | refine below_set ?_ GE485.out) | exact HB.out)⟩⟩
                                                          · rw [if_neg c53] at H
                                                            have c53b0 : (x10_5 == (rd t489 x7_3)) = false := beq_eq_false_iff_ne.mpr c53
                                                            have c53b1 : (x10_5 != (rd t489 x7_3)) = true := bne_iff_ne.mpr c53
                                                            obtain rfl := Option.some.inj H
                                                            obtain ⟨Ao56, co56, eo56⟩ := Kd.R_slice HO_11.out
                                                            subst eo56
                                                            have p505 : 0 ≤ (x13_6 : Int) := of_decide_eq_true (by first | (with_reducible assumption) | assumption)
                                                            have q505 : x13_6 < (t501.length : Int) := of_decide_eq_true (by first | (with_reducible assumption) | assumption)
                                                            obtain ⟨ad505, e505, hx505_0, hx505_1, hx505_2, hx505_3, hx505_4⟩ := at_T58 (Kd.R_reads' HO_11.out).2.2 x13_6 p505 q505
                                                            cases e505
                                                            replace p505 := eq_true p505
                                                            replace q505 := eq_true q505
                                                            obtain ⟨Ao57, co57, eo57⟩ := Kd.R_slice HO_5.out
                                                            subst eo57
                                                            have p506 : 0 ≤ (x7_3 : Int) := of_decide_eq_true (by first | (with_reducible assumption) | assumption)
                                                            have q506 : x7_3 < (t489.length : Int) := of_decide_eq_true (by first | (with_reducible assumption) | assumption)
                                                            obtain ⟨ad506, e506, hx506_0⟩ := Kd.at_int (Kd.R_reads' HO_5.out).2.2 x7_3 p506 q506
                                                            cases e506
                                                            replace p506 := eq_true p506
                                                            replace q506 := eq_true q506
                                                            have p507 : 0 ≤ (x7_3 : Int) := of_decide_eq_true (by first | (with_reducible assumption) | assumption)
                                                            have q507 : x7_3 < (t489.length : Int) := of_decide_eq_true (by first | (with_reducible assumption) | assumption)
                                                            obtain ⟨ad507, e507, hx507_0⟩ := Kd.at_int (Kd.R_reads' HO_5.out).2.2 x7_3 p507 q507
                                                            obtain rfl : ad506 = ad507 := (by injection e507)
                                                            replace p507 := eq_true p507
                                                            replace q507 := eq_true q507
                                                            go_wp2
                                                            repeat (go_quiet (fail); try go_wp2)
                                                            go_ret
                                                            exact ⟨by first | rfl | (simp [errW_none, errW_some] <;> rfl) | (simp [*, errW_none, errW_some] <;> rfl), by repeat (first | (with_reducible first | exact HB.out | apply below_alloc | apply pw_below_drewN | apply below_drew1 | refine below_set ?_ GE485.out) | exact HB.out)⟩
                                                        · rw [if_neg c52] at H
                                                          have c52b0 : decide (0 ≤ (rd t489 x7_3)) = false := decide_eq_false c52
                                                          clear c52
                                                          have H' := Aside0.mk H
                                                          clear H
                                                          obtain ⟨Ao58, co58, eo58⟩ := Kd.R_slice HO_11.out
                                                          subst eo58
                                                          have p505 : 0 ≤ (x13_6 : Int) := of_decide_eq_true (by first | (with_reducible assumption) | assumption)
                                                          have q505 : x13_6 < (t501.length : Int) := of_decide_eq_true (by first | (with_reducible assumption) | assumption)
                                                          obtain ⟨ad505, e505, hx505_0, hx505_1, hx505_2, hx505_3, hx505_4⟩ := at_T58 (Kd.R_reads' HO_11.out).2.2 x13_6 p505 q505
                                                          cases e505
                                                          replace p505 := eq_true p505
                                                          replace q505 := eq_true q505
                                                          obtain ⟨Ao59, co59, eo59⟩ := Kd.R_slice HO_5.out
                                                          subst eo59
                                                          have p506 : 0 ≤ (x7_3 : Int) := of_decide_eq_true (by first | (with_reducible assumption) | assumption)
                                                          have q506 : x7_3 < (t489.length : Int) := of_decide_eq_true (by first | (with_reducible assumption) | assumption)
                                                          obtain ⟨ad506, e506, hx506_0⟩ := Kd.at_int (Kd.R_reads' HO_5.out).2.2 x7_3 p506 q506
                                                          cases e506
                                                          replace p506 := eq_true p506
                                                          replace q506 := eq_true q506
                                                          go_wp2
                                                          repeat (go_quiet (fail); try go_wp2)
                                                          go_roundg k6
                                                          case measure => have := HJ2.out; have := HJ17.out; have := HK3.out; have := HJ24.out; have := HK5.out; have := HK6.out; omega
                                                          case rel => exact ⟨(wrap64 (x9_6 + 1)), (wrap64 (x13_6 + 1)), (by first | rfl | (simp; done) | (simp [*]; done)), (by first | rfl | (simp; done) | (simp [*]; done)), H', ⟨by have := HJ2.out; have := HJ17.out; have := HK3.out; have := HJ24.out; have := HK5.out; have := HK6.out; omega⟩, ⟨by (try simp only [hl8_5]); (with_reducible repeat (first | apply Kd.R_alloc | apply Kd.R_drewN | apply Kd.R_drew)); exact HO_5.out⟩, ⟨by (try simp only [hl8_5]); (with_reducible repeat (first | apply Kd.R_alloc | apply Kd.R_drewN | apply Kd.R_drew)); exact HO_8.out⟩, ⟨by (try simp only [hl8_5]); (with_reducible repeat (first | apply Kd.R_alloc | apply Kd.R_drewN | apply Kd.R_drew)); exact HO_11.out⟩, ⟨by (try simp only [hl8_5]); (with_reducible repeat (first | refine blk_drewN ?_ _ | refine blk_drew ?_ | refine blk_alloc ?_ _)); exact BK485.out⟩, ⟨by repeat (first | (with_reducible first | exact HB.out | apply below_alloc | apply pw_below_drewN | apply below_drew1 | refine below_set ?_ GE485.out) | exact HB.out)⟩⟩
                                                      · rw [if_neg c51] at H
                                                        exact absurd H (by simp)
                                                    · rw [if_neg c50] at H
                                                      exact absurd H (by simp)
                                                  · rw [if_neg c49] at H
                                                    have c49b0 : (((rd_T58 t501 x13_6).f3) == 7) = false := beq_eq_false_iff_ne.mpr c49
                                                    have c49b1 : (((rd_T58 t501 x13_6).f3) != 7) = true := bne_iff_ne.mpr c49
                                                    have H' := Aside0.mk H
                                                    clear H
                                                    obtain ⟨Ao60, co60, eo60⟩ := Kd.R_slice HO_11.out
                                                    subst eo60
                                                    have p505 : 0 ≤ (x13_6 : Int) := of_decide_eq_true (by first | (with_reducible assumption) | assumption)
                                                    have q505 : x13_6 < (t501.length : Int) := of_decide_eq_true (by first | (with_reducible assumption) | assumption)
                                                    obtain ⟨ad505, e505, hx505_0, hx505_1, hx505_2, hx505_3, hx505_4⟩ := at_T58 (Kd.R_reads' HO_11.out).2.2 x13_6 p505 q505
                                                    cases e505
                                                    replace p505 := eq_true p505
                                                    replace q505 := eq_true q505
                                                    go_wp2
                                                    repeat (go_quiet (fail); try go_wp2)
                                                    go_roundg k6
                                                    case measure => have := HJ2.out; have := HJ17.out; have := HK3.out; have := HJ24.out; have := HK5.out; have := HK6.out; omega
                                                    case rel => exact ⟨(x9_6), (wrap64 (x13_6 + 1)), (by first | rfl | (simp; done) | (simp [*]; done)), (by first | rfl | (simp; done) | (simp [*]; done)), H', ⟨by have := HJ2.out; have := HJ17.out; have := HK3.out; have := HJ24.out; have := HK5.out; have := HK6.out; omega⟩, ⟨by (try simp only [hl8_5]); (with_reducible repeat (first | apply Kd.R_alloc | apply Kd.R_drewN | apply Kd.R_drew)); exact HO_5.out⟩, ⟨by (try simp only [hl8_5]); (with_reducible repeat (first | apply Kd.R_alloc | apply Kd.R_drewN | apply Kd.R_drew)); exact HO_8.out⟩, ⟨by (try simp only [hl8_5]); (with_reducible repeat (first | apply Kd.R_alloc | apply Kd.R_drewN | apply Kd.R_drew)); exact HO_11.out⟩, ⟨by (try simp only [hl8_5]); (with_reducible repeat (first | refine blk_drewN ?_ _ | refine blk_drew ?_ | refine blk_alloc ?_ _)); exact BK485.out⟩, ⟨by repeat (first | (with_reducible first | exact HB.out | apply below_alloc | apply pw_below_drewN | apply below_drew1 | refine below_set ?_ GE485.out) | exact HB.out)⟩⟩
                                                · rw [if_neg c48] at H
                                                  exact absurd H (by simp)
                                              · rw [if_neg c47] at H
                                                have c47b0 : decide (x13_6 < (t501.length : Int)) = false := decide_eq_false c47
                                                clear c47
                                                have H' := Aside0.mk H
                                                clear H
                                                obtain ⟨Ao61, co61, eo61⟩ := Kd.R_slice HO_11.out
                                                subst eo61
                                                go_wp2
                                                repeat (go_quiet (fail); try go_wp2)
                                                (try simp only [← hl8_5])
                                                go_roundg k6
                                                case measure => have := HJ2.out; have := HJ17.out; have := HK3.out; have := HJ24.out; have := HK5.out; have := HK6.out; omega
                                                case rel => exact ⟨(x9_6), (wrap64 (x10_5 + 1)), (by first | rfl | (simp; done) | (simp [*]; done)), (by first | rfl | (simp; done) | (simp [*]; done)), H', ⟨by have := HJ2.out; have := HJ17.out; have := HK3.out; have := HJ24.out; have := HK5.out; have := HK6.out; omega⟩, ⟨by (try simp only [hl8_5]); (with_reducible repeat (first | apply Kd.R_alloc | apply Kd.R_drewN | apply Kd.R_drew)); exact HO_5.out⟩, ⟨by (try simp only [hl8_5]); (with_reducible repeat (first | apply Kd.R_alloc | apply Kd.R_drewN | apply Kd.R_drew)); exact Kd.R_mono HO_8.out (fun _ hk => trivial)⟩, ⟨by (try simp only [hl8_5]); (with_reducible repeat (first | refine blk_drewN ?_ _ | refine blk_drew ?_ | refine blk_alloc ?_ _)); exact BK485.out⟩, ⟨by repeat (first | (with_reducible first | exact HB.out | apply below_alloc | apply pw_below_drewN | apply below_drew1 | refine below_set ?_ GE485.out) | exact HB.out)⟩⟩
                                        · rw [if_neg c44] at H
                                          have c44b0 : (t504 == 0) = false := beq_eq_false_iff_ne.mpr c44
                                          have c44b1 : (t504 != 0) = true := bne_iff_ne.mpr c44
                                          obtain rfl := Option.some.inj H
                                          have hcz62_0 : wr.cell? ⟨gb485, 0, none⟩ = some (.slice A0_0 l0_0.length c0_0) := (blk_cell BK485.out 0).trans rfl
                                          have hcz62_1 : wr.cell? ⟨gb485, 1, none⟩ = some (.slice A0_1 l0_1.length c0_1) := (blk_cell BK485.out 1).trans rfl
                                          have hcz62_2 : wr.cell? ⟨gb485, 2, none⟩ = some (.slice A0_2 l0_2.length c0_2) := (blk_cell BK485.out 2).trans rfl
                                          have hfz62_0 := blk_frozen BK485.out 0
                                          have hfz62_1 := blk_frozen BK485.out 1
                                          have hfz62_2 := blk_frozen BK485.out 2
                                          go_wp2_with (first | (go_at_call 23; (with_reducible refine (watch_View.calls k5 _ _ l0_0 _ _ l0_1 _ _ l0_2 _ _ l1 _ _ y500 x10_5 t501 t504 _ ?side1 ?side2 ?side3 ?side4 ?side5 ?side6 ?side7 ?side8 ?side9 ?side10 A43.out).mono ?_); (case side1 => repeat (first | exact (Kd.C_below HR0_0.out HB.out) | (with_reducible refine Kd.C_alloc ?_ _) | (with_reducible refine Kd.C_drewN ?_ _) | (with_reducible refine Kd.C_drew ?_))); (case side2 => exact HC0_0.out); (case side3 => repeat (first | exact (Kd.C_below HR0_1.out HB.out) | (with_reducible refine Kd.C_alloc ?_ _) | (with_reducible refine Kd.C_drewN ?_ _) | (with_reducible refine Kd.C_drew ?_))); (case side4 => exact HC0_1.out); (case side5 => repeat (first | exact (Kd.C_below HR0_2.out HB.out) | (with_reducible refine Kd.C_alloc ?_ _) | (with_reducible refine Kd.C_drewN ?_ _) | (with_reducible refine Kd.C_drew ?_))); (case side6 => exact HC0_2.out); (case side7 => repeat (first | exact (Kd.C_below HR1.out HB.out) | (with_reducible refine Kd.C_alloc ?_ _) | (with_reducible refine Kd.C_drewN ?_ _) | (with_reducible refine Kd.C_drew ?_))); (case side8 => exact HC1.out); (case side9 => repeat (first | exact (Kd.R_reads' HO_8.out).2.2 | (with_reducible refine Kd.C_alloc ?_ _) | (with_reducible refine Kd.C_drewN ?_ _) | (with_reducible refine Kd.C_drew ?_))); (case side10 => exact (Kd.R_reads' HO_8.out).2.1); rintro e w63 ⟨v502, rfl, ho0, hb⟩; have n0_ := Aside0.mk (Kd.R_below (by (with_reducible repeat (first | apply Kd.R_alloc | apply Kd.R_drewN | apply Kd.R_drew)); exact HO_5.out) hb); have n1_ := Aside0.mk (Kd.R_elder' (by (with_reducible repeat (first | apply Kd.R_alloc | apply Kd.R_drewN | apply Kd.R_drew)); exact HO_8.out) (Kd.R_base ho0) hb); have n2_ := Aside0.mk (Kd.R_lower (Kd.R_new' ho0 (Kd.R_lt (by (with_reducible repeat (first | apply Kd.R_alloc | apply Kd.R_drewN | apply Kd.R_drew)); exact HO_8.out))) (below_size (by repeat (first | (with_reducible first | exact HB.out | apply below_alloc | apply pw_below_drewN | apply below_drew1 | refine below_set ?_ GE485.out) | exact HB.out)))); have n3_ := Aside0.mk (blk_below (g := gb485) (o := .cells #[.slice A0_0 l0_0.length c0_0, .slice A0_1 l0_1.length c0_1, .slice A0_2 l0_2.length c0_2] 26 (0, 0)) (by (with_reducible repeat (first | refine blk_drewN ?_ _ | refine blk_drew ?_ | refine blk_alloc ?_ _)); exact BK485.out) hb); have n4_ := Aside0.mk (below_step (by repeat (first | (with_reducible first | exact HB.out | apply below_alloc | apply pw_below_drewN | apply below_drew1 | refine below_set ?_ GE485.out) | exact HB.out)) hb); clear HO_5; clear HO_8; clear BK485; clear HB; have HO_5 := n0_; have HO_8 := n1_; have HO503 := n2_; have BK485 := n3_; have HB := n4_; clear n0_ n1_ n2_ n3_ n4_; (try clear hb); (try clear hb2); (try clear hk); (try clear hi); (try clear ho0)))
                                          repeat (go_quiet (first | (go_at_call 23; (with_reducible refine (watch_View.calls k5 _ _ l0_0 _ _ l0_1 _ _ l0_2 _ _ l1 _ _ y500 x10_5 t501 t504 _ ?side1 ?side2 ?side3 ?side4 ?side5 ?side6 ?side7 ?side8 ?side9 ?side10 A43.out).mono ?_); (case side1 => repeat (first | exact (Kd.C_below HR0_0.out HB.out) | (with_reducible refine Kd.C_alloc ?_ _) | (with_reducible refine Kd.C_drewN ?_ _) | (with_reducible refine Kd.C_drew ?_))); (case side2 => exact HC0_0.out); (case side3 => repeat (first | exact (Kd.C_below HR0_1.out HB.out) | (with_reducible refine Kd.C_alloc ?_ _) | (with_reducible refine Kd.C_drewN ?_ _) | (with_reducible refine Kd.C_drew ?_))); (case side4 => exact HC0_1.out); (case side5 => repeat (first | exact (Kd.C_below HR0_2.out HB.out) | (with_reducible refine Kd.C_alloc ?_ _) | (with_reducible refine Kd.C_drewN ?_ _) | (with_reducible refine Kd.C_drew ?_))); (case side6 => exact HC0_2.out); (case side7 => repeat (first | exact (Kd.C_below HR1.out HB.out) | (with_reducible refine Kd.C_alloc ?_ _) | (with_reducible refine Kd.C_drewN ?_ _) | (with_reducible refine Kd.C_drew ?_))); (case side8 => exact HC1.out); (case side9 => repeat (first | exact (Kd.R_reads' HO_8.out).2.2 | (with_reducible refine Kd.C_alloc ?_ _) | (with_reducible refine Kd.C_drewN ?_ _) | (with_reducible refine Kd.C_drew ?_))); (case side10 => exact (Kd.R_reads' HO_8.out).2.1); rintro e w63 ⟨v502, rfl, ho0, hb⟩; have n0_ := Aside0.mk (Kd.R_below (by (with_reducible repeat (first | apply Kd.R_alloc | apply Kd.R_drewN | apply Kd.R_drew)); exact HO_5.out) hb); have n1_ := Aside0.mk (Kd.R_elder' (by (with_reducible repeat (first | apply Kd.R_alloc | apply Kd.R_drewN | apply Kd.R_drew)); exact HO_8.out) (Kd.R_base ho0) hb); have n2_ := Aside0.mk (Kd.R_lower (Kd.R_new' ho0 (Kd.R_lt (by (with_reducible repeat (first | apply Kd.R_alloc | apply Kd.R_drewN | apply Kd.R_drew)); exact HO_8.out))) (below_size (by repeat (first | (with_reducible first | exact HB.out | apply below_alloc | apply pw_below_drewN | apply below_drew1 | refine below_set ?_ GE485.out) | exact HB.out)))); have n3_ := Aside0.mk (blk_below (g := gb485) (o := .cells #[.slice A0_0 l0_0.length c0_0, .slice A0_1 l0_1.length c0_1, .slice A0_2 l0_2.length c0_2] 26 (0, 0)) (by (with_reducible repeat (first | refine blk_drewN ?_ _ | refine blk_drew ?_ | refine blk_alloc ?_ _)); exact BK485.out) hb); have n4_ := Aside0.mk (below_step (by repeat (first | (with_reducible first | exact HB.out | apply below_alloc | apply pw_below_drewN | apply below_drew1 | refine below_set ?_ GE485.out) | exact HB.out)) hb); clear HO_5; clear HO_8; clear BK485; clear HB; have HO_5 := n0_; have HO_8 := n1_; have HO503 := n2_; have BK485 := n3_; have HB := n4_; clear n0_ n1_ n2_ n3_ n4_; (try clear hb); (try clear hb2); (try clear hk); (try clear hi); (try clear ho0))); try go_wp2_with (first | (go_at_call 23; (with_reducible refine (watch_View.calls k5 _ _ l0_0 _ _ l0_1 _ _ l0_2 _ _ l1 _ _ y500 x10_5 t501 t504 _ ?side1 ?side2 ?side3 ?side4 ?side5 ?side6 ?side7 ?side8 ?side9 ?side10 A43.out).mono ?_); (case side1 => repeat (first | exact (Kd.C_below HR0_0.out HB.out) | (with_reducible refine Kd.C_alloc ?_ _) | (with_reducible refine Kd.C_drewN ?_ _) | (with_reducible refine Kd.C_drew ?_))); (case side2 => exact HC0_0.out); (case side3 => repeat (first | exact (Kd.C_below HR0_1.out HB.out) | (with_reducible refine Kd.C_alloc ?_ _) | (with_reducible refine Kd.C_drewN ?_ _) | (with_reducible refine Kd.C_drew ?_))); (case side4 => exact HC0_1.out); (case side5 => repeat (first | exact (Kd.C_below HR0_2.out HB.out) | (with_reducible refine Kd.C_alloc ?_ _) | (with_reducible refine Kd.C_drewN ?_ _) | (with_reducible refine Kd.C_drew ?_))); (case side6 => exact HC0_2.out); (case side7 => repeat (first | exact (Kd.C_below HR1.out HB.out) | (with_reducible refine Kd.C_alloc ?_ _) | (with_reducible refine Kd.C_drewN ?_ _) | (with_reducible refine Kd.C_drew ?_))); (case side8 => exact HC1.out); (case side9 => repeat (first | exact (Kd.R_reads' HO_8.out).2.2 | (with_reducible refine Kd.C_alloc ?_ _) | (with_reducible refine Kd.C_drewN ?_ _) | (with_reducible refine Kd.C_drew ?_))); (case side10 => exact (Kd.R_reads' HO_8.out).2.1); rintro e w63 ⟨v502, rfl, ho0, hb⟩; have n0_ := Aside0.mk (Kd.R_below (by (with_reducible repeat (first | apply Kd.R_alloc | apply Kd.R_drewN | apply Kd.R_drew)); exact HO_5.out) hb); have n1_ := Aside0.mk (Kd.R_elder' (by (with_reducible repeat (first | apply Kd.R_alloc | apply Kd.R_drewN | apply Kd.R_drew)); exact HO_8.out) (Kd.R_base ho0) hb); have n2_ := Aside0.mk (Kd.R_lower (Kd.R_new' ho0 (Kd.R_lt (by (with_reducible repeat (first | apply Kd.R_alloc | apply Kd.R_drewN | apply Kd.R_drew)); exact HO_8.out))) (below_size (by repeat (first | (with_reducible first | exact HB.out | apply below_alloc | apply pw_below_drewN | apply below_drew1 | refine below_set ?_ GE485.out) | exact HB.out)))); have n3_ := Aside0.mk (blk_below (g := gb485) (o := .cells #[.slice A0_0 l0_0.length c0_0, .slice A0_1 l0_1.length c0_1, .slice A0_2 l0_2.length c0_2] 26 (0, 0)) (by (with_reducible repeat (first | refine blk_drewN ?_ _ | refine blk_drew ?_ | refine blk_alloc ?_ _)); exact BK485.out) hb); have n4_ := Aside0.mk (below_step (by repeat (first | (with_reducible first | exact HB.out | apply below_alloc | apply pw_below_drewN | apply below_drew1 | refine below_set ?_ GE485.out) | exact HB.out)) hb); clear HO_5; clear HO_8; clear BK485; clear HB; have HO_5 := n0_; have HO_8 := n1_; have HO503 := n2_; have BK485 := n3_; have HB := n4_; clear n0_ n1_ n2_ n3_ n4_; (try clear hb); (try clear hb2); (try clear hk); (try clear hi); (try clear ho0))))
                                          go_ret
                                          exact ⟨by first | rfl | (simp [errW_none, errW_some] <;> rfl) | (simp [*, errW_none, errW_some] <;> rfl), by repeat (first | (with_reducible first | exact HB.out | apply below_alloc | apply pw_below_drewN | apply below_drew1 | refine below_set ?_ GE485.out) | exact HB.out)⟩
                                      · rw [if_neg c42] at H
                                        have c42b0 : decide (x10_5 < (l0_0.length : Int)) = false := decide_eq_false c42
                                        clear c42
                                        by_cases c64 : x9_5 = 1
                                        · rw [if_pos c64] at H
                                          have c64b0 : (x9_5 == 1) = true := beq_iff_eq.mpr c64
                                          have c64b1 : (x9_5 != 1) = false := bne_eq_false_iff_eq.mpr c64
                                          clear c64
                                          have H' := Aside0.mk H
                                          clear H
                                          have hcz65_0 : wr.cell? ⟨gb485, 0, none⟩ = some (.slice A0_0 l0_0.length c0_0) := (blk_cell BK485.out 0).trans rfl
                                          have hcz65_1 : wr.cell? ⟨gb485, 1, none⟩ = some (.slice A0_1 l0_1.length c0_1) := (blk_cell BK485.out 1).trans rfl
                                          have hcz65_2 : wr.cell? ⟨gb485, 2, none⟩ = some (.slice A0_2 l0_2.length c0_2) := (blk_cell BK485.out 2).trans rfl
                                          have hfz65_0 := blk_frozen BK485.out 0
                                          have hfz65_1 := blk_frozen BK485.out 1
                                          have hfz65_2 := blk_frozen BK485.out 2
                                          go_wp2
                                          repeat (go_quiet (fail); try go_wp2)
                                          (try simp only [← hl8_5])
                                          go_roundg k5
                                          case measure => have := HJ2.out; have := HJ17.out; have := HK3.out; have := HJ24.out; have := HK5.out; omega
                                          case rel => exact ⟨(wrap64 (x7_3 + 1)), (by first | rfl | (simp; done) | (simp [*]; done)), H', ⟨by have := HJ2.out; have := HJ17.out; have := HK3.out; have := HJ24.out; have := HK5.out; omega⟩, ⟨by (try simp only [hl8_5]); (with_reducible repeat (first | apply Kd.R_alloc | apply Kd.R_drewN | apply Kd.R_drew)); exact HO_5.out⟩, ⟨by (try simp only [hl8_5]); (with_reducible repeat (first | refine blk_drewN ?_ _ | refine blk_drew ?_ | refine blk_alloc ?_ _)); exact BK485.out⟩, ⟨by repeat (first | (with_reducible first | exact HB.out | apply below_alloc | apply pw_below_drewN | apply below_drew1 | refine below_set ?_ GE485.out) | exact HB.out)⟩⟩
                                        · rw [if_neg c64] at H
                                          have c64b0 : (x9_5 == 1) = false := beq_eq_false_iff_ne.mpr c64
                                          have c64b1 : (x9_5 != 1) = true := bne_iff_ne.mpr c64
                                          obtain rfl := Option.some.inj H
                                          have hcz66_0 : wr.cell? ⟨gb485, 0, none⟩ = some (.slice A0_0 l0_0.length c0_0) := (blk_cell BK485.out 0).trans rfl
                                          have hcz66_1 : wr.cell? ⟨gb485, 1, none⟩ = some (.slice A0_1 l0_1.length c0_1) := (blk_cell BK485.out 1).trans rfl
                                          have hcz66_2 : wr.cell? ⟨gb485, 2, none⟩ = some (.slice A0_2 l0_2.length c0_2) := (blk_cell BK485.out 2).trans rfl
                                          have hfz66_0 := blk_frozen BK485.out 0
                                          have hfz66_1 := blk_frozen BK485.out 1
                                          have hfz66_2 := blk_frozen BK485.out 2
                                          go_wp2
                                          repeat (go_quiet (fail); try go_wp2)
                                          go_ret
                                          exact ⟨by first | rfl | (simp [errW_none, errW_some] <;> rfl) | (simp [*, errW_none, errW_some] <;> rfl), by repeat (first | (with_reducible first | exact HB.out | apply below_alloc | apply pw_below_drewN | apply below_drew1 | refine below_set ?_ GE485.out) | exact HB.out)⟩
                                · rw [if_neg c36] at H
                                  exact absurd H (by simp)
                              · rw [if_neg c35] at H
                                exact absurd H (by simp)
                            · rw [if_neg c34] at H
                              exact absurd H (by simp)
                          · rw [if_neg c33] at H
                            exact absurd H (by simp)
                  · rw [if_neg c24] at H
                    have c24b0 : decide (x7_3 < (l1.length : Int)) = false := decide_eq_false c24
                    clear c24
                    replace H := Option.bind_eq_some_iff.mp H
                    obtain ⟨t493, A670, H⟩ := H
                    replace H : (some t493) = some r := H
                    have A67 := Aside0.mk A670
                    clear A670
                    obtain rfl := Option.some.inj H
                    go_wp2_with (first | (go_at_call 11; (with_reducible refine (priorylaw28_awake.calls k3  t493 _ A67.out).mono ?_); rintro e w68 ⟨rfl, hb⟩; have n0_ := Aside0.mk (Kd.R_below (by (with_reducible repeat (first | apply Kd.R_alloc | apply Kd.R_drewN | apply Kd.R_drew)); exact HO_5.out) hb); have n1_ := Aside0.mk (blk_below (g := gb485) (o := .cells #[.slice A0_0 l0_0.length c0_0, .slice A0_1 l0_1.length c0_1, .slice A0_2 l0_2.length c0_2] 26 (0, 0)) (by (with_reducible repeat (first | refine blk_drewN ?_ _ | refine blk_drew ?_ | refine blk_alloc ?_ _)); exact BK485.out) hb); have n2_ := Aside0.mk (below_step (by repeat (first | (with_reducible first | exact HB.out | apply below_alloc | apply pw_below_drewN | apply below_drew1 | refine below_set ?_ GE485.out) | exact HB.out)) hb); clear HO_5; clear BK485; clear HB; have HO_5 := n0_; have BK485 := n1_; have HB := n2_; clear n0_ n1_ n2_; (try clear hb); (try clear hb2); (try clear hk); (try clear hi)))
                    repeat (go_quiet (first | (go_at_call 11; (with_reducible refine (priorylaw28_awake.calls k3  t493 _ A67.out).mono ?_); rintro e w68 ⟨rfl, hb⟩; have n0_ := Aside0.mk (Kd.R_below (by (with_reducible repeat (first | apply Kd.R_alloc | apply Kd.R_drewN | apply Kd.R_drew)); exact HO_5.out) hb); have n1_ := Aside0.mk (blk_below (g := gb485) (o := .cells #[.slice A0_0 l0_0.length c0_0, .slice A0_1 l0_1.length c0_1, .slice A0_2 l0_2.length c0_2] 26 (0, 0)) (by (with_reducible repeat (first | refine blk_drewN ?_ _ | refine blk_drew ?_ | refine blk_alloc ?_ _)); exact BK485.out) hb); have n2_ := Aside0.mk (below_step (by repeat (first | (with_reducible first | exact HB.out | apply below_alloc | apply pw_below_drewN | apply below_drew1 | refine below_set ?_ GE485.out) | exact HB.out)) hb); clear HO_5; clear BK485; clear HB; have HO_5 := n0_; have BK485 := n1_; have HB := n2_; clear n0_ n1_ n2_; (try clear hb); (try clear hb2); (try clear hk); (try clear hi))); try go_wp2_with (first | (go_at_call 11; (with_reducible refine (priorylaw28_awake.calls k3  t493 _ A67.out).mono ?_); rintro e w68 ⟨rfl, hb⟩; have n0_ := Aside0.mk (Kd.R_below (by (with_reducible repeat (first | apply Kd.R_alloc | apply Kd.R_drewN | apply Kd.R_drew)); exact HO_5.out) hb); have n1_ := Aside0.mk (blk_below (g := gb485) (o := .cells #[.slice A0_0 l0_0.length c0_0, .slice A0_1 l0_1.length c0_1, .slice A0_2 l0_2.length c0_2] 26 (0, 0)) (by (with_reducible repeat (first | refine blk_drewN ?_ _ | refine blk_drew ?_ | refine blk_alloc ?_ _)); exact BK485.out) hb); have n2_ := Aside0.mk (below_step (by repeat (first | (with_reducible first | exact HB.out | apply below_alloc | apply pw_below_drewN | apply below_drew1 | refine below_set ?_ GE485.out) | exact HB.out)) hb); clear HO_5; clear BK485; clear HB; have HO_5 := n0_; have BK485 := n1_; have HB := n2_; clear n0_ n1_ n2_; (try clear hb); (try clear hb2); (try clear hk); (try clear hi))))
                    go_ret
                    exact ⟨by first | rfl | (simp [errW_none, errW_some] <;> rfl) | (simp [*, errW_none, errW_some] <;> rfl), by repeat (first | (with_reducible first | exact HB.out | apply below_alloc | apply pw_below_drewN | apply below_drew1 | refine below_set ?_ GE485.out) | exact HB.out)⟩
end Go.Proofs.Ytfmpabdaadllaaa.PAll

/-
  The law Parts in plain Lean.
-/
namespace Go.Proofs.Ytfmpabdaadllaaa.PAll
open Go.RowKit Go.Proofs.YtfmpabdaadllaaaW.PrintWords Go.Proofs.YtfmpabdaadllaaaW.PrintLast
set_option linter.unusedVariables false
set_option linter.unusedSimpArgs false
theorem check_k (P : List S73) (W : List S75) (C : List S46) : ∀ d, conf_Check.f (64 + d) P W C = some (chkE P W C)
  | 0 => check_f P W C
  | d + 1 => conf_Check.mono P W C (64 + d) _ (check_k P W C d)
theorem check_k2 (P : List S73) (W : List S75) (C : List S46) (k : Nat) (hk : 64 ≤ k) : conf_Check.f k P W C = some (chkE P W C) := by
  have := check_k P W C (k - 64)
  rwa [show 64 + (k - 64) = k by omega] at this
def cnt7 (v : List S58) : Nat := v.countP (fun x => x.f3 == 7)
theorem parts_l2 (l : List S56) (tt : List Int) (j : Nat) (hj : j < tt.length) (os : List S58) (p : Int) (P : List S73) (W : List S75) (C : List S46) (v : List S58) (hv : v.length ≤ 1000) (hp : 0 ≤ p ∧ p ≤ 1000) (hgood : 0 < cnt7 v → 0 ≤ tt.getD j 0 → p = tt.getD j 0) (k : Nat) : ∀ (d i s : Nat), i + d = v.length → s + d ≤ 5000 →
    priorylaw28_WatchParts.l2 (k + d + 1) l tt (j : Int) os (s : Int) p v (i : Int) P W C = priorylaw28_WatchParts.l1 k l tt (j : Int) os ((s + cnt7 (v.drop i) : Nat) : Int) (wrap64 (p + 1)) P W C
  | 0, i, s, hd, hs => by
    have hdr : v.drop i = [] := List.drop_eq_nil_of_le (by omega)
    rw [Nat.add_zero, priorylaw28_WatchParts.l2, if_neg (by omega), hdr]
    rfl
  | d + 1, i, s, hd, hs => by
    have hi : i < v.length := by omega
    have hdr : v.drop i = v.getD i z58 :: v.drop (i + 1) := by rw [List.drop_eq_getElem_cons hi, List.getD_eq_getElem?_getD, List.getElem?_eq_getElem hi]; rfl
    have hw := succ_w (i := i) (by omega)
    have hw2 := succ_w (i := s) (by omega)
    have hik : k + (d + 1) + 1 = (k + d + 1) + 1 := by omega
    have hi1 : i + 1 + d = v.length := by omega
    have hs1 : s + 1 + d ≤ 5000 := by omega
    have hs2 : s + d ≤ 5000 := by omega
    have hc : cnt7 (v.drop i) = cnt7 (v.drop (i + 1)) + if (v.getD i z58).f3 = 7 then 1 else 0 := by
      unfold cnt7
      rw [hdr, List.countP_cons]
      by_cases e : (v.getD i z58).f3 = 7
      · rw [if_pos e, if_pos (beq_iff_eq.2 e)]
      · rw [if_neg e, if_neg (by rw [beq_eq_false_iff_ne.2 e]; decide)]
    rw [hik, priorylaw28_WatchParts.l2, if_pos (Int.ofNat_lt.2 hi), if_pos (Int.natCast_nonneg i), rd58, hw, hw2, if_pos (Int.natCast_nonneg j), if_pos (Int.ofNat_lt.2 hj), rdn]
    by_cases e : (v.getD i z58).f3 = 7
    · rw [if_pos e] at hc ⊢
      have hpos : 0 < cnt7 v := by
        unfold cnt7
        rw [List.countP_pos_iff]
        refine ⟨v.getD i z58, ?_, beq_iff_eq.2 e⟩
        rw [List.getD_eq_getElem?_getD, List.getElem?_eq_getElem hi]
        exact List.getElem_mem hi
      have ih := parts_l2 l tt j hj os p P W C v hv hp hgood k d (i + 1) (s + 1) hi1 hs1
      rw [show s + 1 + cnt7 (v.drop (i + 1)) = s + cnt7 (v.drop i) by rw [hc]; exact Nat.add_right_comm s 1 _] at ih
      by_cases ht : tt.getD j 0 ≥ 0
      · rw [if_pos ht, if_pos (hgood hpos ht)]; exact ih
      · rw [if_neg ht]; exact ih
    · rw [if_neg e] at hc ⊢
      have ih := parts_l2 l tt j hj os p P W C v hv hp hgood k d (i + 1) s hi1 hs2
      rw [show s + cnt7 (v.drop (i + 1)) = s + cnt7 (v.drop i) by rw [hc]; rfl] at ih
      exact ih
def os7 (n j : Nat) : List S58 := (List.replicate n z58).set j ⟨0, 0, 0, 7, 0⟩
theorem os7_at (n j i : Nat) (hj : j < n) : ((os7 n j).getD i z58).f3 = 7 ↔ i = j := by
  unfold os7
  rw [List.getD_eq_getElem?_getD, List.getElem?_set]
  by_cases e : j = i
  · rw [if_pos e, if_pos (by rw [List.length_replicate]; exact hj)]
    exact ⟨fun _ => e.symm, fun _ => rfl⟩
  · rw [if_neg e, List.getElem?_replicate]
    constructor
    · intro h
      split at h
      · simp [z58] at h
      · simp [z58] at h
    · intro h; exact absurd h.symm e
theorem cnt7_view (vb : Nat → Bool) (os : List S58) (j : Nat) (ho : ∀ i, (os.getD i z58).f3 = 7 ↔ i = j) : ∀ n, cnt7 (viewL vb os n) = if j < n ∧ vb j = true then 1 else 0
  | 0 => by rw [if_neg (by omega)]; rfl
  | n + 1 => by
    have ih := cnt7_view vb os j ho n
    rw [show viewL vb os (n + 1) = viewL vb os n ++ if vb n = true then [os.getD n z58] else [] from rfl]
    unfold cnt7 at ih ⊢
    rw [List.countP_append, ih]
    by_cases e : vb n = true
    · rw [if_pos e, List.countP_cons, List.countP_nil]
      by_cases e2 : n = j
      · rw [if_pos (beq_iff_eq.2 ((ho n).2 e2)), if_neg (by omega), if_pos (by rw [← e2]; exact ⟨by omega, e⟩)]
      · rw [if_neg (show ¬ (((os.getD n z58).f3 == 7) = true) by rw [beq_eq_false_iff_ne.2 (fun h => e2 ((ho n).1 h))]; decide)]
        by_cases e3 : j < n ∧ vb j = true
        · rw [if_pos e3, if_pos ⟨by omega, e3.2⟩]
        · rw [if_neg e3, if_neg (fun h => e3 ⟨by omega, h.2⟩)]
    · rw [if_neg e, List.countP_nil]
      by_cases e3 : j < n ∧ vb j = true
      · rw [if_pos e3, if_pos ⟨by omega, e3.2⟩]
      · have e5 : ¬ (j < n + 1 ∧ vb j = true) := fun h => by
          by_cases e4 : j = n
          · exact e (e4 ▸ h.2)
          · exact e3 ⟨by omega, h.2⟩
        rw [if_neg e3, if_neg e5]
set_option maxRecDepth 100000 in
theorem parts_l1 (P : List S73) (W : List S75) (C : List S46) (h : chkE P W C = 0) (l : List S56) (hl : l.length ≤ 1000) (j : Nat) (hj : j < l.length) (M : Nat) (hM : M = 1010) : ∀ (d p k B : Nat), p + d = P.length → M * d + 1 + B ≤ k →
    ∃ k', B ≤ k' ∧ priorylaw28_WatchParts.l1 k l (fallsL W l l.length) (j : Int) (os7 l.length j) ((if 0 ≤ whoE W l j ∧ whoE W l j < (p : Int) then 1 else 0 : Nat) : Int) (p : Int) P W C = priorylaw28_WatchParts.l0 k' l (fallsL W l l.length) ((j + 1 : Nat) : Int) P W C
  | 0, p, k, B, hd, hk => by
    obtain ⟨k, rfl⟩ : ∃ k', k = k' + 1 := ⟨k - 1, by omega⟩
    refine ⟨k, by omega, ?_⟩
    have hw := who_bd h l j
    rw [priorylaw28_WatchParts.l1, if_neg (by omega), if_pos (show 0 ≤ whoE W l j ∧ whoE W l j < (p : Int) by omega), if_pos (show ((1 : Nat) : Int) = 1 from rfl), succ_w (by omega)]
  | d + 1, p, k, B, hd, hk => by
    have hM1 : M * (d + 1) = M * d + 1010 := by rw [Nat.mul_succ, hM]
    rw [hM1] at hk
    have hv := viewE_in h (show p < P.length by omega) (l := l) (os := os7 l.length j) (by unfold os7; rw [List.length_set, List.length_replicate])
    have h8 := (chkE_ok h).p1
    have hvl := viewL_len (viewB W l (p : Int)) (os7 l.length j) l.length
    obtain ⟨v, hvv⟩ : ∃ v, v = viewL (viewB W l (p : Int)) (os7 l.length j) l.length := ⟨_, rfl⟩
    rw [← hvv] at hvl
    have hcv : cnt7 v = if j < l.length ∧ viewB W l (p : Int) j = true then 1 else 0 := by rw [hvv]; exact cnt7_view _ _ j (fun i => os7_at l.length j i hj) l.length
    have hvw := viewB_who (chkE_ok h).wok (l := l) (part := (p : Int)) (by omega) (i := j)
    obtain ⟨k2, rfl⟩ : ∃ k', k = (k' + v.length + 1) + 1 := ⟨k - v.length - 2, by omega⟩
    obtain ⟨k', hk', ih⟩ := parts_l1 P W C h l hl j hj M hM d (p + 1) k2 B (by omega) (by omega)
    refine ⟨k', hk', ?_⟩
    rw [priorylaw28_WatchParts.l1, if_pos (by omega), wview_f P W C l _ (p : Int) hl, hv.1, hv.2, ← hvv]
    simp only [Option.bind_some]
    have h2 := parts_l2 l (fallsL W l l.length) j (by rw [fallsL_len]; exact hj) (os7 l.length j) (p : Int) P W C v (by omega) (by omega)
      (fun h1 h2 => by
        rw [fallsL_getD hj] at h2 ⊢
        rw [hcv] at h1
        by_cases e : viewB W l (p : Int) j = true
        · rw [hvw] at e
          have e2 := of_decide_eq_true e
          have hf := falls_val (chkE_ok h).wok l j
          have hne : (l.getD j z56).f0 ≠ 1 := fun q => by have := hf.1.2 q; omega
          rw [hf.2 hne, ← e2]
          unfold whoE
          rw [if_neg hne]
        · rw [if_neg (fun q => e q.2)] at h1
          omega)
      k2 v.length 0 (if 0 ≤ whoE W l j ∧ whoE W l j < (p : Int) then 1 else 0) (by omega) (by split <;> omega)
    rw [if_pos trivial, show (0 : Int) = ((0 : Nat) : Int) from rfl]
    rw [show ((0 : Nat) : Int) = (0 : Int) from rfl] at h2 ⊢
    rw [h2, succ_w (by omega), ← ih, List.drop_zero]
    have hw := who_bd h l j
    have e5 : (viewB W l (p : Int) j = true) ↔ whoE W l j = (p : Int) := by rw [hvw]; exact decide_eq_true_iff
    have hfin : (if 0 ≤ whoE W l j ∧ whoE W l j < (p : Int) then 1 else 0 : Nat) + cnt7 v = (if 0 ≤ whoE W l j ∧ whoE W l j < ((p + 1 : Nat) : Int) then 1 else 0 : Nat) := by
      rw [hcv]
      by_cases e : whoE W l j = (p : Int)
      · rw [if_pos (show j < l.length ∧ viewB W l (p : Int) j = true from ⟨hj, e5.2 e⟩), if_neg (by omega), if_pos (by omega)]
      · rw [if_neg (show ¬ (j < l.length ∧ viewB W l (p : Int) j = true) from fun q => e (e5.1 q.2))]
        by_cases e2 : 0 ≤ whoE W l j ∧ whoE W l j < (p : Int)
        · rw [if_pos e2, if_pos (by omega)]
        · rw [if_neg e2, if_neg (by omega)]
    rw [hfin]
set_option maxRecDepth 100000 in
theorem parts_l0 (P : List S73) (W : List S75) (C : List S46) (h : chkE P W C = 0) (l : List S56) (hl : l.length ≤ 1000) (M : Nat) (hM : M = 9000) : ∀ (d j k : Nat), j + d = l.length → M * d + 10 ≤ k →
    priorylaw28_WatchParts.l0 k l (fallsL W l l.length) (j : Int) P W C = some true
  | 0, j, k, hd, hk => by
    obtain ⟨k, rfl⟩ : ∃ k', k = k' + 1 := ⟨k - 1, by omega⟩
    rw [priorylaw28_WatchParts.l0, if_neg (by omega)]
    rfl
  | d + 1, j, k, hd, hk => by
    have hM1 : M * (d + 1) = M * d + 9000 := by rw [Nat.mul_succ, hM]
    rw [hM1] at hk
    have hj : j < l.length := by omega
    have h8 := (chkE_ok h).p1
    have hf := falls_val (chkE_ok h).wok l j
    have hnn := partS_nn (chkE_ok h).wok (tkN l j)
    have hlt := partS_lt h (tkN l j)
    have hwb := who_bd h l j
    obtain ⟨k, rfl⟩ : ∃ k', k = k' + 1 + 1 := ⟨k - 2, by omega⟩
    obtain ⟨k', hk', h1⟩ := parts_l1 P W C h l hl j hj 1010 rfl P.length 0 k (M * d + 10) (by omega) (by omega)
    rw [if_neg (by omega)] at h1
    have ih := parts_l0 P W C h l hl M hM d (j + 1) k' (by omega) hk'
    have hb : (decide (fallsE W l j < 0) != ((l.getD j z56).f0 == 1)) = false := by
      by_cases e : (l.getD j z56).f0 = 1
      · rw [beq_iff_eq.2 e, hf.1.2 e]; rfl
      · rw [beq_eq_false_iff_ne.2 e, hf.2 e, decide_eq_false (by omega)]; rfl
    have hb2 : decide (fallsE W l j ≥ (P.length : Int)) = false := by
      apply decide_eq_false
      by_cases e : (l.getD j z56).f0 = 1
      · rw [hf.1.2 e]; omega
      · rw [hf.2 e]; omega
    rw [priorylaw28_WatchParts.l0, if_pos (by omega), if_pos (by omega), if_pos (by rw [fallsL_len]; omega), rdn, rd56, fallsL_getD hj, hb, hb2, if_neg (by decide), priorylaw28_WatchParts.j3, if_neg (by decide)]
    obtain ⟨N, hN⟩ : ∃ N, N = 8796093022208 := ⟨_, rfl⟩
    have hlN : l.length ≤ N := by omega
    rw [← hN, Int.toNat_natCast, Int.toNat_natCast, if_pos (show (0 : Int) ≤ (l.length : Int) by omega), if_pos hlN]
    simp only [Option.bind_some]
    rw [if_pos (show (0 : Int) ≤ (j : Int) by omega), if_pos (show (j : Int) < ((List.replicate l.length z58).length : Int) by rw [List.length_replicate]; omega)]
    exact h1.trans ih
theorem parts_law (P : List S73) (W : List S75) (C : List S46) (l : List S56) : priorylaw28_WatchParts.f 2000002 P W C l = some true := by
  obtain ⟨b, hb, hs⟩ := long_f P W C l
  unfold priorylaw28_WatchParts.f
  rw [hb]
  simp only [Option.bind_some]
  cases b
  · obtain ⟨h1, h2, h3, h4⟩ := hs rfl
    rw [if_neg (by decide), check_k2 P W C 2000002 (by omega)]
    simp only [Option.bind_some]
    rw [priorylaw28_WatchParts.j0]
    by_cases h : chkE P W C = 0
    · have ht : turnsE P W C l = fallsL W l l.length := by unfold turnsE; rw [if_pos h]
      have hbb : (((fallsL W l l.length).length : Int) != (l.length : Int)) = false := by rw [fallsL_len]; exact bne_self_eq_false _
      rw [h, bne_self_eq_false, if_neg (by decide), wturns_f P W C l (by omega), ht, h]
      simp only [Option.bind_some]
      rw [if_pos trivial, hbb, priorylaw28_WatchParts.j1, if_neg (by decide)]
      exact parts_l0 P W C h l (by omega) 9000 rfl l.length 0 2000000 (by omega) (by omega)
    · rw [if_pos (bne_iff_ne.2 h)]
      rfl
  · rfl
end Go.Proofs.Ytfmpabdaadllaaa.PAll
