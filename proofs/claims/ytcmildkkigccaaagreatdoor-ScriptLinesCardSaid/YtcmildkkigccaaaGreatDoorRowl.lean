/-
  Observations that came in, as the walk reads them; strconv's table.
-/
import Derived.Test.YtcmildkkigccaaaGreatDoorRowk
import Derived.Test.YtcmildkkigccaaaGreatDoorLnl
namespace Go.Proofs.YtcmildkkigccaaaGreatDoor.PLin
open Go.ChangeShapes Go.WideShapes Go.Deep Go.Joins
open Go.RowKit Go.Proofs.YtcmildkkigccaaaGreatDoorW.PrintWords Go.Proofs.YtcmildkkigccaaaGreatDoorW.PrintLast Go.Proofs.YtcmildkkigccaaaGreatDoorW.PrintMore
set_option linter.unusedVariables false
theorem i64_wf (n : Int) (h : (Lit.int .i64 n).wf = true) : n ≤ 9223372036854775807 := by
  have h' : (decide (IntKind.i64.min ≤ n) && decide (n ≤ IntKind.i64.max)) = true := h
  rw [Bool.and_eq_true] at h'
  have e1 : IntKind.i64.max = 9223372036854775807 := by kernel_rfl
  have b := of_decide_eq_true h'.2
  rw [e1] at b
  omega
theorem trod_struct5 {H : Type} {enc : TypeId × Value → H} {w : World} {spare : Nat → Bool} {held : Bool} {P : Program} {b0 : Nat} {t : TypeId} {f0 f1 f2 f3 f4 : Field} {fuel : Nat} {cs : List Value} {x : DataW H × List MemPlace} (ht : P.underlying t = some (.struct #[f0, f1, f2, f3, f4])) (h : DataW.trod enc P w b0 spare held fuel t cs = some x) :
    ∃ y0 y1 y2 y3 y4 n, cs.length = P.cellsOf t ∧ DataW.trod enc P w b0 spare held n f0.type ((cs.drop f0.offset).take (P.cellsOf f0.type)) = some y0 ∧
      DataW.trod enc P w b0 spare held n f1.type ((cs.drop f1.offset).take (P.cellsOf f1.type)) = some y1 ∧ DataW.trod enc P w b0 spare held n f2.type ((cs.drop f2.offset).take (P.cellsOf f2.type)) = some y2 ∧
      DataW.trod enc P w b0 spare held n f3.type ((cs.drop f3.offset).take (P.cellsOf f3.type)) = some y3 ∧ DataW.trod enc P w b0 spare held n f4.type ((cs.drop f4.offset).take (P.cellsOf f4.type)) = some y4 := by
  obtain ⟨xs, n, _, rfl, hl, hlen, hf⟩ := DataW.trod_struct ht h
  match xs, hlen with
  | [y0, y1, y2, y3, y4], _ => exact ⟨y0, y1, y2, y3, y4, n, hl, by simpa using hf 0 f0 rfl, by simpa using hf 1 f1 rfl, by simpa using hf 2 f2 rfl, by simpa using hf 3 f3 rfl, by simpa using hf 4 f4 rfl⟩
theorem list5 {α : Type} {cs : List α} (h : cs.length = 5) : ∃ c0 c1 c2 c3 c4, cs = [c0, c1, c2, c3, c4] := by
  match cs, h with
  | [c0, c1, c2, c3, c4], _ => exact ⟨c0, c1, c2, c3, c4, rfl⟩
set_option maxRecDepth 100000 in
theorem obs_k35 {H : Type} {enc : TypeId × Value → H} {w : World} {spare : Nat → Bool} {held : Bool} (n : Nat) (cs : List Value) (y : DataW H × List MemPlace) (hy : DataW.trod enc Tryz.prog w 0 spare held n 35 cs = some y) : ∃ a, k35.K w a cs ∧ WdO a := by
  obtain ⟨y0, y1, y2, y3, y4, m, hlen, h0, h1, h2, h3, h4⟩ := trod_struct5 Tryz.underlying35 hy
  have hC : Tryz.prog.cellsOf 35 = 5 := by kernel_rfl
  have hC3 : Tryz.prog.cellsOf 3 = 1 := by kernel_rfl
  have hC24 : Tryz.prog.cellsOf 24 = 1 := by kernel_rfl
  have hC33 : Tryz.prog.cellsOf 33 = 1 := by kernel_rfl
  rw [hC] at hlen
  obtain ⟨c0, c1, c2, c3, c4, rfl⟩ := list5 hlen
  simp only [hC3] at h0 h1
  simp only [hC24] at h2
  simp only [hC33] at h3 h4
  obtain ⟨a0, e0, _, w0⟩ := DataW.trod_int Tryz.underlying3 h0
  obtain ⟨a1, e1, _, w1⟩ := DataW.trod_int Tryz.underlying3 h1
  obtain ⟨a2, e2, _, w2⟩ := DataW.trod_int Tryz.underlying24 h2
  obtain ⟨a3, e3, _, w3⟩ := DataW.trod_int Tryz.underlying33 h3
  obtain ⟨a4, e4, _, w4⟩ := DataW.trod_int Tryz.underlying33 h4
  simp at e0 e1 e2 e3 e4
  subst e0 e1 e2 e3 e4
  exact ⟨⟨a0, a1, a2, a3, a4⟩, k35_mk w ⟨a0, a1, a2, a3, a4⟩, i64_wf a0 w0, i64_wf a1 w1, i64_wf a2 w2, (PAll.u32_wf a3 w3).1, (PAll.u32_wf a3 w3).2, (PAll.u32_wf a4 w4).1, (PAll.u32_wf a4 w4).2⟩
set_option maxRecDepth 100000 in
theorem slice_k35 {H : Type} {enc : TypeId × Value → H} {w : World} {r : Reach} {base : Nat} {spare : Nat → Bool} {held : Bool} {v : Value} {x : DataW H} {ps : List MemPlace} (hv : Value.okWide Tryz.prog w r base 31 v) (h : DataW.Trod enc Tryz.prog w 0 spare held 31 v x ps) :
    ∃ (A : Option Addr) (c : Nat) (l : List S35), v = .slice A l.length c ∧ l.length ≤ c ∧ Kd.C k35 w A l.length l ∧ ∀ x ∈ l, WdO x :=
  PAll.slice_kdG (d := k35) (G := WdO) Tryz.underlying31 (by kernel_rfl) obs_k35 hv h
/-- The third table of a row's condition. -/
theorem tabIs_of_third {P : Program} {W : World} {name : String} {k : IntKind} {zs : List Int} {x x2 : String} {dx dx2 : DataW Unit} {rest : List (String × DataW Unit)} {g : Nat} {t e : TypeId} {n : Nat}
    (hg : P.globalNamed name = some g) (hty : (P.globals[g]?).map (·.type) = some t) (ht : P.underlying t = some (.array n e)) (he : P.underlying e = some (.int k)) (hce : P.cellsOf e = 1) (hct : P.cellsOf t = n)
    (h : laidMet P ((x, dx) :: (x2, dx2) :: (name, Lib.tabData k zs) :: rest) W) : Lib.TabIs P W name k zs := by
  obtain ⟨ps, ⟨_, _, _, _, p1, q1, _, _, _, _, h2, _⟩, _⟩ := h
  obtain ⟨_, _, _, _, p2, q2, _, _, _, _, h3, _⟩ := h2
  obtain ⟨g', t', cs, fuel, p, q, hg', ht', hvar, hd, _, _⟩ := h3
  obtain rfl := Option.some.inj (hg.symm.trans hg')
  obtain rfl := Option.some.inj (hty.symm.trans ht')
  unfold Lib.TabIs
  rw [hvar, ← Lib.cells_of_tab ht he hce hct hd]
theorem pow_is : (Rows.laid_internal_strconv_uint64pow10 : DataW Unit) = Lib.tabData .u64 Lib.pow10Tab := by kernel_rfl
end Go.Proofs.YtcmildkkigccaaaGreatDoor.PLin
