/-
  The table in memory; the iterator over it.
-/
import Derived.Test.YtbaddcojhggamaaAllBase
import Derived.Test.YtbaddcojhggamaaMp
import Derived.Test.YtbaddcojhggamaaRf
import Derived.Maps.OwnIn
import Derived.Shelf.Abstract
import Derived.Shelf.RegionOpen
import Derived.WalkKit
import Derived.OwnWalkIn
import Derived.TacticsInMore
import Derived.LoopNIn
import Derived.LoopIn
namespace Go.Proofs.Ytbaddcojhggamaa.PAll
open Go.RowKit Go.Shelf Go.Proofs.YtbaddcojhggamaaM Go.Proofs.YtbaddcojhggamaaW.PrintWords Go.Proofs.YtbaddcojhggamaaW.PrintLast Go.Proofs.YtbaddcojhggamaaW.PrintMore
attribute [local go_sem] Oper.semAt_some
set_option linter.unusedVariables false
set_option linter.unusedSimpArgs false
/-! look-ups, stores, deletes, as the fenced walk meets them -/
section
variable {F : Fence} {nF : Nat} {P : Program} {w : World} {ops : Array Oper} {rest : List Oper} {o : Oper} {a : Act} {Q : Exit → Act → World → Prop} {m : Nat} {f : Int → Option Value} {t kt e : TypeId}
theorem wpListIn_look (hg : o.guard = none) (x y : Operand) (t : TypeId) (hop : o.op = Op.lookup t x y true) (kt e : TypeId) (ht : P.underlying t = some (.map kt e)) (hk : P.underlying kt = some (.int .i64)) {z : Value} (hz : (zeroValue e).run P w = .ok z w)
    (m : Nat) (f : Int → Option Value) (hm : a.eval x = .map (some m)) (h : MapI w m f) (k : Int) (hx : a.eval y = .int .i64 k) (hK : wpListIn F nF P ops Q rest (a.put o.dst (.tuple #[(f k).getD z, .bool (f k).isSome])) w) :
    wpListIn F nF P ops Q (o :: rest) a w := by
  refine wpListIn_plain hg fun K' hK' => ?_
  have hrun := h.look ht hk hz k
  unfold Oper.wpIn
  refine ⟨by simp [Oper.about, hop], ?_⟩
  rw [Oper.semAt_plain F _ _ (by rw [hop]; intro c hc'; cases hc')]
  simp [execOp, hop, hm, hx, hrun, Result.andThen]
  exact hK' _ _ hK
theorem wpListIn_store (hg : o.guard = none) (x y v : Operand) (t : TypeId) (hop : o.op = Op.mapUpdate t x y v) (kt e : TypeId) (ht : P.underlying t = some (.map kt e)) (hk : P.underlying kt = some (.int .i64))
    (m : Nat) (f : Int → Option Value) (hm : a.eval x = .map (some m)) (h : MapI w m f) (k : Int) (hx : a.eval y = .int .i64 k) (u : Value) (hv : a.eval v = u)
    (hK : ∀ w', MapI w' m (fun j => if j = k then some u else f j) → w.grownBy w' (some m) → w'.heap.size = w.heap.size → wpListIn F nF P ops Q rest (a.put o.dst undef) w') :
    wpListIn F nF P ops Q (o :: rest) a w := by
  refine wpListIn_plain hg fun K' hK' => ?_
  obtain ⟨es, c, hrun, h2⟩ := h.store (P := P) ht hk k u
  unfold Oper.wpIn
  refine ⟨by simp [Oper.about, hop], ?_⟩
  rw [Oper.semAt_plain F _ _ (by rw [hop]; intro c hc'; cases hc')]
  simp [execOp, hop, hm, hx, hv, hrun, Result.andThen]
  exact hK' _ _ (hK _ h2 ⟨rfl, rfl, rfl, by simp, fun k _ hk => (Array.getElem?_setIfInBounds_ne (fun e => hk (by rw [e])))⟩ (by simp))
theorem wpListIn_drop (hg : o.guard = none) (x y : Operand) (t k2 : TypeId) (hop : o.op = Op.call { callee := Callee.builtin Builtin.delete, args := #[x, y], argTypes := #[t, k2] }) (kt e : TypeId) (ht : P.underlying t = some (.map kt e)) (hk : P.underlying kt = some (.int .i64))
    (m : Nat) (f : Int → Option Value) (hm : a.eval x = .map (some m)) (h : MapI w m f) (k : Int) (hx : a.eval y = .int .i64 k)
    (hK : ∀ w', MapI w' m (fun j => if j = k then none else f j) → w.grownBy w' (some m) → w'.heap.size = w.heap.size → wpListIn F nF P ops Q rest (a.put o.dst (.tuple #[])) w') :
    wpListIn F nF P ops Q (o :: rest) a w := by
  refine wpListIn_plain hg fun K' hK' => ?_
  obtain ⟨es, c, hrun, h2⟩ := h.drop (P := P) ht hk k o.type k2
  unfold Oper.wpIn
  refine ⟨by simp [Oper.about, hop, resolve, Target.leads, Sem.run_pure], ?_⟩
  rw [Oper.semAt_plain F _ _ (by rw [hop]; intro c hc'; cases hc')]
  simp [execOp, hop, resolve, invoke, builtin, hm, hx, hrun, Result.andThen]
  exact hK' _ _ (hK _ h2 ⟨rfl, rfl, rfl, by simp, fun k _ hk => (Array.getElem?_setIfInBounds_ne (fun e => hk (by rw [e])))⟩ (by simp))
end
/-! the table -/
def pv (p : S36) : Value := .agg #[.int .i64 p.f0, .int .i64 p.f1, .int .i64 p.f2, .int .u32 p.f3]
def TabW (W : World) (g m : Nat) (most : Int) (c : Int → Option S36) : Prop :=
  W.heap[g]? = some (.cells #[.int .i64 most, .map (some m)] 60 (0, 0)) ∧ MapI W m (fun k => (c k).map pv)
theorem pv_inj {p q : S36} (h : pv p = pv q) : p = q := by
  cases p; cases q
  simp [pv] at h
  obtain ⟨rfl, rfl, rfl, rfl⟩ := h
  rfl
theorem mapI_uniq {W : World} {m : Nat} {f g : Int → Option Value} (h : MapI W m f) (h' : MapI W m g) : f = g := by
  obtain ⟨es, c, h1, _, _, h4⟩ := h
  obtain ⟨es', c', h1', _, _, h4'⟩ := h'
  rw [h1] at h1'
  injection h1' with h1'
  injection h1' with h1' _
  subst h1'
  funext k
  rw [← h4, ← h4']
theorem TabW.uniq {W : World} {g m m' : Nat} {most most' : Int} {c c' : Int → Option S36} (h : TabW W g m most c) (h' : TabW W g m' most' c') : m = m' ∧ most = most' ∧ c = c' := by
  have h1 := h.1
  rw [h'.1] at h1
  simp at h1
  obtain ⟨rfl, rfl⟩ := h1
  refine ⟨rfl, rfl, ?_⟩
  have h2 := mapI_uniq h.2 h'.2
  funext k
  have h3 := congrFun h2 k
  cases h4 : c k with
  | none => cases h5 : c' k with
    | none => rfl
    | some q => rw [h4, h5] at h3; cases h3
  | some p => cases h5 : c' k with
    | none => rw [h4, h5] at h3; cases h3
    | some q => rw [h4, h5] at h3; rw [pv_inj (Option.some.inj h3)]
theorem TabW.same {W W' : World} {g m : Nat} {most : Int} {c : Int → Option S36} (h : TabW W g m most c) (hg : W'.heap[g]? = W.heap[g]?) (hm : W'.heap[m]? = W.heap[m]?) : TabW W' g m most c := ⟨hg.trans h.1, h.2.same hm⟩
theorem TabW.lt {W : World} {g m : Nat} {most : Int} {c : Int → Option S36} (h : TabW W g m most c) : g < W.heap.size ∧ m < W.heap.size := ⟨(Array.getElem?_eq_some_iff.1 h.1).1, h.2.lt⟩
theorem TabW.grown {W W' : World} {g m : Nat} {most : Int} {c : Int → Option S36} {row : Option Nat} (h : TabW W g m most c) (hg : W.grownBy W' row) (h1 : some g ≠ row) (h2 : some m ≠ row) : TabW W' g m most c :=
  h.same (hg.block _ h.lt.1 h1) (hg.block _ h.lt.2 h2)
/-! the iterator -/
def BoxT (W : World) (bx g : Nat) : Prop := W.heap[bx]? = some (.cells #[.pointer (some ⟨g, 0, none⟩)] 25 (0, 0))
def itT (bx g m : Nat) (most : Int) (W : World) : Prop := BoxT W bx g ∧ ∃ c, TabW W g m most c
def itR (g m : Nat) (most : Int) (s : Nat) (x : S36) (s' : Nat) (W : World) : Prop := ∃ (c : Int → Option S36) (k : Nat), TabW W g m most c ∧ s ≤ k ∧ (k : Int) ≤ most ∧ s' = k + 1 ∧ (∀ j : Nat, s ≤ j → j < k → c j = none) ∧ c k = some x
def itE (g m : Nat) (most : Int) (s : Nat) (W : World) : Prop := ∃ c, TabW W g m most c ∧ ∀ j : Nat, s ≤ j → (j : Int) ≤ most → c j = none
theorem blk_alloc {W : World} {g : Nat} {o : Obj} (h : W.heap[g]? = some o) (o' : Obj) : (W.alloc o').heap[g]? = some o := (Below.heap_alloc W o' g (Array.getElem?_eq_some_iff.1 h).1).trans h
theorem blk_setCell {W : World} {g b : Nat} {o : Obj} (h : W.heap[g]? = some o) (hne : g ≠ b) (j : Nat) (u : Value) : (W.setCell ⟨b, j, none⟩ u).heap[g]? = some o := (Below.heap_setCell W ⟨b, j, none⟩ u g hne).trans h
set_option maxRecDepth 100000 in
set_option maxHeartbeats 4000000 in
theorem all_seq (n : Nat) (hn : 1 ≤ n) (bx g m : Nat) (most : Int) (hmost : most ≤ 1000) : SeqD Fence.wide n Try.prog 29 #[.pointer (some ⟨bx, 0, none⟩)] (fun x : S36 => #[pv x]) (itT bx g m most) (itR g m most) (itE g m most) 1 := by
  intro l J Jx W hJ hJx hT hY h0
  refine callsIn_of_wp Try.func29 rfl trivial ?_ rfl
  simp only [Try.ntmps29, List.size_toArray, List.length_cons, List.length_nil, Nat.reduceAdd, Nat.reduceSub, Array.replicate_succ, Array.replicate_zero, List.push_toArray, List.append_toArray, List.nil_append, List.cons_append]
  gi_wp2
  gi_loopw [3] (fun p wr => ∃ (s k : Nat) (c : Int → Option S36), p = .int .i64 (k : Int) ∧ s ≤ k ∧ (k : Int) ≤ 1001 ∧ J s wr ∧ BoxT wr bx g ∧ TabW wr g m most c ∧ ∀ j : Nat, s ≤ j → j < k → c j = none)
    (fun p wr => (1002 - intOf p).toNat)
  case atStart =>
    obtain ⟨hb, c, hc⟩ := hT _ _ h0
    exact ⟨1, 1, c, rfl, Nat.le_refl _, by decide, h0, hb, hc, fun j h1 h2 => by omega⟩
  case round =>
    obtain ⟨s, k, c, rfl, hsk, hk1, hj, hb, hc, hn0⟩ := hrel
    have b0 : wr.cell? ⟨bx, 0, none⟩ = some (.pointer (some ⟨g, 0, none⟩)) := (blk_cell hb 0).trans rfl
    have g0 : wr.cell? ⟨g, 0, none⟩ = some (.int .i64 most) := (blk_cell hc.1 0).trans rfl
    have g1 : wr.cell? ⟨g, 1, none⟩ = some (.map (some m)) := (blk_cell hc.1 1).trans rfl
    have HC := Aside0.mk hc
    have HJ := Aside0.mk hj
    have HB := Aside0.mk hb
    have HN := Aside0.mk hn0
    have HY := Aside0.mk hY
    have HJW := Aside0.mk hJ
    have HTT := Aside0.mk hT
    clear hc hj hb hn0 hY hJ hJx hT h0
    by_cases hkm : (k : Int) ≤ most
    · cases hck : c k with
      | none =>
        have HK := Aside0.mk hck
        clear hck
        gi_wp2_with (first | (gi_at_lookup; refine wpListIn_look rfl _ _ 58 rfl 3 36 Try.underlying58 Try.underlying3 (Try.zeroValue36 _) m _ rfl HC.out.2 (k : Int) rfl ?_; simp only [HK.out, Option.map_none, Option.getD_none, Option.isSome_none]) | (refine wpListIn_skip (o := { dst := some 27, op := _, type := _, pos := _, after := _, guard := some (1, true) }) rfl (by simp [Oper.about, resolve, undef, go_sem]) ?_))
        go_roundw
        case rel =>
          refine ⟨s, k + 1, c, by simp, by omega, by omega, HJW.out s _ _ HJ.out (World.grownBy_alloc _ _ _), blk_alloc HB.out _, HC.out.grown (World.grownBy_alloc _ _ none) (by simp) (by simp), fun j h1 h2 => ?_⟩
          by_cases e : j = k
          · subst e; exact HK.out
          · exact HN.out j h1 (by omega)
        case measure => simp [intOf]; omega
      | some p =>
        have HK := Aside0.mk hck
        clear hck
        have hJ1 := HJW.out s _ _ HJ.out (World.grownBy_alloc wr (.cells #[.int .i64 p.f0, .int .i64 p.f1, .int .i64 p.f2, .int .u32 p.f3] 36) none)
        have hC1 : TabW (wr.alloc (.cells #[.int .i64 p.f0, .int .i64 p.f1, .int .i64 p.f2, .int .u32 p.f3] 36)) g m most c := HC.out.grown (World.grownBy_alloc _ _ none) (by simp) (by simp)
        obtain ⟨fn, tmps, assign, body, hy, hR⟩ := HY.out s p (k + 1) _ hJ1 ⟨c, k, hC1, hsk, hkm, rfl, HN.out, HK.out⟩
        have HR := Aside0.mk hR
        simp only [pv] at hy
        clear hR hJ1 hC1
        gi_wp2_with (first | (gi_at_lookup; refine wpListIn_look rfl _ _ 58 rfl 3 36 Try.underlying58 Try.underlying3 (Try.zeroValue36 _) m _ rfl HC.out.2 (k : Int) rfl ?_; simp only [HK.out, Option.map_some, Option.getD_some, Option.isSome_some, pv]))
        refine HR.out.mono ?_
        rintro e W' (⟨rfl, hJ'⟩ | ⟨rfl, hJx'⟩)
        · obtain ⟨hb', c', hc'⟩ := HTT.out _ _ hJ'
          have HJ' := Aside0.mk hJ'
          have HB' := Aside0.mk hb'
          have HC' := Aside0.mk hc'
          clear hJ' hb' hc' hy
          gi_wp2
          go_roundw
          case rel => exact ⟨k + 1, k + 1, c', by simp, Nat.le_refl _, by omega, HJ'.out, HB'.out, HC'.out, fun j h1 h2 => by omega⟩
          case measure => simp [intOf]; omega
        · have HJx' := Aside0.mk hJx'
          clear hJx' hy
          gi_wp2
          refine bodyPost_ret (results_none rfl _ _ _) rfl ?_
          exact ⟨⟨_, rfl⟩, .inr HJx'.out⟩
    · gi_wp2
      go_end0
      exact ⟨⟨_, rfl⟩, .inl ⟨s, ⟨c, HC.out, fun j h1 h2 => HN.out j h1 (by omega)⟩, HJ.out⟩⟩
end Go.Proofs.Ytbaddcojhggamaa.PAll
