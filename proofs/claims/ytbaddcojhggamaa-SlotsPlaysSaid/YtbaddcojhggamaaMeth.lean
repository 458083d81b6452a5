/-
  none, there, Get, New.
-/
import Derived.Test.YtbaddcojhggamaaServe
import Derived.Laws.ResultCell
namespace Go.Proofs.Ytbaddcojhggamaa.PAll
open Go.RowKit Go.Shelf Go.Proofs.YtbaddcojhggamaaM Go.Proofs.YtbaddcojhggamaaW.PrintWords Go.Proofs.YtbaddcojhggamaaW.PrintLast Go.Proofs.YtbaddcojhggamaaW.PrintMore
set_option linter.unusedVariables false
set_option linter.unusedSimpArgs false
section
variable {P : Program} {w : World} {ops : Array Oper} {rest : List Oper} {o : Oper} {a : Act} {Q : Exit → Act → World → Prop} {m : Nat} {f : Int → Option Value} {t kt e : TypeId}
theorem wpList_look (hg : o.guard = none) (x y : Operand) (t : TypeId) (hop : o.op = Op.lookup t x y true) (kt e : TypeId) (ht : P.underlying t = some (.map kt e)) (hk : P.underlying kt = some (.int .i64)) {z : Value} (hz : (zeroValue e).run P w = .ok z w)
    (m : Nat) (f : Int → Option Value) (hm : a.eval x = .map (some m)) (h : MapI w m f) (k : Int) (hx : a.eval y = .int .i64 k) (hK : wpList P ops Q rest (a.put o.dst (.tuple #[(f k).getD z, .bool (f k).isSome])) w) :
    wpList P ops Q (o :: rest) a w := by
  refine wpList_plain hg fun K' hK' => ?_
  have hrun := h.look ht hk hz k
  unfold Oper.wp
  simp [execOp, hop, hm, hx, hrun, Result.andThen]
  exact hK' _ _ hK
theorem wpList_store (hg : o.guard = none) (x y v : Operand) (t : TypeId) (hop : o.op = Op.mapUpdate t x y v ∨ o.op = Op.insert t x y v) (kt e : TypeId) (ht : P.underlying t = some (.map kt e)) (hk : P.underlying kt = some (.int .i64))
    (m : Nat) (f : Int → Option Value) (hm : a.eval x = .map (some m)) (h : MapI w m f) (k : Int) (hx : a.eval y = .int .i64 k) (u : Value) (hv : a.eval v = u)
    (hK : ∀ w', MapI w' m (fun j => if j = k then some u else f j) → w.grownBy w' (some m) → w'.heap.size = w.heap.size → wpList P ops Q rest (a.put o.dst undef) w') :
    wpList P ops Q (o :: rest) a w := by
  refine wpList_plain hg fun K' hK' => ?_
  obtain ⟨es, c, hrun, h2⟩ := h.store (P := P) ht hk k u
  have h3 := hK _ h2 ⟨rfl, rfl, rfl, by simp, fun k _ hk => (Array.getElem?_setIfInBounds_ne (fun e => hk (by rw [e])))⟩ (by simp)
  unfold Oper.wp
  rcases hop with hop | hop <;> (simp [execOp, hop, hm, hx, hv, hrun, Result.andThen]; exact hK' _ _ h3)
end
theorem eqIn_map_some (d : Nat) (w : World) (r : Nat) : (Op.equalIn (d + 1) 58 (.map (some r)) (.map none)).run Try.prog w = .ok false w := by
  simp [Op.equalIn, run_underlying Try.underlying58]
theorem eqIn_map_none (d : Nat) (w : World) : (Op.equalIn (d + 1) 58 (.map none) (.map none)).run Try.prog w = .ok true w := by
  simp [Op.equalIn, run_underlying Try.underlying58]
theorem eq_map_some (w : World) (r : Nat) : (Op.equal 58 (.map (some r)) (.map none)).run Try.prog w = .ok false w := eqIn_map_some 9999 w r
theorem eq_map_none (w : World) : (Op.equal 58 (.map none) (.map none)).run Try.prog w = .ok true w := eqIn_map_none 9999 w
theorem eql_map_some (w : World) (r : Nat) : (binOp .eql 58 (.map (some r)) (.map none)).run Try.prog w = .ok (.bool false) w := by
  simp only [binOp]
  simp [eq_map_some w r]
theorem eql_map_none (w : World) : (binOp .eql 58 (.map none) (.map none)).run Try.prog w = .ok (.bool true) w := by
  simp only [binOp]
  simp [eq_map_none w]
attribute [local go_sem] eql_map_some eql_map_none
theorem none_calls (g m : Nat) (most : Int) (c : Int → Option S36) (w : World) (hc : TabW w g m most c) : Calls Try.prog 28 #[.pointer (some ⟨g, 0, none⟩)] w fun e W' => e = .returned (.bool false) ∧ W' = w := by
  have g1 : w.cell? ⟨g, 1, none⟩ = some (.map (some m)) := (blk_cell hc.1 1).trans rfl
  have HC := Aside0.mk hc
  clear hc
  go_enter Try.func28, Try.ntmps28
  go_wp2
  go_ret
  exact ⟨rfl, rfl⟩
theorem none_unmade (g : Nat) (most : Int) (w : World) (hc : w.heap[g]? = some (.cells #[.int .i64 most, .map none] 60 (0, 0))) : Calls Try.prog 28 #[.pointer (some ⟨g, 0, none⟩)] w fun e W' => e = .returned (.bool true) ∧ W' = w := by
  have g1 : w.cell? ⟨g, 1, none⟩ = some (.map none) := (blk_cell hc 1).trans rfl
  have HC := Aside0.mk hc
  clear hc
  go_enter Try.func28, Try.ntmps28
  go_wp2
  go_ret
  exact ⟨rfl, rfl⟩
theorem none_nil (w : World) : Calls Try.prog 28 #[.pointer none] w fun e W' => e = .returned (.bool true) ∧ W' = w := by
  go_enter Try.func28, Try.ntmps28
  go_wp2
  go_ret
  exact ⟨rfl, rfl⟩
theorem res_pv {fn : Func} {x u : Tmp} (h : fn.results = #[.cell x 36, .tmp u]) {tmps : Array Value} {W : World} {b : Nat} {q : S36} {v : Value} (hb : tmps.getD x undef = .pointer (some ⟨b, 0, none⟩)) (hv : tmps.getD u undef = v)
    (hc : W.heap[b]? = some (.cells #[.int .i64 q.f0, .int .i64 q.f1, .int .i64 q.f2, .int .u32 q.f3] 36 (0, 0))) : (results fn tmps).run Try.prog W = .ok (.tuple #[pv q, v]) W := by
  have c0 := (blk_cell hc 0).trans rfl
  have c1 := (blk_cell hc 1).trans rfl
  have c2 := (blk_cell hc 2).trans rfl
  have c3 := (blk_cell hc 3).trans rfl
  rw [results_cell_tmp h, hb, hv]
  simp [go_sem, pv, c0, c1, c2, c3]
/-- What there tells. -/
def thereR (c : Int → Option S36) (pid : Int) : S36 × Int := match c pid with | some p => (p, 0) | none => (⟨0, 0, 0, 0⟩, 4)
set_option maxHeartbeats 4000000 in
theorem there_calls (g m : Nat) (most : Int) (c : Int → Option S36) (pid : Int) (w : World) (hc : TabW w g m most c) :
    Calls Try.prog 22 #[.pointer (some ⟨g, 0, none⟩), .int .i64 pid] w fun e W' => e = .returned (.tuple #[pv (thereR c pid).1, .int .i64 (thereR c pid).2]) ∧ w.grownBy W' none := by
  have HC := Aside0.mk hc
  clear hc
  go_enter Try.func22, Try.ntmps22
  have HT := Aside0.mk (HC.out.grown (World.grownBy_alloc w (.cells #[.int .i64 0, .int .i64 0, .int .i64 0, .int .u32 0] 36) none) (by simp) (by simp))
  have g1 : (w.alloc (.cells #[.int .i64 0, .int .i64 0, .int .i64 0, .int .u32 0] 36)).cell? ⟨g, 1, none⟩ = some (.map (some m)) := (blk_cell HT.out.1 1).trans rfl
  cases hck : c pid with
  | none =>
    have HK := Aside0.mk hck
    clear hck
    go_wp2_with (first | (go_at_call 28; refine (none_calls g m most c _ HT.out).mono ?_; rintro e w' ⟨rfl, rfl⟩) | (at_lookup; refine wpList_look rfl _ _ 58 rfl 3 36 Try.underlying58 Try.underlying3 (Try.zeroValue36 _) m _ rfl HT.out.2 pid rfl ?_; simp only [HK.out, Option.map_none, Option.getD_none, Option.isSome_none]))
    refine bodyPost_ret (res_pv (q := ⟨0, 0, 0, 0⟩) (v := .int .i64 4) rfl rfl rfl (blk_alloc (new_at _ rfl) _)) rfl ?_
    refine ⟨by unfold thereR; rw [HK.out], (World.grownBy_alloc w _ none).trans (World.grownBy_alloc _ _ none)⟩
  | some p =>
    have HK := Aside0.mk hck
    clear hck
    go_wp2_with (first | (go_at_call 28; refine (none_calls g m most c _ HT.out).mono ?_; rintro e w' ⟨rfl, rfl⟩) | (at_lookup; refine wpList_look rfl _ _ 58 rfl 3 36 Try.underlying58 Try.underlying3 (Try.zeroValue36 _) m _ rfl HT.out.2 pid rfl ?_; simp only [HK.out, Option.map_some, Option.getD_some, Option.isSome_some, pv]))
    refine bodyPost_ret (res_pv (q := p) (v := .int .i64 0) rfl rfl rfl (blk_alloc (new_at _ rfl) _)) rfl ?_
    refine ⟨by unfold thereR; rw [HK.out], (World.grownBy_alloc w _ none).trans (World.grownBy_alloc _ _ none)⟩
set_option maxHeartbeats 4000000 in
theorem there_none (v : Option Addr) (pid : Int) (w : World) (hn : ∀ W : World, w.grownBy W none → Calls Try.prog 28 #[.pointer v] W fun e W' => e = .returned (.bool true) ∧ W' = W) :
    Calls Try.prog 22 #[.pointer v, .int .i64 pid] w fun e W' => e = .returned (.tuple #[pv ⟨0, 0, 0, 0⟩, .int .i64 1]) ∧ w.grownBy W' none := by
  have HN := Aside0.mk hn
  clear hn
  go_enter Try.func22, Try.ntmps22
  go_wp2_with (go_at_call 28; refine (HN.out _ (World.grownBy_alloc w _ none)).mono ?_; rintro e w' ⟨rfl, rfl⟩)
  refine bodyPost_ret (res_pv (q := ⟨0, 0, 0, 0⟩) (v := .int .i64 1) rfl rfl rfl (new_at _ rfl)) rfl ?_
  exact ⟨rfl, World.grownBy_alloc w _ none⟩
def set4 (W : World) (b : Nat) (q : S36) : World := (((W.setCell ⟨b, 0, none⟩ (.int .i64 q.f0)).setCell ⟨b, 1, none⟩ (.int .i64 q.f1)).setCell ⟨b, 2, none⟩ (.int .i64 q.f2)).setCell ⟨b, 3, none⟩ (.int .u32 q.f3)
theorem set4_blk {W : World} {b : Nat} {v0 v1 v2 v3 : Value} (h : W.heap[b]? = some (.cells #[v0, v1, v2, v3] 36 (0, 0))) (q : S36) : (set4 W b q).heap[b]? = some (.cells #[.int .i64 q.f0, .int .i64 q.f1, .int .i64 q.f2, .int .u32 q.f3] 36 (0, 0)) :=
  blk_put (blk_put (blk_put (blk_put h 0 _ rfl) 1 _ rfl) 2 _ rfl) 3 _ rfl
theorem set4_far (W : World) (b : Nat) (q : S36) {j : Nat} (hj : j ≠ b) : (set4 W b q).heap[j]? = W.heap[j]? := by
  unfold set4
  rw [Below.heap_setCell _ ⟨b, 3, none⟩ _ j hj, Below.heap_setCell _ ⟨b, 2, none⟩ _ j hj, Below.heap_setCell _ ⟨b, 1, none⟩ _ j hj, Below.heap_setCell _ ⟨b, 0, none⟩ _ j hj]
theorem set4_grown {w W : World} {row : Option Nat} (h : w.grownBy W row) {b : Nat} (hb : w.heap.size ≤ b) (q : S36) : w.grownBy (set4 W b q) row :=
  (((h.andThen (gb_set _ _ _ _) (fun j e => by cases e; exact .inl hb)).andThen (gb_set _ _ _ _) (fun j e => by cases e; exact .inl hb)).andThen (gb_set _ _ _ _) (fun j e => by cases e; exact .inl hb)).andThen (gb_set _ _ _ _) (fun j e => by cases e; exact .inl hb)
def getR (c : Int → Option S36) (pid : Int) : S36 × Bool := match c pid with | some p => (p, true) | none => (⟨0, 0, 0, 0⟩, false)
set_option maxHeartbeats 4000000 in
theorem get_calls (g m : Nat) (most : Int) (c : Int → Option S36) (pid : Int) (w : World) (hc : TabW w g m most c) :
    Calls Try.prog 14 #[.pointer (some ⟨g, 0, none⟩), .int .i64 pid] w fun e W' => e = .returned (.tuple #[pv (getR c pid).1, .bool (getR c pid).2]) ∧ w.grownBy W' none := by
  have HC := Aside0.mk hc
  clear hc
  go_enter Try.func14, Try.ntmps14
  obtain ⟨q, k, hqk⟩ : ∃ q k, thereR c pid = (q, k) := ⟨_, _, rfl⟩
  have HQ := Aside0.mk hqk
  clear hqk
  go_wp2_with (go_at_call 22; refine (there_calls g m most c pid _ (HC.out.grown (World.grownBy_alloc w _ none) (by simp) (by simp))).mono ?_; rintro e w' ⟨rfl, hg⟩; rw [HQ.out]; simp only [pv]; have e1 := blk_alloc (blk_grown (new_at (W := w) (.cells #[.int .i64 0, .int .i64 0, .int .i64 0, .int .u32 0] 36) rfl) hg (by simp)) (.cells #[.int .i64 q.f0, .int .i64 q.f1, .int .i64 q.f2, .int .u32 q.f3] 36); have c0 := (blk_cell e1 0).trans rfl; have c1 := (blk_cell e1 1).trans rfl; have c2 := (blk_cell e1 2).trans rfl; have c3 := (blk_cell e1 3).trans rfl; have d0 := blk_frozen e1 0; have d1 := blk_frozen e1 1; have d2 := blk_frozen e1 2; have d3 := blk_frozen e1 3; have HE := Aside0.mk e1; have HG := Aside0.mk hg; clear hg e1)
  refine bodyPost_ret (res_pv (q := q) (v := .bool (k == 0)) rfl rfl rfl (set4_blk HE.out q)) rfl ?_
  refine ⟨?_, set4_grown (((World.grownBy_alloc w _ none).trans HG.out).trans (World.grownBy_alloc _ _ none)) (Nat.le_refl _) q⟩
  have h := HQ.out
  unfold thereR at h
  unfold getR
  cases hc : c pid with
  | none => rw [hc] at h; cases h; rfl
  | some p => rw [hc] at h; cases h; rfl
set_option maxHeartbeats 1000000 in
theorem get_none_q (q : S36) (hq : q = ⟨0, 0, 0, 0⟩) (v : Option Addr) (pid : Int) (w : World) (hn : ∀ W : World, w.grownBy W none → Calls Try.prog 28 #[.pointer v] W fun e W' => e = .returned (.bool true) ∧ W' = W) :
    Calls Try.prog 14 #[.pointer v, .int .i64 pid] w fun e W' => e = .returned (.tuple #[pv q, .bool false]) ∧ w.grownBy W' none := by
  have HN := Aside0.mk hn
  have HQ := Aside0.mk hq
  clear hn hq
  go_enter Try.func14, Try.ntmps14
  go_wp2_with (go_at_call 22; refine (there_none v pid _ (fun W hg => HN.out W ((World.grownBy_alloc w _ none).trans hg))).mono ?_; rintro e w' ⟨rfl, hg⟩; rw [← HQ.out]; simp only [pv]; have e1 := blk_alloc (blk_grown (new_at (W := w) (.cells #[.int .i64 0, .int .i64 0, .int .i64 0, .int .u32 0] 36) rfl) hg (by simp)) (.cells #[.int .i64 q.f0, .int .i64 q.f1, .int .i64 q.f2, .int .u32 q.f3] 36); have c0 := (blk_cell e1 0).trans rfl; have c1 := (blk_cell e1 1).trans rfl; have c2 := (blk_cell e1 2).trans rfl; have c3 := (blk_cell e1 3).trans rfl; have d0 := blk_frozen e1 0; have d1 := blk_frozen e1 1; have d2 := blk_frozen e1 2; have d3 := blk_frozen e1 3; have HE := Aside0.mk e1; have HG := Aside0.mk hg; clear hg e1)
  refine bodyPost_ret (res_pv (q := q) (v := .bool false) rfl rfl rfl (set4_blk HE.out q)) rfl ?_
  exact ⟨rfl, set4_grown (((World.grownBy_alloc w _ none).trans HG.out).trans (World.grownBy_alloc _ _ none)) (Nat.le_refl _) q⟩
theorem get_none (v : Option Addr) (pid : Int) (w : World) (hn : ∀ W : World, w.grownBy W none → Calls Try.prog 28 #[.pointer v] W fun e W' => e = .returned (.bool true) ∧ W' = W) :
    Calls Try.prog 14 #[.pointer v, .int .i64 pid] w fun e W' => e = .returned (.tuple #[pv ⟨0, 0, 0, 0⟩, .bool false]) ∧ w.grownBy W' none := get_none_q _ rfl v pid w hn
end Go.Proofs.Ytbaddcojhggamaa.PAll
