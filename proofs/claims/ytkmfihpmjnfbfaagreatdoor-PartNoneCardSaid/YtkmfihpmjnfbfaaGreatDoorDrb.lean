/-
  Regions of open order: new blocks, whenever they are laid; the order's masks.
-/
import Derived.Test.YtkmfihpmjnfbfaaGreatDoorDra
namespace Go.Proofs.YtkmfihpmjnfbfaaGreatDoor.Run
open Go
set_option linter.unusedVariables false
set_option linter.unusedSimpArgs false
theorem sameV_eq {a b : Value} (h : sameV a b = true) : a = b := by
  unfold sameV at h
  split at h
  all_goals first
    | rfl
    | (rw [eq_of_beq h]; done)
    | (simp only [Bool.and_eq_true] at h; rw [eq_of_beq h.1, eq_of_beq h.2]; done)
    | (simp only [Bool.and_eq_true] at h; rw [eq_of_beq h.1.1, beq_true h.1.2, beq_true h.2]; done)
    | (simp only [Bool.and_eq_true] at h; rw [beq_true h.1.1, eq_of_beq h.1.2, eq_of_beq h.2]; done)
    | (simp only [Bool.and_eq_true] at h; rw [beq_true h.1, eq_of_beq h.2]; done)
    | (rename_i a b; have := eq_of_beq h; cases a; cases b; simp at this; rw [this]; done)
    | (cases h; done)
    | (simp only [Bool.and_eq_true, List.isEmpty_iff] at h; rw [beq_true h.1.1.1.1, Array.ext' (h.1.1.1.2.trans h.1.2.symm), Array.ext' (h.1.1.2.trans h.2.symm)]; done)
    | skip
theorem sameL_eq : ∀ {l m : List Value}, sameL l m = true → l = m
  | [], [], _ => rfl
  | [], _ :: _, h => by cases h
  | _ :: _, [], h => by cases h
  | a :: l, b :: m, h => by
    simp only [sameL, Bool.and_eq_true] at h
    rw [sameV_eq h.1, sameL_eq h.2]
theorem sameW_eq {a b : Value} (h : sameW a b = true) : a = b := by
  unfold sameW at h
  split at h
  · rw [Array.ext' (sameL_eq h)]
  · rw [Array.ext' (sameL_eq h)]
  · simp only [Bool.and_eq_true] at h
    rw [beq_true h.1.1, Array.ext' (sameL_eq h.1.2), Array.ext' (sameL_eq h.2)]
  · exact sameV_eq h
section
variable {P : Program} {ρ : Rn} {gl : Gl} {ext : Ext} {call : CallR} {round : RoundR} {tm tm2 : Tr Value} {h : AH} {w : World}
theorem cellsOR {t : TypeId} {l l' : List Value} (hl : L2 ρ l l') : OR P ρ 0 (.cells t l.length (Tr.ofFrom l 0 .e) false) (.cells l'.toArray t (0, 0)) := by
  have hlen := hl.length
  refine .cells (by omega) (by simp; omega) (fun i hi => ?_) (fun _ i _ => by omega)
  rw [Tr.get_of]
  have hv : l[i]? = some (l[i]'hi) := by simp
  obtain ⟨v', e1, e2⟩ := hl.get _ _ hv
  exact ⟨_, v', hv, by simpa using e1, e2⟩
/-- A new block: its number is the evaluator's next one, and what it holds hangs on no other. -/
theorem opB_a {o : Oper} (hc : clsB P o = .a) {nx : Nx} (e : opB P ext gl tm h o = some nx) : ∃ (obj : AO) (mk : Nat → Value), obj.live ∧ (∀ h2, opB P ext gl tm h2 o = some (.val (mk h2.next) (h2.new obj))) ∧
    ∀ (ρ : Rn) (sz : Nat) (a : Act) (w : World), GlOk ρ gl → TR ρ sz tm a.tmps → ∃ (x : Obj) (mk' : Nat → Value), (execOp a.eval o).run P w = .ok (.value (mk' w.heap.size)) (w.alloc x) ∧
      (∀ ρ', Sub ρ ρ' → OR P ρ' 0 obj x) ∧ ∀ (ρ' : Rn) (b j : Nat), ρ' b = some j → VR ρ' (mk b) (mk' j) := by
  obtain ⟨dst, op, type, pos, after, guard⟩ := o
  cases op <;> simp only [clsB] at hc <;> (try (cases hc; done)) <;> simp only [opB] at e ⊢
  case alloc t =>
    simp only [Option.map_eq_some_iff] at e
    obtain ⟨z, hz, rfl⟩ := e
    refine ⟨.cells t (Value.cl z).length (Tr.ofFrom (Value.cl z) 0 .e) false, fun b => .pointer (some ⟨b, 0, none⟩), trivial, fun h2 => by rw [hz]; rfl, fun ρ sz a w hg ht => ⟨.cells z.cells t, fun j => .pointer (some ⟨j, 0, none⟩), ?_, fun ρ' hs => ?_, fun ρ' b j hb => .ptr hb⟩⟩
    · show ((do pure (Next.value (← Instr.alloc t true (.tuple #[]))) : Sem Next)).run P w = _
      simp [Instr.alloc, run_zero hz, newVar, newRow]
    · have := cellsOR (P := P) (t := t) (l := Value.cl z) (l' := z.cells.toList) (by rw [cl_eq]; exact flat_cells (ρ := ρ') (zeroB_flat hz).1)
      simpa using this
  case box t x =>
    simp only [Option.map_eq_some_iff] at e
    obtain ⟨v, hv, rfl⟩ := e
    refine ⟨.cells t (Value.cl v).length (Tr.ofFrom (Value.cl v) 0 .e) false, fun b => .pointer (some ⟨b, 0, none⟩), trivial, fun h2 => by rw [hv]; rfl, fun ρ sz a w hg ht => ⟨.cells (a.eval x).cells t, fun j => .pointer (some ⟨j, 0, none⟩), ?_, fun ρ' hs => ?_, fun ρ' b j hb => .ptr hb⟩⟩
    · show ((do pure (Next.value (← Instr.box t (a.eval x))) : Sem Next)).run P w = _
      simp [Instr.box, newVar, newRow]
    · have := cellsOR (P := P) (t := t) (l := Value.cl v) (l' := (a.eval x).cells.toList) (by rw [cl_eq]; exact ((opnd_ok hg ht hv).mono hs).cells)
      simpa using this
  case buildSlice t n ps =>
    simp only [Option.bind_eq_some_iff] at e
    obtain ⟨l, hl, e⟩ := e
    rw [hl]
    simp only [Option.bind_some]
    split at e
    · rename_i el hu
      simp only [Option.bind_eq_some_iff] at e
      obtain ⟨s, hs, z, hz, e⟩ := e
      cases hb : (Nat.ble (n * s) 16777216 && Nat.beq (Value.cl z).length s && Nat.blt n UNK) with
      | false => rw [hb] at e; cases e
      | true =>
        rw [hb] at e
        simp only [cond, Option.map_eq_some_iff] at e
        obtain ⟨cs, hcs, rfl⟩ := e
        obtain ⟨b1, b2, b3⟩ := and3 hb
        have b1 := ble_true b1; have b2 := beq_true b2; have b3 := blt_true b3
        refine ⟨.cells el cs.toList.length (Tr.ofFrom cs.toList 0 .e) false, fun b => .slice (some ⟨b, 0, none⟩) n n, trivial, fun h2 => by rw [hs, hz]; simp only [Option.bind_some]; rw [hb, hcs]; rfl, fun ρ sz a w hg ht => ?_⟩
        have hp := parts_ok hg ht hl
        obtain ⟨cs', q1, q2⟩ := fill_ok _ hp (c := (zeros (Value.cl z) n).toArray) (c' := (zeros (Value.cl z) n).toArray) (flat_zeros (zeroB_flat hz).1 n) hcs
        refine ⟨.cells cs' el, fun j => .slice (some ⟨j, 0, none⟩) n n, ?_, fun ρ' hsub => ?_, fun ρ' b j hb => .slice hb (.inl ⟨rfl, b3⟩) (Nat.le_refl _)⟩
        · have hps : (ps.map fun (i, x) => (i, a.eval x)) = (ps.toList.map fun (i, x) => (i, a.eval x)).toArray := by rw [← List.map_toArray, Array.toArray_toList]
          show ((do pure (Next.value (← Instr.buildSlice t n (ps.map fun (i, x) => (i, a.eval x)))) : Sem Next)).run P w = _
          rw [hps]
          have hcells : ((Array.range (n * s)).map (z.cells[· % z.cells.size]!)) = (zeros (Value.cl z) n).toArray := by
            apply Array.ext'
            rw [zero_row n s b2]
          have hroom : ¬ (2 ^ 24 < n * s) := by omega
          by_cases h0 : n * s = 0
          · have hnil : (zeros (Value.cl z) n) = [] := by
              have := congrArg Array.size hcells
              simp [h0] at this
              exact List.length_eq_zero_iff.1 this.symm
            rw [hnil] at q1
            simp only [Instr.buildSlice, Sem.run_bind, run_under hu, run_size hs, Result.andThen_ok]
            rw [h0]
            have q1' : Instr.fill (fun i => some (i * s, s)) ((Array.range 0).map fun x => (#[] : Array Value)[x % (#[] : Array Value).size]!) (ps.toList.map fun (i, x) => (i, a.eval x)) = some cs' := by
              rw [show (Array.range 0) = #[] from Array.eq_empty_of_size_eq_zero (by simp), Array.map_empty]; exact q1
            simp at q1'
            simp [q1', newRow]
          · simp only [Instr.buildSlice, Sem.run_bind, run_under hu, run_size hs, Result.andThen_ok]
            simp [hroom, h0, run_zero hz, hcells, q1, newRow]
        · have := cellsOR (P := P) (t := el) (q2.mono hsub)
          simpa using this
    · cases e
  case makeMap t r =>
    cases r with
    | some _ => cases hc
    | none =>
      refine ⟨.map [] 0, fun b => .map (some b), trivial, fun h2 => rfl, fun ρ sz a w hg ht => ⟨.map #[] 0, fun j => .map (some j), rfl, fun ρ' hs => .map trivial, fun ρ' b j hb => .map hb⟩⟩
  case call c =>
    obtain ⟨callee, xs, ats⟩ := c
    cases callee with
    | value f => cases hc
    | invoke r name => cases hc
    | builtin b => cases b <;> cases hc
  all_goals (first | (split at hc <;> cases hc) | skip)
/-- A block of the evaluator's that is laid only now. -/
theorem Rel.late (hr : Rel P ρ h w) {β : Nat} {o : AO} {x : Obj} (hβ : ρ β = Option.none) (hlt : β < h.next) (hg : h.get β = some o) (ho : OR P (Run.ext ρ β w.heap.size 0) 0 o x) : Rel P (Run.ext ρ β w.heap.size 0) h (w.alloc x) := by
  have hs := Sub.ext hβ w.heap.size 0
  have hsz : (w.alloc x).heap.size = w.heap.size + 1 := by simp
  have hold : ∀ j, j < w.heap.size → (w.alloc x).heap[j]? = w.heap[j]? := fun j hj => by show (w.heap.push x)[j]? = _; rw [Array.getElem?_push, if_neg (Nat.ne_of_lt hj)]
  refine ⟨fun b j e => ?_, fun b j a e1 e2 e3 => ?_, fun b b' j a a' e1 e2 e3 e4 e5 e6 => ?_⟩
  · simp only [Run.ext] at e
    by_cases hb : b = β
    · rw [if_pos hb] at e; cases e; exact ⟨by omega, by omega⟩
    · rw [if_neg hb] at e; have := hr.dom b j e; exact ⟨this.1, by omega⟩
  · simp only [Run.ext] at e1
    by_cases hb : b = β
    · rw [if_pos hb] at e1; cases e1
      subst hb
      rw [hg] at e2; cases e2
      have hk : (Run.ext ρ b w.heap.size 0).k b = 0 := if_pos rfl
      rw [hk]
      exact ⟨x, (by show (w.heap.push x)[w.heap.size]? = _; rw [Array.getElem?_push, if_pos rfl]), ho⟩
    · rw [if_neg hb] at e1
      obtain ⟨y, hy, hy2⟩ := hr.obj b j a e1 e2 e3
      have hk : (Run.ext ρ β w.heap.size 0).k b = ρ.k b := if_neg hb
      rw [hk]
      exact ⟨y, by rw [hold j (hr.dom b j e1).2]; exact hy, hy2.mono hs⟩
  · simp only [Run.ext] at e1 e2
    by_cases hb : b = β <;> by_cases hb' : b' = β
    · rw [hb, hb']
    · rw [if_pos hb] at e1; rw [if_neg hb'] at e2; cases e1; have := (hr.dom b' _ e2).2; omega
    · rw [if_neg hb] at e1; rw [if_pos hb'] at e2; cases e2; have := (hr.dom b _ e1).2; omega
    · rw [if_neg hb] at e1; rw [if_neg hb'] at e2; exact hr.inj b b' j a a' e1 e2 e3 e4 e5 e6
theorem Fw.late {ρ0 : Rn} {h0 : AH} {w0 : World} (hf : Fw ρ0 h0 w0 ρ h w) {β : Nat} {x : Obj} (hβ : ρ β = none) (hlt : h0.next ≤ β) (hr : Rel P ρ h w) : Fw ρ0 h0 w0 (Run.ext ρ β w.heap.size 0) h (w.alloc x) where
  sub := hf.sub.trans (Sub.ext hβ w.heap.size 0)
  old b hb e := by
    have := hf.old b hb e
    simp only [Run.ext]
    rw [if_neg (by omega)]
    exact this
  new b j e := by
    simp only [Run.ext] at e
    by_cases hb : b = β
    · rw [if_pos hb] at e; cases e; exact .inl hf.size
    · rw [if_neg hb] at e; exact hf.new b j e
  keep j hj hn := by
    have h1 : j < w.heap.size := Nat.lt_of_lt_of_le hj hf.size
    have : (w.alloc x).heap[j]? = w.heap[j]? := by show (w.heap.push x)[j]? = _; rw [Array.getElem?_push, if_neg (Nat.ne_of_lt h1)]
    rw [this]; exact hf.keep j hj hn
  ro b j e n c h1 h2 := by
    have h3 := hf.ro b j e n c h1 h2
    have h4 := (hr.dom b j (hf.sub b j h1).1).2
    have : (w.alloc x).heap[j]? = w.heap[j]? := by show (w.heap.push x)[j]? = _; rw [Array.getElem?_push, if_neg (Nat.ne_of_lt h4)]
    exact ⟨h3.1, this.trans h3.2⟩
  next := hf.next
  size := by have := hf.size; simp; omega
  os := hf.os
  tape := hf.tape
  output := hf.output
theorem Rel.grow (hr : Rel P ρ h w) {h2 : AH} (hs : ∀ b, b < h.next → h2.get b = h.get b) (hn : h.next ≤ h2.next) : Rel P ρ h2 w :=
  ⟨fun b j e => let d := hr.dom b j e; ⟨Nat.lt_of_lt_of_le d.1 hn, d.2⟩, fun b j o e1 e2 e3 => hr.obj b j o e1 ((hs b (hr.dom b j e1).1).symm.trans e2) e3,
    fun b b' j o o' e1 e2 e3 e4 e5 e6 => hr.inj b b' j o o' e1 e2 ((hs b (hr.dom b j e1).1).symm.trans e3) e4 ((hs b' (hr.dom b' j e2).1).symm.trans e5) e6⟩
theorem Fw.grow {ρ0 : Rn} {h0 : AH} {w0 : World} (hf : Fw ρ0 h0 w0 ρ h w) (hr : Rel P ρ h w) {h2 : AH} (hs : ∀ b, b < h.next → h2.get b = h.get b) (hn : h.next ≤ h2.next) : Fw ρ0 h0 w0 ρ h2 w :=
  ⟨hf.sub, fun b hb e => let d := hf.old b hb e; ⟨d.1, (hs b (Nat.lt_of_lt_of_le hb hf.next)).trans d.2⟩, hf.new, hf.keep, fun b j e n c h1 h2' => let d := hf.ro b j e n c h1 h2'; ⟨(hs b (hr.dom b j (hf.sub b j h1).1).1).trans d.1, d.2⟩,
    Nat.le_trans hf.next hn, hf.size, hf.os, hf.tape, hf.output⟩
end
/-! ### The masks -/
theorem testBit_two (i k : Nat) : (2 ^ i).testBit k = decide (i = k) := Nat.testBit_two_pow
theorem fold_bits (acc : List Nat) (k : Nat) : ∀ (l : List Edge) (s : Nat), (l.foldl (fun s e => cond (Region.binds .any e) (s ||| 2 ^ e.on ||| acc.getD e.on 0) s) s).testBit k = true ↔
    s.testBit k = true ∨ ∃ e ∈ l, Region.binds .any e = true ∧ (e.on = k ∨ (acc.getD e.on 0).testBit k = true)
  | [], s => by simp
  | e :: l, s => by
    rw [List.foldl_cons, fold_bits acc k l]
    cases hb : Region.binds .any e with
    | false => simp [hb]
    | true =>
      simp only [cond, Nat.testBit_or, testBit_two, Bool.or_eq_true, decide_eq_true_eq, List.mem_cons]
      constructor
      · rintro (((h | h) | h) | ⟨e', h1, h2⟩)
        · exact .inl h
        · exact .inr ⟨e, .inl rfl, hb, .inl h⟩
        · exact .inr ⟨e, .inl rfl, hb, .inr h⟩
        · exact .inr ⟨e', .inr h1, h2⟩
      · rintro (h | ⟨e', rfl | h1, h2, h3⟩)
        · exact .inl (.inl (.inl h))
        · rcases h3 with h3 | h3
          · exact .inl (.inl (.inr h3))
          · exact .inl (.inr h3)
        · exact .inr ⟨e', h1, h2, h3⟩
def maskB (o : Oper) (acc : List Nat) : Nat := o.after.toList.foldl (fun s e => cond (Region.binds .any e) (s ||| 2 ^ e.on ||| acc.getD e.on 0) s) 0
theorem ancs_eq : ∀ (l : List Oper) (acc : List Nat), ∃ rest, ancs l acc = acc ++ rest ∧ rest.length = l.length ∧ ∀ j o, l[j]? = some o → rest[j]? = some (maskB o (acc ++ rest.take j))
  | [], acc => ⟨[], by simp [ancs], rfl, fun j o e => by simp at e⟩
  | o :: l, acc => by
    obtain ⟨rest, h1, h2, h3⟩ := ancs_eq l (acc ++ [maskB o acc])
    refine ⟨maskB o acc :: rest, ?_, by simp [h2], fun j o' e => ?_⟩
    · simp only [ancs]
      rw [show (acc ++ [o.after.toList.foldl (fun s e => cond (Region.binds .any e) (s ||| 2 ^ e.on ||| acc.getD e.on 0) s) 0]) = acc ++ [maskB o acc] from rfl, h1]
      simp
    · cases j with
      | zero => simp at e; subst e; simp
      | succ j =>
        have := h3 j o' (by simpa using e)
        simp only [List.getElem?_cons_succ, List.take_succ_cons]
        rw [this]
        simp
/-- The mask of an operation, by its number. -/
def ancM (ops : List Oper) (i : Nat) : Nat := (ancs ops [])[i]?.getD 0
theorem ancM_bits {ops : List Oper} {i : Nat} {o : Oper} (ho : ops[i]? = some o) (k : Nat) : (ancM ops i).testBit k = true ↔ ∃ e ∈ o.after.toList, Region.binds .any e = true ∧ (e.on = k ∨ (e.on < i ∧ (ancM ops e.on).testBit k = true)) := by
  obtain ⟨rest, h1, h2, h3⟩ := ancs_eq ops []
  simp only [List.nil_append] at h1 h3
  have hm : ancM ops i = maskB o (rest.take i) := by
    unfold ancM
    rw [h1, h3 i o ho]
    rfl
  rw [hm]
  unfold maskB
  rw [fold_bits]
  have hget : ∀ e : Edge, ((rest.take i).getD e.on 0).testBit k = true ↔ (e.on < i ∧ (ancM ops e.on).testBit k = true) := by
    intro e
    unfold ancM
    rw [h1, List.getD_eq_getElem?_getD, List.getElem?_take]
    by_cases hlt : e.on < i
    · rw [if_pos hlt]; simp [hlt]
    · rw [if_neg hlt]; simp [hlt]
  constructor
  · rintro (h | ⟨e, k1, k2, k3⟩)
    · simp at h
    · refine ⟨e, k1, k2, ?_⟩
      rcases k3 with k3 | k3
      · exact .inl k3
      · exact .inr ((hget e).1 k3)
  · rintro ⟨e, k1, k2, k3⟩
    refine .inr ⟨e, k1, k2, ?_⟩
    rcases k3 with k3 | k3
    · exact .inl k3
    · exact .inr ((hget e).2 k3)
/-- Where s stands in its list: all that is ahead of it. -/
def Good (pre l : List Slot) : Prop := ∀ (l1 : List Slot) (s : Slot) (l2 : List Slot), l = l1 ++ s :: l2 → (∀ s' ∈ pre ++ l1, s'.i ≠ s.i) ∧ (∀ k, s.anc.testBit k = true → ∃ s' ∈ pre ++ l1, s'.i = k) ∧
  ((s.cls.isA || s.cls.isE) = true → ∀ s' ∈ pre ++ l1, s'.cls.isE = true → s.anc.testBit s'.i = true)
theorem or_sub {a b : Nat} (h : Nat.beq (a ||| b) b = true) (k : Nat) (hk : a.testBit k = true) : b.testBit k = true := by
  have := beq_true h
  rw [← this, Nat.testBit_or, hk]; rfl
theorem seqOk_good : ∀ (l pre : List Slot) (d e : Nat), (∀ k, d.testBit k = true ↔ ∃ s ∈ pre, s.i = k) → (∀ k, e.testBit k = true ↔ ∃ s ∈ pre, s.cls.isE = true ∧ s.i = k) → seqOk l d e = true → Good pre l
  | [], pre, d, e, _, _, _ => fun l1 s l2 hl => by cases l1 <;> simp at hl
  | x :: l, pre, d, e, hd, he, h => by
    simp only [seqOk] at h
    obtain ⟨h1, h2, h3, h4⟩ : (!d.testBit x.i) = true ∧ Nat.beq (x.anc ||| d) d = true ∧ (cond (x.cls.isA || x.cls.isE) (Nat.beq (x.anc ||| e) x.anc) true) = true ∧ seqOk l (d ||| 2 ^ x.i) (cond x.cls.isE (e ||| 2 ^ x.i) e) = true := by
      simp only [Bool.and_eq_true] at h
      exact ⟨h.1.1.1, h.1.1.2, h.1.2, h.2⟩
    have IH := seqOk_good l (pre ++ [x]) (d ||| 2 ^ x.i) (cond x.cls.isE (e ||| 2 ^ x.i) e) (fun k => by
      rw [Nat.testBit_or, testBit_two, Bool.or_eq_true, hd, decide_eq_true_eq]
      constructor
      · rintro (⟨s, k1, k2⟩ | k1)
        · exact ⟨s, by simp [k1], k2⟩
        · exact ⟨x, by simp, k1⟩
      · rintro ⟨s, k1, k2⟩
        rcases List.mem_append.1 k1 with k1 | k1
        · exact .inl ⟨s, k1, k2⟩
        · simp at k1; subst k1; exact .inr k2) (fun k => by
      cases hE : x.cls.isE with
      | false =>
        simp only [cond]
        rw [he]
        constructor
        · rintro ⟨s, k1, k2⟩; exact ⟨s, by simp [k1], k2⟩
        · rintro ⟨s, k1, k2, k3⟩
          rcases List.mem_append.1 k1 with k1 | k1
          · exact ⟨s, k1, k2, k3⟩
          · simp at k1; subst k1; rw [hE] at k2; cases k2
      | true =>
        simp only [cond]
        rw [Nat.testBit_or, testBit_two, Bool.or_eq_true, he, decide_eq_true_eq]
        constructor
        · rintro (⟨s, k1, k2⟩ | k1)
          · exact ⟨s, by simp [k1], k2⟩
          · exact ⟨x, by simp, hE, k1⟩
        · rintro ⟨s, k1, k2, k3⟩
          rcases List.mem_append.1 k1 with k1 | k1
          · exact .inl ⟨s, k1, k2, k3⟩
          · simp at k1; subst k1; exact .inr k3) h4
    intro l1 s l2 hl
    cases l1 with
    | nil =>
      simp only [List.nil_append, List.cons.injEq] at hl
      obtain ⟨rfl, rfl⟩ := hl
      refine ⟨fun s' hs' hi => ?_, fun k hk => ?_, fun hae s' hs' hE => ?_⟩
      · have : d.testBit x.i = true := (hd _).2 ⟨s', by simpa using hs', hi⟩
        rw [this] at h1; cases h1
      · obtain ⟨s', k1, k2⟩ := (hd k).1 (or_sub h2 k hk)
        exact ⟨s', by simpa using k1, k2⟩
      · rw [hae] at h3
        have h3' : Nat.beq (e ||| x.anc) x.anc = true := by rw [Nat.or_comm]; exact h3
        exact or_sub h3' _ ((he _).2 ⟨s', by simpa using hs', hE, rfl⟩)
    | cons y l1 =>
      simp only [List.cons_append, List.cons.injEq] at hl
      obtain ⟨rfl, hl⟩ := hl
      have := IH l1 s l2 hl
      simpa [List.append_assoc] using this
end Go.Proofs.YtkmfihpmjnfbfaaGreatDoor.Run
