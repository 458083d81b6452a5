/-
  A map with int keys, by what it answers for each key: look up, store, delete. For any program.
-/
import Derived.MapKept
import Derived.WideLaws
import Derived.Below
import Derived.WalkKit
import Derived.OwnWalk
import Derived.Maps.OwnSet
namespace Go.Proofs.YtbaddcojhggamaaM
open Go.RowKit
set_option linter.unusedVariables false
set_option linter.unusedSimpArgs false
def keyI (e : MapEntry) : Option Int := match e.key with | .int .i64 a => some a | _ => none
def KeysI (l : List MapEntry) : Prop := ∀ e ∈ l, ∃ a, e.key = .int .i64 a
def lookI (k : Int) : List MapEntry → Nat → Option (Nat × Value)
  | [], _ => none
  | e :: es, i => if keyI e = some k then some (i, e.val) else lookI k es (i + 1)
def findI (l : List MapEntry) (k : Int) : Option Value := (lookI k l 0).map (·.2)
def ApartI (l : List MapEntry) : Prop := l.Pairwise fun x y => keyI x ≠ keyI y
theorem keyI_of {e : MapEntry} {a : Int} (h : e.key = .int .i64 a) : keyI e = some a := by unfold keyI; rw [h]
theorem findNow_I (k : Int) : ∀ (l : List MapEntry) (i : Nat), KeysI l → Instr.findNow (.int .i64) (.int .i64 k) l i = some (lookI k l i)
  | [], _, _ => rfl
  | e :: es, i, h => by
    obtain ⟨a, ha⟩ := h e List.mem_cons_self
    unfold Instr.findNow lookI
    rw [ha, keyI_of ha]
    by_cases hk : a = k
    · subst hk; simp [Instr.sameNow]
    · have h1 : (k == a) = false := beq_eq_false_iff_ne.2 (fun h => hk h.symm)
      have h2 : ¬ (some a = some k) := fun h => hk (Option.some.inj h)
      rw [if_neg h2]
      simp only [Instr.sameNow, if_true, h1]
      exact findNow_I k es (i + 1) (fun x hx => h x (List.mem_cons_of_mem _ hx))
theorem lookI_shift (k : Int) : ∀ (l : List MapEntry) (i : Nat), lookI k l i = (lookI k l 0).map fun p => (p.1 + i, p.2)
  | [], _ => rfl
  | e :: es, i => by
    unfold lookI
    split
    · simp
    · rw [lookI_shift k es (i + 1), lookI_shift k es 1, Option.map_map]
      congr 1
      funext p
      simp; omega
theorem findI_nil (k : Int) : findI [] k = none := rfl
theorem findI_cons (e : MapEntry) (l : List MapEntry) (k : Int) : findI (e :: l) k = if keyI e = some k then some e.val else findI l k := by
  unfold findI
  rw [lookI]
  split
  · rfl
  · rw [lookI_shift k l 1, Option.map_map]; rfl
theorem look_none {k : Int} {l : List MapEntry} (h : lookI k l 0 = none) : ∀ e ∈ l, keyI e ≠ some k := by
  induction l with
  | nil => intro e he; cases he
  | cons x l ih =>
    rw [lookI] at h
    split at h
    · cases h
    · rename_i hx
      rw [lookI_shift] at h
      have h' : lookI k l 0 = none := by cases hh : lookI k l 0 with | none => rfl | some p => rw [hh] at h; cases h
      intro e he
      rcases List.mem_cons.1 he with rfl | he
      · exact hx
      · exact ih h' e he
theorem look_some {k : Int} : ∀ {l : List MapEntry} {i : Nat} {v : Value}, lookI k l 0 = some (i, v) → ∃ e, l[i]? = some e ∧ keyI e = some k ∧ e.val = v
  | [], _, _, h => by cases h
  | x :: l, i, v, h => by
    rw [lookI] at h
    split at h
    · rename_i hx
      cases h
      exact ⟨x, rfl, hx, rfl⟩
    · rw [lookI_shift] at h
      cases hh : lookI k l 0 with
      | none => rw [hh] at h; cases h
      | some p =>
        rw [hh] at h
        simp only [Option.map_some, Option.some.injEq, Prod.mk.injEq] at h
        obtain ⟨rfl, rfl⟩ := h
        obtain ⟨e, h1, h2, h3⟩ := look_some (i := p.1) (v := p.2) hh
        exact ⟨e, by simpa using h1, h2, h3⟩
/-! store -/
theorem findI_append (l : List MapEntry) (e : MapEntry) (k : Int) : findI (l ++ [e]) k = match findI l k with | some v => some v | none => if keyI e = some k then some e.val else none := by
  induction l with
  | nil => rw [List.nil_append, findI_cons, findI_nil]
  | cons x l ih =>
    rw [List.cons_append, findI_cons, findI_cons, ih]
    split
    · rfl
    · rfl
theorem findI_modify (k : Int) (g : MapEntry → MapEntry) : ∀ {l : List MapEntry} {i : Nat} {v : Value}, lookI k l 0 = some (i, v) → (∀ e, keyI (g e) = some k) → ∀ j, findI (l.modify i g) j = if j = k then (l[i]?).map fun e => (g e).val else findI l j
  | [], _, _, h, _, _ => by cases h
  | x :: l, i, v, h, hg, j => by
    rw [lookI] at h
    split at h
    · rename_i hx
      cases h
      rw [List.modify_zero_cons, findI_cons, findI_cons, hg]
      by_cases hj : j = k
      · subst hj; simp
      · have h1 : ¬ (some k = some j) := fun e => hj (Option.some.inj e).symm
        rw [if_neg h1, if_neg hj, hx, if_neg h1]
    · rename_i hx
      rw [lookI_shift] at h
      cases hh : lookI k l 0 with
      | none => rw [hh] at h; cases h
      | some p =>
        rw [hh] at h
        simp only [Option.map_some, Option.some.injEq, Prod.mk.injEq] at h
        obtain ⟨rfl, rfl⟩ := h
        have ih := findI_modify k g (i := p.1) (v := p.2) hh hg j
        rw [List.modify_succ_cons, findI_cons, findI_cons, ih]
        by_cases hj : j = k
        · subst hj; rw [if_neg hx, if_pos rfl, if_pos rfl]; simp
        · rw [if_neg hj, if_neg hj]
theorem findI_erase (k : Int) : ∀ {l : List MapEntry} {i : Nat} {v : Value}, ApartI l → lookI k l 0 = some (i, v) → ∀ j, findI (l.eraseIdx i) j = if j = k then none else findI l j
  | [], _, _, _, h, _ => by cases h
  | x :: l, i, v, ha, h, j => by
    rw [lookI] at h
    have ha' := List.pairwise_cons.1 ha
    split at h
    · rename_i hx
      cases h
      rw [List.eraseIdx_cons_zero, findI_cons]
      by_cases hj : j = k
      · subst hj
        rw [if_pos rfl]
        have : lookI j l 0 = none := by
          cases hh : lookI j l 0 with
          | none => rfl
          | some p =>
            obtain ⟨e, h1, h2, _⟩ := look_some (i := p.1) (v := p.2) hh
            exact absurd (hx.trans h2.symm) (ha'.1 e (List.mem_of_getElem? h1))
        unfold findI; rw [this]; rfl
      · have h1 : ¬ (keyI x = some j) := fun e => hj (Option.some.inj (e.symm.trans hx))
        rw [if_neg h1, if_neg hj]
    · rename_i hx
      rw [lookI_shift] at h
      cases hh : lookI k l 0 with
      | none => rw [hh] at h; cases h
      | some p =>
        rw [hh] at h
        simp only [Option.map_some, Option.some.injEq, Prod.mk.injEq] at h
        obtain ⟨rfl, rfl⟩ := h
        have ih := findI_erase k (i := p.1) (v := p.2) ha'.2 hh j
        rw [List.eraseIdx_cons_succ, findI_cons, findI_cons, ih]
        by_cases hj : j = k
        · subst hj; rw [if_neg hx, if_pos rfl, if_pos rfl]
        · rw [if_neg hj, if_neg hj]
theorem keysI_modify {l : List MapEntry} (h : KeysI l) (i : Nat) {k : Int} {g : MapEntry → MapEntry} (hg : ∀ e, (g e).key = .int .i64 k) : KeysI (l.modify i g) := by
  induction l generalizing i with
  | nil => simpa using h
  | cons x l ih =>
    cases i with
    | zero =>
      rw [List.modify_zero_cons]
      intro e he
      rcases List.mem_cons.1 he with rfl | he
      · exact ⟨k, hg x⟩
      · exact h e (List.mem_cons_of_mem _ he)
    | succ i =>
      rw [List.modify_succ_cons]
      intro e he
      rcases List.mem_cons.1 he with rfl | he
      · exact h _ List.mem_cons_self
      · exact ih (fun e he => h e (List.mem_cons_of_mem _ he)) i e he
theorem map_keyI_modify {l : List MapEntry} {i : Nat} {k : Int} {g : MapEntry → MapEntry} (hg : ∀ e, keyI (g e) = some k) (hi : ∀ e, l[i]? = some e → keyI e = some k) : (l.modify i g).map keyI = l.map keyI := by
  induction l generalizing i with
  | nil => simp
  | cons x l ih =>
    cases i with
    | zero => rw [List.modify_zero_cons]; simp [hg, hi x rfl]
    | succ i => rw [List.modify_succ_cons]; simp [ih (i := i) (fun e he => hi e (by simpa using he))]
theorem apartI_iff {l : List MapEntry} : ApartI l ↔ (l.map keyI).Pairwise (· ≠ ·) := by
  unfold ApartI
  rw [List.pairwise_map]
/-- What a map with int keys answers. -/
def MapI (W : World) (m : Nat) (f : Int → Option Value) : Prop := ∃ es clock, W.heap[m]? = some (.map es clock) ∧ KeysI es.toList ∧ ApartI es.toList ∧ ∀ k, findI es.toList k = f k
theorem MapI.lt {W : World} {m : Nat} {f : Int → Option Value} (h : MapI W m f) : m < W.heap.size := by
  obtain ⟨es, c, h1, _⟩ := h
  exact (Array.getElem?_eq_some_iff.1 h1).1
theorem MapI.same {W W' : World} {m : Nat} {f : Int → Option Value} (h : MapI W m f) (hk : W'.heap[m]? = W.heap[m]?) : MapI W' m f := by
  obtain ⟨es, c, h1, h2⟩ := h
  exact ⟨es, c, hk.trans h1, h2⟩
theorem MapI.made (W : World) : MapI (W.alloc (.map #[] 0)) W.heap.size (fun _ => none) :=
  ⟨#[], 0, (MapKept.heap_alloc W _).1, (fun e h => by simp at h), List.Pairwise.nil, fun k => rfl⟩
theorem MapI.congr {W : World} {m : Nat} {f g : Int → Option Value} (h : MapI W m f) (hg : ∀ k, f k = g k) : MapI W m g := by
  obtain ⟨es, c, h1, h2, h3, h4⟩ := h
  exact ⟨es, c, h1, h2, h3, fun k => (h4 k).trans (hg k)⟩
section
variable {P : Program} {W : World} {m : Nat} {f : Int → Option Value} {t kt e : TypeId}
/-- A look-up that tells whether the key is there. -/
theorem MapI.look (h : MapI W m f) (ht : P.underlying t = some (.map kt e)) (hk : P.underlying kt = some (.int .i64)) {z : Value} (hz : (zeroValue e).run P W = .ok z W) (k : Int) :
    (Instr.lookup t (.map (some m)) (.int .i64 k) true).run P W = .ok (.tuple #[(f k).getD z, .bool (f k).isSome]) W := by
  obtain ⟨es, c, h1, h2, h3, h4⟩ := h
  have hf := findNow_I k es.toList 0 h2
  have h5 := h4 k
  unfold findI at h5
  have hck : (Instr.checkKey es.isEmpty 10000 kt (.int .i64 k)).run P W = .ok () W := MapKept.run_checkKey hk (by simp [MapKept.IsKey]) _ _
  have hfk := MapKept.run_findKey (P := P) (w := W) hk hf
  cases hl : lookI k es.toList 0 with
  | none =>
    rw [hl] at hfk h5
    rw [← h5]
    simp [Instr.lookup, run_underlying ht, MapKept.run_getObj_map h1, hck, hfk, hz, Result.andThen]
  | some p =>
    rw [hl] at hfk h5
    rw [← h5]
    simp [Instr.lookup, run_underlying ht, MapKept.run_getObj_map h1, hck, hfk, Result.andThen]
/-- A store. -/
theorem MapI.store (h : MapI W m f) (ht : P.underlying t = some (.map kt e)) (hk : P.underlying kt = some (.int .i64)) (k : Int) (v : Value) :
    ∃ es c, (Instr.mapUpdate t (.map (some m)) (.int .i64 k) v).run P W = .ok () { W with heap := W.heap.setIfInBounds m (.map es c) } ∧
      MapI { W with heap := W.heap.setIfInBounds m (.map es c) } m (fun j => if j = k then some v else f j) := by
  obtain ⟨es, c, h1, h2, h3, h4⟩ := h
  have hf := findNow_I k es.toList 0 h2
  have hck : (Instr.checkKey false 10000 kt (.int .i64 k)).run P W = .ok () W := MapKept.run_checkKey hk (by simp [MapKept.IsKey]) _ _
  have hfk := MapKept.run_findKey (P := P) (w := W) hk hf
  have hlt : m < W.heap.size := (Array.getElem?_eq_some_iff.1 h1).1
  cases hl : lookI k es.toList 0 with
  | none =>
    rw [hl] at hfk
    refine ⟨es.push { key := .int .i64 k, val := v, born := c }, c + 1, by simp [Instr.mapUpdate, run_underlying ht, MapKept.run_getObj_map h1, hck, hfk, MapKept.run_setObj_map _ h1, Result.andThen], es.push { key := .int .i64 k, val := v, born := c }, c + 1, by simp [hlt], ?_, ?_, fun j => ?_⟩
    · rw [Array.toList_push]
      intro x hx
      rcases List.mem_append.1 hx with hx | hx
      · exact h2 x hx
      · rw [List.mem_singleton.1 hx]; exact ⟨k, rfl⟩
    · rw [Array.toList_push]
      refine List.pairwise_append.2 ⟨h3, List.pairwise_singleton _ _, fun x hx y hy => ?_⟩
      rw [List.mem_singleton.1 hy]
      exact look_none hl x hx
    · rw [Array.toList_push, findI_append, h4]
      have hn : f k = none := by rw [← h4 k]; unfold findI; rw [hl]; rfl
      show _ = if j = k then some v else f j
      by_cases hj : j = k
      · subst hj; rw [hn, if_pos rfl]; simp [keyI]
      · rw [if_neg hj]
        have : ¬ (keyI { key := .int .i64 k, val := v, born := c } = some j) := by simp [keyI]; exact fun h => hj h.symm
        rw [if_neg this]
        cases f j <;> rfl
  | some p =>
    rw [hl] at hfk
    obtain ⟨e0, g1, g2, g3⟩ := look_some (i := p.1) (v := p.2) hl
    obtain ⟨a0, ha0⟩ := h2 e0 (List.mem_of_getElem? g1)
    have ek : a0 = k := by have := keyI_of ha0; rw [g2] at this; exact (Option.some.inj this).symm
    subst ek
    have g1' : es[p.1]? = some e0 := by rw [← Array.getElem?_toList]; exact g1
    have hst : (Instr.keyThatStays (.int .i64 a0) (.int .i64 a0)).run P W = .ok (.int .i64 a0) W := by
      simp [Instr.keyThatStays, Instr.sameBits]
    refine ⟨es.modify p.1 fun x => { x with key := .int .i64 a0, val := v }, c, ?_, es.modify p.1 fun x => { x with key := .int .i64 a0, val := v }, c, by simp [hlt], ?_, ?_, fun j => ?_⟩
    · simp [Instr.mapUpdate, run_underlying ht, MapKept.run_getObj_map h1, hck, hfk, g1', ha0, hst, MapKept.run_setObj_map _ h1, Result.andThen]
    · rw [Array.toList_modify]
      exact keysI_modify h2 p.1 (fun _ => rfl)
    · rw [Array.toList_modify, apartI_iff, map_keyI_modify (k := a0) (fun _ => rfl) (fun x hx => by rw [g1] at hx; cases hx; exact g2)]
      exact apartI_iff.1 h3
    · rw [Array.toList_modify, findI_modify a0 _ (i := p.1) (v := p.2) hl (fun _ => rfl) j, g1, h4]
      rfl
/-- A delete. -/
theorem MapI.drop (h : MapI W m f) (ht : P.underlying t = some (.map kt e)) (hk : P.underlying kt = some (.int .i64)) (k : Int) (ty kt2 : TypeId) :
    ∃ es c, (Builtin.delete_ #[t, kt2] ty #[.map (some m), .int .i64 k]).run P W = .ok (.tuple #[]) { W with heap := W.heap.setIfInBounds m (.map es c) } ∧
      MapI { W with heap := W.heap.setIfInBounds m (.map es c) } m (fun j => if j = k then none else f j) := by
  obtain ⟨es, c, h1, h2, h3, h4⟩ := h
  have hf := findNow_I k es.toList 0 h2
  have hck : (Instr.checkKey es.isEmpty 10000 kt (.int .i64 k)).run P W = .ok () W := MapKept.run_checkKey hk (by simp [MapKept.IsKey]) _ _
  have hfk := MapKept.run_findKey (P := P) (w := W) hk hf
  have hlt : m < W.heap.size := (Array.getElem?_eq_some_iff.1 h1).1
  cases hl : lookI k es.toList 0 with
  | none =>
    rw [hl] at hfk
    refine ⟨es, c, by simp [Builtin.delete_, run_underlying ht, MapKept.run_getObj_map h1, hck, hfk, MapKept.run_setObj_map _ h1, Result.andThen], es, c, by simp [hlt], h2, h3, fun j => ?_⟩
    have hn : f k = none := by rw [← h4 k]; unfold findI; rw [hl]; rfl
    show _ = if j = k then none else f j
    by_cases hj : j = k
    · subst hj; rw [if_pos rfl, h4, hn]
    · rw [if_neg hj, h4]
  | some p =>
    rw [hl] at hfk
    obtain ⟨e0, g1, g2, g3⟩ := look_some (i := p.1) (v := p.2) hl
    refine ⟨es.eraseIdxIfInBounds p.1, c, by simp [Builtin.delete_, run_underlying ht, MapKept.run_getObj_map h1, hck, hfk, MapKept.run_setObj_map _ h1, Result.andThen], es.eraseIdxIfInBounds p.1, c, by simp [hlt], ?_, ?_, fun j => ?_⟩
    · rw [Array.toList_eraseIdxIfInBounds]
      exact fun x hx => h2 x ((List.eraseIdx_sublist _ _).subset hx)
    · rw [Array.toList_eraseIdxIfInBounds]
      exact h3.sublist (List.eraseIdx_sublist _ _)
    · rw [Array.toList_eraseIdxIfInBounds, findI_erase k (i := p.1) (v := p.2) h3 hl j, h4]
end
end Go.Proofs.YtbaddcojhggamaaM
