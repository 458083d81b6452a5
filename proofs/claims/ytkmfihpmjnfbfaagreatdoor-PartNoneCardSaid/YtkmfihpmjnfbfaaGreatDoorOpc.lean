/-
  Operations that read and write rows of cells.
-/
import Derived.Test.YtkmfihpmjnfbfaaGreatDoorOpb
namespace Go.Proofs.YtkmfihpmjnfbfaaGreatDoor.Run
open Go
set_option linter.unusedVariables false
set_option linter.unusedSimpArgs false
section
variable {P : Program} {ρ : Rn} {gl : Gl} {sz : Nat} {tm : Tr Value} {a : Act} {h : AH} {w : World}
theorem Rel.cellsAt (hr : Rel P ρ h w) {b j n : Nat} {e : TypeId} {c : Tr Value} {ro : Bool} (hb : ρ b = some j) (hg : h.get b = some (.cells e n c ro)) :
    ∃ cs lo hi, w.heap[j]? = some (.cells cs e (lo, hi)) ∧ n ≤ cs.size ∧ (∀ i, i < n → ∃ v v', c.get i = some v ∧ cs[i]? = some v' ∧ VR ρ v v') ∧ (ro = false → ∀ i, i < cs.size → ¬ (lo ≤ i ∧ i < hi)) ∧ ρ.k b * P.cellsOf e ≤ cs.size := by
  obtain ⟨x, h1, h2⟩ := hr.obj b j _ hb hg trivial
  cases h2 with
  | cells k0 k1 k2 k3 => exact ⟨_, _, _, h1, k1, k2, k3, k0⟩
theorem rdCells_ok {c : Tr Value} {cs : Array Value} {n : Nat} (hc : ∀ i, i < n → ∃ v v', c.get i = some v ∧ cs[i]? = some v' ∧ VR ρ v v') :
    ∀ (k o : Nat) (l : List Value), rdCells c o k = some l → o + k ≤ n → L2 ρ l ((cs.toList.drop o).take k) ∧ l.length = k
  | 0, o, l, e, _ => by simp only [rdCells] at e; cases e; exact ⟨by simpa using L2.nil, rfl⟩
  | k + 1, o, l, e, hk => by
    simp only [rdCells, Option.bind_eq_some_iff, Option.map_eq_some_iff] at e
    obtain ⟨v, h1, l', h2, rfl⟩ := e
    obtain ⟨u, u', e1, e2, e3⟩ := hc o (by omega)
    rw [e1] at h1; cases h1
    have IH := rdCells_ok hc k (o + 1) l' h2 (by omega)
    have hlt : o < cs.toList.length := by simpa using (Array.getElem?_eq_some_iff.1 e2).1
    have e4 : cs.toList.drop o = u' :: cs.toList.drop (o + 1) := by
      rw [List.drop_eq_getElem_cons hlt]
      congr 1
      have := (Array.getElem?_eq_some_iff.1 e2).2
      simpa using this
    rw [e4]
    exact ⟨.cons e3 IH.1, by simp [IH.2]⟩
theorem cell_of {j o : Nat} {cs : Array Value} {e : TypeId} {f : Nat × Nat} (hj : w.heap[j]? = some (.cells cs e f)) (i : Nat) : w.cell? ⟨j, i, none⟩ = cs[i]? := by simp [World.cell?, hj]
theorem run_rd {j o k : Nat} {cs : Array Value} {e : TypeId} {f : Nat × Nat} (hj : w.heap[j]? = some (.cells cs e f)) (hk : o + k ≤ cs.size) :
    (loadCells ⟨j, o, none⟩ k).run P w = .ok ((cs.toList.drop o).take k).toArray w := by
  have hl : ((cs.toList.drop o).take k).length = k := by simp; omega
  have := run_loadCells_list (P := P) w ⟨j, o, none⟩ ((cs.toList.drop o).take k) (fun i v e => by
    rw [addr_add, cell_of (o := o) hj]
    rw [List.getElem?_take] at e
    split at e
    · rw [List.getElem?_drop] at e; simpa using e
    · cases e)
  rw [hl] at this
  exact this
theorem loadB_ok (hr : Rel P ρ h w) {t : TypeId} {ad ad' v : Value} (ha : VR ρ ad ad') (e : loadB P h t ad = some v) : ∃ v', (Instr.loadAt t ad').run P w = .ok v' w ∧ VR ρ v v' := by
  unfold loadB at e
  split at e
  · rename_i b o
    split at e
    · rename_i el n c ro hg
      simp only [Option.bind_eq_some_iff] at e
      obtain ⟨g, h1, s, h2, e⟩ := e
      obtain ⟨j, k, rfl⟩ := ha.ptrInv
      obtain ⟨cs, lo, hi, k1, k2, k3, k4, k5⟩ := hr.cellsAt k hg
      cases g with
      | true =>
        simp only [cond] at e
        split at e
        · rename_i hb
          simp only [Option.map_eq_some_iff] at e
          obtain ⟨l, h3, rfl⟩ := e
          have hb := ble_true hb
          obtain ⟨q1, q2⟩ := rdCells_ok k3 s o l h3 hb
          refine ⟨.agg ((cs.toList.drop o).take s).toArray, ?_, VR.agg_list q1⟩
          simp [Instr.loadAt, Instr.sureAddr, loadVar, run_agg h1, run_size h2, run_rd k1 (show o + s ≤ cs.size by omega)]
        · cases e
      | false =>
        simp only [cond] at e
        split at e
        · rename_i hb
          have hb := blt_true hb
          obtain ⟨u, u', e1, e2, e3⟩ := k3 o hb
          rw [e1] at e; cases e
          refine ⟨u', ?_, e3⟩
          simp [Instr.loadAt, Instr.sureAddr, loadVar, run_agg h1, cell_of (o := o) k1, e2]
        · cases e
    · cases e
  · cases e
def wrA : Array Value → Nat → List Value → Array Value
  | cur, _, [] => cur
  | cur, o, v :: l => wrA (cur.setIfInBounds o v) (o + 1) l
theorem wrA_size : ∀ (l : List Value) (cur : Array Value) (o : Nat), (wrA cur o l).size = cur.size
  | [], _, _ => rfl
  | v :: l, cur, o => by rw [wrA, wrA_size l]; simp
theorem wrA_get : ∀ (l : List Value) (cur : Array Value) (o i : Nat), o + l.length ≤ cur.size → (wrA cur o l)[i]? = if o ≤ i ∧ i < o + l.length then l[i - o]? else cur[i]?
  | [], cur, o, i, _ => by rw [if_neg (by simp)]; rfl
  | v :: l, cur, o, i, hl => by
    simp only [List.length_cons] at hl
    rw [wrA, wrA_get l _ (o + 1) i (by simp; omega)]
    by_cases e : i = o
    · subst e
      rw [if_neg (by omega), if_pos (by simp)]
      simp [show i < cur.size by omega]
    · by_cases e2 : o ≤ i ∧ i < o + (v :: l).length
      · have e3 : o + 1 ≤ i ∧ i < o + 1 + l.length := by simp at e2; omega
        rw [if_pos e3, if_pos e2]
        obtain ⟨m, rfl⟩ : ∃ m, i = o + 1 + m := ⟨i - o - 1, by omega⟩
        rw [show o + 1 + m - (o + 1) = m by omega, show o + 1 + m - o = m + 1 by omega]
        rfl
      · have e3 : ¬ (o + 1 ≤ i ∧ i < o + 1 + l.length) := by simp at e2 ⊢; omega
        rw [if_neg e3, if_neg e2, Array.getElem?_setIfInBounds_ne (fun k => e k.symm)]
theorem wrCells_get : ∀ (l : List Value) (c : Tr Value) (o i : Nat), (wrCells c o l).get i = if o ≤ i ∧ i < o + l.length then l[i - o]? else c.get i
  | [], c, o, i => by rw [if_neg (by simp)]; rfl
  | v :: l, c, o, i => by
    rw [wrCells, wrCells_get l _ (o + 1) i, Tr.get_put]
    by_cases e : i = o
    · subst e
      rw [if_neg (by omega), if_pos rfl, if_pos (by simp)]
      simp
    · by_cases e2 : o ≤ i ∧ i < o + (v :: l).length
      · have e3 : o + 1 ≤ i ∧ i < o + 1 + l.length := by simp at e2; omega
        rw [if_pos e3, if_pos e2]
        obtain ⟨m, rfl⟩ : ∃ m, i = o + 1 + m := ⟨i - o - 1, by omega⟩
        rw [show o + 1 + m - (o + 1) = m by omega, show o + 1 + m - o = m + 1 by omega]
        rfl
      · have e3 : ¬ (o + 1 ≤ i ∧ i < o + 1 + l.length) := by simp at e2 ⊢; omega
        rw [if_neg e3, if_neg e, if_neg e2]
theorem set_put {j : Nat} {cur : Array Value} {t : TypeId} {f : Nat × Nat} (hj : w.heap[j]? = some (.cells cur t f)) (o : Nat) (v : Value) : w.setCell ⟨j, o, none⟩ v = w.putObj j (.cells (cur.setIfInBounds o v) t f) := by
  unfold World.setCell World.putObj
  have hlt : j < w.heap.size := (Array.getElem?_eq_some_iff.1 hj).1
  congr 1
  apply Array.ext_getElem?
  intro i
  rw [Array.getElem?_modify]
  by_cases e : j = i
  · subst e
    rw [if_pos rfl, hj]
    simp [hlt]
  · rw [if_neg e, Array.getElem?_setIfInBounds_ne e]
theorem putObj_put (j : Nat) (x y : Obj) : (w.putObj j x).putObj j y = w.putObj j y := by
  unfold World.putObj
  congr 1
  apply Array.ext_getElem?
  intro i
  by_cases e : j = i
  · subst e
    by_cases hlt : j < w.heap.size
    · simp [hlt]
    · simp [hlt]
  · rw [Array.getElem?_setIfInBounds_ne e, Array.getElem?_setIfInBounds_ne e, Array.getElem?_setIfInBounds_ne e]
theorem putObj_self {j : Nat} {x : Obj} (hj : w.heap[j]? = some x) : w.putObj j x = w := by
  unfold World.putObj
  have hlt : j < w.heap.size := (Array.getElem?_eq_some_iff.1 hj).1
  have : w.heap.setIfInBounds j x = w.heap := by
    apply Array.ext_getElem?
    intro i
    by_cases e : j = i
    · subst e; rw [hj]; simp [hlt]
    · rw [Array.getElem?_setIfInBounds_ne e]
  rw [this]
theorem putObj_get {j i : Nat} (x : Obj) (hj : j < w.heap.size) : (w.putObj j x).heap[i]? = if i = j then some x else w.heap[i]? := by
  unfold World.putObj
  by_cases e : i = j
  · subst e; rw [if_pos rfl]; simp [hj]
  · rw [if_neg e]; exact Array.getElem?_setIfInBounds_ne (fun k => e k.symm)
theorem one_ok {v : Value} (h : one v = true) : v.oneCell' = true := by cases v <;> simp_all [one, Value.oneCell']
theorem run_wr {j : Nat} {t : TypeId} {f : Nat × Nat} (o : Nat) : ∀ (vs : List Value) (i : Nat) (cur : Array Value) (w : World), w.heap[j]? = some (.cells cur t f) → o + i + vs.length ≤ cur.size → (∀ v ∈ vs, v.oneCell' = true) →
    (∀ k, k < cur.size → ¬ (f.1 ≤ k ∧ k < f.2)) → (storeCells ⟨j, o, none⟩ vs i).run P w = .ok () (w.putObj j (.cells (wrA cur (o + i) vs) t f))
  | [], i, cur, w, hj, _, _, _ => by simp only [storeCells, wrA]; rw [putObj_self hj]; rfl
  | v :: l, i, cur, w, hj, hl, h1, hf => by
    simp only [List.length_cons] at hl
    have hcell : w.cell? ⟨j, o + i, none⟩ = some (cur[o + i]'(by omega)) := by rw [cell_of (o := o) hj]; simp [show o + i < cur.size by omega]
    have hfro : w.frozen? ⟨j, o + i, none⟩ = false := by
      have := hf (o + i) (by omega)
      simp only [World.frozen?, hj]
      simpa using this
    have hst : (store ((⟨j, o, none⟩ : Addr).add i) v).run P w = .ok () (w.putObj j (.cells (cur.setIfInBounds (o + i) v) t f)) := by
      rw [addr_add, run_store P w _ v _ (h1 v (by simp)), hcell]
      simp [hfro, set_put hj]
    have hlt : j < w.heap.size := (Array.getElem?_eq_some_iff.1 hj).1
    have IH := run_wr o l (i + 1) (cur.setIfInBounds (o + i) v) (w.putObj j (.cells (cur.setIfInBounds (o + i) v) t f)) (by rw [putObj_get _ hlt, if_pos rfl]) (by simp; omega) (fun x hx => h1 x (by simp [hx])) (fun k hk => hf k (by simpa using hk))
    simp only [storeCells, Sem.run_bind, hst, Result.andThen_ok, IH, putObj_put]
    rfl
/-- A row that is written. -/
theorem Rel.write (hr : Rel P ρ h w) {b j n o : Nat} {c : Tr Value} {l l' : List Value} {cs : Array Value} {t : TypeId} {lo hi : Nat} (hb : ρ b = some j) (hg : h.get b = some (.cells t n c false)) (hj : w.heap[j]? = some (.cells cs t (lo, hi)))
    (hl : L2 ρ l l') (ho : o + l.length ≤ n) : Rel P ρ (h.set b (.cells t n (wrCells c o l) false)) (w.putObj j (.cells (wrA cs o l') t (lo, hi))) ∧ Fw ρ h w ρ (h.set b (.cells t n (wrCells c o l) false)) (w.putObj j (.cells (wrA cs o l') t (lo, hi))) := by
  obtain ⟨cs', lo', hi', k1, k2, k3, k4, k5⟩ := hr.cellsAt hb hg
  rw [hj] at k1; cases k1
  have hlt : j < w.heap.size := (Array.getElem?_eq_some_iff.1 hj).1
  have hll := hl.length
  refine hr.turn (x1 := .cells (wrA cs o l') t (lo, hi)) hb hg trivial (fun e n c k => by cases k) (by rw [putObj_get _ hlt, if_pos rfl]) (fun i hi' => by rw [putObj_get _ hlt, if_neg hi']) (by simp [World.putObj]) rfl rfl rfl (fun _ => .cells (by rw [wrA_size]; exact k5) (by rw [wrA_size]; exact k2) (fun i hi' => ?_) (fun e i hi' => by rw [wrA_size] at hi'; exact k4 e i hi'))
  rw [wrCells_get, wrA_get _ _ _ _ (by omega)]
  by_cases e : o ≤ i ∧ i < o + l.length
  · rw [if_pos e, if_pos (by omega)]
    have hv : l[i - o]? = some (l[i - o]'(by omega)) := by simp [show i - o < l.length by omega]
    obtain ⟨v', e1, e2⟩ := hl.get _ _ hv
    exact ⟨_, v', hv, e1, e2⟩
  · rw [if_neg e, if_neg (by omega)]
    exact k3 i hi'
theorem all_one {l l' : List Value} (hl : L2 ρ l l') (h1 : l.all one = true) : ∀ v ∈ l', v.oneCell' = true := by
  induction hl with
  | nil => simp
  | cons hv _ ih =>
    simp only [List.all_cons, Bool.and_eq_true] at h1
    intro v hm
    rcases List.mem_cons.1 hm with rfl | hm
    · refine one_ok ?_
      have := h1.1
      cases hv <;> first | exact this | rfl | (simp [one] at this)
    · exact ih h1.2 v hm
theorem storeB_ok (hr : Rel P ρ h w) {t : TypeId} {ad ad' v v' : Value} {h' : AH} (ha : VR ρ ad ad') (hv : VR ρ v v') (e : storeB P h t ad v = some h') :
    ∃ w', (Instr.storeAt t ad' v').run P w = .ok () w' ∧ Rel P ρ h' w' ∧ Fw ρ h w ρ h' w' := by
  unfold storeB at e
  split at e
  · rename_i b o
    split at e
    · rename_i el n c hg
      simp only [Option.bind_eq_some_iff] at e
      obtain ⟨s, h2, e⟩ := e
      obtain ⟨j, k, rfl⟩ := ha.ptrInv
      obtain ⟨cs, lo, hi, k1, k2, k3, k4, k5⟩ := hr.cellsAt k hg
      cases hb : (Nat.beq (Value.cl v).length s && Nat.ble (o + s) n && (Value.cl v).all one) with
      | false => rw [hb] at e; cases e
      | true =>
        rw [hb] at e; cases e
        obtain ⟨b1, b2, b3⟩ := and3 hb
        have b1 := beq_true b1; have b2 := ble_true b2
        have hL : L2 ρ (Value.cl v) v'.cells.toList := by rw [cl_eq]; exact hv.cells
        have hsz : v'.cells.size = s := by have := hL.length; simp at this; omega
        have hw := hr.write (o := o) k hg k1 hL (by omega)
        refine ⟨_, ?_, hw.1, hw.2⟩
        have := run_wr (P := P) o v'.cells.toList 0 cs w k1 (by simp; omega) (all_one hL b3) (k4 rfl)
        simp [Instr.storeAt, Instr.sureAddr, storeVar, run_size h2, hsz, this]
    · cases e
  · cases e
/-- New rows. -/
theorem Rel.newRow (κ : Nat) (hr : Rel P ρ h w) {l l' : List Value} {cs : Array Value} {t : TypeId} (hl : L2 ρ l l') (hc : ∃ rest, cs.toList = l' ++ rest) (hκ : κ * P.cellsOf t ≤ cs.size) :
    Rel P (Run.ext ρ h.next w.heap.size κ) (newCells h t l) (w.alloc (.cells cs t)) ∧ Fw ρ h w (Run.ext ρ h.next w.heap.size κ) (newCells h t l) (w.alloc (.cells cs t)) := by
  have hs := Sub.ext (hr.none (Nat.le_refl h.next)) w.heap.size κ
  obtain ⟨rest, hc⟩ := hc
  refine hr.new κ (.cells hκ ?_ (fun i hi => ?_) (fun _ i hi => by omega))
  · have : cs.toList.length = l'.length + rest.length := by rw [hc]; simp
    have := hl.length
    simp at *; omega
  · rw [Tr.get_of]
    have hv : l[i]? = some (l[i]'hi) := by simp
    obtain ⟨v', e1, e2⟩ := hl.get _ _ hv
    refine ⟨_, v', hv, ?_, e2.mono hs⟩
    rw [← Array.getElem?_toList, hc, List.getElem?_append_left (by have := hl.length; omega)]
    exact e1
theorem newCells_ptr {n j κ : Nat} : (Run.ext ρ n j κ) n = some j := if_pos rfl
end
end Go.Proofs.YtkmfihpmjnfbfaaGreatDoor.Run
