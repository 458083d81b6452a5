/-
  Building, asserting, converting; new rows.
-/
import Derived.Test.YtkmfihpmjnfbfaaGreatDoorOpd
import Derived.Laws.BytesString
namespace Go.Proofs.YtkmfihpmjnfbfaaGreatDoor.Run
open Go
set_option linter.unusedVariables false
set_option linter.unusedSimpArgs false
section
variable {P : Program} {ρ : Rn} {gl : Gl} {sz : Nat} {tm : Tr Value} {a : Act} {h : AH} {w : World}
theorem L2.set {l l' : List Value} (hl : L2 ρ l l') {v v' : Value} (hv : VR ρ v v') : ∀ i, L2 ρ (l.set i v) (l'.set i v') := by
  induction hl with
  | nil => intro i; exact .nil
  | cons k kl ih =>
    intro i
    cases i with
    | zero => exact .cons hv kl
    | succ i => exact .cons k (ih i)
theorem foldl_fill {m m' : List Value} (hm : L2 ρ m m') : ∀ (off j : Nat) (c c' : Array Value), L2 ρ c.toList c'.toList →
    L2 ρ ((m.zipIdx j).foldl (fun (cs : Array Value) (x : Value × Nat) => cs.setIfInBounds (off + x.2) x.1) c).toList ((m'.zipIdx j).foldl (fun (cs : Array Value) (x : Value × Nat) => cs.setIfInBounds (off + x.2) x.1) c').toList := by
  induction hm with
  | nil => intro off j c c' hc; exact hc
  | cons k _ ih =>
    intro off j c c' hc
    simp only [List.zipIdx_cons, List.foldl_cons]
    exact ih off (j + 1) _ _ (by simpa using hc.set k (off + j))
theorem fill_ok (place : Nat → Option (Nat × Nat)) {ps ps' : List (Nat × Value)} (hp : P2 ρ ps ps') : ∀ {c c' cs : Array Value}, L2 ρ c.toList c'.toList → Instr.fill place c ps = some cs → ∃ cs', Instr.fill place c' ps' = some cs' ∧ L2 ρ cs.toList cs'.toList := by
  induction hp with
  | nil => intro c c' cs hc e; simp only [Instr.fill] at e; cases e; exact ⟨c', rfl, hc⟩
  | @cons i v v' l l' hv hl ih =>
    intro c c' cs hc e
    simp only [Instr.fill] at e ⊢
    cases hpl : place i with
    | none => rw [hpl] at e; cases e
    | some q =>
      obtain ⟨off, size⟩ := q
      rw [hpl] at e
      simp only at e ⊢
      have h1 : v.cells.size = v'.cells.size := by have := hv.cells.length; simpa using this
      have h2 : c.size = c'.size := by have := hc.length; simpa using this
      rw [← h1, ← h2]
      split at e
      · cases e
      · rename_i hb
        rw [if_neg hb]
        refine ih ?_ e
        simp only [← Array.foldl_toList, Array.toList_zipIdx]
        exact foldl_fill hv.cells off 0 _ _ hc
theorem flat_cells {z : Value} (hf : flat z = true) : L2 ρ z.cells.toList z.cells.toList := (VR.fl hf).cells
theorem run_places : ∀ (l : List Field) (ps : List (Nat × Nat)) (w : World), placesB P l = some ps → (l.mapM (fun f => do pure (f.offset, ← sizeOf f.type) : Field → Sem (Nat × Nat))).run P w = .ok ps w
  | [], ps, w, e => by simp only [placesB] at e; cases e; rfl
  | f :: l, ps, w, e => by
    simp only [placesB, Option.bind_eq_some_iff, Option.map_eq_some_iff] at e
    obtain ⟨s, h1, ps', h2, rfl⟩ := e
    rw [List.mapM_cons, Sem.run_bind, Sem.run_bind, run_size h1]
    simp only [Result.andThen_ok, Sem.run_pure]
    rw [Sem.run_bind, run_places l ps' w h2]
    rfl
theorem buildB_ok {t : TypeId} {ps ps' : List (Nat × Value)} {v : Value} (hp : P2 ρ ps ps') (e : buildB P t ps = some v) (w : World) : ∃ v', (Instr.build t ps'.toArray).run P w = .ok v' w ∧ VR ρ v v' := by
  simp only [buildB, Option.bind_eq_some_iff] at e
  obtain ⟨z, h1, e⟩ := e
  have hz := run_zero h1 w
  have hzf := flat_cells (ρ := ρ) (zeroB_flat h1).1
  split at e
  · rename_i fields hu
    simp only [Option.bind_eq_some_iff, Option.map_eq_some_iff] at e
    obtain ⟨pl, h2, cs, h3, rfl⟩ := e
    obtain ⟨cs', h4, h5⟩ := fill_ok _ hp hzf h3
    have hm : (fields.mapM (fun f => do pure (f.offset, ← sizeOf f.type) : Field → Sem (Nat × Nat))).run P w = .ok pl.toArray w := by
      rw [Array.mapM_eq_mapM_toList, Sem.run_map, run_places _ _ w h2]
      rfl
    have h4' : Instr.fill (fun i => pl.toArray[i]?) z.cells ps' = some cs' := by simpa using h4
    refine ⟨.agg cs', ?_, by have := VR.agg_list h5; simpa using this⟩
    simp only [Instr.build, Sem.run_bind, hz, Result.andThen_ok, run_under hu]
    rw [hm]
    simp only [Result.andThen_ok]
    rw [h4']
    rfl
  · rename_i n elem hu
    simp only [Option.bind_eq_some_iff, Option.map_eq_some_iff] at e
    obtain ⟨s, h2, cs, h3, rfl⟩ := e
    obtain ⟨cs', h4, h5⟩ := fill_ok _ hp hzf h3
    refine ⟨.agg cs', ?_, by have := VR.agg_list h5; simpa using this⟩
    simp only [Instr.build, Sem.run_bind, hz, Result.andThen_ok, run_under hu, run_size h2]
    rw [h4]
    rfl
  · cases e
theorem assertB_ok {x x' v : Value} {xt t : TypeId} {ok : Bool} (hx : VR ρ x x') (e : assertB P x xt t ok = some v) (w : World) : ∃ v', (Instr.typeAssert x' xt t ok).run P w = .ok v' w ∧ VR ρ v v' := by
  have h2 : ∀ {v v' : Value}, VR ρ v v' → ∀ b, VR ρ (.tuple #[v, .bool b]) (.tuple #[v', .bool b]) := fun k b => VR.tuple_list (.cons k (.cons (.fl rfl) .nil))
  have hi : ∀ {u : TypeId} {y : Value}, VR ρ (.iface u y) x' → ∃ y', x' = .iface u y' ∧ VR ρ y y' := by
    intro u y k
    cases k with
    | fl hf => exact ⟨y, rfl, .fl hf⟩
    | iface k => exact ⟨_, rfl, k⟩
  unfold assertB at e
  split at e
  · cases e
  · rename_i d u y hd hu
    obtain ⟨y', rfl, hy⟩ := hi hx
    have hnot : ∀ ms, d ≠ .interface ms := fun ms k => hd ms k
    cases hq : Nat.beq u t with
    | true =>
      rw [hq] at e; cases e
      have := beq_true hq; subst this
      cases ok with
      | true =>
        refine ⟨_, ?_, h2 hy true⟩
        simp only [Instr.typeAssert, Sem.run_bind, run_under hu, Result.andThen_ok]
        cases d <;> first | exact absurd rfl (hnot _) | simp
      | false =>
        refine ⟨_, ?_, hy⟩
        simp only [Instr.typeAssert, Sem.run_bind, run_under hu, Result.andThen_ok]
        cases d <;> first | exact absurd rfl (hnot _) | simp
    | false =>
      rw [hq] at e
      have hne := beq_false hq
      cases ok with
      | true =>
        simp only [cond, Option.map_eq_some_iff] at e
        obtain ⟨z, hz, rfl⟩ := e
        refine ⟨_, ?_, h2 (.fl (zeroB_flat hz).1) false⟩
        simp only [Instr.typeAssert, Sem.run_bind, run_under hu, Result.andThen_ok]
        cases d <;> first | exact absurd rfl (hnot _) | simp [hne, run_zero hz]
      | false => cases e
  · rename_i d hd hu
    obtain rfl := hx.eq_of_flat rfl
    have hnot : ∀ ms, d ≠ .interface ms := fun ms k => hd ms k
    cases ok with
    | true =>
      simp only [cond, Option.map_eq_some_iff] at e
      obtain ⟨z, hz, rfl⟩ := e
      refine ⟨_, ?_, h2 (.fl (zeroB_flat hz).1) false⟩
      simp only [Instr.typeAssert, Sem.run_bind, run_under hu, Result.andThen_ok]
      cases d <;> first | exact absurd rfl (hnot _) | simp [run_zero hz]
    | false => cases e
  · cases e
theorem zeros_eq (z : List Value) (hz : 0 < z.length) : ∀ n, ((List.range (n * z.length)).map fun i => z.toArray[i % z.toArray.size]!) = zeros z n := by
  intro n
  induction n with
  | zero => simp [zeros]
  | succ n ih =>
    rw [zeros, ← ih, Nat.succ_mul, Nat.add_comm, List.range_add, List.map_append, List.map_map]
    congr 1
    · apply List.ext_getElem (by simp)
      intro i h1 h2
      simp at h1
      simp [Nat.mod_eq_of_lt h1, h1]
    · apply List.map_congr_left
      intro i _
      simp
theorem zero_row {z : Value} (n s : Nat) (hs : (Value.cl z).length = s) : ((Array.range (n * s)).map (z.cells[· % z.cells.size]!)).toList = zeros (Value.cl z) n := by
  rw [cl_eq] at hs ⊢
  subst hs
  by_cases h0 : z.cells.toList.length = 0
  · have e0 : z.cells.toList = [] := List.length_eq_zero_iff.1 h0
    rw [h0, e0, Nat.mul_zero]
    clear e0 h0
    induction n with
    | zero => simp [zeros]
    | succ n ih => simp only [zeros, List.nil_append]; exact ih
  · have := zeros_eq z.cells.toList (by omega) n
    simpa using this
theorem flat_zeros {z : Value} (hf : flat z = true) : ∀ n, L2 ρ (zeros (Value.cl z) n) (zeros (Value.cl z) n)
  | 0 => .nil
  | n + 1 => L2.append (by rw [cl_eq]; exact flat_cells hf) (flat_zeros hf n)
/-- A new variable. -/
theorem newVar_ok (hr : Rel P ρ h w) {t : TypeId} {v v' : Value} (hv : VR ρ v v') :
    ∃ ρ' w', (newVar t v').run P w = .ok ⟨w.heap.size, 0, none⟩ w' ∧ ρ' h.next = some w.heap.size ∧ Rel P ρ' (newCells h t (Value.cl v)) w' ∧ Fw ρ h w ρ' (newCells h t (Value.cl v)) w' := by
  have hL : L2 ρ (Value.cl v) v'.cells.toList := by rw [cl_eq]; exact hv.cells
  have := hr.newRow 0 (t := t) (cs := v'.cells) hL ⟨[], by simp⟩ (by omega)
  exact ⟨_, _, by simp [newVar, Go.newRow], newCells_ptr, this.1, this.2⟩
theorem rowAt_mono {fits : TypeId → Bool} : ∀ (d : Nat) (e : TypeId) (count count' off n : Nat), count ≤ count' → rowAt P fits d e count off n = true → rowAt P fits d e count' off n = true
  | 0, _, _, _, _, _, _, h => by simp [rowAt] at h
  | d + 1, e, count, count', off, n, hc, h => by
    unfold rowAt at h ⊢
    by_cases h0 : P.cellsOf e = 0
    · simp [h0] at h
    · simp only [h0, if_false] at h ⊢
      simp only [Bool.or_eq_true, Bool.and_eq_true, decide_eq_true_eq] at h ⊢
      rcases h with ⟨⟨h1, h2⟩, h3⟩ | ⟨h1, h2⟩
      · exact .inl ⟨⟨h1, by omega⟩, h3⟩
      · exact .inr ⟨by omega, h2⟩
theorem liesAt_mono : ∀ (d : Nat) (e : TypeId) (count count' off : Nat) (u : TypeId) (n : Nat), count ≤ count' → liesAt P d e count off u n = true → liesAt P d e count' off u n = true
  | 0, _, _, _, _, _, _, _, h => by simp [liesAt] at h
  | d + 1, e, count, count', off, u, n, hc, h => by
    unfold liesAt at h ⊢
    simp only [Bool.or_eq_true] at h ⊢
    rcases h with h | h
    · exact .inl (rowAt_mono _ _ _ _ _ _ hc h)
    · refine .inr ?_
      split at h
      · exact liesAt_mono d _ _ _ _ _ _ hc h
      · exact h
theorem run_viewAt_cells {j : Nat} {cs : Array Value} {e : TypeId} {f : Nat × Nat} (hj : w.heap[j]? = some (.cells cs e f)) : (viewAt j).run P w = .ok none w := by
  simp [viewAt, shape, Sem.run, World.shape?, hj]
theorem run_seenAt_cells {j o : Nat} {cs : Array Value} {e : TypeId} {f : Nat × Nat} (hj : w.heap[j]? = some (.cells cs e f)) : (Conv.seenAt ⟨j, o, none⟩).run P w = .ok ⟨j, o, none⟩ w := by
  unfold Conv.seenAt
  rw [Sem.run_bind, run_viewAt_cells hj]
  rfl
theorem run_variablesAt {j o n : Nat} {cs : Array Value} {e u : TypeId} {f : Nat × Nat} (hj : w.heap[j]? = some (.cells cs e f)) (hl : liesAt P P.depth e (cs.size / P.cellsOf e) o u n = true) :
    (variablesAt ⟨j, o, none⟩ u n).run P w = .ok true w := by
  unfold variablesAt
  simp [program, shape, Sem.run, World.shape?, hj, hl]
theorem bytesOf_list : ∀ {l : List Value} {bs : List UInt8}, bytesOf l = some bs → l = bs.map fun b => .int .u8 b.toNat
  | [], bs, e => by simp only [bytesOf] at e; cases e; rfl
  | v :: l, bs, e => by
    unfold bytesOf at e
    split at e
    · rename_i hq; cases hq
    · rename_i n l' hq
      cases hq
      simp only [Option.bind_eq_some_iff] at e
      obtain ⟨m, hm, e⟩ := e
      have := natOf_ok hm
      subst this
      cases hb : Nat.blt m 256 with
      | false => rw [hb] at e; cases e
      | true =>
        rw [hb] at e
        simp only [cond, Option.map_eq_some_iff] at e
        obtain ⟨bs', h1, rfl⟩ := e
        have hb := blt_true hb
        have h2 := bytesOf_list h1
        rw [List.map_cons, ← h2]
        congr 2
        simp [UInt8.toNat_ofNat]
        omega
    · cases e
theorem bytesOf_map {l : List Value} {bs : List UInt8} (e : bytesOf l = some bs) : ∃ ns : List Int, l = ns.map (.int .u8) ∧ bs = ns.map fun n => n.toNat.toUInt8 := by
  refine ⟨bs.map fun b => (b.toNat : Int), by rw [bytesOf_list e, List.map_map]; rfl, ?_⟩
  rw [List.map_map]
  have : ((fun n : Int => n.toNat.toUInt8) ∘ fun b : UInt8 => (b.toNat : Int)) = id := by funext b; simp
  rw [this, List.map_id]
theorem L2.flat {l l' : List Value} (hl : L2 ρ l l') (hf : ∀ v ∈ l, Run.flat v = true) : l' = l := by
  induction hl with
  | nil => rfl
  | cons k _ ih => rw [k.eq_of_flat (hf _ (by simp)), ih (fun v hv => hf v (by simp [hv]))]
theorem foldl_bytes : ∀ (ns : List Int) (r : ByteArray), ns.foldl (fun r n => r.push (UInt8.ofNat n.toNat)) r = ⟨r.data ++ (ns.map fun n => n.toNat.toUInt8).toArray⟩
  | [], r => by cases r; simp
  | n :: ns, r => by
    rw [List.foldl_cons, foldl_bytes ns]
    cases r
    simp [ByteArray.push, Nat.toUInt8]
theorem convB_ok (hr : Rel P ρ h w) {src dst : TypeId} {x x' v : Value} (hx : VR ρ x x') (e : convB P h src dst x = some v) : ∃ v', (convert src dst x').run P w = .ok v' w ∧ VR ρ v v' := by
  unfold convB at e
  cases hf : flat x with
  | true =>
    rw [hf] at e
    obtain rfl := hx.eq_of_flat hf
    have := pureV_ok e w
    exact ⟨v, this.1, .fl this.2⟩
  | false =>
    rw [hf] at e
    simp only [cond] at e
    split at e
    · rename_i el b o n c hs hd
      split at e
      · rename_i hel
        split at e
        · rename_i el2 m cc ro hg
          split at e
          · rename_i hb
            simp only [Option.bind_eq_some_iff, Option.map_eq_some_iff] at e
            obtain ⟨l, h1, bs, h2, rfl⟩ := e
            have hb := ble_true hb
            rcases hx.sliceInv with ⟨j, c', k, rfl, k2, k3⟩ | ⟨k1, rfl, _, ad, c', rfl⟩
            · obtain ⟨cs, lo, hi, q1, q2, q3, q4, q5⟩ := hr.cellsAt k hg
              obtain ⟨p1, p2⟩ := rdCells_ok q3 n o l h1 hb
              obtain ⟨ns, h3, h4⟩ := bytesOf_map h2
              have p3 := p1.flat (fun v hv => by rw [h3] at hv; obtain ⟨z, _, rfl⟩ := List.mem_map.1 hv; rfl)
              have hrd := run_rd (P := P) (o := o) (k := n) q1 (by omega)
              rw [p3, h3] at hrd
              refine ⟨_, ?_, .fl rfl⟩
              have hbs := run_bytesToString (P := P) w ⟨j, o, none⟩ n c' ns hrd
              rw [foldl_bytes] at hbs
              simp only [convert, Sem.run_bind, run_under hs, run_under hd, Result.andThen_ok, run_under hel]
              rw [hbs, h4]
              simp
            · simp only [rdCells] at h1
              cases h1
              simp only [bytesOf] at h2; cases h2
              refine ⟨.string .empty, ?_, .fl rfl⟩
              have hbs := run_bytesToString (P := P) w ad 0 c' [] (by simp [loadCells, loadCellsFrom])
              simp only [convert, Sem.run_bind, run_under hs, run_under hd, Result.andThen_ok, run_under hel]
              rw [hbs]
              rfl
          · cases e
        · cases e
      · cases e
    · rename_i u b o hs hd
      split at e
      · rename_i el n cc ro s hg hz
        split at e
        · rename_i hb
          cases e
          simp only [Bool.and_eq_true] at hb
          have b1 := blt_true hb.1; have b2 := blt_true hb.2
          obtain ⟨j, k, rfl⟩ := hx.ptrInv
          obtain ⟨cs, lo, hi, q1, q2, q3, q4, q5⟩ := hr.cellsAt k hg
          refine ⟨_, ?_, .ptr k⟩
          have hne : s ≠ 0 := by omega
          have hlt : ¬ (cs.size ≤ o) := by omega
          simp only [convert, Sem.run_bind, run_under hs, run_under hd, Result.andThen_ok, Conv.unsafePointer, run_seenAt_cells q1]
          simp [cellsIn, shape, Sem.run, World.shape?, q1, run_size hz, hne, hlt]
        · cases e
      · cases e
    · rename_i u b o hs hd
      split at e
      · rename_i el n cc ro s hg hz
        split at e
        · rename_i hb
          cases e
          simp only [Bool.and_eq_true] at hb
          have b1 := blt_true hb.1
          obtain ⟨j, k, rfl⟩ := hx.ptrInv
          obtain ⟨cs, lo, hi, q1, q2, q3, q4, q5⟩ := hr.cellsAt k hg
          refine ⟨_, ?_, .ptr k⟩
          have hne : s ≠ 0 := by omega
          have hv := run_variablesAt (P := P) (o := o) q1 (liesAt_mono _ _ _ _ _ _ _ (Nat.div_le_div_right q2) hb.2)
          simp only [convert, Sem.run_bind, run_under hs, run_under hd, Result.andThen_ok, Conv.unsafePointer, run_seenAt_cells q1]
          simp [run_size hz, hne, hv]
        · cases e
      · cases e
    · cases e
end
end Go.Proofs.YtkmfihpmjnfbfaaGreatDoor.Run
