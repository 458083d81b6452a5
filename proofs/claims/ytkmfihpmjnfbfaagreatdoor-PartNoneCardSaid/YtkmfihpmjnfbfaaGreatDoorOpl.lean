/-
  Each operation, told of the evaluator.
-/
import Derived.Test.YtkmfihpmjnfbfaaGreatDoorOpk
namespace Go.Proofs.YtkmfihpmjnfbfaaGreatDoor.Run
open Go
set_option linter.unusedVariables false
set_option linter.unusedSimpArgs false
def ExtOk (P : Program) (ext : Ext) : Prop := ∀ f e, ext f = some e → ∀ (ρ : Rn) (h : AH) (w : World) (args : List Value) (args' : Array Value) (v : Value) (h' : AH), Rel P ρ h w → L2 ρ args args'.toList → e h args = some (v, h') →
  ∃ ρ' v' w', (callFunc f args').run P w = .ok (.value v') w' ∧ VR ρ' v v' ∧ Rel P ρ' h' w' ∧ Fw ρ h w ρ' h' w'
section
variable {P : Program} {ρ : Rn} {gl : Gl} {sz : Nat} {tm : Tr Value} {a : Act} {h : AH} {w : World}
theorem VR.boolInv {b : Bool} {v' : Value} (hv : VR ρ (.bool b) v') : v' = .bool b := hv.eq_of_flat rfl
theorem VR.tupleInv {vs : Array Value} {v' : Value} (hv : VR ρ (.tuple vs) v') : ∃ vs', v' = .tuple vs' ∧ L2 ρ vs.toList vs'.toList := by
  cases hv with
  | fl hf =>
    simp only [flat] at hf
    refine ⟨vs, rfl, ?_⟩
    have : vs.toList = [] := by simpa using hf
    rw [this]; exact .nil
  | tuple k1 k2 => exact ⟨_, rfl, L2.ofArr k1 k2⟩
theorem VR.fnInv {f : FuncId} {xs ys : Array Value} {v' : Value} (hv : VR ρ (.func (.func f) xs ys) v') : ∃ xs' ys', v' = .func (.func f) xs' ys' ∧ L2 ρ xs.toList xs'.toList ∧ L2 ρ ys.toList ys'.toList := by
  cases hv with
  | fl hf => simp [flat] at hf
  | fn k1 k2 k3 k4 => exact ⟨_, _, rfl, L2.ofArr k1 k2, L2.ofArr k3 k4⟩
theorem VR.yieldInv {l : Nat} {xs ys : Array Value} {v' : Value} (hv : VR ρ (.func (.yield l) xs ys) v') : ∃ l', ρ l = some l' ∧ v' = .func (.yield l') #[] #[] := by
  cases hv with
  | fl hf => simp [flat] at hf
  | yield k => exact ⟨_, k, rfl⟩
theorem VR.ifaceInv {t : TypeId} {v v' : Value} (hv : VR ρ (.iface t v) v') : ∃ u, v' = .iface t u ∧ VR ρ v u := by
  cases hv with
  | fl hf => exact ⟨v, rfl, .fl hf⟩
  | iface k => exact ⟨_, rfl, k⟩
/-- What a function value comes to. -/
theorem fnB_ok {v v' : Value} {args args' : List Value} {nx : Nx} (hv : VR ρ v v') (ha : L2 ρ args args') (e : fnB v args = some nx) (w : World) :
    ∃ d, (Deferred.ofValue v' args'.toArray).run P w = .ok d w ∧ ((∃ f l l', nx = .call f l ∧ (∀ w', (invoke d.target d.args).run P w' = (callFunc f l').run P w') ∧ L2 ρ l l'.toList ∧ DR ρ (.call f l) d) ∨
      (∃ l l' as as', nx = .round l as ∧ ρ l = some l' ∧ (∀ w', (invoke d.target d.args).run P w' = (Instr.yield l' as').run P w') ∧ L2 ρ as as'.toList)) := by
  unfold fnB at e
  split at e
  · rename_i f first cap
    cases e
    obtain ⟨xs', ys', rfl, k1, k2⟩ := hv.fnInv
    refine ⟨⟨.fn (.func f) ys', xs' ++ args'.toArray⟩, rfl, .inl ⟨f, _, xs' ++ args'.toArray ++ ys', rfl, fun w' => rfl, ?_, ⟨ys', xs' ++ args'.toArray, rfl, ?_⟩⟩⟩
    · simpa using (k1.append ha).append k2
    · simpa using (k1.append ha).append k2
  · rename_i l first cap
    cases e
    obtain ⟨l', k, rfl⟩ := hv.yieldInv
    exact ⟨⟨.fn (.yield l') #[], #[] ++ args'.toArray⟩, rfl, .inr ⟨l, l', args, #[] ++ args'.toArray, rfl, k, fun w' => rfl, by simpa using ha⟩⟩
  · cases e
theorem opOk_pureB (hr : Rel P ρ h w) {s : Sem Value} {nx : Nx} {r : Option Value} (e : valB h r = some nx) (hs : ∀ v, r = some v → ∃ v', s.run P w = .ok v' w ∧ VR ρ v v') : OpOk P ρ h w ((do pure (Next.value (← s)) : Sem Next).run P w) nx := by
  simp only [valB, Option.map_eq_some_iff] at e
  obtain ⟨v, e, rfl⟩ := e
  obtain ⟨v', h1, h2⟩ := hs v e
  exact OpOk.sem hr h1 h2
theorem opOk_effB {s : Sem Value} {nx : Nx} {r : Option (Value × AH)} (e : effB r = some nx) (hs : ∀ v h', r = some (v, h') → ∃ ρ' v' w', s.run P w = .ok v' w' ∧ VR ρ' v v' ∧ Rel P ρ' h' w' ∧ Fw ρ h w ρ' h' w') : OpOk P ρ h w ((do pure (Next.value (← s)) : Sem Next).run P w) nx := by
  simp only [effB, Option.map_eq_some_iff] at e
  obtain ⟨⟨v, h'⟩, e, rfl⟩ := e
  obtain ⟨ρ', v', w', h1, h2, h3, h4⟩ := hs v h' e
  exact OpOk.eff h1 h2 h3 h4
theorem opOk_doB {s : Sem Unit} {nx : Nx} {r : Option AH} (e : doB r = some nx) (hs : ∀ h', r = some h' → ∃ w', s.run P w = .ok () w' ∧ Rel P ρ h' w' ∧ Fw ρ h w ρ h' w') : OpOk P ρ h w ((do s; pure Next.skip : Sem Next).run P w) nx := by
  simp only [doB, Option.map_eq_some_iff] at e
  obtain ⟨h', e, rfl⟩ := e
  obtain ⟨w', h1, h3, h4⟩ := hs h' e
  exact ⟨ρ, undef, w', .inr ⟨rfl, by rw [Sem.run_bind, h1]; rfl⟩, .fl rfl, h3, h4⟩
theorem OV.ofOpt (hg : GlOk ρ gl) (ht : TR ρ sz tm a.tmps) {x : Option Operand} {r : Option Value} (e : ((match x with | none => some none | some v => (opnd gl tm v).map some) : Option (Option Value)) = some r) : OV ρ r (x.map a.eval) := by
  cases x with
  | none => cases e; exact trivial
  | some v =>
    simp only [Option.map_eq_some_iff] at e
    obtain ⟨u, h1, rfl⟩ := e
    exact opnd_ok hg ht h1
theorem alloc_put (w : World) (x y : Obj) : (w.alloc x).putObj w.heap.size y = w.alloc y := by
  unfold World.putObj World.alloc
  congr 1
  apply Array.ext_getElem?
  intro i
  by_cases e : w.heap.size = i
  · subst e
    rw [Array.getElem?_setIfInBounds_self_of_lt (by simp)]
    simp
  · rw [Array.getElem?_setIfInBounds_ne e, Array.getElem?_push, Array.getElem?_push, if_neg (fun k => e k.symm), if_neg (fun k => e k.symm)]
theorem freeze_one {j : Nat} {cs : Array Value} {e : TypeId} (hj : w.heap[j]? = some (.cells cs e (0, 0))) (o : Nat) : w.freeze ⟨j, o, none⟩ 1 = w.putObj j (.cells cs e (o, o + 1)) := by
  have hlt : j < w.heap.size := (Array.getElem?_eq_some_iff.1 hj).1
  unfold World.freeze World.putObj
  rw [if_neg (by omega)]
  congr 1
  apply Array.ext_getElem?
  intro i
  rw [Array.getElem?_modify]
  by_cases hi : j = i
  · subst hi
    rw [if_pos rfl, hj]
    simp [hlt]
  · rw [if_neg hi, Array.getElem?_setIfInBounds_ne hi]
theorem strB_ok (hr : Rel P ρ h w) {s d el : TypeId} {bs : ByteArray} (hs : P.underlying s = some .string) (hd : P.underlying d = some (.slice el)) (hel : P.underlying el = some (.int .u8)) (hc1 : P.cellsOf el = 1) :
    ∃ ρ' v' w', (convert s d (.string bs)).run P w = .ok v' w' ∧ VR ρ' (.slice (some ⟨h.next, 0, none⟩) bs.size UNK) v' ∧ Rel P ρ' (newCells h el (bs.data.toList.map fun b => .int .u8 b.toNat)) w' ∧ Fw ρ h w ρ' (newCells h el (bs.data.toList.map fun b => .int .u8 b.toNat)) w' := by
  have hcap := grownCap_ge w bs.size 0 el
  have hr' : Rel P ρ h w.drew := hr.drawn rfl
  let elems : List Value := bs.data.toList.map fun b => .int .u8 b.toNat
  let cs : Array Value := (bs.data.map fun b => Value.int .u8 b.toNat) ++ Array.replicate (grownCap w bs.size 0 el - bs.size) (Value.int .u8 0)
  have hbs : bs.data.size = bs.size := rfl
  have hsz : cs.size = grownCap w bs.size 0 el := by simp [cs, hbs]; omega
  have hL : ∀ ρ : Rn, L2 ρ elems elems := fun ρ => by
    show L2 ρ (bs.data.toList.map _) (bs.data.toList.map _)
    generalize bs.data.toList = q
    induction q with
    | nil => exact .nil
    | cons x q ih => exact .cons (.fl rfl) ih
  have helen : elems.length = bs.size := by simp [elems, hbs]
  have hnew := hr'.new (grownCap w bs.size 0 el) (o := .cells el elems.length (Tr.ofFrom elems 0 .e) false) (x := .cells cs el (cs.size, cs.size + 1)) (.cells (by rw [hc1, hsz]; omega) (by rw [helen, hsz]; exact hcap) (fun i hi => by
    rw [Tr.get_of]
    have hv : elems[i]? = some (elems[i]'hi) := by simp
    refine ⟨_, elems[i]'hi, hv, ?_, ?_⟩
    · have hlt : i < (bs.data.map fun b => Value.int .u8 b.toNat).size := by simp; rw [helen] at hi; omega
      show ((bs.data.map fun b => Value.int .u8 b.toNat) ++ _)[i]? = _
      rw [Array.getElem?_append_left hlt, ← Array.getElem?_toList, Array.toList_map]
      exact hv
    · obtain ⟨v', e1, e2⟩ := (hL _).get i _ hv
      rw [hv] at e1; cases e1; exact e2) (fun _ i hi => by omega))
  refine ⟨_, .slice (some ⟨w.heap.size, 0, none⟩) bs.size (grownCap w bs.size 0 el), w.drew.alloc (.cells cs el (cs.size, cs.size + 1)), ?_, ?_, hnew.1, (Fw.drawn (w := w) (w' := w.drew) rfl rfl rfl rfl).trans hnew.2⟩
  · have hj : (w.drew.alloc (.cells cs el)).heap[w.heap.size]? = some (.cells cs el (0, 0)) := by show (w.heap.push _)[w.heap.size]? = _; rw [Array.getElem?_push, if_pos rfl]
    have hfz := freeze_one hj cs.size
    have hmark : (markStringish ⟨w.heap.size, 0, none⟩).run P (w.drew.alloc (.cells cs el)) = .ok () (w.drew.alloc (.cells cs el (cs.size, cs.size + 1))) := by
      have : (w.drew.alloc (.cells cs el)).shape? w.heap.size = some (el, cs.size) := by simp only [World.shape?, hj]
      simp only [markStringish, Sem.run_bind, shape, Sem.run, this, Result.andThen_ok, freeze, hfz]
      exact congrArg _ (alloc_put w.drew _ _)
    simp only [convert, Sem.run_bind, run_under hs, run_under hd, Result.andThen_ok, run_under hel, Conv.stringToBytes]
    have hch : (choose (.appendCap bs.size 0 el)).run P w = .ok (grownCap w bs.size 0 el) w.drew := rfl
    rw [hch]
    simp only [Result.andThen_ok, newRow, Sem.run_bind, run_newObj, Sem.run_pure]
    show (((markStringish ⟨w.heap.size, 0, none⟩).run P (w.drew.alloc (.cells cs el))).andThen _) = _
    rw [hmark]
    rfl
  · refine .slice newCells_ptr (.inr ⟨rfl, fun _ => ?_⟩) hcap
    show _ ≤ (if h.next = h.next then _ else _)
    rw [if_pos rfl]; exact Nat.le_refl _
theorem buildSliceB_ok (hr : Rel P ρ h w) {t : TypeId} {n : Nat} {l l' : List (Nat × Value)} {nx : Nx} (hp : P2 ρ l l') (e : (match P.underlying t with
    | some (.slice elem) => (sizeB P elem).bind fun s => (zeroB P elem).bind fun z =>
      cond (Nat.ble (n * s) 16777216 && Nat.beq (Value.cl z).length s && Nat.blt n UNK) ((Instr.fill (fun i => some (i * s, s)) (zeros (Value.cl z) n).toArray l).map fun cs => .val (.slice (some ⟨h.next, 0, none⟩) n n) (newCells h elem cs.toList)) none
    | _ => none) = some nx) : OpOk P ρ h w ((do pure (Next.value (← Instr.buildSlice t n l'.toArray)) : Sem Next).run P w) nx := by
  split at e
  · rename_i el hu
    simp only [Option.bind_eq_some_iff] at e
    obtain ⟨s, hs, z, hz, e⟩ := e
    cases hb : (Nat.ble (n * s) 16777216 && Nat.beq (Value.cl z).length s && Nat.blt n UNK) with
    | false => rw [hb] at e; cases e
    | true =>
      rw [hb] at e
      simp only [cond, Option.map_eq_some_iff] at e
      obtain ⟨cs, hcs, rfl⟩ := e
      obtain ⟨b1, b2, b3⟩ := and3 hb
      have b1 := ble_true b1; have b2 := beq_true b2; have b3 := blt_true b3
      obtain ⟨cs', q1, q2⟩ := fill_ok _ hp (c := (zeros (Value.cl z) n).toArray) (c' := (zeros (Value.cl z) n).toArray) (flat_zeros (zeroB_flat hz).1 n) hcs
      have hn := hr.newRow 0 (t := el) (cs := cs') q2 ⟨[], by simp⟩ (by omega)
      refine OpOk.eff (s := Instr.buildSlice t n l'.toArray) (v' := .slice (some ⟨w.heap.size, 0, none⟩) n n) ?_ (.slice newCells_ptr (.inl ⟨rfl, b3⟩) (Nat.le_refl _)) hn.1 hn.2
      have hcells : ((Array.range (n * s)).map (z.cells[· % z.cells.size]!)) = (zeros (Value.cl z) n).toArray := by
        apply Array.ext'
        rw [zero_row n s b2]
      have hroom : ¬ (2 ^ 24 < n * s) := by omega
      by_cases h0 : n * s = 0
      · have hnil : (zeros (Value.cl z) n) = [] := by
          have := congrArg Array.size hcells
          simp [h0] at this
          exact List.length_eq_zero_iff.1 this.symm
        rw [hnil] at q1
        simp only [Instr.buildSlice, Sem.run_bind, run_under hu, run_size hs, Result.andThen_ok]
        rw [h0]
        have q1' : Instr.fill (fun i => some (i * s, s)) ((Array.range 0).map fun x => (#[] : Array Value)[x % (#[] : Array Value).size]!) l' = some cs' := by
          rw [show (Array.range 0) = #[] from Array.eq_empty_of_size_eq_zero (by simp), Array.map_empty]; exact q1
        simp at q1'
        simp [q1', newRow]
      · simp only [Instr.buildSlice, Sem.run_bind, run_under hu, run_size hs, Result.andThen_ok]
        simp [hroom, h0, run_zero hz, hcells, q1, newRow]
  · cases e
set_option maxHeartbeats 4000000 in
theorem opB_ok {ext : Ext} (he : ExtOk P ext) (hg : GlOk ρ gl) (ht : TR ρ sz tm a.tmps) (hr : Rel P ρ h w) {o : Oper} {nx : Nx} (e : opB P ext gl tm h o = some nx) : OpOk P ρ h w ((execOp a.eval o).run P w) nx := by
  obtain ⟨dst, op, type, pos, after, guard⟩ := o
  have ho : ∀ {x : Operand} {v : Value}, opnd gl tm x = some v → VR ρ v (a.eval x) := fun e => opnd_ok hg ht e
  cases op <;> simp only [opB] at e
  case move x =>
    simp only [valB, Option.map_eq_some_iff] at e
    obtain ⟨v, e, rfl⟩ := e
    exact OpOk.val0 hr rfl (ho e)
  case assign x =>
    simp only [valB, Option.map_eq_some_iff] at e
    obtain ⟨v, e, rfl⟩ := e
    exact OpOk.val0 hr rfl (ho e)
  case pick c x y =>
    simp only [Option.bind_eq_some_iff] at e
    obtain ⟨cv, hc, e⟩ := e
    have hc' := ho hc
    split at e
    · have hb := hc'.boolInv
      simp only [valB, Option.map_eq_some_iff] at e
      obtain ⟨v, e, rfl⟩ := e
      exact OpOk.val0 (v' := a.eval x) hr (by simp [execOp, hb, asBool]) (ho e)
    · have hb := hc'.boolInv
      simp only [valB, Option.map_eq_some_iff] at e
      obtain ⟨v, e, rfl⟩ := e
      exact OpOk.val0 (v' := a.eval y) hr (by simp [execOp, hb, asBool]) (ho e)
    · cases e
  case alloc t =>
    simp only [Option.map_eq_some_iff] at e
    obtain ⟨z, hz, rfl⟩ := e
    obtain ⟨ρ', w', h1, h2, h3, h4⟩ := newVar_ok (t := t) hr (.fl (zeroB_flat hz).1 : VR ρ z z)
    exact OpOk.eff (s := Instr.alloc t true (.tuple #[])) (by simp [Instr.alloc, run_zero hz, h1]) (.ptr h2) h3 h4
  case box t x =>
    simp only [Option.map_eq_some_iff] at e
    obtain ⟨v, hv, rfl⟩ := e
    obtain ⟨ρ', w', h1, h2, h3, h4⟩ := newVar_ok (t := t) hr (ho hv)
    exact OpOk.eff (s := Instr.box t (a.eval x)) (by simp [Instr.box, h1]) (.ptr h2) h3 h4
  case build t ps =>
    simp only [Option.bind_eq_some_iff] at e
    obtain ⟨l, hl, e⟩ := e
    have hp := parts_ok hg ht hl
    have hps : (ps.map fun (i, x) => (i, a.eval x)) = (ps.toList.map fun (i, x) => (i, a.eval x)).toArray := by rw [← List.map_toArray, Array.toArray_toList]
    refine opOk_pureB (s := Instr.build t (ps.map fun (i, x) => (i, a.eval x))) hr e (fun v hv => ?_)
    rw [hps]
    exact buildB_ok hp hv w
  case buildSlice t n ps =>
    simp only [Option.bind_eq_some_iff] at e
    obtain ⟨l, hl, e⟩ := e
    have hp := parts_ok hg ht hl
    have hps : (ps.map fun (i, x) => (i, a.eval x)) = (ps.toList.map fun (i, x) => (i, a.eval x)).toArray := by rw [← List.map_toArray, Array.toArray_toList]
    have := buildSliceB_ok hr hp e
    rw [← hps] at this
    exact this
  case load t x =>
    simp only [Option.bind_eq_some_iff] at e
    obtain ⟨ad, hx, e⟩ := e
    exact opOk_pureB (s := Instr.loadAt t (a.eval x)) hr e (fun v hv => loadB_ok hr (ho hx) hv)
  case store t x y =>
    simp only [Option.bind_eq_some_iff] at e
    obtain ⟨ad, hx, v, hy, e⟩ := e
    exact opOk_doB (s := Instr.storeAt t (a.eval x) (a.eval y)) e (fun h' hv => storeB_ok hr (ho hx) (ho hy) hv)
  case nilCheck x =>
    simp only [Option.bind_eq_some_iff] at e
    obtain ⟨v, hx, e⟩ := e
    have hv := ho hx
    split at e
    · rename_i ad
      cases e
      refine OpOk.val0 (v' := a.eval x) hr ?_ hv
      have hq : ∃ ad', a.eval x = .pointer (some ad') := by
        revert hv
        generalize a.eval x = xv
        intro hv
        cases hv with
        | fl hf => simp [flat] at hf
        | ptr k => exact ⟨_, rfl⟩
      obtain ⟨ad', hq⟩ := hq
      simp [execOp, hq]
    · rename_i f xs ys
      cases e
      refine OpOk.val0 (v' := a.eval x) hr ?_ hv
      obtain ⟨xs', ys', hq, _, _⟩ := hv.fnInv
      simp [execOp, hq]
    · rename_i t u
      cases e
      refine OpOk.val0 (v' := a.eval x) hr ?_ hv
      obtain ⟨u', hq, _⟩ := hv.ifaceInv
      simp [execOp, hq]
    · cases e
  case binOp op t x y yt =>
    simp only [Option.bind_eq_some_iff] at e
    obtain ⟨va, hx, vb, hy, e⟩ := e
    exact opOk_pureB (s := do eqGuard op t x y (a.eval x) (a.eval y); binOp op t (a.eval x) (a.eval y)) hr e (fun v hv => binB_ok (ho hx) (ho hy) hv w)
  case unOp op t x =>
    simp only [Option.bind_eq_some_iff] at e
    obtain ⟨va, hx, e⟩ := e
    cases hf : flat va with
    | false => rw [hf] at e; cases e
    | true =>
      rw [hf] at e
      have hq := (ho hx).eq_of_flat hf
      refine opOk_pureB (s := Op.unary op (a.eval x)) hr e (fun v hv => ?_)
      have := pureV_ok hv w
      rw [hq]
      exact ⟨v, this.1, .fl this.2⟩
  case convert s d x =>
    simp only [Option.bind_eq_some_iff] at e
    obtain ⟨va, hx, e⟩ := e
    split at e
    · rename_i el bs hs hd
      split at e
      · rename_i hel
        cases hc1 : Nat.beq (P.cellsOf el) 1 with
        | false => rw [hc1] at e; cases e
        | true =>
        rw [hc1] at e
        cases e
        have hq := (ho hx).eq_of_flat rfl
        obtain ⟨ρ', v', w', h1, h2, h3, h4⟩ := strB_ok hr hs hd hel (beq_true hc1) (bs := bs)
        exact OpOk.eff (s := convert s d (a.eval x)) (by rw [hq]; exact h1) h2 h3 h4
      · cases e
    · exact opOk_pureB (s := convert s d (a.eval x)) hr e (fun v hv => convB_ok hr (ho hx) hv)
  case makeInterface t x =>
    simp only [Option.bind_eq_some_iff] at e
    obtain ⟨va, hx, e⟩ := e
    split at e
    · cases e
    · rename_i d hd hu
      cases e
      refine OpOk.sem (s := Instr.makeInterface t (a.eval x)) (v' := .iface t (a.eval x)) hr ?_ (.iface (ho hx))
      simp only [Instr.makeInterface, Sem.run_bind, run_under hu, Result.andThen_ok]
      cases d <;> first | exact absurd rfl (hd _) | rfl
    · cases e
  case makeFunc fn first cap =>
    simp only [Option.bind_eq_some_iff] at e
    obtain ⟨xs, hxs, ys, hys, e⟩ := e
    split at e
    · rename_i f
      cases e
      have k1 := opnds_ok hg ht hxs
      have k2 := opnds_ok hg ht hys
      refine OpOk.sem (s := Instr.makeFunc (.func f) (first.map a.eval) (cap.map a.eval)) (v' := .func (.func f) (first.map a.eval) (cap.map a.eval)) hr rfl ?_
      have e1 : first.map a.eval = (first.toList.map a.eval).toArray := by rw [← List.map_toArray, Array.toArray_toList]
      have e2 : cap.map a.eval = (cap.toList.map a.eval).toArray := by rw [← List.map_toArray, Array.toArray_toList]
      rw [e1, e2]
      exact .fn (by simpa using k1.length) k1.arr (by simpa using k2.length) k2.arr
    · cases e
  case makeMap t r =>
    cases r with
    | some _ => cases e
    | none =>
      cases e
      have := hr.new 0 (o := .map [] 0) (x := .map #[] 0) (.map trivial)
      exact OpOk.eff (s := Instr.makeMap t none) rfl (.map newCells_ptr) this.1 this.2
  case makeSlice t l c =>
    simp only [Option.bind_eq_some_iff] at e
    obtain ⟨vl, hl, vc, hc, e⟩ := e
    exact opOk_effB (s := Instr.makeSlice t (a.eval l) (a.eval c)) e (fun v h' hv => makeSliceB_ok hr (ho hl) (ho hc) hv)
  case slice t x lo hi mx =>
    simp only [Option.bind_eq_some_iff] at e
    obtain ⟨vx, hx, vl, hl, vh, hh, e⟩ := e
    cases mx with
    | some _ => cases e
    | none =>
      exact opOk_pureB (s := Instr.sliceAt t (a.eval x) (lo.map a.eval) (hi.map a.eval) none) hr e (fun v hv => sliceB_ok (ho hx) (OV.ofOpt hg ht hl) (OV.ofOpt hg ht hh) hv w)
  case fieldAddr s x f =>
    simp only [Option.bind_eq_some_iff] at e
    obtain ⟨vx, hx, e⟩ := e
    exact opOk_pureB (s := Instr.fieldAt s (a.eval x) f) hr e (fun v hv => fieldAddrB_ok (ho hx) hv w)
  case field s x f =>
    simp only [Option.bind_eq_some_iff] at e
    obtain ⟨vx, hx, e⟩ := e
    exact opOk_pureB (s := Instr.field s (a.eval x) f) hr e (fun v hv => fieldB_ok (ho hx) hv w)
  case indexAddr t x i =>
    simp only [Option.bind_eq_some_iff] at e
    obtain ⟨vx, hx, vi, hi, e⟩ := e
    exact opOk_pureB (s := Instr.indexAt t (a.eval x) (a.eval i)) hr e (fun v hv => indexAddrB_ok (ho hx) (ho hi) hv w)
  case index t x i =>
    simp only [Option.bind_eq_some_iff] at e
    obtain ⟨vx, hx, vi, hi, e⟩ := e
    exact opOk_pureB (s := Instr.index t (a.eval x) (a.eval i)) hr e (fun v hv => indexB_ok (ho hx) (ho hi) hv w)
  case lookup t m k ok =>
    simp only [Option.bind_eq_some_iff] at e
    obtain ⟨vm, hm, vk, hk, e⟩ := e
    exact opOk_pureB (s := Instr.lookup t (a.eval m) (a.eval k) ok) hr e (fun v hv => lookupB_ok hr (ho hm) (ho hk) hv)
  case mapUpdate t m k x =>
    simp only [Option.bind_eq_some_iff] at e
    obtain ⟨vm, hm, vk, hk, vx, hx, e⟩ := e
    exact opOk_doB (s := Instr.mapUpdate t (a.eval m) (a.eval k) (a.eval x)) e (fun h' hv => updB_ok hr (ho hm) (ho hk) (ho hx) hv)
  case insert t m k x =>
    simp only [Option.bind_eq_some_iff] at e
    obtain ⟨vm, hm, vk, hk, vx, hx, e⟩ := e
    exact opOk_doB (s := Instr.mapUpdate t (a.eval m) (a.eval k) (a.eval x)) e (fun h' hv => updB_ok hr (ho hm) (ho hk) (ho hx) hv)
  case range t x =>
    simp only [Option.bind_eq_some_iff] at e
    obtain ⟨vx, hx, e⟩ := e
    exact opOk_effB (s := Instr.range t (a.eval x)) e (fun v h' hv => rangeB_ok hr (ho hx) hv)
  case next it b =>
    cases b with
    | true => cases e
    | false =>
      simp only [Option.bind_eq_some_iff] at e
      obtain ⟨vx, hx, e⟩ := e
      exact opOk_effB (s := Instr.next (a.eval it) false type) e (fun v h' hv => let ⟨v', w', q1, q2, q3, q4⟩ := nextB_ok hr type (ho hx) hv; ⟨ρ, v', w', q1, q2, q3, q4⟩)
  case entry it =>
    simp only [Option.bind_eq_some_iff] at e
    obtain ⟨vx, hx, e⟩ := e
    exact opOk_pureB (s := Instr.entry (a.eval it)) hr e (fun v hv => entryB_ok hr (ho hx) hv)
  case typeAssert x xt t ok =>
    simp only [Option.bind_eq_some_iff] at e
    obtain ⟨vx, hx, e⟩ := e
    exact opOk_pureB (s := Instr.typeAssert (a.eval x) xt t ok) hr e (fun v hv => assertB_ok (ho hx) hv w)
  case extract t i =>
    simp only [Option.bind_eq_some_iff] at e
    obtain ⟨vx, hx, e⟩ := e
    split at e
    · rename_i vs
      obtain ⟨vs', hq, k⟩ := (ho hx).tupleInv
      refine opOk_pureB (s := Instr.extract (a.eval t) i) hr e (fun v hv => ?_)
      obtain ⟨v', e1, e2⟩ := k.get i v (by simpa using hv)
      exact ⟨v', by rw [hq]; simp [Instr.extract, show vs'[i]? = some v' by simpa using e1], e2⟩
    · cases e
  case call c =>
    simp only [Option.bind_eq_some_iff] at e
    obtain ⟨vs, hvs, e⟩ := e
    have k1 := opnds_ok hg ht hvs
    have e1 : c.args.map a.eval = (c.args.toList.map a.eval).toArray := by rw [← List.map_toArray, Array.toArray_toList]
    obtain ⟨callee, args, ats⟩ := c
    cases callee with
    | builtin b =>
      simp only at e
      have := builtinB_ok (ty := type) (cs := args.map fun | .const _ => true | _ => false) hr k1 e
      rw [← e1] at this
      exact this
    | value f =>
      simp only [Option.bind_eq_some_iff] at e
      obtain ⟨vf, hf, nx', hnx, e⟩ := e
      obtain ⟨d, q1, q2⟩ := fnB_ok (P := P) (ho hf) k1 hnx w
      rw [← e1] at q1
      have hrun : (execOp a.eval ⟨dst, .call ⟨.value f, args, ats⟩, type, pos, after, guard⟩).run P w = (invoke d.target d.args).run P w := by
        show ((resolve a.eval ⟨.value f, args, ats⟩ type) >>= fun d => invoke d.target d.args).run P w = _
        have : (resolve a.eval ⟨.value f, args, ats⟩ type) = Deferred.ofValue (a.eval f) (args.map a.eval) := rfl
        rw [this, Sem.run_bind, q1]
        rfl
      rw [hrun]
      rcases q2 with ⟨g, l, l', rfl, q3, q4, _⟩ | ⟨l, l', as, as', rfl, q3, q4, q5⟩
      · simp only at e
        split at e
        · rename_i ee hext
          simp only [effB, Option.map_eq_some_iff] at e
          obtain ⟨⟨v, h'⟩, e, rfl⟩ := e
          obtain ⟨ρ', v', w', p1, p2, p3, p4⟩ := he g ee hext ρ h w l l' v h' hr q4 e
          exact ⟨ρ', v', w', .inl (by rw [q3, p1]), p2, p3, p4⟩
        · cases e
          exact ⟨l', q3 w, q4⟩
      · simp only at e
        cases e
        exact ⟨l', as', q3, q4 w, q5⟩
    | invoke r name =>
      simp only [Option.bind_eq_some_iff] at e
      obtain ⟨vr, hvr, e⟩ := e
      split at e
      · rename_i t v
        simp only [Option.bind_eq_some_iff] at e
        obtain ⟨i, hi, m, hm, e⟩ := e
        split at e
        · rename_i g el hp hfn hu
          cases e
          obtain ⟨u, hq, hu2⟩ := (ho hvr).ifaceInv
          refine ⟨#[u] ++ args.map a.eval, ?_, ?_⟩
          · show ((resolve a.eval ⟨.invoke r name, args, ats⟩ type) >>= fun d => invoke d.target d.args).run P w = _
            have : (resolve a.eval ⟨.invoke r name, args, ats⟩ type) = pure { target := .fn (.method name) #[], args := #[a.eval r] ++ args.map a.eval } := rfl
            rw [this, Sem.run_bind, Sem.run_pure, Result.andThen_ok, hq]
            have hpe : m.path = #[] := Array.ext' hp
            have hmeth : (method (P.types.size + Made.depth) t u name).run P w = .ok (g, u) w := by
              have : P.types.size + Made.depth = (P.types.size + 99) + 1 := by simp [Made.depth]
              rw [this]
              unfold method
              rw [Sem.run_bind, info_typeInfo hi]
              simp only [Result.andThen_ok, hm]
              simp [hp, hfn, follow, receiverAt, run_under hu, Place.get]
            simp only [invoke]
            have h0 : (#[Value.iface t u] ++ args.map a.eval)[0]? = some (.iface t u) := by simp [Array.getElem?_append]
            simp only [h0]
            have hx : (#[Value.iface t u] ++ args.map a.eval).extract 1 (#[Value.iface t u] ++ args.map a.eval).size = args.map a.eval := by
              apply Array.ext'
              simp
              exact List.take_of_length_le (by simp)
            rw [hx]
            simp only [callMethod, Sem.run_bind, program]
            show (((method (P.types.size + Made.depth) t u name).run P w).andThen _) = _
            rw [hmeth]
            rfl
          · rw [e1]
            simpa using L2.cons hu2 k1
        · cases e
      · cases e
  case defer c =>
    simp only [Option.bind_eq_some_iff] at e
    obtain ⟨vs, hvs, e⟩ := e
    have k1 := opnds_ok hg ht hvs
    have e1 : c.args.map a.eval = (c.args.toList.map a.eval).toArray := by rw [← List.map_toArray, Array.toArray_toList]
    obtain ⟨callee, args, ats⟩ := c
    cases callee with
    | value f =>
      simp only [Option.bind_eq_some_iff] at e
      obtain ⟨vf, hf, e⟩ := e
      split at e
      · rename_i g l hnx
        cases e
        obtain ⟨d, q1, q2⟩ := fnB_ok (P := P) (ho hf) k1 hnx w
        rw [← e1] at q1
        rcases q2 with ⟨g', l2, l', hq, q3, q4, q5⟩ | ⟨l2, l', as, as', hq, _⟩
        · cases hq
          refine ⟨d, ?_, q5⟩
          show ((resolve a.eval ⟨.value f, args, ats⟩ type) >>= fun d => (pure (Next.defer d) : Sem Next)).run P w = _
          have : (resolve a.eval ⟨.value f, args, ats⟩ type) = Deferred.ofValue (a.eval f) (args.map a.eval) := rfl
          rw [this, Sem.run_bind, q1]
          rfl
        · cases hq
      · cases e
    | builtin b => cases e
    | invoke r name => cases e
  all_goals cases e
end
end Go.Proofs.YtkmfihpmjnfbfaaGreatDoor.Run
