/-
  A region of open order in a fenced walk, whose first operations each make a value that later steps do not turn, and whose last ones are forced. For any program.
-/
import Derived.OrdersIn
import Derived.TacticsIn
import Derived.Orders
import Derived.RowKit
import Derived.Deep.Draws
import Derived.WalkKit
namespace Go.Proofs.YtbaddcojhggamaaM
open Go.RowKit
/-! A region of open order whose first operations each make a value that later steps do not turn, and whose last ones are forced. -/
def up1 (b : Nat → Bool) (i : Nat) : Nat → Bool := fun j => if j = i then true else b j
def upv (f : Nat → Value) (i : Nat) (v : Value) : Nat → Value := fun j => if j = i then v else f j
/-- Written so that the walk doesn't part on it. -/
def sel (c : Bool) (x y : Value) : Value := if c = true then x else y
theorem sel_true (x y : Value) : sel true x y = x := rfl
theorem sel_false (x y : Value) : sel false x y = y := rfl
/-- The frame in which the operations of b are done: their values are told by f. -/
def frm (b : Nat → Bool) (f : Nat → Value) : List (Nat × Tmp) → Act → Act
  | [], a => a
  | (j, d) :: r, a => frm b f r (a.put (some d) (sel (b j) (f j) (a.tmps.getD d undef)))
theorem put_put (a : Act) (d : Tmp) (u v : Value) : (a.put (some d) u).put (some d) v = a.put (some d) v := by
  simp [Act.put]
theorem put_comm1 (a : Act) {s t : Tmp} (h : s ≠ t) (u v : Value) : (a.put (some s) u).put (some t) v = (a.put (some t) v).put (some s) u := by
  simp only [Act.put]; rw [Array.setIfInBounds_comm _ _ h]
theorem getD_put_ne (a : Act) {s t : Tmp} (h : s ≠ t) (u : Value) : (a.put (some s) u).tmps.getD t undef = a.tmps.getD t undef := by
  simp [Act.put, Array.getD_eq_getD_getElem?, Array.getElem?_setIfInBounds_ne h]
theorem frm_put {b : Nat → Bool} {f : Nat → Value} {t : Tmp} (v : Value) : ∀ (L : List (Nat × Tmp)) (a : Act), (∀ x ∈ L, x.2 ≠ t) → (frm b f L a).put (some t) v = frm b f L (a.put (some t) v)
  | [], _, _ => rfl
  | (j, d) :: r, a, h => by
    have hd : d ≠ t := h _ List.mem_cons_self
    unfold frm
    rw [frm_put v r _ (fun x hx => h x (List.mem_cons_of_mem _ hx)), put_comm1 _ hd, getD_put_ne _ (Ne.symm hd)]
theorem frm_same {b : Nat → Bool} {f : Nat → Value} {i : Nat} {v : Value} : ∀ (L : List (Nat × Tmp)) (a : Act), (∀ x ∈ L, x.1 ≠ i) → frm (up1 b i) (upv f i v) L a = frm b f L a
  | [], _, _ => rfl
  | (j, d) :: r, a, h => by
    have hj : j ≠ i := h _ List.mem_cons_self
    unfold frm
    rw [frm_same r _ (fun x hx => h x (List.mem_cons_of_mem _ hx))]
    simp [up1, upv, hj]
theorem frm_up {b : Nat → Bool} {f : Nat → Value} {i : Nat} {t : Tmp} (v : Value) : ∀ (L : List (Nat × Tmp)) (a : Act), (L.map (·.1)).Nodup → (L.map (·.2)).Nodup → (i, t) ∈ L →
    (frm b f L a).put (some t) v = frm (up1 b i) (upv f i v) L a
  | [], _, _, _, h => by cases h
  | (j, d) :: r, a, h1, h2, h => by
    simp only [List.map_cons, List.nodup_cons, List.mem_map, not_exists, not_and] at h1 h2
    unfold frm
    rcases List.mem_cons.1 h with he | hr
    · injection he with e1 e2
      subst e1 e2
      rw [frm_put v r _ (fun x hx e => h2.1 x hx e), put_put, frm_same r _ (fun x hx e => h1.1 x hx e)]
      simp [up1, upv, sel_true]
    · have hj : j ≠ i := fun e => h1.1 (i, t) hr (by simp [e])
      have ht : t ≠ d := fun e => h2.1 (i, t) hr (by simp [e])
      rw [frm_up v r _ h1.2 h2.2 hr]
      simp [up1, upv, hj]
theorem frm_none {f : Nat → Value} : ∀ (L : List (Nat × Tmp)) (a : Act), (∀ x ∈ L, x.2 < a.tmps.size) → frm (fun _ => false) f L a = a
  | [], _, _ => rfl
  | (j, d) :: r, a, h => by
    unfold frm
    have hd : d < a.tmps.size := h _ List.mem_cons_self
    have e : a.put (some d) (a.tmps.getD d undef) = a := by
      cases a with
      | mk tmps defers =>
        simp only [Act.put] at hd ⊢
        congr 1
        apply Array.ext_getElem?
        intro k
        by_cases hk : d = k
        · subst hk; simp [hd]
        · rw [Array.getElem?_setIfInBounds_ne hk]
    rw [sel_false, e]
    exact frm_none r a (fun x hx => h x (List.mem_cons_of_mem _ hx))
theorem up1_of {b : Nat → Bool} {i j : Nat} (h : up1 b i j = true) (hj : j ≠ i) : b j = true := by simpa [up1, hj] using h

section
variable {F : Fence} {nF : Nat} {P : Program} {Q : Exit → Act → World → Prop}
/-- How one of the first operations may end. -/
def OneEnd (Q : Exit → Act → World → Prop) (i : Nat) (I : (Nat → Bool) → (Nat → Value) → World → Prop) (b : Nat → Bool) (f : Nat → Value) (o : Oper) (a : Act) : Exit → Act → World → Prop
  | .normal, a', W' => ∃ v, a' = a.put o.dst v ∧ I (up1 b i) (upv f i v) W'
  | e, a', W' => Q e a' W'
theorem wpOp_of_list {ops : Array Oper} {Q1 : Exit → Act → World → Prop} {o : Oper} {i : Nat} {a : Act} {w : World} (ho : ops[i]? = some o) (h : wpListIn F nF P ops Q1 [o] a w) (hQ : ∀ e a w, e ≠ .normal → Q1 e a w → Q e a w) :
    wpOpIn F nF P ops Q i (fun a' w' => Q1 .normal a' w') a w := by
  unfold Go.wpOpIn
  rw [ho]
  simp only [wpListIn] at h
  simp only
  split
  · rename_i hw
    rw [if_pos hw] at h
    unfold Oper.wpIn at *
    refine ⟨h.1, ?_⟩
    have h := h.2
    generalize (o.semAt F.round a.eval).run P w = r at *
    cases r with
    | ok x w' =>
      cases x <;> simp only [Oper.uponIn] at h ⊢ <;>
        first
          | exact h
          | exact ⟨h.1, CallsIn.mono h.2 (fun e w'' he => by
              cases e with
              | returned v => exact he
              | panicked c => exact hQ _ _ _ (by simp) he
              | outgrown => obtain ⟨a0, w0, h0⟩ := he; exact ⟨a0, w0, hQ _ _ _ (by simp) h0⟩)⟩
          | exact ⟨h.1, RowsIn.mono h.2 (fun _ _ he => he)⟩
          | exact ⟨h.1, RoundIn.mono h.2 (fun e w'' he => by
              cases e with
              | returned v => exact he
              | panicked c => exact hQ _ _ _ (by simp) he
              | outgrown => obtain ⟨a0, w0, h0⟩ := he; exact ⟨a0, w0, hQ _ _ _ (by simp) h0⟩)⟩
    | halt x w' =>
      cases x <;> simp only [Oper.uponIn] at h ⊢ <;> first | exact h | exact hQ _ _ _ (by simp) h
  · rename_i hw
    rw [if_neg hw] at h
    exact h
/-- Does operation i wait for j, itself or by way of others? -/
def reachJ (l : List Oper) (j : Nat) : Nat → Nat → Bool
  | 0, _ => false
  | n + 1, i => match l[i]? with
    | some o => o.after.toList.any fun e => Region.binds .any e && (e.on == j || reachJ l j n e.on)
    | none => false
theorem reachJ_done {l : List Oper} {j : Nat} {b : Nat → Bool} (hc : ∀ d o, l[d]? = some o → b d = true → ∀ e ∈ o.after.toList, Region.binds .any e = true → b e.on = true) :
    ∀ (n i : Nat), reachJ l j n i = true → (∀ o, l[i]? = some o → ∀ e ∈ o.after.toList, Region.binds .any e = true → b e.on = true) → b j = true
  | 0, _, h, _ => by cases h
  | n + 1, i, h, hd => by
    unfold reachJ at h
    cases ho : l[i]? with
    | none => rw [ho] at h; cases h
    | some o =>
      rw [ho] at h
      obtain ⟨e, he, h1⟩ := List.any_eq_true.1 h
      simp only [Bool.and_eq_true, Bool.or_eq_true, beq_iff_eq] at h1
      have hb := hd o ho e he h1.1
      rcases h1.2 with h2 | h2
      · rw [← h2]; exact hb
      · exact reachJ_done hc n e.on h2 (fun o' ho' e' he' hbn => hc e.on o' ho' hb e' he' hbn)
def shapeOk (l : List Oper) (k : Nat) (L : List (Nat × Tmp)) : Bool :=
  L.map (·.1) == List.range k && decide ((L.map (·.2)).Nodup) && L.all (fun x => (l[x.1]?.bind (·.dst)) == some x.2) &&
    (List.range l.length).all (fun i => match l[i]? with
      | some o => o.after.toList.all (fun e => decide (e.on < i)) && (decide (i < k) || (List.range i).all (fun j => reachJ l j l.length i))
      | none => true) && decide (k ≤ l.length)
theorem ready_tail {l : List Oper} {k m : Nat} {L : List (Nat × Tmp)} {ls : Array Bool} (hs : shapeOk l k L = true) (hsz : ls.size = l.length) (hkm : k ≤ m) (h : ∀ j, j < l.length → ls.getD j false = decide (j < m)) (hm : m < l.length) :
    ∀ i, i ∈ Region.ready .any l.toArray ls → i = m := by
  intro i hi
  obtain ⟨h1, o, ho, hall⟩ := mem_ready.1 hi
  have hil : i < l.length := by simpa using (Array.getElem?_eq_some_iff.1 ho).1
  have hgi : ls.getD i false = false := by
    simp only [Array.getD_eq_getD_getElem?, Array.getElem?_eq_getElem (show i < ls.size by omega), Option.getD_some] at h1 ⊢
    exact h1
  rw [h i hil] at hgi
  have him : ¬ i < m := by simpa using hgi
  by_cases e : i = m
  · exact e
  · simp only [shapeOk, Bool.and_eq_true, List.all_eq_true] at hs
    have hr := hs.1.2 i (List.mem_range.2 hil)
    have ho' : l[i]? = some o := by simpa using ho
    rw [ho'] at hr
    simp only [Bool.and_eq_true, Bool.or_eq_true, decide_eq_true_eq, List.all_eq_true] at hr
    rcases hr.2 with h2 | h2
    · omega
    · have h3 := h2 m (List.mem_range.2 (by omega))
      have h4 := reachJ_done (b := fun j => ls.getD j false) (fun d o1 ho1 hd e he hb => ?_) _ i h3 (fun o1 ho1 e he hb => ?_)
      · rw [h m hm] at h4
        simp at h4
      · have hdl : d < l.length := (List.getElem?_eq_some_iff.1 ho1).1
        rw [h d hdl] at hd
        have hr1 := hs.1.2 d (List.mem_range.2 hdl)
        rw [ho1] at hr1
        simp only [Bool.and_eq_true, List.all_eq_true, decide_eq_true_eq] at hr1 hd
        have := hr1.1 e he
        rw [h e.on (by omega)]
        exact decide_eq_true (by omega)
      · rw [ho'] at ho1
        cases ho1
        exact hall e (Array.mem_toList_iff.1 he) hb
theorem wpIn_tail {l : List Oper} {k : Nat} {L : List (Nat × Tmp)} (hs : shapeOk l k L = true) : ∀ (n m : Nat) (ls : Array Bool) (a : Act) (w : World), m + n = l.length → k ≤ m → ls.size = l.length → (∀ j, j < l.length → ls.getD j false = decide (j < m)) →
    wpListIn F nF P l.toArray Q (l.drop m) a w → wpAnyIn F nF P .any l.toArray Q n ls a w := by
  intro n
  induction n with
  | zero =>
    intro m ls a w hmn hkm hsz hls h
    rw [List.drop_eq_nil_of_le (by omega)] at h
    refine ⟨List.eq_nil_iff_forall_not_mem.2 (fun i hi => ?_), h⟩
    obtain ⟨h1, o, ho, _⟩ := mem_ready.1 hi
    have hil : i < l.length := by simpa using (Array.getElem?_eq_some_iff.1 ho).1
    have : ls.getD i false = false := by
      simp only [Array.getD_eq_getD_getElem?, Array.getElem?_eq_getElem (show i < ls.size by omega), Option.getD_some] at h1 ⊢
      exact h1
    rw [hls i hil] at this
    simp at this; omega
  | succ n ih =>
    intro m ls a w hmn hkm hsz hls h
    have hm : m < l.length := by omega
    have ho : l[m]? = some l[m] := List.getElem?_eq_getElem hm
    rw [List.drop_eq_getElem_cons hm] at h
    constructor
    · intro hr
      exfalso
      have : m ∈ Region.ready .any l.toArray ls := by
        refine mem_ready.2 ⟨?_, l[m], by simp, fun e he _ => ?_⟩
        · have := hls m hm
          simp only [Array.getD_eq_getD_getElem?, Array.getElem?_eq_getElem (show m < ls.size by omega), Option.getD_some] at this ⊢
          rw [this]; simp
        · have hs' := hs
          simp only [shapeOk, Bool.and_eq_true, List.all_eq_true] at hs'
          have hr := hs'.1.2 m (List.mem_range.2 hm)
          rw [ho] at hr
          simp only [Bool.and_eq_true, List.all_eq_true, decide_eq_true_eq] at hr
          have hlt := hr.1 e (Array.mem_toList_iff.2 he)
          rw [hls e.on (by omega)]
          exact decide_eq_true hlt
      rw [hr] at this
      cases this
    · intro i hi
      obtain rfl := ready_tail hs hsz hkm hls hm i hi
      unfold Go.wpOpIn
      have ho2 : l.toArray[i]? = some l[i] := by simp
      rw [ho2]
      have next : ∀ a' w', wpListIn F nF P l.toArray Q (l.drop (i + 1)) a' w' → wpAnyIn F nF P .any l.toArray Q n (ls.setIfInBounds i true) a' w' := fun a' w' h' =>
        ih (i + 1) _ a' w' (by omega) (by omega) (by simpa using hsz) (fun j hj => by
          by_cases e : i = j
          · subst e
            simp [Array.getD_eq_getD_getElem?, show i < ls.size by omega]
          · have := hls j hj
            simp only [Array.getD_eq_getD_getElem?, Array.getElem?_setIfInBounds_ne e] at this ⊢
            rw [this]
            simp only [decide_eq_decide]; omega) h'
      simp only [wpListIn] at h
      simp only
      split
      · rename_i hw
        rw [if_pos hw] at h
        exact Oper.wpIn_mono next h
      · rename_i hw
        rw [if_neg hw] at h
        exact ⟨h.1, next _ _ h.2⟩

theorem wpIn_draw {id : Nat} {l : List Oper} {a : Act} {w : World} (hm : P.follows .mixedOrders = true) (k : Nat) (L : List (Nat × Tmp)) (I : (Nat → Bool) → (Nat → Value) → World → Prop) (hs : shapeOk l k L = true) (hsz : (L.all fun x => decide (x.2 < a.tmps.size)) = true)
    (hI0 : I (fun _ => false) (fun _ => undef) w.drew)
    (hstep : ∀ i o, i < k → l[i]? = some o → ∀ b f W, b i = false → (∀ e ∈ o.after.toList, Region.binds .any e = true → b e.on = true) → I b f W →
      wpListIn F nF P l.toArray (OneEnd Q i I b f o (frm b f L a)) [o] (frm b f L a) W)
    (htail : ∀ b f W, (∀ j, j < k → b j = true) → I b f W → wpListIn F nF P l.toArray Q (l.drop k) (frm (fun _ => true) f L a) W) : (Code.region id l.toArray true).wpIn F nF P Q a w := by
  have hs' := hs
  simp only [shapeOk, Bool.and_eq_true, List.all_eq_true, beq_iff_eq, decide_eq_true_eq] at hs'
  obtain ⟨⟨⟨⟨hL1, hL2⟩, hL3⟩, hL4⟩, hk⟩ := hs'
  have hmem : ∀ i, i < k → ∃ t, (i, t) ∈ L := fun i hi => by
    have : i ∈ L.map (·.1) := by rw [hL1]; exact List.mem_range.2 hi
    obtain ⟨x, hx, rfl⟩ := List.mem_map.1 this
    exact ⟨x.2, hx⟩
  have hlt : ∀ x ∈ L, x.1 < k := fun x hx => List.mem_range.1 (by rw [← hL1]; exact List.mem_map_of_mem hx)
  refine wpIn_region_any hm ?_
  have key : ∀ (n : Nat) (ls : Array Bool) (f : Nat → Value) (b : Nat → Bool) (W : World), (l.length - n) + n = l.length → n ≤ l.length → ls.size = l.length → ls.toList.count false = n → (∀ j, j < l.length → ls.getD j false = b j) → (∀ d o, l[d]? = some o → b d = true → ∀ e ∈ o.after.toList, Region.binds .any e = true → b e.on = true) → (∀ j, k ≤ j → j < l.length → b j = false) →
      I b f W → wpAnyIn F nF P .any l.toArray Q n ls (frm b f L a) W := by
    intro n
    induction n with
    | zero =>
      intro ls f b W _ _ hls hc hb _ htl hI
      have hall : ∀ j, j < l.length → b j = true := fun j hj => by
        rw [← hb j hj]
        have hj' : j < ls.size := by omega
        cases hv : ls.getD j false with
        | true => rfl
        | false =>
          simp only [Array.getD_eq_getD_getElem?, Array.getElem?_eq_getElem hj', Option.getD_some] at hv
          have : false ∈ ls.toList := by rw [← hv]; simp
          have := List.count_pos_iff.2 this
          omega
      have hkl : k = l.length := by
        rcases Nat.lt_or_ge k l.length with h | h
        · have := htl k (Nat.le_refl _) h
          rw [hall k h] at this; cases this
        · omega
      refine ⟨List.eq_nil_iff_forall_not_mem.2 (fun i hi => ?_), ?_⟩
      · obtain ⟨h1, o, ho, _⟩ := mem_ready.1 hi
        have hil : i < l.length := by simpa using (Array.getElem?_eq_some_iff.1 ho).1
        have h2 := (hb i hil).trans (hall i hil)
        simp only [Array.getD_eq_getD_getElem?, Array.getElem?_eq_getElem (show i < ls.size by omega), Option.getD_some] at h1 h2
        rw [h1] at h2; cases h2
      · have ht := htail b f W (fun j hj => hall j (by omega)) hI
        rw [List.drop_eq_nil_of_le (by omega)] at ht
        have e : frm b f L a = frm (fun _ => true) f L a := by
          have : ∀ (M : List (Nat × Tmp)) (a : Act), (∀ x ∈ M, x.1 < k) → frm b f M a = frm (fun _ => true) f M a := by
            intro M
            induction M with
            | nil => intro a _; rfl
            | cons x M ih =>
              intro a hM
              obtain ⟨j, d⟩ := x
              unfold frm
              rw [ih _ (fun x hx => hM x (List.mem_cons_of_mem _ hx)), hall j (by have := hM (j, d) List.mem_cons_self; simp only at this; omega)]
          exact this L a hlt
        rw [e]
        exact ht
    | succ n ih =>
      intro ls f b W hn1 hn2 hls hc hb hcl htl hI
      by_cases hdone : ∀ j, j < k → b j = true
      · -- the tail
        have e : frm b f L a = frm (fun _ => true) f L a := by
          have : ∀ (M : List (Nat × Tmp)) (a : Act), (∀ x ∈ M, x.1 < k) → frm b f M a = frm (fun _ => true) f M a := by
            intro M
            induction M with
            | nil => intro a _; rfl
            | cons x M ih =>
              intro a hM
              obtain ⟨j, d⟩ := x
              unfold frm
              rw [ih _ (fun x hx => hM x (List.mem_cons_of_mem _ hx)), hdone j (hM (j, d) List.mem_cons_self)]
          exact this L a hlt
        have hlsk : ∀ j, j < l.length → ls.getD j false = decide (j < k) := fun j hj => by
          rw [hb j hj]
          by_cases h : j < k
          · rw [hdone j h, decide_eq_true h]
          · rw [htl j (by omega) hj, decide_eq_false h]
        have hcount : n + 1 = l.length - k := by
          have h1 : ls.toList = (List.range l.length).map fun j => decide (j < k) := by
            apply List.ext_getElem
            · simp [hls]
            · intro j h1 h2
              have hj : j < ls.size := by simpa using h1
              have := hlsk j (by omega)
              simp only [Array.getD_eq_getD_getElem?, Array.getElem?_eq_getElem hj, Option.getD_some] at this
              simpa using this
          rw [h1] at hc
          rw [← hc, List.count_eq_countP, List.countP_map]
          have h2 : l.length = k + (l.length - k) := by omega
          rw [h2, List.range_add, List.countP_append, List.countP_map]
          have h3 : List.countP ((fun x => x == false) ∘ fun j => decide (j < k)) (List.range k) = 0 := by
            rw [List.countP_eq_zero]
            intro j hj
            have := List.mem_range.1 hj
            simp [this]
          have h4 : List.countP (((fun x => x == false) ∘ fun j => decide (j < k)) ∘ fun x => k + x) (List.range (l.length - k)) = (List.range (l.length - k)).length := by
            rw [List.countP_eq_length]
            intro j _
            simp
          rw [h3, h4]
          simp
        rw [e, hcount]
        exact wpIn_tail hs (l.length - k) k ls _ W (by omega) (Nat.le_refl _) hls hlsk (htail b f W hdone hI)
      · constructor
        · intro hr
          exfalso
          -- the least one that is not done is ready
          have : ∃ j, j < k ∧ b j = false := by
            refine Classical.byContradiction fun hne => hdone fun j hj => ?_
            cases hv : b j with
            | true => rfl
            | false => exact absurd ⟨j, hj, hv⟩ hne
          obtain ⟨j0, hj0, hv0⟩ := this
          have least : ∀ m j, j ≤ m → j < k → b j = false → ∃ j, j < k ∧ b j = false ∧ ∀ i, i < j → b i = true := by
            intro m
            induction m with
            | zero => intro j h1 h2 h3; exact ⟨j, h2, h3, fun i hi => by omega⟩
            | succ m ihm =>
              intro j h1 h2 h3
              by_cases h : ∃ i, i < j ∧ b i = false
              · obtain ⟨i, hi1, hi2⟩ := h
                exact ihm i (by omega) (by omega) hi2
              · exact ⟨j, h2, h3, fun i hi => by
                  cases hv : b i with
                  | true => rfl
                  | false => exact absurd ⟨i, hi, hv⟩ h⟩
          obtain ⟨j, hj1, hj2, hj3⟩ := least j0 j0 (Nat.le_refl _) hj0 hv0
          have hjl : j < l.length := by omega
          have ho : l[j]? = some l[j] := List.getElem?_eq_getElem hjl
          have : j ∈ Region.ready .any l.toArray ls := by
            refine mem_ready.2 ⟨?_, l[j], by simp, fun e he _ => ?_⟩
            · have := hb j hjl
              simp only [Array.getD_eq_getD_getElem?, Array.getElem?_eq_getElem (show j < ls.size by omega), Option.getD_some] at this ⊢
              rw [this]; exact hj2
            · have hr := hL4 j (List.mem_range.2 hjl)
              rw [ho] at hr
              simp only [Bool.and_eq_true, List.all_eq_true, decide_eq_true_eq] at hr
              have hlt := hr.1 e (Array.mem_toList_iff.2 he)
              rw [hb e.on (by omega)]
              exact hj3 _ hlt
          rw [hr] at this
          cases this
        · intro i hi
          obtain ⟨h1, o, ho, hdep⟩ := mem_ready.1 hi
          have hil : i < l.length := by simpa using (Array.getElem?_eq_some_iff.1 ho).1
          have ho' : l[i]? = some o := by simpa using ho
          have hbi : b i = false := by
            rw [← hb i hil]
            simp only [Array.getD_eq_getD_getElem?, Array.getElem?_eq_getElem (show i < ls.size by omega), Option.getD_some] at h1 ⊢
            exact h1
          have hdep' : ∀ e ∈ o.after.toList, Region.binds .any e = true → b e.on = true := fun e he hbn => by
            have h2 := hdep e (Array.mem_toList_iff.1 he) hbn
            have hr := hL4 i (List.mem_range.2 hil)
            rw [ho'] at hr
            simp only [Bool.and_eq_true, List.all_eq_true, decide_eq_true_eq] at hr
            have hlt := hr.1 e he
            rw [← hb e.on (by omega)]
            exact h2
          have hik : i < k := by
            rcases Nat.lt_or_ge i k with h | h
            · exact h
            · exfalso
              refine hdone fun j hj => ?_
              have hr := hL4 i (List.mem_range.2 hil)
              rw [ho'] at hr
              simp only [Bool.and_eq_true, Bool.or_eq_true, decide_eq_true_eq, List.all_eq_true] at hr
              rcases hr.2 with h2 | h2
              · omega
              · refine reachJ_done hcl _ i (h2 j (List.mem_range.2 (by omega))) (fun o1 ho1 e he hbn => ?_)
                rw [ho'] at ho1
                cases ho1
                exact hdep' e he hbn
          obtain ⟨t, ht⟩ := hmem i hik
          have hdst : o.dst = some t := by
            have := hL3 (i, t) ht
            simp only [ho'] at this
            exact this
          have h := hstep i o hik ho' b f W hbi hdep' hI
          refine wpOpIn_mono ?_ (wpOp_of_list (Q := Q) ho h (fun e a w hne hq => by cases e <;> first | exact absurd rfl hne | exact hq))
          rintro a' W' ⟨v, rfl, hv⟩
          rw [hdst, frm_up v L a (by rw [hL1]; exact List.nodup_range) hL2 ht]
          refine ih _ (upv f i v) (up1 b i) W' (by omega) (by omega) (by simpa using hls) ?_ ?_ ?_ ?_ hv
          · have hi' : i < ls.toList.length := by simpa using (show i < ls.size by omega)
            have hget : ls.toList[i] = false := by
              have := hb i hil
              simp only [Array.getD_eq_getD_getElem?, Array.getElem?_eq_getElem (show i < ls.size by omega), Option.getD_some] at this
              rw [Array.getElem_toList, this]; exact hbi
            have : (ls.setIfInBounds i true).toList = ls.toList.set i true := by simp
            rw [this, List.count_set hi', hget, if_pos (show (false == false) = true from rfl), if_neg (show ¬ (true == false) = true by decide)]
            omega
          · intro j hj
            by_cases e : i = j
            · subst e
              simp [Array.getD_eq_getD_getElem?, show i < ls.size by omega, up1]
            · have := hb j hj
              simp only [Array.getD_eq_getD_getElem?, Array.getElem?_setIfInBounds_ne e] at this ⊢
              rw [this]
              simp [up1, show ¬ j = i from fun h => e h.symm]
          · intro d o1 ho1 hbd e he hbn
            by_cases e1 : d = i
            · subst e1
              rw [ho'] at ho1
              cases ho1
              have := hdep' e he hbn
              unfold up1
              split <;> first | rfl | exact this
            · have := hcl d o1 ho1 (up1_of hbd e1) e he hbn
              unfold up1
              split <;> first | rfl | exact this
          · intro j hkj hjl
            simp only [up1, show ¬ j = i from by omega, if_false]
            exact htl j hkj hjl
  have h0 := key l.length (Array.replicate l.length false) (fun _ => undef) (fun _ => false) { w with drawn := w.drawn + 1 } (by omega) (Nat.le_refl _) (by simp) (by simp) (fun j hj => by simp [hj]) (fun _ _ _ h => by cases h) (fun _ _ _ => rfl)
    hI0
  rw [frm_none L a (fun x hx => by have := List.all_eq_true.1 hsz x hx; simpa using this)] at h0
  simpa using h0
end
/-- The first k operations only read: the world stays, each value is the one told. -/
def RdI (k : Nat) (vals : List Value) (W0 : World) (b : Nat → Bool) (f : Nat → Value) (W : World) : Prop :=
  W = W0.drew ∧ ∀ j, j < k → b j = true → f j = vals.getD j undef
theorem RdI.start (k : Nat) (vals : List Value) (W0 : World) : RdI k vals W0 (fun _ => false) (fun _ => undef) W0.drew :=
  ⟨rfl, fun _ _ h => by cases h⟩
theorem RdI.next {k : Nat} {vals : List Value} {W0 : World} {b : Nat → Bool} {f : Nat → Value} {W : World} {i : Nat} {v : Value} (h : RdI k vals W0 b f W) (hv : v = vals.getD i undef) : RdI k vals W0 (up1 b i) (upv f i v) W := by
  refine ⟨h.1, fun j hj hb => ?_⟩
  unfold upv
  by_cases e : j = i
  · rw [if_pos e, hv, e]
  · rw [if_neg e]; exact h.2 j hj (up1_of hb e)
end Go.Proofs.YtbaddcojhggamaaM
