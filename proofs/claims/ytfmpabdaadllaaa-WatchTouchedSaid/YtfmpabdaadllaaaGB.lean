/-
  Walks and plain laws, joined of 9 texts.
-/
import Derived.OrdersIn
import Derived.TacticsIn
import Derived.Orders
import Derived.RowKit
import Derived.Deep.Draws
import Derived.WalkKit
import Derived.Test.YtfmpabdaadllaaaGA
import Derived.Maps.OwnIn
import Derived.Shelf.Abstract
import Derived.Shelf.RegionOpen
import Derived.OwnWalkIn
import Derived.TacticsInMore
import Derived.LoopNIn
import Derived.LoopIn
import Derived.Sort.BigQuietIn
/-
  A region of open order in a fenced walk, whose first operations each make a value that later steps do not turn, and whose last ones are forced. For any program.
-/
namespace Go.Proofs.YtfmpabdaadllaaaM
open Go.RowKit
/-! A region of open order whose first operations each make a value that later steps do not turn, and whose last ones are forced. -/
def up1 (b : Nat → Bool) (i : Nat) : Nat → Bool := fun j => if j = i then true else b j
def upv (f : Nat → Value) (i : Nat) (v : Value) : Nat → Value := fun j => if j = i then v else f j
/-- Written so that the walk doesn't part on it. -/
def sel (c : Bool) (x y : Value) : Value := if c = true then x else y
theorem sel_true (x y : Value) : sel true x y = x := rfl
theorem sel_false (x y : Value) : sel false x y = y := rfl
/-- The frame in which the operations of b are done: their values are told by f. -/
def frm (b : Nat → Bool) (f : Nat → Value) : List (Nat × Tmp) → Act → Act
  | [], a => a
  | (j, d) :: r, a => frm b f r (a.put (some d) (sel (b j) (f j) (a.tmps.getD d undef)))
theorem put_put (a : Act) (d : Tmp) (u v : Value) : (a.put (some d) u).put (some d) v = a.put (some d) v := by
  simp [Act.put]
theorem put_comm1 (a : Act) {s t : Tmp} (h : s ≠ t) (u v : Value) : (a.put (some s) u).put (some t) v = (a.put (some t) v).put (some s) u := by
  simp only [Act.put]; rw [Array.setIfInBounds_comm _ _ h]
theorem getD_put_ne (a : Act) {s t : Tmp} (h : s ≠ t) (u : Value) : (a.put (some s) u).tmps.getD t undef = a.tmps.getD t undef := by
  simp [Act.put, Array.getD_eq_getD_getElem?, Array.getElem?_setIfInBounds_ne h]
theorem frm_put {b : Nat → Bool} {f : Nat → Value} {t : Tmp} (v : Value) : ∀ (L : List (Nat × Tmp)) (a : Act), (∀ x ∈ L, x.2 ≠ t) → (frm b f L a).put (some t) v = frm b f L (a.put (some t) v)
  | [], _, _ => rfl
  | (j, d) :: r, a, h => by
    have hd : d ≠ t := h _ List.mem_cons_self
    unfold frm
    rw [frm_put v r _ (fun x hx => h x (List.mem_cons_of_mem _ hx)), put_comm1 _ hd, getD_put_ne _ (Ne.symm hd)]
theorem frm_same {b : Nat → Bool} {f : Nat → Value} {i : Nat} {v : Value} : ∀ (L : List (Nat × Tmp)) (a : Act), (∀ x ∈ L, x.1 ≠ i) → frm (up1 b i) (upv f i v) L a = frm b f L a
  | [], _, _ => rfl
  | (j, d) :: r, a, h => by
    have hj : j ≠ i := h _ List.mem_cons_self
    unfold frm
    rw [frm_same r _ (fun x hx => h x (List.mem_cons_of_mem _ hx))]
    simp [up1, upv, hj]
theorem frm_up {b : Nat → Bool} {f : Nat → Value} {i : Nat} {t : Tmp} (v : Value) : ∀ (L : List (Nat × Tmp)) (a : Act), (L.map (·.1)).Nodup → (L.map (·.2)).Nodup → (i, t) ∈ L →
    (frm b f L a).put (some t) v = frm (up1 b i) (upv f i v) L a
  | [], _, _, _, h => by cases h
  | (j, d) :: r, a, h1, h2, h => by
    simp only [List.map_cons, List.nodup_cons, List.mem_map, not_exists, not_and] at h1 h2
    unfold frm
    rcases List.mem_cons.1 h with he | hr
    · injection he with e1 e2
      subst e1 e2
      rw [frm_put v r _ (fun x hx e => h2.1 x hx e), put_put, frm_same r _ (fun x hx e => h1.1 x hx e)]
      simp [up1, upv, sel_true]
    · have hj : j ≠ i := fun e => h1.1 (i, t) hr (by simp [e])
      have ht : t ≠ d := fun e => h2.1 (i, t) hr (by simp [e])
      rw [frm_up v r _ h1.2 h2.2 hr]
      simp [up1, upv, hj]
theorem frm_none {f : Nat → Value} : ∀ (L : List (Nat × Tmp)) (a : Act), (∀ x ∈ L, x.2 < a.tmps.size) → frm (fun _ => false) f L a = a
  | [], _, _ => rfl
  | (j, d) :: r, a, h => by
    unfold frm
    have hd : d < a.tmps.size := h _ List.mem_cons_self
    have e : a.put (some d) (a.tmps.getD d undef) = a := by
      cases a with
      | mk tmps defers =>
        simp only [Act.put] at hd ⊢
        congr 1
        apply Array.ext_getElem?
        intro k
        by_cases hk : d = k
        · subst hk; simp [hd]
        · rw [Array.getElem?_setIfInBounds_ne hk]
    rw [sel_false, e]
    exact frm_none r a (fun x hx => h x (List.mem_cons_of_mem _ hx))
theorem up1_of {b : Nat → Bool} {i j : Nat} (h : up1 b i j = true) (hj : j ≠ i) : b j = true := by simpa [up1, hj] using h

section
variable {F : Fence} {nF : Nat} {P : Program} {Q : Exit → Act → World → Prop}
/-- How one of the first operations may end. -/
def OneEnd (Q : Exit → Act → World → Prop) (i : Nat) (I : (Nat → Bool) → (Nat → Value) → World → Prop) (b : Nat → Bool) (f : Nat → Value) (o : Oper) (a : Act) : Exit → Act → World → Prop
  | .normal, a', W' => ∃ v, a' = a.put o.dst v ∧ I (up1 b i) (upv f i v) W'
  | e, a', W' => Q e a' W'
theorem wpOp_of_list {ops : Array Oper} {Q1 : Exit → Act → World → Prop} {o : Oper} {i : Nat} {a : Act} {w : World} (ho : ops[i]? = some o) (h : wpListIn F nF P ops Q1 [o] a w) (hQ : ∀ e a w, e ≠ .normal → Q1 e a w → Q e a w) :
    wpOpIn F nF P ops Q i (fun a' w' => Q1 .normal a' w') a w := by
  unfold Go.wpOpIn
  rw [ho]
  simp only [wpListIn] at h
  simp only
  split
  · rename_i hw
    rw [if_pos hw] at h
    unfold Oper.wpIn at *
    refine ⟨h.1, ?_⟩
    have h := h.2
    generalize (o.semAt F.round a.eval).run P w = r at *
    cases r with
    | ok x w' =>
      cases x <;> simp only [Oper.uponIn] at h ⊢ <;>
        first
          | exact h
          | exact ⟨h.1, CallsIn.mono h.2 (fun e w'' he => by
              cases e with
              | returned v => exact he
              | panicked c => exact hQ _ _ _ (by simp) he
              | outgrown => obtain ⟨a0, w0, h0⟩ := he; exact ⟨a0, w0, hQ _ _ _ (by simp) h0⟩)⟩
          | exact ⟨h.1, RowsIn.mono h.2 (fun _ _ he => he)⟩
          | exact ⟨h.1, RoundIn.mono h.2 (fun e w'' he => by
              cases e with
              | returned v => exact he
              | panicked c => exact hQ _ _ _ (by simp) he
              | outgrown => obtain ⟨a0, w0, h0⟩ := he; exact ⟨a0, w0, hQ _ _ _ (by simp) h0⟩)⟩
    | halt x w' =>
      cases x <;> simp only [Oper.uponIn] at h ⊢ <;> first | exact h | exact hQ _ _ _ (by simp) h
  · rename_i hw
    rw [if_neg hw] at h
    exact h
/-- Does operation i wait for j, itself or by way of others? -/
def reachJ (l : List Oper) (j : Nat) : Nat → Nat → Bool
  | 0, _ => false
  | n + 1, i => match l[i]? with
    | some o => o.after.toList.any fun e => Region.binds .any e && (e.on == j || reachJ l j n e.on)
    | none => false
theorem reachJ_done {l : List Oper} {j : Nat} {b : Nat → Bool} (hc : ∀ d o, l[d]? = some o → b d = true → ∀ e ∈ o.after.toList, Region.binds .any e = true → b e.on = true) :
    ∀ (n i : Nat), reachJ l j n i = true → (∀ o, l[i]? = some o → ∀ e ∈ o.after.toList, Region.binds .any e = true → b e.on = true) → b j = true
  | 0, _, h, _ => by cases h
  | n + 1, i, h, hd => by
    unfold reachJ at h
    cases ho : l[i]? with
    | none => rw [ho] at h; cases h
    | some o =>
      rw [ho] at h
      obtain ⟨e, he, h1⟩ := List.any_eq_true.1 h
      simp only [Bool.and_eq_true, Bool.or_eq_true, beq_iff_eq] at h1
      have hb := hd o ho e he h1.1
      rcases h1.2 with h2 | h2
      · rw [← h2]; exact hb
      · exact reachJ_done hc n e.on h2 (fun o' ho' e' he' hbn => hc e.on o' ho' hb e' he' hbn)
def shapeOk (l : List Oper) (k : Nat) (L : List (Nat × Tmp)) : Bool :=
  L.map (·.1) == List.range k && decide ((L.map (·.2)).Nodup) && L.all (fun x => (l[x.1]?.bind (·.dst)) == some x.2) &&
    (List.range l.length).all (fun i => match l[i]? with
      | some o => o.after.toList.all (fun e => decide (e.on < i)) && (decide (i < k) || (List.range i).all (fun j => reachJ l j l.length i))
      | none => true) && decide (k ≤ l.length)
theorem ready_tail {l : List Oper} {k m : Nat} {L : List (Nat × Tmp)} {ls : Array Bool} (hs : shapeOk l k L = true) (hsz : ls.size = l.length) (hkm : k ≤ m) (h : ∀ j, j < l.length → ls.getD j false = decide (j < m)) (hm : m < l.length) :
    ∀ i, i ∈ Region.ready .any l.toArray ls → i = m := by
  intro i hi
  obtain ⟨h1, o, ho, hall⟩ := mem_ready.1 hi
  have hil : i < l.length := by simpa using (Array.getElem?_eq_some_iff.1 ho).1
  have hgi : ls.getD i false = false := by
    simp only [Array.getD_eq_getD_getElem?, Array.getElem?_eq_getElem (show i < ls.size by omega), Option.getD_some] at h1 ⊢
    exact h1
  rw [h i hil] at hgi
  have him : ¬ i < m := by simpa using hgi
  by_cases e : i = m
  · exact e
  · simp only [shapeOk, Bool.and_eq_true, List.all_eq_true] at hs
    have hr := hs.1.2 i (List.mem_range.2 hil)
    have ho' : l[i]? = some o := by simpa using ho
    rw [ho'] at hr
    simp only [Bool.and_eq_true, Bool.or_eq_true, decide_eq_true_eq, List.all_eq_true] at hr
    rcases hr.2 with h2 | h2
    · omega
    · have h3 := h2 m (List.mem_range.2 (by omega))
      have h4 := reachJ_done (b := fun j => ls.getD j false) (fun d o1 ho1 hd e he hb => ?_) _ i h3 (fun o1 ho1 e he hb => ?_)
      · rw [h m hm] at h4
        simp at h4
      · have hdl : d < l.length := (List.getElem?_eq_some_iff.1 ho1).1
        rw [h d hdl] at hd
        have hr1 := hs.1.2 d (List.mem_range.2 hdl)
        rw [ho1] at hr1
        simp only [Bool.and_eq_true, List.all_eq_true, decide_eq_true_eq] at hr1 hd
        have := hr1.1 e he
        rw [h e.on (by omega)]
        exact decide_eq_true (by omega)
      · rw [ho'] at ho1
        cases ho1
        exact hall e (Array.mem_toList_iff.1 he) hb
theorem wpIn_tail {l : List Oper} {k : Nat} {L : List (Nat × Tmp)} (hs : shapeOk l k L = true) : ∀ (n m : Nat) (ls : Array Bool) (a : Act) (w : World), m + n = l.length → k ≤ m → ls.size = l.length → (∀ j, j < l.length → ls.getD j false = decide (j < m)) →
    wpListIn F nF P l.toArray Q (l.drop m) a w → wpAnyIn F nF P .any l.toArray Q n ls a w := by
  intro n
  induction n with
  | zero =>
    intro m ls a w hmn hkm hsz hls h
    rw [List.drop_eq_nil_of_le (by omega)] at h
    refine ⟨List.eq_nil_iff_forall_not_mem.2 (fun i hi => ?_), h⟩
    obtain ⟨h1, o, ho, _⟩ := mem_ready.1 hi
    have hil : i < l.length := by simpa using (Array.getElem?_eq_some_iff.1 ho).1
    have : ls.getD i false = false := by
      simp only [Array.getD_eq_getD_getElem?, Array.getElem?_eq_getElem (show i < ls.size by omega), Option.getD_some] at h1 ⊢
      exact h1
    rw [hls i hil] at this
    simp at this; omega
  | succ n ih =>
    intro m ls a w hmn hkm hsz hls h
    have hm : m < l.length := by omega
    have ho : l[m]? = some l[m] := List.getElem?_eq_getElem hm
    rw [List.drop_eq_getElem_cons hm] at h
    constructor
    · intro hr
      exfalso
      have : m ∈ Region.ready .any l.toArray ls := by
        refine mem_ready.2 ⟨?_, l[m], by simp, fun e he _ => ?_⟩
        · have := hls m hm
          simp only [Array.getD_eq_getD_getElem?, Array.getElem?_eq_getElem (show m < ls.size by omega), Option.getD_some] at this ⊢
          rw [this]; simp
        · have hs' := hs
          simp only [shapeOk, Bool.and_eq_true, List.all_eq_true] at hs'
          have hr := hs'.1.2 m (List.mem_range.2 hm)
          rw [ho] at hr
          simp only [Bool.and_eq_true, List.all_eq_true, decide_eq_true_eq] at hr
          have hlt := hr.1 e (Array.mem_toList_iff.2 he)
          rw [hls e.on (by omega)]
          exact decide_eq_true hlt
      rw [hr] at this
      cases this
    · intro i hi
      obtain rfl := ready_tail hs hsz hkm hls hm i hi
      unfold Go.wpOpIn
      have ho2 : l.toArray[i]? = some l[i] := by simp
      rw [ho2]
      have next : ∀ a' w', wpListIn F nF P l.toArray Q (l.drop (i + 1)) a' w' → wpAnyIn F nF P .any l.toArray Q n (ls.setIfInBounds i true) a' w' := fun a' w' h' =>
        ih (i + 1) _ a' w' (by omega) (by omega) (by simpa using hsz) (fun j hj => by
          by_cases e : i = j
          · subst e
            simp [Array.getD_eq_getD_getElem?, show i < ls.size by omega]
          · have := hls j hj
            simp only [Array.getD_eq_getD_getElem?, Array.getElem?_setIfInBounds_ne e] at this ⊢
            rw [this]
            simp only [decide_eq_decide]; omega) h'
      simp only [wpListIn] at h
      simp only
      split
      · rename_i hw
        rw [if_pos hw] at h
        exact Oper.wpIn_mono next h
      · rename_i hw
        rw [if_neg hw] at h
        exact ⟨h.1, next _ _ h.2⟩

theorem wpIn_draw {id : Nat} {l : List Oper} {a : Act} {w : World} (hm : P.follows .mixedOrders = true) (k : Nat) (L : List (Nat × Tmp)) (I : (Nat → Bool) → (Nat → Value) → World → Prop) (hs : shapeOk l k L = true) (hsz : (L.all fun x => decide (x.2 < a.tmps.size)) = true)
    (hI0 : I (fun _ => false) (fun _ => undef) w.drew)
    (hstep : ∀ i o, i < k → l[i]? = some o → ∀ b f W, b i = false → (∀ e ∈ o.after.toList, Region.binds .any e = true → b e.on = true) → I b f W →
      wpListIn F nF P l.toArray (OneEnd Q i I b f o (frm b f L a)) [o] (frm b f L a) W)
    (htail : ∀ b f W, (∀ j, j < k → b j = true) → I b f W → wpListIn F nF P l.toArray Q (l.drop k) (frm (fun _ => true) f L a) W) : (Code.region id l.toArray true).wpIn F nF P Q a w := by
  have hs' := hs
  simp only [shapeOk, Bool.and_eq_true, List.all_eq_true, beq_iff_eq, decide_eq_true_eq] at hs'
  obtain ⟨⟨⟨⟨hL1, hL2⟩, hL3⟩, hL4⟩, hk⟩ := hs'
  have hmem : ∀ i, i < k → ∃ t, (i, t) ∈ L := fun i hi => by
    have : i ∈ L.map (·.1) := by rw [hL1]; exact List.mem_range.2 hi
    obtain ⟨x, hx, rfl⟩ := List.mem_map.1 this
    exact ⟨x.2, hx⟩
  have hlt : ∀ x ∈ L, x.1 < k := fun x hx => List.mem_range.1 (by rw [← hL1]; exact List.mem_map_of_mem hx)
  refine wpIn_region_any hm ?_
  have key : ∀ (n : Nat) (ls : Array Bool) (f : Nat → Value) (b : Nat → Bool) (W : World), (l.length - n) + n = l.length → n ≤ l.length → ls.size = l.length → ls.toList.count false = n → (∀ j, j < l.length → ls.getD j false = b j) → (∀ d o, l[d]? = some o → b d = true → ∀ e ∈ o.after.toList, Region.binds .any e = true → b e.on = true) → (∀ j, k ≤ j → j < l.length → b j = false) →
      I b f W → wpAnyIn F nF P .any l.toArray Q n ls (frm b f L a) W := by
    intro n
    induction n with
    | zero =>
      intro ls f b W _ _ hls hc hb _ htl hI
      have hall : ∀ j, j < l.length → b j = true := fun j hj => by
        rw [← hb j hj]
        have hj' : j < ls.size := by omega
        cases hv : ls.getD j false with
        | true => rfl
        | false =>
          simp only [Array.getD_eq_getD_getElem?, Array.getElem?_eq_getElem hj', Option.getD_some] at hv
          have : false ∈ ls.toList := by rw [← hv]; simp
          have := List.count_pos_iff.2 this
          omega
      have hkl : k = l.length := by
        rcases Nat.lt_or_ge k l.length with h | h
        · have := htl k (Nat.le_refl _) h
          rw [hall k h] at this; cases this
        · omega
      refine ⟨List.eq_nil_iff_forall_not_mem.2 (fun i hi => ?_), ?_⟩
      · obtain ⟨h1, o, ho, _⟩ := mem_ready.1 hi
        have hil : i < l.length := by simpa using (Array.getElem?_eq_some_iff.1 ho).1
        have h2 := (hb i hil).trans (hall i hil)
        simp only [Array.getD_eq_getD_getElem?, Array.getElem?_eq_getElem (show i < ls.size by omega), Option.getD_some] at h1 h2
        rw [h1] at h2; cases h2
      · have ht := htail b f W (fun j hj => hall j (by omega)) hI
        rw [List.drop_eq_nil_of_le (by omega)] at ht
        have e : frm b f L a = frm (fun _ => true) f L a := by
          have : ∀ (M : List (Nat × Tmp)) (a : Act), (∀ x ∈ M, x.1 < k) → frm b f M a = frm (fun _ => true) f M a := by
            intro M
            induction M with
            | nil => intro a _; rfl
            | cons x M ih =>
              intro a hM
              obtain ⟨j, d⟩ := x
              unfold frm
              rw [ih _ (fun x hx => hM x (List.mem_cons_of_mem _ hx)), hall j (by have := hM (j, d) List.mem_cons_self; simp only at this; omega)]
          exact this L a hlt
        rw [e]
        exact ht
    | succ n ih =>
      intro ls f b W hn1 hn2 hls hc hb hcl htl hI
      by_cases hdone : ∀ j, j < k → b j = true
      · -- the tail
        have e : frm b f L a = frm (fun _ => true) f L a := by
          have : ∀ (M : List (Nat × Tmp)) (a : Act), (∀ x ∈ M, x.1 < k) → frm b f M a = frm (fun _ => true) f M a := by
            intro M
            induction M with
            | nil => intro a _; rfl
            | cons x M ih =>
              intro a hM
              obtain ⟨j, d⟩ := x
              unfold frm
              rw [ih _ (fun x hx => hM x (List.mem_cons_of_mem _ hx)), hdone j (hM (j, d) List.mem_cons_self)]
          exact this L a hlt
        have hlsk : ∀ j, j < l.length → ls.getD j false = decide (j < k) := fun j hj => by
          rw [hb j hj]
          by_cases h : j < k
          · rw [hdone j h, decide_eq_true h]
          · rw [htl j (by omega) hj, decide_eq_false h]
        have hcount : n + 1 = l.length - k := by
          have h1 : ls.toList = (List.range l.length).map fun j => decide (j < k) := by
            apply List.ext_getElem
            · simp [hls]
            · intro j h1 h2
              have hj : j < ls.size := by simpa using h1
              have := hlsk j (by omega)
              simp only [Array.getD_eq_getD_getElem?, Array.getElem?_eq_getElem hj, Option.getD_some] at this
              simpa using this
          rw [h1] at hc
          rw [← hc, List.count_eq_countP, List.countP_map]
          have h2 : l.length = k + (l.length - k) := by omega
          rw [h2, List.range_add, List.countP_append, List.countP_map]
          have h3 : List.countP ((fun x => x == false) ∘ fun j => decide (j < k)) (List.range k) = 0 := by
            rw [List.countP_eq_zero]
            intro j hj
            have := List.mem_range.1 hj
            simp [this]
          have h4 : List.countP (((fun x => x == false) ∘ fun j => decide (j < k)) ∘ fun x => k + x) (List.range (l.length - k)) = (List.range (l.length - k)).length := by
            rw [List.countP_eq_length]
            intro j _
            simp
          rw [h3, h4]
          simp
        rw [e, hcount]
        exact wpIn_tail hs (l.length - k) k ls _ W (by omega) (Nat.le_refl _) hls hlsk (htail b f W hdone hI)
      · constructor
        · intro hr
          exfalso
          -- the least one that is not done is ready
          have : ∃ j, j < k ∧ b j = false := by
            refine Classical.byContradiction fun hne => hdone fun j hj => ?_
            cases hv : b j with
            | true => rfl
            | false => exact absurd ⟨j, hj, hv⟩ hne
          obtain ⟨j0, hj0, hv0⟩ := this
          have least : ∀ m j, j ≤ m → j < k → b j = false → ∃ j, j < k ∧ b j = false ∧ ∀ i, i < j → b i = true := by
            intro m
            induction m with
            | zero => intro j h1 h2 h3; exact ⟨j, h2, h3, fun i hi => by omega⟩
            | succ m ihm =>
              intro j h1 h2 h3
              by_cases h : ∃ i, i < j ∧ b i = false
              · obtain ⟨i, hi1, hi2⟩ := h
                exact ihm i (by omega) (by omega) hi2
              · exact ⟨j, h2, h3, fun i hi => by
                  cases hv : b i with
                  | true => rfl
                  | false => exact absurd ⟨i, hi, hv⟩ h⟩
          obtain ⟨j, hj1, hj2, hj3⟩ := least j0 j0 (Nat.le_refl _) hj0 hv0
          have hjl : j < l.length := by omega
          have ho : l[j]? = some l[j] := List.getElem?_eq_getElem hjl
          have : j ∈ Region.ready .any l.toArray ls := by
            refine mem_ready.2 ⟨?_, l[j], by simp, fun e he _ => ?_⟩
            · have := hb j hjl
              simp only [Array.getD_eq_getD_getElem?, Array.getElem?_eq_getElem (show j < ls.size by omega), Option.getD_some] at this ⊢
              rw [this]; exact hj2
            · have hr := hL4 j (List.mem_range.2 hjl)
              rw [ho] at hr
              simp only [Bool.and_eq_true, List.all_eq_true, decide_eq_true_eq] at hr
              have hlt := hr.1 e (Array.mem_toList_iff.2 he)
              rw [hb e.on (by omega)]
              exact hj3 _ hlt
          rw [hr] at this
          cases this
        · intro i hi
          obtain ⟨h1, o, ho, hdep⟩ := mem_ready.1 hi
          have hil : i < l.length := by simpa using (Array.getElem?_eq_some_iff.1 ho).1
          have ho' : l[i]? = some o := by simpa using ho
          have hbi : b i = false := by
            rw [← hb i hil]
            simp only [Array.getD_eq_getD_getElem?, Array.getElem?_eq_getElem (show i < ls.size by omega), Option.getD_some] at h1 ⊢
            exact h1
          have hdep' : ∀ e ∈ o.after.toList, Region.binds .any e = true → b e.on = true := fun e he hbn => by
            have h2 := hdep e (Array.mem_toList_iff.1 he) hbn
            have hr := hL4 i (List.mem_range.2 hil)
            rw [ho'] at hr
            simp only [Bool.and_eq_true, List.all_eq_true, decide_eq_true_eq] at hr
            have hlt := hr.1 e he
            rw [← hb e.on (by omega)]
            exact h2
          have hik : i < k := by
            rcases Nat.lt_or_ge i k with h | h
            · exact h
            · exfalso
              refine hdone fun j hj => ?_
              have hr := hL4 i (List.mem_range.2 hil)
              rw [ho'] at hr
              simp only [Bool.and_eq_true, Bool.or_eq_true, decide_eq_true_eq, List.all_eq_true] at hr
              rcases hr.2 with h2 | h2
              · omega
              · refine reachJ_done hcl _ i (h2 j (List.mem_range.2 (by omega))) (fun o1 ho1 e he hbn => ?_)
                rw [ho'] at ho1
                cases ho1
                exact hdep' e he hbn
          obtain ⟨t, ht⟩ := hmem i hik
          have hdst : o.dst = some t := by
            have := hL3 (i, t) ht
            simp only [ho'] at this
            exact this
          have h := hstep i o hik ho' b f W hbi hdep' hI
          refine wpOpIn_mono ?_ (wpOp_of_list (Q := Q) ho h (fun e a w hne hq => by cases e <;> first | exact absurd rfl hne | exact hq))
          rintro a' W' ⟨v, rfl, hv⟩
          rw [hdst, frm_up v L a (by rw [hL1]; exact List.nodup_range) hL2 ht]
          refine ih _ (upv f i v) (up1 b i) W' (by omega) (by omega) (by simpa using hls) ?_ ?_ ?_ ?_ hv
          · have hi' : i < ls.toList.length := by simpa using (show i < ls.size by omega)
            have hget : ls.toList[i] = false := by
              have := hb i hil
              simp only [Array.getD_eq_getD_getElem?, Array.getElem?_eq_getElem (show i < ls.size by omega), Option.getD_some] at this
              rw [Array.getElem_toList, this]; exact hbi
            have : (ls.setIfInBounds i true).toList = ls.toList.set i true := by simp
            rw [this, List.count_set hi', hget, if_pos (show (false == false) = true from rfl), if_neg (show ¬ (true == false) = true by decide)]
            omega
          · intro j hj
            by_cases e : i = j
            · subst e
              simp [Array.getD_eq_getD_getElem?, show i < ls.size by omega, up1]
            · have := hb j hj
              simp only [Array.getD_eq_getD_getElem?, Array.getElem?_setIfInBounds_ne e] at this ⊢
              rw [this]
              simp [up1, show ¬ j = i from fun h => e h.symm]
          · intro d o1 ho1 hbd e he hbn
            by_cases e1 : d = i
            · subst e1
              rw [ho'] at ho1
              cases ho1
              have := hdep' e he hbn
              unfold up1
              split <;> first | rfl | exact this
            · have := hcl d o1 ho1 (up1_of hbd e1) e he hbn
              unfold up1
              split <;> first | rfl | exact this
          · intro j hkj hjl
            simp only [up1, show ¬ j = i from by omega, if_false]
            exact htl j hkj hjl
  have h0 := key l.length (Array.replicate l.length false) (fun _ => undef) (fun _ => false) { w with drawn := w.drawn + 1 } (by omega) (Nat.le_refl _) (by simp) (by simp) (fun j hj => by simp [hj]) (fun _ _ _ h => by cases h) (fun _ _ _ => rfl)
    hI0
  rw [frm_none L a (fun x hx => by have := List.all_eq_true.1 hsz x hx; simpa using this)] at h0
  simpa using h0
end
/-- The first k operations only read: the world stays, each value is the one told. -/
def RdI (k : Nat) (vals : List Value) (W0 : World) (b : Nat → Bool) (f : Nat → Value) (W : World) : Prop :=
  W = W0.drew ∧ ∀ j, j < k → b j = true → f j = vals.getD j undef
theorem RdI.start (k : Nat) (vals : List Value) (W0 : World) : RdI k vals W0 (fun _ => false) (fun _ => undef) W0.drew :=
  ⟨rfl, fun _ _ h => by cases h⟩
theorem RdI.next {k : Nat} {vals : List Value} {W0 : World} {b : Nat → Bool} {f : Nat → Value} {W : World} {i : Nat} {v : Value} (h : RdI k vals W0 b f W) (hv : v = vals.getD i undef) : RdI k vals W0 (up1 b i) (upv f i v) W := by
  refine ⟨h.1, fun j hj hb => ?_⟩
  unfold upv
  by_cases e : j = i
  · rw [if_pos e, hv, e]
  · rw [if_neg e]; exact h.2 j hj (up1_of hb e)
end Go.Proofs.YtfmpabdaadllaaaM

/-
  Sched.round and its iterator.
-/
namespace Go.Proofs.Ytfmpabdaadllaaa.PAll
open Go.RowKit Go.Shelf Go.Proofs.YtfmpabdaadllaaaM Go.Proofs.YtfmpabdaadllaaaW.PrintWords Go.Proofs.YtfmpabdaadllaaaW.PrintLast
attribute [local go_sem] Oper.semAt_some
set_option linter.unusedVariables false
set_option linter.unusedSimpArgs false
theorem gb_drew {w W : World} {row : Option Nat} (h : w.grownBy W row) : w.grownBy W.drew row := ⟨h.os, h.tape, h.output, h.size, h.block⟩
theorem gb_weak {w W : World} (h : w.grownBy W none) (m : Nat) : w.grownBy W (some m) := ⟨h.os, h.tape, h.output, h.size, fun k hk _ => h.block k hk (by simp)⟩
theorem gb_drawn {w w' : World} (h : Drawn0 w w') : w.grownBy w' none := by obtain ⟨n, rfl⟩ := h; exact ⟨rfl, rfl, rfl, Nat.le_refl _, fun _ _ _ => rfl⟩
/-- The variable that has the schedule's address. -/
def BoxS (W : World) (bx gs : Nat) : Prop := W.heap[bx]? = some (.cells #[.pointer (some ⟨gs, 0, none⟩)] 60 (0, 0))
theorem BoxS.grown {W W' : World} {bx gs : Nat} {row : Option Nat} (h : BoxS W bx gs) (hg : W.grownBy W' row) (hr : some bx ≠ row) : BoxS W' bx gs := blk_grown h hg hr
theorem round_calls (gs : Nat) (w : World) : Calls Try.prog 53 #[.pointer (some ⟨gs, 0, none⟩)] w fun e W' => e = .returned (.func (.func 57) #[] #[.pointer (some ⟨w.heap.size, 0, none⟩)]) ∧ W' = w.alloc (.cells #[.pointer (some ⟨gs, 0, none⟩)] 60) := by
  go_enter Try.func53, Try.ntmps53
  go_wp2
  go_ret
  exact ⟨rfl, rfl⟩
set_option maxRecDepth 100000 in
set_option maxHeartbeats 4000000 in
theorem round_seq (n : Nat) (hn : 1 ≤ n) (bx gs : Nat) (Wn : List S75) (hW : WOk Wn) (s : Nat × Nat) (t : Nat) :
    SeqG Fence.wide n Try.prog 57 #[.pointer (some ⟨bx, 0, none⟩)] (fun x : Int => #[.int .i64 x]) (fun A B => A.grownBy B none) (fun _ W => BoxS W bx gs ∧ SchW W gs Wn s t)
      (fun (i : Nat) x i' => x = (((s.1 + 1 + i) % Wn.length : Nat) : Int) ∧ i' = i + 1 ∧ i < Wn.length) (fun i => i = Wn.length) 0 := by
  intro l J Jx W hJK hJxK hY h0 ht0
  refine callsIn_of_wp Try.func57 rfl trivial ?_ rfl
  simp only [Try.ntmps57, List.size_toArray, List.length_cons, List.length_nil, Nat.reduceAdd, Nat.reduceSub, Array.replicate_succ, Array.replicate_zero, List.push_toArray, List.append_toArray, List.nil_append, List.cons_append]
  obtain ⟨hb, hs⟩ := ht0
  have HB := Aside0.mk hb
  have HS := Aside0.mk hs
  have HJ := Aside0.mk h0
  have HY := Aside0.mk hY
  have HK := Aside0.mk hJK
  have HWK := Aside0.mk hW
  have hw32 := hW.len.2
  have hw1 := hW.len.1
  obtain ⟨ad0, c0, hb0, _⟩ := hs
  have xb := (blk_cell hb 0).trans rfl
  have x0 := (blk_cell hb0 0).trans rfl
  clear hb hb0 h0 hY hJK hJxK hW
  gi_wp2
  clear xb x0
  gi_loopw [9] (fun p wr => ∃ k : Nat, p = .int .i64 (k : Int) ∧ k ≤ Wn.length ∧ Aside0 (J k wr) ∧ Aside0 (BoxS wr bx gs) ∧ Aside0 (SchW wr gs Wn s t)) (fun p wr => Wn.length - (intOf p).toNat)
  case atStart => exact ⟨0, rfl, Nat.zero_le _, HJ, HB, HS⟩
  case round =>
    clear HJ HB HS
    obtain ⟨k, rfl, hkl, HJ, HB, HS⟩ := hrel
    by_cases hk : k < Wn.length
    · have hki : (k : Int) < (Wn.length : Int) := by omega
      have hk0 : (0 : Int) ≤ (k : Int) := by omega
      obtain ⟨ad, c, hbs, _, _, _, hok⟩ := HS.out
      have xb := (blk_cell HB.out 0).trans rfl
      have x0 := (blk_cell hbs 0).trans rfl
      have x1 := (blk_cell hbs 1).trans rfl
      obtain ⟨a4, ha4⟩ : ∃ a4 : Int, a4 = (s.1 : Int) := ⟨_, rfl⟩
      obtain ⟨a5, ha5⟩ : ∃ a5 : Int, a5 = a4 + 1 := ⟨_, rfl⟩
      obtain ⟨a7, ha7⟩ : ∃ a7 : Int, a7 = a5 + (k : Int) := ⟨_, rfl⟩
      obtain ⟨a13, ha13⟩ : ∃ a13 : Int, a13 = (((s.1 + 1 + k) % Wn.length : Nat) : Int) := ⟨_, rfl⟩
      have hm5 : IntKind.i64.wrap (a4 + 1) = a5 := (IntWalk.i64_left _).trans ((IntWalk.wrap64_in _ (by omega)).trans ha5.symm)
      have hm7 : IntKind.i64.wrap (a5 + (k : Int)) = a7 := (IntWalk.i64_left _).trans ((IntWalk.wrap64_in _ (by omega)).trans ha7.symm)
      have hm13 : a7 % (Wn.length : Int) = a13 := by rw [ha13, ha7, ha5, ha4]; push_cast; rfl
      have h7n : 0 ≤ a7 := by omega
      have hmt : a7.tmod (Wn.length : Int) = a13 := by rw [Int.tmod_eq_emod_of_nonneg h7n, hm13]
      have hb13 : 0 ≤ a13 ∧ a13 ≤ 31 := by rw [ha13]; have := Nat.mod_lt (s.1 + 1 + k) (show 0 < Wn.length by omega); omega
      have hm14 : IntKind.i64.wrap a13 = a13 := (IntWalk.i64_left _).trans (IntWalk.wrap64_in _ (by omega))
      have hlz : ¬ (Wn.length : Int) = 0 := by omega
      rw [← ha4] at x1
      have HA := Aside0.mk ha13
      obtain ⟨fn, tmps, assign, body, hy, hR⟩ := HY.out k a13 (k + 1) _ (HK.out k _ _ HJ.out (gb_drew (World.grownBy.refl wr none))) ⟨HB.out.grown (gb_drew (World.grownBy.refl wr none)) (by simp), HS.out.grown (gb_drew (World.grownBy.refl wr none))⟩ ⟨HA.out, rfl, hk⟩
      have HR := Aside0.mk hR
      have hw9 : IntKind.i64.wrap ((k : Int) + 1) = ((k + 1 : Nat) : Int) := (IntWalk.i64_left _).trans ((IntWalk.wrap64_in _ (by omega)).trans (by omega))
      clear hbs hok ha4 ha5 ha7 ha13 hR
      gi_wp2_with fail
      refine wpIn_draw (l := _) (by kernel_rfl) 14 [(0, 12), (1, 13), (2, 14), (3, 15), (4, 16), (5, 17), (6, 18), (7, 19), (8, 20), (9, 21), (10, 22), (11, 23), (12, 24), (13, 25)] (RdI 14 [.func (.yield l) #[] #[], .pointer (some ⟨gs, 0, none⟩), .pointer (some ⟨gs, 0, none⟩), .pointer (some ⟨gs, 1, none⟩), .int .i64 a4, .int .i64 a5, .int .i64 (k : Int), .int .i64 a7, .pointer (some ⟨gs, 0, none⟩), .pointer (some ⟨gs, 0, none⟩), .pointer (some ⟨gs, 0, none⟩), .slice (some ad) Wn.length c, .int .i64 (Wn.length : Int), .int .i64 a13] wr) (by kernel_rfl) rfl (RdI.start _ _ _) ?hs ?ht
      case hs =>
        intro i o hi ho bq fq W' hbi hdep hI
        obtain ⟨rfl, hI2⟩ := hI
        have HI := Aside0.mk (show RdI 14 [.func (.yield l) #[] #[], .pointer (some ⟨gs, 0, none⟩), .pointer (some ⟨gs, 0, none⟩), .pointer (some ⟨gs, 1, none⟩), .int .i64 a4, .int .i64 a5, .int .i64 (k : Int), .int .i64 a7, .pointer (some ⟨gs, 0, none⟩), .pointer (some ⟨gs, 0, none⟩), .pointer (some ⟨gs, 0, none⟩), .slice (some ad) Wn.length c, .int .i64 (Wn.length : Int), .int .i64 a13] wr bq fq wr.drew from ⟨rfl, hI2⟩)
        have HD := Aside0.mk hdep
        clear hI2 hdep
        match i, hi, ho, hbi with
        | 0, _, ho, hbi =>
          cases ho
          simp only [frm, Act.put, List.setIfInBounds_toArray, List.set_cons_zero, List.set_cons_succ, Array.getD_eq_getD_getElem?, List.getElem?_toArray, List.getElem?_cons_zero, List.getElem?_cons_succ, Option.getD_some]
          gi_wp2
          exact ⟨_, rfl, HI.out.next rfl⟩
        | 1, _, ho, hbi =>
          cases ho
          simp only [frm, Act.put, List.setIfInBounds_toArray, List.set_cons_zero, List.set_cons_succ, Array.getD_eq_getD_getElem?, List.getElem?_toArray, List.getElem?_cons_zero, List.getElem?_cons_succ, Option.getD_some]
          gi_wp2
          exact ⟨_, rfl, HI.out.next rfl⟩
        | 2, _, ho, hbi =>
          cases ho
          have hb1 : bq 1 = true := HD.out { on := 1, ground := Ground.data } (by simp) rfl
          have h1 : fq 1 = .pointer (some ⟨gs, 0, none⟩) := HI.out.2 1 (by decide) hb1
          simp only [frm, Act.put, List.setIfInBounds_toArray, List.set_cons_zero, List.set_cons_succ, Array.getD_eq_getD_getElem?, List.getElem?_toArray, List.getElem?_cons_zero, List.getElem?_cons_succ, Option.getD_some, hb1, h1, sel_true]
          clear h1 hb1
          gi_wp2
          exact ⟨_, rfl, HI.out.next rfl⟩
        | 3, _, ho, hbi =>
          cases ho
          have hb2 : bq 2 = true := HD.out { on := 2, ground := Ground.data } (by simp) rfl
          have h2 : fq 2 = .pointer (some ⟨gs, 0, none⟩) := HI.out.2 2 (by decide) hb2
          simp only [frm, Act.put, List.setIfInBounds_toArray, List.set_cons_zero, List.set_cons_succ, Array.getD_eq_getD_getElem?, List.getElem?_toArray, List.getElem?_cons_zero, List.getElem?_cons_succ, Option.getD_some, hb2, h2, sel_true]
          clear h2 hb2
          gi_wp2
          exact ⟨_, rfl, HI.out.next rfl⟩
        | 4, _, ho, hbi =>
          cases ho
          have hb3 : bq 3 = true := HD.out { on := 3, ground := Ground.data } (by simp) rfl
          have h3 : fq 3 = .pointer (some ⟨gs, 1, none⟩) := HI.out.2 3 (by decide) hb3
          simp only [frm, Act.put, List.setIfInBounds_toArray, List.set_cons_zero, List.set_cons_succ, Array.getD_eq_getD_getElem?, List.getElem?_toArray, List.getElem?_cons_zero, List.getElem?_cons_succ, Option.getD_some, hb3, h3, sel_true]
          clear h3 hb3
          gi_wp2
          exact ⟨_, rfl, HI.out.next rfl⟩
        | 5, _, ho, hbi =>
          cases ho
          have hb4 : bq 4 = true := HD.out { on := 4, ground := Ground.data } (by simp) rfl
          have h4 : fq 4 = .int .i64 a4 := HI.out.2 4 (by decide) hb4
          simp only [frm, Act.put, List.setIfInBounds_toArray, List.set_cons_zero, List.set_cons_succ, Array.getD_eq_getD_getElem?, List.getElem?_toArray, List.getElem?_cons_zero, List.getElem?_cons_succ, Option.getD_some, hb4, h4, sel_true]
          clear h4 hb4
          gi_wp2
          exact ⟨_, rfl, HI.out.next rfl⟩
        | 6, _, ho, hbi =>
          cases ho
          simp only [frm, Act.put, List.setIfInBounds_toArray, List.set_cons_zero, List.set_cons_succ, Array.getD_eq_getD_getElem?, List.getElem?_toArray, List.getElem?_cons_zero, List.getElem?_cons_succ, Option.getD_some]
          gi_wp2
          exact ⟨_, rfl, HI.out.next rfl⟩
        | 7, _, ho, hbi =>
          cases ho
          have hb5 : bq 5 = true := HD.out { on := 5, ground := Ground.data } (by simp) rfl
          have h5 : fq 5 = .int .i64 a5 := HI.out.2 5 (by decide) hb5
          have hb6 : bq 6 = true := HD.out { on := 6, ground := Ground.data } (by simp) rfl
          have h6 : fq 6 = .int .i64 (k : Int) := HI.out.2 6 (by decide) hb6
          simp only [frm, Act.put, List.setIfInBounds_toArray, List.set_cons_zero, List.set_cons_succ, Array.getD_eq_getD_getElem?, List.getElem?_toArray, List.getElem?_cons_zero, List.getElem?_cons_succ, Option.getD_some, hb5, h5, hb6, h6, sel_true]
          clear h5 hb5
          clear h6 hb6
          gi_wp2
          exact ⟨_, rfl, HI.out.next rfl⟩
        | 8, _, ho, hbi =>
          cases ho
          simp only [frm, Act.put, List.setIfInBounds_toArray, List.set_cons_zero, List.set_cons_succ, Array.getD_eq_getD_getElem?, List.getElem?_toArray, List.getElem?_cons_zero, List.getElem?_cons_succ, Option.getD_some]
          gi_wp2
          exact ⟨_, rfl, HI.out.next rfl⟩
        | 9, _, ho, hbi =>
          cases ho
          have hb8 : bq 8 = true := HD.out { on := 8, ground := Ground.data } (by simp) rfl
          have h8 : fq 8 = .pointer (some ⟨gs, 0, none⟩) := HI.out.2 8 (by decide) hb8
          simp only [frm, Act.put, List.setIfInBounds_toArray, List.set_cons_zero, List.set_cons_succ, Array.getD_eq_getD_getElem?, List.getElem?_toArray, List.getElem?_cons_zero, List.getElem?_cons_succ, Option.getD_some, hb8, h8, sel_true]
          clear h8 hb8
          gi_wp2
          exact ⟨_, rfl, HI.out.next rfl⟩
        | 10, _, ho, hbi =>
          cases ho
          have hb9 : bq 9 = true := HD.out { on := 9, ground := Ground.data } (by simp) rfl
          have h9 : fq 9 = .pointer (some ⟨gs, 0, none⟩) := HI.out.2 9 (by decide) hb9
          simp only [frm, Act.put, List.setIfInBounds_toArray, List.set_cons_zero, List.set_cons_succ, Array.getD_eq_getD_getElem?, List.getElem?_toArray, List.getElem?_cons_zero, List.getElem?_cons_succ, Option.getD_some, hb9, h9, sel_true]
          clear h9 hb9
          gi_wp2
          exact ⟨_, rfl, HI.out.next rfl⟩
        | 11, _, ho, hbi =>
          cases ho
          have hb10 : bq 10 = true := HD.out { on := 10, ground := Ground.data } (by simp) rfl
          have h10 : fq 10 = .pointer (some ⟨gs, 0, none⟩) := HI.out.2 10 (by decide) hb10
          simp only [frm, Act.put, List.setIfInBounds_toArray, List.set_cons_zero, List.set_cons_succ, Array.getD_eq_getD_getElem?, List.getElem?_toArray, List.getElem?_cons_zero, List.getElem?_cons_succ, Option.getD_some, hb10, h10, sel_true]
          clear h10 hb10
          gi_wp2
          exact ⟨_, rfl, HI.out.next rfl⟩
        | 12, _, ho, hbi =>
          cases ho
          have hb11 : bq 11 = true := HD.out { on := 11, ground := Ground.data } (by simp) rfl
          have h11 : fq 11 = .slice (some ad) Wn.length c := HI.out.2 11 (by decide) hb11
          simp only [frm, Act.put, List.setIfInBounds_toArray, List.set_cons_zero, List.set_cons_succ, Array.getD_eq_getD_getElem?, List.getElem?_toArray, List.getElem?_cons_zero, List.getElem?_cons_succ, Option.getD_some, hb11, h11, sel_true]
          clear h11 hb11
          gi_wp2
          exact ⟨_, rfl, HI.out.next rfl⟩
        | 13, _, ho, hbi =>
          cases ho
          have hb7 : bq 7 = true := HD.out { on := 7, ground := Ground.data } (by simp) rfl
          have h7 : fq 7 = .int .i64 a7 := HI.out.2 7 (by decide) hb7
          have hb12 : bq 12 = true := HD.out { on := 12, ground := Ground.data } (by simp) rfl
          have h12 : fq 12 = .int .i64 (Wn.length : Int) := HI.out.2 12 (by decide) hb12
          simp only [frm, Act.put, List.setIfInBounds_toArray, List.set_cons_zero, List.set_cons_succ, Array.getD_eq_getD_getElem?, List.getElem?_toArray, List.getElem?_cons_zero, List.getElem?_cons_succ, Option.getD_some, hb7, h7, hb12, h12, sel_true]
          clear h7 hb7
          clear h12 hb12
          gi_wp2
          exact ⟨_, rfl, HI.out.next rfl⟩
      case ht =>
        intro bq fq W' hb hI
        obtain ⟨rfl, hI2⟩ := hI
        have h0 : fq 0 = .func (.yield l) #[] #[] := hI2 0 (by decide) (hb 0 (by decide))
        have h1 : fq 1 = .pointer (some ⟨gs, 0, none⟩) := hI2 1 (by decide) (hb 1 (by decide))
        have h2 : fq 2 = .pointer (some ⟨gs, 0, none⟩) := hI2 2 (by decide) (hb 2 (by decide))
        have h3 : fq 3 = .pointer (some ⟨gs, 1, none⟩) := hI2 3 (by decide) (hb 3 (by decide))
        have h4 : fq 4 = .int .i64 a4 := hI2 4 (by decide) (hb 4 (by decide))
        have h5 : fq 5 = .int .i64 a5 := hI2 5 (by decide) (hb 5 (by decide))
        have h6 : fq 6 = .int .i64 (k : Int) := hI2 6 (by decide) (hb 6 (by decide))
        have h7 : fq 7 = .int .i64 a7 := hI2 7 (by decide) (hb 7 (by decide))
        have h8 : fq 8 = .pointer (some ⟨gs, 0, none⟩) := hI2 8 (by decide) (hb 8 (by decide))
        have h9 : fq 9 = .pointer (some ⟨gs, 0, none⟩) := hI2 9 (by decide) (hb 9 (by decide))
        have h10 : fq 10 = .pointer (some ⟨gs, 0, none⟩) := hI2 10 (by decide) (hb 10 (by decide))
        have h11 : fq 11 = .slice (some ad) Wn.length c := hI2 11 (by decide) (hb 11 (by decide))
        have h12 : fq 12 = .int .i64 (Wn.length : Int) := hI2 12 (by decide) (hb 12 (by decide))
        have h13 : fq 13 = .int .i64 a13 := hI2 13 (by decide) (hb 13 (by decide))
        simp only [frm, Act.put, List.setIfInBounds_toArray, List.set_cons_zero, List.set_cons_succ, Array.getD_eq_getD_getElem?, List.getElem?_toArray, List.getElem?_cons_zero, List.getElem?_cons_succ, Option.getD_some, sel_true, h0, h1, h2, h3, h4, h5, h6, h7, h8, h9, h10, h11, h12, h13]
        clear hI2 hb h0 h1 h2 h3 h4 h5 h6 h7 h8 h9 h10 h11 h12 h13
        simp only [List.drop_succ_cons, List.drop_zero]
        gi_wp2
        refine HR.out.mono ?_
        rintro e W' (⟨rfl, hJ', hT'⟩ | ⟨rfl, hJx'⟩)
        · obtain ⟨hb', hs'⟩ := hT'
          have HJ' := Aside0.mk hJ'
          have HB' := Aside0.mk hb'
          have HS' := Aside0.mk hs'
          clear hJ' hb' hs' hy x0 x1 xb hm13
          gi_wp2
          go_roundw
          case rel => exact ⟨k + 1, by first | rfl | simp, by omega, HJ', HB', HS'⟩
          case measure => simp [intOf]; omega
        · have HJx' := Aside0.mk hJx'
          clear hJx' hy x0 x1 xb hm13
          gi_wp2
          refine bodyPost_ret (results_none rfl _ _ _) rfl ?_
          exact ⟨⟨_, rfl⟩, .inr HJx'.out⟩
    · have hki : ¬ (k : Int) < (Wn.length : Int) := by omega
      gi_wp2
      go_end0
      exact ⟨⟨_, rfl⟩, .inl ⟨by have h := HJ.out; rw [show k = Wn.length by omega] at h; exact h, HB.out, HS.out⟩⟩
end Go.Proofs.Ytfmpabdaadllaaa.PAll

/-
  Sched.Tick.
-/
namespace Go.Proofs.Ytfmpabdaadllaaa.PAll
open Go.RowKit Go.Shelf Go.Proofs.YtfmpabdaadllaaaM Go.Proofs.YtfmpabdaadllaaaW.PrintWords Go.Proofs.YtfmpabdaadllaaaW.PrintLast
attribute [local go_sem] Oper.semAt_some
set_option linter.unusedVariables false
set_option linter.unusedSimpArgs false
theorem foot_aside {α : Type} {d : Kd α} {w : World} {A : Option Addr} {n : Nat} {xs : List α} {g : Nat} (hd : ∀ {W W' : World} {x : α} {cs : List Value}, d.K W x cs → d.K W' x cs) (h : d.C w A n xs) (hf : ∀ ad, A = some ad → 0 < n → ad.block ≠ g) (W' : World) (hk : KeepBut w W' g none) : d.C W' A n xs := by
  refine ⟨h.1, h.2.1, fun hn => ?_⟩
  obtain ⟨ad, he, hc⟩ := h.2.2 hn
  refine ⟨ad, he, fun j p hj => ?_⟩
  obtain ⟨cs, h1, h2, h3⟩ := hc j p hj
  exact ⟨cs, h1, hd h2, fun i u hu => keep_cell hk (h3 i u hu) (by rw [add_block]; exact hf ad he hn)⟩
theorem C_far75 {g : Nat} {W W' : World} {A : Option Addr} {n : Nat} {xs : List S75} (h : Kd.C k75 W A n xs) (hf : ∀ ad, A = some ad → 0 < n → ad.block ≠ g) (hg : W.grownBy W' (some g)) : Kd.C k75 W' A n xs :=
  foot_aside (fun {W W' x cs} hk => by rw [k75_open hk]; exact k75_mk W' x) h hf W' ⟨hg.size, fun i hi h1 _ => hg.block i hi (fun e => h1 (Option.some.inj e))⟩
/-- The schedule, its numbers written anew. -/
theorem SchW.put {W W' : World} {gs : Nat} {Wn : List S75} {s s' : Nat × Nat} {t t' : Nat} (h : SchW W gs Wn s t) (hg : W.grownBy W' (some gs)) (hs : s'.1 < Wn.length)
    (hb : ∀ ad c, W.heap[gs]? = some (.cells #[.slice (some ad) Wn.length c, .int .i64 (s.1 : Int), .int .i64 (s.2 : Int), .int .u64 (t : Int)] 83 (0, 0)) → W'.heap[gs]? = some (.cells #[.slice (some ad) Wn.length c, .int .i64 (s'.1 : Int), .int .i64 (s'.2 : Int), .int .u64 (t' : Int)] 83 (0, 0))) : SchW W' gs Wn s' t' := by
  obtain ⟨ad, c, h1, h2, h3, h4, h5⟩ := h
  exact ⟨ad, c, hb ad c h1, h2, C_far75 h3 (fun a e _ => by cases e; exact Nat.ne_of_lt h4) hg, h4, hs⟩
theorem add_block (a : Addr) (i : Nat) : (a.add i).block = a.block := by unfold Addr.add; split <;> rfl
theorem cells_far {W W' : World} {A : Addr} {v : Value} {g : Nat} (h : W.cell? A = some v) (hg : W.grownBy W' (some g)) (hne : A.block ≠ g) : W'.cell? A = some v := by
  rw [World.cell?_of_block (hg.block _ (World.block_lt_of_cell? W _ h) (fun e => hne (Option.some.inj e)))]; exact h
/-- A row that is younger than the schedule is written. -/
theorem SchW.row {A B : World} {row : Option Nat} {gs : Nat} {Wn : List S75} {s : Nat × Nat} {t : Nat} (h : SchW A gs Wn s t) (hg : A.grownBy B row) (hr : ∀ r, row = some r → gs < r) : SchW B gs Wn s t := by
  obtain ⟨ad, c, h1, h2, h3, h4, h5⟩ := h
  refine ⟨ad, c, blk_grown h1 hg (fun e => by have := hr gs e.symm; omega), h2, ?_, h4, h5⟩
  cases row with
  | none => exact Kd.C_below h3 (below_of_grown hg)
  | some r => exact C_far75 h3 (fun a e _ => by cases e; have := hr r rfl; omega) hg
set_option maxRecDepth 100000 in
set_option maxHeartbeats 8000000 in
theorem tick_stay (Wn : List S75) (hW : WOk Wn) (gs : Nat) (s : Nat × Nat) (t : Nat) (ht : t < 9223372036854775807) (w : World) (h : SchW w gs Wn s t) (hok : SOk Wn s) (hne : ¬ ((s.2 : Int) + 1) = (Wn.getD s.1 z75).f1) :
    Calls Try.prog 42 #[.pointer (some ⟨gs, 0, none⟩)] w fun e W' => (∃ v, e = .returned v) ∧ SchW W' gs Wn (nextS Wn s) (t + 1) ∧ w.grownBy W' (some gs) := by
  have hn : nextS Wn s = (s.1, s.2 + 1) := by unfold nextS; rw [if_neg hne]
  have hA := World.grownBy_alloc w (.cells #[.pointer (some ⟨gs, 0, none⟩)] 60) none
  have hbx := new_at (W := w) (.cells #[.pointer (some ⟨gs, 0, none⟩)] 60) rfl
  have hlt := h.lt
  have HS := Aside0.mk (h.grown hA)
  have HGA := Aside0.mk hA
  have HBX := Aside0.mk hbx
  have hxg : w.heap.size ≠ gs := by omega
  obtain ⟨t1, ht1⟩ : ∃ t1 : Int, t1 = ((t + 1 : Nat) : Int) := ⟨_, rfl⟩
  obtain ⟨g1, hg1⟩ : ∃ g1 : Int, g1 = ((s.2 + 1 : Nat) : Int) := ⟨_, rfl⟩
  have hb1 := (hW.tk s.1 hok.1).2
  have hok2 := hok.2
  have hu : IntKind.u64.wrap ((t : Int) + 1) = t1 := (IntWalk.u64_in _ (by omega)).trans (by omega)
  have hgw : IntKind.i64.wrap ((s.2 : Int) + 1) = g1 := (IntWalk.i64_left _).trans ((IntWalk.wrap64_in _ (by omega)).trans (by omega))
  have ht0 : (t1 == 0) = false := beq_eq_false_iff_ne.2 (by omega)
  obtain ⟨tk, htk⟩ : ∃ tk, tk = (Wn.getD s.1 z75).f1 := ⟨_, rfl⟩
  have hgn : (g1 == tk) = false := beq_eq_false_iff_ne.2 (by rw [htk]; omega)
  have HTK := Aside0.mk htk
  have HN := Aside0.mk hn
  have HW := Aside0.mk hW
  have HT1 := Aside0.mk (And.intro ht1 hg1)
  have HLT := Aside0.mk hlt
  obtain ⟨a1, ha1⟩ : ∃ a1 : Int, a1 = (s.1 : Int) := ⟨_, rfl⟩
  obtain ⟨a2, ha2⟩ : ∃ a2 : Int, a2 = (s.2 : Int) := ⟨_, rfl⟩
  obtain ⟨a3, ha3⟩ : ∃ a3 : Int, a3 = (t : Int) := ⟨_, rfl⟩
  rw [← ha2] at hgw
  rw [← ha3] at hu
  have HA := Aside0.mk (And.intro ha1 (And.intro ha2 ha3))
  have hai : a1 < (Wn.length : Int) := by have := hok.1; omega
  have ha0 : 0 ≤ a1 := by omega
  clear h hA hbx hne hn hb1 hok2 hok hW ht ht1 hg1 htk hlt ha1 ha2 ha3
  go_enter Try.func42, Try.ntmps42
  go_wp2_with (first
    | (have _ := HS1; go_at_call 41; refine (part_calls Wn HW.out gs (nextS Wn s) (t + 1) _ HSF.out).mono ?_; rintro e W9 ⟨rfl, hd⟩; have HG9 := Aside0.mk (gb_drawn hd); clear hd)
    | (go_at_call 51; refine (none_calls Wn HW.out gs s t _ HS.out).mono ?_; rintro e W' ⟨rfl, rfl⟩)
    | (go_at_call 41; refine (part_calls Wn HW.out gs s t _ HS.out).mono ?_; rintro e W1 ⟨rfl, hd⟩; have hg1 := gb_drawn hd; have HS1 := Aside0.mk (HS.out.grown hg1); have HB1 := Aside0.mk (blk_grown HBX.out hg1 (by simp)); have HG1 := Aside0.mk (HGA.out.trans hg1); obtain ⟨ad, c, hb1, _, hC1, hne4, hs1⟩ := HS1.out; rw [← HA.out.1, ← HA.out.2.1, ← HA.out.2.2] at hb1; (obtain ⟨ad', e', _, y1⟩ := at_T75 hC1 a1 ha0 hai); cases e'; (have hrd : rd_T75 Wn a1 = Wn.getD s.1 z75 := by rw [HA.out.1]; exact rd75 Wn s.1); (rw [hrd, ← HTK.out] at y1); (have hb2 := blk_put hb1 3 (.int .u64 t1) rfl); (have hb3 := blk_put hb2 2 (.int .i64 g1) rfl); (have xb1 := (blk_cell HB1.out 0).trans rfl); (have hx2 := blk_far HB1.out (p := ⟨gs, 3, none⟩) hxg (.int .u64 t1)); (have hx3 := blk_far hx2 (p := ⟨gs, 2, none⟩) hxg (.int .i64 g1)); (have xb2 := (blk_cell hx2 0).trans rfl); (have xb3 := (blk_cell hx3 0).trans rfl); (have c13 := (blk_cell hb1 3).trans rfl); (have f13 := blk_frozen hb1 3); (have c23 := (blk_cell hb2 3).trans rfl); (have c22 := (blk_cell hb2 2).trans rfl); (have f22 := blk_frozen hb2 2); (have c30 := (blk_cell hb3 0).trans rfl); (have c31 := (blk_cell hb3 1).trans rfl); (have c32 := (blk_cell hb3 2).trans rfl);
        (have hG3 : W1.grownBy ((W1.setCell ⟨gs, 3, none⟩ (.int .u64 t1)).setCell ⟨gs, 2, none⟩ (.int .i64 g1)) (some gs) := (gb_set W1 gs 3 _).trans (gb_set _ gs 2 _));
        (have hSF := HS1.out.put hG3 (s' := nextS Wn s) (t' := t + 1) (by rw [HN.out]; exact hs1) (fun ad c h => by rw [HN.out]; have h2 := blk_put (blk_put h 3 (.int .u64 t1) rfl) 2 (.int .i64 g1) rfl; rw [HT1.out.1, HT1.out.2] at h2 ⊢; exact h2));
        (have HSF0 := Aside0.mk hSF); (have HG3 := Aside0.mk ((gb_weak HG1.out gs).trans hG3)); (have xe1 := cells_far y1 hG3 (by simp only [add_block]; exact Nat.ne_of_lt hne4));
        clear hg1 hC1 hb1 hb2 hb3 hx2 hx3 hG3 hSF hrd))
  obtain ⟨W3, hW3⟩ : ∃ W3, W3 = (W1.setCell ⟨gs, 3, none⟩ (.int .u64 t1)).setCell ⟨gs, 2, none⟩ (.int .i64 g1) := ⟨_, rfl⟩
  rw [← hW3] at HSF0 HG3 xb3 c30 c31 c32 xe1
  rw [← hW3]
  clear hW3 xb1 xb2 c13 f13 c23 c22 f22 y1
  go_quiet (fail)
  go_wp2_with (go_at_call 41; refine (part_calls Wn HW.out gs (nextS Wn s) (t + 1) _ (HSF0.out.grown (gb_drawn ⟨_, rfl⟩))).mono ?_; rintro e W9 ⟨rfl, hd⟩; have HG9 := Aside0.mk (gb_drawn hd); clear hd)
  go_ret2
  exact ⟨⟨_, rfl⟩, (HSF0.out.grown (gb_drawn ⟨_, rfl⟩)).grown HG9.out, (HG3.out.trans (gb_weak (gb_drawn ⟨_, rfl⟩) gs)).trans (gb_weak HG9.out gs)⟩
theorem cells_own {A B : World} {row : Option Nat} {b : Nat} {cs : Array Value} {t : TypeId} {f : Nat × Nat} (h : A.heap[b]? = some (.cells cs t f)) (hg : A.grownBy B row) (hr : ∀ r, row = some r → ∃ o : Obj, A.heap[r]? = some o ∧ o.isCells = false) : B.heap[b]? = some (.cells cs t f) :=
  (hg.block b (Array.getElem?_eq_some_iff.1 h).1 (fun e => by obtain ⟨o, ho, hc⟩ := hr b e.symm; rw [h] at ho; cases ho; cases hc)).trans h
theorem cell_is {W : World} {a : Addr} {v : Value} {ob : Obj} (h : W.cell? a = some v) (hb : W.heap[a.block]? = some ob) (hc : ob.isCells = false) : False := by
  unfold World.cell? at h
  rw [hb] at h
  cases ob <;> simp_all [Obj.isCells]
theorem C_own75 {A B : World} {row : Option Nat} {ad : Addr} {Wn : List S75} (h : Kd.C k75 A (some ad) Wn.length Wn) (hg : A.grownBy B row) (hr : ∀ r, row = some r → ∃ o : Obj, A.heap[r]? = some o ∧ o.isCells = false) : Kd.C k75 B (some ad) Wn.length Wn := by
  cases row with
  | none => exact Kd.C_below h (below_of_grown hg)
  | some r =>
    refine C_far75 h (fun a e hn => ?_) hg
    cases e
    intro hb
    obtain ⟨o, ho, hc⟩ := hr r rfl
    obtain ⟨a', e, y, _⟩ := at_T75 h 0 (by omega) (by omega)
    cases e
    exact cell_is y (by rw [add_block, hb]; exact ho) hc
theorem SchW.own {A B : World} {row : Option Nat} {gs : Nat} {Wn : List S75} {s : Nat × Nat} {t : Nat} (h : SchW A gs Wn s t) (hg : A.grownBy B row) (hr : ∀ r, row = some r → ∃ o : Obj, A.heap[r]? = some o ∧ o.isCells = false) : SchW B gs Wn s t := by
  obtain ⟨ad, c, h1, h2, h3, h4⟩ := h
  exact ⟨ad, c, cells_own h1 hg hr, h2, C_own75 h3 hg hr, h4⟩
set_option maxRecDepth 100000 in
set_option maxHeartbeats 8000000 in
theorem tick_turn (Wn : List S75) (hW : WOk Wn) (gs : Nat) (s : Nat × Nat) (t : Nat) (ht : t < 9223372036854775807) (w : World) (h : SchW w gs Wn s t) (hok : SOk Wn s) (heq : ((s.2 : Int) + 1) = (Wn.getD s.1 z75).f1) :
    Calls Try.prog 42 #[.pointer (some ⟨gs, 0, none⟩)] w fun e W' => (∃ v, e = .returned v) ∧ SchW W' gs Wn (nextS Wn s) (t + 1) ∧ w.grownBy W' (some gs) := by
  have hn : nextS Wn s = ((s.1 + 1) % Wn.length, 0) := by unfold nextS; rw [if_pos heq]
  have hA := World.grownBy_alloc w (.cells #[.pointer (some ⟨gs, 0, none⟩)] 60) none
  have hbx := new_at (W := w) (.cells #[.pointer (some ⟨gs, 0, none⟩)] 60) rfl
  have hlt := h.lt
  have HS := Aside0.mk (h.grown hA)
  have HGA := Aside0.mk hA
  have HBX := Aside0.mk hbx
  have hxg : w.heap.size ≠ gs := by omega
  obtain ⟨t1, ht1⟩ : ∃ t1 : Int, t1 = ((t + 1 : Nat) : Int) := ⟨_, rfl⟩
  obtain ⟨g1, hg1⟩ : ∃ g1 : Int, g1 = ((s.2 + 1 : Nat) : Int) := ⟨_, rfl⟩
  have hb1 := (hW.tk s.1 hok.1).2
  have hok2 := hok.2
  have hu : IntKind.u64.wrap ((t : Int) + 1) = t1 := (IntWalk.u64_in _ (by omega)).trans (by omega)
  have hgw : IntKind.i64.wrap ((s.2 : Int) + 1) = g1 := (IntWalk.i64_left _).trans ((IntWalk.wrap64_in _ (by omega)).trans (by omega))
  have ht0 : (t1 == 0) = false := beq_eq_false_iff_ne.2 (by omega)
  have htk : g1 = (Wn.getD s.1 z75).f1 := by omega
  have HTK := Aside0.mk htk
  have HN := Aside0.mk hn
  have HW := Aside0.mk hW
  have HT1 := Aside0.mk (And.intro ht1 hg1)
  have HLT := Aside0.mk hlt
  have HNL := Aside0.mk (Nat.mod_lt (s.1 + 1) (show 0 < Wn.length by have := hok.1; omega))
  obtain ⟨a1, ha1⟩ : ∃ a1 : Int, a1 = (s.1 : Int) := ⟨_, rfl⟩
  obtain ⟨a2, ha2⟩ : ∃ a2 : Int, a2 = (s.2 : Int) := ⟨_, rfl⟩
  obtain ⟨a3, ha3⟩ : ∃ a3 : Int, a3 = (t : Int) := ⟨_, rfl⟩
  rw [← ha2] at hgw
  rw [← ha3] at hu
  have HA := Aside0.mk (And.intro ha1 (And.intro ha2 ha3))
  have hai : a1 < (Wn.length : Int) := by have := hok.1; omega
  have ha0 : 0 ≤ a1 := by omega
  clear h hA hbx heq hn hb1 hok2 hok hW ht ht1 hg1 htk hlt ha1 ha2 ha3
  refine (callsIn_wide (n := 5)).1 ?_
  refine callsIn_of_wp_marks Try.func42 rfl trivial ?_ rfl
  simp only [Try.ntmps42, List.size_toArray, List.length_cons, List.length_nil, Nat.reduceAdd, Nat.reduceSub, Array.replicate_succ, Array.replicate_zero, List.push_toArray, List.append_toArray, List.nil_append, List.cons_append]
  gi_wp2_with (first
    | (refine ⟨trivial, ?_⟩; gi_at_call 51; refine (callsIn_wide.2 (none_calls Wn HW.out gs s t _ HS.out)).mono ?_; rintro e W' ⟨rfl, rfl⟩)
    | (refine ⟨trivial, ?_⟩; gi_at_call 41; refine (callsIn_wide.2 (part_calls Wn HW.out gs s t _ HS.out)).mono ?_; rintro e W1 ⟨rfl, hd⟩; have hg1 := gb_drawn hd; have HS1 := Aside0.mk (HS.out.grown hg1); have HB1 := Aside0.mk (blk_grown HBX.out hg1 (by simp)); have HG1 := Aside0.mk (HGA.out.trans hg1); obtain ⟨ad, c, hb1, _, hC1, hne4, hs1⟩ := HS1.out; rw [← HA.out.1, ← HA.out.2.1, ← HA.out.2.2] at hb1; (obtain ⟨ad', e', _, y1⟩ := at_T75 hC1 a1 ha0 hai); cases e'; (have hrd : rd_T75 Wn a1 = Wn.getD s.1 z75 := by rw [HA.out.1]; exact rd75 Wn s.1); (rw [hrd, ← HTK.out] at y1); (have hb2 := blk_put hb1 3 (.int .u64 t1) rfl); (have hb3 := blk_put hb2 2 (.int .i64 g1) rfl); (have xb1 := (blk_cell HB1.out 0).trans rfl); (have hx2 := blk_far HB1.out (p := ⟨gs, 3, none⟩) hxg (.int .u64 t1)); (have hx3 := blk_far hx2 (p := ⟨gs, 2, none⟩) hxg (.int .i64 g1)); (have xb2 := (blk_cell hx2 0).trans rfl); (have xb3 := (blk_cell hx3 0).trans rfl); (have c13 := (blk_cell hb1 3).trans rfl); (have f13 := blk_frozen hb1 3); (have c23 := (blk_cell hb2 3).trans rfl); (have c22 := (blk_cell hb2 2).trans rfl); (have f22 := blk_frozen hb2 2); (have c30 := (blk_cell hb3 0).trans rfl); (have c31 := (blk_cell hb3 1).trans rfl); (have c32 := (blk_cell hb3 2).trans rfl);
        (have hG3 : W1.grownBy ((W1.setCell ⟨gs, 3, none⟩ (.int .u64 t1)).setCell ⟨gs, 2, none⟩ (.int .i64 g1)) (some gs) := (gb_set W1 gs 3 _).trans (gb_set _ gs 2 _));
        (have hSF := HS1.out.put hG3 (s' := (s.1, s.2 + 1)) (t' := t + 1) hs1 (fun ad c h => by have h2 := blk_put (blk_put h 3 (.int .u64 t1) rfl) 2 (.int .i64 g1) rfl; rw [HT1.out.1, HT1.out.2] at h2 ⊢; exact h2));
        (have HSF0 := Aside0.mk hSF); (have HX3 := Aside0.mk hx3); (have xe1 := cells_far y1 hG3 (by simp only [add_block]; exact Nat.ne_of_lt hne4)); (have HG3 := Aside0.mk ((gb_weak HG1.out gs).trans hG3));
        clear hg1 hC1 hb1 hb2 hb3 hx2 hx3 hG3 hSF hrd))
  obtain ⟨W3, hW3⟩ : ∃ W3, W3 = (W1.setCell ⟨gs, 3, none⟩ (.int .u64 t1)).setCell ⟨gs, 2, none⟩ (.int .i64 g1) := ⟨_, rfl⟩
  rw [← hW3] at HSF0 HG3 HX3 xb3 c30 c31 c32 xe1
  rw [← hW3]
  clear hW3 xb1 xb2 c13 f13 c23 c22 f22 y1
  gi_big_quiet_th (fail)
  gi_wp2_with (refine ⟨trivial, ?_⟩; gi_at_call 53; refine (callsIn_wide.2 (round_calls gs _)).mono ?_; rintro e W' ⟨rfl, rfl⟩)
  obtain ⟨Wr, hWr⟩ : ∃ Wr, Wr = (W3.drewN nq).alloc (.cells #[.pointer (some ⟨gs, 0, none⟩)] 60) := ⟨_, rfl⟩
  obtain ⟨by2, hb2⟩ : ∃ by2, by2 = W3.heap.size := ⟨_, rfl⟩
  have hG4 : W3.grownBy Wr none := by rw [hWr]; exact (gb_drawn ⟨nq, rfl⟩).trans (World.grownBy_alloc _ _ none)
  have hB2 : BoxS Wr by2 gs := by unfold BoxS; rw [hWr]; exact new_at _ (by rw [hb2]; rfl)
  rw [← hWr, ← hb2]
  have HMID := Aside0.mk (HSF0.out.grown hG4)
  have HB2 := Aside0.mk hB2
  have HX4 := Aside0.mk (show BoxS Wr w.heap.size gs from blk_grown HX3.out hG4 (by simp))
  have HG4 := Aside0.mk (HG3.out.trans (gb_weak hG4 gs))
  have HSZ := Aside0.mk (show w.heap.size < Wr.heap.size ∧ gs < Wr.heap.size ∧ by2 < Wr.heap.size from ⟨blk_lt HX4.out, HMID.out.lt, blk_lt hB2⟩)
  clear hWr hb2 hG4 hB2 xb3 c30 c31 c32 xe1
  refine wpIn_rangeFunc_G (F := Fence.wide) (n := 5) rfl (by decide) (gf := 57) (lb := #[.pointer (some ⟨by2, 0, none⟩)]) rfl trivial (enters_of Try.func57 (by kernel_rfl) rfl)
    (round_seq 4 (by decide) by2 gs Wn HW.out (s.1, s.2 + 1) (t + 1)) (fun _ => rfl)
    (fun i W => i = 0 ∧ BoxS W w.heap.size gs ∧ SchW W gs Wn (s.1, s.2 + 1) (t + 1) ∧ w.grownBy W (some gs))
    (fun cd W => cd = .exit 0 ∧ BoxS W w.heap.size gs ∧ SchW W gs Wn (nextS Wn s) (t + 1) ∧ w.grownBy W (some gs))
    ?hI ?hIx ?hTI (fun A B h k _ hlt => h.block k hlt (by simp)) ?hIK ?hIxK ⟨rfl, HX4.out, HMID.out, HG4.out⟩ ⟨HB2.out, HMID.out⟩ ?round ?done ?stop
  case hI =>
    rintro i A B row ⟨a0, a1, a2, a3⟩ hg hr
    have hr' : ∀ r, row = some r → ∃ o : Obj, A.heap[r]? = some o ∧ o.isCells = false := fun r e => (hr r e).2
    exact ⟨a0, cells_own a1 hg hr', a2.own hg hr', a3.andThen hg (fun j e => .inl (by have := (hr j e).1; have := HSZ.out; omega))⟩
  case hIx =>
    rintro cd A B row ⟨a0, a1, a2, a3⟩ hg hr
    have hr' : ∀ r, row = some r → ∃ o : Obj, A.heap[r]? = some o ∧ o.isCells = false := fun r e => (hr r e).2
    exact ⟨a0, cells_own a1 hg hr', a2.own hg hr', a3.andThen hg (fun j e => .inl (by have := (hr j e).1; have := HSZ.out; omega))⟩
  case hTI =>
    rintro i A B row ⟨a1, a2⟩ hg hr
    have hr' : ∀ r, row = some r → ∃ o : Obj, A.heap[r]? = some o ∧ o.isCells = false := fun r e => (hr r e).2
    exact ⟨cells_own a1 hg hr', a2.own hg hr'⟩
  case hIK =>
    rintro i A B ⟨a0, a1, a2, a3⟩ hg
    exact ⟨a0, a1.grown hg (by simp), a2.grown hg, a3.trans (gb_weak hg gs)⟩
  case hIxK =>
    rintro cd A B ⟨a0, a1, a2, a3⟩ hg
    exact ⟨a0, a1.grown hg (by simp), a2.grown hg, a3.trans (gb_weak hg gs)⟩
  case done =>
    rintro D i W hD hi hTI ⟨a0, _⟩ hK
    exfalso
    have := HW.out.len
    omega
  case stop =>
    rintro D cd W hD ⟨rfl, a1, a2, a3⟩ hK
    have x1 := (blk_cell a1 0).trans rfl
    have HQ := Aside0.mk (And.intro a1 (And.intro a2 a3))
    have HK := Aside0.mk hK
    clear a1 a2 a3 hK
    gi_wp2_with (refine ⟨trivial, ?_⟩; gi_at_call 41; refine (callsIn_wide.2 (part_calls Wn HW.out gs (nextS Wn s) (t + 1) _ HQ.out.2.1)).mono ?_; rintro e W9 ⟨rfl, hd⟩; have HG9 := Aside0.mk (gb_drawn hd); have HG9H := Aside0.mk (show W9.heap = W.heap by obtain ⟨m, rfl⟩ := hd.out; rfl); clear hd)
    refine ⟨by simp, .inl ⟨_, _, rfl, run_takeDeferred (by rw [HG9H.out]; exact HK.out), ?_⟩⟩
    have hr : ∀ r, some D = some r → ∃ o : Obj, W9.heap[r]? = some o ∧ o.isCells = false := fun r e => by cases e; exact ⟨_, by rw [HG9H.out]; exact HK.out, rfl⟩
    have hp := grownBy_putObj' W9 D (.deferred none)
    exact ⟨_, by simp [results, Try.f42, go_sem]; rfl, ⟨_, rfl⟩, (HQ.out.2.1.grown HG9.out).own hp hr, (HQ.out.2.2.trans (gb_weak HG9.out gs)).andThen hp (fun j e => by cases e; exact .inl (by have := HSZ.out; omega))⟩
  case round =>
    rintro l i x i' W hl ⟨rfl, a1, a2, a3⟩ ⟨b1, b2⟩ ⟨hx, rfl, hi⟩
    have HQ := Aside0.mk (And.intro a1 (And.intro a2 a3))
    have HX := Aside0.mk hx
    clear a1 a2 a3 b1 b2 hx
    gi_wp2
    refine ⟨⟨Nat.le_refl _, fun k o _ h _ => h⟩, fun W2 hg2 o2 ho2 hc2 => ?_⟩
    have hr2 : ∀ r, some l = some r → ∃ o : Obj, W.heap[r]? = some o ∧ o.isCells = false := fun r e => by cases e; exact ⟨o2, ho2, hc2⟩
    have q1 : BoxS W2 w.heap.size gs := cells_own HQ.out.1 hg2 hr2
    have q2 := HQ.out.2.1.own hg2 hr2
    have q3 : w.grownBy W2 (some gs) := HQ.out.2.2.andThen hg2 (fun j e => by cases e; exact .inl (by have := HSZ.out; omega))
    have xb := (blk_cell q1 0).trans rfl
    have Q := Aside0.mk (And.intro q1 (And.intro q2 q3))
    obtain ⟨ad2, c2, hb2, _⟩ := q2
    have c1 := (blk_cell hb2 1).trans rfl
    have f1 := blk_frozen hb2 1
    have hb3 := blk_put hb2 1 (.int .i64 x) rfl
    have c2' := (blk_cell hb3 2).trans rfl
    have f2 := blk_frozen hb3 2
    have hx2 := blk_far q1 (p := ⟨gs, 1, none⟩) hxg (.int .i64 x)
    have xb2 := (blk_cell hx2 0).trans rfl
    have hGf : W2.grownBy ((W2.setCell ⟨gs, 1, none⟩ (.int .i64 x)).setCell ⟨gs, 2, none⟩ (.int .i64 0)) (some gs) := (gb_set W2 gs 1 _).trans (gb_set _ gs 2 _)
    have hSf := Q.out.2.1.put hGf (s' := nextS Wn s) (t' := t + 1) (by rw [HN.out]; exact HNL.out) (fun ad c h => by
      have h2 := blk_put (blk_put h 1 (.int .i64 x) rfl) 2 (.int .i64 0) rfl
      rw [HN.out]
      rw [HX.out] at h2 ⊢
      exact h2)
    have hXf : BoxS ((W2.setCell ⟨gs, 1, none⟩ (.int .i64 x)).setCell ⟨gs, 2, none⟩ (.int .i64 0)) w.heap.size gs := blk_far hx2 (p := ⟨gs, 2, none⟩) hxg _
    have hKf : KeepsFrom Wr.heap.size W2 ((W2.setCell ⟨gs, 1, none⟩ (.int .i64 x)).setCell ⟨gs, 2, none⟩ (.int .i64 0)) := ((KeepsOthers.setCell _ _ _).trans (KeepsOthers.setCell _ _ _)).from _
    have hD : ∀ V : World, V.grownBy V.drew none := fun V => gb_drew (World.grownBy.refl V none)
    have HFIN := Aside0.mk (And.intro (show KeepsFrom Wr.heap.size W2 ((W2.setCell ⟨gs, 1, none⟩ (.int .i64 x)).setCell ⟨gs, 2, none⟩ (.int .i64 0)).drew from hKf.trans ⟨Nat.le_refl _, fun k o _ h _ => h⟩)
      (And.intro (hXf.grown (hD _) (by simp)) (And.intro (hSf.grown (hD _)) (show w.grownBy ((W2.setCell ⟨gs, 1, none⟩ (.int .i64 x)).setCell ⟨gs, 2, none⟩ (.int .i64 0)).drew (some gs) from (Q.out.2.2.trans hGf).trans (gb_weak (hD _) gs)))))
    clear hg2 hr2 q1 q3 hb2 hb3 hx2 hGf hSf hXf hKf hD
    gi_wp2_with fail
    gi_region
    all_goals (gi_wp2; exact ⟨HFIN.out.1, rfl, HFIN.out.2⟩)
/-- One tick more. -/
theorem tick_calls (Wn : List S75) (hW : WOk Wn) (gs : Nat) (s : Nat × Nat) (t : Nat) (ht : t < 9223372036854775807) (w : World) (h : SchW w gs Wn s t) (hok : SOk Wn s) :
    Calls Try.prog 42 #[.pointer (some ⟨gs, 0, none⟩)] w fun e W' => (∃ v, e = .returned v) ∧ SchW W' gs Wn (nextS Wn s) (t + 1) ∧ w.grownBy W' (some gs) := by
  by_cases heq : ((s.2 : Int) + 1) = (Wn.getD s.1 z75).f1
  · exact tick_turn Wn hW gs s t ht w h hok heq
  · exact tick_stay Wn hW gs s t ht w h hok heq
end Go.Proofs.Ytfmpabdaadllaaa.PAll

/-
  watch.turns and its iterator.
-/
namespace Go.Proofs.Ytfmpabdaadllaaa.PAll
open Go.RowKit Go.Shelf Go.Proofs.YtfmpabdaadllaaaM Go.Proofs.YtfmpabdaadllaaaW.PrintWords Go.Proofs.YtfmpabdaadllaaaW.PrintLast
attribute [local go_sem] Oper.semAt_some
set_option linter.unusedVariables false
set_option linter.unusedSimpArgs false
/-- How many of the first i events are ticks. -/
def tkN (l : List S56) (i : Nat) : Nat := (l.take i).countP (fun e => e.f0 == 1)
theorem tkN_succ {l : List S56} {i : Nat} (h : i < l.length) : tkN l (i + 1) = tkN l i + if (l.getD i z56).f0 = 1 then 1 else 0 := by
  unfold tkN
  rw [List.take_succ_eq_append_getElem h, List.countP_append, List.getD_eq_getElem?_getD, List.getElem?_eq_getElem h]
  simp [List.countP_cons]
theorem tkN_le (l : List S56) (i : Nat) : tkN l i ≤ i := Nat.le_trans List.countP_le_length (by rw [List.length_take]; omega)
/-- Whom an event falls to, and whose turn it is behind it. -/
def fallsE (Wn : List S75) (l : List S56) (i : Nat) : Int := if (l.getD i z56).f0 = 1 then -1 else partS Wn (tkN l i)
def behE (Wn : List S75) (l : List S56) (i : Nat) : Int := partS Wn (tkN l (i + 1))
/-- The variable that has the script. -/
def BoxL (W : World) (bl : Nat) (A : Option Addr) (n c : Nat) : Prop := W.heap[bl]? = some (.cells #[.slice A n c] 27 (0, 0))
def turnI (w00 : World) (bl bx gs : Nat) (Wn : List S75) (A : Option Addr) (c : Nat) (l : List S56) (i : Nat) (W : World) : Prop :=
  BoxS W bx gs ∧ BoxL W bl A l.length c ∧ SchW W gs Wn (posS Wn (tkN l i)) (tkN l i) ∧ w00.grownBy W none
theorem turns_calls (gs : Nat) (A : Option Addr) (n c : Nat) (w : World) : Calls Try.prog 33 #[.pointer (some ⟨gs, 0, none⟩), .slice A n c] w fun e W' => e = .returned (.func (.func 40) #[] #[.pointer (some ⟨w.heap.size + 1, 0, none⟩), .pointer (some ⟨w.heap.size, 0, none⟩)]) ∧ W' = (w.alloc (.cells #[.pointer (some ⟨gs, 0, none⟩)] 60)).alloc (.cells #[.slice A n c] 27) := by
  go_enter Try.func33, Try.ntmps33
  go_wp2
  go_ret
  exact ⟨rfl, rfl⟩
theorem turnI.keep {w00 A B : World} {bl bx gs : Nat} {Wn : List S75} {Al : Option Addr} {c : Nat} {l : List S56} {i : Nat} (h : turnI w00 bl bx gs Wn Al c l i A) (hg : A.grownBy B none) : turnI w00 bl bx gs Wn Al c l i B :=
  ⟨h.1.grown hg (by simp), blk_grown h.2.1 hg (by simp), h.2.2.1.grown hg, h.2.2.2.trans hg⟩
set_option maxRecDepth 100000 in
set_option maxHeartbeats 8000000 in
theorem turns_seq (n : Nat) (hn : 1 ≤ n) (w00 : World) (bl bx gs : Nat) (hbl : bl ≠ gs) (hbx : bx ≠ gs) (hgs : w00.heap.size ≤ gs) (Wn : List S75) (hW : WOk Wn) (A : Option Addr) (c : Nat) (l : List S56) (hl : Kd.C k56 w00 A l.length l) :
    SeqG Fence.wide n Try.prog 40 #[.pointer (some ⟨bl, 0, none⟩), .pointer (some ⟨bx, 0, none⟩)] (fun x : Int × Int => #[.int .i64 x.1, .int .i64 x.2]) (fun A B => A.grownBy B (some gs)) (turnI w00 bl bx gs Wn A c l)
      (fun (i : Nat) x i' => i < l.length ∧ i' = i + 1 ∧ x = (fallsE Wn l i, behE Wn l i)) (fun i => i = l.length) 0 := by
  intro ll J Jx W hJK hJxK hY h0 ht0
  refine callsIn_of_wp Try.func40 rfl trivial ?_ rfl
  simp only [Try.ntmps40, List.size_toArray, List.length_cons, List.length_nil, Nat.reduceAdd, Nat.reduceSub, Array.replicate_succ, Array.replicate_zero, List.push_toArray, List.append_toArray, List.nil_append, List.cons_append]
  have hmax := Kd.C_max hl
  have HMX := Aside0.mk hmax
  have HT := Aside0.mk ht0
  have HJ := Aside0.mk h0
  have HY := Aside0.mk hY
  have HK := Aside0.mk hJK
  have HW := Aside0.mk hW
  have HL := Aside0.mk hl
  have HNE := Aside0.mk (And.intro hbl (And.intro hbx hgs))
  have xl := (blk_cell ht0.2.1 0).trans rfl
  clear hmax h0 ht0 hY hJK hJxK hW hl hbl hbx hgs
  gi_wp2
  clear xl
  gi_loopw [9] (fun p wr => ∃ k : Nat, p = .int .i64 (k : Int) ∧ k ≤ l.length ∧ Aside0 (J k wr) ∧ Aside0 (turnI w00 bl bx gs Wn A c l k wr)) (fun p wr => l.length - (intOf p).toNat)
  case atStart => exact ⟨0, rfl, Nat.zero_le _, HJ, HT⟩
  case round =>
    clear HJ HT
    obtain ⟨k, rfl, hkl, HJ, HT⟩ := hrel
    by_cases hk : k < l.length
    · have hki : (k : Int) < (l.length : Int) := by omega
      have hk0 : (0 : Int) ≤ (k : Int) := by omega
      have hw9 : IntKind.i64.wrap ((k : Int) + 1) = ((k + 1 : Nat) : Int) := (IntWalk.i64_left _).trans ((IntWalk.wrap64_in _ (by have := HMX.out; omega)).trans (by omega))
      obtain ⟨ad, eA, y0, y1, y2⟩ := at_T56 HL.out (k : Int) hk0 hki
      subst eA
      obtain ⟨x, hx⟩ : ∃ x, x = l.getD k z56 := ⟨_, rfl⟩
      have hr : rd_T56 l (k : Int) = x := by unfold rd_T56; rw [Int.toNat_natCast, hx]
      rw [hr, Int.toNat_natCast] at y0 y1 y2
      replace y0 := cells_keep y0 (below_of_grown HT.out.2.2.2)
      replace y1 := cells_keep y1 (below_of_grown HT.out.2.2.2)
      replace y2 := cells_keep y2 (below_of_grown HT.out.2.2.2)
      have hsc := tkN_succ hk
      rw [← hx] at hsc
      have hfl : fallsE Wn l k = if x.f0 = 1 then -1 else partS Wn (tkN l k) := by unfold fallsE; rw [← hx]
      have hbe : behE Wn l k = partS Wn (tkN l (k + 1)) := rfl
      obtain ⟨q0, q1, q2⟩ := x
      simp only at y0 y1 y2 hsc hfl
      have hga := World.grownBy_alloc wr (.cells #[.int .i64 q0, .int .i64 q1, .int .u32 q2] 56) none
      have HTA := Aside0.mk (HT.out.keep hga)
      have HJA := Aside0.mk (HK.out _ _ _ HJ.out (gb_weak hga gs))
      have xb := (blk_cell HTA.out.1 0).trans rfl
      have HTK := Aside0.mk (show tkN l k < 9223372036854775807 by have := tkN_le l k; have := HMX.out; omega)
      obtain ⟨m, hm⟩ : ∃ m, m = tkN l k := ⟨_, rfl⟩
      have hok := posS_ok HW.out m
      have HOK := Aside0.mk hok
      have HSA : Aside0 (SchW (wr.alloc (.cells #[.int .i64 q0, .int .i64 q1, .int .u32 q2] 56)) gs Wn (posS Wn m) m) := ⟨by rw [hm]; exact HTA.out.2.2.1⟩
      rw [← hm] at HTK hfl hsc
      obtain ⟨pv, hpv⟩ : ∃ pv, pv = partS Wn m := ⟨_, rfl⟩
      have hpart : ∀ W : World, SchW W gs Wn (posS Wn m) m → Calls Try.prog 41 #[.pointer (some ⟨gs, 0, none⟩)] W fun e W' => e = .returned (.int .i64 pv) ∧ Drawn0 W W' := fun W h => by
        rw [hpv]; exact part_calls Wn HW.out gs (posS Wn m) m W h
      have HPART := Aside0.mk hpart
      have HM := Aside0.mk (And.intro hm hpv)
      clear hga hr hx hok hpart
      by_cases hq : q0 = 1
      · subst hq
        rw [if_pos rfl] at hfl hsc
        obtain ⟨pw, hpw⟩ : ∃ pw, pw = partS Wn (m + 1) := ⟨_, rfl⟩
        have hpart2 : ∀ W : World, SchW W gs Wn (posS Wn (m + 1)) (m + 1) → Calls Try.prog 41 #[.pointer (some ⟨gs, 0, none⟩)] W fun e W' => e = .returned (.int .i64 pw) ∧ Drawn0 W W' := fun W h => by
          rw [hpw]; exact part_calls Wn HW.out gs (posS Wn (m + 1)) (m + 1) W h
        have HPART2 := Aside0.mk hpart2
        have HFB := Aside0.mk (show fallsE Wn l k = -1 ∧ behE Wn l k = pw ∧ tkN l (k + 1) = m + 1 from ⟨hfl, by rw [hbe, hsc, hpw], hsc⟩)
        clear hfl hsc hbe hpv hpw hm hpart2
        gi_wp2_with (first
          | (have _ := HG3; refine ⟨trivial, ?_⟩; gi_at_call 41; refine (callsIn_wide.2 (HPART2.out _ HS3.out)).mono ?_; rintro e W4 ⟨rfl, hd⟩; have HG4 := Aside0.mk (HG3.out.trans (gb_weak (gb_drawn hd) gs)); have hs4 := HS3.out.grown (gb_drawn hd); (obtain ⟨fn, tmps, assign, body, hy, hR⟩ := HY.out k (fallsE Wn l k, behE Wn l k) (k + 1) W4 (HK.out _ _ _ HJA.out HG4.out) ⟨HTA.out.1.grown HG4.out (by simp; exact HNE.out.2.1), blk_grown HTA.out.2.1 HG4.out (by simp; exact HNE.out.1), by rw [HFB.out.2.2]; exact hs4, HTA.out.2.2.2.andThen HG4.out (fun j e => by cases e; exact .inl HNE.out.2.2)⟩ ⟨hk, rfl, rfl⟩); simp only [HFB.out.1, HFB.out.2.1] at hy; have HR := Aside0.mk hR; clear hd hR xb3 hs4)
          | (have _ := HD1; refine ⟨trivial, ?_⟩; gi_at_call 42; refine (callsIn_wide.2 (tick_calls Wn HW.out gs (posS Wn m) m HTK.out _ (HSA.out.grown HD1.out) HOK.out)).mono ?_; rintro e W3 ⟨⟨v3, rfl⟩, hs3, hg3⟩; have HS3 := Aside0.mk (show SchW W3 gs Wn (posS Wn (m + 1)) (m + 1) from hs3); have HG3 := Aside0.mk ((gb_weak HD1.out gs).trans hg3); have xb3 := cells_far xb1 hg3 HNE.out.2.1; clear hs3 hg3 xb1 xe1)
          | (refine ⟨trivial, ?_⟩; gi_at_call 41; refine (callsIn_wide.2 (HPART.out _ HSA.out)).mono ?_; rintro e W1 ⟨rfl, hd⟩; have HD1 := Aside0.mk (gb_drawn hd); have xb1 := cells_keep xb (below_of_grown HD1.out); have xe1 := cells_keep (blk_cell (new_at (W := wr) (.cells #[.int .i64 1, .int .i64 q1, .int .u32 q2] 56) rfl) 0) (below_of_grown HD1.out); clear hd))
        refine HR.out.mono ?_
        rintro e W' (⟨rfl, hJ', hT'⟩ | ⟨rfl, hJx'⟩)
        · have HJ' := Aside0.mk hJ'
          have HT' := Aside0.mk hT'
          clear hJ' hT' hy y0 y1 y2 xb
          gi_wp2
          go_roundw
          case rel => exact ⟨k + 1, by first | rfl | simp, by omega, HJ', HT'⟩
          case measure => simp [intOf]; omega
        · have HJx' := Aside0.mk hJx'
          clear hJx' hy y0 y1 y2 xb
          gi_wp2
          refine bodyPost_ret (results_none rfl _ _ _) rfl ?_
          exact ⟨⟨_, rfl⟩, .inr HJx'.out⟩
      · rw [if_neg hq] at hfl hsc
        have hqb : (q0 == 1) = false := beq_eq_false_iff_ne.2 hq
        have HFB := Aside0.mk (show fallsE Wn l k = pv ∧ behE Wn l k = pv ∧ tkN l (k + 1) = m from ⟨hfl.trans hpv.symm, by rw [hbe, hsc, hpv]; rfl, by rw [hsc]; rfl⟩)
        clear hfl hsc hbe hpv hm
        gi_wp2_with (first
          | (have _ := HD1; refine ⟨trivial, ?_⟩; gi_at_call 41; refine (callsIn_wide.2 (HPART.out _ (HSA.out.grown HD1.out))).mono ?_; rintro e W2 ⟨rfl, hd⟩; have HD2 := Aside0.mk (HD1.out.trans (gb_drawn hd)); (obtain ⟨fn, tmps, assign, body, hy, hR⟩ := HY.out k (fallsE Wn l k, behE Wn l k) (k + 1) W2 (HK.out _ _ _ HJA.out (gb_weak HD2.out gs)) (by have h := HTA.out.keep HD2.out; refine ⟨h.1, h.2.1, ?_, h.2.2.2⟩; have h3 := h.2.2.1; rw [HFB.out.2.2]; rw [← HM.out.1] at h3; exact h3) ⟨hk, rfl, rfl⟩); simp only [HFB.out.1, HFB.out.2.1] at hy; have HR := Aside0.mk hR; clear hd hR xb1)
          | (refine ⟨trivial, ?_⟩; gi_at_call 41; refine (callsIn_wide.2 (HPART.out _ HSA.out)).mono ?_; rintro e W1 ⟨rfl, hd⟩; have HD1 := Aside0.mk (gb_drawn hd); have xb1 := cells_keep xb (below_of_grown HD1.out); have xe1 := cells_keep (blk_cell (new_at (W := wr) (.cells #[.int .i64 q0, .int .i64 q1, .int .u32 q2] 56) rfl) 0) (below_of_grown HD1.out); clear hd))
        refine HR.out.mono ?_
        rintro e W' (⟨rfl, hJ', hT'⟩ | ⟨rfl, hJx'⟩)
        · have HJ' := Aside0.mk hJ'
          have HT' := Aside0.mk hT'
          clear hJ' hT' hy y0 y1 y2 xb xe1
          gi_wp2
          go_roundw
          case rel => exact ⟨k + 1, by first | rfl | simp, by omega, HJ', HT'⟩
          case measure => simp [intOf]; omega
        · have HJx' := Aside0.mk hJx'
          clear hJx' hy y0 y1 y2 xb xe1
          gi_wp2
          refine bodyPost_ret (results_none rfl _ _ _) rfl ?_
          exact ⟨⟨_, rfl⟩, .inr HJx'.out⟩
    · have hki : ¬ (k : Int) < (l.length : Int) := by omega
      gi_wp2
      go_end0
      exact ⟨⟨_, rfl⟩, .inl ⟨by have h := HJ.out; rw [show k = l.length by omega] at h; exact h, by have h := HT.out; rw [show k = l.length by omega] at h; exact h⟩⟩
end Go.Proofs.Ytfmpabdaadllaaa.PAll

/-
  watch.Turns.
-/
namespace Go.Proofs.Ytfmpabdaadllaaa.PAll
open Go.RowKit Go.Shelf Go.Proofs.YtfmpabdaadllaaaM Go.Proofs.YtfmpabdaadllaaaW.PrintWords Go.Proofs.YtfmpabdaadllaaaW.PrintLast
attribute [local go_sem] Oper.semAt_some
set_option linter.unusedVariables false
set_option linter.unusedSimpArgs false
section
variable {F : Fence} {nF : Nat} {P : Program} {ops : Array Oper} {rest : List Oper} {o : Oper} {a : Act} {Q : Exit → Act → World → Prop} {α : Type}
theorem R_appendIn (d : Kd α) {W : World} (base : Nat) (hgd : o.guard = none) (s x : Operand) (t e : TypeId) (z : Value) (bytes : Nat)
    (ho : o.op = .call { callee := .builtin .append, args := #[s, x], argTypes := #[t, t] })
    (ht : P.underlying t = some (.slice e)) (hinfo : (P.info? e).map (fun i => (i.zero, i.size, i.bytes)) = some (some z, d.sz, bytes)) (hz : z.cells.size = d.sz) (hs0 : 0 < d.sz) (hb0 : 0 < bytes)
    (v : Value) (xs : List α) (p : α) (cs : List Value) (ok okp : Nat → Prop) (hs : a.eval s = v) (hx : a.eval x = .slice (some ⟨W.heap.size, 0, none⟩) 1 1) (hp : d.M W base okp p cs) (hokp : ∀ k, okp k → ok k ∧ some k ≠ v.ownBlock) (hfresh : ∀ k, W.heap.size ≤ k → ok k)
    (HO : d.R e W base ok v xs) (hbase : base ≤ W.heap.size) (hl : (xs.length + 1) * bytes ≤ 140737488355328)
    (h : ∀ v1 w1, d.R e w1 base ok v1 (xs ++ [p]) → W.grownBy w1 v.ownBlock → (v1.ownBlock = v.ownBlock ∨ ∃ b, v1.ownBlock = some b ∧ W.heap.size ≤ b) → wpListIn F nF P ops Q rest (a.put o.dst v1) w1) :
    wpListIn F nF P ops Q (o :: rest) a (W.alloc (.cells cs.toArray e)) := by
  obtain ⟨h0, inner, hown, hr⟩ := HO
  obtain ⟨i0, hi, hzz⟩ := Option.map_eq_some_iff.1 hinfo
  simp only [Prod.mk.injEq] at hzz
  obtain ⟨hz0, hz1, hz2⟩ := hzz
  have hcs := d.K_len (d.K_of_M hp)
  have hlen : xs.length + 1 ≤ 140737488355328 := Nat.le_trans (Nat.le_mul_of_pos_right _ hb0) hl
  refine wpListIn_append_own_at (W.alloc (.cells cs.toArray e)) hgd s x t ho base e i0 z d.sz bytes ht hi hz0 hz1 hz2 hz hs0 v xs.length inner hs (hown.alloc _) ⟨W.heap.size, 0, none⟩ 1 1 cs hx (by rw [hcs]; simp)
    (by simpa using World.news_of_block (cs := cs.toArray) (t := e) (fr := (0, 0)) (heap_alloc_new W (.cells cs.toArray e))) (d.K_one (d.K_of_M hp)) (by simp only [maxLen]; omega) hl (by simp; omega) ?_
  intro v1 w1 hown1 hg _ hat
  have hg1 : W.grownBy w1 v.ownBlock := World.grownBy.trans (World.grownBy_alloc W _ _) hg
  have hat1 : v1.ownBlock = v.ownBlock ∨ ∃ b, v1.ownBlock = some b ∧ W.heap.size ≤ b := by
    rcases hat with hat | hat
    · exact .inl hat
    · exact .inr ⟨_, hat, by simp⟩
  exact h v1 w1 (Kd.R_appended h0 hr hp hokp hfresh hown1 hg1 hat1) hg1 hat1
end
theorem R_own {α : Type} {d : Kd α} {e base : Nat} {ok : Nat → Prop} {A B : World} {v : Value} {xs : List α} {row : Option Nat} (h : d.R e A base ok v xs) (hg : A.grownBy B row) (hr : ∀ r, row = some r → ∃ o : Obj, A.heap[r]? = some o ∧ o.isCells = false) : d.R e B base ok v xs :=
  Kd.R_mono (Kd.R_move (Kd.R_bound h) (fun k hk => hg.block k hk.2.2.1 (fun e => by
    obtain ⟨o, ho, hc⟩ := hr k e.symm
    obtain ⟨_, _, _, q, _, cells, h5⟩ := hk
    rw [h5] at ho; cases ho; cases hc))) (fun _ hk => hk.1)
theorem R_grown_m {α : Type} {d : Kd α} {e base m : Nat} {ok : Nat → Prop} {A B : World} {v : Value} {xs : List α} (h : d.R e A base ok v xs) (hg : A.grownBy B (some m)) (hm : m < base) : d.R e B base ok v xs :=
  Kd.R_mono (Kd.R_move (Kd.R_bound h) (fun k hk => hg.block k hk.2.2.1 (fun e => by cases e; have := Kd.R_base h; have := hk.2.1; omega))) (fun _ hk => hk.1)
def fallsL (Wn : List S75) (l : List S56) (i : Nat) : List Int := (List.range i).map (fallsE Wn l)
theorem fallsL_succ (Wn : List S75) (l : List S56) (i : Nat) : fallsL Wn l (i + 1) = fallsL Wn l i ++ [fallsE Wn l i] := by unfold fallsL; rw [List.range_succ, List.map_append]; rfl
theorem fallsL_len (Wn : List S75) (l : List S56) (i : Nat) : (fallsL Wn l i).length = i := by unfold fallsL; simp
/-- What Turns tells. -/
def turnsE (P : List S73) (Wn : List S75) (Cn : List S46) (l : List S56) : List Int := if chkE P Wn Cn = 0 then fallsL Wn l l.length else []
set_option maxRecDepth 100000 in
set_option maxHeartbeats 8000000 in
theorem turns_good (P : List S73) (Wn : List S75) (Cn : List S46) (l : List S56) (A0 : Option Addr) (c0 : Nat) (A1 : Option Addr) (c1 : Nat) (A2 : Option Addr) (c2 : Nat) (A : Option Addr) (c : Nat) (w : World) (h0 : Kd.C k73 w A0 P.length P) (hc0 : P.length ≤ c0) (h1 : Kd.C k75 w A1 Wn.length Wn) (hc1 : Wn.length ≤ c1) (h2 : Kd.C k46 w A2 Cn.length Cn) (hc2 : Cn.length ≤ c2) (hl : Kd.C k56 w A l.length l) (hcl : l.length ≤ c) (hlen : l.length ≤ 1000000000000) (he : chkE P Wn Cn = 0) :
    Calls Try.prog 17 #[.agg #[.slice A0 P.length c0, .slice A1 Wn.length c1, .slice A2 Cn.length c2], .slice A l.length c] w fun e W' => ∃ v, e = .returned (.tuple #[v, .int .i64 0]) ∧ (Kd.int .i64).R 3 W' w.heap.size (fun _ => True) v (fallsL Wn l l.length) ∧ w.grownBy W' none := by
  have hA := World.grownBy_alloc w (.cells #[.slice A0 P.length c0, .slice A1 Wn.length c1, .slice A2 Cn.length c2] 26) none
  have hN := (snew_calls P Wn Cn A0 c0 A1 c1 A2 c2 _ (Kd.C_below h0 (below_of_grown hA)) hc0 (Kd.C_below h1 (below_of_grown hA)) hc1 (Kd.C_below h2 (below_of_grown hA)) hc2).1 he
  have HN := Aside0.mk hN
  have HA := Aside0.mk hA
  have HW := Aside0.mk (chkE_ok he).wok
  have HL := Aside0.mk hl
  have HLEN := Aside0.mk hlen
  clear h0 h1 h2 hA hN hl he hlen
  refine (callsIn_wide (n := 6)).1 ?_
  refine callsIn_of_wp_marks Try.func17 rfl trivial ?_ rfl
  simp only [Try.ntmps17, List.size_toArray, List.length_cons, List.length_nil, Nat.reduceAdd, Nat.reduceSub, Array.replicate_succ, Array.replicate_zero, List.push_toArray, List.append_toArray, List.nil_append, List.cons_append]
  gi_wp2_with (first
    | (refine ⟨trivial, ?_⟩; gi_at_call 32; refine (callsIn_wide.2 HN.out).mono ?_; rintro e W1 ⟨gs, hgs, rfl, hS, hg⟩; have HS := Aside0.mk hS; have HG1 := Aside0.mk (HA.out.trans hg); have HGS := Aside0.mk hgs; clear hS hg hgs)
    | (refine ⟨trivial, ?_⟩; gi_at_call 33; refine (callsIn_wide.2 (turns_calls gs A l.length c _)).mono ?_; rintro e W2 ⟨rfl, rfl⟩))
  obtain ⟨Wr, hWr⟩ : ∃ Wr, Wr = ((W1.alloc (.cells #[.slice none 0 0] 38)).alloc (.cells #[.pointer (some ⟨gs, 0, none⟩)] 60)).alloc (.cells #[.slice A l.length c] 27) := ⟨_, rfl⟩
  obtain ⟨bo, hbo⟩ : ∃ bo, bo = W1.heap.size := ⟨_, rfl⟩
  have hsz : Wr.heap.size = bo + 3 := by rw [hWr, hbo]; simp
  have hGr : W1.grownBy Wr none := by rw [hWr]; exact ((World.grownBy_alloc W1 _ none).trans (World.grownBy_alloc _ _ none)).trans (World.grownBy_alloc _ _ none)
  have q0 : Wr.heap[bo]? = some (.cells #[.slice none 0 0] 38 (0, 0)) := by rw [hWr, hbo]; exact blk_alloc (blk_alloc (new_at _ rfl) _) _
  have qx : BoxS Wr (bo + 1) gs := by unfold BoxS; rw [hWr, hbo]; exact blk_alloc (new_at _ (by simp)) _
  have ql : BoxL Wr (bo + 1 + 1) A l.length c := by unfold BoxL; rw [hWr, hbo]; exact new_at _ (by simp)
  have hgl : gs < bo := by rw [hbo]; exact HS.out.lt
  have hgw : w.heap.size ≤ gs := by have := HGS.out; have := HA.out.size; omega
  rw [← hWr, ← hbo]
  have HSR := Aside0.mk (HS.out.grown hGr)
  have HGR := Aside0.mk (HG1.out.trans hGr)
  have HZ := Aside0.mk (And.intro hsz (And.intro hgl hgw))
  clear hWr hbo hGr
  refine wpIn_rangeFunc_G (F := Fence.wide) (n := 6) rfl (by decide) (gf := 40) (lb := #[.pointer (some ⟨bo + 1 + 1, 0, none⟩), .pointer (some ⟨bo + 1, 0, none⟩)]) rfl trivial (enters_of Try.func40 (by kernel_rfl) rfl)
    (turns_seq 5 (by decide) w (bo + 1 + 1) (bo + 1) gs (by omega) (by omega) hgw Wn HW.out A c l HL.out) (fun _ => rfl)
    (fun i W => i ≤ l.length ∧ (∃ v, W.heap[bo]? = some (.cells #[v] 38 (0, 0)) ∧ (Kd.int .i64).R 3 W (bo + 3) (fun _ => True) v (fallsL Wn l i)) ∧ w.grownBy W none)
    (fun _ _ => False) ?hI (fun cd A B row h _ _ => h.elim) ?hTI (fun A B h k hk1 hlt => h.block k hlt (fun e => by cases e; omega)) ?hIK (fun cd A B h _ => h.elim)
    ⟨Nat.zero_le _, ⟨_, q0, Kd.R_nil _ _ _ _ _⟩, HGR.out⟩ ⟨qx, ql, HSR.out, HGR.out⟩ ?round ?done (fun D cd W _ h _ => h.elim)
  case hI =>
    rintro i A B row ⟨a0, ⟨v, a1, a2⟩, a3⟩ hg hr
    have hr' : ∀ r, row = some r → ∃ o : Obj, A.heap[r]? = some o ∧ o.isCells = false := fun r e => (hr r e).2
    exact ⟨a0, ⟨v, cells_own a1 hg hr', R_own a2 hg hr'⟩, a3.andThen hg (fun j e => .inl (by have := (hr j e).1; omega))⟩
  case hTI =>
    rintro i A B row ⟨a1, a2, a3, a4⟩ hg hr
    have hr' : ∀ r, row = some r → ∃ o : Obj, A.heap[r]? = some o ∧ o.isCells = false := fun r e => (hr r e).2
    exact ⟨cells_own a1 hg hr', cells_own a2 hg hr', a3.own hg hr', a4.andThen hg (fun j e => .inl (by have := (hr j e).1; omega))⟩
  case hIK =>
    rintro i A B ⟨a0, ⟨v, a1, a2⟩, a3⟩ hg
    exact ⟨a0, ⟨v, blk_grown a1 hg (by simp; omega), R_grown_m a2 hg (by omega)⟩, a3.andThen hg (fun j e => by cases e; exact .inl hgw)⟩
  case done =>
    rintro D i W hD hi hTI ⟨a0, ⟨v, a1, a2⟩, a3⟩ hK
    subst hi
    obtain ⟨A8, c8, rfl, _, _⟩ := Kd.R_reads a2
    have x1 := (blk_cell a1 0).trans rfl
    have HI := Aside0.mk (And.intro a1 (And.intro a2 a3))
    have HK := Aside0.mk hK
    clear a1 a2 a3 hTI hK q0 qx ql
    gi_wp2
    refine ⟨by simp, .inl ⟨_, _, rfl, run_takeDeferred HK.out, ?_⟩⟩
    have hr : ∀ r, some D = some r → ∃ o : Obj, W.heap[r]? = some o ∧ o.isCells = false := fun r e => by cases e; exact ⟨_, HK.out, rfl⟩
    have hp := grownBy_putObj' W D (.deferred none)
    exact ⟨.tuple #[.slice A8 (fallsL Wn l l.length).length c8, .int .i64 0], by simp [results, Try.f17, go_sem], _, rfl, Kd.R_lower (R_own HI.out.2.1 hp hr) (by omega), HI.out.2.2.andThen hp (fun j e => by cases e; exact .inl (by omega))⟩
  case round =>
    rintro ll i x i' W hll ⟨a0, ⟨v, a1, a2⟩, a3⟩ hTI ⟨hil, rfl, rfl⟩
    simp only
    obtain ⟨fe, hfe⟩ : ∃ fe, fe = fallsE Wn l i := ⟨_, rfl⟩
    obtain ⟨be, hbe⟩ : ∃ be, be = behE Wn l i := ⟨_, rfl⟩
    rw [← hfe, ← hbe]
    have HFE := Aside0.mk hfe
    have HI := Aside0.mk (And.intro a1 (And.intro a2 a3))
    have HT := Aside0.mk hTI
    obtain ⟨A8, c8, rfl, hq8, _⟩ := Kd.R_reads a2
    clear a1 a2 a3 hTI hfe hbe q0 qx ql
    gi_wp2
    refine ⟨KeepsFrom.refl _ _, fun W2 hg2 hob => ?_⟩
    obtain ⟨o2, ho2, hc2⟩ := hob
    have hr2 : ∀ r, some ll = some r → ∃ o : Obj, W.heap[r]? = some o ∧ o.isCells = false := fun r e => by cases e; exact ⟨o2, ho2, hc2⟩
    have p1 := cells_own HI.out.1 hg2 hr2
    have p2 := R_own HI.out.2.1 hg2 hr2
    have p3 : w.grownBy W2 none := HI.out.2.2.andThen hg2 (fun j e => by cases e; exact .inl (by omega))
    have t1 : BoxS W2 (bo + 1) gs := cells_own HT.out.1 hg2 hr2
    have t2 : BoxL W2 (bo + 1 + 1) A l.length c := cells_own HT.out.2.1 hg2 hr2
    have t3 := HT.out.2.2.1.own hg2 hr2
    have r0 : W2.cell? ⟨bo, 0, none⟩ = some (.slice A8 (fallsL Wn l i).length c8) := (blk_cell p1 0).trans rfl
    have HP := Aside0.mk (And.intro p1 (And.intro p2 p3))
    have HT2 := Aside0.mk (And.intro t1 (And.intro t2 t3))
    have hB2 : bo + 3 ≤ W2.heap.size := by have := (Array.getElem?_eq_some_iff.1 ho2).1; have := hg2.size; omega
    have HB2 := Aside0.mk hB2
    clear hg2 hr2 p1 p2 p3 t1 t2 t3 ho2 hB2
    gi_wp2_with (gi_at_builtin; go_loud (refine R_appendIn (Kd.int .i64) (W := W2) (bo + 3) rfl (.tmp 23) (.tmp 25) 38 3 (.int .i64 0) 8 rfl Try.underlying38 info3 rfl (by decide) (by decide) (.slice A8 (fallsL Wn l i).length c8) (fallsL Wn l i) fe [.int .i64 fe] (fun _ => True) (fun _ => False) rfl rfl (by rfl) (fun _ h => h.elim) (fun _ _ => trivial) HP.out.2.1 HB2.out ?hln ?_); (case hln => rw [fallsL_len]; have := HLEN.out; omega); intro v1 W3 hR3 hg3 hat3; obtain ⟨A9, c9, rfl, _, _⟩ := Kd.R_reads hR3; have hne : ∀ b, b < bo + 3 → some b ≠ (Value.slice A8 (fallsL Wn l i).length c8).ownBlock := (fun b hb e => by have := Kd.R_base HP.out.2.1 b e.symm; omega); have e3 := blk_grown HP.out.1 hg3 (hne bo (by omega)); have y30 := (blk_cell e3 0).trans rfl; have z30 := blk_frozen e3 0; have E3 := Aside0.mk e3; have HR3 := Aside0.mk hR3; have HG3 := Aside0.mk hg3; have HNE := Aside0.mk hne; clear hR3 hg3 hat3 e3 hne)
    have hrow : ∀ (j : Nat) (o : Obj), (Value.slice A8 (fallsL Wn l i).length c8).ownBlock = some j → W2.heap[j]? = some o → o.isCells = true := fun j o hj ho => by
      obtain ⟨_, _, _, q, _, cells, h5⟩ := (Kd.R_bound HP.out.2.1).1 j hj
      rw [h5] at ho; cases ho; rfl
    have hs3 := HT2.out.2.2.row HG3.out (fun r e => by have := Kd.R_base HP.out.2.1 r e; omega)
    have hR4 := HR3.out
    rw [show (fallsL Wn l i ++ [fe]).length = (fallsL Wn l i).length + 1 by simp] at hR4
    have hgf := (HP.out.2.2.andThen HG3.out (fun j e => .inl (by have := Kd.R_base HP.out.2.1 j e; omega)))
    have hbx := blk_far E3.out (p := ⟨bo, 0, none⟩)
    refine ⟨((KeepsOthers.of_grownBy HG3.out hrow).trans (KeepsOthers.setCell _ _ _)).from _, ⟨by omega, ⟨_, blk_put E3.out 0 _ rfl, ?_⟩, hgf.andThen (gb_set _ _ _ _) (fun j e => by cases e; exact .inl (by omega))⟩, ?_⟩
    · rw [fallsL_succ, ← HFE.out]
      exact Kd.R_mono (Kd.R_far (p := ⟨bo, 0, none⟩) (Kd.R_bound hR4) (fun k hk e => by have h5 := hk.2.1; have h6 : k = bo := e; omega) _) (fun _ _ => trivial)
    · have hgs2 := gb_set W3 bo 0 (.slice A9 ((fallsL Wn l i).length + 1) c9)
      have hne2 : ∀ b, b ≠ bo → some b ≠ some bo := fun b h e => h (Option.some.inj e)
      refine ⟨blk_grown (blk_grown HT2.out.1 HG3.out (HNE.out _ (by omega))) hgs2 (hne2 _ (by omega)), blk_grown (blk_grown HT2.out.2.1 HG3.out (HNE.out _ (by omega))) hgs2 (hne2 _ (by omega)), ?_, hgf.andThen hgs2 (fun j e => by cases e; exact .inl (by omega))⟩
      exact hs3.row hgs2 (fun r e => by cases e; omega)
end Go.Proofs.Ytfmpabdaadllaaa.PAll

/-
  watch.Turns, in the printed form.
-/
namespace Go.Proofs.Ytfmpabdaadllaaa.PAll
open Go.RowKit Go.Shelf Go.Proofs.YtfmpabdaadllaaaM Go.Proofs.YtfmpabdaadllaaaW.PrintWords Go.Proofs.YtfmpabdaadllaaaW.PrintLast
set_option linter.unusedVariables false
set_option linter.unusedSimpArgs false
set_option maxHeartbeats 4000000 in
theorem turns_bad (P : List S73) (Wn : List S75) (Cn : List S46) (A0 : Option Addr) (c0 : Nat) (A1 : Option Addr) (c1 : Nat) (A2 : Option Addr) (c2 : Nat) (A : Option Addr) (n c : Nat) (w : World) (h0 : Kd.C k73 w A0 P.length P) (hc0 : P.length ≤ c0) (h1 : Kd.C k75 w A1 Wn.length Wn) (hc1 : Wn.length ≤ c1) (h2 : Kd.C k46 w A2 Cn.length Cn) (hc2 : Cn.length ≤ c2) (he : chkE P Wn Cn ≠ 0) :
    Calls Try.prog 17 #[.agg #[.slice A0 P.length c0, .slice A1 Wn.length c1, .slice A2 Cn.length c2], .slice A n c] w fun e W' => e = .returned (.tuple #[.slice none 0 0, .int .i64 (chkE P Wn Cn)]) ∧ w.grownBy W' none := by
  have hA := World.grownBy_alloc w (.cells #[.slice A0 P.length c0, .slice A1 Wn.length c1, .slice A2 Cn.length c2] 26) none
  have hN := (snew_calls P Wn Cn A0 c0 A1 c1 A2 c2 _ (Kd.C_below h0 (below_of_grown hA)) hc0 (Kd.C_below h1 (below_of_grown hA)) hc1 (Kd.C_below h2 (below_of_grown hA)) hc2).2 he
  obtain ⟨E, hE⟩ : ∃ E, E = chkE P Wn Cn := ⟨_, rfl⟩
  rw [← hE] at hN he ⊢
  have HN := Aside0.mk hN
  have HA := Aside0.mk hA
  have e0b : (E != 0) = true := by rw [bne_iff_ne]; exact he
  clear h0 h1 h2 hA hN hE he
  go_enter Try.func17, Try.ntmps17
  go_wp2_with (go_at_call 32; refine HN.out.mono ?_; rintro e W1 ⟨rfl, hg⟩; have HG1 := Aside0.mk (HA.out.trans hg); clear hg)
  go_ret2
  exact ⟨rfl, HG1.out⟩
/-- What Turns tells of scripts that are not too long. -/
def watch_Turns.f (k : Nat) (l0_0 : List S73) (l0_1 : List S75) (l0_2 : List S46) (l1 : List S56) : Option (List Int × Int) := if l1.length ≤ 1000000 then some (turnsE l0_0 l0_1 l0_2 l1, chkE l0_0 l0_1 l0_2) else none
theorem watch_Turns.mono : ∀ a0 a1 a2 a3 k, LeO (watch_Turns.f k a0 a1 a2 a3) (watch_Turns.f (k + 1) a0 a1 a2 a3) := fun _ _ _ _ _ => LeO.refl _
theorem watch_Turns.calls (k : Nat) (A0_0 : Option Addr) (c0_0 : Nat) (l0_0 : List (S73)) (A0_1 : Option Addr) (c0_1 : Nat) (l0_1 : List (S75)) (A0_2 : Option Addr) (c0_2 : Nat) (l0_2 : List (S46)) (A1 : Option Addr) (c1 : Nat) (l1 : List (S56)) (r1 : List Int) (r2 : Int) (w : World) (hr0_0 : Kd.C k73 w A0_0 l0_0.length l0_0) (hc0_0 : l0_0.length ≤ c0_0) (hr0_1 : Kd.C k75 w A0_1 l0_1.length l0_1) (hc0_1 : l0_1.length ≤ c0_1) (hr0_2 : Kd.C k46 w A0_2 l0_2.length l0_2) (hc0_2 : l0_2.length ≤ c0_2) (hr1 : Kd.C k56 w A1 l1.length l1) (hc1 : l1.length ≤ c1) (h : watch_Turns.f k l0_0 l0_1 l0_2 l1 = some (r1, r2)) :
    Calls Try.prog 17 #[.agg #[.slice A0_0 l0_0.length c0_0, .slice A0_1 l0_1.length c0_1, .slice A0_2 l0_2.length c0_2], .slice A1 l1.length c1] w fun e w' => ∃ v0_ : Value, e = .returned (.tuple #[v0_, .int .i64 r2]) ∧ Kd.R (Kd.int .i64) 3 w' w.heap.size (fun _ => True) v0_ r1 ∧ Below w.heap.size w w' := by
  unfold watch_Turns.f at h
  by_cases hl : l1.length ≤ 1000000
  · rw [if_pos hl] at h
    obtain ⟨rfl, rfl⟩ := Prod.mk.inj (Option.some.inj h)
    by_cases he : chkE l0_0 l0_1 l0_2 = 0
    · refine (turns_good l0_0 l0_1 l0_2 l1 A0_0 c0_0 A0_1 c0_1 A0_2 c0_2 A1 c1 w hr0_0 hc0_0 hr0_1 hc0_1 hr0_2 hc0_2 hr1 hc1 (by omega) he).mono ?_
      rintro e W ⟨v, rfl, h1, h2⟩
      exact ⟨v, by rw [he], by unfold turnsE; rw [if_pos he]; exact h1, below_of_grown h2⟩
    · refine (turns_bad l0_0 l0_1 l0_2 A0_0 c0_0 A0_1 c0_1 A0_2 c0_2 A1 l1.length c1 w hr0_0 hc0_0 hr0_1 hc0_1 hr0_2 hc0_2 he).mono ?_
      rintro e W ⟨rfl, h2⟩
      exact ⟨_, rfl, by unfold turnsE; rw [if_neg he]; exact Kd.R_nil _ _ _ _ _, below_of_grown h2⟩
  · rw [if_neg hl] at h; cases h
end Go.Proofs.Ytfmpabdaadllaaa.PAll

/-
  An append in a plain walk; the channels that touch a partition.
-/
namespace Go.Proofs.Ytfmpabdaadllaaa.PAll
open Go.RowKit Go.Shelf Go.Proofs.YtfmpabdaadllaaaM Go.Proofs.YtfmpabdaadllaaaW.PrintWords Go.Proofs.YtfmpabdaadllaaaW.PrintLast
set_option linter.unusedVariables false
set_option linter.unusedSimpArgs false
section
variable {P : Program} {ops : Array Oper} {rest : List Oper} {o : Oper} {a : Act} {Q : Exit → Act → World → Prop} {α : Type}
/-- An append to a row of the call's own, in a plain walk. -/
theorem R_appendP (d : Kd α) {W : World} (base : Nat) (hgd : o.guard = none) (s x : Operand) (t e : TypeId) (z : Value) (bytes : Nat)
    (ho : o.op = .call { callee := .builtin .append, args := #[s, x], argTypes := #[t, t] })
    (ht : P.underlying t = some (.slice e)) (hinfo : (P.info? e).map (fun i => (i.zero, i.size, i.bytes)) = some (some z, d.sz, bytes)) (hz : z.cells.size = d.sz) (hs0 : 0 < d.sz) (hb0 : 0 < bytes)
    (v : Value) (xs : List α) (p : α) (cs : List Value) (ok okp : Nat → Prop) (hs : a.eval s = v) (hx : a.eval x = .slice (some ⟨W.heap.size, 0, none⟩) 1 1) (hp : d.M W base okp p cs) (hokp : ∀ k, okp k → ok k ∧ some k ≠ v.ownBlock) (hfresh : ∀ k, W.heap.size ≤ k → ok k)
    (HO : d.R e W base ok v xs) (hbase : base ≤ W.heap.size) (hl : (xs.length + 1) * bytes ≤ 140737488355328)
    (h : ∀ v1 w1, d.R e w1 base ok v1 (xs ++ [p]) → W.grownBy w1 v.ownBlock → wpList P ops Q rest (a.put o.dst v1) w1) :
    wpList P ops Q (o :: rest) a (W.alloc (.cells cs.toArray e)) := by
  obtain ⟨h0, inner, hown, hr⟩ := HO
  obtain ⟨i0, hi, hzz⟩ := Option.map_eq_some_iff.1 hinfo
  simp only [Prod.mk.injEq] at hzz
  obtain ⟨hz0, hz1, hz2⟩ := hzz
  have hcs := d.K_len (d.K_of_M hp)
  have hlen : xs.length + 1 ≤ 140737488355328 := Nat.le_trans (Nat.le_mul_of_pos_right _ hb0) hl
  refine wpList_append_own_at (w := W.alloc (.cells cs.toArray e)) hgd s x t ho base e i0 z d.sz bytes ht hi hz0 hz1 hz2 hz hs0 v xs.length inner hs (hown.alloc _) ⟨W.heap.size, 0, none⟩ 1 1 cs hx (by rw [hcs]; simp)
    (by simpa using World.news_of_block (cs := cs.toArray) (t := e) (fr := (0, 0)) (heap_alloc_new W (.cells cs.toArray e))) (d.K_one (d.K_of_M hp)) (by simp only [maxLen]; omega) hl (by simp; omega) ?_
  intro v1 w1 hown1 hg _ hat
  have hg1 : W.grownBy w1 v.ownBlock := World.grownBy.trans (World.grownBy_alloc W _ _) hg
  have hat1 : v1.ownBlock = v.ownBlock ∨ ∃ b, v1.ownBlock = some b ∧ W.heap.size ≤ b := by
    rcases hat with hat | hat
    · exact .inl hat
    · exact .inr ⟨_, hat, by simp⟩
  exact h v1 w1 (Kd.R_appended h0 hr hp hokp hfresh hown1 hg1 hat1) hg1
end
def tchB (Cn : List S46) (part : Int) (k : Nat) : Bool := (Cn.getD k z46).f0 == part || (Cn.getD k z46).f1 == part
def tchL (Cn : List S46) (part : Int) : Nat → List Int
  | 0 => []
  | i + 1 => tchL Cn part i ++ if tchB Cn part i = true then [(i : Int)] else []
theorem tchL_len (Cn : List S46) (part : Int) : ∀ i, (tchL Cn part i).length ≤ i
  | 0 => Nat.le_refl _
  | i + 1 => by
    have := tchL_len Cn part i
    unfold tchL
    split <;> simp <;> omega
def touchE (P : List S73) (Wn : List S75) (Cn : List S46) (part : Int) : List Int := if begE P Wn Cn part = 0 then tchL Cn part Cn.length else []
end Go.Proofs.Ytfmpabdaadllaaa.PAll

/-
  watch.Cut.
-/
namespace Go.Proofs.Ytfmpabdaadllaaa.PAll
open Go.RowKit Go.Shelf Go.Proofs.YtfmpabdaadllaaaM Go.Proofs.YtfmpabdaadllaaaW.PrintWords Go.Proofs.YtfmpabdaadllaaaW.PrintLast
set_option linter.unusedVariables false
set_option linter.unusedSimpArgs false
section
variable {P : Program} {ops : Array Oper} {rest : List Oper} {o : Oper} {a : Act} {Q : Exit → Act → World → Prop} {W : World}
/-- A call of a function value that is known to be entered. -/
theorem ev_callval (hgd : o.guard = none) (x : Operand) (as_ : Array Operand) (ts : Array TypeId) (ho : o.op = .call { callee := .value x, args := as_, argTypes := ts }) {f : FuncId} {cap args : Array Value} (hx : a.eval x = .func (.func f) #[] cap)
    (hargs : as_.map a.eval = args) (henter : ∀ args W, (callFunc f args).run P W = .ok (.enter f args) W)
    (h : Calls P f (args ++ cap) W fun e W' => ∃ v, e = .returned v ∧ wpList P ops Q rest (a.put o.dst v) W') : wpList P ops Q (o :: rest) a W := by
  refine wpList_plain hgd fun K hK => ?_
  have hrun : (execOp a.eval o).run P W = .ok (.enter f (args ++ cap)) W := by
    unfold execOp
    simp [ho, resolve, Deferred.ofValue, invoke, hx, hargs, henter]
  unfold Oper.wp
  rw [hrun, Oper.upon_enter]
  refine h.mono fun e w'' hh => ?_
  obtain ⟨v, rfl, hv⟩ := hh
  exact hK _ _ hv
theorem enters_any {f : FuncId} {fn : Func} (hf : P.funcs[f]? = some fn) (hname : (fn.name == "runtime.NumGoroutine") = false) (hb : fn.body.isSome = true) : ∀ args W, (callFunc f args).run P W = .ok (.enter f args) W := by
  intro args W
  have h1 : fn.name ≠ "runtime.NumGoroutine" := by simpa using hname
  obtain ⟨c, hc⟩ := Option.isSome_iff_exists.1 hb
  simp [callFunc, hf, h1, hc]
end
set_option maxHeartbeats 2000000 in
/-- Cut's closure. -/
theorem keep_calls (bto bp : Nat) (A : Option Addr) (c : Nat) (L : List Int) (part : Int) (k : Nat) (hk : k < L.length) (W : World) (hto : W.heap[bto]? = some (.cells #[.slice A L.length c] 38 (0, 0))) (hp : W.heap[bp]? = some (.cells #[.int .i64 part] 3 (0, 0))) (hC : Kd.C (Kd.int .i64) W A L.length L) :
    Calls Try.prog 29 #[.int .i64 (k : Int), .pointer (some ⟨bto, 0, none⟩), .pointer (some ⟨bp, 0, none⟩)] W fun e W' => e = .returned (.bool (L.getD k 0 == -1 || L.getD k 0 == part)) ∧ Drawn0 W W' := by
  have hk0 : (0 : Int) ≤ (k : Int) := by omega
  have hki : (k : Int) < (L.length : Int) := by omega
  obtain ⟨ad, eA, y0⟩ := Kd.at_int hC (k : Int) hk0 hki
  subst eA
  have x0 := (blk_cell hto 0).trans rfl
  have x1 := (blk_cell hp 0).trans rfl
  obtain ⟨x, hx⟩ : ∃ x, x = L.getD k 0 := ⟨_, rfl⟩
  have hr : rd L (k : Int) = x := by unfold rd; rw [Int.toNat_natCast, hx]
  rw [hr, Int.toNat_natCast] at y0
  rw [← hx]
  clear hto hp hC hx hr
  cases h1 : (x == -1)
  · cases h2 : (x == part)
    · go_enter Try.func29, Try.ntmps29
      go_wp2_with fail
      go_quiet (fail)
      go_wp2
      go_ret
      exact ⟨by first | rfl | simp, ⟨_, rfl⟩⟩
    · go_enter Try.func29, Try.ntmps29
      go_wp2_with fail
      go_quiet (fail)
      go_wp2
      go_ret
      exact ⟨by first | rfl | simp, ⟨_, rfl⟩⟩
  · go_enter Try.func29, Try.ntmps29
    go_wp2_with fail
    go_quiet (fail)
    go_wp2
    go_ret
    exact ⟨by first | rfl | simp, ⟨_, rfl⟩⟩
def cutL (kb : Nat → Bool) (l : List S56) : Nat → List S56
  | 0 => []
  | i + 1 => cutL kb l i ++ [if kb i = true then l.getD i z56 else ⟨0, 0, 0⟩]
theorem cutL_len (kb : Nat → Bool) (l : List S56) : ∀ i, (cutL kb l i).length = i
  | 0 => rfl
  | i + 1 => by unfold cutL; rw [List.length_append, cutL_len]; rfl
theorem size_set3 (W : World) (b : Nat) (x y z : Value) : (((W.setCell ⟨b, 0, none⟩ x).setCell ⟨b, 1, none⟩ y).setCell ⟨b, 2, none⟩ z).heap.size = W.heap.size := by simp [World.setCell]
theorem enters29 : ∀ args W, (callFunc 29 args).run Try.prog W = .ok (.enter 29 args) W := enters_any Try.func29 (by kernel_rfl) rfl
set_option maxRecDepth 100000 in
set_option maxHeartbeats 8000000 in
theorem kept_calls (bto bp : Nat) (kb : Nat → Bool) (l : List S56) (A : Option Addr) (c : Nat) (w : World) (hl : Kd.C k56 w A l.length l) (hlen : l.length ≤ 1000000)
    (hcall : ∀ k, k < l.length → ∀ W, w.grownBy W none → Calls Try.prog 29 #[.int .i64 (k : Int), .pointer (some ⟨bto, 0, none⟩), .pointer (some ⟨bp, 0, none⟩)] W fun e W' => e = .returned (.bool (kb k)) ∧ Drawn0 W W') :
    Calls Try.prog 28 #[.slice A l.length c, .func (.func 29) #[] #[.pointer (some ⟨bto, 0, none⟩), .pointer (some ⟨bp, 0, none⟩)]] w fun e W' => ∃ v, e = .returned v ∧ k56.R 56 W' w.heap.size (fun _ => True) v (cutL kb l l.length) ∧ w.grownBy W' none := by
  have HL := Aside0.mk hl
  have HLEN := Aside0.mk hlen
  have HCALL := Aside0.mk hcall
  clear hl hlen hcall
  go_enter Try.func28, Try.ntmps28
  go_wp2_with fail
  go_loopg [5, 10] (l.length + 1) (fun kq v5 v10 w' => ∃ i : Nat, v10 = .int .i64 (i : Int) ∧ Aside0 (i ≤ l.length ∧ i + kq = l.length + 1) ∧ Aside0 (k56.R 56 w' w.heap.size (fun _ => True) v5 (cutL kb l i)) ∧ Aside0 (w.grownBy w' none))
  case atStart => exact ⟨0, rfl, ⟨⟨Nat.zero_le _, by omega⟩⟩, ⟨Kd.R_nil _ _ _ _ _⟩, ⟨World.grownBy.refl _ _⟩⟩
  case round =>
    obtain ⟨i, rfl, HNN, HR, HG⟩ := hrel
    have hi0 : (0 : Int) ≤ (i : Int) := by omega
    obtain ⟨A8, c8, rfl, _, _⟩ := Kd.R_reads HR.out
    by_cases hi : i < l.length
    · have hii : (i : Int) < (l.length : Int) := by omega
      obtain ⟨k', rfl⟩ : ∃ k', gk = k' + 1 := ⟨gk - 1, by have := HNN.out.2; omega⟩
      have hw1' : IntKind.i64.wrap ((i : Int) + 1) = ((i + 1 : Nat) : Int) := (IntWalk.i64_left _).trans ((IntWalk.wrap64_in _ (by have := HLEN.out; omega)).trans (by omega))
      obtain ⟨ad, eA, y0, y1, y2⟩ := at_T56 HL.out (i : Int) hi0 hii
      subst eA
      obtain ⟨x, hx⟩ : ∃ x, x = l.getD i z56 := ⟨_, rfl⟩
      have hr : rd_T56 l (i : Int) = x := by unfold rd_T56; rw [Int.toNat_natCast, hx]
      rw [hr, Int.toNat_natCast] at y0 y1 y2
      replace y0 := cells_keep y0 (below_of_grown HG.out)
      replace y1 := cells_keep y1 (below_of_grown HG.out)
      replace y2 := cells_keep y2 (below_of_grown HG.out)
      have hS : cutL kb l (i + 1) = cutL kb l i ++ [if kb i = true then x else ⟨0, 0, 0⟩] := by rw [hx]; rfl
      have HLB := Aside0.mk (show ((cutL kb l i).length + 1) * 24 ≤ 140737488355328 by rw [cutL_len]; have := HLEN.out; omega)
      obtain ⟨q0, q1, q2⟩ := x
      simp only at y0 y1 y2 hS
      have hgA := World.grownBy_alloc wr (.cells #[.int .i64 q0, .int .i64 q1, .int .u32 q2] 56) none
      have HB := Aside0.mk (new_at (W := wr) (.cells #[.int .i64 q0, .int .i64 q1, .int .u32 q2] 56) rfl)
      have HR2 := Aside0.mk (Kd.R_below HR.out (below_of_grown hgA))
      have HG2 := Aside0.mk (HG.out.trans hgA)
      have hcl := HCALL.out i hi
      clear hr hx hgA
      cases hb : kb i
      · rw [hb] at hS hcl
        have HCL := Aside0.mk hcl
        have HS := Aside0.mk (show cutL kb l (i + 1) = cutL kb l i ++ [⟨0, 0, 0⟩] by rw [hS]; simp)
        clear hS hcl hb
        have HRB := Aside0.mk (Kd.R_below (Kd.R_mono (Kd.R_bound HR.out) (fun k hk => hk.2.2.1) : k56.R 56 wr w.heap.size (fun k => k < wr.heap.size) (.slice A8 (cutL kb l i).length c8) (cutL kb l i)) (below_of_grown (World.grownBy_alloc wr (.cells #[.int .i64 q0, .int .i64 q1, .int .u32 q2] 56) none)))
        go_wp2_with (first
          | ((with_reducible refine gate_dst (N := 17) rfl ?_); go_loud (refine ev_callval rfl (.tmp 15) _ _ rfl rfl (args := #[.int .i64 (i : Int)]) (by simp only [List.map_toArray, List.map_cons, List.map_nil]; rfl) enters29 ?_); refine (HCL.out _ HG2.out).mono ?_; rintro e W2 ⟨rfl, hd⟩; refine ⟨_, rfl, ?_⟩; have hg3 := gb_drawn hd; have hB3 := blk_grown HB.out hg3 (by simp); have z0 := (blk_cell hB3 0).trans rfl; have z1 := (blk_cell hB3 1).trans rfl; have z2 := (blk_cell hB3 2).trans rfl; have fz0 := blk_frozen hB3 0; have fz1 := blk_frozen hB3 1; have fz2 := blk_frozen hB3 2; (have hB4 := blk_put (blk_put (blk_put hB3 0 (.int .i64 0) rfl) 1 (.int .i64 0) rfl) 2 (.int .u32 0) rfl); (have u0 := (blk_cell hB4 0).trans rfl); (have u1 := (blk_cell hB4 1).trans rfl); (have u2 := (blk_cell hB4 2).trans rfl); (have hR3 := Kd.R_below HRB.out (below_of_grown hg3)); (have hR4 := Kd.R_far (p := ⟨wr.heap.size, 2, none⟩) (Kd.R_far (p := ⟨wr.heap.size, 1, none⟩) (Kd.R_far (p := ⟨wr.heap.size, 0, none⟩) hR3 (fun k hk e => by have h6 : k = wr.heap.size := e; omega) (.int .i64 0)) (fun k hk e => by have h6 : k = wr.heap.size := e; omega) (.int .i64 0)) (fun k hk e => by have h6 : k = wr.heap.size := e; omega) (.int .u32 0)); (have HR3 := Aside0.mk (Kd.R_mono hR4 (fun _ _ => trivial : ∀ k, _ → True))); (have hg2 := HG2.out.trans hg3); (have hwb : w.heap.size ≤ wr.heap.size := HG.out.size); (have HG3 := Aside0.mk (((hg2.andThen (gb_set _ wr.heap.size 0 (.int .i64 0)) (fun j e => by cases e; exact .inl hwb)).andThen (gb_set _ wr.heap.size 1 (.int .i64 0)) (fun j e => by cases e; exact .inl hwb)).andThen (gb_set _ wr.heap.size 2 (.int .u32 0)) (fun j e => by cases e; exact .inl hwb))); clear hd hg3 hB3 hB4 hR3 hR4 hg2 hwb)
          | ((with_reducible refine gate_builtin (b := .append) (xs := #[.tmp 20, .tmp 22]) rfl ?_); at_builtin; go_loud (refine R_appendP k56 (W := ((W2.setCell ⟨wr.heap.size, 0, none⟩ (.int .i64 0)).setCell ⟨wr.heap.size, 1, none⟩ (.int .i64 0)).setCell ⟨wr.heap.size, 2, none⟩ (.int .u32 0)) w.heap.size rfl (.tmp 20) (.tmp 22) 27 56 (.agg #[.int .i64 0, .int .i64 0, .int .u32 0]) 24 rfl Try.underlying27 info56 rfl (by decide) (by decide) (.slice A8 (cutL kb l i).length c8) (cutL kb l i) ⟨0, 0, 0⟩ [.int .i64 0, .int .i64 0, .int .u32 0] (fun _ => True) (fun _ => False) rfl (by rw [size_set3]; rfl) (k56_mkM _ _ _ ⟨0, 0, 0⟩) (fun _ h => h.elim) (fun _ _ => trivial) HR3.out HG3.out.size HLB.out ?_); intro v1 Wa hRa hga; rw [← HS.out] at hRa; obtain ⟨Tj, hTj⟩ : ∃ Tj, Tj = cutL kb l (i + 1) := ⟨_, rfl⟩; rw [← hTj] at hRa; obtain ⟨A1', c1', rfl, _, _⟩ := Kd.R_reads hRa; have HTJ := Aside0.mk hTj; have HRa := Aside0.mk hRa; have HGa := Aside0.mk (HG3.out.andThen hga (fun j e => .inl (Kd.R_base HR3.out j e))); clear hRa hga hTj))
        go_roundg k'
        case measure => omega
        case rel => exact ⟨i + 1, by first | rfl | simp, ⟨by have := HNN.out; omega⟩, ⟨by rw [← HTJ.out]; exact HRa.out⟩, HGa⟩
      · rw [hb] at hS hcl
        have HCL := Aside0.mk hcl
        have HS := Aside0.mk (show cutL kb l (i + 1) = cutL kb l i ++ [⟨q0, q1, q2⟩] by rw [hS]; simp)
        clear hS hcl hb
        go_wp2_with (first
          | ((with_reducible refine gate_dst (N := 17) rfl ?_); go_loud (refine ev_callval rfl (.tmp 15) _ _ rfl rfl (args := #[.int .i64 (i : Int)]) (by simp only [List.map_toArray, List.map_cons, List.map_nil]; rfl) enters29 ?_); refine (HCL.out _ HG2.out).mono ?_; rintro e W2 ⟨rfl, hd⟩; refine ⟨_, rfl, ?_⟩; have hg3 := gb_drawn hd; have hB3 := blk_grown HB.out hg3 (by simp); have z0 := (blk_cell hB3 0).trans rfl; have z1 := (blk_cell hB3 1).trans rfl; have z2 := (blk_cell hB3 2).trans rfl; have HR3 := Aside0.mk (Kd.R_below HR2.out (below_of_grown hg3)); have HG3 := Aside0.mk (HG2.out.trans hg3); clear hd hg3 hB3)
          | ((with_reducible refine gate_builtin (b := .append) (xs := #[.tmp 20, .tmp 22]) rfl ?_); at_builtin; go_loud (refine R_appendP k56 (W := W2) w.heap.size rfl (.tmp 20) (.tmp 22) 27 56 (.agg #[.int .i64 0, .int .i64 0, .int .u32 0]) 24 rfl Try.underlying27 info56 rfl (by decide) (by decide) (.slice A8 (cutL kb l i).length c8) (cutL kb l i) ⟨q0, q1, q2⟩ [.int .i64 q0, .int .i64 q1, .int .u32 q2] (fun _ => True) (fun _ => False) rfl rfl (k56_mkM _ _ _ ⟨q0, q1, q2⟩) (fun _ h => h.elim) (fun _ _ => trivial) HR3.out HG3.out.size HLB.out ?_); intro v1 Wa hRa hga; rw [← HS.out] at hRa; obtain ⟨Tj, hTj⟩ : ∃ Tj, Tj = cutL kb l (i + 1) := ⟨_, rfl⟩; rw [← hTj] at hRa; obtain ⟨A1', c1', rfl, _, _⟩ := Kd.R_reads hRa; have HTJ := Aside0.mk hTj; have HRa := Aside0.mk hRa; have HGa := Aside0.mk (HG3.out.andThen hga (fun j e => .inl (Kd.R_base HR3.out j e))); clear hRa hga hTj))
        go_roundg k'
        case measure => omega
        case rel => exact ⟨i + 1, by first | rfl | simp, ⟨by have := HNN.out; omega⟩, ⟨by rw [← HTJ.out]; exact HRa.out⟩, HGa⟩
    · have hii : ¬ (i : Int) < (l.length : Int) := by omega
      have HE := Aside0.mk (show cutL kb l i = cutL kb l l.length by rw [show i = l.length by have := HNN.out; omega])
      go_wp2
      go_ret
      exact ⟨_, rfl, by rw [← HE.out]; exact HR.out, HG.out⟩
theorem begE_chk {P : List S73} {Wn : List S75} {Cn : List S46} {part : Int} (h : begE P Wn Cn part = 0) : chkE P Wn Cn = 0 ∧ 0 ≤ part ∧ part < (P.length : Int) := by
  unfold begE at h
  by_cases e : chkE P Wn Cn = 0
  · rw [if_neg (fun h => h e)] at h
    by_cases hp : 0 ≤ part ∧ part < (P.length : Int)
    · exact ⟨e, hp⟩
    · rw [if_neg hp] at h; cases h
  · rw [if_pos e] at h; exact absurd h e
def keepB (Wn : List S75) (l : List S56) (part : Int) (k : Nat) : Bool := (fallsL Wn l l.length).getD k 0 == -1 || (fallsL Wn l l.length).getD k 0 == part
def cutE (P : List S73) (Wn : List S75) (Cn : List S46) (l : List S56) (part : Int) : List S56 := if begE P Wn Cn part = 0 then cutL (keepB Wn l part) l l.length else []
set_option maxRecDepth 100000 in
set_option maxHeartbeats 8000000 in
theorem cut_calls (P : List S73) (Wn : List S75) (Cn : List S46) (l : List S56) (part : Int) (A0 : Option Addr) (c0 : Nat) (A1 : Option Addr) (c1 : Nat) (A2 : Option Addr) (c2 : Nat) (A : Option Addr) (c : Nat) (w : World) (h0 : Kd.C k73 w A0 P.length P) (hc0 : P.length ≤ c0) (h1 : Kd.C k75 w A1 Wn.length Wn) (hc1 : Wn.length ≤ c1) (h2 : Kd.C k46 w A2 Cn.length Cn) (hc2 : Cn.length ≤ c2) (hl : Kd.C k56 w A l.length l) (hcl : l.length ≤ c) (hlen : l.length ≤ 1000000) :
    Calls Try.prog 12 #[.agg #[.slice A0 P.length c0, .slice A1 Wn.length c1, .slice A2 Cn.length c2], .slice A l.length c, .int .i64 part] w fun e W' => ∃ v, e = .returned (.tuple #[v, .int .i64 (begE P Wn Cn part)]) ∧ k56.R 56 W' w.heap.size (fun _ => True) v (cutE P Wn Cn l part) ∧ w.grownBy W' none := by
  have hA := (World.grownBy_alloc w (.cells #[.slice A0 P.length c0, .slice A1 Wn.length c1, .slice A2 Cn.length c2] 26) none).trans (World.grownBy_alloc _ (.cells #[.int .i64 part] 3) none)
  have hN := (begin_calls P Wn Cn part A0 c0 A1 c1 A2 c2 _ (Kd.C_below h0 (below_of_grown hA)) hc0 (Kd.C_below h1 (below_of_grown hA)) hc1 (Kd.C_below h2 (below_of_grown hA)) hc2)
  have HB := Aside0.mk (show ((w.alloc (.cells #[.slice A0 P.length c0, .slice A1 Wn.length c1, .slice A2 Cn.length c2] 26)).alloc (.cells #[.int .i64 part] 3)).heap[w.heap.size]? = some (.cells #[.slice A0 P.length c0, .slice A1 Wn.length c1, .slice A2 Cn.length c2] 26 (0, 0)) from blk_alloc (new_at _ rfl) _)
  have HBP := Aside0.mk (show ((w.alloc (.cells #[.slice A0 P.length c0, .slice A1 Wn.length c1, .slice A2 Cn.length c2] 26)).alloc (.cells #[.int .i64 part] 3)).heap[w.heap.size + 1]? = some (.cells #[.int .i64 part] 3 (0, 0)) from new_at _ (by simp))
  have HA := Aside0.mk hA
  have HC := Aside0.mk (And.intro h0 (And.intro h1 (And.intro h2 hl)))
  by_cases he : begE P Wn Cn part = 0
  · have HN := Aside0.mk (hN.1 he)
    have hchk := (begE_chk he).1
    have HTR := Aside0.mk (fun (W : World) (hW : w.grownBy W none) => turns_good P Wn Cn l A0 c0 A1 c1 A2 c2 A c W (Kd.C_below h0 (below_of_grown hW)) hc0 (Kd.C_below h1 (below_of_grown hW)) hc1 (Kd.C_below h2 (below_of_grown hW)) hc2 (Kd.C_below hl (below_of_grown hW)) hcl (by omega) hchk)
    have hT : cutE P Wn Cn l part = cutL (keepB Wn l part) l l.length := by unfold cutE; rw [if_pos he]
    rw [hT, he]
    have HLEN := Aside0.mk hlen
    clear h0 h1 h2 hl hA hN he hT hchk
    go_enter Try.func12, Try.ntmps12
    go_wp2_with (first
      | (go_at_call 28; refine (kept_calls W2.heap.size (w.heap.size + 1) (keepB Wn l part) l A c _ (Kd.C_below HC.out.2.2.2 (below_of_grown HG3.out)) HLEN.out (fun k hk W hW => (keep_calls W2.heap.size (w.heap.size + 1) A9 c9 (fallsL Wn l l.length) part k (by rw [fallsL_len]; exact hk) W (blk_grown HB3.out.1 hW (by simp)) (blk_grown HB3.out.2 hW (by simp)) (Kd.C_below HR3.out (below_of_grown hW))))).mono ?_; rintro e W4 ⟨v4, rfl, hR4, hg4⟩; have HR4 := Aside0.mk hR4; have HG4 := Aside0.mk hg4; clear hR4 hg4)
      | (go_at_call 17; refine (HTR.out _ HG1.out).mono ?_; rintro e W2 ⟨v2, rfl, hR2, hg2⟩; obtain ⟨A9, c9, rfl, _, hC9⟩ := Kd.R_reads hR2; have hga := World.grownBy_alloc W2 (.cells #[.slice A9 (fallsL Wn l l.length).length c9] 38) none; have HB3 := Aside0.mk (And.intro (new_at (W := W2) (.cells #[.slice A9 (fallsL Wn l l.length).length c9] 38) rfl) (blk_grown HBP1.out (hg2.trans hga) (by simp))); have HR3 := Aside0.mk (Kd.C_below hC9 (below_of_grown hga)); have HG3 := Aside0.mk ((HG1.out.trans hg2).trans hga); clear hR2 hg2 hC9 hga)
      | (go_at_call 27; refine HN.out.mono ?_; rintro e W1 ⟨gs, hgs, rfl, hS, hg⟩; (have hb1 := blk_grown HB.out hg (by simp)); have x10 := (blk_cell hb1 0).trans rfl; have x11 := (blk_cell hb1 1).trans rfl; have x12 := (blk_cell hb1 2).trans rfl; have HBP1 := Aside0.mk (blk_grown HBP.out hg (by simp)); have HG1 := Aside0.mk (HA.out.trans hg); clear hg hS hgs hb1))
    go_ret2
    exact ⟨v4, rfl, Kd.R_lower HR4.out (by have := HG3.out.size; exact this), HG3.out.trans HG4.out⟩
  · have hn := hN.2 he
    have hT : cutE P Wn Cn l part = [] := by unfold cutE; rw [if_neg he]
    rw [hT]
    obtain ⟨E, hE⟩ : ∃ E, E = begE P Wn Cn part := ⟨_, rfl⟩
    rw [← hE] at hn he ⊢
    have HN := Aside0.mk hn
    have e0b : (E != 0) = true := by rw [bne_iff_ne]; exact he
    clear h0 h1 h2 hl hA hN he hn hT hE
    go_enter Try.func12, Try.ntmps12
    go_wp2_with (go_at_call 27; refine HN.out.mono ?_; rintro e W1 ⟨rfl, hg⟩; have HG1 := Aside0.mk (HA.out.trans hg); clear hg)
    go_ret2
    exact ⟨_, rfl, Kd.R_nil _ _ _ _ _, HG1.out⟩
def watch_Cut.f (k : Nat) (l0_0 : List S73) (l0_1 : List S75) (l0_2 : List S46) (l1 : List S56) (a2 : Int) : Option (List S56 × Int) := if l1.length ≤ 1000000 then some (cutE l0_0 l0_1 l0_2 l1 a2, begE l0_0 l0_1 l0_2 a2) else none
theorem watch_Cut.mono : ∀ a0 a1 a2 a3 a4 k, LeO (watch_Cut.f k a0 a1 a2 a3 a4) (watch_Cut.f (k + 1) a0 a1 a2 a3 a4) := fun _ _ _ _ _ _ => LeO.refl _
theorem watch_Cut.calls (k : Nat) (A0_0 : Option Addr) (c0_0 : Nat) (l0_0 : List (S73)) (A0_1 : Option Addr) (c0_1 : Nat) (l0_1 : List (S75)) (A0_2 : Option Addr) (c0_2 : Nat) (l0_2 : List (S46)) (A1 : Option Addr) (c1 : Nat) (l1 : List (S56)) (a2 : Int) (r1 : List (S56)) (r2 : Int) (w : World) (hr0_0 : Kd.C k73 w A0_0 l0_0.length l0_0) (hc0_0 : l0_0.length ≤ c0_0) (hr0_1 : Kd.C k75 w A0_1 l0_1.length l0_1) (hc0_1 : l0_1.length ≤ c0_1) (hr0_2 : Kd.C k46 w A0_2 l0_2.length l0_2) (hc0_2 : l0_2.length ≤ c0_2) (hr1 : Kd.C k56 w A1 l1.length l1) (hc1 : l1.length ≤ c1) (h : watch_Cut.f k l0_0 l0_1 l0_2 l1 a2 = some (r1, r2)) :
    Calls Try.prog 12 #[.agg #[.slice A0_0 l0_0.length c0_0, .slice A0_1 l0_1.length c0_1, .slice A0_2 l0_2.length c0_2], .slice A1 l1.length c1, .int .i64 a2] w fun e w' => ∃ v0_ : Value, e = .returned (.tuple #[v0_, .int .i64 r2]) ∧ Kd.R k56 56 w' w.heap.size (fun _ => True) v0_ r1 ∧ Below w.heap.size w w' := by
  unfold watch_Cut.f at h
  by_cases hl : l1.length ≤ 1000000
  · rw [if_pos hl] at h
    obtain ⟨rfl, rfl⟩ := Prod.mk.inj (Option.some.inj h)
    exact (cut_calls l0_0 l0_1 l0_2 l1 a2 A0_0 c0_0 A0_1 c0_1 A0_2 c0_2 A1 c1 w hr0_0 hc0_0 hr0_1 hc0_1 hr0_2 hc0_2 hr1 hc1 hl).mono (fun e W ⟨v, a, b, d⟩ => ⟨v, a, b, below_of_grown d⟩)
  · rw [if_neg hl] at h; cases h
end Go.Proofs.Ytfmpabdaadllaaa.PAll

/-
  watch.Alike.
-/
namespace Go.Proofs.Ytfmpabdaadllaaa.PAll
open Go.RowKit Go.Shelf Go.Proofs.YtfmpabdaadllaaaM Go.Proofs.YtfmpabdaadllaaaW.PrintWords Go.Proofs.YtfmpabdaadllaaaW.PrintLast
attribute [local go_sem high] eqA56
set_option linter.unusedVariables false
set_option linter.unusedSimpArgs false
def eq56 (x y : S56) : Bool := x.f0 == y.f0 && (x.f1 == y.f1 && x.f2 == y.f2)
def badB (Wn : List S75) (l m : List S56) (part : Int) (k : Nat) : Bool := (((l.getD k z56).f0 == 1) != ((m.getD k z56).f0 == 1)) || (fallsE Wn l k == part && !eq56 (l.getD k z56) (m.getD k z56))
def sameB (Wn : List S75) (l m : List S56) (part : Int) : Bool := (l.length == m.length) && (List.range l.length).all (fun k => !badB Wn l m part k)
def alikeE (P : List S73) (Wn : List S75) (Cn : List S46) (l m : List S56) (part : Int) : Bool := if begE P Wn Cn part = 0 then sameB Wn l m part else false
theorem fallsL_getD {Wn : List S75} {l : List S56} {n i : Nat} (h : i < n) : (fallsL Wn l n).getD i 0 = fallsE Wn l i := by
  unfold fallsL
  rw [List.getD_eq_getElem?_getD, List.getElem?_map, List.getElem?_range h]
  rfl
theorem sameB_bad {Wn : List S75} {l m : List S56} {part : Int} {i : Nat} (hi : i < l.length) (h : badB Wn l m part i = true) : sameB Wn l m part = false := by
  unfold sameB
  have : (List.range l.length).all (fun k => !badB Wn l m part k) = false := by
    rw [List.all_eq_false]
    exact ⟨i, List.mem_range.2 hi, by simp [h]⟩
  rw [this, Bool.and_false]
theorem sameB_good {Wn : List S75} {l m : List S56} {part : Int} (hlm : l.length = m.length) (h : ∀ j, j < l.length → badB Wn l m part j = false) : sameB Wn l m part = true := by
  unfold sameB
  rw [beq_iff_eq.2 hlm, Bool.true_and, List.all_eq_true]
  intro x hx
  rw [h x (List.mem_range.1 hx)]
  rfl
theorem all_step {b : Nat → Bool} {i : Nat} (h : ∀ j, j < i → b j = false) (hx : b i = false) : ∀ j, j < i + 1 → b j = false := fun j hj => by
  by_cases e : j = i
  · rw [e]; exact hx
  · exact h j (by omega)
set_option maxRecDepth 100000 in
set_option maxHeartbeats 8000000 in
theorem alike_calls (P : List S73) (Wn : List S75) (Cn : List S46) (l m : List S56) (part : Int) (A0 : Option Addr) (c0 : Nat) (A1 : Option Addr) (c1 : Nat) (A2 : Option Addr) (c2 : Nat) (A : Option Addr) (c : Nat) (B : Option Addr) (cb : Nat) (w : World) (h0 : Kd.C k73 w A0 P.length P) (hc0 : P.length ≤ c0) (h1 : Kd.C k75 w A1 Wn.length Wn) (hc1 : Wn.length ≤ c1) (h2 : Kd.C k46 w A2 Cn.length Cn) (hc2 : Cn.length ≤ c2) (hl : Kd.C k56 w A l.length l) (hcl : l.length ≤ c) (hm : Kd.C k56 w B m.length m) (hcm : m.length ≤ cb) (hlen : l.length ≤ 1000000) :
    Calls Try.prog 14 #[.agg #[.slice A0 P.length c0, .slice A1 Wn.length c1, .slice A2 Cn.length c2], .slice A l.length c, .slice B m.length cb, .int .i64 part] w fun e W' => e = .returned (.tuple #[.bool (alikeE P Wn Cn l m part), .int .i64 (begE P Wn Cn part)]) ∧ w.grownBy W' none := by
  have hA := (World.grownBy_alloc w (.cells #[.slice A0 P.length c0, .slice A1 Wn.length c1, .slice A2 Cn.length c2] 26) none)
  have hN := (begin_calls P Wn Cn part A0 c0 A1 c1 A2 c2 _ (Kd.C_below h0 (below_of_grown hA)) hc0 (Kd.C_below h1 (below_of_grown hA)) hc1 (Kd.C_below h2 (below_of_grown hA)) hc2)
  have HB := Aside0.mk (show (w.alloc (.cells #[.slice A0 P.length c0, .slice A1 Wn.length c1, .slice A2 Cn.length c2] 26)).heap[w.heap.size]? = some (.cells #[.slice A0 P.length c0, .slice A1 Wn.length c1, .slice A2 Cn.length c2] 26 (0, 0)) from new_at _ rfl)
  have HA := Aside0.mk hA
  have HC := Aside0.mk (And.intro h0 (And.intro h1 (And.intro h2 (And.intro hl hm))))
  by_cases he : begE P Wn Cn part = 0
  · have HN := Aside0.mk (hN.1 he)
    have hchk := (begE_chk he).1
    have HTR := Aside0.mk (fun (W : World) (hW : w.grownBy W none) => turns_good P Wn Cn l A0 c0 A1 c1 A2 c2 A c W (Kd.C_below h0 (below_of_grown hW)) hc0 (Kd.C_below h1 (below_of_grown hW)) hc1 (Kd.C_below h2 (below_of_grown hW)) hc2 (Kd.C_below hl (below_of_grown hW)) hcl (by omega) hchk)
    have hT : alikeE P Wn Cn l m part = sameB Wn l m part := by unfold alikeE; rw [if_pos he]
    rw [hT, he]
    have HLEN := Aside0.mk hlen
    clear h0 h1 h2 hl hm hA hN he hT hchk
    by_cases hlm : l.length = m.length
    · have hlb : ((l.length : Int) != (m.length : Int)) = false := by rw [bne_eq_false_iff_eq, hlm]
      have HLM := Aside0.mk hlm
      clear hlm
      go_enter Try.func14, Try.ntmps14
      go_wp2_with (first
        | (go_at_call 17; refine (HTR.out _ HG1.out).mono ?_; rintro e W2 ⟨v2, rfl, hR2, hg2⟩; obtain ⟨A9, c9, rfl, _, hC9⟩ := Kd.R_reads hR2; have HR3 := Aside0.mk hC9; have HG3 := Aside0.mk (HG1.out.trans hg2); clear hR2 hg2 hC9)
        | (go_at_call 27; refine HN.out.mono ?_; rintro e W1 ⟨gs, hgs, rfl, hS, hg⟩; (have hb1 := blk_grown HB.out hg (by simp)); have x10 := (blk_cell hb1 0).trans rfl; have x11 := (blk_cell hb1 1).trans rfl; have x12 := (blk_cell hb1 2).trans rfl; have HG1 := Aside0.mk (HA.out.trans hg); clear hg hS hgs hb1))
      clear x10 x11 x12 hlb
      have HWW := Aside0.mk (World.grownBy.refl W2 none)
      go_loopg [39] (l.length + 1) (fun kq v39 w' => ∃ i : Nat, v39 = .int .i64 (i : Int) ∧ Aside0 (i ≤ l.length ∧ i + kq = l.length + 1) ∧ Aside0 (∀ j, j < i → badB Wn l m part j = false) ∧ Aside0 (W2.grownBy w' none))
      case atStart => exact ⟨0, rfl, ⟨⟨Nat.zero_le _, by omega⟩⟩, ⟨fun j h => absurd h (by omega)⟩, HWW⟩
      case round =>
        clear HWW
        obtain ⟨i, rfl, HNN, HR, HG⟩ := hrel
        have hi0 : (0 : Int) ≤ (i : Int) := by omega
        by_cases hi : i < l.length
        · have hii : (i : Int) < (l.length : Int) := by omega
          have hij : (i : Int) < (m.length : Int) := by have := HLM.out; omega
          have hif : (i : Int) < ((fallsL Wn l l.length).length : Int) := by rw [fallsL_len]; omega
          obtain ⟨k', rfl⟩ : ∃ k', gk = k' + 1 := ⟨gk - 1, by have := HNN.out.2; omega⟩
          have hw1' : IntKind.i64.wrap ((i : Int) + 1) = ((i + 1 : Nat) : Int) := (IntWalk.i64_left _).trans ((IntWalk.wrap64_in _ (by have := HLEN.out; omega)).trans (by omega))
          obtain ⟨ad, eA, y0, y1, y2⟩ := at_T56 HC.out.2.2.2.1 (i : Int) hi0 hii
          obtain ⟨bd, eB, z0, z1, z2⟩ := at_T56 HC.out.2.2.2.2 (i : Int) hi0 hij
          obtain ⟨fd, eF, f0⟩ := Kd.at_int HR3.out (i : Int) hi0 hif
          subst eA
          subst eB
          subst eF
          obtain ⟨x, hx⟩ : ∃ x, x = l.getD i z56 := ⟨_, rfl⟩
          obtain ⟨y, hy⟩ : ∃ y, y = m.getD i z56 := ⟨_, rfl⟩
          obtain ⟨f, hf⟩ : ∃ f, f = fallsE Wn l i := ⟨_, rfl⟩
          have hrf : rd (fallsL Wn l l.length) (i : Int) = f := by unfold rd; rw [Int.toNat_natCast, hf]; exact fallsL_getD hi
          have hr : rd_T56 l (i : Int) = x := by unfold rd_T56; rw [Int.toNat_natCast, hx]
          have hs : rd_T56 m (i : Int) = y := by unfold rd_T56; rw [Int.toNat_natCast, hy]
          have hbad : badB Wn l m part i = (((x.f0 == 1) != (y.f0 == 1)) || (f == part && !(x.f0 == y.f0 && (x.f1 == y.f1 && x.f2 == y.f2)))) := by unfold badB eq56; rw [← hx, ← hy, ← hf]
          rw [hr, Int.toNat_natCast] at y0 y1 y2
          rw [hs, Int.toNat_natCast] at z0 z1 z2
          rw [hrf, Int.toNat_natCast] at f0
          have hgg := HG3.out.trans HG.out
          replace y0 := cells_keep y0 (below_of_grown hgg)
          replace y1 := cells_keep y1 (below_of_grown hgg)
          replace y2 := cells_keep y2 (below_of_grown hgg)
          replace z0 := cells_keep z0 (below_of_grown hgg)
          replace z1 := cells_keep z1 (below_of_grown hgg)
          replace z2 := cells_keep z2 (below_of_grown hgg)
          replace f0 := cells_keep f0 (below_of_grown HG.out)
          have HBAD := Aside0.mk hbad
          have HI := Aside0.mk hi
          obtain ⟨x0, x1, x2⟩ := x
          obtain ⟨y0', y1', y2'⟩ := y
          simp only at y0 y1 y2 z0 z1 z2
          clear hx hy hf hrf hr hs hgg hbad
          cases e1 : (x0 == 1)
          · cases e2 : (y0' == 1)
            · cases e3 : (f == part)
              · skip
                have HX := Aside0.mk (show badB Wn l m part i = false by rw [HBAD.out]; simp [e1, e2, e3])
                clear HBAD HI
                go_wp2
                go_quiet (fail)
                go_wp2
                go_quiet (fail)
                go_wp2
                go_roundg k'
                case measure => omega
                case rel => exact ⟨i + 1, by first | rfl | simp, ⟨by have := HNN.out; omega⟩, ⟨all_step HR.out HX.out⟩, ⟨HG.out.trans (by first | exact gb_drawn ⟨_, rfl⟩ | exact (gb_drawn ⟨_, rfl⟩).trans (gb_drawn ⟨_, rfl⟩))⟩⟩
              · cases e4 : (x0 == y0' && (x1 == y1' && x2 == y2'))
                · skip
                  have HX := Aside0.mk (show sameB Wn l m part = false from sameB_bad HI.out (by rw [HBAD.out]; simp [e1, e2, e3, e4]))
                  clear HBAD HI
                  go_wp2
                  go_quiet (fail)
                  go_wp2
                  go_quiet (fail)
                  go_wp2
                  go_ret2
                  exact ⟨by rw [HX.out]; rfl, HG3.out.trans (HG.out.trans (by first | exact gb_drawn ⟨_, rfl⟩ | exact (gb_drawn ⟨_, rfl⟩).trans (gb_drawn ⟨_, rfl⟩)))⟩
                · skip
                  have HX := Aside0.mk (show badB Wn l m part i = false by rw [HBAD.out]; simp [e1, e2, e3, e4])
                  clear HBAD HI
                  go_wp2
                  go_quiet (fail)
                  go_wp2
                  go_quiet (fail)
                  go_wp2
                  go_roundg k'
                  case measure => omega
                  case rel => exact ⟨i + 1, by first | rfl | simp, ⟨by have := HNN.out; omega⟩, ⟨all_step HR.out HX.out⟩, ⟨HG.out.trans (by first | exact gb_drawn ⟨_, rfl⟩ | exact (gb_drawn ⟨_, rfl⟩).trans (gb_drawn ⟨_, rfl⟩))⟩⟩
            · skip
              have HX := Aside0.mk (show sameB Wn l m part = false from sameB_bad HI.out (by rw [HBAD.out]; simp [e1, e2]))
              clear HBAD HI
              go_wp2
              go_quiet (fail)
              go_wp2
              go_quiet (fail)
              go_wp2
              go_ret2
              exact ⟨by rw [HX.out]; rfl, HG3.out.trans (HG.out.trans (by first | exact gb_drawn ⟨_, rfl⟩ | exact (gb_drawn ⟨_, rfl⟩).trans (gb_drawn ⟨_, rfl⟩)))⟩
          · cases e2 : (y0' == 1)
            · skip
              have HX := Aside0.mk (show sameB Wn l m part = false from sameB_bad HI.out (by rw [HBAD.out]; simp [e1, e2]))
              clear HBAD HI
              go_wp2
              go_quiet (fail)
              go_wp2
              go_quiet (fail)
              go_wp2
              go_ret2
              exact ⟨by rw [HX.out]; rfl, HG3.out.trans (HG.out.trans (by first | exact gb_drawn ⟨_, rfl⟩ | exact (gb_drawn ⟨_, rfl⟩).trans (gb_drawn ⟨_, rfl⟩)))⟩
            · cases e3 : (f == part)
              · skip
                have HX := Aside0.mk (show badB Wn l m part i = false by rw [HBAD.out]; simp [e1, e2, e3])
                clear HBAD HI
                go_wp2
                go_quiet (fail)
                go_wp2
                go_quiet (fail)
                go_wp2
                go_roundg k'
                case measure => omega
                case rel => exact ⟨i + 1, by first | rfl | simp, ⟨by have := HNN.out; omega⟩, ⟨all_step HR.out HX.out⟩, ⟨HG.out.trans (by first | exact gb_drawn ⟨_, rfl⟩ | exact (gb_drawn ⟨_, rfl⟩).trans (gb_drawn ⟨_, rfl⟩))⟩⟩
              · cases e4 : (x0 == y0' && (x1 == y1' && x2 == y2'))
                · skip
                  have HX := Aside0.mk (show sameB Wn l m part = false from sameB_bad HI.out (by rw [HBAD.out]; simp [e1, e2, e3, e4]))
                  clear HBAD HI
                  go_wp2
                  go_quiet (fail)
                  go_wp2
                  go_quiet (fail)
                  go_wp2
                  go_ret2
                  exact ⟨by rw [HX.out]; rfl, HG3.out.trans (HG.out.trans (by first | exact gb_drawn ⟨_, rfl⟩ | exact (gb_drawn ⟨_, rfl⟩).trans (gb_drawn ⟨_, rfl⟩)))⟩
                · skip
                  have HX := Aside0.mk (show badB Wn l m part i = false by rw [HBAD.out]; simp [e1, e2, e3, e4])
                  clear HBAD HI
                  go_wp2
                  go_quiet (fail)
                  go_wp2
                  go_quiet (fail)
                  go_wp2
                  go_roundg k'
                  case measure => omega
                  case rel => exact ⟨i + 1, by first | rfl | simp, ⟨by have := HNN.out; omega⟩, ⟨all_step HR.out HX.out⟩, ⟨HG.out.trans (by first | exact gb_drawn ⟨_, rfl⟩ | exact (gb_drawn ⟨_, rfl⟩).trans (gb_drawn ⟨_, rfl⟩))⟩⟩
        · have hii : ¬ (i : Int) < (l.length : Int) := by omega
          have HE := Aside0.mk (show sameB Wn l m part = true from sameB_good HLM.out (fun j hj => HR.out j (by have := HNN.out; omega)))
          go_wp2
          go_ret2
          exact ⟨by rw [HE.out]; rfl, HG3.out.trans HG.out⟩
    · have hlb : ((l.length : Int) != (m.length : Int)) = true := by rw [bne_iff_ne]; omega
      have HF := Aside0.mk (show sameB Wn l m part = false by unfold sameB; rw [beq_eq_false_iff_ne.2 hlm, Bool.false_and])
      clear hlm
      go_enter Try.func14, Try.ntmps14
      go_wp2_with (go_at_call 27; refine HN.out.mono ?_; rintro e W1 ⟨gs, hgs, rfl, hS, hg⟩; have HG1 := Aside0.mk (HA.out.trans hg); clear hg hS hgs)
      go_ret2
      exact ⟨by rw [HF.out]; rfl, HG1.out⟩
  · have hn := hN.2 he
    have hT : alikeE P Wn Cn l m part = false := by unfold alikeE; rw [if_neg he]
    rw [hT]
    obtain ⟨E, hE⟩ : ∃ E, E = begE P Wn Cn part := ⟨_, rfl⟩
    rw [← hE] at hn he ⊢
    have HN := Aside0.mk hn
    have e0b : (E != 0) = true := by rw [bne_iff_ne]; exact he
    clear h0 h1 h2 hl hm hA hN he hn hT hE
    go_enter Try.func14, Try.ntmps14
    go_wp2_with (go_at_call 27; refine HN.out.mono ?_; rintro e W1 ⟨rfl, hg⟩; have HG1 := Aside0.mk (HA.out.trans hg); clear hg)
    go_ret2
    exact ⟨rfl, HG1.out⟩
def watch_Alike.f (k : Nat) (l0_0 : List S73) (l0_1 : List S75) (l0_2 : List S46) (l1 : List S56) (l2 : List S56) (a3 : Int) : Option (Bool × Int) := if l1.length ≤ 1000000 then some (alikeE l0_0 l0_1 l0_2 l1 l2 a3, begE l0_0 l0_1 l0_2 a3) else none
theorem watch_Alike.mono : ∀ a0 a1 a2 a3 a4 a5 k, LeO (watch_Alike.f k a0 a1 a2 a3 a4 a5) (watch_Alike.f (k + 1) a0 a1 a2 a3 a4 a5) := fun _ _ _ _ _ _ _ => LeO.refl _
theorem watch_Alike.calls (k : Nat) (A0_0 : Option Addr) (c0_0 : Nat) (l0_0 : List (S73)) (A0_1 : Option Addr) (c0_1 : Nat) (l0_1 : List (S75)) (A0_2 : Option Addr) (c0_2 : Nat) (l0_2 : List (S46)) (A1 : Option Addr) (c1 : Nat) (l1 : List (S56)) (A2 : Option Addr) (c2 : Nat) (l2 : List (S56)) (a3 : Int) (r1 : Bool) (r2 : Int) (w : World) (hr0_0 : Kd.C k73 w A0_0 l0_0.length l0_0) (hc0_0 : l0_0.length ≤ c0_0) (hr0_1 : Kd.C k75 w A0_1 l0_1.length l0_1) (hc0_1 : l0_1.length ≤ c0_1) (hr0_2 : Kd.C k46 w A0_2 l0_2.length l0_2) (hc0_2 : l0_2.length ≤ c0_2) (hr1 : Kd.C k56 w A1 l1.length l1) (hc1 : l1.length ≤ c1) (hr2 : Kd.C k56 w A2 l2.length l2) (hc2 : l2.length ≤ c2) (h : watch_Alike.f k l0_0 l0_1 l0_2 l1 l2 a3 = some (r1, r2)) :
    Calls Try.prog 14 #[.agg #[.slice A0_0 l0_0.length c0_0, .slice A0_1 l0_1.length c0_1, .slice A0_2 l0_2.length c0_2], .slice A1 l1.length c1, .slice A2 l2.length c2, .int .i64 a3] w fun e w' => e = .returned (.tuple #[.bool r1, .int .i64 r2]) ∧ Below w.heap.size w w' := by
  unfold watch_Alike.f at h
  by_cases hl : l1.length ≤ 1000000
  · rw [if_pos hl] at h
    obtain ⟨rfl, rfl⟩ := Prod.mk.inj (Option.some.inj h)
    exact (alike_calls l0_0 l0_1 l0_2 l1 l2 a3 A0_0 c0_0 A0_1 c0_1 A0_2 c0_2 A1 c1 A2 c2 w hr0_0 hc0_0 hr0_1 hc0_1 hr0_2 hc0_2 hr1 hc1 hr2 hc2 hl).mono (fun e W ⟨a, d⟩ => ⟨a, below_of_grown d⟩)
  · rw [if_neg hl] at h; cases h
end Go.Proofs.Ytfmpabdaadllaaa.PAll
