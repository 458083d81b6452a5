/-
  Regions of open order: the run that is fixed, and its parts.
-/
import Derived.Test.YtkmfihpmjnfbfaaGreatDoorDrb
namespace Go.Proofs.YtkmfihpmjnfbfaaGreatDoor.Run
open Go
set_option linter.unusedVariables false
set_option linter.unusedSimpArgs false
theorem maskAll_bits : ∀ (l : List Slot) (k : Nat), (maskAll l).testBit k = true ↔ ∃ s ∈ l, s.i = k
  | [], k => by simp [maskAll]
  | x :: l, k => by
    simp only [maskAll, Nat.testBit_or, testBit_two, Bool.or_eq_true, decide_eq_true_eq, maskAll_bits l k, List.mem_cons]
    constructor
    · rintro (h | ⟨s, h1, h2⟩)
      · exact ⟨x, .inl rfl, h⟩
      · exact ⟨s, .inr h1, h2⟩
    · rintro ⟨s, rfl | h1, h2⟩
      · exact .inl h2
      · exact .inr ⟨s, h1, h2⟩
theorem slotsB_mem {P : Program} : ∀ (l : List Oper) (as : List Nat) (k : Nat) (s : Slot), s ∈ slotsB P l as k → ∃ j, s.i = k + j ∧ l[j]? = some s.o ∧ s.anc = (as[j]?).getD 0 ∧ s.cls = clsB P s.o
  | [], as, k, s, h => by simp [slotsB] at h
  | o :: l, as, k, s, h => by
    simp only [slotsB, List.mem_cons] at h
    rcases h with rfl | h
    · exact ⟨0, rfl, rfl, by cases as <;> rfl, rfl⟩
    · obtain ⟨j, h1, h2, h3, h4⟩ := slotsB_mem l as.tail (k + 1) s h
      exact ⟨j + 1, by omega, by simpa using h2, by rw [h3]; cases as <;> simp, h4⟩
theorem seqB_mem {ss : List Slot} : ∀ (es : List Slot) (ls : List (Slot × Nat)) (k : Nat) (s : Slot), s ∈ seqB ss es ls k → s ∈ es ∨ ∃ n, (s, n) ∈ ls
  | [], ls, k, s, h => by
    simp only [seqB, List.mem_map, List.mem_filter] at h
    obtain ⟨⟨a, b⟩, ⟨h1, _⟩, rfl⟩ := h
    exact .inr ⟨b, h1⟩
  | e :: es, ls, k, s, h => by
    simp only [seqB, List.mem_append, List.mem_map, List.mem_filter, List.mem_cons] at h
    rcases h with ⟨⟨a, b⟩, ⟨h1, _⟩, rfl⟩ | rfl | h
    · exact .inr ⟨b, h1⟩
    · exact .inl (by simp)
    · rcases seqB_mem es ls (k + 1) s h with h | h
      · exact .inl (by simp [h])
      · exact .inr h
/-- What the checks of a region say. -/
structure Stat (P : Program) (ops : Array Oper) (seq : List Slot) : Prop where
  mem : ∀ s ∈ seq, ops[s.i]? = some s.o ∧ s.anc = ancM ops.toList s.i ∧ s.cls = clsB P s.o
  good : Good [] seq
  pairs : ∀ x ∈ seq, ∀ y ∈ seq, pairOk ops.toList x y = true
  all : ∀ i, i < ops.size → ∃ s ∈ seq, s.i = i
theorem statB_ok {P : Program} {ops : Array Oper} {seq es : List Slot} (e : statB P ops.toList = some (seq, es)) : Stat P ops seq ∧ es = effs seq := by
  unfold statB at e
  simp only at e
  generalize hseq : seqB _ _ _ 0 = q at e
  cases hb : (Nat.beq (maskAll q) (2 ^ ops.toList.length - 1) && q.all (fun x => q.all fun y => pairOk ops.toList x y) && seqOk q 0 0) with
  | false => rw [hb] at e; cases e
  | true =>
    rw [hb] at e
    cases e
    obtain ⟨b1, b2, b3⟩ := and3 hb
    have b1 := beq_true b1
    refine ⟨⟨fun s hs => ?_, seqOk_good seq [] 0 0 (fun k => by simp) (fun k => by simp) b3, fun x hx y hy => List.all_eq_true.1 (List.all_eq_true.1 b2 x hx) y hy, fun i hi => ?_⟩, rfl⟩
    · have hm : s ∈ slotsB P ops.toList (ancs ops.toList []) 0 := by
        rw [← hseq] at hs
        rcases seqB_mem _ _ _ _ hs with h | ⟨n, h⟩
        · exact (List.mem_filter.1 h).1
        · simp only [List.mem_map, List.mem_filter] at h
          obtain ⟨a, ⟨h1, _⟩, h2⟩ := h
          cases h2
          exact h1
      obtain ⟨j, h1, h2, h3, h4⟩ := slotsB_mem _ _ _ _ hm
      have hj : s.i = j := by omega
      subst hj
      exact ⟨by simpa using h2, h3, h4⟩
    · refine (maskAll_bits seq i).1 ?_
      rw [b1, Nat.testBit_two_pow_sub_one]
      simpa using hi
section
variable {P : Program} {gl : Gl} {ext : Ext} {call : CallR} {round : RoundR}
inductive Runs (P : Program) (ext : Ext) (gl : Gl) (call : CallR) (round : RoundR) (ops : List Oper) : List Slot → St → St → Prop
  | nil {st : St} : Runs P ext gl call round ops [] st st
  | cons {s : Slot} {l : List Slot} {st st1 st2 : St} : stepB P ext gl call round ops s.o st = some st1 → Runs P ext gl call round ops l st1 st2 → Runs P ext gl call round ops (s :: l) st st2
variable {ops : List Oper}
theorem Runs.split : ∀ {l1 l2 : List Slot} {st st' : St}, Runs P ext gl call round ops (l1 ++ l2) st st' → ∃ m, Runs P ext gl call round ops l1 st m ∧ Runs P ext gl call round ops l2 m st'
  | [], l2, st, st', h => ⟨st, .nil, h⟩
  | s :: l1, l2, st, st', h => by
    cases h with
    | cons h1 h2 => obtain ⟨m, k1, k2⟩ := Runs.split h2; exact ⟨m, .cons h1 k1, k2⟩
theorem Runs.append {l1 l2 : List Slot} {st m st' : St} (h : Runs P ext gl call round ops l1 st m) (h' : Runs P ext gl call round ops l2 m st') : Runs P ext gl call round ops (l1 ++ l2) st st' := by
  induction h with
  | nil => exact h'
  | cons k _ ih => exact .cons k (ih h')
theorem Runs.det {l : List Slot} {st a b : St} (h : Runs P ext gl call round ops l st a) (h' : Runs P ext gl call round ops l st b) : a = b := by
  induction h with
  | nil => cases h'; rfl
  | cons k _ ih =>
    cases h' with
    | cons k' h' => rw [k] at k'; cases k'; exact ih h'
theorem stepB_tm {o : Oper} {st st1 : St} (e : stepB P ext gl call round ops o st = some st1) (t : Nat) (ht : o.dst ≠ some t) : st1.tm.get t = st.tm.get t := by
  have hp : ∀ {v : Value} {tm' : Tr Value}, putB st.sz st.tm o.dst v = some tm' → tm'.get t = st.tm.get t := by
    intro v tm' h
    unfold putB at h
    split at h
    · rename_i d hd
      cases hb : Nat.blt d st.sz with
      | false => rw [hb] at h; cases h
      | true => rw [hb] at h; cases h; rw [Tr.get_put, if_neg (fun k => ht (by rw [hd, k]))]
    · cases h; rfl
  unfold stepB at e
  cases hg : goesB ops st.tm o with
  | true =>
    rw [hg] at e
    simp only [cond, Option.bind_eq_some_iff] at e
    obtain ⟨nx, _, e⟩ := e
    cases nx with
    | val v h => simp only [nxB, Option.map_eq_some_iff] at e; obtain ⟨_, h1, rfl⟩ := e; exact hp h1
    | call f l => simp only [nxB, Option.bind_eq_some_iff, Option.map_eq_some_iff] at e; obtain ⟨_, _, _, h1, rfl⟩ := e; exact hp h1
    | round f l => simp only [nxB, Option.bind_eq_some_iff, Option.map_eq_some_iff] at e; obtain ⟨_, _, _, h1, rfl⟩ := e; exact hp h1
    | defer f l =>
      cases hr : st.rd with
      | true => simp [nxB, hr] at e
      | false => simp only [nxB, hr, cond, Option.map_eq_some_iff] at e; obtain ⟨_, h1, rfl⟩ := e; exact hp h1
  | false => rw [hg] at e; simp only [cond, Option.map_eq_some_iff] at e; obtain ⟨_, h1, rfl⟩ := e; exact hp h1
theorem Runs.keep {l : List Slot} {st st1 : St} (h : Runs P ext gl call round ops l st st1) (t : Nat) (ht : ∀ s ∈ l, s.o.dst ≠ some t) : st1.tm.get t = st.tm.get t := by
  induction h with
  | nil => rfl
  | cons k _ ih => rw [ih (fun s hs => ht s (by simp [hs])), stepB_tm k t (ht _ (by simp))]
theorem Runs.szrd {l : List Slot} {st st1 : St} (h : Runs P ext gl call round ops l st st1) : st1.rd = st.rd ∧ st1.sz = st.sz := by
  induction h with
  | nil => exact ⟨rfl, rfl⟩
  | cons k _ ih => have := stepB_rd k; exact ⟨ih.1.trans this.1, ih.2.trans this.2⟩
/-- A step that is no effect: the heap grows at most. -/
theorem stepB_calm {o : Oper} {st st1 : St} (hc : (clsB P o).isE = false) (e : stepB P ext gl call round ops o st = some st1) :
    st1.ds = st.ds ∧ st.h.next ≤ st1.h.next ∧ (∀ b, b < st.h.next → st1.h.get b = st.h.get b) ∧
    ((goesB ops st.tm o = false ∧ st1.h = st.h ∧ putB st.sz st.tm o.dst undef = some st1.tm) ∨ (goesB ops st.tm o = true ∧ ∃ v h', opB P ext gl st.tm st.h o = some (.val v h') ∧ st1.h = h' ∧ putB st.sz st.tm o.dst v = some st1.tm)) := by
  unfold stepB at e
  cases hg : goesB ops st.tm o with
  | false =>
    rw [hg] at e
    simp only [cond, Option.map_eq_some_iff] at e
    obtain ⟨tm', h1, rfl⟩ := e
    exact ⟨rfl, Nat.le_refl _, fun _ _ => rfl, .inl ⟨rfl, rfl, h1⟩⟩
  | true =>
    rw [hg] at e
    simp only [cond, Option.bind_eq_some_iff] at e
    obtain ⟨nx, h1, e⟩ := e
    have hval : ∃ v h', nx = .val v h' ∧ st.h.next ≤ h'.next ∧ ∀ b, b < st.h.next → h'.get b = st.h.get b := by
      cases hcl : clsB P o with
      | a =>
        obtain ⟨obj, mk, _, h2, _⟩ := opB_a hcl h1
        have := h2 st.h
        rw [h1] at this
        cases this
        exact ⟨_, _, rfl, Nat.le_succ _, fun b hb => by rw [AH.get_new, if_neg (by omega)]⟩
      | p => obtain ⟨v, rfl, _⟩ := opB_p hcl h1; exact ⟨v, _, rfl, Nat.le_refl _, fun _ _ => rfl⟩
      | r => obtain ⟨v, rfl⟩ := opB_r hcl h1; exact ⟨v, _, rfl, Nat.le_refl _, fun _ _ => rfl⟩
      | e => rw [hcl] at hc; cases hc
    obtain ⟨v, h', rfl, h2, h3⟩ := hval
    simp only [nxB, Option.map_eq_some_iff] at e
    obtain ⟨tm', h4, rfl⟩ := e
    exact ⟨rfl, h2, h3, .inr ⟨rfl, v, h', h1, rfl, h4⟩⟩
theorem Runs.calm {l : List Slot} {st st1 : St} (h : Runs P ext gl call round ops l st st1) (hc : ∀ s ∈ l, (clsB P s.o).isE = false) : st1.ds = st.ds ∧ st.h.next ≤ st1.h.next ∧ ∀ b, b < st.h.next → st1.h.get b = st.h.get b := by
  induction h with
  | nil => exact ⟨rfl, Nat.le_refl _, fun _ _ => rfl⟩
  | cons k _ ih =>
    have h1 := stepB_calm (hc _ (by simp)) k
    have h2 := ih (fun s hs => hc s (by simp [hs]))
    exact ⟨h2.1.trans h1.1, Nat.le_trans h1.2.1 h2.2.1, fun b hb => (h2.2.2 b (Nat.lt_of_lt_of_le hb h1.2.1)).trans (h1.2.2.1 b hb)⟩
theorem runB_prefix : ∀ {l : List Slot} {st st' : St} {hs hs' : List AH}, runB P ext gl call round ops l st hs = some (st', hs') → ∃ more, hs' = hs ++ more
  | [], st, st', hs, hs', e => by simp only [runB] at e; cases e; exact ⟨_, rfl⟩
  | s :: l, st, st', hs, hs', e => by
    simp only [runB, Option.bind_eq_some_iff] at e
    obtain ⟨st1, _, e⟩ := e
    obtain ⟨more, h⟩ := runB_prefix e
    cases hE : s.cls.isE with
    | true => rw [hE] at h; exact ⟨[st.h] ++ more, by rw [h]; simp⟩
    | false => rw [hE] at h; exact ⟨more, h⟩
theorem runB_runs : ∀ {l : List Slot} {st st' : St} {hs hs' : List AH}, runB P ext gl call round ops l st hs = some (st', hs') → Runs P ext gl call round ops l st st'
  | [], st, st', hs, hs', e => by simp only [runB] at e; cases e; exact .nil
  | s :: l, st, st', hs, hs', e => by
    simp only [runB, Option.bind_eq_some_iff] at e
    obtain ⟨st1, h1, e⟩ := e
    exact .cons h1 (runB_runs e)
theorem runB_heaps : ∀ {pre rest : List Slot} {st st' sp : St} {hs hs' : List AH}, runB P ext gl call round ops (pre ++ rest) st hs = some (st', hs') → Runs P ext gl call round ops pre st sp → (rest = [] ∨ ∃ e r, rest = e :: r ∧ e.cls.isE = true) →
    hs'[hs.length + (effs pre).length]? = some sp.h
  | [], rest, st, st', sp, hs, hs', e, hr, hc => by
    cases hr
    simp only [List.nil_append] at e
    rcases hc with rfl | ⟨x, r, rfl, hx⟩
    · simp only [runB] at e; cases e; simp [effs]
    · simp only [runB, Option.bind_eq_some_iff] at e
      obtain ⟨st1, _, e⟩ := e
      rw [hx] at e
      obtain ⟨more, h⟩ := runB_prefix e
      rw [h]
      simp [effs, cond]
  | s :: pre, rest, st, st', sp, hs, hs', e, hr, hc => by
    cases hr with
    | cons k hr =>
      simp only [List.cons_append, runB, Option.bind_eq_some_iff] at e
      obtain ⟨st1, h1, e⟩ := e
      rw [k] at h1; cases h1
      have IH := runB_heaps e hr hc
      cases hE : s.cls.isE with
      | true =>
        rw [hE] at IH
        simp only [cond, List.length_append, List.length_cons, List.length_nil] at IH
        have : (effs (s :: pre)).length = (effs pre).length + 1 := by simp [effs, hE]
        rw [this, ← IH]
        congr 1
        omega
      | false =>
        rw [hE] at IH
        have : (effs (s :: pre)).length = (effs pre).length := by simp [effs, hE]
        rw [this]
        exact IH
theorem readsB_at {tm : Tr Value} {s : Slot} : ∀ (todo done : List Slot) (hs : List AH), readsB P ext gl tm s done todo hs = true → ∀ d t, todo = d ++ t → ∀ h, hs[d.length]? = some h → mayB s (done ++ d) t = true → readAt P ext gl tm s h = true
  | [], done, [], e, d, t, hdt, h, hh, hm => by simp [readsB] at e
  | [], done, x :: hs, e, d, t, hdt, h, hh, hm => by
    simp only [readsB] at e
    have h1 : d = [] ∧ t = [] := by simpa using hdt
    obtain ⟨rfl, rfl⟩ := h1
    simp at hh; subst hh
    rw [List.append_nil] at hm
    rw [hm] at e; exact e
  | y :: todo, done, [], e, d, t, hdt, h, hh, hm => by simp [readsB] at e
  | y :: todo, done, x :: hs, e, d, t, hdt, h, hh, hm => by
    simp only [readsB, Bool.and_eq_true] at e
    cases d with
    | nil =>
      simp only [List.nil_append] at hdt
      subst hdt
      simp at hh; subst hh
      rw [List.append_nil] at hm
      have := e.1
      rw [hm] at this; exact this
    | cons z d =>
      simp only [List.cons_append, List.cons.injEq] at hdt
      obtain ⟨rfl, rfl⟩ := hdt
      exact readsB_at (d ++ t) (done ++ [y]) hs e.2 d t rfl h (by simpa using hh) (by simpa [List.append_assoc] using hm)
/-- What holds of a drawn region that the evaluator has run. -/
structure Ctx (P : Program) (ext : Ext) (gl : Gl) (call : CallR) (round : RoundR) (ops : Array Oper) (seq : List Slot) (st0 st' : St) : Prop where
  stat : Stat P ops seq
  runs : Runs P ext gl call round ops.toList seq st0 st'
  reads : ∀ (pre rest : List Slot) (sp : St) (s : Slot), seq = pre ++ rest → Runs P ext gl call round ops.toList pre st0 sp → (rest = [] ∨ ∃ e r, rest = e :: r ∧ e.cls.isE = true) → s ∈ seq → s.cls.isR = true → goesB ops.toList st'.tm s.o = true →
    mayB s (effs pre) (effs rest) = true → readAt P ext gl st'.tm s sp.h = true
theorem drawB_ctx {ops : Array Oper} {st st' : St} (e : drawB P ext gl call round ops.toList st = some st') : ∃ seq, Ctx P ext gl call round ops seq st st' := by
  simp only [drawB, Option.bind_eq_some_iff] at e
  obtain ⟨⟨seq, es⟩, h1, ⟨st1, hs⟩, h2, e⟩ := e
  obtain ⟨h3, rfl⟩ := statB_ok h1
  simp only at e h2
  cases hb : (seq.all fun s => cond (s.cls.isR && goesB ops.toList st1.tm s.o) (readsB P ext gl st1.tm s [] (effs seq) hs) true) with
  | false => rw [hb] at e; cases e
  | true =>
    rw [hb] at e
    cases e
    refine ⟨seq, h3, runB_runs h2, fun pre rest sp s hsplit hrun hrest hs' hR hg hm => ?_⟩
    have h4 := List.all_eq_true.1 hb s hs'
    rw [hR, hg] at h4
    simp only [Bool.and_self, cond] at h4
    subst hsplit
    have h5 := runB_heaps h2 hrun hrest
    simp only [List.length_nil, Nat.zero_add] at h5
    exact readsB_at _ _ _ h4 (effs pre) (effs rest) (by simp [effs]) sp.h h5 (by simpa using hm)
end
end Go.Proofs.YtkmfihpmjnfbfaaGreatDoor.Run
