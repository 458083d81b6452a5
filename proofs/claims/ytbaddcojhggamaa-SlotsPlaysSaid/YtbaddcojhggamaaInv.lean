/-
  What stays true of a table under Add, Exit and Wait.
-/
import Derived.Test.YtbaddcojhggamaaExit
namespace Go.Proofs.Ytbaddcojhggamaa.PAll
open Go.RowKit Go.Shelf Go.Proofs.YtbaddcojhggamaaM
set_option linter.unusedVariables false
set_option linter.unusedSimpArgs false
abbrev Tab := Int → Option S36
/-- All but: who waits has no child that is a zombie. -/
structure Inv0 (c : Tab) (most : Int) (rank : Int → Nat) : Prop where
  key : ∀ {j p}, c j = some p → p.f0 = j ∧ 1 ≤ j ∧ j ≤ most
  one : ∃ p, c 1 = some p ∧ p.f1 = 0 ∧ p.f2 ≠ 3
  par : ∀ {j p}, c j = some p → j ≠ 1 → (∃ q, c p.f1 = some q) ∧ rank p.f1 < rank j
  r1 : rank 1 = 0
  zom : ∀ {j p}, c j = some p → p.f2 = 3 → ∀ {i q}, c i = some q → q.f1 ≠ j
  code : ∀ {j p}, c j = some p → p.f2 ≠ 3 → p.f3 = 0
  wt : ∀ {j p}, c j = some p → p.f2 = 2 → ∃ i q, c i = some q ∧ q.f1 = j
def NZ (c : Tab) (j : Int) : Prop := ∀ p, c j = some p → p.f2 = 2 → ∀ i q, c i = some q → q.f1 = j → q.f2 ≠ 3
def Inv (c : Tab) (most : Int) (rank : Int → Nat) : Prop := Inv0 c most rank ∧ ∀ j, NZ c j
theorem upd_self (c : Tab) (k : Int) (v : Option S36) : upd c k v k = v := if_pos rfl
theorem upd_ne (c : Tab) {k j : Int} (v : Option S36) (h : j ≠ k) : upd c k v j = c j := if_neg h
theorem inv_one {most : Int} (h : 1 ≤ most) : Inv oneC most (fun _ => 0) := by
  have h1 : ∀ {j p}, oneC j = some p → j = 1 ∧ p = ⟨1, 0, 1, 0⟩ := fun {j p} hj => by
    unfold oneC at hj
    by_cases e : j = 1
    · rw [if_pos e] at hj; exact ⟨e, (Option.some.inj hj).symm⟩
    · rw [if_neg e] at hj; cases hj
  refine ⟨⟨fun hj => ?_, ⟨⟨1, 0, 1, 0⟩, rfl, rfl, by decide⟩, fun hj hn => absurd (h1 hj).1 hn, rfl, fun hj hz => ?_, fun hj _ => ?_, fun hj hw => ?_⟩, fun j p hj hw => ?_⟩
  · obtain ⟨rfl, rfl⟩ := h1 hj; exact ⟨rfl, Int.le_refl _, h⟩
  · obtain ⟨rfl, rfl⟩ := h1 hj; exact absurd hz (by decide)
  · obtain ⟨rfl, rfl⟩ := h1 hj; rfl
  · obtain ⟨rfl, rfl⟩ := h1 hj; exact absurd hw (by decide)
  · obtain ⟨rfl, rfl⟩ := h1 hj; exact absurd hw (by decide)
theorem freeF_spec {c : Tab} : ∀ {d n r : Nat}, freeF c d n = some r → n ≤ r ∧ r < n + d ∧ c r = none
  | 0, n, r, h => by cases h
  | d + 1, n, r, h => by
    unfold freeF at h
    by_cases e : (c n).isNone
    · rw [if_pos e] at h; cases h
      exact ⟨Nat.le_refl _, by omega, Option.isNone_iff_eq_none.1 e⟩
    · rw [if_neg e] at h
      have h5 := freeF_spec h
      exact ⟨by omega, by omega, h5.2.2⟩
theorem inv_add {c : Tab} {most : Int} {rank : Int → Nat} (h : Inv c most rank) (parent : Int) : ∃ rank', Inv (addR c most parent).2.2 most rank' := by
  unfold addR
  cases hp : c parent with
  | none => exact ⟨rank, h⟩
  | some p =>
    simp only
    by_cases hz : p.f2 = 3
    · rw [if_pos hz]; exact ⟨rank, h⟩
    · rw [if_neg hz]
      cases hf : freeF c most.toNat 1 with
      | none => exact ⟨rank, h⟩
      | some n =>
        obtain ⟨h0, hnz⟩ := h
        obtain ⟨f1, f2, f3⟩ := freeF_spec hf
        simp only
        have hne : ∀ {j q}, c j = some q → j ≠ (n : Int) := fun {j q} hj e => by rw [e, f3] at hj; cases hj
        have hn1 : (n : Int) ≠ 1 := fun e => by
          obtain ⟨q, hq, _⟩ := h0.one
          exact hne hq e.symm
        have get : ∀ {j q}, upd c n (some ⟨n, parent, 1, 0⟩) j = some q → (j = n ∧ q = ⟨n, parent, 1, 0⟩) ∨ (j ≠ n ∧ c j = some q) := fun {j q} hj => by
          by_cases e : j = n
          · subst e; rw [upd_self] at hj; exact .inl ⟨rfl, (Option.some.inj hj).symm⟩
          · rw [upd_ne _ _ e] at hj; exact .inr ⟨e, hj⟩
        have old : ∀ {j q}, c j = some q → upd c n (some ⟨n, parent, 1, 0⟩) j = some q := fun {j q} hj => by rw [upd_ne _ _ (hne hj)]; exact hj
        refine ⟨fun j => if j = (n : Int) then rank parent + 1 else rank j, ⟨fun hj => ?_, ?_, fun hj hj1 => ?_, ?_, fun hj hz' => ?_, fun hj hs => ?_, fun hj hw => ?_⟩, fun j q hj hw => ?_⟩
        · rcases get hj with ⟨rfl, rfl⟩ | ⟨_, hj⟩
          · exact ⟨rfl, by omega, by omega⟩
          · exact h0.key hj
        · obtain ⟨q, hq, h1, h2⟩ := h0.one
          exact ⟨q, old hq, h1, h2⟩
        · rcases get hj with ⟨rfl, rfl⟩ | ⟨hjn, hj⟩
          · refine ⟨⟨p, old hp⟩, ?_⟩
            simp only [if_neg (hne hp), if_true]; omega
          · obtain ⟨⟨q, hq⟩, hr⟩ := h0.par hj hj1
            refine ⟨⟨q, old hq⟩, ?_⟩
            simp only [if_neg (hne hq), if_neg hjn]; exact hr
        · simp only [if_neg (fun e => hn1 e.symm : ¬ (1 : Int) = n)]; exact h0.r1
        · intro i q hi
          rcases get hj with ⟨rfl, rfl⟩ | ⟨hjn, hj⟩
          · exact absurd hz' (by simp)
          · rcases get hi with ⟨rfl, rfl⟩ | ⟨_, hi⟩
            · rintro rfl
              rw [hp] at hj; cases hj; exact hz hz'
            · exact h0.zom hj hz' hi
        · rcases get hj with ⟨rfl, rfl⟩ | ⟨_, hj⟩
          · rfl
          · exact h0.code hj hs
        · rcases get hj with ⟨rfl, rfl⟩ | ⟨_, hj⟩
          · exact absurd hw (by simp)
          · obtain ⟨i, q, hi, hq⟩ := h0.wt hj hw
            exact ⟨i, q, old hi, hq⟩
        · intro i r hi hr
          rcases get hi with ⟨rfl, rfl⟩ | ⟨_, hi⟩
          · simp
          · rcases get hj with ⟨rfl, rfl⟩ | ⟨_, hj⟩
            · exact absurd hw (by simp)
            · exact hnz j q hj hw i r hi hr
/-- One who waits is served: the zombie is gone, who waited is ready. -/
def servedC (c : Tab) (p q : S36) : Tab := upd (upd c q.f0 none) p.f0 (some { p with f2 := 1 })
theorem served_get {c : Tab} {p q : S36} {j : Int} {r : S36} (h : servedC c p q j = some r) : (j = p.f0 ∧ r = { p with f2 := 1 }) ∨ (j ≠ p.f0 ∧ j ≠ q.f0 ∧ c j = some r) := by
  unfold servedC at h
  by_cases e : j = p.f0
  · subst e; rw [upd_self] at h; exact .inl ⟨rfl, (Option.some.inj h).symm⟩
  · rw [upd_ne _ _ e] at h
    by_cases e2 : j = q.f0
    · subst e2; rw [upd_self] at h; cases h
    · rw [upd_ne _ _ e2] at h; exact .inr ⟨e, e2, h⟩
theorem inv0_served {c : Tab} {most : Int} {rank : Int → Nat} (h : Inv0 c most rank) {j i : Int} {p q : S36} (hj : c j = some p) (hw : p.f2 = 2) (hi : c i = some q) (hq : q.f1 = j) (hz : q.f2 = 3) :
    Inv0 (servedC c p q) most rank ∧ servedC c p q i = none ∧ (∀ k, NZ c k → NZ (servedC c p q) k) ∧ (∀ k r, c k = some r → r.f2 ≠ 3 → ∃ r', servedC c p q k = some r' ∧ r'.f2 ≠ 3) ∧ (∀ k r, servedC c p q k = some r → ∃ r', c k = some r') ∧ ∀ r, servedC c p q j = some r → r.f2 ≠ 2 := by
  obtain ⟨hpj, hj1, hj2⟩ := h.key hj
  obtain ⟨hqi, hi1, hi2⟩ := h.key hi
  have hij : i ≠ j := fun e => by rw [e, hj] at hi; cases hi; rw [hw] at hz; exact absurd hz (by decide)
  have hpq : p.f0 ≠ q.f0 := by rw [hpj, hqi]; exact fun e => hij e.symm
  have sj : servedC c p q j = some { p with f2 := 1 } := by unfold servedC; rw [← hpj, upd_self]
  have si : servedC c p q i = none := by unfold servedC; rw [upd_ne _ _ (by rw [hpj]; exact hij), ← hqi, upd_self]
  have so : ∀ {k r}, c k = some r → k ≠ j → k ≠ i → servedC c p q k = some r := fun {k r} hk k1 k2 => by
    unfold servedC; rw [upd_ne _ _ (by rw [hpj]; exact k1), upd_ne _ _ (by rw [hqi]; exact k2)]; exact hk
  have get : ∀ {k r}, servedC c p q k = some r → (k = j ∧ r = { p with f2 := 1 }) ∨ (k ≠ j ∧ k ≠ i ∧ c k = some r) := fun {k r} hk => by
    rcases served_get hk with ⟨a, b⟩ | ⟨a, b, d⟩
    · exact .inl ⟨a.trans hpj, b⟩
    · exact .inr ⟨by rw [← hpj]; exact a, by rw [← hqi]; exact b, d⟩
  have hi1' : i ≠ 1 := fun e => by
    obtain ⟨p1, h1, _, h3⟩ := h.one
    rw [e, h1] at hi; cases hi; exact h3 hz
  -- what was there and is no zombie is there
  have stay : ∀ k r, c k = some r → k ≠ i → ∃ r', servedC c p q k = some r' := fun k r hk hki => by
    by_cases e : k = j
    · subst e; exact ⟨_, sj⟩
    · exact ⟨r, so hk e hki⟩
  refine ⟨⟨fun hk => ?_, ?_, fun hk hk1 => ?_, h.r1, fun hk hkz => ?_, fun hk hs => ?_, fun hk hkw => ?_⟩, si, fun k hnz r hk hkw i' q' hi' hq' => ?_, fun k r hk hr => ?_, fun k r hk => ?_, fun r hr => ?_⟩
  · rcases get hk with ⟨rfl, rfl⟩ | ⟨_, _, hk⟩
    · have h5 := h.key hj; exact h5
    · exact h.key hk
  · obtain ⟨p1, h1, h2, h3⟩ := h.one
    by_cases e : (1 : Int) = j
    · rw [← e] at hj; rw [h1] at hj; cases hj
      exact ⟨{ p with f2 := 1 }, by have h6 := sj; rw [← e] at h6; exact h6, h2, by simp⟩
    · exact ⟨p1, so h1 e (fun e => hi1' e.symm), h2, h3⟩
  · have key : ∀ {k' r'}, c k' = some r' → k' ≠ 1 → (∃ q', servedC c p q r'.f1 = some q') ∧ rank r'.f1 < rank k' := fun {k' r'} hk' hk1' => by
      obtain ⟨⟨q', hq'⟩, hr⟩ := h.par hk' hk1'
      exact ⟨stay _ _ hq' (fun e => h.zom hi hz hk' e), hr⟩
    rcases get hk with ⟨rfl, rfl⟩ | ⟨_, _, hk⟩
    · have h5 := key hj hk1; exact h5
    · exact key hk hk1
  · intro i' q' hi'
    rcases get hk with ⟨rfl, rfl⟩ | ⟨_, _, hk⟩
    · exact absurd hkz (by simp)
    · rcases get hi' with ⟨rfl, rfl⟩ | ⟨_, _, hi'⟩
      · have h5 := h.zom hk hkz hj; exact h5
      · exact h.zom hk hkz hi'
  · rcases get hk with ⟨rfl, rfl⟩ | ⟨_, _, hk⟩
    · have h5 := h.code hj (by rw [hw]; decide); exact h5
    · exact h.code hk hs
  · rcases get hk with ⟨rfl, rfl⟩ | ⟨hkj, _, hk⟩
    · exact absurd hkw (by simp)
    · obtain ⟨i', q', hi', hq'⟩ := h.wt hk hkw
      have hne : i' ≠ i := fun e => by rw [e, hi] at hi'; cases hi'; exact hkj (hq'.symm.trans hq)
      by_cases e : i' = j
      · subst e; rw [hj] at hi'; cases hi'
        exact ⟨_, _, sj, hq'⟩
      · exact ⟨i', q', so hi' e hne, hq'⟩
  · rcases get hk with ⟨rfl, rfl⟩ | ⟨_, _, hk⟩
    · exact absurd hkw (by simp)
    · rcases get hi' with ⟨rfl, rfl⟩ | ⟨_, _, hi'⟩
      · simp
      · exact hnz r hk hkw i' q' hi' hq'
  · by_cases e : k = j
    · subst e; exact ⟨_, sj, by simp⟩
    · exact ⟨r, so hk e (fun e => by rw [e, hi] at hk; cases hk; exact hr hz), hr⟩
  · rcases get hk with ⟨rfl, rfl⟩ | ⟨_, _, hk⟩
    · exact ⟨p, hj⟩
    · exact ⟨r, hk⟩
  · rw [sj] at hr; cases hr; simp
/-- What is learned of: who was there is gone, and whoever learns is there. -/
def Told (was now : Tab) (l : List S40) : Prop := ∀ r ∈ l, (∃ p, was r.f1 = some p) ∧ now r.f1 = none ∧ ∃ p, now r.f0 = some p
theorem mem_lst {c : Tab} {n : Nat} {p : S36} : p ∈ lstF c n ↔ ∃ j : Nat, j < n ∧ c ((j : Int) + 1) = some p := by
  unfold lstF
  simp only [List.mem_filterMap, List.mem_range]
theorem Inv0.mem {c : Tab} {most : Int} {rank : Int → Nat} (h : Inv0 c most rank) {p : S36} : p ∈ lstF c most.toNat ↔ c p.f0 = some p := by
  rw [mem_lst]
  constructor
  · rintro ⟨j, _, hj⟩
    rw [(h.key hj).1]; exact hj
  · intro hp
    obtain ⟨_, h1, h2⟩ := h.key hp
    exact ⟨(p.f0 - 1).toNat, by omega, by rw [show (((p.f0 - 1).toNat : Nat) : Int) + 1 = p.f0 by omega]; exact hp⟩
/-- One that waits is looked at: it is served, or has no child that is a zombie. -/
theorem serveR_spec {c : Tab} {most : Int} {rank : Int → Nat} (h : Inv0 c most rank) {j : Int} {p : S36} (hj : c j = some p) (hw : p.f2 = 2) :
    (serveR c most p = (none, c) ∧ NZ c j) ∨ ∃ q i, c i = some q ∧ q.f1 = j ∧ q.f2 = 3 ∧ q.f0 = i ∧ serveR c most p = (some ⟨p.f0, q.f0, q.f3⟩, servedC c p q) := by
  obtain ⟨hpj, _, _⟩ := h.key hj
  unfold serveR
  cases hf : (lstF c most.toNat).find? (isKid p.f0) with
  | none =>
    refine .inl ⟨rfl, fun p' hp' _ i q hi hq hz => ?_⟩
    have hq0 := (h.key hi).1
    have := List.find?_eq_none.1 hf q ((h.mem).2 (by rw [hq0]; exact hi))
    simp [isKid, hz, hq, hpj] at this
  | some q =>
    have h1 := List.find?_some hf
    have h2 := (h.mem).1 (List.mem_of_find?_eq_some hf)
    simp only [isKid, Bool.and_eq_true, beq_iff_eq] at h1
    exact .inr ⟨q, q.f0, h2, h1.1.trans hpj, h1.2, rfl, rfl⟩
theorem inv_wait {c : Tab} {most : Int} {rank : Int → Nat} (h : Inv c most rank) (pid : Int) : Inv (waitR c most pid).2.2 most rank ∧ Told c (waitR c most pid).2.2 (waitR c most pid).1 := by
  have told0 : ∀ c' : Tab, Told c c' [] := fun c' r hr => by cases hr
  unfold waitR
  cases hp : c pid with
  | none => exact ⟨h, told0 _⟩
  | some p =>
    simp only
    by_cases hk : kidsN c most.toNat pid = 0
    · rw [if_pos hk]; exact ⟨h, told0 _⟩
    · rw [if_neg hk]
      by_cases h1 : p.f2 = 1
      · rw [if_neg (fun hn => hn h1)]
        simp only
        obtain ⟨h0, hnz⟩ := h
        obtain ⟨hp0, hp1, hp2⟩ := h0.key hp
        obtain ⟨c', hc'⟩ : ∃ c', c' = upd c pid (some { p with f2 := 2 }) := ⟨_, rfl⟩
        rw [← hc']
        have sp : c' pid = some { p with f2 := 2 } := by rw [hc', upd_self]
        have get : ∀ {j q}, c' j = some q → (j = pid ∧ q = { p with f2 := 2 }) ∨ (j ≠ pid ∧ c j = some q) := fun {j q} hj => by
          by_cases e : j = pid
          · subst e; rw [sp] at hj; exact .inl ⟨rfl, (Option.some.inj hj).symm⟩
          · rw [hc', upd_ne _ _ e] at hj; exact .inr ⟨e, hj⟩
        have up : ∀ {j q}, c j = some q → ∃ q', c' j = some q' ∧ q'.f1 = q.f1 := fun {j q} hj => by
          by_cases e : j = pid
          · subst e; rw [hp] at hj; cases hj; exact ⟨_, sp, rfl⟩
          · exact ⟨q, by rw [hc', upd_ne _ _ e]; exact hj, rfl⟩
        have kidp : ∃ i q, c i = some q ∧ q.f1 = pid := by
          have hpos : 0 < (lstF c most.toNat).countP (fun q => q.f1 == pid) := Nat.pos_of_ne_zero hk
          obtain ⟨q, hq, hq1⟩ := List.countP_pos_iff.1 hpos
          exact ⟨q.f0, q, (h0.mem).1 hq, by simpa using hq1⟩
        have g0 : Inv0 c' most rank := by
          refine ⟨fun hj => ?_, ?_, fun hj hj1 => ?_, h0.r1, fun hj hz => ?_, fun hj hs => ?_, fun hj hw => ?_⟩
          · rcases get hj with ⟨rfl, rfl⟩ | ⟨_, hj⟩
            · have h5 := h0.key hp; exact h5
            · exact h0.key hj
          · obtain ⟨p1, q1, q2, q3⟩ := h0.one
            by_cases e : (1 : Int) = pid
            · subst e; rw [hp] at q1; cases q1; exact ⟨_, sp, q2, by simp⟩
            · exact ⟨p1, by rw [hc', upd_ne _ _ e]; exact q1, q2, q3⟩
          · rcases get hj with ⟨rfl, rfl⟩ | ⟨_, hj⟩
            · obtain ⟨⟨q, hq⟩, hr⟩ := h0.par hp hj1
              obtain ⟨q', hq', _⟩ := up hq
              exact ⟨⟨q', hq'⟩, hr⟩
            · obtain ⟨⟨q, hq⟩, hr⟩ := h0.par hj hj1
              obtain ⟨q', hq', _⟩ := up hq
              exact ⟨⟨q', hq'⟩, hr⟩
          · intro i q hi
            rcases get hj with ⟨rfl, rfl⟩ | ⟨_, hj⟩
            · exact absurd hz (by simp)
            · rcases get hi with ⟨rfl, rfl⟩ | ⟨_, hi⟩
              · have h5 := h0.zom hj hz hp; exact h5
              · exact h0.zom hj hz hi
          · rcases get hj with ⟨rfl, rfl⟩ | ⟨_, hj⟩
            · have h5 := h0.code hp (by rw [h1]; decide); exact h5
            · exact h0.code hj hs
          · rcases get hj with ⟨rfl, rfl⟩ | ⟨_, hj⟩
            · obtain ⟨i, q, hi, hq1⟩ := kidp
              obtain ⟨q', hq', hf⟩ := up hi
              exact ⟨i, q', hq', hf.trans hq1⟩
            · obtain ⟨i, q, hi, hq⟩ := h0.wt hj hw
              obtain ⟨q', hq', hf⟩ := up hi
              exact ⟨i, q', hq', hf.trans hq⟩
        have nz : ∀ j, j ≠ pid → NZ c' j := fun j hjp q hj hw i r hi hr => by
          rcases get hj with ⟨e, _⟩ | ⟨_, hj⟩
          · exact absurd e hjp
          · rcases get hi with ⟨rfl, rfl⟩ | ⟨_, hi⟩
            · simp
            · exact hnz j q hj hw i r hi hr
        rcases serveR_spec g0 sp rfl with ⟨e, hn⟩ | ⟨q, i, hi, hq, hz, hqi, e⟩
        · rw [e]
          refine ⟨⟨g0, fun j => ?_⟩, told0 _⟩
          by_cases ej : j = pid
          · rw [ej]; exact hn
          · exact nz j ej
        · rw [e]
          obtain ⟨s1, s2, s3, s4, s5, s6⟩ := inv0_served g0 sp rfl hi hq hz
          refine ⟨⟨s1, fun j => ?_⟩, fun r hr => ?_⟩
          · by_cases ej : j = pid
            · subst ej
              intro p' hp' hw'
              exact absurd hw' (s6 p' hp')
            · exact s3 j (nz j ej)
          · simp only [Option.toList_some, List.mem_singleton] at hr
            subst hr
            refine ⟨?_, by simp only; rw [hqi]; exact s2, ?_⟩
            · rcases get hi with ⟨_, rfl⟩ | ⟨_, hi⟩
              · exact absurd hz (by simp)
              · exact ⟨q, by simp only; rw [hqi]; exact hi⟩
            · obtain ⟨r', h1, _⟩ := s4 pid _ sp (by simp)
              exact ⟨r', by have h6 := h1; rw [← hp0] at h6; exact h6⟩
      · rw [if_pos h1]; exact ⟨h, told0 _⟩
/-- The first loop of Exit: the children of pid are 1's. -/
def reP (pid : Int) (q : S36) : S36 := if q.f1 = pid then { q with f1 := 1 } else q
theorem runO_get {pid : Int} {c : Tab} (hk : ∀ {j p}, c j = some p → p.f0 = j) : ∀ (n : Nat) (j : Int), runO pid c n j = if 1 ≤ j ∧ j ≤ (n : Int) then (c j).map (reP pid) else c j
  | 0, j => by unfold runO; rw [if_neg (by omega)]
  | n + 1, j => by
    have ih := runO_get (pid := pid) (c := c) hk n
    have hn : runO pid c n ((n : Int) + 1) = c ((n : Int) + 1) := by rw [ih, if_neg (by omega)]
    show stepO pid (runO pid c n) (n + 1) j = _
    unfold stepO
    rw [show (((n + 1 : Nat) : Nat) : Int) = (n : Int) + 1 by omega, hn]
    cases hc : c ((n : Int) + 1) with
    | none =>
      simp only
      rw [ih]
      by_cases e : j = (n : Int) + 1
      · subst e; rw [if_neg (by omega), if_pos (by omega), hc]; rfl
      · by_cases e2 : 1 ≤ j ∧ j ≤ (n : Int)
        · rw [if_pos e2, if_pos (by omega)]
        · rw [if_neg e2, if_neg (by omega)]
    | some q =>
      simp only
      have hq0 := hk hc
      by_cases e : j = (n : Int) + 1
      · subst e
        rw [if_pos (show 1 ≤ (n : Int) + 1 ∧ (n : Int) + 1 ≤ (n : Int) + 1 by omega), hc]
        by_cases e3 : q.f1 = pid
        · rw [if_pos e3, hq0, upd_self]; simp [reP, e3, hq0]
        · rw [if_neg e3, hn, hc]; simp [reP, e3]
      · have h1 : (if q.f1 = pid then upd (runO pid c n) q.f0 (some { q with f1 := 1 }) else runO pid c n) j = runO pid c n j := by
          by_cases e3 : q.f1 = pid
          · rw [if_pos e3, hq0, upd_ne _ _ e]
          · rw [if_neg e3]
        rw [h1, ih]
        by_cases e2 : 1 ≤ j ∧ j ≤ (n : Int)
        · rw [if_pos e2, if_pos (by omega)]
        · rw [if_neg e2, if_neg (by omega)]
theorem runO_all {pid : Int} {c : Tab} {most : Int} (hk : ∀ {j p}, c j = some p → p.f0 = j ∧ 1 ≤ j ∧ j ≤ most) (j : Int) : runO pid c most.toNat j = (c j).map (reP pid) := by
  rw [runO_get (fun h => (hk h).1)]
  by_cases e : 1 ≤ j ∧ j ≤ (most.toNat : Int)
  · rw [if_pos e]
  · rw [if_neg e]
    cases hc : c j with
    | none => rfl
    | some q => have := hk hc; omega
theorem reP_f0 (pid : Int) (q : S36) : (reP pid q).f0 = q.f0 := by unfold reP; split <;> rfl
theorem reP_f2 (pid : Int) (q : S36) : (reP pid q).f2 = q.f2 := by unfold reP; split <;> rfl
theorem reP_f3 (pid : Int) (q : S36) : (reP pid q).f3 = q.f3 := by unfold reP; split <;> rfl
theorem reP_f1 (pid : Int) (q : S36) : (q.f1 = pid ∧ (reP pid q).f1 = 1) ∨ (q.f1 ≠ pid ∧ (reP pid q).f1 = q.f1) := by
  unfold reP
  by_cases h : q.f1 = pid
  · rw [if_pos h]; exact .inl ⟨h, rfl⟩
  · rw [if_neg h]; exact .inr ⟨h, rfl⟩
theorem inv0_ended {c : Tab} {most : Int} {rank : Int → Nat} (h : Inv0 c most rank) {pid code : Int} {p : S36} (hp : c pid = some p) (h1 : pid ≠ 1) (hz : p.f2 ≠ 3) :
    Inv0 (runO pid (upd c pid (some { p with f2 := 3, f3 := code })) most.toNat) most rank ∧ (∀ k, (∃ r, runO pid (upd c pid (some { p with f2 := 3, f3 := code })) most.toNat k = some r) ↔ ∃ r, c k = some r) := by
  obtain ⟨hp0, hp1, hp2⟩ := h.key hp
  obtain ⟨c1, hc1⟩ : ∃ c1, c1 = upd c pid (some { p with f2 := 3, f3 := code }) := ⟨_, rfl⟩
  rw [← hc1]
  have get1 : ∀ {j q}, c1 j = some q → (j = pid ∧ q = { p with f2 := 3, f3 := code }) ∨ (j ≠ pid ∧ c j = some q) := fun {j q} hj => by
    by_cases e : j = pid
    · subst e; rw [hc1, upd_self] at hj; exact .inl ⟨rfl, (Option.some.inj hj).symm⟩
    · rw [hc1, upd_ne _ _ e] at hj; exact .inr ⟨e, hj⟩
  have up1 : ∀ {j q}, c j = some q → ∃ q', c1 j = some q' ∧ q'.f1 = q.f1 ∧ (j ≠ pid → q' = q) := fun {j q} hj => by
    by_cases e : j = pid
    · subst e; rw [hp] at hj; cases hj; exact ⟨{ p with f2 := 3, f3 := code }, by rw [hc1, upd_self], rfl, fun hn => absurd rfl hn⟩
    · exact ⟨q, by rw [hc1, upd_ne _ _ e]; exact hj, rfl, fun _ => rfl⟩
  have key1 : ∀ {j q}, c1 j = some q → q.f0 = j ∧ 1 ≤ j ∧ j ≤ most := fun {j q} hj => by
    rcases get1 hj with ⟨rfl, rfl⟩ | ⟨_, hj⟩
    · have h5 := h.key hp; exact h5
    · exact h.key hj
  have ev : ∀ j, runO pid c1 most.toNat j = (c1 j).map (reP pid) := runO_all key1
  obtain ⟨c2, hc2⟩ : ∃ c2, c2 = runO pid c1 most.toNat := ⟨_, rfl⟩
  rw [← hc2] at ev ⊢
  have get : ∀ {j q}, c2 j = some q → ∃ q1, c1 j = some q1 ∧ q = reP pid q1 := fun {j q} hj => by
    rw [ev] at hj
    obtain ⟨q1, a, b⟩ := Option.map_eq_some_iff.1 hj
    exact ⟨q1, a, b.symm⟩
  have up : ∀ {j q}, c1 j = some q → c2 j = some (reP pid q) := fun {j q} hj => by rw [ev, hj]; rfl
  -- what stands of c at j
  have getc : ∀ {j q}, c2 j = some q → ∃ q0, c j = some q0 ∧ q.f0 = q0.f0 ∧ ((q0.f1 = pid ∧ q.f1 = 1) ∨ (q0.f1 ≠ pid ∧ q.f1 = q0.f1)) ∧ ((j = pid ∧ q.f2 = 3) ∨ (j ≠ pid ∧ q.f2 = q0.f2 ∧ q.f3 = q0.f3)) := fun {j q} hj => by
    obtain ⟨q1, a, rfl⟩ := get hj
    rcases get1 a with ⟨rfl, rfl⟩ | ⟨e, a⟩
    · exact ⟨p, hp, reP_f0 _ _, reP_f1 _ { p with f2 := 3, f3 := code }, .inl ⟨rfl, reP_f2 _ _⟩⟩
    · exact ⟨q1, a, reP_f0 _ _, reP_f1 _ _, .inr ⟨e, reP_f2 _ _, reP_f3 _ _⟩⟩
  have upc : ∀ {j q0}, c j = some q0 → ∃ q, c2 j = some q ∧ ((q0.f1 = pid ∧ q.f1 = 1) ∨ (q0.f1 ≠ pid ∧ q.f1 = q0.f1)) ∧ (j ≠ pid → q.f2 = q0.f2) := fun {j q0} hj => by
    obtain ⟨q', a, b, d⟩ := up1 hj
    refine ⟨_, up a, ?_, fun hn => by rw [reP_f2, d hn]⟩
    rw [← b]; exact reP_f1 _ _
  refine ⟨⟨fun hj => ?_, ?_, fun hj hj1 => ?_, h.r1, fun hj hjz => ?_, fun hj hs => ?_, fun hj hw => ?_⟩, fun k => ⟨fun hr => ?_, fun hr => ?_⟩⟩
  · obtain ⟨q0, a, b, _⟩ := getc hj
    rw [b]; exact h.key a
  · obtain ⟨p1, a, b, d⟩ := h.one
    obtain ⟨q, e1, e2, e3⟩ := upc a
    refine ⟨q, e1, ?_, by rw [e3 (fun e => h1 e.symm)]; exact d⟩
    rcases e2 with ⟨e, _⟩ | ⟨_, e⟩
    · omega
    · rw [e, b]
  · obtain ⟨q0, a, _, b, _⟩ := getc hj
    obtain ⟨⟨r, hr⟩, hrk⟩ := h.par a hj1
    rcases b with ⟨_, e⟩ | ⟨_, e⟩
    · rw [e]
      obtain ⟨p1, a1, _⟩ := h.one
      obtain ⟨q, e1, _⟩ := upc a1
      exact ⟨⟨q, e1⟩, by rw [h.r1]; omega⟩
    · rw [e]
      obtain ⟨q, e1, _⟩ := upc hr
      exact ⟨⟨q, e1⟩, hrk⟩
  · intro i q hi
    obtain ⟨q0, a, _, b, _⟩ := getc hi
    obtain ⟨r0, ra, _, _, rb⟩ := getc hj
    rcases rb with ⟨hjp, _⟩ | ⟨hjp, e2, _⟩
    · rw [hjp]
      rcases b with ⟨_, e⟩ | ⟨e1, e⟩
      · rw [e]; exact fun x => h1 x.symm
      · rw [e]; exact e1
    · have hr0 : r0.f2 = 3 := by rw [← e2]; exact hjz
      rcases b with ⟨_, e⟩ | ⟨_, e⟩
      · rw [e]
        intro x
        obtain ⟨p1, y1, _, y3⟩ := h.one
        rw [x, ra] at y1; cases y1; exact y3 hr0
      · rw [e]; exact h.zom ra hr0 a
  · obtain ⟨q0, a, _, _, b⟩ := getc hj
    rcases b with ⟨_, e⟩ | ⟨_, e2, e3⟩
    · exact absurd e hs
    · rw [e3]; exact h.code a (by rw [← e2]; exact hs)
  · obtain ⟨q0, a, _, _, b⟩ := getc hj
    rcases b with ⟨_, e⟩ | ⟨hjp, e2, e3⟩
    · rw [e] at hw; exact absurd hw (by decide)
    · obtain ⟨i, r, hi, hr⟩ := h.wt a (by rw [← e2]; exact hw)
      obtain ⟨r', x1, x2, _⟩ := upc hi
      refine ⟨i, r', x1, ?_⟩
      rcases x2 with ⟨e, _⟩ | ⟨_, e⟩
      · exact absurd (hr.symm.trans e) hjp
      · rw [e]; exact hr
  · obtain ⟨r, hr⟩ := hr; obtain ⟨q0, a, _⟩ := getc hr; exact ⟨q0, a⟩
  · obtain ⟨r, hr⟩ := hr; obtain ⟨q, a, _⟩ := upc hr; exact ⟨q, a⟩
theorem runS_inv {c : Tab} {most : Int} {rank : Int → Nat} (h : Inv0 c most rank) : ∀ n : Nat, Inv0 (runS most c n).2 most rank ∧ (∀ j : Int, 1 ≤ j → j ≤ n → NZ (runS most c n).2 j) ∧ (∀ k r, (runS most c n).2 k = some r → ∃ r', c k = some r') ∧ Told c (runS most c n).2 (runS most c n).1 ∧
    ∀ r ∈ (runS most c n).1, ∃ p, (runS most c n).2 r.f0 = some p ∧ p.f2 ≠ 3
  | 0 => ⟨h, fun j h1 h2 => by omega, fun k r hr => ⟨r, hr⟩, (show Told c c [] from fun r hr => nomatch hr), fun r (hr : r ∈ ([] : List S40)) => nomatch hr⟩
  | n + 1 => by
    obtain ⟨g0, g1, g2, g3, g4⟩ := runS_inv h n
    show Inv0 (stepS most (runS most c n) (n + 1)).2 most rank ∧ (∀ j : Int, 1 ≤ j → j ≤ ((n + 1 : Nat) : Int) → NZ (stepS most (runS most c n) (n + 1)).2 j) ∧ (∀ k r, (stepS most (runS most c n) (n + 1)).2 k = some r → ∃ r', c k = some r') ∧ Told c (stepS most (runS most c n) (n + 1)).2 (stepS most (runS most c n) (n + 1)).1 ∧ ∀ r ∈ (stepS most (runS most c n) (n + 1)).1, ∃ p, (stepS most (runS most c n) (n + 1)).2 r.f0 = some p ∧ p.f2 ≠ 3
    obtain ⟨⟨l, c'⟩, hlc⟩ : ∃ x, x = runS most c n := ⟨_, rfl⟩
    rw [← hlc] at g0 g1 g2 g3 g4 ⊢
    simp only at g0 g1 g2 g3 g4
    have none_nz : ∀ j : Int, (∀ p, c' j = some p → p.f2 ≠ 2) → NZ c' j := fun j hj p hp hw => absurd hw (hj p hp)
    have all : NZ c' ((n : Int) + 1) → ∀ j : Int, 1 ≤ j → j ≤ ((n + 1 : Nat) : Int) → NZ c' j := fun hn j h1 h2 => by
      by_cases e : j = (n : Int) + 1
      · rw [e]; exact hn
      · exact g1 j h1 (by omega)
    unfold stepS
    simp only
    rw [show (((n + 1 : Nat) : Nat) : Int) = (n : Int) + 1 by omega]
    cases hc : c' ((n : Int) + 1) with
    | none =>
      refine ⟨g0, fun j h1 h2 => all (none_nz _ (fun p hp => by rw [hc] at hp; cases hp)) j h1 (by omega), g2, g3, g4⟩
    | some w =>
      simp only
      by_cases hw : w.f2 = 2
      · rw [if_pos hw]
        rcases serveR_spec g0 hc hw with ⟨e, hn⟩ | ⟨q, i, hi, hq, hz, hqi, e⟩
        · rw [e]
          simp only [Option.toList_none, List.append_nil]
          exact ⟨g0, fun j h1 h2 => all hn j h1 (by omega), g2, g3, g4⟩
        · rw [e]
          obtain ⟨s1, s2, s3, s4, s5, s6⟩ := inv0_served g0 hc hw hi hq hz
          simp only [Option.toList_some]
          have hw0 := (g0.key hc).1
          refine ⟨s1, fun j h1 h2 => ?_, fun k r hr => ?_, fun r hr => ?_, fun r hr => ?_⟩
          · by_cases ej : j = (n : Int) + 1
            · subst ej; intro p' hp' hw'; exact absurd hw' (s6 p' hp')
            · exact s3 j (g1 j h1 (by omega))
          · obtain ⟨r', hr'⟩ := s5 k r hr
            exact g2 k r' hr'
          · rcases List.mem_append.1 hr with hr | hr
            · obtain ⟨a, b, _⟩ := g3 r hr
              obtain ⟨p', hp', hz'⟩ := g4 r hr
              obtain ⟨r', x1, x2⟩ := s4 _ p' hp' hz'
              refine ⟨a, ?_, ⟨r', x1⟩⟩
              cases hx : servedC c' w q r.f1 with
              | none => rfl
              | some y => obtain ⟨y', hy'⟩ := s5 _ _ hx; rw [b] at hy'; cases hy'
            · simp only [List.mem_singleton] at hr
              subst hr
              refine ⟨?_, by simp only; rw [hqi]; exact s2, ?_⟩
              · simp only; rw [hqi]; exact g2 i q hi
              · obtain ⟨r', x1, _⟩ := s4 _ w hc (by rw [hw]; decide)
                simp only; rw [hw0]; exact ⟨r', x1⟩
          · rcases List.mem_append.1 hr with hr | hr
            · obtain ⟨p', hp', hz'⟩ := g4 r hr
              exact s4 _ p' hp' hz'
            · simp only [List.mem_singleton] at hr
              subst hr
              simp only; rw [hw0]
              exact s4 _ w hc (by rw [hw]; decide)
      · rw [if_neg hw]
        exact ⟨g0, fun j h1 h2 => all (none_nz _ (fun p hp => by rw [hc] at hp; cases hp; exact hw)) j h1 (by omega), g2, g3, g4⟩
theorem inv_exit {c : Tab} {most : Int} {rank : Int → Nat} (h : Inv c most rank) (pid code : Int) : Inv (exitR c most pid code).2.2 most rank ∧ Told c (exitR c most pid code).2.2 (exitR c most pid code).1 := by
  have told0 : ∀ c' : Tab, Told c c' [] := fun c' r hr => by cases hr
  unfold exitR
  cases hp : c pid with
  | none => exact ⟨h, told0 _⟩
  | some p =>
    simp only
    by_cases h1 : pid = 1
    · rw [if_pos h1]; exact ⟨h, told0 _⟩
    · rw [if_neg h1]
      by_cases hz : p.f2 = 3
      · rw [if_pos hz]; exact ⟨h, told0 _⟩
      · rw [if_neg hz]
        obtain ⟨e1, e2⟩ := inv0_ended h.1 (code := code) hp h1 hz
        obtain ⟨g0, g1, g2, g3, g4⟩ := runS_inv e1 most.toNat
        simp only
        refine ⟨⟨g0, fun j p' hp' => ?_⟩, fun r hr => ?_⟩
        · obtain ⟨_, k1, k2⟩ := g0.key hp'
          exact g1 j k1 (by omega) p' hp'
        · obtain ⟨a, b, d⟩ := g3 r hr
          exact ⟨(e2 _).1 a, b, d⟩
end Go.Proofs.Ytbaddcojhggamaa.PAll
