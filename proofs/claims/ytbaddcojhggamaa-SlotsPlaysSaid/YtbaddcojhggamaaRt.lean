/-
  The reference's list of a table, in plain Lean; the reference's table in memory; what Add needs of a table's list.
-/
import Derived.Test.YtbaddcojhggamaaRight
import Derived.Test.YtbaddcojhggamaaAllF31
import Derived.Test.YtbaddcojhggamaaFull
import Derived.Test.YtbaddcojhggamaaAllF20
namespace Go.Proofs.Ytbaddcojhggamaa.PAll
open Go.RowKit Go.Shelf Go.Proofs.YtbaddcojhggamaaM Go.Proofs.YtbaddcojhggamaaW.PrintWords
set_option linter.unusedVariables false
set_option linter.unusedSimpArgs false
/-- Rising by the numbers. -/
def Ris (L : List S36) : Prop := L.Pairwise (fun a b => a.f0 < b.f0)
/-- The list of a table. -/
def Lst (c : Tab) (L : List S36) : Prop := Ris L ∧ ∀ p, p ∈ L ↔ c p.f0 = some p
theorem ris_ext : ∀ {A B : List S36}, Ris A → Ris B → (∀ x, x ∈ A ↔ x ∈ B) → A = B
  | [], [], _, _, _ => rfl
  | [], b :: B, _, _, h => by have := (h b).2 (by simp); cases this
  | a :: A, [], _, _, h => by have := (h a).1 (by simp); cases this
  | a :: A, b :: B, ha, hb, h => by
    obtain ⟨ha1, ha2⟩ := List.pairwise_cons.1 ha
    obtain ⟨hb1, hb2⟩ := List.pairwise_cons.1 hb
    have e : a = b := by
      rcases List.mem_cons.1 ((h a).1 (by simp)) with e | e
      · exact e
      · rcases List.mem_cons.1 ((h b).2 (by simp)) with e' | e'
        · exact e'.symm
        · have := hb1 a e; have := ha1 b e'; omega
    subst e
    rw [ris_ext ha2 hb2 (fun x => ?_)]
    constructor
    · intro hx
      rcases List.mem_cons.1 ((h x).1 (List.mem_cons_of_mem _ hx)) with e | e
      · have := ha1 x hx; rw [e] at this; omega
      · exact e
    · intro hx
      rcases List.mem_cons.1 ((h x).2 (List.mem_cons_of_mem _ hx)) with e | e
      · have := hb1 x hx; rw [e] at this; omega
      · exact e
theorem lstF_ris {c : Tab} (hk : ∀ {j p}, c j = some p → p.f0 = j) : ∀ n : Nat, Ris (lstF c n)
  | 0 => List.Pairwise.nil
  | n + 1 => by
    rw [lstF_succ]
    refine List.pairwise_append.2 ⟨lstF_ris hk n, ?_, fun a ha b hb => ?_⟩
    · cases c ((n : Int) + 1) <;> simp
    · obtain ⟨j, hj, hcj⟩ := mem_lst.1 ha
      have h1 := hk hcj
      have h2 := hk (Option.mem_toList.1 hb)
      omega
theorem lst_of {c : Tab} {most : Int} {rank : Int → Nat} (h : Inv0 c most rank) : Lst c (lstF c most.toNat) := ⟨lstF_ris (fun hj => (h.key hj).1) _, fun p => h.mem⟩
theorem lst_uniq {c : Tab} {L M : List S36} (h : Lst c L) (h' : Lst c M) : L = M := ris_ext h.1 h'.1 (fun x => (h.2 x).trans (h'.2 x).symm)
theorem lst_eq {c : Tab} {most : Int} {rank : Int → Nat} (h : Inv0 c most rank) {L : List S36} (hL : Lst c L) : L = lstF c most.toNat := lst_uniq hL (lst_of h)
theorem ris_get {L : List S36} (h : Ris L) {i j : Nat} (hi : i < L.length) (hj : j < L.length) : (L[i].f0 < L[j].f0 ↔ i < j) := by
  have h' := List.pairwise_iff_getElem.1 h
  constructor
  · intro hl
    rcases Nat.lt_trichotomy i j with e | e | e
    · exact e
    · subst e; omega
    · have := h' j i hj hi e; omega
  · exact h' i j hi hj
theorem ris_inj {L : List S36} (h : Ris L) {i j : Nat} (hi : i < L.length) (hj : j < L.length) (e : L[i].f0 = L[j].f0) : i = j := by
  have h1 := ris_get h hi hj
  have h2 := ris_get h hj hi
  omega
theorem getD_el {L : List S36} {k : Nat} (hk : k < L.length) : L.getD k z36 = L[k] := by
  rw [List.getD_eq_getElem?_getD, List.getElem?_eq_getElem hk]; rfl
/-- One is set anew. -/
theorem lst_set {c : Tab} {L : List S36} (h : Lst c L) {k : Nat} (hk : k < L.length) {p' : S36} (hp : p'.f0 = (L.getD k z36).f0) : Lst (upd c p'.f0 (some p')) (L.set k p') := by
  rw [getD_el hk] at hp
  have f0 : ∀ (i : Nat) (hi : i < (L.set k p').length), ((L.set k p')[i]).f0 = (L[i]'(by simpa using hi)).f0 := fun i hi => by
    rw [List.getElem_set]
    split
    · rename_i e; subst e; exact hp
    · rfl
  refine ⟨List.pairwise_iff_getElem.2 (fun i j hi hj hij => ?_), fun p => ?_⟩
  · rw [f0 i hi, f0 j hj]
    exact List.pairwise_iff_getElem.1 h.1 i j _ _ hij
  · unfold upd
    constructor
    · intro hm
      obtain ⟨i, hi, e⟩ := List.getElem_of_mem hm
      rw [List.getElem_set] at e
      split at e
      · subst e; rw [if_pos rfl]
      · rename_i hne
        have hm2 : p ∈ L := by rw [← e]; exact List.getElem_mem _
        have hi' : i < L.length := by simpa using hi
        rw [if_neg (fun e2 => hne (ris_inj h.1 hk hi' (by rw [e, e2, hp])))]
        exact (h.2 p).1 hm2
    · intro hc
      by_cases e : p.f0 = p'.f0
      · rw [if_pos e] at hc
        obtain rfl := Option.some.inj hc
        exact List.mem_iff_getElem.2 ⟨k, by simpa using hk, by simp⟩
      · rw [if_neg e] at hc
        obtain ⟨i, hi, e2⟩ := List.getElem_of_mem ((h.2 p).2 hc)
        refine List.mem_iff_getElem.2 ⟨i, by simpa using hi, ?_⟩
        rw [List.getElem_set, if_neg (fun e3 => e (by subst e3; rw [← e2, hp]))]
        exact e2
/-- One is taken out. -/
theorem lst_del {c : Tab} {L : List S36} (h : Lst c L) {k : Nat} (hk : k < L.length) : Lst (upd c (L.getD k z36).f0 none) (L.take k ++ L.drop (k + 1)) := by
  rw [getD_el hk, ← List.eraseIdx_eq_take_drop_succ]
  refine ⟨List.Pairwise.sublist (List.eraseIdx_sublist L k) h.1, fun p => ?_⟩
  rw [List.mem_eraseIdx_iff_getElem]
  unfold upd
  constructor
  · rintro ⟨i, hi, hne, rfl⟩
    rw [if_neg (fun e => hne (ris_inj h.1 hi hk e))]
    exact (h.2 _).1 (List.getElem_mem _)
  · intro hc
    by_cases e : p.f0 = L[k].f0
    · rw [if_pos e] at hc; cases hc
    · rw [if_neg e] at hc
      obtain ⟨i, hi, e2⟩ := List.getElem_of_mem ((h.2 p).2 hc)
      exact ⟨i, hi, fun e3 => e (by subst e3; rw [← e2]), e2⟩
/-- One is put in. -/
theorem lst_ins {c : Tab} {L : List S36} (h : Lst c L) {q : S36} (hn : c q.f0 = none) {m : Nat} (h1 : ∀ x ∈ L.take m, x.f0 < q.f0) (h2 : ∀ x ∈ L.drop m, q.f0 < x.f0) : Lst (upd c q.f0 (some q)) (L.take m ++ [q] ++ L.drop m) := by
  have hp : Ris (L.take m ++ L.drop m) := by rw [List.take_append_drop]; exact h.1
  obtain ⟨p1, p2, p3⟩ := List.pairwise_append.1 hp
  refine ⟨List.pairwise_append.2 ⟨List.pairwise_append.2 ⟨p1, by simp, fun a ha b hb => ?_⟩, p2, fun a ha b hb => ?_⟩, fun p => ?_⟩
  · simp only [List.mem_singleton] at hb; subst hb; exact h1 a ha
  · rcases List.mem_append.1 ha with ha | ha
    · exact p3 a ha b hb
    · simp only [List.mem_singleton] at ha; subst ha; exact h2 b hb
  · have hm : p ∈ L ↔ p ∈ L.take m ∨ p ∈ L.drop m := by rw [← List.mem_append, List.take_append_drop]
    have hL := h.2 p
    simp only [List.mem_append, List.mem_singleton]
    unfold upd
    by_cases e : p.f0 = q.f0
    · rw [if_pos e]
      constructor
      · rintro ((hx | rfl) | hx)
        · have := h1 p hx; omega
        · rfl
        · have := h2 p hx; omega
      · intro hx; exact .inl (.inr (Option.some.inj hx).symm)
    · rw [if_neg e, ← hL, hm]
      constructor
      · rintro ((hx | rfl) | hx)
        · exact .inl hx
        · exact absurd rfl e
        · exact .inr hx
      · rintro (hx | hx)
        · exact .inl (.inl hx)
        · exact .inr hx
/-- All are changed alike, but for the number. -/
theorem lst_map {c : Tab} {L : List S36} (h : Lst c L) (f : S36 → S36) (hf : ∀ x, (f x).f0 = x.f0) (hk : ∀ {j p}, c j = some p → p.f0 = j) : Lst (fun j => (c j).map f) (L.map f) := by
  refine ⟨List.pairwise_map.2 (h.1.imp (fun hab => by rw [hf, hf]; exact hab)), fun p => ?_⟩
  rw [List.mem_map]
  simp only [Option.map_eq_some_iff]
  constructor
  · rintro ⟨x, hx, rfl⟩
    exact ⟨x, by rw [hf]; exact (h.2 x).1 hx, rfl⟩
  · rintro ⟨x, hx, rfl⟩
    have := hk hx
    rw [hf] at hx
    exact ⟨x, (h.2 x).2 hx, rfl⟩
/-- At, where one is, and where none is. -/
theorem at_pos {c : Tab} {L : List S36} (h : Lst c L) (hl : L.length ≤ 60) {pid : Int} {p : S36} (hp : c pid = some p) (hp0 : p.f0 = pid) : ∃ j : Nat, prioryref13_At.f 64 L pid = some (j : Int) ∧ j < L.length ∧ L.getD j z36 = p := by
  obtain ⟨j, h1, h2, h3, h4⟩ := at_in (l := L) (by omega) (pid := pid) ⟨p, (h.2 p).2 (by rw [hp0]; exact hp), hp0⟩ (k := 64) (by omega)
  have h5 := (h.2 _).1 h3
  rw [h4, hp] at h5
  exact ⟨j, h1, h2, (Option.some.inj h5).symm⟩
theorem at_none {c : Tab} {L : List S36} (h : Lst c L) (hl : L.length ≤ 60) {pid : Int} (hp : c pid = none) : prioryref13_At.f 64 L pid = some (-1) := by
  refine at_out (by omega) (fun q hq e => ?_) (by omega)
  have := (h.2 q).1 hq
  rw [e, hp] at this; cases this
theorem child_l0 {l : List S36} (hl : l.length ≤ 1000) (pid : Int) : ∀ (d i k : Nat), i + d = l.length → d < k → ∃ r, prioryref13_child.l0 k l pid (i : Int) = some r ∧
    ((∃ j : Nat, i ≤ j ∧ j < l.length ∧ r = (j : Int) ∧ (l.drop i).find? (isKid pid) = some (l.getD j z36)) ∨ (r = -1 ∧ (l.drop i).find? (isKid pid) = none))
  | 0, i, k + 1, h, _ => ⟨-1, by unfold prioryref13_child.l0; rw [if_neg (by omega)], .inr ⟨rfl, by rw [List.drop_eq_nil_of_le (by omega)]; rfl⟩⟩
  | d + 1, i, k + 1, h, hk => by
    have hi : i < l.length := by omega
    have hd : l.drop i = l.getD i z36 :: l.drop (i + 1) := by rw [List.drop_eq_getElem_cons hi, getD_el hi]
    obtain ⟨r, h1, h2⟩ := child_l0 hl pid d (i + 1) k (by omega) (by omega)
    have hw : wrap64 ((i : Int) + 1) = ((i + 1 : Nat) : Int) := by rw [wrap_id (by omega)]; omega
    unfold prioryref13_child.l0
    rw [if_pos (by omega), if_pos (by omega), rd_nat, hd]
    obtain ⟨y, hy⟩ : ∃ y, y = l.getD i z36 := ⟨_, rfl⟩
    rw [← hy, hw]
    by_cases e : y.f1 = pid
    · by_cases e2 : y.f2 = 3
      · refine ⟨(i : Int), by rw [if_pos e, if_pos e2], .inl ⟨i, Nat.le_refl _, hi, rfl, ?_⟩⟩
        rw [List.find?_cons_of_pos (by simp [isKid, e, e2]), hy]
      · refine ⟨r, by rw [if_pos e, if_neg e2]; exact h1, ?_⟩
        rw [List.find?_cons_of_neg (by simp [isKid, e, e2])]
        rcases h2 with ⟨j, a, b⟩ | h2
        · exact .inl ⟨j, by omega, b⟩
        · exact .inr h2
    · refine ⟨r, by rw [if_neg e]; exact h1, ?_⟩
      rw [List.find?_cons_of_neg (by simp [isKid, e])]
      rcases h2 with ⟨j, a, b⟩ | h2
      · exact .inl ⟨j, by omega, b⟩
      · exact .inr h2
theorem child_of {l : List S36} (hl : l.length ≤ 60) (pid : Int) : (∃ j : Nat, prioryref13_child.f 64 l pid = some (j : Int) ∧ j < l.length ∧ l.find? (isKid pid) = some (l.getD j z36)) ∨ (prioryref13_child.f 64 l pid = some (-1) ∧ l.find? (isKid pid) = none) := by
  obtain ⟨r, h1, h2⟩ := child_l0 (l := l) (by omega) pid l.length 0 64 (by omega) (by omega)
  rcases h2 with ⟨j, a, b, rfl, g⟩ | ⟨rfl, g⟩
  · exact .inl ⟨j, h1, b, g⟩
  · exact .inr ⟨h1, g⟩
end Go.Proofs.Ytbaddcojhggamaa.PAll
namespace Go.Proofs.Ytbaddcojhggamaa.PAll
open Go.RowKit Go.Shelf Go.Proofs.YtbaddcojhggamaaM Go.Proofs.YtbaddcojhggamaaW.PrintWords Go.Proofs.YtbaddcojhggamaaW.PrintLast Go.Proofs.YtbaddcojhggamaaW.PrintMore
set_option linter.unusedVariables false
set_option linter.unusedSimpArgs false
/-- The reference's table at g, away from m: how many slots, the list. -/
def RTab (W : World) (g m : Nat) (most : Int) (L : List S36) : Prop := ∃ A c, W.heap[g]? = some (.cells #[.int .i64 most, .slice A L.length c] 47 (0, 0)) ∧ L.length ≤ c ∧ Kd.C k36 W A L.length L ∧ ∀ ad, A = some ad → 0 < L.length → ad.block ≠ g ∧ ad.block ≠ m
theorem gb_below {w W : World} (h : Below w.heap.size w W) : w.grownBy W none := ⟨h.os, h.tape, h.output, h.size, fun k hk _ => h.block k hk⟩
theorem C_far {g : Nat} {W W' : World} {A : Option Addr} {n : Nat} {xs : List S36} (h : Kd.C k36 W A n xs) (hf : ∀ ad, A = some ad → 0 < n → ad.block ≠ g) (hg : W.grownBy W' (some g)) : Kd.C k36 W' A n xs :=
  Kd.C_foot_ne (fun {W W' x cs} hk => by rw [k36_open hk]; exact k36_mk W' x) h hf W' ⟨hg.size, fun i hi h1 _ => hg.block i hi (fun e => h1 (Option.some.inj e))⟩
theorem RTab.lt {W : World} {g m : Nat} {most : Int} {L : List S36} (h : RTab W g m most L) : g < W.heap.size := by
  obtain ⟨A, c, h1, _⟩ := h; exact blk_lt h1
theorem RTab.grown {W W' : World} {g m : Nat} {most : Int} {L : List S36} (h : RTab W g m most L) (hg : W.grownBy W' none) : RTab W' g m most L := by
  obtain ⟨A, c, h1, h2, h3, h4⟩ := h
  exact ⟨A, c, blk_grown h1 hg (by simp), h2, Kd.C_below h3 (below_of_grown hg), h4⟩
theorem RTab.grown_m {W W' : World} {g m : Nat} {most : Int} {L : List S36} (h : RTab W g m most L) (hg : W.grownBy W' (some m)) (hne : g ≠ m) : RTab W' g m most L := by
  obtain ⟨A, c, h1, h2, h3, h4⟩ := h
  exact ⟨A, c, blk_grown h1 hg (fun e => hne (Option.some.inj e)), h2, C_far h3 (fun ad e hn => (h4 ad e hn).2) hg, h4⟩
/-- A table whose list is a row of the call's own. -/
theorem RTab.of_own {W : World} {g m base e : Nat} {most : Int} {v : Value} {L : List S36} {ok : Nat → Prop} (hb : W.heap[g]? = some (.cells #[.int .i64 most, v] 47 (0, 0))) (h : Kd.R k36 e W base ok v L) (hg : g < base) (hm : m < base) : RTab W g m most L := by
  obtain ⟨A, c, rfl, h1, h2⟩ := Kd.R_reads h
  refine ⟨A, c, hb, h1, h2, fun ad ha _ => ?_⟩
  have := Kd.R_base h ad.block (by rw [ha]; simp [Value.ownBlock])
  omega
theorem freeF_some {c : Tab} : ∀ (d n r : Nat), n ≤ r → r < n + d → (∀ j : Nat, n ≤ j → j < r → c j ≠ none) → c r = none → freeF c d n = some r
  | 0, n, r, h1, h2, _, _ => by omega
  | d + 1, n, r, h1, h2, h3, h4 => by
    unfold freeF
    by_cases e : n = r
    · subst e; rw [if_pos (by rw [h4]; rfl)]
    · have h5 := h3 n (Nat.le_refl _) (by omega)
      rw [if_neg (by rw [Option.isNone_iff_eq_none]; exact h5)]
      exact freeF_some d (n + 1) r (by omega) (by omega) (fun j a b => h3 j (by omega) b) h4
theorem freeF_none {c : Tab} : ∀ (d n : Nat), (∀ j : Nat, n ≤ j → j < n + d → c j ≠ none) → freeF c d n = none
  | 0, n, _ => rfl
  | d + 1, n, h => by
    unfold freeF
    rw [if_neg (by rw [Option.isNone_iff_eq_none]; exact h n (Nat.le_refl _) (by omega))]
    exact freeF_none d (n + 1) (fun j a b => h j (by omega) (by omega))
theorem lst_full {c : Tab} : ∀ (p : Nat), (∀ j : Nat, 1 ≤ j → j ≤ p → c j ≠ none) → (lstF c p).length = p
  | 0, _ => rfl
  | p + 1, h => by
    rw [lstF_succ, List.length_append, lst_full p (fun j a b => h j a (by omega))]
    cases hc : c ((p : Int) + 1) with
    | none => exact absurd hc (by have := h (p + 1) (by omega) (Nat.le_refl _); rwa [show (((p + 1 : Nat) : Nat) : Int) = (p : Int) + 1 by omega] at this)
    | some q => rfl
/-- Where the least free number goes. -/
theorem add_cut {c : Tab} {most : Int} {rank : Int → Nat} (h : Inv0 c most rank) {p : Nat} (hp : (p : Int) ≤ most) (hall : ∀ j : Nat, 1 ≤ j → j ≤ p → c j ≠ none) (hn : c ((p : Int) + 1) = none) :
    p ≤ (lstF c most.toNat).length ∧ (∀ x ∈ (lstF c most.toNat).take p, x.f0 < (p : Int) + 1) ∧ ∀ x ∈ (lstF c most.toNat).drop p, (p : Int) + 1 < x.f0 := by
  obtain ⟨r, hr⟩ := lst_mono (c := c) (n := p) (n' := most.toNat) (by omega)
  have hlen := lst_full p hall
  have ht : (lstF c most.toNat).take p = lstF c p := by rw [hr, List.take_append_of_le_length (by omega), List.take_of_length_le (by omega)]
  have hd : (lstF c most.toNat).drop p = r := by rw [hr, List.drop_append_of_le_length (by omega), List.drop_of_length_le (by omega)]; rfl
  refine ⟨by rw [hr, List.length_append]; omega, fun x hx => ?_, fun x hx => ?_⟩
  · rw [ht] at hx
    obtain ⟨j, hj, hcj⟩ := mem_lst.1 hx
    have := (h.key hcj).1; omega
  · rw [hd] at hx
    have hr2 := (lst_of h).1
    rw [hr] at hr2
    have h3 := (List.pairwise_append.1 hr2).2.2
    have hxc : c x.f0 = some x := ((lst_of h).2 x).1 (by rw [hr]; exact List.mem_append_right _ hx)
    obtain ⟨_, k1, k2⟩ := h.key hxc
    by_cases hle : x.f0 ≤ p
    · have hm : x ∈ lstF c p := mem_lst.2 ⟨(x.f0 - 1).toNat, by omega, by rw [show (((x.f0 - 1).toNat : Nat) : Int) + 1 = x.f0 by omega]; exact hxc⟩
      have := h3 x hm x hx; omega
    · by_cases e : x.f0 = (p : Int) + 1
      · rw [e, hn] at hxc; cases hxc
      · omega
end Go.Proofs.Ytbaddcojhggamaa.PAll
