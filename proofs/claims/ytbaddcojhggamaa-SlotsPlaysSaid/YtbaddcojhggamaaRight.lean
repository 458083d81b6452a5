/-
  At and right, of a table's list, in plain Lean.
-/
import Derived.Test.YtbaddcojhggamaaInv
import Derived.Test.YtbaddcojhggamaaAllF21
namespace Go.Proofs.Ytbaddcojhggamaa.PAll
open Go.RowKit Go.Shelf Go.Proofs.YtbaddcojhggamaaM Go.Proofs.YtbaddcojhggamaaW.PrintWords
set_option linter.unusedVariables false
set_option linter.unusedSimpArgs false
theorem wrap_id {x : Int} (h : -9223372036854775808 ≤ x ∧ x ≤ 9223372036854775807) : wrap64 x = x := by unfold wrap64; omega
theorem rd_nat (l : List S36) (j : Nat) : rd_T36 l (j : Int) = l.getD j z36 := by unfold rd_T36; rw [Int.toNat_natCast]
theorem getD_mem {l : List S36} {j : Nat} (h : j < l.length) : l.getD j z36 ∈ l := by
  rw [List.getD_eq_getElem?_getD, List.getElem?_eq_getElem h]; simp
theorem at_l0 {l : List S36} (hl : l.length ≤ 1000) (pid : Int) : ∀ (d i k : Nat), i + d = l.length → d < k → ∃ r, prioryref13_At.l0 k l pid (i : Int) = some r ∧
    ((∃ j : Nat, i ≤ j ∧ j < l.length ∧ r = (j : Int) ∧ (l.getD j z36).f0 = pid) ∨ (r = -1 ∧ ∀ j : Nat, i ≤ j → j < l.length → (l.getD j z36).f0 ≠ pid))
  | 0, i, k + 1, h, _ => ⟨-1, by unfold prioryref13_At.l0; rw [if_neg (by omega)], .inr ⟨rfl, fun j h1 h2 => by omega⟩⟩
  | d + 1, i, k + 1, h, hk => by
    unfold prioryref13_At.l0
    rw [if_pos (by omega), if_pos (by omega), rd_nat]
    by_cases e : (l.getD i z36).f0 = pid
    · rw [if_pos e]; exact ⟨_, rfl, .inl ⟨i, Nat.le_refl _, by omega, rfl, e⟩⟩
    · rw [if_neg e, wrap_id (by omega)]
      obtain ⟨r, h1, h2⟩ := at_l0 hl pid d (i + 1) k (by omega) (by omega)
      refine ⟨r, by rw [show (i : Int) + 1 = ((i + 1 : Nat) : Int) by omega]; exact h1, ?_⟩
      rcases h2 with ⟨j, a, b, c, g⟩ | ⟨a, b⟩
      · exact .inl ⟨j, by omega, b, c, g⟩
      · refine .inr ⟨a, fun j h1 h2 => ?_⟩
        by_cases ej : j = i
        · rw [ej]; exact e
        · exact b j (by omega) h2
theorem at_in {l : List S36} (hl : l.length ≤ 1000) {pid : Int} (h : ∃ q ∈ l, q.f0 = pid) {k : Nat} (hk : l.length < k) : ∃ j : Nat, prioryref13_At.f k l pid = some (j : Int) ∧ j < l.length ∧ (l.getD j z36) ∈ l ∧ (l.getD j z36).f0 = pid := by
  obtain ⟨r, h1, h2⟩ := at_l0 hl pid l.length 0 k (by omega) hk
  rcases h2 with ⟨j, _, b, rfl, g⟩ | ⟨_, b⟩
  · exact ⟨j, h1, b, getD_mem b, g⟩
  · obtain ⟨q, hq, hq0⟩ := h
    obtain ⟨j, hj, e⟩ := List.getElem_of_mem hq
    exfalso
    refine b j (by omega) hj ?_
    rw [List.getD_eq_getElem?_getD, List.getElem?_eq_getElem hj, Option.getD_some, e]; exact hq0
theorem at_out {l : List S36} (hl : l.length ≤ 1000) {pid : Int} (h : ∀ q ∈ l, q.f0 ≠ pid) {k : Nat} (hk : l.length < k) : prioryref13_At.f k l pid = some (-1) := by
  obtain ⟨r, h1, h2⟩ := at_l0 hl pid l.length 0 k (by omega) hk
  rcases h2 with ⟨j, _, b, rfl, g⟩ | ⟨rfl, _⟩
  · exact absurd g (h _ (getD_mem b))
  · exact h1
theorem countP_lt {α : Type} {P Q : α → Bool} : ∀ {l : List α}, (∀ x ∈ l, P x = true → Q x = true) → ∀ {y : α}, y ∈ l → Q y = true → P y = false → l.countP P < l.countP Q
  | [], _, _, hy, _, _ => by cases hy
  | x :: l, h, y, hy, h1, h2 => by
    have hle : l.countP P ≤ l.countP Q := List.countP_mono_left (fun x hx => h x (List.mem_cons_of_mem _ hx))
    rw [List.countP_cons, List.countP_cons]
    rcases List.mem_cons.1 hy with rfl | hy
    · rw [if_pos h1, h2]; simp; omega
    · have := countP_lt (fun x hx => h x (List.mem_cons_of_mem _ hx)) hy h1 h2
      have hx := h x List.mem_cons_self
      by_cases e : P x = true
      · rw [if_pos e, if_pos (hx e)]; omega
      · rw [if_neg e]; split <;> omega
theorem right_l1 {l : List S36} (hl : l.length ≤ 1000) {rank : Int → Nat} (H : ∀ q ∈ l, q.f0 ≠ 1 → (∃ q' ∈ l, q'.f0 = q.f1) ∧ rank q.f1 < rank q.f0) : ∀ (n k x : Nat) (p : S36), p ∈ l → l.countP (fun q => decide (rank q.f0 < rank p.f0)) ≤ n → x + n ≤ l.length → n + l.length + 2 ≤ k →
    priorylaw13_right.l1 k l (x : Int) p.f0 p.f1 p.f2 p.f3 = some true
  | n, 0, x, p, _, _, _, hk => by omega
  | n, k + 1, x, p, hp, hn, hx, hk => by
    unfold priorylaw13_right.l1
    rw [if_pos (by omega)]
    by_cases e : p.f0 = 1
    · rw [if_pos e]
    · rw [if_neg e]
      obtain ⟨h1, h2⟩ := H p hp e
      obtain ⟨j, a, b, c, d⟩ := at_in hl h1 (k := k) (by omega)
      rw [a]
      simp only [Option.bind_some]
      rw [if_neg (by omega), if_pos (by omega), if_pos (by omega), rd_nat, wrap_id (by omega)]
      have hlt : l.countP (fun q => decide (rank q.f0 < rank (l.getD j z36).f0)) < l.countP (fun q => decide (rank q.f0 < rank p.f0)) := by
        refine countP_lt (fun x _ hx => ?_) c ?_ ?_
        · rw [d] at hx; exact decide_eq_true (by have := of_decide_eq_true hx; omega)
        · rw [d]; exact decide_eq_true h2
        · exact decide_eq_false (by omega)
      obtain ⟨n, rfl⟩ : ∃ m, n = m + 1 := ⟨n - 1, by omega⟩
      have := right_l1 hl H n k (x + 1) (l.getD j z36) c (by omega) (by omega) (by omega)
      rw [show (x : Int) + 1 = ((x + 1 : Nat) : Int) by omega]
      exact this
def chN (l : List S36) (pid : Int) : Nat := l.countP fun q => q.f1 == pid
def zoN (l : List S36) (pid : Int) : Nat := l.countP fun q => q.f1 == pid && q.f2 == 3
theorem right_l0 {l : List S36} (hl : l.length ≤ 1000) (p : S36) : ∀ (d i k a b : Nat), i + d = l.length → a + d ≤ 1000 → b + d ≤ 1000 →
    priorylaw13_right.l0 (d + k + 1) l (a : Int) (b : Int) (i : Int) p.f0 p.f1 p.f2 p.f3 = priorylaw13_right.l0 (k + 1) l ((a + chN (l.drop i) p.f0 : Nat) : Int) ((b + zoN (l.drop i) p.f0 : Nat) : Int) (l.length : Int) p.f0 p.f1 p.f2 p.f3
  | 0, i, k, a, b, h, _, _ => by
    have e : l.drop i = [] := List.drop_eq_nil_of_le (by omega)
    rw [e, show i = l.length by omega, show 0 + k + 1 = k + 1 by omega]; rfl
  | d + 1, i, k, a, b, h, ha, hb => by
    have hi : i < l.length := by omega
    have e : l.drop i = l.getD i z36 :: l.drop (i + 1) := by
      rw [List.drop_eq_getElem_cons hi, List.getD_eq_getElem?_getD, List.getElem?_eq_getElem hi]; rfl
    rw [show d + 1 + k + 1 = (d + k + 1) + 1 by omega]
    conv => lhs; unfold priorylaw13_right.l0
    rw [if_pos (by omega), if_pos (by omega), rd_nat, wrap_id (x := (a : Int) + 1) (by omega), wrap_id (x := (b : Int) + 1) (by omega), wrap_id (x := (i : Int) + 1) (by omega), e]
    have s1 : (i : Int) + 1 = ((i + 1 : Nat) : Int) := by omega
    have s2 : (a : Int) + 1 = ((a + 1 : Nat) : Int) := by omega
    have s3 : (b : Int) + 1 = ((b + 1 : Nat) : Int) := by omega
    rw [s1, s2, s3]
    obtain ⟨y, hy⟩ : ∃ y, y = l.getD i z36 := ⟨_, rfl⟩
    rw [← hy]
    by_cases e1 : y.f1 = p.f0
    · rw [if_pos e1]
      by_cases e2 : y.f2 = 3
      · rw [if_pos e2, right_l0 hl p d (i + 1) k (a + 1) (b + 1) (by omega) (by omega) (by omega)]
        have c1 : chN (y :: l.drop (i + 1)) p.f0 = chN (l.drop (i + 1)) p.f0 + 1 := by unfold chN; rw [List.countP_cons_of_pos (by simp [e1])]
        have c2 : zoN (y :: l.drop (i + 1)) p.f0 = zoN (l.drop (i + 1)) p.f0 + 1 := by unfold zoN; rw [List.countP_cons_of_pos (by simp [e1, e2])]
        rw [c1, c2, show a + 1 + chN (l.drop (i + 1)) p.f0 = a + (chN (l.drop (i + 1)) p.f0 + 1) by omega, show b + 1 + zoN (l.drop (i + 1)) p.f0 = b + (zoN (l.drop (i + 1)) p.f0 + 1) by omega]
      · rw [if_neg e2, right_l0 hl p d (i + 1) k (a + 1) b (by omega) (by omega) (by omega)]
        have c1 : chN (y :: l.drop (i + 1)) p.f0 = chN (l.drop (i + 1)) p.f0 + 1 := by unfold chN; rw [List.countP_cons_of_pos (by simp [e1])]
        have c2 : zoN (y :: l.drop (i + 1)) p.f0 = zoN (l.drop (i + 1)) p.f0 := by unfold zoN; rw [List.countP_cons_of_neg (by simp [e2])]
        rw [c1, c2, show a + 1 + chN (l.drop (i + 1)) p.f0 = a + (chN (l.drop (i + 1)) p.f0 + 1) by omega]
    · rw [if_neg e1, right_l0 hl p d (i + 1) k a b (by omega) (by omega) (by omega)]
      have c1 : chN (y :: l.drop (i + 1)) p.f0 = chN (l.drop (i + 1)) p.f0 := by unfold chN; rw [List.countP_cons_of_neg (by simpa using e1)]
      have c2 : zoN (y :: l.drop (i + 1)) p.f0 = zoN (l.drop (i + 1)) p.f0 := by unfold zoN; rw [List.countP_cons_of_neg (by simp [e1])]
      rw [c1, c2]
theorem right_true {c : Tab} {most : Int} {rank : Int → Nat} (h : Inv c most rank) (hm : most ≤ 8) {p : S36} (hp : p ∈ lstF c most.toNat) : priorylaw13_right.f 64 (lstF c most.toNat) p.f0 p.f1 p.f2 p.f3 = some true := by
  obtain ⟨h0, hnz⟩ := h
  have hlen : (lstF c most.toNat).length ≤ 8 := Nat.le_trans (lstF_len c _) (by omega)
  obtain ⟨l, hl⟩ : ∃ l, l = lstF c most.toNat := ⟨_, rfl⟩
  have mem : ∀ q : S36, q ∈ l ↔ c q.f0 = some q := fun q => by rw [hl]; exact h0.mem
  rw [← hl] at hlen hp ⊢
  have hpc := (mem p).1 hp
  have chain : ∀ k, 20 ≤ k → priorylaw13_right.l1 k l ((0 : Nat) : Int) p.f0 p.f1 p.f2 p.f3 = some true := fun k hk => by
    refine right_l1 (rank := rank) (by omega) (fun q hq hq1 => ?_) l.length k 0 p hp List.countP_le_length (by omega) (by omega)
    obtain ⟨⟨r, hr⟩, hrk⟩ := h0.par ((mem q).1 hq) hq1
    exact ⟨⟨r, (mem r).2 (by rw [(h0.key hr).1]; exact hr), (h0.key hr).1⟩, hrk⟩
  have hw : p.f2 = 2 → chN l p.f0 ≠ 0 ∧ zoN l p.f0 = 0 := fun hw => by
    obtain ⟨i, q, hi, hq⟩ := h0.wt hpc hw
    refine ⟨fun e => ?_, ?_⟩
    · have := List.countP_eq_zero.1 e q ((mem q).2 (by rw [(h0.key hi).1]; exact hi))
      simp [hq] at this
    · refine List.countP_eq_zero.2 (fun q hq hb => ?_)
      simp only [Bool.and_eq_true, beq_iff_eq] at hb
      exact hnz p.f0 p hpc hw _ q ((mem q).1 hq) hb.1 hb.2
  have hz : p.f2 = 3 → chN l p.f0 = 0 := fun hz => List.countP_eq_zero.2 (fun q hq hb => by
    simp only [beq_iff_eq] at hb
    exact h0.zom hpc hz ((mem q).1 hq) hb)
  have hc : p.f2 ≠ 3 → p.f3 = 0 := fun hs => h0.code hpc hs
  have j1 : ∀ k, 21 ≤ k → priorylaw13_right.j1 k l false p.f0 p.f1 p.f2 p.f3 = some true := fun k hk => by
    obtain ⟨k, rfl⟩ : ∃ m, k = m + 1 := ⟨k - 1, by omega⟩
    rw [priorylaw13_right.j1, if_neg (by simp)]
    exact chain k (by omega)
  have e0 : priorylaw13_right.f 64 l p.f0 p.f1 p.f2 p.f3 = priorylaw13_right.l0 ((63 - l.length) + 1) l ((chN l p.f0 : Nat) : Int) ((zoN l p.f0 : Nat) : Int) (l.length : Int) p.f0 p.f1 p.f2 p.f3 := by
    have := right_l0 (l := l) (by omega) p l.length 0 (63 - l.length) 0 0 (by omega) (by omega) (by omega)
    rw [show l.length + (63 - l.length) + 1 = 64 by omega, List.drop_zero, Nat.zero_add, Nat.zero_add] at this
    exact this
  rw [e0]
  unfold priorylaw13_right.l0
  rw [if_neg (by omega)]
  by_cases e2 : p.f2 = 2
  · obtain ⟨a, b⟩ := hw e2
    rw [if_pos e2, if_neg (by omega), b, if_neg (by omega), if_neg (by omega), show (p.f3 != 0) = false by rw [hc (by omega)]; rfl]
    exact j1 (63 - l.length) (by omega)
  · rw [if_neg e2]
    by_cases e3 : p.f2 = 3
    · rw [if_pos e3, hz e3, if_neg (by omega)]
      exact j1 (63 - l.length) (by omega)
    · rw [if_neg e3, show (p.f3 != 0) = false by rw [hc e3]; rfl]
      exact j1 (63 - l.length) (by omega)
end Go.Proofs.Ytbaddcojhggamaa.PAll
