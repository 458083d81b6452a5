/-
  The set in memory.
-/
import Derived.Test.YtiaegandgjgjhaaDoorAllBase
import Derived.IntWalk
import Derived.Test.YtiaegandgjgjhaaDoorDraw
namespace Go.Proofs.YtiaegandgjgjhaaDoor.PAll
open Go.RowKit Go.Proofs.YtiaegandgjgjhaaDoorM Go.Proofs.YtiaegandgjgjhaaDoorW.PrintWords Go.Proofs.YtiaegandgjgjhaaDoorW.PrintLast Go.Proofs.YtiaegandgjgjhaaDoorW.PrintMore
set_option linter.unusedVariables false
set_option linter.unusedSimpArgs false
/-- The cells of a set. -/
def sc (made : Bool) (ws : List Nat) : Array Value := (.bool made :: ws.map fun x : Nat => Value.int .u64 (x : Int)).toArray
def SetB (W : World) (g : Nat) (made : Bool) (ws : List Nat) : Prop := W.heap[g]? = some (.cells (sc made ws) 48 (0, 0)) ∧ ws.length = 16 ∧ ∀ x ∈ ws, x < 18446744073709551616
theorem tab_len {made : Bool} {ws : List Nat} (h : ws.length = 16) : (sc made ws).size = 17 := by simp [sc, h]
set_option maxHeartbeats 2000000 in
theorem asked_made (g : Nat) (ws : List Nat) (n : Int) (w : World) (h : w.cell? ⟨g, 0, none⟩ = some (.bool true)) :
    Calls Tryd.prog 22 #[.pointer (some ⟨g, 0, none⟩), .int .i64 n] w fun e W' => e = .returned (.int .i64 (if n < 0 ∨ 1024 ≤ n then 2 else 0)) ∧ W' = w := by
  by_cases h0 : n < 0
  · rw [if_pos (.inl h0)]
    go_enter Tryd.func22, Tryd.ntmps22
    go_wp2
    go_ret
    exact ⟨rfl, rfl⟩
  · by_cases h1 : 1024 ≤ n
    · rw [if_pos (.inr h1)]
      go_enter Tryd.func22, Tryd.ntmps22
      go_wp2
      go_ret
      exact ⟨rfl, rfl⟩
    · rw [if_neg (by omega)]
      go_enter Tryd.func22, Tryd.ntmps22
      go_wp2
      go_ret
      exact ⟨rfl, rfl⟩
theorem asked_unmade (g : Nat) (n : Int) (w : World) (h : w.cell? ⟨g, 0, none⟩ = some (.bool false)) :
    Calls Tryd.prog 22 #[.pointer (some ⟨g, 0, none⟩), .int .i64 n] w fun e W' => e = .returned (.int .i64 1) ∧ W' = w := by
  go_enter Tryd.func22, Tryd.ntmps22
  go_wp2
  go_ret
  exact ⟨rfl, rfl⟩
theorem asked_nil (n : Int) (w : World) :
    Calls Tryd.prog 22 #[.pointer none, .int .i64 n] w fun e W' => e = .returned (.int .i64 1) ∧ W' = w := by
  go_enter Tryd.func22, Tryd.ntmps22
  go_wp2
  go_ret
  exact ⟨rfl, rfl⟩
set_option maxRecDepth 100000 in
set_option maxHeartbeats 8000000 in
theorem turn_calls (g : Nat) (ws : List Nat) (n : Nat) (hn : n < 1024) (w : World) (hc : w.cell? ⟨g, 1 + n / 64, none⟩ = some (.int .u64 ((ws.getD (n / 64) 0 : Nat) : Int))) (hf : w.frozen? ⟨g, 1 + n / 64, none⟩ = false) :
    Calls Tryd.prog 21 #[.pointer (some ⟨g, 0, none⟩), .int .i64 (n : Int)] w fun e W' => e = .returned (.tuple #[]) ∧ W' = (w.setCell ⟨g, 1 + n / 64, none⟩ (.int .u64 (bits .xor .u64 ((ws.getD (n / 64) 0 : Nat) : Int) (IntKind.u64.wrap (2 ^ (n % 64)))))).drew := by
  refine (callsIn_wide (n := 4)).1 ?_
  refine callsIn_of_wp Tryd.func21 rfl trivial ?_
  simp only [Tryd.ntmps21, List.size_toArray, List.length_cons, List.length_nil, Nat.reduceAdd, Nat.reduceSub, Array.replicate_succ, Array.replicate_zero, List.push_toArray, List.append_toArray, List.nil_append, List.cons_append]
  gi_wp2_with fail
  refine wpIn_draw (l := _) (by kernel_rfl) 14 [(0, 4), (1, 5), (2, 6), (3, 7), (4, 8), (5, 9), (6, 10), (7, 11), (8, 12), (9, 13), (10, 14), (11, 15), (12, 16), (13, 17)] (RdI 14 [.pointer (some ⟨g, 0, none⟩), .int .i64 (n : Int), .int .i64 ((n : Int) / 64), .pointer (some ⟨g, 0, none⟩), .pointer (some ⟨g, 1, none⟩), .pointer (some ⟨g, 1 + n / 64, none⟩), .int .u64 ((ws.getD (n / 64) 0 : Nat) : Int), .int .i64 (n : Int), .int .i64 ((n : Int) % 64), .int .u64 (IntKind.u64.wrap (2 ^ (n % 64))), .int .u64 (bits .xor .u64 ((ws.getD (n / 64) 0 : Nat) : Int) (IntKind.u64.wrap (2 ^ (n % 64)))), .pointer (some ⟨g, 0, none⟩), .pointer (some ⟨g, 1, none⟩), .pointer (some ⟨g, 1 + n / 64, none⟩)] w) (by kernel_rfl) rfl (RdI.start _ _ _) ?hs ?ht
  case hs =>
    intro i o hi ho bq fq W' hbi hdep hI
    obtain ⟨rfl, hI2⟩ := hI
    have HI := Aside0.mk (show RdI 14 [.pointer (some ⟨g, 0, none⟩), .int .i64 (n : Int), .int .i64 ((n : Int) / 64), .pointer (some ⟨g, 0, none⟩), .pointer (some ⟨g, 1, none⟩), .pointer (some ⟨g, 1 + n / 64, none⟩), .int .u64 ((ws.getD (n / 64) 0 : Nat) : Int), .int .i64 (n : Int), .int .i64 ((n : Int) % 64), .int .u64 (IntKind.u64.wrap (2 ^ (n % 64))), .int .u64 (bits .xor .u64 ((ws.getD (n / 64) 0 : Nat) : Int) (IntKind.u64.wrap (2 ^ (n % 64)))), .pointer (some ⟨g, 0, none⟩), .pointer (some ⟨g, 1, none⟩), .pointer (some ⟨g, 1 + n / 64, none⟩)] w bq fq w.drew from ⟨rfl, hI2⟩)
    have HD := Aside0.mk hdep
    clear hI2 hdep
    match i, hi, ho, hbi with
    | 0, _, ho, hbi =>
      cases ho
      simp only [frm, Act.put, List.setIfInBounds_toArray, List.set_cons_zero, List.set_cons_succ, Array.getD_eq_getD_getElem?, List.getElem?_toArray, List.getElem?_cons_zero, List.getElem?_cons_succ, Option.getD_some]
      gi_wp2
      exact ⟨_, rfl, HI.out.next rfl⟩
    | 1, _, ho, hbi =>
      cases ho
      simp only [frm, Act.put, List.setIfInBounds_toArray, List.set_cons_zero, List.set_cons_succ, Array.getD_eq_getD_getElem?, List.getElem?_toArray, List.getElem?_cons_zero, List.getElem?_cons_succ, Option.getD_some]
      gi_wp2
      exact ⟨_, rfl, HI.out.next rfl⟩
    | 2, _, ho, hbi =>
      cases ho
      have hb1 : bq 1 = true := HD.out { on := 1, ground := Ground.data } (by simp) rfl
      have h1 : fq 1 = .int .i64 (n : Int) := HI.out.2 1 (by decide) hb1
      simp only [frm, Act.put, List.setIfInBounds_toArray, List.set_cons_zero, List.set_cons_succ, Array.getD_eq_getD_getElem?, List.getElem?_toArray, List.getElem?_cons_zero, List.getElem?_cons_succ, Option.getD_some, hb1, h1, sel_true]
      clear h1 hb1
      gi_wp2
      exact ⟨_, rfl, HI.out.next rfl⟩
    | 3, _, ho, hbi =>
      cases ho
      have hb0 : bq 0 = true := HD.out { on := 0, ground := Ground.data } (by simp) rfl
      have h0 : fq 0 = .pointer (some ⟨g, 0, none⟩) := HI.out.2 0 (by decide) hb0
      simp only [frm, Act.put, List.setIfInBounds_toArray, List.set_cons_zero, List.set_cons_succ, Array.getD_eq_getD_getElem?, List.getElem?_toArray, List.getElem?_cons_zero, List.getElem?_cons_succ, Option.getD_some, hb0, h0, sel_true]
      clear h0 hb0
      gi_wp2
      exact ⟨_, rfl, HI.out.next rfl⟩
    | 4, _, ho, hbi =>
      cases ho
      have hb3 : bq 3 = true := HD.out { on := 3, ground := Ground.data } (by simp) rfl
      have h3 : fq 3 = .pointer (some ⟨g, 0, none⟩) := HI.out.2 3 (by decide) hb3
      simp only [frm, Act.put, List.setIfInBounds_toArray, List.set_cons_zero, List.set_cons_succ, Array.getD_eq_getD_getElem?, List.getElem?_toArray, List.getElem?_cons_zero, List.getElem?_cons_succ, Option.getD_some, hb3, h3, sel_true]
      clear h3 hb3
      gi_wp2
      exact ⟨_, rfl, HI.out.next rfl⟩
    | 5, _, ho, hbi =>
      cases ho
      have hb4 : bq 4 = true := HD.out { on := 4, ground := Ground.data } (by simp) rfl
      have h4 : fq 4 = .pointer (some ⟨g, 1, none⟩) := HI.out.2 4 (by decide) hb4
      have hb2 : bq 2 = true := HD.out { on := 2, ground := Ground.data } (by simp) rfl
      have h2 : fq 2 = .int .i64 ((n : Int) / 64) := HI.out.2 2 (by decide) hb2
      simp only [frm, Act.put, List.setIfInBounds_toArray, List.set_cons_zero, List.set_cons_succ, Array.getD_eq_getD_getElem?, List.getElem?_toArray, List.getElem?_cons_zero, List.getElem?_cons_succ, Option.getD_some, hb4, h4, hb2, h2, sel_true]
      clear h4 hb4
      clear h2 hb2
      gi_wp2
      exact ⟨_, rfl, HI.out.next rfl⟩
    | 6, _, ho, hbi =>
      cases ho
      have hb5 : bq 5 = true := HD.out { on := 5, ground := Ground.data } (by simp) rfl
      have h5 : fq 5 = .pointer (some ⟨g, 1 + n / 64, none⟩) := HI.out.2 5 (by decide) hb5
      simp only [frm, Act.put, List.setIfInBounds_toArray, List.set_cons_zero, List.set_cons_succ, Array.getD_eq_getD_getElem?, List.getElem?_toArray, List.getElem?_cons_zero, List.getElem?_cons_succ, Option.getD_some, hb5, h5, sel_true]
      clear h5 hb5
      gi_wp2
      exact ⟨_, rfl, HI.out.next rfl⟩
    | 7, _, ho, hbi =>
      cases ho
      simp only [frm, Act.put, List.setIfInBounds_toArray, List.set_cons_zero, List.set_cons_succ, Array.getD_eq_getD_getElem?, List.getElem?_toArray, List.getElem?_cons_zero, List.getElem?_cons_succ, Option.getD_some]
      gi_wp2
      exact ⟨_, rfl, HI.out.next rfl⟩
    | 8, _, ho, hbi =>
      cases ho
      have hb7 : bq 7 = true := HD.out { on := 7, ground := Ground.data } (by simp) rfl
      have h7 : fq 7 = .int .i64 (n : Int) := HI.out.2 7 (by decide) hb7
      simp only [frm, Act.put, List.setIfInBounds_toArray, List.set_cons_zero, List.set_cons_succ, Array.getD_eq_getD_getElem?, List.getElem?_toArray, List.getElem?_cons_zero, List.getElem?_cons_succ, Option.getD_some, hb7, h7, sel_true]
      clear h7 hb7
      gi_wp2
      exact ⟨_, rfl, HI.out.next rfl⟩
    | 9, _, ho, hbi =>
      cases ho
      have hb8 : bq 8 = true := HD.out { on := 8, ground := Ground.data } (by simp) rfl
      have h8 : fq 8 = .int .i64 ((n : Int) % 64) := HI.out.2 8 (by decide) hb8
      simp only [frm, Act.put, List.setIfInBounds_toArray, List.set_cons_zero, List.set_cons_succ, Array.getD_eq_getD_getElem?, List.getElem?_toArray, List.getElem?_cons_zero, List.getElem?_cons_succ, Option.getD_some, hb8, h8, sel_true]
      clear h8 hb8
      gi_wp2
      exact ⟨_, rfl, HI.out.next rfl⟩
    | 10, _, ho, hbi =>
      cases ho
      have hb6 : bq 6 = true := HD.out { on := 6, ground := Ground.data } (by simp) rfl
      have h6 : fq 6 = .int .u64 ((ws.getD (n / 64) 0 : Nat) : Int) := HI.out.2 6 (by decide) hb6
      have hb9 : bq 9 = true := HD.out { on := 9, ground := Ground.data } (by simp) rfl
      have h9 : fq 9 = .int .u64 (IntKind.u64.wrap (2 ^ (n % 64))) := HI.out.2 9 (by decide) hb9
      simp only [frm, Act.put, List.setIfInBounds_toArray, List.set_cons_zero, List.set_cons_succ, Array.getD_eq_getD_getElem?, List.getElem?_toArray, List.getElem?_cons_zero, List.getElem?_cons_succ, Option.getD_some, hb6, h6, hb9, h9, sel_true]
      clear h6 hb6
      clear h9 hb9
      gi_wp2
      exact ⟨_, rfl, HI.out.next rfl⟩
    | 11, _, ho, hbi =>
      cases ho
      have hb0 : bq 0 = true := HD.out { on := 0, ground := Ground.data } (by simp) rfl
      have h0 : fq 0 = .pointer (some ⟨g, 0, none⟩) := HI.out.2 0 (by decide) hb0
      simp only [frm, Act.put, List.setIfInBounds_toArray, List.set_cons_zero, List.set_cons_succ, Array.getD_eq_getD_getElem?, List.getElem?_toArray, List.getElem?_cons_zero, List.getElem?_cons_succ, Option.getD_some, hb0, h0, sel_true]
      clear h0 hb0
      gi_wp2
      exact ⟨_, rfl, HI.out.next rfl⟩
    | 12, _, ho, hbi =>
      cases ho
      have hb11 : bq 11 = true := HD.out { on := 11, ground := Ground.data } (by simp) rfl
      have h11 : fq 11 = .pointer (some ⟨g, 0, none⟩) := HI.out.2 11 (by decide) hb11
      simp only [frm, Act.put, List.setIfInBounds_toArray, List.set_cons_zero, List.set_cons_succ, Array.getD_eq_getD_getElem?, List.getElem?_toArray, List.getElem?_cons_zero, List.getElem?_cons_succ, Option.getD_some, hb11, h11, sel_true]
      clear h11 hb11
      gi_wp2
      exact ⟨_, rfl, HI.out.next rfl⟩
    | 13, _, ho, hbi =>
      cases ho
      have hb12 : bq 12 = true := HD.out { on := 12, ground := Ground.data } (by simp) rfl
      have h12 : fq 12 = .pointer (some ⟨g, 1, none⟩) := HI.out.2 12 (by decide) hb12
      have hb2 : bq 2 = true := HD.out { on := 2, ground := Ground.data } (by simp) rfl
      have h2 : fq 2 = .int .i64 ((n : Int) / 64) := HI.out.2 2 (by decide) hb2
      simp only [frm, Act.put, List.setIfInBounds_toArray, List.set_cons_zero, List.set_cons_succ, Array.getD_eq_getD_getElem?, List.getElem?_toArray, List.getElem?_cons_zero, List.getElem?_cons_succ, Option.getD_some, hb12, h12, hb2, h2, sel_true]
      clear h12 hb12
      clear h2 hb2
      gi_wp2
      exact ⟨_, rfl, HI.out.next rfl⟩
  case ht =>
    intro bq fq W' hb hI
    obtain ⟨rfl, hI2⟩ := hI
    have h0 : fq 0 = .pointer (some ⟨g, 0, none⟩) := hI2 0 (by decide) (hb 0 (by decide))
    have h1 : fq 1 = .int .i64 (n : Int) := hI2 1 (by decide) (hb 1 (by decide))
    have h2 : fq 2 = .int .i64 ((n : Int) / 64) := hI2 2 (by decide) (hb 2 (by decide))
    have h3 : fq 3 = .pointer (some ⟨g, 0, none⟩) := hI2 3 (by decide) (hb 3 (by decide))
    have h4 : fq 4 = .pointer (some ⟨g, 1, none⟩) := hI2 4 (by decide) (hb 4 (by decide))
    have h5 : fq 5 = .pointer (some ⟨g, 1 + n / 64, none⟩) := hI2 5 (by decide) (hb 5 (by decide))
    have h6 : fq 6 = .int .u64 ((ws.getD (n / 64) 0 : Nat) : Int) := hI2 6 (by decide) (hb 6 (by decide))
    have h7 : fq 7 = .int .i64 (n : Int) := hI2 7 (by decide) (hb 7 (by decide))
    have h8 : fq 8 = .int .i64 ((n : Int) % 64) := hI2 8 (by decide) (hb 8 (by decide))
    have h9 : fq 9 = .int .u64 (IntKind.u64.wrap (2 ^ (n % 64))) := hI2 9 (by decide) (hb 9 (by decide))
    have h10 : fq 10 = .int .u64 (bits .xor .u64 ((ws.getD (n / 64) 0 : Nat) : Int) (IntKind.u64.wrap (2 ^ (n % 64)))) := hI2 10 (by decide) (hb 10 (by decide))
    have h11 : fq 11 = .pointer (some ⟨g, 0, none⟩) := hI2 11 (by decide) (hb 11 (by decide))
    have h12 : fq 12 = .pointer (some ⟨g, 1, none⟩) := hI2 12 (by decide) (hb 12 (by decide))
    have h13 : fq 13 = .pointer (some ⟨g, 1 + n / 64, none⟩) := hI2 13 (by decide) (hb 13 (by decide))
    simp only [frm, Act.put, List.setIfInBounds_toArray, List.set_cons_zero, List.set_cons_succ, Array.getD_eq_getD_getElem?, List.getElem?_toArray, List.getElem?_cons_zero, List.getElem?_cons_succ, Option.getD_some, sel_true, h0, h1, h2, h3, h4, h5, h6, h7, h8, h9, h10, h11, h12, h13]
    clear hI2 hb h0 h1 h2 h3 h4 h5 h6 h7 h8 h9 h10 h11 h12 h13
    simp only [List.drop_succ_cons, List.drop_zero]
    gi_wp2
    refine ⟨rfl, Value.tuple #[], by simp [results, Tryd.f21, go_sem], rfl, by simp only [List.getD_eq_getElem?_getD]⟩
end Go.Proofs.YtiaegandgjgjhaaDoor.PAll
