/-
  Add.
-/
import Derived.Test.YtbaddcojhggamaaNew
namespace Go.Proofs.Ytbaddcojhggamaa.PAll
open Go.RowKit Go.Shelf Go.Proofs.YtbaddcojhggamaaM Go.Proofs.YtbaddcojhggamaaW.PrintWords Go.Proofs.YtbaddcojhggamaaW.PrintLast Go.Proofs.YtbaddcojhggamaaW.PrintMore
set_option linter.unusedVariables false
set_option linter.unusedSimpArgs false
/-- The least number that is free, among n, .., n + d - 1. -/
def freeF (c : Int → Option S36) : Nat → Nat → Option Nat
  | 0, _ => none
  | d + 1, n => if (c n).isNone then some n else freeF c d (n + 1)
def addR (c : Int → Option S36) (most parent : Int) : Int × Int × (Int → Option S36) :=
  match c parent with
  | none => (0, 4, c)
  | some p => if p.f2 = 3 then (0, 9, c) else match freeF c most.toNat 1 with
    | none => (0, 3, c)
    | some n => (n, 0, upd c n (some ⟨n, parent, 1, 0⟩))
set_option maxHeartbeats 2000000 in
theorem add_calls (g m : Nat) (most : Int) (c : Int → Option S36) (parent : Int) (w : World) (hc : TabW w g m most c) (hmost : most ≤ 1000) :
    Calls Try.prog 11 #[.pointer (some ⟨g, 0, none⟩), .int .i64 parent] w fun e W' => e = .returned (.tuple #[.int .i64 (addR c most parent).1, .int .i64 (addR c most parent).2.1]) ∧ TabW W' g m most (addR c most parent).2.2 ∧ w.grownBy W' (some m) := by
  have HC := Aside0.mk hc
  clear hc
  go_enter Try.func11, Try.ntmps11
  cases hcp : c parent with
  | none =>
    have HK := Aside0.mk (show thereR c parent = (⟨0, 0, 0, 0⟩, 4) by unfold thereR; rw [hcp])
    have HP := Aside0.mk hcp
    clear hcp
    go_wp2_with (go_at_call 22; refine (there_calls g m most c parent _ HC.out).mono ?_; rintro e w' ⟨rfl, hg⟩; rw [HK.out]; simp only [pv]; have HG := Aside0.mk hg; clear hg)
    go_ret2
    have hg := HG.out.trans (World.grownBy_alloc w' (.cells #[.int .i64 0, .int .i64 0, .int .i64 0, .int .u32 0] 36) none)
    have e : addR c most parent = (0, 4, c) := by unfold addR; rw [HP.out]
    rw [e]
    exact ⟨rfl, HC.out.grown hg (by simp) (by simp), gb_weak hg m⟩
  | some p =>
    have HK := Aside0.mk (show thereR c parent = (p, 0) by unfold thereR; rw [hcp])
    have HP := Aside0.mk hcp
    clear hcp
    by_cases hz : p.f2 = 3
    · go_wp2_with (go_at_call 22; refine (there_calls g m most c parent _ HC.out).mono ?_; rintro e w' ⟨rfl, hg⟩; rw [HK.out]; simp only [pv]; have HG := Aside0.mk hg; clear hg)
      go_ret2
      have hg := HG.out.trans (World.grownBy_alloc w' (.cells #[.int .i64 p.f0, .int .i64 p.f1, .int .i64 p.f2, .int .u32 p.f3] 36) none)
      have e : addR c most parent = (0, 9, c) := by unfold addR; rw [HP.out]; simp only [hz, if_true]
      rw [e]
      simp only [hz] at hg
      exact ⟨rfl, HC.out.grown hg (by simp) (by simp), gb_weak hg m⟩
    · go_wp2_with (go_at_call 22; refine (there_calls g m most c parent _ HC.out).mono ?_; rintro e w' ⟨rfl, hg⟩; rw [HK.out]; simp only [pv]; have HG := Aside0.mk hg; clear hg)
      have hg1 := HG.out.trans (World.grownBy_alloc w' (.cells #[.int .i64 p.f0, .int .i64 p.f1, .int .i64 p.f2, .int .u32 p.f3] 36) none)
      obtain ⟨W1, hW1⟩ : ∃ W1, W1 = w'.alloc (.cells #[.int .i64 p.f0, .int .i64 p.f1, .int .i64 p.f2, .int .u32 p.f3] 36) := ⟨_, rfl⟩
      rw [← hW1] at hg1 ⊢
      have HG1 := Aside0.mk hg1
      have HZ := Aside0.mk hz
      clear hg1 hW1 hz
      rename (p.f2 == 3) = false => hh
      clear hh
      go_loopw [8] (fun q wr => ∃ k : Nat, q = .int .i64 (k : Int) ∧ 1 ≤ k ∧ (k : Int) ≤ 1001 ∧ TabW wr g m most c ∧ w.grownBy wr none ∧ freeF c most.toNat 1 = freeF c (most.toNat + 1 - k) k) (fun q wr => (1002 - intOf q).toNat)
      case atStart => exact ⟨1, rfl, Nat.le_refl _, by decide, HC.out.grown HG1.out (by simp) (by simp), HG1.out, rfl⟩
      case round =>
        obtain ⟨k, rfl, hk1, hk2, hT, hgr, hfr⟩ := hrel
        have g0 : wr.cell? ⟨g, 0, none⟩ = some (.int .i64 most) := (blk_cell hT.1 0).trans rfl
        have g1 : wr.cell? ⟨g, 1, none⟩ = some (.map (some m)) := (blk_cell hT.1 1).trans rfl
        have HT := Aside0.mk hT
        have HR := Aside0.mk hgr
        have HF := Aside0.mk hfr
        clear hT hgr hfr
        by_cases hkm : (k : Int) ≤ most
        · have hd : most.toNat + 1 - k = (most.toNat - k) + 1 := by omega
          cases hck : c k with
          | none =>
            have HN := Aside0.mk hck
            have hT1 : TabW (wr.alloc (.cells #[.int .i64 0, .int .i64 0, .int .i64 0, .int .u32 0] 36)) g m most c := HT.out.grown (World.grownBy_alloc _ _ none) (by simp) (by simp)
            have g2 : (wr.alloc (.cells #[.int .i64 0, .int .i64 0, .int .i64 0, .int .u32 0] 36)).cell? ⟨g, 1, none⟩ = some (.map (some m)) := (blk_cell hT1.1 1).trans rfl
            have HT1 := Aside0.mk hT1
            have HD := Aside0.mk hd
            clear hck hT1 hd
            go_wp2_with (first | (at_lookup; refine wpList_look rfl _ _ 58 rfl 3 36 Try.underlying58 Try.underlying3 (Try.zeroValue36 _) m _ rfl HT.out.2 (k : Int) rfl ?_; simp only [HN.out, Option.map_none, Option.getD_none, Option.isSome_none]) | (at_mapUpdate; refine wpList_store rfl _ _ _ 58 (.inl rfl) 3 36 Try.underlying58 Try.underlying3 m _ rfl HT1.out.2 (k : Int) rfl (pv ⟨k, parent, 1, 0⟩) rfl ?_; intro W3 hM3 hg3 hs3; have HM3 := Aside0.mk hM3; have HG3 := Aside0.mk hg3; clear hM3 hg3 hs3))
            go_ret2
            have e : addR c most parent = ((k : Int), 0, upd c k (some ⟨k, parent, 1, 0⟩)) := by
              unfold addR
              rw [HP.out]
              simp only
              rw [if_neg HZ.out, HF.out, HD.out]
              unfold freeF
              rw [HN.out]
              rfl
            rw [e]
            refine ⟨rfl, ⟨blk_grown HT1.out.1 HG3.out (by have := HT1.out.ne; simpa using this), HM3.out.congr (fun j => ?_)⟩, ((gb_weak HR.out m).andThen (World.grownBy_alloc wr _ none) (fun j e => by cases e)).andThen HG3.out (fun j e => .inr (by cases e; rfl))⟩
            show _ = Option.map pv (if j = (k : Int) then some ⟨k, parent, 1, 0⟩ else c j)
            by_cases h : j = k
            · rw [if_pos h, if_pos h]; rfl
            · rw [if_neg h, if_neg h]
          | some q =>
            have HN := Aside0.mk hck
            have HD := Aside0.mk hd
            clear hck hd
            go_wp2_with (first | (at_lookup; refine wpList_look rfl _ _ 58 rfl 3 36 Try.underlying58 Try.underlying3 (Try.zeroValue36 _) m _ rfl HT.out.2 (k : Int) rfl ?_; simp only [HN.out, Option.map_some, Option.getD_some, Option.isSome_some, pv]))
            go_roundw
            case rel =>
              refine ⟨k + 1, by simp, by omega, by omega, HT.out.grown (World.grownBy_alloc _ _ none) (by simp) (by simp), HR.out.trans (World.grownBy_alloc _ _ none), ?_⟩
              have hs : freeF c ((most.toNat - k) + 1) k = freeF c (most.toNat - k) (k + 1) := by
                show (if _ then _ else _) = _
                rw [HN.out]; rfl
              rw [HF.out, HD.out, hs, show most.toNat + 1 - (k + 1) = most.toNat - k by omega]
            case measure => simp [intOf]; omega
        · go_wp2
          go_ret2
          have e : addR c most parent = (0, 3, c) := by
            unfold addR
            rw [HP.out]
            simp only
            rw [if_neg HZ.out, HF.out, show most.toNat + 1 - k = 0 by omega]
            rfl
          rw [e]
          exact ⟨rfl, HT.out, gb_weak HR.out m⟩
end Go.Proofs.Ytbaddcojhggamaa.PAll
