/-
  The reference's list: Has, Drop, Put over a slice that is only read.
-/
import Derived.Test.YtiaegandgjgjhaaDoorPal
import Derived.Test.YtiaegandgjgjhaaDoorAllF20
namespace Go.Proofs.YtiaegandgjgjhaaDoor.PAll
open Go.RowKit Go.Proofs.YtiaegandgjgjhaaDoorM Go.Proofs.YtiaegandgjgjhaaDoorW.PrintWords Go.Proofs.YtiaegandgjgjhaaDoorW.PrintLast Go.Proofs.YtiaegandgjgjhaaDoorW.PrintMore
set_option linter.unusedVariables false
set_option linter.unusedSimpArgs false
theorem has_l0 {L : List Int} (hl : L.length ≤ 2000) (n : Int) : ∀ (d i k : Nat), i + d = L.length → d < k → prioryref08_Has.l0 k L n (i : Int) = some (decide (n ∈ L.drop i))
  | 0, i, k + 1, h, _ => by
    unfold prioryref08_Has.l0
    rw [if_neg (by omega), List.drop_eq_nil_of_le (by omega)]; simp
  | d + 1, i, k + 1, h, hk => by
    have hi : i < L.length := by omega
    have hd : L.drop i = L.getD i 0 :: L.drop (i + 1) := by
      rw [List.drop_eq_getElem_cons hi, List.getD_eq_getElem?_getD, List.getElem?_eq_getElem hi]; rfl
    have hr : rd L (i : Int) = L.getD i 0 := by unfold rd; rw [Int.toNat_natCast]
    unfold prioryref08_Has.l0
    rw [if_pos (by omega), if_pos (by omega), hr, hd]
    by_cases e : L.getD i 0 = n
    · rw [if_pos e, e]; simp
    · rw [if_neg e, wrap_id (by omega), show (i : Int) + 1 = ((i + 1 : Nat) : Int) by omega, has_l0 hl n d (i + 1) k (by omega) (by omega)]
      have e2 : ¬ n = L.getD i 0 := fun h => e h.symm
      simp only [List.mem_cons, e2, false_or]
theorem has_list {L : List Int} (hl : L.length ≤ 1024) (n : Int) : prioryref08_Has.f 1100 L n = some (decide (n ∈ L)) := by
  have := has_l0 (L := L) (by omega) n L.length 0 1100 (by omega) (by omega)
  rw [List.drop_zero] at this; exact this
/-- What a value reads as, away from the block g. -/
def RC (g : Nat) (W : World) (v : Value) (xs : List Int) : Prop := ∃ A c, v = .slice A xs.length c ∧ xs.length ≤ c ∧ Kd.C (Kd.int .i64) W A xs.length xs ∧ ∀ ad, A = some ad → 0 < xs.length → ad.block ≠ g
theorem RC.keep {g : Nat} {W W' : World} {v : Value} {xs : List Int} (h : RC g W v xs) (hg : W.grownBy W' none) : RC g W' v xs := by
  obtain ⟨A, c, e, h1, h2, h3⟩ := h
  exact ⟨A, c, e, h1, Kd.C_below h2 (below_of_grown hg), h3⟩
theorem RC_own {g base e : Nat} {W : World} {v : Value} {xs : List Int} {ok : Nat → Prop} (h : (Kd.int .i64).R e W base ok v xs) (hg : g < base) : RC g W v xs := by
  obtain ⟨A, c, e, h1, h2⟩ := Kd.R_reads h
  refine ⟨A, c, e, h1, h2, fun ad ha _ hb => ?_⟩
  have := Kd.R_base h g (by rw [e, ha, ← hb]; simp [Value.ownBlock])
  omega
theorem C_far {g : Nat} {W W' : World} {A : Option Addr} {n : Nat} {xs : List Int} (h : Kd.C (Kd.int .i64) W A n xs) (hf : ∀ ad, A = some ad → 0 < n → ad.block ≠ g) (hg : W.grownBy W' (some g)) : Kd.C (Kd.int .i64) W' A n xs :=
  Kd.C_keep (0 : Int) h ⟨hg.size, fun i hi h1 _ => hg.block i hi (fun e => h1 (Option.some.inj e))⟩ hf
def dropI (L : List Int) (n : Int) : List Int × Int := if n < 0 ∨ 1023 < n then (L, 2) else if n ∈ L then (L.filter (fun x => decide (x ≠ n)), 0) else (L, 4)
set_option maxRecDepth 100000 in
set_option maxHeartbeats 8000000 in
theorem rdrop_calls (L : List Int) (hl : L.length ≤ 1024) (n : Int) (w : World) (A : Option Addr) (c : Nat) (hC : Kd.C (Kd.int .i64) w A L.length L) (hc : L.length ≤ c) (g : Nat) (hg : g < w.heap.size) (hfar : ∀ ad, A = some ad → 0 < L.length → ad.block ≠ g) :
    Calls Tryd.prog 19 #[.slice A L.length c, .int .i64 n] w fun e W' => ∃ v, e = .returned (.tuple #[v, .int .i64 (dropI L n).2]) ∧ RC g W' v (dropI L n).1 ∧ w.grownBy W' none := by
  have HGF := Aside0.mk (And.intro hg hfar)
  clear hg hfar
  have HC := Aside0.mk hC
  have HH := Aside0.mk (has_list hl n)
  clear hC
  have same : ∀ W : World, w.grownBy W none → RC g W (.slice A L.length c) L := fun W hW => ⟨A, c, rfl, hc, Kd.C_below HC.out (below_of_grown hW), HGF.out.2⟩
  have HSM := Aside0.mk same
  clear same
  by_cases h1 : n < 0
  · have hv : dropI L n = (L, 2) := by unfold dropI; rw [if_pos (.inl h1)]
    rw [hv]
    go_enter Tryd.func19, Tryd.ntmps19
    go_wp2
    go_ret2
    exact ⟨_, rfl, HSM.out w (World.grownBy.refl _ _), World.grownBy.refl _ _⟩
  · by_cases h2 : 1023 < n
    · have hv : dropI L n = (L, 2) := by unfold dropI; rw [if_pos (.inr h2)]
      rw [hv]
      go_enter Tryd.func19, Tryd.ntmps19
      go_wp2
      go_ret2
      exact ⟨_, rfl, HSM.out w (World.grownBy.refl _ _), World.grownBy.refl _ _⟩
    · by_cases hm : n ∈ L
      · have hv : dropI L n = (L.filter (fun x => decide (x ≠ n)), 0) := by unfold dropI; rw [if_neg (by omega), if_pos hm]
        rw [hv]
        have HH2 := Aside0.mk (show prioryref08_Has.f 1100 L n = some true by rw [HH.out, decide_eq_true hm])
        clear hm hv
        obtain ⟨F, hF⟩ : ∃ F, F = L.filter (fun x => decide (x ≠ n)) := ⟨_, rfl⟩
        rw [← hF]
        have HF := Aside0.mk hF
        clear hF
        go_enter Tryd.func19, Tryd.ntmps19
        go_wp2_with (go_at_call 20; refine (prioryref08_Has.calls 1100 A c L n true _ HC.out hc HH2.out).mono ?_; rintro e W1 ⟨rfl, hd⟩; have HG1 := Aside0.mk (gb_drawn hd); clear hd)
        go_loopg [6, 7] (L.length + 1) (fun kq v6 v7 w' => ∃ i : Nat, v7 = .int .i64 (i : Int) ∧ Aside0 (i ≤ L.length ∧ i + kq = L.length + 1) ∧ Aside0 ((Kd.int .i64).R 3 w' w.heap.size (fun _ => True) v6 ((L.take i).filter (fun x => decide (x ≠ n)))) ∧ Aside0 (w.grownBy w' none))
        case atStart => exact ⟨0, rfl, ⟨⟨Nat.zero_le _, by omega⟩⟩, ⟨Kd.R_nil _ _ _ _ _⟩, HG1⟩
        case round =>
          clear HG1
          obtain ⟨i, rfl, HN, HR, HG⟩ := hrel
          obtain ⟨Ti, hTi⟩ : ∃ Ti, Ti = (L.take i).filter (fun x => decide (x ≠ n)) := ⟨_, rfl⟩
          rw [← hTi] at HR
          obtain ⟨A0, c0, rfl, _, _⟩ := Kd.R_reads HR.out
          have HTI := Aside0.mk hTi
          clear hTi
          by_cases hi : i < L.length
          · have hii : (i : Int) < (L.length : Int) := by omega
            have hi0 : (0 : Int) ≤ (i : Int) := by omega
            obtain ⟨k1, rfl⟩ : ∃ k1, gk = k1 + 1 := ⟨gk - 1, by have := HN.out.2; omega⟩
            obtain ⟨ad, eA, y0⟩ := Kd.at_int HC.out (i : Int) hi0 hii
            subst eA
            have hx1 : rd L (i : Int) = L.getD i 0 := by unfold rd; rw [Int.toNat_natCast]
            obtain ⟨x, hx⟩ : ∃ x, x = L.getD i 0 := ⟨_, rfl⟩
            rw [hx1, ← hx] at y0
            have y1 : wr.cell? (ad.add i) = some (.int .i64 x) := cells_keep y0 (below_of_grown HG.out)
            have hw1 : IntKind.i64.wrap ((i : Int) + 1) = ((i + 1 : Nat) : Int) := (IntWalk.i64_left _).trans ((IntWalk.wrap64_in _ (by omega)).trans (by omega))
            have hlen : Ti.length ≤ i := by rw [HTI.out]; exact Nat.le_trans (List.length_filter_le _ _) (by rw [List.length_take]; omega)
            have hLB : (Ti.length + 1) * 8 ≤ 140737488355328 := by omega
            have hs : (L.take (i + 1)).filter (fun x => decide (x ≠ n)) = Ti ++ (if x = n then [] else [x]) := by
              rw [take_snoc hi, List.filter_append, ← hx, HTI.out]
              by_cases e : x = n <;> simp [e]
            have HS := Aside0.mk hs
            have HLB := Aside0.mk hLB
            clear hx1 hx y0 hs hlen hLB
            by_cases e : x = n
            · have HS2 := Aside0.mk (show (L.take (i + 1)).filter (fun x => decide (x ≠ n)) = Ti by rw [HS.out, if_pos e, List.append_nil])
              have hne : (x != n) = false := by simp [e]
              clear e
              go_wp2
              go_roundg k1
              case measure => omega
              case rel => exact ⟨i + 1, by first | rfl | simp, ⟨by have := HN.out; omega⟩, ⟨by rw [HS2.out]; exact HR.out⟩, HG⟩
            · have HS2 := Aside0.mk (show (L.take (i + 1)).filter (fun x => decide (x ≠ n)) = Ti ++ [x] by rw [HS.out, if_neg e])
              have hne : (x != n) = true := by simp [e]
              clear e
              go_wp2_with ((with_reducible refine gate_builtin (b := .append) (xs := #[.tmp 32, .tmp 37]) rfl ?_); at_builtin; refine R_appendP (Kd.int .i64) (W := wr) w.heap.size rfl (.tmp 32) (.tmp 37) 31 3 (.int .i64 0) 8 rfl Tryd.underlying31 info3 rfl (by decide) (by decide) (.slice A0 Ti.length c0) Ti x [.int .i64 x] (fun _ => True) (fun _ => False) rfl rfl (by rfl) (fun _ h => h.elim) (fun _ _ => trivial) HR.out HG.out.size HLB.out ?_; intro v1 Wa hRa hga; rw [← HS2.out] at hRa; obtain ⟨Tj, hTj⟩ : ∃ Tj, Tj = (L.take (i + 1)).filter (fun x => decide (x ≠ n)) := ⟨_, rfl⟩; rw [← hTj] at hRa; obtain ⟨A1, c1, rfl, _, _⟩ := Kd.R_reads hRa; have HTJ := Aside0.mk hTj; have HRa := Aside0.mk hRa; have HGa := Aside0.mk (HG.out.andThen hga (fun j e => .inl (Kd.R_base HR.out j e))); clear hRa hga hTj)
              go_roundg k1
              case measure => omega
              case rel => exact ⟨i + 1, by first | rfl | simp, ⟨by have := HN.out; omega⟩, ⟨by rw [← HTJ.out]; exact HRa.out⟩, HGa⟩
          · have hii : ¬ (i : Int) < (L.length : Int) := by omega
            have hT : F = Ti := by rw [HF.out, HTI.out, List.take_of_length_le (by omega)]
            have HTT := Aside0.mk hT
            have hq := (Kd.R_reads' HR.out).2.1
            clear hT
            go_wp2
            go_ret2
            exact ⟨_, rfl, by rw [HTT.out]; exact RC_own HR.out HGF.out.1, HG.out⟩
      · have hv : dropI L n = (L, 4) := by unfold dropI; rw [if_neg (by omega), if_neg hm]
        rw [hv]
        have HH2 := Aside0.mk (show prioryref08_Has.f 1100 L n = some false by rw [HH.out, decide_eq_false hm])
        clear hm hv
        go_enter Tryd.func19, Tryd.ntmps19
        go_wp2_with (go_at_call 20; refine (prioryref08_Has.calls 1100 A c L n false _ HC.out hc HH2.out).mono ?_; rintro e W1 ⟨rfl, hd⟩; have HG1 := Aside0.mk (gb_drawn hd); clear hd)
        go_ret2
        exact ⟨_, rfl, HSM.out _ HG1.out, HG1.out⟩
end Go.Proofs.YtiaegandgjgjhaaDoor.PAll
