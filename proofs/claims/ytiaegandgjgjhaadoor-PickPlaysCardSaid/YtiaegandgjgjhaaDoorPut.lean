/-
  The reference's Put over a slice that is only read.
-/
import Derived.Test.YtiaegandgjgjhaaDoorRef
namespace Go.Proofs.YtiaegandgjgjhaaDoor.PAll
open Go.RowKit Go.Proofs.YtiaegandgjgjhaaDoorM Go.Proofs.YtiaegandgjgjhaaDoorW.PrintWords Go.Proofs.YtiaegandgjgjhaaDoorW.PrintLast Go.Proofs.YtiaegandgjgjhaaDoorW.PrintMore
set_option linter.unusedVariables false
set_option linter.unusedSimpArgs false
def posI : List Int → Int → Nat
  | [], _ => 0
  | x :: l, n => if x < n then posI l n + 1 else 0
theorem pos_le : ∀ (l : List Int) (n : Int), posI l n ≤ l.length
  | [], _ => Nat.le_refl _
  | x :: l, n => by unfold posI; split <;> simp [pos_le l n]
theorem pos_lt : ∀ (l : List Int) (n : Int) (j : Nat), j < posI l n → l.getD j 0 < n
  | [], _, j, h => by simp [posI] at h
  | x :: l, n, 0, h => by unfold posI at h; split at h; · assumption
                          · omega
  | x :: l, n, j + 1, h => by
    unfold posI at h
    split at h
    · exact pos_lt l n j (by omega)
    · omega
theorem pos_at : ∀ (l : List Int) (n : Int), posI l n < l.length → ¬ l.getD (posI l n) 0 < n
  | [], _, h => by simp at h
  | x :: l, n, h => by
    unfold posI at h ⊢
    by_cases e : x < n
    · rw [if_pos e] at h ⊢; exact pos_at l n (by simpa using h)
    · rw [if_neg e]; exact e
def putI (L : List Int) (n : Int) : List Int × Int := if n < 0 ∨ 1023 < n then (L, 2) else if n ∈ L then (L, 5) else (L.take (posI L n) ++ [n] ++ L.drop (posI L n), 0)
set_option maxRecDepth 100000 in
set_option maxHeartbeats 8000000 in
theorem rput_calls (L : List Int) (hl : L.length ≤ 1024) (n : Int) (w : World) (A : Option Addr) (c : Nat) (hC : Kd.C (Kd.int .i64) w A L.length L) (hc : L.length ≤ c) (g : Nat) (hg : g < w.heap.size) (hfar : ∀ ad, A = some ad → 0 < L.length → ad.block ≠ g) :
    Calls Tryd.prog 18 #[.slice A L.length c, .int .i64 n] w fun e W' => ∃ v, e = .returned (.tuple #[v, .int .i64 (putI L n).2]) ∧ RC g W' v (putI L n).1 ∧ w.grownBy W' none := by
  have HGF := Aside0.mk (And.intro hg hfar)
  clear hg hfar
  have HC := Aside0.mk hC
  have HH := Aside0.mk (has_list hl n)
  clear hC
  have same : ∀ W : World, w.grownBy W none → RC g W (.slice A L.length c) L := fun W hW => ⟨A, c, rfl, hc, Kd.C_below HC.out (below_of_grown hW), HGF.out.2⟩
  have HSM := Aside0.mk same
  clear same
  by_cases h1 : n < 0
  · have hv : putI L n = (L, 2) := by unfold putI; rw [if_pos (.inl h1)]
    rw [hv]
    go_enter Tryd.func18, Tryd.ntmps18
    go_wp2
    go_ret2
    exact ⟨_, rfl, HSM.out w (World.grownBy.refl _ _), World.grownBy.refl _ _⟩
  · by_cases h2 : 1023 < n
    · have hv : putI L n = (L, 2) := by unfold putI; rw [if_pos (.inr h2)]
      rw [hv]
      go_enter Tryd.func18, Tryd.ntmps18
      go_wp2
      go_ret2
      exact ⟨_, rfl, HSM.out w (World.grownBy.refl _ _), World.grownBy.refl _ _⟩
    · by_cases hm : n ∈ L
      · have hv : putI L n = (L, 5) := by unfold putI; rw [if_neg (by omega), if_pos hm]
        rw [hv]
        have HH2 := Aside0.mk (show prioryref08_Has.f 1100 L n = some true by rw [HH.out, decide_eq_true hm])
        clear hm hv
        go_enter Tryd.func18, Tryd.ntmps18
        go_wp2_with (go_at_call 20; refine (prioryref08_Has.calls 1100 A c L n true _ HC.out hc HH2.out).mono ?_; rintro e W1 ⟨rfl, hd⟩; have HG1 := Aside0.mk (gb_drawn hd); clear hd)
        go_ret2
        exact ⟨_, rfl, HSM.out _ HG1.out, HG1.out⟩
      · have hv : putI L n = (L.take (posI L n) ++ [n] ++ L.drop (posI L n), 0) := by unfold putI; rw [if_neg (by omega), if_neg hm]
        rw [hv]
        have HH2 := Aside0.mk (show prioryref08_Has.f 1100 L n = some false by rw [HH.out, decide_eq_false hm])
        obtain ⟨F, hF⟩ : ∃ F, F = L.take (posI L n) ++ [n] ++ L.drop (posI L n) := ⟨_, rfl⟩
        rw [← hF]
        have HF := Aside0.mk hF
        obtain ⟨p, hp⟩ : ∃ p, p = posI L n := ⟨_, rfl⟩
        have HP := Aside0.mk hp
        have q1 : p ≤ L.length := by rw [hp]; exact pos_le L n
        have q2 : p < L.length → ¬ L.getD p 0 < n := by rw [hp]; exact pos_at L n
        have q3 : ∀ j, j < p → L.getD j 0 < n := by rw [hp]; exact pos_lt L n
        have HQ := Aside0.mk (And.intro q1 (And.intro q2 q3))
        clear hm hv hF hp q1 q2 q3
        go_enter Tryd.func18, Tryd.ntmps18
        go_wp2_with (go_at_call 20; refine (prioryref08_Has.calls 1100 A c L n false _ HC.out hc HH2.out).mono ?_; rintro e W1 ⟨rfl, hd⟩; have HG1 := Aside0.mk (gb_drawn hd); clear hd)
        go_loopg [6] (L.length + 1) (fun kq v6 w' => ∃ i : Nat, v6 = .int .i64 (i : Int) ∧ Aside0 (i ≤ p ∧ i + kq = L.length + 1) ∧ Aside0 (w.grownBy w' none))
        case atStart => exact ⟨0, rfl, ⟨⟨Nat.zero_le _, by omega⟩⟩, HG1⟩
        case round =>
          clear HG1
          obtain ⟨i, rfl, HN, HG⟩ := hrel
          have hi0 : (0 : Int) ≤ (i : Int) := by omega
          by_cases hgo : i < L.length ∧ L.getD i 0 < n
          · have hi := hgo.1
            have hii : (i : Int) < (L.length : Int) := by omega
            have hip : i + 1 ≤ p := by
              have := HN.out.1
              by_cases e : i = p
              · exfalso; rw [e] at hgo; have h9 := HQ.out.2.1 hgo.1; have h8 := hgo.2; omega
              · omega
            obtain ⟨k1, rfl⟩ : ∃ k1, gk = k1 + 1 := ⟨gk - 1, by have := HN.out; have := HQ.out.1; omega⟩
            obtain ⟨ad, eA, y0⟩ := Kd.at_int HC.out (i : Int) hi0 hii
            subst eA
            have hx1 : rd L (i : Int) = L.getD i 0 := by unfold rd; rw [Int.toNat_natCast]
            obtain ⟨x, hx⟩ : ∃ x, x = L.getD i 0 := ⟨_, rfl⟩
            rw [hx1, ← hx] at y0
            have y1 : wr.cell? (ad.add i) = some (.int .i64 x) := cells_keep y0 (below_of_grown HG.out)
            have hxn : decide (x < n) = true := decide_eq_true (by rw [hx]; exact hgo.2)
            have hw1 : IntKind.i64.wrap ((i : Int) + 1) = ((i + 1 : Nat) : Int) := (IntWalk.i64_left _).trans ((IntWalk.wrap64_in _ (by omega)).trans (by omega))
            clear hgo hx1 hx y0
            go_wp2
            go_roundg k1
            case measure => omega
            case rel => exact ⟨i + 1, by first | rfl | simp, ⟨by have := HN.out; omega⟩, HG⟩
          · have hip : i = p := by
              have := HN.out.1
              by_cases e : i = p
              · exact e
              · exfalso
                have h3 := HQ.out.2.2 i (by omega)
                exact hgo ⟨by have := HQ.out.1; omega, h3⟩
            have hil : i ≤ L.length := by rw [hip]; exact HQ.out.1
            obtain ⟨Bz, hBz⟩ : ∃ Bz, Bz = wr.heap.size := ⟨_, rfl⟩
            have hwB : w.heap.size ≤ Bz := by rw [hBz]; exact HG.out.size
            obtain ⟨Wz, hWz⟩ : ∃ Wz, Wz = wr.alloc (.cells #[] 3) := ⟨_, rfl⟩
            have hgz : w.grownBy Wz none := by rw [hWz]; exact HG.out.trans (World.grownBy_alloc wr _ none)
            have hBz2 : Bz ≤ Wz.heap.size := by rw [hWz, hBz]; simp
            have hR0 : (Kd.int .i64).R 3 Wz Bz (fun _ => True) (.slice (some ⟨Bz, 0, none⟩) 0 0) ([] : List Int) := by
              rw [hWz, hBz]
              exact ⟨fun _ _ => trivial, OwnRow.lit wr wr.heap.size (R := (Kd.int .i64).M _ _ _) (ps := ([] : List Int)) (inner := []) (Reps.none _ _) (Nat.le_refl _) (by simp)⟩
            have hct : ∀ W : World, (Instr.slice 31 (.slice A L.length c) none (some (.int .i64 (i : Int))) none).run Tryd.prog W = .ok (.slice A i c) W := by
              obtain ⟨i0, hi1, _⟩ := Option.map_eq_some_iff.1 info3
              exact cut_to (P := Tryd.prog) 31 3 .i64 Tryd.underlying31 hi1 A L.length c (i : Int) hi0 (by omega) hc
            obtain ⟨A2, hA2⟩ : ∃ A2 : Option Addr, A2 = (if c = i then A else A.map (·.add (i * 1))) := ⟨_, rfl⟩
            obtain ⟨n2, hn2⟩ : ∃ n2, n2 = L.length - i := ⟨_, rfl⟩
            obtain ⟨c2, hc2⟩ : ∃ c2, c2 = c - i := ⟨_, rfl⟩
            have hcf : ∀ W : World, (Instr.slice 31 (.slice A L.length c) (some (.int .i64 (i : Int))) none none).run Tryd.prog W = .ok (.slice A2 n2 c2) W := by
              obtain ⟨i0, hi1, hzz⟩ := Option.map_eq_some_iff.1 info3
              simp only [Prod.mk.injEq] at hzz
              rw [hA2, hn2, hc2]
              exact cut_from (P := Tryd.prog) 31 3 .i64 Tryd.underlying31 hi1 1 hzz.2.1 A L.length c (i : Int) hi0 (by omega)
            have ht : (Kd.int .i64).C w A i (L.take i) := by
              have := Kd.C_take (m := i) HC.out hil
              rw [List.length_take, Nat.min_eq_left hil] at this; exact this
            have hd : (Kd.int .i64).C w A2 n2 (L.drop i) := by
              have := Kd.C_drop (m := i) (c := c) HC.out hil hc
              rw [List.length_drop, ← hn2] at this; rw [hA2]; exact this
            obtain ⟨T1, hT1⟩ : ∃ T1, T1 = L.take i := ⟨_, rfl⟩
            obtain ⟨T2, hT2⟩ : ∃ T2, T2 = L.drop i := ⟨_, rfl⟩
            rw [← hT1] at ht
            rw [← hT2] at hd
            have hF2 : F = [] ++ T1 ++ [n] ++ T2 := by rw [HF.out, ← HP.out, ← hip, hT1, hT2]; rfl
            have hl1 : T1.length ≤ 1024 := by rw [hT1, List.length_take]; omega
            have hl2 : n2 ≤ 1024 := by omega
            have HCT := Aside0.mk (And.intro ht hd)
            have HR0 := Aside0.mk hR0
            have HFF := Aside0.mk hF2
            have HGZ := Aside0.mk (And.intro hgz (And.intro hwB hBz2))
            have HLN := Aside0.mk (And.intro hl1 (And.intro hl2 hil))
            have HWZ := Aside0.mk hWz
            have HBZ := Aside0.mk hBz
            clear hip hF2 hT1 hT2 ht hd hR0 hgz hwB hBz2 hA2 hn2 hc2 hl1 hl2 hWz hBz
            by_cases hi : i < L.length
            · have hii : (i : Int) < (L.length : Int) := by omega
              have hxn0 : ¬ L.getD i 0 < n := fun h => hgo ⟨hi, h⟩
              obtain ⟨ad, eA, y0⟩ := Kd.at_int HC.out (i : Int) hi0 hii
              subst eA
              have hx1 : rd L (i : Int) = L.getD i 0 := by unfold rd; rw [Int.toNat_natCast]
              obtain ⟨x, hx⟩ : ∃ x, x = L.getD i 0 := ⟨_, rfl⟩
              rw [hx1, ← hx] at y0
              have y1 : wr.cell? (ad.add i) = some (.int .i64 x) := cells_keep y0 (below_of_grown HG.out)
              have hxn : decide (x < n) = false := decide_eq_false (by rw [hx]; exact hxn0)
              clear hgo hx1 hx y0 hxn0
              go_wp2_with (first
              | ((with_reducible refine gate_builtin (b := .append) (xs := #[.tmp 42, .tmp 45]) rfl ?_); at_builtin; go_loud (refine Kd.R_append_rows (Kd.int .i64) (w0 := W2) Bz rfl (.tmp 42) (.tmp 45) 31 3 (.int .i64 0) 8 rfl Tryd.underlying31 info3 rfl (by decide) (by omega) v2 ([] ++ T1 ++ [n]) T2 A2 n2 c2 (fun _ => True) (fun _ => False) rfl rfl HR2.out (Kd.C_below HCT.out.2 (below_of_grown HG2.out)) (fun _ _ h => h) (fun _ h => h.elim) (fun _ _ => trivial) (Below.refl _ _) HS2.out (by have := HLN.out; simp; omega) ?_); intro v3 W3 ho hb hg hat; rw [← HFF.out] at ho; have HR3 := Aside0.mk ho; have HG3 := Aside0.mk (HG2.out.andThen hg (fun j e => .inl (Nat.le_trans HGZ.out.2.1 (Kd.R_base HR2.out j e)))); clear ho hb hg hat)
              | ((with_reducible refine gate_builtin (b := .append) (xs := #[.tmp 38, .tmp 40]) rfl ?_); at_builtin; go_loud (refine R_appendP (Kd.int .i64) (W := W1) Bz rfl (.tmp 38) (.tmp 40) 31 3 (.int .i64 0) 8 rfl Tryd.underlying31 info3 rfl (by decide) (by decide) v1 ([] ++ T1) n [.int .i64 n] (fun _ => True) (fun _ => False) rfl rfl (by rfl) (fun _ h => h.elim) (fun _ _ => trivial) HR1.out HS1.out (by have := HLN.out; simp; omega) ?_); intro v2 W2 hRa hga; have HR2 := Aside0.mk hRa; have HG2 := Aside0.mk (HG1.out.andThen hga (fun j e => .inl (Nat.le_trans HGZ.out.2.1 (Kd.R_base HR1.out j e)))); have HS2 := Aside0.mk (Nat.le_trans HS1.out hga.size); clear hRa hga)
              | ((with_reducible refine gate_builtin (b := .append) (xs := #[.tmp 33, .tmp 36]) rfl ?_); at_builtin; rw [← HWZ.out, ← HBZ.out]; go_loud (refine Kd.R_append_rows (Kd.int .i64) (w0 := Wz) Bz rfl (.tmp 33) (.tmp 36) 31 3 (.int .i64 0) 8 rfl Tryd.underlying31 info3 rfl (by decide) (by omega) (.slice (some ⟨Bz, 0, none⟩) 0 0) [] T1 (some ad) i c (fun _ => True) (fun _ => False) rfl rfl HR0.out (Kd.C_below HCT.out.1 (below_of_grown HGZ.out.1)) (fun _ _ h => h) (fun _ h => h.elim) (fun _ _ => trivial) (Below.refl _ _) HGZ.out.2.2 (by have := HLN.out; simp; omega) ?_); intro v1 W1 ho hb hg hat; have HR1 := Aside0.mk ho; have HG1 := Aside0.mk (HGZ.out.1.andThen hg (fun j e => .inl (Nat.le_trans HGZ.out.2.1 (Kd.R_base HR0.out j e)))); have HS1 := Aside0.mk (Nat.le_trans HGZ.out.2.2 hg.size); clear ho hb hg hat))
              go_ret2
              exact ⟨_, rfl, RC_own HR3.out (Nat.lt_of_lt_of_le HGF.out.1 HGZ.out.2.1), HG3.out⟩
            · have hii : ¬ (i : Int) < (L.length : Int) := by omega
              clear hgo
              go_wp2_with (first
              | ((with_reducible refine gate_builtin (b := .append) (xs := #[.tmp 42, .tmp 45]) rfl ?_); at_builtin; go_loud (refine Kd.R_append_rows (Kd.int .i64) (w0 := W2) Bz rfl (.tmp 42) (.tmp 45) 31 3 (.int .i64 0) 8 rfl Tryd.underlying31 info3 rfl (by decide) (by omega) v2 ([] ++ T1 ++ [n]) T2 A2 n2 c2 (fun _ => True) (fun _ => False) rfl rfl HR2.out (Kd.C_below HCT.out.2 (below_of_grown HG2.out)) (fun _ _ h => h) (fun _ h => h.elim) (fun _ _ => trivial) (Below.refl _ _) HS2.out (by have := HLN.out; simp; omega) ?_); intro v3 W3 ho hb hg hat; rw [← HFF.out] at ho; have HR3 := Aside0.mk ho; have HG3 := Aside0.mk (HG2.out.andThen hg (fun j e => .inl (Nat.le_trans HGZ.out.2.1 (Kd.R_base HR2.out j e)))); clear ho hb hg hat)
              | ((with_reducible refine gate_builtin (b := .append) (xs := #[.tmp 38, .tmp 40]) rfl ?_); at_builtin; go_loud (refine R_appendP (Kd.int .i64) (W := W1) Bz rfl (.tmp 38) (.tmp 40) 31 3 (.int .i64 0) 8 rfl Tryd.underlying31 info3 rfl (by decide) (by decide) v1 ([] ++ T1) n [.int .i64 n] (fun _ => True) (fun _ => False) rfl rfl (by rfl) (fun _ h => h.elim) (fun _ _ => trivial) HR1.out HS1.out (by have := HLN.out; simp; omega) ?_); intro v2 W2 hRa hga; have HR2 := Aside0.mk hRa; have HG2 := Aside0.mk (HG1.out.andThen hga (fun j e => .inl (Nat.le_trans HGZ.out.2.1 (Kd.R_base HR1.out j e)))); have HS2 := Aside0.mk (Nat.le_trans HS1.out hga.size); clear hRa hga)
              | ((with_reducible refine gate_builtin (b := .append) (xs := #[.tmp 33, .tmp 36]) rfl ?_); at_builtin; rw [← HWZ.out, ← HBZ.out]; go_loud (refine Kd.R_append_rows (Kd.int .i64) (w0 := Wz) Bz rfl (.tmp 33) (.tmp 36) 31 3 (.int .i64 0) 8 rfl Tryd.underlying31 info3 rfl (by decide) (by omega) (.slice (some ⟨Bz, 0, none⟩) 0 0) [] T1 A i c (fun _ => True) (fun _ => False) rfl rfl HR0.out (Kd.C_below HCT.out.1 (below_of_grown HGZ.out.1)) (fun _ _ h => h) (fun _ h => h.elim) (fun _ _ => trivial) (Below.refl _ _) HGZ.out.2.2 (by have := HLN.out; simp; omega) ?_); intro v1 W1 ho hb hg hat; have HR1 := Aside0.mk ho; have HG1 := Aside0.mk (HGZ.out.1.andThen hg (fun j e => .inl (Nat.le_trans HGZ.out.2.1 (Kd.R_base HR0.out j e)))); have HS1 := Aside0.mk (Nat.le_trans HGZ.out.2.2 hg.size); clear ho hb hg hat))
              go_ret2
              exact ⟨_, rfl, RC_own HR3.out (Nat.lt_of_lt_of_le HGF.out.1 HGZ.out.2.1), HG3.out⟩
end Go.Proofs.YtiaegandgjgjhaaDoor.PAll
