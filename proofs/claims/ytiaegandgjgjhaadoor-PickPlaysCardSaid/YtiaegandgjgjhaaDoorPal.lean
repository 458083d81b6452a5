/-
  PickAll: the plain part and the walk.
-/
import Derived.Test.YtiaegandgjgjhaaDoorOrd
namespace Go.Proofs.YtiaegandgjgjhaaDoor.PAll
open Go.RowKit Go.Proofs.YtiaegandgjgjhaaDoorM Go.Proofs.YtiaegandgjgjhaaDoorW.PrintWords Go.Proofs.YtiaegandgjgjhaaDoorW.PrintLast Go.Proofs.YtiaegandgjgjhaaDoorW.PrintMore
set_option linter.unusedVariables false
set_option linter.unusedSimpArgs false
theorem mem_listN {f : Nat → Bool} {n : Nat} {x : Int} : x ∈ listN f n ↔ ∃ k : Nat, k < n ∧ f k = true ∧ x = (k : Int) := by
  unfold listN
  simp only [List.mem_map, List.mem_filter, List.mem_range]
  constructor
  · rintro ⟨k, ⟨a, b⟩, rfl⟩; exact ⟨k, a, b, rfl⟩
  · rintro ⟨k, a, b, rfl⟩; exact ⟨k, ⟨a, b⟩, rfl⟩
theorem listN_congr {f g : Nat → Bool} {n : Nat} (h : ∀ k, k < n → f k = g k) : listN f n = listN g n := by
  unfold listN
  congr 1
  exact List.filter_congr (fun k hk => h k (List.mem_range.1 hk))
theorem nodup_take {l : List Int} (h : l.Pairwise (· ≠ ·)) {i : Nat} (hi : i < l.length) : l.getD i 0 ∉ l.take i := by
  intro hm
  obtain ⟨j, hj, e⟩ := List.getElem_of_mem hm
  rw [List.length_take] at hj
  rw [List.getElem_take, List.getD_eq_getElem?_getD, List.getElem?_eq_getElem hi, Option.getD_some] at e
  exact List.pairwise_iff_getElem.1 h j i (by omega) hi (by omega) e
/-- What was taken, put again from behind: each one is new, and all are there at the end. -/
theorem put_back {f fe : Nat → Bool} (he : ∀ m, m < 1024 → fe m = false) {i : Nat} (hi : i < (listN f 1024).length) :
    (putF (putAll fe ((listN f 1024).reverse.take i)) ((listN f 1024).reverse.getD i 0)).1 = 0 := by
  have hi' : i < (listN f 1024).reverse.length := by rw [List.length_reverse]; exact hi
  have hn : (listN f 1024).reverse.Pairwise (· ≠ ·) := List.pairwise_reverse.2 ((listN_rise f 1024).imp (fun h => by omega))
  have hnot := nodup_take hn hi'
  have hmem : (listN f 1024).reverse.getD i 0 ∈ listN f 1024 := by
    rw [List.getD_eq_getElem?_getD, List.getElem?_eq_getElem hi', Option.getD_some]
    exact List.mem_reverse.1 (List.getElem_mem hi')
  obtain ⟨k, hk, _, e⟩ := mem_listN.1 hmem
  rw [e] at hnot ⊢
  unfold putF
  rw [if_neg (by omega), Int.toNat_natCast, putAll_mem, he k hk, decide_eq_false hnot]
  rfl
theorem back_all {f fe : Nat → Bool} (he : ∀ m, m < 1024 → fe m = false) : listN (putAll fe (listN f 1024).reverse) 1024 = listN f 1024 := by
  refine listN_congr (fun k hk => ?_)
  rw [putAll_rev, putAll_mem, he k hk, Bool.false_or, decide_eq_true hk, Bool.and_true]
  cases hf : f k with
  | true => exact decide_eq_true (mem_listN.2 ⟨k, hk, hf, rfl⟩)
  | false =>
    refine decide_eq_false (fun h => ?_)
    obtain ⟨j, _, hj, e⟩ := mem_listN.1 h
    have : k = j := by omega
    rw [this, hj] at hf; cases hf
theorem empty_all {f : Nat → Bool} (h : listN f 1024 = []) : ∀ m, m < 1024 → f m = false := fun m hm => by
  cases e : f m with
  | false => rfl
  | true => have := mem_listN.2 ⟨m, hm, e, rfl⟩; rw [h] at this; cases this
def dropAll (f : Nat → Bool) (l : List Int) : Nat → Bool := l.foldl (fun f x => (dropF f x).2) f
theorem dropAll_snoc (f : Nat → Bool) (l : List Int) (x : Int) : dropAll f (l ++ [x]) = (dropF (dropAll f l) x).2 := by
  unfold dropAll; rw [List.foldl_append]; rfl
set_option maxRecDepth 100000 in
set_option maxHeartbeats 16000000 in
theorem pall_calls (a b : Int) (A : Option Addr) (q : Nat) (l : List Int) (w : World) (hT : TabD w) (hl : Kd.C (Kd.int .i64) w A l.length l) (hq : l.length ≤ q) : Calls Tryd.prog 7 #[.int .i64 a, .int .i64 b, .slice A l.length q] w fun e W' => e = .returned (.bool true) ∧ Below w.heap.size w W' := by
  refine Calls.mono (R := fun e W' => e = .returned (.bool true) ∧ w.grownBy W' none) ?_ (fun e W' h => ⟨h.1, below_of_grown h.2⟩)
  have HT := Aside0.mk hT
  have HL := Aside0.mk hl
  have HGr := Aside0.mk (World.grownBy.refl w none)
  clear hT hl
  by_cases hbad : a < 0 ∨ 1024 ≤ a ∨ b < 0 ∨ 1024 - a < b
  · go_enter Tryd.func7, Tryd.ntmps7
    go_wp2_with (first
      | (go_at_call 8; refine (new_bad a b _ hbad).mono ?_; rintro e W' ⟨rfl, hw⟩; rw [hw]; clear hw)
      | (go_at_call 9; refine (awake_calls _ (HT.out.keep (below_of_grown HGr.out))).mono ?_; rintro e W9 ⟨rfl, hg9⟩; have HG9 := Aside0.mk (HGr.out.trans hg9); clear hg9))
    go_ret
    exact ⟨rfl, HG9.out⟩
  · obtain ⟨a, rfl⟩ := Int.eq_ofNat_of_zero_le (show 0 ≤ a by omega)
    obtain ⟨b, rfl⟩ := Int.eq_ofNat_of_zero_le (show 0 ≤ b by omega)
    have hab : a < 1024 ∧ b ≤ 1024 - a := by omega
    by_cases h200 : 200 < l.length
    · have h200i : decide (200 < (l.length : Int)) = true := decide_eq_true (by omega)
      clear hbad
      go_enter Tryd.func7, Tryd.ntmps7
      go_wp2_with (first
        | (go_at_call 8; refine (new_good a b _ (by omega) (by omega)).mono ?_; rintro e W0 ⟨g, hg, rfl, hs, hg0⟩; have HG0 := Aside0.mk hg0; clear hs hg0)
        | (go_at_call 9; refine (awake_calls _ (HT.out.keep (below_of_grown HG0.out))).mono ?_; rintro e W9 ⟨rfl, hg9⟩; have HG9 := Aside0.mk (HG0.out.trans hg9); clear hg9))
      go_ret
      exact ⟨rfl, HG9.out⟩
    · have h200i : decide (200 < (l.length : Int)) = false := decide_eq_false (by omega)
      have h200n : l.length ≤ 200 := by omega
      clear hbad
      go_enter Tryd.func7, Tryd.ntmps7
      go_wp2_with (go_at_call 8; refine (new_good a b _ (by omega) (by omega)).mono ?_; rintro e W0 ⟨g, hg, rfl, hs, hg0⟩; have HS0 := Aside0.mk hs; have HG0 := Aside0.mk hg0; clear hs hg0)
      obtain ⟨f0, hf0⟩ : ∃ f0, f0 = spanF a b := ⟨_, rfl⟩
      rw [← hf0] at HS0
      clear hf0
      go_loopg [9] (l.length + 1) (fun kq v9 w' => ∃ i : Nat, v9 = .int .i64 (i : Int) ∧ Aside0 (i ≤ l.length ∧ i + kq = l.length + 1) ∧ Aside0 (SetF w' g (dropAll f0 (l.take i))) ∧ Aside0 (w.grownBy w' none))
      case atStart => exact ⟨0, rfl, ⟨⟨Nat.zero_le _, by omega⟩⟩, HS0, HG0⟩
      case round =>
        clear HS0 HG0
        obtain ⟨i, rfl, HN, HS, HG⟩ := hrel
        by_cases hi : i < l.length
        · have hii : (i : Int) < (l.length : Int) := by omega
          have hi0 : (0 : Int) ≤ (i : Int) := by omega
          obtain ⟨k1, rfl⟩ : ∃ k1, gk = k1 + 1 := ⟨gk - 1, by have := HN.out.2; omega⟩
          obtain ⟨ad, eA, y0⟩ := Kd.at_int HL.out (i : Int) hi0 hii
          subst eA
          have hw1 : IntKind.i64.wrap ((i : Int) + 1) = ((i + 1 : Nat) : Int) := (IntWalk.i64_left _).trans ((IntWalk.wrap64_in _ (by omega)).trans (by omega))
          have hx1 : rd l (i : Int) = l.getD i 0 := by unfold rd; rw [Int.toNat_natCast]
          obtain ⟨x, hx⟩ : ∃ x, x = l.getD i 0 := ⟨_, rfl⟩
          rw [hx1, ← hx] at y0
          have t1 : dropAll f0 (l.take (i + 1)) = (dropF (dropAll f0 (l.take i)) x).2 := by rw [take_snoc hi, dropAll_snoc, hx]
          have HT1 := Aside0.mk t1
          have y1 : wr.cell? (ad.add i) = some (.int .i64 x) := cells_keep y0 (below_of_grown HG.out)
          clear hx1 hx t1 y0
          go_wp2_with (go_at_call 12; refine (drop_F HS.out x).mono ?_; rintro e W2 ⟨rfl, hs, hg'⟩; rw [← HT1.out] at hs; have HS2 := Aside0.mk hs; have HG2 := Aside0.mk (HG.out.andThen hg' (fun j e => by cases e; exact .inl hg)); clear hs hg')
          go_roundg k1
          case measure => omega
          case rel => exact ⟨i + 1, by first | rfl | simp, ⟨by have := HN.out; omega⟩, HS2, HG2⟩
        · have hii : ¬ (i : Int) < (l.length : Int) := by omega
          obtain ⟨f, hf⟩ : ∃ f, f = dropAll f0 (l.take i) := ⟨_, rfl⟩
          rw [← hf] at HS
          clear hf
          have hlen := listN_len f 1024
          obtain ⟨L, hL⟩ : ∃ L, L = listN f 1024 := ⟨_, rfl⟩
          rw [← hL] at hlen
          have HLL := Aside0.mk hL
          clear hL
          go_wp2_with (go_at_call 14; refine (all_F HS.out (HT.out.keep (below_of_grown HG.out))).mono ?_; rintro e W0 ⟨v, rfl, hR, hg'⟩; rw [← HLL.out] at hR; obtain ⟨A8, q8, rfl, hq8, _⟩ := Kd.R_reads hR; obtain ⟨B8, hB8⟩ : ∃ B8, B8 = wr.heap.size := ⟨_, rfl⟩; rw [← hB8] at hR; have HGL8 := Aside0.mk (show g < B8 by (rw [hB8]; exact HS.out.lt)); have HR8 := Aside0.mk hR; clear hB8; have HS3 := Aside0.mk (HS.out.grown hg' (by simp)); have HG3 := Aside0.mk (HG.out.trans hg'); clear hR hg')
          have HGL := Aside0.mk HS3.out.lt
          have HW0 := Aside0.mk HG3.out.size
          go_loopg [11, 12] (L.length + 2) (fun kq v11 v12 w' => ∃ (i : Nat) (fi : Nat → Bool), v12 = .int .i64 (i : Int) ∧ Aside0 (i ≤ L.length + 1 ∧ i + kq = L.length + 2) ∧ Aside0 (listN fi 1024 = L.drop i) ∧ Aside0 (SetF w' g fi) ∧ Aside0 ((Kd.int .i64).R 3 w' W0.heap.size (fun _ => True) v11 (L.take i)) ∧ Aside0 (w.grownBy w' none) ∧ Aside0 (W0.grownBy w' (some g)))
          case atStart => exact ⟨0, f, rfl, ⟨⟨Nat.zero_le _, by omega⟩⟩, ⟨HLL.out.symm⟩, HS3, ⟨Kd.R_nil _ _ _ _ _⟩, HG3, ⟨World.grownBy.refl _ _⟩⟩
          case round =>
            clear HS HG HS3 HG3
            obtain ⟨i, fi, rfl, HN2, HF, HS, HR, HG, HX⟩ := hrel
            obtain ⟨Ti, hTi⟩ : ∃ Ti, Ti = L.take i := ⟨_, rfl⟩
            rw [← hTi] at HR
            obtain ⟨A0, c0, rfl, _, _⟩ := Kd.R_reads HR.out
            have HTI := Aside0.mk hTi
            clear hTi
            by_cases hle : i ≤ L.length
            · have hleI : decide ((i : Int) ≤ (L.length : Int)) = true := decide_eq_true (by omega)
              obtain ⟨k1, rfl⟩ : ∃ k1, gk = k1 + 1 := ⟨gk - 1, by have := HN2.out.2; omega⟩
              have hw1 : IntKind.i64.wrap ((i : Int) + 1) = ((i + 1 : Nat) : Int) := (IntWalk.i64_left _).trans ((IntWalk.wrap64_in _ (by omega)).trans (by omega))
              rcases take_list fi with ⟨k1', k2⟩ | ⟨x, k0, k1', k2, k3⟩
              · have hil : i = L.length := by
                  have h5 := HF.out
                  rw [k1'] at h5
                  have := congrArg List.length h5
                  rw [List.length_drop] at this; simp at this; omega
                have hlt : decide ((i : Int) < (L.length : Int)) = false := decide_eq_false (by omega)
                have HTK := Aside0.mk k2
                have hF2 : listN fi 1024 = L.drop (i + 1) := by rw [k1', List.drop_eq_nil_of_le (by omega)]
                have hT2 : L.take (i + 1) = Ti := by rw [HTI.out, List.take_of_length_le (by omega), List.take_of_length_le (by omega)]
                have HF2 := Aside0.mk (And.intro hF2 hT2)
                have hn1 : ¬ i < L.length := by omega
                clear k1' k2 hF2 hT2 hil
                go_wp2_with (go_at_call 16; refine (take_F HS.out (HT.out.keep (below_of_grown HG.out))).mono ?_; rintro e W2 ⟨rfl, hs, hg'⟩; rw [HTK.out] at hs ⊢; have HS2 := Aside0.mk hs; have HG2 := Aside0.mk (HG.out.andThen hg' (fun j e => by cases e; exact .inl hg)); have HX2 := Aside0.mk (HX.out.andThen hg' (fun j e => .inr e)); have HR2 := Aside0.mk (R_grown_m HR.out hg' HGL.out); clear hs hg')
                go_roundg k1
                case measure => omega
                case rel => exact ⟨i + 1, fi, by first | rfl | simp, ⟨by have := HN2.out; omega⟩, ⟨HF2.out.1⟩, HS2, ⟨by rw [HF2.out.2]; exact HR2.out⟩, HG2, HX2⟩
              · have hil : i < L.length := by
                  have h5 := HF.out
                  rw [k3] at h5
                  have := congrArg List.length h5
                  rw [List.length_drop] at this; simp at this; omega
                have hlt : decide ((i : Int) < (L.length : Int)) = true := decide_eq_true (by omega)
                have hsp : L.drop i = L.getD i 0 :: L.drop (i + 1) := by
                  rw [List.drop_eq_getElem_cons hil, List.getD_eq_getElem?_getD, List.getElem?_eq_getElem hil]; rfl
                have hx : (x : Int) = L.getD i 0 ∧ listN (flipF fi x) 1024 = L.drop (i + 1) := by
                  have h5 := HF.out
                  rw [k3, hsp] at h5
                  injection h5 with e1 e2
                  exact ⟨e1, e2⟩
                have hT2 : L.take (i + 1) = Ti ++ [(x : Int)] := by rw [take_snoc hil, hx.1, HTI.out]
                have hLB : (Ti.length + 1) * 8 ≤ 140737488355328 := by rw [HTI.out, List.length_take]; omega
                have HTK := Aside0.mk k2
                have HF2 := Aside0.mk hx.2
                have HSN := Aside0.mk hT2
                have HLB := Aside0.mk hLB
                clear k0 k1' k2 k3 hsp hx hT2 hLB
                go_wp2_with (first
                  | ((with_reducible refine gate_builtin (b := .append) (xs := #[.tmp 64, .tmp 66]) rfl ?_); at_builtin; refine R_appendP (Kd.int .i64) (W := W2) W0.heap.size rfl (.tmp 64) (.tmp 66) 31 3 (.int .i64 0) 8 rfl Tryd.underlying31 info3 rfl (by decide) (by decide) (.slice A0 Ti.length c0) Ti (x : Int) [.int .i64 (x : Int)] (fun _ => True) (fun _ => False) rfl rfl (by rfl) (fun _ h => h.elim) (fun _ _ => trivial) HR2.out HWs.out HLB.out ?_; intro v1 Wa hRa hga; rw [← HSN.out] at hRa; obtain ⟨A1, c1, rfl, _, _⟩ := Kd.R_reads hRa; have HRa := Aside0.mk hRa; have HGa := Aside0.mk (HG2.out.andThen hga (fun j e => .inl (Nat.le_trans HW0.out (Kd.R_base HR2.out j e)))); have HXa := Aside0.mk (HX2.out.andThen hga (fun j e => .inl (Kd.R_base HR2.out j e))); have HSa := Aside0.mk (HS2.out.grown hga (fun e => by have := Kd.R_base HR2.out g e.symm; have := HGL.out; omega)); clear hRa hga)
                  | (go_at_call 16; refine (take_F HS.out (HT.out.keep (below_of_grown HG.out))).mono ?_; rintro e W2 ⟨rfl, hs, hg'⟩; rw [HTK.out] at hs ⊢; have HS2 := Aside0.mk hs; have HG2 := Aside0.mk (HG.out.andThen hg' (fun j e => by cases e; exact .inl hg)); have HX2 := Aside0.mk (HX.out.andThen hg' (fun j e => .inr e)); have HR2 := Aside0.mk (R_grown_m HR.out hg' HGL.out); have HWs := Aside0.mk HX2.out.size; clear hs hg'))
                go_roundg k1
                case measure => omega
                case rel => exact ⟨i + 1, _, by first | rfl | simp, ⟨by have := HN2.out; omega⟩, HF2, HSa, ⟨by have h := HRa.out; rw [List.length_take] at h; exact h⟩, HGa, HXa⟩
            · have hleI : decide ((i : Int) ≤ (L.length : Int)) = false := decide_eq_false (by omega)
              have hi1 : i = L.length + 1 := by have := HN2.out; omega
              have hdr : listN fi 1024 = [] := by rw [HF.out, List.drop_eq_nil_of_le (by omega)]
              have htk : L = Ti := by rw [HTI.out]; exact (List.take_of_length_le (by omega)).symm
              have he : ∀ m, m < 1024 → fi m = false := empty_all hdr
              have hcnt : cntF fi 1024 = 0 := by rw [← listN_cnt, hdr]; rfl
              have HE := Aside0.mk he
              have HCNT := Aside0.mk hcnt
              clear HTI
              subst htk
              have HRu := HR
              have hqa := (Kd.R_reads' HRu.out).2.1
              have HSAME := Aside0.mk (same_refl (l := L) (by omega) (k := 1100) (by omega))
              have HR8' := Aside0.mk (R_grown_m HR8.out HX.out HGL8.out)
              clear hdr he hcnt hi1 HF
              go_wp2_with (first
                | (have _ := HX2; go_at_call 11; refine (len_F (HS.out.grown HX2.out (by simp))).mono ?_; rintro e W6 ⟨rfl, hg'⟩; rw [HCNT.out]; have HX3 := Aside0.mk (HX2.out.trans hg'); clear hg')
                | (go_at_call 15; refine (prioryref08_Same.calls 1100 A0 c0 L A8 q8 L true _ (Kd.R_reads' HRu.out).2.2 hqa (Kd.R_reads' HR8'.out).2.2 hq8 HSAME.out).mono ?_; rintro e W5 ⟨rfl, hd⟩; have HX2 := Aside0.mk (gb_drawn hd); clear hd))
              go_loopg [15] (L.length + 1) (fun kq v15 w' => ∃ j : Nat, v15 = .int .i64 (j : Int) ∧ Aside0 (j ≤ L.length ∧ j + kq = L.length + 1) ∧ Aside0 (SetF w' g (putAll fi (L.reverse.take j))) ∧ Aside0 (w.grownBy w' none) ∧ Aside0 ((Kd.int .i64).R 3 w' W0.heap.size (fun _ => True) (.slice A0 L.length c0) L) ∧ Aside0 ((Kd.int .i64).R 3 w' B8 (fun _ => True) (.slice A8 L.length q8) L))
              case atStart => exact ⟨0, rfl, ⟨⟨Nat.zero_le _, by omega⟩⟩, ⟨HS.out.grown HX3.out (by simp)⟩, ⟨HG.out.trans HX3.out⟩, ⟨R_ownG HRu.out HX3.out⟩, ⟨R_ownG HR8'.out HX3.out⟩⟩
              case round =>
                clear HX2 HX3 HS HG HX HRu HR8'
                obtain ⟨j, rfl, HN3, HS, HG, HRu, HR8i⟩ := hrel
                by_cases hj : j < L.length
                · have hjj : (j : Int) < (L.length : Int) := by omega
                  obtain ⟨k1, rfl⟩ : ∃ k1, gk = k1 + 1 := ⟨gk - 1, by have := HN3.out.2; omega⟩
                  obtain ⟨jI, hjI⟩ : ∃ jI : Int, jI = (L.length : Int) - 1 - (j : Int) := ⟨_, rfl⟩
                  have hj0 : (0 : Int) ≤ jI := by omega
                  have hj1 : jI < (L.length : Int) := by omega
                  obtain ⟨ad, eA, z0⟩ := Kd.at_int (Kd.R_reads' HRu.out).2.2 jI hj0 hj1
                  subst eA
                  have hw1 : IntKind.i64.wrap ((j : Int) + 1) = ((j + 1 : Nat) : Int) := (IntWalk.i64_left _).trans ((IntWalk.wrap64_in _ (by omega)).trans (by omega))
                  have hw2 : IntKind.i64.wrap ((L.length : Int) - 1) = (L.length : Int) - 1 := (IntWalk.i64_left _).trans (IntWalk.wrap64_in _ (by omega))
                  have hw3 : IntKind.i64.wrap ((L.length : Int) - 1 - (j : Int)) = jI := (IntWalk.i64_left _).trans ((IntWalk.wrap64_in _ (by omega)).trans hjI.symm)
                  have hx2 : rd L jI = L.reverse.getD j 0 := by unfold rd; rw [rev_getD hj, show jI.toNat = L.length - 1 - j by omega]
                  have hput : (putF (putAll fi (L.reverse.take j)) (L.reverse.getD j 0)).1 = 0 := by
                    have := put_back (f := f) HE.out (i := j) (by rw [← HLL.out]; exact hj)
                    rw [← HLL.out] at this; exact this
                  obtain ⟨x, hx⟩ : ∃ x, x = L.reverse.getD j 0 := ⟨_, rfl⟩
                  rw [hx2, ← hx] at z0
                  rw [← hx] at hput
                  have t1 : putAll fi (L.reverse.take (j + 1)) = (putF (putAll fi (L.reverse.take j)) x).2 := by rw [take_snoc (by rw [List.length_reverse]; exact hj), putAll_snoc, hx]
                  have HT1 := Aside0.mk (And.intro hput t1)
                  clear hx2 hput hx t1 hjI
                  go_wp2_with (go_at_call 13; refine (put_F HS.out x).mono ?_; rintro e W2 ⟨rfl, hs, hg'⟩; rw [HT1.out.1]; rw [← HT1.out.2] at hs; have HS2 := Aside0.mk hs; have HG2 := Aside0.mk (HG.out.andThen hg' (fun j e => by cases e; exact .inl hg)); have HRv := Aside0.mk (R_grown_m HRu.out hg' HGL.out); have HR8j := Aside0.mk (R_grown_m HR8i.out hg' HGL8.out); clear hs hg')
                  go_roundg k1
                  case measure => omega
                  case rel => exact ⟨j + 1, by first | rfl | simp, ⟨by have := HN3.out; omega⟩, HS2, HG2, HRv, HR8j⟩
                · have hjj : ¬ (j : Int) < (L.length : Int) := by omega
                  have hjl : j = L.length := by have := HN3.out; omega
                  have hfin : listN (putAll fi (L.reverse.take j)) 1024 = L := by
                    rw [hjl, ← List.length_reverse, List.take_length, HLL.out]
                    exact back_all HE.out
                  have HFN := Aside0.mk hfin
                  clear hfin hjl
                  go_wp2_with (first
                    | (have _ := HX5; go_at_call 9; refine (awake_calls _ (HT.out.keep (below_of_grown (HG.out.trans HX5.out)))).mono ?_; rintro e W9 ⟨rfl, hg9⟩; have HG9 := Aside0.mk ((HG.out.trans HX5.out).trans hg9); clear hg9)
                    | (have _ := HX4; go_at_call 15; refine (prioryref08_Same.calls 1100 A80 q80 L A8 q8 L true _ HC80.out hq80 (Kd.R_reads' (R_ownG HR8i.out HX4.out)).2.2 hq8 HSAME.out).mono ?_; rintro e W5 ⟨rfl, hd⟩; have HX5 := Aside0.mk (HX4.out.trans (gb_drawn hd)); clear hd)
                    | (go_at_call 14; refine (all_F HS.out (HT.out.keep (below_of_grown HG.out))).mono ?_; rintro e W4 ⟨v, rfl, hR, hg'⟩; rw [HFN.out] at hR; obtain ⟨A80, q80, rfl, hq80, hC80⟩ := Kd.R_reads hR; have HC80 := Aside0.mk hC80; have HX4 := Aside0.mk hg'; clear hR hC80 hg'))
                  go_ret
                  exact ⟨rfl, HG9.out⟩
end Go.Proofs.YtiaegandgjgjhaaDoor.PAll
