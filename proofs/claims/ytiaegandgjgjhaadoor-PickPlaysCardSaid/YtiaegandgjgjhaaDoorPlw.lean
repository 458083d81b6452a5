/-
  PickPlays: the walk.
-/
import Derived.Test.YtiaegandgjgjhaaDoorPlp
namespace Go.Proofs.YtiaegandgjgjhaaDoor.PAll
open Go.RowKit Go.Proofs.YtiaegandgjgjhaaDoorM Go.Proofs.YtiaegandgjgjhaaDoorW.PrintWords Go.Proofs.YtiaegandgjgjhaaDoorW.PrintLast Go.Proofs.YtiaegandgjgjhaaDoorW.PrintMore
set_option linter.unusedVariables false
set_option linter.unusedSimpArgs false
structure S41 where
  f0 : Int
  f1 : Int
def z41 : S41 := ⟨(0 : Int), (0 : Int)⟩
def k41 : Kd S41 := Kd.iso (Kd.pair (Kd.int .i64) (Kd.int .i64)) (fun x : S41 => (x.f0, x.f1))
theorem k41_open {w : World} {x : S41} {cs : List Value} (h : k41.K w x cs) : cs = [.int .i64 x.f0, .int .i64 x.f1] := by
  obtain ⟨_, _, rfl, rfl, rfl⟩ := h
  exact rfl
theorem k41_mk (w : World) (x : S41)  : k41.K w x [.int .i64 x.f0, .int .i64 x.f1] := ⟨[.int .i64 x.f0], [.int .i64 x.f1], rfl, rfl, rfl⟩
def rd_T41 (xs : List S41) (i : Int) : S41 := xs.getD i.toNat z41
theorem at_T41 {w : World} {A : Option Addr} {n : Nat} {xs : List S41} (h : Kd.C k41 w A n xs) (i : Int) (h0 : 0 ≤ i) (h1 : i < n) : ∃ ad , A = some ad ∧ w.cell? (ad.add (i.toNat * 2)) = some (.int .i64 (rd_T41 xs i).f0) ∧ w.cell? ⟨(ad.add (i.toNat * 2)).block, (ad.add (i.toNat * 2)).off + 1, none⟩ = some (.int .i64 (rd_T41 xs i).f1) := by
  obtain ⟨ad, c, e, _, hK, hc0⟩ := Kd.C_get h z41 i h0 h1
  have hc : ∀ j u, c[j]? = some u → w.cell? (ad.add (i.toNat * 2 + j)) = some u := hc0
  obtain rfl := k41_open hK
  exact ⟨ad, e, hc 0 _ rfl, by rw [← add_field _ _ 1 (by omega)]; exact hc 1 _ rfl⟩
theorem drawn_trans {a b c : World} (h : Drawn0 a b) (k : Drawn0 b c) : Drawn0 a c := by
  obtain ⟨n, rfl⟩ := h
  obtain ⟨m, rfl⟩ := k
  exact ⟨n + m, by rw [World.drewN_drewN]⟩
set_option maxRecDepth 100000 in
set_option maxHeartbeats 4000000 in
theorem len_D {w : World} {g : Nat} {made : Bool} {f : Nat → Bool} (h : SetG w g made f) :
    Calls Tryd.prog 11 #[.pointer (some ⟨g, 0, none⟩)] w fun e W' => e = .returned (.int .i64 ((cntF f 1024 : Nat) : Int)) ∧ Drawn0 w W' := by
  obtain ⟨ws, h1, h2⟩ := h
  have HH := Aside0.mk (And.intro h1 h2)
  have c0 := h1.cellw (i := 0) (by omega); have c1 := h1.cellw (i := 1) (by omega); have c2 := h1.cellw (i := 2) (by omega); have c3 := h1.cellw (i := 3) (by omega)
  have c4 := h1.cellw (i := 4) (by omega); have c5 := h1.cellw (i := 5) (by omega); have c6 := h1.cellw (i := 6) (by omega); have c7 := h1.cellw (i := 7) (by omega)
  have c8 := h1.cellw (i := 8) (by omega); have c9 := h1.cellw (i := 9) (by omega); have c10 := h1.cellw (i := 10) (by omega); have c11 := h1.cellw (i := 11) (by omega)
  have c12 := h1.cellw (i := 12) (by omega); have c13 := h1.cellw (i := 13) (by omega); have c14 := h1.cellw (i := 14) (by omega); have c15 := h1.cellw (i := 15) (by omega)
  simp only [Nat.reduceAdd, Nat.add_zero] at c0 c1 c2 c3 c4 c5 c6 c7 c8 c9 c10 c11 c12 c13 c14 c15
  clear h1 h2
  go_enter Tryd.func11, Tryd.ntmps11
  go_wp2
  obtain ⟨AG, hAG⟩ : ∃ AG, AG = #[Value.int .u64 ((ws[0]?.getD 0 : Nat) : Int), Value.int .u64 ((ws[1]?.getD 0 : Nat) : Int), Value.int .u64 ((ws[2]?.getD 0 : Nat) : Int), Value.int .u64 ((ws[3]?.getD 0 : Nat) : Int), Value.int .u64 ((ws[4]?.getD 0 : Nat) : Int), Value.int .u64 ((ws[5]?.getD 0 : Nat) : Int), Value.int .u64 ((ws[6]?.getD 0 : Nat) : Int), Value.int .u64 ((ws[7]?.getD 0 : Nat) : Int), Value.int .u64 ((ws[8]?.getD 0 : Nat) : Int), Value.int .u64 ((ws[9]?.getD 0 : Nat) : Int), Value.int .u64 ((ws[10]?.getD 0 : Nat) : Int), Value.int .u64 ((ws[11]?.getD 0 : Nat) : Int), Value.int .u64 ((ws[12]?.getD 0 : Nat) : Int), Value.int .u64 ((ws[13]?.getD 0 : Nat) : Int), Value.int .u64 ((ws[14]?.getD 0 : Nat) : Int), Value.int .u64 ((ws[15]?.getD 0 : Nat) : Int)] := ⟨_, rfl⟩
  rw [← hAG]
  have hA : ∀ i : Nat, i < 16 → AG[i]? = some (.int .u64 ((ws.getD i 0 : Nat) : Int)) := fun i hi => by
    rw [hAG]
    simp only [List.getD_eq_getElem?_getD]
    rcases (show i = 0 ∨ i = 1 ∨ i = 2 ∨ i = 3 ∨ i = 4 ∨ i = 5 ∨ i = 6 ∨ i = 7 ∨ i = 8 ∨ i = 9 ∨ i = 10 ∨ i = 11 ∨ i = 12 ∨ i = 13 ∨ i = 14 ∨ i = 15 by omega) with rfl | rfl | rfl | rfl | rfl | rfl | rfl | rfl | rfl | rfl | rfl | rfl | rfl | rfl | rfl | rfl <;> rfl
  have hAs : AG.size = 16 := by rw [hAG]; rfl
  have HA := Aside0.mk hA
  have HAs := Aside0.mk hAs
  clear hAG hA hAs c0 c1 c2 c3 c4 c5 c6 c7 c8 c9 c10 c11 c12 c13 c14 c15
  go_loopg [3, 12] 17 (fun kq v3 v12 w' => ∃ (i c : Nat), v3 = .int .i64 (c : Int) ∧ v12 = .int .i64 (i : Int) ∧ Aside0 (c = cntF f (64 * i) ∧ i + kq = 17 ∧ i ≤ 16) ∧ Aside0 (Drawn0 w w'))
  case atStart => exact ⟨0, 0, rfl, rfl, ⟨⟨rfl, rfl, by omega⟩⟩, ⟨⟨0, rfl⟩⟩⟩
  case round =>
    obtain ⟨i, c, rfl, rfl, HC, HG⟩ := hrel
    by_cases hi : i < 16
    · have hii : (i : Int) < 16 := by omega
      have hidx := fun W => idx AG i _ hi (HA.out i hi) W
      obtain ⟨x, hx⟩ : ∃ x : Nat, x = ws.getD i 0 := ⟨_, rfl⟩
      rw [← hx] at hidx
      obtain ⟨p, hp⟩ : ∃ p : Nat, p = Lib.popAux 64 x := ⟨_, rfl⟩
      have hxl : x < 18446744073709551616 := by rw [hx]; exact HH.out.1.word i
      have hon : bits_OnesCount64.f (x : Int) = some (p : Int) := by rw [hp]; exact ones64 x hxl
      have hc2 : c + p = cntF f (64 * (i + 1)) := by rw [cnt_block HH.out.2 i hi, HC.out.1, hp, hx]
      have hle : c + p ≤ 1024 := by rw [hc2]; exact Nat.le_trans (cnt_le f _) (by omega)
      have hw1 : IntKind.i64.wrap ((c : Int) + (p : Int)) = ((c + p : Nat) : Int) := (IntWalk.i64_left _).trans ((IntWalk.wrap64_in _ (by omega)).trans (by omega))
      have hw2 : IntKind.i64.wrap ((i : Int) + 1) = ((i + 1 : Nat) : Int) := (IntWalk.i64_left _).trans ((IntWalk.wrap64_in _ (by omega)).trans (by omega))
      have HK := Aside0.mk (And.intro hc2 hon)
      clear hx hp hc2 hon
      obtain ⟨k1, rfl⟩ : ∃ k1, gk = k1 + 1 := ⟨gk - 1, by have := HC.out.2; omega⟩
      go_wp2_with (go_at_call 23; refine (bits_OnesCount64.calls (x : Int) (p : Int) _ HK.out.2).mono ?_; rintro e W' ⟨rfl, hd⟩; have HG2 := Aside0.mk (drawn_trans HG.out hd); clear hd)
      go_roundg k1
      case measure => omega
      case rel => exact ⟨i + 1, c + p, by first | rfl | simp, by first | rfl | simp, ⟨⟨HK.out.1, by have := HC.out.2; omega, by omega⟩⟩, HG2⟩
    · have hii : ¬ (i : Int) < 16 := by omega
      have hi16 : i = 16 := by have := HC.out.2; omega
      go_wp2
      go_ret
      refine ⟨?_, HG.out⟩
      have := HC.out.1
      rw [hi16] at this
      simp [this]
theorem far1 {g c : Nat} {A A2 : Option Addr} (h : A2 = (if c = 1 then A else A.map (·.add (1 * 1)))) (hf : ∀ ad, A = some ad → ad.block ≠ g) : ∀ ad, A2 = some ad → ad.block ≠ g := fun ad ha => by
  rw [h] at ha
  split at ha
  · exact hf _ ha
  · cases A with
    | none => cases ha
    | some a0 => cases ha; exact hf a0 rfl
theorem slice1 (L : List Int) (A : Option Addr) (c : Nat) (h : 1 ≤ L.length) (W : World) :
    (Instr.slice 31 (.slice A L.length c) (some (.int .i64 1)) none none).run Tryd.prog W = .ok (.slice (if c = 1 then A else A.map (·.add (1 * 1))) (L.length - 1) (c - 1)) W := by
  obtain ⟨i0, hi1, hzz⟩ := Option.map_eq_some_iff.1 info3
  simp only [Prod.mk.injEq] at hzz
  exact cut_from (P := Tryd.prog) 31 3 .i64 Tryd.underlying31 hi1 1 hzz.2.1 A L.length c (1 : Int) (by omega) (by omega) W
set_option maxRecDepth 100000 in
set_option maxHeartbeats 16000000 in
theorem plays_calls (a b : Int) (A : Option Addr) (q : Nat) (l : List S41) (w : World) (hT : TabD w) (hl : Kd.C k41 w A l.length l) (hq : l.length ≤ q) : Calls Tryd.prog 5 #[.int .i64 a, .int .i64 b, .slice A l.length q] w fun e W' => e = .returned (.bool true) ∧ Below w.heap.size w W' := by
  refine Calls.mono (R := fun e W' => e = .returned (.bool true) ∧ w.grownBy W' none) ?_ (fun e W' h => ⟨h.1, below_of_grown h.2⟩)
  have HT := Aside0.mk hT
  have HL := Aside0.mk hl
  have HGr := Aside0.mk (World.grownBy.refl w none)
  clear hT hl
  by_cases h200 : 200 < l.length
  · have h200i : decide (200 < (l.length : Int)) = true := decide_eq_true (by omega)
    go_enter Tryd.func5, Tryd.ntmps5
    go_wp2_with (go_at_call 9; refine (awake_calls _ (HT.out.keep (below_of_grown HGr.out))).mono ?_; rintro e W9 ⟨rfl, hg9⟩; have HG9 := Aside0.mk hg9; clear hg9)
    go_ret
    exact ⟨rfl, HG9.out⟩
  · have h200i : decide (200 < (l.length : Int)) = false := decide_eq_false (by omega)
    have h200n : l.length ≤ 200 := by omega
    by_cases hbad : a < 0 ∨ 1024 ≤ a ∨ b < 0 ∨ 1024 - a < b
    · go_enter Tryd.func5, Tryd.ntmps5
      go_wp2_with (first
        | (go_at_call 8; refine (new_bad a b _ hbad).mono ?_; rintro e W' ⟨rfl, hw⟩; rw [hw]; clear hw)
        | (go_at_call 17; refine (prioryref08_New.calls 1100 a b [] 2 _ (rnew_bad a b hbad)).mono ?_; rintro e W1 ⟨v1, rfl, hR, hb⟩; have HG1 := Aside0.mk (gb_below hb); clear hR hb)
        | (have _ := HG1; go_at_call 9; refine (awake_calls _ (HT.out.keep (below_of_grown HG1.out))).mono ?_; rintro e W9 ⟨rfl, hg9⟩; have HG9 := Aside0.mk (HG1.out.trans hg9); clear hg9))
      go_ret
      exact ⟨rfl, HG9.out⟩
    · obtain ⟨a, rfl⟩ := Int.eq_ofNat_of_zero_le (show 0 ≤ a by omega)
      obtain ⟨b, rfl⟩ := Int.eq_ofNat_of_zero_le (show 0 ≤ b by omega)
      have hab : a < 1024 ∧ b ≤ 1024 - a := by omega
      obtain ⟨f0, hf0⟩ : ∃ f0, f0 = spanF a b := ⟨_, rfl⟩
      have HF0 := Aside0.mk hf0
      clear hbad hf0
      go_enter Tryd.func5, Tryd.ntmps5
      go_wp2_with (first
        | (go_at_call 8; refine (new_good a b _ hab.1 hab.2).mono ?_; rintro e W0 ⟨g, hg, rfl, hs, hg0⟩; rw [← HF0.out] at hs; have HS0 := Aside0.mk hs; have HG0 := Aside0.mk hg0; clear hs hg0)
        | (have _ := HG0; go_at_call 17; refine (prioryref08_New.calls 1100 (a : Int) (b : Int) (listN f0 1024) 0 _ (by rw [HF0.out]; exact rnew_good a b hab.1 hab.2)).mono ?_; rintro e W1 ⟨v1, rfl, hR, hb⟩; have HR1 := Aside0.mk (RC_own hR HS0.out.lt); have HS1 := Aside0.mk (HS0.out.grown (gb_below hb) (by simp)); have HG1 := Aside0.mk (HG0.out.trans (gb_below hb)); clear hR hb))
      go_loopg [9, 11] (l.length + 1) (fun kq v9 v11 w' => ∃ (i : Nat) (f : Nat → Bool), v11 = .int .i64 (i : Int) ∧ Aside0 (i ≤ l.length ∧ i + kq = l.length + 1) ∧ Aside0 (RC g w' v9 (listN f 1024)) ∧ Aside0 (SetF w' g f) ∧ Aside0 (w.grownBy w' none))
      case atStart => exact ⟨0, f0, rfl, ⟨⟨Nat.zero_le _, by omega⟩⟩, HR1, HS1, HG1⟩
      case round =>
        clear HS0 HG0 HR1 HS1 HG1
        obtain ⟨i, f, rfl, HN, HR, HS, HG⟩ := hrel
        obtain ⟨A0, c0, rfl, hLE0, hC0, hF0⟩ := HR.out
        clear HR
        obtain ⟨L, hL⟩ : ∃ L, L = listN f 1024 := ⟨_, rfl⟩
        rw [← hL] at hLE0 hC0 hF0 ⊢
        have hlen : L.length ≤ 1024 := by rw [hL]; exact listN_len f 1024
        have HLL := Aside0.mk hL
        have HC0 := Aside0.mk hC0
        have HFA0 := Aside0.mk hF0
        clear hL hC0 hF0
        by_cases hi : i < l.length
        · have hii : (i : Int) < (l.length : Int) := by omega
          have hi0 : (0 : Int) ≤ (i : Int) := by omega
          obtain ⟨k1, rfl⟩ : ∃ k1, gk = k1 + 1 := ⟨gk - 1, by have := HN.out.2; omega⟩
          obtain ⟨ad, eA, y0, y1⟩ := at_T41 HL.out (i : Int) hi0 hii
          subst eA
          obtain ⟨o, ho⟩ : ∃ o, o = rd_T41 l (i : Int) := ⟨_, rfl⟩
          rw [← ho, Int.toNat_natCast] at y0 y1
          replace y0 := cells_keep y0 (below_of_grown HG.out)
          replace y1 := cells_keep y1 (below_of_grown HG.out)
          have hw1 : IntKind.i64.wrap ((i : Int) + 1) = ((i + 1 : Nat) : Int) := (IntWalk.i64_left _).trans ((IntWalk.wrap64_in _ (by omega)).trans (by omega))
          clear ho
          obtain ⟨o0, o1⟩ := o
          simp only at y0 y1
          obtain ⟨bt, hbt⟩ : ∃ bt, bt = wr.heap.size := ⟨_, rfl⟩
          have HGL := Aside0.mk HS.out.lt
          have pin : ∀ W : World, (wr.alloc (.cells #[.int .i64 o0, .int .i64 o1] 41)).grownBy W (some g) → W.cell? ⟨wr.heap.size, 1, none⟩ = some (.int .i64 o1) := fun W hW =>
            (blk_cell (blk_grown (new_at (W := wr) (.cells #[.int .i64 o0, .int .i64 o1] 41) rfl) hW (fun e => by have := HGL.out; cases e; omega)) 1).trans rfl
          have HPIN := Aside0.mk pin
          have HA := Aside0.mk (World.grownBy_alloc wr (.cells #[.int .i64 o0, .int .i64 o1] 41) none)
          clear pin hbt
          by_cases hd1 : o0 = 1
          · subst hd1
            rcases take_list f with ⟨k1', k2⟩ | ⟨x, k0, k1', k2, k3⟩
            · have HTK := Aside0.mk k2
              have hnil : L = [] := by rw [HLL.out]; exact k1'
              clear k1' k2
              subst hnil
              go_wp2_with (go_at_call 16; refine (take_F (HS.out.grown HA.out (by simp)) (HT.out.keep (below_of_grown (HG.out.trans HA.out)))).mono ?_; rintro e W3 ⟨rfl, hs, hg'⟩; rw [HTK.out] at hs ⊢; have HS3 := Aside0.mk hs; have HG3 := Aside0.mk ((HG.out.trans HA.out).andThen hg' (fun j e => by cases e; exact .inl hg)); have HC3 := Aside0.mk (C_far (Kd.C_below HC0.out (below_of_grown HA.out)) HFA0.out hg'); have x1 := HPIN.out W3 hg'; clear hs hg')
              have HL2 := Aside0.mk (show ([] : List Int) = listN f 1024 from HLL.out)
              have HLE := Aside0.mk (show ([] : List Int).length ≤ c0 from Nat.zero_le _)
              have HFA := HFA0
              have HCN := Aside0.mk (show cntF f 1024 = (([] : List Int)).length by rw [HL2.out, listN_cnt])
              have HHS := Aside0.mk (show prioryref08_Has.f 1100 (([] : List Int)) o1 = some (hasI f o1) by rw [HL2.out, has_list (listN_len f 1024) o1, mem_hasI])
              have HQ11 := Aside0.mk (show ∀ n, Calls Tryd.prog 11 #[.pointer (some ⟨g, 0, none⟩)] (W3.drewN n) (fun e w2 => e = .returned (.int .i64 (((([] : List Int)).length : Nat) : Int)) ∧ ∃ m, w2 = W3.drewN m) from fun n => Calls.quiet_of ((len_D (HS3.out.grown (gb_drawn ⟨n, rfl⟩) (by simp))).mono (fun e W h => ⟨by rw [h.1, HCN.out], h.2.out⟩)))
              have HQ10 := Aside0.mk (show ∀ n, Calls Tryd.prog 10 #[.pointer (some ⟨g, 0, none⟩), .int .i64 o1] (W3.drewN n) (fun e w2 => e = .returned (.bool (hasI f o1)) ∧ ∃ m, w2 = W3.drewN m) from fun n => Calls.quiet_of_same (has_F (HS3.out.grown (gb_drawn ⟨n, rfl⟩) (by simp)) o1))
              have HQ20 := Aside0.mk (show ∀ n, Calls Tryd.prog 20 #[.slice A0 (([] : List Int)).length c0, .int .i64 o1] (W3.drewN n) (fun e w2 => e = .returned (.bool (hasI f o1)) ∧ ∃ m, w2 = W3.drewN m) from fun n => Calls.quiet_of ((prioryref08_Has.calls 1100 A0 c0 (([] : List Int)) o1 (hasI f o1) _ (Kd.C_below HC3.out (below_of_grown (gb_drawn ⟨n, rfl⟩))) HLE.out HHS.out).mono (fun e W h => ⟨h.1, h.2.out⟩)))
              go_quiet (first
                | (go_at_call 11; exact HQ11.out _)
                | (go_at_call 10; exact HQ10.out _)
                | (go_at_call 20; exact HQ20.out _))
              go_wp2
              go_roundg k1
              case measure => omega
              case rel => exact ⟨i + 1, f, by first | rfl | simp, ⟨by have := HN.out; omega⟩, ⟨⟨A0, c0, by rw [← HL2.out]; try rfl, by rw [← HL2.out]; exact HLE.out, by rw [← HL2.out]; exact Kd.C_below HC3.out (below_of_grown (gb_drawn ⟨_, rfl⟩)), by rw [← HL2.out]; exact HFA.out⟩⟩, ⟨HS3.out.grown (gb_drawn ⟨_, rfl⟩) (by simp)⟩, ⟨HG3.out.trans (gb_drawn ⟨_, rfl⟩)⟩⟩
            · obtain ⟨f2, hf2⟩ : ∃ f2, f2 = flipF f x := ⟨_, rfl⟩
              obtain ⟨L2, hL2⟩ : ∃ L2, L2 = listN f2 1024 := ⟨_, rfl⟩
              rw [← hf2] at k2 k3
              rw [← HLL.out, ← hL2] at k3
              have hl0 : 0 < L.length := by rw [k3]; simp
              have hlI : decide ((0 : Int) < (L.length : Int)) = true := decide_eq_true (by omega)
              have hl1 : ((L.length : Int) == 0) = false := beq_eq_false_iff_ne.2 (by omega)
              have hl2 : ¬ L = [] := by intro h; rw [h] at hl0; simp at hl0
              have hn2 : L.length - 1 = L2.length := by rw [k3]; simp
              obtain ⟨A2, hA2⟩ : ∃ A2 : Option Addr, A2 = (if c0 = 1 then A0 else A0.map (·.add (1 * 1))) := ⟨_, rfl⟩
              obtain ⟨c2, hc2⟩ : ∃ c2, c2 = c0 - 1 := ⟨_, rfl⟩
              have hcf : ∀ W : World, (Instr.slice 31 (.slice A0 L.length c0) (some (.int .i64 1)) none none).run Tryd.prog W = .ok (.slice A2 L2.length c2) W := fun W => by
                have := slice1 L A0 c0 hl0 W
                rw [← hA2, hn2, ← hc2] at this; exact this
              have hdp : ∀ W : World, Kd.C (Kd.int .i64) W A0 L.length L → Kd.C (Kd.int .i64) W A2 L2.length L2 := fun W h => by
                have := Kd.C_drop (m := 1) (c := c0) h hl0 hLE0
                rw [show L.drop 1 = L2 by rw [k3]; rfl] at this; rw [hA2]; exact this
              have HLE := Aside0.mk (show L2.length ≤ c2 by rw [hc2, ← hn2]; omega)
              have HFA := Aside0.mk (show ∀ ad, A2 = some ad → 0 < L2.length → ad.block ≠ g from fun ad ha _ => far1 hA2 (fun ad' h' => HFA0.out ad' h' hl0) ad ha)
              have HTK := Aside0.mk k2
              have HL2 := Aside0.mk hL2
              have HDP := Aside0.mk hdp
              have hrd : rd L 0 = (x : Int) := by rw [k3]; rfl
              have HRD := Aside0.mk hrd
              clear k0 k1' k2 k3 hf2 hL2 hn2 hA2 hc2 hdp hrd
              go_wp2_with (go_at_call 16; refine (take_F (HS.out.grown HA.out (by simp)) (HT.out.keep (below_of_grown (HG.out.trans HA.out)))).mono ?_; rintro e W3 ⟨rfl, hs, hg'⟩; rw [HTK.out] at hs ⊢; have HS3 := Aside0.mk hs; have HG3 := Aside0.mk ((HG.out.trans HA.out).andThen hg' (fun j e => by cases e; exact .inl hg)); have hC3 := C_far (Kd.C_below HC0.out (below_of_grown HA.out)) HFA0.out hg'; have HC3 := Aside0.mk (HDP.out _ hC3); have x1 := HPIN.out W3 hg'; obtain ⟨ad0, e0, c00⟩ := Kd.at_int hC3 0 (by omega) (by omega); cases e0; rw [HRD.out] at c00; have c01 : W3.cell? ad0 = some (.int .i64 (x : Int)) := c00; clear c00 hC3; clear hs hg')
              have HCN := Aside0.mk (show cntF f2 1024 = (L2).length by rw [HL2.out, listN_cnt])
              have HHS := Aside0.mk (show prioryref08_Has.f 1100 (L2) o1 = some (hasI f2 o1) by rw [HL2.out, has_list (listN_len f2 1024) o1, mem_hasI])
              have HQ11 := Aside0.mk (show ∀ n, Calls Tryd.prog 11 #[.pointer (some ⟨g, 0, none⟩)] (W3.drewN n) (fun e w2 => e = .returned (.int .i64 (((L2).length : Nat) : Int)) ∧ ∃ m, w2 = W3.drewN m) from fun n => Calls.quiet_of ((len_D (HS3.out.grown (gb_drawn ⟨n, rfl⟩) (by simp))).mono (fun e W h => ⟨by rw [h.1, HCN.out], h.2.out⟩)))
              have HQ10 := Aside0.mk (show ∀ n, Calls Tryd.prog 10 #[.pointer (some ⟨g, 0, none⟩), .int .i64 o1] (W3.drewN n) (fun e w2 => e = .returned (.bool (hasI f2 o1)) ∧ ∃ m, w2 = W3.drewN m) from fun n => Calls.quiet_of_same (has_F (HS3.out.grown (gb_drawn ⟨n, rfl⟩) (by simp)) o1))
              have HQ20 := Aside0.mk (show ∀ n, Calls Tryd.prog 20 #[.slice A2 (L2).length c2, .int .i64 o1] (W3.drewN n) (fun e w2 => e = .returned (.bool (hasI f2 o1)) ∧ ∃ m, w2 = W3.drewN m) from fun n => Calls.quiet_of ((prioryref08_Has.calls 1100 A2 c2 (L2) o1 (hasI f2 o1) _ (Kd.C_below HC3.out (below_of_grown (gb_drawn ⟨n, rfl⟩))) HLE.out HHS.out).mono (fun e W h => ⟨h.1, h.2.out⟩)))
              go_quiet (first
                | (go_at_call 11; exact HQ11.out _)
                | (go_at_call 10; exact HQ10.out _)
                | (go_at_call 20; exact HQ20.out _))
              go_wp2
              go_roundg k1
              case measure => omega
              case rel => exact ⟨i + 1, f2, by first | rfl | simp, ⟨by have := HN.out; omega⟩, ⟨⟨A2, c2, by rw [← HL2.out]; try rfl, by rw [← HL2.out]; exact HLE.out, by rw [← HL2.out]; exact Kd.C_below HC3.out (below_of_grown (gb_drawn ⟨_, rfl⟩)), by rw [← HL2.out]; exact HFA.out⟩⟩, ⟨HS3.out.grown (gb_drawn ⟨_, rfl⟩) (by simp)⟩, ⟨HG3.out.trans (gb_drawn ⟨_, rfl⟩)⟩⟩
          · by_cases hd2 : o0 = 2
            · subst hd2
              obtain ⟨f2, hf2⟩ : ∃ f2, f2 = (putF f o1).2 := ⟨_, rfl⟩
              obtain ⟨z, hz⟩ : ∃ z, z = (putF f o1).1 := ⟨_, rfl⟩
              obtain ⟨L2, hL2⟩ : ∃ L2, L2 = listN f2 1024 := ⟨_, rfl⟩
              have HPL := Aside0.mk (show putI L o1 = (L2, z) by rw [HLL.out, put_law, hL2, hf2, hz])
              have HZ := Aside0.mk (And.intro hz hf2)
              have HL2 := Aside0.mk hL2
              clear hf2 hz hL2
              go_wp2_with (first
                | (have _ := HG2; go_at_call 13; refine (put_F HS2.out o1).mono ?_; rintro e W3 ⟨rfl, hs, hg'⟩; rw [← HZ.out.1]; rw [← HZ.out.2] at hs; have HS3 := Aside0.mk hs; have HG3 := Aside0.mk (HG2.out.andThen hg' (fun j e => by cases e; exact .inl hg)); have HC3 := Aside0.mk (C_far HC2.out HFA.out hg'); have x2 := HPIN.out W3 (HX2.out.andThen hg' (fun j e => .inr e)); clear x1 hs hg')
                | (go_at_call 18; refine (rput_calls L hlen o1 _ A0 c0 (Kd.C_below HC0.out (below_of_grown HA.out)) hLE0 g (Nat.lt_of_lt_of_le HGL.out HA.out.size) HFA0.out).mono ?_; rintro e W2 ⟨v, rfl, hRC, hg'⟩; simp only [HPL.out] at hRC ⊢; obtain ⟨A2, c2, rfl, hLE2, hC2, hF2⟩ := hRC; have HLE := Aside0.mk hLE2; have HFA := Aside0.mk hF2; have HC2 := Aside0.mk hC2; have HS2 := Aside0.mk ((HS.out.grown HA.out (by simp)).grown hg' (by simp)); have HG2 := Aside0.mk ((HG.out.trans HA.out).trans hg'); have HX2 := Aside0.mk (gb_weak hg' g); have x1 := HPIN.out W2 HX2.out; clear hg' hC2 hF2 hLE2))
              have HCN := Aside0.mk (show cntF f2 1024 = (L2).length by rw [HL2.out, listN_cnt])
              have HHS := Aside0.mk (show prioryref08_Has.f 1100 (L2) o1 = some (hasI f2 o1) by rw [HL2.out, has_list (listN_len f2 1024) o1, mem_hasI])
              have HQ11 := Aside0.mk (show ∀ n, Calls Tryd.prog 11 #[.pointer (some ⟨g, 0, none⟩)] (W3.drewN n) (fun e w2 => e = .returned (.int .i64 (((L2).length : Nat) : Int)) ∧ ∃ m, w2 = W3.drewN m) from fun n => Calls.quiet_of ((len_D (HS3.out.grown (gb_drawn ⟨n, rfl⟩) (by simp))).mono (fun e W h => ⟨by rw [h.1, HCN.out], h.2.out⟩)))
              have HQ10 := Aside0.mk (show ∀ n, Calls Tryd.prog 10 #[.pointer (some ⟨g, 0, none⟩), .int .i64 o1] (W3.drewN n) (fun e w2 => e = .returned (.bool (hasI f2 o1)) ∧ ∃ m, w2 = W3.drewN m) from fun n => Calls.quiet_of_same (has_F (HS3.out.grown (gb_drawn ⟨n, rfl⟩) (by simp)) o1))
              have HQ20 := Aside0.mk (show ∀ n, Calls Tryd.prog 20 #[.slice A2 (L2).length c2, .int .i64 o1] (W3.drewN n) (fun e w2 => e = .returned (.bool (hasI f2 o1)) ∧ ∃ m, w2 = W3.drewN m) from fun n => Calls.quiet_of ((prioryref08_Has.calls 1100 A2 c2 (L2) o1 (hasI f2 o1) _ (Kd.C_below HC3.out (below_of_grown (gb_drawn ⟨n, rfl⟩))) HLE.out HHS.out).mono (fun e W h => ⟨h.1, h.2.out⟩)))
              go_quiet (first
                | (go_at_call 11; exact HQ11.out _)
                | (go_at_call 10; exact HQ10.out _)
                | (go_at_call 20; exact HQ20.out _))
              go_wp2
              go_roundg k1
              case measure => omega
              case rel => exact ⟨i + 1, f2, by first | rfl | simp, ⟨by have := HN.out; omega⟩, ⟨⟨A2, c2, by rw [← HL2.out]; try rfl, by rw [← HL2.out]; exact HLE.out, by rw [← HL2.out]; exact Kd.C_below HC3.out (below_of_grown (gb_drawn ⟨_, rfl⟩)), by rw [← HL2.out]; exact HFA.out⟩⟩, ⟨HS3.out.grown (gb_drawn ⟨_, rfl⟩) (by simp)⟩, ⟨HG3.out.trans (gb_drawn ⟨_, rfl⟩)⟩⟩
            · by_cases hd3 : o0 = 3
              · subst hd3
                obtain ⟨f2, hf2⟩ : ∃ f2, f2 = (dropF f o1).2 := ⟨_, rfl⟩
                obtain ⟨z, hz⟩ : ∃ z, z = (dropF f o1).1 := ⟨_, rfl⟩
                obtain ⟨L2, hL2⟩ : ∃ L2, L2 = listN f2 1024 := ⟨_, rfl⟩
                have HPL := Aside0.mk (show dropI L o1 = (L2, z) by rw [HLL.out, drop_law, hL2, hf2, hz])
                have HZ := Aside0.mk (And.intro hz hf2)
                have HL2 := Aside0.mk hL2
                clear hf2 hz hL2
                go_wp2_with (first
                  | (have _ := HG2; go_at_call 12; refine (drop_F HS2.out o1).mono ?_; rintro e W3 ⟨rfl, hs, hg'⟩; rw [← HZ.out.1]; rw [← HZ.out.2] at hs; have HS3 := Aside0.mk hs; have HG3 := Aside0.mk (HG2.out.andThen hg' (fun j e => by cases e; exact .inl hg)); have HC3 := Aside0.mk (C_far HC2.out HFA.out hg'); have x2 := HPIN.out W3 (HX2.out.andThen hg' (fun j e => .inr e)); clear x1 hs hg')
                  | (go_at_call 19; refine (rdrop_calls L hlen o1 _ A0 c0 (Kd.C_below HC0.out (below_of_grown HA.out)) hLE0 g (Nat.lt_of_lt_of_le HGL.out HA.out.size) HFA0.out).mono ?_; rintro e W2 ⟨v, rfl, hRC, hg'⟩; simp only [HPL.out] at hRC ⊢; obtain ⟨A2, c2, rfl, hLE2, hC2, hF2⟩ := hRC; have HLE := Aside0.mk hLE2; have HFA := Aside0.mk hF2; have HC2 := Aside0.mk hC2; have HS2 := Aside0.mk ((HS.out.grown HA.out (by simp)).grown hg' (by simp)); have HG2 := Aside0.mk ((HG.out.trans HA.out).trans hg'); have HX2 := Aside0.mk (gb_weak hg' g); have x1 := HPIN.out W2 HX2.out; clear hg' hC2 hF2 hLE2))
                have HCN := Aside0.mk (show cntF f2 1024 = (L2).length by rw [HL2.out, listN_cnt])
                have HHS := Aside0.mk (show prioryref08_Has.f 1100 (L2) o1 = some (hasI f2 o1) by rw [HL2.out, has_list (listN_len f2 1024) o1, mem_hasI])
                have HQ11 := Aside0.mk (show ∀ n, Calls Tryd.prog 11 #[.pointer (some ⟨g, 0, none⟩)] (W3.drewN n) (fun e w2 => e = .returned (.int .i64 (((L2).length : Nat) : Int)) ∧ ∃ m, w2 = W3.drewN m) from fun n => Calls.quiet_of ((len_D (HS3.out.grown (gb_drawn ⟨n, rfl⟩) (by simp))).mono (fun e W h => ⟨by rw [h.1, HCN.out], h.2.out⟩)))
                have HQ10 := Aside0.mk (show ∀ n, Calls Tryd.prog 10 #[.pointer (some ⟨g, 0, none⟩), .int .i64 o1] (W3.drewN n) (fun e w2 => e = .returned (.bool (hasI f2 o1)) ∧ ∃ m, w2 = W3.drewN m) from fun n => Calls.quiet_of_same (has_F (HS3.out.grown (gb_drawn ⟨n, rfl⟩) (by simp)) o1))
                have HQ20 := Aside0.mk (show ∀ n, Calls Tryd.prog 20 #[.slice A2 (L2).length c2, .int .i64 o1] (W3.drewN n) (fun e w2 => e = .returned (.bool (hasI f2 o1)) ∧ ∃ m, w2 = W3.drewN m) from fun n => Calls.quiet_of ((prioryref08_Has.calls 1100 A2 c2 (L2) o1 (hasI f2 o1) _ (Kd.C_below HC3.out (below_of_grown (gb_drawn ⟨n, rfl⟩))) HLE.out HHS.out).mono (fun e W h => ⟨h.1, h.2.out⟩)))
                go_quiet (first
                  | (go_at_call 11; exact HQ11.out _)
                  | (go_at_call 10; exact HQ10.out _)
                  | (go_at_call 20; exact HQ20.out _))
                go_wp2
                go_roundg k1
                case measure => omega
                case rel => exact ⟨i + 1, f2, by first | rfl | simp, ⟨by have := HN.out; omega⟩, ⟨⟨A2, c2, by rw [← HL2.out]; try rfl, by rw [← HL2.out]; exact HLE.out, by rw [← HL2.out]; exact Kd.C_below HC3.out (below_of_grown (gb_drawn ⟨_, rfl⟩)), by rw [← HL2.out]; exact HFA.out⟩⟩, ⟨HS3.out.grown (gb_drawn ⟨_, rfl⟩) (by simp)⟩, ⟨HG3.out.trans (gb_drawn ⟨_, rfl⟩)⟩⟩
              · have hb1 : (o0 == 1) = false := by simp [hd1]
                have hb2 : (o0 == 2) = false := by simp [hd2]
                have hb3 : (o0 == 3) = false := by simp [hd3]
                have HS3 := Aside0.mk (HS.out.grown HA.out (by simp))
                have HG3 := Aside0.mk (HG.out.trans HA.out)
                have HC3 := Aside0.mk (Kd.C_below HC0.out (below_of_grown HA.out))
                have HL2 := HLL
                have HLE := Aside0.mk hLE0
                have HFA := HFA0
                go_wp2
                have x1 := HPIN.out _ (World.grownBy.refl _ _)
                have HCN := Aside0.mk (show cntF f 1024 = (L).length by rw [HL2.out, listN_cnt])
                have HHS := Aside0.mk (show prioryref08_Has.f 1100 (L) o1 = some (hasI f o1) by rw [HL2.out, has_list (listN_len f 1024) o1, mem_hasI])
                have HQ11 := Aside0.mk (show ∀ n, Calls Tryd.prog 11 #[.pointer (some ⟨g, 0, none⟩)] ((wr.alloc (.cells #[.int .i64 o0, .int .i64 o1] 41)).drewN n) (fun e w2 => e = .returned (.int .i64 (((L).length : Nat) : Int)) ∧ ∃ m, w2 = (wr.alloc (.cells #[.int .i64 o0, .int .i64 o1] 41)).drewN m) from fun n => Calls.quiet_of ((len_D (HS3.out.grown (gb_drawn ⟨n, rfl⟩) (by simp))).mono (fun e W h => ⟨by rw [h.1, HCN.out], h.2.out⟩)))
                have HQ10 := Aside0.mk (show ∀ n, Calls Tryd.prog 10 #[.pointer (some ⟨g, 0, none⟩), .int .i64 o1] ((wr.alloc (.cells #[.int .i64 o0, .int .i64 o1] 41)).drewN n) (fun e w2 => e = .returned (.bool (hasI f o1)) ∧ ∃ m, w2 = (wr.alloc (.cells #[.int .i64 o0, .int .i64 o1] 41)).drewN m) from fun n => Calls.quiet_of_same (has_F (HS3.out.grown (gb_drawn ⟨n, rfl⟩) (by simp)) o1))
                have HQ20 := Aside0.mk (show ∀ n, Calls Tryd.prog 20 #[.slice A0 (L).length c0, .int .i64 o1] ((wr.alloc (.cells #[.int .i64 o0, .int .i64 o1] 41)).drewN n) (fun e w2 => e = .returned (.bool (hasI f o1)) ∧ ∃ m, w2 = (wr.alloc (.cells #[.int .i64 o0, .int .i64 o1] 41)).drewN m) from fun n => Calls.quiet_of ((prioryref08_Has.calls 1100 A0 c0 (L) o1 (hasI f o1) _ (Kd.C_below HC3.out (below_of_grown (gb_drawn ⟨n, rfl⟩))) HLE.out HHS.out).mono (fun e W h => ⟨h.1, h.2.out⟩)))
                go_quiet (first
                  | (go_at_call 11; exact HQ11.out _)
                  | (go_at_call 10; exact HQ10.out _)
                  | (go_at_call 20; exact HQ20.out _))
                go_wp2
                go_roundg k1
                case measure => omega
                case rel => exact ⟨i + 1, f, by first | rfl | simp, ⟨by have := HN.out; omega⟩, ⟨⟨A0, c0, by rw [← HL2.out]; try rfl, by rw [← HL2.out]; exact HLE.out, by rw [← HL2.out]; exact Kd.C_below HC3.out (below_of_grown (gb_drawn ⟨_, rfl⟩)), by rw [← HL2.out]; exact HFA.out⟩⟩, ⟨HS3.out.grown (gb_drawn ⟨_, rfl⟩) (by simp)⟩, ⟨HG3.out.trans (gb_drawn ⟨_, rfl⟩)⟩⟩
        · have hii : ¬ (i : Int) < (l.length : Int) := by omega
          have HSAME := Aside0.mk (same_refl (l := L) (by omega) (k := 1100) (by omega))
          go_wp2_with (first
            | (have _ := HX5; go_at_call 9; refine (awake_calls _ (HT.out.keep (below_of_grown (HG.out.trans HX5.out)))).mono ?_; rintro e W9 ⟨rfl, hg9⟩; have HG9 := Aside0.mk ((HG.out.trans HX5.out).trans hg9); clear hg9)
            | (have _ := HX4; go_at_call 15; refine (prioryref08_Same.calls 1100 A80 q80 L A0 c0 L true _ HC80.out hq80 (Kd.C_below HC0.out (below_of_grown HX4.out)) hLE0 HSAME.out).mono ?_; rintro e W5 ⟨rfl, hd⟩; have HX5 := Aside0.mk (HX4.out.trans (gb_drawn hd)); clear hd)
            | (go_at_call 14; refine (all_F HS.out (HT.out.keep (below_of_grown HG.out))).mono ?_; rintro e W4 ⟨v, rfl, hR, hg'⟩; rw [← HLL.out] at hR; obtain ⟨A80, q80, rfl, hq80, hC80⟩ := Kd.R_reads hR; have HC80 := Aside0.mk hC80; have HX4 := Aside0.mk hg'; clear hR hC80 hg'))
          go_ret
          exact ⟨rfl, HG9.out⟩
end Go.Proofs.YtiaegandgjgjhaaDoor.PAll
