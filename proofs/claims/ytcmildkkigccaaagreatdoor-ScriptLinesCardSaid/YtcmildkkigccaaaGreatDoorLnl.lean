/-
  ScriptLines: the lines of observations are the document's.
-/
import Derived.Test.YtcmildkkigccaaaGreatDoorSLs
import Derived.Deep.RegionHeld3
namespace Go.Proofs.YtcmildkkigccaaaGreatDoor.PLin
open Go.RowKit Go.Proofs.YtcmildkkigccaaaGreatDoorW.PrintWords Go.Proofs.YtcmildkkigccaaaGreatDoorW.PrintLast Go.Proofs.YtcmildkkigccaaaGreatDoorW.PrintMore
open Go.Proofs.YtcmildkkigccaaaGreatDoor.PAll (Tab Tab.below awake_at blk_alloc lt_of_blk)
set_option linter.unusedVariables false
set_option linter.unusedSimpArgs false
/-- What holds at the head of a round. -/
def LwR (l : List S35) (w : World) (i : Nat) (s : ByteArray) (wr : World) : Prop := s = allL (l.take i) ∧ Below w.heap.size w wr ∧ ∀ j, (h : j < l.length) → j < i → PosO l[j]
theorem sl_isS (x : S35) (S : ByteArray) (w : World) (hS : lnO x = S) (ht : Pow w) (hw : WdO x) (hp : PosO x) :
    Calls Tryz.prog 13 #[.agg #[.int .i64 x.f0, .int .i64 x.f1, .int .i64 x.f2, .int .u32 x.f3, .int .u32 x.f4]] w fun en w' => en = .returned (.string S) ∧ Below w.heap.size w w' := by
  rw [← hS]; exact sl_is x w ht hw hp
theorem rl_isS (x : S35) (S : ByteArray) (w : World) (hS : lnO x = S) (hw : WdO x) (hp : PosO x) :
    Calls Tryz.prog 14 #[.agg #[.int .i64 x.f0, .int .i64 x.f1, .int .i64 x.f2, .int .u32 x.f3, .int .u32 x.f4]] w fun en w' => en = .returned (.string S) ∧ Below w.heap.size w w' := by
  rw [← hS]; exact rl_is x w hw hp
set_option maxHeartbeats 4000000 in
set_option maxRecDepth 100000 in
theorem lines_law (A0 : Option Addr) (c0 : Nat) (l0 : List S35) (w : World) (ht : Tab w ∧ Pow w) (hr0 : Kd.C k35 w A0 l0.length l0) (hc0 : l0.length ≤ c0) (hw : ∀ x ∈ l0, WdO x) :
    Calls Tryz.prog 6 #[.slice A0 l0.length c0] w fun e w' => e = .returned (.bool true) ∧ Below w.heap.size w w' := by
  have HTB := Aside0.mk ht.1
  have HT := Aside0.mk ht.2
  have HR0 := Aside0.mk hr0
  have HW := Aside0.mk hw
  clear ht hr0 hw
  by_cases h1 : 100 < l0.length
  · have b1 : decide (100 < (l0.length : Int)) = true := decide_eq_true (by omega)
    have b2 : decide (100 < l0.length) = true := decide_eq_true h1
    go_enter Tryz.func6, Tryz.ntmps6
    go_wp2_with fail
    refine (awake_at HTB.out (Below.refl _ _)).mono ?_
    rintro e w1 ⟨rfl, hb⟩
    go_wp2
    go_ret
    exact ⟨rfl, hb⟩
  have b1 : decide (100 < (l0.length : Int)) = false := decide_eq_false (by omega)
  have b2 : decide (100 < l0.length) = false := decide_eq_false h1
  go_enter Tryz.func6, Tryz.ntmps6
  go_wp2
  go_loopw [3, 4] (fun v3 v4 wr => ∃ i : Nat, i ≤ l0.length ∧ v4 = .int .i64 i ∧ ∃ s, v3 = .string s ∧ Aside0 (LwR l0 w i s wr)) (fun _ v _ => l0.length - (intOf v).toNat)
  case atStart => exact ⟨0, by omega, rfl, _, rfl, ⟨rfl, Below.refl _ _, fun j _ h => by omega⟩⟩
  case round =>
    obtain ⟨i, hi, rfl, s, rfl, HR⟩ := hrel
    by_cases hlt : i < l0.length
    · obtain ⟨ad, e, h0, h1, h2, h3, h4⟩ := at_T35 HR0.out (i : Int) (by omega) (by omega)
      cases e
      rw [Int.toNat_natCast] at h0 h1 h2 h3 h4
      replace h0 := (HR.out.2.1.cell (World.block_lt_of_cell? w _ h0)).trans h0
      replace h1 := (HR.out.2.1.cell (World.block_lt_of_cell? w _ h1)).trans h1
      replace h2 := (HR.out.2.1.cell (World.block_lt_of_cell? w _ h2)).trans h2
      replace h3 := (HR.out.2.1.cell (World.block_lt_of_cell? w _ h3)).trans h3
      replace h4 := (HR.out.2.1.cell (World.block_lt_of_cell? w _ h4)).trans h4
      obtain ⟨x, hx⟩ : ∃ x, rd_T35 l0 (i : Int) = x := ⟨_, rfl⟩
      rw [hx] at h0 h1 h2 h3 h4
      have hg : l0[i] = x := by rw [← hx]; unfold rd_T35; rw [Int.toNat_natCast, List.getD_eq_getElem?_getD, List.getElem?_eq_getElem hlt]; rfl
      have hm : x ∈ l0 := by rw [← hg]; exact List.getElem_mem hlt
      have HX := Aside0.mk hg
      have HM := Aside0.mk hm
      clear hx hg hm
      obtain ⟨f0, f1, f2, f3, f4⟩ := x
      simp only at h0 h1 h2 h3 h4
      by_cases a0 : f0 < 0
      · have d0 : decide (f0 < 0) = true := decide_eq_true a0
        go_wp2_with fail
        refine (awake_at HTB.out (HR.out.2.1.alloc HR.out.2.1.size _)).mono ?_
        rintro e w1 ⟨rfl, hb⟩
        go_wp2
        go_ret
        exact ⟨rfl, hb⟩
      have d0 : decide (f0 < 0) = false := decide_eq_false a0
      by_cases a1 : f1 < 0
      · have d1 : decide (f1 < 0) = true := decide_eq_true a1
        go_wp2_with fail
        refine (awake_at HTB.out (HR.out.2.1.alloc HR.out.2.1.size _)).mono ?_
        rintro e w1 ⟨rfl, hb⟩
        go_wp2
        go_ret
        exact ⟨rfl, hb⟩
      have d1 : decide (f1 < 0) = false := decide_eq_false a1
      by_cases a2 : f2 < 0
      · have d2 : decide (f2 < 0) = true := decide_eq_true a2
        go_wp2_with fail
        refine (awake_at HTB.out (HR.out.2.1.alloc HR.out.2.1.size _)).mono ?_
        rintro e w1 ⟨rfl, hb⟩
        go_wp2
        go_ret
        exact ⟨rfl, hb⟩
      have d2 : decide (f2 < 0) = false := decide_eq_false a2
      have hpo : PosO ⟨f0, f1, f2, f3, f4⟩ := ⟨by simp only; omega, by simp only; omega, by simp only; omega⟩
      have HPO := Aside0.mk hpo
      clear hpo
      obtain ⟨S, hS⟩ : ∃ S, lnO ⟨f0, f1, f2, f3, f4⟩ = S := ⟨_, rfl⟩
      have hSS := lnO_size _ (HW.out _ HM.out)
      rw [hS] at hSS
      have HS := Aside0.mk hS
      clear hS
      go_wp2_with fail
      obtain ⟨b5, hb5⟩ : ∃ b5, b5 = wr.heap.size := ⟨_, rfl⟩
      obtain ⟨W0, hW0⟩ : ∃ W0, W0 = wr.alloc (.cells #[.int .i64 f0, .int .i64 f1, .int .i64 f2, .int .u32 f3, .int .u32 f4] 35) := ⟨_, rfl⟩
      have hbk : W0.heap[b5]? = some (.cells #[.int .i64 f0, .int .i64 f1, .int .i64 f2, .int .u32 f3, .int .u32 f4] 35 (0, 0)) := by rw [hW0, hb5]; exact PAll.blk_alloc _ _
      have hB0 : Below w.heap.size w W0 := by rw [hW0]; exact HR.out.2.1.alloc HR.out.2.1.size _
      rw [← hW0, ← hb5]
      have HB0 := Aside0.mk hB0
      have HBK := Aside0.mk hbk
      clear hW0 hb5 hB0 hbk h0 h1 h2 h3 h4
      have y0 : W0.cell? ⟨b5, 0, none⟩ = some (.int .i64 f0) := (by rw [Lib.cell_of_heap HBK.out]; rfl)
      have y1 : W0.cell? ⟨b5, 1, none⟩ = some (.int .i64 f1) := (by rw [Lib.cell_of_heap HBK.out]; rfl)
      have y2 : W0.cell? ⟨b5, 2, none⟩ = some (.int .i64 f2) := (by rw [Lib.cell_of_heap HBK.out]; rfl)
      have y3 : W0.cell? ⟨b5, 3, none⟩ = some (.int .u32 f3) := (by rw [Lib.cell_of_heap HBK.out]; rfl)
      have y4 : W0.cell? ⟨b5, 4, none⟩ = some (.int .u32 f4) := (by rw [Lib.cell_of_heap HBK.out]; rfl)
      go_region_held3 (fun w' => w'.cell? ⟨b5, 0, none⟩ = some (.int .i64 f0) ∧ w'.cell? ⟨b5, 1, none⟩ = some (.int .i64 f1) ∧ w'.cell? ⟨b5, 2, none⟩ = some (.int .i64 f2) ∧ w'.cell? ⟨b5, 3, none⟩ = some (.int .u32 f3) ∧ w'.cell? ⟨b5, 4, none⟩ = some (.int .u32 f4))
        (first | (go_keep; done) | (go_split_ands; exact ⟨y0, y1, y2, y3, y4⟩) | (go_split_ands; exact ⟨z0, z1, z2, z3, z4⟩) | (go_split_ands; exact ⟨x0, x1, x2, x3, x4⟩))
        (first | (go_at_call 13; refine (sl_isS _ S _ HS.out (HT.out.below (below_drew1 HB0.out)) (HW.out _ HM.out) HPO.out).mono ?_; rintro e W1 ⟨rfl, hb1⟩; have HB1 := Aside0.mk ((below_drew1 HB0.out).trans (hb1.mono (below_drew1 HB0.out).size)); have hk1 : W1.heap[b5]? = _ := (hb1.block b5 (lt_of_blk (show W0.drew.heap[b5]? = _ from HBK.out))).trans HBK.out; have HBK1 := Aside0.mk hk1; have z0 : W1.cell? ⟨b5, 0, none⟩ = some (.int .i64 f0) := (by rw [Lib.cell_of_heap hk1]; rfl); have z1 : W1.cell? ⟨b5, 1, none⟩ = some (.int .i64 f1) := (by rw [Lib.cell_of_heap hk1]; rfl); have z2 : W1.cell? ⟨b5, 2, none⟩ = some (.int .i64 f2) := (by rw [Lib.cell_of_heap hk1]; rfl); have z3 : W1.cell? ⟨b5, 3, none⟩ = some (.int .u32 f3) := (by rw [Lib.cell_of_heap hk1]; rfl); have z4 : W1.cell? ⟨b5, 4, none⟩ = some (.int .u32 f4) := (by rw [Lib.cell_of_heap hk1]; rfl); clear hb1 hk1) | (go_at_call 14; refine (rl_isS _ S _ HS.out (HW.out _ HM.out) HPO.out).mono ?_; rintro e W2 ⟨rfl, hb2⟩; have HB2 := Aside0.mk (HB1.out.trans (hb2.mono HB1.out.size)); have hk2 : W2.heap[b5]? = _ := (hb2.block b5 (lt_of_blk HBK1.out)).trans HBK1.out; have HBK2 := Aside0.mk hk2; have x0 : W2.cell? ⟨b5, 0, none⟩ = some (.int .i64 f0) := (by rw [Lib.cell_of_heap hk2]; rfl); have x1 : W2.cell? ⟨b5, 1, none⟩ = some (.int .i64 f1) := (by rw [Lib.cell_of_heap hk2]; rfl); have x2 : W2.cell? ⟨b5, 2, none⟩ = some (.int .i64 f2) := (by rw [Lib.cell_of_heap hk2]; rfl); have x3 : W2.cell? ⟨b5, 3, none⟩ = some (.int .u32 f3) := (by rw [Lib.cell_of_heap hk2]; rfl); have x4 : W2.cell? ⟨b5, 4, none⟩ = some (.int .u32 f4) := (by rw [Lib.cell_of_heap hk2]; rfl); clear hb2 hk2))
      have hsz : s.size + S.size ≤ 20000 := by
        have a := allL_size (l0.take i) (fun y hy => HW.out y (List.mem_of_mem_take hy))
        rw [← HR.out.1, List.length_take] at a
        omega
      have hn1 : (9223372036854775807 < s.size + S.size) = False := eq_false (by omega)
      have hn2 : (9223372036854775807 < s.size + S.size + 1) = False := eq_false (by omega)
      clear hsz
      go_wp2_with fail
      refine (rl_isS ⟨f0, f1, f2, f3, f4⟩ S _ HS.out (HW.out _ HM.out) HPO.out).mono ?_
      rintro e W3 ⟨rfl, hb3⟩
      have HB3 := Aside0.mk (HB2.out.trans (hb3.mono HB2.out.size))
      clear hb3
      have HF : Aside0 (LwR l0 w (i + 1) (s ++ S ++ nlB) W3) := ⟨by
        rw [List.take_add_one, List.getElem?_eq_getElem hlt, HX.out]
        show _ = allL (l0.take i ++ [⟨f0, f1, f2, f3, f4⟩])
        rw [allL_snoc, HR.out.1, HS.out], HB3.out, fun j hj h => by
        by_cases hji : j = i
        · subst hji; rw [HX.out]; exact HPO.out
        · exact HR.out.2.2 j hj (by omega)⟩
      go_wp2
      go_roundw
      case rel => exact ⟨i + 1, by omega, by go_num, _, rfl, HF⟩
      case measure => simp [intOf]; omega
    · have hg : i = l0.length := by omega
      have hp : ∀ x ∈ l0, PosO x := fun x hx => by
        obtain ⟨j, hj, rfl⟩ := List.getElem_of_mem hx
        exact HR.out.2.2 j hj (by omega)
      have hs : s = allL l0 := by have := HR.out.1; rw [hg, List.take_of_length_le (by omega)] at this; exact this
      have HP := Aside0.mk hp
      have HSS := Aside0.mk hs
      clear hg hp hs
      go_wp2_with fail
      refine (slines_calls A0 c0 l0 _ (HT.out.below HR.out.2.1) (Kd.C_below HR0.out HR.out.2.1) hc0 (by omega) HW.out HP.out).mono ?_
      rintro e w1 ⟨rfl, hb1⟩
      rw [← HSS.out]
      have HB1 := Aside0.mk (HR.out.2.1.trans (hb1.mono HR.out.2.1.size))
      clear hb1
      go_wp2_with fail
      refine (awake_at HTB.out HB1.out).mono ?_
      rintro e w2 ⟨rfl, hb2⟩
      go_wp2
      go_ret
      exact ⟨rfl, hb2⟩
end Go.Proofs.YtcmildkkigccaaaGreatDoor.PLin
