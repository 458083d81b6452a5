/-
  ScriptPut: events as bytes, and bytes as events, as the document says.
-/
import Derived.Test.YtcmildkkigccaaaGreatDoorSxb
import Derived.Test.YtcmildkkigccaaaGreatDoorRpt
namespace Go.Proofs.YtcmildkkigccaaaGreatDoor.PAll
open Go.RowKit Go.Proofs.YtcmildkkigccaaaGreatDoorW.PrintWords Go.Proofs.YtcmildkkigccaaaGreatDoorW.PrintLast Go.Proofs.YtcmildkkigccaaaGreatDoorW.PrintMore
set_option linter.unusedVariables false
set_option linter.unusedSimpArgs false
theorem rget_is {w : World} (s : ByteArray) (l : List S40) (x : Int) (hp : getE s = (l, x)) :
    Calls Tryz.prog 11 #[.string s] w fun e w' => ∃ A c, e = .returned (.tuple #[.slice A l.length c, .int .i64 x]) ∧ l.length ≤ c ∧ Kd.C k40 w' A l.length l ∧ Below w.heap.size w w' := by
  refine (prioryref27_Get.calls 60010 s l x w (by rw [get_f _ _ (Nat.le_refl _), hp])).mono ?_
  rintro e w' ⟨v, rfl, hR, hB⟩
  obtain ⟨A, c, rfl, hc, hC⟩ := Kd.R_reads hR
  exact ⟨A, c, rfl, hc, hC, hB⟩
theorem rput_is {A0 : Option Addr} {c0 : Nat} {l0 : List S40} {w : World} (S : ByteArray) (x : Int) (hp : putE l0 = (S, x)) (hr0 : Kd.C k40 w A0 l0.length l0) (hc0 : l0.length ≤ c0) (hl : l0.length ≤ 10000) (hw : Wide l0) :
    Calls Tryz.prog 9 #[.slice A0 l0.length c0] w fun e w' => e = .returned (.tuple #[.string S, .int .i64 x]) ∧ Below w.heap.size w w' := by
  have := rput_calls A0 c0 l0 w hr0 hc0 hl hw
  rw [hp] at this
  exact this
set_option maxHeartbeats 2000000 in
set_option maxRecDepth 100000 in
theorem put_law (A0 : Option Addr) (c0 : Nat) (l0 : List S40) (s : ByteArray) (w : World) (ht : Tab w) (hr0 : Kd.C k40 w A0 l0.length l0) (hc0 : l0.length ≤ c0) (hw : Wide l0) :
    Calls Tryz.prog 3 #[.slice A0 l0.length c0, .string s] w fun e w' => e = .returned (.bool true) ∧ Below w.heap.size w w' := by
  have HT := Aside0.mk ht
  have HR0 := Aside0.mk hr0
  have HW := Aside0.mk hw
  clear ht hr0 hw
  have HC0 := Aside0.mk hc0
  by_cases h1 : 300 < l0.length
  · have b1 : decide (300 < (l0.length : Int)) = true := decide_eq_true (by omega)
    have b2 : decide (300 < l0.length) = true := decide_eq_true h1
    go_enter Tryz.func3, Tryz.ntmps3
    go_wp2_with fail
    refine (awake_at HT.out (Below.refl _ _)).mono ?_
    rintro e w1 ⟨rfl, hb⟩
    go_wp2
    go_ret
    exact ⟨rfl, hb⟩
  have b1 : decide (300 < (l0.length : Int)) = false := decide_eq_false (by omega)
  have b2 : decide (300 < l0.length) = false := decide_eq_false h1
  by_cases h2 : 2000 < s.size ∧ s.size ≤ 60000
  · have b3 : decide (2000 < (s.size : Int)) = true := decide_eq_true (by omega)
    have b4 : decide (2000 < s.size) = true := decide_eq_true h2.1
    have b5 : decide ((s.size : Int) ≤ 60000) = true := decide_eq_true (by omega)
    have b6 : decide (s.size ≤ 60000) = true := decide_eq_true h2.2
    clear h2
    go_enter Tryz.func3, Tryz.ntmps3
    go_wp2_with fail
    refine (awake_at HT.out (Below.refl _ _)).mono ?_
    rintro e w1 ⟨rfl, hb⟩
    go_wp2
    go_ret
    exact ⟨rfl, hb⟩
  by_cases h3 : 61000 < s.size
  · have b3 : decide (2000 < (s.size : Int)) = true := decide_eq_true (by omega)
    have b4 : decide (2000 < s.size) = true := decide_eq_true (by omega)
    have b5 : decide ((s.size : Int) ≤ 60000) = false := decide_eq_false (by omega)
    have b6 : decide (s.size ≤ 60000) = false := decide_eq_false (by omega)
    have b7 : decide (61000 < (s.size : Int)) = true := decide_eq_true (by omega)
    have b8 : decide (61000 < s.size) = true := decide_eq_true h3
    clear h2
    go_enter Tryz.func3, Tryz.ntmps3
    go_wp2_with fail
    refine (awake_at HT.out (Below.refl _ _)).mono ?_
    rintro e w1 ⟨rfl, hb⟩
    go_wp2
    go_ret
    exact ⟨rfl, hb⟩
  have b7 : decide (61000 < (s.size : Int)) = false := decide_eq_false (by omega)
  have b8 : decide (61000 < s.size) = false := decide_eq_false h3
  have hs1 : s.size ≤ 61000 := by omega
  obtain ⟨S, x, hp⟩ : ∃ S x, putE l0 = (S, x) := ⟨_, _, rfl⟩
  obtain ⟨m, z, hm⟩ : ∃ m z, getE s = (m, z) := ⟨_, _, rfl⟩
  have hml : m.length ≤ 10000 := by
    unfold getE at hm
    split at hm
    · split at hm
      · rw [Prod.mk.injEq] at hm; rw [← hm.1]; exact Nat.zero_le _
      · rw [Prod.mk.injEq] at hm; rw [← hm.1, getL_len]; omega
    · rw [Prod.mk.injEq] at hm; rw [← hm.1]; exact Nat.zero_le _
  have HP := Aside0.mk hp
  have HM := Aside0.mk hm
  have HS1 := Aside0.mk hs1
  clear hp hm hs1
  have ways : (decide (2000 < (s.size : Int)) = true ∧ decide (2000 < s.size) = true ∧ decide ((s.size : Int) ≤ 60000) = false ∧ decide (s.size ≤ 60000) = false) ∨ (decide (2000 < (s.size : Int)) = false ∧ decide (2000 < s.size) = false) := by
    by_cases h4 : 2000 < s.size
    · exact .inl ⟨decide_eq_true (by omega), decide_eq_true h4, decide_eq_false (by omega), decide_eq_false (by omega)⟩
    · exact .inr ⟨decide_eq_false (by omega), decide_eq_false h4⟩
  clear h2 h3
  rcases ways with ⟨d1, d2, d3, d4⟩ | ⟨d1, d2⟩
  all_goals
    go_enter Tryz.func3, Tryz.ntmps3
    go_wp2_with fail
    refine (put_is S _ HP.out HR0.out HC0.out (by omega) HW.out).mono ?_
    rintro e w1 ⟨rfl, hb1⟩
    have HB1 := Aside0.mk hb1
    clear hb1
    go_wp2_with fail
    refine (rput_is S _ HP.out (Kd.C_below HR0.out HB1.out) HC0.out (by omega) HW.out).mono ?_
    rintro e w2 ⟨rfl, hb2⟩
    have HB2 := Aside0.mk (HB1.out.trans (hb2.mono HB1.out.size))
    clear hb2
    go_wp2_with fail
    refine (get_is s _ _ HM.out (by have := HS1.out; omega)).mono ?_
    rintro e w3 ⟨A3, c3, rfl, hc3, hC3, hb3⟩
    have HB3 := Aside0.mk (HB2.out.trans (hb3.mono HB2.out.size))
    have HC3 := Aside0.mk hC3
    clear hb3 hC3
    go_wp2_with fail
    refine (rget_is s _ _ HM.out).mono ?_
    rintro e w4 ⟨A4, c4, rfl, hc4, hC4, hb4⟩
    have HB4 := Aside0.mk (HB3.out.trans (hb4.mono HB3.out.size))
    have HC4 := Aside0.mk hC4
    have HC34 := Aside0.mk (Kd.C_below HC3.out hb4)
    clear hb4 hC4
    go_wp2_with fail
    refine (same_calls A3 A4 c3 c4 m _ HC34.out hc3 HC4.out hc4 (by omega)).mono ?_
    rintro e w5 ⟨rfl, hb5⟩
    have HB5 := Aside0.mk (HB4.out.trans (hb5.mono HB4.out.size))
    clear hb5
    go_wp2_with fail
    refine (awake_at HT.out HB5.out).mono ?_
    rintro e w6 ⟨rfl, hb6⟩
    go_wp2
    go_ret
    exact ⟨rfl, hb6⟩
end Go.Proofs.YtcmildkkigccaaaGreatDoor.PAll
