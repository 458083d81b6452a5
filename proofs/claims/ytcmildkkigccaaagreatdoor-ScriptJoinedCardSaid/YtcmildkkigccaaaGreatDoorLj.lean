/-
  ScriptJoined: the bytes of events one behind the other.
-/
import Derived.Test.YtcmildkkigccaaaGreatDoorSxb
namespace Go.Proofs.YtcmildkkigccaaaGreatDoor.PAll
open Go.RowKit Go.Proofs.YtcmildkkigccaaaGreatDoorW.PrintWords Go.Proofs.YtcmildkkigccaaaGreatDoorW.PrintLast Go.Proofs.YtcmildkkigccaaaGreatDoorW.PrintMore
set_option linter.unusedVariables false
set_option linter.unusedSimpArgs false
theorem wide_append {l m : List S40} (h : Wide l) (k : Wide m) : Wide (l ++ m) := fun x hx => (List.mem_append.1 hx).elim (h x) (k x)
set_option maxHeartbeats 4000000 in
set_option maxRecDepth 100000 in
theorem joined_calls (A0 : Option Addr) (c0 : Nat) (l0 : List S40) (A1 : Option Addr) (c1 : Nat) (l1 : List S40) (w : World) (ht : Tab w) (hr0 : Kd.C k40 w A0 l0.length l0) (hc0 : l0.length ≤ c0) (hw0 : Wide l0)
    (hr1 : Kd.C k40 w A1 l1.length l1) (hc1 : l1.length ≤ c1) (hw1 : Wide l1) :
    Calls Tryz.prog 5 #[.slice A0 l0.length c0, .slice A1 l1.length c1] w fun e w' => e = .returned (.bool true) ∧ Below w.heap.size w w' := by
  have HT := Aside0.mk ht
  have HR0 := Aside0.mk hr0
  have HR1 := Aside0.mk hr1
  have HW0 := Aside0.mk hw0
  have HW1 := Aside0.mk hw1
  clear ht hr0 hw0 hr1 hw1
  by_cases h1 : 200 < l0.length
  · have b1 : decide (200 < (l0.length : Int)) = true := decide_eq_true (by omega)
    have b2 : decide (200 < l0.length) = true := decide_eq_true h1
    go_enter Tryz.func5, Tryz.ntmps5
    go_wp2_with fail
    refine (awake_at HT.out (Below.refl _ _)).mono ?_
    rintro e w1 ⟨rfl, hb⟩
    go_wp2
    go_ret
    exact ⟨rfl, hb⟩
  have b1 : decide (200 < (l0.length : Int)) = false := decide_eq_false (by omega)
  have b2 : decide (200 < l0.length) = false := decide_eq_false h1
  by_cases h2 : 200 < l1.length
  · have b3 : decide (200 < (l1.length : Int)) = true := decide_eq_true (by omega)
    have b4 : decide (200 < l1.length) = true := decide_eq_true h2
    go_enter Tryz.func5, Tryz.ntmps5
    go_wp2_with fail
    refine (awake_at HT.out (Below.refl _ _)).mono ?_
    rintro e w1 ⟨rfl, hb⟩
    go_wp2
    go_ret
    exact ⟨rfl, hb⟩
  have b3 : decide (200 < (l1.length : Int)) = false := decide_eq_false (by omega)
  have b4 : decide (200 < l1.length) = false := decide_eq_false h2
  obtain ⟨S, x, hp⟩ : ∃ S x, putE l0 = (S, x) := ⟨_, _, rfl⟩
  obtain ⟨T, y, hq⟩ : ∃ T y, putE l1 = (T, y) := ⟨_, _, rfl⟩
  obtain ⟨U, z, hu⟩ : ∃ U z, putE (l0 ++ l1) = (U, z) := ⟨_, _, rfl⟩
  have ways : (x = 0 ∧ y = 0 ∧ z = 0 ∧ U = S ++ T ∧ S.size + T.size ≤ 9223372036854775807) ∨ (x = 0 ∧ y = 2 ∧ z = 2 ∧ U = ⟨#[]⟩) ∨ (x = 2 ∧ z = 2 ∧ U = ⟨#[]⟩) := by
    by_cases a : l0.all okE = true
    · rw [putE_ok a, Prod.mk.injEq] at hp
      by_cases b : l1.all okE = true
      · rw [putE_ok b, Prod.mk.injEq] at hq
        rw [putE_ok (by rw [List.all_append, a, b]; rfl), Prod.mk.injEq, allB_append, ← str_append, hp.1, hq.1] at hu
        exact .inl ⟨hp.2.symm, hq.2.symm, hu.2.symm, hu.1.symm, by rw [← hp.1, ← hq.1, str_size, str_size, allB_len, allB_len]; omega⟩
      · rw [putE_bad b, Prod.mk.injEq] at hq
        rw [putE_bad (by rw [List.all_append, Bool.and_eq_true]; exact fun h => b h.2), Prod.mk.injEq] at hu
        exact .inr (.inl ⟨hp.2.symm, hq.2.symm, hu.2.symm, hu.1.symm⟩)
    · rw [putE_bad a, Prod.mk.injEq] at hp
      rw [putE_bad (by rw [List.all_append, Bool.and_eq_true]; exact fun h => a h.1), Prod.mk.injEq] at hu
      exact .inr (.inr ⟨hp.2.symm, hu.2.symm, hu.1.symm⟩)
  have HP := Aside0.mk hp
  have HQ := Aside0.mk hq
  have HU := Aside0.mk hu
  have HL := Aside0.mk (show (l0 ++ l1).length ≤ 10000 by rw [List.length_append]; omega)
  have HWY := Aside0.mk ways
  clear hp hq hu ways
  go_enter Tryz.func5, Tryz.ntmps5
  go_wp2_with fail
  refine (put_is S _ HP.out HR0.out hc0 (by omega) HW0.out).mono ?_
  rintro e w1 ⟨rfl, hb1⟩
  have HB1 := Aside0.mk hb1
  clear hb1
  go_wp2_with fail
  refine (put_is T _ HQ.out (Kd.C_below HR1.out HB1.out) hc1 (by omega) HW1.out).mono ?_
  rintro e w2 ⟨rfl, hb2⟩
  have HB2 := Aside0.mk (HB1.out.trans (hb2.mono HB1.out.size))
  clear hb2
  go_wp2_with (first
    | ((with_reducible refine gate_dst (N := 31) rfl ?_); refine Kd.R_lit k40 _ 40 ?hg (N := 31) ?hd (xs := ([] : List (S40))) (inner := []) (ok := fun _ => True) (okp := fun _ => True) ?hr ?hp (fun _ hk => hk) trivial (Below.refl _ _) (Nat.le_refl _) (by simp) ?_; (case hd => rfl); (case hg => rfl); (case hr => first | (go_simp; done) | (go_simp; rfl)); (case hp => exact (Reps.none _ _)); intro v3 w3 ho3 hb3 hg_ hnew_; clear hg_ hnew_; have HO3 := Aside0.mk (Kd.R_lower ho3 HB2.out.size); have HB3 := Aside0.mk (HB2.out.trans (hb3.mono HB2.out.size)); clear ho3 hb3)
    | ((with_reducible refine gate_builtin (b := .append) (xs := #[.tmp 31, .tmp 32]) rfl ?_); at_builtin; refine Kd.R_append_rows k40 (w0 := w) w.heap.size rfl (.tmp 31) (.tmp 32) 22 40 (.agg #[(.int .i64 0), (.int .i64 0), (.int .u32 0)]) 24 rfl Tryz.underlying22 info40 rfl (by decide) (by omega) v3 [] l0 _ _ _ (fun _ => True) (fun _ => False) rfl rfl HO3.out (Kd.C_below HR0.out HB3.out) (fun _ _ h => h) (fun _ h => h.elim) (fun _ _ => trivial) HB3.out HB3.out.size (by simp only [List.length_nil]; omega) ?_; intro v4 w4 ho4 hb4 hg4 hat4; clear hg4 hat4; have HO4 := Aside0.mk ho4; have HB4 := Aside0.mk hb4; clear ho4 hb4)
    | ((with_reducible refine gate_builtin (b := .append) (xs := #[.tmp 33, .tmp 34]) rfl ?_); at_builtin; refine Kd.R_append_rows k40 (w0 := w) w.heap.size rfl (.tmp 33) (.tmp 34) 22 40 (.agg #[(.int .i64 0), (.int .i64 0), (.int .u32 0)]) 24 rfl Tryz.underlying22 info40 rfl (by decide) (by omega) v4 ([] ++ l0) l1 _ _ _ (fun _ => True) (fun _ => False) rfl rfl HO4.out (Kd.C_below HR1.out HB4.out) (fun _ _ h => h) (fun _ h => h.elim) (fun _ _ => trivial) HB4.out HB4.out.size (by simp only [List.length_append, List.length_nil]; omega) ?_; intro v5 w5 ho5 hb5 hg5 hat5; clear hg5 hat5; rw [List.nil_append] at ho5; obtain ⟨A5, c5, rfl, hc5, hC5⟩ := Kd.R_reads ho5; have HC5 := Aside0.mk hC5; have HB5 := Aside0.mk hb5; clear ho5 hb5 hC5))
  have hput := put_is U _ HU.out HC5.out hc5 HL.out (wide_append HW0.out HW1.out)
  rw [List.length_append] at hput
  refine hput.mono ?_
  clear hput
  rintro e w6 ⟨rfl, hb6⟩
  have HB6 := Aside0.mk (HB5.out.trans (hb6.mono HB5.out.size))
  clear hb6
  rcases HWY.out with ⟨rfl, rfl, rfl, rfl, hsz⟩ | ⟨rfl, rfl, rfl, rfl⟩ | ⟨rfl, rfl, rfl⟩
  all_goals
    go_wp2_with fail
    refine (awake_at HT.out HB6.out).mono ?_
    rintro e w7 ⟨rfl, hb7⟩
    go_wp2
    go_ret
    exact ⟨rfl, hb7⟩
end Go.Proofs.YtcmildkkigccaaaGreatDoor.PAll
