/-
  PartNone: its call.
-/
import Derived.Test.YtkmfihpmjnfbfaaGreatDoorKpC
import Derived.Test.YtkmfihpmjnfbfaaGreatDoorKpD
import Derived.Deep.Slices
import Derived.Lib.SmallJoins
namespace Go.Proofs.YtkmfihpmjnfbfaaGreatDoor.Run
open Go Go.Proofs Go.Proofs.YtkmfihpmjnfbfaaGreatDoor Go.ChangeShapes Go.WideShapes Go.Deep Go.Joins
set_option linter.unusedSimpArgs false
set_option linter.unusedVariables false
def isBool (e : Ending) : Prop := ∃ b, e = .returned (.bool b)
/-- Is a configuration long: it is told, whatever it is. -/
theorem long_b (A0 : Option Addr) (n0 c0 : Nat) (A1 : Option Addr) (n1 c1 : Nat) (A2 : Option Addr) (n2 c2 : Nat) (w : World) :
    Calls Tryz.prog 5 #[.agg #[.slice A0 n0 c0, .slice A1 n1 c1, .slice A2 n2 c2], .slice none 0 0] w fun e W => isBool e ∧ w.grownBy W none := by
  by_cases h0 : (n0 : Int) > 100
  · go_enter Tryz.func5, Tryz.ntmps5
    go_wp2
    go_ret
    exact ⟨⟨true, rfl⟩, World.grownBy_alloc _ _ none⟩
  · by_cases h1 : (n1 : Int) > 100
    · go_enter Tryz.func5, Tryz.ntmps5
      go_wp2
      go_ret
      exact ⟨⟨true, rfl⟩, World.grownBy_alloc _ _ none⟩
    · by_cases h2 : (n2 : Int) > 100
      · go_enter Tryz.func5, Tryz.ntmps5
        go_wp2
        go_ret
        exact ⟨⟨true, rfl⟩, World.grownBy_alloc _ _ none⟩
      · go_enter Tryz.func5, Tryz.ntmps5
        go_wp2
        refine wp_loop_once ?_
        go_wp2
        go_ret
        exact ⟨⟨false, rfl⟩, World.grownBy_alloc _ _ none⟩
theorem ghost_inv {ρ : Rn} {v : Value} (h : VR ρ (.chan none) v) : ∃ a n c, v = .slice a n c := by
  cases h with
  | gs => exact ⟨_, _, _, rfl⟩
  | fl hf => simp [flat] at hf
theorem agg_inv {ρ : Rn} {vs : Array Value} {v' : Value} (hv : VR ρ (.agg vs) v') : ∃ vs', v' = .agg vs' ∧ L2 ρ vs.toList vs'.toList := by
  cases hv with
  | fl hf => exact ⟨vs, rfl, l2_refl _ (List.all_eq_true.2 fun v hv => flat1_flat (List.all_eq_true.1 hf v hv))⟩
  | agg k1 k2 => exact ⟨_, rfl, L2.ofArr k1 k2⟩
theorem long_of (ρ1 : Rn) (gargs : List Value) (args2 : Array Value) (w1 : World) (hG : isG3 gargs = true) (ha : L2 ρ1 gargs args2.toList) : Calls Tryz.prog 5 args2 w1 (fun e W => (∃ b, e = .returned (.bool b)) ∧ w1.grownBy W none) := by
  unfold isG3 at hG
  split at hG
  · rename_i cs
    split at hG
    · rename_i hcs
      obtain ⟨l2⟩ := args2
      cases ha with
      | cons h1 h2 =>
        cases h2 with
        | cons h3 h4 =>
          cases h4
          have h3' := h3.eq_of_flat rfl
          subst h3'
          obtain ⟨cs', rfl, hl⟩ := agg_inv h1
          rw [hcs] at hl
          obtain ⟨l3⟩ := cs'
          cases hl with
          | cons k1 k2 =>
            cases k2 with
            | cons k3 k4 =>
              cases k4 with
              | cons k5 k6 =>
                cases k6
                obtain ⟨A0, n0, c0, rfl⟩ := ghost_inv k1
                obtain ⟨A1, n1, c1, rfl⟩ := ghost_inv k3
                obtain ⟨A2, n2, c2, rfl⟩ := ghost_inv k5
                exact long_b A0 n0 c0 A1 n1 c1 A2 n2 c2 w1
    · cases hG
  · cases hG
theorem fits3 (e1 e2 e3 : Int) : ([evV e1 e2 e3, cfV] : List Value).length ≤ Tryz.f3.ntmps := by rw [Tryz.ntmps3]; show 2 ≤ 130; decide
theorem partNone_calls (e1 e2 e3 : Int) (A0 : Option Addr) (c0 n0 : Nat) (A1 : Option Addr) (c1 n1 : Nat) (A2 : Option Addr) (c2 n2 : Nat) (w : World) (ht : Lib.TabIs Tryz.prog w "math/bits.deBruijn64tab" .u8 (Lib.deBruijn64tab.map fun n : Nat => (n : Int))) :
    Calls Tryz.prog 3 #[.agg #[.int .i64 e1, .int .i64 e2, .int .u32 e3], .agg #[.slice A0 n0 c0, .slice A1 n1 c1, .slice A2 n2 c2]] w (fun e W' => e = .returned (.bool true) ∧ Go.RowKit.Below w.heap.size w W') := by
  obtain ⟨t, hr⟩ := relT ht
  have hdr : ∀ call round, CallOk Tryz.prog glT call → RoundOk Tryz.prog glT round → DrawOk Tryz.prog ext0 glT call round := fun call round hc hr => draw_ok follows ext0_ok ng hc hr
  have hx := callB_ok (gl := glT) hkP_ok ext0_ok ng dfrD_ok hdr 100000
  have hq := callQ_eqs Tryz.prog ext0 dfrD hkP glT 100000
  have hc : CallOk Tryz.prog glT callP := by unfold callP; rw [hq.1]; exact hx.1
  have hrd : RoundOk Tryz.prog glT roundP := by unfold roundP; rw [hq.2]; exact hx.2
  have ha : L2 ρT [evV e1 e2 e3, cfV] [.agg #[.int .i64 e1, .int .i64 e2, .int .u32 e3], .agg #[.slice A0 n0 c0, .slice A1 n1 c1, .slice A2 n2 c2]] :=
    .cons (.fl rfl) (.cons (VR.agg_list (l := [ghostV, ghostV, ghostV]) (l' := [.slice A0 n0 c0, .slice A1 n1 c1, .slice A2 n2 c2]) (.cons .gs (.cons .gs (.cons .gs .nil)))) .nil)
  exact both_calls (args := [evV e1 e2 e3, cfV]) ext0_ok hc hrd ng (hdr _ _ hc hrd) dfrD_ok Tryz.func3 body3 long_of ⟨_, Tryz.func5, rfl⟩ (fits3 e1 e2 e3) glT_ok hr (roT t) ha (both_of (preP_is t e1 e2 e3) (restP1 t e1 e2 e3) (restP0 t e1 e2 e3))
/-- An event. -/
structure S25 where
  f0 : Int
  f1 : Int
  f2 : Int
set_option maxRecDepth 1000000 in
theorem struct_25 {H : Type} {enc : TypeId × Value → H} {w : World} {r : Reach} {base : Nat} {spare : Nat → Bool} {held : Bool} {v : Value} {x : DataW H} {ps : List MemPlace} (hv : Value.okWide Tryz.prog w r base 25 v) (h : DataW.Trod enc Tryz.prog w 0 spare held 25 v x ps) :
    ∃ a : S25, v = .agg #[.int .i64 a.f0, .int .i64 a.f1, .int .u32 a.f2] := by
  obtain ⟨c0, c1, c2, y0, y1, y2, m, rfl, _, _, h0, h1, h2⟩ := open_agg3 Tryz.underlying25 (by kernel_rfl) (by kernel_rfl) hv h
  obtain ⟨a0, e0, _, _⟩ := DataW.trod_int Tryz.underlying3 h0
  obtain ⟨a1, e1, _, _⟩ := DataW.trod_int Tryz.underlying3 h1
  obtain ⟨a2, e2, _⟩ := DataW.trod_int Tryz.underlying23 h2
  simp at e0 e1 e2
  subst e0 e1 e2
  exact ⟨⟨a0, a1, a2⟩, rfl⟩
set_option maxRecDepth 1000000 in
theorem conf_30 {H : Type} {enc : TypeId × Value → H} {w : World} {r : Reach} {base : Nat} {spare : Nat → Bool} {held : Bool} {v : Value} {x : DataW H} {ps : List MemPlace} (hv : Value.okWide Tryz.prog w r base 30 v) (h : DataW.Trod enc Tryz.prog w 0 spare held 30 v x ps) :
    ∃ (A0 : Option Addr) (c0 n0 : Nat) (A1 : Option Addr) (c1 n1 : Nat) (A2 : Option Addr) (c2 n2 : Nat), v = .agg #[.slice A0 n0 c0, .slice A1 n1 c1, .slice A2 n2 c2] := by
  obtain ⟨v0, v1, v2, y0, y1, y2, m, rfl, _, _, h0, h1, h2⟩ := open_agg3 Tryz.underlying30 (by kernel_rfl) (by kernel_rfl) hv h
  have s0 : ∃ A n c, v0 = .slice A n c := by
    rcases open_slice Tryz.underlying26 h0 with ⟨hcs, _⟩ | ⟨a, len, cap, _, _, _, _, hcs, _⟩
    · exact ⟨none, 0, 0, by simpa using hcs⟩
    · exact ⟨some a, len, cap, by simpa using hcs⟩
  have s1 : ∃ A n c, v1 = .slice A n c := by
    rcases open_slice Tryz.underlying27 h1 with ⟨hcs, _⟩ | ⟨a, len, cap, _, _, _, _, hcs, _⟩
    · exact ⟨none, 0, 0, by simpa using hcs⟩
    · exact ⟨some a, len, cap, by simpa using hcs⟩
  have s2 : ∃ A n c, v2 = .slice A n c := by
    rcases open_slice Tryz.underlying28 h2 with ⟨hcs, _⟩ | ⟨a, len, cap, _, _, _, _, hcs, _⟩
    · exact ⟨none, 0, 0, by simpa using hcs⟩
    · exact ⟨some a, len, cap, by simpa using hcs⟩
  obtain ⟨A0, n0, c0, rfl⟩ := s0
  obtain ⟨A1, n1, c1, rfl⟩ := s1
  obtain ⟨A2, n2, c2, rfl⟩ := s2
  exact ⟨A0, c0, n0, A1, c1, n1, A2, c2, n2, rfl⟩
end Go.Proofs.YtkmfihpmjnfbfaaGreatDoor.Run
