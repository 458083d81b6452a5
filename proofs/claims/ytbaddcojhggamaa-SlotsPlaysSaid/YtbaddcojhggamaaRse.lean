/-
  The reference's serve.
-/
import Derived.Test.YtbaddcojhggamaaRad
import Derived.Test.YtbaddcojhggamaaAllF31
import Derived.Test.YtbaddcojhggamaaAllF32
import Derived.Deep.RegionHeld3
import Derived.Deep.DrawnRows
namespace Go.Proofs.Ytbaddcojhggamaa.PAll
open Go.RowKit Go.Shelf Go.Proofs.YtbaddcojhggamaaM Go.Proofs.YtbaddcojhggamaaW.PrintWords Go.Proofs.YtbaddcojhggamaaW.PrintLast Go.Proofs.YtbaddcojhggamaaW.PrintMore
set_option linter.unusedVariables false
set_option linter.unusedSimpArgs false
section
variable {W : World} {base gb n cap : Nat} {ok : Nat → Prop} {L : List S36} {j : Nat}
/-- An element of a row of one's own: its cells. -/
theorem R_el36 (h : Kd.R k36 36 W base ok (.slice (some ⟨gb, 0, none⟩) n cap) L) (hj : j < n) :
    W.cell? ⟨gb, j * 4, none⟩ = some (.int .i64 (L.getD j z36).f0) ∧ W.cell? ⟨gb, j * 4 + 1, none⟩ = some (.int .i64 (L.getD j z36).f1) ∧ W.cell? ⟨gb, j * 4 + 2, none⟩ = some (.int .i64 (L.getD j z36).f2) ∧ W.cell? ⟨gb, j * 4 + 3, none⟩ = some (.int .u32 (L.getD j z36).f3) ∧ ∀ k, W.frozen? ⟨gb, j * 4 + k, none⟩ = false := by
  obtain ⟨c, h1, h2, h3, h4⟩ := Kd.R_elem h z36 (j : Int) (by omega) (by omega)
  rw [Int.toNat_natCast] at h2 h3 h4
  have h3' : ∀ q u, c[q]? = some u → W.cell? ⟨gb, j * 4 + q, none⟩ = some u := h3
  have h4' : ∀ q, W.frozen? ⟨gb, j * 4 + q, none⟩ = false := h4
  obtain rfl := k36_openM h2
  exact ⟨h3' 0 _ rfl, h3' 1 _ rfl, h3' 2 _ rfl, h3' 3 _ rfl, h4'⟩
theorem R_set36 (h : Kd.R k36 36 W base ok (.slice (some ⟨gb, 0, none⟩) n cap) L) (hj : j < n) (f : Nat) (u : Value) (x' : S36) (hf : f < 4)
    (hx : [Value.int .i64 (L.getD j z36).f0, .int .i64 (L.getD j z36).f1, .int .i64 (L.getD j z36).f2, .int .u32 (L.getD j z36).f3].set f u = [.int .i64 x'.f0, .int .i64 x'.f1, .int .i64 x'.f2, .int .u32 x'.f3]) :
    Kd.R k36 36 (W.setCell ⟨gb, j * 4 + f, none⟩ u) base ok (.slice (some ⟨gb, 0, none⟩) n cap) (L.set j x') := by
  obtain ⟨c, h1, h2, h3, h4⟩ := Kd.R_elem h z36 (j : Int) (by omega) (by omega)
  obtain rfl := k36_openM h2
  have hs := Kd.R_seg (okp := fun _ => False) (seg := [u]) (j := f) (x' := x') h (j : Int) (by omega) (by omega) h1 h3 (show f + [u].length ≤ 4 by simp; omega) (by
    have e : ∀ (l : List Value), l.length = 4 → l.take f ++ [u] ++ l.drop (f + [u].length) = l.set f u := fun l hl => by
      rw [List.set_eq_take_append_cons_drop, if_pos (by omega)]; simp
    rw [e _ rfl, Int.toNat_natCast, hx]; exact k36_mkM _ _ _ x') (fun _ h => h.elim)
  rw [Int.toNat_natCast] at hs
  exact hs.1
end
theorem without_eq {L : List S36} (hl : L.length ≤ 60) {k : Nat} (hk : k < L.length) : prioryref13_without.f L (k : Int) = some (L.take k ++ L.drop (k + 1)) := by
  have hw : wrap64 ((k : Int) + 1) = ((k + 1 : Nat) : Int) := by rw [wrap_id (by omega)]; omega
  unfold prioryref13_without.f
  obtain ⟨N, hN⟩ : ∃ N, N = 4398046511104 := ⟨_, rfl⟩
  rw [← hN]
  have h2 : 200 < N := by rw [hN]; decide
  clear hN
  simp only [Option.bind_some, hw]
  rw [if_pos (by omega), if_pos (by omega), if_pos (by rw [List.length_take]; simp; omega), if_pos (by omega), if_pos (by omega), if_pos (by simp; omega)]
  simp only [Int.toNat_natCast, List.nil_append]
theorem upd_comm (c : Tab) {a b : Int} (h : a ≠ b) (x y : Option S36) : upd (upd c a x) b y = upd (upd c b y) a x := by
  funext j
  unfold upd
  by_cases h1 : j = b
  · rw [if_pos h1, if_neg (by omega), if_pos h1]
  · rw [if_neg h1]
    by_cases h2 : j = a
    · rw [if_pos h2, if_pos h2]
    · rw [if_neg h2, if_neg h2, if_neg h1]
/-- Who waits is set ready, then the zombie is taken out. -/
theorem lst_serve {c : Tab} {L : List S36} (h : Lst c L) {j k : Nat} (hj : j < L.length) (hk : k < L.length) {p z : S36} (hp : L.getD j z36 = p) (hz : L.getD k z36 = z) (hp2 : p.f2 = 2) (hz2 : z.f2 = 3) :
    Lst (upd (upd c z.f0 none) p.f0 (some { p with f2 := 1 })) ((L.set j { p with f2 := 1 }).take k ++ (L.set j { p with f2 := 1 }).drop (k + 1)) := by
  have hne : j ≠ k := fun e => by subst e; rw [hp] at hz; rw [hz, hz2] at hp2; exact absurd hp2 (by decide)
  have h1 := lst_set h hj (p' := { p with f2 := 1 }) (by rw [hp])
  have h2 := lst_del h1 (k := k) (by simpa using hk)
  have hg : (L.set j { p with f2 := 1 }).getD k z36 = z := by
    rw [List.getD_eq_getElem?_getD, List.getElem?_set_ne hne, ← List.getD_eq_getElem?_getD, hz]
  have hf : p.f0 ≠ z.f0 := fun e => hne (by
    rw [getD_el hj] at hp; rw [getD_el hk] at hz
    exact ris_inj h.1 hj hk (by rw [hp, hz, e]))
  rw [hg, upd_comm _ hf] at h2
  exact h2
attribute [local go_sem ↓] Go.wp_at_zero Go.wp_at_succ
theorem k40_mkM' (w : World) (base : Nat) (ok : Nat → Prop) (x : S40) : k40.M w base ok x [.int .i64 x.f0, .int .i64 x.f1, .int .u32 x.f2] := k40_mkM w base ok x
set_option maxRecDepth 100000 in
set_option maxHeartbeats 8000000 in
theorem rserve_calls (c : Tab) (most : Int) (rank : Int → Nat) (hI : Inv0 c most rank) (h1 : 1 ≤ most) (h8 : most ≤ 8) (w w0 : World) (g m : Nat) (v : Value) (hb : w.heap[g]? = some (.cells #[.int .i64 most, v] 47 (0, 0)))
    (hR : Kd.R k36 36 w w0.heap.size (fun _ => True) v (lstF c most.toNat)) (hg : g < w0.heap.size) (hm : m < w0.heap.size) (hG : w0.grownBy w (some g)) :
    Calls Try.prog 30 #[.pointer (some ⟨g, 0, none⟩)] w fun e W' => ∃ v', e = .returned v' ∧ Kd.R k40 40 W' w0.heap.size (fun _ => True) v' (runS most c most.toNat).1 ∧ RTab W' g m most (lstF (runS most c most.toNat).2 most.toNat) ∧ w0.grownBy W' (some g) := by
  have HRI := Aside0.mk (fun n => (runS_inv hI n).1)
  have HRL := Aside0.mk (runS_len most c)
  have HB := Aside0.mk hb
  have HR := Aside0.mk hR
  have HM := Aside0.mk (And.intro hg hm)
  have HG := Aside0.mk hG
  clear hb hR hg hm hG hI
  go_enter Try.func30, Try.ntmps30
  go_wp2_with fail
  go_loopg [3, 4] (most.toNat + 2) (fun kq v3 v4 w' => ∃ (pid : Int) (q : Nat) (vL : Value), v4 = .int .i64 pid ∧ Aside0 (pid = (q : Int) + 1) ∧ Aside0 ((q : Int) ≤ most ∧ q + kq = most.toNat + 2) ∧ Aside0 (Kd.R k40 40 w' w0.heap.size (fun _ => True) v3 (runS most c q).1) ∧ Aside0 (w'.heap[g]? = some (.cells #[.int .i64 most, vL] 47 (0, 0))) ∧ Aside0 (Kd.R k36 36 w' w0.heap.size (fun _ => True) vL (lstF (runS most c q).2 most.toNat)) ∧ Aside0 (w0.grownBy w' (some g)))
  case atStart => exact ⟨1, 0, v, rfl, ⟨rfl⟩, ⟨⟨by omega, by omega⟩⟩, ⟨Kd.R_nil _ _ _ _ _⟩, HB, HR, HG⟩
  case round =>
    clear HB HR HG
    obtain ⟨pid, q, vL, rfl, HPQ, HN, HO, HB, HR, HG⟩ := hrel
    have hI := HRI.out q
    have hI2 := HRI.out (q + 1)
    have hol := HRL.out q
    have hst : runS most c (q + 1) = stepS most (runS most c q) (q + 1) := rfl
    obtain ⟨x, hx⟩ : ∃ x, x = runS most c q := ⟨_, rfl⟩
    rw [← hx] at HO HR hI hol hst
    obtain ⟨o, c'⟩ := x
    simp only at HO HR hI hol
    have hLst := lst_of hI
    have hlen := lstF_len c' most.toNat
    obtain ⟨L, hL⟩ : ∃ L, L = lstF c' most.toNat := ⟨_, rfl⟩
    rw [← hL] at HR hLst hlen
    have HL := Aside0.mk hL
    have HX := Aside0.mk hx
    have HLST := Aside0.mk hLst
    have HI := Aside0.mk hI
    have HI2 := Aside0.mk hI2
    have HST := Aside0.mk hst
    have hl8 : L.length ≤ 8 := by omega
    have ho8 : o.length ≤ 8 := by have := HN.out.1; omega
    obtain ⟨A0, c0, rfl, hLE, _⟩ := Kd.R_reads HR.out
    obtain ⟨A3, c3, rfl, hLE3, _⟩ := Kd.R_reads HO.out
    have x0 : wr.cell? ⟨g, 0, none⟩ = some (.int .i64 most) := (blk_cell HB.out 0).trans rfl
    have x1 : wr.cell? ⟨g, 1, none⟩ = some (.slice A0 L.length c0) := (blk_cell HB.out 1).trans rfl
    have HC := Aside0.mk (Kd.R_reads' HR.out).2.2
    clear hL hx hLst hI hI2 hst hlen hol
    by_cases hpm : pid ≤ most
    · have hw1 : IntKind.i64.wrap (pid + 1) = pid + 1 := (IntWalk.i64_left _).trans (IntWalk.wrap64_in _ (by have := HPQ.out; omega))
      have hp1 : 1 ≤ pid := by have := HPQ.out; omega
      obtain ⟨k', rfl⟩ : ∃ k', gk = k' + 1 := ⟨gk - 1, by have := HN.out.2; have := HPQ.out; omega⟩
      have hcast : (((q + 1 : Nat) : Nat) : Int) = pid := by have := HPQ.out; omega
      have HCA := Aside0.mk hcast
      clear hcast
      -- a round that leaves all as it was
      have keep : runS most c (q + 1) = (o, c') → ∀ W : World, wr.grownBy W none → (Aside0 (Kd.R k40 40 W w0.heap.size (fun _ => True) (.slice A3 o.length c3) (runS most c (q + 1)).1) ∧ Aside0 (W.heap[g]? = some (.cells #[.int .i64 most, .slice A0 L.length c0] 47 (0, 0))) ∧ Aside0 (Kd.R k36 36 W w0.heap.size (fun _ => True) (.slice A0 L.length c0) (lstF (runS most c (q + 1)).2 most.toNat)) ∧ Aside0 (w0.grownBy W (some g))) := fun e W hW => by
        rw [e]
        exact ⟨⟨Kd.R_below HO.out (below_of_grown hW)⟩, ⟨blk_grown HB.out hW (by simp)⟩, ⟨by rw [← HL.out]; exact Kd.R_below HR.out (below_of_grown hW)⟩, ⟨HG.out.trans (gb_weak hW g)⟩⟩
      have HK := Aside0.mk keep
      clear keep
      cases hcp : c' pid with
      | none =>
        have hs : runS most c (q + 1) = (o, c') := by rw [HST.out]; unfold stepS; simp only [HCA.out, hcp]
        have HS := Aside0.mk hs
        have HA := Aside0.mk (at_none HLST.out (by omega) hcp)
        clear hs hcp
        go_wp2_with (go_at_call 20; refine (prioryref13_At.calls 64 A0 c0 L pid (-1) _ HC.out hLE HA.out).mono ?_; rintro e W2 ⟨rfl, hd⟩; have HG2 := Aside0.mk (gb_drawn hd); clear hd)
        go_roundg k'
        case measure => omega
        case rel => exact ⟨pid + 1, q + 1, _, rfl, ⟨by have := HPQ.out; omega⟩, ⟨by have := HN.out; have := HPQ.out; omega⟩, HK.out HS.out _ HG2.out⟩
      | some p =>
        have hp0 : p.f0 = pid := (HI.out.key hcp).1
        obtain ⟨j, hj1, hj2, hj3⟩ := at_pos HLST.out (by omega) hcp hp0
        have hj0 : (0 : Int) ≤ (j : Int) := by omega
        have hj00 : ¬ ((j : Int) < 0) := by omega
        have hjl : (j : Int) < (L.length : Int) := by omega
        have HA := Aside0.mk hj1
        obtain ⟨gb, cb, hform, hgb, hgb2, _⟩ := Kd.R_form HR.out (by omega)
        cases hform
        obtain ⟨_, _, y2, _, hfz⟩ := R_el36 HR.out hj2
        rw [hj3] at y2
        obtain ⟨st, hst⟩ : ∃ st, st = p.f2 := ⟨_, rfl⟩
        rw [← hst] at y2
        have HY2 := Aside0.mk y2
        have HFZ := Aside0.mk hfz
        have HJ3 := Aside0.mk hj3
        have HP := Aside0.mk (And.intro hcp hp0)
        have HSTT := Aside0.mk hst
        clear hj1 hj3 hcp hp0 hst y2 hfz
        by_cases hw : st = 2
        · subst hw
          have hw2 : p.f2 = 2 := HSTT.out.symm
          have hsv : runS most c (q + 1) = (o ++ (serveR c' most p).1.toList, (serveR c' most p).2) := by rw [HST.out]; unfold stepS; simp only [HCA.out, HP.out.1, hw2, if_true]
          have hse : serveR c' most p = match L.find? (isKid pid) with | none => (none, c') | some z => (some ⟨p.f0, z.f0, z.f3⟩, upd (upd c' z.f0 none) p.f0 (some { p with f2 := 1 })) := by unfold serveR; rw [HP.out.2, ← HL.out]; rfl
          rcases child_of (l := L) (by omega) pid with ⟨k, hk1, hk2, hk3⟩ | ⟨hk1, hk3⟩
          · have hk0 : (0 : Int) ≤ (k : Int) := by omega
            have hk00 : ¬ ((k : Int) < 0) := by omega
            have hkl : (k : Int) < (L.length : Int) := by omega
            obtain ⟨z, hz⟩ : ∃ z, z = L.getD k z36 := ⟨_, rfl⟩
            rw [← hz] at hk3
            have HZK0 := Aside0.mk hk3
            rw [hk3] at hse
            simp only at hse
            rw [hse] at hsv
            simp only [Option.toList_some] at hsv
            obtain ⟨u0, _, _, u3, _⟩ := R_el36 HR.out hk2
            rw [← hz] at u0 u3
            obtain ⟨z0, hz0⟩ : ∃ z0, z0 = z.f0 := ⟨_, rfl⟩
            obtain ⟨z3, hz3⟩ : ∃ z3, z3 = z.f3 := ⟨_, rfl⟩
            rw [← hz0] at u0
            rw [← hz3] at u3
            have HK1 := Aside0.mk hk1
            have HU := Aside0.mk (And.intro u0 u3)
            have HSV := Aside0.mk hsv
            have HZ := Aside0.mk hz
            have HZZ := Aside0.mk (And.intro hz0 hz3)
            have HZK := Aside0.mk (show z.f2 = 3 by have := List.find?_some HZK0.out; simp [isKid] at this; exact this.2)
            have HKL := Aside0.mk hk2
            have HJ2 := Aside0.mk hj2
            clear hk1 hk3 hse hsv u0 u3 hz hz0 hz3 hw2
            go_wp2_with (first
              | (go_at_call 31; refine (prioryref13_child.calls 64 (some ⟨gb, 0, none⟩) c0 L pid (k : Int) _ (Kd.C_below HC.out (below_of_grown HG2.out)) hLE HK1.out).mono ?_; rintro e W3 ⟨rfl, hd⟩; have HG3 := Aside0.mk (HG2.out.trans (gb_drawn hd)); have x13 := (blk_cell (blk_grown HB.out HG3.out (by simp)) 1).trans rfl; have u03 := cells_keep HU.out.1 (below_of_grown HG3.out); have u33 := cells_keep HU.out.2 (below_of_grown HG3.out); clear x12 y22 hd)
              | (go_at_call 20; refine (prioryref13_At.calls 64 (some ⟨gb, 0, none⟩) c0 L pid (j : Int) _ HC.out hLE HA.out).mono ?_; rintro e W2 ⟨rfl, hd⟩; have HG2 := Aside0.mk (gb_drawn hd); have x12 := (blk_cell (blk_grown HB.out HG2.out (by simp)) 1).trans rfl; have y22 := cells_keep HY2.out (below_of_grown HG2.out); clear hd))
            have HO3 := Aside0.mk (Kd.R_below HO.out (below_of_grown HG3.out))
            have hz3 : w0.heap.size ≤ W3.heap.size := Nat.le_trans HG.out.size HG3.out.size
            have HB3 := Aside0.mk (blk_grown HB.out HG3.out (by simp))
            have HR3 := Aside0.mk (Kd.R_below HR.out (below_of_grown HG3.out))
            have hEb : ∀ q, q ∈ (36 : Nat) :: k36.E → q ≠ 40 := by decide
            have HEB := Aside0.mk hEb
            clear hEb
            have HLO := Aside0.mk (show (o.length + 1) * 24 ≤ 140737488355328 by omega)
            go_region_held3 (fun w' => w'.cell? ⟨g, 1, none⟩ = some (.slice (some ⟨gb, 0, none⟩) L.length c0) ∧ w'.cell? ⟨gb, k * 4, none⟩ = some (.int .i64 z0) ∧ w'.cell? ⟨gb, k * 4 + 3, none⟩ = some (.int .u32 z3))
              (first | go_keep | (go_split_ands; exact ⟨x19, u09, u39⟩))
              ((refine Kd.R_append_step k40 (w0 := W3.drew) w0.heap.size (by rfl) _ _ _ 40 (.agg #[.int .i64 0, .int .i64 0, .int .u32 0]) 24 (by rfl) Try.underlying31 info40 rfl (by decide) (by decide) (.slice A3 o.length c3) o ⟨pid, z0, z3⟩ [.int .i64 pid, .int .i64 z0, .int .u32 z3] (fun _ => True) (fun _ => False) (by rfl) (by rfl) (k40_mkM _ _ _ ⟨pid, z0, z3⟩) (fun _ h => h.elim) (fun _ _ => trivial) (Kd.R_drew HO3.out) (Below.refl _ _) hz3 HLO.out ?_; intro v9 W9 hR9 hb9 hg9 hat9; have HR9 := Aside0.mk hR9; have hL9 := Kd.R_over (Kd.R_drew HR3.out) (Kd.R_drew HO3.out) HEB.out hg9; have hbk9 := blk_grown (show W3.drew.heap[g]? = _ from HB3.out) hg9 (fun e => by have := Kd.R_base HO3.out g e.symm; have := HM.out.1; omega); have x19 := (blk_cell hbk9 1).trans rfl; obtain ⟨q0, _, _, q3, _⟩ := R_el36 hL9 HKL.out; rw [← HZ.out, ← HZZ.out.1] at q0; rw [← HZ.out, ← HZZ.out.2] at q3; have u09 := q0; have u39 := q3; have HG9 := Aside0.mk ((HG.out.trans (gb_weak (gb_drew HG3.out) g)).andThen hg9 (fun j e => .inl (Kd.R_base HO3.out j e))); have HL9 := Aside0.mk hL9; have HBK9 := Aside0.mk hbk9; clear q0 q3 hR9 hb9 hg9 hat9 hL9 hbk9))
            obtain ⟨_, _, t2, _, tf⟩ := R_el36 HL9.out HJ2.out
            have tf2 := tf 2
            have hgg : g ≠ gb := by have := HM.out.1; omega
            have hbs := blk_far HBK9.out (p := ⟨gb, j * 4 + 2, none⟩) hgg (.int .i64 1)
            have xs1 : (W9.setCell ⟨gb, j * 4 + 2, none⟩ (.int .i64 1)).cell? ⟨g, 1, none⟩ = some (.slice (some ⟨gb, 0, none⟩) L.length c0) := (blk_cell hbs 1).trans rfl
            have HBS := Aside0.mk hbs
            obtain ⟨L1, hL1⟩ : ∃ L1, L1 = L.set j { p with f2 := 1 } := ⟨_, rfl⟩
            have hL1n : L1.length = L.length := by rw [hL1, List.length_set]
            have hRs := R_set36 HL9.out HJ2.out 2 (.int .i64 1) { p with f2 := 1 } (by decide) (by rw [HJ3.out]; rfl)
            rw [← hL1] at hRs
            obtain ⟨L2, hL2⟩ : ∃ L2, L2 = L1.take k ++ L1.drop (k + 1) := ⟨_, rfl⟩
            have hwo : prioryref13_without.f L1 (k : Int) = some L2 := by rw [hL2]; exact without_eq (by omega) (by rw [hL1n]; exact HKL.out)
            have hls : L2 = lstF (upd (upd c' z.f0 none) p.f0 (some { p with f2 := 1 })) most.toNat := by
              have h9 := HI2.out
              rw [HSV.out] at h9
              refine lst_eq h9 ?_
              rw [hL2, hL1]
              exact lst_serve HLST.out HJ2.out HKL.out HJ3.out HZ.out.symm HSTT.out.symm (HZK.out)
            have h32 := prioryref13_without.calls (some ⟨gb, 0, none⟩) c0 L1 (k : Int) L2 (W9.setCell ⟨gb, j * 4 + 2, none⟩ (.int .i64 1)) (by have := (Kd.R_reads' hRs).2.2; exact this) (by omega) hwo
            rw [hL1n] at h32
            have H32 := Aside0.mk h32
            have HLS := Aside0.mk hls
            have HRS := Aside0.mk hRs
            have hE4 : ∀ q, q ∈ (40 : Nat) :: k40.E → q ≠ 36 := by decide
            have HOS := Aside0.mk (Kd.R_over HR9.out HL9.out hE4 (gb_set W9 gb (j * 4 + 2) (.int .i64 1)))
            have HGS := Aside0.mk (HG9.out.andThen (gb_set W9 gb (j * 4 + 2) (.int .i64 1)) (fun q e => by cases e; exact .inl hgb))
            clear tf hbs hL1 hL1n hRs hL2 hwo hls h32 hE4 u09 u39 x13 u03 u33
            go_wp2_with (go_at_call 32; refine H32.out.mono ?_; rintro e W10 ⟨v10, rfl, hR10, hb10⟩; have hbk10 := blk_grown HBS.out (gb_below hb10) (by simp); obtain ⟨A10, c10, rfl, _, _⟩ := Kd.R_reads hR10; have x110 := (blk_cell hbk10 1).trans rfl; have f110 := blk_frozen hbk10 1; have HBK10 := Aside0.mk hbk10; have HR10 := Aside0.mk hR10; have HO10 := Aside0.mk (Kd.R_below HOS.out hb10); have HG10 := Aside0.mk (HGS.out.trans (gb_weak (gb_below hb10) g)); clear hbk10 hR10 hb10 xs1 t2 tf2 x19)
            go_roundg k'
            case measure => omega
            case rel =>
              have hfar : ∀ k, w0.heap.size ≤ k → k ≠ g := fun k hk e => by have := HM.out.1; omega
              refine ⟨pid + 1, q + 1, .slice A10 L2.length c10, rfl, ⟨by have := HPQ.out; omega⟩, ⟨by have := HN.out; have := HPQ.out; omega⟩, ?_, ⟨blk_put HBK10.out 1 _ rfl⟩, ?_, ⟨HG10.out.trans (gb_set W10 g 1 (.slice A10 L2.length c10))⟩⟩
              · rw [HSV.out]
                have e : (⟨p.f0, z.f0, z.f3⟩ : S40) = ⟨pid, z0, z3⟩ := by rw [HP.out.2, HZZ.out.1, HZZ.out.2]
                rw [e]
                exact ⟨Kd.R_mono (Kd.R_far (p := ⟨g, 1, none⟩) (Kd.R_bound HO10.out) (fun k hk => hfar k hk.2.1) _) (fun _ _ => trivial)⟩
              · rw [HSV.out]
                simp only
                rw [← HLS.out]
                have hlow : w0.heap.size ≤ (W9.setCell ⟨gb, j * 4 + 2, none⟩ (.int .i64 1)).heap.size := HGS.out.size
                exact ⟨Kd.R_mono (Kd.R_lower (Kd.R_far (p := ⟨g, 1, none⟩) (Kd.R_bound HR10.out) (fun k hk => hfar k (Nat.le_trans hlow hk.2.1)) _) hlow) (fun _ _ => trivial)⟩
          · rw [hk3] at hse
            simp only at hse
            rw [hse] at hsv
            simp only [Option.toList_none, List.append_nil] at hsv
            have HS := Aside0.mk hsv
            have HK1 := Aside0.mk hk1
            clear hk1 hk3 hse hsv hw2
            go_wp2_with (first
              | (go_at_call 31; refine (prioryref13_child.calls 64 (some ⟨gb, 0, none⟩) c0 L pid (-1) _ (Kd.C_below HC.out (below_of_grown HG2.out)) hLE HK1.out).mono ?_; rintro e W3 ⟨rfl, hd⟩; have HG3 := Aside0.mk (HG2.out.trans (gb_drawn hd)); clear hd)
              | (go_at_call 20; refine (prioryref13_At.calls 64 (some ⟨gb, 0, none⟩) c0 L pid (j : Int) _ HC.out hLE HA.out).mono ?_; rintro e W2 ⟨rfl, hd⟩; have HG2 := Aside0.mk (gb_drawn hd); have x12 := (blk_cell (blk_grown HB.out HG2.out (by simp)) 1).trans rfl; have y22 := cells_keep HY2.out (below_of_grown HG2.out); clear hd))
            go_roundg k'
            case measure => omega
            case rel => exact ⟨pid + 1, q + 1, _, rfl, ⟨by have := HPQ.out; omega⟩, ⟨by have := HN.out; have := HPQ.out; omega⟩, HK.out HS.out _ HG3.out⟩
        · have hs : runS most c (q + 1) = (o, c') := by rw [HST.out]; unfold stepS; simp only [HCA.out, HP.out.1]; rw [if_neg (by rw [← HSTT.out]; exact hw)]
          have HS := Aside0.mk hs
          have hwb : (st != 2) = true := by rw [bne_iff_ne]; exact hw
          clear hs
          go_wp2_with (go_at_call 20; refine (prioryref13_At.calls 64 (some ⟨gb, 0, none⟩) c0 L pid (j : Int) _ HC.out hLE HA.out).mono ?_; rintro e W2 ⟨rfl, hd⟩; have HG2 := Aside0.mk (gb_drawn hd); have x12 := (blk_cell (blk_grown HB.out HG2.out (by simp)) 1).trans rfl; have y22 := cells_keep HY2.out (below_of_grown HG2.out); clear hd)
          go_roundg k'
          case measure => omega
          case rel => exact ⟨pid + 1, q + 1, _, rfl, ⟨by have := HPQ.out; omega⟩, ⟨by have := HN.out; have := HPQ.out; omega⟩, HK.out HS.out _ HG2.out⟩
    · have hq : q = most.toNat := by have := HPQ.out; have := HN.out; omega
      have hR2 : RTab wr g m most L := RTab.of_own HB.out HR.out HM.out.1 HM.out.2
      have HR2 := Aside0.mk hR2
      have HX2 := Aside0.mk (show runS most c most.toNat = (o, c') by rw [← hq]; exact HX.out.symm)
      clear hR2
      go_wp2
      go_ret
      rw [HX2.out]
      exact ⟨_, rfl, HO.out, by rw [← HL.out]; exact HR2.out, HG.out⟩
end Go.Proofs.Ytbaddcojhggamaa.PAll
