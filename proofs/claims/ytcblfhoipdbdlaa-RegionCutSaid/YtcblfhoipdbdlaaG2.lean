/-
  Walks and plain laws, joined of 6 texts.
-/
import Derived.Test.YtcblfhoipdbdlaaG1
namespace Go.Proofs.Ytcblfhoipdbdlaa.PAll
open Go.RowKit Go.Proofs.YtcblfhoipdbdlaaW.PrintWords Go.Proofs.YtcblfhoipdbdlaaW.PrintLast Go.Proofs.YtcblfhoipdbdlaaW.PrintMore Go.Proofs.YtcblfhoipdbdlaaO
attribute [local go_sem] max2_int min2_int max_two min_two max_three min_three max_four min_four
set_option linter.unusedVariables false
set_option linter.unusedSimpArgs false

def bumpS (a : S24) : S24 := ⟨a.f0, a.f1 + 1, a.f2⟩
def bumpL (l : List S24) : List S24 := l.set (l.length - 1) (bumpS (l.getD (l.length - 1) z24))
def lastF (what : Nat → Int) : Nat → Int
  | 0 => 0
  | n + 1 => what n
def formL (what : Nat → Int) : Nat → List S24
  | 0 => []
  | n + 1 => if what n = 0 then formL what n else if what n = lastF what n then bumpL (formL what n) else formL what n ++ [⟨n, 1, what n == 2⟩]
def formR (what : Nat → Int) : List S24 × Int := if (formL what 1024).length > 8 then ([], 3) else (formL what 1024, 0)
theorem bumpL_length (l : List S24) : (bumpL l).length = l.length := by simp [bumpL]
theorem formL_length (what : Nat → Int) : ∀ n, (formL what n).length ≤ n
  | 0 => by simp [formL]
  | n + 1 => by
    have := formL_length what n
    unfold formL
    split
    · omega
    · split
      · rw [bumpL_length]; omega
      · simp; omega
theorem formL_ne (what : Nat → Int) (n : Nat) (h : lastF what n ≠ 0) : 0 < (formL what n).length := by
  cases n with
  | zero => exact absurd rfl h
  | succ n =>
    induction n with
    | zero =>
      have h1 : what 0 ≠ 0 := h
      have h2 : ¬ what 0 = lastF what 0 := h1
      unfold formL; rw [if_neg h1, if_neg h2]; simp
    | succ n ih =>
      have h1 : what (n + 1) ≠ 0 := h
      unfold formL; rw [if_neg h1]
      split
      · rename_i h2
        rw [bumpL_length]
        exact ih (by rw [← h2]; exact h1)
      · simp
theorem formL_many (what : Nat → Int) : ∀ n, ∀ a ∈ formL what n, 1 ≤ a.f1 ∧ a.f1 ≤ n
  | 0 => by simp [formL]
  | n + 1 => by
    have ih := formL_many what n
    unfold formL
    split
    · intro a ha; have := ih a ha; omega
    · split
      · intro a ha
        unfold bumpL at ha
        rcases List.mem_or_eq_of_mem_set ha with h | h
        · have := ih a h; omega
        · subst h
          by_cases hl : (formL what n).length - 1 < (formL what n).length
          · have := ih ((formL what n).getD ((formL what n).length - 1) z24) (by rw [List.getD_eq_getElem?_getD, List.getElem?_eq_getElem hl]; simp)
            simp only [bumpS]; omega
          · have h0 : formL what n = [] := List.eq_nil_of_length_eq_zero (by omega)
            rw [h0] at ha
            simp at ha
      · intro a ha
        rcases List.mem_append.1 ha with h | h
        · have := ih a h; omega
        · simp at h; subst h; simp; omega

theorem size3f : (Try.prog.info? 3).map (·.size) = some 1 := by kernel_rfl
theorem last_cells {W : World} {base g c : Nat} {ok : Nat → Prop} {l : List S24} (hp : 0 < l.length) (h : Kd.R k24 24 W base ok (.slice (some ⟨g, 0, none⟩) l.length c) l) :
    W.cell? ⟨g, (l.length - 1) * 3, none⟩ = some (.int .i64 (l.getD (l.length - 1) z24).f0) ∧ W.cell? ⟨g, (l.length - 1) * 3 + 1, none⟩ = some (.int .i64 (l.getD (l.length - 1) z24).f1) ∧ W.cell? ⟨g, (l.length - 1) * 3 + 2, none⟩ = some (.bool (l.getD (l.length - 1) z24).f2) := by
  obtain ⟨ad, e, q0, q1, q2⟩ := at_T24 (Kd.R_reads' h).2.2 ((l.length : Int) - 1) (by omega) (by omega)
  cases e
  rw [show ((l.length : Int) - 1).toNat = l.length - 1 by omega, add_plain] at q0 q1 q2
  rw [show rd_T24 l ((l.length : Int) - 1) = l.getD (l.length - 1) z24 by unfold rd_T24; rw [show ((l.length : Int) - 1).toNat = l.length - 1 by omega]] at q0 q1 q2
  exact ⟨q0, q1, q2⟩
theorem bump_M {m : Int} (a : S24) (h : a.f1 = m) (W : World) (base : Nat) (ok : Nat → Prop) : k24.M W base ok (bumpS a) ([Value.int .i64 a.f0, .int .i64 a.f1, .bool a.f2].take 1 ++ [.int .i64 (m + 1)] ++ [Value.int .i64 a.f0, .int .i64 a.f1, .bool a.f2].drop (1 + [Value.int .i64 (m + 1)].length)) := by
  subst h; exact k24_mkM _ _ _ (bumpS a)
set_option maxHeartbeats 2000000 in
set_option maxRecDepth 100000 in
theorem form_calls (cf : FuncId) (cap : Array Value) (what : Nat → Int) (w : World) (henter : ∀ args W, (callFunc cf args).run Try.prog W = .ok (.enter cf args) W)
    (hwhat : ∀ (W : World) (n : Nat), n < 1024 → Below w.heap.size w W → Calls Try.prog cf (#[.int .i64 n] ++ cap) W fun e W' => e = .returned (.int .i64 (what n)) ∧ Drawn0 W W') (r1 : List S24) (r2 : Int) (hr : formR what = (r1, r2)) :
    Calls Try.prog 29 #[.func (.func cf) #[] cap] w fun e w' => ∃ v0_ : Value, e = .returned (.tuple #[v0_, .int .i64 r2]) ∧ Kd.R k24 24 w' w.heap.size (fun _ => True) v0_ r1 ∧ Below w.heap.size w w' := by
  have HE := Aside0.mk henter
  have HW := Aside0.mk hwhat
  have HR := Aside0.mk hr
  clear henter hwhat hr
  go_enter Try.func29, Try.ntmps29
  go_wp2_with (fail)
  go_loopw [4, 5, 8] (fun v u i W => ∃ k : Nat, i = .int .i64 k ∧ u = .int .i64 (lastF what k) ∧ Aside0 (k ≤ 1024) ∧ Aside0 (Kd.R k24 24 W w.heap.size (fun _ => True) v (formL what k)) ∧ Aside0 (Below w.heap.size w W)) (fun _ _ i _ => 1024 - (intOf i).toNat)
  case atStart => exact ⟨0, rfl, rfl, ⟨by omega⟩, ⟨Kd.R_nil _ _ _ _ _⟩, ⟨Below.refl _ _⟩⟩
  case round =>
    obtain ⟨k, rfl, rfl, hk, hv, hB⟩ := hrel
    have hk' := hk.out
    obtain ⟨A4, c4, rfl⟩ := Kd.R_slice hv.out
    by_cases hlt : k < 1024
    · have hlt' := Aside0.mk hlt
      have hc := HW.out wr k hlt hB.out
      have HC := Aside0.mk hc
      clear hc
      have hm := formL_length what k
      by_cases h0 : what k = 0
      · have h0b : (what k == 0) = true := beq_iff_eq.2 h0
        have hs : Aside0 (formL what (k + 1) = formL what k) := ⟨by conv => lhs; unfold formL; rw [if_pos h0]⟩
        clear h0
        go_wp2_with ((with_reducible refine gate_dst (N := 13) rfl ?_); refine ev_callval rfl (.tmp 11) _ _ rfl rfl (args := #[.int .i64 (k : Int)]) (by simp only [List.map_toArray, List.map_cons, List.map_nil]; rfl) HE.out ?_; refine HC.out.mono ?_; rintro e W1 ⟨rfl, hd⟩; have hv1 := Aside0.mk (Kd.R_below hv.out (Drawn0.below hd)); have hB1 := Aside0.mk (below_step hB.out (Drawn0.below hd)); clear hd; refine ⟨_, rfl, ?_⟩)
        go_roundw
        case rel => exact ⟨k + 1, by go_num, rfl, ⟨by have := hlt'.out; omega⟩, ⟨by rw [hs.out]; exact hv1.out⟩, hB1⟩
        case measure => have := hlt'.out; simp [intOf]; omega
      · have h0b : (what k == 0) = false := beq_eq_false_iff_ne.2 h0
        by_cases h1 : what k = lastF what k
        · have h1b : (what k == lastF what k) = true := beq_iff_eq.2 h1
          have hs : Aside0 (formL what (k + 1) = bumpL (formL what k)) := ⟨by conv => lhs; unfold formL; rw [if_neg h0, if_pos h1]⟩
          have hp := formL_ne what k (by rw [← h1]; exact h0)
          clear h0 h1
          obtain ⟨g, cap, hsl, hgb, hgl, cells, hgc⟩ := Kd.R_form hv.out hp
          injection hsl with e1 e2 e3
          subst e1 e3
          have hvR := Aside0.mk hgb
          clear hgb hgc hgl e2
          have hmm := formL_many what k ((formL what k).getD ((formL what k).length - 1) z24) (by rw [List.getD_eq_getElem?_getD, List.getElem?_eq_getElem (by omega)]; simp)
          obtain ⟨m, hlast⟩ : ∃ m, ((formL what k).getD ((formL what k).length - 1) z24).f1 = m := ⟨_, rfl⟩
          rw [hlast] at hmm
          have HL := Aside0.mk hlast
          clear hlast
          obtain ⟨hm1, hm2⟩ := hmm
          go_wp2_with (first | ((with_reducible refine gate_dst (N := 13) rfl ?_); refine ev_callval rfl (.tmp 11) _ _ rfl rfl (args := #[.int .i64 (k : Int)]) (by simp only [List.map_toArray, List.map_cons, List.map_nil]; rfl) HE.out ?_; refine HC.out.mono ?_; rintro e W1 ⟨rfl, hd⟩; have hv1 := Aside0.mk (Kd.R_below hv.out (Drawn0.below hd)); have hB1 := Aside0.mk (below_step hB.out (Drawn0.below hd)); clear hd; obtain ⟨q0, q1, q2⟩ := last_cells hp hv1.out; have Q0 := Aside0.mk q0; have Q1 := Aside0.mk q1; have Q2 := Aside0.mk q2; clear q0 q2; have q1' := q1; rw [HL.out] at q1'; clear q1; refine ⟨_, rfl, ?_⟩) | ((with_reducible refine gate_st (ty := 3) (x := .tmp 37) rfl ?_); go_loud ((refine Kd.R_store k24 (w0 := w) w.heap.size rfl rfl 3 (.tmp 37) (.tmp 35) rfl 24 (g := g) (n := (formL what k).length) (cap := c4) (o' := ((formL what k).length - 1) * 3 + 1) (((formL what k).length : Int) - 1) 1 (formL what k) (bumpS ((formL what k).getD ((formL what k).length - 1) z24)) (.int .i64 (m + 1)) [.int .i64 (m + 1)] [.int .i64 ((formL what k).getD ((formL what k).length - 1) z24).f0, .int .i64 ((formL what k).getD ((formL what k).length - 1) z24).f1, .bool ((formL what k).getD ((formL what k).length - 1) z24).f2] (fun _ => True) (fun _ => False) rfl ?c1 rfl rfl size3f ?c2 hv1.out ?c3 ?c4 rfl ?c5 (by show 2 ≤ 3; omega) ?c6 (fun _ h => h.elim) hB1.out ?_; (case c1 => show _ = _ * 3 + 1; congr 2; omega); (case c2 => intro q hq; simp at hq; subst hq; rfl); (case c3 => omega); (case c4 => omega); (case c5 => intro j u hj; rw [show (((formL what k).length : Int) - 1).toNat * k24.sz = ((formL what k).length - 1) * 3 by show _ * 3 = _; congr 1; omega]; match j, hj with | 0, hj => (cases hj; exact Q0.out) | 1, hj => (cases hj; exact Q1.out) | 2, hj => (cases hj; exact Q2.out)); (case c6 => exact bump_M _ HL.out _ _ _); intro w12 ho hb hg; have HO := Aside0.mk ho; have HB2 := Aside0.mk hb; clear ho hb hg))))
          go_roundw
          case rel => exact ⟨k + 1, by go_num, rfl, ⟨by have := hlt'.out; omega⟩, ⟨by rw [hs.out]; unfold bumpL; have := HO.out; rwa [show (((formL what k).length : Int) - 1).toNat = (formL what k).length - 1 by omega] at this⟩, HB2⟩
          case measure => have := hlt'.out; simp [intOf]; omega
        · have h1b : (what k == lastF what k) = false := beq_eq_false_iff_ne.2 h1
          have hs : Aside0 (formL what (k + 1) = formL what k ++ [⟨k, 1, what k == 2⟩]) := ⟨by conv => lhs; unfold formL; rw [if_neg h0, if_neg h1]⟩
          clear h0 h1
          go_wp2_with (first | ((with_reducible refine gate_dst (N := 13) rfl ?_); refine ev_callval rfl (.tmp 11) _ _ rfl rfl (args := #[.int .i64 (k : Int)]) (by simp only [List.map_toArray, List.map_cons, List.map_nil]; rfl) HE.out ?_; refine HC.out.mono ?_; rintro e W1 ⟨rfl, hd⟩; have hv1 := Aside0.mk (Kd.R_below hv.out (Drawn0.below hd)); have hB1 := Aside0.mk (below_step hB.out (Drawn0.below hd)); clear hd; refine ⟨_, rfl, ?_⟩) | ((with_reducible refine gate_builtin (b := .append) (xs := #[.tmp 14, .tmp 19]) rfl ?_); at_builtin; refine Kd.R_append k24 (w0 := w) w.heap.size rfl (.tmp 14) (.tmp 19) 22 24 (.agg #[(.int .i64 0), (.int .i64 0), (.bool false)]) 24 rfl Try.underlying22 info24 rfl (by decide) (by omega) (.slice A4 (formL what k).length c4) (formL what k) (⟨(k : Int), 1, what k == 2⟩ : S24) [.int .i64 (k : Int), .int .i64 1, .bool (what k == 2)] (fun _ => True) (fun _ => False) rfl rfl ?aP (fun _ hk => hk.elim) ?aF ?aO ?aB ?aS ?aL ?_; (case aP => exact k24_mkM _ _ _ (⟨(k : Int), 1, what k == 2⟩ : S24)); (case aF => exact fun _ _ => trivial); (case aO => exact hv1.out); (case aB => exact hB1.out); (case aS => exact below_size hB1.out); (case aL => omega); intro v193 w12 ho hb hg hat; have HO := Aside0.mk ho; have HB2 := Aside0.mk hb; clear ho hb hg hat))
          go_roundw
          case rel => exact ⟨k + 1, by go_num, rfl, ⟨by have := hlt'.out; omega⟩, ⟨by rw [hs.out]; exact HO.out⟩, HB2⟩
          case measure => have := hlt'.out; simp [intOf]; omega
    · have hk1 : k = 1024 := by omega
      subst hk1
      by_cases h8 : (formL what 1024).length > 8
      · have hr := HR.out
        unfold formR at hr
        rw [if_pos h8] at hr
        injection hr with hr1 hr2
        subst hr1 hr2
        go_wp2_with (fail)
        go_ret2
        exact ⟨_, rfl, Kd.R_nil _ _ _ _ _, hB.out⟩
      · have hr := HR.out
        unfold formR at hr
        rw [if_neg h8] at hr
        injection hr with hr1 hr2
        subst hr1 hr2
        have h8' : ¬ (8 : Int) < ((formL what 1024).length : Int) := by omega
        go_wp2_with (fail)
        go_ret2
        exact ⟨_, rfl, hv.out, hB.out⟩
end Go.Proofs.Ytcblfhoipdbdlaa.PAll

namespace Go.Proofs.Ytcblfhoipdbdlaa.PAll
open Go.RowKit Go.Proofs.YtcblfhoipdbdlaaW.PrintWords Go.Proofs.YtcblfhoipdbdlaaW.PrintLast Go.Proofs.YtcblfhoipdbdlaaW.PrintMore Go.Proofs.YtcblfhoipdbdlaaO
attribute [local go_sem] max2_int min2_int max_two min_two max_three min_three max_four min_four
set_option linter.unusedVariables false
set_option linter.unusedSimpArgs false

def chg (f : Nat → Int) (a b tt : Int) : Nat → Int := fun n => if a ≤ n ∧ (n : Int) < a + b then tt else f n
def changeR (l : List S24) (a b tt : Int) : List S24 × Int := if okB l && fitB a b then (if covB l a b then formR (chg (pgF l) a b tt) else ([], 4)) else ([], 2)
theorem ret_int {k : IntKind} {a b : Int} (h : a = b) : Ending.returned (.int k a) = .returned (.int k b) := by rw [h]

set_option maxHeartbeats 2000000 in
theorem chg_calls (W : World) (p5 p6 p7 p10 : Nat) (a b tt : Int) (f : Nat → Int) (h5 : W.heap[p5]? = some (.cells #[.int .i64 a] 3 (0, 0))) (h6 : W.heap[p6]? = some (.cells #[.int .i64 b] 3 (0, 0)))
    (h7 : W.heap[p7]? = some (.cells #[.int .i64 tt] 3 (0, 0))) (h10 : W.heap[p10]? = some (.cells (pgRow f) 42 (0, 0))) (ha : 0 ≤ a ∧ 1 ≤ b ∧ a + b ≤ 1024) (n : Nat) (hn : n < 1024) :
    Calls Try.prog 36 (#[.int .i64 n] ++ #[.pointer (some ⟨p5, 0, none⟩), .pointer (some ⟨p6, 0, none⟩), .pointer (some ⟨p7, 0, none⟩), .pointer (some ⟨p10, 0, none⟩)]) W fun e W' => e = .returned (.int .i64 (chg f a b tt n)) ∧ Drawn0 W W' := by
  have c5 : W.cell? ⟨p5, 0, none⟩ = some (.int .i64 a) := (blk_cell h5 0).trans rfl
  have c6 : W.cell? ⟨p6, 0, none⟩ = some (.int .i64 b) := (blk_cell h6 0).trans rfl
  have c7 : W.cell? ⟨p7, 0, none⟩ = some (.int .i64 tt) := (blk_cell h7 0).trans rfl
  have c10 : W.cell? ⟨p10, n, none⟩ = some (.int .i64 (f n)) := by rw [blk_cell h10]; exact pgRow_get _ _ hn
  clear h5 h6 h7 h10
  obtain ⟨a0, a1, a2⟩ := ha
  simp only [List.append_toArray, List.cons_append, List.nil_append]
  by_cases hin : a ≤ n ∧ (n : Int) < a + b
  · have hz : Aside0 (chg f a b tt n = tt) := ⟨by unfold chg; rw [if_pos hin]⟩
    obtain ⟨i1, i2⟩ := hin
    go_enter Try.func36, Try.ntmps36
    go_wp2
    go_ret
    exact ⟨ret_int hz.out.symm, Drawn0.refl _⟩
  · have hz : Aside0 (chg f a b tt n = f n) := ⟨by unfold chg; rw [if_neg hin]⟩
    by_cases i1 : a ≤ n
    · have i2 : ¬ (n : Int) < a + b := fun h => hin ⟨i1, h⟩
      clear hin
      go_enter Try.func36, Try.ntmps36
      go_wp2
      go_ret
      exact ⟨ret_int hz.out.symm, Drawn0.refl _⟩
    · clear hin
      go_enter Try.func36, Try.ntmps36
      go_wp2
      go_ret
      exact ⟨ret_int hz.out.symm, Drawn0.refl _⟩
theorem enters36 : ∀ args W, (callFunc 36 args).run Try.prog W = .ok (.enter 36 args) W := enters_any Try.func36 (by kernel_rfl) rfl
theorem enters30 : ∀ args W, (callFunc 30 args).run Try.prog W = .ok (.enter 30 args) W := enters_any Try.func30 (by kernel_rfl) rfl

set_option maxHeartbeats 4000000 in
set_option maxRecDepth 100000 in
theorem change_calls (A0 : Option Addr) (c0 : Nat) (l0 : List (S24)) (a1 a2 tt : Int) (r1 : List S24) (r2 : Int) (w : World) (hr0 : Kd.C k24 w A0 l0.length l0) (hc0 : l0.length ≤ c0) (h : changeR l0 a1 a2 tt = (r1, r2)) :
    Calls Try.prog 34 #[.slice A0 l0.length c0, .int .i64 a1, .int .i64 a2, .int .i64 tt] w fun e w' => ∃ v0_ : Value, e = .returned (.tuple #[v0_, .int .i64 r2]) ∧ Kd.R k24 24 w' w.heap.size (fun _ => True) v0_ r1 ∧ Below w.heap.size w w' := by
  have HR0 := Aside0.mk hr0
  have HC0 := Aside0.mk hc0
  have hck := check_tot l0 9 (Nat.le_refl _)
  have HF := fits_eq a1 a2
  clear hr0 hc0
  unfold changeR at h
  cases hb : okB l0 with
  | false =>
    rw [hb] at h
    injection h with h1 h2
    subst h1 h2
    have hck := Aside0.mk (hck.trans (show some (chk l0) = some 2 by unfold chk; rw [hb]; rfl))
    clear hb
    go_enter Try.func34, Try.ntmps34
    go_wp2_with (first | ((with_reducible refine gate_dst (N := 5) rfl ?_); refine box_event ?hg (N := 5) ?hd (cs := #[.int .i64 a1]) (t := 3) ?hr ?_; (case hd => rfl); (case hg => rfl); (case hr => first | (go_simp; done) | (go_simp; rfl)); intro p5 hg w5 hbox hb; have K5 := Aside0.mk hbox; have E5 := Aside0.mk (show w.heap.size ≤ p5 by omega); have HB := Aside0.mk hb; clear hb hbox hg) | ((with_reducible refine gate_dst (N := 6) rfl ?_); refine box_event ?hg (N := 6) ?hd (cs := #[.int .i64 a2]) (t := 3) ?hr ?_; (case hd => rfl); (case hg => rfl); (case hr => first | (go_simp; done) | (go_simp; rfl)); intro p6 hg w6 hbox hb; have K6 := Aside0.mk hbox; have n_K5 := Aside0.mk (blk_below K5.out hb); clear K5; have K5 := n_K5; clear n_K5; have HB' := Aside0.mk (below_step HB.out hb); clear HB; have HB := HB'; clear HB' hb hbox hg) | ((with_reducible refine gate_dst (N := 7) rfl ?_); refine box_event ?hg (N := 7) ?hd (cs := #[.int .i64 tt]) (t := 3) ?hr ?_; (case hd => rfl); (case hg => rfl); (case hr => first | (go_simp; done) | (go_simp; rfl)); intro p7 hg w7 hbox hb; have K7 := Aside0.mk hbox; have n_K5 := Aside0.mk (blk_below K5.out hb); clear K5; have K5 := n_K5; clear n_K5; have n_K6 := Aside0.mk (blk_below K6.out hb); clear K6; have K6 := n_K6; clear n_K6; have HB' := Aside0.mk (below_step HB.out hb); clear HB; have HB := HB'; clear HB' hb hbox hg) | (go_at_call 20; (with_reducible refine (region_Check.calls 9 _ _ l0 _ _ (Kd.C_below HR0.out HB.out) HC0.out hck.out).mono ?_); rintro e w8 ⟨rfl, hd⟩; have n_K5 := Aside0.mk (blk_below K5.out hd); clear K5; have K5 := n_K5; clear n_K5; have n_K6 := Aside0.mk (blk_below K6.out hd); clear K6; have K6 := n_K6; clear n_K6; have n_K7 := Aside0.mk (blk_below K7.out hd); clear K7; have K7 := n_K7; clear n_K7; have HB' := Aside0.mk (below_step HB.out hd); clear HB; have HB := HB'; clear HB'; have c5 := (blk_cell K5.out 0).trans (show (#[Value.int .i64 a1])[0]? = some (.int .i64 a1) from rfl); have c6 := (blk_cell K6.out 0).trans (show (#[Value.int .i64 a2])[0]? = some (.int .i64 a2) from rfl); clear hd))
    go_ret2
    exact ⟨_, rfl, Kd.R_nil _ _ _ _ _, HB.out⟩
  | true =>
    have hck := Aside0.mk (hck.trans (show some (chk l0) = some 0 by unfold chk; rw [hb]; rfl))
    have hfit := Aside0.mk (okB_fit hb)
    cases hf : fitB a1 a2 with
    | false =>
      rw [hb, hf] at h
      injection h with h1 h2
      subst h1 h2
      have HF := Aside0.mk (HF.trans (congrArg some hf))
      clear hb hf
      go_enter Try.func34, Try.ntmps34
      go_wp2_with (first | ((with_reducible refine gate_dst (N := 5) rfl ?_); refine box_event ?hg (N := 5) ?hd (cs := #[.int .i64 a1]) (t := 3) ?hr ?_; (case hd => rfl); (case hg => rfl); (case hr => first | (go_simp; done) | (go_simp; rfl)); intro p5 hg w5 hbox hb; have K5 := Aside0.mk hbox; have E5 := Aside0.mk (show w.heap.size ≤ p5 by omega); have HB := Aside0.mk hb; clear hb hbox hg) | ((with_reducible refine gate_dst (N := 6) rfl ?_); refine box_event ?hg (N := 6) ?hd (cs := #[.int .i64 a2]) (t := 3) ?hr ?_; (case hd => rfl); (case hg => rfl); (case hr => first | (go_simp; done) | (go_simp; rfl)); intro p6 hg w6 hbox hb; have K6 := Aside0.mk hbox; have n_K5 := Aside0.mk (blk_below K5.out hb); clear K5; have K5 := n_K5; clear n_K5; have HB' := Aside0.mk (below_step HB.out hb); clear HB; have HB := HB'; clear HB' hb hbox hg) | ((with_reducible refine gate_dst (N := 7) rfl ?_); refine box_event ?hg (N := 7) ?hd (cs := #[.int .i64 tt]) (t := 3) ?hr ?_; (case hd => rfl); (case hg => rfl); (case hr => first | (go_simp; done) | (go_simp; rfl)); intro p7 hg w7 hbox hb; have K7 := Aside0.mk hbox; have n_K5 := Aside0.mk (blk_below K5.out hb); clear K5; have K5 := n_K5; clear n_K5; have n_K6 := Aside0.mk (blk_below K6.out hb); clear K6; have K6 := n_K6; clear n_K6; have HB' := Aside0.mk (below_step HB.out hb); clear HB; have HB := HB'; clear HB' hb hbox hg) | (go_at_call 20; (with_reducible refine (region_Check.calls 9 _ _ l0 _ _ (Kd.C_below HR0.out HB.out) HC0.out hck.out).mono ?_); rintro e w8 ⟨rfl, hd⟩; have n_K5 := Aside0.mk (blk_below K5.out hd); clear K5; have K5 := n_K5; clear n_K5; have n_K6 := Aside0.mk (blk_below K6.out hd); clear K6; have K6 := n_K6; clear n_K6; have n_K7 := Aside0.mk (blk_below K7.out hd); clear K7; have K7 := n_K7; clear n_K7; have HB' := Aside0.mk (below_step HB.out hd); clear HB; have HB := HB'; clear HB'; have c5 := (blk_cell K5.out 0).trans (show (#[Value.int .i64 a1])[0]? = some (.int .i64 a1) from rfl); have c6 := (blk_cell K6.out 0).trans (show (#[Value.int .i64 a2])[0]? = some (.int .i64 a2) from rfl); clear hd) | (go_at_call 27; (with_reducible refine (region_fits.calls _ _ _ _ HF.out).mono ?_); rintro e w9 ⟨rfl, hd⟩; have n_K5 := Aside0.mk (blk_below K5.out (Drawn0.below hd)); clear K5; have K5 := n_K5; clear n_K5; have n_K6 := Aside0.mk (blk_below K6.out (Drawn0.below hd)); clear K6; have K6 := n_K6; clear n_K6; have n_K7 := Aside0.mk (blk_below K7.out (Drawn0.below hd)); clear K7; have K7 := n_K7; clear n_K7; have HB' := Aside0.mk (below_step HB.out (Drawn0.below hd)); clear HB; have HB := HB'; clear HB'; have d5 := (blk_cell K5.out 0).trans (show (#[Value.int .i64 a1])[0]? = some (.int .i64 a1) from rfl); have d6 := (blk_cell K6.out 0).trans (show (#[Value.int .i64 a2])[0]? = some (.int .i64 a2) from rfl); clear hd))
      go_ret2
      exact ⟨_, rfl, Kd.R_nil _ _ _ _ _, HB.out⟩
    | true =>
      have HF := Aside0.mk (HF.trans (congrArg some hf))
      have hfi := Aside0.mk (fitB_iff.1 hf)
      cases hc : covB l0 a1 a2 with
      | false =>
        rw [hb, hf, hc] at h
        injection h with h1 h2
        subst h1 h2
        have HV := Aside0.mk (show region_Covers.f 9 l0 a1 a2 = some false by unfold region_Covers.f covR; rw [hb, hf, hc]; rfl)
        clear hb hf hc
        go_enter Try.func34, Try.ntmps34
        go_wp2_with (first | ((with_reducible refine gate_dst (N := 5) rfl ?_); refine box_event ?hg (N := 5) ?hd (cs := #[.int .i64 a1]) (t := 3) ?hr ?_; (case hd => rfl); (case hg => rfl); (case hr => first | (go_simp; done) | (go_simp; rfl)); intro p5 hg w5 hbox hb; have K5 := Aside0.mk hbox; have E5 := Aside0.mk (show w.heap.size ≤ p5 by omega); have HB := Aside0.mk hb; clear hb hbox hg) | ((with_reducible refine gate_dst (N := 6) rfl ?_); refine box_event ?hg (N := 6) ?hd (cs := #[.int .i64 a2]) (t := 3) ?hr ?_; (case hd => rfl); (case hg => rfl); (case hr => first | (go_simp; done) | (go_simp; rfl)); intro p6 hg w6 hbox hb; have K6 := Aside0.mk hbox; have n_K5 := Aside0.mk (blk_below K5.out hb); clear K5; have K5 := n_K5; clear n_K5; have HB' := Aside0.mk (below_step HB.out hb); clear HB; have HB := HB'; clear HB' hb hbox hg) | ((with_reducible refine gate_dst (N := 7) rfl ?_); refine box_event ?hg (N := 7) ?hd (cs := #[.int .i64 tt]) (t := 3) ?hr ?_; (case hd => rfl); (case hg => rfl); (case hr => first | (go_simp; done) | (go_simp; rfl)); intro p7 hg w7 hbox hb; have K7 := Aside0.mk hbox; have n_K5 := Aside0.mk (blk_below K5.out hb); clear K5; have K5 := n_K5; clear n_K5; have n_K6 := Aside0.mk (blk_below K6.out hb); clear K6; have K6 := n_K6; clear n_K6; have HB' := Aside0.mk (below_step HB.out hb); clear HB; have HB := HB'; clear HB' hb hbox hg) | (go_at_call 20; (with_reducible refine (region_Check.calls 9 _ _ l0 _ _ (Kd.C_below HR0.out HB.out) HC0.out hck.out).mono ?_); rintro e w8 ⟨rfl, hd⟩; have n_K5 := Aside0.mk (blk_below K5.out hd); clear K5; have K5 := n_K5; clear n_K5; have n_K6 := Aside0.mk (blk_below K6.out hd); clear K6; have K6 := n_K6; clear n_K6; have n_K7 := Aside0.mk (blk_below K7.out hd); clear K7; have K7 := n_K7; clear n_K7; have HB' := Aside0.mk (below_step HB.out hd); clear HB; have HB := HB'; clear HB'; have c5 := (blk_cell K5.out 0).trans (show (#[Value.int .i64 a1])[0]? = some (.int .i64 a1) from rfl); have c6 := (blk_cell K6.out 0).trans (show (#[Value.int .i64 a2])[0]? = some (.int .i64 a2) from rfl); clear hd) | (go_at_call 27; (with_reducible refine (region_fits.calls _ _ _ _ HF.out).mono ?_); rintro e w9 ⟨rfl, hd⟩; have n_K5 := Aside0.mk (blk_below K5.out (Drawn0.below hd)); clear K5; have K5 := n_K5; clear n_K5; have n_K6 := Aside0.mk (blk_below K6.out (Drawn0.below hd)); clear K6; have K6 := n_K6; clear n_K6; have n_K7 := Aside0.mk (blk_below K7.out (Drawn0.below hd)); clear K7; have K7 := n_K7; clear n_K7; have HB' := Aside0.mk (below_step HB.out (Drawn0.below hd)); clear HB; have HB := HB'; clear HB'; have d5 := (blk_cell K5.out 0).trans (show (#[Value.int .i64 a1])[0]? = some (.int .i64 a1) from rfl); have d6 := (blk_cell K6.out 0).trans (show (#[Value.int .i64 a2])[0]? = some (.int .i64 a2) from rfl); clear hd) | (go_at_call 22; (with_reducible refine (region_Covers.calls 9 _ _ l0 _ _ _ _ (Kd.C_below HR0.out HB.out) HC0.out HV.out).mono ?_); rintro e w10 ⟨rfl, hd⟩; have n_K5 := Aside0.mk (blk_below K5.out hd); clear K5; have K5 := n_K5; clear n_K5; have n_K6 := Aside0.mk (blk_below K6.out hd); clear K6; have K6 := n_K6; clear n_K6; have n_K7 := Aside0.mk (blk_below K7.out hd); clear K7; have K7 := n_K7; clear n_K7; have HB' := Aside0.mk (below_step HB.out hd); clear HB; have HB := HB'; clear HB'; clear hd))
        go_ret2
        exact ⟨_, rfl, Kd.R_nil _ _ _ _ _, HB.out⟩
      | true =>
        rw [hb, hf, hc] at h
        have HV := Aside0.mk (show region_Covers.f 9 l0 a1 a2 = some true by unfold region_Covers.f covR; rw [hb, hf, hc]; rfl)
        have HQ : Aside0 (formR (chg (pgF l0) a1 a2 tt) = (r1, r2)) := ⟨h⟩
        clear hb hf hc h
        go_enter Try.func34, Try.ntmps34
        go_wp2_with (first | ((with_reducible refine gate_dst (N := 5) rfl ?_); refine box_event ?hg (N := 5) ?hd (cs := #[.int .i64 a1]) (t := 3) ?hr ?_; (case hd => rfl); (case hg => rfl); (case hr => first | (go_simp; done) | (go_simp; rfl)); intro p5 hg w5 hbox hb; have K5 := Aside0.mk hbox; have E5 := Aside0.mk (show w.heap.size ≤ p5 by omega); have HB := Aside0.mk hb; clear hb hbox hg) | ((with_reducible refine gate_dst (N := 6) rfl ?_); refine box_event ?hg (N := 6) ?hd (cs := #[.int .i64 a2]) (t := 3) ?hr ?_; (case hd => rfl); (case hg => rfl); (case hr => first | (go_simp; done) | (go_simp; rfl)); intro p6 hg w6 hbox hb; have K6 := Aside0.mk hbox; have n_K5 := Aside0.mk (blk_below K5.out hb); clear K5; have K5 := n_K5; clear n_K5; have HB' := Aside0.mk (below_step HB.out hb); clear HB; have HB := HB'; clear HB' hb hbox hg) | ((with_reducible refine gate_dst (N := 7) rfl ?_); refine box_event ?hg (N := 7) ?hd (cs := #[.int .i64 tt]) (t := 3) ?hr ?_; (case hd => rfl); (case hg => rfl); (case hr => first | (go_simp; done) | (go_simp; rfl)); intro p7 hg w7 hbox hb; have K7 := Aside0.mk hbox; have n_K5 := Aside0.mk (blk_below K5.out hb); clear K5; have K5 := n_K5; clear n_K5; have n_K6 := Aside0.mk (blk_below K6.out hb); clear K6; have K6 := n_K6; clear n_K6; have HB' := Aside0.mk (below_step HB.out hb); clear HB; have HB := HB'; clear HB' hb hbox hg) | (go_at_call 20; (with_reducible refine (region_Check.calls 9 _ _ l0 _ _ (Kd.C_below HR0.out HB.out) HC0.out hck.out).mono ?_); rintro e w8 ⟨rfl, hd⟩; have n_K5 := Aside0.mk (blk_below K5.out hd); clear K5; have K5 := n_K5; clear n_K5; have n_K6 := Aside0.mk (blk_below K6.out hd); clear K6; have K6 := n_K6; clear n_K6; have n_K7 := Aside0.mk (blk_below K7.out hd); clear K7; have K7 := n_K7; clear n_K7; have HB' := Aside0.mk (below_step HB.out hd); clear HB; have HB := HB'; clear HB'; have c5 := (blk_cell K5.out 0).trans (show (#[Value.int .i64 a1])[0]? = some (.int .i64 a1) from rfl); have c6 := (blk_cell K6.out 0).trans (show (#[Value.int .i64 a2])[0]? = some (.int .i64 a2) from rfl); clear hd) | (go_at_call 27; (with_reducible refine (region_fits.calls _ _ _ _ HF.out).mono ?_); rintro e w9 ⟨rfl, hd⟩; have n_K5 := Aside0.mk (blk_below K5.out (Drawn0.below hd)); clear K5; have K5 := n_K5; clear n_K5; have n_K6 := Aside0.mk (blk_below K6.out (Drawn0.below hd)); clear K6; have K6 := n_K6; clear n_K6; have n_K7 := Aside0.mk (blk_below K7.out (Drawn0.below hd)); clear K7; have K7 := n_K7; clear n_K7; have HB' := Aside0.mk (below_step HB.out (Drawn0.below hd)); clear HB; have HB := HB'; clear HB'; have d5 := (blk_cell K5.out 0).trans (show (#[Value.int .i64 a1])[0]? = some (.int .i64 a1) from rfl); have d6 := (blk_cell K6.out 0).trans (show (#[Value.int .i64 a2])[0]? = some (.int .i64 a2) from rfl); clear hd) | (go_at_call 22; (with_reducible refine (region_Covers.calls 9 _ _ l0 _ _ _ _ (Kd.C_below HR0.out HB.out) HC0.out HV.out).mono ?_); rintro e w10 ⟨rfl, hd⟩; have n_K5 := Aside0.mk (blk_below K5.out hd); clear K5; have K5 := n_K5; clear n_K5; have n_K6 := Aside0.mk (blk_below K6.out hd); clear K6; have K6 := n_K6; clear n_K6; have n_K7 := Aside0.mk (blk_below K7.out hd); clear K7; have K7 := n_K7; clear n_K7; have HB' := Aside0.mk (below_step HB.out hd); clear HB; have HB := HB'; clear HB'; clear hd) | (go_at_call 28; (with_reducible refine (pages_calls _ _ l0 _ (Kd.C_below HR0.out HB.out) HC0.out hfit.out).mono ?_); rintro e w11 ⟨rfl, hd⟩; have n_K5 := Aside0.mk (blk_below K5.out hd); clear K5; have K5 := n_K5; clear n_K5; have n_K6 := Aside0.mk (blk_below K6.out hd); clear K6; have K6 := n_K6; clear n_K6; have n_K7 := Aside0.mk (blk_below K7.out hd); clear K7; have K7 := n_K7; clear n_K7; have HB' := Aside0.mk (below_step HB.out hd); clear HB; have HB := HB'; clear HB'; clear hd) | ((with_reducible refine gate_alloc (ty := 42) rfl ?_); refine ev_alloc42 rfl rfl ?_; intro g W4 hg hb1 hB1; have HG := Aside0.mk hb1; have N5 := Aside0.mk (show p5 ≠ g from fun e => by have := blk_lt K5.out; omega); have N6 := Aside0.mk (show p6 ≠ g from fun e => by have := blk_lt K6.out; omega); have N7 := Aside0.mk (show p7 ≠ g from fun e => by have := blk_lt K7.out; omega); have NG := Aside0.mk (show w.heap.size ≤ g by rw [hg]; exact below_size HB.out); have n_K5 := Aside0.mk (blk_below K5.out hB1); clear K5; have K5 := n_K5; clear n_K5; have n_K6 := Aside0.mk (blk_below K6.out hB1); clear K6; have K6 := n_K6; clear n_K6; have n_K7 := Aside0.mk (blk_below K7.out hB1); clear K7; have K7 := n_K7; clear n_K7; have HB' := Aside0.mk (below_step HB.out hB1); clear HB; have HB := HB'; clear HB'; clear hB1 hb1 hg) | ((with_reducible refine gate_st (ty := 42) (x := .tmp 10) rfl ?_); refine ev_store42 rfl (.tmp 10) _ rfl (f := pgF l0) rfl rfl HG.out ?_; intro W7 hW7 tW7; have HG7 := Aside0.mk hW7; have n_K5 := Aside0.mk (tW7.blk K5.out N5.out); clear K5; have K5 := n_K5; clear n_K5; have n_K6 := Aside0.mk (tW7.blk K6.out N6.out); clear K6; have K6 := n_K6; clear n_K6; have n_K7 := Aside0.mk (tW7.blk K7.out N7.out); clear K7; have K7 := n_K7; clear n_K7; have HB' := Aside0.mk (Turned.below HB.out tW7 NG.out); clear HB; have HB := HB'; clear HB' hW7 tW7) | (go_at_call 29; refine (form_calls 36 _ (chg (pgF l0) a1 a2 tt) _ enters36 ?hw r1 r2 HQ.out).mono ?_; (case hw => intro W n hn hb; exact chg_calls W p5 p6 p7 g a1 a2 tt (pgF l0) (blk_below K5.out hb) (blk_below K6.out hb) (blk_below K7.out hb) (blk_below HG7.out hb) ⟨hfi.out.1, hfi.out.2.2.1, by have := hfi.out; omega⟩ n hn); rintro e w12 ⟨v0, rfl, hR, hd⟩; have HR := Aside0.mk (Kd.R_lower hR (below_size HB.out)); have HB' := Aside0.mk (below_step HB.out hd); clear HB hR hd; have HB := HB'; clear HB'))
        go_ret2
        exact ⟨_, rfl, HR.out, HB.out⟩
end Go.Proofs.Ytcblfhoipdbdlaa.PAll

namespace Go.Proofs.YtcblfhoipdbdlaaO
open Go.RowKit Go.Proofs.YtcblfhoipdbdlaaW.PrintWords
/-! A region of open order whose first operations each make a value that later steps do not turn, and whose last ones are forced. -/
def up1 (b : Nat → Bool) (i : Nat) : Nat → Bool := fun j => if j = i then true else b j
def upv (f : Nat → Value) (i : Nat) (v : Value) : Nat → Value := fun j => if j = i then v else f j
/-- Written so that the walk doesn't part on it. -/
def sel (c : Bool) (x y : Value) : Value := if c = true then x else y
theorem sel_true (x y : Value) : sel true x y = x := rfl
theorem sel_false (x y : Value) : sel false x y = y := rfl
/-- The frame in which the operations of b are done: their values are told by f. -/
def frm (b : Nat → Bool) (f : Nat → Value) : List (Nat × Tmp) → Act → Act
  | [], a => a
  | (j, d) :: r, a => frm b f r (a.put (some d) (sel (b j) (f j) (a.tmps.getD d undef)))
theorem put_put (a : Act) (d : Tmp) (u v : Value) : (a.put (some d) u).put (some d) v = a.put (some d) v := by
  simp [Act.put]
theorem put_comm1 (a : Act) {s t : Tmp} (h : s ≠ t) (u v : Value) : (a.put (some s) u).put (some t) v = (a.put (some t) v).put (some s) u := by
  simp only [Act.put]; rw [Array.setIfInBounds_comm _ _ h]
theorem getD_put_ne (a : Act) {s t : Tmp} (h : s ≠ t) (u : Value) : (a.put (some s) u).tmps.getD t undef = a.tmps.getD t undef := by
  simp [Act.put, Array.getD_eq_getD_getElem?, Array.getElem?_setIfInBounds_ne h]
theorem frm_put {b : Nat → Bool} {f : Nat → Value} {t : Tmp} (v : Value) : ∀ (L : List (Nat × Tmp)) (a : Act), (∀ x ∈ L, x.2 ≠ t) → (frm b f L a).put (some t) v = frm b f L (a.put (some t) v)
  | [], _, _ => rfl
  | (j, d) :: r, a, h => by
    have hd : d ≠ t := h _ List.mem_cons_self
    unfold frm
    rw [frm_put v r _ (fun x hx => h x (List.mem_cons_of_mem _ hx)), put_comm1 _ hd, getD_put_ne _ (Ne.symm hd)]
theorem frm_same {b : Nat → Bool} {f : Nat → Value} {i : Nat} {v : Value} : ∀ (L : List (Nat × Tmp)) (a : Act), (∀ x ∈ L, x.1 ≠ i) → frm (up1 b i) (upv f i v) L a = frm b f L a
  | [], _, _ => rfl
  | (j, d) :: r, a, h => by
    have hj : j ≠ i := h _ List.mem_cons_self
    unfold frm
    rw [frm_same r _ (fun x hx => h x (List.mem_cons_of_mem _ hx))]
    simp [up1, upv, hj]
theorem frm_up {b : Nat → Bool} {f : Nat → Value} {i : Nat} {t : Tmp} (v : Value) : ∀ (L : List (Nat × Tmp)) (a : Act), (L.map (·.1)).Nodup → (L.map (·.2)).Nodup → (i, t) ∈ L →
    (frm b f L a).put (some t) v = frm (up1 b i) (upv f i v) L a
  | [], _, _, _, h => by cases h
  | (j, d) :: r, a, h1, h2, h => by
    simp only [List.map_cons, List.nodup_cons, List.mem_map, not_exists, not_and] at h1 h2
    unfold frm
    rcases List.mem_cons.1 h with he | hr
    · injection he with e1 e2
      subst e1 e2
      rw [frm_put v r _ (fun x hx e => h2.1 x hx e), put_put, frm_same r _ (fun x hx e => h1.1 x hx e)]
      simp [up1, upv, sel_true]
    · have hj : j ≠ i := fun e => h1.1 (i, t) hr (by simp [e])
      have ht : t ≠ d := fun e => h2.1 (i, t) hr (by simp [e])
      rw [frm_up v r _ h1.2 h2.2 hr]
      simp [up1, upv, hj]
theorem frm_none {f : Nat → Value} : ∀ (L : List (Nat × Tmp)) (a : Act), (∀ x ∈ L, x.2 < a.tmps.size) → frm (fun _ => false) f L a = a
  | [], _, _ => rfl
  | (j, d) :: r, a, h => by
    unfold frm
    have hd : d < a.tmps.size := h _ List.mem_cons_self
    have e : a.put (some d) (a.tmps.getD d undef) = a := by
      cases a with
      | mk tmps defers =>
        simp only [Act.put] at hd ⊢
        congr 1
        apply Array.ext_getElem?
        intro k
        by_cases hk : d = k
        · subst hk; simp [hd]
        · rw [Array.getElem?_setIfInBounds_ne hk]
    rw [sel_false, e]
    exact frm_none r a (fun x hx => h x (List.mem_cons_of_mem _ hx))
theorem up1_of {b : Nat → Bool} {i j : Nat} (h : up1 b i j = true) (hj : j ≠ i) : b j = true := by simpa [up1, hj] using h

section
variable {P : Program} {Q : Exit → Act → World → Prop}
/-- How one of the first operations may end. -/
def OneEnd (Q : Exit → Act → World → Prop) (i : Nat) (I : (Nat → Bool) → (Nat → Value) → World → Prop) (b : Nat → Bool) (f : Nat → Value) (o : Oper) (a : Act) : Exit → Act → World → Prop
  | .normal, a', W' => ∃ v, a' = a.put o.dst v ∧ I (up1 b i) (upv f i v) W'
  | e, a', W' => Q e a' W'
theorem wpOp_of_list {ops : Array Oper} {Q1 : Exit → Act → World → Prop} {o : Oper} {i : Nat} {a : Act} {w : World} (ho : ops[i]? = some o) (h : wpList P ops Q1 [o] a w) (hQ : ∀ e a w, e ≠ .normal → Q1 e a w → Q e a w) (hl : LetsOut Q1 → LetsOut Q) :
    wpOp P ops Q i (fun a' w' => Q1 .normal a' w') a w := by
  unfold wpOp
  rw [ho]
  simp only [wpList] at h
  simp only
  split
  · rename_i hw
    rw [if_pos hw] at h
    rcases h with h | h
    · refine .inl ?_
      unfold Oper.wp at *
      generalize (execOp a.eval o).run P w = r at *
      cases r with
      | ok n w' =>
        cases n <;> simp only [Oper.upon] at h ⊢ <;>
          first
            | exact h
            | exact Calls.mono h (fun e w'' he => by
                cases e with
                | returned v => exact he
                | panicked c => exact hQ _ _ _ (by simp) he
                | outgrown => exact hl he)
      | halt x w' =>
        cases x <;> simp only [Oper.upon] at h ⊢
        exact hQ _ _ _ (by simp) h
    · exact .inr ⟨h.1, hl h.2⟩
  · rename_i hw
    rw [if_neg hw] at h
    exact h
/-- Does operation i wait for j, itself or by way of others? -/
def reachJ (l : List Oper) (j : Nat) : Nat → Nat → Bool
  | 0, _ => false
  | n + 1, i => match l[i]? with
    | some o => o.after.toList.any fun e => Region.binds .any e && (e.on == j || reachJ l j n e.on)
    | none => false
theorem reachJ_done {l : List Oper} {j : Nat} {b : Nat → Bool} (hc : ∀ d o, l[d]? = some o → b d = true → ∀ e ∈ o.after.toList, Region.binds .any e = true → b e.on = true) :
    ∀ (n i : Nat), reachJ l j n i = true → (∀ o, l[i]? = some o → ∀ e ∈ o.after.toList, Region.binds .any e = true → b e.on = true) → b j = true
  | 0, _, h, _ => by cases h
  | n + 1, i, h, hd => by
    unfold reachJ at h
    cases ho : l[i]? with
    | none => rw [ho] at h; cases h
    | some o =>
      rw [ho] at h
      obtain ⟨e, he, h1⟩ := List.any_eq_true.1 h
      simp only [Bool.and_eq_true, Bool.or_eq_true, beq_iff_eq] at h1
      have hb := hd o ho e he h1.1
      rcases h1.2 with h2 | h2
      · rw [← h2]; exact hb
      · exact reachJ_done hc n e.on h2 (fun o' ho' e' he' hbn => hc e.on o' ho' hb e' he' hbn)
def shapeOk (l : List Oper) (k : Nat) (L : List (Nat × Tmp)) : Bool :=
  L.map (·.1) == List.range k && decide ((L.map (·.2)).Nodup) && L.all (fun x => (l[x.1]?.bind (·.dst)) == some x.2) &&
    (List.range l.length).all (fun i => match l[i]? with
      | some o => o.after.toList.all (fun e => decide (e.on < i)) && (decide (i < k) || (List.range i).all (fun j => reachJ l j l.length i))
      | none => true) && decide (k ≤ l.length)
theorem ready_tail {l : List Oper} {k m : Nat} {L : List (Nat × Tmp)} {ls : Array Bool} (hs : shapeOk l k L = true) (hsz : ls.size = l.length) (hkm : k ≤ m) (h : ∀ j, j < l.length → ls.getD j false = decide (j < m)) (hm : m < l.length) :
    ∀ i, i ∈ Region.ready .any l.toArray ls → i = m := by
  intro i hi
  obtain ⟨h1, o, ho, hall⟩ := mem_ready.1 hi
  have hil : i < l.length := by simpa using (Array.getElem?_eq_some_iff.1 ho).1
  have hgi : ls.getD i false = false := by
    simp only [Array.getD_eq_getD_getElem?, Array.getElem?_eq_getElem (show i < ls.size by omega), Option.getD_some] at h1 ⊢
    exact h1
  rw [h i hil] at hgi
  have him : ¬ i < m := by simpa using hgi
  by_cases e : i = m
  · exact e
  · simp only [shapeOk, Bool.and_eq_true, List.all_eq_true] at hs
    have hr := hs.1.2 i (List.mem_range.2 hil)
    have ho' : l[i]? = some o := by simpa using ho
    rw [ho'] at hr
    simp only [Bool.and_eq_true, Bool.or_eq_true, decide_eq_true_eq, List.all_eq_true] at hr
    rcases hr.2 with h2 | h2
    · omega
    · have h3 := h2 m (List.mem_range.2 (by omega))
      have h4 := reachJ_done (b := fun j => ls.getD j false) (fun d o1 ho1 hd e he hb => ?_) _ i h3 (fun o1 ho1 e he hb => ?_)
      · rw [h m hm] at h4
        simp at h4
      · have hdl : d < l.length := (List.getElem?_eq_some_iff.1 ho1).1
        rw [h d hdl] at hd
        have hr1 := hs.1.2 d (List.mem_range.2 hdl)
        rw [ho1] at hr1
        simp only [Bool.and_eq_true, List.all_eq_true, decide_eq_true_eq] at hr1 hd
        have := hr1.1 e he
        rw [h e.on (by omega)]
        exact decide_eq_true (by omega)
      · rw [ho'] at ho1
        cases ho1
        exact hall e (Array.mem_toList_iff.1 he) hb
theorem wp_tail {l : List Oper} {k : Nat} {L : List (Nat × Tmp)} (hs : shapeOk l k L = true) : ∀ (n m : Nat) (ls : Array Bool) (a : Act) (w : World), m + n = l.length → k ≤ m → ls.size = l.length → (∀ j, j < l.length → ls.getD j false = decide (j < m)) →
    wpList P l.toArray Q (l.drop m) a w → wpAny P .any l.toArray Q n ls a w := by
  intro n
  induction n with
  | zero =>
    intro m ls a w hmn hkm hsz hls h
    rw [List.drop_eq_nil_of_le (by omega)] at h
    refine ⟨List.eq_nil_iff_forall_not_mem.2 (fun i hi => ?_), h⟩
    obtain ⟨h1, o, ho, _⟩ := mem_ready.1 hi
    have hil : i < l.length := by simpa using (Array.getElem?_eq_some_iff.1 ho).1
    have : ls.getD i false = false := by
      simp only [Array.getD_eq_getD_getElem?, Array.getElem?_eq_getElem (show i < ls.size by omega), Option.getD_some] at h1 ⊢
      exact h1
    rw [hls i hil] at this
    simp at this; omega
  | succ n ih =>
    intro m ls a w hmn hkm hsz hls h
    have hm : m < l.length := by omega
    have ho : l[m]? = some l[m] := List.getElem?_eq_getElem hm
    rw [List.drop_eq_getElem_cons hm] at h
    constructor
    · intro hr
      exfalso
      have : m ∈ Region.ready .any l.toArray ls := by
        refine mem_ready.2 ⟨?_, l[m], by simp, fun e he _ => ?_⟩
        · have := hls m hm
          simp only [Array.getD_eq_getD_getElem?, Array.getElem?_eq_getElem (show m < ls.size by omega), Option.getD_some] at this ⊢
          rw [this]; simp
        · have hs' := hs
          simp only [shapeOk, Bool.and_eq_true, List.all_eq_true] at hs'
          have hr := hs'.1.2 m (List.mem_range.2 hm)
          rw [ho] at hr
          simp only [Bool.and_eq_true, List.all_eq_true, decide_eq_true_eq] at hr
          have hlt := hr.1 e (Array.mem_toList_iff.2 he)
          rw [hls e.on (by omega)]
          exact decide_eq_true hlt
      rw [hr] at this
      cases this
    · intro i hi
      obtain rfl := ready_tail hs hsz hkm hls hm i hi
      unfold wpOp
      have ho2 : l.toArray[i]? = some l[i] := by simp
      rw [ho2]
      have next : ∀ a' w', wpList P l.toArray Q (l.drop (i + 1)) a' w' → wpAny P .any l.toArray Q n (ls.setIfInBounds i true) a' w' := fun a' w' h' =>
        ih (i + 1) _ a' w' (by omega) (by omega) (by simpa using hsz) (fun j hj => by
          by_cases e : i = j
          · subst e
            simp [Array.getD_eq_getD_getElem?, show i < ls.size by omega]
          · have := hls j hj
            simp only [Array.getD_eq_getD_getElem?, Array.getElem?_setIfInBounds_ne e] at this ⊢
            rw [this]
            simp only [decide_eq_decide]; omega) h'
      simp only [wpList] at h
      simp only
      split
      · rename_i hw
        rw [if_pos hw] at h
        exact h.imp (Oper.wp_mono next) id
      · rename_i hw
        rw [if_neg hw] at h
        exact next _ _ h

theorem wp_draw {id : Nat} {l : List Oper} {a : Act} {w : World} (hm : P.follows .mixedOrders = true) (k : Nat) (L : List (Nat × Tmp)) (I : (Nat → Bool) → (Nat → Value) → World → Prop) (hs : shapeOk l k L = true) (hsz : (L.all fun x => decide (x.2 < a.tmps.size)) = true)
    (hI0 : I (fun _ => false) (fun _ => undef) w.drew)
    (hstep : ∀ i o, i < k → l[i]? = some o → ∀ b f W, b i = false → (∀ e ∈ o.after.toList, Region.binds .any e = true → b e.on = true) → I b f W →
      wpList P l.toArray (OneEnd Q i I b f o (frm b f L a)) [o] (frm b f L a) W)
    (htail : ∀ b f W, (∀ j, j < k → b j = true) → I b f W → wpList P l.toArray Q (l.drop k) (frm (fun _ => true) f L a) W) : (Code.region id l.toArray true).wp P Q a w := by
  have hs' := hs
  simp only [shapeOk, Bool.and_eq_true, List.all_eq_true, beq_iff_eq, decide_eq_true_eq] at hs'
  obtain ⟨⟨⟨⟨hL1, hL2⟩, hL3⟩, hL4⟩, hk⟩ := hs'
  have hmem : ∀ i, i < k → ∃ t, (i, t) ∈ L := fun i hi => by
    have : i ∈ L.map (·.1) := by rw [hL1]; exact List.mem_range.2 hi
    obtain ⟨x, hx, rfl⟩ := List.mem_map.1 this
    exact ⟨x.2, hx⟩
  have hlt : ∀ x ∈ L, x.1 < k := fun x hx => List.mem_range.1 (by rw [← hL1]; exact List.mem_map_of_mem hx)
  refine wp_region_any hm ?_
  have key : ∀ (n : Nat) (ls : Array Bool) (f : Nat → Value) (b : Nat → Bool) (W : World), (l.length - n) + n = l.length → n ≤ l.length → ls.size = l.length → ls.toList.count false = n → (∀ j, j < l.length → ls.getD j false = b j) → (∀ d o, l[d]? = some o → b d = true → ∀ e ∈ o.after.toList, Region.binds .any e = true → b e.on = true) → (∀ j, k ≤ j → j < l.length → b j = false) →
      I b f W → wpAny P .any l.toArray Q n ls (frm b f L a) W := by
    intro n
    induction n with
    | zero =>
      intro ls f b W _ _ hls hc hb _ htl hI
      have hall : ∀ j, j < l.length → b j = true := fun j hj => by
        rw [← hb j hj]
        have hj' : j < ls.size := by omega
        cases hv : ls.getD j false with
        | true => rfl
        | false =>
          simp only [Array.getD_eq_getD_getElem?, Array.getElem?_eq_getElem hj', Option.getD_some] at hv
          have : false ∈ ls.toList := by rw [← hv]; simp
          have := List.count_pos_iff.2 this
          omega
      have hkl : k = l.length := by
        rcases Nat.lt_or_ge k l.length with h | h
        · have := htl k (Nat.le_refl _) h
          rw [hall k h] at this; cases this
        · omega
      refine ⟨List.eq_nil_iff_forall_not_mem.2 (fun i hi => ?_), ?_⟩
      · obtain ⟨h1, o, ho, _⟩ := mem_ready.1 hi
        have hil : i < l.length := by simpa using (Array.getElem?_eq_some_iff.1 ho).1
        have h2 := (hb i hil).trans (hall i hil)
        simp only [Array.getD_eq_getD_getElem?, Array.getElem?_eq_getElem (show i < ls.size by omega), Option.getD_some] at h1 h2
        rw [h1] at h2; cases h2
      · have ht := htail b f W (fun j hj => hall j (by omega)) hI
        rw [List.drop_eq_nil_of_le (by omega)] at ht
        have e : frm b f L a = frm (fun _ => true) f L a := by
          have : ∀ (M : List (Nat × Tmp)) (a : Act), (∀ x ∈ M, x.1 < k) → frm b f M a = frm (fun _ => true) f M a := by
            intro M
            induction M with
            | nil => intro a _; rfl
            | cons x M ih =>
              intro a hM
              obtain ⟨j, d⟩ := x
              unfold frm
              rw [ih _ (fun x hx => hM x (List.mem_cons_of_mem _ hx)), hall j (by have := hM (j, d) List.mem_cons_self; simp only at this; omega)]
          exact this L a hlt
        rw [e]
        exact ht
    | succ n ih =>
      intro ls f b W hn1 hn2 hls hc hb hcl htl hI
      by_cases hdone : ∀ j, j < k → b j = true
      · -- the tail
        have e : frm b f L a = frm (fun _ => true) f L a := by
          have : ∀ (M : List (Nat × Tmp)) (a : Act), (∀ x ∈ M, x.1 < k) → frm b f M a = frm (fun _ => true) f M a := by
            intro M
            induction M with
            | nil => intro a _; rfl
            | cons x M ih =>
              intro a hM
              obtain ⟨j, d⟩ := x
              unfold frm
              rw [ih _ (fun x hx => hM x (List.mem_cons_of_mem _ hx)), hdone j (hM (j, d) List.mem_cons_self)]
          exact this L a hlt
        have hlsk : ∀ j, j < l.length → ls.getD j false = decide (j < k) := fun j hj => by
          rw [hb j hj]
          by_cases h : j < k
          · rw [hdone j h, decide_eq_true h]
          · rw [htl j (by omega) hj, decide_eq_false h]
        have hcount : n + 1 = l.length - k := by
          have h1 : ls.toList = (List.range l.length).map fun j => decide (j < k) := by
            apply List.ext_getElem
            · simp [hls]
            · intro j h1 h2
              have hj : j < ls.size := by simpa using h1
              have := hlsk j (by omega)
              simp only [Array.getD_eq_getD_getElem?, Array.getElem?_eq_getElem hj, Option.getD_some] at this
              simpa using this
          rw [h1] at hc
          rw [← hc, List.count_eq_countP, List.countP_map]
          have h2 : l.length = k + (l.length - k) := by omega
          rw [h2, List.range_add, List.countP_append, List.countP_map]
          have h3 : List.countP ((fun x => x == false) ∘ fun j => decide (j < k)) (List.range k) = 0 := by
            rw [List.countP_eq_zero]
            intro j hj
            have := List.mem_range.1 hj
            simp [this]
          have h4 : List.countP (((fun x => x == false) ∘ fun j => decide (j < k)) ∘ fun x => k + x) (List.range (l.length - k)) = (List.range (l.length - k)).length := by
            rw [List.countP_eq_length]
            intro j _
            simp
          rw [h3, h4]
          simp
        rw [e, hcount]
        exact wp_tail hs (l.length - k) k ls _ W (by omega) (Nat.le_refl _) hls hlsk (htail b f W hdone hI)
      · constructor
        · intro hr
          exfalso
          -- the least one that is not done is ready
          have : ∃ j, j < k ∧ b j = false := by
            refine Classical.byContradiction fun hne => hdone fun j hj => ?_
            cases hv : b j with
            | true => rfl
            | false => exact absurd ⟨j, hj, hv⟩ hne
          obtain ⟨j0, hj0, hv0⟩ := this
          have least : ∀ m j, j ≤ m → j < k → b j = false → ∃ j, j < k ∧ b j = false ∧ ∀ i, i < j → b i = true := by
            intro m
            induction m with
            | zero => intro j h1 h2 h3; exact ⟨j, h2, h3, fun i hi => by omega⟩
            | succ m ihm =>
              intro j h1 h2 h3
              by_cases h : ∃ i, i < j ∧ b i = false
              · obtain ⟨i, hi1, hi2⟩ := h
                exact ihm i (by omega) (by omega) hi2
              · exact ⟨j, h2, h3, fun i hi => by
                  cases hv : b i with
                  | true => rfl
                  | false => exact absurd ⟨i, hi, hv⟩ h⟩
          obtain ⟨j, hj1, hj2, hj3⟩ := least j0 j0 (Nat.le_refl _) hj0 hv0
          have hjl : j < l.length := by omega
          have ho : l[j]? = some l[j] := List.getElem?_eq_getElem hjl
          have : j ∈ Region.ready .any l.toArray ls := by
            refine mem_ready.2 ⟨?_, l[j], by simp, fun e he _ => ?_⟩
            · have := hb j hjl
              simp only [Array.getD_eq_getD_getElem?, Array.getElem?_eq_getElem (show j < ls.size by omega), Option.getD_some] at this ⊢
              rw [this]; exact hj2
            · have hr := hL4 j (List.mem_range.2 hjl)
              rw [ho] at hr
              simp only [Bool.and_eq_true, List.all_eq_true, decide_eq_true_eq] at hr
              have hlt := hr.1 e (Array.mem_toList_iff.2 he)
              rw [hb e.on (by omega)]
              exact hj3 _ hlt
          rw [hr] at this
          cases this
        · intro i hi
          obtain ⟨h1, o, ho, hdep⟩ := mem_ready.1 hi
          have hil : i < l.length := by simpa using (Array.getElem?_eq_some_iff.1 ho).1
          have ho' : l[i]? = some o := by simpa using ho
          have hbi : b i = false := by
            rw [← hb i hil]
            simp only [Array.getD_eq_getD_getElem?, Array.getElem?_eq_getElem (show i < ls.size by omega), Option.getD_some] at h1 ⊢
            exact h1
          have hdep' : ∀ e ∈ o.after.toList, Region.binds .any e = true → b e.on = true := fun e he hbn => by
            have h2 := hdep e (Array.mem_toList_iff.1 he) hbn
            have hr := hL4 i (List.mem_range.2 hil)
            rw [ho'] at hr
            simp only [Bool.and_eq_true, List.all_eq_true, decide_eq_true_eq] at hr
            have hlt := hr.1 e he
            rw [← hb e.on (by omega)]
            exact h2
          have hik : i < k := by
            rcases Nat.lt_or_ge i k with h | h
            · exact h
            · exfalso
              refine hdone fun j hj => ?_
              have hr := hL4 i (List.mem_range.2 hil)
              rw [ho'] at hr
              simp only [Bool.and_eq_true, Bool.or_eq_true, decide_eq_true_eq, List.all_eq_true] at hr
              rcases hr.2 with h2 | h2
              · omega
              · refine reachJ_done hcl _ i (h2 j (List.mem_range.2 (by omega))) (fun o1 ho1 e he hbn => ?_)
                rw [ho'] at ho1
                cases ho1
                exact hdep' e he hbn
          obtain ⟨t, ht⟩ := hmem i hik
          have hdst : o.dst = some t := by
            have := hL3 (i, t) ht
            simp only [ho'] at this
            exact this
          have h := hstep i o hik ho' b f W hbi hdep' hI
          refine wpOp_mono ?_ (wpOp_of_list (Q := Q) ho h (fun e a w hne hq => by cases e <;> first | exact absurd rfl hne | exact hq) (fun hl => hl))
          rintro a' W' ⟨v, rfl, hv⟩
          rw [hdst, frm_up v L a (by rw [hL1]; exact List.nodup_range) hL2 ht]
          refine ih _ (upv f i v) (up1 b i) W' (by omega) (by omega) (by simpa using hls) ?_ ?_ ?_ ?_ hv
          · have hi' : i < ls.toList.length := by simpa using (show i < ls.size by omega)
            have hget : ls.toList[i] = false := by
              have := hb i hil
              simp only [Array.getD_eq_getD_getElem?, Array.getElem?_eq_getElem (show i < ls.size by omega), Option.getD_some] at this
              rw [Array.getElem_toList, this]; exact hbi
            have : (ls.setIfInBounds i true).toList = ls.toList.set i true := by simp
            rw [this, List.count_set hi', hget, if_pos (show (false == false) = true from rfl), if_neg (show ¬ (true == false) = true by decide)]
            omega
          · intro j hj
            by_cases e : i = j
            · subst e
              simp [Array.getD_eq_getD_getElem?, show i < ls.size by omega, up1]
            · have := hb j hj
              simp only [Array.getD_eq_getD_getElem?, Array.getElem?_setIfInBounds_ne e] at this ⊢
              rw [this]
              simp [up1, show ¬ j = i from fun h => e h.symm]
          · intro d o1 ho1 hbd e he hbn
            by_cases e1 : d = i
            · subst e1
              rw [ho'] at ho1
              cases ho1
              have := hdep' e he hbn
              unfold up1
              split <;> first | rfl | exact this
            · have := hcl d o1 ho1 (up1_of hbd e1) e he hbn
              unfold up1
              split <;> first | rfl | exact this
          · intro j hkj hjl
            simp only [up1, show ¬ j = i from by omega, if_false]
            exact htl j hkj hjl
  have h0 := key l.length (Array.replicate l.length false) (fun _ => undef) (fun _ => false) { w with drawn := w.drawn + 1 } (by omega) (Nat.le_refl _) (by simp) (by simp) (fun j hj => by simp [hj]) (fun _ _ _ h => by cases h) (fun _ _ _ => rfl)
    hI0
  rw [frm_none L a (fun x hx => by have := List.all_eq_true.1 hsz x hx; simpa using this)] at h0
  simpa using h0
end
end Go.Proofs.YtcblfhoipdbdlaaO

namespace Go.Proofs.Ytcblfhoipdbdlaa.PAll
open Go.RowKit Go.Proofs.YtcblfhoipdbdlaaW.PrintWords Go.Proofs.YtcblfhoipdbdlaaW.PrintLast Go.Proofs.YtcblfhoipdbdlaaW.PrintMore Go.Proofs.YtcblfhoipdbdlaaO
attribute [local go_sem] max2_int min2_int max_two min_two max_three min_three max_four min_four
set_option linter.unusedVariables false
set_option linter.unusedSimpArgs false

def both (f h : Nat → Int) : Nat → Int := fun n => mx (f n) (h n)
def clash (f h : Nat → Int) : Bool := (List.range 1024).any fun n => decide (f n ≠ 0 ∧ h n ≠ 0)
def addR (l : List S24) (a : S24) : List S24 × Int := if okB l && fitB a.f0 a.f1 then (if clash (pgF l) (pgF [a]) then ([], 5) else formR (both (pgF l) (pgF [a]))) else ([], 2)
set_option maxHeartbeats 2000000 in
set_option maxRecDepth 100000 in
theorem both_calls (W : World) (p6 p7 : Nat) (f h : Nat → Int) (h6 : W.heap[p6]? = some (.cells (pgRow f) 42 (0, 0))) (h7 : W.heap[p7]? = some (.cells (pgRow h) 42 (0, 0))) (n : Nat) (hn : n < 1024) :
    Calls Try.prog 30 (#[.int .i64 n] ++ #[.pointer (some ⟨p6, 0, none⟩), .pointer (some ⟨p7, 0, none⟩)]) W fun e W' => e = .returned (.int .i64 (both f h n)) ∧ Drawn0 W W' := by
  have c6 : W.cell? ⟨p6, n, none⟩ = some (.int .i64 (f n)) := by rw [blk_cell h6]; exact pgRow_get _ _ hn
  have c7 : W.cell? ⟨p7, n, none⟩ = some (.int .i64 (h n)) := by rw [blk_cell h7]; exact pgRow_get _ _ hn
  clear h6 h7
  simp only [List.append_toArray, List.cons_append, List.nil_append]
  have q1 : 0 ≤ (n : Int) := by omega
  have q2 : (n : Int) < 1024 := by omega
  by_cases hlt : f n < h n
  · have hz : Aside0 (both f h n = h n) := ⟨by unfold both mx; rw [if_pos hlt]⟩
    go_enter Try.func30, Try.ntmps30
    go_wp2
    go_quiet (fail)
    go_wp2
    go_ret
    exact ⟨ret_int hz.out.symm, ⟨⟨_, rfl⟩⟩⟩
  · have hz : Aside0 (both f h n = f n) := ⟨by unfold both mx; rw [if_neg hlt]⟩
    go_enter Try.func30, Try.ntmps30
    go_wp2
    go_quiet (fail)
    go_wp2
    go_ret
    exact ⟨ret_int hz.out.symm, ⟨⟨_, rfl⟩⟩⟩

theorem clash_true {f h : Nat → Int} (n : Nat) (hn : n < 1024) (h1 : f n ≠ 0) (h2 : h n ≠ 0) : clash f h = true := by
  unfold clash; rw [List.any_eq_true]; exact ⟨n, List.mem_range.2 hn, decide_eq_true ⟨h1, h2⟩⟩
theorem clash_false {f h : Nat → Int} (hh : ∀ n, n < 1024 → ¬ (f n ≠ 0 ∧ h n ≠ 0)) : clash f h = false := by
  unfold clash; rw [List.any_eq_false]; intro n hn; have := hh n (List.mem_range.1 hn); simpa using this
theorem C_of_one {W : World} {g : Nat} {a : S24} (h : W.heap[g]? = some (.cells #[.int .i64 a.f0, .int .i64 a.f1, .bool a.f2] 24 (0, 0))) : Kd.C k24 W (some ⟨g, 0, none⟩) 1 [a] := by
  refine ⟨rfl, by decide, fun _ => ⟨_, rfl, fun j p hp => ?_⟩⟩
  match j, hp with
  | 0, hp =>
    cases hp
    refine ⟨_, rfl, k24_mk W a, fun i u hu => ?_⟩
    rw [add_plain, blk_cell h]
    match i, hu with
    | 0, hu => cases hu; rfl
    | 1, hu => cases hu; rfl
    | 2, hu => cases hu; rfl
/-- What the operations of Add's region 3 make. -/
def addPhi (w : World) (A0 : Option Addr) (c0 : Nat) (l0 : List S24) (a : S24) (W : World) (v : Value) : Nat → Prop
  | 0 => v = .slice A0 l0.length c0
  | 1 => v = .agg (pgRow (pgF l0))
  | 2 => v = .agg #[.int .i64 a.f0, .int .i64 a.f1, .bool a.f2]
  | 3 => ∃ g, v = .slice (some ⟨g, 0, none⟩) 1 1 ∧ W.heap[g]? = some (.cells #[.int .i64 a.f0, .int .i64 a.f1, .bool a.f2] 24 (0, 0))
  | 4 => v = .agg (pgRow (pgF [a]))
  | 5 => ∃ g, v = .pointer (some ⟨g, 0, none⟩) ∧ w.heap.size ≤ g ∧ W.heap[g]? = some (.cells (pgRow fun _ => 0) 42 (0, 0))
  | 6 => ∃ g, v = .pointer (some ⟨g, 0, none⟩) ∧ w.heap.size ≤ g ∧ W.heap[g]? = some (.cells (pgRow fun _ => 0) 42 (0, 0))
  | _ => True
theorem addPhi_below {w W W' : World} {A0 : Option Addr} {c0 : Nat} {l0 : List S24} {a : S24} {v : Value} (hb : Below W.heap.size W W') : ∀ {i : Nat}, addPhi w A0 c0 l0 a W v i → addPhi w A0 c0 l0 a W' v i
  | 0, h => h
  | 1, h => h
  | 2, h => h
  | 3, ⟨g, h1, h2⟩ => ⟨g, h1, blk_below h2 hb⟩
  | 4, h => h
  | 5, ⟨g, h1, h2, h3⟩ => ⟨g, h1, h2, blk_below h3 hb⟩
  | 6, ⟨g, h1, h2, h3⟩ => ⟨g, h1, h2, blk_below h3 hb⟩
  | _ + 7, _ => trivial
structure AddI (w : World) (p3 : Nat) (A0 : Option Addr) (c0 : Nat) (l0 : List S24) (a : S24) (b : Nat → Bool) (f : Nat → Value) (W : World) : Prop where
  below : Below w.heap.size w W
  arg : W.heap[p3]? = some (.cells #[.int .i64 a.f0, .int .i64 a.f1, .bool a.f2] 24 (0, 0))
  phi : ∀ j, j < 7 → b j = true → addPhi w A0 c0 l0 a W (f j) j
  ne : b 5 = true → b 6 = true → f 5 ≠ f 6
theorem AddI.next {w : World} {p3 : Nat} {A0 : Option Addr} {c0 : Nat} {l0 : List S24} {a : S24} {b : Nat → Bool} {f : Nat → Value} {W W' : World} (h : AddI w p3 A0 c0 l0 a b f W) (hb : Below W.heap.size W W') {i : Nat} {v : Value} (hv : addPhi w A0 c0 l0 a W' v i)
    (hne : (i = 5 → b 6 = true → v ≠ f 6) ∧ (i = 6 → b 5 = true → f 5 ≠ v)) : AddI w p3 A0 c0 l0 a (up1 b i) (upv f i v) W' := by
  refine ⟨below_step h.below hb, blk_below h.arg hb, fun j hj hbj => ?_, fun h5 h6 => ?_⟩
  · by_cases e : j = i
    · subst e; simpa [upv] using hv
    · simp only [upv, e, if_false]
      exact addPhi_below hb (h.phi j hj (up1_of hbj e))
  · by_cases e5 : i = 5
    · subst e5
      have h6' := up1_of h6 (by decide)
      simpa [upv] using hne.1 rfl h6'
    · by_cases e6 : i = 6
      · subst e6
        have h5' := up1_of h5 (by decide)
        simpa [upv] using hne.2 rfl h5'
      · have h5' := up1_of h5 (fun e => e5 e.symm)
        have h6' := up1_of h6 (fun e => e6 e.symm)
        simpa [upv, show ¬ 5 = i from fun e => e5 e.symm, show ¬ 6 = i from fun e => e6 e.symm] using h.ne h5' h6'

set_option maxHeartbeats 4000000 in
set_option maxRecDepth 100000 in
theorem add_calls (A0 : Option Addr) (c0 : Nat) (l0 : List (S24)) (a : S24) (r1 : List S24) (r2 : Int) (w : World) (hr0 : Kd.C k24 w A0 l0.length l0) (hc0 : l0.length ≤ c0) (h : addR l0 a = (r1, r2)) :
    Calls Try.prog 11 #[.slice A0 l0.length c0, .agg #[.int .i64 a.f0, .int .i64 a.f1, .bool a.f2]] w fun e w' => ∃ v0_ : Value, e = .returned (.tuple #[v0_, .int .i64 r2]) ∧ Kd.R k24 24 w' w.heap.size (fun _ => True) v0_ r1 ∧ Below w.heap.size w w' := by
  have HR0 := Aside0.mk hr0
  have HC0 := Aside0.mk hc0
  have hck := check_tot l0 9 (Nat.le_refl _)
  have HF := fits_eq a.f0 a.f1
  clear hr0 hc0
  unfold addR at h
  cases hb : okB l0 with
  | false =>
    rw [hb] at h
    injection h with h1 h2
    subst h1 h2
    have hck := Aside0.mk (hck.trans (show some (chk l0) = some 2 by unfold chk; rw [hb]; rfl))
    clear hb
    go_enter Try.func11, Try.ntmps11
    go_wp2_with (first | ((with_reducible refine gate_dst (N := 3) rfl ?_); refine box_event ?hg (N := 3) ?hd (cs := #[.int .i64 a.f0, .int .i64 a.f1, .bool a.f2]) (t := 24) ?hr ?_; (case hd => rfl); (case hg => rfl); (case hr => first | (go_simp; done) | (go_simp; rfl)); intro p3 hg w3 hbox hb; have K3 := Aside0.mk hbox; have HB := Aside0.mk hb; clear hb hbox hg) | (go_at_call 20; (with_reducible refine (region_Check.calls 9 _ _ l0 _ _ (Kd.C_below HR0.out HB.out) HC0.out hck.out).mono ?_); rintro e w8 ⟨rfl, hd⟩; have n_K3 := Aside0.mk (blk_below K3.out hd); clear K3; have K3 := n_K3; clear n_K3; have HB' := Aside0.mk (below_step HB.out hd); clear HB; have HB := HB'; clear HB'; have c30 := (blk_cell K3.out 0).trans (show (#[Value.int .i64 a.f0, .int .i64 a.f1, .bool a.f2])[0]? = some (.int .i64 a.f0) from rfl); have c31 := (blk_cell K3.out 1).trans (show (#[Value.int .i64 a.f0, .int .i64 a.f1, .bool a.f2])[1]? = some (.int .i64 a.f1) from rfl); clear hd))
    go_ret2
    exact ⟨_, rfl, Kd.R_nil _ _ _ _ _, HB.out⟩
  | true =>
    have hck := Aside0.mk (hck.trans (show some (chk l0) = some 0 by unfold chk; rw [hb]; rfl))
    have hfit := Aside0.mk (okB_fit hb)
    cases hf : fitB a.f0 a.f1 with
    | false =>
      rw [hb, hf] at h
      injection h with h1 h2
      subst h1 h2
      have HF := Aside0.mk (HF.trans (congrArg some hf))
      clear hb hf
      go_enter Try.func11, Try.ntmps11
      go_wp2_with (first | ((with_reducible refine gate_dst (N := 3) rfl ?_); refine box_event ?hg (N := 3) ?hd (cs := #[.int .i64 a.f0, .int .i64 a.f1, .bool a.f2]) (t := 24) ?hr ?_; (case hd => rfl); (case hg => rfl); (case hr => first | (go_simp; done) | (go_simp; rfl)); intro p3 hg w3 hbox hb; have K3 := Aside0.mk hbox; have HB := Aside0.mk hb; clear hb hbox hg) | (go_at_call 20; (with_reducible refine (region_Check.calls 9 _ _ l0 _ _ (Kd.C_below HR0.out HB.out) HC0.out hck.out).mono ?_); rintro e w8 ⟨rfl, hd⟩; have n_K3 := Aside0.mk (blk_below K3.out hd); clear K3; have K3 := n_K3; clear n_K3; have HB' := Aside0.mk (below_step HB.out hd); clear HB; have HB := HB'; clear HB'; have c30 := (blk_cell K3.out 0).trans (show (#[Value.int .i64 a.f0, .int .i64 a.f1, .bool a.f2])[0]? = some (.int .i64 a.f0) from rfl); have c31 := (blk_cell K3.out 1).trans (show (#[Value.int .i64 a.f0, .int .i64 a.f1, .bool a.f2])[1]? = some (.int .i64 a.f1) from rfl); clear hd) | (go_at_call 27; (with_reducible refine (region_fits.calls _ _ _ _ HF.out).mono ?_); rintro e w9 ⟨rfl, hd⟩; have n_K3 := Aside0.mk (blk_below K3.out (Drawn0.below hd)); clear K3; have K3 := n_K3; clear n_K3; have HB' := Aside0.mk (below_step HB.out (Drawn0.below hd)); clear HB; have HB := HB'; clear HB'; clear hd))
      go_ret2
      exact ⟨_, rfl, Kd.R_nil _ _ _ _ _, HB.out⟩
    | true =>
      have HF := Aside0.mk (HF.trans (congrArg some hf))
      have hfi := Aside0.mk (fitB_iff.1 hf)
      rw [hb, hf] at h
      have HQ := Aside0.mk h
      clear hb hf h
      go_enter Try.func11, Try.ntmps11
      go_wp2_with (first | ((with_reducible refine gate_dst (N := 3) rfl ?_); refine box_event ?hg (N := 3) ?hd (cs := #[.int .i64 a.f0, .int .i64 a.f1, .bool a.f2]) (t := 24) ?hr ?_; (case hd => rfl); (case hg => rfl); (case hr => first | (go_simp; done) | (go_simp; rfl)); intro p3 hg w3 hbox hb; have K3 := Aside0.mk hbox; have HB := Aside0.mk hb; clear hb hbox hg) | (go_at_call 20; (with_reducible refine (region_Check.calls 9 _ _ l0 _ _ (Kd.C_below HR0.out HB.out) HC0.out hck.out).mono ?_); rintro e w8 ⟨rfl, hd⟩; have n_K3 := Aside0.mk (blk_below K3.out hd); clear K3; have K3 := n_K3; clear n_K3; have HB' := Aside0.mk (below_step HB.out hd); clear HB; have HB := HB'; clear HB'; have c30 := (blk_cell K3.out 0).trans (show (#[Value.int .i64 a.f0, .int .i64 a.f1, .bool a.f2])[0]? = some (.int .i64 a.f0) from rfl); have c31 := (blk_cell K3.out 1).trans (show (#[Value.int .i64 a.f0, .int .i64 a.f1, .bool a.f2])[1]? = some (.int .i64 a.f1) from rfl); clear hd) | (go_at_call 27; (with_reducible refine (region_fits.calls _ _ _ _ HF.out).mono ?_); rintro e w9 ⟨rfl, hd⟩; have n_K3 := Aside0.mk (blk_below K3.out (Drawn0.below hd)); clear K3; have K3 := n_K3; clear n_K3; have HB' := Aside0.mk (below_step HB.out (Drawn0.below hd)); clear HB; have HB := HB'; clear HB'; clear hd))
      have c30' := c30
      clear c30 c31
      refine wp_draw (l := _) (by kernel_rfl) 7 [(0, 20), (1, 21), (2, 22), (3, 23), (4, 24), (5, 6), (6, 7)] (AddI w p3 A0 c0 l0 a) (by kernel_rfl) rfl ?h0 ?hs ?ht
      case h0 => exact ⟨HB.out.drew, K3.out, (fun j _ h => by cases h), (fun h => by cases h)⟩
      case hs =>
        clear c30'
        intro i o hi ho b f W hbi hdep hI
        have HI := Aside0.mk hI
        have HD := Aside0.mk hdep
        clear hI hdep
        match i, hi, ho, hbi with
        | 0, _, ho, hbi =>
          cases ho
          simp only [frm, Act.put, List.setIfInBounds_toArray, List.set_cons_zero, List.set_cons_succ, Array.getD_eq_getD_getElem?, List.getElem?_toArray, List.getElem?_cons_zero, List.getElem?_cons_succ, Option.getD_some]
          go_wp2
          exact ⟨_, rfl, HI.out.next (Below.refl _ _) (by rfl) ⟨(fun h => by cases h), (fun h => by cases h)⟩⟩
        | 1, _, ho, hbi =>
          cases ho
          have hb0 : b 0 = true := HD.out _ List.mem_cons_self rfl
          have h0 : f 0 = .slice A0 l0.length c0 := HI.out.phi 0 (by decide) hb0
          simp only [frm, Act.put, List.setIfInBounds_toArray, List.set_cons_zero, List.set_cons_succ, Array.getD_eq_getD_getElem?, List.getElem?_toArray, List.getElem?_cons_zero, List.getElem?_cons_succ, Option.getD_some, hb0, h0, sel_true]
          go_wp2_with (go_at_call 28; (with_reducible refine (pages_calls _ _ l0 _ (Kd.C_below HR0.out HI.out.below) HC0.out hfit.out).mono ?_); rintro e w11 ⟨rfl, hd⟩; have HX := Aside0.mk hd; clear hd)
          exact ⟨_, rfl, HI.out.next HX.out (by rfl) ⟨(fun h => by cases h), (fun h => by cases h)⟩⟩
        | 2, _, ho, hbi =>
          cases ho
          have ha := HI.out.arg
          have c0 := (blk_cell ha 0).trans (show (#[Value.int .i64 a.f0, .int .i64 a.f1, .bool a.f2])[0]? = some (.int .i64 a.f0) from rfl)
          have c1 := (blk_cell ha 1).trans (show (#[Value.int .i64 a.f0, .int .i64 a.f1, .bool a.f2])[1]? = some (.int .i64 a.f1) from rfl)
          have c2 := (blk_cell ha 2).trans (show (#[Value.int .i64 a.f0, .int .i64 a.f1, .bool a.f2])[2]? = some (.bool a.f2) from rfl)
          clear ha
          simp only [frm, Act.put, List.setIfInBounds_toArray, List.set_cons_zero, List.set_cons_succ, Array.getD_eq_getD_getElem?, List.getElem?_toArray, List.getElem?_cons_zero, List.getElem?_cons_succ, Option.getD_some]
          go_wp2
          exact ⟨_, rfl, HI.out.next (Below.refl _ _) (by rfl) ⟨(fun h => by cases h), (fun h => by cases h)⟩⟩
        | 3, _, ho, hbi =>
          cases ho
          have hb2 : b 2 = true := HD.out _ List.mem_cons_self rfl
          have h2 : f 2 = .agg #[.int .i64 a.f0, .int .i64 a.f1, .bool a.f2] := HI.out.phi 2 (by decide) hb2
          simp only [frm, Act.put, List.setIfInBounds_toArray, List.set_cons_zero, List.set_cons_succ, Array.getD_eq_getD_getElem?, List.getElem?_toArray, List.getElem?_cons_zero, List.getElem?_cons_succ, Option.getD_some, hb2, h2, sel_true]
          go_wp2
          exact ⟨_, rfl, HI.out.next (below_alloc (Below.refl _ _) _) (show addPhi w A0 _ l0 a _ _ 3 from ⟨_, rfl, blk_new _ _⟩) ⟨(fun h => by cases h), (fun h => by cases h)⟩⟩
        | 4, _, ho, hbi =>
          cases ho
          have hb3 : b 3 = true := HD.out _ List.mem_cons_self rfl
          obtain ⟨g3, h3, hg3⟩ : addPhi w A0 c0 l0 a W (f 3) 3 := HI.out.phi 3 (by decide) hb3
          have HG3 := Aside0.mk hg3
          clear hg3
          simp only [frm, Act.put, List.setIfInBounds_toArray, List.set_cons_zero, List.set_cons_succ, Array.getD_eq_getD_getElem?, List.getElem?_toArray, List.getElem?_cons_zero, List.getElem?_cons_succ, Option.getD_some, hb3, h3, sel_true]
          go_wp2_with (go_at_call 28; (refine (pages_calls _ 1 [a] _ (C_of_one HG3.out) (Nat.le_refl _) (by intro x hx; simp at hx; subst hx; exact ⟨hfi.out.1, hfi.out.2.2.1, by have := hfi.out; omega⟩)).mono ?_); rintro e w11 ⟨rfl, hd⟩; have HX := Aside0.mk hd; clear hd)
          exact ⟨_, rfl, HI.out.next HX.out (by rfl) ⟨(fun h => by cases h), (fun h => by cases h)⟩⟩
        | 5, _, ho, hbi =>
          cases ho
          simp only [frm, Act.put, List.setIfInBounds_toArray, List.set_cons_zero, List.set_cons_succ, Array.getD_eq_getD_getElem?, List.getElem?_toArray, List.getElem?_cons_zero, List.getElem?_cons_succ, Option.getD_some]
          go_wp2_with ((with_reducible refine gate_alloc (ty := 42) rfl ?_); refine ev_alloc42 rfl rfl ?_; intro g W4 hg hb1 hB1; have HG := Aside0.mk hb1; have HX := Aside0.mk hB1; have HE := Aside0.mk hg; clear hB1 hb1 hg)
          exact ⟨_, rfl, HI.out.next HX.out (show addPhi w A0 _ l0 a _ _ 5 from ⟨_, rfl, by rw [HE.out]; exact below_size HI.out.below, HG.out⟩) ⟨fun _ h6 => by
            obtain ⟨g6, e6, _, hg6⟩ : addPhi w A0 c0 l0 a W (f 6) 6 := HI.out.phi 6 (by decide) h6
            have := blk_lt hg6
            rw [e6, HE.out]
            intro e; injection e with e; injection e with e; injection e with e; omega, fun h => by cases h⟩⟩
        | 6, _, ho, hbi =>
          cases ho
          simp only [frm, Act.put, List.setIfInBounds_toArray, List.set_cons_zero, List.set_cons_succ, Array.getD_eq_getD_getElem?, List.getElem?_toArray, List.getElem?_cons_zero, List.getElem?_cons_succ, Option.getD_some]
          go_wp2_with ((with_reducible refine gate_alloc (ty := 42) rfl ?_); refine ev_alloc42 rfl rfl ?_; intro g W4 hg hb1 hB1; have HG := Aside0.mk hb1; have HX := Aside0.mk hB1; have HE := Aside0.mk hg; clear hB1 hb1 hg)
          exact ⟨_, rfl, HI.out.next HX.out (show addPhi w A0 _ l0 a _ _ 6 from ⟨_, rfl, by rw [HE.out]; exact below_size HI.out.below, HG.out⟩) ⟨(fun h => by cases h), fun _ h5 => by
            obtain ⟨g5, e5, _, hg5⟩ : addPhi w A0 c0 l0 a W (f 5) 5 := HI.out.phi 5 (by decide) h5
            have := blk_lt hg5
            rw [e5, HE.out]
            intro e; injection e with e; injection e with e; injection e with e; omega⟩⟩
        | i + 7, hi, _, _ => omega
      case ht =>
        intro b f W hall hI
        clear c30'
        have h1 : f 1 = .agg (pgRow (pgF l0)) := hI.phi 1 (by decide) (hall 1 (by decide))
        have h4 : f 4 = .agg (pgRow (pgF [a])) := hI.phi 4 (by decide) (hall 4 (by decide))
        obtain ⟨g5, e5, hw5, hg5⟩ : addPhi w A0 c0 l0 a W (f 5) 5 := hI.phi 5 (by decide) (hall 5 (by decide))
        obtain ⟨g6, e6, hw6, hg6⟩ : addPhi w A0 c0 l0 a W (f 6) 6 := hI.phi 6 (by decide) (hall 6 (by decide))
        have hne : g5 ≠ g6 := fun e => hI.ne (hall 5 (by decide)) (hall 6 (by decide)) (by rw [e5, e6, e])
        have HG5 := Aside0.mk hg5
        have HG6 := Aside0.mk hg6
        have HW5 := Aside0.mk hw5
        have HW6 := Aside0.mk hw6
        have HN := Aside0.mk hne
        have HB := Aside0.mk hI.below
        clear hg5 hg6 hw5 hw6 hne hI
        simp only [List.drop_succ_cons, List.drop_zero]
        simp only [frm, Act.put, List.setIfInBounds_toArray, List.set_cons_zero, List.set_cons_succ, Array.getD_eq_getD_getElem?, List.getElem?_toArray, List.getElem?_cons_zero, List.getElem?_cons_succ, Option.getD_some, sel_true, h1, h4, e5, e6]
        go_wp2_with (first | ((with_reducible refine gate_st (ty := 42) (x := .tmp 6) rfl ?_); refine ev_store42 rfl (.tmp 6) _ rfl (f := pgF l0) rfl rfl HG5.out ?_; intro W5 hW tW; have HA5 := Aside0.mk hW; have n6 := Aside0.mk (tW.blk HG6.out (fun e => HN.out e.symm)); clear HG6; have HG6 := n6; have HB' := Aside0.mk (Turned.below HB.out tW HW5.out); clear HB; have HB := HB'; clear HB' hW tW) | ((with_reducible refine gate_st (ty := 42) (x := .tmp 7) rfl ?_); refine ev_store42 rfl (.tmp 7) _ rfl (f := pgF [a]) rfl rfl HG6.out ?_; intro W6 hW tW; have HA6 := Aside0.mk hW; have n5 := Aside0.mk (tW.blk HA5.out HN.out); clear HA5; have HA5 := n5; have HB' := Aside0.mk (Turned.below HB.out tW HW6.out); clear HB; have HB := HB'; clear HB' hW tW))
        have HQ2 := HQ.out
        simp only [Bool.and_self, if_true] at HQ2
        have HQ3 := Aside0.mk HQ2
        clear HQ2
        go_loop [25] (fun i => ∃ n : Nat, i = .int .i64 n ∧ Aside0 (n ≤ 1024) ∧ Aside0 (∀ m : Nat, m < n → ¬ (pgF l0 m ≠ 0 ∧ pgF [a] m ≠ 0))) (fun i => 1024 - (intOf i).toNat)
        case atStart => exact ⟨0, rfl, ⟨by omega⟩, ⟨fun i hi => by omega⟩⟩
        case round =>
          obtain ⟨n, rfl, hn, hno⟩ := hrel
          have hn' := hn.out
          by_cases hlt : n < 1024
          · have hlt' := Aside0.mk hlt
            have x5 : W6.cell? ⟨g5, n, none⟩ = some (.int .i64 (pgF l0 n)) := by rw [blk_cell HA5.out]; exact pgRow_get _ _ hlt
            have x6 : W6.cell? ⟨g6, n, none⟩ = some (.int .i64 (pgF [a] n)) := by rw [blk_cell HA6.out]; exact pgRow_get _ _ hlt
            by_cases h0 : pgF l0 n = 0
            · have h0b : (pgF l0 n != 0) = false := by simpa using h0
              have hs := Aside0.mk (show ¬ (pgF l0 n ≠ 0 ∧ pgF [a] n ≠ 0) from fun h => h.1 h0)
              clear h0
              go_wp2_with (fail)
              go_round
              case rel => exact ⟨n + 1, by go_num, ⟨hlt'.out⟩, ⟨fun m hm => by
                by_cases e : m = n
                · rw [e]; exact hs.out
                · exact hno.out m (by omega)⟩⟩
              case measure => have := hlt'.out; simp [intOf]; omega
            · have h0b : (pgF l0 n != 0) = true := by simpa using h0
              by_cases h1 : pgF [a] n = 0
              · have h1b : (pgF [a] n != 0) = false := by simpa using h1
                have hs := Aside0.mk (show ¬ (pgF l0 n ≠ 0 ∧ pgF [a] n ≠ 0) from fun h => h.2 h1)
                clear h0 h1
                go_wp2_with (fail)
                go_round
                case rel => exact ⟨n + 1, by go_num, ⟨hlt'.out⟩, ⟨fun m hm => by
                  by_cases e : m = n
                  · rw [e]; exact hs.out
                  · exact hno.out m (by omega)⟩⟩
                case measure => have := hlt'.out; simp [intOf]; omega
              · have h1b : (pgF [a] n != 0) = true := by simpa using h1
                have hc : clash (pgF l0) (pgF [a]) = true := clash_true n hlt h0 h1
                have hr := HQ3.out
                rw [hc] at hr
                injection hr with hr1 hr2
                subst hr1 hr2
                clear h0 h1 hc
                go_wp2_with (fail)
                go_ret2
                exact ⟨_, rfl, Kd.R_nil _ _ _ _ _, HB.out⟩
          · have hn2 : n = 1024 := by omega
            subst hn2
            have hr := HQ3.out
            rw [clash_false hno.out] at hr
            have HR := Aside0.mk (show formR (both (pgF l0) (pgF [a])) = (r1, r2) from hr)
            clear hr
            go_wp2_with (go_at_call 29; refine (form_calls 30 _ (both (pgF l0) (pgF [a])) _ enters30 ?hw r1 r2 HR.out).mono ?_; (case hw => intro W n hn hb; exact both_calls W g5 g6 _ _ (blk_below HA5.out hb) (blk_below HA6.out hb) n hn); rintro e w12 ⟨v0, rfl, hR, hd⟩; have HF := Aside0.mk (Kd.R_lower hR (below_size HB.out)); have HB' := Aside0.mk (below_step HB.out hd); clear HB hR hd; have HB := HB'; clear HB')
            go_ret2
            exact ⟨_, rfl, HF.out, HB.out⟩
end Go.Proofs.Ytcblfhoipdbdlaa.PAll

namespace Go.Proofs.Ytcblfhoipdbdlaa.PAll
open Go.RowKit Go.Proofs.YtcblfhoipdbdlaaW.PrintWords Go.Proofs.YtcblfhoipdbdlaaW.PrintLast Go.Proofs.YtcblfhoipdbdlaaW.PrintMore Go.Proofs.YtcblfhoipdbdlaaO
attribute [local go_sem] max2_int min2_int max_two min_two max_three min_three max_four min_four
set_option linter.unusedVariables false
set_option linter.unusedSimpArgs false

def region_Add.f (k : Nat) (l0 : List (S24)) (a1_0 : Int) (a1_1 : Int) (a1_2 : Bool) : Option ((List (S24)) × Int) := some (addR l0 ⟨a1_0, a1_1, a1_2⟩)
theorem region_Add.mono : ∀ a0 a1 a2 a3 k, LeO (region_Add.f k a0 a1 a2 a3) (region_Add.f (k + 1) a0 a1 a2 a3) := fun _ _ _ _ _ => LeO.refl _
theorem region_Add.calls (k : Nat) (A0 : Option Addr) (c0 : Nat) (l0 : List (S24)) (a1_0 : Int) (a1_1 : Int) (a1_2 : Bool) (r1 : List (S24)) (r2 : Int) (w : World) (hr0 : Kd.C k24 w A0 l0.length l0) (hc0 : l0.length ≤ c0) (h : region_Add.f k l0 a1_0 a1_1 a1_2 = some (r1, r2)) :
    Calls Try.prog 11 #[.slice A0 l0.length c0, .agg #[.int .i64 a1_0, .int .i64 a1_1, .bool a1_2]] w fun e w' => ∃ v0_ : Value, e = .returned (.tuple #[v0_, .int .i64 r2]) ∧ Kd.R k24 24 w' w.heap.size (fun _ => True) v0_ r1 ∧ Below w.heap.size w w' :=
  add_calls A0 c0 l0 ⟨a1_0, a1_1, a1_2⟩ r1 r2 w hr0 hc0 (Option.some.inj h)

def region_Cut.f (k : Nat) (l0 : List (S24)) (a1 : Int) (a2 : Int) : Option ((List (S24)) × Int) := some (changeR l0 a1 a2 0)
theorem region_Cut.mono : ∀ a0 a1 a2 k, LeO (region_Cut.f k a0 a1 a2) (region_Cut.f (k + 1) a0 a1 a2) := fun _ _ _ _ => LeO.refl _
theorem region_Cut.calls (k : Nat) (A0 : Option Addr) (c0 : Nat) (l0 : List (S24)) (a1 : Int) (a2 : Int) (r1 : List (S24)) (r2 : Int) (w : World) (hr0 : Kd.C k24 w A0 l0.length l0) (hc0 : l0.length ≤ c0) (h : region_Cut.f k l0 a1 a2 = some (r1, r2)) :
    Calls Try.prog 14 #[.slice A0 l0.length c0, .int .i64 a1, .int .i64 a2] w fun e w' => ∃ v0_ : Value, e = .returned (.tuple #[v0_, .int .i64 r2]) ∧ Kd.R k24 24 w' w.heap.size (fun _ => True) v0_ r1 ∧ Below w.heap.size w w' := by
  have H := Aside0.mk (Option.some.inj h)
  have HR0 := Aside0.mk hr0
  have HC0 := Aside0.mk hc0
  clear h hr0 hc0
  go_enter Try.func14, Try.ntmps14
  go_wp2_with (go_at_call 34; (with_reducible refine (change_calls _ _ l0 _ _ _ r1 r2 _ HR0.out HC0.out H.out).mono ?_); rintro e w1 ⟨v0, rfl, hR, hd⟩; have HF := Aside0.mk hR; have HB := Aside0.mk hd; clear hR hd)
  go_ret2
  exact ⟨_, rfl, HF.out, HB.out⟩

def region_Set.f (k : Nat) (l0 : List (S24)) (a1 : Int) (a2 : Int) (a3 : Bool) : Option ((List (S24)) × Int) := some (changeR l0 a1 a2 (wv a3))
theorem region_Set.mono : ∀ a0 a1 a2 a3 k, LeO (region_Set.f k a0 a1 a2 a3) (region_Set.f (k + 1) a0 a1 a2 a3) := fun _ _ _ _ _ => LeO.refl _
theorem region_Set.calls (k : Nat) (A0 : Option Addr) (c0 : Nat) (l0 : List (S24)) (a1 : Int) (a2 : Int) (a3 : Bool) (r1 : List (S24)) (r2 : Int) (w : World) (hr0 : Kd.C k24 w A0 l0.length l0) (hc0 : l0.length ≤ c0) (h : region_Set.f k l0 a1 a2 a3 = some (r1, r2)) :
    Calls Try.prog 16 #[.slice A0 l0.length c0, .int .i64 a1, .int .i64 a2, .bool a3] w fun e w' => ∃ v0_ : Value, e = .returned (.tuple #[v0_, .int .i64 r2]) ∧ Kd.R k24 24 w' w.heap.size (fun _ => True) v0_ r1 ∧ Below w.heap.size w w' := by
  have H := Aside0.mk (Option.some.inj h)
  have HR0 := Aside0.mk hr0
  have HC0 := Aside0.mk hc0
  clear h hr0 hc0
  cases a3 with
  | true =>
    have H : Aside0 (changeR l0 a1 a2 2 = (r1, r2)) := H
    go_enter Try.func16, Try.ntmps16
    go_wp2_with (go_at_call 34; (with_reducible refine (change_calls _ _ l0 _ _ _ r1 r2 _ HR0.out HC0.out H.out).mono ?_); rintro e w1 ⟨v0, rfl, hR, hd⟩; have HF := Aside0.mk hR; have HB := Aside0.mk hd; clear hR hd)
    go_ret2
    exact ⟨_, rfl, HF.out, HB.out⟩
  | false =>
    have H : Aside0 (changeR l0 a1 a2 1 = (r1, r2)) := H
    go_enter Try.func16, Try.ntmps16
    go_wp2_with (go_at_call 34; (with_reducible refine (change_calls _ _ l0 _ _ _ r1 r2 _ HR0.out HC0.out H.out).mono ?_); rintro e w1 ⟨v0, rfl, hR, hd⟩; have HF := Aside0.mk hR; have HB := Aside0.mk hd; clear hR hd)
    go_ret2
    exact ⟨_, rfl, HF.out, HB.out⟩
end Go.Proofs.Ytcblfhoipdbdlaa.PAll

namespace Go.Proofs.Ytcblfhoipdbdlaa.PAll
open Go.RowKit Go.Proofs.YtcblfhoipdbdlaaW.PrintWords Go.Proofs.YtcblfhoipdbdlaaW.PrintLast Go.Proofs.YtcblfhoipdbdlaaW.PrintMore
attribute [local go_sem] max2_int min2_int max_two min_two max_three min_three max_four min_four   -- for this text's walks alone
set_option linter.unusedVariables false
set_option linter.unusedSimpArgs false
attribute [local go_sem high] eqA24
/-! ### priorylaw14_awake: function 10 -/
def priorylaw14_awake.f (k : Nat)  : Option (Bool) := (region_Add.f k (([(⟨3, 2, true⟩ : S24)] : List (S24))) 5 1 true).bind fun bt234 => ((region_Set.f k bt234.1 4 1 false).bind fun bt238 => ((region_Cut.f k bt234.1 2 2).bind fun bt242 => (if bt234.2 = 0 then (if (bt234.1.length : Int) = 1 then (if 0 < (bt234.1.length : Int) then (if (((rd_T24 bt234.1 0).f0) == 3 && (((rd_T24 bt234.1 0).f1) == 3 && (((rd_T24 bt234.1 0).f2)))) = true then (if (bt238.1.length : Int) = 3 then (if bt238.2 = 0 then (some (bt242.2 == 4)) else (some false)) else (some false)) else (some false)) else (none)) else (some false)) else (some false))))
theorem priorylaw14_awake.mono : ∀ k, LeO (priorylaw14_awake.f k ) (priorylaw14_awake.f (k + 1) ) := by
  intro  k
  unfold priorylaw14_awake.f
  repeat' first
      | (with_reducible exact region_Add.mono _ _ _ _ _)
      | (with_reducible exact region_Cut.mono _ _ _ _)
      | (with_reducible exact region_Set.mono _ _ _ _ _)
      | (with_reducible exact LeO.refl _)
      | (with_reducible exact LeO.none _)
      | (with_reducible refine LeO.ite ?_ ?_)
      | (with_reducible refine LeO.bind ?_ (fun _ => ?_))
      | exact region_Add.mono _ _ _ _ _
      | exact region_Cut.mono _ _ _ _
      | exact region_Set.mono _ _ _ _ _
      | exact LeO.none _
      | refine LeO.ite ?_ ?_
      | refine LeO.bind ?_ (fun _ => ?_)
set_option maxHeartbeats 8000000 in
set_option maxRecDepth 100000 in
theorem priorylaw14_awake.calls (k : Nat)  (r : Bool) (w : World) (h : priorylaw14_awake.f k  = some r) :
    Calls Try.prog 10 #[] w fun e w' => e = .returned (.bool r) ∧ Below w.heap.size w w' := by
  have hu24 := Try.underlying24
  have HB := Aside0.mk (Below.refl w.heap.size w)
  have H : ((region_Add.f k (([(⟨3, 2, true⟩ : S24)] : List (S24))) 5 1 true).bind fun bt234 => ((region_Set.f k bt234.1 4 1 false).bind fun bt238 => ((region_Cut.f k bt234.1 2 2).bind fun bt242 => (if bt234.2 = 0 then (if (bt234.1.length : Int) = 1 then (if 0 < (bt234.1.length : Int) then (if (((rd_T24 bt234.1 0).f0) == 3 && (((rd_T24 bt234.1 0).f1) == 3 && (((rd_T24 bt234.1 0).f2)))) = true then (if (bt238.1.length : Int) = 3 then (if bt238.2 = 0 then (some (bt242.2 == 4)) else (some false)) else (some false)) else (some false)) else (none)) else (some false)) else (some false))))) = some r := h
  clear h
  obtain ⟨y231, hy231⟩ : ∃ y_ : List (S24), y_ = (([(⟨3, 2, true⟩ : S24)] : List (S24))) := ⟨_, rfl⟩
  replace H : ((region_Add.f k y231 5 1 true).bind fun bt234 => ((region_Set.f k bt234.1 4 1 false).bind fun bt238 => ((region_Cut.f k bt234.1 2 2).bind fun bt242 => (if bt234.2 = 0 then (if (bt234.1.length : Int) = 1 then (if 0 < (bt234.1.length : Int) then (if (((rd_T24 bt234.1 0).f0) == 3 && (((rd_T24 bt234.1 0).f1) == 3 && (((rd_T24 bt234.1 0).f2)))) = true then (if (bt238.1.length : Int) = 3 then (if bt238.2 = 0 then (some (bt242.2 == 4)) else (some false)) else (some false)) else (some false)) else (none)) else (some false)) else (some false))))) = some r := by first | (rw [hy231]; with_reducible exact H) | (have H2_ := (Option.bind_some _ _).symm.trans H; rw [hy231]; with_reducible exact H2_) | (have H2_ := (Option.bind_some _ _).symm.trans H; with_reducible exact H2_) | with_reducible exact H | (rw [hy231]; exact H) | exact H
  have Ny231 := Aside0.mk hy231
  clear hy231
  replace H := Option.bind_eq_some_iff.mp H
  obtain ⟨⟨t234, t237⟩, A10, H⟩ := H
  replace H : ((region_Set.f k t234 4 1 false).bind fun bt238 => ((region_Cut.f k t234 2 2).bind fun bt242 => (if t237 = 0 then (if (t234.length : Int) = 1 then (if 0 < (t234.length : Int) then (if (((rd_T24 t234 0).f0) == 3 && (((rd_T24 t234 0).f1) == 3 && (((rd_T24 t234 0).f2)))) = true then (if (bt238.1.length : Int) = 3 then (if bt238.2 = 0 then (some (bt242.2 == 4)) else (some false)) else (some false)) else (some false)) else (none)) else (some false)) else (some false)))) = some r := H
  have A1 := Aside0.mk A10
  clear A10
  replace H := Option.bind_eq_some_iff.mp H
  obtain ⟨⟨t238, t239⟩, A20, H⟩ := H
  replace H : ((region_Cut.f k t234 2 2).bind fun bt242 => (if t237 = 0 then (if (t234.length : Int) = 1 then (if 0 < (t234.length : Int) then (if (((rd_T24 t234 0).f0) == 3 && (((rd_T24 t234 0).f1) == 3 && (((rd_T24 t234 0).f2)))) = true then (if (t238.length : Int) = 3 then (if t239 = 0 then (some (bt242.2 == 4)) else (some false)) else (some false)) else (some false)) else (none)) else (some false)) else (some false))) = some r := H
  have A2 := Aside0.mk A20
  clear A20
  replace H := Option.bind_eq_some_iff.mp H
  obtain ⟨⟨t242, t243⟩, A30, H⟩ := H
  replace H : (if t237 = 0 then (if (t234.length : Int) = 1 then (if 0 < (t234.length : Int) then (if (((rd_T24 t234 0).f0) == 3 && (((rd_T24 t234 0).f1) == 3 && (((rd_T24 t234 0).f2)))) = true then (if (t238.length : Int) = 3 then (if t239 = 0 then (some (t243 == 4)) else (some false)) else (some false)) else (some false)) else (none)) else (some false)) else (some false)) = some r := H
  have A3 := Aside0.mk A30
  clear A30
  by_cases c4 : t237 = 0
  · rw [if_pos c4] at H
    have c4b0 : (t237 == 0) = true := beq_iff_eq.mpr c4
    have c4b1 : (t237 != 0) = false := bne_eq_false_iff_eq.mpr c4
    clear c4
    by_cases c5 : (t234.length : Int) = 1
    · rw [if_pos c5] at H
      have c5b0 : ((t234.length : Int) == 1) = true := beq_iff_eq.mpr c5
      have c5b1 : ((t234.length : Int) != 1) = false := bne_eq_false_iff_eq.mpr c5
      clear c5
      by_cases c6 : 0 < (t234.length : Int)
      · rw [if_pos c6] at H
        have c6b0 : decide (0 < (t234.length : Int)) = true := decide_eq_true c6
        have c6b1 : decide (0 < t234.length) = true := decide_eq_true (by omega)
        clear c6
        by_cases c7 : (((rd_T24 t234 0).f0) == 3 && (((rd_T24 t234 0).f1) == 3 && (((rd_T24 t234 0).f2)))) = true
        · rw [if_pos c7] at H
          have c7b0 : (((rd_T24 t234 0).f0) == 3 && (((rd_T24 t234 0).f1) == 3 && (((rd_T24 t234 0).f2)))) = true := c7
          (try (have c7b1 : decide (((rd_T24 t234 0).f0) = 3 && (((rd_T24 t234 0).f1) == 3 && (((rd_T24 t234 0).f2)))) = true := by simpa using c7))
          (try (have c7b2 : (((rd_T24 t234 0).f0) == 3 && (((rd_T24 t234 0).f1) == 3 && (((rd_T24 t234 0).f2)))) = true := by simpa using c7))
          clear c7
          by_cases c8 : (t238.length : Int) = 3
          · rw [if_pos c8] at H
            have c8b0 : ((t238.length : Int) == 3) = true := beq_iff_eq.mpr c8
            have c8b1 : ((t238.length : Int) != 3) = false := bne_eq_false_iff_eq.mpr c8
            clear c8
            by_cases c9 : t239 = 0
            · rw [if_pos c9] at H
              have c9b0 : (t239 == 0) = true := beq_iff_eq.mpr c9
              have c9b1 : (t239 != 0) = false := bne_eq_false_iff_eq.mpr c9
              clear c9
              obtain rfl := Option.some.inj H
              go_enter Try.func10, Try.ntmps10
              go_wp2_with (first | ((with_reducible refine gate_dst (N := 9) rfl ?_); (try (refine gate_guard (by rfl) ?_; dsimp only)); refine Kd.R_lit k24 _ 24 ?hg (N := 9) ?hd (xs := ([(⟨3, 2, true⟩ : S24)] : List (S24))) (inner := [.int .i64 3, .int .i64 2, .bool true]) (ok := fun _ => True) (okp := fun _ => True) ?hr ?hp (fun _ hk => hk) trivial (Below.refl _ _) (Nat.le_refl _) (by simp) ?_; (case hd => rfl); (case hg => rfl); (case hr => first | (go_simp; done) | (go_simp; rfl)); (case hp => exact (Reps.c3 (show Kd.M k24 _ _ _ (⟨3, 2, true⟩ : S24) [.int .i64 3, .int .i64 2, .bool true] from (k24_mkM _ _ _ (⟨3, 2, true⟩ : S24) )) (Reps.none _ _))); intro v232 w10 ho11 hb hg_ hnew_; clear hg_ hnew_; (first | rw [← Ny231.out] at ho11 | (simp only [Int.reduceToNat] at ho11; rw [← Ny231.out] at ho11)); have n0_ := Aside0.mk (Kd.R_lower ho11 (below_size (by repeat (first | (with_reducible first | exact HB.out | apply below_alloc | apply pw_below_drewN | apply below_drew1) | exact HB.out)))); have n1_ := Aside0.mk (below_step (by repeat (first | (with_reducible first | exact HB.out | apply below_alloc | apply pw_below_drewN | apply below_drew1) | exact HB.out)) hb); clear HB; have HO233 := n0_; have HB := n1_; clear n0_ n1_; clear hb ho11; obtain ⟨Ao12, co12, eo12⟩ := Kd.R_slice HO233.out; subst eo12) | ((with_reducible refine gate_callee (f := 11) rfl ?_); refine goesL_ (some 11) rfl rfl Try.func11 (by kernel_rfl) rfl #[.slice Ao12 y231.length co12, .agg #[.int .i64 5, .int .i64 1, .bool true]] rfl (by (try simp only [List.map_toArray, List.map_cons, List.map_nil]); first | done | rfl | (simp only [List.length_drop, List.length_take]; rfl)) ?_; (with_reducible refine (region_Add.calls k _ _ y231 5 1 true t234 t237 _ ?side1 ?side2 A1.out).mono ?_); (case side1 => repeat (first | exact (Kd.R_reads' HO233.out).2.2 | (with_reducible refine Kd.C_alloc ?_ _) | (with_reducible refine Kd.C_drewN ?_ _) | (with_reducible refine Kd.C_drew ?_))); (case side2 => exact (Kd.R_reads' HO233.out).2.1); rintro e w13 ⟨v235, rfl, ho0, hb⟩; refine ⟨_, rfl, ?_⟩; have n0_ := Aside0.mk (Kd.R_elder' (by (with_reducible repeat (first | apply Kd.R_alloc | apply Kd.R_drewN | apply Kd.R_drew)); exact HO233.out) (Kd.R_base ho0) hb); have n1_ := Aside0.mk (Kd.R_lower (Kd.R_new' ho0 (Kd.R_lt (by (with_reducible repeat (first | apply Kd.R_alloc | apply Kd.R_drewN | apply Kd.R_drew)); exact HO233.out))) (below_size (by repeat (first | (with_reducible first | exact HB.out | apply below_alloc | apply pw_below_drewN | apply below_drew1) | exact HB.out)))); have n2_ := Aside0.mk (below_step (by repeat (first | (with_reducible first | exact HB.out | apply below_alloc | apply pw_below_drewN | apply below_drew1) | exact HB.out)) hb); clear HO233; clear HB; have HO233 := n0_; have HO236 := n1_; have HB := n2_; clear n0_ n1_ n2_; (try clear hb); (try clear hb2); (try clear hk); (try clear hi); (try clear ho0); obtain ⟨Ao14, co14, eo14⟩ := Kd.R_slice HO236.out; subst eo14) | ((with_reducible refine gate_callee (f := 16) rfl ?_); refine goesL_ (some 16) rfl rfl Try.func16 (by kernel_rfl) rfl #[.slice Ao14 t234.length co14, .int .i64 4, .int .i64 1, .bool false] rfl (by (try simp only [List.map_toArray, List.map_cons, List.map_nil]); first | done | rfl | (simp only [List.length_drop, List.length_take]; rfl)) ?_; (with_reducible refine (region_Set.calls k _ _ t234 4 1 false t238 t239 _ ?side1 ?side2 A2.out).mono ?_); (case side1 => repeat (first | exact (Kd.R_reads' HO236.out).2.2 | (with_reducible refine Kd.C_alloc ?_ _) | (with_reducible refine Kd.C_drewN ?_ _) | (with_reducible refine Kd.C_drew ?_))); (case side2 => exact (Kd.R_reads' HO236.out).2.1); rintro e w15 ⟨v240, rfl, ho0, hb⟩; refine ⟨_, rfl, ?_⟩; have n0_ := Aside0.mk (Kd.R_elder' (by (with_reducible repeat (first | apply Kd.R_alloc | apply Kd.R_drewN | apply Kd.R_drew)); exact HO233.out) (Kd.R_base ho0) hb); have n1_ := Aside0.mk (Kd.R_elder' (by (with_reducible repeat (first | apply Kd.R_alloc | apply Kd.R_drewN | apply Kd.R_drew)); exact HO236.out) (Kd.R_base ho0) hb); have n2_ := Aside0.mk (Kd.R_lower (Kd.R_new' (Kd.R_new' ho0 (Kd.R_lt (by (with_reducible repeat (first | apply Kd.R_alloc | apply Kd.R_drewN | apply Kd.R_drew)); exact HO233.out))) (Kd.R_lt (by (with_reducible repeat (first | apply Kd.R_alloc | apply Kd.R_drewN | apply Kd.R_drew)); exact HO236.out))) (below_size (by repeat (first | (with_reducible first | exact HB.out | apply below_alloc | apply pw_below_drewN | apply below_drew1) | exact HB.out)))); have n3_ := Aside0.mk (below_step (by repeat (first | (with_reducible first | exact HB.out | apply below_alloc | apply pw_below_drewN | apply below_drew1) | exact HB.out)) hb); clear HO233; clear HO236; clear HB; have HO233 := n0_; have HO236 := n1_; have HO241 := n2_; have HB := n3_; clear n0_ n1_ n2_ n3_; (try clear hb); (try clear hb2); (try clear hk); (try clear hi); (try clear ho0)) | ((with_reducible refine gate_callee (f := 14) rfl ?_); refine goesL_ (some 21) rfl rfl Try.func14 (by kernel_rfl) rfl #[.slice Ao14 t234.length co14, .int .i64 2, .int .i64 2] rfl (by (try simp only [List.map_toArray, List.map_cons, List.map_nil]); first | done | rfl | (simp only [List.length_drop, List.length_take]; rfl)) ?_; (with_reducible refine (region_Cut.calls k _ _ t234 2 2 t242 t243 _ ?side1 ?side2 A3.out).mono ?_); (case side1 => repeat (first | exact (Kd.R_reads' HO236.out).2.2 | (with_reducible refine Kd.C_alloc ?_ _) | (with_reducible refine Kd.C_drewN ?_ _) | (with_reducible refine Kd.C_drew ?_))); (case side2 => exact (Kd.R_reads' HO236.out).2.1); rintro e w16 ⟨v244, rfl, ho0, hb⟩; refine ⟨_, rfl, ?_⟩; have n0_ := Aside0.mk (Kd.R_elder' (by (with_reducible repeat (first | apply Kd.R_alloc | apply Kd.R_drewN | apply Kd.R_drew)); exact HO233.out) (Kd.R_base ho0) hb); have n1_ := Aside0.mk (Kd.R_elder' (by (with_reducible repeat (first | apply Kd.R_alloc | apply Kd.R_drewN | apply Kd.R_drew)); exact HO236.out) (Kd.R_base ho0) hb); have n2_ := Aside0.mk (Kd.R_elder' (by (with_reducible repeat (first | apply Kd.R_alloc | apply Kd.R_drewN | apply Kd.R_drew)); exact HO241.out) (Kd.R_base ho0) hb); have n3_ := Aside0.mk (Kd.R_lower (Kd.R_new' (Kd.R_new' (Kd.R_new' ho0 (Kd.R_lt (by (with_reducible repeat (first | apply Kd.R_alloc | apply Kd.R_drewN | apply Kd.R_drew)); exact HO233.out))) (Kd.R_lt (by (with_reducible repeat (first | apply Kd.R_alloc | apply Kd.R_drewN | apply Kd.R_drew)); exact HO236.out))) (Kd.R_lt (by (with_reducible repeat (first | apply Kd.R_alloc | apply Kd.R_drewN | apply Kd.R_drew)); exact HO241.out))) (below_size (by repeat (first | (with_reducible first | exact HB.out | apply below_alloc | apply pw_below_drewN | apply below_drew1) | exact HB.out)))); have n4_ := Aside0.mk (below_step (by repeat (first | (with_reducible first | exact HB.out | apply below_alloc | apply pw_below_drewN | apply below_drew1) | exact HB.out)) hb); clear HO233; clear HO236; clear HO241; clear HB; have HO233 := n0_; have HO236 := n1_; have HO241 := n2_; have HO245 := n3_; have HB := n4_; clear n0_ n1_ n2_ n3_ n4_; (try clear hb); (try clear hb2); (try clear hk); (try clear hi); (try clear ho0); have p246 : 0 ≤ (0 : Int) := (by omega); have q246 : 0 < (t234.length : Int) := of_decide_eq_true (by first | (with_reducible assumption) | assumption); obtain ⟨ad246, e246, hx246_0, hx246_1, hx246_2⟩ := at_T24 (Kd.R_reads' HO236.out).2.2 0 p246 q246; cases e246; have qi246 : (0 < t234.length) = True := eq_true (by omega); (try rw [show ((0 : Int)).toNat = 0 from rfl] at hx246_0); (try rw [show 0 * 3 = 0 from rfl] at hx246_0); (try rw [Addr.add_zero'] at hx246_0); (try rw [show ((0 : Int)).toNat = 0 from rfl] at hx246_1); (try rw [show 0 * 3 = 0 from rfl] at hx246_1); (try rw [Addr.add_zero'] at hx246_1); (try rw [show ((0 : Int)).toNat = 0 from rfl] at hx246_2); (try rw [show 0 * 3 = 0 from rfl] at hx246_2); (try rw [Addr.add_zero'] at hx246_2); replace p246 := eq_true p246; replace q246 := eq_true q246; obtain ⟨Ao17, co17, eo17⟩ := Kd.R_slice HO241.out; subst eo17))
              go_ret
              exact ⟨by first | rfl | (simp [errW_none, errW_some] <;> rfl) | (simp [*, errW_none, errW_some] <;> rfl), by repeat (first | (with_reducible first | exact HB.out | apply below_alloc | apply pw_below_drewN | apply below_drew1) | exact HB.out)⟩
            · rw [if_neg c9] at H
              have c9b0 : (t239 == 0) = false := beq_eq_false_iff_ne.mpr c9
              have c9b1 : (t239 != 0) = true := bne_iff_ne.mpr c9
              obtain rfl := Option.some.inj H
              go_enter Try.func10, Try.ntmps10
              go_wp2_with (first | ((with_reducible refine gate_dst (N := 9) rfl ?_); (try (refine gate_guard (by rfl) ?_; dsimp only)); refine Kd.R_lit k24 _ 24 ?hg (N := 9) ?hd (xs := ([(⟨3, 2, true⟩ : S24)] : List (S24))) (inner := [.int .i64 3, .int .i64 2, .bool true]) (ok := fun _ => True) (okp := fun _ => True) ?hr ?hp (fun _ hk => hk) trivial (Below.refl _ _) (Nat.le_refl _) (by simp) ?_; (case hd => rfl); (case hg => rfl); (case hr => first | (go_simp; done) | (go_simp; rfl)); (case hp => exact (Reps.c3 (show Kd.M k24 _ _ _ (⟨3, 2, true⟩ : S24) [.int .i64 3, .int .i64 2, .bool true] from (k24_mkM _ _ _ (⟨3, 2, true⟩ : S24) )) (Reps.none _ _))); intro v232 w18 ho19 hb hg_ hnew_; clear hg_ hnew_; (first | rw [← Ny231.out] at ho19 | (simp only [Int.reduceToNat] at ho19; rw [← Ny231.out] at ho19)); have n0_ := Aside0.mk (Kd.R_lower ho19 (below_size (by repeat (first | (with_reducible first | exact HB.out | apply below_alloc | apply pw_below_drewN | apply below_drew1) | exact HB.out)))); have n1_ := Aside0.mk (below_step (by repeat (first | (with_reducible first | exact HB.out | apply below_alloc | apply pw_below_drewN | apply below_drew1) | exact HB.out)) hb); clear HB; have HO233 := n0_; have HB := n1_; clear n0_ n1_; clear hb ho19; obtain ⟨Ao20, co20, eo20⟩ := Kd.R_slice HO233.out; subst eo20) | ((with_reducible refine gate_callee (f := 11) rfl ?_); refine goesL_ (some 11) rfl rfl Try.func11 (by kernel_rfl) rfl #[.slice Ao20 y231.length co20, .agg #[.int .i64 5, .int .i64 1, .bool true]] rfl (by (try simp only [List.map_toArray, List.map_cons, List.map_nil]); first | done | rfl | (simp only [List.length_drop, List.length_take]; rfl)) ?_; (with_reducible refine (region_Add.calls k _ _ y231 5 1 true t234 t237 _ ?side1 ?side2 A1.out).mono ?_); (case side1 => repeat (first | exact (Kd.R_reads' HO233.out).2.2 | (with_reducible refine Kd.C_alloc ?_ _) | (with_reducible refine Kd.C_drewN ?_ _) | (with_reducible refine Kd.C_drew ?_))); (case side2 => exact (Kd.R_reads' HO233.out).2.1); rintro e w21 ⟨v235, rfl, ho0, hb⟩; refine ⟨_, rfl, ?_⟩; have n0_ := Aside0.mk (Kd.R_elder' (by (with_reducible repeat (first | apply Kd.R_alloc | apply Kd.R_drewN | apply Kd.R_drew)); exact HO233.out) (Kd.R_base ho0) hb); have n1_ := Aside0.mk (Kd.R_lower (Kd.R_new' ho0 (Kd.R_lt (by (with_reducible repeat (first | apply Kd.R_alloc | apply Kd.R_drewN | apply Kd.R_drew)); exact HO233.out))) (below_size (by repeat (first | (with_reducible first | exact HB.out | apply below_alloc | apply pw_below_drewN | apply below_drew1) | exact HB.out)))); have n2_ := Aside0.mk (below_step (by repeat (first | (with_reducible first | exact HB.out | apply below_alloc | apply pw_below_drewN | apply below_drew1) | exact HB.out)) hb); clear HO233; clear HB; have HO233 := n0_; have HO236 := n1_; have HB := n2_; clear n0_ n1_ n2_; (try clear hb); (try clear hb2); (try clear hk); (try clear hi); (try clear ho0); obtain ⟨Ao22, co22, eo22⟩ := Kd.R_slice HO236.out; subst eo22) | ((with_reducible refine gate_callee (f := 16) rfl ?_); refine goesL_ (some 16) rfl rfl Try.func16 (by kernel_rfl) rfl #[.slice Ao22 t234.length co22, .int .i64 4, .int .i64 1, .bool false] rfl (by (try simp only [List.map_toArray, List.map_cons, List.map_nil]); first | done | rfl | (simp only [List.length_drop, List.length_take]; rfl)) ?_; (with_reducible refine (region_Set.calls k _ _ t234 4 1 false t238 t239 _ ?side1 ?side2 A2.out).mono ?_); (case side1 => repeat (first | exact (Kd.R_reads' HO236.out).2.2 | (with_reducible refine Kd.C_alloc ?_ _) | (with_reducible refine Kd.C_drewN ?_ _) | (with_reducible refine Kd.C_drew ?_))); (case side2 => exact (Kd.R_reads' HO236.out).2.1); rintro e w23 ⟨v240, rfl, ho0, hb⟩; refine ⟨_, rfl, ?_⟩; have n0_ := Aside0.mk (Kd.R_elder' (by (with_reducible repeat (first | apply Kd.R_alloc | apply Kd.R_drewN | apply Kd.R_drew)); exact HO233.out) (Kd.R_base ho0) hb); have n1_ := Aside0.mk (Kd.R_elder' (by (with_reducible repeat (first | apply Kd.R_alloc | apply Kd.R_drewN | apply Kd.R_drew)); exact HO236.out) (Kd.R_base ho0) hb); have n2_ := Aside0.mk (Kd.R_lower (Kd.R_new' (Kd.R_new' ho0 (Kd.R_lt (by (with_reducible repeat (first | apply Kd.R_alloc | apply Kd.R_drewN | apply Kd.R_drew)); exact HO233.out))) (Kd.R_lt (by (with_reducible repeat (first | apply Kd.R_alloc | apply Kd.R_drewN | apply Kd.R_drew)); exact HO236.out))) (below_size (by repeat (first | (with_reducible first | exact HB.out | apply below_alloc | apply pw_below_drewN | apply below_drew1) | exact HB.out)))); have n3_ := Aside0.mk (below_step (by repeat (first | (with_reducible first | exact HB.out | apply below_alloc | apply pw_below_drewN | apply below_drew1) | exact HB.out)) hb); clear HO233; clear HO236; clear HB; have HO233 := n0_; have HO236 := n1_; have HO241 := n2_; have HB := n3_; clear n0_ n1_ n2_ n3_; (try clear hb); (try clear hb2); (try clear hk); (try clear hi); (try clear ho0)) | ((with_reducible refine gate_callee (f := 14) rfl ?_); refine goesL_ (some 21) rfl rfl Try.func14 (by kernel_rfl) rfl #[.slice Ao22 t234.length co22, .int .i64 2, .int .i64 2] rfl (by (try simp only [List.map_toArray, List.map_cons, List.map_nil]); first | done | rfl | (simp only [List.length_drop, List.length_take]; rfl)) ?_; (with_reducible refine (region_Cut.calls k _ _ t234 2 2 t242 t243 _ ?side1 ?side2 A3.out).mono ?_); (case side1 => repeat (first | exact (Kd.R_reads' HO236.out).2.2 | (with_reducible refine Kd.C_alloc ?_ _) | (with_reducible refine Kd.C_drewN ?_ _) | (with_reducible refine Kd.C_drew ?_))); (case side2 => exact (Kd.R_reads' HO236.out).2.1); rintro e w24 ⟨v244, rfl, ho0, hb⟩; refine ⟨_, rfl, ?_⟩; have n0_ := Aside0.mk (Kd.R_elder' (by (with_reducible repeat (first | apply Kd.R_alloc | apply Kd.R_drewN | apply Kd.R_drew)); exact HO233.out) (Kd.R_base ho0) hb); have n1_ := Aside0.mk (Kd.R_elder' (by (with_reducible repeat (first | apply Kd.R_alloc | apply Kd.R_drewN | apply Kd.R_drew)); exact HO236.out) (Kd.R_base ho0) hb); have n2_ := Aside0.mk (Kd.R_elder' (by (with_reducible repeat (first | apply Kd.R_alloc | apply Kd.R_drewN | apply Kd.R_drew)); exact HO241.out) (Kd.R_base ho0) hb); have n3_ := Aside0.mk (Kd.R_lower (Kd.R_new' (Kd.R_new' (Kd.R_new' ho0 (Kd.R_lt (by (with_reducible repeat (first | apply Kd.R_alloc | apply Kd.R_drewN | apply Kd.R_drew)); exact HO233.out))) (Kd.R_lt (by (with_reducible repeat (first | apply Kd.R_alloc | apply Kd.R_drewN | apply Kd.R_drew)); exact HO236.out))) (Kd.R_lt (by (with_reducible repeat (first | apply Kd.R_alloc | apply Kd.R_drewN | apply Kd.R_drew)); exact HO241.out))) (below_size (by repeat (first | (with_reducible first | exact HB.out | apply below_alloc | apply pw_below_drewN | apply below_drew1) | exact HB.out)))); have n4_ := Aside0.mk (below_step (by repeat (first | (with_reducible first | exact HB.out | apply below_alloc | apply pw_below_drewN | apply below_drew1) | exact HB.out)) hb); clear HO233; clear HO236; clear HO241; clear HB; have HO233 := n0_; have HO236 := n1_; have HO241 := n2_; have HO245 := n3_; have HB := n4_; clear n0_ n1_ n2_ n3_ n4_; (try clear hb); (try clear hb2); (try clear hk); (try clear hi); (try clear ho0); have p246 : 0 ≤ (0 : Int) := (by omega); have q246 : 0 < (t234.length : Int) := of_decide_eq_true (by first | (with_reducible assumption) | assumption); obtain ⟨ad246, e246, hx246_0, hx246_1, hx246_2⟩ := at_T24 (Kd.R_reads' HO236.out).2.2 0 p246 q246; cases e246; have qi246 : (0 < t234.length) = True := eq_true (by omega); (try rw [show ((0 : Int)).toNat = 0 from rfl] at hx246_0); (try rw [show 0 * 3 = 0 from rfl] at hx246_0); (try rw [Addr.add_zero'] at hx246_0); (try rw [show ((0 : Int)).toNat = 0 from rfl] at hx246_1); (try rw [show 0 * 3 = 0 from rfl] at hx246_1); (try rw [Addr.add_zero'] at hx246_1); (try rw [show ((0 : Int)).toNat = 0 from rfl] at hx246_2); (try rw [show 0 * 3 = 0 from rfl] at hx246_2); (try rw [Addr.add_zero'] at hx246_2); replace p246 := eq_true p246; replace q246 := eq_true q246; obtain ⟨Ao25, co25, eo25⟩ := Kd.R_slice HO241.out; subst eo25))
              go_ret
              exact ⟨by first | rfl | (simp [errW_none, errW_some] <;> rfl) | (simp [*, errW_none, errW_some] <;> rfl), by repeat (first | (with_reducible first | exact HB.out | apply below_alloc | apply pw_below_drewN | apply below_drew1) | exact HB.out)⟩
          · rw [if_neg c8] at H
            have c8b0 : ((t238.length : Int) == 3) = false := beq_eq_false_iff_ne.mpr c8
            have c8b1 : ((t238.length : Int) != 3) = true := bne_iff_ne.mpr c8
            obtain rfl := Option.some.inj H
            go_enter Try.func10, Try.ntmps10
            go_wp2_with (first | ((with_reducible refine gate_dst (N := 9) rfl ?_); (try (refine gate_guard (by rfl) ?_; dsimp only)); refine Kd.R_lit k24 _ 24 ?hg (N := 9) ?hd (xs := ([(⟨3, 2, true⟩ : S24)] : List (S24))) (inner := [.int .i64 3, .int .i64 2, .bool true]) (ok := fun _ => True) (okp := fun _ => True) ?hr ?hp (fun _ hk => hk) trivial (Below.refl _ _) (Nat.le_refl _) (by simp) ?_; (case hd => rfl); (case hg => rfl); (case hr => first | (go_simp; done) | (go_simp; rfl)); (case hp => exact (Reps.c3 (show Kd.M k24 _ _ _ (⟨3, 2, true⟩ : S24) [.int .i64 3, .int .i64 2, .bool true] from (k24_mkM _ _ _ (⟨3, 2, true⟩ : S24) )) (Reps.none _ _))); intro v232 w26 ho27 hb hg_ hnew_; clear hg_ hnew_; (first | rw [← Ny231.out] at ho27 | (simp only [Int.reduceToNat] at ho27; rw [← Ny231.out] at ho27)); have n0_ := Aside0.mk (Kd.R_lower ho27 (below_size (by repeat (first | (with_reducible first | exact HB.out | apply below_alloc | apply pw_below_drewN | apply below_drew1) | exact HB.out)))); have n1_ := Aside0.mk (below_step (by repeat (first | (with_reducible first | exact HB.out | apply below_alloc | apply pw_below_drewN | apply below_drew1) | exact HB.out)) hb); clear HB; have HO233 := n0_; have HB := n1_; clear n0_ n1_; clear hb ho27; obtain ⟨Ao28, co28, eo28⟩ := Kd.R_slice HO233.out; subst eo28) | ((with_reducible refine gate_callee (f := 11) rfl ?_); refine goesL_ (some 11) rfl rfl Try.func11 (by kernel_rfl) rfl #[.slice Ao28 y231.length co28, .agg #[.int .i64 5, .int .i64 1, .bool true]] rfl (by (try simp only [List.map_toArray, List.map_cons, List.map_nil]); first | done | rfl | (simp only [List.length_drop, List.length_take]; rfl)) ?_; (with_reducible refine (region_Add.calls k _ _ y231 5 1 true t234 t237 _ ?side1 ?side2 A1.out).mono ?_); (case side1 => repeat (first | exact (Kd.R_reads' HO233.out).2.2 | (with_reducible refine Kd.C_alloc ?_ _) | (with_reducible refine Kd.C_drewN ?_ _) | (with_reducible refine Kd.C_drew ?_))); (case side2 => exact (Kd.R_reads' HO233.out).2.1); rintro e w29 ⟨v235, rfl, ho0, hb⟩; refine ⟨_, rfl, ?_⟩; have n0_ := Aside0.mk (Kd.R_elder' (by (with_reducible repeat (first | apply Kd.R_alloc | apply Kd.R_drewN | apply Kd.R_drew)); exact HO233.out) (Kd.R_base ho0) hb); have n1_ := Aside0.mk (Kd.R_lower (Kd.R_new' ho0 (Kd.R_lt (by (with_reducible repeat (first | apply Kd.R_alloc | apply Kd.R_drewN | apply Kd.R_drew)); exact HO233.out))) (below_size (by repeat (first | (with_reducible first | exact HB.out | apply below_alloc | apply pw_below_drewN | apply below_drew1) | exact HB.out)))); have n2_ := Aside0.mk (below_step (by repeat (first | (with_reducible first | exact HB.out | apply below_alloc | apply pw_below_drewN | apply below_drew1) | exact HB.out)) hb); clear HO233; clear HB; have HO233 := n0_; have HO236 := n1_; have HB := n2_; clear n0_ n1_ n2_; (try clear hb); (try clear hb2); (try clear hk); (try clear hi); (try clear ho0); obtain ⟨Ao30, co30, eo30⟩ := Kd.R_slice HO236.out; subst eo30) | ((with_reducible refine gate_callee (f := 16) rfl ?_); refine goesL_ (some 16) rfl rfl Try.func16 (by kernel_rfl) rfl #[.slice Ao30 t234.length co30, .int .i64 4, .int .i64 1, .bool false] rfl (by (try simp only [List.map_toArray, List.map_cons, List.map_nil]); first | done | rfl | (simp only [List.length_drop, List.length_take]; rfl)) ?_; (with_reducible refine (region_Set.calls k _ _ t234 4 1 false t238 t239 _ ?side1 ?side2 A2.out).mono ?_); (case side1 => repeat (first | exact (Kd.R_reads' HO236.out).2.2 | (with_reducible refine Kd.C_alloc ?_ _) | (with_reducible refine Kd.C_drewN ?_ _) | (with_reducible refine Kd.C_drew ?_))); (case side2 => exact (Kd.R_reads' HO236.out).2.1); rintro e w31 ⟨v240, rfl, ho0, hb⟩; refine ⟨_, rfl, ?_⟩; have n0_ := Aside0.mk (Kd.R_elder' (by (with_reducible repeat (first | apply Kd.R_alloc | apply Kd.R_drewN | apply Kd.R_drew)); exact HO233.out) (Kd.R_base ho0) hb); have n1_ := Aside0.mk (Kd.R_elder' (by (with_reducible repeat (first | apply Kd.R_alloc | apply Kd.R_drewN | apply Kd.R_drew)); exact HO236.out) (Kd.R_base ho0) hb); have n2_ := Aside0.mk (Kd.R_lower (Kd.R_new' (Kd.R_new' ho0 (Kd.R_lt (by (with_reducible repeat (first | apply Kd.R_alloc | apply Kd.R_drewN | apply Kd.R_drew)); exact HO233.out))) (Kd.R_lt (by (with_reducible repeat (first | apply Kd.R_alloc | apply Kd.R_drewN | apply Kd.R_drew)); exact HO236.out))) (below_size (by repeat (first | (with_reducible first | exact HB.out | apply below_alloc | apply pw_below_drewN | apply below_drew1) | exact HB.out)))); have n3_ := Aside0.mk (below_step (by repeat (first | (with_reducible first | exact HB.out | apply below_alloc | apply pw_below_drewN | apply below_drew1) | exact HB.out)) hb); clear HO233; clear HO236; clear HB; have HO233 := n0_; have HO236 := n1_; have HO241 := n2_; have HB := n3_; clear n0_ n1_ n2_ n3_; (try clear hb); (try clear hb2); (try clear hk); (try clear hi); (try clear ho0)) | ((with_reducible refine gate_callee (f := 14) rfl ?_); refine goesL_ (some 21) rfl rfl Try.func14 (by kernel_rfl) rfl #[.slice Ao30 t234.length co30, .int .i64 2, .int .i64 2] rfl (by (try simp only [List.map_toArray, List.map_cons, List.map_nil]); first | done | rfl | (simp only [List.length_drop, List.length_take]; rfl)) ?_; (with_reducible refine (region_Cut.calls k _ _ t234 2 2 t242 t243 _ ?side1 ?side2 A3.out).mono ?_); (case side1 => repeat (first | exact (Kd.R_reads' HO236.out).2.2 | (with_reducible refine Kd.C_alloc ?_ _) | (with_reducible refine Kd.C_drewN ?_ _) | (with_reducible refine Kd.C_drew ?_))); (case side2 => exact (Kd.R_reads' HO236.out).2.1); rintro e w32 ⟨v244, rfl, ho0, hb⟩; refine ⟨_, rfl, ?_⟩; have n0_ := Aside0.mk (Kd.R_elder' (by (with_reducible repeat (first | apply Kd.R_alloc | apply Kd.R_drewN | apply Kd.R_drew)); exact HO233.out) (Kd.R_base ho0) hb); have n1_ := Aside0.mk (Kd.R_elder' (by (with_reducible repeat (first | apply Kd.R_alloc | apply Kd.R_drewN | apply Kd.R_drew)); exact HO236.out) (Kd.R_base ho0) hb); have n2_ := Aside0.mk (Kd.R_elder' (by (with_reducible repeat (first | apply Kd.R_alloc | apply Kd.R_drewN | apply Kd.R_drew)); exact HO241.out) (Kd.R_base ho0) hb); have n3_ := Aside0.mk (Kd.R_lower (Kd.R_new' (Kd.R_new' (Kd.R_new' ho0 (Kd.R_lt (by (with_reducible repeat (first | apply Kd.R_alloc | apply Kd.R_drewN | apply Kd.R_drew)); exact HO233.out))) (Kd.R_lt (by (with_reducible repeat (first | apply Kd.R_alloc | apply Kd.R_drewN | apply Kd.R_drew)); exact HO236.out))) (Kd.R_lt (by (with_reducible repeat (first | apply Kd.R_alloc | apply Kd.R_drewN | apply Kd.R_drew)); exact HO241.out))) (below_size (by repeat (first | (with_reducible first | exact HB.out | apply below_alloc | apply pw_below_drewN | apply below_drew1) | exact HB.out)))); have n4_ := Aside0.mk (below_step (by repeat (first | (with_reducible first | exact HB.out | apply below_alloc | apply pw_below_drewN | apply below_drew1) | exact HB.out)) hb); clear HO233; clear HO236; clear HO241; clear HB; have HO233 := n0_; have HO236 := n1_; have HO241 := n2_; have HO245 := n3_; have HB := n4_; clear n0_ n1_ n2_ n3_ n4_; (try clear hb); (try clear hb2); (try clear hk); (try clear hi); (try clear ho0); have p246 : 0 ≤ (0 : Int) := (by omega); have q246 : 0 < (t234.length : Int) := of_decide_eq_true (by first | (with_reducible assumption) | assumption); obtain ⟨ad246, e246, hx246_0, hx246_1, hx246_2⟩ := at_T24 (Kd.R_reads' HO236.out).2.2 0 p246 q246; cases e246; have qi246 : (0 < t234.length) = True := eq_true (by omega); (try rw [show ((0 : Int)).toNat = 0 from rfl] at hx246_0); (try rw [show 0 * 3 = 0 from rfl] at hx246_0); (try rw [Addr.add_zero'] at hx246_0); (try rw [show ((0 : Int)).toNat = 0 from rfl] at hx246_1); (try rw [show 0 * 3 = 0 from rfl] at hx246_1); (try rw [Addr.add_zero'] at hx246_1); (try rw [show ((0 : Int)).toNat = 0 from rfl] at hx246_2); (try rw [show 0 * 3 = 0 from rfl] at hx246_2); (try rw [Addr.add_zero'] at hx246_2); replace p246 := eq_true p246; replace q246 := eq_true q246; obtain ⟨Ao33, co33, eo33⟩ := Kd.R_slice HO241.out; subst eo33))
            go_ret
            exact ⟨by first | rfl | (simp [errW_none, errW_some] <;> rfl) | (simp [*, errW_none, errW_some] <;> rfl), by repeat (first | (with_reducible first | exact HB.out | apply below_alloc | apply pw_below_drewN | apply below_drew1) | exact HB.out)⟩
        · rw [if_neg c7] at H
          have c7b0 : (((rd_T24 t234 0).f0) == 3 && (((rd_T24 t234 0).f1) == 3 && (((rd_T24 t234 0).f2)))) = false := by simpa using c7
          (try (have c7b1 : decide (((rd_T24 t234 0).f0) = 3 && (((rd_T24 t234 0).f1) == 3 && (((rd_T24 t234 0).f2)))) = false := by simpa using c7))
          (try (have c7b2 : (((rd_T24 t234 0).f0) == 3 && (((rd_T24 t234 0).f1) == 3 && (((rd_T24 t234 0).f2)))) = false := by simpa using c7))
          (try (have c7b3 : ¬ (((rd_T24 t234 0).f0) = 3 && (((rd_T24 t234 0).f1) == 3 && (((rd_T24 t234 0).f2)))) := by simpa using c7))
          clear c7
          obtain rfl := Option.some.inj H
          go_enter Try.func10, Try.ntmps10
          go_wp2_with (first | ((with_reducible refine gate_dst (N := 9) rfl ?_); (try (refine gate_guard (by rfl) ?_; dsimp only)); refine Kd.R_lit k24 _ 24 ?hg (N := 9) ?hd (xs := ([(⟨3, 2, true⟩ : S24)] : List (S24))) (inner := [.int .i64 3, .int .i64 2, .bool true]) (ok := fun _ => True) (okp := fun _ => True) ?hr ?hp (fun _ hk => hk) trivial (Below.refl _ _) (Nat.le_refl _) (by simp) ?_; (case hd => rfl); (case hg => rfl); (case hr => first | (go_simp; done) | (go_simp; rfl)); (case hp => exact (Reps.c3 (show Kd.M k24 _ _ _ (⟨3, 2, true⟩ : S24) [.int .i64 3, .int .i64 2, .bool true] from (k24_mkM _ _ _ (⟨3, 2, true⟩ : S24) )) (Reps.none _ _))); intro v232 w34 ho35 hb hg_ hnew_; clear hg_ hnew_; (first | rw [← Ny231.out] at ho35 | (simp only [Int.reduceToNat] at ho35; rw [← Ny231.out] at ho35)); have n0_ := Aside0.mk (Kd.R_lower ho35 (below_size (by repeat (first | (with_reducible first | exact HB.out | apply below_alloc | apply pw_below_drewN | apply below_drew1) | exact HB.out)))); have n1_ := Aside0.mk (below_step (by repeat (first | (with_reducible first | exact HB.out | apply below_alloc | apply pw_below_drewN | apply below_drew1) | exact HB.out)) hb); clear HB; have HO233 := n0_; have HB := n1_; clear n0_ n1_; clear hb ho35; obtain ⟨Ao36, co36, eo36⟩ := Kd.R_slice HO233.out; subst eo36) | ((with_reducible refine gate_callee (f := 11) rfl ?_); refine goesL_ (some 11) rfl rfl Try.func11 (by kernel_rfl) rfl #[.slice Ao36 y231.length co36, .agg #[.int .i64 5, .int .i64 1, .bool true]] rfl (by (try simp only [List.map_toArray, List.map_cons, List.map_nil]); first | done | rfl | (simp only [List.length_drop, List.length_take]; rfl)) ?_; (with_reducible refine (region_Add.calls k _ _ y231 5 1 true t234 t237 _ ?side1 ?side2 A1.out).mono ?_); (case side1 => repeat (first | exact (Kd.R_reads' HO233.out).2.2 | (with_reducible refine Kd.C_alloc ?_ _) | (with_reducible refine Kd.C_drewN ?_ _) | (with_reducible refine Kd.C_drew ?_))); (case side2 => exact (Kd.R_reads' HO233.out).2.1); rintro e w37 ⟨v235, rfl, ho0, hb⟩; refine ⟨_, rfl, ?_⟩; have n0_ := Aside0.mk (Kd.R_elder' (by (with_reducible repeat (first | apply Kd.R_alloc | apply Kd.R_drewN | apply Kd.R_drew)); exact HO233.out) (Kd.R_base ho0) hb); have n1_ := Aside0.mk (Kd.R_lower (Kd.R_new' ho0 (Kd.R_lt (by (with_reducible repeat (first | apply Kd.R_alloc | apply Kd.R_drewN | apply Kd.R_drew)); exact HO233.out))) (below_size (by repeat (first | (with_reducible first | exact HB.out | apply below_alloc | apply pw_below_drewN | apply below_drew1) | exact HB.out)))); have n2_ := Aside0.mk (below_step (by repeat (first | (with_reducible first | exact HB.out | apply below_alloc | apply pw_below_drewN | apply below_drew1) | exact HB.out)) hb); clear HO233; clear HB; have HO233 := n0_; have HO236 := n1_; have HB := n2_; clear n0_ n1_ n2_; (try clear hb); (try clear hb2); (try clear hk); (try clear hi); (try clear ho0); obtain ⟨Ao38, co38, eo38⟩ := Kd.R_slice HO236.out; subst eo38) | ((with_reducible refine gate_callee (f := 16) rfl ?_); refine goesL_ (some 16) rfl rfl Try.func16 (by kernel_rfl) rfl #[.slice Ao38 t234.length co38, .int .i64 4, .int .i64 1, .bool false] rfl (by (try simp only [List.map_toArray, List.map_cons, List.map_nil]); first | done | rfl | (simp only [List.length_drop, List.length_take]; rfl)) ?_; (with_reducible refine (region_Set.calls k _ _ t234 4 1 false t238 t239 _ ?side1 ?side2 A2.out).mono ?_); (case side1 => repeat (first | exact (Kd.R_reads' HO236.out).2.2 | (with_reducible refine Kd.C_alloc ?_ _) | (with_reducible refine Kd.C_drewN ?_ _) | (with_reducible refine Kd.C_drew ?_))); (case side2 => exact (Kd.R_reads' HO236.out).2.1); rintro e w39 ⟨v240, rfl, ho0, hb⟩; refine ⟨_, rfl, ?_⟩; have n0_ := Aside0.mk (Kd.R_elder' (by (with_reducible repeat (first | apply Kd.R_alloc | apply Kd.R_drewN | apply Kd.R_drew)); exact HO233.out) (Kd.R_base ho0) hb); have n1_ := Aside0.mk (Kd.R_elder' (by (with_reducible repeat (first | apply Kd.R_alloc | apply Kd.R_drewN | apply Kd.R_drew)); exact HO236.out) (Kd.R_base ho0) hb); have n2_ := Aside0.mk (Kd.R_lower (Kd.R_new' (Kd.R_new' ho0 (Kd.R_lt (by (with_reducible repeat (first | apply Kd.R_alloc | apply Kd.R_drewN | apply Kd.R_drew)); exact HO233.out))) (Kd.R_lt (by (with_reducible repeat (first | apply Kd.R_alloc | apply Kd.R_drewN | apply Kd.R_drew)); exact HO236.out))) (below_size (by repeat (first | (with_reducible first | exact HB.out | apply below_alloc | apply pw_below_drewN | apply below_drew1) | exact HB.out)))); have n3_ := Aside0.mk (below_step (by repeat (first | (with_reducible first | exact HB.out | apply below_alloc | apply pw_below_drewN | apply below_drew1) | exact HB.out)) hb); clear HO233; clear HO236; clear HB; have HO233 := n0_; have HO236 := n1_; have HO241 := n2_; have HB := n3_; clear n0_ n1_ n2_ n3_; (try clear hb); (try clear hb2); (try clear hk); (try clear hi); (try clear ho0)) | ((with_reducible refine gate_callee (f := 14) rfl ?_); refine goesL_ (some 21) rfl rfl Try.func14 (by kernel_rfl) rfl #[.slice Ao38 t234.length co38, .int .i64 2, .int .i64 2] rfl (by (try simp only [List.map_toArray, List.map_cons, List.map_nil]); first | done | rfl | (simp only [List.length_drop, List.length_take]; rfl)) ?_; (with_reducible refine (region_Cut.calls k _ _ t234 2 2 t242 t243 _ ?side1 ?side2 A3.out).mono ?_); (case side1 => repeat (first | exact (Kd.R_reads' HO236.out).2.2 | (with_reducible refine Kd.C_alloc ?_ _) | (with_reducible refine Kd.C_drewN ?_ _) | (with_reducible refine Kd.C_drew ?_))); (case side2 => exact (Kd.R_reads' HO236.out).2.1); rintro e w40 ⟨v244, rfl, ho0, hb⟩; refine ⟨_, rfl, ?_⟩; have n0_ := Aside0.mk (Kd.R_elder' (by (with_reducible repeat (first | apply Kd.R_alloc | apply Kd.R_drewN | apply Kd.R_drew)); exact HO233.out) (Kd.R_base ho0) hb); have n1_ := Aside0.mk (Kd.R_elder' (by (with_reducible repeat (first | apply Kd.R_alloc | apply Kd.R_drewN | apply Kd.R_drew)); exact HO236.out) (Kd.R_base ho0) hb); have n2_ := Aside0.mk (Kd.R_elder' (by (with_reducible repeat (first | apply Kd.R_alloc | apply Kd.R_drewN | apply Kd.R_drew)); exact HO241.out) (Kd.R_base ho0) hb); have n3_ := Aside0.mk (Kd.R_lower (Kd.R_new' (Kd.R_new' (Kd.R_new' ho0 (Kd.R_lt (by (with_reducible repeat (first | apply Kd.R_alloc | apply Kd.R_drewN | apply Kd.R_drew)); exact HO233.out))) (Kd.R_lt (by (with_reducible repeat (first | apply Kd.R_alloc | apply Kd.R_drewN | apply Kd.R_drew)); exact HO236.out))) (Kd.R_lt (by (with_reducible repeat (first | apply Kd.R_alloc | apply Kd.R_drewN | apply Kd.R_drew)); exact HO241.out))) (below_size (by repeat (first | (with_reducible first | exact HB.out | apply below_alloc | apply pw_below_drewN | apply below_drew1) | exact HB.out)))); have n4_ := Aside0.mk (below_step (by repeat (first | (with_reducible first | exact HB.out | apply below_alloc | apply pw_below_drewN | apply below_drew1) | exact HB.out)) hb); clear HO233; clear HO236; clear HO241; clear HB; have HO233 := n0_; have HO236 := n1_; have HO241 := n2_; have HO245 := n3_; have HB := n4_; clear n0_ n1_ n2_ n3_ n4_; (try clear hb); (try clear hb2); (try clear hk); (try clear hi); (try clear ho0); have p246 : 0 ≤ (0 : Int) := (by omega); have q246 : 0 < (t234.length : Int) := of_decide_eq_true (by first | (with_reducible assumption) | assumption); obtain ⟨ad246, e246, hx246_0, hx246_1, hx246_2⟩ := at_T24 (Kd.R_reads' HO236.out).2.2 0 p246 q246; cases e246; have qi246 : (0 < t234.length) = True := eq_true (by omega); (try rw [show ((0 : Int)).toNat = 0 from rfl] at hx246_0); (try rw [show 0 * 3 = 0 from rfl] at hx246_0); (try rw [Addr.add_zero'] at hx246_0); (try rw [show ((0 : Int)).toNat = 0 from rfl] at hx246_1); (try rw [show 0 * 3 = 0 from rfl] at hx246_1); (try rw [Addr.add_zero'] at hx246_1); (try rw [show ((0 : Int)).toNat = 0 from rfl] at hx246_2); (try rw [show 0 * 3 = 0 from rfl] at hx246_2); (try rw [Addr.add_zero'] at hx246_2); replace p246 := eq_true p246; replace q246 := eq_true q246))
          go_ret
          exact ⟨by first | rfl | (simp [errW_none, errW_some] <;> rfl) | (simp [*, errW_none, errW_some] <;> rfl), by repeat (first | (with_reducible first | exact HB.out | apply below_alloc | apply pw_below_drewN | apply below_drew1) | exact HB.out)⟩
      · rw [if_neg c6] at H
        exact absurd H (by simp)
    · rw [if_neg c5] at H
      have c5b0 : ((t234.length : Int) == 1) = false := beq_eq_false_iff_ne.mpr c5
      have c5b1 : ((t234.length : Int) != 1) = true := bne_iff_ne.mpr c5
      obtain rfl := Option.some.inj H
      go_enter Try.func10, Try.ntmps10
      go_wp2_with (first | ((with_reducible refine gate_dst (N := 9) rfl ?_); (try (refine gate_guard (by rfl) ?_; dsimp only)); refine Kd.R_lit k24 _ 24 ?hg (N := 9) ?hd (xs := ([(⟨3, 2, true⟩ : S24)] : List (S24))) (inner := [.int .i64 3, .int .i64 2, .bool true]) (ok := fun _ => True) (okp := fun _ => True) ?hr ?hp (fun _ hk => hk) trivial (Below.refl _ _) (Nat.le_refl _) (by simp) ?_; (case hd => rfl); (case hg => rfl); (case hr => first | (go_simp; done) | (go_simp; rfl)); (case hp => exact (Reps.c3 (show Kd.M k24 _ _ _ (⟨3, 2, true⟩ : S24) [.int .i64 3, .int .i64 2, .bool true] from (k24_mkM _ _ _ (⟨3, 2, true⟩ : S24) )) (Reps.none _ _))); intro v232 w41 ho42 hb hg_ hnew_; clear hg_ hnew_; (first | rw [← Ny231.out] at ho42 | (simp only [Int.reduceToNat] at ho42; rw [← Ny231.out] at ho42)); have n0_ := Aside0.mk (Kd.R_lower ho42 (below_size (by repeat (first | (with_reducible first | exact HB.out | apply below_alloc | apply pw_below_drewN | apply below_drew1) | exact HB.out)))); have n1_ := Aside0.mk (below_step (by repeat (first | (with_reducible first | exact HB.out | apply below_alloc | apply pw_below_drewN | apply below_drew1) | exact HB.out)) hb); clear HB; have HO233 := n0_; have HB := n1_; clear n0_ n1_; clear hb ho42; obtain ⟨Ao43, co43, eo43⟩ := Kd.R_slice HO233.out; subst eo43) | ((with_reducible refine gate_callee (f := 11) rfl ?_); refine goesL_ (some 11) rfl rfl Try.func11 (by kernel_rfl) rfl #[.slice Ao43 y231.length co43, .agg #[.int .i64 5, .int .i64 1, .bool true]] rfl (by (try simp only [List.map_toArray, List.map_cons, List.map_nil]); first | done | rfl | (simp only [List.length_drop, List.length_take]; rfl)) ?_; (with_reducible refine (region_Add.calls k _ _ y231 5 1 true t234 t237 _ ?side1 ?side2 A1.out).mono ?_); (case side1 => repeat (first | exact (Kd.R_reads' HO233.out).2.2 | (with_reducible refine Kd.C_alloc ?_ _) | (with_reducible refine Kd.C_drewN ?_ _) | (with_reducible refine Kd.C_drew ?_))); (case side2 => exact (Kd.R_reads' HO233.out).2.1); rintro e w44 ⟨v235, rfl, ho0, hb⟩; refine ⟨_, rfl, ?_⟩; have n0_ := Aside0.mk (Kd.R_elder' (by (with_reducible repeat (first | apply Kd.R_alloc | apply Kd.R_drewN | apply Kd.R_drew)); exact HO233.out) (Kd.R_base ho0) hb); have n1_ := Aside0.mk (Kd.R_lower (Kd.R_new' ho0 (Kd.R_lt (by (with_reducible repeat (first | apply Kd.R_alloc | apply Kd.R_drewN | apply Kd.R_drew)); exact HO233.out))) (below_size (by repeat (first | (with_reducible first | exact HB.out | apply below_alloc | apply pw_below_drewN | apply below_drew1) | exact HB.out)))); have n2_ := Aside0.mk (below_step (by repeat (first | (with_reducible first | exact HB.out | apply below_alloc | apply pw_below_drewN | apply below_drew1) | exact HB.out)) hb); clear HO233; clear HB; have HO233 := n0_; have HO236 := n1_; have HB := n2_; clear n0_ n1_ n2_; (try clear hb); (try clear hb2); (try clear hk); (try clear hi); (try clear ho0); obtain ⟨Ao45, co45, eo45⟩ := Kd.R_slice HO236.out; subst eo45) | ((with_reducible refine gate_callee (f := 16) rfl ?_); refine goesL_ (some 16) rfl rfl Try.func16 (by kernel_rfl) rfl #[.slice Ao45 t234.length co45, .int .i64 4, .int .i64 1, .bool false] rfl (by (try simp only [List.map_toArray, List.map_cons, List.map_nil]); first | done | rfl | (simp only [List.length_drop, List.length_take]; rfl)) ?_; (with_reducible refine (region_Set.calls k _ _ t234 4 1 false t238 t239 _ ?side1 ?side2 A2.out).mono ?_); (case side1 => repeat (first | exact (Kd.R_reads' HO236.out).2.2 | (with_reducible refine Kd.C_alloc ?_ _) | (with_reducible refine Kd.C_drewN ?_ _) | (with_reducible refine Kd.C_drew ?_))); (case side2 => exact (Kd.R_reads' HO236.out).2.1); rintro e w46 ⟨v240, rfl, ho0, hb⟩; refine ⟨_, rfl, ?_⟩; have n0_ := Aside0.mk (Kd.R_elder' (by (with_reducible repeat (first | apply Kd.R_alloc | apply Kd.R_drewN | apply Kd.R_drew)); exact HO233.out) (Kd.R_base ho0) hb); have n1_ := Aside0.mk (Kd.R_elder' (by (with_reducible repeat (first | apply Kd.R_alloc | apply Kd.R_drewN | apply Kd.R_drew)); exact HO236.out) (Kd.R_base ho0) hb); have n2_ := Aside0.mk (Kd.R_lower (Kd.R_new' (Kd.R_new' ho0 (Kd.R_lt (by (with_reducible repeat (first | apply Kd.R_alloc | apply Kd.R_drewN | apply Kd.R_drew)); exact HO233.out))) (Kd.R_lt (by (with_reducible repeat (first | apply Kd.R_alloc | apply Kd.R_drewN | apply Kd.R_drew)); exact HO236.out))) (below_size (by repeat (first | (with_reducible first | exact HB.out | apply below_alloc | apply pw_below_drewN | apply below_drew1) | exact HB.out)))); have n3_ := Aside0.mk (below_step (by repeat (first | (with_reducible first | exact HB.out | apply below_alloc | apply pw_below_drewN | apply below_drew1) | exact HB.out)) hb); clear HO233; clear HO236; clear HB; have HO233 := n0_; have HO236 := n1_; have HO241 := n2_; have HB := n3_; clear n0_ n1_ n2_ n3_; (try clear hb); (try clear hb2); (try clear hk); (try clear hi); (try clear ho0)) | ((with_reducible refine gate_callee (f := 14) rfl ?_); refine goesL_ (some 21) rfl rfl Try.func14 (by kernel_rfl) rfl #[.slice Ao45 t234.length co45, .int .i64 2, .int .i64 2] rfl (by (try simp only [List.map_toArray, List.map_cons, List.map_nil]); first | done | rfl | (simp only [List.length_drop, List.length_take]; rfl)) ?_; (with_reducible refine (region_Cut.calls k _ _ t234 2 2 t242 t243 _ ?side1 ?side2 A3.out).mono ?_); (case side1 => repeat (first | exact (Kd.R_reads' HO236.out).2.2 | (with_reducible refine Kd.C_alloc ?_ _) | (with_reducible refine Kd.C_drewN ?_ _) | (with_reducible refine Kd.C_drew ?_))); (case side2 => exact (Kd.R_reads' HO236.out).2.1); rintro e w47 ⟨v244, rfl, ho0, hb⟩; refine ⟨_, rfl, ?_⟩; have n0_ := Aside0.mk (Kd.R_elder' (by (with_reducible repeat (first | apply Kd.R_alloc | apply Kd.R_drewN | apply Kd.R_drew)); exact HO233.out) (Kd.R_base ho0) hb); have n1_ := Aside0.mk (Kd.R_elder' (by (with_reducible repeat (first | apply Kd.R_alloc | apply Kd.R_drewN | apply Kd.R_drew)); exact HO236.out) (Kd.R_base ho0) hb); have n2_ := Aside0.mk (Kd.R_elder' (by (with_reducible repeat (first | apply Kd.R_alloc | apply Kd.R_drewN | apply Kd.R_drew)); exact HO241.out) (Kd.R_base ho0) hb); have n3_ := Aside0.mk (Kd.R_lower (Kd.R_new' (Kd.R_new' (Kd.R_new' ho0 (Kd.R_lt (by (with_reducible repeat (first | apply Kd.R_alloc | apply Kd.R_drewN | apply Kd.R_drew)); exact HO233.out))) (Kd.R_lt (by (with_reducible repeat (first | apply Kd.R_alloc | apply Kd.R_drewN | apply Kd.R_drew)); exact HO236.out))) (Kd.R_lt (by (with_reducible repeat (first | apply Kd.R_alloc | apply Kd.R_drewN | apply Kd.R_drew)); exact HO241.out))) (below_size (by repeat (first | (with_reducible first | exact HB.out | apply below_alloc | apply pw_below_drewN | apply below_drew1) | exact HB.out)))); have n4_ := Aside0.mk (below_step (by repeat (first | (with_reducible first | exact HB.out | apply below_alloc | apply pw_below_drewN | apply below_drew1) | exact HB.out)) hb); clear HO233; clear HO236; clear HO241; clear HB; have HO233 := n0_; have HO236 := n1_; have HO241 := n2_; have HO245 := n3_; have HB := n4_; clear n0_ n1_ n2_ n3_ n4_; (try clear hb); (try clear hb2); (try clear hk); (try clear hi); (try clear ho0)))
      go_ret
      exact ⟨by first | rfl | (simp [errW_none, errW_some] <;> rfl) | (simp [*, errW_none, errW_some] <;> rfl), by repeat (first | (with_reducible first | exact HB.out | apply below_alloc | apply pw_below_drewN | apply below_drew1) | exact HB.out)⟩
  · rw [if_neg c4] at H
    have c4b0 : (t237 == 0) = false := beq_eq_false_iff_ne.mpr c4
    have c4b1 : (t237 != 0) = true := bne_iff_ne.mpr c4
    obtain rfl := Option.some.inj H
    go_enter Try.func10, Try.ntmps10
    go_wp2_with (first | ((with_reducible refine gate_dst (N := 9) rfl ?_); (try (refine gate_guard (by rfl) ?_; dsimp only)); refine Kd.R_lit k24 _ 24 ?hg (N := 9) ?hd (xs := ([(⟨3, 2, true⟩ : S24)] : List (S24))) (inner := [.int .i64 3, .int .i64 2, .bool true]) (ok := fun _ => True) (okp := fun _ => True) ?hr ?hp (fun _ hk => hk) trivial (Below.refl _ _) (Nat.le_refl _) (by simp) ?_; (case hd => rfl); (case hg => rfl); (case hr => first | (go_simp; done) | (go_simp; rfl)); (case hp => exact (Reps.c3 (show Kd.M k24 _ _ _ (⟨3, 2, true⟩ : S24) [.int .i64 3, .int .i64 2, .bool true] from (k24_mkM _ _ _ (⟨3, 2, true⟩ : S24) )) (Reps.none _ _))); intro v232 w48 ho49 hb hg_ hnew_; clear hg_ hnew_; (first | rw [← Ny231.out] at ho49 | (simp only [Int.reduceToNat] at ho49; rw [← Ny231.out] at ho49)); have n0_ := Aside0.mk (Kd.R_lower ho49 (below_size (by repeat (first | (with_reducible first | exact HB.out | apply below_alloc | apply pw_below_drewN | apply below_drew1) | exact HB.out)))); have n1_ := Aside0.mk (below_step (by repeat (first | (with_reducible first | exact HB.out | apply below_alloc | apply pw_below_drewN | apply below_drew1) | exact HB.out)) hb); clear HB; have HO233 := n0_; have HB := n1_; clear n0_ n1_; clear hb ho49; obtain ⟨Ao50, co50, eo50⟩ := Kd.R_slice HO233.out; subst eo50) | ((with_reducible refine gate_callee (f := 11) rfl ?_); refine goesL_ (some 11) rfl rfl Try.func11 (by kernel_rfl) rfl #[.slice Ao50 y231.length co50, .agg #[.int .i64 5, .int .i64 1, .bool true]] rfl (by (try simp only [List.map_toArray, List.map_cons, List.map_nil]); first | done | rfl | (simp only [List.length_drop, List.length_take]; rfl)) ?_; (with_reducible refine (region_Add.calls k _ _ y231 5 1 true t234 t237 _ ?side1 ?side2 A1.out).mono ?_); (case side1 => repeat (first | exact (Kd.R_reads' HO233.out).2.2 | (with_reducible refine Kd.C_alloc ?_ _) | (with_reducible refine Kd.C_drewN ?_ _) | (with_reducible refine Kd.C_drew ?_))); (case side2 => exact (Kd.R_reads' HO233.out).2.1); rintro e w51 ⟨v235, rfl, ho0, hb⟩; refine ⟨_, rfl, ?_⟩; have n0_ := Aside0.mk (Kd.R_elder' (by (with_reducible repeat (first | apply Kd.R_alloc | apply Kd.R_drewN | apply Kd.R_drew)); exact HO233.out) (Kd.R_base ho0) hb); have n1_ := Aside0.mk (Kd.R_lower (Kd.R_new' ho0 (Kd.R_lt (by (with_reducible repeat (first | apply Kd.R_alloc | apply Kd.R_drewN | apply Kd.R_drew)); exact HO233.out))) (below_size (by repeat (first | (with_reducible first | exact HB.out | apply below_alloc | apply pw_below_drewN | apply below_drew1) | exact HB.out)))); have n2_ := Aside0.mk (below_step (by repeat (first | (with_reducible first | exact HB.out | apply below_alloc | apply pw_below_drewN | apply below_drew1) | exact HB.out)) hb); clear HO233; clear HB; have HO233 := n0_; have HO236 := n1_; have HB := n2_; clear n0_ n1_ n2_; (try clear hb); (try clear hb2); (try clear hk); (try clear hi); (try clear ho0); obtain ⟨Ao52, co52, eo52⟩ := Kd.R_slice HO236.out; subst eo52) | ((with_reducible refine gate_callee (f := 16) rfl ?_); refine goesL_ (some 16) rfl rfl Try.func16 (by kernel_rfl) rfl #[.slice Ao52 t234.length co52, .int .i64 4, .int .i64 1, .bool false] rfl (by (try simp only [List.map_toArray, List.map_cons, List.map_nil]); first | done | rfl | (simp only [List.length_drop, List.length_take]; rfl)) ?_; (with_reducible refine (region_Set.calls k _ _ t234 4 1 false t238 t239 _ ?side1 ?side2 A2.out).mono ?_); (case side1 => repeat (first | exact (Kd.R_reads' HO236.out).2.2 | (with_reducible refine Kd.C_alloc ?_ _) | (with_reducible refine Kd.C_drewN ?_ _) | (with_reducible refine Kd.C_drew ?_))); (case side2 => exact (Kd.R_reads' HO236.out).2.1); rintro e w53 ⟨v240, rfl, ho0, hb⟩; refine ⟨_, rfl, ?_⟩; have n0_ := Aside0.mk (Kd.R_elder' (by (with_reducible repeat (first | apply Kd.R_alloc | apply Kd.R_drewN | apply Kd.R_drew)); exact HO233.out) (Kd.R_base ho0) hb); have n1_ := Aside0.mk (Kd.R_elder' (by (with_reducible repeat (first | apply Kd.R_alloc | apply Kd.R_drewN | apply Kd.R_drew)); exact HO236.out) (Kd.R_base ho0) hb); have n2_ := Aside0.mk (Kd.R_lower (Kd.R_new' (Kd.R_new' ho0 (Kd.R_lt (by (with_reducible repeat (first | apply Kd.R_alloc | apply Kd.R_drewN | apply Kd.R_drew)); exact HO233.out))) (Kd.R_lt (by (with_reducible repeat (first | apply Kd.R_alloc | apply Kd.R_drewN | apply Kd.R_drew)); exact HO236.out))) (below_size (by repeat (first | (with_reducible first | exact HB.out | apply below_alloc | apply pw_below_drewN | apply below_drew1) | exact HB.out)))); have n3_ := Aside0.mk (below_step (by repeat (first | (with_reducible first | exact HB.out | apply below_alloc | apply pw_below_drewN | apply below_drew1) | exact HB.out)) hb); clear HO233; clear HO236; clear HB; have HO233 := n0_; have HO236 := n1_; have HO241 := n2_; have HB := n3_; clear n0_ n1_ n2_ n3_; (try clear hb); (try clear hb2); (try clear hk); (try clear hi); (try clear ho0)) | ((with_reducible refine gate_callee (f := 14) rfl ?_); refine goesL_ (some 21) rfl rfl Try.func14 (by kernel_rfl) rfl #[.slice Ao52 t234.length co52, .int .i64 2, .int .i64 2] rfl (by (try simp only [List.map_toArray, List.map_cons, List.map_nil]); first | done | rfl | (simp only [List.length_drop, List.length_take]; rfl)) ?_; (with_reducible refine (region_Cut.calls k _ _ t234 2 2 t242 t243 _ ?side1 ?side2 A3.out).mono ?_); (case side1 => repeat (first | exact (Kd.R_reads' HO236.out).2.2 | (with_reducible refine Kd.C_alloc ?_ _) | (with_reducible refine Kd.C_drewN ?_ _) | (with_reducible refine Kd.C_drew ?_))); (case side2 => exact (Kd.R_reads' HO236.out).2.1); rintro e w54 ⟨v244, rfl, ho0, hb⟩; refine ⟨_, rfl, ?_⟩; have n0_ := Aside0.mk (Kd.R_elder' (by (with_reducible repeat (first | apply Kd.R_alloc | apply Kd.R_drewN | apply Kd.R_drew)); exact HO233.out) (Kd.R_base ho0) hb); have n1_ := Aside0.mk (Kd.R_elder' (by (with_reducible repeat (first | apply Kd.R_alloc | apply Kd.R_drewN | apply Kd.R_drew)); exact HO236.out) (Kd.R_base ho0) hb); have n2_ := Aside0.mk (Kd.R_elder' (by (with_reducible repeat (first | apply Kd.R_alloc | apply Kd.R_drewN | apply Kd.R_drew)); exact HO241.out) (Kd.R_base ho0) hb); have n3_ := Aside0.mk (Kd.R_lower (Kd.R_new' (Kd.R_new' (Kd.R_new' ho0 (Kd.R_lt (by (with_reducible repeat (first | apply Kd.R_alloc | apply Kd.R_drewN | apply Kd.R_drew)); exact HO233.out))) (Kd.R_lt (by (with_reducible repeat (first | apply Kd.R_alloc | apply Kd.R_drewN | apply Kd.R_drew)); exact HO236.out))) (Kd.R_lt (by (with_reducible repeat (first | apply Kd.R_alloc | apply Kd.R_drewN | apply Kd.R_drew)); exact HO241.out))) (below_size (by repeat (first | (with_reducible first | exact HB.out | apply below_alloc | apply pw_below_drewN | apply below_drew1) | exact HB.out)))); have n4_ := Aside0.mk (below_step (by repeat (first | (with_reducible first | exact HB.out | apply below_alloc | apply pw_below_drewN | apply below_drew1) | exact HB.out)) hb); clear HO233; clear HO236; clear HO241; clear HB; have HO233 := n0_; have HO236 := n1_; have HO241 := n2_; have HO245 := n3_; have HB := n4_; clear n0_ n1_ n2_ n3_ n4_; (try clear hb); (try clear hb2); (try clear hk); (try clear hi); (try clear ho0)))
    go_ret
    exact ⟨by first | rfl | (simp [errW_none, errW_some] <;> rfl) | (simp [*, errW_none, errW_some] <;> rfl), by repeat (first | (with_reducible first | exact HB.out | apply below_alloc | apply pw_below_drewN | apply below_drew1) | exact HB.out)⟩
end Go.Proofs.Ytcblfhoipdbdlaa.PAll
