/-
  append, told of the evaluator.
-/
import Derived.Test.YtkmfihpmjnfbfaaGreatDoorOph
namespace Go.Proofs.YtkmfihpmjnfbfaaGreatDoor.Run
open Go
set_option linter.unusedVariables false
set_option linter.unusedSimpArgs false
section
variable {P : Program} {ρ : Rn} {gl : Gl} {sz : Nat} {tm : Tr Value} {a : Act} {h : AH} {w : World}
theorem Rel.move {w' : World} (hr : Rel P ρ h w) {b j : Nat} {o o1 : AO} {x1 : Obj} (hb : ρ b = some j) (ho : h.get b = some o) (hl : o.live) (hro : ∀ e n c, o ≠ .cells e n c true)
    (hw : w'.heap[j]? = some x1) (hk : ∀ i, i ≠ j → w'.heap[i]? = w.heap[i]?) (hz : w'.heap.size = w.heap.size) (h1 : w'.os = w.os) (h2 : w'.tape = w.tape) (h3 : w'.output = w.output)
    (hx : OR P ρ (ρ.k b) o1 x1) : Rel P (Run.ext ρ h.next j (ρ.k b)) ((h.set b .gone).new o1) w' ∧ Fw ρ h w (Run.ext ρ h.next j (ρ.k b)) ((h.set b .gone).new o1) w' := by
  have hn := hr.none (Nat.le_refl h.next)
  have hs := Sub.ext hn j (ρ.k b)
  have hnx : (h.set b .gone).next = h.next := rfl
  have hbn : b ≠ h.next := fun e => by rw [e, hn] at hb; cases hb
  have hdj := (hr.dom b j hb).2
  refine ⟨⟨fun c k e => ?_, fun c k a e1 e2 e3 => ?_, fun c c' k a a' e1 e2 e3 e4 e5 e6 => ?_⟩,
    ⟨hs, fun c hc e => ?_, fun c k e => ?_, fun k hk' hnn => hk k (fun e => hnn b (e ▸ hb)), fun c k el n cc e1 e2 => ?_, Nat.le_succ _, by omega, h1, h2, h3⟩⟩
  · simp only [Run.ext] at e
    by_cases hc : c = h.next
    · rw [if_pos hc] at e; cases e; exact ⟨by subst hc; exact Nat.lt_succ_self _, by omega⟩
    · rw [if_neg hc] at e; have := hr.dom c k e; exact ⟨Nat.lt_succ_of_lt this.1, by omega⟩
  · simp only [Run.ext] at e1
    rw [AH.get_new, hnx, AH.get_set] at e2
    by_cases hc : c = h.next
    · rw [if_pos hc] at e1 e2; cases e1; cases e2
      have hk : (Run.ext ρ h.next j (ρ.k b)).k c = ρ.k b := if_pos hc
      rw [hk]
      exact ⟨x1, hw, hx.mono hs⟩
    · rw [if_neg hc] at e1 e2
      by_cases hcb : c = b
      · rw [if_pos hcb] at e2; cases e2; exact e3.elim
      · rw [if_neg hcb] at e2
        obtain ⟨y, hy, hy2⟩ := hr.obj c k a e1 e2 e3
        have hkk : (Run.ext ρ h.next j (ρ.k b)).k c = ρ.k c := if_neg hc
        rw [hkk]
        exact ⟨y, by rw [hk k (fun e => hcb (hr.inj c b k a o e1 (e ▸ hb) e2 e3 ho hl)), hy], hy2.mono hs⟩
  · simp only [Run.ext] at e1 e2
    rw [AH.get_new, hnx, AH.get_set] at e3 e5
    by_cases hc : c = h.next <;> by_cases hc' : c' = h.next
    · rw [hc, hc']
    · rw [if_pos hc] at e1; rw [if_neg hc'] at e2 e5; cases e1
      by_cases hcb : c' = b
      · rw [if_pos hcb] at e5; cases e5; exact e6.elim
      · rw [if_neg hcb] at e5; exact absurd (hr.inj c' b j a' o e2 hb e5 e6 ho hl) hcb
    · rw [if_neg hc] at e1 e3; rw [if_pos hc'] at e2; cases e2
      by_cases hcb : c = b
      · rw [if_pos hcb] at e3; cases e3; exact e4.elim
      · rw [if_neg hcb] at e3; exact absurd (hr.inj c b j a o e1 hb e3 e4 ho hl) hcb
    · rw [if_neg hc] at e1 e3; rw [if_neg hc'] at e2 e5
      by_cases hcb : c = b
      · rw [if_pos hcb] at e3; cases e3; exact e4.elim
      · by_cases hcb' : c' = b
        · rw [if_pos hcb'] at e5; cases e5; exact e6.elim
        · rw [if_neg hcb] at e3; rw [if_neg hcb'] at e5; exact hr.inj c c' k a a' e1 e2 e3 e4 e5 e6
  · simp only [Run.ext]
    rw [AH.get_new, hnx, AH.get_set, if_neg (by omega), if_neg (by omega), if_neg (fun k => by subst k; rw [hb] at e; cases e)]
    exact ⟨e, rfl⟩
  · simp only [Run.ext] at e
    by_cases hc : c = h.next
    · rw [if_pos hc] at e; cases e; exact .inr ⟨b, hb⟩
    · rw [if_neg hc] at e; exact .inr ⟨c, e⟩
  · have hcb : c ≠ b := fun k => by subst k; rw [ho] at e2; cases e2; exact hro _ _ _ rfl
    have hcn : c ≠ h.next := fun k => by rw [k, hn] at e1; cases e1
    rw [AH.get_new, hnx, AH.get_set, if_neg hcn, if_neg hcb]
    exact ⟨rfl, hk k (fun e => hcb (hr.inj c b k _ o e1 (e ▸ hb) e2 trivial ho hl))⟩
theorem Rel.kill (hr : Rel P ρ h w) {b j : Nat} {o : AO} (hb : ρ b = some j) (ho : h.get b = some o) (hl : o.live) (hro : ∀ e n c, o ≠ .cells e n c true) :
    Rel P ρ (h.set b .gone) w ∧ Fw ρ h w ρ (h.set b .gone) w := by
  obtain ⟨x, h1, h2⟩ := hr.obj b j o hb ho hl
  exact hr.turn (o1 := .gone) (x1 := x) hb ho hl hro h1 (fun _ _ => rfl) rfl rfl rfl rfl (fun k => k.elim)
theorem cellsOf_info {e : TypeId} {i : TypeInfo} (hi : P.info? e = some i) : P.cellsOf e = i.size := by simp [Program.cellsOf, hi]
theorem zeroCells_size (z : Array Value) (n : Nat) : (Builtin.zeroCells z n).size = n * z.size := by simp [Builtin.zeroCells]
theorem and5 {x y z u v : Bool} (h : (x && y && z && u && v) = true) : x = true ∧ y = true ∧ z = true ∧ u = true ∧ v = true := by cases x <;> cases y <;> cases z <;> cases u <;> cases v <;> simp_all
theorem L2.nil' {l' : List Value} (h : L2 ρ [] l') : l' = [] := by cases h; rfl
/-- The grown row. -/
theorem grown_ok (hr : Rel P ρ h w) {elem : TypeId} {i : TypeInfo} {z : Value} {n k : Nat} {c : Nat} {old old' new new' : List Value} (hi : P.info? elem = some i) (hz : (Value.cl z).length = i.size)
    (ho : L2 ρ old old') (hn : L2 ρ new new') (hol : old.length = n * i.size) (hnl : new.length = k * i.size) :
    ∃ ρ', ρ' h.next = some w.heap.size ∧ VR ρ' (.slice (some ⟨h.next, 0, none⟩) (n + k) UNK) (.slice (some ⟨w.heap.size, 0, none⟩) (n + k) (grownCap w (n + k) c elem)) ∧
      Rel P ρ' (newCells h elem (old ++ new)) (w.drew.alloc (.cells (old' ++ new' ++ (Builtin.zeroCells z.cells (grownCap w (n + k) c elem - (n + k))).toList).toArray elem)) ∧
      Fw ρ h w ρ' (newCells h elem (old ++ new)) (w.drew.alloc (.cells (old' ++ new' ++ (Builtin.zeroCells z.cells (grownCap w (n + k) c elem - (n + k))).toList).toArray elem)) := by
  have hcap := grownCap_ge w (n + k) c elem
  have hr' : Rel P ρ h w.drew := hr.drawn rfl
  have hzl : z.cells.size = i.size := by rw [cl_eq] at hz; simpa using hz
  have h1 := hr'.newRow (grownCap w (n + k) c elem) (t := elem) (cs := (old' ++ new' ++ (Builtin.zeroCells z.cells (grownCap w (n + k) c elem - (n + k))).toList).toArray) (ho.append hn) ⟨_, rfl⟩ (by
    have e1 := ho.length; have e2 := hn.length
    rw [cellsOf_info hi]
    simp only [List.size_toArray, List.length_append, Array.length_toList, zeroCells_size, hzl, ← e1, ← e2, hol, hnl]
    rw [← Nat.add_mul, ← Nat.add_mul]
    exact Nat.mul_le_mul_right _ (by omega))
  exact ⟨_, newCells_ptr, .slice newCells_ptr (.inr ⟨rfl, fun _ => by show _ ≤ (if h.next = h.next then _ else _); rw [if_pos rfl]; exact Nat.le_refl _⟩) hcap, h1.1, (Fw.drawn (w := w) (w' := w.drew) rfl rfl rfl rfl).trans h1.2⟩
theorem appendB_ok (hr : Rel P ρ h w) {ts : Array TypeId} {ty : TypeId} {s s' x x' v : Value} {h' : AH} (hs : VR ρ s s') (hx : VR ρ x x') (e : appendB P h ts s x = some (v, h')) :
    ∃ ρ' v' w', (Builtin.append_ ts ty #[s', x']).run P w = .ok v' w' ∧ VR ρ' v v' ∧ Rel P ρ' h' w' ∧ Fw ρ h w ρ' h' w' := by
  simp only [appendB, Option.bind_eq_some_iff] at e
  obtain ⟨t, ht, e⟩ := e
  split at e
  · rename_i elem base n c hu
    simp only [Option.bind_eq_some_iff] at e
    obtain ⟨i, hi, z, hz, k, hk, new, hnew, e⟩ := e
    cases hb : (plainArg P ts && Nat.ble ((n + k) * (i.bytes + 1)) 16777216 && Nat.beq new.length (k * i.size) && Nat.beq (Value.cl z).length i.size && new.all one) with
    | false => rw [hb] at e; cases e
    | true =>
      rw [hb] at e
      simp only [cond] at e
      obtain ⟨b1, b2, b3, b4, b5⟩ := and5 hb
      have b2 := ble_true b2; have b3 := beq_true b3; have b4 := beq_true b4
      obtain ⟨hzf, i2, hi2, hz2⟩ := zeroB_flat hz
      rw [hi] at hi2; cases hi2
      have hl := lenB_ok (P := P) hx hk
      obtain ⟨new', hn1, hn2⟩ := elemsOf_ok hr hx (fun m e => by rw [hk] at e; cases e; exact Nat.le_refl _) hnew
      have hr' : Rel P ρ h w.drew := hr.drawn rfl
      obtain ⟨new'', hn3, hn4⟩ := elemsOf_ok hr' hx (fun m e => by rw [hk] at e; cases e; exact Nat.le_refl _) hnew
      have hnn := hn2.length
      split at e
      · -- nil
        cases hc0 : (Nat.beq n 0 && Nat.beq c 0) with
        | false => rw [hc0] at e; cases e
        | true =>
          rw [hc0] at e
          simp only [cond] at e
          simp only [Bool.and_eq_true] at hc0
          have c1 := beq_true hc0.1; have c2 := beq_true hc0.2
          subst c1; subst c2
          obtain rfl := hs.eq_of_flat rfl
          cases hk0 : Nat.beq k 0 with
          | true =>
            rw [hk0] at e
            simp only at e
            cases e
            have := beq_true hk0; subst this
            have hnil : new = [] := List.length_eq_zero_iff.1 (by omega)
            subst hnil
            obtain rfl := hn2.nil'
            exact ⟨ρ, .slice none 0 0, w, append_room ht b1 hu hi (hl w) (Nat.le_refl _) hn1 (fun ad e => by cases e) (fun _ => rfl), .fl rfl, hr, Fw.refl _ _ _⟩
          | false =>
            rw [hk0] at e
            simp only at e
            cases e
            have := beq_false hk0
            obtain ⟨ρ', g1, g2, g3, g4⟩ := grown_ok (c := 0) (n := 0) (k := k) hr hi b4 (L2.nil) hn4 (by simp) b3
            have := append_grow (ty := ty) (base := none) (n := 0) (c := 0) (old := []) ht b1 hu hi hz2 (hl w) (by omega) b2 hn3 (by simp [Builtin.firstCells])
            rw [Nat.zero_add] at g2 g3 g4 this
            rw [List.nil_append] at g3 g4
            exact ⟨ρ', _, _, this, g2, g3, g4⟩
      · rename_i b o
        split at e
        all_goals rename_i hk0
        · -- nothing is appended
          cases e
          simp only [Bool.and_eq_true] at hk0
          have c1 := beq_true hk0.1; have c2 := ble_true hk0.2
          subst c1
          have hnil : new = [] := List.length_eq_zero_iff.1 (by omega)
          subst hnil
          obtain rfl := hn2.nil'
          rcases hs.sliceInv with ⟨j, c', kk, rfl, k2, k3⟩ | ⟨k1, rfl, rfl, ad, c', rfl⟩
          · exact ⟨ρ, .slice (some ⟨j, o, none⟩) n c', w, by have := append_room (ty := ty) (base := some ⟨j, o, none⟩) (n := n) (c := c') (w' := w) ht b1 hu hi (hl w) (by omega) hn1 (fun ad e => by simp [storeCells]) (fun e => by cases e); exact this, .slice kk k2 k3, hr, Fw.refl _ _ _⟩
          · exact ⟨ρ, .slice (some ad) 0 c', w, by have := append_room (ty := ty) (base := some ad) (n := 0) (c := c') (w' := w) ht b1 hu hi (hl w) (by omega) hn1 (fun ad e => by simp [storeCells]) (fun e => by cases e); exact this, .slice0 k1, hr, Fw.refl _ _ _⟩
        · split at e
          · rename_i el m cs hg
            cases hcu : Nat.beq c UNK with
            | true =>
              rw [hcu] at e
              simp only [cond] at e
              have hcu := beq_true hcu
              subst hcu
              cases hb3 : (Nat.beq o 0 && Nat.beq (n * i.size) m && Nat.beq el elem) with
              | false => rw [hb3] at e; cases e
              | true =>
                rw [hb3] at e
                simp only [Option.map_eq_some_iff] at e
                obtain ⟨old, hold, e⟩ := e
                cases e
                obtain ⟨d1, d2, d3⟩ := and3 hb3
                have d1 := beq_true d1; have d2 := beq_true d2; have d3 := beq_true d3
                subst d1; subst d2; subst d3
                rcases hs.sliceInv with ⟨j, c', kk, rfl, k2, k3⟩ | ⟨k1, _⟩
                · have k2' : c' ≤ ρ.k b := by rcases k2 with k2 | k2; · omega
                                              · exact k2.2 rfl
                  obtain ⟨ra, lo, hi', q1, q2, q3, q4, q5⟩ := hr.cellsAt kk hg
                  obtain ⟨p1, p2⟩ := rdCells_ok q3 _ _ old hold (by omega)
                  rw [cellsOf_info hi] at q5
                  have hmul : c' * i.size ≤ ρ.k b * i.size := Nat.mul_le_mul_right _ k2'
                  have hlt : j < w.heap.size := (Array.getElem?_eq_some_iff.1 q1).1
                  by_cases hroom : n + k ≤ c'
                  · have hmul2 : (n + k) * i.size ≤ c' * i.size := Nat.mul_le_mul_right _ hroom
                    have hmul3 : (n + k) * i.size = n * i.size + k * i.size := Nat.add_mul _ _ _
                    have hwr := run_wr (P := P) (0 + n * i.size) new' 0 ra w q1 (by omega) (all_one hn2 b5) (q4 rfl)
                    have hmv := hr.move (o1 := .cells el (old ++ new).length (Tr.ofFrom (old ++ new) 0 .e) false) (w' := w.putObj j (.cells (wrA ra (0 + n * i.size) new') el (lo, hi'))) kk hg trivial (fun e n c k => by cases k)
                      (by rw [putObj_get _ hlt, if_pos rfl]) (fun i hi' => by rw [putObj_get _ hlt, if_neg hi']) (by simp [World.putObj]) rfl rfl rfl
                      (.cells (by rw [wrA_size, cellsOf_info hi]; exact q5) (by rw [wrA_size, List.length_append]; omega) (fun x hx' => by
                        rw [Tr.get_of, wrA_get _ _ _ _ (by omega)]
                        have hxx : x < old.length + new.length := by simpa using hx'
                        by_cases hxo : x < old.length
                        · rw [List.getElem?_append_left hxo, if_neg (by omega)]
                          have hv : old[x]? = some (old[x]'hxo) := by simp
                          obtain ⟨u', e1, e2⟩ := p1.get _ _ hv
                          refine ⟨_, u', hv, ?_, e2⟩
                          rw [List.drop_zero, List.getElem?_take, if_pos (by omega)] at e1
                          simpa using e1
                        · rw [List.getElem?_append_right (by omega), if_pos (by omega)]
                          have hlt2 : x - old.length < new.length := by omega
                          have hv : new[x - old.length]? = some (new[x - old.length]'hlt2) := by simp
                          obtain ⟨u', e1, e2⟩ := hn2.get _ _ hv
                          exact ⟨_, u', hv, by rw [show x - (0 + n * i.size) = x - old.length by omega]; exact e1, e2⟩) (fun e x hx' => q4 rfl x (by rw [wrA_size] at hx'; exact hx')))
                    refine ⟨_, .slice (some ⟨j, 0, none⟩) (n + k) c', _, append_room ht b1 hu hi (hl w) hroom hn1 (fun ad e => by cases e; rw [addr_add]; exact hwr) (fun e => by cases e), ?_, hmv.1, hmv.2⟩
                    refine .slice newCells_ptr (.inr ⟨rfl, fun _ => ?_⟩) hroom
                    show c' ≤ (if h.next = h.next then _ else _)
                    rw [if_pos rfl]; exact k2'
                  · have hkl := hr.kill kk hg trivial (fun e n c k => by cases k)
                    obtain ⟨ρ', g1, g2, g3, g4⟩ := grown_ok (c := c') (n := n) (k := k) hkl.1 hi b4 p1 hn4 p2 b3
                    have := append_grow (ty := ty) (base := some ⟨j, 0, none⟩) (n := n) (c := c') ht b1 hu hi hz2 (hl w) (by omega) b2 hn3 (by simp only [Builtin.firstCells]; exact run_rd (w := w.drew) (o := 0) (k := n * i.size) q1 (by omega))
                    exact ⟨ρ', _, _, this, g2, g3, hkl.2.trans g4⟩
                · omega
            | false =>
              rw [hcu] at e
              simp only [cond] at e
              have hcn := beq_false hcu
              rcases hs.sliceInv with ⟨j, c', kk, rfl, k2, k3⟩ | ⟨_, _, k1, _⟩
              · rcases k2 with ⟨rfl, hlt⟩ | k2
                · obtain ⟨ra, lo, hi', q1, q2, q3, q4, q5⟩ := hr.cellsAt kk hg
                  cases hroom : Nat.ble (n + k) c' with
                  | true =>
                    rw [hroom] at e
                    simp only at e
                    have hroom := ble_true hroom
                    cases hfit : Nat.ble (o + (n + k) * i.size) m with
                    | false => rw [hfit] at e; cases e
                    | true =>
                      rw [hfit] at e
                      cases e
                      have hfit := ble_true hfit
                      have hmul3 : (n + k) * i.size = n * i.size + k * i.size := Nat.add_mul _ _ _
                      have hw := hr.write (o := o + n * i.size) kk hg q1 hn2 (by omega)
                      have hwr := run_wr (P := P) (o + n * i.size) new' 0 ra w q1 (by omega) (all_one hn2 b5) (q4 rfl)
                      exact ⟨ρ, .slice (some ⟨j, o, none⟩) (n + k) c', _, append_room ht b1 hu hi (hl w) hroom hn1 (fun ad e => by cases e; rw [addr_add]; exact hwr) (fun e => by cases e), .slice kk (.inl ⟨rfl, hlt⟩) hroom, hw.1, hw.2⟩
                  | false =>
                    rw [hroom] at e
                    simp only at e
                    have hroom := ble_false hroom
                    cases hfit : Nat.ble (o + n * i.size) m with
                    | false => rw [hfit] at e; cases e
                    | true =>
                      rw [hfit] at e
                      simp only [Option.map_eq_some_iff] at e
                      obtain ⟨old, hold, e⟩ := e
                      cases e
                      have hfit := ble_true hfit
                      obtain ⟨p1, p2⟩ := rdCells_ok q3 _ _ old hold hfit
                      obtain ⟨ρ', g1, g2, g3, g4⟩ := grown_ok (c := c') (n := n) (k := k) hr hi b4 p1 hn4 p2 b3
                      have := append_grow (ty := ty) (base := some ⟨j, o, none⟩) (n := n) (c := c') ht b1 hu hi hz2 (hl w) (by omega) b2 hn3 (by simp only [Builtin.firstCells]; exact run_rd (w := w.drew) (o := o) (k := n * i.size) q1 (by omega))
                      exact ⟨ρ', _, _, this, g2, g3, g4⟩
                · exact absurd k2.1 hcn
              · exact absurd k1 hcn
          · cases e
      · cases e
  · cases e
end
end Go.Proofs.YtkmfihpmjnfbfaaGreatDoor.Run
