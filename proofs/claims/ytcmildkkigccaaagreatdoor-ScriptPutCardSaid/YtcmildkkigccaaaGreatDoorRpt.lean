/-
  The document's Put.
-/
import Derived.Test.YtcmildkkigccaaaGreatDoorSxa
import Derived.StillTailTactics
namespace Go.Proofs.YtcmildkkigccaaaGreatDoor.PAll
open Go.RowKit Go.Proofs.YtcmildkkigccaaaGreatDoorW.PrintWords Go.Proofs.YtcmildkkigccaaaGreatDoorW.PrintLast Go.Proofs.YtcmildkkigccaaaGreatDoorW.PrintMore
set_option linter.unusedVariables false
set_option linter.unusedSimpArgs false
/-- What holds at the head of a round. -/
def RputR (l0 : List S40) (w : World) (x : Int) (s : ByteArray) (wr : World) : Prop :=
  s = strOfNums (allB (l0.take x.toNat)) ∧ Below w.heap.size w wr ∧ ∀ j, j < x.toNat → okE (l0.getD j z40) = true
theorem rput_next {l0 : List S40} {w W : World} {x : Int} {s : ByteArray} (h0 : 0 ≤ x) (h1 : x < (l0.length : Int)) (f0 f1 f2 : Int) (hx : rd_T40 l0 x = ⟨f0, f1, f2⟩) (hf : 0 ≤ f0 ∧ f0 ≤ 255 ∧ 0 ≤ f1 ∧ f1 ≤ 255)
    (hs : s = strOfNums (allB (l0.take x.toNat))) (hok : ∀ j, j < x.toNat → okE (l0.getD j z40) = true) (hB : Below w.heap.size w W) : RputR l0 w (x + 1) (s ++ strOfNums [f0, f1] ++ strOfNums (w4 f2)) W := by
  have hi : x.toNat < l0.length := by omega
  have e1 : (x + 1).toNat = x.toNat + 1 := by omega
  have hg : l0[x.toNat] = ⟨f0, f1, f2⟩ := by rw [← hx]; unfold rd_T40; rw [List.getD_eq_getElem?_getD, List.getElem?_eq_getElem hi]; rfl
  refine ⟨?_, hB, fun j hj => ?_⟩
  · rw [e1, List.take_add_one, List.getElem?_eq_getElem hi, hg, allB_append, hs, str_append, str_append]
    simp only [Option.toList, allB, evB, List.append_nil, List.append_assoc]
    rw [show f0 % 256 = f0 by omega, show f1 % 256 = f1 by omega]
  · by_cases hji : j = x.toNat
    · rw [hji, List.getD_eq_getElem?_getD, List.getElem?_eq_getElem hi, Option.getD_some, hg]
      exact decide_eq_true (by simpa using hf)
    · exact hok j (by omega)
theorem four_r (a : Int) (w : World) (h : 0 ≤ a ∧ a < 4294967296) :
    Calls Tryz.prog 22 #[.int .u32 a, .int .i64 4] w fun e w' => e = .returned (.tuple #[.string (strOfNums (w4 a)), .int .i64 0]) ∧ Below w.heap.size w w' := prioryref05_Put.calls 6 a 4 _ _ w (p5_four 0 a h)
def prioryref27_Put.T10 : Bool × List (List Nat × List Nat) := (true, [([], []), ([], []), ([], []), ([1, 2], [1, 2]), ([3], [3]), ([4], [4]), ([5], [5]), ([], []), ([], []), ([7, 8], [7, 8]), ([9], [9]), ([10], [10]), ([11], [11]), ([6, 12], [6, 12]), ([13], [13]), ([0, 14], [0, 14]), ([], []), ([15, 16], [15, 16]), ([17, 0, 1, 2, 3, 4, 5, 6, 7, 8, 9, 10, 11, 12, 13, 14, 15, 16, 17], [0, 17])])
def prioryref27_Put.B10 : List Nat := [0, 0, 0, 6, 14, 30, 62, 0, 0, 384, 896, 1920, 3968, 8190, 16382, 32767, 0, 131071, 262143]
theorem prioryref27_Put.tab10 : rtab .any (opsOf Tryz.f9 10) = prioryref27_Put.T10 := by kernel_rfl
theorem prioryref27_Put.bits10 : waitsOk prioryref27_Put.T10.2 prioryref27_Put.B10 = true := by kernel_rfl
set_option maxHeartbeats 4000000 in
set_option maxRecDepth 100000 in
theorem rput_calls (A0 : Option Addr) (c0 : Nat) (l0 : List S40) (w : World) (hr0 : Kd.C k40 w A0 l0.length l0) (hc0 : l0.length ≤ c0) (hl : l0.length ≤ 10000) (hw : ∀ x ∈ l0, 0 ≤ x.f2 ∧ x.f2 < 4294967296) :
    Calls Tryz.prog 9 #[.slice A0 l0.length c0] w fun e w' => e = .returned (.tuple #[.string (putE l0).1, .int .i64 (putE l0).2]) ∧ Below w.heap.size w w' := by
  have HR0 := Aside0.mk hr0
  have HW := Aside0.mk hw
  clear hr0 hw
  have c2b0 : decide (10000 < (l0.length : Int)) = false := decide_eq_false (by omega)
  have c2b1 : decide (10000 < l0.length) = false := decide_eq_false (by omega)
  go_enter Tryz.func9, Tryz.ntmps9
  go_wp2
  go_loopw [4, 5] (fun v4 v5 wr => ∃ x : Int, 0 ≤ x ∧ x ≤ (l0.length : Int) ∧ v5 = .int .i64 x ∧ ∃ s : ByteArray, v4 = .string s ∧ RputR l0 w x s wr) (fun _ v _ => l0.length - (intOf v).toNat)
  case atStart => exact ⟨0, by omega, by omega, rfl, _, rfl, rfl, Below.refl _ _, fun j h => by simp at h⟩
  case round =>
    obtain ⟨x, hx0, hx1, rfl, s, rfl, HP⟩ := hrel
    by_cases hlt : x < (l0.length : Int)
    · obtain ⟨hb, hB, hok⟩ := HP
      have HB := Aside0.mk hB
      have HI := Aside0.mk hb
      have HOK := Aside0.mk hok
      clear hb hB hok
      obtain ⟨ad, e, h0, h1, h2⟩ := at_T40 HR0.out x hx0 hlt
      cases e
      have H2 := Aside0.mk h2
      have H1 := Aside0.mk h1
      have H0 := Aside0.mk h0
      replace h0 := (HB.out.cell (World.block_lt_of_cell? w _ h0)).trans h0
      replace h1 := (HB.out.cell (World.block_lt_of_cell? w _ h1)).trans h1
      replace h2 := (HB.out.cell (World.block_lt_of_cell? w _ h2)).trans h2
      have hm : rd_T40 l0 x ∈ l0 := by
        unfold rd_T40
        rw [List.getD_eq_getElem?_getD, List.getElem?_eq_getElem (by omega)]
        exact List.getElem_mem _
      obtain ⟨f0, f1, f2, hx⟩ : ∃ f0 f1 f2, rd_T40 l0 x = ⟨f0, f1, f2⟩ := ⟨_, _, _, rfl⟩
      rw [hx] at h0 h1 h2 hm H0 H1 H2
      have HX := Aside0.mk hx
      have HM := Aside0.mk hm
      clear hx hm
      have q1 : x < (l0.length : Int) := hlt
      have d1 : decide (x < (l0.length : Int)) = true := decide_eq_true hlt
      have hx0p := hx0
      replace hx0 := eq_true hx0
      replace q1 := eq_true q1
      have hbad : ¬ (0 ≤ f0 ∧ f0 ≤ 255 ∧ 0 ≤ f1 ∧ f1 ≤ 255) → putE l0 = (⟨#[]⟩, 2) := fun h => put_bad HM.out (decide_eq_false h)
      have HBD := Aside0.mk hbad
      clear hbad
      by_cases a0 : f0 < 0
      · have b0 : decide (f0 < 0) = true := decide_eq_true a0
        go_wp2
        go_ret2
        exact ⟨by rw [HBD.out (by omega)]; rfl, HB.out⟩
      have b0 : decide (f0 < 0) = false := decide_eq_false a0
      by_cases a1 : 255 < f0
      · have b1 : decide (255 < f0) = true := decide_eq_true a1
        go_wp2
        go_ret2
        exact ⟨by rw [HBD.out (by omega)]; rfl, HB.out⟩
      have b1 : decide (255 < f0) = false := decide_eq_false a1
      by_cases a2 : f1 < 0
      · have b2 : decide (f1 < 0) = true := decide_eq_true a2
        go_wp2
        go_ret2
        exact ⟨by rw [HBD.out (by omega)]; rfl, HB.out⟩
      have b2 : decide (f1 < 0) = false := decide_eq_false a2
      by_cases a3 : 255 < f1
      · have b3 : decide (255 < f1) = true := decide_eq_true a3
        go_wp2
        go_ret2
        exact ⟨by rw [HBD.out (by omega)]; rfl, HB.out⟩
      have b3 : decide (255 < f1) = false := decide_eq_false a3
      have hf2 := Aside0.mk (HW.out _ HM.out)
      go_wp2_with fail
      refine (four_r _ _ hf2.out).mono ?_
      rintro e w3 ⟨rfl, hb3⟩
      have HB3 := Aside0.mk (HB.out.trans (hb3.mono HB.out.size))
      clear hb3 h0 h1 h2
      have h0 := (HB3.out.cell (World.block_lt_of_cell? w _ H0.out)).trans H0.out
      have h1 := (HB3.out.cell (World.block_lt_of_cell? w _ H1.out)).trans H1.out
      obtain ⟨T, hT⟩ : ∃ T, T = strOfNums (w4 f2) := ⟨_, rfl⟩
      rw [← hT]
      have HT := Aside0.mk hT
      clear hT
      go_wp2_with fail
      have HA := Aside0.mk (show 0 ≤ f0 ∧ f0 ≤ 255 ∧ 0 ≤ f1 ∧ f1 ≤ 255 by omega)
      have HSI := HI
      have hn0 : s.size + (strOfNums [f0 % 256, f1 % 256]).size + T.size ≤ 70000 := by
        rw [HI.out, HT.out, str_size, str_size, str_size, allB_len, List.length_take]
        simp only [List.length_cons, List.length_nil, w4]
        omega
      have hn1 : (9223372036854775807 < s.size + (strOfNums [f0 % 256, f1 % 256]).size) = False := eq_false (by omega)
      have hn2 : (9223372036854775807 < s.size + (strOfNums [f0 % 256, f1 % 256]).size + T.size) = False := eq_false (by omega)
      clear hn0
      clear a0 a1 a2 a3 HI HB
      have HB := Aside0.mk (below_drew1 HB3.out)
      refine start_ (n := 19) (S := fun w' => w'.cell? (ad.add (x.toNat * 3)) = some (.int .i64 f0) ∧ w'.cell? ⟨(ad.add (x.toNat * 3)).block, (ad.add (x.toNat * 3)).off + 1, none⟩ = some (.int .i64 f1) ∧ w'.cell? ⟨(ad.add (x.toNat * 3)).block, (ad.add (x.toNat * 3)).off + 2, none⟩ = some (.int .u32 f2) ∧ w'.cell? (ad.add (x.toNat * 3)) = some (.int .i64 f0) ∧ w'.cell? ⟨(ad.add (x.toNat * 3)).block, (ad.add (x.toNat * 3)).off + 1, none⟩ = some (.int .i64 f1) ∧ w'.cell? ⟨(ad.add (x.toNat * 3)).block, (ad.add (x.toNat * 3)).off + 2, none⟩ = some (.int .u32 f2)) (ds := []) #[false, false, false, false, false, false, false, false, false, false, false, false, false, false, false, false, false, false, false] (by kernel_rfl) rfl rfl ⟨((HB.out.cell (World.block_lt_of_cell? w _ H0.out)).trans H0.out), ((HB.out.cell (World.block_lt_of_cell? w _ H1.out)).trans H1.out), ((HB.out.cell (World.block_lt_of_cell? w _ H2.out)).trans H2.out), ((HB.out.cell (World.block_lt_of_cell? w _ H0.out)).trans H0.out), ((HB.out.cell (World.block_lt_of_cell? w _ H1.out)).trans H1.out), ((HB.out.cell (World.block_lt_of_cell? w _ H2.out)).trans H2.out)⟩ (fun hHeld => ?_); refine with_tabW prioryref27_Put.tab10 prioryref27_Put.bits10 (fun HT_ HW_ => ?_)
      generalize w3.drew = w13 at HB h0 h1 hHeld ⊢
      refine pure_ (i := 0) (N := some 56) (v := ?_) (a' := ?_) #[true, false, false, false, false, false, false, false, false, false, false, false, false, false, false, false, false, false, false] rfl rfl (any_of HT_.out (by kernel_rfl)) (fun _ _ _ h => h) (Or.inl ⟨by rfl, ?_⟩) ?_ ?_
      rotate_left
      · intro w'
        go_simp
        with_reducible rfl
      rotate_left
      · simp only [Act.put, List.setIfInBounds_toArray, List.set_cons_zero, List.set_cons_succ, i64_w, i32_w]
        rfl
      refine pure_ (i := 1) (N := some 57) (v := ?_) (a' := ?_) #[true, true, false, false, false, false, false, false, false, false, false, false, false, false, false, false, false, false, false] rfl rfl (any_of HT_.out (by kernel_rfl)) (fun _ _ _ h => h) (Or.inl ⟨by rfl, ?_⟩) ?_ ?_
      rotate_left
      · intro w'
        go_simp
        with_reducible rfl
      rotate_left
      · simp only [Act.put, List.setIfInBounds_toArray, List.set_cons_zero, List.set_cons_succ, i64_w, i32_w]
        rfl
      refine pure_ (i := 2) (N := some 58) (v := ?_) (a' := ?_) #[true, true, true, false, false, false, false, false, false, false, false, false, false, false, false, false, false, false, false] rfl rfl (any_of HT_.out (by kernel_rfl)) (fun _ _ _ h => h) (Or.inl ⟨by rfl, ?_⟩) ?_ ?_
      rotate_left
      · intro w'
        go_simp
        with_reducible rfl
      rotate_left
      · simp only [Act.put, List.setIfInBounds_toArray, List.set_cons_zero, List.set_cons_succ, i64_w, i32_w]
        rfl
      refine pure_ (i := 3) (N := some 59) (v := ?_) (a' := ?_) #[true, true, true, true, false, false, false, false, false, false, false, false, false, false, false, false, false, false, false] rfl rfl (any_of HT_.out (by kernel_rfl)) (fun _ _ _ h => h) (Or.inl ⟨by rfl, ?_⟩) ?_ ?_
      rotate_left
      · intro w'
        go_simp
        with_reducible rfl
      rotate_left
      · simp only [Act.put, List.setIfInBounds_toArray, List.set_cons_zero, List.set_cons_succ, i64_w, i32_w]
        rfl
      refine pure_ (i := 4) (N := some 60) (v := ?_) (a' := ?_) #[true, true, true, true, true, false, false, false, false, false, false, false, false, false, false, false, false, false, false] rfl rfl (any_of HT_.out (by kernel_rfl)) (fun _ _ _ h => h) (Or.inl ⟨by rfl, ?_⟩) ?_ ?_
      rotate_left
      · intro w'
        go_simp
        with_reducible rfl
      rotate_left
      · simp only [Act.put, List.setIfInBounds_toArray, List.set_cons_zero, List.set_cons_succ, i64_w, i32_w]
        rfl
      refine pure_ (i := 7) (N := some 63) (v := ?_) (a' := ?_) #[true, true, true, true, true, false, false, true, false, false, false, false, false, false, false, false, false, false, false] rfl rfl (any_of HT_.out (by kernel_rfl)) (fun _ _ _ h => h) (Or.inl ⟨by rfl, ?_⟩) ?_ ?_
      rotate_left
      · intro w'
        go_simp
        with_reducible rfl
      rotate_left
      · simp only [Act.put, List.setIfInBounds_toArray, List.set_cons_zero, List.set_cons_succ, i64_w, i32_w]
        rfl
      refine pure_ (i := 8) (N := some 64) (v := ?_) (a' := ?_) #[true, true, true, true, true, false, false, true, true, false, false, false, false, false, false, false, false, false, false] rfl rfl (any_of HT_.out (by kernel_rfl)) (fun _ _ _ h => h) (Or.inl ⟨by rfl, ?_⟩) ?_ ?_
      rotate_left
      · intro w'
        go_simp
        with_reducible rfl
      rotate_left
      · simp only [Act.put, List.setIfInBounds_toArray, List.set_cons_zero, List.set_cons_succ, i64_w, i32_w]
        rfl
      refine pure_ (i := 9) (N := some 65) (v := ?_) (a' := ?_) #[true, true, true, true, true, false, false, true, true, true, false, false, false, false, false, false, false, false, false] rfl rfl (any_of HT_.out (by kernel_rfl)) (fun _ _ _ h => h) (Or.inl ⟨by rfl, ?_⟩) ?_ ?_
      rotate_left
      · intro w'
        go_simp
        with_reducible rfl
      rotate_left
      · simp only [Act.put, List.setIfInBounds_toArray, List.set_cons_zero, List.set_cons_succ, i64_w, i32_w]
        rfl
      refine pure_ (i := 10) (N := some 66) (v := ?_) (a' := ?_) #[true, true, true, true, true, false, false, true, true, true, true, false, false, false, false, false, false, false, false] rfl rfl (any_of HT_.out (by kernel_rfl)) (fun _ _ _ h => h) (Or.inl ⟨by rfl, ?_⟩) ?_ ?_
      rotate_left
      · intro w'
        go_simp
        with_reducible rfl
      rotate_left
      · simp only [Act.put, List.setIfInBounds_toArray, List.set_cons_zero, List.set_cons_succ, i64_w, i32_w]
        rfl
      refine pure_ (i := 16) (N := some 72) (v := ?_) (a' := ?_) #[true, true, true, true, true, false, false, true, true, true, true, false, false, false, false, false, true, false, false] rfl rfl (any_of HT_.out (by kernel_rfl)) (fun _ _ _ h => h) (Or.inl ⟨by rfl, ?_⟩) ?_ ?_
      rotate_left
      · intro w'
        go_simp
        with_reducible rfl
      rotate_left
      · simp only [Act.put, List.setIfInBounds_toArray, List.set_cons_zero, List.set_cons_succ, i64_w, i32_w]
        rfl
      refine take_ (i := 5) (N := some 61) (v := ?_) (a' := ?_) #[true, true, true, true, true, true, false, true, true, true, true, false, false, false, false, false, true, false, false] rfl rfl (take_ofW HT_.out HW_.out (by kernel_rfl)) (fun _ _ _ h => h) (Or.inl ⟨by rfl, ?_⟩) hHeld ?_ ?_
      rotate_left
      · rintro w' ⟨s0, s1, s2, s3, s4, s5⟩
        go_simp
        with_reducible rfl
      rotate_left
      · simp only [Act.put, List.setIfInBounds_toArray, List.set_cons_zero, List.set_cons_succ, i64_w, i32_w]
        rfl
      refine pure_ (i := 6) (N := some 62) (v := ?_) (a' := ?_) #[true, true, true, true, true, true, true, true, true, true, true, false, false, false, false, false, true, false, false] rfl rfl (any_of HT_.out (by kernel_rfl)) (fun _ _ _ h => h) (Or.inl ⟨by rfl, ?_⟩) ?_ ?_
      rotate_left
      · intro w'
        go_simp
        with_reducible rfl
      rotate_left
      · simp only [Act.put, List.setIfInBounds_toArray, List.set_cons_zero, List.set_cons_succ, i64_w, i32_w]
        rfl
      refine take_ (i := 11) (N := some 67) (v := ?_) (a' := ?_) #[true, true, true, true, true, true, true, true, true, true, true, true, false, false, false, false, true, false, false] rfl rfl (take_ofW HT_.out HW_.out (by kernel_rfl)) (fun _ _ _ h => h) (Or.inl ⟨by rfl, ?_⟩) hHeld ?_ ?_
      rotate_left
      · rintro w' ⟨s0, s1, s2, s3, s4, s5⟩
        go_simp
        with_reducible rfl
      rotate_left
      · simp only [Act.put, List.setIfInBounds_toArray, List.set_cons_zero, List.set_cons_succ, i64_w, i32_w]
        rfl
      refine pure_ (i := 12) (N := some 68) (v := ?_) (a' := ?_) #[true, true, true, true, true, true, true, true, true, true, true, true, true, false, false, false, true, false, false] rfl rfl (any_of HT_.out (by kernel_rfl)) (fun _ _ _ h => h) (Or.inl ⟨by rfl, ?_⟩) ?_ ?_
      rotate_left
      · intro w'
        go_simp
        with_reducible rfl
      rotate_left
      · simp only [Act.put, List.setIfInBounds_toArray, List.set_cons_zero, List.set_cons_succ, i64_w, i32_w]
        rfl
      refine one_ (i := 13) (N := some 69) #[true, true, true, true, true, true, true, true, true, true, true, true, true, true, false, false, true, false, false] rfl rfl (one_of HT_.out (by kernel_rfl)) (by decide) (fun K hK => ?_)
      refine Kd.R_lit_step (Kd.int .u8) _ 5 ?hg (N := 69) ?hd (xs := ([f0 % 256, f1 % 256] : List Int)) (inner := [.int .u8 (f0 % 256), .int .u8 (f1 % 256)]) (ok := fun _ => True) (okp := fun _ => True) ?hr ?hp (fun _ hk => hk) trivial (Below.refl _ _) (Nat.le_refl _) (by simp) ?_; (case hd => rfl); (case hg => rfl); (case hr => first | (go_simp; done) | (go_simp; rfl)); (case hp => exact (Reps.one (show Kd.M (Kd.int .u8) _ _ _ (f0 % 256) [.int .u8 (f0 % 256)] from rfl) (Reps.one (show Kd.M (Kd.int .u8) _ _ _ (f1 % 256) [.int .u8 (f1 % 256)] from rfl) (Reps.none _ _))))
      intro v126 w14 ho15 hb hg_ hnew_
      clear hg_ hnew_
      skip
      have n0_ := Aside0.mk (Kd.R_lower ho15 (below_size (by repeat (first | (with_reducible first | exact HB.out | apply below_alloc | apply pw_below_drewN | apply below_drew1) | exact HB.out))))
      have n1_ := Aside0.mk (below_step (by repeat (first | (with_reducible first | exact HB.out | apply below_alloc | apply pw_below_drewN | apply below_drew1) | exact HB.out)) hb)
      clear HB
      have HO127 := n0_
      have HB := n1_
      clear n0_ n1_
      clear hb ho15
      refine hK.out _ _ ⟨((HB.out.cell (World.block_lt_of_cell? w _ H0.out)).trans H0.out), ((HB.out.cell (World.block_lt_of_cell? w _ H1.out)).trans H1.out), ((HB.out.cell (World.block_lt_of_cell? w _ H2.out)).trans H2.out), ((HB.out.cell (World.block_lt_of_cell? w _ H0.out)).trans H0.out), ((HB.out.cell (World.block_lt_of_cell? w _ H1.out)).trans H1.out), ((HB.out.cell (World.block_lt_of_cell? w _ H2.out)).trans H2.out)⟩ (fun hHeld => ?_)
      clear hK K
      refine norm_ (a' := ?_) ?_ ?_
      rotate_left
      · show Act.put _ (some 69) _ = _
        simp only [Act.put, List.setIfInBounds_toArray, List.set_cons_zero, List.set_cons_succ, i64_w, i32_w]
        rfl
      refine one_ (i := 14) (N := some 70) #[true, true, true, true, true, true, true, true, true, true, true, true, true, true, true, false, true, false, false] rfl rfl (one_of HT_.out (by kernel_rfl)) (by decide) (fun K hK => ?_)
      have hcv16 := own_string (P := Tryz.prog) Tryz.underlying45 Tryz.underlying5 Tryz.underlying9 (Kd.own_of_R HO127.out)
      refine value_ (w1 := ?_) (v := ?_) (by rfl) rfl ?_ ?_
      rotate_left 2
      · go_simp
        constructor
        · rfl
        · rfl
      clear hcv16
      refine hK.out _ _ ⟨((HB.out.cell (World.block_lt_of_cell? w _ H0.out)).trans H0.out), ((HB.out.cell (World.block_lt_of_cell? w _ H1.out)).trans H1.out), ((HB.out.cell (World.block_lt_of_cell? w _ H2.out)).trans H2.out), ((HB.out.cell (World.block_lt_of_cell? w _ H0.out)).trans H0.out), ((HB.out.cell (World.block_lt_of_cell? w _ H1.out)).trans H1.out), ((HB.out.cell (World.block_lt_of_cell? w _ H2.out)).trans H2.out)⟩ (fun hHeld => ?_)
      clear hK K
      refine norm_ (a' := ?_) ?_ ?_
      rotate_left
      · show Act.put _ (some 70) _ = _
        simp only [Act.put, List.setIfInBounds_toArray, List.set_cons_zero, List.set_cons_succ, i64_w, i32_w]
        rfl
      refine pure_ (i := 15) (N := some 71) (v := ?_) (a' := ?_) #[true, true, true, true, true, true, true, true, true, true, true, true, true, true, true, true, true, false, false] rfl rfl (any_of HT_.out (by kernel_rfl)) (fun _ _ _ h => h) (Or.inl ⟨by rfl, ?_⟩) ?_ ?_
      rotate_left
      · intro w'
        go_simp
        with_reducible rfl
      rotate_left
      · simp only [Act.put, List.setIfInBounds_toArray, List.set_cons_zero, List.set_cons_succ, i64_w, i32_w]
        rfl
      refine pure_ (i := 17) (N := some 73) (v := ?_) (a' := ?_) #[true, true, true, true, true, true, true, true, true, true, true, true, true, true, true, true, true, true, false] rfl rfl (any_of HT_.out (by kernel_rfl)) (fun _ _ _ h => h) (Or.inl ⟨by rfl, ?_⟩) ?_ ?_
      rotate_left
      · intro w'
        go_simp
        with_reducible rfl
      rotate_left
      · simp only [Act.put, List.setIfInBounds_toArray, List.set_cons_zero, List.set_cons_succ, i64_w, i32_w]
        rfl
      refine pure_ (i := 18) (N := some 4) (v := ?_) (a' := ?_) #[true, true, true, true, true, true, true, true, true, true, true, true, true, true, true, true, true, true, true] rfl rfl (any_of HT_.out (by kernel_rfl)) (fun _ _ _ h => h) (Or.inl ⟨by rfl, ?_⟩) ?_ ?_
      rotate_left
      · intro w'
        go_simp
        with_reducible rfl
      rotate_left
      · simp only [Act.put, List.setIfInBounds_toArray, List.set_cons_zero, List.set_cons_succ, i64_w, i32_w]
        rfl
      refine done_ (done_of HT_.out (by kernel_rfl)) ?_
      go_wp2
      go_roundw
      case rel => exact ⟨x + 1, by omega, by omega, by first | rfl | go_num, _, rfl, by rw [HT.out, show f0 % 256 = f0 by have := HA.out; omega, show f1 % 256 = f1 by have := HA.out; omega]; exact rput_next hx0p hlt f0 f1 f2 HX.out HA.out HSI.out HOK.out HB.out⟩
      case measure => clear hx0 q1; simp [intOf]; omega
    · have d1 : decide (x < (l0.length : Int)) = false := decide_eq_false hlt
      obtain ⟨hb, hB, hok⟩ := HP
      have HB := Aside0.mk hB
      have hg := Aside0.mk (put_good (l := l0) (fun j hj => hok j (by omega)))
      rw [List.take_of_length_le (by omega)] at hb
      have HI := Aside0.mk hb
      clear hb hB hok
      go_wp2
      go_ret2
      exact ⟨by rw [hg.out, HI.out]; rfl, HB.out⟩
end Go.Proofs.YtcmildkkigccaaaGreatDoor.PAll
