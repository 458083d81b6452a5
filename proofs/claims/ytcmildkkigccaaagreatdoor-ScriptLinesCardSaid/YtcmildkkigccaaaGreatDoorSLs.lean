/-
  script.Lines: the lines of observations.
-/
import Derived.Test.YtcmildkkigccaaaGreatDoorSLn
import Derived.Test.YtcmildkkigccaaaGreatDoorSxa
import Derived.Outline
namespace Go.Proofs.YtcmildkkigccaaaGreatDoor.PLin
open Go.RowKit Go.Proofs.YtcmildkkigccaaaGreatDoorW.PrintWords Go.Proofs.YtcmildkkigccaaaGreatDoorW.PrintLast Go.Proofs.YtcmildkkigccaaaGreatDoorW.PrintMore
open Go.Proofs.YtcmildkkigccaaaGreatDoor.PAll (byte_calls text_calls isB_below isB_lt blk_alloc lt_of_blk kept_cell)
set_option linter.unusedVariables false
set_option linter.unusedSimpArgs false
/-- Observations. -/
structure S35 where
  f0 : Int
  f1 : Int
  f2 : Int
  f3 : Int
  f4 : Int
def z35 : S35 := ⟨0, 0, 0, 0, 0⟩
def k35 : Kd S35 := Kd.iso (Kd.pair (Kd.int .i64) (Kd.pair (Kd.int .i64) (Kd.pair (Kd.int .i64) (Kd.pair (Kd.int .u32) (Kd.int .u32))))) (fun x : S35 => (x.f0, x.f1, x.f2, x.f3, x.f4))
theorem k35_open {w : World} {x : S35} {cs : List Value} (h : k35.K w x cs) : cs = [.int .i64 x.f0, .int .i64 x.f1, .int .i64 x.f2, .int .u32 x.f3, .int .u32 x.f4] := by
  obtain ⟨_, _, rfl, rfl, ⟨_, _, rfl, rfl, ⟨_, _, rfl, rfl, ⟨_, _, rfl, rfl, rfl⟩⟩⟩⟩ := h
  exact rfl
theorem k35_mk (w : World) (x : S35)  : k35.K w x [.int .i64 x.f0, .int .i64 x.f1, .int .i64 x.f2, .int .u32 x.f3, .int .u32 x.f4] :=
  ⟨[.int .i64 x.f0], _, rfl, rfl, ⟨[.int .i64 x.f1], _, rfl, rfl, ⟨[.int .i64 x.f2], _, rfl, rfl, ⟨[.int .u32 x.f3], [.int .u32 x.f4], rfl, rfl, rfl⟩⟩⟩⟩
def rd_T35 (xs : List S35) (i : Int) : S35 := xs.getD i.toNat z35
theorem at_T35 {w : World} {A : Option Addr} {n : Nat} {xs : List S35} (h : Kd.C k35 w A n xs) (i : Int) (h0 : 0 ≤ i) (h1 : i < n) : ∃ ad, A = some ad ∧ w.cell? (ad.add (i.toNat * 5)) = some (.int .i64 (rd_T35 xs i).f0) ∧
    w.cell? ⟨(ad.add (i.toNat * 5)).block, (ad.add (i.toNat * 5)).off + 1, none⟩ = some (.int .i64 (rd_T35 xs i).f1) ∧ w.cell? ⟨(ad.add (i.toNat * 5)).block, (ad.add (i.toNat * 5)).off + 2, none⟩ = some (.int .i64 (rd_T35 xs i).f2) ∧
    w.cell? ⟨(ad.add (i.toNat * 5)).block, (ad.add (i.toNat * 5)).off + 3, none⟩ = some (.int .u32 (rd_T35 xs i).f3) ∧ w.cell? ⟨(ad.add (i.toNat * 5)).block, (ad.add (i.toNat * 5)).off + 4, none⟩ = some (.int .u32 (rd_T35 xs i).f4) := by
  obtain ⟨ad, c, e, _, hK, hc0⟩ := Kd.C_get h z35 i h0 h1
  have hc : ∀ j u, c[j]? = some u → w.cell? (ad.add (i.toNat * 5 + j)) = some u := hc0
  obtain rfl := k35_open hK
  exact ⟨ad, e, hc 0 _ rfl, by rw [← add_field _ _ 1 (by omega)]; exact hc 1 _ rfl, by rw [← add_field _ _ 2 (by omega)]; exact hc 2 _ rfl, by rw [← add_field _ _ 3 (by omega)]; exact hc 3 _ rfl, by rw [← add_field _ _ 4 (by omega)]; exact hc 4 _ rfl⟩
/-- What the row gives of each observation. -/
def WdO (x : S35) : Prop := x.f0 ≤ 9223372036854775807 ∧ x.f1 ≤ 9223372036854775807 ∧ x.f2 ≤ 9223372036854775807 ∧ 0 ≤ x.f3 ∧ x.f3 < 4294967296 ∧ 0 ≤ x.f4 ∧ x.f4 < 4294967296
/-- Numbers from 0 on. -/
def PosO (x : S35) : Prop := 0 ≤ x.f0 ∧ 0 ≤ x.f1 ∧ 0 ≤ x.f2
def lnO (x : S35) : ByteArray := lineB x.f0.toNat x.f1.toNat x.f2.toNat x.f3.toNat x.f4.toNat
def nlB : ByteArray := ⟨#[10]⟩
def allL : List S35 → ByteArray
  | [] => ⟨#[]⟩
  | x :: l => lnO x ++ nlB ++ allL l
theorem allL_snoc : ∀ (l : List S35) (x : S35), allL (l ++ [x]) = allL l ++ lnO x ++ nlB
  | [], x => by
    have e : ∀ b : ByteArray, (⟨#[]⟩ : ByteArray) ++ b = b := fun b => by apply ByteArray.ext; simp [ByteArray.data_append]
    have e2 : ∀ b : ByteArray, b ++ (⟨#[]⟩ : ByteArray) = b := fun b => by apply ByteArray.ext; simp [ByteArray.data_append]
    simp only [List.nil_append, allL]
    rw [e, e2]
  | y :: l, x => by simp only [List.cons_append, allL]; rw [allL_snoc l x]; simp only [ByteArray.append_assoc]
theorem lnO_size (x : S35) (h : WdO x) : (lnO x).size ≤ 104 := line_size _ _ _ _ _ (by have := h.1; omega) (by have := h.2.1; omega) (by have := h.2.2.1; omega) (by have := h.2.2.2.2.1; omega) (by have := h.2.2.2.2.2.2; omega)
theorem allL_size : ∀ l : List S35, (∀ x ∈ l, WdO x) → (allL l).size ≤ 105 * l.length
  | [], _ => Nat.le_refl _
  | x :: l, h => by
    have a := lnO_size x (h x (by simp))
    have b := allL_size l (fun y hy => h y (by simp [hy]))
    simp only [allL, ByteArray.size_append, List.length_cons]
    have : nlB.size = 1 := rfl
    omega
theorem sl_is (x : S35) (w : World) (ht : Pow w) (hw : WdO x) (hp : PosO x) :
    Calls Tryz.prog 13 #[.agg #[.int .i64 x.f0, .int .i64 x.f1, .int .i64 x.f2, .int .u32 x.f3, .int .u32 x.f4]] w fun en w' => en = .returned (.string (lnO x)) ∧ Below w.heap.size w w' := by
  have h := sline_calls x.f0.toNat x.f1.toNat x.f2.toNat x.f3.toNat x.f4.toNat w ht (by have := hw.1; omega) (by have := hw.2.1; omega) (by have := hw.2.2.1; omega) (by have := hw.2.2.2.2.1; omega) (by have := hw.2.2.2.2.2.2; omega)
  rw [Int.toNat_of_nonneg hp.1, Int.toNat_of_nonneg hp.2.1, Int.toNat_of_nonneg hp.2.2, Int.toNat_of_nonneg hw.2.2.2.1, Int.toNat_of_nonneg hw.2.2.2.2.2.1] at h
  exact h
theorem rl_is (x : S35) (w : World) (hw : WdO x) (hp : PosO x) :
    Calls Tryz.prog 14 #[.agg #[.int .i64 x.f0, .int .i64 x.f1, .int .i64 x.f2, .int .u32 x.f3, .int .u32 x.f4]] w fun en w' => en = .returned (.string (lnO x)) ∧ Below w.heap.size w w' := by
  have h := prioryref27_Line.calls 20 x.f0 x.f1 x.f2 x.f3 x.f4 (lnO x) w (by
    have := line_f x.f0.toNat x.f1.toNat x.f2.toNat x.f3.toNat x.f4.toNat (by have := hw.1; omega) (by have := hw.2.1; omega) (by have := hw.2.2.1; omega) (by have := hw.2.2.2.2.1; omega) (by have := hw.2.2.2.2.2.2; omega)
    rw [Int.toNat_of_nonneg hp.1, Int.toNat_of_nonneg hp.2.1, Int.toNat_of_nonneg hp.2.2, Int.toNat_of_nonneg hw.2.2.2.1, Int.toNat_of_nonneg hw.2.2.2.2.2.1] at this
    exact this)
  exact h
/-- What holds at the head of a round. -/
def LsR (l : List S35) (w : World) (i : Nat) (wr : World) : Prop := Lib.IsBuilderF 47 5 w.heap.size w.heap.size (Lib.strCells (allL (l.take i))) wr ∧ Below w.heap.size w wr
theorem strCells_append (a b : ByteArray) : Lib.strCells (a ++ b) = Lib.strCells a ++ Lib.strCells b := by simp [Lib.strCells]
set_option maxHeartbeats 4000000 in
set_option maxRecDepth 100000 in
theorem slines_calls (A0 : Option Addr) (c0 : Nat) (l0 : List S35) (w : World) (ht : Pow w) (hr0 : Kd.C k35 w A0 l0.length l0) (hc0 : l0.length ≤ c0) (hl : l0.length ≤ 100) (hw : ∀ x ∈ l0, WdO x) (hp : ∀ x ∈ l0, PosO x) :
    Calls Tryz.prog 15 #[.slice A0 l0.length c0] w fun e w' => e = .returned (.string (allL l0)) ∧ Below w.heap.size w w' := by
  have HT := Aside0.mk ht
  have HR0 := Aside0.mk hr0
  have HW := Aside0.mk hw
  have HP := Aside0.mk hp
  clear ht hr0 hw hp
  go_enter Tryz.func15, Tryz.ntmps15
  go_wp2
  go_loopw [10] (fun v wr => ∃ i : Nat, i ≤ l0.length ∧ v = .int .i64 i ∧ Aside0 (LsR l0 w i wr)) (fun v _ => l0.length - (intOf v).toNat)
  case atStart => exact ⟨0, by omega, rfl, ⟨Lib.IsBuilderF.of (Lib.fresh_isBuilder 47 5 w), (Below.refl _ _).alloc (Nat.le_refl _) _⟩⟩
  case round =>
    obtain ⟨i, hi, rfl, HR⟩ := hrel
    by_cases hlt : i < l0.length
    · obtain ⟨ad, e, h0, h1, h2, h3, h4⟩ := at_T35 HR0.out (i : Int) (by omega) (by omega)
      cases e
      rw [Int.toNat_natCast] at h0 h1 h2 h3 h4
      replace h0 := (HR.out.2.cell (World.block_lt_of_cell? w _ h0)).trans h0
      replace h1 := (HR.out.2.cell (World.block_lt_of_cell? w _ h1)).trans h1
      replace h2 := (HR.out.2.cell (World.block_lt_of_cell? w _ h2)).trans h2
      replace h3 := (HR.out.2.cell (World.block_lt_of_cell? w _ h3)).trans h3
      replace h4 := (HR.out.2.cell (World.block_lt_of_cell? w _ h4)).trans h4
      obtain ⟨x, hx⟩ : ∃ x, rd_T35 l0 (i : Int) = x := ⟨_, rfl⟩
      rw [hx] at h0 h1 h2 h3 h4
      have hg : l0[i] = x := by rw [← hx]; unfold rd_T35; rw [Int.toNat_natCast, List.getD_eq_getElem?_getD, List.getElem?_eq_getElem hlt]; rfl
      have hm : x ∈ l0 := by rw [← hg]; exact List.getElem_mem hlt
      have HX := Aside0.mk hg
      have HM := Aside0.mk hm
      clear hx hg hm
      obtain ⟨f0, f1, f2, f3, f4⟩ := x
      simp only at h0 h1 h2 h3 h4
      have hne : wr.heap.size ≠ w.heap.size := by have := isB_lt HR.out.1; omega
      have HNE := Aside0.mk hne
      clear hne
      go_wp2_with fail
      refine (sl_is ⟨f0, f1, f2, f3, f4⟩ _ (HT.out.below (HR.out.2.alloc HR.out.2.size _)) (HW.out _ HM.out) (HP.out _ HM.out)).mono ?_
      rintro e w1 ⟨rfl, hb1⟩
      obtain ⟨S, hS⟩ : ∃ S, S = lnO ⟨f0, f1, f2, f3, f4⟩ := ⟨_, rfl⟩
      rw [← hS]
      have HS := Aside0.mk hS
      clear hS
      have HI1 := Aside0.mk (isB_below (HR.out.1.alloc _) hb1)
      have HB1 := Aside0.mk ((HR.out.2.alloc HR.out.2.size _).trans (hb1.mono (by have := HR.out.2.size; simp; omega)))
      have hsz : (Lib.strCells (allL (l0.take i))).length + 200 + S.size ≤ 140737488355328 := by
        rw [Lib.strCells_length]
        have a := allL_size (l0.take i) (fun y hy => HW.out y (List.mem_of_mem_take hy))
        have b := lnO_size _ (HW.out _ HM.out)
        rw [← HS.out] at b
        rw [List.length_take] at a
        omega
      have HN := Aside0.mk hsz
      clear hb1 h0 h1 h2 h3 h4 hsz
      go_wp2_with fail
      refine (text_calls _ _ _ _ _ HI1.out (by have := HN.out; omega) HB1.out.size).mono ?_
      rintro e w2 ⟨rfl, hi2, hb2, _⟩
      have HI2 := Aside0.mk hi2
      have HB2 := Aside0.mk (HB1.out.trans hb2)
      clear hi2 hb2
      go_wp2_with fail
      refine (text_calls _ _ _ nlB _ HI2.out (by have := HN.out; rw [List.length_append, Lib.strCells_length S]; have : nlB.size = 1 := rfl; omega) HB2.out.size).mono ?_
      rintro e w3 ⟨rfl, hi3, hb3, _⟩
      have HF : Aside0 (LsR l0 w (i + 1) w3) := ⟨by
        rw [List.take_add_one, List.getElem?_eq_getElem hlt, HX.out]
        show Lib.IsBuilderF 47 5 _ _ (Lib.strCells (allL (l0.take i ++ [⟨f0, f1, f2, f3, f4⟩]))) _
        rw [allL_snoc, strCells_append, strCells_append, ← HS.out]
        exact hi3, HB2.out.trans hb3⟩
      clear hi3 hb3
      go_wp2
      go_roundw
      case rel => exact ⟨i + 1, by omega, by go_num, HF⟩
      case measure => simp [intOf]; omega
    · have hg : i = l0.length := by omega
      have HG := Aside0.mk hg
      have hb := HR.out.1
      rw [hg, List.take_of_length_le (by omega), Lib.strCells_eq] at hb
      have HI := Aside0.mk hb
      clear hb hg
      go_wp2_with fail
      refine (Tryz.Builder_String_any_k _ _ _ _ HI.out HR.out.2.size).mono ?_
      rintro e w1 ⟨rfl, _, hb1, _⟩
      have HB1 := Aside0.mk (HR.out.2.trans hb1)
      clear hb1
      go_wp2
      go_ret
      exact ⟨rfl, HB1.out⟩
end Go.Proofs.YtcmildkkigccaaaGreatDoor.PLin
