/-
  Walks and plain laws, joined of 8 texts.
-/
import Derived.Test.YtcmildkkigccaaaGreatDoorAllBase
import Derived.Lib.FrozenHead2
import Derived.Lib.OthersKept
import Derived.Laws.Externs
import Derived.Shelf.Strings.BuilderK
import Derived.Shelf.Strings.Builder1
import Derived.Shelf.Strings.BuilderF
import Derived.Test.YtcmildkkigccaaaGreatDoorProg
import Derived.Lib.Hide
import Derived.Outline
/-
  strings.Builder, as it is written: copyCheck, WriteByte, WriteString.
-/
namespace Go.Proofs.YtcmildkkigccaaaGreatDoor.PAll
open Go.RowKit
set_option linter.unusedVariables false
set_option linter.unusedSimpArgs false
theorem info47 : (Tryz.prog.info? 47).map (·.size) = some 2 := by kernel_rfl
theorem lies47 : liesAt Tryz.prog Tryz.prog.depth 47 (2 / Tryz.prog.cellsOf 47) 0 47 1 = true := by kernel_rfl
set_option maxHeartbeats 1000000 in
set_option maxRecDepth 100000 in
theorem check_used (b : Nat) (w : World) (h0 : w.cell? ⟨b, 0, none⟩ = some (.pointer (some ⟨b, 0, none⟩))) :
    Calls Tryz.prog 32 #[.pointer (some ⟨b, 0, none⟩)] w fun e w' => e = .returned (.tuple #[]) ∧ w' = w := by
  obtain ⟨j, hj, _⟩ := Option.map_eq_some_iff.1 info47
  go_enter Tryz.func32, Tryz.ntmps32
  go_wp2
  rw [Lib.run_neq_ptr_same w _ Tryz.underlying44 hj]
  go_wp2
  go_end0
  exact ⟨rfl, rfl⟩
set_option maxHeartbeats 1000000 in
set_option maxRecDepth 100000 in
theorem check_fresh (b : Nat) (w : World) (h0 : w.cell? ⟨b, 0, none⟩ = some (.pointer none)) (hsh : w.shape? b = some (47, 2)) (hfz : w.frozen? ⟨b, 0, none⟩ = false) :
    Calls Tryz.prog 32 #[.pointer (some ⟨b, 0, none⟩)] w fun e w' => e = .returned (.tuple #[]) ∧ w' = w.setCell ⟨b, 0, none⟩ (.pointer (some ⟨b, 0, none⟩)) := by
  obtain ⟨j, hj, hjs⟩ := Option.map_eq_some_iff.1 info47
  go_enter Tryz.func32, Tryz.ntmps32
  go_wp2
  rw [Lib.run_to_unsafe w ⟨b, 0, none⟩ Tryz.underlying44 Tryz.underlying115 hj (by rw [hjs]; decide) hsh (Nat.zero_lt_succ 1)]
  simp only [Result.andThen]
  rw [Oper.upon_value]
  go_wp2
  rw [run_callFunc_extern Tryz.func51 (by kernel_rfl) (by kernel_rfl) (by kernel_rfl) (e := Extern.AbiNoEscape.same) (by kernel_rfl)]
  rw [Lib.run_noEscape]
  simp only [Result.andThen]
  rw [Oper.upon_value]
  go_wp2
  rw [Lib.run_from_unsafe w ⟨b, 0, none⟩ Tryz.underlying115 Tryz.underlying44 hj hsh lies47]
  simp only [Result.andThen]
  rw [Oper.upon_value]
  go_wp2
  go_end0
  exact ⟨rfl, rfl⟩
theorem check_calls (B b : Nat) (bs : List Value) (w : World) (h : Lib.IsBuilderF 47 5 B b bs w) :
    Calls Tryz.prog 32 #[.pointer (some ⟨b, 0, none⟩)] w fun e w' => e = .returned (.tuple #[]) ∧ (Lib.BuilderAtF 47 5 B b (.pointer (some ⟨b, 0, none⟩)) bs w' ∧ Below B w w' ∧ Lib.OthersKept 5 (some b) w w') := by
  rcases h with h | h
  · refine (check_fresh b w h.cell0 h.shape h.frozen0).mono ?_
    rintro e w' ⟨rfl, rfl⟩
    exact ⟨rfl, h.used _, (Below.refl B w).setCell (p := ⟨b, 0, none⟩) h.1 _, (Lib.OthersKept.refl _ _ w).setCell ⟨b, 0, none⟩ rfl _⟩
  · refine (check_used b w h.cell0).mono ?_
    rintro e w' ⟨rfl, rfl⟩
    exact ⟨rfl, h, Below.refl B _, Lib.OthersKept.refl _ _ _⟩
theorem lt_of_blk {w : World} {b : Nat} {o : Obj} (h : w.heap[b]? = some o) : b < w.heap.size := by
  rcases Nat.lt_or_ge b w.heap.size with h' | h'
  · exact h'
  · simp [Array.getElem?_eq_none h'] at h
set_option maxHeartbeats 2000000 in
set_option maxRecDepth 100000 in
theorem byte_calls (B b : Nat) (bs : List Value) (c : Int) (w : World) (h : Lib.IsBuilderF 47 5 B b bs w) (hlen : bs.length + 1 ≤ 140737488355328) (hBw : B ≤ w.heap.size) :
    Calls Tryz.prog 18 #[.pointer (some ⟨b, 0, none⟩), .int .u8 c] w fun e w' => e = .returned .nilIface ∧ (Lib.IsBuilderF 47 5 B b (bs ++ [.int .u8 c]) w' ∧ Below B w w' ∧ Lib.OthersKept 5 (some b) w w') := by
  obtain ⟨i0, hi, hz0, hz1, hz2⟩ := info_parts info5
  go_enter Tryz.func18, Tryz.ntmps18
  go_wp2_with (go_at_call 32; refine (check_calls B b bs _ h).mono ?_)
  rintro e w1 ⟨rfl, h1, hb1, hk1⟩
  obtain ⟨hB, v, hbk, hown, hne⟩ := h1
  have c0 : w1.cell? ⟨b, 0, none⟩ = some (.pointer (some ⟨b, 0, none⟩)) := by rw [Lib.cell_of_heap hbk]; rfl
  have c1 : w1.cell? ⟨b, 1, none⟩ = some v := by rw [Lib.cell_of_heap hbk]; rfl
  go_wp2_with (at_builtin; refine wpList_append_ownF _ rfl _ _ 45 rfl B 5 i0 (.int .u8 0) 1 1 Tryz.underlying45 hi hz0 hz1 hz2 rfl (by decide) _ _ _ rfl (hown.alloc _) ⟨w1.heap.size, 0, none⟩ 1 1 [.int .u8 c] rfl rfl ?c1 ?c2 ?c3 ?c4 ?c5 ?_)
  case c1 =>
    intro j u hj
    match j, hj with
    | 0, hj => simp at hj; subst hj; simp [Addr.add]
  case c2 => intro u hu; simp at hu; subst hu; rfl
  case c3 => unfold maxLen; omega
  case c4 => omega
  case c5 => have := hb1.size; simp; omega
  intro v' w2 hown' hgrow _
  have hlt : b < w1.heap.size := lt_of_blk hbk
  have hb2 : w2.heap[b]? = some (.cells #[.pointer (some ⟨b, 0, none⟩), v] 47 (0, 0)) := by
    rw [hgrow.block b (by simp; omega) (fun e => hne e.symm), Lib.alloc_old w1 _ b hlt]
    exact hbk
  have d0 : w2.cell? ⟨b, 0, none⟩ = some (.pointer (some ⟨b, 0, none⟩)) := by rw [Lib.cell_of_heap hb2]; rfl
  have d1 : w2.cell? ⟨b, 1, none⟩ = some v := by rw [Lib.cell_of_heap hb2]; rfl
  have f1 : w2.frozen? ⟨b, 1, none⟩ = false := Lib.frozen_of_heap hb2 1
  obtain ⟨g, cap, rfl⟩ : ∃ g cap, v' = .slice (some ⟨g, 0, none⟩) (bs.length + 1) cap := by
    rcases hown'.2 with ⟨_, h0⟩ | ⟨g, cap, cur, fz, hv, _⟩
    · omega
    · exact ⟨g, cap, hv⟩
  go_wp2
  go_ret
  refine ⟨rfl, .inr ?_, ?_, ((hk1.alloc _).grown hgrow (Lib.ownsRowF_kind (hown.alloc _))).setCell ⟨b, 1, none⟩ rfl _⟩
  · exact Lib.BuilderAtF.put (T := 47) (e := 5) hB hb2 (bs' := bs ++ [.int .u8 c]) (by simpa using hown') (by decide)
  · exact ((hb1.alloc (by have := hb1.size; omega) _).grown hgrow (by have := hb1.size; simp; omega) (fun k hk => (hown.lt k hk).1)).setCell (p := ⟨b, 1, none⟩) hB _
set_option maxHeartbeats 2000000 in
set_option maxRecDepth 100000 in
theorem text_calls (B b : Nat) (bs : List Value) (s : ByteArray) (w : World) (h : Lib.IsBuilderF 47 5 B b bs w) (hlen : bs.length + s.size ≤ 140737488355328) (hBw : B ≤ w.heap.size) :
    Calls Tryz.prog 20 #[.pointer (some ⟨b, 0, none⟩), .string s] w fun e w' => e = .returned (.tuple #[.int .i64 s.size, .nilIface]) ∧ (Lib.IsBuilderF 47 5 B b (bs ++ Lib.strCells s) w' ∧ Below B w w' ∧ Lib.OthersKept 5 (some b) w w') := by
  obtain ⟨i0, hi, hz0, hz1, hz2⟩ := info_parts info5
  go_enter Tryz.func20, Tryz.ntmps20
  go_wp2_with (go_at_call 32; refine (check_calls B b bs _ h).mono ?_)
  rintro e w1 ⟨rfl, h1, hb1, hk1⟩
  obtain ⟨hB, v, hbk, hown, hne⟩ := h1
  have c0 : w1.cell? ⟨b, 0, none⟩ = some (.pointer (some ⟨b, 0, none⟩)) := by rw [Lib.cell_of_heap hbk]; rfl
  have c1 : w1.cell? ⟨b, 1, none⟩ = some v := by rw [Lib.cell_of_heap hbk]; rfl
  go_wp2_with (at_builtin; refine Lib.wpList_append_own_stringF _ rfl _ _ 45 9 rfl B 5 i0 Tryz.underlying45 Tryz.underlying9 hi hz0 hz1 hz2 _ _ _ rfl hown s rfl ?c3 ?c4 ?c5 ?_)
  case c3 => unfold maxLen; omega
  case c4 => omega
  case c5 => have := hb1.size; omega
  intro v' w2 hown' hgrow _
  have hlt : b < w1.heap.size := lt_of_blk hbk
  have hb2 : w2.heap[b]? = some (.cells #[.pointer (some ⟨b, 0, none⟩), v] 47 (0, 0)) := by
    rw [hgrow.block b hlt (fun e => hne e.symm)]
    exact hbk
  have d0 : w2.cell? ⟨b, 0, none⟩ = some (.pointer (some ⟨b, 0, none⟩)) := by rw [Lib.cell_of_heap hb2]; rfl
  have d1 : w2.cell? ⟨b, 1, none⟩ = some v := by rw [Lib.cell_of_heap hb2]; rfl
  have f1 : w2.frozen? ⟨b, 1, none⟩ = false := Lib.frozen_of_heap hb2 1
  obtain ⟨ao, n', cap, rfl⟩ : ∃ ao n' cap, v' = .slice ao n' cap := by
    rcases hown'.2 with ⟨hv, _⟩ | ⟨g, cap, cur, fz, hv, _⟩
    · exact ⟨_, _, _, hv⟩
    · exact ⟨_, _, _, hv⟩
  go_wp2
  go_ret2
  refine ⟨rfl, .inr ?_, ?_, (hk1.grown hgrow (Lib.ownsRowF_kind hown)).setCell ⟨b, 1, none⟩ rfl _⟩
  · exact Lib.BuilderAtF.put (T := 47) (e := 5) hB hb2 (bs' := bs ++ Lib.strCells s) (by simpa [Lib.strCells_length] using hown') (by decide)
  · exact (hb1.grown hgrow (by have := hb1.size; omega) (fun k hk => (hown.lt k hk).1)).setCell (p := ⟨b, 1, none⟩) hB _
theorem isB_below {B b : Nat} {bs : List Value} {W W' : World} (h : Lib.IsBuilderF 47 5 B b bs W) (hb : Below W.heap.size W W') : Lib.IsBuilderF 47 5 B b bs W' := by
  have key : ∀ p, Lib.BuilderAtF 47 5 B b p bs W → Lib.BuilderAtF 47 5 B b p bs W' := fun p k => by
    have hlt := k.lt
    obtain ⟨hB, v, hbk, hown, hne⟩ := k
    refine ⟨hB, v, (hb.block b hlt).trans hbk, hown.kept (row := none) ⟨hb.os, hb.tape, hb.output, hb.size, fun k hk _ => hb.block k hk⟩ ?_, hne⟩
    cases v.ownBlock <;> simp
  exact h.imp (key _) (key _)
theorem isB_lt {B b : Nat} {bs : List Value} {W : World} (h : Lib.IsBuilderF 47 5 B b bs W) : b < W.heap.size := h.elim (·.lt) (·.lt)
theorem blk_alloc (w : World) (o : Obj) : (w.alloc o).heap[w.heap.size]? = some o := by unfold World.alloc; simp
/-- A block that is no row of bytes, behind a write. -/
theorem kept_cell {e : TypeId} {B g j : Nat} {W W' : World} {cs : Array Value} {T : TypeId} {fr : Nat × Nat} {v : Value} (h : Lib.OthersKept e (some B) W W') (hg : W.heap[g]? = some (.cells cs T fr)) (hne : g ≠ B) (hT : T ≠ e) (hv : cs[j]? = some v) :
    W'.cell? ⟨g, j, none⟩ = some v := by
  have h1 := h g _ hg (by simpa using hne) (fun c fz h => hT (by injection h))
  rw [Lib.cell_of_heap h1]; exact hv
end Go.Proofs.YtcmildkkigccaaaGreatDoor.PAll

/-
  The shelf's contract of strings.Builder.String at this program (laid by the kit's tool, in plain words).
-/
namespace Go.Proofs
open Go.Shelf
def Tryz.lays169_ren : Go.Shelf.Ren := ⟨fun | 169 => 21 | n => n, fun | 70 => 44 | 9 => 9 | 0 => 0 | 72 => 47 | 37 => 45 | 127 => 71 | 3 => 3 | 5 => 5 | n => n, fun | n => n⟩
theorem Tryz.lays169 : Go.Proofs.Lays.n169 Tryz.prog Tryz.lays169_ren := {
  mixed := by kernel_rfl
  f169 := Tryz.func21.trans (congrArg some (by kernel_rfl))
  t0 := Tryz.underlying0
  a0 := Tryz.isAgg0
  z0 := Tryz.sizeOf0
  v0 := Tryz.zeroValue0
  t3 := Tryz.underlying3
  a3 := Tryz.isAgg3
  z3 := Tryz.sizeOf3
  v3 := Tryz.zeroValue3
  t9 := Tryz.underlying9
  a9 := Tryz.isAgg9
  z9 := Tryz.sizeOf9
  v9 := Tryz.zeroValue9
  t37 := Tryz.underlying45
  a37 := Tryz.isAgg45
  z37 := Tryz.sizeOf45
  v37 := Tryz.zeroValue45
  t70 := Tryz.underlying44
  a70 := Tryz.isAgg44
  z70 := Tryz.sizeOf44
  v70 := Tryz.zeroValue44
  t72 := Tryz.underlying47
  a72 := Tryz.isAgg47
  z72 := Tryz.sizeOf47
  v72 := Tryz.zeroValue47
  t127 := Tryz.underlying71
  a127 := Tryz.isAgg71
  z127 := Tryz.sizeOf71
  v127 := Tryz.zeroValue71 }
theorem Tryz.Builder_Extra_169 : Builder.Extra Tryz.prog Tryz.lays169_ren := {
  sizeBuilder := by kernel_rfl
  liesBuilder := by kernel_rfl
  t5 := Tryz.underlying5
  a5 := Tryz.isAgg5
  z5 := Tryz.sizeOf5
  v5 := Tryz.zeroValue5
  infoByte := by kernel_rfl
  cellsByte := by kernel_rfl
  sizeByte := by kernel_rfl
  neB5 := by decide }
open Go.RowKit in
theorem Tryz.Builder_String (B b : Nat) (l : List UInt8) (w : World) (h : Lib.IsBuilder 47 5 B b (Lib.byteCells l) w) (h0 : l ≠ []) :
    Calls Tryz.prog 21 #[.pointer (some ⟨b, 0, none⟩)] w fun e w' => e = .returned (.string ⟨l.toArray⟩) ∧ Below B w w' := Any.Builder_String Tryz.lays169 Tryz.Builder_Extra_169 B b l w h h0
open Go.RowKit in
theorem Tryz.Builder_String_empty (B b : Nat) (w : World) (h : Lib.IsBuilder 47 5 B b [] w) (hBw : B ≤ w.heap.size) :
    Calls Tryz.prog 21 #[.pointer (some ⟨b, 0, none⟩)] w fun e w' => e = .returned (.string ⟨#[]⟩) ∧ Below B w w' := Any.Builder_String_empty Tryz.lays169 Tryz.Builder_Extra_169 B b w h hBw
open Go.RowKit in
theorem Tryz.Builder_String_any (B b : Nat) (l : List UInt8) (w : World) (h : Lib.IsBuilder 47 5 B b (Lib.byteCells l) w) (hBw : B ≤ w.heap.size) :
    Calls Tryz.prog 21 #[.pointer (some ⟨b, 0, none⟩)] w fun e w' => e = .returned (.string ⟨l.toArray⟩) ∧ Below B w w' := Any.Builder_String_any Tryz.lays169 Tryz.Builder_Extra_169 B b l w h hBw
open Go.RowKit in
theorem Tryz.Builder_String_f (B b : Nat) (l : List UInt8) (w : World) (h : Lib.IsBuilderF 47 5 B b (Lib.byteCells l) w) (h0 : l ≠ []) :
    Calls Tryz.prog 21 #[.pointer (some ⟨b, 0, none⟩)] w fun e w' => e = .returned (.string ⟨l.toArray⟩) ∧ (Lib.IsBuilderF 47 5 B b (Lib.byteCells l) w' ∧ Below B w w') := Any.Builder_String_f Tryz.lays169 Tryz.Builder_Extra_169 B b l w h h0
open Go.RowKit in
theorem Tryz.Builder_String_empty_f (B b : Nat) (w : World) (h : Lib.IsBuilderF 47 5 B b [] w) (hBw : B ≤ w.heap.size) :
    Calls Tryz.prog 21 #[.pointer (some ⟨b, 0, none⟩)] w fun e w' => e = .returned (.string ⟨#[]⟩) ∧ (Lib.IsBuilderF 47 5 B b [] w' ∧ Below B w w') := Any.Builder_String_empty_f Tryz.lays169 Tryz.Builder_Extra_169 B b w h hBw
open Go.RowKit in
theorem Tryz.Builder_String_any_f (B b : Nat) (l : List UInt8) (w : World) (h : Lib.IsBuilderF 47 5 B b (Lib.byteCells l) w) (hBw : B ≤ w.heap.size) :
    Calls Tryz.prog 21 #[.pointer (some ⟨b, 0, none⟩)] w fun e w' => e = .returned (.string ⟨l.toArray⟩) ∧ (Lib.IsBuilderF 47 5 B b (Lib.byteCells l) w' ∧ Below B w w') := Any.Builder_String_any_f Tryz.lays169 Tryz.Builder_Extra_169 B b l w h hBw
open Go.RowKit in
theorem Tryz.Builder_String_k (B b : Nat) (l : List UInt8) (w : World) (h : Lib.IsBuilderF 47 5 B b (Lib.byteCells l) w) (h0 : l ≠ []) :
    Calls Tryz.prog 21 #[.pointer (some ⟨b, 0, none⟩)] w fun e w' => e = .returned (.string ⟨l.toArray⟩) ∧ (Lib.IsBuilderF 47 5 B b (Lib.byteCells l) w' ∧ Below B w w' ∧ Lib.OthersKept 5 (some b) w w') := Any.Builder_String_k Tryz.lays169 Tryz.Builder_Extra_169 B b l w h h0
open Go.RowKit in
theorem Tryz.Builder_String_empty_k (B b : Nat) (w : World) (h : Lib.IsBuilderF 47 5 B b [] w) (hBw : B ≤ w.heap.size) :
    Calls Tryz.prog 21 #[.pointer (some ⟨b, 0, none⟩)] w fun e w' => e = .returned (.string ⟨#[]⟩) ∧ (Lib.IsBuilderF 47 5 B b [] w' ∧ Below B w w' ∧ Lib.OthersKept 5 (some b) w w') := Any.Builder_String_empty_k Tryz.lays169 Tryz.Builder_Extra_169 B b w h hBw
open Go.RowKit in
theorem Tryz.Builder_String_any_k (B b : Nat) (l : List UInt8) (w : World) (h : Lib.IsBuilderF 47 5 B b (Lib.byteCells l) w) (hBw : B ≤ w.heap.size) :
    Calls Tryz.prog 21 #[.pointer (some ⟨b, 0, none⟩)] w fun e w' => e = .returned (.string ⟨l.toArray⟩) ∧ (Lib.IsBuilderF 47 5 B b (Lib.byteCells l) w' ∧ Below B w w' ∧ Lib.OthersKept 5 (some b) w w') := Any.Builder_String_any_k Tryz.lays169 Tryz.Builder_Extra_169 B b l w h hBw
end Go.Proofs

namespace Go.Proofs.YtcmildkkigccaaaGreatDoor.PAll
open Go.RowKit Go.Proofs.YtcmildkkigccaaaGreatDoorW.PrintWords Go.Proofs.YtcmildkkigccaaaGreatDoorW.PrintLast Go.Proofs.YtcmildkkigccaaaGreatDoorW.PrintMore
attribute [local go_sem] max2_int min2_int max_two min_two max_three min_three max_four min_four   -- for this text's walks alone
set_option linter.unusedVariables false
set_option linter.unusedSimpArgs false
/-! ### prioryref05_Put: function 22 -/
mutual
def prioryref05_Put.j0 : Nat → Int → Int → Bool → Option (ByteArray × Int)
  | 0, _, _, _ => none
  | k + 1, x0, x1, x14 => if x14 = true then (some ((⟨#[]⟩ : ByteArray), 2)) else (prioryref05_Put.l0 k x1 (⟨#[]⟩ : ByteArray) x0 0)
def prioryref05_Put.l0 : Nat → Int → ByteArray → Int → Int → Option (ByteArray × Int)
  | 0, _, _, _, _ => none
  | k + 1, x1, x6, x7, x8 => if x8 < x1 then ((some (([(Int.tmod x7 256) % 256] : List Int) : List Int)).bind fun y101 => (if (strOfNums y101).size + x6.size ≤ 9223372036854775807 then (prioryref05_Put.l0 k x1 ((strOfNums y101) ++ x6) ((Int.tdiv x7 256) % 4294967296) (wrap64 (x8 + 1))) else (none))) else (if x7 = 0 then (some (x6, 0)) else (some ((⟨#[]⟩ : ByteArray), 2)))
end
def prioryref05_Put.f (k : Nat) (a0 : Int) (a1 : Int) : Option (ByteArray × Int) := if a1 < 1 then (prioryref05_Put.j0 k a0 a1 true) else (prioryref05_Put.j0 k a0 a1 (decide (a1 > 4)))
theorem prioryref05_Put.mono_l : ∀ k, (∀ y0 y1 y2, LeO (prioryref05_Put.j0 k y0 y1 y2) (prioryref05_Put.j0 (k + 1) y0 y1 y2)) ∧ (∀ y0 y1 y2 y3, LeO (prioryref05_Put.l0 k y0 y1 y2 y3) (prioryref05_Put.l0 (k + 1) y0 y1 y2 y3))
  | 0 => ⟨fun _ _ _ r h => by simp [prioryref05_Put.j0] at h, fun _ _ _ _ r h => by simp [prioryref05_Put.l0] at h⟩
  | k + 1 => by
    obtain ⟨ih0, ih1⟩ := prioryref05_Put.mono_l k
    refine ⟨?_, ?_⟩
    · intro y0 y1 y2
      unfold prioryref05_Put.j0
      repeat' first
      | (with_reducible exact ih0 _ _ _)
      | (with_reducible exact ih1 _ _ _ _)
      | (with_reducible exact LeO.refl _)
      | (with_reducible exact LeO.none _)
      | (with_reducible refine LeO.ite ?_ ?_)
      | (with_reducible refine LeO.bind ?_ (fun _ => ?_))
      | exact ih0 _ _ _
      | exact ih1 _ _ _ _
      | exact LeO.none _
      | refine LeO.ite ?_ ?_
      | refine LeO.bind ?_ (fun _ => ?_)
    · intro y0 y1 y2 y3
      unfold prioryref05_Put.l0
      repeat' first
      | (with_reducible exact ih0 _ _ _)
      | (with_reducible exact ih1 _ _ _ _)
      | (with_reducible exact LeO.refl _)
      | (with_reducible exact LeO.none _)
      | (with_reducible refine LeO.ite ?_ ?_)
      | (with_reducible refine LeO.bind ?_ (fun _ => ?_))
      | exact ih0 _ _ _
      | exact ih1 _ _ _ _
      | exact LeO.none _
      | refine LeO.ite ?_ ?_
      | refine LeO.bind ?_ (fun _ => ?_)
theorem prioryref05_Put.mono : ∀ a0 a1 k, LeO (prioryref05_Put.f k a0 a1) (prioryref05_Put.f (k + 1) a0 a1) := by
  intro a0 a1 k
  obtain ⟨ih0, ih1⟩ := prioryref05_Put.mono_l k
  unfold prioryref05_Put.f
  repeat' first
      | (with_reducible exact ih0 _ _ _)
      | (with_reducible exact ih1 _ _ _ _)
      | (with_reducible exact LeO.refl _)
      | (with_reducible exact LeO.none _)
      | (with_reducible refine LeO.ite ?_ ?_)
      | (with_reducible refine LeO.bind ?_ (fun _ => ?_))
      | exact ih0 _ _ _
      | exact ih1 _ _ _ _
      | exact LeO.none _
      | refine LeO.ite ?_ ?_
      | refine LeO.bind ?_ (fun _ => ?_)
set_option maxHeartbeats 8000000 in
set_option maxRecDepth 100000 in
theorem prioryref05_Put.calls (k : Nat) (a0 : Int) (a1 : Int) (r1 : ByteArray) (r2 : Int) (w : World) (h : prioryref05_Put.f k a0 a1 = some (r1, r2)) :
    Calls Tryz.prog 22 #[.int .u32 a0, .int .i64 a1] w fun e w' => e = .returned (.tuple #[.string r1, .int .i64 r2]) ∧ Below w.heap.size w w' := by
  have HB := Aside0.mk (Below.refl w.heap.size w)
  have H : (if a1 < 1 then (prioryref05_Put.j0 k a0 a1 true) else (prioryref05_Put.j0 k a0 a1 (decide (a1 > 4)))) = some (r1, r2) := h
  clear h
  have HC3 := Aside0.mk H
  clear H
  go_enter Tryz.func22, Tryz.ntmps22
  go_upto_region 1 with (fail)
  go_cut [14] (fun v14 wc => ∃ (kq : Nat) (x14_2 : Bool), v14 = .bool x14_2 ∧ Aside0 (prioryref05_Put.j0 kq a0 a1 x14_2 = some (r1, r2)) ∧ Aside0 (kq ≤ k) ∧ Aside0 (Below w.heap.size w wc))
  case first =>
    have H := HC3.out
    clear HC3
    by_cases c4 : a1 < 1
    · rw [if_pos c4] at H
      have c4b0 : decide (a1 < 1) = true := decide_eq_true c4
      clear c4
      (first | rw [c4b0] | (simp only [i64_w, i32_w]; rw [c4b0]) | skip)
      have H' := Aside0.mk H
      clear H
      go_wp2
      go_meet
      case rel => exact ⟨_, (true), (by first | rfl | (simp; done) | (simp [*]; done)), H', ⟨by first | omega | exact Nat.le_refl _⟩, ⟨by repeat (first | (with_reducible first | exact HB.out | apply below_alloc | apply pw_below_drewN | apply below_drew1) | exact HB.out)⟩⟩
    · rw [if_neg c4] at H
      have c4b0 : decide (a1 < 1) = false := decide_eq_false c4
      clear c4
      (first | rw [c4b0] | (simp only [i64_w, i32_w]; rw [c4b0]) | skip)
      have H' := Aside0.mk H
      clear H
      go_wp2
      go_meet
      case rel => exact ⟨_, (decide (a1 > 4)), (by first | rfl | (simp; done) | (simp [*]; done)), H', ⟨by first | omega | exact Nat.le_refl _⟩, ⟨by repeat (first | (with_reducible first | exact HB.out | apply below_alloc | apply pw_below_drewN | apply below_drew1) | exact HB.out)⟩⟩
  case rest =>
    clear HC3
    try clear c2
    try clear p2
    try clear c4
    try clear c4b0
    obtain ⟨kq, x14_2, rfl, HA, HJ2, HB⟩ := hcut
    cases kq with
    | zero => exact absurd HA.out (by simp [prioryref05_Put.j0])
    | succ kj2 =>
      have H := HA.out
      clear HA
      simp only [prioryref05_Put.j0] at H
      by_cases c5 : x14_2 = true
      · subst c5
        have H1 : (some ((⟨#[]⟩ : ByteArray), 2)) = some (r1, r2) := by rw [if_pos rfl] at H; exact H
        clear H
        have H := H1
        clear H1
        simp only [Option.some.injEq, Prod.mk.injEq] at H
        obtain ⟨rfl, rfl⟩ := H
        go_wp2
        go_ret2
        exact ⟨by first | rfl | (simp [errW_none, errW_some] <;> rfl) | (simp [*, errW_none, errW_some] <;> rfl), by repeat (first | (with_reducible first | exact HB.out | apply below_alloc | apply pw_below_drewN | apply below_drew1) | exact HB.out)⟩
      · replace c5 := Bool.eq_false_iff.mpr c5
        subst c5
        have H1 : (prioryref05_Put.l0 kj2 a1 (⟨#[]⟩ : ByteArray) a0 0) = some (r1, r2) := by rw [if_neg (show ¬ (false = true) by decide)] at H; exact H
        clear H
        have H := H1
        clear H1
        have H' := Aside0.mk H
        clear H
        go_wp2
        go_loopg [6, 7, 8] kj2 (fun kq v6 v7 v8 w' => ∃ (x6_2 : ByteArray) (x7_2 : Int) (x8_2 : Int), v6 = .string x6_2 ∧ v7 = .int .u32 x7_2 ∧ v8 = .int .i64 x8_2 ∧ Aside0 (prioryref05_Put.l0 kq a1 x6_2 x7_2 x8_2 = some (r1, r2)) ∧ Aside0 (kq ≤ kj2) ∧ Aside0 (Below w.heap.size w w'))
        case atStart => exact ⟨((⟨#[]⟩ : ByteArray)), (a0), (0), (by first | rfl | (simp; done) | (simp [*]; done)), (by first | rfl | (simp; done) | (simp [*]; done)), (by first | rfl | (simp; done) | (simp [*]; done)), H', ⟨Nat.le_refl _⟩, ⟨by repeat (first | (with_reducible first | exact HB.out | apply below_alloc | apply pw_below_drewN | apply below_drew1) | exact HB.out)⟩⟩
        case round =>
          clear H'
          try clear c2
          try clear p2
          try clear c4
          try clear c4b0
          try clear c5
          try clear p2
          obtain ⟨x6_2, x7_2, x8_2, rfl, rfl, rfl, HA, HK2, HB⟩ := hrel
          cases gk with
          | zero => exact absurd HA.out (by simp [prioryref05_Put.l0])
          | succ k2 =>
            have H := HA.out
            clear HA
            simp only [prioryref05_Put.l0] at H
            by_cases c6 : x8_2 < a1
            · rw [if_pos c6] at H
              have c6b0 : decide (x8_2 < a1) = true := decide_eq_true c6
              clear c6
              obtain ⟨y101, hy101⟩ : ∃ y_ : List Int, y_ = (([(Int.tmod x7_2 256) % 256] : List Int)) := ⟨_, rfl⟩
              replace H : (if (strOfNums y101).size + x6_2.size ≤ 9223372036854775807 then (prioryref05_Put.l0 k2 a1 ((strOfNums y101) ++ x6_2) ((Int.tdiv x7_2 256) % 4294967296) (wrap64 (x8_2 + 1))) else (none)) = some (r1, r2) := by first | (rw [hy101]; with_reducible exact H) | (have H2_ := (Option.bind_some _ _).symm.trans H; rw [hy101]; with_reducible exact H2_) | (have H2_ := (Option.bind_some _ _).symm.trans H; with_reducible exact H2_) | with_reducible exact H | (rw [hy101]; exact H) | exact H
              have Ny101 := Aside0.mk hy101
              clear hy101
              by_cases c7 : (strOfNums y101).size + x6_2.size ≤ 9223372036854775807
              · rw [if_pos c7] at H
                have c7b0 := eq_true c7
                have c7b1 : decide ((strOfNums y101).size + x6_2.size ≤ 9223372036854775807) = true := decide_eq_true c7
                try have c7b2 : (9223372036854775807 < (strOfNums y101).size + x6_2.size) = False := eq_false (Nat.not_lt.2 c7)
                have H' := Aside0.mk H
                clear H
                go_wp2_with (first | ((with_reducible refine gate_dst (N := 24) rfl ?_); refine Kd.R_lit (Kd.int .u8) _ 5 ?hg (N := 24) ?hd (xs := ([(Int.tmod x7_2 256) % 256] : List Int)) (inner := [.int .u8 ((Int.tmod x7_2 256) % 256)]) (ok := fun _ => True) (okp := fun _ => True) ?hr ?hp (fun _ hk => hk) trivial (Below.refl _ _) (Nat.le_refl _) (by simp) ?_; (case hd => rfl); (case hg => rfl); (case hr => first | (go_simp; done) | (go_simp; rfl)); (case hp => exact (Reps.one (show Kd.M (Kd.int .u8) _ _ _ ((Int.tmod x7_2 256) % 256) [.int .u8 ((Int.tmod x7_2 256) % 256)] from rfl) (Reps.none _ _))); intro v102 w8 ho9 hb hg_ hnew_; clear hg_ hnew_; (first | rw [← Ny101.out] at ho9 | (simp only [Int.reduceToNat] at ho9; rw [← Ny101.out] at ho9)); have n0_ := Aside0.mk (Kd.R_lower ho9 (below_size (by repeat (first | (with_reducible first | exact HB.out | apply below_alloc | apply pw_below_drewN | apply below_drew1) | exact HB.out)))); have n1_ := Aside0.mk (below_step (by repeat (first | (with_reducible first | exact HB.out | apply below_alloc | apply pw_below_drewN | apply below_drew1) | exact HB.out)) hb); clear HB; have HO103 := n0_; have HB := n1_; clear n0_ n1_; clear hb ho9; have hcv10 := own_string (P := Tryz.prog) Tryz.underlying45 Tryz.underlying5 Tryz.underlying9 (Kd.own_of_R HO103.out)))
                go_roundg k2
                case measure => have := HJ2.out; have := HK2.out; omega
                case rel => exact ⟨((strOfNums y101) ++ x6_2), ((Int.tdiv x7_2 256) % 4294967296), (wrap64 (x8_2 + 1)), (by first | rfl | (simp; done) | (simp [*]; done)), (by first | rfl | (simp; done) | (simp [*]; done)), (by first | rfl | (simp; done) | (simp [*]; done)), H', ⟨by have := HJ2.out; have := HK2.out; omega⟩, ⟨by repeat (first | (with_reducible first | exact HB.out | apply below_alloc | apply pw_below_drewN | apply below_drew1) | exact HB.out)⟩⟩
              · rw [if_neg c7] at H
                exact absurd H (by simp)
            · rw [if_neg c6] at H
              have c6b0 : decide (x8_2 < a1) = false := decide_eq_false c6
              clear c6
              by_cases c11 : x7_2 = 0
              · rw [if_pos c11] at H
                have c11b0 : (x7_2 == 0) = true := beq_iff_eq.mpr c11
                have c11b1 : (x7_2 != 0) = false := bne_eq_false_iff_eq.mpr c11
                clear c11
                simp only [Option.some.injEq, Prod.mk.injEq] at H
                obtain ⟨rfl, rfl⟩ := H
                go_wp2
                go_ret2
                exact ⟨by first | rfl | (simp [errW_none, errW_some] <;> rfl) | (simp [*, errW_none, errW_some] <;> rfl), by repeat (first | (with_reducible first | exact HB.out | apply below_alloc | apply pw_below_drewN | apply below_drew1) | exact HB.out)⟩
              · rw [if_neg c11] at H
                have c11b0 : (x7_2 == 0) = false := beq_eq_false_iff_ne.mpr c11
                have c11b1 : (x7_2 != 0) = true := bne_iff_ne.mpr c11
                simp only [Option.some.injEq, Prod.mk.injEq] at H
                obtain ⟨rfl, rfl⟩ := H
                go_wp2
                go_ret2
                exact ⟨by first | rfl | (simp [errW_none, errW_some] <;> rfl) | (simp [*, errW_none, errW_some] <;> rfl), by repeat (first | (with_reducible first | exact HB.out | apply below_alloc | apply pw_below_drewN | apply below_drew1) | exact HB.out)⟩
end Go.Proofs.YtcmildkkigccaaaGreatDoor.PAll

/-
  Plain: a word as four bytes.
-/
namespace Go.Proofs.YtcmildkkigccaaaGreatDoor.PAll
open Go.RowKit Go.Proofs.YtcmildkkigccaaaGreatDoorW.PrintWords Go.Proofs.YtcmildkkigccaaaGreatDoorW.PrintLast Go.Proofs.YtcmildkkigccaaaGreatDoorW.PrintMore
set_option linter.unusedVariables false
set_option linter.unusedSimpArgs false
/-- The four bytes of a word, the greatest first. -/
def w4 (a : Int) : List Int := [a / 16777216 % 256, a / 65536 % 256, a / 256 % 256, a % 256]
theorem p5_round (k : Nat) (s : ByteArray) (m : Int) (i : Nat) (hi : i < 4) (hm : 0 ≤ m ∧ m < 4294967296) (hs : s.size ≤ 100) :
    prioryref05_Put.l0 (k + 1) 4 s m (i : Int) = prioryref05_Put.l0 k 4 (strOfNums [m % 256] ++ s) (m / 256) ((i + 1 : Nat) : Int) := by
  have hsz : (strOfNums [Int.tmod m 256 % 256]).size = 1 := rfl
  conv => lhs; unfold prioryref05_Put.l0
  rw [if_pos (by omega)]
  simp only [Option.bind_some]
  rw [if_pos (by rw [hsz]; omega), Int.tmod_eq_emod_of_nonneg hm.1, Int.tdiv_eq_ediv_of_nonneg hm.1, show m % 256 % 256 = m % 256 by omega, show m / 256 % 4294967296 = m / 256 by omega, show wrap64 ((i : Int) + 1) = ((i + 1 : Nat) : Int) by unfold wrap64; omega]
theorem p5_end (k : Nat) (s : ByteArray) : prioryref05_Put.l0 (k + 1) 4 s 0 ((4 : Nat) : Int) = some (s, 0) := by
  unfold prioryref05_Put.l0
  rw [if_neg (by omega), if_pos rfl]
theorem str_cons (n : Int) (l : List Int) : strOfNums [n] ++ strOfNums l = strOfNums (n :: l) := by
  apply ByteArray.ext
  rw [ByteArray.data_append]
  simp [strOfNums]
theorem str_size (l : List Int) : (strOfNums l).size = l.length := by simp [strOfNums, ByteArray.size]
theorem p5_four (k : Nat) (a : Int) (h : 0 ≤ a ∧ a < 4294967296) : prioryref05_Put.f (k + 6) a 4 = some (strOfNums (w4 a), 0) := by
  unfold prioryref05_Put.f
  rw [if_neg (by omega), show decide ((4 : Int) > 4) = false from rfl]
  show prioryref05_Put.j0 ((k + 5) + 1) a 4 false = _
  rw [show prioryref05_Put.j0 ((k + 5) + 1) a 4 false = prioryref05_Put.l0 (k + 5) 4 (⟨#[]⟩ : ByteArray) a 0 by unfold prioryref05_Put.j0; exact if_neg (by simp)]
  have e0 : (⟨#[]⟩ : ByteArray) = strOfNums [] := rfl
  rw [e0, show (0 : Int) = ((0 : Nat) : Int) from rfl, p5_round (k + 4) _ _ 0 (by omega) h (by rw [str_size]; simp), str_cons,
    p5_round (k + 3) _ _ 1 (by omega) (by omega) (by rw [str_size]; simp), str_cons,
    p5_round (k + 2) _ _ 2 (by omega) (by omega) (by rw [str_size]; simp), str_cons,
    p5_round (k + 1) _ _ 3 (by omega) (by omega) (by rw [str_size]; simp), str_cons]
  rw [show a / 256 / 256 / 256 / 256 = 0 by omega, p5_end]
  unfold w4
  rw [show a / 256 / 256 / 256 % 256 = a / 16777216 % 256 by omega, show a / 256 / 256 % 256 = a / 65536 % 256 by omega]
  rfl
end Go.Proofs.YtcmildkkigccaaaGreatDoor.PAll

namespace Go.Proofs.YtcmildkkigccaaaGreatDoor.PAll
open Go.RowKit Go.Proofs.YtcmildkkigccaaaGreatDoorW.PrintWords Go.Proofs.YtcmildkkigccaaaGreatDoorW.PrintLast Go.Proofs.YtcmildkkigccaaaGreatDoorW.PrintMore
attribute [local go_sem] max2_int min2_int max_two min_two max_three min_three max_four min_four
set_option linter.unusedVariables false
set_option linter.unusedSimpArgs false
/-! ### octet_Put: function 19 -/
mutual
def octet_Put.j0 : Nat → Int → Int → Bool → Option (ByteArray × Int)
  | 0, _, _, _ => none
  | k + 1, x0, x1, x21 => if x21 = true then (some ((⟨#[]⟩ : ByteArray), 2)) else (octet_Put.l0 k x0 ([] : List Int) (wrap64 (x1 - 1)))
def octet_Put.l0 : Nat → Int → List Int → Int → Option (ByteArray × Int)
  | 0, _, _, _ => none
  | k + 1, x0, x6, x7 => if x7 ≥ 0 then (if 0 ≤ (wrap64 (8 * x7)) then (if x6.length < 140737488355328 then (octet_Put.l0 k x0 (x6 ++ [(shr .u32 x0 (wrap64 (8 * x7))) % 256]) (wrap64 (x7 - 1))) else (none)) else (none)) else (some (strOfNums x6, 0))
end
def octet_Put.f (k : Nat) (a0 : Int) (a1 : Int) : Option (ByteArray × Int) := if a1 < 1 then (octet_Put.j0 k a0 a1 true) else (if a1 > 4 then (octet_Put.j0 k a0 a1 true) else (if 0 ≤ (wrap64 (8 * a1)) then (octet_Put.j0 k a0 a1 (decide ((shr .u64 (IntKind.u64.wrap (a0)) (wrap64 (8 * a1))) > 0))) else (none)))
theorem octet_Put.mono_l : ∀ k, (∀ y0 y1 y2, LeO (octet_Put.j0 k y0 y1 y2) (octet_Put.j0 (k + 1) y0 y1 y2)) ∧ (∀ y0 y1 y2, LeO (octet_Put.l0 k y0 y1 y2) (octet_Put.l0 (k + 1) y0 y1 y2))
  | 0 => ⟨fun _ _ _ r h => by simp [octet_Put.j0] at h, fun _ _ _ r h => by simp [octet_Put.l0] at h⟩
  | k + 1 => by
    obtain ⟨ih0, ih1⟩ := octet_Put.mono_l k
    refine ⟨?_, ?_⟩
    · intro y0 y1 y2
      unfold octet_Put.j0
      repeat' first
      | (with_reducible exact ih0 _ _ _)
      | (with_reducible exact ih1 _ _ _)
      | (with_reducible exact LeO.refl _)
      | (with_reducible exact LeO.none _)
      | (with_reducible refine LeO.ite ?_ ?_)
      | (with_reducible refine LeO.bind ?_ (fun _ => ?_))
      | exact ih0 _ _ _
      | exact ih1 _ _ _
      | exact LeO.none _
      | refine LeO.ite ?_ ?_
      | refine LeO.bind ?_ (fun _ => ?_)
    · intro y0 y1 y2
      unfold octet_Put.l0
      repeat' first
      | (with_reducible exact ih0 _ _ _)
      | (with_reducible exact ih1 _ _ _)
      | (with_reducible exact LeO.refl _)
      | (with_reducible exact LeO.none _)
      | (with_reducible refine LeO.ite ?_ ?_)
      | (with_reducible refine LeO.bind ?_ (fun _ => ?_))
      | exact ih0 _ _ _
      | exact ih1 _ _ _
      | exact LeO.none _
      | refine LeO.ite ?_ ?_
      | refine LeO.bind ?_ (fun _ => ?_)
theorem octet_Put.mono : ∀ a0 a1 k, LeO (octet_Put.f k a0 a1) (octet_Put.f (k + 1) a0 a1) := by
  intro a0 a1 k
  obtain ⟨ih0, ih1⟩ := octet_Put.mono_l k
  unfold octet_Put.f
  repeat' first
      | (with_reducible exact ih0 _ _ _)
      | (with_reducible exact ih1 _ _ _)
      | (with_reducible exact LeO.refl _)
      | (with_reducible exact LeO.none _)
      | (with_reducible refine LeO.ite ?_ ?_)
      | (with_reducible refine LeO.bind ?_ (fun _ => ?_))
      | exact ih0 _ _ _
      | exact ih1 _ _ _
      | exact LeO.none _
      | refine LeO.ite ?_ ?_
      | refine LeO.bind ?_ (fun _ => ?_)
set_option maxHeartbeats 8000000 in
set_option maxRecDepth 100000 in
theorem octet_Put.calls (k : Nat) (a0 : Int) (a1 : Int) (r1 : ByteArray) (r2 : Int) (w : World) (h : octet_Put.f k a0 a1 = some (r1, r2)) :
    Calls Tryz.prog 19 #[.int .u32 a0, .int .i64 a1] w fun e w' => e = .returned (.tuple #[.string r1, .int .i64 r2]) ∧ Below w.heap.size w w' := by
  have HB := Aside0.mk (Below.refl w.heap.size w)
  have H : (if a1 < 1 then (octet_Put.j0 k a0 a1 true) else (if a1 > 4 then (octet_Put.j0 k a0 a1 true) else (if 0 ≤ (wrap64 (8 * a1)) then (octet_Put.j0 k a0 a1 (decide ((shr .u64 (IntKind.u64.wrap (a0)) (wrap64 (8 * a1))) > 0))) else (none)))) = some (r1, r2) := h
  clear h
  have HC3 := Aside0.mk H
  clear H
  go_enter Tryz.func19, Tryz.ntmps19
  go_upto_region 1 with (fail)
  go_cut [21] (fun v21 wc => ∃ (kq : Nat) (x21_2 : Bool), v21 = .bool x21_2 ∧ Aside0 (octet_Put.j0 kq a0 a1 x21_2 = some (r1, r2)) ∧ Aside0 (kq ≤ k) ∧ Aside0 (Below w.heap.size w wc))
  case first =>
    have H := HC3.out
    clear HC3
    by_cases c4 : a1 < 1
    · rw [if_pos c4] at H
      have c4b0 : decide (a1 < 1) = true := decide_eq_true c4
      clear c4
      (first | rw [c4b0] | (simp only [i64_w, i32_w]; rw [c4b0]) | skip)
      have H' := Aside0.mk H
      clear H
      go_wp2
      go_meet
      case rel => exact ⟨_, (true), (by first | rfl | (simp; done) | (simp [*]; done)), H', ⟨by first | omega | exact Nat.le_refl _⟩, ⟨by repeat (first | (with_reducible first | exact HB.out | apply below_alloc | apply pw_below_drewN | apply below_drew1) | exact HB.out)⟩⟩
    · rw [if_neg c4] at H
      have c4b0 : decide (a1 < 1) = false := decide_eq_false c4
      clear c4
      (first | rw [c4b0] | (simp only [i64_w, i32_w]; rw [c4b0]) | skip)
      by_cases c5 : a1 > 4
      · rw [if_pos c5] at H
        have c5b0 : decide (4 < a1) = true := decide_eq_true c5
        clear c5
        have H' := Aside0.mk H
        clear H
        go_wp2
        go_meet
        case rel => exact ⟨_, (true), (by first | rfl | (simp; done) | (simp [*]; done)), H', ⟨by first | omega | exact Nat.le_refl _⟩, ⟨by repeat (first | (with_reducible first | exact HB.out | apply below_alloc | apply pw_below_drewN | apply below_drew1) | exact HB.out)⟩⟩
      · rw [if_neg c5] at H
        have c5b0 : decide (4 < a1) = false := decide_eq_false c5
        clear c5
        obtain ⟨ji6, hji6⟩ : ∃ j_ : Int, (wrap64 (8 * a1)) = j_ := ⟨_, rfl⟩
        replace H : (if 0 ≤ (ji6) then (octet_Put.j0 k a0 a1 (decide ((shr .u64 (IntKind.u64.wrap (a0)) (ji6)) > 0))) else (none)) = some (r1, r2) := by first | (rw [hji6] at H; exact H) | (simp only [hji6] at H ⊢; exact H)
        have hji6w : (IntKind.i64.wrap (8 * a1)) = ji6 := (i64_w _).trans hji6
        by_cases c7 : 0 ≤ (ji6)
        · rw [if_pos c7] at H
          have c7b0 := eq_true c7
          have c7b1 : decide (0 ≤ (ji6)) = true := decide_eq_true c7
          clear c7
          obtain ⟨ji8, hji8⟩ : ∃ j_ : Int, (shr .u64 (IntKind.u64.wrap (a0)) (ji6)) = j_ := ⟨_, rfl⟩
          replace H : (octet_Put.j0 k a0 a1 (decide ((ji8) > 0))) = some (r1, r2) := by first | (rw [hji8] at H; exact H) | (simp only [hji8] at H ⊢; exact H)
          have hji8_ : ((IntKind.u64.wrap (a0)) / 2 ^ min (ji6).toNat 64) = ji8 := hji8
          have hji8z : (ji6) ≤ 64 → ((IntKind.u64.wrap (a0)) / 2 ^ (ji6).toNat) = ji8 := shr_small hji8
          have H' := Aside0.mk H
          clear H
          go_wp2
          go_meet
          case rel => exact ⟨_, (decide ((ji8) > 0)), (by first | rfl | (simp; done) | (simp only [← hji8] <;> (first | rfl | simp)) | (simp [*]; done)), H', ⟨by first | omega | exact Nat.le_refl _⟩, ⟨by repeat (first | (with_reducible first | exact HB.out | apply below_alloc | apply pw_below_drewN | apply below_drew1) | exact HB.out)⟩⟩
        · rw [if_neg c7] at H
          exact absurd H (by simp)
  case rest =>
    clear HC3
    try clear c1
    try clear p2
    try clear c4
    try clear c4b0
    try clear c5
    try clear c5b0
    try clear p6
    try clear c7
    try clear c7b0
    try clear c7b1
    obtain ⟨kq, x21_2, rfl, HA, HJ2, HB⟩ := hcut
    cases kq with
    | zero => exact absurd HA.out (by simp [octet_Put.j0])
    | succ kj2 =>
      have H := HA.out
      clear HA
      simp only [octet_Put.j0] at H
      by_cases c9 : x21_2 = true
      · subst c9
        have H1 : (some ((⟨#[]⟩ : ByteArray), 2)) = some (r1, r2) := by rw [if_pos rfl] at H; exact H
        clear H
        have H := H1
        clear H1
        simp only [Option.some.injEq, Prod.mk.injEq] at H
        obtain ⟨rfl, rfl⟩ := H
        go_wp2
        go_ret2
        exact ⟨by first | rfl | (simp [errW_none, errW_some] <;> rfl) | (simp [*, errW_none, errW_some] <;> rfl), by repeat (first | (with_reducible first | exact HB.out | apply below_alloc | apply pw_below_drewN | apply below_drew1) | exact HB.out)⟩
      · replace c9 := Bool.eq_false_iff.mpr c9
        subst c9
        have H1 : (octet_Put.l0 kj2 a0 ([] : List Int) (wrap64 (a1 - 1))) = some (r1, r2) := by rw [if_neg (show ¬ (false = true) by decide)] at H; exact H
        clear H
        have H := H1
        clear H1
        have H' := Aside0.mk H
        clear H
        go_wp2
        go_loopg [6, 7] kj2 (fun kq v6 v7 w' => ∃ (x6_2 : List Int) (x7_2 : Int), v7 = .int .i64 x7_2 ∧ Aside0 (octet_Put.l0 kq a0 x6_2 x7_2 = some (r1, r2)) ∧ Aside0 (kq ≤ kj2) ∧ Aside0 (Kd.R (Kd.int .u8) 5 w' w.heap.size (fun _ => True) v6 x6_2) ∧ Aside0 (Below w.heap.size w w'))
        case atStart => exact ⟨(([] : List Int)), (wrap64 (a1 - 1)), (by first | rfl | (simp; done) | (simp [*]; done)), H', ⟨Nat.le_refl _⟩, ⟨by first | exact Kd.R_nil _ _ _ _ _ | exact Kd.N_nil _ _ _ _ _ | exact Kd.V_nil _ _ _ _ _ | exact Kd.Q_nil _ _ _ _ _ | exact Kd.S_nil _ _ _ _ _⟩, ⟨by repeat (first | (with_reducible first | exact HB.out | apply below_alloc | apply pw_below_drewN | apply below_drew1) | exact HB.out)⟩⟩
        case round =>
          clear H'
          try clear c1
          try clear p2
          try clear c4
          try clear c4b0
          try clear c5
          try clear c5b0
          try clear p6
          try clear c7
          try clear c7b0
          try clear c7b1
          try clear c9
          try clear p2
          try clear p6
          obtain ⟨x6_2, x7_2, rfl, HA, HK2, HO_6, HB⟩ := hrel
          cases gk with
          | zero => exact absurd HA.out (by simp [octet_Put.l0])
          | succ k2 =>
            have H := HA.out
            clear HA
            simp only [octet_Put.l0] at H
            by_cases c10 : x7_2 ≥ 0
            · rw [if_pos c10] at H
              have c10b0 : decide (0 ≤ x7_2) = true := decide_eq_true c10
              clear c10
              obtain ⟨ji11, hji11⟩ : ∃ j_ : Int, (wrap64 (8 * x7_2)) = j_ := ⟨_, rfl⟩
              replace H : (if 0 ≤ (ji11) then (if x6_2.length < 140737488355328 then (octet_Put.l0 k2 a0 (x6_2 ++ [(shr .u32 a0 (ji11)) % 256]) (wrap64 (x7_2 - 1))) else (none)) else (none)) = some (r1, r2) := by first | (rw [hji11] at H; exact H) | (simp only [hji11] at H ⊢; exact H)
              have hji11w : (IntKind.i64.wrap (8 * x7_2)) = ji11 := (i64_w _).trans hji11
              by_cases c12 : 0 ≤ (ji11)
              · rw [if_pos c12] at H
                have c12b0 := eq_true c12
                have c12b1 : decide (0 ≤ (ji11)) = true := decide_eq_true c12
                clear c12
                obtain ⟨ji13, hji13⟩ : ∃ j_ : Int, (shr .u32 a0 (ji11)) = j_ := ⟨_, rfl⟩
                replace H : (if x6_2.length < 140737488355328 then (octet_Put.l0 k2 a0 (x6_2 ++ [(ji13) % 256]) (wrap64 (x7_2 - 1))) else (none)) = some (r1, r2) := by first | (rw [hji13] at H; exact H) | (simp only [hji13] at H ⊢; exact H)
                have hji13_ : (a0 / 2 ^ min (ji11).toNat 32) = ji13 := hji13
                have hji13z : (ji11) ≤ 32 → (a0 / 2 ^ (ji11).toNat) = ji13 := shr_small hji13
                by_cases c14 : x6_2.length < 140737488355328
                · rw [if_pos c14] at H
                  have LMc14 := Aside0.mk c14
                  clear c14
                  obtain ⟨y101, hy101⟩ : ∃ y_ : List Int, y_ = (x6_2 ++ [(ji13) % 256]) := ⟨_, rfl⟩
                  replace H : (octet_Put.l0 k2 a0 y101 (wrap64 (x7_2 - 1))) = some (r1, r2) := by first | (rw [hy101]; with_reducible exact H) | (have H2_ := (Option.bind_some _ _).symm.trans H; rw [hy101]; with_reducible exact H2_) | (have H2_ := (Option.bind_some _ _).symm.trans H; with_reducible exact H2_) | with_reducible exact H | (rw [hy101]; exact H) | exact H
                  have Ny101 := Aside0.mk hy101
                  clear hy101
                  have H' := Aside0.mk H
                  clear H
                  go_wp2_with (first | ((with_reducible refine gate_builtin (b := .append) (xs := #[.tmp 28, .tmp 34]) rfl ?_); at_builtin; refine Kd.R_append (Kd.int .u8) (w0 := w) w.heap.size rfl (.tmp 28) (.tmp 34) 45 5 (.int .u8 0) 1 rfl Tryz.underlying45 info5 rfl (by decide) (by omega) u6 x6_2 ((ji13) % 256) [.int .u8 ((ji13) % 256)] (fun _ => True) (fun _ => False) rfl rfl ?aP (fun _ hk => hk.elim) ?aF ?aO ?aB ?aS ?aL ?_; (case aP => exact rfl); (case aB => exact (by repeat (first | (with_reducible first | exact HB.out | apply below_alloc | apply pw_below_drewN | apply below_drew1) | exact HB.out))); (case aF => exact (fun _ _ => trivial)); (case aO => exact (by (with_reducible repeat (first | apply Kd.R_alloc | apply Kd.R_drewN | apply Kd.R_drew)); exact HO_6.out)); (case aS => exact (below_size (by repeat (first | (with_reducible first | exact HB.out | apply below_alloc | apply pw_below_drewN | apply below_drew1) | exact HB.out)))); (case aL => have := LMc14.out; omega); intro v102 w15 ho hb hg hat; rw [← Ny101.out] at ho; have n0_ := Aside0.mk (hb); have n1_ := Aside0.mk (ho); clear HB; clear HO_6; have HB := n0_; have HO103 := n1_; clear n0_ n1_; clear ho hb hg hat))
                  go_roundg k2
                  case measure => have := HJ2.out; have := HK2.out; omega
                  case rel => exact ⟨(y101), (wrap64 (x7_2 - 1)), (by first | rfl | (simp; done) | (simp [*]; done)), H', ⟨by have := HJ2.out; have := HK2.out; omega⟩, ⟨by (with_reducible repeat (first | apply Kd.R_alloc | apply Kd.R_drewN | apply Kd.R_drew)); exact HO103.out⟩, ⟨by repeat (first | (with_reducible first | exact HB.out | apply below_alloc | apply pw_below_drewN | apply below_drew1) | exact HB.out)⟩⟩
                · rw [if_neg c14] at H
                  exact absurd H (by simp)
              · rw [if_neg c12] at H
                exact absurd H (by simp)
            · rw [if_neg c10] at H
              have c10b0 : decide (0 ≤ x7_2) = false := decide_eq_false c10
              clear c10
              simp only [Option.some.injEq, Prod.mk.injEq] at H
              obtain ⟨rfl, rfl⟩ := H
              have hcv16 := own_string (P := Tryz.prog) Tryz.underlying45 Tryz.underlying5 Tryz.underlying9 (Kd.own_of_R HO_6.out)
              go_wp2
              go_ret2
              exact ⟨by first | rfl | (simp [errW_none, errW_some] <;> rfl) | (simp [*, errW_none, errW_some] <;> rfl), by repeat (first | (with_reducible first | exact HB.out | apply below_alloc | apply pw_below_drewN | apply below_drew1) | exact HB.out)⟩
theorem o_round (k : Nat) (a : Int) (l : List Int) (i : Nat) (hi : i < 4) (ha : 0 ≤ a ∧ a < 4294967296) (hl : l.length < 100) :
    octet_Put.l0 (k + 1) a l (i : Int) = octet_Put.l0 k a (l ++ [a / 2 ^ (8 * i) % 256]) ((i : Int) - 1) := by
  conv => lhs; unfold octet_Put.l0
  have e : wrap64 (8 * (i : Int)) = ((8 * i : Nat) : Int) := by unfold wrap64; omega
  rw [if_pos (by omega), e, if_pos (by omega), if_pos (by omega), show wrap64 ((i : Int) - 1) = (i : Int) - 1 by unfold wrap64; omega]
  unfold shr
  rw [Int.toNat_natCast, show min (8 * i) IntKind.u32.bits = 8 * i from Nat.min_eq_left (by show 8 * i ≤ 32; omega)]
theorem o_four (k : Nat) (a : Int) (h : 0 ≤ a ∧ a < 4294967296) : octet_Put.f (k + 6) a 4 = some (strOfNums (w4 a), 0) := by
  unfold octet_Put.f
  have e0 : wrap64 (8 * 4) = 32 := by unfold wrap64; omega
  have e1 : shr .u64 (IntKind.u64.wrap a) 32 = 0 := by
    unfold shr
    have : IntKind.u64.wrap a = a := by rw [IntKind.wrap]; simp [IntKind.bits, IntKind.signed]; omega
    rw [this, show min (Int.toNat 32) IntKind.u64.bits = 32 from rfl]
    omega
  rw [if_neg (by omega), if_neg (by omega), e0, if_pos (by omega), e1, show decide ((0 : Int) > 0) = false from rfl]
  rw [show octet_Put.j0 (k + 6) a 4 false = octet_Put.l0 (k + 5) a ([] : List Int) (wrap64 (4 - 1)) by unfold octet_Put.j0; exact if_neg (by simp)]
  rw [show wrap64 (4 - 1) = ((3 : Nat) : Int) by unfold wrap64; omega, o_round (k + 4) a _ 3 (by omega) h (by simp), show ((3 : Nat) : Int) - 1 = ((2 : Nat) : Int) from rfl, o_round (k + 3) a _ 2 (by omega) h (by simp),
    show ((2 : Nat) : Int) - 1 = ((1 : Nat) : Int) from rfl, o_round (k + 2) a _ 1 (by omega) h (by simp), show ((1 : Nat) : Int) - 1 = ((0 : Nat) : Int) from rfl, o_round (k + 1) a _ 0 (by omega) h (by simp)]
  conv => lhs; unfold octet_Put.l0
  rw [if_neg (by omega)]
  simp [w4]
/-- octet.Put of a word, four bytes wide. -/
theorem four_calls (a : Int) (w : World) (h : 0 ≤ a ∧ a < 4294967296) :
    Calls Tryz.prog 19 #[.int .u32 a, .int .i64 4] w fun e w' => e = .returned (.tuple #[.string (strOfNums (w4 a)), .int .i64 0]) ∧ Below w.heap.size w w' := octet_Put.calls 6 a 4 _ _ w (o_four 0 a h)
end Go.Proofs.YtcmildkkigccaaaGreatDoor.PAll

namespace Go.Proofs.YtcmildkkigccaaaGreatDoor.PAll
open Go.RowKit Go.Proofs.YtcmildkkigccaaaGreatDoorW.PrintWords Go.Proofs.YtcmildkkigccaaaGreatDoorW.PrintLast Go.Proofs.YtcmildkkigccaaaGreatDoorW.PrintMore
attribute [local go_sem] max2_int min2_int max_two min_two max_three min_three max_four min_four   -- for this text's walks alone
set_option linter.unusedVariables false
set_option linter.unusedSimpArgs false
/-! ### prioryref27_Put: function 9 -/
def prioryref27_Put.l0 : Nat → List (S40) → ByteArray → Int → Option (ByteArray × Int)
  | 0, _, _, _ => none
  | k + 1, x0, x4, x5 => if x5 < (x0.length : Int) then (if 0 ≤ x5 then (if ((rd_T40 x0 x5).f0) < 0 then (some ((⟨#[]⟩ : ByteArray), 2)) else (if ((rd_T40 x0 x5).f0) > 255 then (some ((⟨#[]⟩ : ByteArray), 2)) else (if ((rd_T40 x0 x5).f1) < 0 then (some ((⟨#[]⟩ : ByteArray), 2)) else (if ((rd_T40 x0 x5).f1) > 255 then (some ((⟨#[]⟩ : ByteArray), 2)) else ((prioryref05_Put.f k ((rd_T40 x0 x5).f2) 4).bind fun bt121 => ((some (([((rd_T40 x0 x5).f0) % 256, ((rd_T40 x0 x5).f1) % 256] : List Int) : List Int)).bind fun y125 => (if x4.size + (strOfNums y125).size ≤ 9223372036854775807 then (if (x4 ++ (strOfNums y125)).size + bt121.1.size ≤ 9223372036854775807 then (prioryref27_Put.l0 k x0 ((x4 ++ (strOfNums y125)) ++ bt121.1) (wrap64 (x5 + 1))) else (none)) else (none)))))))) else (none)) else (some (x4, 0))
def prioryref27_Put.f (k : Nat) (l0 : List (S40)) : Option (ByteArray × Int) := if (l0.length : Int) > 10000 then (some ((⟨#[]⟩ : ByteArray), 2)) else (prioryref27_Put.l0 k l0 (⟨#[]⟩ : ByteArray) 0)
theorem prioryref27_Put.mono_l : ∀ k, (∀ y0 y1 y2, LeO (prioryref27_Put.l0 k y0 y1 y2) (prioryref27_Put.l0 (k + 1) y0 y1 y2))
  | 0 => fun _ _ _ r h => by simp [prioryref27_Put.l0] at h
  | k + 1 => by
    have ih0 := prioryref27_Put.mono_l k
    · intro y0 y1 y2
      unfold prioryref27_Put.l0
      repeat' first
      | (with_reducible exact ih0 _ _ _)
      | (with_reducible exact prioryref05_Put.mono _ _ _)
      | (with_reducible exact LeO.refl _)
      | (with_reducible exact LeO.none _)
      | (with_reducible refine LeO.ite ?_ ?_)
      | (with_reducible refine LeO.bind ?_ (fun _ => ?_))
      | exact ih0 _ _ _
      | exact prioryref05_Put.mono _ _ _
      | exact LeO.none _
      | refine LeO.ite ?_ ?_
      | refine LeO.bind ?_ (fun _ => ?_)
theorem prioryref27_Put.mono : ∀ a0 k, LeO (prioryref27_Put.f k a0) (prioryref27_Put.f (k + 1) a0) := by
  intro a0 k
  have ih0 := prioryref27_Put.mono_l k
  unfold prioryref27_Put.f
  repeat' first
      | (with_reducible exact ih0 _ _ _)
      | (with_reducible exact prioryref05_Put.mono _ _ _)
      | (with_reducible exact LeO.refl _)
      | (with_reducible exact LeO.none _)
      | (with_reducible refine LeO.ite ?_ ?_)
      | (with_reducible refine LeO.bind ?_ (fun _ => ?_))
      | exact ih0 _ _ _
      | exact prioryref05_Put.mono _ _ _
      | exact LeO.none _
      | refine LeO.ite ?_ ?_
      | refine LeO.bind ?_ (fun _ => ?_)
end Go.Proofs.YtcmildkkigccaaaGreatDoor.PAll

/-
  Plain: events as bytes.
-/
namespace Go.Proofs.YtcmildkkigccaaaGreatDoor.PAll
open Go.RowKit Go.Proofs.YtcmildkkigccaaaGreatDoorW.PrintWords Go.Proofs.YtcmildkkigccaaaGreatDoorW.PrintLast Go.Proofs.YtcmildkkigccaaaGreatDoorW.PrintMore
set_option linter.unusedVariables false
set_option linter.unusedSimpArgs false
def okE (x : S40) : Bool := decide (0 ≤ x.f0 ∧ x.f0 ≤ 255 ∧ 0 ≤ x.f1 ∧ x.f1 ≤ 255)
def evB (x : S40) : List Int := [x.f0 % 256, x.f1 % 256] ++ w4 x.f2
def allB : List S40 → List Int
  | [] => []
  | x :: l => evB x ++ allB l
theorem allB_append : ∀ l m, allB (l ++ m) = allB l ++ allB m
  | [], m => rfl
  | x :: l, m => by simp [allB, allB_append l m]
theorem allB_len : ∀ l, (allB l).length = 6 * l.length
  | [] => rfl
  | x :: l => by simp [allB, allB_len l, evB, w4]; omega
theorem str_append (l m : List Int) : strOfNums l ++ strOfNums m = strOfNums (l ++ m) := by
  apply ByteArray.ext
  rw [ByteArray.data_append]
  simp [strOfNums]
/-- What Put tells. -/
def putE (l : List S40) : ByteArray × Int := if l.all okE then (strOfNums (allB l), 0) else (⟨#[]⟩, 2)
theorem put_l0 (l : List S40) (hl : l.length ≤ 10000) (hw : ∀ x ∈ l, 0 ≤ x.f2 ∧ x.f2 < 4294967296) : ∀ (d i k : Nat), i + d = l.length → d + 7 ≤ k → (∀ j, j < i → okE (l.getD j z40) = true) →
    prioryref27_Put.l0 k l (strOfNums (allB (l.take i))) (i : Int) = some (putE l)
  | 0, i, k + 1, hd, hk, hok => by
    unfold prioryref27_Put.l0
    rw [if_neg (by omega), List.take_of_length_le (by omega)]
    have : l.all okE = true := List.all_eq_true.2 fun x hx => by
      obtain ⟨j, hj, rfl⟩ := List.getElem_of_mem hx
      have := hok j (by omega)
      rwa [List.getD_eq_getElem?_getD, List.getElem?_eq_getElem hj] at this
    unfold putE
    rw [if_pos this]
  | d + 1, i, k + 1, hd, hk, hok => by
    have hi : i < l.length := by omega
    obtain ⟨x, hx⟩ : ∃ x, x = l.getD i z40 := ⟨_, rfl⟩
    have hxi : l[i] = x := by rw [hx, List.getD_eq_getElem?_getD, List.getElem?_eq_getElem hi]; rfl
    have hrd : rd_T40 l (i : Int) = x := by unfold rd_T40; rw [Int.toNat_natCast, hx]
    have hm : x ∈ l := by rw [← hxi]; exact List.getElem_mem hi
    have hbad : okE x = false → putE l = (⟨#[]⟩, 2) := fun h => by
      unfold putE
      rw [if_neg]
      intro ha
      rw [List.all_eq_true.1 ha x hm] at h
      cases h
    have hno : ¬ (0 ≤ x.f0 ∧ x.f0 ≤ 255 ∧ 0 ≤ x.f1 ∧ x.f1 ≤ 255) → okE x = false := fun h => decide_eq_false h
    have hsz : (strOfNums (allB (l.take i))).size ≤ 60000 := by rw [str_size, allB_len, List.length_take]; omega
    conv => lhs; unfold prioryref27_Put.l0
    rw [if_pos (by omega), if_pos (by omega), hrd]
    by_cases h0 : x.f0 < 0
    · rw [if_pos h0, hbad (hno (by omega))]
    · by_cases h1 : x.f0 > 255
      · rw [if_neg h0, if_pos h1, hbad (hno (by omega))]
      · by_cases h2 : x.f1 < 0
        · rw [if_neg h0, if_neg h1, if_pos h2, hbad (hno (by omega))]
        · by_cases h3 : x.f1 > 255
          · rw [if_neg h0, if_neg h1, if_neg h2, if_pos h3, hbad (hno (by omega))]
          · obtain ⟨q, rfl⟩ : ∃ q, k = q + 6 := ⟨k - 6, by omega⟩
            rw [if_neg h0, if_neg h1, if_neg h2, if_neg h3, p5_four q x.f2 (hw x hm)]
            simp only [Option.bind_some]
            rw [if_pos (by rw [str_size ([_, _] : List Int)]; simp only [List.length_cons, List.length_nil]; omega), str_append, if_pos (by rw [str_size, str_size]; simp [w4, allB_len]; omega), str_append, show wrap64 ((i : Int) + 1) = ((i + 1 : Nat) : Int) by unfold wrap64; omega]
            have e : allB (l.take i) ++ [x.f0 % 256, x.f1 % 256] ++ w4 x.f2 = allB (l.take (i + 1)) := by
              rw [List.take_add_one, List.getElem?_eq_getElem hi, hxi, allB_append]
              simp [allB, evB]
            rw [e]
            refine put_l0 l hl hw d (i + 1) (q + 6) (by omega) (by omega) (fun j hj => ?_)
            by_cases hji : j = i
            · rw [hji, ← hx]; exact decide_eq_true (by omega)
            · exact hok j (by omega)
theorem put_f (k : Nat) (l : List S40) (hl : l.length ≤ 10000) (hw : ∀ x ∈ l, 0 ≤ x.f2 ∧ x.f2 < 4294967296) (hk : l.length + 7 ≤ k) : prioryref27_Put.f k l = some (putE l) := by
  unfold prioryref27_Put.f
  rw [if_neg (by omega)]
  exact put_l0 l hl hw l.length 0 k (by omega) hk (fun j h => by omega)
end Go.Proofs.YtcmildkkigccaaaGreatDoor.PAll

/-
  script.Put: events as bytes.
-/
namespace Go.Proofs.YtcmildkkigccaaaGreatDoor.PAll
open Go.RowKit Go.Proofs.YtcmildkkigccaaaGreatDoorW.PrintWords Go.Proofs.YtcmildkkigccaaaGreatDoorW.PrintLast Go.Proofs.YtcmildkkigccaaaGreatDoorW.PrintMore
set_option linter.unusedVariables false
set_option linter.unusedSimpArgs false
def PutR (l0 : List S40) (w : World) (x : Int) (wr : World) : Prop :=
  Lib.IsBuilderF 47 5 w.heap.size w.heap.size (Lib.strCells (strOfNums (allB (l0.take x.toNat)))) wr ∧ Below w.heap.size w wr ∧ ∀ j, j < x.toNat → okE (l0.getD j z40) = true
theorem put_bad {l : List S40} {x : S40} (hm : x ∈ l) (h : okE x = false) : putE l = (⟨#[]⟩, 2) := by
  unfold putE
  rw [if_neg]
  intro ha
  rw [List.all_eq_true.1 ha x hm] at h
  cases h
theorem put_good {l : List S40} (h : ∀ j, j < l.length → okE (l.getD j z40) = true) : putE l = (strOfNums (allB l), 0) := by
  have : l.all okE = true := List.all_eq_true.2 fun x hx => by
    obtain ⟨j, hj, rfl⟩ := List.getElem_of_mem hx
    have := h j hj
    rwa [List.getD_eq_getElem?_getD, List.getElem?_eq_getElem hj] at this
  unfold putE
  rw [if_pos this]
theorem cells_snoc (a b : List Int) : Lib.strCells (strOfNums (a ++ b)) = Lib.strCells (strOfNums a) ++ Lib.strCells (strOfNums b) := by
  simp [Lib.strCells, strOfNums]
theorem cells_one (n : Int) (h : 0 ≤ n ∧ n ≤ 255) : Lib.strCells (strOfNums [n % 256]) = [.int .u8 n] := by
  simp [Lib.strCells, strOfNums]
  omega
/-- A round's bytes. -/
theorem putR_next {l0 : List S40} {w W : World} {x : Int} (h0 : 0 ≤ x) (h1 : x < (l0.length : Int)) (f0 f1 f2 : Int) (hx : rd_T40 l0 x = ⟨f0, f1, f2⟩) (hf : 0 ≤ f0 ∧ f0 ≤ 255 ∧ 0 ≤ f1 ∧ f1 ≤ 255)
    (hok : ∀ j, j < x.toNat → okE (l0.getD j z40) = true) (hB : Below w.heap.size w W)
    (hb : Lib.IsBuilderF 47 5 w.heap.size w.heap.size (((Lib.strCells (strOfNums (allB (l0.take x.toNat))) ++ [.int .u8 f0]) ++ [.int .u8 f1]) ++ Lib.strCells (strOfNums (w4 f2))) W) : PutR l0 w (x + 1) W := by
  have hi : x.toNat < l0.length := by omega
  have e1 : (x + 1).toNat = x.toNat + 1 := by omega
  have hg : l0[x.toNat] = ⟨f0, f1, f2⟩ := by rw [← hx]; unfold rd_T40; rw [List.getD_eq_getElem?_getD, List.getElem?_eq_getElem hi]; rfl
  refine ⟨?_, hB, fun j hj => ?_⟩
  · rw [e1, List.take_add_one, List.getElem?_eq_getElem hi, hg, allB_append]
    simp only [Option.toList, allB, evB, List.append_nil]
    rw [cells_snoc, show [f0 % 256, f1 % 256] ++ w4 f2 = [f0 % 256] ++ ([f1 % 256] ++ w4 f2) from rfl, cells_snoc [f0 % 256], cells_snoc [f1 % 256], cells_one f0 (by omega), cells_one f1 (by omega)]
    simpa using hb
  · by_cases hji : j = x.toNat
    · rw [hji, List.getD_eq_getElem?_getD, List.getElem?_eq_getElem hi, Option.getD_some, hg]
      exact decide_eq_true (by simpa using hf)
    · exact hok j (by omega)
set_option maxHeartbeats 2000000 in
set_option maxRecDepth 100000 in
theorem put_calls (A0 : Option Addr) (c0 : Nat) (l0 : List S40) (w : World) (hr0 : Kd.C k40 w A0 l0.length l0) (hc0 : l0.length ≤ c0) (hl : l0.length ≤ 10000) (hw : ∀ x ∈ l0, 0 ≤ x.f2 ∧ x.f2 < 4294967296) :
    Calls Tryz.prog 8 #[.slice A0 l0.length c0] w fun e w' => e = .returned (.tuple #[.string (putE l0).1, .int .i64 (putE l0).2]) ∧ Below w.heap.size w w' := by
  have HR0 := Aside0.mk hr0
  have HW := Aside0.mk hw
  clear hr0 hw
  have c2b0 : decide (10000 < (l0.length : Int)) = false := decide_eq_false (by omega)
  have c2b1 : decide (10000 < l0.length) = false := decide_eq_false (by omega)
  go_enter Tryz.func8, Tryz.ntmps8
  go_wp2
  go_loopw [14] (fun v wr => ∃ x : Int, 0 ≤ x ∧ x ≤ (l0.length : Int) ∧ v = .int .i64 x ∧ PutR l0 w x wr) (fun v _ => l0.length - (intOf v).toNat)
  case atStart =>
    refine ⟨0, by omega, by omega, rfl, ?_, (Below.refl _ _).alloc (Nat.le_refl _) _, fun j h => by simp at h⟩
    exact Lib.IsBuilderF.of (Lib.fresh_isBuilder 47 5 w)
  case round =>
    obtain ⟨x, hx0, hx1, rfl, HP⟩ := hrel
    by_cases hlt : x < (l0.length : Int)
    · obtain ⟨hb, hB, hok⟩ := HP
      have HB := Aside0.mk hB
      have HI := Aside0.mk hb
      have HOK := Aside0.mk hok
      clear hb hB hok
      obtain ⟨ad, e, h0, h1, h2⟩ := at_T40 HR0.out x hx0 hlt
      cases e
      replace h0 := (HB.out.cell (World.block_lt_of_cell? w _ h0)).trans h0
      replace h1 := (HB.out.cell (World.block_lt_of_cell? w _ h1)).trans h1
      replace h2 := (HB.out.cell (World.block_lt_of_cell? w _ h2)).trans h2
      have hm : rd_T40 l0 x ∈ l0 := by
        unfold rd_T40
        rw [List.getD_eq_getElem?_getD, List.getElem?_eq_getElem (by omega)]
        exact List.getElem_mem _
      obtain ⟨f0, f1, f2, hx⟩ : ∃ f0 f1 f2, rd_T40 l0 x = ⟨f0, f1, f2⟩ := ⟨_, _, _, rfl⟩
      rw [hx] at h0 h1 h2 hm
      have HX := Aside0.mk hx
      have HM := Aside0.mk hm
      clear hx hm
      have q1 : x < (l0.length : Int) := hlt
      have d1 : decide (x < (l0.length : Int)) = true := decide_eq_true hlt
      have hx0p := hx0
      replace hx0 := eq_true hx0
      replace q1 := eq_true q1
      have hbad : ¬ (0 ≤ f0 ∧ f0 ≤ 255 ∧ 0 ≤ f1 ∧ f1 ≤ 255) → putE l0 = (⟨#[]⟩, 2) := fun h => put_bad HM.out (decide_eq_false h)
      have HBD := Aside0.mk hbad
      clear hbad
      by_cases a0 : f0 < 0
      · have b0 : decide (f0 < 0) = true := decide_eq_true a0
        go_wp2
        go_ret2
        exact ⟨by rw [HBD.out (by omega)]; rfl, HB.out.alloc HB.out.size _⟩
      have b0 : decide (f0 < 0) = false := decide_eq_false a0
      by_cases a1 : 255 < f0
      · have b1 : decide (255 < f0) = true := decide_eq_true a1
        go_wp2
        go_ret2
        exact ⟨by rw [HBD.out (by omega)]; rfl, HB.out.alloc HB.out.size _⟩
      have b1 : decide (255 < f0) = false := decide_eq_false a1
      by_cases a2 : f1 < 0
      · have b2 : decide (f1 < 0) = true := decide_eq_true a2
        go_wp2
        go_ret2
        exact ⟨by rw [HBD.out (by omega)]; rfl, HB.out.alloc HB.out.size _⟩
      have b2 : decide (f1 < 0) = false := decide_eq_false a2
      by_cases a3 : 255 < f1
      · have b3 : decide (255 < f1) = true := decide_eq_true a3
        go_wp2
        go_ret2
        exact ⟨by rw [HBD.out (by omega)]; rfl, HB.out.alloc HB.out.size _⟩
      have b3 : decide (255 < f1) = false := decide_eq_false a3
      have hlen : ∀ y : List Int, (Lib.strCells (strOfNums y)).length = y.length := fun y => by rw [Lib.strCells_length, str_size]
      have hn : (Lib.strCells (strOfNums (allB (l0.take x.toNat)))).length + 10 ≤ 140737488355328 := by rw [hlen, allB_len, List.length_take]; omega
      have HN := Aside0.mk hn
      have HL := Aside0.mk hlen
      have hf2 := Aside0.mk (HW.out _ HM.out)
      clear hn hlen
      have hne : wr.heap.size ≠ w.heap.size := by have := isB_lt HI.out; omega
      have HNE := Aside0.mk hne
      clear hne
      go_wp2_with fail
      refine (byte_calls _ _ _ _ _ (HI.out.alloc _) (by have := HN.out; omega) (by have := HB.out.size; simp; omega)).mono ?_
      rintro e w1 ⟨rfl, hi1, hb1, hk1⟩
      have HI1 := Aside0.mk hi1
      have HB1 := Aside0.mk ((HB.out.alloc HB.out.size _).trans hb1)
      have hblk := hk1 _ _ (blk_alloc _ _) (by simpa using HNE.out) (by intro c fz h; cases h)
      clear hi1 hb1 hk1 h0 h1 h2
      have k1 : w1.cell? ⟨wr.heap.size, 1, none⟩ = some (.int .i64 f1) := by rw [Lib.cell_of_heap hblk]; rfl
      have HBK := Aside0.mk hblk
      clear hblk
      go_wp2_with fail
      refine (byte_calls _ _ _ _ _ HI1.out (by have := HN.out; simp; omega) HB1.out.size).mono ?_
      rintro e w2 ⟨rfl, hi2, hb2, hk2⟩
      have HI2 := Aside0.mk hi2
      have HB2 := Aside0.mk (HB1.out.trans hb2)
      have k2 : w2.cell? ⟨wr.heap.size, 2, none⟩ = some (.int .u32 f2) := kept_cell hk2 HBK.out HNE.out (by decide) rfl
      clear hi2 hb2 hk2 k1
      go_wp2_with fail
      refine (four_calls _ _ hf2.out).mono ?_
      rintro e w3 ⟨rfl, hb3⟩
      have HI3 := Aside0.mk (isB_below HI2.out hb3)
      have HB3 := Aside0.mk (HB2.out.trans (hb3.mono HB2.out.size))
      clear hb3 k2
      go_wp2_with fail
      refine (text_calls _ _ _ _ _ HI3.out (by have := HN.out; rw [str_size]; simp [w4]; omega) HB3.out.size).mono ?_
      rintro e w4_ ⟨rfl, hi4, hb4, _⟩
      have HI4 := Aside0.mk hi4
      have HB4 := Aside0.mk (HB3.out.trans hb4)
      clear hi4 hb4
      go_wp2
      go_roundw
      case rel => exact ⟨x + 1, by have := of_eq_true hx0; omega, by omega, by first | rfl | go_num, putR_next (of_eq_true hx0) hlt f0 f1 f2 HX.out (by omega) HOK.out HB4.out HI4.out⟩
      case measure => clear hx0 q1; simp [intOf]; omega
    · have d1 : decide (x < (l0.length : Int)) = false := decide_eq_false hlt
      obtain ⟨hb, hB, hok⟩ := HP
      have HB := Aside0.mk hB
      have hg := Aside0.mk (put_good (l := l0) (fun j hj => hok j (by omega)))
      rw [List.take_of_length_le (by omega), Lib.strCells_eq] at hb
      have HI := Aside0.mk hb
      clear hb hB hok
      go_wp2_with (go_at_call 21; refine (Tryz.Builder_String_any_k _ _ _ _ HI.out HB.out.size).mono ?_; rintro e w1 ⟨rfl, _, hb1, _⟩)
      go_ret2
      exact ⟨by rw [hg.out]; rfl, HB.out.trans hb1⟩
end Go.Proofs.YtcmildkkigccaaaGreatDoor.PAll
