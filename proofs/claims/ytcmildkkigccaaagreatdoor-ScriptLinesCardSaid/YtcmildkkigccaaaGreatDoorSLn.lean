/-
  script.Line: an observation's line.
-/
import Derived.Test.YtcmildkkigccaaaGreatDoorLia
import Derived.Test.YtcmildkkigccaaaGreatDoorTbl
import Derived.Test.YtcmildkkigccaaaGreatDoorShj
import Derived.Lib.AppendIntMem
import Derived.Lib.ItoaMem
import Derived.Lib.LaidTab
import Derived.Outline
namespace Go.Proofs.YtcmildkkigccaaaGreatDoor.PLin
open Go.RowKit Go.Proofs.YtcmildkkigccaaaGreatDoorW.PrintWords Go.Proofs.YtcmildkkigccaaaGreatDoorW.PrintLast Go.Proofs.YtcmildkkigccaaaGreatDoorW.PrintMore
set_option linter.unusedVariables false
set_option linter.unusedSimpArgs false
/-- strconv's table. -/
def Pow (w : World) : Prop := Lib.TabIs Tryz.prog w "internal/strconv.uint64pow10" .u64 Lib.pow10Tab
theorem Pow.below {w w' : World} (h : Pow w) (hb : Below w.heap.size w w') : Pow w' := by
  unfold Pow Lib.TabIs World.var? at *
  cases hg : Tryz.prog.globalNamed "internal/strconv.uint64pow10" with
  | none => simp [hg] at h
  | some g =>
    simp only [hg, Option.bind_some] at h ⊢
    rcases Nat.lt_or_ge g w.heap.size with hlt | hge
    · rw [hb.block g hlt]; exact h
    · rw [Array.getElem?_eq_none hge] at h; cases h
theorem fmt_calls (n : Nat) (w : World) (hn : n ≤ 9223372036854775807) (ht : Pow w) :
    Calls Tryz.prog 26 #[.int .i64 n, .int .i64 10] w fun e w' => e = .returned (.string (digB n)) ∧ Below w.heap.size w w' := by
  refine (Tryz.strconv_FormatInt_10 (n : Int) (by omega) (by omega) w ht).mono ?_
  rintro e w' ⟨rfl, k, os, rfl⟩
  rw [Lib.itoa_nonneg]
  exact ⟨rfl, Lib.below_grow _ _ (Nat.le_refl _) _ _⟩
theorem info9 : (Tryz.prog.info? 9).map (fun i => (i.zero, i.size, i.bytes)) = some (some (.string .empty), 1, 16) := by kernel_rfl
theorem line_join (a b c d e : Nat) : (⟨(Lib.join ([digB a, digB b, digB c, digB d, digB e].map (·.data.toList)) spB.data.toList).toArray⟩ : ByteArray) = lineB a b c d e := by
  apply ByteArray.ext
  unfold lineB
  simp only [ByteArray.data_append]
  simp [Lib.join, List.intercalate, List.intersperse, spB]
def strs (a b c d e : Nat) : List Value := [.string (digB a), .string (digB b), .string (digB c), .string (digB d), .string (digB e)]
/-- What holds at the head of a round. -/
def LnR (l : List Value) (w : World) (k : Nat) (v : Value) (wr : World) : Prop := wr.ownsRow w.heap.size 9 1 v k (l.take k) ∧ Below w.heap.size w wr
theorem lt_of_heap {w : World} {b : Nat} {o : Obj} (h : w.heap[b]? = some o) : b < w.heap.size := by
  rcases Nat.lt_or_ge b w.heap.size with h' | h'
  · exact h'
  · simp [Array.getElem?_eq_none h'] at h
theorem own_slice {w : World} {b e s n : Nat} {v : Value} {xs : List Value} (h : w.ownsRow b e s v n xs) : ∃ A c, v = .slice A n c := by
  rcases h.2 with ⟨hv, hn⟩ | ⟨g, cap, cur, hv, _⟩
  · exact ⟨none, 0, by rw [hv, hn]⟩
  · exact ⟨_, cap, hv⟩
theorem own_below {W w1 : World} {b e s n : Nat} {v : Value} {xs : List Value} (h : W.ownsRow b e s v n xs) (hb : Below W.heap.size W w1) : w1.ownsRow b e s v n xs :=
  h.kept (row := none) ⟨hb.os, hb.tape, hb.output, hb.size, fun k hk _ => hb.block k hk⟩ (by cases v.ownBlock <;> simp)
theorem join5 (a b c d e : Nat) (W : World) (B : Nat) (v : Value) (h : W.ownsRow B 9 1 v 5 (strs a b c d e)) (ha : a ≤ 9223372036854775807) (hb : b ≤ 9223372036854775807) (hc : c ≤ 9223372036854775807) (hd : d < 4294967296) (he : e < 4294967296) :
    Calls Tryz.prog 27 #[v, .string ⟨#[32]⟩] W fun en w' => en = .returned (.string (lineB a b c d e)) ∧ Below W.heap.size W w' := by
  rcases h.2 with ⟨_, h0⟩ | ⟨g, cap, cur, rfl, hbg, hg, hcap, hmx, hcs, htk⟩
  · omega
  · have hcells : ∀ (j : Nat) x, [digB a, digB b, digB c, digB d, digB e][j]? = some x → W.cell? ⟨g, 0 + j, none⟩ = some (.string x) := fun j x hj => by
      rw [Lib.cell_of_heap hg, Nat.zero_add]
      have hj5 : j < 5 := by have := (List.getElem?_eq_some_iff.1 hj).1; simpa using this
      have e1 : cur[j]? = (cur.toList.take (5 * 1))[j]? := by rw [List.getElem?_take, if_pos (by omega)]; simp
      rw [e1, htk]
      have e2 : strs a b c d e = [digB a, digB b, digB c, digB d, digB e].map Value.string := rfl
      rw [e2, List.getElem?_map, hj]
      rfl
    have hlen : (Lib.join ([digB a, digB b, digB c, digB d, digB e].map (·.data.toList)) spB.data.toList).length ≤ 140737488355328 := by
      have h1 := congrArg ByteArray.size (line_join a b c d e)
      have h2 := line_size a b c d e ha hb hc (by omega) (by omega)
      have h3 : (⟨(Lib.join ([digB a, digB b, digB c, digB d, digB e].map (·.data.toList)) spB.data.toList).toArray⟩ : ByteArray).size = (Lib.join ([digB a, digB b, digB c, digB d, digB e].map (·.data.toList)) spB.data.toList).length := by simp [ByteArray.size]
      omega
    have := Tryz.strings_Join g 0 cap [digB a, digB b, digB c, digB d, digB e] spB W hcells (lt_of_heap hg) (by simp) (by simpa using hcap) hlen
    rw [line_join] at this
    exact this
set_option maxHeartbeats 4000000 in
set_option maxRecDepth 100000 in
theorem sline_calls (a b c d e : Nat) (w : World) (ht : Pow w) (ha : a ≤ 9223372036854775807) (hb : b ≤ 9223372036854775807) (hc : c ≤ 9223372036854775807) (hd : d < 4294967296) (he : e < 4294967296) :
    Calls Tryz.prog 13 #[.agg #[.int .i64 a, .int .i64 b, .int .i64 c, .int .u32 d, .int .u32 e]] w fun en w' => en = .returned (.string (lineB a b c d e)) ∧ Below w.heap.size w w' := by
  obtain ⟨i0, hi, hz0, hz1, hz2⟩ := info_parts info9
  have HT := Aside0.mk ht
  have HA := Aside0.mk ha
  have HBb := Aside0.mk hb
  have HC := Aside0.mk hc
  clear ht
  go_enter Tryz.func13, Tryz.ntmps13
  go_wp2
  go_loopw [3, 19] (fun v3 v19 wr => ∃ k : Nat, k ≤ 5 ∧ v19 = .int .i64 k ∧ Aside0 (LnR (strs a b c d e) w k v3 wr)) (fun _ v19 _ => 5 - (intOf v19).toNat)
  case atStart => exact ⟨0, by omega, rfl, ⟨⟨rfl, .inl ⟨rfl, rfl⟩⟩, (Below.refl _ _).alloc (Nat.le_refl _) _⟩⟩
  case round =>
    obtain ⟨k, hk, rfl, HR⟩ := hrel
    rcases (show k = 0 ∨ k = 1 ∨ k = 2 ∨ k = 3 ∨ k = 4 ∨ k = 5 by omega) with rfl | rfl | rfl | rfl | rfl | rfl
    · have ix : ∀ w, (Instr.index 59 (.agg #[.int .i64 a, .int .i64 b, .int .i64 c, .int .i64 d, .int .i64 e]) (.int .i64 0)).run Tryz.prog w = .ok (.int .i64 a) w := fun _ => by kernel_rfl
      obtain ⟨A3, c3, rfl⟩ := own_slice HR.out.1
      go_wp2_with fail
      refine (fmt_calls a _ (by have := HA.out; have := HBb.out; have := HC.out; omega) (HT.out.below HR.out.2)).mono ?_
      rintro en w1 ⟨rfl, hb1⟩
      have HO := Aside0.mk (own_below HR.out.1 hb1)
      have HB1 := Aside0.mk (HR.out.2.trans (hb1.mono HR.out.2.size))
      clear hb1
      go_wp2_with (at_builtin; refine wpList_append_own _ rfl _ _ 58 rfl w.heap.size 9 i0 (.string .empty) 1 16 Tryz.underlying58 hi hz0 hz1 hz2 rfl (by decide) _ _ _ rfl (HO.out.alloc _) ⟨w1.heap.size, 0, none⟩ 1 1 [.string (digB a)] rfl rfl ?c1 ?c2 ?c3 ?c4 ?c5 ?_)
      case c1 =>
        intro j u hj
        match j, hj with
        | 0, hj => simp at hj; subst hj; simp [Addr.add]
      case c2 => intro u hu; simp at hu; subst hu; rfl
      case c3 => unfold maxLen; omega
      case c4 => omega
      case c5 => have := HB1.out.size; simp; omega
      intro v2 w2 hown2 hgrow2 _
      have HF := Aside0.mk (show LnR (strs a b c d e) w 1 v2 w2 from ⟨hown2, (HB1.out.alloc HB1.out.size _).grown hgrow2 (by have := HB1.out.size; simp; omega) (fun k hk => (HO.out.lt k hk).1)⟩)
      clear hown2 hgrow2
      try go_wp2
      go_roundw
      case rel => exact ⟨1, by omega, rfl, HF⟩
      case measure => simp [intOf]
    · have ix : ∀ w, (Instr.index 59 (.agg #[.int .i64 a, .int .i64 b, .int .i64 c, .int .i64 d, .int .i64 e]) (.int .i64 1)).run Tryz.prog w = .ok (.int .i64 b) w := fun _ => by kernel_rfl
      obtain ⟨A3, c3, rfl⟩ := own_slice HR.out.1
      go_wp2_with fail
      refine (fmt_calls b _ (by have := HA.out; have := HBb.out; have := HC.out; omega) (HT.out.below HR.out.2)).mono ?_
      rintro en w1 ⟨rfl, hb1⟩
      have HO := Aside0.mk (own_below HR.out.1 hb1)
      have HB1 := Aside0.mk (HR.out.2.trans (hb1.mono HR.out.2.size))
      clear hb1
      go_wp2_with (at_builtin; refine wpList_append_own _ rfl _ _ 58 rfl w.heap.size 9 i0 (.string .empty) 1 16 Tryz.underlying58 hi hz0 hz1 hz2 rfl (by decide) _ _ _ rfl (HO.out.alloc _) ⟨w1.heap.size, 0, none⟩ 1 1 [.string (digB b)] rfl rfl ?c1 ?c2 ?c3 ?c4 ?c5 ?_)
      case c1 =>
        intro j u hj
        match j, hj with
        | 0, hj => simp at hj; subst hj; simp [Addr.add]
      case c2 => intro u hu; simp at hu; subst hu; rfl
      case c3 => unfold maxLen; omega
      case c4 => omega
      case c5 => have := HB1.out.size; simp; omega
      intro v2 w2 hown2 hgrow2 _
      have HF := Aside0.mk (show LnR (strs a b c d e) w 2 v2 w2 from ⟨hown2, (HB1.out.alloc HB1.out.size _).grown hgrow2 (by have := HB1.out.size; simp; omega) (fun k hk => (HO.out.lt k hk).1)⟩)
      clear hown2 hgrow2
      try go_wp2
      go_roundw
      case rel => exact ⟨2, by omega, rfl, HF⟩
      case measure => simp [intOf]
    · have ix : ∀ w, (Instr.index 59 (.agg #[.int .i64 a, .int .i64 b, .int .i64 c, .int .i64 d, .int .i64 e]) (.int .i64 2)).run Tryz.prog w = .ok (.int .i64 c) w := fun _ => by kernel_rfl
      obtain ⟨A3, c3, rfl⟩ := own_slice HR.out.1
      go_wp2_with fail
      refine (fmt_calls c _ (by have := HA.out; have := HBb.out; have := HC.out; omega) (HT.out.below HR.out.2)).mono ?_
      rintro en w1 ⟨rfl, hb1⟩
      have HO := Aside0.mk (own_below HR.out.1 hb1)
      have HB1 := Aside0.mk (HR.out.2.trans (hb1.mono HR.out.2.size))
      clear hb1
      go_wp2_with (at_builtin; refine wpList_append_own _ rfl _ _ 58 rfl w.heap.size 9 i0 (.string .empty) 1 16 Tryz.underlying58 hi hz0 hz1 hz2 rfl (by decide) _ _ _ rfl (HO.out.alloc _) ⟨w1.heap.size, 0, none⟩ 1 1 [.string (digB c)] rfl rfl ?c1 ?c2 ?c3 ?c4 ?c5 ?_)
      case c1 =>
        intro j u hj
        match j, hj with
        | 0, hj => simp at hj; subst hj; simp [Addr.add]
      case c2 => intro u hu; simp at hu; subst hu; rfl
      case c3 => unfold maxLen; omega
      case c4 => omega
      case c5 => have := HB1.out.size; simp; omega
      intro v2 w2 hown2 hgrow2 _
      have HF := Aside0.mk (show LnR (strs a b c d e) w 3 v2 w2 from ⟨hown2, (HB1.out.alloc HB1.out.size _).grown hgrow2 (by have := HB1.out.size; simp; omega) (fun k hk => (HO.out.lt k hk).1)⟩)
      clear hown2 hgrow2
      try go_wp2
      go_roundw
      case rel => exact ⟨3, by omega, rfl, HF⟩
      case measure => simp [intOf]
    · have ix : ∀ w, (Instr.index 59 (.agg #[.int .i64 a, .int .i64 b, .int .i64 c, .int .i64 d, .int .i64 e]) (.int .i64 3)).run Tryz.prog w = .ok (.int .i64 d) w := fun _ => by kernel_rfl
      obtain ⟨A3, c3, rfl⟩ := own_slice HR.out.1
      go_wp2_with fail
      refine (fmt_calls d _ (by have := HA.out; have := HBb.out; have := HC.out; omega) (HT.out.below HR.out.2)).mono ?_
      rintro en w1 ⟨rfl, hb1⟩
      have HO := Aside0.mk (own_below HR.out.1 hb1)
      have HB1 := Aside0.mk (HR.out.2.trans (hb1.mono HR.out.2.size))
      clear hb1
      go_wp2_with (at_builtin; refine wpList_append_own _ rfl _ _ 58 rfl w.heap.size 9 i0 (.string .empty) 1 16 Tryz.underlying58 hi hz0 hz1 hz2 rfl (by decide) _ _ _ rfl (HO.out.alloc _) ⟨w1.heap.size, 0, none⟩ 1 1 [.string (digB d)] rfl rfl ?c1 ?c2 ?c3 ?c4 ?c5 ?_)
      case c1 =>
        intro j u hj
        match j, hj with
        | 0, hj => simp at hj; subst hj; simp [Addr.add]
      case c2 => intro u hu; simp at hu; subst hu; rfl
      case c3 => unfold maxLen; omega
      case c4 => omega
      case c5 => have := HB1.out.size; simp; omega
      intro v2 w2 hown2 hgrow2 _
      have HF := Aside0.mk (show LnR (strs a b c d e) w 4 v2 w2 from ⟨hown2, (HB1.out.alloc HB1.out.size _).grown hgrow2 (by have := HB1.out.size; simp; omega) (fun k hk => (HO.out.lt k hk).1)⟩)
      clear hown2 hgrow2
      try go_wp2
      go_roundw
      case rel => exact ⟨4, by omega, rfl, HF⟩
      case measure => simp [intOf]
    · have ix : ∀ w, (Instr.index 59 (.agg #[.int .i64 a, .int .i64 b, .int .i64 c, .int .i64 d, .int .i64 e]) (.int .i64 4)).run Tryz.prog w = .ok (.int .i64 e) w := fun _ => by kernel_rfl
      obtain ⟨A3, c3, rfl⟩ := own_slice HR.out.1
      go_wp2_with fail
      refine (fmt_calls e _ (by have := HA.out; have := HBb.out; have := HC.out; omega) (HT.out.below HR.out.2)).mono ?_
      rintro en w1 ⟨rfl, hb1⟩
      have HO := Aside0.mk (own_below HR.out.1 hb1)
      have HB1 := Aside0.mk (HR.out.2.trans (hb1.mono HR.out.2.size))
      clear hb1
      go_wp2_with (at_builtin; refine wpList_append_own _ rfl _ _ 58 rfl w.heap.size 9 i0 (.string .empty) 1 16 Tryz.underlying58 hi hz0 hz1 hz2 rfl (by decide) _ _ _ rfl (HO.out.alloc _) ⟨w1.heap.size, 0, none⟩ 1 1 [.string (digB e)] rfl rfl ?c1 ?c2 ?c3 ?c4 ?c5 ?_)
      case c1 =>
        intro j u hj
        match j, hj with
        | 0, hj => simp at hj; subst hj; simp [Addr.add]
      case c2 => intro u hu; simp at hu; subst hu; rfl
      case c3 => unfold maxLen; omega
      case c4 => omega
      case c5 => have := HB1.out.size; simp; omega
      intro v2 w2 hown2 hgrow2 _
      have HF := Aside0.mk (show LnR (strs a b c d e) w 5 v2 w2 from ⟨hown2, (HB1.out.alloc HB1.out.size _).grown hgrow2 (by have := HB1.out.size; simp; omega) (fun k hk => (HO.out.lt k hk).1)⟩)
      clear hown2 hgrow2
      try go_wp2
      go_roundw
      case rel => exact ⟨5, by omega, rfl, HF⟩
      case measure => simp [intOf]
    · obtain ⟨A3, c3, rfl⟩ := own_slice HR.out.1
      go_wp2_with fail
      refine (join5 a b c d e _ _ _ HR.out.1 HA.out HBb.out HC.out hd he).mono ?_
      rintro en w1 ⟨rfl, hb1⟩
      have HB1 := Aside0.mk (HR.out.2.trans (hb1.mono HR.out.2.size))
      clear hb1
      go_wp2
      go_ret
      exact ⟨rfl, HB1.out⟩
end Go.Proofs.YtcmildkkigccaaaGreatDoor.PLin
