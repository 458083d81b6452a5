/-
  The evaluator, quicker for the kernel: by recursors.
-/
import Derived.Test.YtcmildkkigccaaaGreatDoorEvq
namespace Go.Proofs.YtcmildkkigccaaaGreatDoor.Run
open Go
set_option linter.unusedVariables false
set_option linter.unusedSimpArgs false
/-- The trees' reads and writes, by their recursors. -/
noncomputable def getR {α : Type} (t : Tr α) : Nat → Option α :=
  @Tr.rec α (fun _ => Nat → Option α) (fun _ => none) (fun _ v _ gl gr k => @Nat.rec (fun _ => Option α) v (fun k _ => @Bool.rec (fun _ => Option α) (gr (Nat.div k 2)) (gl (Nat.div k 2)) (Nat.beq (Nat.mod k 2) 0)) k) t
noncomputable def setR {α : Type} (x : α) (f : Nat) : Tr α → Nat → Tr α :=
  @Nat.rec (fun _ => Tr α → Nat → Tr α) (fun t _ => t) (fun _ ih t k =>
    @Tr.rec α (fun _ => Tr α) (@Nat.rec (fun _ => Tr α) (.n .e (some x) .e) (fun k _ => @Bool.rec (fun _ => Tr α) (.n .e none (ih .e (Nat.div k 2))) (.n (ih .e (Nat.div k 2)) none .e) (Nat.beq (Nat.mod k 2) 0)) k)
      (fun l v r _ _ => @Nat.rec (fun _ => Tr α) (.n l (some x) r) (fun k _ => @Bool.rec (fun _ => Tr α) (.n l v (ih r (Nat.div k 2))) (.n (ih l (Nat.div k 2)) v r) (Nat.beq (Nat.mod k 2) 0)) k) t) f
noncomputable def putR {α : Type} (t : Tr α) (k : Nat) (x : α) : Tr α := setR x (Nat.succ k) t k
theorem getR_at {α : Type} : ∀ (t : Tr α) (k : Nat), Tr.get t k = getR t k
  | .e, k => rfl
  | .n l v r, 0 => rfl
  | .n l v r, k + 1 => by
    have h1 := getR_at l (k / 2)
    have h2 := getR_at r (k / 2)
    show cond (Nat.beq (k % 2) 0) (l.get (k / 2)) (r.get (k / 2)) = @Bool.rec (fun _ => Option α) (getR r (k / 2)) (getR l (k / 2)) (Nat.beq (k % 2) 0)
    rw [h1, h2]
    cases Nat.beq (k % 2) 0 <;> rfl
theorem setR_at {α : Type} (x : α) : ∀ (f : Nat) (t : Tr α) (k : Nat), Tr.set f t k x = setR x f t k
  | 0, _, _ => rfl
  | f + 1, .e, 0 => rfl
  | f + 1, .e, k + 1 => by
    have h1 := setR_at x f .e (k / 2)
    show cond (Nat.beq (k % 2) 0) (.n (Tr.set f .e (k / 2) x) none .e) (.n .e none (Tr.set f .e (k / 2) x)) = @Bool.rec (fun _ => Tr α) (.n .e none (setR x f .e (k / 2))) (.n (setR x f .e (k / 2)) none .e) (Nat.beq (k % 2) 0)
    rw [h1]
    cases Nat.beq (k % 2) 0 <;> rfl
  | f + 1, .n l v r, 0 => rfl
  | f + 1, .n l v r, k + 1 => by
    have h1 := setR_at x f l (k / 2)
    have h2 := setR_at x f r (k / 2)
    show cond (Nat.beq (k % 2) 0) (.n (Tr.set f l (k / 2) x) v r) (.n l v (Tr.set f r (k / 2) x)) = @Bool.rec (fun _ => Tr α) (.n l v (setR x f r (k / 2))) (.n (setR x f l (k / 2)) v r) (Nat.beq (k % 2) 0)
    rw [h1, h2]
    cases Nat.beq (k % 2) 0 <;> rfl
theorem getR_eq : @Tr.get = @getR := by
  funext α t k
  exact getR_at t k
theorem putR_eq : @Tr.put = @putR := by
  funext α t k x
  exact setR_at x (k + 1) t k
/-- Ints of 64 bits, at once. -/
def fastI (op : BinOp) (m n : Int) : Option Value :=
  match op with
  | .add => some (.int .i64 (IntKind.i64.wrap (m + n)))
  | .sub => some (.int .i64 (IntKind.i64.wrap (m - n)))
  | .eql => some (.bool (m == n))
  | .neq => some (.bool (m != n))
  | .lss => some (.bool (decide (m < n)))
  | .leq => some (.bool (decide (m ≤ n)))
  | .gtr => some (.bool (decide (m > n)))
  | .geq => some (.bool (decide (m ≥ n)))
  | _ => none
def binQ (P : Program) (op : BinOp) (t : TypeId) (x y : Operand) (a b : Value) : Option Value :=
  match a, b with
  | .int .i64 m, .int .i64 n => (match fastI op m n with
    | some v => some v
    | none => binB P op t x y a b)
  | _, _ => binB P op t x y a b
theorem binQ_eq : @binB = @binQ := by
  funext P op t x y a b
  unfold binQ
  split
  · split
    · rename_i h
      cases op <;> simp only [fastI] at h <;> first | (cases h; done) | (cases h; rfl)
    · rfl
  · rfl
noncomputable def goesB_r : {f // f = @goesB} := by
  refine ⟨?f, ?h⟩
  case h =>
    delta goesB goesB.match_4 Option.casesOn Prod.casesOn goesB.match_3 goesB.match_2 goesB.match_1 loadB._sparseCasesOn_1 keyB._sparseCasesOn_3
    try dsimp only
    rw [getR_eq]
noncomputable def putB_r : {f // f = @putB} := by
  refine ⟨?f, ?h⟩
  case h =>
    delta putB goesB.match_2 Option.casesOn cond cond.match_1 Bool.casesOn
    try dsimp only
    rw [putR_eq]
noncomputable def opnd_r : {f // f = @opnd} := by
  refine ⟨?f, ?h⟩
  case h =>
    delta opnd opnd.match_1 Operand.casesOn Option.getD Option.getD.match_1 Option.casesOn cond cond.match_1 Bool.casesOn Option.map
    try dsimp only
    rw [getR_eq]
noncomputable def isAggB_r : {f // f = @isAggB} := by
  refine ⟨?f, ?h⟩
  case h =>
    delta isAggB isAggB.match_1 Option.casesOn isAggB._sparseCasesOn_1
    try dsimp only
    exact rfl
noncomputable def AH_get_r : {f // f = @AH.get} := by
  refine ⟨?f, ?h⟩
  case h =>
    delta AH.get
    try dsimp only
    rw [getR_eq]
noncomputable def AH_set_r : {f // f = @AH.set} := by
  refine ⟨?f, ?h⟩
  case h =>
    delta AH.set AH.set.match_1 AH.casesOn
    rw [putR_eq]
noncomputable def AH_new_r : {f // f = @AH.new} := by
  refine ⟨?f, ?h⟩
  case h =>
    delta AH.new AH.set.match_1 AH.casesOn
    rw [putR_eq]
noncomputable def newCells_r : {f // f = @newCells} := by
  refine ⟨?f, ?h⟩
  case h =>
    delta newCells
    try dsimp only
    rw [← AH_new_r.2]
noncomputable def loadB_r : {f // f = @loadB} := by
  refine ⟨?f, ?h⟩
  case h =>
    delta loadB loadB.match_2 loadB._sparseCasesOn_3 loadB._sparseCasesOn_1 Addr.casesOn flat1._sparseCasesOn_2 loadB.match_1 loadB._sparseCasesOn_2 Option.bind Option.bind.match_1 Option.casesOn cond cond.match_1 Bool.casesOn Option.map Option.getD.match_1
    try dsimp only
    rw [getR_eq, ← AH_get_r.2, ← isAggB_r.2]
noncomputable def storeB_r : {f // f = @storeB} := by
  refine ⟨?f, ?h⟩
  case h =>
    delta storeB loadB.match_2 loadB._sparseCasesOn_3 loadB._sparseCasesOn_1 Addr.casesOn flat1._sparseCasesOn_2 storeB.match_1 loadB._sparseCasesOn_2 storeB._sparseCasesOn_1 Option.bind Option.bind.match_1 Option.casesOn cond cond.match_1 Bool.casesOn Bool.and Bool.and.match_1
    try dsimp only
    rw [← AH_get_r.2, ← AH_set_r.2]
noncomputable def fieldAddrB_r : {f // f = @fieldAddrB} := by
  refine ⟨?f, ?h⟩
  case h =>
    delta fieldAddrB fieldAddrB.match_1 loadB._sparseCasesOn_1 fieldAddrB._sparseCasesOn_1 loadB._sparseCasesOn_3 Addr.casesOn flat1._sparseCasesOn_2 Option.bind Option.bind.match_1 Option.casesOn cond cond.match_1 Bool.casesOn
    try dsimp only
    exact rfl
noncomputable def natOf_r : {f // f = @natOf} := by
  refine ⟨?f, ?h⟩
  case h =>
    delta natOf natOf.match_1 natOf._sparseCasesOn_1
    try dsimp only
    exact rfl
noncomputable def asI_r : {f // f = @asI} := by
  refine ⟨?f, ?h⟩
  case h =>
    delta asI asI.match_1 asI._sparseCasesOn_1
    try dsimp only
    exact rfl
noncomputable def indexAddrB_r : {f // f = @indexAddrB} := by
  refine ⟨?f, ?h⟩
  case h =>
    delta indexAddrB Option.bind Option.bind.match_1 Option.casesOn indexAddrB.match_1 loadB._sparseCasesOn_1 indexAddrB._sparseCasesOn_1 loadB._sparseCasesOn_3 Addr.casesOn flat1._sparseCasesOn_2 indexAddrB._sparseCasesOn_2 cond cond.match_1 Bool.casesOn Option.map Option.getD.match_1
    try dsimp only
    rw [← asI_r.2, ← natOf_r.2]
noncomputable def partB_r : {f // f = @partB} := by
  refine ⟨?f, ?h⟩
  case h =>
    delta partB Option.bind Option.bind.match_1 Option.casesOn cond cond.match_1 Bool.casesOn Option.map Option.getD.match_1
    try dsimp only
    rw [← isAggB_r.2]
noncomputable def fieldB_r : {f // f = @fieldB} := by
  refine ⟨?f, ?h⟩
  case h =>
    delta fieldB fieldB.match_1 loadB._sparseCasesOn_1 fieldAddrB._sparseCasesOn_1 Value.cl._sparseCasesOn_1 Option.bind Option.bind.match_1 Option.casesOn
    try dsimp only
    rw [← partB_r.2]
noncomputable def valB_r : {f // f = @valB} := by
  refine ⟨?f, ?h⟩
  case h =>
    delta valB Option.map Option.getD.match_1 Option.casesOn
    try dsimp only
    exact rfl
noncomputable def doB_r : {f // f = @doB} := by
  refine ⟨?f, ?h⟩
  case h =>
    delta doB Option.map Option.getD.match_1 Option.casesOn
    try dsimp only
    exact rfl
noncomputable def effB_r : {f // f = @effB} := by
  refine ⟨?f, ?h⟩
  case h =>
    delta effB Option.map Option.getD.match_1 Option.casesOn effB.match_1 Prod.casesOn
    try dsimp only
    exact rfl
noncomputable def fnB_r : {f // f = @fnB} := by
  refine ⟨?f, ?h⟩
  case h =>
    delta fnB fnB.match_1 nilEqB._sparseCasesOn_8 fnB._sparseCasesOn_1
    try dsimp only
    exact rfl
noncomputable def qMv_r : {f // f = @qMv} := by
  refine ⟨?f, ?h⟩
  case h =>
    delta qMv
    try dsimp only
    rw [← opnd_r.2, ← valB_r.2]
noncomputable def qPick_r : {f // f = @qPick} := by
  refine ⟨?f, ?h⟩
  case h =>
    delta qPick Option.bind Option.bind.match_1 Option.casesOn qPick.match_1 qPick._sparseCasesOn_1 Bool.casesOn
    try dsimp only
    rw [← opnd_r.2, ← valB_r.2]
noncomputable def qAlloc_r : {f // f = @qAlloc} := by
  refine ⟨?f, ?h⟩
  case h =>
    delta qAlloc Option.map Option.getD.match_1 Option.casesOn
    try dsimp only
    rw [← newCells_r.2]
noncomputable def qBox_r : {f // f = @qBox} := by
  refine ⟨?f, ?h⟩
  case h =>
    delta qBox Option.map Option.getD.match_1 Option.casesOn
    try dsimp only
    rw [← opnd_r.2, ← newCells_r.2]
noncomputable def qLoad_r : {f // f = @qLoad} := by
  refine ⟨?f, ?h⟩
  case h =>
    delta qLoad Option.bind Option.bind.match_1 Option.casesOn
    try dsimp only
    rw [← opnd_r.2, ← valB_r.2, ← loadB_r.2]
noncomputable def qStore_r : {f // f = @qStore} := by
  refine ⟨?f, ?h⟩
  case h =>
    delta qStore Option.bind Option.bind.match_1 Option.casesOn
    try dsimp only
    rw [← opnd_r.2, ← doB_r.2, ← storeB_r.2]
noncomputable def qNil_r : {f // f = @qNil} := by
  refine ⟨?f, ?h⟩
  case h =>
    delta qNil Option.bind Option.bind.match_1 Option.casesOn qNil.match_1 qNil._sparseCasesOn_1 qBuildSl._sparseCasesOn_1 qNil._sparseCasesOn_2
    try dsimp only
    rw [← opnd_r.2]
noncomputable def qFA_r : {f // f = @qFA} := by
  refine ⟨?f, ?h⟩
  case h =>
    delta qFA Option.bind Option.bind.match_1 Option.casesOn
    try dsimp only
    rw [← opnd_r.2, ← valB_r.2, ← fieldAddrB_r.2]
noncomputable def qFd_r : {f // f = @qFd} := by
  refine ⟨?f, ?h⟩
  case h =>
    delta qFd Option.bind Option.bind.match_1 Option.casesOn
    try dsimp only
    rw [← opnd_r.2, ← valB_r.2, ← fieldB_r.2]
noncomputable def qIA_r : {f // f = @qIA} := by
  refine ⟨?f, ?h⟩
  case h =>
    delta qIA Option.bind Option.bind.match_1 Option.casesOn
    try dsimp only
    rw [← opnd_r.2, ← valB_r.2, ← indexAddrB_r.2]
noncomputable def qIx_r : {f // f = @qIx} := by
  refine ⟨?f, ?h⟩
  case h =>
    delta qIx Option.bind Option.bind.match_1 Option.casesOn
    try dsimp only
    rw [← opnd_r.2, ← valB_r.2]
noncomputable def qExt_r : {f // f = @qExt} := by
  refine ⟨?f, ?h⟩
  case h =>
    delta qExt Option.bind Option.bind.match_1 Option.casesOn qExt.match_1 qExt._sparseCasesOn_1
    try dsimp only
    rw [← opnd_r.2, ← valB_r.2]
noncomputable def qCall_r : {f // f = @qCall} := by
  refine ⟨?f, ?h⟩
  case h =>
    delta qCall Option.bind Option.bind.match_1 Option.casesOn qCall.match_6 Callee.casesOn qCall.match_2 qCall._sparseCasesOn_2 qCall.match_1 qCall.match_5 qCall._sparseCasesOn_6 qCall.match_3 qCall._sparseCasesOn_3 qBuildSl._sparseCasesOn_1 Prod.casesOn qCall._sparseCasesOn_4 qCall._sparseCasesOn_5
    try dsimp only
    rw [← opnd_r.2, ← fnB_r.2, ← effB_r.2]
noncomputable def qBin_r : {f // f = @qBin} := by
  refine ⟨?f, ?h⟩
  case h =>
    delta qBin Option.bind Option.bind.match_1 Option.casesOn
    try dsimp only
    rw [binQ_eq, ← opnd_r.2, ← valB_r.2]
noncomputable def opD_r : {f // f = @opD} := by
  refine ⟨?f, ?h⟩
  case h =>
    delta opD opD.match_1 opD._sparseCasesOn_1 opD._sparseCasesOn_2 opD._sparseCasesOn_3
    try dsimp only
    rw [← qMv_r.2, ← qPick_r.2, ← qAlloc_r.2, ← qBox_r.2, ← qLoad_r.2, ← qStore_r.2, ← qNil_r.2, ← qBin_r.2, ← qFA_r.2, ← qFd_r.2, ← qIA_r.2, ← qIx_r.2, ← qExt_r.2, ← qCall_r.2]
noncomputable def nxQ_r : {f // f = @nxQ} := by
  refine ⟨?f, ?h⟩
  case h =>
    delta nxQ nxQ.match_2 Nx.casesOn Option.map Option.getD.match_1 Option.casesOn Option.bind Option.bind.match_1 nxQ.match_1 Prod.casesOn cond cond.match_1 Bool.casesOn
    try dsimp only
    rw [← putB_r.2]
noncomputable def stepQ_r : {f // f = @stepQ0} := by
  refine ⟨?f, ?h⟩
  case h =>
    delta stepQ0 stepQ0.match_1 St.casesOn cond cond.match_1 Bool.casesOn Option.bind Option.bind.match_1 Option.casesOn Option.map Option.getD.match_1
    rw [← goesB_r.2, ← opD_r.2, ← nxQ_r.2, ← putB_r.2]
noncomputable def stepQ : Program → Ext → Gl → CallR → RoundR → List Oper → Oper → St → Option St := stepQ_r.1
theorem stepQ_eq (P : Program) (ext : Ext) (gl : Gl) (call : CallR) (round : RoundR) (ops : List Oper) (o : Oper) (st : St) : stepQ P ext gl call round ops o st = stepB P ext gl call round ops o st := by
  unfold stepQ
  rw [stepQ_r.2]
  exact stepQ0_eq P ext gl call round ops o st
noncomputable def opsQ (P : Program) (ext : Ext) (gl : Gl) (call : CallR) (round : RoundR) (ops : List Oper) (l : List Oper) : St → Option St :=
  @List.rec Oper (fun _ => St → Option St) (fun st => some st) (fun o _ ih st => @Option.rec St (fun _ => Option St) none ih (stepQ P ext gl call round ops o st)) l
theorem opsQ_eq (P : Program) (ext : Ext) (gl : Gl) (call : CallR) (round : RoundR) (ops : List Oper) : ∀ l st, opsQ P ext gl call round ops l st = opsB P ext gl call round ops l st
  | [], st => rfl
  | o :: l, st => by
    show @Option.rec St (fun _ => Option St) none (opsQ P ext gl call round ops l) (stepQ P ext gl call round ops o st) = _
    rw [stepQ_eq, show opsQ P ext gl call round ops l = opsB P ext gl call round ops l from funext (opsQ_eq P ext gl call round ops l)]
    unfold opsB
    cases stepB P ext gl call round ops o st <;> rfl
noncomputable def runQ (P : Program) (ext : Ext) (gl : Gl) (call : CallR) (round : RoundR) (ops : List Oper) : List Slot → St → List AH → Option (St × List AH)
  | [], st, hs => some (st, hs ++ [st.h])
  | s :: l, st, hs => (stepQ P ext gl call round ops s.o st).bind fun st' => runQ P ext gl call round ops l st' (cond s.cls.isE (hs ++ [st.h]) hs)
theorem runQ_eq (P : Program) (ext : Ext) (gl : Gl) (call : CallR) (round : RoundR) (ops : List Oper) : ∀ l st hs, runQ P ext gl call round ops l st hs = runB P ext gl call round ops l st hs
  | [], st, hs => rfl
  | s :: l, st, hs => by
    simp only [runQ, runB, stepQ_eq]
    congr 1
    funext st'
    exact runQ_eq P ext gl call round ops l st' _
noncomputable def readAtQ (P : Program) (ext : Ext) (gl : Gl) (tm : Tr Value) (s : Slot) (h : AH) : Bool :=
  match opD_r.1 s.o.op P ext gl tm h with
  | some (.val v _) => (match s.o.dst with
    | none => true
    | some d => (match getR tm d with | some v' => sameW v v' | none => false))
  | _ => false
theorem readAtQ_eq (P : Program) (ext : Ext) (gl : Gl) (tm : Tr Value) (s : Slot) (h : AH) : readAtQ P ext gl tm s h = readAt P ext gl tm s h := by
  unfold readAtQ readAt
  rw [opD_r.2, opD_eq, ← getR_eq]
  rfl
noncomputable def readsQ (P : Program) (ext : Ext) (gl : Gl) (tm : Tr Value) (s : Slot) : List Slot → List Slot → List AH → Bool
  | done, [], h :: _ => cond (mayB s done []) (readAtQ P ext gl tm s h) true
  | done, e :: todo, h :: hs => cond (mayB s done (e :: todo)) (readAtQ P ext gl tm s h) true && readsQ P ext gl tm s (done ++ [e]) todo hs
  | _, _, [] => false
theorem readsQ_eq (P : Program) (ext : Ext) (gl : Gl) (tm : Tr Value) (s : Slot) : ∀ todo done hs, readsQ P ext gl tm s done todo hs = readsB P ext gl tm s done todo hs
  | [], done, [] => by simp only [readsQ, readsB]
  | [], done, h :: hs => by simp only [readsQ, readsB, readAtQ_eq]
  | e :: todo, done, [] => by simp only [readsQ, readsB]
  | e :: todo, done, h :: hs => by simp only [readsQ, readsB, readAtQ_eq, readsQ_eq P ext gl tm s todo]
noncomputable def drawQ (P : Program) (ext : Ext) (gl : Gl) (call : CallR) (round : RoundR) (ops : List Oper) (st : St) : Option St :=
  (statB P ops).bind fun (seq, es) => (runQ P ext gl call round ops seq st []).bind fun (st', hs) =>
  cond (seq.all fun s => cond (s.cls.isR && goesB ops st'.tm s.o) (readsQ P ext gl st'.tm s [] es hs) true) (some st') none
theorem drawQ_eq (P : Program) (ext : Ext) (gl : Gl) (call : CallR) (round : RoundR) (ops : List Oper) (st : St) : drawQ P ext gl call round ops st = drawB P ext gl call round ops st := by
  simp only [drawQ, drawB, runQ_eq, readsQ_eq]
noncomputable def regionQ (P : Program) (ext : Ext) (gl : Gl) (call : CallR) (round : RoundR) (ops : List Oper) (draw : Bool) (st : St) : Option St :=
  cond draw (drawQ P ext gl call round ops st) (opsQ P ext gl call round ops ops st)
theorem regionQ_eq (P : Program) (ext : Ext) (gl : Gl) (call : CallR) (round : RoundR) (ops : List Oper) (draw : Bool) (st : St) : regionQ P ext gl call round ops draw st = regionB P ext gl call round ops draw st := by
  simp only [regionQ, regionB, drawQ_eq, opsQ_eq]
def afterQ (l : Nat) (ds : List Df) (st : St) (h : AH) : Option (Ex × St) :=
  match st with
  | ⟨tm0, _, _, sz0, rd0⟩ => (match h.get l with
    | some (.loop s pend fn tm sz ps asg body d) => (match s with
      | .busy => none
      | _ =>
        (match pend with
        | none => some (.normal, ⟨tm0, h.set l (.loop .exhausted pend fn tm sz ps asg body d), ds, sz0, rd0⟩)
        | some .ret => some (.ret, ⟨tm0, h.set l (.loop .exhausted pend fn tm sz ps asg body d), ds, sz0, rd0⟩)
        | some (.exit id) => some (.exit id, ⟨tm0, h.set l (.loop .exhausted pend fn tm sz ps asg body d), ds, sz0, rd0⟩)
        | _ => none))
    | _ => none)
def rangeQ (gl : Gl) (call : CallR) (fn : FuncId) (around : Option Nat) (f : Operand) (ps : Array Tmp) (asg body : Code) (st : St) : Option (Ex × St) :=
  (opnd gl st.tm f).bind fun f =>
  ((match around with
    | some l => (match st.h.get l with | some (.loop _ _ _ _ _ _ _ _ d) => some (d, st.h, st.ds) | _ => none)
    | none => some (st.h.next, st.h.new (.dfs true), .mark st.h.next :: st.ds)) : Option (Nat × AH × List Df)).bind fun (d, h, ds) =>
  (fnB f [.func (.yield h.next) #[] #[]]).bind fun nx => (match nx with
    | .call f args => (call f args (h.new (.loop .ready none fn st.tm st.sz ps.toList asg body d))).bind fun (_, h') => afterQ h.next ds st h'
    | _ => none)
/-- Code, by its fuel. -/
noncomputable def codeQ (P : Program) (ext : Ext) (gl : Gl) (call : CallR) (round : RoundR) (fn : FuncId) (around : Option Nat) : Nat → Code → St → Option (Ex × St)
  | 0, _, _ => none
  | n + 1, c, st => match c with
    | .skip => some (.normal, st)
    | .region _ ops draw => (regionQ P ext gl call round ops.toList draw st).map fun st => (.normal, st)
    | .seq a b => (codeQ P ext gl call round fn around n a st).bind fun (x, st) => match x with
      | .normal => codeQ P ext gl call round fn around n b st
      | x => some (x, st)
    | .cond c a b => (opnd gl st.tm c).bind fun v => match v with
      | .bool true => codeQ P ext gl call round fn around n a st
      | .bool false => codeQ P ext gl call round fn around n b st
      | _ => none
    | .block id c => (codeQ P ext gl call round fn around n c st).map fun (x, st) => match x with
      | .exit k => (cond (Nat.beq k id) .normal (.exit k), st)
      | x => (x, st)
    | .loop c => (codeQ P ext gl call round fn around n c st).bind fun (x, st) => match x with
      | .normal => codeQ P ext gl call round fn around n (.loop c) st
      | x => some (x, st)
    | .exit id => some (.exit id, st)
    | .ret => some (.ret, st)
    | .rangeFunc f ps asg body => rangeQ gl call fn around f ps asg body st
    | _ => none
theorem codeQ_eq (P : Program) (ext : Ext) (gl : Gl) (call : CallR) (round : RoundR) (fn : FuncId) (around : Option Nat) : ∀ n c st, codeQ P ext gl call round fn around n c st = codeB P ext gl call round fn around n c st
  | 0, c, st => rfl
  | n + 1, c, st => by
    have ih := codeQ_eq P ext gl call round fn around n
    cases c
    case rangeFunc f ps asg body =>
      obtain ⟨tm0, h0, ds0, sz0, rd0⟩ := st
      have hA : ∀ l ds h', afterQ l ds ⟨tm0, h0, ds0, sz0, rd0⟩ h' = (match AH.get h' l with
          | some (.loop s pend fn tm sz ps asg body d) => (match s with
            | .busy => none
            | _ =>
              (match pend with
              | none => some (.normal, ⟨tm0, h'.set l (.loop .exhausted pend fn tm sz ps asg body d), ds, sz0, rd0⟩)
              | some .ret => some (.ret, ⟨tm0, h'.set l (.loop .exhausted pend fn tm sz ps asg body d), ds, sz0, rd0⟩)
              | some (.exit id) => some (.exit id, ⟨tm0, h'.set l (.loop .exhausted pend fn tm sz ps asg body d), ds, sz0, rd0⟩)
              | _ => none))
          | _ => none) := fun _ _ _ => rfl
      simp only [codeQ, codeB, rangeQ, hA]
      rfl
    all_goals first
      | (simp only [codeQ, codeB, regionQ_eq, ih]; done)
      | (simp only [codeQ, codeB, regionQ_eq, ih]; rfl)
noncomputable abbrev KT := Code → St → Option (Ex × St)
def cSkip (ih : KT) (st : St) : Option (Ex × St) := some (.normal, st)
noncomputable def cRegion (P : Program) (ext : Ext) (gl : Gl) (call : CallR) (round : RoundR) (ops : Array Oper) (draw : Bool) (ih : KT) (st : St) : Option (Ex × St) :=
  @Option.rec St (fun _ => Option (Ex × St)) none (fun st => some (.normal, st)) (regionQ P ext gl call round ops.toList draw st)
noncomputable def cThen (k : St → Option (Ex × St)) (r : Option (Ex × St)) : Option (Ex × St) :=
  @Option.rec (Ex × St) (fun _ => Option (Ex × St)) none (fun p => @Prod.rec Ex St (fun _ => Option (Ex × St)) (fun x st => @Ex.rec (fun _ => Option (Ex × St)) (k st) (fun id => some (.exit id, st)) (some (.ret, st)) x) p) r
noncomputable def cSeq (a b : Code) (ih : KT) (st : St) : Option (Ex × St) := cThen (ih b) (ih a st)
noncomputable def cLoop (c : Code) (ih : KT) (st : St) : Option (Ex × St) := cThen (ih (.loop c)) (ih c st)
noncomputable def cCond (gl : Gl) (c : Operand) (a b : Code) (ih : KT) (st : St) : Option (Ex × St) :=
  @Option.rec Value (fun _ => Option (Ex × St)) none (fun v => match v with
    | .bool true => ih a st
    | .bool false => ih b st
    | _ => none) (opnd_r.1 gl st.tm c)
noncomputable def cBlock (id : Nat) (c : Code) (ih : KT) (st : St) : Option (Ex × St) :=
  @Option.rec (Ex × St) (fun _ => Option (Ex × St)) none (fun p => @Prod.rec Ex St (fun _ => Option (Ex × St)) (fun x st => @Ex.rec (fun _ => Option (Ex × St)) (some (.normal, st)) (fun k => some (cond (Nat.beq k id) .normal (.exit k), st)) (some (.ret, st)) x) p) (ih c st)
def cExit (id : Nat) (ih : KT) (st : St) : Option (Ex × St) := some (.exit id, st)
def cRet (ih : KT) (st : St) : Option (Ex × St) := some (.ret, st)
def cRange (gl : Gl) (call : CallR) (fn : FuncId) (around : Option Nat) (f : Operand) (ps : Array Tmp) (asg body : Code) (ih : KT) (st : St) : Option (Ex × St) := rangeQ gl call fn around f ps asg body st
def cNo (ih : KT) (st : St) : Option (Ex × St) := none
noncomputable def codeD (P : Program) (ext : Ext) (gl : Gl) (call : CallR) (round : RoundR) (fn : FuncId) (around : Option Nat) (c : Code) : KT → St → Option (Ex × St) :=
  match c with
  | .skip => cSkip
  | .region _ ops draw => cRegion P ext gl call round ops draw
  | .seq a b => cSeq a b
  | .cond c a b => cCond gl c a b
  | .block id c => cBlock id c
  | .loop c => cLoop c
  | .exit id => cExit id
  | .ret => cRet
  | .rangeFunc f ps asg body => cRange gl call fn around f ps asg body
  | _ => cNo
noncomputable def codeR (P : Program) (ext : Ext) (gl : Gl) (call : CallR) (round : RoundR) (fn : FuncId) (around : Option Nat) (n : Nat) : KT :=
  @Nat.rec (fun _ => KT) (fun _ _ => none) (fun _ ih c st => codeD P ext gl call round fn around c ih st) n
theorem codeR_eq (P : Program) (ext : Ext) (gl : Gl) (call : CallR) (round : RoundR) (fn : FuncId) (around : Option Nat) : ∀ n c st, codeR P ext gl call round fn around n c st = codeB P ext gl call round fn around n c st
  | 0, c, st => rfl
  | n + 1, c, st => by
    rw [← codeQ_eq]
    have ih : codeR P ext gl call round fn around n = codeQ P ext gl call round fn around n := by
      funext c st
      rw [codeR_eq P ext gl call round fn around n c st, codeQ_eq]
    show codeD P ext gl call round fn around c (codeR P ext gl call round fn around n) st = _
    rw [ih]
    cases c with
    | seq a b =>
      show cThen _ _ = _
      simp only [codeQ]
      cases codeQ P ext gl call round fn around n a st with
      | none => rfl
      | some p => obtain ⟨x, st⟩ := p; cases x <;> rfl
    | loop c =>
      show cThen _ _ = _
      simp only [codeQ]
      cases codeQ P ext gl call round fn around n c st with
      | none => rfl
      | some p => obtain ⟨x, st⟩ := p; cases x <;> rfl
    | block id c =>
      simp only [codeQ, codeD, cBlock]
      cases codeQ P ext gl call round fn around n c st with
      | none => rfl
      | some p => obtain ⟨x, st⟩ := p; cases x <;> rfl
    | cond c a b =>
      simp only [codeQ, codeD, cCond, opnd_r.2]
      cases opnd gl st.tm c with
      | none => rfl
      | some v =>
        cases v <;> first
          | rfl
          | (rename_i b; cases b <;> rfl)
    | region i ops draw =>
      simp only [codeQ, codeD, cRegion]
      cases regionQ P ext gl call round ops.toList draw st <;> rfl
    | _ => rfl
noncomputable def roundQ (P : Program) (ext : Ext) (gl : Gl) (call : CallR) (round : RoundR) (n : Nat) (l : Nat) (args : List Value) (h : AH) : Option (Value × AH) :=
  match h.get l with
  | some (.loop .ready pend fn tm size ps asg body d) =>
    cond (Nat.beq ps.length args.length && ps.all (fun t => Nat.blt t size))
    ((codeR P ext gl call round fn (some l) n asg ⟨(ps.zip args).foldl (fun tm (x : Tmp × Value) => tm.put x.1 x.2) tm, h, [], size, true⟩).bind fun (x, st) => (match x with
      | .normal => (match st.h.get l with
        | some (.loop .ready pend2 fn2 tm2 size2 ps2 asg2 body2 d2) =>
          (codeR P ext gl call round fn (some l) n body ⟨st.tm, st.h.set l (.loop .busy pend2 fn2 tm2 size2 ps2 asg2 body2 d2), st.ds, st.sz, st.rd⟩).bind fun (x, st) => (match x with
            | .normal => (endB l .ready none st.h).map fun h => (.bool true, h)
            | .ret => (endB l .done (some .ret) st.h).map fun h => (.bool false, h)
            | .exit id => (endB l .done (some (.exit id)) st.h).map fun h => (.bool false, h))
        | _ => none)
      | _ => none)) none
  | _ => none
theorem roundQ_eq (P : Program) (ext : Ext) (gl : Gl) (call : CallR) (round : RoundR) (n : Nat) (l : Nat) (args : List Value) (h : AH) : roundQ P ext gl call round n l args h = roundB P ext gl call round n l args h := by
  simp only [roundQ, roundB, codeR_eq]
  rfl
/-- A call. -/
noncomputable def callQ (P : Program) (ext : Ext) (dfr : Dfr) (hk : CallR) (gl : Gl) : Nat → CallR
  | 0 => fun _ _ _ => none
  | n + 1 => fun f args h => hookB hk (fun f args h =>
    (P.funcs[f]?).bind fun fn => (fn.body).bind fun c =>
    cond (Nat.ble args.length fn.ntmps)
    ((codeR P ext gl (callQ P ext dfr hk gl n) (goQ P ext dfr hk gl n) f none n c ⟨Tr.ofFrom args 0 .e, h, [], fn.ntmps, false⟩).bind fun (x, st) =>
      (match x with
      | .exit _ => none
      | _ => (leaveB dfr st.ds st.h).bind fun h => (resB P st.tm h fn.results.toList).map fun vs => (retB vs, h))) none) f args h
where goQ (P : Program) (ext : Ext) (dfr : Dfr) (hk : CallR) (gl : Gl) : Nat → RoundR
  | 0 => fun _ _ _ => none
  | n + 1 => fun l args h => roundQ P ext gl (callQ P ext dfr hk gl n) (goQ P ext dfr hk gl n) n l args h
theorem callQ_eqs (P : Program) (ext : Ext) (dfr : Dfr) (hk : CallR) (gl : Gl) : ∀ n, callQ P ext dfr hk gl n = callB P ext dfr hk gl n ∧ callQ.goQ P ext dfr hk gl n = callB.goB P ext dfr hk gl n
  | 0 => ⟨by simp only [callQ, callB], by simp only [callQ.goQ, callB.goB]⟩
  | n + 1 => by
    obtain ⟨h1, h2⟩ := callQ_eqs P ext dfr hk gl n
    constructor
    · simp only [callQ, callB, h1, h2, codeR_eq]
      rfl
    · simp only [callQ.goQ, callB.goB, h1, h2, roundQ_eq]
theorem callQ_eq (P : Program) (ext : Ext) (dfr : Dfr) (hk : CallR) (gl : Gl) (n : Nat) : callQ P ext dfr hk gl n = callB P ext dfr hk gl n := (callQ_eqs P ext dfr hk gl n).1
theorem runQ_calls {P : Program} {gl : Gl} {ext : Ext} {dfr : Dfr} {hk : CallR} (hkok : CallOk P gl hk) (hm : P.follows .mixedOrders = true) (he : ExtOk P ext) (hn : NG P) (hd : DfrOk P dfr) {m : Nat} {f : FuncId} {args : List Value} {args' : Array Value} {ρ : Rn} {h : AH} {w : World}
    (hrel : Rel P ρ h w) (hg : GlOk ρ gl) (ha : L2 ρ args args'.toList) (hro : ∀ b j, ρ b = some j → ∃ e n c, h.get b = some (.cells e n c true)) (e : (callQ P ext dfr hk gl m f args h).map isTrue = some true) :
    Calls P f args' w (fun e W' => e = .returned (.bool true) ∧ Go.RowKit.Below w.heap.size w W') := run_calls hkok hm he hn hd hrel hg ha hro (by rw [callQ_eq] at e; exact e)
end Go.Proofs.YtcmildkkigccaaaGreatDoor.Run
