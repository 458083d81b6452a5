/-
  The evaluator, quicker for the kernel: each operation by a function of its own, which is picked before anything is handed to it.
-/
import Derived.Test.YtkmfihpmjnfbfaaGreatFin
namespace Go.Proofs.YtkmfihpmjnfbfaaGreat.Run
open Go
set_option linter.unusedVariables false
set_option linter.unusedSimpArgs false
def qMv (x : Operand) (P : Program) (ext : Ext) (gl : Gl) (tm : Tr Value) (h : AH) : Option Nx :=
  let ev := opnd gl tm
  valB h (ev x)
def qPick (c a b : Operand) (P : Program) (ext : Ext) (gl : Gl) (tm : Tr Value) (h : AH) : Option Nx :=
  let ev := opnd gl tm
  (ev c).bind fun v => (match v with | .bool true => valB h (ev a) | .bool false => valB h (ev b) | _ => none)
def qAlloc (t : TypeId) (P : Program) (ext : Ext) (gl : Gl) (tm : Tr Value) (h : AH) : Option Nx :=
  let ev := opnd gl tm
  (zeroB P t).map fun z => .val (.pointer (some ⟨h.next, 0, none⟩)) (newCells h t (Value.cl z))
def qBox (t : TypeId) (x : Operand) (P : Program) (ext : Ext) (gl : Gl) (tm : Tr Value) (h : AH) : Option Nx :=
  let ev := opnd gl tm
  (ev x).map fun v => .val (.pointer (some ⟨h.next, 0, none⟩)) (newCells h t (Value.cl v))
def qBuild (t : TypeId) (ps : Array (Nat × Operand)) (P : Program) (ext : Ext) (gl : Gl) (tm : Tr Value) (h : AH) : Option Nx :=
  let ev := opnd gl tm
  (parts gl tm ps.toList).bind fun l => valB h (buildB P t l)
def qBuildSl (t : TypeId) (n : Nat) (ps : Array (Nat × Operand)) (P : Program) (ext : Ext) (gl : Gl) (tm : Tr Value) (h : AH) : Option Nx :=
  let ev := opnd gl tm
  (parts gl tm ps.toList).bind fun l =>
    (match P.underlying t with
    | some (.slice elem) => (sizeB P elem).bind fun s => (zeroB P elem).bind fun z =>
      cond (Nat.ble (n * s) 16777216 && Nat.beq (Value.cl z).length s && Nat.blt n UNK) ((Instr.fill (fun i => some (i * s, s)) (zeros (Value.cl z) n).toArray l).map fun cs => .val (.slice (some ⟨h.next, 0, none⟩) n n) (newCells h elem cs.toList)) none
    | _ => none)
def qLoad (t : TypeId) (a : Operand) (P : Program) (ext : Ext) (gl : Gl) (tm : Tr Value) (h : AH) : Option Nx :=
  let ev := opnd gl tm
  (ev a).bind fun a => valB h (loadB P h t a)
def qStore (t : TypeId) (a x : Operand) (P : Program) (ext : Ext) (gl : Gl) (tm : Tr Value) (h : AH) : Option Nx :=
  let ev := opnd gl tm
  (ev a).bind fun a => (ev x).bind fun v => doB (storeB P h t a v)
def qNil (x : Operand) (P : Program) (ext : Ext) (gl : Gl) (tm : Tr Value) (h : AH) : Option Nx :=
  let ev := opnd gl tm
  (ev x).bind fun v => (match v with
    | .pointer (some _) | .func (.func _) _ _ | .iface _ _ => some (.val v h)
    | _ => none)
def qBin (op : BinOp) (t : TypeId) (x y : Operand) (P : Program) (ext : Ext) (gl : Gl) (tm : Tr Value) (h : AH) : Option Nx :=
  let ev := opnd gl tm
  (ev x).bind fun a => (ev y).bind fun b => valB h (binB P op t x y a b)
def qUn (op : UnOp) (x : Operand) (P : Program) (ext : Ext) (gl : Gl) (tm : Tr Value) (h : AH) : Option Nx :=
  let ev := opnd gl tm
  (ev x).bind fun a => cond (flat a) (valB h (pureV P (Op.unary op a))) none
def qConv (s d : TypeId) (x : Operand) (P : Program) (ext : Ext) (gl : Gl) (tm : Tr Value) (h : AH) : Option Nx :=
  let ev := opnd gl tm
  (ev x).bind fun a => (match P.underlying s, P.underlying d, a with
    | some .string, some (.slice e), .string bs => (match P.underlying e with
      | some (.int .u8) => cond (Nat.beq (P.cellsOf e) 1) (some (.val (.slice (some ⟨h.next, 0, none⟩) bs.size UNK) (newCells h e (bs.data.toList.map fun b => .int .u8 b.toNat)))) none
      | _ => none)
    | _, _, _ => valB h (convB P h s d a))
def qIface (t : TypeId) (x : Operand) (P : Program) (ext : Ext) (gl : Gl) (tm : Tr Value) (h : AH) : Option Nx :=
  let ev := opnd gl tm
  (ev x).bind fun a => (match P.underlying t with | some (.interface _) => none | some _ => some (.val (.iface t a) h) | none => none)
def qFn (fn : Fn) (first captured : Array Operand) (P : Program) (ext : Ext) (gl : Gl) (tm : Tr Value) (h : AH) : Option Nx :=
  let ev := opnd gl tm
  (opnds gl tm first.toList).bind fun a => (opnds gl tm captured.toList).bind fun b => (match fn with
    | .func f => some (.val (.func (.func f) a.toArray b.toArray) h)
    | _ => none)
def qMap (t : TypeId) (P : Program) (ext : Ext) (gl : Gl) (tm : Tr Value) (h : AH) : Option Nx :=
  let ev := opnd gl tm
  some (.val (.map (some h.next)) (h.new (.map [] 0)))
def qMkSl (t : TypeId) (l c : Operand) (P : Program) (ext : Ext) (gl : Gl) (tm : Tr Value) (h : AH) : Option Nx :=
  let ev := opnd gl tm
  (ev l).bind fun l => (ev c).bind fun c => effB (makeSliceB P h t l c)
def qSl (t : TypeId) (x : Operand) (lo hi mx : Option Operand) (P : Program) (ext : Ext) (gl : Gl) (tm : Tr Value) (h : AH) : Option Nx :=
  let ev := opnd gl tm
  (ev x).bind fun x => ((match lo with | none => some none | some v => (ev v).map some) : Option (Option Value)).bind fun lo =>
      ((match hi with | none => some none | some v => (ev v).map some) : Option (Option Value)).bind fun hi => (match mx with | none => valB h (sliceB P t x lo hi) | some _ => none)
def qFA (s : TypeId) (x : Operand) (f : Nat) (P : Program) (ext : Ext) (gl : Gl) (tm : Tr Value) (h : AH) : Option Nx :=
  let ev := opnd gl tm
  (ev x).bind fun x => valB h (fieldAddrB P s x f)
def qFd (t : TypeId) (x : Operand) (f : Nat) (P : Program) (ext : Ext) (gl : Gl) (tm : Tr Value) (h : AH) : Option Nx :=
  let ev := opnd gl tm
  (ev x).bind fun x => valB h (fieldB P t x f)
def qIA (t : TypeId) (x i : Operand) (P : Program) (ext : Ext) (gl : Gl) (tm : Tr Value) (h : AH) : Option Nx :=
  let ev := opnd gl tm
  (ev x).bind fun x => (ev i).bind fun i => valB h (indexAddrB P t x i)
def qIx (t : TypeId) (x i : Operand) (P : Program) (ext : Ext) (gl : Gl) (tm : Tr Value) (h : AH) : Option Nx :=
  let ev := opnd gl tm
  (ev x).bind fun x => (ev i).bind fun i => valB h (indexB P t x i)
def qLook (t : TypeId) (m k : Operand) (ok : Bool) (P : Program) (ext : Ext) (gl : Gl) (tm : Tr Value) (h : AH) : Option Nx :=
  let ev := opnd gl tm
  (ev m).bind fun m => (ev k).bind fun k => valB h (lookupB P h t m k ok)
def qUpd (t : TypeId) (m k v : Operand) (P : Program) (ext : Ext) (gl : Gl) (tm : Tr Value) (h : AH) : Option Nx :=
  let ev := opnd gl tm
  (ev m).bind fun m => (ev k).bind fun k => (ev v).bind fun v => doB (updB P h t m k v)
def qRange (t : TypeId) (x : Operand) (P : Program) (ext : Ext) (gl : Gl) (tm : Tr Value) (h : AH) : Option Nx :=
  let ev := opnd gl tm
  (ev x).bind fun x => effB (rangeB P h t x)
def qNext (it : Operand) (P : Program) (ext : Ext) (gl : Gl) (tm : Tr Value) (h : AH) : Option Nx :=
  let ev := opnd gl tm
  (ev it).bind fun it => effB (nextB h it)
def qEntry (it : Operand) (P : Program) (ext : Ext) (gl : Gl) (tm : Tr Value) (h : AH) : Option Nx :=
  let ev := opnd gl tm
  (ev it).bind fun it => valB h (entryB h it)
def qAssert (x : Operand) (xt t : TypeId) (ok : Bool) (P : Program) (ext : Ext) (gl : Gl) (tm : Tr Value) (h : AH) : Option Nx :=
  let ev := opnd gl tm
  (ev x).bind fun x => valB h (assertB P x xt t ok)
def qExt (t : Operand) (i : Nat) (P : Program) (ext : Ext) (gl : Gl) (tm : Tr Value) (h : AH) : Option Nx :=
  let ev := opnd gl tm
  (ev t).bind fun t => (match t with | .tuple vs => valB h (vs[i]?) | _ => none)
def qCall (c : Call) (P : Program) (ext : Ext) (gl : Gl) (tm : Tr Value) (h : AH) : Option Nx :=
  let ev := opnd gl tm
  (opnds gl tm c.args.toList).bind fun args => (match c.callee with
    | .builtin b => builtinB P h b c.argTypes args
    | .value f => (ev f).bind fun f => (fnB f args).bind fun nx => (match nx with
      | .call f args => (match ext f with
        | some e => effB (e h args)
        | none => some nx)
      | _ => some nx)
    | .invoke r name => (ev r).bind fun r => (match r with
      | .iface t v => (P.info? t).bind fun i => (i.methods.find? (·.name == name)).bind fun m => (match m.path.toList, m.func, P.underlying t with
        | [], some (f, true), some (.pointer _) => some (.call f (v :: args))
        | _, _, _ => none)
      | _ => none))
def qDefer (c : Call) (P : Program) (ext : Ext) (gl : Gl) (tm : Tr Value) (h : AH) : Option Nx :=
  let ev := opnd gl tm
  (opnds gl tm c.args.toList).bind fun args => (match c.callee with
    | .value f => (ev f).bind fun f => (match fnB f args with | some (.call f args) => some (.defer f args) | _ => none)
    | _ => none)
def qNo (P : Program) (ext : Ext) (gl : Gl) (tm : Tr Value) (h : AH) : Option Nx := none
def opD (o : Op) : Program → Ext → Gl → Tr Value → AH → Option Nx :=
  match o with
  | .move x => qMv x
  | .assign x => qMv x
  | .pick c a b => qPick c a b
  | .alloc t => qAlloc t
  | .box t x => qBox t x
  | .build t ps => qBuild t ps
  | .buildSlice t n ps => qBuildSl t n ps
  | .load t a => qLoad t a
  | .store t a x => qStore t a x
  | .nilCheck x => qNil x
  | .binOp op t x y _ => qBin op t x y
  | .unOp op _ x => qUn op x
  | .convert s d x => qConv s d x
  | .makeInterface t x => qIface t x
  | .makeFunc fn first captured => qFn fn first captured
  | .makeMap t none => qMap t
  | .makeSlice t l c => qMkSl t l c
  | .slice t x lo hi mx => qSl t x lo hi mx
  | .fieldAddr s x f => qFA s x f
  | .field t x f => qFd t x f
  | .indexAddr t x i => qIA t x i
  | .index t x i => qIx t x i
  | .lookup t m k ok => qLook t m k ok
  | .mapUpdate t m k v => qUpd t m k v
  | .insert t m k v => qUpd t m k v
  | .range t x => qRange t x
  | .next it false => qNext it
  | .entry it => qEntry it
  | .typeAssert x xt t ok => qAssert x xt t ok
  | .extract t i => qExt t i
  | .call c => qCall c
  | .defer c => qDefer c
  | _ => qNo
theorem opD_eq (P : Program) (ext : Ext) (gl : Gl) (tm : Tr Value) (h : AH) (o : Oper) : opD o.op P ext gl tm h = opB P ext gl tm h o := by
  obtain ⟨dst, op, type, pos, after, guard⟩ := o
  cases op
  case makeMap t r => cases r <;> rfl
  case next it b => cases b <;> rfl
  all_goals rfl
def nxQ (call : CallR) (round : RoundR) (dst : Option Tmp) (tm : Tr Value) (h0 : AH) (ds : List Df) (sz : Nat) (rd : Bool) (nx : Nx) : Option St :=
  match nx with
  | .val v h => (putB sz tm dst v).map fun tm => ⟨tm, h, ds, sz, rd⟩
  | .call f args => (call f args h0).bind fun (v, h) => (putB sz tm dst v).map fun tm => ⟨tm, h, ds, sz, rd⟩
  | .round l args => (round l args h0).bind fun (v, h) => (putB sz tm dst v).map fun tm => ⟨tm, h, ds, sz, rd⟩
  | .defer f args => cond rd none ((putB sz tm dst undef).map fun tm => ⟨tm, h0, .call f args :: ds, sz, rd⟩)
def stepQ (P : Program) (ext : Ext) (gl : Gl) (call : CallR) (round : RoundR) (ops : List Oper) (o : Oper) (st : St) : Option St :=
  match st with
  | ⟨tm, h, ds, sz, rd⟩ => cond (goesB ops tm o) ((opD o.op P ext gl tm h).bind fun nx => nxQ call round o.dst tm h ds sz rd nx)
    ((putB sz tm o.dst undef).map fun tm => ⟨tm, h, ds, sz, rd⟩)
theorem stepQ_eq (P : Program) (ext : Ext) (gl : Gl) (call : CallR) (round : RoundR) (ops : List Oper) (o : Oper) (st : St) : stepQ P ext gl call round ops o st = stepB P ext gl call round ops o st := by
  obtain ⟨tm, h, ds, sz, rd⟩ := st
  unfold stepQ stepB
  simp only [opD_eq]
  congr 2
def opsQ (P : Program) (ext : Ext) (gl : Gl) (call : CallR) (round : RoundR) (ops : List Oper) : List Oper → St → Option St
  | [], st => some st
  | o :: l, st => (stepQ P ext gl call round ops o st).bind fun st => opsQ P ext gl call round ops l st
theorem opsQ_eq (P : Program) (ext : Ext) (gl : Gl) (call : CallR) (round : RoundR) (ops : List Oper) : ∀ l st, opsQ P ext gl call round ops l st = opsB P ext gl call round ops l st
  | [], st => rfl
  | o :: l, st => by
    simp only [opsQ, opsB, stepQ_eq]
    congr 1
    funext st
    exact opsQ_eq P ext gl call round ops l st
def runQ (P : Program) (ext : Ext) (gl : Gl) (call : CallR) (round : RoundR) (ops : List Oper) : List Slot → St → List AH → Option (St × List AH)
  | [], st, hs => some (st, hs ++ [st.h])
  | s :: l, st, hs => (stepQ P ext gl call round ops s.o st).bind fun st' => runQ P ext gl call round ops l st' (cond s.cls.isE (hs ++ [st.h]) hs)
theorem runQ_eq (P : Program) (ext : Ext) (gl : Gl) (call : CallR) (round : RoundR) (ops : List Oper) : ∀ l st hs, runQ P ext gl call round ops l st hs = runB P ext gl call round ops l st hs
  | [], st, hs => rfl
  | s :: l, st, hs => by
    simp only [runQ, runB, stepQ_eq]
    congr 1
    funext st'
    exact runQ_eq P ext gl call round ops l st' _
def readAtQ (P : Program) (ext : Ext) (gl : Gl) (tm : Tr Value) (s : Slot) (h : AH) : Bool :=
  match opD s.o.op P ext gl tm h with
  | some (.val v _) => (match s.o.dst with
    | none => true
    | some d => (match tm.get d with | some v' => sameW v v' | none => false))
  | _ => false
theorem readAtQ_eq (P : Program) (ext : Ext) (gl : Gl) (tm : Tr Value) (s : Slot) (h : AH) : readAtQ P ext gl tm s h = readAt P ext gl tm s h := by
  unfold readAtQ readAt
  rw [opD_eq]
  rfl
def readsQ (P : Program) (ext : Ext) (gl : Gl) (tm : Tr Value) (s : Slot) : List Slot → List Slot → List AH → Bool
  | done, [], h :: _ => cond (mayB s done []) (readAtQ P ext gl tm s h) true
  | done, e :: todo, h :: hs => cond (mayB s done (e :: todo)) (readAtQ P ext gl tm s h) true && readsQ P ext gl tm s (done ++ [e]) todo hs
  | _, _, [] => false
theorem readsQ_eq (P : Program) (ext : Ext) (gl : Gl) (tm : Tr Value) (s : Slot) : ∀ todo done hs, readsQ P ext gl tm s done todo hs = readsB P ext gl tm s done todo hs
  | [], done, [] => by simp only [readsQ, readsB]
  | [], done, h :: hs => by simp only [readsQ, readsB, readAtQ_eq]
  | e :: todo, done, [] => by simp only [readsQ, readsB]
  | e :: todo, done, h :: hs => by simp only [readsQ, readsB, readAtQ_eq, readsQ_eq P ext gl tm s todo]
def drawQ (P : Program) (ext : Ext) (gl : Gl) (call : CallR) (round : RoundR) (ops : List Oper) (st : St) : Option St :=
  (statB P ops).bind fun (seq, es) => (runQ P ext gl call round ops seq st []).bind fun (st', hs) =>
  cond (seq.all fun s => cond (s.cls.isR && goesB ops st'.tm s.o) (readsQ P ext gl st'.tm s [] es hs) true) (some st') none
theorem drawQ_eq (P : Program) (ext : Ext) (gl : Gl) (call : CallR) (round : RoundR) (ops : List Oper) (st : St) : drawQ P ext gl call round ops st = drawB P ext gl call round ops st := by
  simp only [drawQ, drawB, runQ_eq, readsQ_eq]
def regionQ (P : Program) (ext : Ext) (gl : Gl) (call : CallR) (round : RoundR) (ops : List Oper) (draw : Bool) (st : St) : Option St :=
  cond draw (drawQ P ext gl call round ops st) (opsQ P ext gl call round ops ops st)
theorem regionQ_eq (P : Program) (ext : Ext) (gl : Gl) (call : CallR) (round : RoundR) (ops : List Oper) (draw : Bool) (st : St) : regionQ P ext gl call round ops draw st = regionB P ext gl call round ops draw st := by
  simp only [regionQ, regionB, drawQ_eq, opsQ_eq]
def afterQ (l : Nat) (ds : List Df) (st : St) (h : AH) : Option (Ex × St) :=
  match st with
  | ⟨tm0, _, _, sz0, rd0⟩ => (match h.get l with
    | some (.loop s pend fn tm sz ps asg body d) => (match s with
      | .busy => none
      | _ =>
        (match pend with
        | none => some (.normal, ⟨tm0, h.set l (.loop .exhausted pend fn tm sz ps asg body d), ds, sz0, rd0⟩)
        | some .ret => some (.ret, ⟨tm0, h.set l (.loop .exhausted pend fn tm sz ps asg body d), ds, sz0, rd0⟩)
        | some (.exit id) => some (.exit id, ⟨tm0, h.set l (.loop .exhausted pend fn tm sz ps asg body d), ds, sz0, rd0⟩)
        | _ => none))
    | _ => none)
def rangeQ (gl : Gl) (call : CallR) (fn : FuncId) (around : Option Nat) (f : Operand) (ps : Array Tmp) (asg body : Code) (st : St) : Option (Ex × St) :=
  (opnd gl st.tm f).bind fun f =>
  ((match around with
    | some l => (match st.h.get l with | some (.loop _ _ _ _ _ _ _ _ d) => some (d, st.h, st.ds) | _ => none)
    | none => some (st.h.next, st.h.new (.dfs true), .mark st.h.next :: st.ds)) : Option (Nat × AH × List Df)).bind fun (d, h, ds) =>
  (fnB f [.func (.yield h.next) #[] #[]]).bind fun nx => (match nx with
    | .call f args => (call f args (h.new (.loop .ready none fn st.tm st.sz ps.toList asg body d))).bind fun (_, h') => afterQ h.next ds st h'
    | _ => none)
/-- Code, by its fuel. -/
def codeQ (P : Program) (ext : Ext) (gl : Gl) (call : CallR) (round : RoundR) (fn : FuncId) (around : Option Nat) : Nat → Code → St → Option (Ex × St)
  | 0, _, _ => none
  | n + 1, c, st => match c with
    | .skip => some (.normal, st)
    | .region _ ops draw => (regionQ P ext gl call round ops.toList draw st).map fun st => (.normal, st)
    | .seq a b => (codeQ P ext gl call round fn around n a st).bind fun (x, st) => match x with
      | .normal => codeQ P ext gl call round fn around n b st
      | x => some (x, st)
    | .cond c a b => (opnd gl st.tm c).bind fun v => match v with
      | .bool true => codeQ P ext gl call round fn around n a st
      | .bool false => codeQ P ext gl call round fn around n b st
      | _ => none
    | .block id c => (codeQ P ext gl call round fn around n c st).map fun (x, st) => match x with
      | .exit k => (cond (Nat.beq k id) .normal (.exit k), st)
      | x => (x, st)
    | .loop c => (codeQ P ext gl call round fn around n c st).bind fun (x, st) => match x with
      | .normal => codeQ P ext gl call round fn around n (.loop c) st
      | x => some (x, st)
    | .exit id => some (.exit id, st)
    | .ret => some (.ret, st)
    | .rangeFunc f ps asg body => rangeQ gl call fn around f ps asg body st
    | _ => none
theorem codeQ_eq (P : Program) (ext : Ext) (gl : Gl) (call : CallR) (round : RoundR) (fn : FuncId) (around : Option Nat) : ∀ n c st, codeQ P ext gl call round fn around n c st = codeB P ext gl call round fn around n c st
  | 0, c, st => rfl
  | n + 1, c, st => by
    have ih := codeQ_eq P ext gl call round fn around n
    cases c
    case rangeFunc f ps asg body =>
      obtain ⟨tm0, h0, ds0, sz0, rd0⟩ := st
      have hA : ∀ l ds h', afterQ l ds ⟨tm0, h0, ds0, sz0, rd0⟩ h' = (match AH.get h' l with
          | some (.loop s pend fn tm sz ps asg body d) => (match s with
            | .busy => none
            | _ =>
              (match pend with
              | none => some (.normal, ⟨tm0, h'.set l (.loop .exhausted pend fn tm sz ps asg body d), ds, sz0, rd0⟩)
              | some .ret => some (.ret, ⟨tm0, h'.set l (.loop .exhausted pend fn tm sz ps asg body d), ds, sz0, rd0⟩)
              | some (.exit id) => some (.exit id, ⟨tm0, h'.set l (.loop .exhausted pend fn tm sz ps asg body d), ds, sz0, rd0⟩)
              | _ => none))
          | _ => none) := fun _ _ _ => rfl
      simp only [codeQ, codeB, rangeQ, hA]
      rfl
    all_goals first
      | (simp only [codeQ, codeB, regionQ_eq, ih]; done)
      | (simp only [codeQ, codeB, regionQ_eq, ih]; rfl)
def roundQ (P : Program) (ext : Ext) (gl : Gl) (call : CallR) (round : RoundR) (n : Nat) (l : Nat) (args : List Value) (h : AH) : Option (Value × AH) :=
  match h.get l with
  | some (.loop .ready pend fn tm size ps asg body d) =>
    cond (Nat.beq ps.length args.length && ps.all (fun t => Nat.blt t size))
    ((codeQ P ext gl call round fn (some l) n asg ⟨(ps.zip args).foldl (fun tm (x : Tmp × Value) => tm.put x.1 x.2) tm, h, [], size, true⟩).bind fun (x, st) => (match x with
      | .normal => (match st.h.get l with
        | some (.loop .ready pend2 fn2 tm2 size2 ps2 asg2 body2 d2) =>
          (codeQ P ext gl call round fn (some l) n body ⟨st.tm, st.h.set l (.loop .busy pend2 fn2 tm2 size2 ps2 asg2 body2 d2), st.ds, st.sz, st.rd⟩).bind fun (x, st) => (match x with
            | .normal => (endB l .ready none st.h).map fun h => (.bool true, h)
            | .ret => (endB l .done (some .ret) st.h).map fun h => (.bool false, h)
            | .exit id => (endB l .done (some (.exit id)) st.h).map fun h => (.bool false, h))
        | _ => none)
      | _ => none)) none
  | _ => none
theorem roundQ_eq (P : Program) (ext : Ext) (gl : Gl) (call : CallR) (round : RoundR) (n : Nat) (l : Nat) (args : List Value) (h : AH) : roundQ P ext gl call round n l args h = roundB P ext gl call round n l args h := by
  simp only [roundQ, roundB, codeQ_eq]
  rfl
/-- A call. -/
def callQ (P : Program) (ext : Ext) (dfr : Dfr) (hk : CallR) (gl : Gl) : Nat → CallR
  | 0 => fun _ _ _ => none
  | n + 1 => fun f args h => hookB hk (fun f args h =>
    (P.funcs[f]?).bind fun fn => (fn.body).bind fun c =>
    cond (Nat.ble args.length fn.ntmps)
    ((codeQ P ext gl (callQ P ext dfr hk gl n) (goQ P ext dfr hk gl n) f none n c ⟨Tr.ofFrom args 0 .e, h, [], fn.ntmps, false⟩).bind fun (x, st) =>
      (match x with
      | .exit _ => none
      | _ => (leaveB dfr st.ds st.h).bind fun h => (resB P st.tm h fn.results.toList).map fun vs => (retB vs, h))) none) f args h
where goQ (P : Program) (ext : Ext) (dfr : Dfr) (hk : CallR) (gl : Gl) : Nat → RoundR
  | 0 => fun _ _ _ => none
  | n + 1 => fun l args h => roundQ P ext gl (callQ P ext dfr hk gl n) (goQ P ext dfr hk gl n) n l args h
theorem callQ_eqs (P : Program) (ext : Ext) (dfr : Dfr) (hk : CallR) (gl : Gl) : ∀ n, callQ P ext dfr hk gl n = callB P ext dfr hk gl n ∧ callQ.goQ P ext dfr hk gl n = callB.goB P ext dfr hk gl n
  | 0 => ⟨by simp only [callQ, callB], by simp only [callQ.goQ, callB.goB]⟩
  | n + 1 => by
    obtain ⟨h1, h2⟩ := callQ_eqs P ext dfr hk gl n
    constructor
    · simp only [callQ, callB, h1, h2, codeQ_eq]
      rfl
    · simp only [callQ.goQ, callB.goB, h1, h2, roundQ_eq]
theorem callQ_eq (P : Program) (ext : Ext) (dfr : Dfr) (hk : CallR) (gl : Gl) (n : Nat) : callQ P ext dfr hk gl n = callB P ext dfr hk gl n := (callQ_eqs P ext dfr hk gl n).1
theorem runQ_calls {P : Program} {gl : Gl} {ext : Ext} {dfr : Dfr} {hk : CallR} (hkok : CallOk P gl hk) (hm : P.follows .mixedOrders = true) (he : ExtOk P ext) (hn : NG P) (hd : DfrOk P dfr) {m : Nat} {f : FuncId} {args : List Value} {args' : Array Value} {ρ : Rn} {h : AH} {w : World}
    (hrel : Rel P ρ h w) (hg : GlOk ρ gl) (ha : L2 ρ args args'.toList) (hro : ∀ b j, ρ b = some j → ∃ e n c, h.get b = some (.cells e n c true)) (e : (callQ P ext dfr hk gl m f args h).map isTrue = some true) :
    Calls P f args' w (fun e W' => e = .returned (.bool true) ∧ Go.RowKit.Below w.heap.size w W') := run_calls hkok hm he hn hd hrel hg ha hro (by rw [callQ_eq] at e; exact e)
end Go.Proofs.YtkmfihpmjnfbfaaGreat.Run
