/-
  The evaluator, quicker for the kernel: each operation by a function of its own, which is picked before anything is handed to it.
-/
import Derived.Test.YtcmildkkigccaaaGreatDoorFin
namespace Go.Proofs.YtcmildkkigccaaaGreatDoor.Run
open Go
set_option linter.unusedVariables false
set_option linter.unusedSimpArgs false
def qMv (x : Operand) (P : Program) (ext : Ext) (gl : Gl) (tm : Tr Value) (h : AH) : Option Nx :=
  let ev := opnd gl tm
  valB h (ev x)
def qPick (c a b : Operand) (P : Program) (ext : Ext) (gl : Gl) (tm : Tr Value) (h : AH) : Option Nx :=
  let ev := opnd gl tm
  (ev c).bind fun v => (match v with | .bool true => valB h (ev a) | .bool false => valB h (ev b) | _ => none)
def qAlloc (t : TypeId) (P : Program) (ext : Ext) (gl : Gl) (tm : Tr Value) (h : AH) : Option Nx :=
  let ev := opnd gl tm
  (zeroB P t).map fun z => .val (.pointer (some ⟨h.next, 0, none⟩)) (newCells h t (Value.cl z))
def qBox (t : TypeId) (x : Operand) (P : Program) (ext : Ext) (gl : Gl) (tm : Tr Value) (h : AH) : Option Nx :=
  let ev := opnd gl tm
  (ev x).map fun v => .val (.pointer (some ⟨h.next, 0, none⟩)) (newCells h t (Value.cl v))
def qBuild (t : TypeId) (ps : Array (Nat × Operand)) (P : Program) (ext : Ext) (gl : Gl) (tm : Tr Value) (h : AH) : Option Nx :=
  let ev := opnd gl tm
  (parts gl tm ps.toList).bind fun l => valB h (buildB P t l)
def qBuildSl (t : TypeId) (n : Nat) (ps : Array (Nat × Operand)) (P : Program) (ext : Ext) (gl : Gl) (tm : Tr Value) (h : AH) : Option Nx :=
  let ev := opnd gl tm
  (parts gl tm ps.toList).bind fun l =>
    (match P.underlying t with
    | some (.slice elem) => (sizeB P elem).bind fun s => (zeroB P elem).bind fun z =>
      cond (Nat.ble (n * s) 16777216 && Nat.beq (Value.cl z).length s && Nat.blt n UNK) ((Instr.fill (fun i => some (i * s, s)) (zeros (Value.cl z) n).toArray l).map fun cs => .val (.slice (some ⟨h.next, 0, none⟩) n n) (newCells h elem cs.toList)) none
    | _ => none)
def qLoad (t : TypeId) (a : Operand) (P : Program) (ext : Ext) (gl : Gl) (tm : Tr Value) (h : AH) : Option Nx :=
  let ev := opnd gl tm
  (ev a).bind fun a => valB h (loadB P h t a)
def qStore (t : TypeId) (a x : Operand) (P : Program) (ext : Ext) (gl : Gl) (tm : Tr Value) (h : AH) : Option Nx :=
  let ev := opnd gl tm
  (ev a).bind fun a => (ev x).bind fun v => doB (storeB P h t a v)
def qNil (x : Operand) (P : Program) (ext : Ext) (gl : Gl) (tm : Tr Value) (h : AH) : Option Nx :=
  let ev := opnd gl tm
  (ev x).bind fun v => (match v with
    | .pointer (some _) | .func (.func _) _ _ | .iface _ _ => some (.val v h)
    | _ => none)
def qBin (op : BinOp) (t : TypeId) (x y : Operand) (P : Program) (ext : Ext) (gl : Gl) (tm : Tr Value) (h : AH) : Option Nx :=
  let ev := opnd gl tm
  (ev x).bind fun a => (ev y).bind fun b => valB h (binB P op t x y a b)
def qUn (op : UnOp) (x : Operand) (P : Program) (ext : Ext) (gl : Gl) (tm : Tr Value) (h : AH) : Option Nx :=
  let ev := opnd gl tm
  (ev x).bind fun a => cond (flat a) (valB h (pureV P (Op.unary op a))) none
def qConv (s d : TypeId) (x : Operand) (P : Program) (ext : Ext) (gl : Gl) (tm : Tr Value) (h : AH) : Option Nx :=
  let ev := opnd gl tm
  (ev x).bind fun a => (match P.underlying s, P.underlying d, a with
    | some .string, some (.slice e), .string bs => (match P.underlying e with
      | some (.int .u8) => cond (Nat.beq (P.cellsOf e) 1) (some (.val (.slice (some ⟨h.next, 0, none⟩) bs.size UNK) (newCells h e (bs.data.toList.map fun b => .int .u8 b.toNat)))) none
      | _ => none)
    | _, _, _ => valB h (convB P h s d a))
def qIface (t : TypeId) (x : Operand) (P : Program) (ext : Ext) (gl : Gl) (tm : Tr Value) (h : AH) : Option Nx :=
  let ev := opnd gl tm
  (ev x).bind fun a => (match P.underlying t with | some (.interface _) => none | some _ => some (.val (.iface t a) h) | none => none)
def qFn (fn : Fn) (first captured : Array Operand) (P : Program) (ext : Ext) (gl : Gl) (tm : Tr Value) (h : AH) : Option Nx :=
  let ev := opnd gl tm
  (opnds gl tm first.toList).bind fun a => (opnds gl tm captured.toList).bind fun b => (match fn with
    | .func f => some (.val (.func (.func f) a.toArray b.toArray) h)
    | _ => none)
def qMap (t : TypeId) (P : Program) (ext : Ext) (gl : Gl) (tm : Tr Value) (h : AH) : Option Nx :=
  let ev := opnd gl tm
  some (.val (.map (some h.next)) (h.new (.map [] 0)))
def qMkSl (t : TypeId) (l c : Operand) (P : Program) (ext : Ext) (gl : Gl) (tm : Tr Value) (h : AH) : Option Nx :=
  let ev := opnd gl tm
  (ev l).bind fun l => (ev c).bind fun c => effB (makeSliceB P h t l c)
def qSl (t : TypeId) (x : Operand) (lo hi mx : Option Operand) (P : Program) (ext : Ext) (gl : Gl) (tm : Tr Value) (h : AH) : Option Nx :=
  let ev := opnd gl tm
  (ev x).bind fun x => ((match lo with | none => some none | some v => (ev v).map some) : Option (Option Value)).bind fun lo =>
      ((match hi with | none => some none | some v => (ev v).map some) : Option (Option Value)).bind fun hi => (match mx with | none => valB h (sliceB P t x lo hi) | some _ => none)
def qFA (s : TypeId) (x : Operand) (f : Nat) (P : Program) (ext : Ext) (gl : Gl) (tm : Tr Value) (h : AH) : Option Nx :=
  let ev := opnd gl tm
  (ev x).bind fun x => valB h (fieldAddrB P s x f)
def qFd (t : TypeId) (x : Operand) (f : Nat) (P : Program) (ext : Ext) (gl : Gl) (tm : Tr Value) (h : AH) : Option Nx :=
  let ev := opnd gl tm
  (ev x).bind fun x => valB h (fieldB P t x f)
def qIA (t : TypeId) (x i : Operand) (P : Program) (ext : Ext) (gl : Gl) (tm : Tr Value) (h : AH) : Option Nx :=
  let ev := opnd gl tm
  (ev x).bind fun x => (ev i).bind fun i => valB h (indexAddrB P t x i)
def qIx (t : TypeId) (x i : Operand) (P : Program) (ext : Ext) (gl : Gl) (tm : Tr Value) (h : AH) : Option Nx :=
  let ev := opnd gl tm
  (ev x).bind fun x => (ev i).bind fun i => valB h (indexB P t x i)
def qLook (t : TypeId) (m k : Operand) (ok : Bool) (P : Program) (ext : Ext) (gl : Gl) (tm : Tr Value) (h : AH) : Option Nx :=
  let ev := opnd gl tm
  (ev m).bind fun m => (ev k).bind fun k => valB h (lookupB P h t m k ok)
def qUpd (t : TypeId) (m k v : Operand) (P : Program) (ext : Ext) (gl : Gl) (tm : Tr Value) (h : AH) : Option Nx :=
  let ev := opnd gl tm
  (ev m).bind fun m => (ev k).bind fun k => (ev v).bind fun v => doB (updB P h t m k v)
def qRange (t : TypeId) (x : Operand) (P : Program) (ext : Ext) (gl : Gl) (tm : Tr Value) (h : AH) : Option Nx :=
  let ev := opnd gl tm
  (ev x).bind fun x => effB (rangeB P h t x)
def qNext (it : Operand) (P : Program) (ext : Ext) (gl : Gl) (tm : Tr Value) (h : AH) : Option Nx :=
  let ev := opnd gl tm
  (ev it).bind fun it => effB (nextB h it)
def qEntry (it : Operand) (P : Program) (ext : Ext) (gl : Gl) (tm : Tr Value) (h : AH) : Option Nx :=
  let ev := opnd gl tm
  (ev it).bind fun it => valB h (entryB h it)
def qAssert (x : Operand) (xt t : TypeId) (ok : Bool) (P : Program) (ext : Ext) (gl : Gl) (tm : Tr Value) (h : AH) : Option Nx :=
  let ev := opnd gl tm
  (ev x).bind fun x => valB h (assertB P x xt t ok)
def qExt (t : Operand) (i : Nat) (P : Program) (ext : Ext) (gl : Gl) (tm : Tr Value) (h : AH) : Option Nx :=
  let ev := opnd gl tm
  (ev t).bind fun t => (match t with | .tuple vs => valB h (vs[i]?) | _ => none)
def qCall (c : Call) (P : Program) (ext : Ext) (gl : Gl) (tm : Tr Value) (h : AH) : Option Nx :=
  let ev := opnd gl tm
  (opnds gl tm c.args.toList).bind fun args => (match c.callee with
    | .builtin b => builtinB P h b c.argTypes args
    | .value f => (ev f).bind fun f => (fnB f args).bind fun nx => (match nx with
      | .call f args => (match ext f with
        | some e => effB (e h args)
        | none => some nx)
      | _ => some nx)
    | .invoke r name => (ev r).bind fun r => (match r with
      | .iface t v => (P.info? t).bind fun i => (i.methods.find? (·.name == name)).bind fun m => (match m.path.toList, m.func, P.underlying t with
        | [], some (f, true), some (.pointer _) => some (.call f (v :: args))
        | _, _, _ => none)
      | _ => none))
def qDefer (c : Call) (P : Program) (ext : Ext) (gl : Gl) (tm : Tr Value) (h : AH) : Option Nx :=
  let ev := opnd gl tm
  (opnds gl tm c.args.toList).bind fun args => (match c.callee with
    | .value f => (ev f).bind fun f => (match fnB f args with | some (.call f args) => some (.defer f args) | _ => none)
    | _ => none)
def qNo (P : Program) (ext : Ext) (gl : Gl) (tm : Tr Value) (h : AH) : Option Nx := none
def opD (o : Op) : Program → Ext → Gl → Tr Value → AH → Option Nx :=
  match o with
  | .move x => qMv x
  | .assign x => qMv x
  | .pick c a b => qPick c a b
  | .alloc t => qAlloc t
  | .box t x => qBox t x
  | .build t ps => qBuild t ps
  | .buildSlice t n ps => qBuildSl t n ps
  | .load t a => qLoad t a
  | .store t a x => qStore t a x
  | .nilCheck x => qNil x
  | .binOp op t x y _ => qBin op t x y
  | .unOp op _ x => qUn op x
  | .convert s d x => qConv s d x
  | .makeInterface t x => qIface t x
  | .makeFunc fn first captured => qFn fn first captured
  | .makeMap t none => qMap t
  | .makeSlice t l c => qMkSl t l c
  | .slice t x lo hi mx => qSl t x lo hi mx
  | .fieldAddr s x f => qFA s x f
  | .field t x f => qFd t x f
  | .indexAddr t x i => qIA t x i
  | .index t x i => qIx t x i
  | .lookup t m k ok => qLook t m k ok
  | .mapUpdate t m k v => qUpd t m k v
  | .insert t m k v => qUpd t m k v
  | .range t x => qRange t x
  | .next it false => qNext it
  | .entry it => qEntry it
  | .typeAssert x xt t ok => qAssert x xt t ok
  | .extract t i => qExt t i
  | .call c => qCall c
  | .defer c => qDefer c
  | _ => qNo
theorem opD_eq (P : Program) (ext : Ext) (gl : Gl) (tm : Tr Value) (h : AH) (o : Oper) : opD o.op P ext gl tm h = opB P ext gl tm h o := by
  obtain ⟨dst, op, type, pos, after, guard⟩ := o
  cases op
  case makeMap t r => cases r <;> rfl
  case next it b => cases b <;> rfl
  all_goals rfl
def nxQ (call : CallR) (round : RoundR) (dst : Option Tmp) (tm : Tr Value) (h0 : AH) (ds : List Df) (sz : Nat) (rd : Bool) (nx : Nx) : Option St :=
  match nx with
  | .val v h => (putB sz tm dst v).map fun tm => ⟨tm, h, ds, sz, rd⟩
  | .call f args => (call f args h0).bind fun (v, h) => (putB sz tm dst v).map fun tm => ⟨tm, h, ds, sz, rd⟩
  | .round l args => (round l args h0).bind fun (v, h) => (putB sz tm dst v).map fun tm => ⟨tm, h, ds, sz, rd⟩
  | .defer f args => cond rd none ((putB sz tm dst undef).map fun tm => ⟨tm, h0, .call f args :: ds, sz, rd⟩)
def stepQ0 (P : Program) (ext : Ext) (gl : Gl) (call : CallR) (round : RoundR) (ops : List Oper) (o : Oper) (st : St) : Option St :=
  match st with
  | ⟨tm, h, ds, sz, rd⟩ => cond (goesB ops tm o) ((opD o.op P ext gl tm h).bind fun nx => nxQ call round o.dst tm h ds sz rd nx)
    ((putB sz tm o.dst undef).map fun tm => ⟨tm, h, ds, sz, rd⟩)
theorem stepQ0_eq (P : Program) (ext : Ext) (gl : Gl) (call : CallR) (round : RoundR) (ops : List Oper) (o : Oper) (st : St) : stepQ0 P ext gl call round ops o st = stepB P ext gl call round ops o st := by
  obtain ⟨tm, h, ds, sz, rd⟩ := st
  unfold stepQ0 stepB
  simp only [opD_eq]
  congr 2
end Go.Proofs.YtcmildkkigccaaaGreatDoor.Run
