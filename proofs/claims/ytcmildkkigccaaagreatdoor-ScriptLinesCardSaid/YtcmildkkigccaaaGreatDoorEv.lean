/-
  A run of closed calls: an evaluator with one fixed order, over a heap of its own.
-/
import Derived.RangeFuncIn
import Derived.RangeFuncLeaves
import Derived.OrdersIn
import Derived.DefersIn
namespace Go.Proofs.YtcmildkkigccaaaGreatDoor.Run
open Go
set_option linter.unusedVariables false
/-- Numbers to things, as a tree. -/
inductive Tr (α : Type) : Type where
  | e : Tr α
  | n : Tr α → Option α → Tr α → Tr α
def Tr.get {α : Type} : Tr α → Nat → Option α
  | .e, _ => none
  | .n l v r, k => match k with
    | 0 => v
    | k + 1 => cond (Nat.beq (k % 2) 0) (l.get (k / 2)) (r.get (k / 2))
def Tr.set {α : Type} : Nat → Tr α → Nat → α → Tr α
  | 0, t, _, _ => t
  | f + 1, t, k, x => match t with
    | .e => match k with
      | 0 => .n .e (some x) .e
      | k + 1 => cond (Nat.beq (k % 2) 0) (.n (Tr.set f .e (k / 2) x) none .e) (.n .e none (Tr.set f .e (k / 2) x))
    | .n l v r => match k with
      | 0 => .n l (some x) r
      | k + 1 => cond (Nat.beq (k % 2) 0) (.n (Tr.set f l (k / 2) x) v r) (.n l v (Tr.set f r (k / 2) x))
def Tr.put {α : Type} (t : Tr α) (k : Nat) (x : α) : Tr α := Tr.set (k + 1) t k x
def Tr.ofFrom {α : Type} : List α → Nat → Tr α → Tr α
  | [], _, t => t
  | x :: l, i, t => Tr.ofFrom l (i + 1) (t.put i x)
/-- A deferred call, or the mark of a range over a function. -/
inductive Df where
  | call (f : FuncId) (args : List Value)
  | mark (r : Nat)
/-- Blocks. -/
inductive AO where
  | cells (e : TypeId) (n : Nat) (c : Tr Value) (ro : Bool)
  | map (es : List MapEntry) (clock : Nat)
  | iter (m : Option Nat) (since : Nat) (seen : List Nat) (last : Nat)
  | loop (s : LoopState) (pend : Option Code) (fn : FuncId) (tm : Tr Value) (size : Nat) (ps : List Tmp) (asg body : Code) (dfs : Nat)
  | dfs (some : Bool)
  | gone
structure AH where
  next : Nat
  tr : Tr AO
def AH.get (h : AH) (b : Nat) : Option AO := h.tr.get b
def AH.set (h : AH) (b : Nat) (o : AO) : AH := match h with | ⟨n, t⟩ => ⟨n, t.put b o⟩
def AH.new (h : AH) (o : AO) : AH := match h with | ⟨n, t⟩ => ⟨n + 1, t.put n o⟩
/-- The capacity that nobody knows. -/
def UNK : Nat := 18446744073709551616
def flat1 : Value → Bool
  | .bool _ | .int .. | .string _ | .pointer none | .slice none _ _ | .map none | .nilFunc | .nilIface => true
  | _ => false
def flat : Value → Bool
  | .bool _ | .int .. | .string _ | .pointer none | .slice none _ _ | .map none | .nilFunc | .nilIface => true
  | .iface _ v => flat v
  | .agg cs => cs.toList.all flat1
  | .tuple vs => vs.toList.isEmpty
  | _ => false
def pureRun {α : Type} (P : Program) : Sem α → Option α
  | .pure a => some a
  | .program k => pureRun P (k P)
  | .mark _ k => pureRun P k
  | _ => none
def pureV (P : Program) (s : Sem Value) : Option Value := (pureRun P s).bind fun v => cond (flat v) (some v) none
structure St where
  tm : Tr Value
  h : AH
  ds : List Df
  sz : Nat
  rd : Bool
/-- Where a package's variable stands. -/
abbrev Gl := Nat → Option Nat
def opnd (gl : Gl) (tm : Tr Value) : Operand → Option Value
  | .tmp t => some ((tm.get t).getD undef)
  | .const v => cond (flat v) (some v) none
  | .global g => (gl g).map fun b => .pointer (some ⟨b, 0, none⟩)
  | .func f => some (.func (.func f) #[] #[])
def opnds (gl : Gl) (tm : Tr Value) : List Operand → Option (List Value)
  | [] => some []
  | x :: l => (opnd gl tm x).bind fun v => (opnds gl tm l).map (v :: ·)
def parts (gl : Gl) (tm : Tr Value) : List (Nat × Operand) → Option (List (Nat × Value))
  | [] => some []
  | (i, x) :: l => (opnd gl tm x).bind fun v => (parts gl tm l).map ((i, v) :: ·)
def isAggB (P : Program) (t : TypeId) : Option Bool :=
  match P.underlying t with
  | some (.struct _) | some (.array _ _) => some true
  | some _ => some false
  | none => none
def sizeB (P : Program) (t : TypeId) : Option Nat := (P.info? t).map (·.size)
def zeroB (P : Program) (t : TypeId) : Option Value := (P.info? t).bind fun i => i.zero.bind fun z => cond (flat z) (some z) none
def rdCells (c : Tr Value) (o : Nat) : Nat → Option (List Value)
  | 0 => some []
  | k + 1 => (c.get o).bind fun v => (rdCells c (o + 1) k).map (v :: ·)
def wrCells (c : Tr Value) : Nat → List Value → Tr Value
  | _, [] => c
  | o, v :: l => wrCells (c.put o v) (o + 1) l
def newCells (h : AH) (e : TypeId) (vs : List Value) : AH := h.new (.cells e vs.length (Tr.ofFrom vs 0 .e) false)
def Value.cl (v : Value) : List Value := match v with | .agg cs => cs.toList | v => [v]
def one (v : Value) : Bool := match v with | .agg _ | .tuple _ => false | _ => true
def zeros (z : List Value) : Nat → List Value
  | 0 => []
  | k + 1 => z ++ zeros z k
def loadB (P : Program) (h : AH) (t : TypeId) (a : Value) : Option Value :=
  match a with
  | .pointer (some ⟨b, o, none⟩) =>
    match h.get b with
    | some (.cells _ n c _) => (isAggB P t).bind fun g => (sizeB P t).bind fun s =>
        cond g (cond (Nat.ble (o + s) n) ((rdCells c o s).map fun l => .agg l.toArray) none) (cond (Nat.blt o n) (c.get o) none)
    | _ => none
  | _ => none
def storeB (P : Program) (h : AH) (t : TypeId) (a v : Value) : Option AH :=
  match a with
  | .pointer (some ⟨b, o, none⟩) =>
    match h.get b with
    | some (.cells e n c false) => (sizeB P t).bind fun s =>
        let l := Value.cl v
        cond (Nat.beq l.length s && Nat.ble (o + s) n && l.all one) (some (h.set b (.cells e n (wrCells c o l) false))) none
    | _ => none
  | _ => none
def placesB (P : Program) : List Field → Option (List (Nat × Nat))
  | [] => some []
  | f :: l => (sizeB P f.type).bind fun s => (placesB P l).map ((f.offset, s) :: ·)
def buildB (P : Program) (t : TypeId) (parts : List (Nat × Value)) : Option Value :=
  (zeroB P t).bind fun z =>
  match P.underlying t with
  | some (.struct fields) => (placesB P fields.toList).bind fun ps => (Instr.fill (fun i => ps[i]?) z.cells parts).map .agg
  | some (.array _ elem) => (sizeB P elem).bind fun s => (Instr.fill (fun i => some (i * s, s)) z.cells parts).map .agg
  | _ => none
def asI : Value → Option Int
  | .int _ n => some n
  | _ => none
def natOf (x : Int) : Option Nat := match x with | .ofNat n => some n | _ => none
def fieldAddrB (P : Program) (s : TypeId) (x : Value) (f : Nat) : Option Value :=
  match P.underlying s, x with
  | some (.struct fields), .pointer (some ⟨b, o, none⟩) => (fields[f]?).bind fun fd => (sizeB P fd.type).bind fun z =>
      cond (Nat.beq z 0) none (some (.pointer (some ⟨b, o + fd.offset, none⟩)))
  | _, _ => none
def indexAddrB (P : Program) (t : TypeId) (x i : Value) : Option Value :=
  (asI i).bind fun i => (natOf i).bind fun i =>
  match P.underlying t, x with
  | some (.array len elem), .pointer (some ⟨b, o, none⟩) => cond (Nat.blt i len) ((sizeB P elem).map fun s => .pointer (some ⟨b, o + i * s, none⟩)) none
  | some (.slice elem), .slice (some ⟨b, o, none⟩) len _ => cond (Nat.blt i len) ((sizeB P elem).map fun s => .pointer (some ⟨b, o + i * s, none⟩)) none
  | _, _ => none
def partB (P : Program) (t : TypeId) (cs : Array Value) (off : Nat) : Option Value :=
  (isAggB P t).bind fun g => cond g ((sizeB P t).map fun s => .agg (cs.extract off (off + s))) (cs[off]?)
def fieldB (P : Program) (t : TypeId) (x : Value) (f : Nat) : Option Value :=
  match P.underlying t, x with
  | some (.struct fields), .agg cs => (fields[f]?).bind fun fd => partB P fd.type cs fd.offset
  | _, _ => none
def indexB (P : Program) (t : TypeId) (x i : Value) : Option Value :=
  match x with
  | .agg cs => (asI i).bind fun i => (natOf i).bind fun i =>
    match P.underlying t with
    | some (.array len elem) => cond (Nat.blt i len) ((sizeB P elem).bind fun s => partB P elem cs (i * s)) none
    | _ => none
  | .string s => cond (flat i) (pureV P (Instr.index t (.string s) i)) none
  | _ => none
def optI (x : Option Value) : Option (Option Nat) :=
  match x with
  | none => some none
  | some v => (asI v).bind fun i => (natOf i).map some
def optF (x : Option Value) : Bool := match x with | none => true | some v => flat v
def sliceB (P : Program) (t : TypeId) (x : Value) (lo hi : Option Value) : Option Value :=
  match x with
  | .string s => cond (optF lo && optF hi) (pureV P (Instr.sliceAt t (.string s) lo hi none)) none
  | .slice none n c => cond (optF lo && optF hi) (pureV P (Instr.sliceAt t (.slice none n c) lo hi none)) none
  | .slice (some ⟨b, o, none⟩) n c =>
    match P.underlying t with
    | some (.slice elem) => (sizeB P elem).bind fun s => (optI lo).bind fun l => (optI hi).bind fun h =>
      let l := l.getD 0
      let h := h.getD n
      cond (Nat.beq c UNK)
        (cond (Nat.ble l h && Nat.ble h n && (Nat.blt l h || Nat.beq l 0 || Nat.blt 0 s)) (some (.slice (some ⟨b, o + l * s, none⟩) (h - l) UNK)) none)
        (cond (Nat.ble l h && Nat.ble h c) (some (.slice (some ⟨b, cond (Nat.beq c l) o (o + l * s), none⟩) (h - l) (c - l))) none)
    | _ => none
  | .pointer (some ⟨b, o, none⟩) =>
    match P.underlying t with
    | some (.array n elem) => (sizeB P elem).bind fun s => (optI lo).bind fun l => (optI hi).bind fun h =>
      let l := l.getD 0
      let h := h.getD n
      cond (Nat.ble l h && Nat.ble h n && Nat.blt n UNK) (some (.slice (some ⟨b, cond (Nat.beq n l) o (o + l * s), none⟩) (h - l) (n - l))) none
    | _ => none
  | _ => none
/-- Something held against nil. -/
def nilEqB (P : Program) (t : TypeId) (a b : Value) : Option Bool :=
  match P.underlying t, a, b with
  | some (.pointer _), .pointer (some _), .pointer none | some (.pointer _), .pointer none, .pointer (some _)
  | some (.interface _), .iface .., .nilIface | some (.interface _), .nilIface, .iface ..
  | some (.slice _), .slice (some _) _ _, .slice none _ _ | some (.slice _), .slice none _ _, .slice (some _) _ _
  | some (.map ..), .map (some _), .map none | some (.map ..), .map none, .map (some _)
  | some (.func ..), .func .., .nilFunc | some (.func ..), .nilFunc, .func .. => some false
  | some (.pointer e), .pointer (some ⟨b, o, none⟩), .pointer (some ⟨b', o', none⟩) => (P.info? e).bind fun _ => cond (Nat.beq b b' && Nat.beq o o') (some true) none
  | _, _, _ => none
def binB (P : Program) (op : BinOp) (t : TypeId) (x y : Operand) (a b : Value) : Option Value :=
  cond (flat a && flat b) (pureV P (do eqGuard op t x y a b; binOp op t a b))
    (match op with
    | .eql => (nilEqB P t a b).map .bool
    | .neq => (nilEqB P t a b).map fun b => .bool (!b)
    | _ => none)
def bytesOf : List Value → Option (List UInt8)
  | [] => some []
  | .int .u8 n :: l => (natOf n).bind fun m => cond (Nat.blt m 256) ((bytesOf l).map (UInt8.ofNat m :: ·)) none
  | _ => none
def convB (P : Program) (h : AH) (src dst : TypeId) (x : Value) : Option Value :=
  cond (flat x) (pureV P (convert src dst x))
    (match P.underlying src, P.underlying dst, x with
    | some (.slice e), some .string, .slice (some ⟨b, o, none⟩) n _ => (match P.underlying e with
      | some (.int .u8) => (match h.get b with
        | some (.cells _ m c _) => cond (Nat.ble (o + n) m) ((rdCells c o n).bind fun l => (bytesOf l).map fun bs => .string ⟨bs.toArray⟩) none
        | _ => none)
      | _ => none)
    | some (.pointer u), some .unsafePointer, .pointer (some ⟨b, o, none⟩) => (match h.get b, sizeB P u with
      | some (.cells _ n _ _), some s => cond (Nat.blt o n && Nat.blt 0 s) (some (.pointer (some ⟨b, o, none⟩))) none
      | _, _ => none)
    | some .unsafePointer, some (.pointer u), .pointer (some ⟨b, o, none⟩) => (match h.get b, sizeB P u with
      | some (.cells e n _ _), some s => cond (Nat.blt 0 s && liesAt P P.depth e (n / P.cellsOf e) o u 1) (some (.pointer (some ⟨b, o, none⟩))) none
      | _, _ => none)
    | _, _, _ => none)
def assertB (P : Program) (x : Value) (xt t : TypeId) (ok : Bool) : Option Value :=
  match P.underlying t, x with
  | some (.interface _), _ => none
  | some _, .iface u v => cond (Nat.beq u t) (some (cond ok (.tuple #[v, .bool true]) v)) (cond ok ((zeroB P t).map fun z => .tuple #[z, .bool false]) none)
  | some _, .nilIface => cond ok ((zeroB P t).map fun z => .tuple #[z, .bool false]) none
  | _, _ => none
def findB (kind : TypeDesc) (k : Value) (es : List MapEntry) : Option (Option (Nat × Value)) := Instr.findNow kind k es 0
def mapOf (P : Program) (t : TypeId) : Option (TypeDesc × TypeId) :=
  match P.underlying t with
  | some (.map k e) => (P.underlying k).map fun d => (d, e)
  | _ => none
def keyB (d : TypeDesc) (k : Value) : Bool :=
  match d, k with
  | .int _, .int .. | .string, .string _ | .bool, .bool _ => true
  | _, _ => false
def lookupB (P : Program) (h : AH) (t : TypeId) (m k : Value) (ok : Bool) : Option Value :=
  (mapOf P t).bind fun (d, e) => cond (keyB d k) ((match m with
    | .map none => some []
    | .map (some b) => (match h.get b with | some (.map es _) => some es | _ => none)
    | _ => none).bind fun es => (findB d k es).bind fun r =>
      match r with
      | some (_, v) => some (cond ok (.tuple #[v, .bool true]) v)
      | none => (zeroB P e).map fun z => cond ok (.tuple #[z, .bool false]) z) none
def updB (P : Program) (h : AH) (t : TypeId) (m k v : Value) : Option AH :=
  (mapOf P t).bind fun (d, e) => cond (keyB d k) (match m with
    | .map (some b) => (match h.get b with
      | some (.map es clock) => (findB d k es).map fun r => match r with
        | some (i, _) => h.set b (.map (es.modify i fun e => { e with key := k, val := v }) clock)
        | none => h.set b (.map (es ++ [{ key := k, val := v, born := clock }]) (clock + 1))
      | _ => none)
    | _ => none) none
def delB (P : Program) (h : AH) (t : TypeId) (m k : Value) : Option AH :=
  (mapOf P t).bind fun (d, e) => cond (keyB d k) (match m with
    | .map none => some h
    | .map (some b) => (match h.get b with
      | some (.map es clock) => (findB d k es).map fun r => match r with
        | some (i, _) => h.set b (.map (es.eraseIdx i) clock)
        | none => h
      | _ => none)
    | _ => none) none
def entryB (h : AH) (it : Value) : Option Value :=
  match it with
  | .pointer (some ⟨r, 0, none⟩) => (match h.get r with
    | some (.iter (some m) _ seen last) => (seen.getLast?).bind fun stamp => (match h.get m with
      | some (.map es clock) => cond (Nat.beq clock last) ((es.find? (fun e => Nat.beq e.born stamp)).map fun e => .tuple #[e.key, e.val]) none
      | _ => none)
    | _ => none)
  | _ => none
def rangeB (P : Program) (h : AH) (t : TypeId) (x : Value) : Option (Value × AH) :=
  match P.underlying t, x with
  | some (.map _ _), .map none => some (.pointer (some ⟨h.next, 0, none⟩), h.new (.iter none 0 [] 0))
  | some (.map _ _), .map (some m) => (match h.get m with
    | some (.map _ clock) => some (.pointer (some ⟨h.next, 0, none⟩), h.new (.iter (some m) clock [] clock))
    | _ => none)
  | _, _ => none
/-- One step of a range over a map, where the next entry is forced. -/
def nextB (h : AH) (it : Value) : Option (Value × AH) :=
  match it with
  | .pointer (some ⟨r, 0, none⟩) => (match h.get r with
    | some (.iter none _ _ _) => some (.tuple #[.bool false], h)
    | some (.iter (some m) since seen last) => (match h.get m with
      | some (.map es clock) =>
        cond (!seen.isEmpty && !es.isEmpty && es.all (fun e => Nat.ble last e.born)) none
        (match es.filter (fun e => !seen.contains e.born) with
        | [] => some (.tuple #[.bool false], h)
        | [e] => cond (Nat.blt e.born since) (some (.tuple #[.bool true, e.key, e.val], h.set r (.iter (some m) since (seen ++ [e.born]) clock))) none
        | _ => none)
      | _ => none)
    | _ => none)
  | _ => none
def elemsOf (h : AH) (size n : Nat) (x : Value) : Option (List Value) :=
  match x with
  | .slice none _ _ => some []
  | .slice (some ⟨b, o, none⟩) _ _ => (match h.get b with
    | some (.cells _ k c _) => cond (Nat.ble (o + n * size) k) (rdCells c o (n * size)) none
    | _ => none)
  | .string s => some ((s.data.toList.take n).map fun b => .int .u8 b.toNat)
  | _ => none
def lenB : Value → Option Nat
  | .slice _ n _ => some n
  | .string s => some s.size
  | _ => none
def plainArg (P : Program) (ts : Array TypeId) : Bool :=
  match ts[1]? with
  | none => true
  | some u => match P.underlying u with
    | some (.int _) => false
    | some _ => true
    | none => false
/-- Bytes of elements, capacities: what append asks. -/
def appendB (P : Program) (h : AH) (ts : Array TypeId) (s x : Value) : Option (Value × AH) :=
  (ts[0]?).bind fun t =>
  match P.underlying t, s with
  | some (.slice elem), .slice base n c => (P.info? elem).bind fun i => (zeroB P elem).bind fun z => (lenB x).bind fun k => (elemsOf h i.size k x).bind fun new =>
    cond (plainArg P ts && Nat.ble ((n + k) * (i.bytes + 1)) 16777216 && Nat.beq new.length (k * i.size) && Nat.beq (Value.cl z).length i.size && new.all one)
    (match base with
    | none => cond (Nat.beq n 0 && Nat.beq c 0) (cond (Nat.beq k 0) (some (s, h)) (some (.slice (some ⟨h.next, 0, none⟩) k UNK, newCells h elem new))) none
    | some ⟨b, o, none⟩ =>
      cond (Nat.beq k 0 && Nat.ble n c) (some (s, h))
      (match h.get b with
      | some (.cells e m cs false) =>
        cond (Nat.beq c UNK)
          (cond (Nat.beq o 0 && Nat.beq (n * i.size) m && Nat.beq e elem) ((rdCells cs 0 m).map fun old =>
            (.slice (some ⟨h.next, 0, none⟩) (n + k) UNK, newCells (h.set b .gone) elem (old ++ new))) none)
          (cond (Nat.ble (n + k) c)
            (cond (Nat.ble (o + (n + k) * i.size) m) (some (.slice base (n + k) c, h.set b (.cells e m (wrCells cs (o + n * i.size) new) false))) none)
            (cond (Nat.ble (o + n * i.size) m) ((rdCells cs o (n * i.size)).map fun old => (.slice (some ⟨h.next, 0, none⟩) (n + k) UNK, newCells h elem (old ++ new))) none))
      | _ => none)
    | _ => none) none
  | _, _ => none
def copyB (P : Program) (h : AH) (ts : Array TypeId) (d x : Value) : Option (Value × AH) :=
  (ts[0]?).bind fun t =>
  match P.underlying t, d with
  | some (.slice elem), .slice base n c => (sizeB P elem).bind fun s => (lenB x).bind fun k =>
    let k := Nat.min k n
    (elemsOf h s k x).bind fun new =>
    cond (Nat.beq new.length (k * s)) (cond (Nat.beq k 0) (some (.int .i64 k, h)) (match base with
    | none => none
    | some ⟨b, o, none⟩ =>
      (match h.get b with
      | some (.cells e m cs false) => cond (Nat.ble (o + new.length) m && new.all one) (some (.int .i64 k, h.set b (.cells e m (wrCells cs o new) false))) none
      | _ => none)
    | _ => none)) none
  | _, _ => none
def makeSliceB (P : Program) (h : AH) (t : TypeId) (len cap : Value) : Option (Value × AH) :=
  match P.underlying t with
  | some (.slice elem) => (P.info? elem).bind fun i => (asI len).bind fun l => (natOf l).bind fun l => (asI cap).bind fun c => (natOf c).bind fun c => (zeroB P elem).bind fun z =>
    cond (Nat.ble l c && Nat.ble (c * (i.bytes + 1)) 16777216 && Nat.beq (Value.cl z).length i.size && Nat.blt c UNK) (some (.slice (some ⟨h.next, 0, none⟩) l c, newCells h elem (zeros (Value.cl z) c))) none
  | _ => none
inductive Nx where
  | val (v : Value) (h : AH)
  | call (f : FuncId) (args : List Value)
  | round (l : Nat) (args : List Value)
  | defer (f : FuncId) (args : List Value)
def valB (h : AH) (v : Option Value) : Option Nx := v.map fun v => .val v h
def effB (r : Option (Value × AH)) : Option Nx := r.map fun (v, h) => .val v h
def doB (r : Option AH) : Option Nx := r.map fun h => .val undef h
def fnB (v : Value) (args : List Value) : Option Nx :=
  match v with
  | .func (.func f) first captured => some (.call f (first.toList ++ args ++ captured.toList))
  | .func (.yield l) _ _ => some (.round l args)
  | _ => none
def builtinB (P : Program) (h : AH) (b : Builtin) (ts : Array TypeId) (args : List Value) : Option Nx :=
  match b, args with
  | .len, [x] => (ts[0]?).bind fun t => (match P.underlying t, x with
    | some .string, .string s => some (.val (.int .i64 s.size) h)
    | some (.slice _), .slice _ n _ => some (.val (.int .i64 n) h)
    | some (.array n _), _ => some (.val (.int .i64 n) h)
    | some (.pointer a), _ => (match P.underlying a with | some (.array n _) => some (.val (.int .i64 n) h) | _ => none)
    | some (.map _ _), .map none => some (.val (.int .i64 0) h)
    | some (.map _ _), .map (some b) => (match h.get b with | some (.map es _) => some (.val (.int .i64 es.length) h) | _ => none)
    | _, _ => none)
  | .cap, [.slice _ n c] => (ts[0]?).bind fun t => (match P.underlying t with
    | some (.slice _) => cond (Nat.beq c UNK) none (some (.val (.int .i64 c) h))
    | _ => none)
  | .append, [s, x] => effB (appendB P h ts s x)
  | .copy, [d, x] => effB (copyB P h ts d x)
  | .delete, [m, k] => (ts[0]?).bind fun t => doB (delB P h t m k)
  | .min, x :: rest => cond (args.all flat) (valB h (pureV P (rest.foldlM Builtin.min2 x))) none
  | .max, x :: rest => cond (args.all flat) (valB h (pureV P (rest.foldlM Builtin.max2 x))) none
  | .unsafeSliceData, [.slice none _ _] => some (.val (.pointer none) h)
  | .unsafeSliceData, [.slice (some ⟨b, o, none⟩) n c] => cond (Nat.beq n 0) none (some (.val (.pointer (some ⟨b, o, none⟩)) h))
  | .unsafeString, [.pointer none, .int .i64 n] => (match ts.toList with
    | [_, _] => (natOf n).bind fun n => cond (Nat.beq n 0) (some (.val (.string .empty) h)) none
    | _ => none)
  | .unsafeString, [.pointer (some ⟨b, 0, none⟩), .int .i64 n] => (match ts.toList with
    | [pt, _] => (natOf n).bind fun n => (match h.get b, P.underlying pt with
      | some (.cells e m c false), some (.pointer u) => cond (Nat.blt 0 n && Nat.ble n m && Nat.ble n 16777216 && Nat.beq e u && Nat.beq (P.cellsOf u) 1) ((rdCells c 0 n).bind fun l => (bytesOf l).map fun bs => .val (.string ⟨bs.toArray⟩) (h.set b (.cells e m c true))) none
      | _, _ => none)
    | _ => none)
  | _, _ => none
/-- Functions without a body that are taken: by their number, what they do. -/
abbrev Ext := FuncId → Option (AH → List Value → Option (Value × AH))
def opB (P : Program) (ext : Ext) (gl : Gl) (tm : Tr Value) (h : AH) (o : Oper) : Option Nx :=
  let ev := opnd gl tm
  match o.op with
  | .move x | .assign x => valB h (ev x)
  | .pick c a b => (ev c).bind fun v => (match v with | .bool true => valB h (ev a) | .bool false => valB h (ev b) | _ => none)
  | .alloc t => (zeroB P t).map fun z => .val (.pointer (some ⟨h.next, 0, none⟩)) (newCells h t (Value.cl z))
  | .box t x => (ev x).map fun v => .val (.pointer (some ⟨h.next, 0, none⟩)) (newCells h t (Value.cl v))
  | .build t ps => (parts gl tm ps.toList).bind fun l => valB h (buildB P t l)
  | .buildSlice t n ps => (parts gl tm ps.toList).bind fun l =>
    (match P.underlying t with
    | some (.slice elem) => (sizeB P elem).bind fun s => (zeroB P elem).bind fun z =>
      cond (Nat.ble (n * s) 16777216 && Nat.beq (Value.cl z).length s && Nat.blt n UNK) ((Instr.fill (fun i => some (i * s, s)) (zeros (Value.cl z) n).toArray l).map fun cs => .val (.slice (some ⟨h.next, 0, none⟩) n n) (newCells h elem cs.toList)) none
    | _ => none)
  | .load t a => (ev a).bind fun a => valB h (loadB P h t a)
  | .store t a x => (ev a).bind fun a => (ev x).bind fun v => doB (storeB P h t a v)
  | .nilCheck x => (ev x).bind fun v => (match v with
    | .pointer (some _) | .func (.func _) _ _ | .iface _ _ => some (.val v h)
    | _ => none)
  | .binOp op t x y _ => (ev x).bind fun a => (ev y).bind fun b => valB h (binB P op t x y a b)
  | .unOp op _ x => (ev x).bind fun a => cond (flat a) (valB h (pureV P (Op.unary op a))) none
  | .convert s d x => (ev x).bind fun a => (match P.underlying s, P.underlying d, a with
    | some .string, some (.slice e), .string bs => (match P.underlying e with
      | some (.int .u8) => cond (Nat.beq (P.cellsOf e) 1) (some (.val (.slice (some ⟨h.next, 0, none⟩) bs.size UNK) (newCells h e (bs.data.toList.map fun b => .int .u8 b.toNat)))) none
      | _ => none)
    | _, _, _ => valB h (convB P h s d a))
  | .makeInterface t x => (ev x).bind fun a => (match P.underlying t with | some (.interface _) => none | some _ => some (.val (.iface t a) h) | none => none)
  | .makeFunc fn first captured => (opnds gl tm first.toList).bind fun a => (opnds gl tm captured.toList).bind fun b => (match fn with
    | .func f => some (.val (.func (.func f) a.toArray b.toArray) h)
    | _ => none)
  | .makeMap t none => some (.val (.map (some h.next)) (h.new (.map [] 0)))
  | .makeSlice t l c => (ev l).bind fun l => (ev c).bind fun c => effB (makeSliceB P h t l c)
  | .slice t x lo hi mx => (ev x).bind fun x => ((match lo with | none => some none | some v => (ev v).map some) : Option (Option Value)).bind fun lo =>
      ((match hi with | none => some none | some v => (ev v).map some) : Option (Option Value)).bind fun hi => (match mx with | none => valB h (sliceB P t x lo hi) | some _ => none)
  | .fieldAddr s x f => (ev x).bind fun x => valB h (fieldAddrB P s x f)
  | .field t x f => (ev x).bind fun x => valB h (fieldB P t x f)
  | .indexAddr t x i => (ev x).bind fun x => (ev i).bind fun i => valB h (indexAddrB P t x i)
  | .index t x i => (ev x).bind fun x => (ev i).bind fun i => valB h (indexB P t x i)
  | .lookup t m k ok => (ev m).bind fun m => (ev k).bind fun k => valB h (lookupB P h t m k ok)
  | .mapUpdate t m k v | .insert t m k v => (ev m).bind fun m => (ev k).bind fun k => (ev v).bind fun v => doB (updB P h t m k v)
  | .range t x => (ev x).bind fun x => effB (rangeB P h t x)
  | .next it false => (ev it).bind fun it => effB (nextB h it)
  | .entry it => (ev it).bind fun it => valB h (entryB h it)
  | .typeAssert x xt t ok => (ev x).bind fun x => valB h (assertB P x xt t ok)
  | .extract t i => (ev t).bind fun t => (match t with | .tuple vs => valB h (vs[i]?) | _ => none)
  | .call c => (opnds gl tm c.args.toList).bind fun args => (match c.callee with
    | .builtin b => builtinB P h b c.argTypes args
    | .value f => (ev f).bind fun f => (fnB f args).bind fun nx => (match nx with
      | .call f args => (match ext f with
        | some e => effB (e h args)
        | none => some nx)
      | _ => some nx)
    | .invoke r name => (ev r).bind fun r => (match r with
      | .iface t v => (P.info? t).bind fun i => (i.methods.find? (·.name == name)).bind fun m => (match m.path.toList, m.func, P.underlying t with
        | [], some (f, true), some (.pointer _) => some (.call f (v :: args))
        | _, _, _ => none)
      | _ => none))
  | .defer c => (opnds gl tm c.args.toList).bind fun args => (match c.callee with
    | .value f => (ev f).bind fun f => (match fnB f args with | some (.call f args) => some (.defer f args) | _ => none)
    | _ => none)
  | _ => none
inductive Ex where
  | normal
  | exit (id : Nat)
  | ret
  deriving DecidableEq
/-- An operation of its own, or not: guards. -/
def goesB (ops : List Oper) (tm : Tr Value) (o : Oper) : Bool :=
  match o.guard with
  | none => true
  | some (j, want) => (match ops[j]? with
    | some g => (match g.dst with
      | some d => (match tm.get d with | some (.bool b) => (b == want) | _ => false)
      | none => false)
    | none => false)
def putB (sz : Nat) (tm : Tr Value) (dst : Option Tmp) (v : Value) : Option (Tr Value) :=
  match dst with
  | some d => cond (Nat.blt d sz) (some (tm.put d v)) none
  | none => some tm
abbrev CallR := FuncId → List Value → AH → Option (Value × AH)
abbrev RoundR := Nat → List Value → AH → Option (Value × AH)
def nxB (call : CallR) (round : RoundR) (dst : Option Tmp) (st : St) (nx : Nx) : Option St :=
  match nx with
  | .val v h => (putB st.sz st.tm dst v).map fun tm => ⟨tm, h, st.ds, st.sz, st.rd⟩
  | .call f args => (call f args st.h).bind fun (v, h) => (putB st.sz st.tm dst v).map fun tm => ⟨tm, h, st.ds, st.sz, st.rd⟩
  | .round l args => (round l args st.h).bind fun (v, h) => (putB st.sz st.tm dst v).map fun tm => ⟨tm, h, st.ds, st.sz, st.rd⟩
  | .defer f args => cond st.rd none ((putB st.sz st.tm dst undef).map fun tm => ⟨tm, st.h, .call f args :: st.ds, st.sz, st.rd⟩)
def stepB (P : Program) (ext : Ext) (gl : Gl) (call : CallR) (round : RoundR) (ops : List Oper) (o : Oper) (st : St) : Option St :=
  cond (goesB ops st.tm o) ((opB P ext gl st.tm st.h o).bind fun nx => nxB call round o.dst st nx)
    ((putB st.sz st.tm o.dst undef).map fun tm => ⟨tm, st.h, st.ds, st.sz, st.rd⟩)
def opsB (P : Program) (ext : Ext) (gl : Gl) (call : CallR) (round : RoundR) (ops : List Oper) : List Oper → St → Option St
  | [], st => some st
  | o :: l, st => (stepB P ext gl call round ops o st).bind fun st => opsB P ext gl call round ops l st
/-- What stands before each operation of a region, as bits. -/
def ancs : List Oper → List Nat → List Nat
  | [], acc => acc
  | o :: l, acc => ancs l (acc ++ [o.after.toList.foldl (fun s e => cond (Region.binds .any e) (s ||| 2 ^ e.on ||| acc.getD e.on 0) s) 0])
inductive Cls where
  | a | p | r | e
def clsB (P : Program) (o : Oper) : Cls :=
  match o.op with
  | .alloc _ | .makeMap _ none | .box .. | .buildSlice .. => .a
  | .move _ | .assign _ | .pick .. | .build .. | .nilCheck _ | .binOp .. | .unOp .. | .makeInterface .. | .makeFunc .. | .slice .. | .fieldAddr .. | .field .. | .indexAddr .. | .index .. | .typeAssert .. | .extract .. => .p
  | .load .. | .lookup .. | .entry _ => .r
  | .convert _ d _ => (match P.underlying d with | some (.slice _) => .e | _ => .r)
  | .call { callee := .builtin .len, .. } | .call { callee := .builtin .cap, .. } | .call { callee := .builtin .min, .. } | .call { callee := .builtin .max, .. } => .r
  | _ => .e
def Cls.isE : Cls → Bool | .e => true | _ => false
def Cls.isA : Cls → Bool | .a => true | _ => false
def Cls.isR : Cls → Bool | .r => true | _ => false
def tmpsOf (x : Operand) : List Tmp := match x with | .tmp t => [t] | _ => []
def looksB (ops : List Oper) (o : Oper) : List Tmp :=
  o.op.operands.toList.flatMap tmpsOf ++ (match o.guard with
    | some (j, _) => (match ops[j]? with | some g => g.dst.toList | none => [])
    | none => [])
structure Slot where
  i : Nat
  o : Oper
  anc : Nat
  cls : Cls
def slotsB (P : Program) : List Oper → List Nat → Nat → List Slot
  | [], _, _ => []
  | o :: l, as, i => ⟨i, o, as.headD 0, clsB P o⟩ :: slotsB P l as.tail (i + 1)
/-- Are two operations in order where one names what the other lays? -/
def pairOk (ops : List Oper) (x y : Slot) : Bool :=
  match x.o.dst with
  | none => true
  | some d => cond (Nat.beq x.i y.i) (!(y.cls.isR && (looksB ops y.o).contains d))
    (cond (match y.o.dst with | some d' => Nat.beq d d' | none => false) false
      (cond ((looksB ops y.o).contains d) (cond (Nat.blt x.i y.i) (y.anc.testBit x.i) (x.anc.testBit y.i && !y.cls.isR)) true))
def effs (ss : List Slot) : List Slot := ss.filter (·.cls.isE)
/-- How many effects stand before s. -/
def lowB (s : Slot) : List Slot → Nat
  | [] => 0
  | e :: es => cond (s.anc.testBit e.i) (lowB s es + 1) (lowB s es)
/-- The order of the run: effects as late as may be. -/
def seqB (ss : List Slot) : List Slot → List (Slot × Nat) → Nat → List Slot
  | [], ls, k => (ls.filter fun x => Nat.ble k x.2).map (·.1)
  | e :: es, ls, k => (ls.filter fun x => Nat.beq x.2 k).map (·.1) ++ e :: seqB ss es ls (k + 1)
/-- Is everything behind what stands before it, and each new block, and each effect, behind effects that stand before it alone? -/
def seqOk : List Slot → Nat → Nat → Bool
  | [], _, _ => true
  | s :: l, done, effs => !done.testBit s.i && Nat.beq (s.anc ||| done) done && (cond (s.cls.isA || s.cls.isE) (Nat.beq (s.anc ||| effs) s.anc) true) && seqOk l (done ||| 2 ^ s.i) (cond s.cls.isE (effs ||| 2 ^ s.i) effs)
def maskAll : List Slot → Nat
  | [] => 0
  | s :: l => 2 ^ s.i ||| maskAll l
def statB (P : Program) (ops : List Oper) : Option (List Slot × List Slot) :=
  let ss := slotsB P ops (ancs ops []) 0
  let es := effs ss
  let seq := seqB ss es ((ss.filter (fun s => !s.cls.isE)).map fun s => (s, lowB s es)) 0
  cond (Nat.beq (maskAll seq) (2 ^ ops.length - 1) && seq.all (fun x => seq.all fun y => pairOk ops x y) && seqOk seq 0 0) (some (seq, effs seq)) none
/-- The run; the heaps ahead of each effect are kept. -/
def runB (P : Program) (ext : Ext) (gl : Gl) (call : CallR) (round : RoundR) (ops : List Oper) : List Slot → St → List AH → Option (St × List AH)
  | [], st, hs => some (st, hs ++ [st.h])
  | s :: l, st, hs => (stepB P ext gl call round ops s.o st).bind fun st' => runB P ext gl call round ops l st' (cond s.cls.isE (hs ++ [st.h]) hs)
/-- May s run while the effects of 'done' are done, and those of 'todo' are not? -/
def mayB (s : Slot) (done todo : List Slot) : Bool := done.all (fun e => !e.anc.testBit s.i) && todo.all (fun e => !s.anc.testBit e.i)
def sameV : Value → Value → Bool
  | .bool a, .bool b => a == b
  | .int k a, .int l b => k == l && a == b
  | .string a, .string b => a.data.toList == b.data.toList
  | .pointer a, .pointer b => a == b
  | .slice a n c, .slice b m d => a == b && Nat.beq n m && Nat.beq c d
  | .map a, .map b => a == b
  | .nilFunc, .nilFunc | .nilIface, .nilIface => true
  | .func (.func f) a b, .func (.func g) c d => Nat.beq f g && a.toList.isEmpty && b.toList.isEmpty && c.toList.isEmpty && d.toList.isEmpty
  | .iface t (.int k a), .iface u (.int l b) => Nat.beq t u && k == l && a == b
  | .iface t (.pointer a), .iface u (.pointer b) => Nat.beq t u && a == b
  | _, _ => false
def sameL : List Value → List Value → Bool
  | [], [] => true
  | a :: l, b :: m => sameV a b && sameL l m
  | _, _ => false
def sameW : Value → Value → Bool
  | .agg a, .agg b => sameL a.toList b.toList
  | .tuple a, .tuple b => sameL a.toList b.toList
  | .func (.func f) a b, .func (.func g) c d => Nat.beq f g && sameL a.toList c.toList && sameL b.toList d.toList
  | a, b => sameV a b
/-- A read tells the same wherever it may run. -/
def readAt (P : Program) (ext : Ext) (gl : Gl) (tm : Tr Value) (s : Slot) (h : AH) : Bool :=
  match opB P ext gl tm h s.o with
  | some (.val v _) => (match s.o.dst with
    | none => true
    | some d => (match tm.get d with | some v' => sameW v v' | none => false))
  | _ => false
def readsB (P : Program) (ext : Ext) (gl : Gl) (tm : Tr Value) (s : Slot) : List Slot → List Slot → List AH → Bool
  | done, [], h :: _ => cond (mayB s done []) (readAt P ext gl tm s h) true
  | done, e :: todo, h :: hs => cond (mayB s done (e :: todo)) (readAt P ext gl tm s h) true && readsB P ext gl tm s (done ++ [e]) todo hs
  | _, _, [] => false
def drawB (P : Program) (ext : Ext) (gl : Gl) (call : CallR) (round : RoundR) (ops : List Oper) (st : St) : Option St :=
  (statB P ops).bind fun (seq, es) => (runB P ext gl call round ops seq st []).bind fun (st', hs) =>
  cond (seq.all fun s => cond (s.cls.isR && goesB ops st'.tm s.o) (readsB P ext gl st'.tm s [] es hs) true) (some st') none
def regionB (P : Program) (ext : Ext) (gl : Gl) (call : CallR) (round : RoundR) (ops : List Oper) (draw : Bool) (st : St) : Option St :=
  cond draw (drawB P ext gl call round ops st) (opsB P ext gl call round ops ops st)
/-- Code; 'around': the round that it is in; fn: the function. -/
def codeB (P : Program) (ext : Ext) (gl : Gl) (call : CallR) (round : RoundR) (fn : FuncId) (around : Option Nat) : Nat → Code → St → Option (Ex × St)
  | 0, _, _ => none
  | n + 1, c, st => match c with
    | .skip => some (.normal, st)
    | .region _ ops draw => (regionB P ext gl call round ops.toList draw st).map fun st => (.normal, st)
    | .seq a b => (codeB P ext gl call round fn around n a st).bind fun (x, st) => match x with
      | .normal => codeB P ext gl call round fn around n b st
      | x => some (x, st)
    | .cond c a b => (opnd gl st.tm c).bind fun v => match v with
      | .bool true => codeB P ext gl call round fn around n a st
      | .bool false => codeB P ext gl call round fn around n b st
      | _ => none
    | .block id c => (codeB P ext gl call round fn around n c st).map fun (x, st) => match x with
      | .exit k => (cond (Nat.beq k id) .normal (.exit k), st)
      | x => (x, st)
    | .loop c => (codeB P ext gl call round fn around n c st).bind fun (x, st) => match x with
      | .normal => codeB P ext gl call round fn around n (.loop c) st
      | x => some (x, st)
    | .exit id => some (.exit id, st)
    | .ret => some (.ret, st)
    | .rangeFunc f ps asg body =>
      (opnd gl st.tm f).bind fun f =>
      ((match around with
        | some l => (match st.h.get l with | some (.loop _ _ _ _ _ _ _ _ d) => some (d, st.h, st.ds) | _ => none)
        | none => some (st.h.next, st.h.new (.dfs true), .mark st.h.next :: st.ds)) : Option (Nat × AH × List Df)).bind fun (d, h, ds) =>
      let l := h.next
      let h := h.new (.loop .ready none fn st.tm st.sz ps.toList asg body d)
      (fnB f [.func (.yield l) #[] #[]]).bind fun nx => (match nx with
        | .call f args => (call f args h).bind fun (_, h) => (match h.get l with
          | some (.loop s pend fn tm sz ps asg body d) => (match s with
            | .busy => none
            | _ =>
              let h := h.set l (.loop .exhausted pend fn tm sz ps asg body d)
              let st : St := ⟨st.tm, h, ds, st.sz, st.rd⟩
              (match pend with
              | none => some (.normal, st)
              | some .ret => some (.ret, st)
              | some (.exit id) => some (.exit id, st)
              | _ => none))
          | _ => none)
        | _ => none)
    | _ => none
def endB (l : Nat) (s : LoopState) (pend : Option Code) (h : AH) : Option AH :=
  match h.get l with
  | some (.loop _ _ fn tm size ps asg body d) => some (h.set l (.loop s pend fn tm size ps asg body d))
  | _ => none
/-- One round of a range over a function. -/
def roundB (P : Program) (ext : Ext) (gl : Gl) (call : CallR) (round : RoundR) (n : Nat) (l : Nat) (args : List Value) (h : AH) : Option (Value × AH) :=
  match h.get l with
  | some (.loop .ready pend fn tm size ps asg body d) =>
    cond (Nat.beq ps.length args.length && ps.all (fun t => Nat.blt t size))
    ((codeB P ext gl call round fn (some l) n asg ⟨(ps.zip args).foldl (fun tm (x : Tmp × Value) => tm.put x.1 x.2) tm, h, [], size, true⟩).bind fun (x, st) => (match x with
      | .normal => (match st.h.get l with
        | some (.loop .ready pend2 fn2 tm2 size2 ps2 asg2 body2 d2) =>
          (codeB P ext gl call round fn (some l) n body ⟨st.tm, st.h.set l (.loop .busy pend2 fn2 tm2 size2 ps2 asg2 body2 d2), st.ds, st.sz, st.rd⟩).bind fun (x, st) => (match x with
            | .normal => (endB l .ready none st.h).map fun h => (.bool true, h)
            | .ret => (endB l .done (some .ret) st.h).map fun h => (.bool false, h)
            | .exit id => (endB l .done (some (.exit id)) st.h).map fun h => (.bool false, h))
        | _ => none)
      | _ => none)) none
  | _ => none
/-- What a deferred call does that comes to no panic. -/
abbrev Dfr := FuncId → Option (AH → List Value → Option AH)
def leaveB (dfr : Dfr) : List Df → AH → Option AH
  | [], h => some h
  | .mark r :: ds, h => (match h.get r with
    | some (.dfs true) => leaveB dfr ds (h.set r (.dfs false))
    | _ => none)
  | .call f args :: ds, h => (dfr f).bind fun d => (d h args).bind fun h => leaveB dfr ds h
def resB (P : Program) (tm : Tr Value) (h : AH) : List ResultVar → Option (List Value)
  | [] => some []
  | .tmp t :: l => (resB P tm h l).map (((tm.get t).getD undef) :: ·)
  | .cell a t :: l => (loadB P h t ((tm.get a).getD undef)).bind fun v => (resB P tm h l).map (v :: ·)
def retB : List Value → Value
  | [v] => v
  | l => .tuple l.toArray
/-- A call by a contract that is given, or by its code. -/
def hookB (hk call : CallR) : CallR := fun f args h => match hk f args h with
  | some r => some r
  | none => call f args h
/-- A call. -/
def callB (P : Program) (ext : Ext) (dfr : Dfr) (hk : CallR) (gl : Gl) : Nat → CallR
  | 0 => fun _ _ _ => none
  | n + 1 => fun f args h => hookB hk (fun f args h =>
    (P.funcs[f]?).bind fun fn => (fn.body).bind fun c =>
    cond (Nat.ble args.length fn.ntmps)
    ((codeB P ext gl (callB P ext dfr hk gl n) (goB P ext dfr hk gl n) f none n c ⟨Tr.ofFrom args 0 .e, h, [], fn.ntmps, false⟩).bind fun (x, st) =>
      (match x with
      | .exit _ => none
      | _ => (leaveB dfr st.ds st.h).bind fun h => (resB P st.tm h fn.results.toList).map fun vs => (retB vs, h))) none) f args h
where goB (P : Program) (ext : Ext) (dfr : Dfr) (hk : CallR) (gl : Gl) : Nat → RoundR
  | 0 => fun _ _ _ => none
  | n + 1 => fun l args h => roundB P ext gl (callB P ext dfr hk gl n) (goB P ext dfr hk gl n) n l args h
end Go.Proofs.YtcmildkkigccaaaGreatDoor.Run
