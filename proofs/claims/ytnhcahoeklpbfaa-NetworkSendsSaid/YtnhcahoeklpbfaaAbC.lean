/- Abstract code out of the program's code. No program. -/
import Derived.Test.YtnhcahoeklpbfaaAbB
import Derived.Orders
set_option linter.unusedSimpArgs false
set_option linter.unusedVariables false
namespace Ab
open Go Go.RowKit

def mapO {α β : Type} (f : α → Option β) : List α → Option (List β)
  | [] => some []
  | x :: xs => match f x, mapO f xs with
    | some y, some ys => some (y :: ys)
    | _, _ => none

def cAtom : Value → Option Atom
  | .bool b => some (.bool b)
  | .int k n => some (.int k n)
  | .string s => if s.size ≤ 9223372036854775807 then some (.str s) else none
  | .slice none 0 0 => some .nils
  | _ => none

/-- A value of one cell that stands in the code. -/
def cCell : Value → Option AV
  | .pointer none => some .nilptr
  | .nilFunc => some .any
  | .nilIface => some .any
  | v => (cAtom v).map .a

def cVal : Value → Option AV
  | .agg cs => (mapO cAtom cs.toList).map .agg
  | .tuple cs => if cs.size = 0 then some .undef else none
  | v => cCell v

def cX : Operand → Option AX
  | .tmp t => some (.tmp t)
  | .const v => (cVal v).map .const
  | .func f => some (.const (.clo f []))
  | .global _ => none

def cXO : Option Operand → Option (Option AX)
  | none => some none
  | some x => (cX x).map some

def isAggD : TypeDesc → Bool
  | .struct _ | .array _ _ => true
  | _ => false

/-- Size and whether of many cells. -/
def shapeOf (P : Program) (t : TypeId) : Option (Nat × Bool) :=
  match P.info? t, P.underlying t with
  | some i, some d => if isAggD d then some (i.size, true) else if i.size = 1 then some (1, false) else none
  | _, _ => none

def sizeAt (P : Program) (t : TypeId) : Option Nat := (P.info? t).map (·.size)

/-- A function with a body. -/
def bodied (P : Program) (f : FuncId) : Bool :=
  match P.funcs[f]? with
  | some fn => fn.body.isSome && !(fn.name == "runtime.NumGoroutine")
  | none => false

/-- Where the parts of a struct or an array lie. -/
def placesOf (P : Program) (t : TypeId) : Option (Nat → Option (Nat × Nat)) :=
  match P.underlying t with
  | some (.array _ e) => (P.info? e).map fun ie => fun i => some (i * ie.size, ie.size)
  | some (.struct fs) => (fs.toList.mapM fun f => (P.info? f.type).map fun i => (f.offset, i.size)).map fun places => fun i => places.toArray[i]?
  | _ => none

def cParts (place : Nat → Option (Nat × Nat)) : List (Nat × Operand) → Option (List (Nat × Nat × AX))
  | [] => some []
  | (i, x) :: rest => match place i, cX x, cParts place rest with
    | some (o, n), some y, some ys => some ((o, n, y) :: ys)
    | _, _, _ => none

def fieldOf (P : Program) (t : TypeId) (f : Nat) : Option (Nat × Nat × Bool) :=
  match P.underlying t with
  | some (.struct fs) => match fs[f]? with
    | some fd => match shapeOf P fd.type with
      | some (n, g) => some (fd.offset, n, g)
      | none => none
    | none => none
  | _ => none

def cCall (P : Program) (f : FuncId) (args : List AX) : Option AO := if bodied P f then some (.call f args) else none

def boolT (P : Program) (t : TypeId) : Bool :=
  match P.underlying t with
  | some .bool => true
  | _ => false

/-- The kinds of the cells of a type whose values are compared cell by cell. -/
def eqFieldsShape (sh : TypeId → Option (List Nat)) : Nat → List Field → Option (List Nat)
  | _, [] => some []
  | off, f :: fs => if f.offset = off ∧ f.name ≠ "_" then
      match sh f.type with
      | some (k :: ks) => match eqFieldsShape sh (off + (k :: ks).length) fs with
        | some ks' => some ((k :: ks) ++ ks')
        | none => none
      | _ => none
    else none

def eqShape (P : Program) : Nat → TypeId → Option (List Nat)
  | 0, _ => none
  | n + 1, t =>
    match P.underlying t with
    | some .bool => if sizeAt P t = some 1 then some [0] else none
    | some (.int _) => if sizeAt P t = some 1 then some [1] else none
    | some .string => if sizeAt P t = some 1 then some [2] else none
    | some (.struct fs) => match eqFieldsShape (eqShape P n) 0 fs.toList with
      | some ks => if sizeAt P t = some ks.length ∧ P.stoodInHeld t = false then some ks else none
      | none => none
    | some (.array len e) => match eqShape P n e with
      | some ks => if ks = [ks.headD 0] ∧ sizeAt P e = some 1 ∧ sizeAt P t = some len then some (List.replicate len (ks.headD 0)) else none
      | none => none
    | _ => none

def structT (P : Program) (t : TypeId) : Bool :=
  match P.underlying t with
  | some (.struct _) | some (.array _ _) => !P.eqGuardType P.depth t
  | _ => false

def sliceT (P : Program) (t : TypeId) : Bool :=
  match P.underlying t with
  | some (.slice _) => true
  | _ => false
def nilC : Operand → Bool
  | .const (.slice none 0 0) => true
  | _ => false

def cLen (P : Program) (c : Call) (x : AX) : Option AO :=
  match c.argTypes[0]? with
  | some t => match P.underlying t with
    | some .string => some (.lenS x)
    | some (.slice _) => some (.len x)
    | _ => none
  | none => none

def cAppend (P : Program) (c : Call) (x y : AX) : Option AO :=
  match c.argTypes[0]?, c.argTypes[1]? with
  | some t, some t' => match P.underlying t with
    | some (.slice e) => match P.info? e with
      | some i => match i.zero with
        | some z => if t = t' ∧ c.argTypes.size = 2 ∧ z.cells.size = i.size then some (.append e i.size i.bytes x y) else none
        | none => none
      | none => none
    | _ => none
  | _, _ => none

def cCopy (P : Program) (c : Call) (x y : AX) : Option AO :=
  match c.argTypes[0]?, c.argTypes[1]? with
  | some t, some t' => match P.underlying t with
    | some (.slice e) => match P.info? e with
      | some i => if t = t' ∧ c.argTypes.size = 2 then some (.copy i.size x y) else none
      | none => none
    | _ => none
  | _, _ => none

def cBuiltin (P : Program) (c : Call) (b : Builtin) (args : List AX) : Option AO :=
  match args with
  | [x] => if b = .len then cLen P c x else none
  | [x, y] => if b = .append then cAppend P c x y else if b = .min then some (.min x y) else if b = .max then some (.max x y) else if b = .copy then cCopy P c x y else none
  | _ => none

def cCallee (P : Program) (c : Call) (args : List AX) : Option AO :=
  match c.callee with
  | .value (.func f) => cCall P f args
  | .value (.tmp t) => some (.callv (.tmp t) args)
  | .builtin b => cBuiltin P c b args
  | _ => none

def cOp (P : Program) (o : Oper) : Option AO :=
  match o.op with
  | .move x | .assign x => (cX x).map .mov
  | .pick c a b => match cX c, cX a, cX b with
    | some c, some a, some b => some (.pick c a b)
    | _, _, _ => none
  | .alloc t => match P.info? t with
    | some i => match i.zero with
      | some z => (mapO cCell z.cells.toList).map fun zs => .alloc t (markB t zs)
      | none => none
    | none => none
  | .box t x => match sizeAt P t, cX x with
    | some n, some x => some (.box t n x)
    | _, _ => none
  | .build t parts => match P.info? t, placesOf P t with
    | some i, some place => match i.zero with
      | some z => match mapO cAtom z.cells.toList, cParts place parts.toList with
        | some zs, some ps => some (.build zs ps)
        | _, _ => none
      | none => none
    | _, _ => none
  | .buildSlice t len parts => match P.underlying t with
    | some (.slice e) => match P.info? e with
      | some i => match i.zero with
        | some z => match mapO cAtom z.cells.toList, mapO (fun p => cX p.2) parts.toList with
          | some _, some ps => if parts.toList.map (·.1) = List.range len ∧ z.cells.size = i.size ∧ 0 < i.size ∧ len * i.size ≤ 2 ^ 24 then some (.buildSlice e i.size ps) else none
          | _, _ => none
        | none => none
      | none => none
    | _ => none
  | .load t x => match shapeOf P t, cX x with
    | some (n, g), some x => some (.load n g x)
    | _, _ => none
  | .store t x y => match sizeAt P t, cX x, cX y with
    | some n, some x, some y => some (.store n x y)
    | _, _, _ => none
  | .nilCheck x => (cX x).map .nilCheck
  | .binOp op t x y _ => if (nilC y && sliceT P t && (op == .eql || op == .neq)) = true then (cX x).map (.eqNil (op == .neq)) else match cX x, cX y with
    | some x, some y => match op with
      | .eql => if boolT P t then some (.eqBool false x y) else if structT P t then (eqShape P 20 t).map fun ks => .eqAgg false ks x y else some (.bin op x y)
      | .neq => if boolT P t then some (.eqBool true x y) else if structT P t then (eqShape P 20 t).map fun ks => .eqAgg true ks x y else some (.bin op x y)
      | _ => some (.bin op x y)
    | _, _ => none
  | .unOp op _ x => (cX x).map (.un op)
  | .convert s d x => match P.underlying s, P.underlying d, cX x with
    | some (.int _), some (.int k), some x => some (.toInt k x)
    | some .string, some .string, some x => some (.same x)
    | some (.slice e), some .string, some x => match P.underlying e with
      | some (.int .u8) => if sizeAt P e = some 1 then some (.strOf x) else none
      | _ => none
    | _, _, _ => none
  | .slice t x lo hi mx => match P.underlying t, cX x, cXO lo, cXO hi, cXO mx with
    | some .string, some x, some lo, some hi, some none => some (.slStr x lo hi)
    | some (.slice e), some x, some lo, some hi, some mx => (sizeAt P e).map fun n => .sl n x lo hi mx
    | _, _, _, _, _ => none
  | .fieldAddr t x f => match fieldOf P t f, cX x with
    | some (o, n, _), some x => if n = 0 then none else some (.fieldAddr o x)
    | _, _ => none
  | .field t x f => match fieldOf P t f, cX x with
    | some (o, n, g), some x => some (.field o n g x)
    | _, _ => none
  | .indexAddr t x i => match P.underlying t, cX x, cX i with
    | some (.slice e), some x, some i => (sizeAt P e).map fun n => .ix n x i
    | some (.array l e), some x, some i => (sizeAt P e).map fun n => .ixArr l n x i
    | _, _, _ => none
  | .index t x i => match P.underlying t, cX x, cX i with
    | some (.array l e), some x, some i => match shapeOf P e with
      | some (n, g) => some (.elem l n g x i)
      | none => none
    | some .string, some x, some i => some (.byte x i)
    | _, _, _ => none
  | .extract x i => (cX x).map fun x => .extract x i
  | .makeSlice t l c => match P.underlying t with
    | some (.slice e) => match P.info? e with
      | some i => match i.zero with
        | some z => match mapO cAtom z.cells.toList, cX l, cX c with
          | some zs, some l, some c => if zs.length = i.size then some (.make e i.size i.bytes zs l c) else none
          | _, _, _ => none
        | none => none
      | none => none
    | _ => none
  | .makeFunc fn first caps => match fn with
    | .func f => if first.size = 0 then (mapO cX caps.toList).map (.mkFunc f) else none
    | _ => none
  | .call c => match mapO cX c.args.toList with
    | some args => cCallee P c args
    | none => none
  | _ => none

def cGuard (ops : List Oper) : Option (Nat × Bool) → Option (Option (Nat × Bool))
  | none => some none
  | some (j, b) => match ops[j]? with
    | some o => match o.dst with
      | some t => some (some (t, b))
      | none => none
    | none => none

def isSl3 : Op → Bool
  | .slice _ _ _ _ (some _) => true
  | _ => false
/-- append onto s[a:b:b] makes new memory and changes none. -/
def softA (ops : List Oper) : AO → AO
  | .append e sz b (.tmp t) x => if ops.any (fun q => decide (q.dst = some t) && isSl3 q.op) = true then .appendS e sz b (.tmp t) x else .append e sz b (.tmp t) x
  | ao => ao
/-- How a function is turned: which callees are run with the caller's memory; which slots' rows are sealed ahead of which regions. -/
structure CP where
  eff : List FuncId
  tmps : List FuncId
  seals : List (Nat × List Nat)
  drys : List Nat
  mons : List Nat
  news : List Nat
  pairs : List (Nat × Nat) := []
  lates : List (Nat × Nat) := []
  effv : List Nat := []
  keep : Bool := false
  from_ : Nat := 0
def inSlots (l : List Nat) : Option Nat → Bool
  | some t => l.contains t
  | none => false
def effA (cp : CP) (d : Option Nat) : AO → AO
  | .call f args => if cp.eff.contains f = true then (if inSlots cp.news d = true then (if inSlots cp.news (d.map (· + 1000000)) = true then .callZ f args else .callK f args) else .callI f args) else if cp.tmps.contains f = true then .callT f args else if inSlots cp.news d = true then (if inSlots cp.news (d.map (· + 1000000)) = true then .callFC f args else .callF f args) else .call f args
  | .callv x args => if inSlots cp.effv d = true then .callvI x args else .callv x args
  | .buildSlice e sz ps => if inSlots cp.news d = true then .buildO e sz ps else .buildSlice e sz ps
  | .make e sz b z l c => if inSlots cp.news d = true then .makeC e sz b z l c else .make e sz b z l c
  | ao => ao
def CP.sealAt (cp : CP) (id : Nat) : List Nat := ((cp.seals.find? fun p => p.1 == id).map (·.2)).getD []

/-- Operations that may come up before or after what changes memory. -/
def dryA : AO → AO
  | .load n g x => .loadD n g x
  | .ix sz x i => .ixD sz x i
  | .len x => .lenD x
  | .call f args => .callD f args
  | .build z ps => .buildD z ps
  | .buildSlice e sz ps => .buildSliceD e sz ps
  | ao => ao
def monA : AO → AO
  | .load n g x => .loadM n g x
  | ao => ao
def zedA : AO → AO
  | .load n g x => .loadZ n g x
  | ao => ao
def dryIf (cp : CP) (d : Option Nat) (ao : AO) : AO :=
  match d with
  | some t => if cp.drys.contains t = true then dryA ao else if cp.mons.contains t = true then (if cp.mons.contains (t + 1000000) = true then zedA ao else monA ao) else ao
  | none => ao

/-- A store into memory that is new: at most so many blocks are newer. -/
def lateA (cp : CP) : AO → AO
  | .store n (.tmp t) y => match cp.lates.find? fun q => q.1 == t with
    | some (_, m) => .storeN m n (.tmp t) y
    | none => .store n (.tmp t) y
  | ao => ao

/-- Operations that may give rows new names. -/
def isBreak : AO → Bool
  | .append .. | .callI .. | .callvI .. => true
  | _ => false
/-- An append onto a row that the call itself has made, when so many were there before. -/
def breakN (n : Nat) : AO → AO
  | .append e sz b s x => if n = 0 then .bad else .appendN n e sz b s x
  | _ => .bad
def keepA (cp : CP) (ao : AO) : AO := if cp.keep = true ∧ isBreak ao = true then breakN cp.from_ ao else ao

def cOper (P : Program) (cp : CP) (ops : List Oper) (o : Oper) : Option AOp :=
  match cGuard ops o.guard with
  | some g => match cOp P o with
    | some op => some ⟨o.dst, g, keepA cp (lateA cp (dryIf cp o.dst (effA cp o.dst (softA ops op))))⟩
    | none => some ⟨o.dst, g, .bad⟩
  | none => none

/-- Operations that leave names as they are. -/
def isSoft : AO → Bool
  | .alloc .. | .box .. | .store .. | .storeN .. | .append .. | .make .. | .copy .. | .callI .. | .callvI .. | .callF .. | .callK .. | .buildO .. | .appendN .. | .callZ .. | .makeC .. | .callFC .. => false
  | _ => true
/-- Those that look at none of the call's own memory. -/
def isFree : AO → Bool
  | .mov .. | .bin .. | .extract .. | .fieldAddr .. | .field .. | .lenS .. | .nilCheck .. | .loadD .. | .ixD .. | .lenD .. | .callD .. | .buildD .. | .buildSliceD .. | .toInt .. => true
  | _ => false
/-- Those that other memory of the call's own does not disturb. -/
def isMon : AO → Bool
  | .loadM .. | .loadZ .. => true
  | _ => false
/-- Those that look at no block but later ones than the first. -/
def isZed : AO → Bool
  | .loadZ .. => true
  | _ => false
/-- Those that change the first block alone. -/
def isZcall : AO → Bool
  | .callZ .. => true
  | _ => false
/-- Those that make memory of the call's own and change none. -/
def isGrow : AO → Bool
  | .alloc .. | .box .. | .make .. | .callF .. | .makeC .. | .callFC .. => true
  | _ => false
/-- Those that leave the frame as it is. -/
def isLight : AO → Bool
  | .alloc .. | .box .. | .make .. | .callF .. | .store .. | .storeN .. | .copy .. | .callK .. | .callZ .. | .makeC .. | .callFC .. => true
  | _ => false
/-- Those that make a block of the call's own. -/
def isBlock : AO → Bool
  | .alloc .. | .box .. => true
  | _ => false
def isLate : AO → Option Nat
  | .storeN m _ _ _ => some m
  | _ => none
def axOf : AO → List AX
  | .box _ _ x => [x]
  | .make _ _ _ _ l c => [l, c]
  | .callF _ args => args
  | .makeC _ _ _ _ l c => [l, c]
  | .callFC _ args => args
  | .store _ x y => [x, y]
  | .storeN _ _ x y => [x, y]
  | .copy _ x y => [x, y]
  | .callK _ args => args
  | .callZ _ args => args
  | _ => []
def axIn (l : List Nat) : AX → Bool
  | .tmp u => l.contains u
  | .const _ => true

def softAt (al : List AOp) (i : Nat) : Bool :=
  match al[i]? with
  | some ao => isSoft ao.op
  | none => true
def onAt (f : AO → Bool) (al : List AOp) (i : Nat) : Bool :=
  match al[i]? with
  | some ao => f ao.op
  | none => false
def lightAt (ops : Array Oper) (al : List AOp) (i : Nat) : Bool :=
  match ops[i]?, al[i]? with
  | some o, some ⟨_, none, ao⟩ => isLight ao && (axOf ao).all (axIn (o.looksAt ops))
  | _, _ => false

/-- What is known of the operations of a region. -/
structure Kind where
  soft : Nat → Bool
  free : Nat → Bool
  mon : Nat → Bool
  light : Nat → Bool
  grow : Nat → Bool
  block : Nat → Bool
  late : Nat → Option Nat
  zed : Nat → Bool
  zcall : Nat → Bool
def lateAt (al : List AOp) (i : Nat) : Option Nat :=
  match al[i]? with
  | some ao => isLate ao.op
  | none => none
def kindOf (ops : Array Oper) (al : List AOp) : Kind := ⟨softAt al, onAt isFree al, onAt isMon al, lightAt ops al, onAt isGrow al, onAt isBlock al, lateAt al, onAt isZed al, onAt isZcall al⟩
/-- The blocks made between i and j. -/
def blocks (κ : Kind) (i : Nat) : Nat → Nat
  | 0 => 0
  | j + 1 => if i ≤ j then (if κ.light j && κ.block j then blocks κ i j + 1 else blocks κ i j) else 0
def lateOk (κ : Kind) (i j : Nat) : Bool :=
  match κ.late j with
  | some m => decide (m ≤ blocks κ i j) && (List.range j).all fun k => decide (k < i) || κ.soft k || κ.light k
  | none => false

/-- Two operations whose order matters, one in the text before the other. -/
def clash (ops : Array Oper) (κ : Kind) (i j : Nat) : Bool :=
  match ops[i]?, ops[j]? with
  | some x, some y => !x.apart ops y || (match κ.soft i, κ.soft j with
    | true, true => false
    | false, false => true
    | false, true => !(κ.light i && κ.free j)
    | true, false => !(κ.light j && (κ.free i || (κ.mon i && (κ.grow j || lateOk κ i j)) || (κ.zed i && κ.zcall j))))
  | _, _ => false

def drawOk (ops : Array Oper) (κ : Kind) : Bool :=
  (List.range ops.size).all fun j =>
    (match ops[j]? with
      | some o => o.after.all fun e => !Region.binds .any e || decide (e.on < j)
      | none => true) &&
    (List.range j).all fun i => !clash ops κ i j || ((Region.before ops).getD j 0).testBit i

/-- 2000000 + 1000 * off + t: the row in the cell 'off' of the block that slot t leads to may get its value's name. -/
def sealW (ts : List Nat) (c : AC) : AC :=
  match ts with
  | [] => c
  | t :: r => if 2000000 ≤ t ∧ t < 3000000 then .bare (t % 1000) (t / 1000 - 2000) c else .shut (t :: r) c

/-- Two neighbours in the other order. -/
def swapI (p i : Nat) : Nat := if i = p then p + 1 else if i = p + 1 then p else i
def relab (p : Nat) (o : Oper) : Oper := { o with after := o.after.map (fun e => { e with on := swapI p e.on }), guard := o.guard.map fun jb => (swapI p jb.1, jb.2) }
def swapL : Nat → List Oper → List Oper
  | 0, x :: y :: r => y :: x :: r
  | n + 1, x :: r => x :: swapL n r
  | _, l => l
def swapOps (p : Nat) (ops : Array Oper) : Array Oper := ((swapL p ops.toList).map (relab p)).toArray
/-- The second of two neighbours waits for the first. -/
def edgeO (p : Nat) (o : Oper) : Oper := { o with after := o.after.push ⟨p, .data⟩ }
def edgeL (p : Nat) : Nat → List Oper → List Oper
  | _, [] => []
  | 0, o :: l => edgeO p o :: l
  | n + 1, o :: l => o :: edgeL p n l
def withEdge (p : Nat) (ops : Array Oper) : Array Oper := (edgeL p (p + 1) ops.toList).toArray

/-- A region with two neighbours that nothing orders: two ways. -/
def cTwoAt (P : Program) (cp : CP) (p : Nat) (ops : Array Oper) : AC :=
  match mapO (cOper P cp (withEdge p ops).toList) (withEdge p ops).toList, mapO (cOper P cp (withEdge p (swapOps p ops)).toList) (withEdge p (swapOps p ops)).toList with
    | some a1, some a2 => if p + 1 < ops.size ∧ drawOk (withEdge p ops) (kindOf (withEdge p ops) a1) = true ∧ drawOk (withEdge p (swapOps p ops)) (kindOf (withEdge p (swapOps p ops)) a2) = true ∧ P.follows .mixedOrders = true then .two a1 a2 else .stuck
    | _, _ => .stuck
/-- Here 1000 * (m + 1) + p: the neighbours m and m + 1 are first put the other way round. -/
def cTwo (P : Program) (cp : CP) (id : Nat) (ops : Array Oper) : AC :=
  match cp.pairs.find? fun q => q.1 == id with
  | some (_, p) => if p < 1000 then cTwoAt P cp p ops else if p / 1000 < ops.size then cTwoAt P cp (p % 1000) (swapOps (p / 1000 - 1) ops) else .stuck
  | none => .stuck

def cCode (P : Program) (cp : CP) : Code → Option AC
  | .skip => some .skip
  | .region id ops draw => match mapO (cOper P cp ops.toList) ops.toList with
    | some al => if draw = false ∨ (drawOk ops (kindOf ops al) = true ∧ P.follows .mixedOrders = true) then some (sealW (cp.sealAt id) (.region al)) else some (sealW (cp.sealAt id) (cTwo P cp id ops))
    | none => some .stuck
  | .seq a b => match cCode P cp a, cCode P cp b with
    | some a, some b => some (.seq a b)
    | _, _ => none
  | .cond c x y => match cX c, cCode P cp x, cCode P cp y with
    | some c, some x, some y => some (.cond c x y)
    | _, _, _ => none
  | .block id c => (cCode P cp c).map (.block id)
  | .loop c => if cp.keep = true then (if cp.from_ = 0 then some .stuck else (cCode P cp c).map (.loopN cp.from_)) else (cCode P cp c).map .loop
  | .exit id => some (.exit id)
  | .ret => some .ret
  | _ => some .stuck

def cRes (P : Program) : ResultVar → Option ARes
  | .tmp t => some (.tmp t)
  | .cell a t => (shapeOf P t).map fun (n, g) => .cell a n g

structure AFn where
  nargs : Nat
  ntmps : Nat
  code : AC
  res : List ARes

def cFnP (P : Program) (cp : CP) (f : FuncId) : Option AFn :=
  match P.funcs[f]? with
  | some fn => match fn.body with
    | some c => match cCode P cp c, mapO (cRes P) fn.results.toList with
      | some code, some res => some ⟨fn.params.size, fn.ntmps, code, res⟩
      | _, _ => none
    | none => none
  | none => none
abbrev cFn (P : Program) (f : FuncId) : Option AFn := cFnP P ⟨[], [], [], [], [], [], [], [], [], false, 0⟩ f
end Ab
