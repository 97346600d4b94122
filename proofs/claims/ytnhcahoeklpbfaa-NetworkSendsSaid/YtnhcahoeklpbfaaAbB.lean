/- Abstract code: what the program's code does with abstract values. No program. -/
import Derived.Test.YtnhcahoeklpbfaaAbA
set_option linter.unusedSimpArgs false
set_option linter.unusedVariables false
namespace Ab
open Go Go.RowKit

inductive AX where
  | tmp (t : Nat)
  | const (v : AV)
  deriving Inhabited

inductive AO where
  | mov (x : AX)
  | pick (c a b : AX)
  | alloc (t : TypeId) (zero : List AV)
  | box (t : TypeId) (n : Nat) (x : AX)
  | build (zero : List Atom) (parts : List (Nat × Nat × AX))
  | buildSlice (e sz : Nat) (parts : List AX)
  | load (n : Nat) (agg : Bool) (x : AX)
  | store (n : Nat) (x y : AX)
  | storeN (m n : Nat) (x y : AX)
  | bin (op : BinOp) (x y : AX)
  | eqAgg (neg : Bool) (ks : List Nat) (x y : AX)
  | eqBool (neg : Bool) (x y : AX)
  | un (op : UnOp) (x : AX)
  | toInt (k : IntKind) (x : AX)
  | same (x : AX)
  | strOf (x : AX)
  | slStr (x : AX) (lo hi : Option AX)
  | sl (sz : Nat) (x : AX) (lo hi mx : Option AX)
  | fieldAddr (off : Nat) (x : AX)
  | field (off n : Nat) (agg : Bool) (x : AX)
  | ix (sz : Nat) (x i : AX)
  | ixArr (n sz : Nat) (x i : AX)
  | elem (n sz : Nat) (agg : Bool) (x i : AX)
  | byte (x i : AX)
  | extract (x : AX) (i : Nat)
  | nilCheck (x : AX)
  | mkFunc (f : FuncId) (caps : List AX)
  | call (f : FuncId) (args : List AX)
  | callI (f : FuncId) (args : List AX)
  | callT (f : FuncId) (args : List AX)
  | callF (f : FuncId) (args : List AX)
  | callK (f : FuncId) (args : List AX)
  | loadD (n : Nat) (agg : Bool) (x : AX)
  | loadM (n : Nat) (agg : Bool) (x : AX)
  | ixD (sz : Nat) (x i : AX)
  | lenD (x : AX)
  | callD (f : FuncId) (args : List AX)
  | buildD (zero : List Atom) (parts : List (Nat × Nat × AX))
  | buildSliceD (e sz : Nat) (parts : List AX)
  | make (e sz bytes : Nat) (z : List Atom) (l c : AX)
  | copy (sz : Nat) (x y : AX)
  | appendS (e sz bytes : Nat) (s x : AX)
  | eqNil (neg : Bool) (x : AX)
  | bad
  | callv (x : AX) (args : List AX)
  | callvI (x : AX) (args : List AX)
  | lenS (x : AX)
  | len (x : AX)
  | append (e sz bytes : Nat) (s x : AX)
  | buildO (e sz : Nat) (parts : List AX)
  | appendN (n e sz bytes : Nat) (s x : AX)
  | loadZ (n : Nat) (g : Bool) (x : AX)
  | callZ (f : FuncId) (args : List AX)
  | makeC (e sz bytes : Nat) (z : List Atom) (l c : AX)
  | callFC (f : FuncId) (args : List AX)
  | min (x y : AX)
  | max (x y : AX)
  deriving Inhabited

structure AOp where
  dst : Option Nat
  guard : Option (Nat × Bool)
  op : AO
  deriving Inhabited

inductive AC where
  | skip
  | region (ops : List AOp)
  | seq (a b : AC)
  | cond (c : AX) (x y : AC)
  | block (id : Nat) (c : AC)
  | loop (c : AC)
  | loopN (n : Nat) (c : AC)
  | shut (ts : List Nat) (c : AC)
  | bare (t off : Nat) (c : AC)
  | two (al al' : List AOp)
  | stuck
  | exit (id : Nat)
  | ret
  deriving Inhabited

inductive ARes where
  | tmp (t : Nat)
  | cell (t n : Nat) (agg : Bool)
  deriving Inhabited

/-! ### Evaluation -/

def aval (fr : List AV) : AX → AV
  | .tmp t => fr.getD t .undef
  | .const v => v

/-- The rows of a slice of elements of 'sz' cells. -/
def rowsOf (O : List OwnD) (sz : Nat) : AV → Option (List (List Atom))
  | .a (.slice s rows) => if s = sz then some rows else none
  | .a .nils => some []
  | .full s rows => if s = sz then some rows else none
  | .nn s rows => if s = sz then some rows else none
  | .own k => if (O.getD k default).sz = sz ∧ (O.getD k default).mu = false then some (O.getD k default).rows else none
  | _ => none

/-- As data of one cell. -/
def atomOf (O : List OwnD) : AV → Option Atom
  | .a x => some x
  | .full sz rows => some (.slice sz rows)
  | .own k => if (O.getD k default).mu = false then some (.slice (O.getD k default).sz (O.getD k default).rows) else none
  | .ownv k v => if (O.getD k default).mu = false then some (.exact v (.slice (O.getD k default).sz (O.getD k default).rows)) else none
  | _ => none

/-- The cells of a value, as data. -/
def cellsOf (O : List OwnD) : AV → Option (List Atom)
  | .agg xs => some xs
  | v => (atomOf O v).map ([·])

def atomsOf (O : List OwnD) : List AV → Option (List Atom)
  | [] => some []
  | x :: xs => match atomOf O x, atomsOf O xs with
    | some y, some ys => some (y :: ys)
    | _, _ => none

/-- As an argument: without names of this call's memory. -/
def argOf (O : List OwnD) : AV → Option AV
  | .a x => some (.a x)
  | .agg xs => some (.agg xs)
  | .full sz rows => some (.full sz rows)
  | .own k => if (O.getD k default).mu = false then some (.a (.slice (O.getD k default).sz (O.getD k default).rows)) else none
  | .ptr xs => some (.ptr xs)
  | .nilptr => some .nilptr
  | .clo f [] => some (.clo f [])
  | .undef => some .undef
  | _ => none

def argsOf (O : List OwnD) : List AV → Option (List AV)
  | [] => some []
  | x :: xs => match argOf O x, argsOf O xs with
    | some y, some ys => some (y :: ys)
    | _, _ => none

/-- A value without names of this call's memory. -/
def bare : AV → Bool
  | .a _ | .agg _ | .ptr _ | .nilptr | .undef | .full _ _ | .nn _ _ => true
  | .clo _ [] => true
  | _ => false
def barel : List AV → Bool
  | [] => true
  | x :: xs => bare x && barel xs
theorem rowsOf_bare {O O' : List OwnD} {sz : Nat} {v : AV} (h : bare v = true) : rowsOf O sz v = rowsOf O' sz v := by
  cases v <;> first | rfl | (rename_i x; cases x <;> rfl) | simp [bare] at h
theorem atomOf_bare {O O' : List OwnD} {v : AV} (h : bare v = true) : atomOf O v = atomOf O' v := by
  cases v <;> first | rfl | simp [bare] at h
theorem argOf_bare {O O' : List OwnD} {v : AV} (h : bare v = true) : argOf O v = argOf O' v := by
  cases v with
  | clo f c => cases c with
    | nil => rfl
    | cons => simp [bare] at h
  | _ => first | rfl | simp [bare] at h
theorem argsOf_bare {O O' : List OwnD} : ∀ {l : List AV}, barel l = true → argsOf O l = argsOf O' l
  | [], _ => rfl
  | x :: xs, h => by
    simp only [barel, Bool.and_eq_true] at h
    simp only [argsOf, argOf_bare (O' := O') h.1, argsOf_bare (O' := O') h.2]
theorem atomsOf_bare {O O' : List OwnD} : ∀ {l : List AV}, barel l = true → atomsOf O l = atomsOf O' l
  | [], _ => rfl
  | x :: xs, h => by
    simp only [barel, Bool.and_eq_true] at h
    simp only [atomsOf, atomOf_bare (O' := O') h.1, atomsOf_bare (O' := O') h.2]

def byteRows (l : List UInt8) : List (List Atom) := l.map fun b => [.int .u8 b.toNat]

/-- Equality of cells: kind 0 bool, 1 int, 2 string. -/
def kindEq : Nat → Atom → Atom → Option Bool
  | 0, .bool a, .bool b => some (a == b)
  | 1, .int k a, .int k' b => if k = k' then some (a == b) else none
  | 2, .str a, .str b => some (a.toList == b.toList)
  | _, _, _ => none

def atomsEq : List Nat → List Atom → List Atom → Option Bool
  | [], [], [] => some true
  | k :: ks, x :: xs, y :: ys => match kindEq k x y, atomsEq ks xs ys with
    | some a, some b => some (a && b)
    | _, _ => none
  | _, _, _ => none

/-- A mark that the evaluation takes off. -/
def mk1 {α : Type} (x : α) : α := x

/-! Eliminators: what follows stands behind the last argument. -/
def onOpt {α : Type} : Option α → (α → Prop) → Prop
  | some x, K => K x
  | none, _ => False
/-- Two ways. -/
def onCase : Bool → Prop → Prop → Prop
  | true, p, _ => p
  | false, _, q => q
theorem onCase_intro {b : Bool} {p q : Prop} (h : b = true → p) (k : b = false → q) : onCase b p q := by cases b; exact k rfl; exact h rfl
/-- What must hold before the next step. -/
def agate (c : Prop) (K : Prop) : Prop := c ∧ K
theorem agate_intro {c K : Prop} (h : c) (k : K) : agate c K := ⟨h, k⟩
theorem agate_true (K : Prop) : agate True K = K := by simp [agate]
def onBool : AV → (Bool → Prop) → Prop
  | .a (.bool b), K => K b
  | _, _ => False
def onInt : AV → (IntKind → Int → Prop) → Prop
  | .a (.int k n), K => K k n
  | _, _ => False
def onStr : AV → (ByteArray → Prop) → Prop
  | .a (.str s), K => K s
  | _, _ => False
def onAgg : AV → (List Atom → Prop) → Prop
  | .agg xs, K => K xs
  | _, _ => False
def onTup : AV → (List AV → Prop) → Prop
  | .tup xs, K => K xs
  | _, _ => False
def onClo : AV → (FuncId → List AV → Prop) → Prop
  | .clo f cs, K => K f cs
  | _, _ => False
def onLoc : AV → (Nat → Nat → Prop) → Prop
  | .loc i o, K => K i o
  | _, _ => False

def binInt (op : BinOp) (k k' : IntKind) (m n : Int) (K : AV → Prop) : Prop :=
  match op with
  | .add => agate (k = k') <| K (.a (.int k (k.wrap (m + n))))
  | .sub => agate (k = k') <| K (.a (.int k (k.wrap (m - n))))
  | .mul => agate (k = k') <| K (.a (.int k (k.wrap (m * n))))
  | .quo => agate (k = k' ∧ n ≠ 0) <| K (.a (.int k (k.wrap (m.tdiv n))))
  | .rem => agate (k = k' ∧ n ≠ 0) <| K (.a (.int k (m.tmod n)))
  | .and => agate (k = k') <| K (.a (.int k (k.wrap (BitVec.ofInt k.bits m &&& BitVec.ofInt k.bits n).toNat)))
  | .or => agate (k = k') <| K (.a (.int k (k.wrap (BitVec.ofInt k.bits m ||| BitVec.ofInt k.bits n).toNat)))
  | .xor => agate (k = k') <| K (.a (.int k (k.wrap (BitVec.ofInt k.bits m ^^^ BitVec.ofInt k.bits n).toNat)))
  | .andNot => agate (k = k') <| K (.a (.int k (k.wrap (BitVec.ofInt k.bits m &&& ~~~BitVec.ofInt k.bits n).toNat)))
  | .shl => agate (0 ≤ n) <| K (.a (.int k (k.wrap (m * 2 ^ (Min.min n.toNat k.bits)))))
  | .shr => agate (0 ≤ n) <| K (.a (.int k (m.fdiv (2 ^ (Min.min n.toNat k.bits)))))
  | .eql => agate (k = k') <| K (.a (.bool (m == n)))
  | .neq => agate (k = k') <| K (.a (.bool (m != n)))
  | .lss => agate (k = k') <| K (.a (.bool (decide (m < n))))
  | .leq => agate (k = k') <| K (.a (.bool (decide (m ≤ n))))
  | .gtr => agate (k = k') <| K (.a (.bool (decide (n < m))))
  | .geq => agate (k = k') <| K (.a (.bool (decide (n ≤ m))))

def binStr (op : BinOp) (s t : ByteArray) (K : AV → Prop) : Prop :=
  match op with
  | .add => agate (s.size + t.size ≤ 9223372036854775807) <| K (.a (.str (s ++ t)))
  | .eql => K (.a (.bool (s.toList == t.toList)))
  | .neq => K (.a (.bool (!(s.toList == t.toList))))
  | .lss => K (.a (.bool (Op.bytesLess s.toList t.toList)))
  | .leq => K (.a (.bool (Op.bytesLess s.toList t.toList || s.toList == t.toList)))
  | .gtr => K (.a (.bool (!(Op.bytesLess s.toList t.toList || s.toList == t.toList))))
  | .geq => K (.a (.bool (!Op.bytesLess s.toList t.toList)))
  | _ => False

def abin (op : BinOp) : AV → AV → (AV → Prop) → Prop
  | .a (.int k m), .a (.int k' n), K => binInt op k k' m n K
  | .a (.str s), .a (.str t), K => binStr op s t K
  | _, _, _ => False

def unInt (op : UnOp) (k : IntKind) (n : Int) (K : AV → Prop) : Prop :=
  match op with
  | .neg => K (.a (.int k (k.wrap (0 - n))))
  | .xor => K (.a (.int k (k.wrap (BitVec.ofInt k.bits (if k.signed then -1 else k.max) ^^^ BitVec.ofInt k.bits n).toNat)))
  | _ => False

def unBool (op : UnOp) (b : Bool) (K : AV → Prop) : Prop :=
  match op with
  | .not => K (.a (.bool (!b)))
  | _ => False

def aun (op : UnOp) : AV → (AV → Prop) → Prop
  | .a (.int k n), K => unInt op k n K
  | .a (.bool b), K => unBool op b K
  | _, _ => False

def aload (n : Nat) (agg : Bool) (H : List (List AV)) (O : List OwnD) : AV → (AV → Prop) → Prop
  | .loc id off, K =>
    if agg then onOpt (atomsOf O (((H.getD id []).drop off).take n)) fun xs => agate (xs.length = n) <| K (.agg xs)
    else agate (off < (H.getD id []).length) <| K ((H.getD id []).getD off .any)
  | .ptr xs, K => agate (n ≤ xs.length ∧ 0 < n) <| if agg then K (.agg (xs.take n)) else K (.a (xs.getD 0 default))
  | .eptr k s i f, K => agate (s = (O.getD k default).sz ∧ i < (O.getD k default).rows.length ∧ f + n ≤ s ∧ 0 < n) <| if agg then K (.agg ((((O.getD k default).rows.getD i []).drop f).take n)) else K (.a (((O.getD k default).rows.getD i []).getD f default))
  | _, _ => False

def boundOf (d : Int) : Option AV → Int
  | none => d
  | some (.a (.int _ n)) => n
  | some _ => -1

def aslice (sz : Nat) (lo hi mx : Option AV) (rows : List (List Atom)) (K : AV → Prop) : Prop :=
  match mx with
  | none => agate (0 ≤ boundOf 0 lo ∧ boundOf 0 lo ≤ boundOf rows.length hi ∧ boundOf rows.length hi ≤ rows.length) <|
      K (.a (.slice sz ((rows.take (boundOf rows.length hi).toNat).drop (boundOf 0 lo).toNat)))
  | some m => agate (hi.isSome = true ∧ 0 ≤ boundOf 0 lo ∧ boundOf 0 lo ≤ boundOf rows.length hi ∧ boundOf rows.length hi = boundOf (-1) (some m) ∧ boundOf rows.length hi ≤ rows.length) <|
      K (.full sz ((rows.take (boundOf rows.length hi).toNat).drop (boundOf 0 lo).toNat))

def astr (lo hi : Option AV) (s : ByteArray) (K : AV → Prop) : Prop :=
  agate (0 ≤ boundOf 0 lo ∧ boundOf 0 lo ≤ boundOf s.size hi ∧ boundOf s.size hi ≤ s.size) <| K (.a (.str (s.extract (boundOf 0 lo).toNat (boundOf s.size hi).toNat)))

def isNilOf : AV → AV → Option Bool
  | .nilptr, .nilptr => some true
  | .loc _ _, .nilptr | .nilptr, .loc _ _ | .ptr _, .nilptr | .nilptr, .ptr _ => some false
  | .loc i a, .loc j b => some (decide (i = j ∧ a = b))
  | _, _ => none

def withs (O : List OwnD) : List (Nat × Nat × AV) → List Atom → Option (List Atom)
  | [], cs => some cs
  | (off, n, v) :: rest, cs => match cellsOf O v with
    | some xs => if xs.length = n ∧ off + n ≤ cs.length then withs O rest (cs.take off ++ xs ++ cs.drop (off + n)) else none
    | none => none

/-- The cells of a value with the names that they have. -/
def cellsV (O : List OwnD) (v : AV) : Option (List AV) :=
  match cellsOf O v with
  | some xs => some (xs.map .a)
  | none => match v with
    | .own k => some [.own k]
    | _ => none
def withsV (O : List OwnD) : List (Nat × Nat × AV) → List AV → Option (List AV)
  | [], cs => some cs
  | (off, n, v) :: rest, cs => match cellsV O v with
    | some xs => if xs.length = n ∧ off + n ≤ cs.length then withsV O rest (cs.take off ++ xs ++ cs.drop (off + n)) else none
    | none => none
/-- A struct that is built: of data, or with names in it. -/
def onBuild : Option (List Atom) → Option (List AV) → (AV → Prop) → Prop
  | some cs, _, K => K (.agg cs)
  | none, some cs, K => K (.mix cs)
  | none, none, _ => False

def rowsMade (O : List OwnD) (sz : Nat) : List AV → Option (List (List Atom))
  | [] => some []
  | x :: xs => match cellsOf O x, rowsMade O sz xs with
    | some r, some rs => if r.length = sz then some (r :: rs) else none
    | _, _ => none
theorem cellsOf_bare {O O' : List OwnD} {v : AV} (h : bare v = true) : cellsOf O v = cellsOf O' v := by
  cases v <;> first | rfl | simp [bare] at h
theorem rowsMade_bare {O O' : List OwnD} {sz : Nat} : ∀ {l : List AV}, barel l = true → rowsMade O sz l = rowsMade O' sz l
  | [], _ => rfl
  | x :: xs, h => by
    simp only [barel, Bool.and_eq_true] at h
    simp only [rowsMade, cellsOf_bare (O' := O') h.1, rowsMade_bare (O' := O') h.2]
theorem withs_bare {O O' : List OwnD} : ∀ {l : List (Nat × Nat × AV)} {cs : List Atom}, barel (l.map (·.2.2)) = true → withs O l cs = withs O' l cs
  | [], _, _ => rfl
  | (off, n, v) :: rest, cs, h => by
    simp only [List.map_cons, barel, Bool.and_eq_true] at h
    simp only [withs, cellsOf_bare (O' := O') h.1]
    split
    · split
      · exact withs_bare h.2
      · rfl
    · rfl
end Ab
