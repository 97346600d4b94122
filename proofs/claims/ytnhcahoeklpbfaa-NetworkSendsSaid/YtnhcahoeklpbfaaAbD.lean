/- Weakest preconditions of abstract code. No program. -/
import Derived.Test.YtnhcahoeklpbfaaAbC
set_option linter.unusedSimpArgs false
set_option linter.unusedVariables false
namespace Ab
open Go Go.RowKit

/-- Arguments as they come in. -/
def RepL (S : Nat → Nat → Prop) (w : World) (xs : List AV) (vs : List Value) : Prop :=
  vs.length = xs.length ∧ ∀ (j : Nat) (x : AV) (v : Value), xs[j]? = some x → vs[j]? = some v → RepV ⟨S, [], []⟩ w x v

/-- A function of the program that only computes: whatever memory the arguments lie in, the result stands for r; what was there is as it was. -/
def PDen (P : Program) (f : FuncId) (args : List AV) (r : AV) : Prop :=
  ∀ (S : Nat → Nat → Prop) (w : World) (vs : List Value), (∀ g o, S g o → ∃ u, w.cell? ⟨g, o, none⟩ = some u) → RepL S w args vs →
    Calls P f vs.toArray w fun e w' => ∃ v, ∃ S' : Nat → Nat → Prop, e = .returned v ∧ (∀ g o, S g o → S' g o) ∧ (∀ g o, S' g o → S g o ∨ w.heap.size ≤ g) ∧
      (∀ g o, S' g o → ∃ u, w'.cell? ⟨g, o, none⟩ = some u) ∧ Below w.heap.size w w' ∧ RepV ⟨S', [], []⟩ w' r v

/-- The same, the result a row that may be appended to. -/
def PDenF (P : Program) (f : FuncId) (args : List AV) (d : OwnD) : Prop :=
  ∀ (S : Nat → Nat → Prop) (w : World) (vs : List Value), (∀ g o, S g o → ∃ u, w.cell? ⟨g, o, none⟩ = some u) → RepL S w args vs →
    Calls P f vs.toArray w fun e w' => ∃ v, ∃ S' : Nat → Nat → Prop, e = .returned v ∧ (∀ g o, S g o → S' g o) ∧ (∀ g o, S' g o → S g o ∨ w.heap.size ≤ g) ∧
      (∀ g o, S' g o → ∃ u, w'.cell? ⟨g, o, none⟩ = some u) ∧ Below w.heap.size w w' ∧ OwnOk w.heap.size S' w' v d

/-- What a callee that runs with the caller's memory does: names keep their meaning but those of rows, unless it says so. -/
structure ExtK (keep : Bool) (E : Env) (w : World) (E' : Env) (w' : World) : Prop where
  S : ∀ g o, E.S g o → E'.S g o
  cell : ∀ g o, E.S g o → w'.cell? ⟨g, o, none⟩ = w.cell? ⟨g, o, none⟩
  ι : ∀ (i g : Nat), E.ι[i]? = some g → E'.ι[i]? = some g
  κ : keep = true → ∀ (k : Nat) (v : Value), E.κ[k]? = some v → E'.κ[k]? = some v
def IDen (P : Program) (f : FuncId) (args : List AV) (H : List (List AV)) (O : List OwnD) (r : AV) (H' : List (List AV)) (O' : List OwnD) (keep : Bool) : Prop :=
  ∀ (base : Nat) (w0 : World) (E : Env) (w : World) (vs : List Value), Holds base w0 E w H O → (vs.length = args.length ∧ ∀ (j : Nat) (x : AV) (v : Value), args[j]? = some x → vs[j]? = some v → RepV E w x v) →
    Calls P f vs.toArray w fun e w' => ∃ v E', e = .returned v ∧ Holds base w0 E' w' H' O' ∧ ExtK keep E w E' w' ∧ (∀ g o, E'.S g o → E.S g o ∨ base ≤ g) ∧ RepV E' w' r v

/-- Names of memory alone. -/
def locs : List AV → Bool
  | [] => true
  | .loc _ _ :: xs => locs xs
  | _ :: _ => false
/-- Without names of rows. -/
def forget : AV → AV
  | .own _ => .any
  | .ownv _ _ => .any
  | .ownc _ _ => .any
  | .eptr _ _ _ _ => .any
  | .vsl _ _ _ => .any
  | .mix _ => .any
  | .tup _ => .any
  | .clo f cs => if locs cs = true then .clo f cs else .any
  | v => v
def forgetIf (keep : Bool) (fr : List AV) : List AV :=
  match keep with
  | true => fr
  | false => fr.map forget
def acallI (P : Program) (f : FuncId) (args : List AV) (st : St) (K : AV → St → Prop) : Prop := ∃ r H' O' keep, IDen P f args st.H st.O r H' O' keep ∧ K r ⟨forgetIf keep st.fr, H', O'⟩

/-- A call of a function that makes a new row. -/
def acallF (P : Program) (f : FuncId) (args : List AV) (st : St) (K : AV → St → Prop) : Prop := ∃ d, IDen P f args [] [] (.own 0) [] [d] false ∧ K (.own st.O.length) { st with O := st.O ++ [d] }

/-- The same, of a row of which is known how many fit. -/
def acallFC (P : Program) (f : FuncId) (args : List AV) (st : St) (K : AV → St → Prop) : Prop := ∃ d c, IDen P f args [] [] (.ownc 0 c) [] [d] false ∧ K (.ownc st.O.length c) { st with O := st.O ++ [d] }

/-- A call with the caller's memory that leaves all names as they are. -/
def acallK (P : Program) (f : FuncId) (args : List AV) (st : St) (K : AV → St → Prop) : Prop := ∃ r H' O', IDen P f args st.H st.O r H' O' true ∧ st.H.length ≤ H'.length ∧ K r ⟨st.fr, H', O'⟩

/-- The same, that changes no block but the first. -/
def acallZ (P : Program) (f : FuncId) (args : List AV) (st : St) (K : AV → St → Prop) : Prop := ∃ r H' Y, IDen P f args st.H st.O r H' (st.O ++ Y) true ∧ (H'.length = st.H.length ∧ ∀ id, 1 ≤ id → H'[id]? = st.H[id]?) ∧ K r ⟨st.fr, H', st.O ++ Y⟩

/-- Values without memory. -/
def scalA : Atom → Bool
  | .bool _ | .int _ _ | .str _ | .nils => true
  | .slice _ _ => false
  | .exact _ _ => false
def scal : AV → Bool
  | .a x => scalA x
  | .agg xs => xs.all scalA
  | _ => false
def scalT : AV → Bool
  | .tup xs => xs.all scal
  | v => scal v
/-- An argument that is read for the time of a call. -/
def argOfT (O : List OwnD) : AV → Option AV
  | .own k => some (.a (.slice (O.getD k default).sz (O.getD k default).rows))
  | v => argOf O v
def argsOfT (O : List OwnD) : List AV → Option (List AV)
  | [] => some []
  | x :: xs => match argOfT O x, argsOfT O xs with
    | some y, some ys => some (y :: ys)
    | _, _ => none

def optv (ev : AX → AV) : Option AX → Option AV
  | none => none
  | some x => some (ev x)

/-- A call of a function that only computes. -/
def acall (P : Program) (f : FuncId) (args : List AV) (K : AV → Prop) : Prop := ∃ r, PDen P f args r ∧ K r
def acallT (P : Program) (f : FuncId) (args : List AV) (K : AV → Prop) : Prop := ∃ r, PDen P f args r ∧ scalT r = true ∧ K r
theorem acall_of {P : Program} {f : FuncId} {args : List AV} {K : AV → Prop} {r : AV} (h : PDen P f args r) (hk : K r) : acall P f args K := ⟨r, h, hk⟩

def afield (off : Nat) : AV → (AV → Prop) → Prop
  | .loc id o, K => K (.loc id (o + off))
  | .ptr xs, K => K (.ptr (xs.drop off))
  | .eptr k s i f, K => K (.eptr k s i (f + off))
  | _, _ => False

def anil : AV → (AV → Prop) → Prop
  | .loc id o, K => K (.loc id o)
  | .ptr xs, K => K (.ptr xs)
  | .eptr k s i f, K => K (.eptr k s i f)
  | .clo f cs, K => K (.clo f cs)
  | _, _ => False

def alen (O : List OwnD) : AV → (AV → Prop) → Prop
  | .a (.slice _ rows), K => K (.a (.int .i64 rows.length))
  | .a .nils, K => K (.a (.int .i64 0))
  | .full _ rows, K => K (.a (.int .i64 rows.length))
  | .nn _ rows, K => K (.a (.int .i64 rows.length))
  | .own k, K => K (.a (.int .i64 (O.getD k default).rows.length))
  | .vsl k _ lo, K => K (.a (.int .i64 ((O.getD k default).rows.length - lo : Nat)))
  | _, _ => False

/-- A row that is written. -/
def vecOf (O : List OwnD) : AV → Option Nat
  | .own k => if (O.getD k default).mu = true then some k else none
  | _ => none
def onVec : Option Nat → (Nat → Prop) → Prop → Prop
  | some k, K, _ => K k
  | none, _, q => q
/-- A slice that is full. -/
def onFull : AV → (Nat → List (List Atom) → Prop) → Prop
  | .full s rows, K => K s rows
  | _, _ => False

/-- Whether a slice is nil. -/
def onNil : AV → (Bool → Prop) → Prop
  | .a .nils, K => K true
  | .nn _ _, K => K false
  | .a (.slice _ (_ :: _)), K => K false
  | _, _ => False

/-- What a literal []T{..} is; an empty one is full. -/
def litV (e : Bool) (sz : Nat) (rows : List (List Atom)) : AV :=
  match e with
  | true => .full sz rows
  | false => .a (.slice sz rows)

/-- Rows that are bytes. -/
def onBytes (rows : List (List Atom)) (K : List UInt8 → Prop) : Prop := ∃ l : List UInt8, rows = byteRows l ∧ K l
theorem onBytes_of {l : List UInt8} {K : List UInt8 → Prop} (h : K l) : onBytes (byteRows l) K := ⟨l, rfl, h⟩

/-- Operations that leave names as they are. -/
def asoft (P : Program) (ev : AX → AV) (H : List (List AV)) (O : List OwnD) (K : AV → Prop) : AO → Prop
  | .mov x => K (ev x)
  | .pick c a b => onBool (ev c) fun t => onCase t (K (ev a)) (K (ev b))
  | .build zero parts => onBuild (withs O (parts.map fun p => (p.1, p.2.1, ev p.2.2)) zero) (withsV O (parts.map fun p => (p.1, p.2.1, ev p.2.2)) (zero.map .a)) K
  | .buildSlice _ sz parts => onOpt (rowsMade O sz (parts.map ev)) fun rows => K (litV parts.isEmpty sz rows)
  | .load n g x => aload n g H O (ev x) K
  | .bin op x y => abin op (ev x) (ev y) K
  | .eqAgg neg ks x y => onAgg (ev x) fun xs => onAgg (ev y) fun ys => onOpt (atomsEq ks xs ys) fun b => K (.a (.bool (if neg then !b else b)))
  | .eqBool neg x y => onBool (ev x) fun p => onBool (ev y) fun q => K (.a (.bool (if neg then !(p == q) else p == q)))
  | .un op x => aun op (ev x) K
  | .toInt k x => onInt (ev x) fun _ n => K (.a (.int k (k.wrap n)))
  | .same x => onStr (ev x) fun s => K (.a (.str s))
  | .strOf x => onOpt (rowsOf O 1 (ev x)) fun rows => onBytes rows fun l => K (.a (.str ⟨l.toArray⟩))
  | .slStr x lo hi => onStr (ev x) fun s => astr (optv ev lo) (optv ev hi) s K
  | .sl sz x lo hi mx => onVec (vecOf O (ev x)) (fun k => agate (sz = (O.getD k default).sz ∧ hi.isSome = false ∧ mx.isSome = false ∧ 0 ≤ boundOf 0 (optv ev lo) ∧ boundOf 0 (optv ev lo) ≤ (O.getD k default).rows.length) <| K (.vsl k sz (boundOf 0 (optv ev lo)).toNat))
      (onOpt (rowsOf O sz (ev x)) fun rows => aslice sz (optv ev lo) (optv ev hi) (optv ev mx) rows K)
  | .fieldAddr off x => afield off (ev x) K
  | .field off n g x => onAgg (ev x) fun xs => agate (off + n ≤ xs.length ∧ 0 < n) <| if g then K (.agg ((xs.drop off).take n)) else K (.a (xs.getD off default))
  | .ix sz x i => onVec (vecOf O (ev x)) (fun k => onInt (ev i) fun _ n => agate (sz = (O.getD k default).sz ∧ 0 ≤ n ∧ n < (O.getD k default).rows.length) <| K (.eptr k sz n.toNat 0))
      (onOpt (rowsOf O sz (ev x)) fun rows => onInt (ev i) fun _ n => agate (0 ≤ n ∧ n < rows.length) <| K (.ptr (rows.getD n.toNat [])))
  | .ixArr l sz x i => onLoc (ev x) fun id o => onInt (ev i) fun _ n => agate (0 ≤ n ∧ n < l) <| K (.loc id (o + n.toNat * sz))
  | .elem l n g x i => onAgg (ev x) fun xs => onInt (ev i) fun _ m => agate (0 ≤ m ∧ m < l ∧ (m.toNat + 1) * n ≤ xs.length ∧ (g = false → n = 1)) <| if g then K (.agg ((xs.drop (m.toNat * n)).take n)) else K (.a (xs.getD m.toNat default))
  | .byte x i => onStr (ev x) fun s => onInt (ev i) fun _ n => agate (0 ≤ n ∧ n < s.size) <| K (.a (.int .u8 (s.data.toList.getD n.toNat 0).toNat))
  | .extract x i => onTup (ev x) fun xs => agate (i < xs.length) <| K (xs.getD i .undef)
  | .nilCheck x => anil (ev x) K
  | .call f args => onOpt (argsOf O (args.map ev)) fun as => acall P f as K
  | .lenS x => onStr (ev x) fun s => K (.a (.int .i64 s.size))
  | .mkFunc f caps => K (.clo f (caps.map ev))
  | .callv x args => onClo (ev x) fun f cs => agate (cs = [] ∧ bodied P f = true) <| onOpt (argsOf O (args.map ev)) fun as => acall P f as K
  | .len x => alen O (ev x) K
  | .min x y => onInt (ev x) fun k m => onInt (ev y) fun _ n => K (.a (.int k (if n < m then n else m)))
  | .max x y => onInt (ev x) fun k m => onInt (ev y) fun _ n => K (.a (.int k (if n > m then n else m)))
  | .callT f args => onOpt (argsOfT O (args.map ev)) fun as => acallT P f as K
  | .loadD n g x => agate (bare (ev x) = true) <| aload n g H O (ev x) K
  | .loadM n g x => onLoc (ev x) fun id off => agate (id < H.length ∧ barel (((H.getD id []).drop off).take (if g then n else 1)) = true) <| aload n g H O (.loc id off) K
  | .loadZ n g x => onLoc (ev x) fun id off => agate (1 ≤ id ∧ id < H.length ∧ (g = true → barel (((H.getD id []).drop off).take n) = true)) <| aload n g H O (.loc id off) K
  | .ixD sz x i => agate (bare (ev x) = true) <| onOpt (rowsOf O sz (ev x)) fun rows => onInt (ev i) fun _ n => agate (0 ≤ n ∧ n < rows.length) <| K (.ptr (rows.getD n.toNat []))
  | .lenD x => agate (bare (ev x) = true) <| alen O (ev x) K
  | .callD f args => agate (barel (args.map ev) = true) <| onOpt (argsOf O (args.map ev)) fun as => acall P f as K
  | .buildD zero parts => agate (barel (parts.map fun p => ev p.2.2) = true) <| onOpt (withs O (parts.map fun p => (p.1, p.2.1, ev p.2.2)) zero) fun cs => K (.agg cs)
  | .buildSliceD _ sz parts => agate (barel (parts.map ev) = true) <| onOpt (rowsMade O sz (parts.map ev)) fun rows => K (litV parts.isEmpty sz rows)
  | .eqNil neg x => onNil (ev x) fun b => K (.a (.bool (if neg then !b else b)))
  | .appendS _ sz bytes s x => onOpt (rowsOf O sz (ev x)) fun news => onFull (ev s) fun s' rows => agate (s' = sz ∧ 0 < sz ∧ (rows.length + news.length + (rows.length + news.length) / 4 + 192) * bytes ≤ 281474976710656 ∧ rows.length + news.length ≤ 9223372036854775807) <| K (.a (.slice sz (rows ++ news)))
  | _ => False

/-- The cells of a value, to be laid into memory of the call's own. -/
def layOf : AV → List AV
  | .agg xs => xs.map .a
  | .mix xs => xs
  | v => [v]

def layable1 : AV → Bool
  | .a _ | .own _ | .loc .. | .ptr _ | .nilptr => true
  | _ => false
def layable : AV → Bool
  | .mix xs => xs.all layable1
  | .a _ | .agg _ | .loc .. | .ptr _ | .nilptr | .own _ | .clo .. => true
  | _ => false

def inval (k : Nat) : AV → AV
  | .ownv j v => if j = k then .any else .ownv j v
  | .ownc j c => if j = k then .any else .ownc j c
  | .own j => if j = k then .any else .own j
  | .eptr _ _ _ _ => .any
  | .vsl _ _ _ => .any
  | .mix _ => .any
  | .tup _ => .any
  | .clo f cs => if locs cs = true then .clo f cs else .any
  | v => v

def aappend (e sz bytes : Nat) (news : List (List Atom)) (st : St) : AV → (AV → St → Prop) → Prop
  | .a .nils, K => agate (0 < sz ∧ (news.length + news.length / 4 + 192) * bytes ≤ 281474976710656 ∧ news.length ≤ 9223372036854775807) <| K (.own st.O.length) { st with O := st.O ++ [⟨e, sz, news, false⟩] }
  | .full s rows, K => agate (s = sz ∧ 0 < sz ∧ (rows.length + news.length + (rows.length + news.length) / 4 + 192) * bytes ≤ 281474976710656 ∧ rows.length + news.length ≤ 9223372036854775807) <| K (.a (.slice sz (rows ++ news))) st
  | .own k, K => agate ((st.O.getD k default).sz = sz ∧ (st.O.getD k default).e = e ∧ ((st.O.getD k default).rows.length + news.length + ((st.O.getD k default).rows.length + news.length) / 4 + 192) * bytes ≤ 281474976710656 ∧ (st.O.getD k default).rows.length + news.length ≤ 9223372036854775807) <|
        K (.own k) { fr := st.fr.map (inval k), H := st.H.map (·.map (inval k)), O := st.O.set k ⟨e, sz, (st.O.getD k default).rows ++ news, (st.O.getD k default).mu⟩ }
  | .a (.exact v _), K => ∃ id off k, (st.H.getD id []).getD off .undef = .ownv k v ∧ (agate ((st.O.getD k default).sz = sz ∧ (st.O.getD k default).e = e ∧ ((st.O.getD k default).rows.length + news.length + ((st.O.getD k default).rows.length + news.length) / 4 + 192) * bytes ≤ 281474976710656 ∧ (st.O.getD k default).rows.length + news.length ≤ 9223372036854775807) <|
        K (.own k) { fr := st.fr.map (inval k), H := st.H.map (·.map (inval k)), O := st.O.set k ⟨e, sz, (st.O.getD k default).rows ++ news, (st.O.getD k default).mu⟩ })
  | .ownc k c, K => agate ((st.O.getD k default).sz = sz ∧ (st.O.getD k default).e = e ∧ (st.O.getD k default).rows.length + news.length ≤ c ∧ (st.O.getD k default).rows.length + news.length ≤ 9223372036854775807) <|
        K (.ownc k c) { fr := st.fr.map (inval k), H := st.H.map (·.map (inval k)), O := st.O.set k ⟨e, sz, (st.O.getD k default).rows ++ news, (st.O.getD k default).mu⟩ }
  | _, _ => False

/-- No data stand for a builder's own address. -/
theorem bty_lay {x : AV} (h : layable x = true) : bty (layOf x) = none := by
  cases x with
  | agg xs => cases xs <;> rfl
  | mix xs =>
    cases xs with
    | nil => rfl
    | cons y ys =>
      simp only [layable, List.all_cons, Bool.and_eq_true] at h
      cases y <;> first | rfl | (simp [layable1] at h)
  | bself => simp [layable] at h
  | _ => rfl

/-- A store. -/
def astore (n : Nat) (st : St) (y : AV) (K : AV → St → Prop) : AV → Prop
  | .loc id off => agate (layable y = true ∧ (layOf y).length = n ∧ off + n ≤ (st.H.getD id []).length) <|
        K .undef { st with H := st.H.set id ((st.H.getD id []).take off ++ layOf y ++ (st.H.getD id []).drop (off + n)) }
  | .eptr k s i f => onOpt (cellsOf st.O y) fun xs => agate ((st.O.getD k default).mu = true ∧ s = (st.O.getD k default).sz ∧ i < (st.O.getD k default).rows.length ∧ f + n ≤ s ∧ xs.length = n) <|
        K .undef { st with O := st.O.set k ⟨(st.O.getD k default).e, (st.O.getD k default).sz, (st.O.getD k default).rows.set i (((st.O.getD k default).rows.getD i []).take f ++ xs ++ ((st.O.getD k default).rows.getD i []).drop (f + n)), true⟩ }
  | _ => False

/-- A store into a block that at most m blocks are newer than. -/
def astoreN (m n : Nat) (st : St) (y : AV) (K : AV → St → Prop) : AV → Prop
  | .loc id off => agate (layable y = true ∧ (layOf y).length = n ∧ off + n ≤ (st.H.getD id []).length ∧ st.H.length ≤ id + m) <|
        K .undef { st with H := st.H.set id ((st.H.getD id []).take off ++ layOf y ++ (st.H.getD id []).drop (off + n)) }
  | _ => False

/-- What copy leaves of a row. -/
def copied (rows src : List (List Atom)) (lo : Nat) : List (List Atom) := rows.take lo ++ src.take (rows.length - lo) ++ rows.drop (lo + Min.min src.length (rows.length - lo))

def acopy (sz : Nat) (src : List (List Atom)) (st : St) (K : AV → St → Prop) : AV → Prop
  | .own k => agate ((st.O.getD k default).mu = true ∧ sz = (st.O.getD k default).sz) <|
        K (.a (.int .i64 (Min.min src.length (st.O.getD k default).rows.length : Nat))) { st with O := st.O.set k ⟨(st.O.getD k default).e, (st.O.getD k default).sz, copied (st.O.getD k default).rows src 0, true⟩ }
  | .vsl k s lo => agate ((st.O.getD k default).mu = true ∧ sz = (st.O.getD k default).sz ∧ s = sz ∧ lo ≤ (st.O.getD k default).rows.length) <|
        K (.a (.int .i64 (Min.min src.length ((st.O.getD k default).rows.length - lo) : Nat))) { st with O := st.O.set k ⟨(st.O.getD k default).e, (st.O.getD k default).sz, copied (st.O.getD k default).rows src lo, true⟩ }
  | _ => False

/-- No row that was there before. -/
def fromN (n : Nat) : AV → Prop
  | .own k => n ≤ k
  | .ownc k _ => n ≤ k
  | .a (.exact _ _) => False
  | _ => True

def aeff (P : Program) (st : St) (K : AV → St → Prop) : AO → Prop
  | .alloc _ zero => K (.loc st.H.length 0) { st with H := st.H ++ [zero] }
  | .box _ n x => agate (layable (aval st.fr x) = true ∧ (layOf (aval st.fr x)).length = n) <| K (.loc st.H.length 0) { st with H := st.H ++ [layOf (aval st.fr x)] }
  | .store n x y => astore n st (aval st.fr y) K (aval st.fr x)
  | .storeN m n x y => astoreN m n st (aval st.fr y) K (aval st.fr x)
  | .make e sz bytes z l c => onInt (aval st.fr l) fun _ n => onInt (aval st.fr c) fun _ m => agate (0 ≤ n ∧ n ≤ m ∧ (bytes : Int) * m ≤ 281474976710656 ∧ m ≤ 9223372036854775807 ∧ 0 < sz ∧ z.length = sz) <|
        K (.own st.O.length) { st with O := st.O ++ [⟨e, sz, List.replicate n.toNat z, true⟩] }
  | .copy sz x y => onOpt (rowsOf st.O sz (aval st.fr y)) fun src => acopy sz src st K (aval st.fr x)
  | .append e sz bytes s x => onOpt (rowsOf st.O sz (aval st.fr x)) fun news => aappend e sz bytes news st (aval st.fr s) K
  | .appendN n e sz bytes s x => onOpt (rowsOf st.O sz (aval st.fr x)) fun news => agate (fromN n (aval st.fr s)) <| aappend e sz bytes news st (aval st.fr s) K
  | .callI f args => acallI P f (args.map (aval st.fr)) st K
  | .callvI x args => onClo (aval st.fr x) fun f cs => agate (bodied P f = true) <| acallI P f (args.map (aval st.fr) ++ cs) st K
  | .callF f args => onOpt (argsOf st.O (args.map (aval st.fr))) fun as => acallF P f as st K
  | .callFC f args => onOpt (argsOf st.O (args.map (aval st.fr))) fun as => acallFC P f as st K
  | .makeC e sz bytes z l c => onInt (aval st.fr l) fun _ n => onInt (aval st.fr c) fun _ m => agate (0 ≤ n ∧ n ≤ m ∧ (bytes : Int) * m ≤ 281474976710656 ∧ m ≤ 9223372036854775807 ∧ 0 < sz ∧ z.length = sz) <|
        K (.ownc st.O.length m.toNat) { st with O := st.O ++ [⟨e, sz, List.replicate n.toNat z, true⟩] }
  | .callK f args => acallK P f (args.map (aval st.fr)) st K
  | .callZ f args => acallZ P f (args.map (aval st.fr)) st K
  | .buildO e sz parts => onOpt (rowsMade st.O sz (parts.map (aval st.fr))) fun rows => agate (rows ≠ [] ∧ 0 < sz) <| K (.own st.O.length) { st with O := st.O ++ [⟨e, sz, rows, true⟩] }
  | _ => False

def aop (P : Program) (o : AO) (st : St) (K : AV → St → Prop) : Prop :=
  if isSoft o then asoft P (aval st.fr) st.H st.O (fun v => K v st) o else aeff P st K o

/-- A guard: run, or pass by. -/
def aguard (want : Bool) : AV → (Prop) → (Prop) → (Prop) → Prop
  | .a (.bool b), run, pass, _ => onCase (b == want) run pass
  | .undef, _, _, skip => skip
  | _, _, _, _ => False

def aops (P : Program) (K : St → Prop) : List AOp → St → Prop
  | [], st => K st
  | ⟨dst, none, op⟩ :: rest, st => aop P op st fun v st' => aops P K rest (st'.put dst v)
  | ⟨dst, some (t, want), op⟩ :: rest, st => aguard want (st.fr.getD t .undef)
      (aop P op { st with fr := st.fr.set t (.a (.bool want)) } fun v st' => aops P K rest (st'.put dst v))
      (aops P K rest (({ st with fr := st.fr.set t (.a (.bool (!want))) } : St).put dst .undef))
      (aops P K rest (st.put dst .undef))

/-- What is known less of. -/
def leV (x y : AV) : Prop :=
  match y with
  | .any => True
  | y => x = y

def leF : List AV → List AV → Prop
  | [], [] => True
  | x :: xs, y :: ys => leV x y ∧ leF xs ys
  | _, _ => False

def boundS (nH nO : Nat) : AV → Bool
  | .loc id _ => decide (id < nH)
  | .own k => decide (k < nO)
  | .ownv k _ => decide (k < nO)
  | .ownc k _ => decide (k < nO)
  | .eptr k _ _ _ => decide (k < nO)
  | .vsl k _ _ => decide (k < nO)
  | .tup _ => false
  | .mix _ => false
  | .clo _ (_ :: _) => false
  | _ => true

def boundV (nH nO : Nat) : AV → Bool
  | .tup xs => xs.all (boundS nH nO)
  | .mix xs => xs.all (boundS nH nO)
  | .clo _ xs => xs.all (boundS nH nO)
  | v => boundS nH nO v

structure Weak (st st' : St) : Prop where
  fr : leF st.fr st'.fr
  H : st.H.take st'.H.length = st'.H
  O : st.O.take st'.O.length = st'.O
  bfr : st'.fr.all (boundV st'.H.length st'.O.length) = true
  bH : st'.H.all (·.all (boundV st'.H.length st'.O.length)) = true

def thenQ (next : St → Prop) (Q : Exit → St → Prop) : Exit → St → Prop
  | .normal, st => next st
  | e, st => Q e st
def blockQ (id : Nat) (Q : Exit → St → Prop) : Exit → St → Prop
  | .exit i, st => if i = id then Q .normal st else Q (.exit i) st
  | e, st => Q e st
def loopQ {α : Type} (I : α → Prop) (F : α → St) (μ : α → Nat) (x : α) (Q : Exit → St → Prop) : Exit → St → Prop
  | .normal, st => ∃ y, I y ∧ μ y < μ x ∧ Weak st (F y)
  | e, st => Q e st

/-- A nil slice, in a slot or in a cell of the call's own memory, may be called a row of the call's own. -/
inductive Nm where
  | slot (t : Nat) (e : TypeId) (sz : Nat)
  | cell (id off : Nat) (e : TypeId) (sz : Nat)
  | slotM (t : Nat) (e : TypeId) (sz : Nat)
def St.nm (st : St) : Nm → St
  | .slot t e sz => ⟨st.fr.set t (.own st.O.length), st.H, st.O ++ [⟨e, sz, [], false⟩]⟩
  | .cell id off e sz => ⟨st.fr, st.H.set id ((st.H.getD id []).set off (.own st.O.length)), st.O ++ [⟨e, sz, [], false⟩]⟩
  | .slotM t e sz => ⟨st.fr.set t (.own st.O.length), st.H, st.O ++ [⟨e, sz, [], true⟩]⟩
def nmOk (st : St) : Nm → Prop
  | .slotM t _ sz => st.fr.getD t .undef = .a .nils ∧ 0 < sz
  | .slot t _ sz => st.fr.getD t .undef = .a .nils ∧ 0 < sz
  | .cell id off _ sz => (st.H.getD id []).getD off .undef = .a .nils ∧ 0 < sz
def nms : List Nm → St → St
  | [], st => st
  | n :: ns, st => nms ns (st.nm n)
def nmsOk : List Nm → St → Prop
  | [], _ => True
  | n :: ns, st => nmOk st n ∧ nmsOk ns (st.nm n)

/-- From now on a row is only read and appended to. -/
def sealO (O : List OwnD) : AV → List OwnD
  | .own k => O.set k ⟨(O.getD k default).e, (O.getD k default).sz, (O.getD k default).rows, false⟩
  | _ => O
def sealL (O : List OwnD) : List AV → List OwnD
  | [] => O
  | x :: xs => sealL (sealO O x) xs
/-- A slot's row, or the rows in the cells that a slot leads to. -/
def seal1 (st : St) : AV → St
  | .loc id _ => { st with O := sealL st.O (st.H.getD id []) }
  | x => { st with O := sealO st.O x }
/-- A slot's row, that is only read, as what it holds. -/
def toArgV (st : St) (t : Nat) : Option AV → St
  | some y => { st with fr := st.fr.set t y }
  | none => st
def toArg (st : St) (t : Nat) : St := toArgV st t (argOf st.O (st.fr.getD t .undef))
/-- A row's name without and with what is known of its room. -/
def plainV : AV → AV
  | .ownc k _ => .own k
  | x => x
def roomV : AV → AV → AV
  | .ownc k c, .own j => if j = k then .ownc k c else .own j
  | _, x => x
/-- 3000000 + slot: without; 4000000 + 1000 * a + b: slot b's name with what slot a knows. -/
def capS (t : Nat) (st : St) : St :=
  if t < 4000000 then { st with fr := st.fr.set (t - 3000000) (plainV (st.fr.getD (t - 3000000) .undef)) }
  else { st with fr := st.fr.set ((t - 4000000) % 1000) (roomV (st.fr.getD ((t - 4000000) / 1000) .undef) (st.fr.getD ((t - 4000000) % 1000) .undef)) }
/-- A slot's number with a million added: its row is from then on no more the call's own. -/
def sealS : List Nat → St → St
  | [], st => st
  | t :: ts, st => sealS ts (if 3000000 ≤ t then capS t st else if 1000000 ≤ t then toArg (seal1 st (st.fr.getD (t - 1000000) .undef)) (t - 1000000) else seal1 st (st.fr.getD t .undef))

/-- The row in a cell of a block gets the name of its value. -/
def baredAV (v : Value) : AV → AV
  | .own k => .ownv k v
  | x => x
def baredC (id off : Nat) (v : Value) (st : St) : St := { st with H := st.H.set id ((st.H.getD id []).set off (baredAV v ((st.H.getD id []).getD off .any))) }
def baredL (off : Nat) (v : Value) (st : St) : AV → St
  | .loc id o => baredC id (o + off) v st
  | _ => st
def bared (t off : Nat) (v : Value) (st : St) : St := baredL off v st (st.fr.getD t .undef)
/-- A loop: what holds at its head, and a measure. 'body' is the loop's body. -/
def aloop (body : (Exit → St → Prop) → St → Prop) (Q : Exit → St → Prop) (st : St) : Prop :=
  ∃ ns, nmsOk ns st ∧ ∃ (α : Type) (I : α → Prop) (F : α → St) (μ : α → Nat) (x0 : α), I x0 ∧ Weak (nms ns st) (F x0) ∧ (∀ x, I x → st.H.length ≤ (F x).H.length) ∧ ∀ x, I x → body (loopQ I F μ x Q) (F x)

/-- A loop that leaves the first n rows as they are. -/
def aloopN (n : Nat) (body : (Exit → St → Prop) → St → Prop) (Q : Exit → St → Prop) (st : St) : Prop :=
  ∃ ns, nmsOk ns st ∧ ∃ (α : Type) (I : α → Prop) (F : α → St) (μ : α → Nat) (x0 : α), I x0 ∧ Weak (nms ns st) (F x0) ∧ (∀ x, I x → st.H.length ≤ (F x).H.length ∧ n ≤ (F x).O.length) ∧ ∀ x, I x → body (loopQ I F μ x Q) (F x)

/-- Slots of which nothing is known any more. -/
def havoc : List Nat → List AV → List AV
  | [], fr => fr
  | t :: ts, fr => havoc ts (fr.set t .any)
def sets : List (Nat × AV) → List AV → List AV
  | [], fr => fr
  | (t, v) :: ts, fr => sets ts (fr.set t v)

def awp (P : Program) : AC → (Exit → St → Prop) → St → Prop
  | .skip, Q, st => Q .normal st
  | .region ops, Q, st => aops P (Q .normal) ops st
  | .seq a b, Q, st => awp P a (thenQ (awp P b Q) Q) st
  | .cond c x y, Q, st => onBool (aval st.fr c) fun t => onCase t (awp P x Q st) (awp P y Q st)
  | .block id c, Q, st => awp P c (blockQ id Q) st
  | .loop c, Q, st => aloop (awp P c) Q (mk1 st)
  | .loopN n c, Q, st => aloopN n (awp P c) Q st
  | .exit id, Q, st => Q (.exit id) st
  | .ret, Q, st => Q .ret st
  | .shut ts c, Q, st => awp P c Q (sealS ts st)
  | .bare t off c, Q, st => awp P c Q st ∨ ∀ v, awp P c Q (bared t off v st)
  | .two al al', Q, st => aops P (Q .normal) al st ∧ aops P (Q .normal) al' st
  | .stuck, _, _ => False

/-- The result that the result slots hold. -/
def ares (st : St) : List ARes → Option (List AV)
  | [] => some []
  | .tmp t :: rs => match argOf st.O (st.fr.getD t .undef), ares st rs with
    | some v, some vs => some (v :: vs)
    | _, _ => none
  | .cell t n g :: rs => match st.fr.getD t .undef, ares st rs with
    | .loc id off, some vs =>
      if g then match atomsOf st.O (((st.H.getD id []).drop off).take n) with
        | some xs => if xs.length = n then some (.agg xs :: vs) else none
        | none => none
      else match argOf st.O ((st.H.getD id []).getD off .any) with
        | some v => some (v :: vs)
        | none => none
    | _, _ => none

def aresult (st : St) (rs : List ARes) : Option AV :=
  match ares st rs with
  | some [v] => some v
  | some vs => some (.tup vs)
  | none => none

/-- The results with the names that they have. -/
def aggI (O : List OwnD) (cs : List AV) : Option AV :=
  match atomsOf O cs with
  | some xs => some (.agg xs)
  | none => some (.mix cs)
def aresI (st : St) : List ARes → Option (List AV)
  | [] => some []
  | .tmp t :: rs => match aresI st rs with
    | some vs => some (st.fr.getD t .undef :: vs)
    | none => none
  | .cell t n g :: rs => match st.fr.getD t .undef, aresI st rs with
    | .loc id off, some vs =>
      if g then if (((st.H.getD id []).drop off).take n).length = n then match aggI st.O (((st.H.getD id []).drop off).take n) with
        | some v => some (v :: vs)
        | none => none
        else none
      else if off < (st.H.getD id []).length then some ((st.H.getD id []).getD off .any :: vs) else none
    | _, _ => none
def aresultI (st : St) (rs : List ARes) : Option AV :=
  match aresI st rs with
  | some [v] => some v
  | some vs => some (.tup vs)
  | none => none
def retI (rs : List ARes) (r : AV) (H' : List (List AV)) (O' : List OwnD) : Exit → St → Prop
  | .normal, st => aresultI st rs = some r ∧ st.H.take H'.length = H' ∧ st.O = O'
  | .ret, st => aresultI st rs = some r ∧ st.H.take H'.length = H' ∧ st.O = O'
  | _, _ => False
def bodyI (P : Program) (fn : AFn) (args : List AV) (H : List (List AV)) (O : List OwnD) (r : AV) (H' : List (List AV)) (O' : List OwnD) : Prop :=
  args.length = args.length ∧ args.length ≤ fn.ntmps ∧ (H.length ≤ H'.length ∧ H'.all (·.all (boundV H'.length O'.length)) = true ∧ boundV H'.length O'.length r = true) ∧
  awp P fn.code (retI fn.res r H' O') ⟨args ++ List.replicate (fn.ntmps - args.length) .undef, H, O⟩

def retQ (rs : List ARes) (r : AV) : Exit → St → Prop
  | .normal, st => aresult st rs = some r
  | .ret, st => aresult st rs = some r
  | _, _ => False

/-- The body of a function gives r. -/
def bodyWp (P : Program) (fn : AFn) (args : List AV) (r : AV) : Prop :=
  args.length = fn.nargs ∧ args.length ≤ fn.ntmps ∧
  awp P fn.code (retQ fn.res r) ⟨args ++ List.replicate (fn.ntmps - args.length) .undef, [], []⟩

/-! What follows an operation is not looked at before its turn. -/
section
variable {P : Program}
@[congr] theorem awp_congr {c : AC} {Q : Exit → St → Prop} {st st' : St} (h : st = st') : awp P c Q st = awp P c Q st' := by rw [h]
@[congr] theorem aloop_congr {b : (Exit → St → Prop) → St → Prop} {Q : Exit → St → Prop} {st st' : St} (h : st = st') : aloop b Q st = aloop b Q st' := by rw [h]
@[congr] theorem aops_congr {K : St → Prop} {l : List AOp} {st st' : St} (h : st = st') : aops P K l st = aops P K l st' := by rw [h]
@[congr] theorem aop_congr {o : AO} {K : AV → St → Prop} {st st' : St} (h : st = st') : aop P o st K = aop P o st' K := by rw [h]
@[congr] theorem abin_congr {op : BinOp} {x x' y y' : AV} {K : AV → Prop} (h : x = x') (h' : y = y') : abin op x y K = abin op x' y' K := by rw [h, h']
@[congr] theorem aun_congr {op : UnOp} {x x' : AV} {K : AV → Prop} (h : x = x') : aun op x K = aun op x' K := by rw [h]
@[congr] theorem aload_congr {n : Nat} {g : Bool} {H H' : List (List AV)} {O O' : List OwnD} {x x' : AV} {K : AV → Prop} (h : x = x') (h1 : H = H') (h2 : O = O') : aload n g H O x K = aload n g H' O' x' K := by rw [h, h1, h2]
@[congr] theorem onOpt_congr {α : Type} {x x' : Option α} {K : α → Prop} (h : x = x') : onOpt x K = onOpt x' K := by rw [h]
@[congr] theorem agate_congr {c c' : Prop} {K : Prop} (h : c = c') : agate c K = agate c' K := by rw [h]
@[congr] theorem onBytes_congr {r r' : List (List Atom)} {K : List UInt8 → Prop} (h : r = r') : onBytes r K = onBytes r' K := by rw [h]
@[congr] theorem onCase_congr {b b' : Bool} {p q : Prop} (h : b = b') : onCase b p q = onCase b' p q := by rw [h]
@[congr] theorem onBool_congr {x x' : AV} {K : Bool → Prop} (h : x = x') : onBool x K = onBool x' K := by rw [h]
@[congr] theorem onInt_congr {x x' : AV} {K : IntKind → Int → Prop} (h : x = x') : onInt x K = onInt x' K := by rw [h]
@[congr] theorem onStr_congr {x x' : AV} {K : ByteArray → Prop} (h : x = x') : onStr x K = onStr x' K := by rw [h]
@[congr] theorem onAgg_congr {x x' : AV} {K : List Atom → Prop} (h : x = x') : onAgg x K = onAgg x' K := by rw [h]
@[congr] theorem onTup_congr {x x' : AV} {K : List AV → Prop} (h : x = x') : onTup x K = onTup x' K := by rw [h]
@[congr] theorem onLoc_congr {x x' : AV} {K : Nat → Nat → Prop} (h : x = x') : onLoc x K = onLoc x' K := by rw [h]
@[congr] theorem acall_congr {f : FuncId} {as as' : List AV} {K : AV → Prop} (h : as = as') : acall P f as K = acall P f as' K := by rw [h]
@[congr] theorem afield_congr {n : Nat} {x x' : AV} {K : AV → Prop} (h : x = x') : afield n x K = afield n x' K := by rw [h]
@[congr] theorem anil_congr {x x' : AV} {K : AV → Prop} (h : x = x') : anil x K = anil x' K := by rw [h]
@[congr] theorem alen_congr {O : List OwnD} {x x' : AV} {K : AV → Prop} (h : x = x') : alen O x K = alen O x' K := by rw [h]
@[congr] theorem aslice_congr {sz : Nat} {a a' b b' c c' : Option AV} {rows rows' : List (List Atom)} {K : AV → Prop} (h : a = a') (h1 : b = b') (h2 : c = c') (h3 : rows = rows') : aslice sz a b c rows K = aslice sz a' b' c' rows' K := by rw [h, h1, h2, h3]
@[congr] theorem astr_congr {a a' b b' : Option AV} {s s' : ByteArray} {K : AV → Prop} (h : a = a') (h1 : b = b') (h3 : s = s') : astr a b s K = astr a' b' s' K := by rw [h, h1, h3]
@[congr] theorem onNil_congr {x x' : AV} {K : Bool → Prop} (h : x = x') : onNil x K = onNil x' K := by rw [h]
@[congr] theorem acallT_congr {f : FuncId} {as as' : List AV} {K : AV → Prop} (h : as = as') : acallT P f as K = acallT P f as' K := by rw [h]
@[congr] theorem acallI_congr {f : FuncId} {as as' : List AV} {st st' : St} {K : AV → St → Prop} (h : as = as') (h1 : st = st') : acallI P f as st K = acallI P f as' st' K := by rw [h, h1]
@[congr] theorem acallFC_congr {f : FuncId} {as as' : List AV} {st st' : St} {K : AV → St → Prop} (h : as = as') (h1 : st = st') : acallFC P f as st K = acallFC P f as' st' K := by rw [h, h1]
@[congr] theorem acallF_congr {f : FuncId} {as as' : List AV} {st st' : St} {K : AV → St → Prop} (h : as = as') (h1 : st = st') : acallF P f as st K = acallF P f as' st' K := by rw [h, h1]
@[congr] theorem acallK_congr {f : FuncId} {as as' : List AV} {st st' : St} {K : AV → St → Prop} (h : as = as') (h1 : st = st') : acallK P f as st K = acallK P f as' st' K := by rw [h, h1]
@[congr] theorem onBuild_congr {x x' : Option (List Atom)} {y : Option (List AV)} {K : AV → Prop} (h : x = x') : onBuild x y K = onBuild x' y K := by rw [h]
@[congr] theorem onVec_congr {x x' : Option Nat} {K : Nat → Prop} {q : Prop} (h : x = x') : onVec x K q = onVec x' K q := by rw [h]
@[congr] theorem onFull_congr {x x' : AV} {K : Nat → List (List Atom) → Prop} (h : x = x') : onFull x K = onFull x' K := by rw [h]
@[congr] theorem astoreN_congr {m n : Nat} {st st' : St} {y y' x x' : AV} {K : AV → St → Prop} (h : st = st') (h1 : y = y') (h2 : x = x') : astoreN m n st y K x = astoreN m n st' y' K x' := by rw [h, h1, h2]
@[congr] theorem astore_congr {n : Nat} {st st' : St} {y y' x x' : AV} {K : AV → St → Prop} (h : st = st') (h1 : y = y') (h2 : x = x') : astore n st y K x = astore n st' y' K x' := by rw [h, h1, h2]
@[congr] theorem acopy_congr {n : Nat} {s s' : List (List Atom)} {st st' : St} {x x' : AV} {K : AV → St → Prop} (h0 : s = s') (h : st = st') (h2 : x = x') : acopy n s st K x = acopy n s' st' K x' := by rw [h0, h, h2]
@[congr] theorem aappend_congr {e sz b : Nat} {n n' : List (List Atom)} {st st' : St} {x x' : AV} {K : AV → St → Prop} (h : n = n') (h1 : st = st') (h2 : x = x') : aappend e sz b n st x K = aappend e sz b n' st' x' K := by rw [h, h1, h2]
@[congr] theorem aguard_congr {want : Bool} {x x' : AV} {p q r : Prop} (h : x = x') : aguard want x p q r = aguard want x' p q r := by rw [h]
end

section
variable {α : Type} {next : St → Prop} {Q : Exit → St → Prop} {st : St} {i id : Nat} {I : α → Prop} {F : α → St} {μ : α → Nat} {x : α}
theorem thenQ_normal : thenQ next Q .normal st = next st := rfl
theorem thenQ_exit : thenQ next Q (.exit i) st = Q (.exit i) st := rfl
theorem thenQ_ret : thenQ next Q .ret st = Q .ret st := rfl
theorem blockQ_normal : blockQ id Q .normal st = Q .normal st := rfl
theorem blockQ_exit : blockQ id Q (.exit i) st = if i = id then Q .normal st else Q (.exit i) st := rfl
theorem blockQ_ret : blockQ id Q .ret st = Q .ret st := rfl
theorem loopQ_normal : loopQ I F μ x Q .normal st = ∃ y, I y ∧ μ y < μ x ∧ Weak st (F y) := rfl
theorem loopQ_exit : loopQ I F μ x Q (.exit i) st = Q (.exit i) st := rfl
theorem loopQ_ret : loopQ I F μ x Q .ret st = Q .ret st := rfl
theorem retQ_ret {rs : List ARes} {r : AV} : retQ rs r .ret st = (aresult st rs = some r) := rfl
theorem retQ_normal {rs : List ARes} {r : AV} : retQ rs r .normal st = (aresult st rs = some r) := rfl
end
end Ab
