/- Abstract values: pure data that stand for what lies in memory. No program. -/
import Derived.WalkKit
import Derived.Maps.AppendAt
import Derived.Lib.Hide
set_option linter.unusedSimpArgs false
set_option linter.unusedVariables false
namespace Ab
open Go Go.RowKit

/-- What one cell holds, as pure data. A slice is its elements, each a row of 'sz' cells. -/
inductive Atom where
  | bool (b : Bool)
  | int (k : IntKind) (n : Int)
  | str (s : ByteArray)
  | nils
  | slice (sz : Nat) (rows : List (List Atom))
  | exact (v : Value) (x : Atom)
  deriving Inhabited

/-- What a slot of a frame holds. -/
inductive AV where
  | a (x : Atom)
  | agg (xs : List Atom)
  | tup (xs : List AV)
  | loc (id off : Nat)
  | ptr (xs : List Atom)
  | nilptr
  | full (sz : Nat) (rows : List (List Atom))
  | nn (sz : Nat) (rows : List (List Atom))
  | own (k : Nat)
  | eptr (k sz i f : Nat)
  | vsl (k sz lo : Nat)
  | mix (xs : List AV)
  | clo (f : FuncId) (caps : List AV)
  | bself (t : TypeId)
  | ownv (k : Nat) (v : Value)
  | ownc (k c : Nat)
  | undef
  | any
  deriving Inhabited

/-- The cells at a place hold these data. -/
inductive Rep (S : Nat → Nat → Prop) (w : World) : Atom → Value → Prop
  | bool (b : Bool) : Rep S w (.bool b) (.bool b)
  | int (k : IntKind) (n : Int) : Rep S w (.int k n) (.int k n)
  | str (s : ByteArray) (h : s.size ≤ 9223372036854775807) : Rep S w (.str s) (.string s)
  | nils : Rep S w .nils (.slice none 0 0)
  | empty (sz : Nat) (A : Option Addr) (c : Nat) (hc : c ≤ maxLen) (hz : A = none → c = 0) : Rep S w (.slice sz []) (.slice A 0 c)
  | slice (sz : Nat) (rows : List (List Atom)) (g o c : Nat) (U : Nat → Value) (hn : rows.length ≤ 9223372036854775807) (hl : rows.length ≤ c) (hc : c ≤ maxLen)
      (hr : ∀ (i : Nat) (r : List Atom), rows[i]? = some r → r.length = sz)
      (hcell : ∀ (i : Nat) (r : List Atom) (j : Nat) (x : Atom), rows[i]? = some r → r[j]? = some x → S g (o + i * sz + j) ∧ w.cell? ⟨g, o + i * sz + j, none⟩ = some (U (i * sz + j)))
      (hrep : ∀ (i : Nat) (r : List Atom) (j : Nat) (x : Atom), rows[i]? = some r → r[j]? = some x → Rep S w x (U (i * sz + j))) : Rep S w (.slice sz rows) (.slice (some ⟨g, o, none⟩) rows.length c)
  | exact {x : Atom} {v : Value} (h : Rep S w x v) : Rep S w (.exact v x) v

structure Env where
  S : Nat → Nat → Prop
  ι : List Nat
  κ : List Value

/-- Cells from a place on, in memory that does not change. -/
def RepC (S : Nat → Nat → Prop) (w : World) (g o : Nat) (xs : List Atom) : Prop :=
  ∀ (j : Nat) (x : Atom), xs[j]? = some x → S g (o + j) ∧ ∃ u, w.cell? ⟨g, o + j, none⟩ = some u ∧ Rep S w x u

inductive RepV (E : Env) (w : World) : AV → Value → Prop
  | a {x : Atom} {v : Value} (h : Rep E.S w x v) : RepV E w (.a x) v
  | agg {xs : List Atom} {arr : Array Value} (hs : arr.size = xs.length) (h : ∀ (j : Nat) (x : Atom) (u : Value), xs[j]? = some x → arr[j]? = some u → Rep E.S w x u) : RepV E w (.agg xs) (.agg arr)
  | tup {xs : List AV} {arr : Array Value} (hs : arr.size = xs.length) (h : ∀ (j : Nat) (x : AV) (u : Value), xs[j]? = some x → arr[j]? = some u → RepV E w x u) : RepV E w (.tup xs) (.tuple arr)
  | loc {id off g : Nat} (h : E.ι[id]? = some g) : RepV E w (.loc id off) (.pointer (some ⟨g, off, none⟩))
  | ptr {xs : List Atom} {g o : Nat} (h : RepC E.S w g o xs) : RepV E w (.ptr xs) (.pointer (some ⟨g, o, none⟩))
  | nilptr : RepV E w .nilptr (.pointer none)
  | full {sz : Nat} {rows : List (List Atom)} {A : Option Addr} {n : Nat} (h : Rep E.S w (.slice sz rows) (.slice A n n)) : RepV E w (.full sz rows) (.slice A n n)
  | nn {sz : Nat} {rows : List (List Atom)} {A : Addr} {n c : Nat} (h : Rep E.S w (.slice sz rows) (.slice (some A) n c)) : RepV E w (.nn sz rows) (.slice (some A) n c)
  | own {k : Nat} {v : Value} (h : E.κ[k]? = some v) : RepV E w (.own k) v
  | eptr {k sz i f g n c : Nat} (h : E.κ[k]? = some (.slice (some ⟨g, 0, none⟩) n c)) : RepV E w (.eptr k sz i f) (.pointer (some ⟨g, i * sz + f, none⟩))
  | vsl {k sz lo n c : Nat} {A B : Option Addr} (h : E.κ[k]? = some (.slice B n c)) (hlo : lo ≤ n) (hA : A = B.map (·.add (lo * sz)) ∨ lo = n) : RepV E w (.vsl k sz lo) (.slice A (n - lo) (c - lo))
  | mix {xs : List AV} {arr : Array Value} (hs : arr.size = xs.length) (h : ∀ (j : Nat) (x : AV) (u : Value), xs[j]? = some x → arr[j]? = some u → RepV E w x u) : RepV E w (.mix xs) (.agg arr)
  | clo {f : FuncId} {caps : List AV} {arr : Array Value} (hs : arr.size = caps.length) (h : ∀ (j : Nat) (x : AV) (u : Value), caps[j]? = some x → arr[j]? = some u → RepV E w x u) : RepV E w (.clo f caps) (.func (.func f) #[] arr)
  | bself {t : TypeId} {v : Value} : RepV E w (.bself t) v
  | ownv {k : Nat} {v : Value} (h : E.κ[k]? = some v) : RepV E w (.ownv k v) v
  | ownc {k c g n c' : Nat} (h : E.κ[k]? = some (.slice (some ⟨g, 0, none⟩) n c')) (hc : c ≤ c') : RepV E w (.ownc k c) (.slice (some ⟨g, 0, none⟩) n c')
  | undef : RepV E w .undef Go.undef
  | any {v : Value} : RepV E w .any v

/-- A later world: what does not change is as it was; names keep their meaning. -/
structure Ext (E : Env) (w : World) (E' : Env) (w' : World) : Prop where
  S : ∀ g o, E.S g o → E'.S g o
  cell : ∀ g o, E.S g o → w'.cell? ⟨g, o, none⟩ = w.cell? ⟨g, o, none⟩
  ι : ∀ (i g : Nat), E.ι[i]? = some g → E'.ι[i]? = some g
  κ : ∀ (k : Nat) (v : Value), E.κ[k]? = some v → E'.κ[k]? = some v

theorem Ext.refl (E : Env) (w : World) : Ext E w E w := ⟨fun _ _ h => h, fun _ _ _ => rfl, fun _ _ h => h, fun _ _ h => h⟩
theorem Ext.trans {E1 E2 E3 : Env} {w1 w2 w3 : World} (h : Ext E1 w1 E2 w2) (k : Ext E2 w2 E3 w3) : Ext E1 w1 E3 w3 :=
  ⟨fun g o hs => k.S g o (h.S g o hs), fun g o hs => (k.cell g o (h.S g o hs)).trans (h.cell g o hs), fun i g hi => k.ι i g (h.ι i g hi), fun i g hi => k.κ i g (h.κ i g hi)⟩

theorem Rep.mono {S S' : Nat → Nat → Prop} {w w' : World} (hS : ∀ g o, S g o → S' g o) (hc : ∀ g o, S g o → w'.cell? ⟨g, o, none⟩ = w.cell? ⟨g, o, none⟩) {x : Atom} {v : Value} (h : Rep S w x v) : Rep S' w' x v := by
  induction h with
  | bool b => exact .bool b
  | int k n => exact .int k n
  | str s h => exact .str s h
  | nils => exact .nils
  | empty sz A c h hz => exact .empty sz A c h hz
  | exact h ih => exact .exact ih
  | slice sz rows g o c U hn hl hcm hr hcell hrep ih =>
    exact .slice sz rows g o c U hn hl hcm hr (fun i r j x hi hj => ⟨hS _ _ (hcell i r j x hi hj).1, (hc _ _ (hcell i r j x hi hj).1).trans (hcell i r j x hi hj).2⟩) ih

theorem RepC.mono {S S' : Nat → Nat → Prop} {w w' : World} (hS : ∀ g o, S g o → S' g o) (hc : ∀ g o, S g o → w'.cell? ⟨g, o, none⟩ = w.cell? ⟨g, o, none⟩) {g o : Nat} {xs : List Atom} (h : RepC S w g o xs) : RepC S' w' g o xs :=
  fun j x hj => let ⟨h1, u, h2, h3⟩ := h j x hj; ⟨hS _ _ h1, u, (hc _ _ h1).trans h2, h3.mono hS hc⟩

theorem RepV.mono {E E' : Env} {w w' : World} (he : Ext E w E' w') {x : AV} {v : Value} (h : RepV E w x v) : RepV E' w' x v := by
  induction h with
  | a h => exact .a (h.mono he.S he.cell)
  | agg hs h => exact .agg hs fun j x u hj hu => (h j x u hj hu).mono he.S he.cell
  | tup hs h ih => exact .tup hs ih
  | loc h => exact .loc (he.ι _ _ h)
  | ptr h => exact .ptr (h.mono he.S he.cell)
  | nilptr => exact .nilptr
  | full h => exact .full (h.mono he.S he.cell)
  | nn h => exact .nn (h.mono he.S he.cell)
  | own h => exact .own (he.κ _ _ h)
  | eptr h => exact .eptr (he.κ _ _ h)
  | vsl h hlo hA => exact .vsl (he.κ _ _ h) hlo hA
  | mix hs h ih => exact .mix hs ih
  | clo hs h ih => exact .clo hs ih
  | bself => exact .bself
  | ownv h => exact .ownv (he.κ _ _ h)
  | ownc h hc => exact .ownc (he.κ _ _ h) hc
  | undef => exact .undef
  | any => exact .any

/-- A row that the call may append to. -/
structure OwnD where
  e : TypeId
  sz : Nat
  rows : List (List Atom)
  mu : Bool
  deriving Inhabited

/-- The rows' cells, one after the other. -/
def RepR (S : Nat → Nat → Prop) (w : World) (sz : Nat) (rows : List (List Atom)) (xs : List Value) : Prop :=
  (∀ (i : Nat) (r : List Atom), rows[i]? = some r → r.length = sz) ∧ ∀ (i : Nat) (r : List Atom) (j : Nat) (x : Atom), rows[i]? = some r → r[j]? = some x → ∃ u, xs[i * sz + j]? = some u ∧ Rep S w x u

theorem RepR.mono {S S' : Nat → Nat → Prop} {w w' : World} (hS : ∀ g o, S g o → S' g o) (hc : ∀ g o, S g o → w'.cell? ⟨g, o, none⟩ = w.cell? ⟨g, o, none⟩) {sz : Nat} {rows : List (List Atom)} {xs : List Value} (h : RepR S w sz rows xs) : RepR S' w' sz rows xs :=
  ⟨h.1, fun i r j x hi hj => let ⟨u, h1, h2⟩ := h.2 i r j x hi hj; ⟨u, h1, h2.mono hS hc⟩⟩

structure OwnOk (base : Nat) (S : Nat → Nat → Prop) (w : World) (v : Value) (d : OwnD) : Prop where
  row : ∃ xs, w.ownsRow base d.e d.sz v d.rows.length xs ∧ RepR S w d.sz d.rows xs
  len : d.rows.length ≤ 9223372036854775807
  pos : 0 < d.sz
  at_ : ∀ g, v.ownBlock = some g → ∀ o, S g o ↔ (d.mu = false ∧ o < d.rows.length * d.sz)

/-- The type of a block that holds a text builder. -/
def bty : List AV → Option TypeId
  | .bself t :: _ => some t
  | _ => none

theorem bty_some {l : List AV} {t : TypeId} (h : bty l = some t) : ∃ xs, l = .bself t :: xs := by
  unfold bty at h
  split at h
  · cases h; exact ⟨_, rfl⟩
  · cases h
/-- A pointer and a slice, both nil: what a text builder is at first. -/
def markB (t : TypeId) : List AV → List AV
  | [.nilptr, .a .nils] => [.bself t, .a .nils]
  | l => l

structure Holds (base : Nat) (w0 : World) (E : Env) (w : World) (H : List (List AV)) (O : List OwnD) : Prop where
  below : Below base w0 w
  hb : base ≤ w0.heap.size
  imm : ∀ g o, E.S g o → ∃ u, w.cell? ⟨g, o, none⟩ = some u
  lenι : E.ι.length = H.length
  lenκ : E.κ.length = O.length
  inj : ∀ (i j g : Nat), E.ι[i]? = some g → E.ι[j]? = some g → i = j
  cells : ∀ (i g : Nat) (cs : List AV), E.ι[i]? = some g → H[i]? = some cs → base ≤ g ∧ ∃ arr t, w.heap[g]? = some (.cells arr t (0, 0)) ∧ arr.size = cs.length ∧ ∀ (j : Nat) (x : AV) (u : Value), cs[j]? = some x → arr[j]? = some u → RepV E w x u
  apart : ∀ (i g : Nat), E.ι[i]? = some g → ∀ o, ¬ E.S g o
  owns : ∀ (k : Nat) (v : Value) (d : OwnD), E.κ[k]? = some v → O[k]? = some d → OwnOk base E.S w v d
  κapart : ∀ (k : Nat) (v : Value) (g : Nat), E.κ[k]? = some v → v.ownBlock = some g → ∀ i : Nat, E.ι[i]? ≠ some g
  κinj : ∀ (j k : Nat) (v u : Value) (g : Nat), E.κ[j]? = some v → E.κ[k]? = some u → v.ownBlock = some g → u.ownBlock = some g → j = k
  bld : ∀ (i g : Nat) (cs : List AV) (t : TypeId), E.ι[i]? = some g → H[i]? = some cs → bty cs = some t → ∃ p v, w.heap[g]? = some (.cells #[p, v] t (0, 0)) ∧ (p = .pointer none ∨ p = .pointer (some ⟨g, 0, none⟩))

structure St where
  fr : List AV
  H : List (List AV)
  O : List OwnD

/-- What stays the same for the whole of a call. -/
structure Ctx where
  base : Nat
  w0 : World
  E0 : Env
  wE : World
  keep : Bool

def RepF (E : Env) (w : World) (fr : List AV) (tmps : Array Value) : Prop :=
  tmps.size = fr.length ∧ ∀ (t : Nat) (x : AV) (u : Value), fr[t]? = some x → tmps[t]? = some u → RepV E w x u

structure Sat (C : Ctx) (E : Env) (a : Act) (w : World) (st : St) : Prop where
  holds : Holds C.base C.w0 E w st.H st.O
  S : ∀ g o, C.E0.S g o → E.S g o ∧ w.cell? ⟨g, o, none⟩ = C.wE.cell? ⟨g, o, none⟩
  ι : ∀ (i g : Nat), C.E0.ι[i]? = some g → E.ι[i]? = some g
  news : ∀ g o, E.S g o → C.E0.S g o ∨ C.base ≤ g
  defers : a.defers = []
  κ : C.keep = true → ∀ (k : Nat) (v : Value), C.E0.κ[k]? = some v → E.κ[k]? = some v
  fr : RepF E w st.fr a.tmps

theorem RepF.mono {E E' : Env} {w w' : World} (he : Ext E w E' w') {fr : List AV} {tmps : Array Value} (h : RepF E w fr tmps) : RepF E' w' fr tmps :=
  ⟨h.1, fun t x u hx hu => (h.2 t x u hx hu).mono he⟩

def St.put (st : St) (dst : Option Nat) (v : AV) : St :=
  match dst with
  | some d => { st with fr := st.fr.set d v }
  | none => st

theorem RepF.set {E : Env} {w : World} {fr : List AV} {tmps : Array Value} (h : RepF E w fr tmps) {x : AV} {v : Value} (hv : RepV E w x v) (d : Nat) : RepF E w (fr.set d x) (tmps.setIfInBounds d v) := by
  refine ⟨by simp [h.1], fun t y u hy hu => ?_⟩
  rw [List.getElem?_set] at hy
  rw [Array.getElem?_setIfInBounds] at hu
  by_cases hd : d = t
  · subst hd
    simp only [if_true] at hy hu
    split at hy
    · split at hu
      · cases hy; cases hu; exact hv
      · cases hu
    · cases hy
  · rw [if_neg hd] at hy hu
    exact h.2 t y u hy hu

theorem RepF.get {E : Env} {w : World} {fr : List AV} {tmps : Array Value} (h : RepF E w fr tmps) (t : Nat) : RepV E w (fr.getD t .undef) (tmps.getD t Go.undef) := by
  by_cases ht : t < fr.length
  · have ht' : t < tmps.size := by rw [h.1]; exact ht
    have := h.2 t fr[t] tmps[t] (by simp [ht]) (by simp [ht'])
    simpa [ht, ht'] using this
  · have ht' : ¬ t < tmps.size := by rw [h.1]; exact ht
    have e1 : fr.getD t .undef = .undef := by simp [List.getD, List.getElem?_eq_none (Nat.le_of_not_lt ht)]
    have e2 : tmps.getD t Go.undef = Go.undef := by simp [ht']
    rw [e1, e2]
    exact .undef
end Ab
