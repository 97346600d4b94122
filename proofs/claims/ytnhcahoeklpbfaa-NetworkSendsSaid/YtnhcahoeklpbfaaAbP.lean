/- A nil slice is an empty slice: contracts for rows hold for literals. No program. -/
import Derived.Test.YtnhcahoeklpbfaaAbT
set_option linter.unusedSimpArgs false
set_option linter.unusedVariables false
namespace Ab
open Go

def RLe (x y : Atom) : Prop := ∀ (S : Nat → Nat → Prop) (w : World) (v : Value), Rep S w x v → Rep S w y v
theorem RLe.refl (x : Atom) : RLe x x := fun _ _ _ h => h
theorem RLe.nils (sz : Nat) : RLe .nils (.slice sz []) := fun S w v h => by
  cases h; exact .empty sz none 0 (by unfold maxLen; omega) (fun _ => rfl)
def RLs : List Atom → List Atom → Prop
  | [], [] => True
  | x :: xs, y :: ys => RLe x y ∧ RLs xs ys
  | _, _ => False
def RLL : List (List Atom) → List (List Atom) → Prop
  | [], [] => True
  | x :: xs, y :: ys => RLs x y ∧ RLL xs ys
  | _, _ => False
theorem RLs.at_ : ∀ {xs ys : List Atom}, RLs xs ys → xs.length = ys.length ∧ ∀ (j : Nat) (x y : Atom), xs[j]? = some x → ys[j]? = some y → RLe x y
  | [], [], _ => ⟨rfl, fun j x y h => by simp at h⟩
  | x :: xs, y :: ys, h => by
    obtain ⟨h1, h2⟩ := RLs.at_ h.2
    refine ⟨by simp [h1], fun j a b ha hb => ?_⟩
    cases j with
    | zero => simp at ha hb; subst ha; subst hb; exact h.1
    | succ j => exact h2 j a b (by simpa using ha) (by simpa using hb)
  | [], _ :: _, h => h.elim
  | _ :: _, [], h => h.elim
theorem RLL.at_ : ∀ {xs ys : List (List Atom)}, RLL xs ys → xs.length = ys.length ∧ ∀ (j : Nat) (x y : List Atom), xs[j]? = some x → ys[j]? = some y → RLs x y
  | [], [], _ => ⟨rfl, fun j x y h => by simp at h⟩
  | x :: xs, y :: ys, h => by
    obtain ⟨h1, h2⟩ := RLL.at_ h.2
    refine ⟨by simp [h1], fun j a b ha hb => ?_⟩
    cases j with
    | zero => simp at ha hb; subst ha; subst hb; exact h.1
    | succ j => exact h2 j a b (by simpa using ha) (by simpa using hb)
  | [], _ :: _, h => h.elim
  | _ :: _, [], h => h.elim
theorem some_of {α : Type} {l : List α} {i : Nat} (h : i < l.length) : ∃ a, l[i]? = some a := ⟨l[i], List.getElem?_eq_getElem h⟩
theorem RLe.slice {sz : Nat} {xs ys : List (List Atom)} (h : RLL xs ys) : RLe (.slice sz xs) (.slice sz ys) := fun S w v hr => by
  obtain ⟨hl, ha⟩ := h.at_
  cases hr with
  | empty _ A c hc hz =>
    have : ys = [] := List.length_eq_zero_iff.1 (by rw [← hl]; rfl)
    subst this
    exact .empty sz A c hc hz
  | slice _ _ g o c U hn hlc hc hrr hcell hrep =>
    have back : ∀ (i : Nat) (r : List Atom), ys[i]? = some r → ∃ r', xs[i]? = some r' ∧ RLs r' r := fun i r hr => by
      obtain ⟨r', hr'⟩ := some_of (l := xs) (i := i) (by have := (List.getElem?_eq_some_iff.1 hr).1; omega)
      exact ⟨r', hr', ha i r' r hr' hr⟩
    have backj : ∀ (r r' : List Atom) (j : Nat) (x : Atom), RLs r' r → r[j]? = some x → ∃ x', r'[j]? = some x' ∧ RLe x' x := fun r r' j x hs hx => by
      obtain ⟨x', hx'⟩ := some_of (l := r') (i := j) (by have := (List.getElem?_eq_some_iff.1 hx).1; have := hs.at_.1; omega)
      exact ⟨x', hx', hs.at_.2 j x' x hx' hx⟩
    rw [hl]
    refine .slice sz ys g o c U (by omega) (by omega) hc ?_ ?_ ?_
    · intro i r hr
      obtain ⟨r', h1, h2⟩ := back i r hr
      rw [← h2.at_.1]; exact hrr i r' h1
    · intro i r j x hr hx
      obtain ⟨r', h1, h2⟩ := back i r hr
      obtain ⟨x', h3, _⟩ := backj r r' j x h2 hx
      exact hcell i r' j x' h1 h3
    · intro i r j x hr hx
      obtain ⟨r', h1, h2⟩ := back i r hr
      obtain ⟨x', h3, h4⟩ := backj r r' j x h2 hx
      exact h4 S w _ (hrep i r' j x' h1 h3)

theorem PDen.weaken {P : Program} {f : FuncId} {args args' : List AV} {r : AV} (h : PDen P f args r) (hw : ∀ S w vs, RepL S w args' vs → RepL S w args vs) : PDen P f args' r :=
  fun S w vs hs ha => h S w vs hs (hw S w vs ha)
theorem PDen.head {P : Program} {f : FuncId} {x y : Atom} {as : List AV} {r : AV} (h : PDen P f (.a y :: as) r) (hxy : RLe x y) : PDen P f (.a x :: as) r :=
  h.weaken fun S w vs ha => by
    refine ⟨by simpa using ha.1, fun j z u hz hu => ?_⟩
    cases j with
    | zero =>
      simp at hz; subst hz
      cases ha.2 0 (.a x) u (by simp) hu with
      | a h => exact .a (hxy _ _ _ h)
    | succ j => exact ha.2 (j + 1) z u (by simpa using hz) hu

/-- An argument that may be nil: it is, or it is not. -/
theorem PDen.nn {P : Program} {f : FuncId} {sz : Nat} {rows : List (List Atom)} {r : AV} (h : PDen P f [.nn sz rows] r) (h0 : rows = [] → PDen P f [.a .nils] r) : PDen P f [.a (.slice sz rows)] r := by
  intro S w vs himm hr
  obtain ⟨hl, hg⟩ := hr
  rcases vs with _ | ⟨v, _ | ⟨v2, vs⟩⟩
  · simp at hl
  · have hv := hg 0 _ v rfl rfl
    cases hv with
    | a hv =>
      cases hv with
      | empty sz A c hc hz =>
        cases A with
        | some A => exact h S w _ himm ⟨rfl, fun j x u hj hu => by
            cases j with
            | zero => simp at hj hu; subst hj; subst hu; exact .nn (.empty _ _ _ hc hz)
            | succ j => simp at hj⟩
        | none =>
          have := hz rfl
          subst this
          exact h0 rfl S w _ himm ⟨rfl, fun j x u hj hu => by
            cases j with
            | zero => simp at hj hu; subst hj; subst hu; exact .a .nils
            | succ j => simp at hj⟩
      | slice sz rows g o c U hn hl' hc hr hcell hrep => exact h S w _ himm ⟨rfl, fun j x u hj hu => by
            cases j with
            | zero => simp at hj hu; subst hj; subst hu; exact .nn (.slice sz rows g o c U hn hl' hc hr hcell hrep)
            | succ j => simp at hj⟩
  · simp at hl

/-- A result of which less is said. -/
theorem PDen.res {P : Program} {f : FuncId} {args : List AV} {r r' : AV} (h : PDen P f args r) (hr : ∀ E w v, RepV E w r v → RepV E w r' v) : PDen P f args r' := fun S w vs hi ha =>
  (h S w vs hi ha).mono fun _ _ ⟨v, S', h1, h2, h3, h4, h5, h6⟩ => ⟨v, S', h1, h2, h3, h4, h5, hr _ _ _ h6⟩
theorem PDen.resA {P : Program} {f : FuncId} {args : List AV} {x y : Atom} (h : PDen P f args (.a x)) (hr : RLe x y) : PDen P f args (.a y) :=
  h.res fun E w v hv => by cases hv with | a hv => exact .a (hr _ _ _ hv)

/-- Values of which less is said. -/
def VLe (x y : AV) : Prop := ∀ E w v, RepV E w x v → RepV E w y v
theorem VLe.refl (x : AV) : VLe x x := fun _ _ _ h => h
theorem VLe.a {x y : Atom} (h : RLe x y) : VLe (.a x) (.a y) := fun E w v hv => by cases hv with | a hv => exact .a (h _ _ _ hv)
theorem VLe.agg {xs ys : List Atom} (h : RLs xs ys) : VLe (.agg xs) (.agg ys) := fun E w v hv => by
  cases hv with
  | agg hs hv =>
    obtain ⟨h1, h2⟩ := h.at_
    refine .agg (by omega) fun j y u hj hu => ?_
    obtain ⟨x, hx⟩ := some_of (l := xs) (i := j) (by have := (List.getElem?_eq_some_iff.1 hj).1; omega)
    exact h2 j x y hx hj _ _ _ (hv j x u hx hu)
def VLs : List AV → List AV → Prop
  | [], [] => True
  | x :: xs, y :: ys => VLe x y ∧ VLs xs ys
  | _, _ => False
theorem VLs.at_ : ∀ {xs ys : List AV}, VLs xs ys → xs.length = ys.length ∧ ∀ (j : Nat) (x y : AV), xs[j]? = some x → ys[j]? = some y → VLe x y
  | [], [], _ => ⟨rfl, fun j x y h => by simp at h⟩
  | x :: xs, y :: ys, h => by
    obtain ⟨h1, h2⟩ := VLs.at_ h.2
    refine ⟨by simp [h1], fun j a b ha hb => ?_⟩
    cases j with
    | zero => simp at ha hb; subst ha; subst hb; exact h.1
    | succ j => exact h2 j a b (by simpa using ha) (by simpa using hb)
  | [], _ :: _, h => h.elim
  | _ :: _, [], h => h.elim
theorem VLe.tup {xs ys : List AV} (h : VLs xs ys) : VLe (.tup xs) (.tup ys) := fun E w v hv => by
  cases hv with
  | tup hs hv =>
    obtain ⟨h1, h2⟩ := h.at_
    refine .tup (by omega) fun j y u hj hu => ?_
    obtain ⟨x, hx⟩ := some_of (l := xs) (i := j) (by have := (List.getElem?_eq_some_iff.1 hj).1; omega)
    exact h2 j x y hx hj _ _ _ (hv j x u hx hu)
theorem PDen.le {P : Program} {f : FuncId} {args : List AV} {r r' : AV} (h : PDen P f args r) (hr : VLe r r') : PDen P f args r' := h.res hr
/-- Arguments of which more is known. -/
theorem PDen.args {P : Program} {f : FuncId} {as bs : List AV} {r : AV} (h : PDen P f bs r) (ha : VLs as bs) : PDen P f as r :=
  h.weaken fun S w vs hv => by
    obtain ⟨h1, h2⟩ := ha.at_
    refine ⟨by rw [hv.1, h1], fun j y u hj hu => ?_⟩
    obtain ⟨x, hx⟩ := some_of (l := as) (i := j) (by have := (List.getElem?_eq_some_iff.1 hj).1; omega)
    exact h2 j x y hx hj _ _ _ (hv.2 j x u hx hu)
theorem RLs.refl : ∀ (xs : List Atom), RLs xs xs
  | [] => trivial
  | x :: xs => ⟨RLe.refl x, RLs.refl xs⟩
theorem RLL.refl : ∀ (xs : List (List Atom)), RLL xs xs
  | [] => trivial
  | x :: xs => ⟨RLs.refl x, RLL.refl xs⟩
end Ab
