/- A nil slice is an empty slice: contracts for rows hold for literals. No program. -/
import Derived.Test.YtpicnfikpeekeaaAbT
namespace Ab
open Go

def RLe (x y : Atom) : Prop := ∀ (S : Nat → Nat → Prop) (w : World) (v : Value), Rep S w x v → Rep S w y v
theorem RLe.refl (x : Atom) : RLe x x := fun _ _ _ h => h
theorem RLe.nils (sz : Nat) : RLe .nils (.slice sz []) := fun S w v h => by
  cases h; exact .empty sz none 0 (by unfold maxLen; omega)
def RLs : List Atom → List Atom → Prop
  | [], [] => True
  | x :: xs, y :: ys => RLe x y ∧ RLs xs ys
  | _, _ => False
def RLL : List (List Atom) → List (List Atom) → Prop
  | [], [] => True
  | x :: xs, y :: ys => RLs x y ∧ RLL xs ys
  | _, _ => False
theorem RLs.at_ : ∀ {xs ys : List Atom}, RLs xs ys → xs.length = ys.length ∧ ∀ (j : Nat) (x y : Atom), xs[j]? = some x → ys[j]? = some y → RLe x y
  | [], [], _ => ⟨rfl, fun j x y h => by simp at h⟩
  | x :: xs, y :: ys, h => by
    obtain ⟨h1, h2⟩ := RLs.at_ h.2
    refine ⟨by simp [h1], fun j a b ha hb => ?_⟩
    cases j with
    | zero => simp at ha hb; subst ha; subst hb; exact h.1
    | succ j => exact h2 j a b (by simpa using ha) (by simpa using hb)
  | [], _ :: _, h => h.elim
  | _ :: _, [], h => h.elim
theorem RLL.at_ : ∀ {xs ys : List (List Atom)}, RLL xs ys → xs.length = ys.length ∧ ∀ (j : Nat) (x y : List Atom), xs[j]? = some x → ys[j]? = some y → RLs x y
  | [], [], _ => ⟨rfl, fun j x y h => by simp at h⟩
  | x :: xs, y :: ys, h => by
    obtain ⟨h1, h2⟩ := RLL.at_ h.2
    refine ⟨by simp [h1], fun j a b ha hb => ?_⟩
    cases j with
    | zero => simp at ha hb; subst ha; subst hb; exact h.1
    | succ j => exact h2 j a b (by simpa using ha) (by simpa using hb)
  | [], _ :: _, h => h.elim
  | _ :: _, [], h => h.elim
theorem some_of {α : Type} {l : List α} {i : Nat} (h : i < l.length) : ∃ a, l[i]? = some a := ⟨l[i], List.getElem?_eq_getElem h⟩
theorem RLe.slice {sz : Nat} {xs ys : List (List Atom)} (h : RLL xs ys) : RLe (.slice sz xs) (.slice sz ys) := fun S w v hr => by
  obtain ⟨hl, ha⟩ := h.at_
  cases hr with
  | empty _ A c hc =>
    have : ys = [] := List.length_eq_zero_iff.1 (by rw [← hl]; rfl)
    subst this
    exact .empty sz A c hc
  | slice _ _ g o c U hn hlc hc hrr hcell hrep =>
    have back : ∀ (i : Nat) (r : List Atom), ys[i]? = some r → ∃ r', xs[i]? = some r' ∧ RLs r' r := fun i r hr => by
      obtain ⟨r', hr'⟩ := some_of (l := xs) (i := i) (by have := (List.getElem?_eq_some_iff.1 hr).1; omega)
      exact ⟨r', hr', ha i r' r hr' hr⟩
    have backj : ∀ (r r' : List Atom) (j : Nat) (x : Atom), RLs r' r → r[j]? = some x → ∃ x', r'[j]? = some x' ∧ RLe x' x := fun r r' j x hs hx => by
      obtain ⟨x', hx'⟩ := some_of (l := r') (i := j) (by have := (List.getElem?_eq_some_iff.1 hx).1; have := hs.at_.1; omega)
      exact ⟨x', hx', hs.at_.2 j x' x hx' hx⟩
    rw [hl]
    refine .slice sz ys g o c U (by omega) (by omega) hc ?_ ?_ ?_
    · intro i r hr
      obtain ⟨r', h1, h2⟩ := back i r hr
      rw [← h2.at_.1]; exact hrr i r' h1
    · intro i r j x hr hx
      obtain ⟨r', h1, h2⟩ := back i r hr
      obtain ⟨x', h3, _⟩ := backj r r' j x h2 hx
      exact hcell i r' j x' h1 h3
    · intro i r j x hr hx
      obtain ⟨r', h1, h2⟩ := back i r hr
      obtain ⟨x', h3, h4⟩ := backj r r' j x h2 hx
      exact h4 S w _ (hrep i r' j x' h1 h3)

theorem PDen.weaken {P : Program} {f : FuncId} {args args' : List AV} {r : AV} (h : PDen P f args r) (hw : ∀ S w vs, RepL S w args' vs → RepL S w args vs) : PDen P f args' r :=
  fun S w vs hs ha => h S w vs hs (hw S w vs ha)
theorem PDen.head {P : Program} {f : FuncId} {x y : Atom} {as : List AV} {r : AV} (h : PDen P f (.a y :: as) r) (hxy : RLe x y) : PDen P f (.a x :: as) r :=
  h.weaken fun S w vs ha => by
    refine ⟨by simpa using ha.1, fun j z u hz hu => ?_⟩
    cases j with
    | zero =>
      simp at hz; subst hz
      cases ha.2 0 (.a x) u (by simp) hu with
      | a h => exact .a (hxy _ _ _ h)
    | succ j => exact ha.2 (j + 1) z u (by simpa using hz) hu
end Ab
