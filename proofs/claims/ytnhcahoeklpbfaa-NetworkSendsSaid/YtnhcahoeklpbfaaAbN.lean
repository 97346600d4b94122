/- Regions that draw their order: abstract code in the order of the text serves every order. No program. -/
import Derived.Test.YtnhcahoeklpbfaaAbM0
import Derived.Orders
set_option linter.unusedSimpArgs false
set_option linter.unusedVariables false
namespace Ab
open Go Go.RowKit

/-! ### What waits for what -/
inductive DepOn (ops : Array Oper) : Nat → Nat → Prop
  | edge {j i : Nat} {o : Oper} {e : Edge} (ho : ops[j]? = some o) (he : e ∈ o.after) (hb : Region.binds .any e = true) (hi : e.on = i) : DepOn ops j i
  | trans {j k i : Nat} (h : DepOn ops j k) (h' : DepOn ops k i) : DepOn ops j i

theorem before_reach (ops : Array Oper) : (Region.before ops).size = ops.size ∧ ∀ j i, ((Region.before ops).getD j 0).testBit i = true → DepOn ops j i := by
  unfold Region.before
  refine Array.foldl_induction (motive := fun k (acc : Array Nat) => acc.size = k ∧ ∀ j i, (acc.getD j 0).testBit i = true → DepOn ops j i) ⟨rfl, fun j i h => by simp at h⟩ ?_
  rintro k acc ⟨hs, ih⟩
  refine ⟨by simp [hs], fun j i h => ?_⟩
  have inner : ∀ i, (ops[k].after.foldl (fun s e => if Region.binds .any e then s ||| 2 ^ e.on ||| acc.getD e.on 0 else s) 0).testBit i = true → ∃ e ∈ ops[k].after, Region.binds .any e = true ∧ (e.on = i ∨ (acc.getD e.on 0).testBit i = true) := by
    refine Array.foldl_induction (motive := fun _ (s : Nat) => ∀ i, s.testBit i = true → ∃ e ∈ ops[k].after, Region.binds .any e = true ∧ (e.on = i ∨ (acc.getD e.on 0).testBit i = true)) (fun i h => by simp at h) ?_
    intro q s hq i h
    split at h
    · rename_i hb
      rw [Nat.testBit_or, Nat.testBit_or] at h
      simp only [Bool.or_eq_true] at h
      rcases h with (h | h) | h
      · exact hq i h
      · rw [Nat.testBit_two_pow] at h
        exact ⟨_, Array.getElem_mem _, hb, .inl (by simpa using h)⟩
      · exact ⟨_, Array.getElem_mem _, hb, .inr h⟩
    · exact hq i h
  rcases Nat.lt_trichotomy j acc.size with hj | hj | hj
  · refine ih j i ?_
    rw [Array.getD_eq_getD_getElem?, Array.getElem?_push_lt hj] at h
    rw [Array.getD_eq_getD_getElem?, Array.getElem?_eq_getElem hj]
    exact h
  · subst hj
    rw [Array.getD_eq_getD_getElem?, Array.getElem?_push_size] at h
    obtain ⟨e, he, hb, hor⟩ := inner i h
    have hk : ops[acc.size]? = some ops[k] := by
      have : acc.size = k.val := hs
      rw [this]
      exact Array.getElem?_eq_getElem k.isLt
    rcases hor with hor | hor
    · exact .edge hk he hb hor
    · exact .trans (.edge hk he hb rfl) (ih _ _ hor)
  · rw [Array.getD_eq_getD_getElem?, Array.getElem?_eq_none (by simp; omega)] at h
    simp at h

def Closed (ops : Array Oper) (listed : Array Bool) : Prop :=
  ∀ j o, ops[j]? = some o → listed.getD j false = true → ∀ e ∈ o.after, Region.binds .any e = true → listed.getD e.on false = true

theorem Closed.reach {ops : Array Oper} {listed : Array Bool} (h : Closed ops listed) {j i : Nat} (hr : DepOn ops j i) : listed.getD j false = true → listed.getD i false = true := by
  induction hr with
  | edge ho he hb hi => intro hj; rw [← hi]; exact h _ _ ho hj _ he hb
  | trans h1 h2 ih1 ih2 => exact fun hj => ih2 (ih1 hj)

theorem drawOk_spec {ops : Array Oper} {κ : Kind} (h : drawOk ops κ = true) :
    (∀ j o, ops[j]? = some o → ∀ e ∈ o.after, Region.binds .any e = true → e.on < j) ∧ ∀ i j, i < j → j < ops.size → clash ops κ i j = true → DepOn ops j i := by
  unfold drawOk at h
  rw [List.all_eq_true] at h
  constructor
  · intro j o ho e he hb
    have hj : j < ops.size := (Array.getElem?_eq_some_iff.1 ho).1
    have := h j (List.mem_range.2 hj)
    simp only [ho, Bool.and_eq_true] at this
    have := Array.all_eq_true_iff_forall_mem.1 this.1 e he
    simpa [hb] using this
  · intro i j hij hj hc
    have := h j (List.mem_range.2 hj)
    simp only [Bool.and_eq_true] at this
    have := List.all_eq_true.1 this.2 i (List.mem_range.2 hij)
    simp only [hc, Bool.not_true, Bool.false_or] at this
    exact (before_reach ops).2 j i this

section
variable {P : Program} {C : Ctx} {ops : Array Oper}

/-- An abstract guard. -/
def wantA (ops : Array Oper) (fr : List AV) (o : Oper) : Option Bool :=
  match o.guard with
  | none => some true
  | some (j, b) => match (ops[j]?).bind (·.dst) with
    | some t => match fr.getD t .undef with
      | .a (.bool c) => some (c == b)
      | .undef => some false
      | _ => none
    | none => none

/-- One operation, in the order of the text: its result, and the state behind it. -/
def StepA (P : Program) (C : Ctx) (ops : Array Oper) (o : Oper) (soft : Bool) (st : St) (r : AV) (st' : St) : Prop :=
  (wantA ops st.fr o = some false ∧ r = .undef ∧ st' = st.put o.dst .undef) ∨
  (wantA ops st.fr o = some true ∧ soft = true ∧ Good P o (aval st.fr) st.H st.O r ∧ st' = st.put o.dst r) ∨
  (wantA ops st.fr o = some true ∧ soft = false ∧ ∃ st1, OpOk P C o st (fun v s => v = r ∧ s = st1) ∧ st' = st1.put o.dst r)

theorem want_ok {fr : List AV} {o : Oper} {b : Bool} {E : Env} {w : World} {a : Act} (h : wantA ops fr o = some b) (hr : ∀ t, t ∈ o.looksAt ops → RepV E w (fr.getD t .undef) (a.tmps.getD t Go.undef)) : Region.wanted o (yielded ops a.tmps) = b := by
  unfold wantA at h
  cases hg : o.guard with
  | none => rw [hg] at h; simp at h; subst h; simp [Region.wanted, hg]
  | some jb =>
    obtain ⟨j, want⟩ := jb
    rw [hg] at h
    simp only at h
    cases ht : (ops[j]?).bind (·.dst) with
    | none => rw [ht] at h; simp at h
    | some t =>
      rw [ht] at h
      simp only at h
      have hrep := hr t (by simp [Oper.looksAt, hg, ht])
      simp only [Region.wanted, hg]
      split at h
      · rename_i c hc
        rw [hc] at hrep
        have hv := hrep.bool_
        have hlt : t < a.tmps.size := by
          rcases Nat.lt_or_ge t a.tmps.size with h' | h'
          · exact h'
          · simp [h'] at hv; cases hv
        have : a.tmps[t]? = some (.bool c) := by simp [hlt] at hv ⊢; exact hv
        have hy : yielded ops a.tmps j = some c := by simp only [yielded, ht, Option.bind_some, this]
        injection h with h
        rw [hy, ← h]
        cases c <;> cases want <;> rfl
      · rename_i hc
        rw [hc] at hrep
        have hv : a.tmps.getD t Go.undef = Go.undef := by
          generalize a.tmps.getD t Go.undef = v at hrep
          cases hrep; rfl
        have hy : yielded ops a.tmps j = none := by
          cases hx : a.tmps[t]? with
          | none => simp only [yielded, ht, Option.bind_some, hx]
          | some v =>
            have : v = Go.undef := by simpa [hx] using hv
            subst this
            simp only [yielded, ht, Option.bind_some, hx, Go.undef]
        injection h with h
        rw [hy, ← h]; rfl
      · cases h

theorem eff_det {st : St} {K : AV → St → Prop} {ao : AO} (h : aeff P st K ao) : ∃ v s, aeff P st (fun v' s' => v' = v ∧ s' = s) ao ∧ K v s := by
  unfold aeff at h
  split at h
  · exact ⟨_, _, ⟨rfl, rfl⟩, h⟩
  · obtain ⟨h1, h2⟩ := h; exact ⟨_, _, ⟨h1, rfl, rfl⟩, h2⟩
  · rename_i n x y
    unfold astore at h
    split at h
    · rename_i hv
      obtain ⟨h1, h2⟩ := h
      exact ⟨_, _, by simp only [aeff, astore, hv]; exact ⟨h1, trivial, trivial⟩, h2⟩
    · rename_i hv
      obtain ⟨xs, he, h1, h2⟩ := onOpt_elim h
      exact ⟨_, _, by simp only [aeff, astore, hv, he, onOpt]; exact ⟨h1, trivial, trivial⟩, h2⟩
    · exact h.elim
  · rename_i m n x y
    unfold astoreN at h
    split at h
    · rename_i hv
      obtain ⟨h1, h2⟩ := h
      exact ⟨_, _, by simp only [aeff, astoreN, hv]; exact ⟨h1, trivial, trivial⟩, h2⟩
    · exact h.elim
  · rename_i e sz b z l c
    obtain ⟨k, n, h1, h⟩ := onInt_elim h
    obtain ⟨k', m, h2, h3, h4⟩ := onInt_elim h
    exact ⟨_, _, by show onInt _ _; rw [h1]; show onInt _ _; rw [h2]; exact ⟨h3, rfl, rfl⟩, h4⟩
  · rename_i sz x y
    obtain ⟨src, he, h⟩ := onOpt_elim h
    unfold acopy at h
    split at h
    · rename_i hv
      obtain ⟨h1, h2⟩ := h
      exact ⟨_, _, by simp only [aeff, he, onOpt, acopy, hv]; exact ⟨h1, trivial, trivial⟩, h2⟩
    · rename_i hv
      obtain ⟨h1, h2⟩ := h
      exact ⟨_, _, by simp only [aeff, he, onOpt, acopy, hv]; exact ⟨h1, trivial, trivial⟩, h2⟩
    · exact h.elim
  · rename_i e sz bytes s x
    obtain ⟨news, he, h1⟩ := onOpt_elim h
    unfold aappend at h1
    split at h1
    · rename_i hv
      obtain ⟨g, k⟩ := h1
      exact ⟨_, _, by show onOpt (rowsOf st.O sz (aval st.fr x)) _; rw [he]; show aappend _ _ _ _ _ _ _; rw [hv]; exact ⟨g, rfl, rfl⟩, k⟩
    · rename_i hv
      obtain ⟨g, k⟩ := h1
      exact ⟨_, _, by show onOpt (rowsOf st.O sz (aval st.fr x)) _; rw [he]; show aappend _ _ _ _ _ _ _; rw [hv]; exact ⟨g, rfl, rfl⟩, k⟩
    · rename_i hv
      obtain ⟨g, k⟩ := h1
      exact ⟨_, _, by show onOpt (rowsOf st.O sz (aval st.fr x)) _; rw [he]; show aappend _ _ _ _ _ _ _; rw [hv]; exact ⟨g, rfl, rfl⟩, k⟩
    · rename_i hv
      obtain ⟨i, o, m, hp, g, k⟩ := h1
      exact ⟨_, _, by show onOpt (rowsOf st.O sz (aval st.fr x)) _; rw [he]; show aappend _ _ _ _ _ _ _; rw [hv]; exact ⟨i, o, m, hp, g, rfl, rfl⟩, k⟩
    · rename_i hv
      obtain ⟨g, k⟩ := h1
      exact ⟨_, _, by show onOpt (rowsOf st.O sz (aval st.fr x)) _; rw [he]; show aappend _ _ _ _ _ _ _; rw [hv]; exact ⟨g, rfl, rfl⟩, k⟩
    · exact h1.elim
  · rename_i n e sz bytes s x
    obtain ⟨news, he, hfr, h1⟩ := onOpt_elim h
    unfold aappend at h1
    split at h1
    · rename_i hv
      obtain ⟨g, k⟩ := h1
      exact ⟨_, _, by show onOpt (rowsOf st.O sz (aval st.fr x)) _; rw [he]; refine ⟨hfr, ?_⟩; show aappend _ _ _ _ _ _ _; rw [hv]; exact ⟨g, rfl, rfl⟩, k⟩
    · rename_i hv
      obtain ⟨g, k⟩ := h1
      exact ⟨_, _, by show onOpt (rowsOf st.O sz (aval st.fr x)) _; rw [he]; refine ⟨hfr, ?_⟩; show aappend _ _ _ _ _ _ _; rw [hv]; exact ⟨g, rfl, rfl⟩, k⟩
    · rename_i hv
      obtain ⟨g, k⟩ := h1
      exact ⟨_, _, by show onOpt (rowsOf st.O sz (aval st.fr x)) _; rw [he]; refine ⟨hfr, ?_⟩; show aappend _ _ _ _ _ _ _; rw [hv]; exact ⟨g, rfl, rfl⟩, k⟩
    · rename_i hv
      rw [hv] at hfr; exact hfr.elim
    · rename_i hv
      obtain ⟨g, k⟩ := h1
      exact ⟨_, _, by show onOpt (rowsOf st.O sz (aval st.fr x)) _; rw [he]; refine ⟨hfr, ?_⟩; show aappend _ _ _ _ _ _ _; rw [hv]; exact ⟨g, rfl, rfl⟩, k⟩
    · exact h1.elim
  · obtain ⟨r, H', O', keep, h1, h2⟩ := h
    exact ⟨_, _, ⟨r, H', O', keep, h1, rfl, rfl⟩, h2⟩
  · obtain ⟨f, cs, hx, hb, r, H', O', keep, h1, h2⟩ := onClo_elim h
    exact ⟨_, _, by show onClo _ _; rw [hx]; exact ⟨hb, r, H', O', keep, h1, rfl, rfl⟩, h2⟩
  · obtain ⟨as, has, d, h1, h2⟩ := onOpt_elim h
    exact ⟨_, _, by show onOpt (argsOf _ _) _; rw [has]; exact ⟨d, h1, rfl, rfl⟩, h2⟩
  · obtain ⟨as, has, d, c, h1, h2⟩ := onOpt_elim h
    exact ⟨_, _, by show onOpt (argsOf _ _) _; rw [has]; exact ⟨d, c, h1, rfl, rfl⟩, h2⟩
  · rename_i e sz b z l c
    obtain ⟨k, n, h1, h⟩ := onInt_elim h
    obtain ⟨k', m, h2, h3, h4⟩ := onInt_elim h
    exact ⟨_, _, by show onInt _ _; rw [h1]; show onInt _ _; rw [h2]; exact ⟨h3, rfl, rfl⟩, h4⟩
  · obtain ⟨r, H', O', h1, h2, h3⟩ := h
    exact ⟨_, _, ⟨r, H', O', h1, h2, rfl, rfl⟩, h3⟩
  · obtain ⟨r, H', Y, h1, h2, h3⟩ := h
    exact ⟨_, _, ⟨r, H', Y, h1, h2, rfl, rfl⟩, h3⟩
  · obtain ⟨rows, hr, hg, hk⟩ := onOpt_elim h
    exact ⟨_, _, by show onOpt (rowsMade _ _ _) _; rw [hr]; exact ⟨hg, rfl, rfl⟩, hk⟩
  · exact h.elim

theorem abin_det {op : BinOp} {x y : AV} {K : AV → Prop} (h : abin op x y K) : ∃ r, K r ∧ abin op x y (fun v => v = r) := by
  unfold abin at h
  split at h
  · rename_i k m k' n
    cases op <;> first | exact h.elim | exact ⟨_, h.2, h.1, rfl⟩
  · rename_i s t
    cases op <;> first | exact h.elim | exact ⟨_, h, rfl⟩ | exact ⟨_, h.2, h.1, rfl⟩
  · exact h.elim

theorem free_det {ao : AO} (hf : isFree ao = true) {ev : AX → AV} {H : List (List AV)} {O : List OwnD} {K : AV → Prop} (h : asoft P ev H O K ao) : ∃ r, K r ∧ ∀ H' O', asoft P ev H' O' (fun v => v = r) ao := by
  unfold isFree at hf
  split at hf
  · exact ⟨_, h, fun _ _ => rfl⟩
  · obtain ⟨r, h1, h2⟩ := abin_det h
    exact ⟨r, h1, fun _ _ => h2⟩
  · rename_i x i
    obtain ⟨xs, hxs, hg, hk⟩ := onTup_elim h
    exact ⟨_, hk, fun _ _ => by show onTup (ev x) _; rw [hxs]; exact ⟨hg, rfl⟩⟩
  · rename_i off x
    have key : ∃ r, K r ∧ afield off (ev x) (fun v => v = r) := by
      have h : afield off (ev x) K := h
      generalize ev x = u at h
      unfold afield at h
      split at h
      · exact ⟨_, h, rfl⟩
      · exact ⟨_, h, rfl⟩
      · exact ⟨_, h, rfl⟩
      · exact h.elim
    obtain ⟨r, h1, h2⟩ := key
    exact ⟨r, h1, fun _ _ => h2⟩
  · rename_i off n g x
    obtain ⟨xs, hxs, hg, hk⟩ := onAgg_elim h
    cases g with
    | true => exact ⟨_, hk, fun _ _ => by show onAgg (ev x) _; rw [hxs]; exact ⟨hg, rfl⟩⟩
    | false => exact ⟨_, hk, fun _ _ => by show onAgg (ev x) _; rw [hxs]; exact ⟨hg, rfl⟩⟩
  · rename_i x
    obtain ⟨s, hs, hk⟩ := onStr_elim h
    exact ⟨_, hk, fun _ _ => by show onStr (ev x) _; rw [hs]; rfl⟩
  · rename_i x
    have key : ∃ r, K r ∧ anil (ev x) (fun v => v = r) := by
      have h : anil (ev x) K := h
      generalize ev x = u at h
      unfold anil at h
      split at h
      · exact ⟨_, h, rfl⟩
      · exact ⟨_, h, rfl⟩
      · exact ⟨_, h, rfl⟩
      · exact ⟨_, h, rfl⟩
      · exact h.elim
    obtain ⟨r, h1, h2⟩ := key
    exact ⟨r, h1, fun _ _ => h2⟩
  · rename_i n g x
    obtain ⟨hb, h⟩ := h
    have key : ∃ xs, ev x = .ptr xs := by
      cases hx : ev x <;> rw [hx] at h hb <;> first | exact ⟨_, rfl⟩ | exact h.elim | (simp [bare] at hb)
    obtain ⟨xs, hx⟩ := key
    rw [hx] at h hb
    cases g with
    | true => exact ⟨_, h.2, fun _ _ => by show agate (bare (ev x) = true) _; rw [hx]; exact ⟨hb, h.1, rfl⟩⟩
    | false => exact ⟨_, h.2, fun _ _ => by show agate (bare (ev x) = true) _; rw [hx]; exact ⟨hb, h.1, rfl⟩⟩
  · rename_i sz x i
    obtain ⟨hb, h⟩ := h
    obtain ⟨rows, hr, h⟩ := onOpt_elim h
    obtain ⟨k, n, hn, hg, hk⟩ := onInt_elim h
    exact ⟨_, hk, fun _ O' => ⟨hb, by rw [rowsOf_bare (O' := O) hb, hr]; show onInt (ev i) _; rw [hn]; exact ⟨hg, rfl⟩⟩⟩
  · rename_i x
    obtain ⟨hb, h⟩ := h
    have key : ∃ r, K r ∧ ∀ O', alen O' (ev x) (fun v => v = r) := by
      generalize ev x = u at h hb
      unfold alen at h
      split at h
      · exact ⟨_, h, fun _ => rfl⟩
      · exact ⟨_, h, fun _ => rfl⟩
      · exact ⟨_, h, fun _ => rfl⟩
      · exact ⟨_, h, fun _ => rfl⟩
      · simp [bare] at hb
      · simp [bare] at hb
      · exact h.elim
    obtain ⟨r, h1, h2⟩ := key
    exact ⟨r, h1, fun _ O' => ⟨hb, h2 O'⟩⟩
  · rename_i f args
    obtain ⟨hb, h⟩ := h
    obtain ⟨as, has, r, hp, hk⟩ := onOpt_elim h
    exact ⟨r, hk, fun _ O' => ⟨hb, by rw [argsOf_bare (O' := O) hb, has]; exact ⟨r, hp, rfl⟩⟩⟩
  · rename_i zero parts
    obtain ⟨hb, h⟩ := h
    obtain ⟨cs, hc, hk⟩ := onOpt_elim h
    have hb' : barel ((parts.map fun p => (p.1, p.2.1, ev p.2.2)).map (·.2.2)) = true := by rw [List.map_map]; exact hb
    exact ⟨_, hk, fun _ O' => ⟨hb, by rw [withs_bare (O' := O) hb', hc]; rfl⟩⟩
  · rename_i e sz parts
    obtain ⟨hb, h⟩ := h
    obtain ⟨rows, hr, hk⟩ := onOpt_elim h
    exact ⟨_, hk, fun _ O' => ⟨hb, by rw [rowsMade_bare (O' := O) hb, hr]; rfl⟩⟩
  · rename_i k x
    obtain ⟨_, n, hn, hk⟩ := onInt_elim h
    exact ⟨_, hk, fun _ _ => by show onInt (ev x) _; rw [hn]; rfl⟩
  · cases hf

theorem zed_det {ao : AO} (hf : isZed ao = true) {ev : AX → AV} {H : List (List AV)} {O : List OwnD} {K : AV → Prop} (h : asoft P ev H O K ao) : ∃ r, K r ∧ ∀ (H2 : List (List AV)) (O2 : List OwnD), H.length ≤ H2.length → (∀ id, 1 ≤ id → id < H.length → H2[id]? = H[id]?) → asoft P ev H2 O2 (fun v => v = r) ao := by
  unfold isZed at hf
  split at hf
  · rename_i n g x
    obtain ⟨id, off, h1, h0, h2, h3, h4⟩ := soft_loadZ h
    have e : ∀ H2 : List (List AV), (∀ id, 1 ≤ id → id < H.length → H2[id]? = H[id]?) → H2.getD id [] = H.getD id [] := fun H2 hh => by
      rw [List.getD_eq_getElem?_getD, List.getD_eq_getElem?_getD, hh id h0 h2]
    cases g with
    | true =>
      obtain ⟨xs, ha, hg, hk⟩ := onOpt_elim h4
      refine ⟨_, hk, fun H2 O2 hl hh => ?_⟩
      show onLoc (ev x) _
      rw [h1]
      refine ⟨⟨h0, by omega, by rw [e H2 hh]; exact h3⟩, ?_⟩
      show onOpt (atomsOf O2 (((H2.getD id []).drop off).take n)) _
      rw [e H2 hh, atomsOf_bare (O' := O) (h3 rfl), ha]
      exact ⟨hg, rfl⟩
    | false =>
      refine ⟨_, h4.2, fun H2 O2 hl hh => ?_⟩
      show onLoc (ev x) _
      rw [h1]
      refine ⟨⟨h0, by omega, fun q => by cases q⟩, ?_⟩
      show agate (off < (H2.getD id []).length) _
      rw [e H2 hh]
      exact ⟨h4.1, rfl⟩
  · cases hf
theorem mon_det {ao : AO} (hf : isMon ao = true) {ev : AX → AV} {H : List (List AV)} {O : List OwnD} {K : AV → Prop} (h : asoft P ev H O K ao) : ∃ r, K r ∧ ∀ X Y, asoft P ev (H ++ X) (O ++ Y) (fun v => v = r) ao := by
  unfold isMon at hf
  split at hf
  · rename_i n g x
    obtain ⟨id, off, h1, h2, h3, h4⟩ := soft_loadM h
    have e : ∀ X, (H ++ X).getD id [] = H.getD id [] := fun X => by
      rw [List.getD_eq_getElem?_getD, List.getD_eq_getElem?_getD, List.getElem?_append_left h2]
    have gate : ∀ X, agate (id < (H ++ X).length ∧ barel ((((H ++ X).getD id []).drop off).take (if g then n else 1)) = true) True := fun X => ⟨⟨by simp; omega, by rw [e]; exact h3⟩, trivial⟩
    cases g with
    | true =>
      obtain ⟨xs, ha, hg, hk⟩ := onOpt_elim h4
      refine ⟨_, hk, fun X Y => ?_⟩
      show onLoc (ev x) _
      rw [h1]
      refine ⟨(gate X).1, ?_⟩
      show onOpt (atomsOf (O ++ Y) ((((H ++ X).getD id []).drop off).take n)) _
      have h3 : barel (((H.getD id []).drop off).take n) = true := h3
      rw [e, atomsOf_bare (O' := O) h3, ha]
      exact ⟨hg, rfl⟩
    | false =>
      refine ⟨_, h4.2, fun X Y => ?_⟩
      show onLoc (ev x) _
      rw [h1]
      refine ⟨(gate X).1, ?_⟩
      show agate (off < ((H ++ X).getD id []).length) _
      rw [e]
      exact ⟨h4.1, rfl⟩
  · rename_i n g x
    obtain ⟨r, hk, hall⟩ := zed_det rfl h
    exact ⟨r, hk, fun X Y => hall _ _ (by simp) fun id h1 h2 => List.getElem?_append_left h2⟩
  · cases hf

theorem free_not_mon {ao : AO} (h : isFree ao = true) : isMon ao = false := by
  cases ao <;> first | rfl | simp [isFree] at h
theorem free_soft {ao : AO} (h : isFree ao = true) : isSoft ao = true := by
  cases ao <;> first | rfl | simp [isFree] at h
theorem zed_mon {ao : AO} (h : isZed ao = true) : isMon ao = true := by
  cases ao <;> first | rfl | simp [isZed] at h
theorem mon_soft {ao : AO} (h : isMon ao = true) : isSoft ao = true := by
  cases ao <;> first | rfl | simp [isMon] at h
/-- What else is known of a step that is run. -/
def Extra (P : Program) (o : Oper) (ao : AO) (st : St) (r : AV) (st1 : St) : Prop :=
  (isFree ao = true → ∀ H' O', Good P o (aval st.fr) H' O' r) ∧ (isMon ao = true → ∀ X Y, Good P o (aval st.fr) (st.H ++ X) (st.O ++ Y) r) ∧ (isZed ao = true → ∀ (H2 : List (List AV)) (O2 : List OwnD), st.H.length ≤ H2.length → (∀ id, 1 ≤ id → id < st.H.length → H2[id]? = st.H[id]?) → Good P o (aval st.fr) H2 O2 r) ∧ (isSoft ao = false → aeff P st (fun v' s' => v' = r ∧ s' = st1) ao)

theorem op_step {o : Oper} {ao : AO} {st : St} {K : AV → St → Prop} (hc : OperOk P C o ao) (hw : wantA ops st.fr o = some true) (h : aop P ao st K) : ∃ r st1, StepA P C ops o (isSoft ao) st r (st1.put o.dst r) ∧ K r st1 ∧ Extra P o ao st r st1 := by
  unfold aop at h
  split at h
  · rename_i hs
    by_cases hf : isFree ao = true
    · obtain ⟨r, hk, hall⟩ := free_det hf h
      have all : ∀ H' O', Good P o (aval st.fr) H' O' r := fun H' O' => by
        obtain ⟨r', h1, h2⟩ := hc.2 _ _ _ _ hs (hall H' O')
        rw [← h2]; exact h1
      refine ⟨r, st, .inr (.inl ⟨hw, hs, all _ _, rfl⟩), hk, fun _ => all, fun h => ?_, fun h => ?_, fun h => by rw [hs] at h; cases h⟩
      · rw [free_not_mon hf] at h; cases h
      · have h := zed_mon h; rw [free_not_mon hf] at h; cases h
    · by_cases hz : isZed ao = true
      · obtain ⟨r, hk, hall⟩ := zed_det hz h
        have all : ∀ (H2 : List (List AV)) (O2 : List OwnD), st.H.length ≤ H2.length → (∀ id, 1 ≤ id → id < st.H.length → H2[id]? = st.H[id]?) → Good P o (aval st.fr) H2 O2 r := fun H2 O2 q1 q2 => by
          obtain ⟨r', h1, h2⟩ := hc.2 _ _ _ _ hs (hall H2 O2 q1 q2)
          rw [← h2]; exact h1
        exact ⟨r, st, .inr (.inl ⟨hw, hs, all _ _ (Nat.le_refl _) fun _ _ _ => rfl, rfl⟩), hk, fun h => absurd h hf, fun _ X Y => all _ _ (by simp) fun id h1 h2 => List.getElem?_append_left h2, fun _ => all, fun h => by rw [hs] at h; cases h⟩
      by_cases hm : isMon ao = true
      · obtain ⟨r, hk, hall⟩ := mon_det hm h
        have all : ∀ X Y, Good P o (aval st.fr) (st.H ++ X) (st.O ++ Y) r := fun X Y => by
          obtain ⟨r', h1, h2⟩ := hc.2 _ _ _ _ hs (hall X Y)
          rw [← h2]; exact h1
        have := all [] []
        rw [List.append_nil, List.append_nil] at this
        exact ⟨r, st, .inr (.inl ⟨hw, hs, this, rfl⟩), hk, fun h => absurd h hf, fun _ => all, fun h => absurd h hz, fun h => by rw [hs] at h; cases h⟩
      · obtain ⟨r, hg, hk⟩ := hc.2 _ _ _ _ hs h
        exact ⟨r, st, .inr (.inl ⟨hw, hs, hg, rfl⟩), hk, fun h => absurd h hf, fun h => absurd h hm, fun h => absurd h hz, fun h => by rw [hs] at h; cases h⟩
  · rename_i hs
    obtain ⟨v, s, h1, h2⟩ := eff_det h
    refine ⟨v, s, .inr (.inr ⟨hw, by simpa using hs, s, ?_, rfl⟩), h2, fun h => ?_, fun h => ?_, fun h => ?_, fun _ => h1⟩
    · exact hc.1 _ _ (by unfold aop; rw [if_neg hs]; exact h1)
    · exact absurd (free_soft h) hs
    · exact absurd (mon_soft h) hs
    · exact absurd (mon_soft (zed_mon h)) hs

theorem set_same {fr : List AV} {t : Nat} {x : AV} (h : fr.getD t .undef = x) (hx : x ≠ .undef) : fr.set t x = fr := by
  apply List.ext_getElem?
  intro j
  rw [List.getElem?_set]
  split
  · rename_i hj
    subst hj
    by_cases hl : t < fr.length
    · rw [if_pos hl, List.getElem?_eq_getElem hl]
      rw [List.getD_eq_getElem?_getD, List.getElem?_eq_getElem hl] at h
      simp at h
      rw [h]
    · rw [List.getD_eq_getElem?_getD, List.getElem?_eq_none (by omega)] at h
      exact absurd h.symm hx
  · rfl

/-- All operations, in the order of the text. -/
theorem ops_trace {cp : CP} (hkp : C.keep = true → cp.keep = true ∧ (cp.from_ = 0 ∨ C.E0.κ.length ≤ cp.from_)) {Kf : St → Prop} : ∀ {l : List Oper} {al : List AOp}, mapO (cOper P cp ops.toList) l = some al → ∀ {st : St}, aops P Kf al st →
    ∃ (s : Nat → St) (ρ : Nat → AV), s 0 = st ∧ Kf (s l.length) ∧ ∀ (k : Nat) (o : Oper) (ao : AOp), l[k]? = some o → al[k]? = some ao → StepA P C ops o (isSoft ao.op) (s k) (ρ k) (s (k + 1)) ∧ ao.dst = o.dst ∧ (ao.guard = none → o.guard = none) ∧ (wantA ops (s k).fr o = some true → ∃ st1, s (k + 1) = st1.put o.dst (ρ k) ∧ Extra P o ao.op (s k) (ρ k) st1)
  | [], al, hm, st, h => by
    simp [mapO] at hm; subst hm
    exact ⟨fun _ => st, fun _ => .undef, rfl, h, fun k o ao hk => by simp at hk⟩
  | o :: l, al, hm, st, h => by
    unfold mapO at hm
    split at hm
    · rename_i ao al' hao hal
      simp at hm; subst hm
      obtain ⟨g, op, hg, rfl, hop⟩ := cOper_spec (C := C) hkp hao
      · have push : ∀ (r : AV) (st' : St), StepA P C ops o (isSoft op) st r st' → (g = none → o.guard = none) → (wantA ops st.fr o = some true → ∃ st1, st' = st1.put o.dst r ∧ Extra P o op st r st1) → aops P Kf al' st' →
            ∃ (s : Nat → St) (ρ : Nat → AV), s 0 = st ∧ Kf (s (o :: l).length) ∧ ∀ (k : Nat) (o' : Oper) (ao : AOp), (o :: l)[k]? = some o' → ((⟨o.dst, g, op⟩ : AOp) :: al')[k]? = some ao → StepA P C ops o' (isSoft ao.op) (s k) (ρ k) (s (k + 1)) ∧ ao.dst = o'.dst ∧ (ao.guard = none → o'.guard = none) ∧ (wantA ops (s k).fr o' = some true → ∃ st1, s (k + 1) = st1.put o'.dst (ρ k) ∧ Extra P o' ao.op (s k) (ρ k) st1) := by
          intro r st' hst hgn hex hk
          obtain ⟨s, ρ, h1, h2, h3⟩ := ops_trace hkp hal hk
          refine ⟨fun n => match n with | 0 => st | n + 1 => s n, fun n => match n with | 0 => r | n + 1 => ρ n, rfl, by simpa using h2, fun k o' ao' hk hk' => ?_⟩
          cases k with
          | zero => simp at hk hk'; subst hk; subst hk'; show StepA P C ops o (isSoft op) st r (s 0) ∧ _ ∧ _ ∧ (_ → ∃ st1, s 0 = _ ∧ _); rw [h1]; exact ⟨hst, rfl, hgn, hex⟩
          | succ k => exact h3 k o' ao' (by simpa using hk) (by simpa using hk')
        cases hgd : o.guard with
        | none =>
          rw [hgd] at hg; simp [cGuard] at hg; subst hg
          simp only [aops] at h
          obtain ⟨r, st1, h1, h2, h3⟩ := op_step (C := C) (ops := ops) hop (by simp [wantA, hgd]) h
          exact push r _ h1 (fun _ => hgd) (fun _ => ⟨st1, rfl, h3⟩) h2
        | some jb =>
          obtain ⟨j, b⟩ := jb
          rw [hgd] at hg
          obtain ⟨oj, t, hj, ht, rfl⟩ := guard_spec hg
          simp only [aops] at h
          have hj' : (ops[j]?).bind (·.dst) = some t := by
            have : ops[j]? = some oj := by simpa using hj
            simp [this, ht]
          unfold aguard at h
          split at h
          · rename_i c hc
            rcases onCase_elim h with ⟨he, hk⟩ | ⟨he, hk⟩
            · have hcb : c = b := by simpa using he
              subst hcb
              rw [set_same hc (by simp)] at hk
              obtain ⟨r, st1, h1, h2, h3⟩ := op_step (C := C) (ops := ops) hop (by simp only [wantA, hgd, hj', hc]; simp) hk
              exact push r _ h1 (fun h => by cases h) (fun _ => ⟨st1, rfl, h3⟩) h2
            · have hcb : c = !b := by cases c <;> cases b <;> simp_all
              subst hcb
              rw [set_same hc (by simp)] at hk
              have hwf : wantA ops st.fr o = some false := by simp only [wantA, hgd, hj', hc]; simp
              exact push .undef _ (.inl ⟨hwf, rfl, rfl⟩) (fun h => by cases h) (fun h => by rw [hwf] at h; cases h) hk
          · rename_i hc
            have hwf : wantA ops st.fr o = some false := by simp only [wantA, hgd, hj', hc]
            exact push .undef _ (.inl ⟨hwf, rfl, rfl⟩) (fun h => by cases h) (fun h => by rw [hwf] at h; cases h) h
          · exact h.elim
    · cases hm
end
end Ab
