/- Code does what abstract code says; a function's contract out of its abstract body. No program. -/
import Derived.Test.YtnhcahoeklpbfaaAbN3
set_option linter.unusedSimpArgs false
set_option linter.unusedVariables false
namespace Ab
open Go Go.RowKit

section
variable {P : Program} {C : Ctx}

/-! ### Forgetting -/

theorem leF_rep {E : Env} {w : World} : ∀ {fr fr' : List AV} {tmps : Array Value}, leF fr fr' → RepF E w fr tmps → RepF E w fr' tmps := by
  have key : ∀ (fr fr' : List AV), leF fr fr' → fr.length = fr'.length ∧ ∀ (t : Nat) (x : AV), fr'[t]? = some x → ∃ y, fr[t]? = some y ∧ leV y x := by
    intro fr
    induction fr with
    | nil => intro fr' h; cases fr' with | nil => exact ⟨rfl, fun t x h => by simp at h⟩ | cons => exact h.elim
    | cons y fr ih =>
      intro fr' h
      cases fr' with
      | nil => exact h.elim
      | cons x fr' =>
        obtain ⟨h1, h2⟩ := h
        obtain ⟨h3, h4⟩ := ih fr' h2
        refine ⟨by simp [h3], fun t z ht => ?_⟩
        cases t with
        | zero => simp at ht; subst ht; exact ⟨y, rfl, h1⟩
        | succ t => simpa using h4 t z (by simpa using ht)
  intro fr fr' tmps h hr
  obtain ⟨h1, h2⟩ := key fr fr' h
  refine ⟨by rw [hr.1, h1], fun t x u hx hu => ?_⟩
  obtain ⟨y, hy, hle⟩ := h2 t x hx
  have := hr.2 t y u hy hu
  unfold leV at hle
  split at hle
  · exact .any
  · subst hle; exact this

def Env.cut (E : Env) (n m : Nat) : Env := ⟨E.S, E.ι.take n, E.κ.take m⟩

theorem boundS_rep {E : Env} {w : World} {n m : Nat} {x : AV} {v : Value} (hb : boundS n m x = true) (h : RepV E w x v) : RepV (E.cut n m) w x v := by
  cases h with
  | a h => exact .a h
  | agg hs h => exact .agg hs h
  | tup => simp [boundS] at hb
  | loc h =>
    simp [boundS] at hb
    exact .loc (by simp only [Env.cut]; rw [List.getElem?_take, if_pos hb]; exact h)
  | ptr h => exact .ptr h
  | nilptr => exact .nilptr
  | full h => exact .full h
  | own h =>
    simp [boundS] at hb
    exact .own (by simp only [Env.cut]; rw [List.getElem?_take, if_pos hb]; exact h)
  | nn h => exact .nn h
  | eptr h =>
    simp [boundS] at hb
    exact .eptr (by simp only [Env.cut]; rw [List.getElem?_take, if_pos hb]; exact h)
  | vsl h hlo hA =>
    simp [boundS] at hb
    exact .vsl (by simp only [Env.cut]; rw [List.getElem?_take, if_pos hb]; exact h) hlo hA
  | mix => simp [boundS] at hb
  | clo hs h =>
    rename_i f caps arr
    cases caps with
    | nil => exact .clo hs (fun j x u hj => by simp at hj)
    | cons c cs => simp [boundS] at hb
  | bself => exact .bself
  | ownv h =>
    simp [boundS] at hb
    exact .ownv (by simp only [Env.cut]; rw [List.getElem?_take, if_pos hb]; exact h)
  | ownc h hc =>
    simp [boundS] at hb
    exact .ownc (by simp only [Env.cut]; rw [List.getElem?_take, if_pos hb]; exact h) hc
  | undef => exact .undef
  | any => exact .any

theorem boundV_rep {E : Env} {w : World} {n m : Nat} {x : AV} {v : Value} (hb : boundV n m x = true) (h : RepV E w x v) : RepV (E.cut n m) w x v := by
  unfold boundV at hb
  split at hb
  · cases h with
    | tup hs h => exact .tup hs fun j x u hj hu => boundS_rep (List.all_eq_true.1 hb x (List.mem_of_getElem? hj)) (h j x u hj hu)
  · cases h with
    | mix hs h => exact .mix hs fun j x u hj hu => boundS_rep (List.all_eq_true.1 hb x (List.mem_of_getElem? hj)) (h j x u hj hu)
  · cases h with
    | clo hs h => exact .clo hs fun j x u hj hu => boundS_rep (List.all_eq_true.1 hb x (List.mem_of_getElem? hj)) (h j x u hj hu)
  · exact boundS_rep hb h

theorem Holds.cut {base : Nat} {w0 : World} {E : Env} {w : World} {H H' : List (List AV)} {O O' : List OwnD} (hh : Holds base w0 E w H O) (hH : H.take H'.length = H') (hO : O.take O'.length = O')
    (hb : H'.all (·.all (boundV H'.length O'.length)) = true) : Holds base w0 (E.cut H'.length O'.length) w H' O' := by
  have hl1 : H'.length ≤ H.length := by have := congrArg List.length hH; rw [List.length_take] at this; omega
  have hl2 : O'.length ≤ O.length := by have := congrArg List.length hO; rw [List.length_take] at this; omega
  have gι : ∀ (i g : Nat), (E.ι.take H'.length)[i]? = some g → i < H'.length ∧ E.ι[i]? = some g := by
    intro i g h
    rw [List.getElem?_take] at h
    split at h
    · rename_i hi; exact ⟨hi, h⟩
    · cases h
  have gκ : ∀ (i : Nat) (g : Value), (E.κ.take O'.length)[i]? = some g → i < O'.length ∧ E.κ[i]? = some g := by
    intro i g h
    rw [List.getElem?_take] at h
    split at h
    · rename_i hi; exact ⟨hi, h⟩
    · cases h
  refine ⟨hh.below, hh.hb, hh.imm, by simp only [Env.cut]; rw [List.length_take, hh.lenι]; omega, by simp only [Env.cut]; rw [List.length_take, hh.lenκ]; omega, fun i j g hi hj => hh.inj i j g (gι i g hi).2 (gι j g hj).2, ?_,
    fun i g hi => hh.apart i g (gι i g hi).2, ?_, fun k v g hk hg i hi => hh.κapart k v g (gκ k v hk).2 hg i (gι i g hi).2, fun j k v u g hj hk => hh.κinj j k v u g (gκ j v hj).2 (gκ k u hk).2,
    fun i g cs t hi hcs hb' => hh.bld i g cs t (gι i g hi).2 (by rw [← hH, List.getElem?_take, if_pos (gι i g hi).1] at hcs; exact hcs) hb'⟩
  · intro i g cs hi hcs
    obtain ⟨h1, h2⟩ := gι i g hi
    have hcs' : H[i]? = some cs := by rw [← hH, List.getElem?_take, if_pos h1] at hcs; exact hcs
    obtain ⟨a1, arr, t, a2, a3, a4⟩ := hh.cells i g cs h2 hcs'
    exact ⟨a1, arr, t, a2, a3, fun j x u hj hu => boundV_rep (List.all_eq_true.1 (List.all_eq_true.1 hb cs (List.mem_of_getElem? hcs)) x (List.mem_of_getElem? hj)) (a4 j x u hj hu)⟩
  · intro k v d hk hd
    obtain ⟨h1, h2⟩ := gκ k v hk
    exact hh.owns k v d h2 (by rw [← hO, List.getElem?_take, if_pos h1] at hd; exact hd)

theorem Sat.ιlen {E : Env} {a : Act} {w : World} {st : St} (h : Sat C E a w st) : C.E0.ι.length ≤ st.H.length := by
  rw [← h.holds.lenι]
  rcases Nat.eq_zero_or_pos C.E0.ι.length with h0 | h0
  · omega
  · have hlt : C.E0.ι.length - 1 < C.E0.ι.length := by omega
    have := (List.getElem?_eq_some_iff.1 (h.ι _ _ (List.getElem?_eq_getElem hlt))).1
    omega
theorem Sat.weak {E : Env} {a : Act} {w : World} {st st' : St} (hk0 : C.keep = true → C.E0.κ.length ≤ st'.O.length) (h0 : C.E0.ι.length ≤ st'.H.length) (h : Sat C E a w st) (hw : Weak st st') : ∃ E', Sat C E' a w st' :=
  ⟨E.cut st'.H.length st'.O.length, h.holds.cut hw.H hw.O hw.bH, h.S, fun i g hi => (by
      have hlt := (List.getElem?_eq_some_iff.1 hi).1
      show (E.ι.take st'.H.length)[i]? = some g
      rw [List.getElem?_take, if_pos (by omega)]
      exact h.ι i g hi), h.news, h.defers, fun q k v hi => (by
      have hlt := (List.getElem?_eq_some_iff.1 hi).1
      have hq := hk0 q
      show (E.κ.take st'.O.length)[k]? = some v
      rw [List.getElem?_take, if_pos (by omega)]
      exact h.κ q k v hi),
    (leF_rep hw.fr h.fr).1, fun t x u hx hu => boundV_rep (List.all_eq_true.1 hw.bfr x (List.mem_of_getElem? hx)) ((leF_rep hw.fr h.fr).2 t x u hx hu)⟩

theorem Rep.nils_eq {S : Nat → Nat → Prop} {w : World} {v : Value} (h : Rep S w .nils v) : v = .slice none 0 0 := by cases h; rfl
theorem RepV.nils_eq {E : Env} {w : World} {v : Value} (h : RepV E w (.a .nils) v) : v = .slice none 0 0 := by cases h with | a h => exact h.nils_eq
def Env.more (E : Env) : Env := ⟨E.S, E.ι, E.κ ++ [.slice none 0 0]⟩
theorem Env.more_ext (E : Env) (w : World) : Ext E w E.more w :=
  ⟨fun _ _ h => h, fun _ _ _ => rfl, fun _ _ h => h, fun k v h => by
    have hk : k < E.κ.length := (List.getElem?_eq_some_iff.1 h).1
    simp only [Env.more]; rw [List.getElem?_append_left hk]; exact h⟩
theorem Env.more_at (E : Env) : E.more.κ[E.κ.length]? = some (.slice none 0 0) := by simp [Env.more]
theorem Holds.more {base : Nat} {w0 : World} {E : Env} {w : World} {H H' : List (List AV)} {O : List OwnD} {mu : Bool} (hh : Holds base w0 E w H O) (e : TypeId) (sz : Nat) (hsz : 0 < sz) (hH : H'.length = H.length)
    (hc : ∀ (i g : Nat) (cs : List AV), E.ι[i]? = some g → H'[i]? = some cs → ∃ cs0, H[i]? = some cs0 ∧ cs0.length = cs.length ∧ ∀ (j : Nat) (x : AV), cs[j]? = some x → cs0[j]? = some x ∨ (x = .own O.length ∧ cs0[j]? = some (.a .nils))) :
    Holds base w0 E.more w H' (O ++ [⟨e, sz, [], mu⟩]) := by
  have gκ : ∀ (k : Nat) (v : Value), E.more.κ[k]? = some v → (k < O.length ∧ E.κ[k]? = some v) ∨ (k = O.length ∧ v = .slice none 0 0) := by
    intro k v h
    by_cases hk : k < E.κ.length
    · simp only [Env.more] at h
      rw [List.getElem?_append_left hk] at h
      exact .inl ⟨hh.lenκ ▸ hk, h⟩
    · simp only [Env.more] at h
      rw [List.getElem?_append_right (by omega)] at h
      have hk0 : k - E.κ.length = 0 := by
        have := (List.getElem?_eq_some_iff.1 h).1
        simp at this; omega
      rw [hk0] at h
      simp at h
      exact .inr ⟨by rw [← hh.lenκ]; omega, h.symm⟩
  refine ⟨hh.below, hh.hb, hh.imm, by rw [hH]; exact hh.lenι, by simp [Env.more, hh.lenκ], hh.inj, ?_, hh.apart, ?_, ?_, ?_, ?_⟩
  · intro i g cs hi hcs
    obtain ⟨cs0, h0, hl, hx⟩ := hc i g cs hi hcs
    obtain ⟨a1, arr, t, a2, a3, a4⟩ := hh.cells i g cs0 hi h0
    refine ⟨a1, arr, t, a2, by rw [a3, hl], fun j x u hj hu => ?_⟩
    rcases hx j x hj with h | ⟨rfl, h⟩
    · exact (a4 j x u h hu).mono (E.more_ext w)
    · have := (a4 j _ u h hu).nils_eq
      subst this
      exact .own (by rw [← hh.lenκ]; exact E.more_at)
  · intro k v d hk hd
    rcases gκ k v hk with ⟨hlt, hk⟩ | ⟨rfl, rfl⟩
    · rw [List.getElem?_append_left hlt] at hd
      exact hh.owns k v d hk hd
    · simp at hd
      subst hd
      exact ⟨⟨[], World.ownsRow_nil w base e sz, fun i r h => by simp at h, fun i r j x h => by simp at h⟩, by simp, hsz, fun g hg => by simp [Value.ownBlock] at hg⟩
  · intro k v g hk hg
    rcases gκ k v hk with ⟨_, hk⟩ | ⟨_, rfl⟩
    · exact hh.κapart k v g hk hg
    · simp [Value.ownBlock] at hg
  · intro j k v u g hj hk hg hg'
    rcases gκ j v hj with ⟨_, hj⟩ | ⟨_, rfl⟩
    · rcases gκ k u hk with ⟨_, hk⟩ | ⟨_, rfl⟩
      · exact hh.κinj j k v u g hj hk hg hg'
      · simp [Value.ownBlock] at hg'
    · simp [Value.ownBlock] at hg
  · intro i g cs t hi hcs hb'
    obtain ⟨cs0, h0, hl, hx⟩ := hc i g cs hi hcs
    obtain ⟨xs, rfl⟩ := bty_some hb'
    rcases hx 0 (.bself t) rfl with h | ⟨h, _⟩
    · exact hh.bld i g cs0 t hi h0 (by cases cs0 with | nil => simp at h | cons y ys => simp at h; subst h; rfl)
    · cases h
theorem Sat.nm {E : Env} {a : Act} {w : World} {st : St} (h : Sat C E a w st) {n : Nm} (hn : nmOk st n) : ∃ E', Sat C E' a w (st.nm n) := by
  refine ⟨E.more, ?_⟩
  cases n with
  | slot t e sz =>
    obtain ⟨hv, hsz⟩ := hn
    refine ⟨h.holds.more e sz hsz rfl fun i g cs hi hcs => ⟨cs, hcs, rfl, fun j x hj => .inl hj⟩, h.S, h.ι, h.news, h.defers, fun q k v e => (E.more_ext w).κ k v (h.κ q k v e), ?_⟩
    refine ⟨by simp [St.nm, h.fr.1], fun s y u hy hu => ?_⟩
    simp only [St.nm, List.getElem?_set] at hy
    split at hy
    · rename_i hs
      subst hs
      split at hy
      · cases hy
        rename_i hlt
        have hg := h.fr.2 t (.a .nils) u (by rw [List.getElem?_eq_getElem hlt]; rw [List.getD_eq_getElem?_getD, List.getElem?_eq_getElem hlt] at hv; simpa using hv) hu
        have := hg.nils_eq
        subst this
        exact .own (by rw [← h.holds.lenκ]; exact E.more_at)
      · cases hy
    · exact (h.fr.2 s y u hy hu).mono (E.more_ext w)
  | slotM t e sz =>
    obtain ⟨hv, hsz⟩ := hn
    refine ⟨h.holds.more e sz hsz rfl fun i g cs hi hcs => ⟨cs, hcs, rfl, fun j x hj => .inl hj⟩, h.S, h.ι, h.news, h.defers, fun q k v e => (E.more_ext w).κ k v (h.κ q k v e), ?_⟩
    refine ⟨by simp [St.nm, h.fr.1], fun s y u hy hu => ?_⟩
    simp only [St.nm, List.getElem?_set] at hy
    split at hy
    · rename_i hs
      subst hs
      split at hy
      · cases hy
        rename_i hlt
        have hg := h.fr.2 t (.a .nils) u (by rw [List.getElem?_eq_getElem hlt]; rw [List.getD_eq_getElem?_getD, List.getElem?_eq_getElem hlt] at hv; simpa using hv) hu
        have := hg.nils_eq
        subst this
        exact .own (by rw [← h.holds.lenκ]; exact E.more_at)
      · cases hy
    · exact (h.fr.2 s y u hy hu).mono (E.more_ext w)
  | cell id off e sz =>
    obtain ⟨hv, hsz⟩ := hn
    refine ⟨h.holds.more e sz hsz (by simp [St.nm]) fun i g cs hi hcs => ?_, h.S, h.ι, h.news, h.defers, fun q k v e => (E.more_ext w).κ k v (h.κ q k v e), h.fr.mono (E.more_ext w)⟩
    simp only [St.nm, List.getElem?_set] at hcs
    split at hcs
    · rename_i he
      subst he
      split at hcs
      · rename_i hlt
        cases hcs
        refine ⟨st.H[id], List.getElem?_eq_getElem hlt, by simp [List.getD_eq_getElem?_getD, hlt], fun j x hj => ?_⟩
        have e1 : st.H.getD id [] = st.H[id] := by simp [List.getD_eq_getElem?_getD, hlt]
        rw [e1] at hj hv
        rw [List.getElem?_set] at hj
        split at hj
        · rename_i ho
          subst ho
          split at hj
          · rename_i hlt2
            cases hj
            refine .inr ⟨rfl, ?_⟩
            rw [List.getElem?_eq_getElem hlt2]; rw [List.getD_eq_getElem?_getD, List.getElem?_eq_getElem hlt2] at hv; simpa using hv
          · cases hj
        · exact .inl hj
      · cases hcs
    · exact ⟨cs, hcs, rfl, fun j x hj => .inl hj⟩
theorem Sat.nms {a : Act} {w : World} : ∀ {ns : List Nm} {E : Env} {st : St}, Sat C E a w st → nmsOk ns st → ∃ E', Sat C E' a w (nms ns st)
  | [], E, _, h, _ => ⟨E, h⟩
  | _ :: _, _, _, h, hn => let ⟨_, h'⟩ := h.nm hn.1; h'.nms hn.2

/-- A row in a cell of a block gets the name of its value. -/
theorem Sat.bared {E : Env} {a : Act} {w : World} {st : St} (h : Sat C E a w st) (t off : Nat) : ∃ v E', Sat C E' a w (bared t off v st) := by
  unfold Ab.bared
  cases hf : st.fr.getD t .undef with
  | loc id o =>
    simp only [baredL]
    -- the cell
    have key : ∃ v, ∀ (g : Nat) (cs : List AV), E.ι[id]? = some g → st.H[id]? = some cs → ∀ x u, cs[o + off]? = some x → (∃ arr t', w.heap[g]? = some (.cells arr t' (0, 0)) ∧ arr[o + off]? = some u) → RepV E w (baredAV v x) u := by
      by_cases hk : ∃ k, ((st.H.getD id []).getD (o + off) .any) = .own k
      · obtain ⟨k, hk⟩ := hk
        refine ⟨E.κ.getD k Go.undef, fun g cs hg hcs x u hx hu => ?_⟩
        have e1 : (st.H.getD id []).getD (o + off) .any = x := by simp [List.getD_eq_getElem?_getD, hcs, hx]
        rw [hk] at e1; subst e1
        obtain ⟨_, arr, t1, h2, h3, h4⟩ := h.holds.cells id g cs hg hcs
        obtain ⟨arr', t2, hu1, hu2⟩ := hu
        rw [h2] at hu1; injection hu1 with hu1; injection hu1 with hu1 _ _; subst hu1
        have hr := h4 _ _ u hx hu2
        cases hr with
        | own hr =>
          have : E.κ.getD k Go.undef = u := by simp [List.getD_eq_getElem?_getD, hr]
          show RepV E w (.ownv k (E.κ.getD k Go.undef)) u
          rw [this]; exact .ownv hr
      · refine ⟨Go.undef, fun g cs hg hcs x u hx hu => ?_⟩
        have e1 : (st.H.getD id []).getD (o + off) .any = x := by simp [List.getD_eq_getElem?_getD, hcs, hx]
        obtain ⟨_, arr, t1, h2, h3, h4⟩ := h.holds.cells id g cs hg hcs
        obtain ⟨arr', t2, hu1, hu2⟩ := hu
        rw [h2] at hu1; injection hu1 with hu1; injection hu1 with hu1 _ _; subst hu1
        have hr := h4 _ _ u hx hu2
        have e2 : baredAV Go.undef x = x := by
          unfold baredAV
          split
          · rename_i k; exact absurd ⟨k, e1⟩ hk
          · rfl
        rw [e2]; exact hr
    obtain ⟨v, key⟩ := key
    refine ⟨v, E, ⟨⟨h.holds.below, h.holds.hb, h.holds.imm, by simpa [baredC] using h.holds.lenι, h.holds.lenκ, h.holds.inj, ?_, h.holds.apart, h.holds.owns, h.holds.κapart, h.holds.κinj, ?_⟩, h.S, h.ι, h.news, h.defers, h.κ, h.fr⟩⟩
    · intro i g cs hi hcs
      simp only [baredC, List.getElem?_set] at hcs
      split at hcs
      · rename_i he
        subst he
        split at hcs
        · rename_i hlt
          cases hcs
          obtain ⟨h1, arr, t1, h2, h3, h4⟩ := h.holds.cells id g st.H[id] hi (List.getElem?_eq_getElem hlt)
          have e1 : st.H.getD id [] = st.H[id] := by simp [List.getD_eq_getElem?_getD, hlt]
          rw [e1]
          refine ⟨h1, arr, t1, h2, by rw [List.length_set]; exact h3, fun j x u hx hu => ?_⟩
          rw [List.getElem?_set] at hx
          split at hx
          · rename_i hj
            subst hj
            split at hx
            · rename_i hlt2
              cases hx
              have e2 : st.H[id].getD (o + off) .any = st.H[id][o + off] := by simp [List.getD_eq_getElem?_getD, hlt2]
              rw [e2]
              exact key g st.H[id] hi (List.getElem?_eq_getElem hlt) _ u (List.getElem?_eq_getElem hlt2) ⟨arr, t1, h2, hu⟩
            · cases hx
          · exact h4 j x u hx hu
        · cases hcs
      · exact h.holds.cells i g cs hi hcs
    · intro i g cs t1 hi hcs hb
      simp only [baredC, List.getElem?_set] at hcs
      split at hcs
      · rename_i he
        subst he
        split at hcs
        · rename_i hlt
          cases hcs
          refine h.holds.bld id g st.H[id] t1 hi (List.getElem?_eq_getElem hlt) ?_
          have e1 : st.H.getD id [] = st.H[id] := by simp [List.getD_eq_getElem?_getD, hlt]
          rw [e1] at hb
          generalize st.H[id] = cs at hb
          cases cs with
          | nil => simp [bty] at hb
          | cons y ys =>
            cases hq : o + off with
            | zero =>
              rw [hq] at hb
              simp only [List.set_cons_zero, List.getD_cons_zero] at hb
              cases y <;> first | exact hb | (simp [baredAV, bty] at hb)
            | succ q =>
              rw [hq] at hb
              simp only [List.set_cons_succ] at hb
              cases y <;> first | exact hb | (simp [bty] at hb)
        · cases hcs
      · exact h.holds.bld i g cs t1 hi hcs hb
  | _ => exact ⟨Go.undef, E, h⟩

theorem loop_core {cp : CP} {c : Code} (ih : ∀ {ac : AC}, cCode P cp c = some ac → ∀ {Q : Exit → St → Prop} {st : St}, awp P ac Q st → ∀ {E : Env} {a : Act} {w : World}, Sat C E a w st →
      ∀ {QQ : Exit → Act → World → Prop}, (∀ e E' a' w' st', Q e st' → Sat C E' a' w' st' → QQ e a' w') → c.wp P QQ a w)
    {ac' : AC} (hc' : cCode P cp c = some ac') {Q : Exit → St → Prop} {st : St} {ns : List Nm} (hns : nmsOk ns st) {α : Type} {I : α → Prop} {F : α → St} {μ : α → Nat} {x0 : α} (hI : I x0) (hw : Weak (nms ns st) (F x0)) (hlenF : ∀ x, I x → st.H.length ≤ (F x).H.length)
    (hround : ∀ x, I x → awp P ac' (loopQ I F μ x Q) (F x)) (hk0 : ∀ x, I x → C.keep = true → C.E0.κ.length ≤ (F x).O.length) {E : Env} {a : Act} {w : World} (hsat : Sat C E a w st)
    {QQ : Exit → Act → World → Prop} (hq : ∀ e E' a' w' st', Q e st' → Sat C E' a' w' st' → QQ e a' w') : (Code.loop c).wp P QQ a w := by
  have hE0 : C.E0.ι.length ≤ st.H.length := hsat.ιlen
  classical
  have hlow : ∀ (a : Act) (w : World), (∃ x, I x ∧ ∃ E, Sat C E a w (F x)) → ∃ n, (∃ x, (I x ∧ ∃ E, Sat C E a w (F x)) ∧ μ x = n) ∧ ∀ x, (I x ∧ ∃ E, Sat C E a w (F x)) → n ≤ μ x := by
    intro a w hex
    have : ∃ n, ∃ x, (I x ∧ ∃ E, Sat C E a w (F x)) ∧ μ x = n := let ⟨x, hx⟩ := hex; ⟨μ x, x, hx, rfl⟩
    obtain ⟨n, hn⟩ := this
    induction n using Nat.strongRecOn with
    | _ n ihn =>
      by_cases hmin : ∀ x, (I x ∧ ∃ E, Sat C E a w (F x)) → n ≤ μ x
      · exact ⟨n, hn, hmin⟩
      · have : ∃ x, (I x ∧ ∃ E, Sat C E a w (F x)) ∧ μ x < n := by
          apply Classical.byContradiction
          intro hno
          exact hmin fun x hx => Nat.le_of_not_lt fun hlt => hno ⟨x, hx, hlt⟩
        obtain ⟨x, hx, hlt⟩ := this
        exact ihn (μ x) hlt ⟨x, hx, rfl⟩
  refine wp_loop (fun a w => ∃ x, I x ∧ ∃ E, Sat C E a w (F x)) (fun a w => if h : ∃ x, I x ∧ ∃ E, Sat C E a w (F x) then (hlow a w h).choose else 0) ?_ ?_
  · obtain ⟨En, hsn⟩ := hsat.nms hns
    obtain ⟨E', hs⟩ := hsn.weak (hk0 x0 hI) (Nat.le_trans hE0 (hlenF x0 hI)) hw
    exact ⟨x0, hI, E', hs⟩
  · intro a1 w1 hex
    obtain ⟨⟨x, ⟨hx, E1, hs1⟩, hμ⟩, _⟩ := (hlow a1 w1 hex).choose_spec
    refine ih hc' (hround x hx) hs1 fun e E' a' w' st' hk hs => ?_
    cases e with
    | normal =>
      obtain ⟨y, hy, hlt, hwk⟩ := hk
      obtain ⟨E2, hs2⟩ := hs.weak (hk0 y hy) (Nat.le_trans hE0 (hlenF y hy)) hwk
      have hex' : ∃ x, I x ∧ ∃ E, Sat C E a' w' (F x) := ⟨y, hy, E2, hs2⟩
      refine ⟨hex', ?_⟩
      rw [dif_pos hex, dif_pos hex', ← hμ]
      exact Nat.lt_of_le_of_lt ((hlow a' w' hex').choose_spec.2 y ⟨hy, E2, hs2⟩) hlt
    | exit i => exact hq _ E' a' w' st' hk hs
    | goto l => exact hq _ E' a' w' st' hk hs
    | ret => exact hq _ E' a' w' st' hk hs
    | panic ch => exact hq _ E' a' w' st' hk hs
    | outgrown => exact hq _ E' a' w' st' hk hs

/-- The least measure at a state. -/
theorem code_ok {cp : CP} (hkp : C.keep = true → cp.keep = true ∧ (cp.from_ = 0 ∨ C.E0.κ.length ≤ cp.from_)) : ∀ {c : Code} {ac : AC}, cCode P cp c = some ac → ∀ {Q : Exit → St → Prop} {st : St}, awp P ac Q st → ∀ {E : Env} {a : Act} {w : World}, Sat C E a w st →
    ∀ {QQ : Exit → Act → World → Prop}, (∀ e E' a' w' st', Q e st' → Sat C E' a' w' st' → QQ e a' w') → c.wp P QQ a w := by
  intro c
  induction c with
  | skip =>
    intro ac hc Q st h E a w hsat QQ hq
    simp [cCode] at hc; subst hc
    exact wp_skip (hq _ E a w st h hsat)
  | region id ops draw =>
    intro ac hc Q st h E a w hsat QQ hq
    simp only [cCode] at hc
    split at hc
    · rename_i al hal
      split at hc
      · rename_i hd
        simp at hc; subst hc
        have hsl : ∃ st2 E2, aops P (Q .normal) al st2 ∧ Sat C E2 a w st2 := by
          unfold sealW at h
          generalize cp.sealAt id = q at h
          cases q with
          | nil => exact ⟨st, E, h, hsat⟩
          | cons t ts =>
            simp only at h
            split at h
            · rcases h with h | h
              · exact ⟨st, E, h, hsat⟩
              · obtain ⟨v, E2, h2⟩ := hsat.bared (t % 1000) (t / 1000 - 2000)
                exact ⟨_, E2, h v, h2⟩
            · obtain ⟨E2, h2⟩ := hsat.sealS (t :: ts)
              exact ⟨_, E2, h, h2⟩
        obtain ⟨st2, E2, h, hsat⟩ := hsl
        cases draw with
        | false => exact wp_region_list (ops_ok hkp hal h hsat fun E' a' w' st' hk hs => hq _ E' a' w' st' hk hs)
        | true =>
          obtain ⟨hok, hm⟩ := hd.resolve_left (by simp)
          exact region_draw hkp hal hok hm h hsat fun E' a' w' st' hk hs => hq _ E' a' w' st' hk hs
      · rename_i hd
        simp at hc; subst hc
        have hdr : draw = true := by
          cases draw with
          | true => rfl
          | false => exact absurd (.inl rfl) hd
        subst hdr
        have hsl : ∃ st2 E2, awp P (cTwo P cp id ops) Q st2 ∧ Sat C E2 a w st2 := by
          unfold sealW at h
          generalize cp.sealAt id = q at h
          cases q with
          | nil => exact ⟨st, E, h, hsat⟩
          | cons t ts =>
            simp only at h
            split at h
            · rcases h with h | h
              · exact ⟨st, E, h, hsat⟩
              · obtain ⟨v, E2, h2⟩ := hsat.bared (t % 1000) (t / 1000 - 2000)
                exact ⟨_, E2, h v, h2⟩
            · obtain ⟨E2, h2⟩ := hsat.sealS (t :: ts)
              exact ⟨_, E2, h, h2⟩
        obtain ⟨st2, E2, h, hsat⟩ := hsl
        unfold cTwo at h
        split at h
        · split at h
          · unfold cTwoAt at h
            split at h
            · rename_i hal1 hal2
              split at h
              · rename_i hc4
                obtain ⟨hp, ho1, ho2, hm⟩ := hc4
                exact region_two hkp hp hal1 ho1 hal2 ho2 hm h.1 h.2 hsat fun E' a' w' st' hk hs => hq _ E' a' w' st' hk hs
              · exact False.elim h
            · exact False.elim h
          · split at h
            · rename_i hbig hpm
              unfold cTwoAt at h
              split at h
              · rename_i hal1 hal2
                split at h
                · rename_i hc4
                  obtain ⟨hp, ho1, ho2, hm⟩ := hc4
                  exact region_two_at hkp (by omega) hp hal1 ho1 hal2 ho2 hm h.1 h.2 hsat fun E' a' w' st' hk hs => hq _ E' a' w' st' hk hs
                · exact False.elim h
              · exact False.elim h
            · exact False.elim h
        · exact False.elim h
    · simp at hc; subst hc; exact False.elim h
  | seq x y ihx ihy =>
    intro ac hc Q st h E a w hsat QQ hq
    simp only [cCode] at hc
    split at hc
    · rename_i ax ay hx hy
      simp at hc; subst hc
      refine wp_seq (ihx hx h hsat fun e E' a' w' st' hk hs => ?_)
      cases e with
      | normal => exact ihy hy hk hs hq
      | exit id => exact hq _ E' a' w' st' hk hs
      | goto l => exact hq _ E' a' w' st' hk hs
      | ret => exact hq _ E' a' w' st' hk hs
      | panic ch => exact hq _ E' a' w' st' hk hs
      | outgrown => exact hq _ E' a' w' st' hk hs
    · cases hc
  | cond c x y ihx ihy =>
    intro ac hc Q st h E a w hsat QQ hq
    simp only [cCode] at hc
    split at hc
    · rename_i c' ax ay hcx hx hy
      simp at hc; subst hc
      obtain ⟨b, hb, hk⟩ := onBool_elim h
      have hv := (hb ▸ rep_aval hsat.fr hcx).bool_
      refine wp_cond hv ?_
      rcases onCase_elim hk with ⟨rfl, hk⟩ | ⟨rfl, hk⟩
      · exact ihx hx hk hsat hq
      · exact ihy hy hk hsat hq
    · cases hc
  | block id c ih =>
    intro ac hc Q st h E a w hsat QQ hq
    simp only [cCode, Option.map_eq_some_iff] at hc
    obtain ⟨ac', hc', rfl⟩ := hc
    refine wp_block (ih hc' h hsat fun e E' a' w' st' hk hs => ?_)
    cases e with
    | normal => exact hq _ E' a' w' st' hk hs
    | exit i =>
      simp only [blockQ] at hk
      simp only [Exit.inBlock]
      split at hk
      · rename_i he; rw [if_pos he]; exact hq _ E' a' w' st' hk hs
      · rename_i he; rw [if_neg he]; exact hq _ E' a' w' st' hk hs
    | goto l => exact hq _ E' a' w' st' hk hs
    | ret => exact hq _ E' a' w' st' hk hs
    | panic ch => exact hq _ E' a' w' st' hk hs
    | outgrown => exact hq _ E' a' w' st' hk hs
  | loop c ih =>
    intro ac hc Q st h E a w hsat QQ hq
    simp only [cCode] at hc
    have core : ∀ {ac' : AC}, cCode P cp c = some ac' → ∀ {ns : List Nm}, nmsOk ns st → ∀ {α : Type} {I : α → Prop} {F : α → St} {μ : α → Nat} {x0 : α}, I x0 → Weak (nms ns st) (F x0) → (∀ x, I x → st.H.length ≤ (F x).H.length) →
        (∀ x, I x → awp P ac' (loopQ I F μ x Q) (F x)) → (∀ x, I x → C.keep = true → C.E0.κ.length ≤ (F x).O.length) → (Code.loop c).wp P QQ a w := by
      intro ac' hc' ns hns α I F μ x0 hI hw hlenF hround hk0
      exact loop_core @ih hc' hns hI hw hlenF hround hk0 hsat hq
    split at hc
    · rename_i hkp1
      split at hc
      · simp at hc; subst hc; exact False.elim h
      · rename_i hne
        simp only [Option.map_eq_some_iff] at hc
        obtain ⟨ac', hc', rfl⟩ := hc
        obtain ⟨ns, hns, α, I, F, μ, x0, hI, hw, hlenF, hround⟩ := h
        exact core hc' hns hI hw (fun x hx => (hlenF x hx).1) hround fun x hx q => Nat.le_trans ((hkp q).2.resolve_left hne) (hlenF x hx).2
    · rename_i hnk
      simp only [Option.map_eq_some_iff] at hc
      obtain ⟨ac', hc', rfl⟩ := hc
      obtain ⟨ns, hns, α, I, F, μ, x0, hI, hw, hlenF, hround⟩ := h
      exact core hc' hns hI hw hlenF hround fun x hx q => absurd (hkp q).1 hnk
  | exit id =>
    intro ac hc Q st h E a w hsat QQ hq
    simp [cCode] at hc; subst hc
    exact wp_exit (hq _ E a w st h hsat)
  | ret =>
    intro ac hc Q st h E a w hsat QQ hq
    simp [cCode] at hc; subst hc
    exact wp_ret (hq _ E a w st h hsat)
  | rangeFunc => intro ac hc Q st h; simp [cCode] at hc; subst hc; exact False.elim h
  | scope => intro ac hc Q st h; simp [cCode] at hc; subst hc; exact False.elim h
  | label => intro ac hc Q st h; simp [cCode] at hc; subst hc; exact False.elim h
  | goto => intro ac hc Q st h; simp [cCode] at hc; subst hc; exact False.elim h
  | refuse => intro ac hc Q st h; simp [cCode] at hc; subst hc; exact False.elim h

def resRun (tmps : Array Value) : ResultVar → Sem Value
  | .tmp t => pure (tmps.getD t Go.undef)
  | .cell a t => do loadVar t (← asAddr (tmps.getD a Go.undef))

theorem res_ok {E : Env} {a : Act} {w : World} {st : St} (h : Sat C E a w st) : ∀ {l : List ResultVar} {rs : List ARes} {vs : List AV}, mapO (cRes P) l = some rs → ares st rs = some vs →
    ∃ us, (l.mapM (resRun a.tmps)).run P w = .ok us w ∧ RepL E.S w vs us
  | [], rs, vs, hm, hr => by
    simp [mapO] at hm; subst hm
    simp [ares] at hr; subst hr
    exact ⟨[], by simp, rfl, fun j x v hj => by simp at hj⟩
  | r :: l, rs, vs, hm, hr => by
    unfold mapO at hm
    split at hm
    · rename_i ar ars har hars
      simp at hm; subst hm
      have cons : ∀ {x : AV} {u : Value} {xs : List AV} {us : List Value}, RepV ⟨E.S, [], []⟩ w x u → RepL E.S w xs us → RepL E.S w (x :: xs) (u :: us) := by
        intro x u xs us h1 h2
        refine ⟨by simp [h2.1], fun j y v hj hv => ?_⟩
        cases j with
        | zero => simp at hj hv; subst hj; subst hv; exact h1
        | succ j => simp at hj hv; exact h2.2 j y v hj hv
      cases r with
      | tmp t =>
        simp [cRes] at har; subst har
        unfold ares at hr
        split at hr
        · rename_i v vs' hv hvs
          simp at hr; subst hr
          obtain ⟨us, h1, h2⟩ := res_ok h hars hvs
          refine ⟨a.tmps.getD t Go.undef :: us, ?_, cons (rep_arg h.holds (h.fr.get t) hv) h2⟩
          simp only [List.mapM_cons, resRun, Sem.run_bind, Sem.run_pure, Result.andThen_ok, h1]
        · cases hr
      | cell a' t =>
        simp only [cRes, Option.map_eq_some_iff] at har
        obtain ⟨⟨n, g⟩, hsh, rfl⟩ := har
        unfold ares at hr
        split at hr
        · rename_i id off vs' hloc hvs
          obtain ⟨us, h1, h2⟩ := res_ok h hars hvs
          have hrep := h.fr.get a'
          rw [hloc] at hrep
          obtain ⟨b, hb, hv⟩ := hrep.loc_
          have hl : id < st.H.length := by rw [← h.holds.lenι]; exact (List.getElem?_eq_some_iff.1 hb).1
          have e : st.H.getD id [] = st.H[id] := by simp [hl]
          obtain ⟨_, arr, t', a2, a3, a4⟩ := h.holds.cells id b st.H[id] hb (List.getElem?_eq_getElem hl)
          rw [e] at hr
          have hld : ∀ u, (Instr.loadAt t (.pointer (some ⟨b, off, none⟩))).run P w = .ok u w → (do loadVar t (← asAddr (a.tmps.getD a' Go.undef)) : Sem Value).run P w = .ok u w := by
            intro u hu
            rw [hv]
            simp only [asAddr, Sem.run_bind, Sem.run_pure, Result.andThen_ok]
            simpa only [Instr.loadAt, Instr.sureAddr, Sem.run_bind, Sem.run_pure, Result.andThen_ok] using hu
          split at hr
          · rename_i hg
            subst hg
            split at hr
            · rename_i xs hxs
              split at hr
              · rename_i hlen
                replace hlen : xs.length = n := hlen
                simp at hr; subst hr
                obtain ⟨e1, e2⟩ := atomsOf_spec h.holds hxs
                have hfit : ∀ j, j < n → off + j < arr.size := by
                  intro j hj
                  rw [List.length_take, List.length_drop] at e1
                  omega
                refine ⟨.agg ((List.range n).map fun j => arr.getD (off + j) Go.undef).toArray :: us, ?_, cons (.agg (by simp [hlen]) fun j x u hj hu => ?_) h2⟩
                · have := hld _ (run_load_agg (P := P) (w := w) hsh b off (fun j => arr.getD (off + j) Go.undef) (fun j hj => by
                    rw [cell_of_row w b _ arr t' (0, 0) a2]
                    simp [hfit j hj]))
                  simp only [List.mapM_cons, resRun, Sem.run_bind, Sem.run_pure] at this ⊢
                  simp only [this, Result.andThen_ok, h1]
                · have hjn : j < n := by rw [← hlen]; exact (List.getElem?_eq_some_iff.1 hj).1
                  simp [hjn] at hu
                  have hlt : off + j < st.H[id].length := by rw [← a3]; exact hfit j hjn
                  refine e2 j x (st.H[id][off + j]) u hj ?_ (a4 (off + j) _ u (List.getElem?_eq_getElem hlt) ?_)
                  · rw [List.getElem?_take, if_pos hjn, List.getElem?_drop, List.getElem?_eq_getElem hlt]
                  · rw [← hu]; simp [hfit j hjn]
              · cases hr
            · cases hr
          · rename_i hg
            have hg : g = false := by simpa using hg
            subst hg
            split at hr
            · rename_i v hv'
              simp at hr; subst hr
              have hlt : off < st.H[id].length := by
                rcases Nat.lt_or_ge off st.H[id].length with h' | h'
                · exact h'
                · rw [List.getD_eq_getElem?_getD, List.getElem?_eq_none h'] at hv'
                  simp [argOf] at hv'
              have hlt' : off < arr.size := by rw [a3]; exact hlt
              have e2 : st.H[id].getD off .any = st.H[id][off] := by rw [List.getD_eq_getElem?_getD, List.getElem?_eq_getElem hlt]; rfl
              rw [e2] at hv'
              refine ⟨arr[off] :: us, ?_, cons (rep_arg h.holds (a4 off _ _ (List.getElem?_eq_getElem hlt) (by simp [hlt'])) hv') h2⟩
              have := hld _ (run_load_one (P := P) (w := w) hsh b off arr[off] (by rw [cell_of_row w b _ arr t' (0, 0) a2]; simp [hlt']))
              simp only [List.mapM_cons, resRun, Sem.run_bind, Sem.run_pure] at this ⊢
              simp only [this, Result.andThen_ok, h1]
            · cases hr
        · cases hr
    · cases hm

theorem den_of_body {cp : CP} {f : FuncId} {fn : AFn} {args : List AV} {r : AV} (hf : cFnP P cp f = some fn) (hb : bodyWp P fn args r) : PDen P f args r := by
  unfold cFnP at hf
  split at hf
  · rename_i F hF
    split at hf
    · rename_i c hc
      split at hf
      · rename_i code res hcode hres
        simp at hf; subst hf
        obtain ⟨hn, hnt, hw⟩ := hb
        intro S w vs himm hrep
        refine calls_of_wp hF hc ?_
        let C : Ctx := ⟨w.heap.size, w, ⟨S, [], []⟩, w, false⟩
        have hsat : Sat C ⟨S, [], []⟩ ⟨vs.toArray ++ Array.replicate (F.ntmps - vs.toArray.size) Go.undef, []⟩ w ⟨args ++ List.replicate (F.ntmps - args.length) .undef, [], []⟩ := by
          refine ⟨⟨Below.refl _ _, Nat.le_refl _, himm, rfl, rfl, fun i j g h => by simp at h, fun i g cs h => by simp at h, fun i g h => by simp at h, fun k v d h => by simp at h, fun k v g h => by simp at h, fun j k v u g h => by simp at h, fun i g cs t h => by simp at h⟩,
            fun _ _ h => ⟨h, rfl⟩, fun _ _ h => h, fun _ _ h => .inl h, rfl, fun _ _ _ h => h, by simp [hrep.1], fun t x u hx hu => ?_⟩
          have hl := hrep.1
          rw [← Array.getElem?_toList] at hu
          simp only [Array.toList_append, Array.toList_replicate, List.size_toArray] at hu
          rcases Nat.lt_or_ge t args.length with ht | ht
          · rw [List.getElem?_append_left ht] at hx
            rw [List.getElem?_append_left (by omega)] at hu
            exact hrep.2 t x u hx hu
          · rw [List.getElem?_append_right ht] at hx
            rw [List.getElem?_append_right (by omega)] at hu
            rw [List.getElem?_replicate] at hx hu
            split at hx
            · split at hu
              · cases hx; cases hu; exact .undef
              · cases hu
            · cases hx
        refine code_ok (C := C) (fun h => by cases h) hcode hw hsat fun e E' a' w' st' hk hs => ?_
        have fin : aresult st' res = some r → a'.defers = [] ∧ ∃ v, (results F a'.tmps).run P w' = .ok v w' ∧ (∃ v', ∃ S' : Nat → Nat → Prop, Ending.returned v = .returned v' ∧ (∀ g o, S g o → S' g o) ∧ (∀ g o, S' g o → S g o ∨ w.heap.size ≤ g) ∧
            (∀ g o, S' g o → ∃ u, w'.cell? ⟨g, o, none⟩ = some u) ∧ Below w.heap.size w w' ∧ RepV ⟨S', [], []⟩ w' r v') := by
          intro hr
          refine ⟨hs.defers, ?_⟩
          unfold aresult at hr
          cases hvs : ares st' res with
          | none => rw [hvs] at hr; simp at hr
          | some xs =>
            obtain ⟨us, h1, h2⟩ := res_ok hs hres hvs
            have hrun : (results F a'.tmps).run P w' = .ok (if h : us.toArray.size = 1 then us.toArray[0] else .tuple us.toArray) w' := by
              have e : results F a'.tmps = (do let vs ← F.results.mapM (resRun a'.tmps); pure (if h : vs.size = 1 then vs[0] else .tuple vs) : Sem Value) := by
                unfold results
                congr 2
              rw [e, Array.mapM_eq_mapM_toList]
              simp only [Sem.run_bind, map_eq_pure_bind, Sem.run_pure]
              simp only [h1, Result.andThen_ok]
            refine ⟨_, hrun, _, E'.S, rfl, fun g o h => (hs.S g o h).1, hs.news, hs.holds.imm, hs.holds.below, ?_⟩
            rw [hvs] at hr
            obtain ⟨hl, hg⟩ := h2
            have tup : r = .tup xs → ¬ us.length = 1 → RepV ⟨E'.S, [], []⟩ w' r (if h : us.toArray.size = 1 then us.toArray[0] else .tuple us.toArray) := by
              intro hr hn1
              rw [hr, dif_neg (by simpa using hn1)]
              exact .tup (by simpa using hl) fun j x u hj hu => hg j x u hj (by simpa using hu)
            rcases xs with _ | ⟨x, _ | ⟨y, xs⟩⟩
            · simp only [Option.some.injEq] at hr
              exact tup hr.symm (by simp at hl; simp [hl])
            · simp only [Option.some.injEq] at hr
              subst hr
              rcases us with _ | ⟨u, _ | ⟨u', us⟩⟩
              · simp at hl
              · exact hg 0 x u rfl rfl
              · simp at hl
            · simp only [Option.some.injEq] at hr
              exact tup hr.symm (by simp at hl; omega)
        cases e with
        | normal => exact fin hk
        | ret => exact fin hk
        | exit id => exact hk.elim
        | goto l => exact hk.elim
        | panic ch => exact hk.elim
        | outgrown => exact hk.elim
      · cases hf
    · cases hf
  · cases hf

theorem res_okI {E : Env} {a : Act} {w : World} {st : St} (h : Sat C E a w st) : ∀ {l : List ResultVar} {rs : List ARes} {vs : List AV}, mapO (cRes P) l = some rs → aresI st rs = some vs →
    ∃ us, (l.mapM (resRun a.tmps)).run P w = .ok us w ∧ us.length = vs.length ∧ ∀ (j : Nat) (x : AV) (u : Value), vs[j]? = some x → us[j]? = some u → RepV E w x u
  | [], rs, vs, hm, hr => by
    simp [mapO] at hm; subst hm
    simp [aresI] at hr; subst hr
    exact ⟨[], by simp, rfl, fun j x v hj => by simp at hj⟩
  | r :: l, rs, vs, hm, hr => by
    unfold mapO at hm
    split at hm
    · rename_i ar ars har hars
      simp at hm; subst hm
      have cons : ∀ {x : AV} {u : Value} {xs : List AV} {us : List Value}, RepV E w x u → (us.length = xs.length ∧ ∀ (j : Nat) (x : AV) (u : Value), xs[j]? = some x → us[j]? = some u → RepV E w x u) →
          ((u :: us).length = (x :: xs).length ∧ ∀ (j : Nat) (y : AV) (v : Value), (x :: xs)[j]? = some y → (u :: us)[j]? = some v → RepV E w y v) := by
        intro x u xs us h1 h2
        refine ⟨by simp [h2.1], fun j y v hj hv => ?_⟩
        cases j with
        | zero => simp at hj hv; subst hj; subst hv; exact h1
        | succ j => simp at hj hv; exact h2.2 j y v hj hv
      cases r with
      | tmp t =>
        simp [cRes] at har; subst har
        unfold aresI at hr
        split at hr
        · rename_i vs' hvs
          simp only [Option.some.injEq] at hr; subst hr
          obtain ⟨us, h1, h2⟩ := res_okI h hars hvs
          refine ⟨a.tmps.getD t Go.undef :: us, ?_, cons (h.fr.get t) h2⟩
          simp only [List.mapM_cons, resRun, Sem.run_bind, Sem.run_pure, Result.andThen_ok, h1]
        · cases hr
      | cell a' t =>
        simp only [cRes, Option.map_eq_some_iff] at har
        obtain ⟨⟨n, g⟩, hsh, rfl⟩ := har
        unfold aresI at hr
        split at hr
        · rename_i id off vs' hloc hvs
          obtain ⟨us, h1, h2⟩ := res_okI h hars hvs
          have hrep := h.fr.get a'
          rw [hloc] at hrep
          obtain ⟨b, hb, hv⟩ := hrep.loc_
          have hl : id < st.H.length := by rw [← h.holds.lenι]; exact (List.getElem?_eq_some_iff.1 hb).1
          have e : st.H.getD id [] = st.H[id] := by simp [hl]
          obtain ⟨_, arr, t', a2, a3, a4⟩ := h.holds.cells id b st.H[id] hb (List.getElem?_eq_getElem hl)
          rw [e] at hr
          have hld : ∀ u, (Instr.loadAt t (.pointer (some ⟨b, off, none⟩))).run P w = .ok u w → (do loadVar t (← asAddr (a.tmps.getD a' Go.undef)) : Sem Value).run P w = .ok u w := by
            intro u hu
            rw [hv]
            simp only [asAddr, Sem.run_bind, Sem.run_pure, Result.andThen_ok]
            simpa only [Instr.loadAt, Instr.sureAddr, Sem.run_bind, Sem.run_pure, Result.andThen_ok] using hu
          split at hr
          · rename_i hg
            subst hg
            split at hr
            · rename_i hlen
              replace hlen : ((st.H[id].drop off).take n).length = n := hlen
              have hfit : ∀ j, j < n → off + j < arr.size := by
                intro j hj
                rw [List.length_take, List.length_drop] at hlen
                omega
              have hcell : ∀ (j : Nat) (hj : j < n), ((st.H[id].drop off).take n)[j]? = some (st.H[id][off + j]'(by rw [← a3]; exact hfit j hj)) := fun j hj => by
                rw [List.getElem?_take, if_pos hj, List.getElem?_drop, List.getElem?_eq_getElem]
              have hrun := hld _ (run_load_agg (P := P) (w := w) hsh b off (fun j => arr.getD (off + j) Go.undef) (fun j hj => by
                rw [cell_of_row w b _ arr t' (0, 0) a2]
                simp [hfit j hj]))
              have hval : ∀ v, aggI st.O ((st.H[id].drop off).take n) = some v → RepV E w v (.agg ((List.range n).map fun j => arr.getD (off + j) Go.undef).toArray) := by
                intro v hv'
                unfold aggI at hv'
                split at hv'
                · rename_i xs hxs
                  cases hv'
                  obtain ⟨e1, e2⟩ := atomsOf_spec h.holds hxs
                  refine .agg (by simp; omega) fun j x u hj hu => ?_
                  have hjn : j < n := by rw [← hlen, ← e1]; exact (List.getElem?_eq_some_iff.1 hj).1
                  simp [hjn] at hu
                  have hlt : off + j < st.H[id].length := by rw [← a3]; exact hfit j hjn
                  refine e2 j x (st.H[id][off + j]) u hj (hcell j hjn) (a4 (off + j) _ u (List.getElem?_eq_getElem hlt) ?_)
                  rw [← hu]; simp [hfit j hjn]
                · cases hv'
                  refine .mix (by rw [hlen]; simp) fun j x u hj hu => ?_
                  have hjn : j < n := by rw [← hlen]; exact (List.getElem?_eq_some_iff.1 hj).1
                  simp [hjn] at hu
                  have hlt : off + j < st.H[id].length := by rw [← a3]; exact hfit j hjn
                  rw [hcell j hjn] at hj
                  injection hj with hj
                  subst hj
                  refine a4 (off + j) _ u (List.getElem?_eq_getElem hlt) ?_
                  rw [← hu]; simp [hfit j hjn]
              split at hr
              · rename_i v hv'
                simp only [Option.some.injEq] at hr; subst hr
                refine ⟨_ :: us, ?_, cons (hval v hv') h2⟩
                simp only [List.mapM_cons, resRun, Sem.run_bind, Sem.run_pure] at hrun ⊢
                simp only [hrun, Result.andThen_ok, h1]
              · cases hr
            · cases hr
          · rename_i hg
            have hg : g = false := by simpa using hg
            subst hg
            split at hr
            · rename_i hlt
              simp only [Option.some.injEq] at hr; subst hr
              have hlt' : off < arr.size := by rw [a3]; exact hlt
              have e2 : st.H[id].getD off .any = st.H[id][off] := by rw [List.getD_eq_getElem?_getD, List.getElem?_eq_getElem hlt]; rfl
              rw [e2]
              refine ⟨arr[off] :: us, ?_, cons (a4 off _ _ (List.getElem?_eq_getElem hlt) (by simp [hlt'])) h2⟩
              have := hld _ (run_load_one (P := P) (w := w) hsh b off arr[off] (by rw [cell_of_row w b _ arr t' (0, 0) a2]; simp [hlt']))
              simp only [List.mapM_cons, resRun, Sem.run_bind, Sem.run_pure] at this ⊢
              simp only [this, Result.andThen_ok, h1]
            · cases hr
        · cases hr
    · cases hm

/-- A function that is run with its caller's memory, out of its abstract body. -/
theorem iden_of_bodyG {keep : Bool} {cp : CP} {f : FuncId} {fn : AFn} {args : List AV} {H H' : List (List AV)} {O O' : List OwnD} {r : AV} (hkp : keep = true → cp.keep = true ∧ (cp.from_ = 0 ∨ O.length ≤ cp.from_)) (hf : cFnP P cp f = some fn) (hb : bodyI P fn args H O r H' O') : IDen P f args H O r H' O' keep := by
  unfold cFnP at hf
  split at hf
  · rename_i F hF
    split at hf
    · rename_i c hc
      split at hf
      · rename_i code res hcode hres
        simp at hf; subst hf
        obtain ⟨hn, hnt, ⟨hHl, hHb, hrb⟩, hw⟩ := hb
        intro base w0 E w vs hh hrep
        refine calls_of_wp hF hc ?_
        let C : Ctx := ⟨base, w0, E, w, keep⟩
        have hsat : Sat C E ⟨vs.toArray ++ Array.replicate (F.ntmps - vs.toArray.size) Go.undef, []⟩ w ⟨args ++ List.replicate (F.ntmps - args.length) .undef, H, O⟩ := by
          refine ⟨hh, fun _ _ h => ⟨h, rfl⟩, fun _ _ h => h, fun _ _ h => .inl h, rfl, fun _ _ _ h => h, by simp [hrep.1], fun t x u hx hu => ?_⟩
          have hl := hrep.1
          rw [← Array.getElem?_toList] at hu
          simp only [Array.toList_append, Array.toList_replicate, List.size_toArray] at hu
          rcases Nat.lt_or_ge t args.length with ht | ht
          · rw [List.getElem?_append_left ht] at hx
            rw [List.getElem?_append_left (by omega)] at hu
            exact hrep.2 t x u hx hu
          · rw [List.getElem?_append_right ht] at hx
            rw [List.getElem?_append_right (by omega)] at hu
            rw [List.getElem?_replicate] at hx hu
            split at hx
            · split at hu
              · cases hx; cases hu; exact .undef
              · cases hu
            · cases hx
        refine code_ok (C := C) (fun q => ⟨(hkp q).1, (hkp q).2.imp id fun h => by show E.κ.length ≤ _; rw [hh.lenκ]; exact h⟩) hcode hw hsat fun e E' a' w' st' hk hs => ?_
        have fin : (aresultI st' res = some r ∧ st'.H.take H'.length = H' ∧ st'.O = O') → a'.defers = [] ∧ ∃ v, (results F a'.tmps).run P w' = .ok v w' ∧
            (∃ v' E', Ending.returned v = .returned v' ∧ Holds base w0 E' w' H' O' ∧ ExtK keep E w E' w' ∧ (∀ g o, E'.S g o → E.S g o ∨ base ≤ g) ∧ RepV E' w' r v') := by
          rintro ⟨hr, hH, rfl⟩
          refine ⟨hs.defers, ?_⟩
          unfold aresultI at hr
          cases hvs : aresI st' res with
          | none => rw [hvs] at hr; simp at hr
          | some xs =>
            obtain ⟨us, h1, h2⟩ := res_okI hs hres hvs
            have hrun : (results F a'.tmps).run P w' = .ok (if h : us.toArray.size = 1 then us.toArray[0] else .tuple us.toArray) w' := by
              have e : results F a'.tmps = (do let vs ← F.results.mapM (resRun a'.tmps); pure (if h : vs.size = 1 then vs[0] else .tuple vs) : Sem Value) := by
                unfold results
                congr 2
              rw [e, Array.mapM_eq_mapM_toList]
              simp only [Sem.run_bind, map_eq_pure_bind, Sem.run_pure]
              simp only [h1, Result.andThen_ok]
            refine ⟨_, hrun, _, E'.cut H'.length st'.O.length, rfl, hs.holds.cut hH (List.take_length) hHb, ⟨fun g o h => (hs.S g o h).1, fun g o h => (hs.S g o h).2, fun i g hi => ?_, fun q k v e => by
                show (E'.κ.take st'.O.length)[k]? = some v
                rw [← hs.holds.lenκ, List.take_length]; exact hs.κ q k v e⟩, hs.news, boundV_rep hrb ?_⟩
            · have hlt : i < H.length := by rw [← hh.lenι]; exact (List.getElem?_eq_some_iff.1 hi).1
              show (E'.ι.take H'.length)[i]? = some g
              rw [List.getElem?_take, if_pos (by omega)]
              exact hs.ι i g hi
            rw [hvs] at hr
            obtain ⟨hl, hg⟩ := h2
            have tup : r = .tup xs → ¬ us.length = 1 → RepV E' w' r (if h : us.toArray.size = 1 then us.toArray[0] else .tuple us.toArray) := by
              intro hr hn1
              rw [hr, dif_neg (by simpa using hn1)]
              exact .tup (by simpa using hl) fun j x u hj hu => hg j x u hj (by simpa using hu)
            rcases xs with _ | ⟨x, _ | ⟨y, xs⟩⟩
            · simp only [Option.some.injEq] at hr
              exact tup hr.symm (by simp at hl; simp [hl])
            · simp only [Option.some.injEq] at hr
              subst hr
              rcases us with _ | ⟨u, _ | ⟨u', us⟩⟩
              · simp at hl
              · exact hg 0 x u rfl rfl
              · simp at hl
            · simp only [Option.some.injEq] at hr
              exact tup hr.symm (by simp at hl; omega)
        cases e with
        | normal => exact fin hk
        | ret => exact fin hk
        | exit id => exact hk.elim
        | goto l => exact hk.elim
        | panic ch => exact hk.elim
        | outgrown => exact hk.elim
      · cases hf
    · cases hf
  · cases hf

theorem iden_of_body {cp : CP} {f : FuncId} {fn : AFn} {args : List AV} {H H' : List (List AV)} {O O' : List OwnD} {r : AV} (hf : cFnP P cp f = some fn) (hb : bodyI P fn args H O r H' O') : IDen P f args H O r H' O' false := iden_of_bodyG (by intro h; cases h) hf hb
/-- The same, all names kept. -/
theorem iden_of_bodyK {cp : CP} {f : FuncId} {fn : AFn} {args : List AV} {H H' : List (List AV)} {O O' : List OwnD} {r : AV} (hc : (cp.keep && decide (cp.from_ = 0)) = true) (hf : cFnP P cp f = some fn) (hb : bodyI P fn args H O r H' O') : IDen P f args H O r H' O' true :=
  iden_of_bodyG (fun _ => by simp only [Bool.and_eq_true, decide_eq_true_eq] at hc; exact ⟨hc.1, .inl hc.2⟩) hf hb
/-- The same where the function has rows of its own: so many were there before. -/
theorem iden_of_bodyN {cp : CP} {f : FuncId} {fn : AFn} {args : List AV} {H H' : List (List AV)} {O O' : List OwnD} {r : AV} (hc : cp.keep = true) (hO : O.length ≤ cp.from_) (hf : cFnP P cp f = some fn) (hb : bodyI P fn args H O r H' O') : IDen P f args H O r H' O' true :=
  iden_of_bodyG (fun _ => ⟨hc, .inr hO⟩) hf hb
/-- A function that only computes leaves the caller's memory as it is. -/
theorem IDen.of_den {f : FuncId} {args as : List AV} {H : List (List AV)} {O : List OwnD} {r : AV} (h : PDen P f as r) (ha : argsOf O args = some as) : IDen P f args H O r H O true := by
  intro base w0 E w vs hh hrep
  have hr : RepL E.S w as vs := by
    have key : ∀ {l as : List AV} {vs : List Value}, argsOf O l = some as → vs.length = l.length → (∀ (j : Nat) (x : AV) (v : Value), l[j]? = some x → vs[j]? = some v → RepV E w x v) → RepL E.S w as vs := by
      intro l
      induction l with
      | nil => intro as vs h1 h2 _; simp [argsOf] at h1; subst h1; exact ⟨h2, fun j x v hj => by simp at hj⟩
      | cons x l ih =>
        intro as vs h1 h2 h3
        unfold argsOf at h1
        split at h1
        · rename_i y ys hy hys
          simp at h1; subst h1
          cases vs with
          | nil => simp at h2
          | cons v vs =>
            obtain ⟨g1, g2⟩ := ih hys (by simpa using h2) fun j x v hj hv => h3 (j + 1) x v (by simpa using hj) (by simpa using hv)
            refine ⟨by simp [g1], fun j z u hj hu => ?_⟩
            cases j with
            | zero => simp at hj hu; subst hj; subst hu; exact rep_arg hh (h3 0 x v rfl rfl) hy
            | succ j => exact g2 j z u (by simpa using hj) (by simpa using hu)
        · cases h1
    exact key ha hrep.1 hrep.2
  refine (h E.S w vs hh.imm hr).mono ?_
  rintro e w' ⟨v, S', rfl, hS, hN, hI, hbl, hv⟩
  obtain ⟨h1, h2⟩ := hh.later hbl hS hN hI
  exact ⟨v, _, rfl, h1, ⟨h2.S, h2.cell, h2.ι, fun _ => h2.κ⟩, fun g o hg => (hN g o hg).elim .inl fun q => .inr (Nat.le_trans (Nat.le_trans hh.hb hh.below.size) q), rep_open hv⟩
end
end Ab
