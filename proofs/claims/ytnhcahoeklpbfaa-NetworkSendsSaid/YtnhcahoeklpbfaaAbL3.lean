/- Rows of the call's own that are written in place: make, copy, stores, sealing. No program. -/
import Derived.Test.YtnhcahoeklpbfaaAbL2
set_option linter.unusedSimpArgs false
set_option linter.unusedVariables false
namespace Ab
open Go Go.RowKit

section
variable {P : Program} {base : Nat} {w0 : World} {E : Env} {w : World} {H : List (List AV)} {O : List OwnD}

theorem snoc_at {α : Type} {l : List α} {x y : α} {k : Nat} (h : (l ++ [x])[k]? = some y) : (k < l.length ∧ l[k]? = some y) ∨ (k = l.length ∧ y = x) := by
  rcases Nat.lt_or_ge k l.length with hl | hl
  · rw [List.getElem?_append_left hl] at h; exact .inl ⟨hl, h⟩
  · rw [List.getElem?_append_right hl] at h
    have h0 : k - l.length = 0 := by
      rcases Nat.eq_zero_or_pos (k - l.length) with h0 | h0
      · exact h0
      · rw [List.getElem?_eq_none (by simp; omega)] at h; cases h
    rw [h0] at h
    simp at h
    exact .inr ⟨by omega, h.symm⟩

/-- One more row. -/
theorem Holds.addOwn (hh : Holds base w0 E w H O) {v : Value} {d : OwnD} (hok : OwnOk base E.S w v d) (hι : ∀ g, v.ownBlock = some g → ∀ i : Nat, E.ι[i]? ≠ some g) (hκ : ∀ (g k : Nat) (u : Value), v.ownBlock = some g → E.κ[k]? = some u → u.ownBlock ≠ some g) :
    Holds base w0 ⟨E.S, E.ι, E.κ ++ [v]⟩ w H (O ++ [d]) ∧ Ext E w ⟨E.S, E.ι, E.κ ++ [v]⟩ w := by
  have hx : Ext E w ⟨E.S, E.ι, E.κ ++ [v]⟩ w := ⟨fun _ _ h => h, fun _ _ _ => rfl, fun _ _ h => h, fun k u h => by
    show (E.κ ++ [v])[k]? = _
    rw [List.getElem?_append_left (List.getElem?_eq_some_iff.1 h).1]; exact h⟩
  refine ⟨⟨hh.below, hh.hb, hh.imm, hh.lenι, by simp [hh.lenκ], hh.inj, ?_, hh.apart, ?_, ?_, ?_, hh.bld⟩, hx⟩
  · intro i g cs hi hcs
    obtain ⟨a1, arr, t, a2, a3, a4⟩ := hh.cells i g cs hi hcs
    exact ⟨a1, arr, t, a2, a3, fun j x u hj hu => (a4 j x u hj hu).mono hx⟩
  · intro k u d' hk hd
    rcases snoc_at hk with ⟨h1, h2⟩ | ⟨h1, h2⟩ <;> rcases snoc_at hd with ⟨h3, h4⟩ | ⟨h3, h4⟩
    · exact hh.owns k u d' h2 h4
    · have := hh.lenκ; omega
    · have := hh.lenκ; omega
    · subst h2; subst h4; exact hok
  · intro k u g hk hg i hi
    rcases snoc_at hk with ⟨h1, h2⟩ | ⟨h1, h2⟩
    · exact hh.κapart k u g h2 hg i hi
    · subst h2; exact hι g hg i hi
  · intro j k u q g hj hk hu hq
    rcases snoc_at hj with ⟨h1, h2⟩ | ⟨h1, h2⟩ <;> rcases snoc_at hk with ⟨h3, h4⟩ | ⟨h3, h4⟩
    · exact hh.κinj j k u q g h2 h4 hu hq
    · subst h4; exact absurd hu (hκ g j u hq h2)
    · subst h2; exact absurd hq (hκ g k q hu h4)
    · omega

/-- A row written in place. -/
theorem Holds.setOwn (hh : Holds base w0 E w H O) {k : Nat} {v : Value} {d d' : OwnD} {w' : World} (hk : E.κ[k]? = some v) (hd : O[k]? = some d) (hmu : d.mu = true) (hg : w.grownBy w' v.ownBlock) (hok : RepR E.S w d'.sz d'.rows = RepR E.S w d'.sz d'.rows → OwnOk base E.S w' v d') :
    Holds base w0 E w' H (O.set k d') ∧ Ext E w E w' := by
  have hsz : base ≤ w.heap.size := Nat.le_trans hh.hb hh.below.size
  obtain ⟨⟨xs, ho, hr⟩, hlen, hpos, hat⟩ := hh.owns k v d hk hd
  have hcell : ∀ g o, E.S g o → w'.cell? ⟨g, o, none⟩ = w.cell? ⟨g, o, none⟩ := by
    intro g o hs
    obtain ⟨u, hu⟩ := hh.imm g o hs
    refine World.cell?_of_block (w := w) (a := ⟨g, o, none⟩) (hg.block g (lt_of_cell hu) fun he => ?_)
    have := (hat g he.symm o).1 hs
    rw [hmu] at this
    cases this.1
  have hx : Ext E w E w' := ⟨fun _ _ h => h, hcell, fun _ _ h => h, fun _ _ h => h⟩
  have hkl : k < O.length := (List.getElem?_eq_some_iff.1 hd).1
  refine ⟨⟨hh.below.grown hg hsz fun g h => (ho.lt g h).1, hh.hb, fun g o h => ?_, hh.lenι, by simp [hh.lenκ], hh.inj, ?_, hh.apart, ?_, hh.κapart, hh.κinj, fun i g cs t hi hcs hb' => let ⟨p, u, q1, q2⟩ := hh.bld i g cs t hi hcs hb'; ⟨p, u, (hg.block g (ι_lt hh hi) (fun he => hh.κapart k v g hk he.symm i hi)).trans q1, q2⟩⟩, hx⟩
  · obtain ⟨u, hu⟩ := hh.imm g o h
    exact ⟨u, (hcell g o h).trans hu⟩
  · intro i g cs hi hcs
    obtain ⟨a1, arr, t, a2, a3, a4⟩ := hh.cells i g cs hi hcs
    refine ⟨a1, arr, t, ?_, a3, fun j x u hj hu => (a4 j x u hj hu).mono hx⟩
    rw [hg.block g (ι_lt hh hi) (fun he => hh.κapart k v g hk he.symm i hi)]
    exact a2
  · intro j u e hj he
    by_cases hjk : j = k
    · subst hjk
      rw [List.getElem?_set_self hkl] at he
      injection he with he
      subst he
      have : u = v := Option.some.inj (hj.symm.trans hk)
      subst this
      exact hok rfl
    · rw [List.getElem?_set_ne (Ne.symm hjk)] at he
      obtain ⟨⟨xs', ho', hr'⟩, q2, q3, q4⟩ := hh.owns j u e hj he
      refine ⟨⟨xs', ho'.kept hg ?_, hr'.mono hx.S hx.cell⟩, q2, q3, q4⟩
      cases hub : u.ownBlock with
      | none => exact .inl rfl
      | some g => exact .inr fun he' => hjk (hh.κinj j k u v g hj hk hub he'.symm)

/-- A row that is from now on only read and appended to. -/
theorem Holds.sealOwn (hh : Holds base w0 E w H O) {k : Nat} {v : Value} {d : OwnD} (hk : E.κ[k]? = some v) (hd : O[k]? = some d) :
    Holds base w0 ⟨fun g o => E.S g o ∨ (v.ownBlock = some g ∧ o < d.rows.length * d.sz), E.ι, E.κ⟩ w H (O.set k ⟨d.e, d.sz, d.rows, false⟩) ∧ Ext E w ⟨fun g o => E.S g o ∨ (v.ownBlock = some g ∧ o < d.rows.length * d.sz), E.ι, E.κ⟩ w := by
  obtain ⟨⟨xs, ho, hr⟩, hlen, hpos, hat⟩ := hh.owns k v d hk hd
  have hkl : k < O.length := (List.getElem?_eq_some_iff.1 hd).1
  have hx : Ext E w ⟨fun g o => E.S g o ∨ (v.ownBlock = some g ∧ o < d.rows.length * d.sz), E.ι, E.κ⟩ w := ⟨fun _ _ h => .inl h, fun _ _ _ => rfl, fun _ _ h => h, fun _ _ h => h⟩
  refine ⟨⟨hh.below, hh.hb, ?_, hh.lenι, by simp [hh.lenκ], hh.inj, ?_, ?_, ?_, hh.κapart, hh.κinj, hh.bld⟩, hx⟩
  · rintro g o (h | ⟨h, hlt⟩)
    · exact hh.imm g o h
    · have hl : o < xs.length := by rw [ho.1]; exact hlt
      have := ho.cells (g := g) h o _ (List.getElem?_eq_getElem hl)
      rw [add_at, Nat.zero_add] at this
      exact ⟨_, this⟩
  · intro i g cs hi hcs
    obtain ⟨a1, arr, t, a2, a3, a4⟩ := hh.cells i g cs hi hcs
    exact ⟨a1, arr, t, a2, a3, fun j x u hj hu => (a4 j x u hj hu).mono hx⟩
  · rintro i g hi o (h | ⟨h, hlt⟩)
    · exact hh.apart i g hi o h
    · exact hh.κapart k v g hk h i hi
  · intro j u e hj he
    by_cases hjk : j = k
    · subst hjk
      rw [List.getElem?_set_self hkl] at he
      injection he with he
      subst he
      have : u = v := Option.some.inj (hj.symm.trans hk)
      subst this
      refine ⟨⟨xs, ho, hr.mono hx.S hx.cell⟩, hlen, hpos, fun g hg o => ?_⟩
      show (E.S g o ∨ _) ↔ _
      simp only [true_and]
      refine ⟨fun h => h.elim (fun h => ((hat g hg o).1 h).2) (fun h => h.2), fun h => .inr ⟨hg, h⟩⟩
    · rw [List.getElem?_set_ne (Ne.symm hjk)] at he
      obtain ⟨⟨xs', ho', hr'⟩, q2, q3, q4⟩ := hh.owns j u e hj he
      refine ⟨⟨xs', ho', hr'.mono hx.S hx.cell⟩, q2, q3, fun g hg o => ?_⟩
      rw [← q4 g hg o]
      exact ⟨fun h => h.elim id fun h => absurd (hh.κinj j k u v g hj hk hg h.1) hjk, .inl⟩

theorem Sat.sealO {C : Ctx} {a : Act} {st : St} {E : Env} {w : World} {x : AV} {v : Value} (h : Sat C E a w st) (hv : RepV E w x v) : ∃ E', Sat C E' a w { st with O := sealO st.O x } ∧ Ext E w E' w := by
  cases hv with
  | own hk =>
    rename_i k
    have hkl : k < st.O.length := by rw [← h.holds.lenκ]; exact (List.getElem?_eq_some_iff.1 hk).1
    have hd : st.O[k]? = some (st.O.getD k default) := by simp [hkl]
    obtain ⟨h1, h2⟩ := h.holds.sealOwn hk hd
    refine ⟨_, ⟨h1, fun g o q => ⟨.inl (h.S g o q).1, (h.S g o q).2⟩, h.ι, fun g o q => ?_, h.defers, fun q k v e => h2.κ k v (h.κ q k v e), h.fr.mono h2⟩, h2⟩
    rcases q with q | ⟨q, _⟩
    · exact h.news g o q
    · exact .inr (κ_lt h.holds hk q).1
  | _ => exact ⟨E, h, Ext.refl _ _⟩

theorem Sat.sealL {C : Ctx} {a : Act} {w : World} : ∀ (xs : List AV) {st : St} {E : Env}, Sat C E a w st → (∀ x ∈ xs, ∃ v, RepV E w x v) → ∃ E', Sat C E' a w { st with O := sealL st.O xs }
  | [], _, E, h, _ => ⟨E, h⟩
  | x :: xs, st, E, h, hx => by
    obtain ⟨v, hv⟩ := hx x (by simp)
    obtain ⟨E1, h1, he⟩ := h.sealO hv
    exact Sat.sealL xs (st := { st with O := Ab.sealO st.O x }) h1 fun y hy => let ⟨u, hu⟩ := hx y (by simp [hy]); ⟨u, hu.mono he⟩

theorem Sat.seal1 {C : Ctx} {a : Act} {st : St} {E : Env} {w : World} (h : Sat C E a w st) (t : Nat) : ∃ E', Sat C E' a w (seal1 st (st.fr.getD t .undef)) := by
  have hv := h.fr.get t
  generalize st.fr.getD t .undef = x at hv
  generalize a.tmps.getD t Go.undef = v at hv
  unfold Ab.seal1
  split
  · rename_i id off
    refine h.sealL _ fun x hx => ?_
    cases hv with
    | loc hg =>
      have hl : id < st.H.length := by rw [← h.holds.lenι]; exact (List.getElem?_eq_some_iff.1 hg).1
      have e : st.H.getD id [] = st.H[id] := by simp [hl]
      rw [e] at hx
      obtain ⟨j, hj, rfl⟩ := List.mem_iff_getElem.1 hx
      obtain ⟨_, arr, t', _, a3, a4⟩ := h.holds.cells id _ st.H[id] hg (List.getElem?_eq_getElem hl)
      exact ⟨arr[j]'(by omega), a4 j _ _ (List.getElem?_eq_getElem hj) (by simp)⟩
  · obtain ⟨E', h', _⟩ := h.sealO hv
    exact ⟨E', h'⟩

theorem Sat.toArg {C : Ctx} {a : Act} {st : St} {E : Env} {w : World} (h : Sat C E a w st) (t : Nat) : Sat C E a w (Ab.toArg st t) := by
  unfold Ab.toArg
  cases hy : argOf st.O (st.fr.getD t .undef) with
  | some y =>
    have hv := h.fr.get t
    have hx : Ext ⟨E.S, [], []⟩ w E w := ⟨fun _ _ h => h, fun _ _ _ => rfl, fun _ _ h => by simp at h, fun _ _ h => by simp at h⟩
    have hr : RepV E w y (a.tmps.getD t Go.undef) := (rep_arg h.holds hv hy).mono hx
    have e : a.tmps.setIfInBounds t (a.tmps.getD t Go.undef) = a.tmps := by
      apply Array.ext_getElem?
      intro i
      rw [Array.getElem?_setIfInBounds]
      split
      · rename_i hi
        subst hi
        split
        · rename_i hl
          simp [hl]
        · rename_i hl
          simp at hl
          simp [hl]
      · rfl
    have hf := h.fr.set hr t
    rw [e] at hf
    exact ⟨h.holds, h.S, h.ι, h.news, h.defers, h.κ, hf⟩
  | none => exact h
theorem Sat.reset {C : Ctx} {a : Act} {st : St} {E : Env} {w : World} (h : Sat C E a w st) (t : Nat) {y : AV} (hr : RepV E w y (a.tmps.getD t Go.undef)) : Sat C E a w { st with fr := st.fr.set t y } := by
  have e : a.tmps.setIfInBounds t (a.tmps.getD t Go.undef) = a.tmps := by
    apply Array.ext_getElem?
    intro i
    rw [Array.getElem?_setIfInBounds]
    split
    · rename_i hi
      subst hi
      split
      · rename_i hl
        simp [hl]
      · rename_i hl
        simp at hl
        simp [hl]
    · rfl
  have hf := h.fr.set hr t
  rw [e] at hf
  exact ⟨h.holds, h.S, h.ι, h.news, h.defers, h.κ, hf⟩
theorem plainV_rep {E : Env} {w : World} {x : AV} {v : Value} (h : RepV E w x v) : RepV E w (plainV x) v := by
  cases h with
  | ownc h hc => exact .own h
  | _ => first | exact .a ‹_› | exact .agg ‹_› ‹_› | exact .tup ‹_› ‹_› | exact .loc ‹_› | exact .ptr ‹_› | exact .nilptr | exact .full ‹_› | exact .nn ‹_› | exact .own ‹_› | exact .eptr ‹_› | exact .vsl ‹_› ‹_› ‹_› | exact .mix ‹_› ‹_› | exact .clo ‹_› ‹_› | exact .bself | exact .ownv ‹_› | exact .undef | exact .any
theorem roomV_rep {E : Env} {w : World} {x y : AV} {u v : Value} (hx : RepV E w x u) (hy : RepV E w y v) : RepV E w (roomV x y) v := by
  unfold roomV
  split
  · rename_i k c j
    split
    · rename_i hj
      subst hj
      cases hx with
      | ownc h hc =>
        cases hy with
        | own h2 =>
          rw [h] at h2
          cases h2
          exact .ownc h hc
    · exact hy
  · exact hy
theorem Sat.capS {C : Ctx} {a : Act} {w : World} {st : St} {E : Env} (h : Sat C E a w st) (t : Nat) : Sat C E a w (Ab.capS t st) := by
  unfold Ab.capS
  split
  · exact h.reset _ (plainV_rep (h.fr.get _))
  · exact h.reset _ (roomV_rep (h.fr.get _) (h.fr.get _))
theorem Sat.sealS {C : Ctx} {a : Act} {w : World} : ∀ (ts : List Nat) {st : St} {E : Env}, Sat C E a w st → ∃ E', Sat C E' a w (sealS ts st)
  | [], _, E, h => ⟨E, h⟩
  | t :: ts, st, _, h => by
    unfold Ab.sealS
    split
    · exact Sat.sealS ts (h.capS t)
    split
    · obtain ⟨_, h'⟩ := h.seal1 (t - 1000000)
      exact Sat.sealS ts (h'.toArg (t - 1000000))
    · obtain ⟨_, h'⟩ := h.seal1 t
      exact Sat.sealS ts h'

/-! ### make -/

theorem madeCells_at (z : Array Value) (n j : Nat) (hj : j < n) (hz : 0 < z.size) : (madeCells z n)[j]? = z[j % z.size]? := by
  have hlt : j % z.size < z.size := Nat.mod_lt _ hz
  simp [madeCells, hj, hlt]

theorem ok_makeG {C : Ctx} {y : AV} {o : Oper} {t e : TypeId} {i : TypeInfo} {z : Value} {zs : List Atom} {l c : Operand} {l' c' : AX} {st : St} {K : AV → St → Prop} {kl kc : IntKind} {n m : Int} (ho : o.op = .makeSlice t l c) (ht : P.underlying t = some (.slice e)) (hi : P.info? e = some i) (hz : i.zero = some z)
    (hzs : mapO cAtom z.cells.toList = some zs) (hzl : zs.length = i.size) (hl : cX l = some l') (hc : cX c = some c') (hln : aval st.fr l' = .a (.int kl n)) (hcm : aval st.fr c' = .a (.int kc m)) (h0 : 0 ≤ n) (hnm : n ≤ m) (hb : (i.bytes : Int) * m ≤ 281474976710656) (h63 : m ≤ 9223372036854775807) (hpos : 0 < i.size)
    (hyr : ∀ (E : Env) (w : World) (g : Nat), E.κ[st.O.length]? = some (.slice (some ⟨g, 0, none⟩) n.toNat m.toNat) → RepV E w y (.slice (some ⟨g, 0, none⟩) n.toNat m.toNat)) (h : K y { st with O := st.O ++ [⟨e, i.size, List.replicate n.toNat zs, true⟩] }) : OpOk P C o st K := by
  intro E a w hsat KK Q hKK
  have hh := hsat.holds
  have hsz : C.base ≤ w.heap.size := Nat.le_trans hh.hb hh.below.size
  have hvl := (hln ▸ rep_aval hsat.fr hl).int_
  have hvc := (hcm ▸ rep_aval hsat.fr hc).int_
  have hr := run_make (P := P) w t e i z ht hi hz kl kc n m h0 hnm hb h63
  have hrun : (execOp a.eval o).run P w = .ok (.value (.slice (some ⟨w.heap.size, 0, none⟩) n.toNat m.toNat)) (w.alloc (.cells (madeCells z.cells (m.toNat * i.size)) e)) := by
    simp only [execOp, ho, hvl, hvc, Sem.run_bind, hr, Result.andThen_ok]; rfl
  obtain ⟨hl2, hx2⟩ := hh.later (w' := w.alloc (.cells (madeCells z.cells (m.toNat * i.size)) e)) (S' := E.S) ((Below.refl _ _).alloc (Nat.le_refl _) _) (fun _ _ h => h) (fun _ _ h => .inl h) (fun g o hs => by
    obtain ⟨u, hu⟩ := hh.imm g o hs
    exact ⟨u, (World.cell?_alloc_lt w _ ⟨g, o, none⟩ (lt_of_cell hu)).trans hu⟩)
  obtain ⟨hz1, hz2⟩ := mapO_spec hzs
  have hzz : z.cells.size = i.size := by rw [← hzl, hz1]; simp
  have hown : (w.alloc (.cells (madeCells z.cells (m.toNat * i.size)) e)).ownsRow C.base e i.size (.slice (some ⟨w.heap.size, 0, none⟩) n.toNat m.toNat) n.toNat ((madeCells z.cells (m.toNat * i.size)).toList.take (n.toNat * i.size)) := by
    refine ⟨?_, .inr ⟨w.heap.size, m.toNat, madeCells z.cells (m.toNat * i.size), rfl, hsz, heap_alloc_new w _, by omega, by simp only [maxLen]; omega, by simp [size_madeCells], rfl⟩⟩
    have : n.toNat * i.size ≤ m.toNat * i.size := Nat.mul_le_mul_right _ (by omega)
    rw [List.length_take, Array.length_toList, size_madeCells]
    omega
  have hok : OwnOk C.base E.S (w.alloc (.cells (madeCells z.cells (m.toNat * i.size)) e)) (.slice (some ⟨w.heap.size, 0, none⟩) n.toNat m.toNat) ⟨e, i.size, List.replicate n.toNat zs, true⟩ := by
    refine ⟨⟨_, by simpa using hown, ⟨fun q r hq => ?_, fun q r j x hq hj => ?_⟩⟩, by simp; omega, hpos, fun g hg o => ?_⟩
    · rw [List.getElem?_replicate] at hq
      split at hq
      · cases hq; exact hzl
      · cases hq
    · rw [List.getElem?_replicate] at hq
      split at hq
      · rename_i hqn
        cases hq
        have hjl : j < i.size := by rw [← hzl]; exact (List.getElem?_eq_some_iff.1 hj).1
        have hq2 : q * i.size + i.size ≤ n.toNat * i.size := by rw [← Nat.succ_mul]; exact Nat.mul_le_mul_right _ hqn
        have hq3 : n.toNat * i.size ≤ m.toNat * i.size := Nat.mul_le_mul_right _ (by omega)
        have hcu : z.cells.toList[j]? = some (z.cells[j]'(by omega)) := by simp [hzz, hjl]
        have hq4 : q * i.size + j < n.toNat * i.size := Nat.lt_of_lt_of_le (Nat.add_lt_add_left hjl _) hq2
        have hmod : (q * i.size + j) % z.cells.size = j := by rw [hzz, Nat.mul_comm q, Nat.mul_add_mod, Nat.mod_eq_of_lt hjl]
        refine ⟨z.cells[j]'(by omega), ?_, ?_⟩
        · show ((madeCells z.cells (m.toNat * i.size)).toList.take (n.toNat * i.size))[q * i.size + j]? = _
          rw [List.getElem?_take, if_pos hq4, Array.getElem?_toList, madeCells_at _ _ _ (Nat.lt_of_lt_of_le hq4 hq3) (by omega), hmod]
          simp [hzz, hjl]
        · exact cAtom_rep (hz2 j x _ hj hcu)
      · cases hq
    · simp [Value.ownBlock] at hg
      subst hg
      refine ⟨fun hs => ?_, fun hs => by simp at hs⟩
      obtain ⟨u, hu⟩ := hh.imm _ o hs
      exact absurd (lt_of_cell hu) (Nat.lt_irrefl _)
  obtain ⟨hh3, hx3⟩ := hl2.addOwn hok (fun g hg i' hi' => by
    simp [Value.ownBlock] at hg; subst hg
    exact absurd (ι_lt hh hi') (Nat.lt_irrefl _)) (fun g k u hg hk hu => by
    simp [Value.ownBlock] at hg; subst hg
    exact absurd (κ_lt hh hk hu).2 (Nat.lt_irrefl _))
  refine wp_value hrun (hKK _ _ _ _ _ h ((hsat.later hh3 (hx2.trans hx3) (fun g o h => .inl h)).put (hyr _ _ _ ?_) _))
  show (E.κ ++ [_])[st.O.length]? = _
  rw [← hh.lenκ]; simp

theorem ok_make {C : Ctx} {o : Oper} {t e : TypeId} {i : TypeInfo} {z : Value} {zs : List Atom} {l c : Operand} {l' c' : AX} {st : St} {K : AV → St → Prop} {kl kc : IntKind} {n m : Int} (ho : o.op = .makeSlice t l c) (ht : P.underlying t = some (.slice e)) (hi : P.info? e = some i) (hz : i.zero = some z)
    (hzs : mapO cAtom z.cells.toList = some zs) (hzl : zs.length = i.size) (hl : cX l = some l') (hc : cX c = some c') (hln : aval st.fr l' = .a (.int kl n)) (hcm : aval st.fr c' = .a (.int kc m)) (h0 : 0 ≤ n) (hnm : n ≤ m) (hb : (i.bytes : Int) * m ≤ 281474976710656) (h63 : m ≤ 9223372036854775807) (hpos : 0 < i.size)
    (h : K (.own st.O.length) { st with O := st.O ++ [⟨e, i.size, List.replicate n.toNat zs, true⟩] }) : OpOk P C o st K :=
  ok_makeG ho ht hi hz hzs hzl hl hc hln hcm h0 hnm hb h63 hpos (fun _ _ _ h => .own h) h
theorem ok_makeC {C : Ctx} {o : Oper} {t e : TypeId} {i : TypeInfo} {z : Value} {zs : List Atom} {l c : Operand} {l' c' : AX} {st : St} {K : AV → St → Prop} {kl kc : IntKind} {n m : Int} (ho : o.op = .makeSlice t l c) (ht : P.underlying t = some (.slice e)) (hi : P.info? e = some i) (hz : i.zero = some z)
    (hzs : mapO cAtom z.cells.toList = some zs) (hzl : zs.length = i.size) (hl : cX l = some l') (hc : cX c = some c') (hln : aval st.fr l' = .a (.int kl n)) (hcm : aval st.fr c' = .a (.int kc m)) (h0 : 0 ≤ n) (hnm : n ≤ m) (hb : (i.bytes : Int) * m ≤ 281474976710656) (h63 : m ≤ 9223372036854775807) (hpos : 0 < i.size)
    (h : K (.ownc st.O.length m.toNat) { st with O := st.O ++ [⟨e, i.size, List.replicate n.toNat zs, true⟩] }) : OpOk P C o st K :=
  ok_makeG ho ht hi hz hzs hzl hl hc hln hcm h0 hnm hb h63 hpos (fun _ _ _ h => .ownc h (Nat.le_refl _)) h

/-! ### A part of a block that is written -/

theorem splice_get {α : Type} {l ys : List α} {o j : Nat} (h : o + ys.length ≤ l.length) : (l.take o ++ ys ++ l.drop (o + ys.length))[j]? = if j < o then l[j]? else if j < o + ys.length then ys[j - o]? else l[j]? := by
  split
  · rename_i c1
    rw [List.append_assoc, List.getElem?_append_left (by simp; omega), List.getElem?_take, if_pos c1]
  · split
    · rw [List.append_assoc, List.getElem?_append_right (by simp; omega), List.getElem?_append_left (by simp; omega)]
      congr 1; simp; omega
    · rw [List.append_assoc, List.getElem?_append_right (by simp; omega), List.getElem?_append_right (by simp; omega), List.getElem?_drop]
      congr 1; simp; omega

theorem ownsRow_part {v : Value} {e : TypeId} {sz n g c off : Nat} {xs ys : List Value} (h : w.ownsRow base e sz v n xs) (hv : v = .slice (some ⟨g, 0, none⟩) n c) (hfit : off + ys.length ≤ n * sz) (h1 : ∀ u ∈ ys, u.oneCell' = true) :
    ∃ w', (storeCells ⟨g, off, none⟩ ys).run P w = .ok () w' ∧ w.grownBy w' v.ownBlock ∧ w'.ownsRow base e sz v n (xs.take off ++ ys ++ xs.drop (off + ys.length)) := by
  subst hv
  obtain ⟨hl, h | ⟨g', cap, cur, h', hb, hg, hnc, hcm, hcs, htake⟩⟩ := h
  · cases h.1
  · injection h' with h1' h2 h3
    injection h1' with h1'
    injection h1' with h1' _
    subst h1'; subst h3
    have hcap : n * sz ≤ cur.size := by rw [hcs]; exact Nat.mul_le_mul_right _ hnc
    have hst := run_storeCells_at (P := P) g off e ys 0 cur w hg (by omega) h1
    simp only [Nat.add_zero] at hst
    refine ⟨_, hst, ⟨rfl, rfl, rfl, by simp [World.setRow], fun k hk hne => setRow_other w g k _ (fun e => hne (by rw [e]; rfl))⟩, ?_, .inr ⟨g, c, _, rfl, hb, setRow_heap w g cur _ e _ hg, hnc, hcm, ?_, ?_⟩⟩
    · simp only [List.length_append, List.length_take, List.length_drop]
      omega
    · simp
      omega
    · simp only [List.append_assoc]
      rw [← htake]
      apply List.ext_getElem?
      intro j
      rw [List.getElem?_take, ← List.append_assoc, ← List.append_assoc, splice_get (by simp; omega), splice_get (by simp; omega)]
      by_cases hj : j < n * sz
      · simp only [List.getElem?_take, if_pos hj]
      · rw [if_neg hj, if_neg (by omega), if_neg (by omega), List.getElem?_take, if_neg hj]

/-- The same for the rows. -/
theorem RepR.part {S : Nat → Nat → Prop} {sz : Nat} {rows rows' : List (List Atom)} {xs ys : List Value} {off : Nat} (h : RepR S w sz rows xs) (_hx : rows'.length = rows.length) (hfit : off + ys.length ≤ xs.length)
    (hr : ∀ (i : Nat) (r : List Atom), rows'[i]? = some r → r.length = sz) (hin : ∀ (i : Nat) (r : List Atom) (j : Nat) (x : Atom), rows'[i]? = some r → r[j]? = some x → (off ≤ i * sz + j ∧ i * sz + j < off + ys.length → ∃ u, ys[i * sz + j - off]? = some u ∧ Rep S w x u) ∧
      (¬ (off ≤ i * sz + j ∧ i * sz + j < off + ys.length) → ∃ r0, rows[i]? = some r0 ∧ r0[j]? = some x)) : RepR S w sz rows' (xs.take off ++ ys ++ xs.drop (off + ys.length)) := by
  refine ⟨hr, fun i r j x hi hj => ?_⟩
  obtain ⟨h1, h2⟩ := hin i r j x hi hj
  have hil : i < rows'.length := (List.getElem?_eq_some_iff.1 hi).1
  have hjl : j < sz := by rw [← hr i r hi]; exact (List.getElem?_eq_some_iff.1 hj).1
  by_cases c : off ≤ i * sz + j ∧ i * sz + j < off + ys.length
  · obtain ⟨u, hu, hru⟩ := h1 c
    refine ⟨u, ?_, hru⟩
    rw [List.append_assoc, List.getElem?_append_right (by simp; omega), List.getElem?_append_left (by simp; omega)]
    have : i * sz + j - (List.take off xs).length = i * sz + j - off := by simp; omega
    rw [this]; exact hu
  · obtain ⟨r0, hr0, hx0⟩ := h2 c
    obtain ⟨u, hu, hru⟩ := h.2 i r0 j x hr0 hx0
    refine ⟨u, ?_, hru⟩
    by_cases c1 : i * sz + j < off
    · rw [List.append_assoc, List.getElem?_append_left (by simp; omega), List.getElem?_take, if_pos c1]; exact hu
    · rw [List.append_assoc, List.getElem?_append_right (by simp; omega), List.getElem?_append_right (by simp; omega), List.getElem?_drop]
      have : off + ys.length + (i * sz + j - (List.take off xs).length - ys.length) = i * sz + j := by simp; omega
      rw [this]; exact hu

theorem in_row {i i' sz f n j lo m : Nat} (hj : j < sz) : (lo * sz ≤ i * sz + j ∧ i * sz + j < lo * sz + m * sz ↔ lo ≤ i ∧ i < lo + m) ∧ (f + n ≤ sz → (i' * sz + f ≤ i * sz + j ∧ i * sz + j < i' * sz + f + n ↔ i = i' ∧ f ≤ j ∧ j < f + n)) := by
  have mul : ∀ {a b : Nat}, a < b → a * sz + sz ≤ b * sz := fun {a b} h => by rw [← Nat.succ_mul]; exact Nat.mul_le_mul_right _ h
  have mle : ∀ {a b : Nat}, a ≤ b → a * sz ≤ b * sz := fun {a b} h => Nat.mul_le_mul_right _ h
  constructor
  · rw [← Nat.add_mul]
    constructor
    · rintro ⟨h1, h2⟩
      refine ⟨?_, ?_⟩
      · rcases Nat.lt_or_ge i lo with h | h
        · have := mul h; omega
        · exact h
      · rcases Nat.lt_or_ge i (lo + m) with h | h
        · exact h
        · have := mle h; omega
    · rintro ⟨h1, h2⟩
      have h3 := mle h1
      have h4 := mul h2
      omega
  · intro hf
    constructor
    · rintro ⟨h1, h2⟩
      have : i = i' := by
        rcases Nat.lt_trichotomy i i' with h | h | h
        · have := mul h; omega
        · exact h
        · have := mul h; omega
      subst this
      omega
    · rintro ⟨rfl, h1, h2⟩
      omega

theorem ok_storeE {C : Ctx} {o : Oper} {t : TypeId} {x y : Operand} {x' y' : AX} {n k s i f : Nat} {st : St} {K : AV → St → Prop} {xs : List Atom} (ho : o.op = .store t x y) (hx : cX x = some x') (hy : cX y = some y') (hn : sizeAt P t = some n) (hev : aval st.fr x' = .eptr k s i f)
    (hxs : cellsOf st.O (aval st.fr y') = some xs) (hmu : (st.O.getD k default).mu = true) (hs : s = (st.O.getD k default).sz) (hi : i < (st.O.getD k default).rows.length) (hf : f + n ≤ s) (hl : xs.length = n)
    (h : K .undef { st with O := st.O.set k ⟨(st.O.getD k default).e, (st.O.getD k default).sz, (st.O.getD k default).rows.set i (((st.O.getD k default).rows.getD i []).take f ++ xs ++ ((st.O.getD k default).rows.getD i []).drop (f + n)), true⟩ }) : OpOk P C o st K := by
  intro E a w hsat KK Q hKK
  have hh := hsat.holds
  obtain ⟨g, n', c', hκ, hv, hrl, _⟩ := eptr_at hh (hev ▸ rep_aval hsat.fr hx) hs hi
  obtain ⟨hcs, hrc⟩ := rep_cells hh (rep_aval hsat.fr hy) hxs
  have hkl : k < st.O.length := by rw [← hh.lenκ]; exact (List.getElem?_eq_some_iff.1 hκ).1
  have hd : st.O[k]? = some (st.O.getD k default) := by simp [hkl]
  have hok := hh.owns k _ _ hκ hd
  generalize hd' : st.O.getD k default = d at *
  obtain ⟨⟨vs, hown, hrr⟩, hlen, hpos, hat⟩ := hok
  have hn' : n' = d.rows.length := by
    rcases hown.2 with ⟨h1, _⟩ | ⟨g1, c1, cur, h1, _⟩
    · cases h1
    · injection h1
  subst hn'
  have h1 : ∀ u ∈ (a.eval y).cells.toList, u.oneCell' = true := by
    intro u hu
    obtain ⟨j, hj, rfl⟩ := List.mem_iff_getElem.1 hu
    have hj' : j < (a.eval y).cells.size := by simpa using hj
    exact (hrc j (xs[j]'(by omega)) _ (List.getElem?_eq_getElem (by omega)) (by simp [hj'])).one
  have hyl : (a.eval y).cells.toList.length = n := by simp [hcs, hl]
  have hi2 : i * s + s ≤ d.rows.length * s := by rw [← Nat.succ_mul]; exact Nat.mul_le_mul_right _ hi
  obtain ⟨w', hst, hg, hown'⟩ := ownsRow_part (P := P) (off := i * s + f) (ys := (a.eval y).cells.toList) hown rfl (by rw [hyl, ← hs]; omega) h1
  have hrun : (execOp a.eval o).run P w = .ok .skip w' := by
    have e0 : ¬ (a.eval y).cells.size ≠ n := by rw [hcs, hl]; simp
    simp only [execOp, ho, hv, Instr.storeAt, Instr.sureAddr, storeVar, Sem.run_bind, Sem.run_pure, Result.andThen_ok, run_size hn, if_neg e0, hst]
  have hrow : d.rows.getD i [] = d.rows[i] := by rw [List.getD_eq_getElem?_getD, List.getElem?_eq_getElem hi]; rfl
  rw [hrow] at hrl h
  have hnl : (d.rows[i].take f ++ xs ++ d.rows[i].drop (f + n)).length = d.sz := by simp [hl, hrl]; omega
  obtain ⟨hh2, hx2⟩ := hh.setOwn (d' := ⟨d.e, d.sz, d.rows.set i (d.rows[i].take f ++ xs ++ d.rows[i].drop (f + n)), true⟩) hκ hd hmu hg (fun _ => by
    refine ⟨⟨vs.take (i * s + f) ++ (a.eval y).cells.toList ++ vs.drop (i * s + f + (a.eval y).cells.toList.length), by simp only [List.length_set]; exact hown', ?_⟩, by simpa using hlen, hpos, fun g' hg' o => ?_⟩
    · have hcl : ∀ g o, E.S g o → w'.cell? ⟨g, o, none⟩ = w.cell? ⟨g, o, none⟩ := by
        intro g1 o1 hs1
        obtain ⟨u, hu⟩ := hh.imm g1 o1 hs1
        refine World.cell?_of_block (w := w) (a := ⟨g1, o1, none⟩) (hg.block g1 (lt_of_cell hu) fun he => ?_)
        have := (hat g1 he.symm o1).1 hs1
        rw [hmu] at this
        cases this.1
      refine RepR.part (rows' := d.rows.set i (d.rows[i].take f ++ xs ++ d.rows[i].drop (f + n))) (ys := (a.eval y).cells.toList) (off := i * s + f) (hrr.mono (fun _ _ h => h) hcl) (by simp) (by rw [hyl, hown.1, ← hs]; omega) (fun q r hq => ?_) (fun q r j z hq hj => ?_)
      · rw [List.getElem?_set] at hq
        split at hq
        · try rw [if_pos hi] at hq
          cases hq; exact hnl
        · exact hrr.1 q r hq
      · rw [List.getElem?_set] at hq
        rw [hyl]
        split at hq
        · rename_i he
          subst he
          try rw [if_pos hi] at hq
          cases hq
          have hjl : j < d.sz := by rw [← hnl]; exact (List.getElem?_eq_some_iff.1 hj).1
          have hir := (in_row (i := i) (i' := i) (sz := d.sz) (f := f) (n := n) (j := j) (lo := 0) (m := 0) hjl).2 (by omega)
          rw [← hs] at hir ⊢
          constructor
          · intro hc
            obtain ⟨_, c1, c2⟩ := hir.1 hc
            rw [List.append_assoc, List.getElem?_append_right (by simp; omega), List.getElem?_append_left (by simp; omega)] at hj
            have e1 : j - (List.take f d.rows[i]).length = j - f := by rw [List.length_take]; omega
            rw [e1] at hj
            have hlt : j - f < (a.eval y).cells.size := by omega
            refine ⟨(a.eval y).cells[j - f], ?_, (hrc (j - f) z _ hj (by simp [hlt])).mono (fun _ _ h => h) hcl⟩
            have e2 : i * s + j - (i * s + f) = j - f := by omega
            rw [e2]; simp [hlt]
          · intro hc
            refine ⟨d.rows[i], List.getElem?_eq_getElem hi, ?_⟩
            have hc' : ¬ (f ≤ j ∧ j < f + n) := fun h => hc (hir.2 ⟨rfl, h⟩)
            rcases Nat.lt_or_ge j f with c1 | c1
            · rw [List.append_assoc, List.getElem?_append_left (by simp; omega), List.getElem?_take, if_pos c1] at hj; exact hj
            · rw [List.append_assoc, List.getElem?_append_right (by simp; omega), List.getElem?_append_right (by simp; omega), List.getElem?_drop] at hj
              have e1 : f + n + (j - (List.take f d.rows[i]).length - xs.length) = j := by rw [List.length_take]; omega
              rw [e1] at hj; exact hj
        · rename_i he
          have hjl : j < d.sz := by rw [← hrr.1 q r hq]; exact (List.getElem?_eq_some_iff.1 hj).1
          have hir := (in_row (i := q) (i' := i) (sz := d.sz) (f := f) (n := n) (j := j) (lo := 0) (m := 0) hjl).2 (by omega)
          rw [← hs] at hir ⊢
          exact ⟨fun hc => absurd (hir.1 hc).1.symm he, fun _ => ⟨r, hq, hj⟩⟩
    · rw [hat g' hg' o, hmu]; simp)
  exact wp_skip_ hrun (hKK _ _ _ _ _ h ((hsat.later hh2 hx2 (fun g o h => .inl h)).put .undef _))

theorem run_copy_part (t ty e : TypeId) (i : TypeInfo) (ht : P.underlying t = some (.slice e)) (hi : P.info? e = some i) {A A2 : Option Addr} {dl dc sl sc m : Nat} (hm : m = Min.min sl dl) (ys : List Value) (hyl : ys.length = m * i.size)
    (hsrc : 0 < m → ∃ ad, A2 = some ad ∧ ∀ j u, ys[j]? = some u → w.cell? (ad.add j) = some u) {w' : World} (hdst : 0 < m → ∃ p, A = some p ∧ (storeCells p ys).run P w = .ok () w') (h0 : m = 0 → w' = w) :
    (Builtin.copy_ #[t, t] ty #[.slice A dl dc, .slice A2 sl sc]).run P w = .ok (.int .i64 m) w' := by
  have hmn : Nat.min sl dl = m := by rw [hm]
  rcases Nat.eq_zero_or_pos m with hz | hz
  · subst hz
    have := h0 rfl
    subst this
    have hl0 : ∀ (x : Addr), (loadCells x 0).run P w' = .ok #[] w' := fun x => by simpa using run_loadCells_list (P := P) w' x [] (by simp)
    cases A <;> cases A2 <;> simp [Builtin.copy_, run_underlying ht, Builtin.lenOf, Builtin.firstCells, Go.sizeOf, typeInfo, hi, hmn, storeCells, hl0, goInt]
  · obtain ⟨ad, rfl, hc⟩ := hsrc hz
    obtain ⟨p, rfl, hst⟩ := hdst hz
    have hld := run_loadCells_list (P := P) w ad ys hc
    simp [Builtin.copy_, run_underlying ht, Builtin.lenOf, Builtin.firstCells, Go.sizeOf, typeInfo, hi, hmn, ← hyl, hld, hst, goInt]

theorem copied_len {rows src : List (List Atom)} {lo : Nat} (h : lo ≤ rows.length) : (copied rows src lo).length = rows.length := by
  simp only [copied, List.length_append, List.length_take, List.length_drop]; omega
theorem copied_at {rows src : List (List Atom)} {lo i : Nat} (h : lo ≤ rows.length) : (copied rows src lo)[i]? = if lo ≤ i ∧ i < lo + Min.min src.length (rows.length - lo) then src[i - lo]? else rows[i]? := by
  unfold copied
  split
  · rename_i hc
    rw [List.append_assoc, List.getElem?_append_right (by simp; omega), List.getElem?_append_left (by simp; omega), List.getElem?_take, if_pos (by simp; omega)]
    congr 1; simp <;> omega
  · rename_i hc
    rcases Nat.lt_or_ge i lo with c1 | c1
    · rw [List.append_assoc, List.getElem?_append_left (by simp; omega), List.getElem?_take, if_pos c1]
    · rw [List.append_assoc, List.getElem?_append_right (by simp; omega), List.getElem?_append_right (by simp; omega), List.getElem?_drop]
      congr 1
      simp only [List.length_take]; omega

theorem ok_copy {C : Ctx} {o : Oper} {x y : Operand} {x' y' : AX} {ts : Array TypeId} {t e : TypeId} {i : TypeInfo} {st : St} {K : AV → St → Prop} {src : List (List Atom)} (ho : o.op = .call { callee := .builtin .copy, args := #[x, y], argTypes := ts }) (hts : ts = #[t, t])
    (ht : P.underlying t = some (.slice e)) (hi : P.info? e = some i) (hx : cX x = some x') (hy : cX y = some y') (hsrc : rowsOf st.O i.size (aval st.fr y') = some src)
    (h : acopy i.size src st K (aval st.fr x')) : OpOk P C o st K := by
  intro E a w hsat KK Q hKK
  have hh := hsat.holds
  have hry := rep_rows hh (rep_aval hsat.fr hy) hsrc
  obtain ⟨A2, c2, hvy, _, _, _, _, _⟩ := hry.row
  rw [hvy] at hry
  obtain ⟨ns, hnl, hnr, hn1, hnc, hn0⟩ := rows_cells hry
  -- the row that is written, from 'lo' on
  have key : ∀ (k lo : Nat) (A : Option Addr) (B : Option Addr) (nn cc : Nat), (st.O.getD k default).mu = true → i.size = (st.O.getD k default).sz → E.κ[k]? = some (.slice B nn cc) → lo ≤ (st.O.getD k default).rows.length → a.eval x = .slice A (nn - lo) (cc - lo) → (A = B.map (·.add (lo * i.size)) ∨ lo = nn) →
      K (.a (.int .i64 (Min.min src.length ((st.O.getD k default).rows.length - lo) : Nat))) { st with O := st.O.set k ⟨(st.O.getD k default).e, (st.O.getD k default).sz, copied (st.O.getD k default).rows src lo, true⟩ } → o.wp P a w KK Q := by
    intro k lo A B nn cc hmu hsz hκ hlo hvx hA hk
    have hkl : k < st.O.length := by rw [← hh.lenκ]; exact (List.getElem?_eq_some_iff.1 hκ).1
    have hd : st.O[k]? = some (st.O.getD k default) := by simp [hkl]
    have hok := hh.owns k _ _ hκ hd
    generalize hd' : st.O.getD k default = d at *
    obtain ⟨⟨vs, hown, hrr⟩, hlen, hpos, hat⟩ := hok
    have hnn : nn = d.rows.length := by
      rcases hown.2 with ⟨h1, h2⟩ | ⟨g1, c1, cur, h1, _⟩
      · injection h1 with _ h3 _; omega
      · injection h1
    subst hnn
    generalize hm : Min.min src.length (d.rows.length - lo) = m at *
    have hml : m ≤ src.length := by omega
    have hysl : (ns.take (m * i.size)).length = m * i.size := by
      rw [List.length_take, hnl]
      have : m * i.size ≤ src.length * i.size := Nat.mul_le_mul_right _ hml
      omega
    have hfit : lo * i.size + m * i.size ≤ d.rows.length * d.sz := by
      rw [← hsz, ← Nat.add_mul]; exact Nat.mul_le_mul_right _ (by omega)
    have fin : ∀ w', w.grownBy w' (Value.slice B d.rows.length cc).ownBlock → w'.ownsRow C.base d.e d.sz (.slice B d.rows.length cc) d.rows.length (vs.take (lo * i.size) ++ ns.take (m * i.size) ++ vs.drop (lo * i.size + (ns.take (m * i.size)).length)) →
        (Builtin.copy_ #[t, t] o.type #[.slice A (d.rows.length - lo) (cc - lo), .slice A2 src.length c2]).run P w = .ok (.int .i64 m) w' → o.wp P a w KK Q := by
      intro w' hg hown' hrun
      obtain ⟨hh2, hx2⟩ := hh.setOwn (d' := ⟨d.e, d.sz, copied d.rows src lo, true⟩) hκ hd hmu hg (fun _ => by
        have hcl : ∀ g o, E.S g o → w'.cell? ⟨g, o, none⟩ = w.cell? ⟨g, o, none⟩ := by
          intro g1 o1 hs1
          obtain ⟨u, hu⟩ := hh.imm g1 o1 hs1
          refine World.cell?_of_block (w := w) (a := ⟨g1, o1, none⟩) (hg.block g1 (lt_of_cell hu) fun he => ?_)
          have := (hat g1 he.symm o1).1 hs1
          rw [hmu] at this
          cases this.1
        refine ⟨⟨_, by rw [show (⟨d.e, d.sz, copied d.rows src lo, true⟩ : OwnD).rows.length = d.rows.length from copied_len hlo]; exact hown', ?_⟩, by rw [show (⟨d.e, d.sz, copied d.rows src lo, true⟩ : OwnD).rows.length = d.rows.length from copied_len hlo]; exact hlen, hpos, fun g' hg' o => ?_⟩
        · refine RepR.part (rows' := copied d.rows src lo) (hrr.mono (fun _ _ h => h) hcl) (copied_len hlo) (by rw [hysl, hown.1]; exact hfit) (fun q r hq => ?_) (fun q r j z hq hj => ?_)
          · rw [copied_at hlo] at hq
            split at hq
            · rw [← hsz]; exact hnr.1 _ r hq
            · exact hrr.1 q r hq
          · rw [copied_at hlo] at hq
            rw [hysl]
            rw [hm] at hq
            split at hq
            · rename_i hc
              have hjl : j < i.size := by rw [← hnr.1 _ r hq]; exact (List.getElem?_eq_some_iff.1 hj).1
              have hir := (in_row (i := q) (i' := 0) (sz := i.size) (f := 0) (n := 0) (j := j) (lo := lo) (m := m) hjl).1
              rw [← hsz]
              refine ⟨fun _ => ?_, fun hno => absurd (hir.2 hc) hno⟩
              obtain ⟨u, hu, hru⟩ := hnr.2 _ r j z hq hj
              refine ⟨u, ?_, hru.mono (fun _ _ h => h) hcl⟩
              have e1 : q * i.size + j - lo * i.size = (q - lo) * i.size + j := by
                have : q * i.size = lo * i.size + (q - lo) * i.size := by rw [← Nat.add_mul]; congr 1; omega
                omega
              rw [e1, List.getElem?_take, if_pos (by have := (hir.2 hc); omega)]
              exact hu
            · rename_i hc
              have hjl : j < d.sz := by rw [← hrr.1 q r hq]; exact (List.getElem?_eq_some_iff.1 hj).1
              have hir := (in_row (i := q) (i' := 0) (sz := d.sz) (f := 0) (n := 0) (j := j) (lo := lo) (m := m) hjl).1
              rw [hsz]
              exact ⟨fun hyes => absurd (hir.1 hyes) hc, fun _ => ⟨r, hq, hj⟩⟩
        · rw [hat g' hg' o, hmu]; simp)
      have hrun2 : (execOp a.eval o).run P w = .ok (.value (.int .i64 m)) w' := by
        subst hts
        simp only [execOp, ho, resolve, invoke, builtin, Sem.run_bind, Sem.run_pure, Result.andThen_ok, List.map_toArray, List.map_cons, List.map_nil, hvx, hvy, hrun]
      exact wp_value hrun2 (hKK _ _ _ _ _ hk ((hsat.later hh2 hx2 (fun g o h => .inl h)).put (.a (.int _ _)) _))
    rcases Nat.eq_zero_or_pos m with hz | hz
    · subst hz
      have hrun := run_copy_part (P := P) (w := w) t o.type e i ht hi (A := A) (A2 := A2) (dl := d.rows.length - lo) (dc := cc - lo) (sl := src.length) (sc := c2) (m := 0) hm.symm [] (by simp) (fun h => by omega) (w' := w) (fun h => by omega) (fun _ => rfl)
      refine fin w ⟨rfl, rfl, rfl, Nat.le_refl _, fun _ _ _ => rfl⟩ ?_ hrun
      simpa using hown
    · have hB : ∃ g, B = some ⟨g, 0, none⟩ := by
        rcases hown.2 with ⟨h1, h2⟩ | ⟨g1, c1, cur, h1, _⟩
        · omega
        · injection h1 with h1; exact ⟨g1, h1⟩
      obtain ⟨g, rfl⟩ := hB
      have hA' : A = some ⟨g, lo * i.size, none⟩ := by
        rcases hA with hA | hA
        · rw [hA]; simp [add_at]
        · omega
      obtain ⟨w', hst, hg, hown'⟩ := ownsRow_part (P := P) (off := lo * i.size) (ys := ns.take (m * i.size)) hown rfl (by rw [hysl]; exact hfit) (fun u hu => hn1 u (List.mem_of_mem_take hu))
      have hA2 : ∃ ad, A2 = some ad := by
        cases A2 with
        | none => have := hn0 rfl; rw [this] at hml; simp at hml; omega
        | some ad => exact ⟨ad, rfl⟩
      obtain ⟨ad, rfl⟩ := hA2
      have hrun := run_copy_part (P := P) (w := w) t o.type e i ht hi (A := A) (A2 := some ad) (dl := d.rows.length - lo) (dc := cc - lo) (sl := src.length) (sc := c2) (m := m) hm.symm (ns.take (m * i.size)) hysl
        (fun _ => ⟨ad, rfl, fun j u hu => by
          rw [List.getElem?_take] at hu
          split at hu
          · exact hnc ad rfl j u hu
          · cases hu⟩) (w' := w') (fun _ => ⟨_, hA', hst⟩) (fun h => by omega)
      exact fin w' hg hown' hrun
  unfold acopy at h
  have hrx := rep_aval hsat.fr hx
  split at h
  · rename_i k hev
    obtain ⟨⟨h1, h2⟩, hk⟩ := h
    rw [hev] at hrx
    generalize hvx : a.eval x = v at hrx
    cases hrx with
    | own hκ =>
      obtain ⟨A, c, rfl⟩ := (rep_own hh (.own hκ)).form
      exact key k 0 A A _ c h1 h2 hκ (Nat.zero_le _) (by simpa using hvx) (.inl (by cases A <;> simp [Addr.add])) (by simpa using hk)
  · rename_i k s lo hev
    obtain ⟨⟨h1, h2, h3, h4⟩, hk⟩ := h
    rw [hev] at hrx
    generalize hvx : a.eval x = v at hrx
    cases hrx with
    | vsl hκ hlo hA => exact key k lo _ _ _ _ h1 h2 hκ h4 hvx (by rw [← h3]; exact hA) hk
  · exact h.elim

/-- append onto a full slice makes new memory and changes none. -/
theorem good_appendF {ev : AX → AV} {K : AV → Prop} {o : Oper} {x y : Operand} {x' y' : AX} {ts : Array TypeId} {t e : TypeId} {i : TypeInfo} {z : Value} {news rows : List (List Atom)} {s : Nat} (ho : o.op = .call { callee := .builtin .append, args := #[x, y], argTypes := ts }) (hts : ts = #[t, t])
    (ht : P.underlying t = some (.slice e)) (hi : P.info? e = some i) (hz : i.zero = some z) (hzs : z.cells.size = i.size) (hx : cX x = some x') (hy : cX y = some y') (hnews : rowsOf O i.size (ev y') = some news) (hev : ev x' = .full s rows) (hs : s = i.size) (hpos : 0 < i.size)
    (hb1 : (rows.length + news.length + (rows.length + news.length) / 4 + 192) * i.bytes ≤ 281474976710656) (hb2 : rows.length + news.length ≤ 9223372036854775807) (hk : K (.a (.slice i.size (rows ++ news)))) : ∃ r, Good P o ev H O r ∧ K r := by
  refine ⟨_, fun base w0 E a w hh hrep KK Q hKK => ?_, hk⟩
  have hsz : base ≤ w.heap.size := Nat.le_trans hh.hb hh.below.size
  have hry := rep_rows hh (hrep y y' (by simp [ho, Op.operands, Call.operands]) hy) hnews
  have hrx := hev ▸ hrep x x' (by simp [ho, Op.operands, Call.operands]) hx
  obtain ⟨A, c, hvy, _, _, hm, _, _⟩ := hry.row
  rw [hvy] at hry
  obtain ⟨ys, hyl, hyr, hy1, hyc, hy0⟩ := rows_cells hry
  have hA0 : A = none → news.length = 0 := fun h => by rw [hy0 h]; rfl
  subst hs
  generalize hvx : a.eval x = u at hrx
  cases hrx with
  | full hrx =>
    rename_i B n
    obtain ⟨B', c', hv, _, _, _, _, _⟩ := hrx.row
    injection hv with _ hn _
    subst hn
    obtain ⟨xs, hxl, hxr, hx1, hxc, hx0⟩ := rows_cells hrx
    by_cases hm0 : news.length = 0
    · have hn0 : news = [] := List.eq_nil_of_length_eq_zero hm0
      subst hn0
      have hrun : (Builtin.append_ #[t, t] o.type #[.slice B rows.length rows.length, .slice A 0 c]).run P w = .ok (.slice B rows.length rows.length) w := by
        cases A <;> cases B <;> simp [Builtin.append_, run_underlying ht, Go.sizeOf, typeInfo, hi, Builtin.lenOf, Builtin.firstCells, storeCells, loadCells, loadCellsFrom]
      exact wp_value (run_app_op ho hts hvx hvy hrun) (hKK _ E w hh (Ext.refl _ _) (fun _ _ h => .inl h) (.a (by rw [List.append_nil]; exact hrx)))
    · obtain ⟨ad, hAd⟩ : ∃ ad, A = some ad := by
        cases A with
        | none => exact absurd (hA0 rfl) hm0
        | some ad => exact ⟨ad, rfl⟩
      subst hAd
      have hge := grownCap_ge w (rows.length + news.length) rows.length e
      have hcm : grownCap w (rows.length + news.length) rows.length e ≤ maxLen := grownCap_le_maxLen w _ _ e (by simp only [maxLen]; omega)
      have hrun : ∃ cs : Array Value, (Builtin.append_ #[t, t] o.type #[.slice B rows.length rows.length, .slice (some ad) news.length c]).run P w =
          .ok (.slice (some ⟨w.heap.size, 0, none⟩) (rows.length + news.length) (grownCap w (rows.length + news.length) rows.length e)) (w.drew.alloc (.cells cs e)) ∧ ∀ (j : Nat) (u : Value), (xs ++ ys)[j]? = some u → cs[j]? = some u := by
        cases B with
        | some b =>
          have hr := run_append_grow (P := P) w t o.type e i z ht hi hz b rows.length rows.length xs hxl (hxc b rfl) ad news.length c ys hyl (hyc ad rfl) (by omega) (by omega) (growslice_fits_wide (by omega) hb1)
          refine ⟨_, hr, fun j u hj => ?_⟩
          have hjl : j < (xs ++ ys).length := (List.getElem?_eq_some_iff.1 hj).1
          rw [← Array.getElem?_toList]
          simp only [Array.toList_append, List.append_assoc]
          rw [← List.append_assoc, List.getElem?_append_left hjl]
          exact hj
        | none =>
          have hr0 : rows = [] := hx0 rfl
          subst hr0
          have hxs0 : xs = [] := List.eq_nil_of_length_eq_zero (by simpa using hxl)
          subst hxs0
          simp only [List.length_nil, Nat.zero_add] at hb1 ⊢
          have hr := run_append_nil (P := P) w t o.type e i z ht hi hz ad news.length c ys hyl (hyc ad rfl) (by omega) (by omega) (Nat.le_trans (Nat.mul_le_mul_right _ (by omega)) hb1)
          refine ⟨_, hr, fun j u hj => ?_⟩
          have hjl : j < ys.length := (List.getElem?_eq_some_iff.1 (by simpa using hj)).1
          rw [← Array.getElem?_toList]
          simp only [Array.toList_append]
          rw [List.getElem?_append_left hjl]
          simpa using hj
      obtain ⟨cs, hrun, hcs⟩ := hrun
      obtain ⟨hH, hxt⟩ := hh.later (w' := w.drew.alloc (.cells cs e)) (S' := fun g o => E.S g o ∨ (g = w.heap.size ∧ o < (rows.length + news.length) * i.size)) (((Below.refl _ _).drew).alloc (Nat.le_refl _) _) (fun g o h => .inl h) (fun g o h => h.elim .inl fun h => .inr (Nat.le_of_eq h.1.symm)) (by
        have hxyl : (xs ++ ys).length = (rows.length + news.length) * i.size := by rw [List.length_append, hxl, hyl, Nat.add_mul]
        rintro g o (h | ⟨rfl, h⟩)
        · obtain ⟨u, hu⟩ := hh.imm g o h
          exact ⟨u, (World.cell?_alloc_lt w.drew _ ⟨g, o, none⟩ (lt_of_cell hu)).trans hu⟩
        · have hlt : o < (xs ++ ys).length := by omega
          exact ⟨(xs ++ ys)[o], by
            rw [cell_of_row (w.drew.alloc (.cells cs e)) w.heap.size o cs e (0, 0) (heap_alloc_new w.drew _)]
            exact hcs o _ (List.getElem?_eq_getElem hlt)⟩)
      have hxyr : ∀ (q : Nat) (r : List Atom), (rows ++ news)[q]? = some r → r.length = i.size ∧ ∀ (j : Nat) (x : Atom), r[j]? = some x → ∃ u, (xs ++ ys)[q * i.size + j]? = some u ∧ Rep E.S w x u := by
        intro q r hq
        rcases Nat.lt_or_ge q rows.length with hql | hql
        · rw [List.getElem?_append_left hql] at hq
          refine ⟨hxr.1 q r hq, fun j x hj => ?_⟩
          obtain ⟨u, hu, hru⟩ := hxr.2 q r j x hq hj
          exact ⟨u, by rw [List.getElem?_append_left (List.getElem?_eq_some_iff.1 hu).1]; exact hu, hru⟩
        · rw [List.getElem?_append_right hql] at hq
          refine ⟨hyr.1 _ r hq, fun j x hj => ?_⟩
          obtain ⟨u, hu, hru⟩ := hyr.2 _ r j x hq hj
          refine ⟨u, ?_, hru⟩
          have e1 : q * i.size + j = rows.length * i.size + ((q - rows.length) * i.size + j) := by
            have : q * i.size = rows.length * i.size + (q - rows.length) * i.size := by rw [← Nat.add_mul]; congr 1; omega
            omega
          rw [e1, ← hxl, List.getElem?_append_right (by omega)]
          simpa using hu
      refine wp_value (run_app_op ho hts hvx hvy hrun) (hKK _ _ _ hH hxt (fun g o h => h.elim .inl fun h => .inr (by rw [h.1]; exact hsz)) (.a ?_))
      rw [← List.length_append]
      refine .slice i.size (rows ++ news) w.heap.size 0 _ (fun q => (xs ++ ys).getD q Go.undef) (by simpa using hb2) (by simpa using hge) (by simpa using hcm) (fun q r hq => (hxyr q r hq).1) (fun q r j x hq hj => ?_) (fun q r j x hq hj => ?_)
      · obtain ⟨h1, h2⟩ := hxyr q r hq
        obtain ⟨u, hu, hru⟩ := h2 j x hj
        have hql : q < (rows ++ news).length := (List.getElem?_eq_some_iff.1 hq).1
        have hjl : j < i.size := by rw [← h1]; exact (List.getElem?_eq_some_iff.1 hj).1
        rw [Nat.zero_add]
        refine ⟨.inr ⟨rfl, ?_⟩, ?_⟩
        · have : q * i.size + i.size ≤ (rows ++ news).length * i.size := by rw [← Nat.succ_mul]; exact Nat.mul_le_mul_right _ hql
          exact Nat.lt_of_lt_of_le (Nat.add_lt_add_left hjl _) this
        · rw [cell_of_row (w.drew.alloc (.cells cs e)) w.heap.size (q * i.size + j) cs e (0, 0) (heap_alloc_new w.drew _)]
          rw [hcs _ u hu]
          simp [hu]
      · obtain ⟨u, hu, hru⟩ := (hxyr q r hq).2 j x hj
        simpa [hu] using hru.mono hxt.S hxt.cell
end
end Ab
