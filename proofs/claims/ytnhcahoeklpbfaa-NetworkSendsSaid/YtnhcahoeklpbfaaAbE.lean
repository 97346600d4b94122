/- Single operations do what abstract code says, where names are left as they are. No program. -/
import Derived.Test.YtnhcahoeklpbfaaAbD
set_option linter.unusedSimpArgs false
set_option linter.unusedVariables false
namespace Ab
open Go Go.RowKit

theorem wp_value {P : Program} {o : Oper} {a : Act} {w w' : World} {K : Act → World → Prop} {Q : Exit → Act → World → Prop} {v : Value}
    (h : (execOp a.eval o).run P w = .ok (.value v) w') (hk : K (a.put o.dst v) w') : o.wp P a w K Q := by
  unfold Oper.wp; rw [h]; exact hk
theorem wp_skip_ {P : Program} {o : Oper} {a : Act} {w w' : World} {K : Act → World → Prop} {Q : Exit → Act → World → Prop}
    (h : (execOp a.eval o).run P w = .ok .skip w') (hk : K (a.put o.dst Go.undef) w') : o.wp P a w K Q := by
  unfold Oper.wp; rw [h]; exact hk

theorem cAtom_rep {S : Nat → Nat → Prop} {w : World} {v : Value} {x : Atom} (h : cAtom v = some x) : Rep S w x v := by
  unfold cAtom at h
  split at h <;> simp at h
  · subst h; exact .bool _
  · subst h; exact .int _ _
  · obtain ⟨h1, rfl⟩ := h; exact .str _ h1
  · subst h; exact .nils

theorem cCell_rep {E : Env} {w : World} {v : Value} {x : AV} (h : cCell v = some x) : RepV E w x v := by
  unfold cCell at h
  split at h
  · simp at h; subst h; exact .nilptr
  · simp at h; subst h; exact .any
  · simp at h; subst h; exact .any
  · simp only [Option.map_eq_some_iff] at h
    obtain ⟨y, hy, rfl⟩ := h
    exact .a (cAtom_rep hy)

theorem mapO_spec {α β : Type} {f : α → Option β} : ∀ {l : List α} {r : List β}, mapO f l = some r → r.length = l.length ∧ ∀ (j : Nat) (y : β) (x : α), r[j]? = some y → l[j]? = some x → f x = some y
  | [], r, h => by simp [mapO] at h; subst h; simp
  | x :: xs, r, h => by
    unfold mapO at h
    split at h
    · rename_i y ys hy hys
      simp at h; subst h
      obtain ⟨h1, h2⟩ := mapO_spec hys
      refine ⟨by simp [h1], fun j y' x' hj hj' => ?_⟩
      cases j with
      | zero => simp at hj hj'; subst hj; subst hj'; exact hy
      | succ j => simp at hj hj'; exact h2 j y' x' hj hj'
    · cases h

theorem cVal_rep {E : Env} {w : World} {v : Value} {x : AV} (h : cVal v = some x) : RepV E w x v := by
  unfold cVal at h
  split at h
  · rename_i cs
    cases hm : mapO cAtom cs.toList with
    | none => rw [hm] at h; simp at h
    | some ys =>
      rw [hm] at h; simp at h; subst h
      obtain ⟨h1, h2⟩ := mapO_spec hm
      exact .agg (by simpa using h1.symm) fun j y u hj hu => cAtom_rep (h2 j y u hj (by simpa using hu))
  · rename_i cs
    split at h
    · rename_i hs
      simp at h; subst h
      have : cs = #[] := by simpa using hs
      subst this
      exact .undef
    · cases h
  · exact cCell_rep h

/-- What the operands of an operation hold. -/
def RepOps (E : Env) (w : World) (ev : AX → AV) (a : Act) (o : Oper) : Prop :=
  ∀ (x : Operand) (y : AX), x ∈ o.op.operands → cX x = some y → RepV E w (ev y) (a.eval x)

theorem rep_aval {E : Env} {w : World} {fr : List AV} {a : Act} (h : RepF E w fr a.tmps) {x : Operand} {y : AX} (hx : cX x = some y) : RepV E w (aval fr y) (a.eval x) := by
  cases x with
  | tmp t => simp [cX] at hx; subst hx; exact h.get t
  | const v =>
    simp [cX] at hx
    obtain ⟨u, hu, rfl⟩ := hx
    exact cVal_rep hu
  | global g => simp [cX] at hx
  | func f =>
    simp [cX] at hx; subst hx
    exact .clo (by simp) (fun j x u hj => by simp at hj)

/-- An operation that yields what stands for r, whatever the world. -/
def Good (P : Program) (o : Oper) (ev : AX → AV) (H : List (List AV)) (O : List OwnD) (r : AV) : Prop :=
  ∀ (base : Nat) (w0 : World) (E : Env) (a : Act) (w : World), Holds base w0 E w H O → RepOps E w ev a o → ∀ (K : Act → World → Prop) (Q : Exit → Act → World → Prop),
    (∀ v E' w', Holds base w0 E' w' H O → Ext E w E' w' → (∀ g o, E'.S g o → E.S g o ∨ base ≤ g) → RepV E' w' r v → K (a.put o.dst v) w') → o.wp P a w K Q

theorem good_pure {P : Program} {o : Oper} {ev : AX → AV} {H : List (List AV)} {O : List OwnD} {r : AV}
    (h : ∀ (base : Nat) (w0 : World) (E : Env) (a : Act) (w : World), Holds base w0 E w H O → RepOps E w ev a o → ∃ v, (execOp a.eval o).run P w = .ok (.value v) w ∧ RepV E w r v) : Good P o ev H O r := by
  intro base w0 E a w hh hr K Q hk
  obtain ⟨v, h1, h2⟩ := h base w0 E a w hh hr
  exact wp_value h1 (hk v E w hh (Ext.refl _ _) (fun _ _ h => .inl h) h2)

/-! ### Reading abstract values -/
section
variable {base : Nat} {w0 : World} {E : Env} {w : World} {H : List (List AV)} {O : List OwnD}

theorem RepV.int_ {k : IntKind} {n : Int} {v : Value} (h : RepV E w (.a (.int k n)) v) : v = .int k n := by
  cases h with | a h => cases h; rfl
theorem RepV.bool_ {b : Bool} {v : Value} (h : RepV E w (.a (.bool b)) v) : v = .bool b := by
  cases h with | a h => cases h; rfl
theorem RepV.str_ {s : ByteArray} {v : Value} (h : RepV E w (.a (.str s)) v) : v = .string s ∧ s.size ≤ 9223372036854775807 := by
  cases h with | a h => cases h with | str s h => exact ⟨rfl, h⟩
theorem RepV.loc_ {id off : Nat} {v : Value} (h : RepV E w (.loc id off) v) : ∃ g, E.ι[id]? = some g ∧ v = .pointer (some ⟨g, off, none⟩) := by
  cases h with | loc h => exact ⟨_, h, rfl⟩
theorem RepV.ptr_ {xs : List Atom} {v : Value} (h : RepV E w (.ptr xs) v) : ∃ g o, v = .pointer (some ⟨g, o, none⟩) ∧ RepC E.S w g o xs := by
  cases h with | ptr h => exact ⟨_, _, rfl, h⟩
theorem RepV.agg_ {xs : List Atom} {v : Value} (h : RepV E w (.agg xs) v) : ∃ arr, v = .agg arr ∧ arr.size = xs.length ∧ ∀ (j : Nat) (x : Atom) (u : Value), xs[j]? = some x → arr[j]? = some u → Rep E.S w x u := by
  cases h with | agg hs h => exact ⟨_, rfl, hs, h⟩
theorem RepV.tup_ {xs : List AV} {v : Value} (h : RepV E w (.tup xs) v) : ∃ arr, v = .tuple arr ∧ arr.size = xs.length ∧ ∀ (j : Nat) (x : AV) (u : Value), xs[j]? = some x → arr[j]? = some u → RepV E w x u := by
  cases h with | tup hs h => exact ⟨_, rfl, hs, h⟩

/-- A row of the call's own as a slice that is read. -/
theorem OwnOk.rep {v : Value} {d : OwnD} (h : OwnOk base E.S w v d) (hm : d.mu = false) : Rep E.S w (.slice d.sz d.rows) v := by
  obtain ⟨⟨xs, ho, hr⟩, hlen, hpos, hat⟩ := h
  rcases ho.2 with ⟨rfl, h0⟩ | ⟨g, cap, cur, rfl, hb, hg, hcap, hmx, hsz, ht⟩
  · have : d.rows = [] := List.eq_nil_of_length_eq_zero h0
    rw [this]
    exact .empty _ _ _ (by simp [maxLen]) (fun _ => rfl)
  · refine .slice d.sz d.rows g 0 cap (fun j => xs.getD j Go.undef) hlen hcap hmx hr.1 (fun i r j x hi hj => ?_) (fun i r j x hi hj => ?_)
    · obtain ⟨u, hu, _⟩ := hr.2 i r j x hi hj
      have hrl := hr.1 i r hi
      have hil : i < d.rows.length := (List.getElem?_eq_some_iff.1 hi).1
      have hjl : j < d.sz := by rw [← hrl]; exact (List.getElem?_eq_some_iff.1 hj).1
      have hb2 : i * d.sz + j < d.rows.length * d.sz := by
        have : i * d.sz + d.sz ≤ d.rows.length * d.sz := by rw [← Nat.succ_mul]; exact Nat.mul_le_mul_right _ hil
        omega
      refine ⟨(hat g rfl _).2 ⟨hm, by omega⟩, ?_⟩
      have hc := ho.cells (g := g) rfl (i * d.sz + j) u hu
      have e : ∀ n, (⟨g, 0, none⟩ : Addr).add n = ⟨g, n, none⟩ := by
        intro n
        unfold Addr.add
        split
        · rename_i h0; rw [h0]
        · simp
      rw [e] at hc
      rw [Nat.zero_add, hc]
      simp [hu]
    · obtain ⟨u, hu, hru⟩ := hr.2 i r j x hi hj
      simpa [hu] using hru

theorem rep_own (hh : Holds base w0 E w H O) {k : Nat} {v : Value} (h : RepV E w (.own k) v) : OwnOk base E.S w v (O.getD k default) := by
  cases h with
  | own h =>
    have hk : k < O.length := by rw [← hh.lenκ]; exact (List.getElem?_eq_some_iff.1 h).1
    exact hh.owns k v _ h (by simp [hk])

theorem rep_rows (hh : Holds base w0 E w H O) {sz : Nat} {x : AV} {v : Value} {rows : List (List Atom)} (h : RepV E w x v) (hx : rowsOf O sz x = some rows) : Rep E.S w (.slice sz rows) v := by
  unfold rowsOf at hx
  split at hx
  · split at hx
    · rename_i hs; simp at hx; subst hx; subst hs
      cases h with | a h => exact h
    · cases hx
  · simp at hx; subst hx
    cases h with | a h => cases h; exact .empty _ _ _ (by simp [maxLen]) (fun _ => rfl)
  · split at hx
    · rename_i hs; simp at hx; subst hx; subst hs
      cases h with | full h => exact h
    · cases hx
  · split at hx
    · rename_i hs; simp at hx; subst hx; subst hs
      cases h with | nn h => exact h
    · cases hx
  · split at hx
    · rename_i k hs; obtain ⟨hs, hm⟩ := hs; simp at hx; subst hx; subst hs
      exact (rep_own hh h).rep hm
    · cases hx
  · cases hx

theorem rep_atom (hh : Holds base w0 E w H O) {x : AV} {v : Value} {y : Atom} (h : RepV E w x v) (hx : atomOf O x = some y) : Rep E.S w y v := by
  unfold atomOf at hx
  split at hx
  · simp at hx; subst hx; cases h with | a h => exact h
  · simp at hx; subst hx; cases h with | full h => exact h
  · split at hx
    · rename_i hm; simp at hx; subst hx; exact (rep_own hh h).rep hm
    · cases hx
  · split at hx
    · rename_i hm; simp at hx; subst hx
      cases h with | ownv h => exact .exact ((rep_own hh (.own h)).rep hm)
    · cases hx
  · cases hx

theorem Rep.one {S : Nat → Nat → Prop} {x : Atom} {v : Value} (h : Rep S w x v) : v.oneCell' = true := by
  induction h with
  | exact _ ih => exact ih
  | _ => rfl
theorem Rep.cells {S : Nat → Nat → Prop} {x : Atom} {v : Value} (h : Rep S w x v) : v.cells = #[v] := by
  induction h with
  | exact _ ih => exact ih
  | _ => rfl

theorem rep_cells (hh : Holds base w0 E w H O) {x : AV} {v : Value} {ys : List Atom} (h : RepV E w x v) (hx : cellsOf O x = some ys) :
    v.cells.size = ys.length ∧ ∀ (j : Nat) (y : Atom) (u : Value), ys[j]? = some y → v.cells[j]? = some u → Rep E.S w y u := by
  unfold cellsOf at hx
  split at hx
  · simp at hx; subst hx
    obtain ⟨arr, rfl, h1, h2⟩ := h.agg_
    exact ⟨h1, h2⟩
  · cases ha : atomOf O x with
    | none => rw [ha] at hx; simp at hx
    | some y =>
      rw [ha] at hx; simp at hx; subst hx
      have hr := rep_atom hh h ha
      rw [hr.cells]
      refine ⟨rfl, fun j y' u hj hu => ?_⟩
      cases j with
      | zero => simp at hj hu; subst hj; subst hu; exact hr
      | succ j => simp at hj

theorem lt_of_cell {w : World} {g o : Nat} {u : Value} (h : w.cell? ⟨g, o, none⟩ = some u) : g < w.heap.size := World.block_lt_of_cell? w _ h

theorem Holds.later {w' : World} {S' : Nat → Nat → Prop} (hh : Holds base w0 E w H O) (hb : Below w.heap.size w w') (hS : ∀ g o, E.S g o → S' g o) (hN : ∀ g o, S' g o → E.S g o ∨ w.heap.size ≤ g)
    (hI : ∀ g o, S' g o → ∃ u, w'.cell? ⟨g, o, none⟩ = some u) : Holds base w0 ⟨S', E.ι, E.κ⟩ w' H O ∧ Ext E w ⟨S', E.ι, E.κ⟩ w' := by
  have hsz : base ≤ w.heap.size := Nat.le_trans hh.hb hh.below.size
  have hlt : ∀ g o, E.S g o → g < w.heap.size := fun g o h => let ⟨u, hu⟩ := hh.imm g o h; lt_of_cell hu
  have hext : Ext E w ⟨S', E.ι, E.κ⟩ w' := ⟨hS, fun g o h => hb.cell (p := ⟨g, o, none⟩) (hlt g o h), fun _ _ h => h, fun _ _ h => h⟩
  have hblk : ∀ g ob, w.heap[g]? = some ob → w'.heap[g]? = some ob := fun g ob h => by
    rw [hb.block g (by
      rcases Nat.lt_or_ge g w.heap.size with hl | hge
      · exact hl
      · rw [Array.getElem?_eq_none hge] at h; cases h)]
    exact h
  refine ⟨⟨hh.below.trans (hb.mono hsz), hh.hb, hI, hh.lenι, hh.lenκ, hh.inj, ?_, ?_, ?_, hh.κapart, hh.κinj, fun i g cs t hi hcs hb' => let ⟨p, v, h1, h2⟩ := hh.bld i g cs t hi hcs hb'; ⟨p, v, hblk g _ h1, h2⟩⟩, hext⟩
  · intro i g cs hi hcs
    obtain ⟨h1, arr, t, h2, h3, h4⟩ := hh.cells i g cs hi hcs
    exact ⟨h1, arr, t, hblk g _ h2, h3, fun j x u hj hu => (h4 j x u hj hu).mono hext⟩
  · intro i g hi o hs
    rcases hN g o hs with h | h
    · exact hh.apart i g hi o h
    · have hi' : i < H.length := by rw [← hh.lenι]; exact (List.getElem?_eq_some_iff.1 hi).1
      obtain ⟨_, arr, t, h2, _⟩ := hh.cells i g H[i] hi (List.getElem?_eq_getElem hi')
      have := (Array.getElem?_eq_some_iff.1 h2).1
      omega
  · intro k v d hk hd
    obtain ⟨⟨xs, ho, hr⟩, hlen, hpos, hat⟩ := hh.owns k v d hk hd
    refine ⟨⟨xs, ⟨ho.1, ?_⟩, hr.mono hext.S hext.cell⟩, hlen, hpos, fun g hg o => ?_⟩
    · rcases ho.2 with h2 | ⟨g, cap, cur, e1, e2, e3, r⟩
      · exact .inl h2
      · exact .inr ⟨g, cap, cur, e1, e2, hblk g _ e3, r⟩
    · rw [← hat g hg o]
      refine ⟨fun h => ?_, hS g o⟩
      rcases hN g o h with h' | h'
      · exact h'
      · have := (ho.lt g hg).2
        omega

/-- One more block of data. -/
theorem Holds.grow (hh : Holds base w0 E w H O) (cs : Array Value) (t : TypeId) :
    Holds base w0 ⟨fun g o => E.S g o ∨ (g = w.heap.size ∧ o < cs.size), E.ι, E.κ⟩ (w.alloc (.cells cs t)) H O ∧ Ext E w ⟨fun g o => E.S g o ∨ (g = w.heap.size ∧ o < cs.size), E.ι, E.κ⟩ (w.alloc (.cells cs t)) := by
  refine hh.later ((Below.refl _ _).alloc (Nat.le_refl _) _) (fun g o h => .inl h) (fun g o h => h.elim .inl (fun h => .inr (Nat.le_of_eq h.1.symm))) ?_
  rintro g o (h | ⟨rfl, h⟩)
  · obtain ⟨u, hu⟩ := hh.imm g o h
    exact ⟨u, (World.cell?_alloc_lt w _ ⟨g, o, none⟩ (lt_of_cell hu)).trans hu⟩
  · exact ⟨cs[o], by rw [cell_of_row _ _ _ cs t (0, 0) (heap_alloc_new w _)]; simp [h]⟩
end
end Ab
