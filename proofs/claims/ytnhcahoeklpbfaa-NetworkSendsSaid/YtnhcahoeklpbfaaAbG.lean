/- Single operations do what abstract code says: loads, places, slices. No program. -/
import Derived.Test.YtnhcahoeklpbfaaAbF
set_option linter.unusedSimpArgs false
set_option linter.unusedVariables false
namespace Ab
open Go Go.RowKit

section
variable {P : Program} {ev : AX → AV} {H : List (List AV)} {O : List OwnD} {K : AV → Prop}

theorem add_at (g o n : Nat) : (⟨g, o, none⟩ : Addr).add n = ⟨g, o + n, none⟩ := by
  unfold Addr.add
  split
  · rename_i h; subst h; rfl
  · rfl

theorem run_cells (w : World) (g o n : Nat) (U : Nat → Value) (h : ∀ j, j < n → w.cell? ⟨g, o + j, none⟩ = some (U j)) : (loadCells ⟨g, o, none⟩ n).run P w = .ok ((List.range n).map U).toArray w := by
  have := run_loadCells_list (P := P) (w := w) ⟨g, o, none⟩ ((List.range n).map U) (fun j v hv => by
    rw [add_at]
    rw [List.getElem?_map] at hv
    by_cases hj : j < n
    · rw [List.getElem?_range hj] at hv; simp at hv; subst hv; exact h j hj
    · rw [List.getElem?_eq_none (by simp; omega)] at hv; simp at hv)
  simpa using this

theorem shape_agg {t : TypeId} {n : Nat} (h : shapeOf P t = some (n, true)) : ∃ d, P.underlying t = some d ∧ isAggD d = true ∧ sizeAt P t = some n := by
  unfold shapeOf at h
  split at h
  · rename_i i d hi hd
    split at h
    · rename_i ha; simp at h; exact ⟨d, hd, ha, by simp [sizeAt, hi, h]⟩
    · split at h <;> simp at h
  · cases h
theorem shape_one {t : TypeId} {n : Nat} (h : shapeOf P t = some (n, false)) : ∃ d, P.underlying t = some d ∧ isAggD d = false ∧ sizeAt P t = some n ∧ n = 1 := by
  unfold shapeOf at h
  split at h
  · rename_i i d hi hd
    split at h
    · simp at h
    · rename_i ha
      split at h
      · rename_i h1; simp at h; subst h; exact ⟨d, hd, by simpa using ha, by simp [sizeAt, hi, h1], rfl⟩
      · cases h
  · cases h

theorem run_load_agg {w : World} {t : TypeId} {n : Nat} (hs : shapeOf P t = some (n, true)) (g o : Nat) (U : Nat → Value) (h : ∀ j, j < n → w.cell? ⟨g, o + j, none⟩ = some (U j)) :
    (Instr.loadAt t (.pointer (some ⟨g, o, none⟩))).run P w = .ok (.agg ((List.range n).map U).toArray) w := by
  obtain ⟨d, hd, ha, hn⟩ := shape_agg hs
  simp only [Instr.loadAt, Instr.sureAddr, loadVar, Sem.run_bind, Sem.run_pure, Result.andThen_ok, run_agg hd, ha, if_true, run_size hn, run_cells w g o n U h]
theorem run_load_one {w : World} {t : TypeId} {n : Nat} (hs : shapeOf P t = some (n, false)) (g o : Nat) (u : Value) (h : w.cell? ⟨g, o, none⟩ = some u) :
    (Instr.loadAt t (.pointer (some ⟨g, o, none⟩))).run P w = .ok u w := by
  obtain ⟨d, hd, ha, hn, _⟩ := shape_one hs
  simp [Instr.loadAt, Instr.sureAddr, loadVar, Sem.run_bind, run_agg hd, ha, h]

theorem atomsOf_spec {base : Nat} {w0 : World} {E : Env} {w : World} (hh : Holds base w0 E w H O) : ∀ {l : List AV} {xs : List Atom}, atomsOf O l = some xs →
    xs.length = l.length ∧ ∀ (j : Nat) (x : Atom) (y : AV) (u : Value), xs[j]? = some x → l[j]? = some y → RepV E w y u → Rep E.S w x u
  | [], xs, h => by simp [atomsOf] at h; subst h; simp
  | y :: l, xs, h => by
    unfold atomsOf at h
    split at h
    · rename_i a as ha has
      simp at h; subst h
      obtain ⟨h1, h2⟩ := atomsOf_spec hh has
      refine ⟨by simp [h1], fun j x y' u hj hj' hu => ?_⟩
      cases j with
      | zero => simp at hj hj'; subst hj; subst hj'; exact rep_atom hh hu ha
      | succ j => simp at hj hj'; exact h2 j x y' u hj hj' hu
    · cases h

theorem eptr_at {base : Nat} {w0 : World} {E : Env} {w : World} (hh : Holds base w0 E w H O) {k s i f : Nat} {v : Value} (h : RepV E w (.eptr k s i f) v) (hs : s = (O.getD k default).sz) (hi : i < (O.getD k default).rows.length) :
    ∃ g n c, E.κ[k]? = some (.slice (some ⟨g, 0, none⟩) n c) ∧ v = .pointer (some ⟨g, i * s + f, none⟩) ∧ ((O.getD k default).rows.getD i []).length = s ∧
      ∀ (j : Nat) (x : Atom), ((O.getD k default).rows.getD i [])[j]? = some x → ∃ u, w.cell? ⟨g, i * s + j, none⟩ = some u ∧ Rep E.S w x u := by
  cases h with
  | eptr h =>
    rename_i g n c
    have hk := rep_own hh (.own h)
    generalize O.getD k default = d at *
    obtain ⟨⟨xs, ho, hr⟩, hlen, hpos, hat⟩ := hk
    have e : d.rows.getD i [] = d.rows[i] := by rw [List.getD_eq_getElem?_getD, List.getElem?_eq_getElem hi]; rfl
    refine ⟨g, n, c, h, rfl, by rw [e, hs]; exact hr.1 i _ (List.getElem?_eq_getElem hi), fun j x hj => ?_⟩
    rw [e] at hj
    obtain ⟨u, hu, hru⟩ := hr.2 i _ j x (List.getElem?_eq_getElem hi) hj
    have hc := ho.cells (g := g) rfl (i * d.sz + j) u hu
    rw [add_at, Nat.zero_add] at hc
    exact ⟨u, by rw [hs]; exact hc, hru⟩

theorem good_load {o : Oper} {t : TypeId} {x : Operand} {x' : AX} {n : Nat} {g : Bool} (ho : o.op = .load t x) (hx : cX x = some x') (hs : shapeOf P t = some (n, g)) (h : aload n g H O (ev x') K) : ∃ r, Good P o ev H O r ∧ K r := by
  unfold aload at h
  split at h
  · rename_i id off hev
    have hid : ∀ {base w0 E w}, Holds base w0 E w H O → ∀ {b}, E.ι[id]? = some b → ∃ arr t, w.heap[b]? = some (.cells arr t (0, 0)) ∧ arr.size = (H.getD id []).length ∧ ∀ (j : Nat) (x : AV) (u : Value), (H.getD id [])[j]? = some x → arr[j]? = some u → RepV E w x u := by
      intro base w0 E w hh b hb
      have hl : id < H.length := by rw [← hh.lenι]; exact (List.getElem?_eq_some_iff.1 hb).1
      have e : H.getD id [] = H[id] := by simp [hl]
      rw [e]
      exact (hh.cells id b H[id] hb (List.getElem?_eq_getElem hl)).2
    split at h
    · rename_i hg
      subst hg
      obtain ⟨xs, hxs, hlen, h⟩ := onOpt_elim h
      refine ⟨_, good_pure fun base w0 E a w hh hr => ?_, h⟩
      obtain ⟨b, hb, hv⟩ := (hev ▸ hr x x' (by simp [ho, Op.operands]) hx).loc_
      obtain ⟨arr, t', h2, h3, h4⟩ := hid hh hb
      obtain ⟨e1, e2⟩ := atomsOf_spec hh hxs
      have hfit : ∀ j, j < n → off + j < arr.size := by
        intro j hj
        rw [List.length_take, List.length_drop] at e1
        omega
      refine ⟨_, ?_, .agg (arr := ((List.range n).map fun j => arr.getD (off + j) Go.undef).toArray) (by simp [hlen]) fun j x u hj hu => ?_⟩
      · have := run_load_agg (P := P) (w := w) hs b off (fun j => arr.getD (off + j) Go.undef) (fun j hj => by
          rw [cell_of_row w b _ arr t' (0, 0) h2]
          simp [hfit j hj])
        simp only [execOp, ho, hv, Sem.run_bind, this, Result.andThen_ok]
        rfl
      · have hjn : j < n := by rw [← hlen]; exact (List.getElem?_eq_some_iff.1 hj).1
        simp [hjn] at hu
        have hlt : off + j < (H.getD id []).length := by rw [← h3]; exact hfit j hjn
        refine e2 j x ((H.getD id [])[off + j]) u hj ?_ (h4 (off + j) _ u (List.getElem?_eq_getElem hlt) ?_)
        · rw [List.getElem?_take, if_pos hjn, List.getElem?_drop, List.getElem?_eq_getElem hlt]
        · rw [← hu]; simp [hfit j hjn]
    · rename_i hg
      have hg : g = false := by simpa using hg
      subst hg
      obtain ⟨hlt, h⟩ := h
      refine ⟨_, good_pure fun base w0 E a w hh hr => ?_, h⟩
      obtain ⟨b, hb, hv⟩ := (hev ▸ hr x x' (by simp [ho, Op.operands]) hx).loc_
      obtain ⟨arr, t', h2, h3, h4⟩ := hid hh hb
      have hlt' : off < arr.size := by rw [h3]; exact hlt
      refine ⟨arr[off], ?_, ?_⟩
      · have := run_load_one (P := P) (w := w) hs b off arr[off] (by rw [cell_of_row w b _ arr t' (0, 0) h2]; simp [hlt'])
        simp only [execOp, ho, hv, Sem.run_bind, this, Result.andThen_ok]
        rfl
      · have e : (H.getD id []).getD off .any = (H.getD id [])[off] := by
          rw [List.getD_eq_getElem?_getD, List.getElem?_eq_getElem hlt]; rfl
        rw [e]
        exact h4 off _ _ (List.getElem?_eq_getElem hlt) (by simp [hlt'])
  · rename_i xs hev
    obtain ⟨⟨hn, hpos⟩, h⟩ := h
    split at h
    · rename_i hg
      subst hg
      refine ⟨_, good_pure fun base w0 E a w hh hr => ?_, h⟩
      obtain ⟨b, o', hv, hc⟩ := (hev ▸ hr x x' (by simp [ho, Op.operands]) hx).ptr_
      refine ⟨_, ?_, .agg (arr := ((List.range n).map fun j => (w.cell? ⟨b, o' + j, none⟩).getD Go.undef).toArray) (by simp; omega) fun j x u hj hu => ?_⟩
      · have := run_load_agg (P := P) (w := w) hs b o' (fun j => (w.cell? ⟨b, o' + j, none⟩).getD Go.undef) (fun j hj => by
          obtain ⟨_, u, hu, _⟩ := hc j (xs[j]'(by omega)) (List.getElem?_eq_getElem (by omega))
          simp [hu])
        simp only [execOp, ho, hv, Sem.run_bind, this, Result.andThen_ok]
        rfl
      · rw [List.getElem?_take] at hj
        split at hj
        · rename_i hjn
          obtain ⟨_, u', hu', hru⟩ := hc j x hj
          simp [hjn, hu'] at hu
          subst hu
          exact hru
        · cases hj
    · rename_i hg
      have hg : g = false := by simpa using hg
      subst hg
      refine ⟨_, good_pure fun base w0 E a w hh hr => ?_, h⟩
      obtain ⟨b, o', hv, hc⟩ := (hev ▸ hr x x' (by simp [ho, Op.operands]) hx).ptr_
      obtain ⟨_, u, hu, hru⟩ := hc 0 (xs[0]'(by omega)) (List.getElem?_eq_getElem (by omega))
      refine ⟨u, ?_, .a ?_⟩
      · have := run_load_one (P := P) (w := w) hs b o' u (by simpa using hu)
        simp only [execOp, ho, hv, Sem.run_bind, this, Result.andThen_ok]
        rfl
      · have e : xs.getD 0 default = xs[0]'(by omega) := by
          rw [List.getD_eq_getElem?_getD, List.getElem?_eq_getElem (by omega)]; rfl
        rw [e]; exact hru
  · rename_i k s i f hev
    obtain ⟨⟨hs', hi, hn, hpos⟩, h⟩ := h
    split at h
    · rename_i hg
      subst hg
      refine ⟨_, good_pure fun base w0 E a w hh hr => ?_, h⟩
      obtain ⟨b, n', c', hκ, hv, hlen, hc⟩ := eptr_at hh (hev ▸ hr x x' (by simp [ho, Op.operands]) hx) hs' hi
      generalize hrow : (O.getD k default).rows.getD i [] = row at *
      refine ⟨_, ?_, .agg (arr := ((List.range n).map fun j => (w.cell? ⟨b, i * s + f + j, none⟩).getD Go.undef).toArray) (by simp; omega) fun j x u hj hu => ?_⟩
      · have := run_load_agg (P := P) (w := w) hs b (i * s + f) (fun j => (w.cell? ⟨b, i * s + f + j, none⟩).getD Go.undef) (fun j hj => by
          obtain ⟨u, hu, _⟩ := hc (f + j) (row[f + j]'(by omega)) (List.getElem?_eq_getElem (by omega))
          rw [Nat.add_assoc, hu]; rfl)
        simp only [execOp, ho, hv, Sem.run_bind, this, Result.andThen_ok]
        rfl
      · rw [List.getElem?_take] at hj
        split at hj
        · rename_i hjn
          rw [List.getElem?_drop] at hj
          obtain ⟨u', hu', hru⟩ := hc (f + j) x hj
          rw [← Nat.add_assoc] at hu'
          simp [hjn, hu'] at hu
          subst hu
          exact hru
        · cases hj
    · rename_i hg
      have hg : g = false := by simpa using hg
      subst hg
      refine ⟨_, good_pure fun base w0 E a w hh hr => ?_, h⟩
      obtain ⟨b, n', c', hκ, hv, hlen, hc⟩ := eptr_at hh (hev ▸ hr x x' (by simp [ho, Op.operands]) hx) hs' hi
      generalize hrow : (O.getD k default).rows.getD i [] = row at *
      obtain ⟨u, hu, hru⟩ := hc f (row[f]'(by omega)) (List.getElem?_eq_getElem (by omega))
      refine ⟨u, ?_, .a ?_⟩
      · have := run_load_one (P := P) (w := w) hs b (i * s + f) u hu
        simp only [execOp, ho, hv, Sem.run_bind, this, Result.andThen_ok]
        rfl
      · have e : row.getD f default = row[f]'(by omega) := by
          rw [List.getD_eq_getElem?_getD, List.getElem?_eq_getElem (by omega)]; rfl
        rw [e]; exact hru
  · exact h.elim
end
end Ab
