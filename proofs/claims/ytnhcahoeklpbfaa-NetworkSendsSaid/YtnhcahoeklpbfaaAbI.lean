/- Single operations do what abstract code says: lengths, slices, built values, calls. No program. -/
import Derived.Test.YtnhcahoeklpbfaaAbH
set_option linter.unusedSimpArgs false
set_option linter.unusedVariables false
namespace Ab
open Go Go.RowKit

section
variable {P : Program} {ev : AX → AV} {H : List (List AV)} {O : List OwnD} {K : AV → Prop}

theorem good_toInt {o : Oper} {s d : TypeId} {x : Operand} {x' : AX} {ks kd k : IntKind} {n : Int} (ho : o.op = .convert s d x) (hx : cX x = some x') (hs : P.underlying s = some (.int ks)) (hd : P.underlying d = some (.int kd)) (hev : ev x' = .a (.int k n)) :
    Good P o ev H O (.a (.int kd (kd.wrap n))) :=
  good_pure fun base w0 E a w hh hr => by
    have hv := (hev ▸ hr x x' (by simp [ho, Op.operands]) hx).int_
    refine ⟨_, ?_, .a (.int _ _)⟩
    simp only [execOp, ho, hv, convert, Sem.run_bind, run_under hs, run_under hd, Result.andThen_ok, Conv.intToInt, Sem.run_pure]

theorem good_same {o : Oper} {s d : TypeId} {x : Operand} {x' : AX} {b : ByteArray} (ho : o.op = .convert s d x) (hx : cX x = some x') (hs : P.underlying s = some .string) (hd : P.underlying d = some .string) (hev : ev x' = .a (.str b)) :
    Good P o ev H O (.a (.str b)) :=
  good_pure fun base w0 E a w hh hr => by
    obtain ⟨hv, hsz⟩ := (hev ▸ hr x x' (by simp [ho, Op.operands]) hx).str_
    refine ⟨_, ?_, .a (.str _ hsz)⟩
    simp only [execOp, ho, hv, convert, Sem.run_bind, run_under hs, run_under hd, Result.andThen_ok, Sem.run_pure]

theorem good_minmax {o : Oper} {mx : Bool} {x y : Operand} {x' y' : AX} {ts : Array TypeId} {k k' : IntKind} {m n : Int} (ho : o.op = .call { callee := .builtin (if mx then .max else .min), args := #[x, y], argTypes := ts }) (hx : cX x = some x') (hy : cX y = some y')
    (h1 : ev x' = .a (.int k m)) (h2 : ev y' = .a (.int k' n)) : Good P o ev H O (.a (.int k (if mx then (if n > m then n else m) else (if n < m then n else m)))) :=
  good_pure fun base w0 E a w hh hr => by
    have hv := (h1 ▸ hr x x' (by simp [ho, Op.operands, Call.operands]) hx).int_
    have hu := (h2 ▸ hr y y' (by simp [ho, Op.operands, Call.operands]) hy).int_
    refine ⟨_, ?_, .a (.int _ _)⟩
    cases mx
    · simp [execOp, ho, resolve, invoke, builtin, hv, hu, Builtin.min_, Builtin.min2]
    · simp [execOp, ho, resolve, invoke, builtin, hv, hu, Builtin.max_, Builtin.max2]

theorem len_fin {o : Oper} {x : Operand} {ts : Array TypeId} (ho : o.op = .call { callee := .builtin .len, args := #[x], argTypes := ts }) (a : Act) (w : World) (v u : Value) (h1 : a.eval x = v) (h2 : (Builtin.len_ ts o.type #[v]).run P w = .ok u w) : (execOp a.eval o).run P w = .ok (.value u) w := by
  simp only [execOp, ho, resolve, invoke, builtin, Sem.run_bind, Sem.run_pure, Result.andThen_ok, List.map_toArray, List.map_cons, List.map_nil, h1, h2]

theorem good_lenS {o : Oper} {x : Operand} {x' : AX} {ts : Array TypeId} {t : TypeId} {s : ByteArray} (ho : o.op = .call { callee := .builtin .len, args := #[x], argTypes := ts }) (ht : ts[0]? = some t) (hx : cX x = some x')
    (hu : P.underlying t = some .string) (hev : ev x' = .a (.str s)) : Good P o ev H O (.a (.int .i64 s.size)) :=
  good_pure fun base w0 E a w hh hr => by
    have hv := (hev ▸ hr x x' (by simp [ho, Op.operands, Call.operands]) hx).str_.1
    exact ⟨_, len_fin ho a w _ _ hv (by simp [Builtin.len_, ht, Sem.run_bind, run_under hu, goInt]), .a (.int _ _)⟩

theorem OwnOk.form {base : Nat} {S : Nat → Nat → Prop} {w : World} {v : Value} {d : OwnD} (h : OwnOk base S w v d) : ∃ A c, v = .slice A d.rows.length c := by
  obtain ⟨⟨xs, ho, _⟩, _⟩ := h
  rcases ho.2 with ⟨rfl, h0⟩ | ⟨g, cap, cur, rfl, _⟩
  · exact ⟨none, 0, by rw [h0]⟩
  · exact ⟨_, _, rfl⟩

theorem good_len {o : Oper} {x : Operand} {x' : AX} {ts : Array TypeId} {t e : TypeId} (ho : o.op = .call { callee := .builtin .len, args := #[x], argTypes := ts }) (ht : ts[0]? = some t) (hx : cX x = some x')
    (hu : P.underlying t = some (.slice e)) (h : alen O (ev x') K) : ∃ r, Good P o ev H O r ∧ K r := by
  have runL : ∀ (A : Option Addr) (n c : Nat) (w : World), (Builtin.len_ ts o.type #[.slice A n c]).run P w = .ok (.int .i64 n) w := by
    intro A n c w
    simp [Builtin.len_, ht, Sem.run_bind, run_under hu, goInt]
  unfold alen at h
  split at h
  · rename_i sz rows hev
    refine ⟨_, good_pure fun base w0 E a w hh hr => ?_, h⟩
    have hv := hev ▸ hr x x' (by simp [ho, Op.operands, Call.operands]) hx
    obtain ⟨A, c, hv', _⟩ := (rep_rows hh hv (sz := sz) (rows := rows) (by simp [rowsOf])).row
    exact ⟨_, len_fin ho a w _ _ hv' (runL A _ c w), .a (.int _ _)⟩
  · rename_i hev
    refine ⟨_, good_pure fun base w0 E a w hh hr => ?_, h⟩
    have hv := hev ▸ hr x x' (by simp [ho, Op.operands, Call.operands]) hx
    generalize hav : a.eval x = u at hv
    cases hv with | a hv => cases hv; exact ⟨_, len_fin ho a w _ _ hav (runL none 0 0 w), .a (.int _ _)⟩
  · rename_i sz rows hev
    refine ⟨_, good_pure fun base w0 E a w hh hr => ?_, h⟩
    have hv := hev ▸ hr x x' (by simp [ho, Op.operands, Call.operands]) hx
    obtain ⟨A, c, hv', _⟩ := (rep_rows hh hv (sz := sz) (rows := rows) (by simp [rowsOf])).row
    exact ⟨_, len_fin ho a w _ _ hv' (runL A _ c w), .a (.int _ _)⟩
  · rename_i sz rows hev
    refine ⟨_, good_pure fun base w0 E a w hh hr => ?_, h⟩
    have hv := hev ▸ hr x x' (by simp [ho, Op.operands, Call.operands]) hx
    obtain ⟨A, c, hv', _⟩ := (rep_rows hh hv (sz := sz) (rows := rows) (by simp [rowsOf])).row
    exact ⟨_, len_fin ho a w _ _ hv' (runL A _ c w), .a (.int _ _)⟩
  · rename_i k hev
    refine ⟨_, good_pure fun base w0 E a w hh hr => ?_, h⟩
    have hv := hev ▸ hr x x' (by simp [ho, Op.operands, Call.operands]) hx
    obtain ⟨A, c, hv'⟩ := (rep_own hh hv).form
    exact ⟨_, len_fin ho a w _ _ hv' (runL A _ c w), .a (.int _ _)⟩
  · rename_i k s lo hev
    refine ⟨_, good_pure fun base w0 E a w hh hr => ?_, h⟩
    have hv := hev ▸ hr x x' (by simp [ho, Op.operands, Call.operands]) hx
    generalize hav : a.eval x = u at hv
    cases hv with
    | vsl hκ hlo hA =>
      obtain ⟨A, c, hv'⟩ := (rep_own hh (.own hκ)).form
      injection hv' with _ hn _
      subst hn
      exact ⟨_, len_fin ho a w _ _ hav (runL _ _ _ w), .a (.int _ _)⟩
  · exact h.elim

/-- A cut of a slice. -/
theorem Rep.cut {S : Nat → Nat → Prop} {w : World} {sz : Nat} {rows : List (List Atom)} {A : Option Addr} {c l h m : Nat} (hr : Rep S w (.slice sz rows) (.slice A rows.length c)) (h1 : l ≤ h) (h2 : h ≤ rows.length) (h3 : h ≤ m) (h4 : m ≤ c) :
    Rep S w (.slice sz ((rows.take h).drop l)) (.slice (if m = l then A else A.map (·.add (l * sz))) (h - l) (m - l)) := by
  obtain ⟨A', c', hv, hl, hc, hn, hrl, hrows⟩ := hr.row
  injection hv with hv1 _ hv2
  subst hv1; subst hv2
  have hlen : ((rows.take h).drop l).length = h - l := by rw [List.length_drop, List.length_take]; omega
  by_cases h0 : h - l = 0
  · have e : (rows.take h).drop l = [] := List.eq_nil_of_length_eq_zero (by omega)
    rw [e, h0]
    exact .empty _ _ _ (by simp only [maxLen] at hc ⊢; omega) (fun hA => by
      cases A with
      | none => have := hr.nilcap; omega
      | some ad => split at hA <;> simp at hA)
  · have hlt : l < rows.length := by omega
    obtain ⟨g, o, rfl, _⟩ := hrows l hlt
    rw [if_neg (by omega)]
    simp only [Option.map_some, add_at]
    have key : ∀ i r, ((rows.take h).drop l)[i]? = some r → rows[l + i]? = some r := by
      intro i r hi
      rw [List.getElem?_drop, List.getElem?_take] at hi
      split at hi
      · exact hi
      · cases hi
    have hcell : ∀ (i : Nat) (r : List Atom) (j : Nat) (x : Atom), ((rows.take h).drop l)[i]? = some r → r[j]? = some x → S g (o + l * sz + i * sz + j) ∧ ∃ u, w.cell? ⟨g, o + l * sz + i * sz + j, none⟩ = some u ∧ Rep S w x u := by
      intro i r j x hi hj
      have hi' := key i r hi
      have hlt' : l + i < rows.length := (List.getElem?_eq_some_iff.1 hi').1
      obtain ⟨g', o', ha, hcr⟩ := hrows (l + i) hlt'
      injection ha with ha
      injection ha with ha1 ha2
      subst ha1; subst ha2
      have e : rows.getD (l + i) [] = r := by rw [List.getD_eq_getElem?_getD, hi']; rfl
      rw [e] at hcr
      have := hcr j x hj
      rw [Nat.add_mul, ← Nat.add_assoc] at this
      exact this
    have := Rep.slice (S := S) (w := w) sz ((rows.take h).drop l) g (o + l * sz) (m - l) (fun q => (w.cell? ⟨g, o + l * sz + q, none⟩).getD Go.undef) (by omega) (by omega) (by simp only [maxLen] at hc ⊢; omega)
      (fun i r hi => hrl (l + i) r (key i r hi))
      (fun i r j x hi hj => by
        obtain ⟨h1, u, h2, h3⟩ := hcell i r j x hi hj
        refine ⟨h1, ?_⟩
        rw [← Nat.add_assoc, h2]; rfl)
      (fun i r j x hi hj => by
        obtain ⟨h1, u, h2, h3⟩ := hcell i r j x hi hj
        rw [← Nat.add_assoc, h2]; exact h3)
    rw [hlen] at this
    exact this

def boundRun (d : Int) : Option Value → Int
  | none => d
  | some (.int _ n) => n
  | some _ => -1

theorem bound_rep {E : Env} {w : World} {a : Act} {o : Oper} (hr : RepOps E w ev a o) {lo : Option Operand} {lo' : Option AX} (hlo : cXO lo = some lo') (hm : ∀ x, lo = some x → x ∈ o.op.operands) (d : Int) (h0 : 0 ≤ boundOf d (optv ev lo')) :
    (lo = none ∧ lo' = none) ∨ ∃ x k n, lo = some x ∧ a.eval x = .int k n ∧ boundOf d (optv ev lo') = n ∧ lo'.isSome = true := by
  cases lo with
  | none => simp [cXO] at hlo; subst hlo; exact .inl ⟨rfl, rfl⟩
  | some x =>
    cases hx : cX x with
    | none => simp [cXO, hx] at hlo
    | some y =>
      simp [cXO, hx] at hlo
      subst hlo
      right
      unfold boundOf at h0
      simp only [optv] at h0
      split at h0
      · rename_i he; cases he
      · rename_i k n he
        injection he with he
        have := (he ▸ hr x y (hm x rfl) hx).int_
        exact ⟨x, k, n, rfl, this, by simp [boundOf, optv, he], rfl⟩
      · omega

theorem good_sl {o : Oper} {t e : TypeId} {x : Operand} {lo hi mx : Option Operand} {x' : AX} {lo' hi' mx' : Option AX} {sz : Nat} {rows : List (List Atom)} (ho : o.op = .slice t x lo hi mx) (hu : P.underlying t = some (.slice e)) (hsz : sizeAt P e = some sz)
    (hx : cX x = some x') (hlo : cXO lo = some lo') (hhi : cXO hi = some hi') (hmx : cXO mx = some mx') (hrow : rowsOf O sz (ev x') = some rows) (h : aslice sz (optv ev lo') (optv ev hi') (optv ev mx') rows K) : ∃ r, Good P o ev H O r ∧ K r := by
  unfold aslice at h
  split at h
  · rename_i hm
    obtain ⟨⟨h0, h1, h2⟩, h⟩ := h
    have hmn : mx' = none := by cases mx' <;> simp [optv] at hm ⊢
    subst hmn
    have hmx0 : mx = none := by cases mx with | none => rfl | some y => cases hy : cX y <;> simp [cXO, hy] at hmx
    subst hmx0
    refine ⟨_, good_pure fun base w0 E a w hh hr => ?_, h⟩
    have hrep := rep_rows hh (hr x x' (by simp [ho, Op.operands]) hx) hrow
    obtain ⟨A, c, hv, hl, hc, _⟩ := hrep.row
    rw [hv] at hrep
    have hcut := hrep.cut (l := (boundOf 0 (optv ev lo')).toNat) (h := (boundOf rows.length (optv ev hi')).toNat) (m := c) (by omega) (by omega) (by omega) (Nat.le_refl _)
    refine ⟨_, ?_, .a hcut⟩
    have hlo2 := bound_rep hr hlo (fun y hy => by subst hy; simp [ho, Op.operands]) 0 h0
    have hhi2 := bound_rep hr hhi (fun y hy => by subst hy; simp [ho, Op.operands]) rows.length (by omega)
    have e1 : (Instr.sliceBounds true rows.length c (lo.map a.eval) (hi.map a.eval) none).run P w = .ok ((boundOf 0 (optv ev lo')).toNat, (boundOf rows.length (optv ev hi')).toNat, c) w := by
      rcases hhi2 with ⟨rfl, rfl⟩ | ⟨yh, kh, nh, rfl, hyh, hbh, _⟩ <;> rcases hlo2 with ⟨rfl, rfl⟩ | ⟨yl, kl, nl, rfl, hyl, hbl, _⟩
      · simp [Instr.sliceBounds, optv, boundOf]
      · have q := run_sliceBound (P := P) (w := w) kl nl rows.length .sliceB (by omega) (by simp [optv, boundOf] at h1 hbl; omega)
        simp [Instr.sliceBounds, hyl, q, hbl]
        simp [optv, boundOf]
      · have q := run_sliceBound (P := P) (w := w) kh nh c .sliceAcap (by omega) (by omega)
        simp [Instr.sliceBounds, hyh, q, hbh]
        simp [optv, boundOf]
      · have q := run_sliceBound (P := P) (w := w) kh nh c .sliceAcap (by omega) (by omega)
        have q2 := run_sliceBound (P := P) (w := w) kl nl nh.toNat .sliceB (by omega) (by omega)
        simp [Instr.sliceBounds, hyh, hyl, q, q2, hbh, hbl, Sem.run_bind]
    have e2 : (Instr.sliceAt t (.slice A rows.length c) (lo.map a.eval) (hi.map a.eval) none).run P w = (Instr.slice t (.slice A rows.length c) (lo.map a.eval) (hi.map a.eval) none).run P w := by
      simp [Instr.sliceAt, Sem.run_bind, run_under hu]
    simp only [execOp, ho, hv, Sem.run_bind, Option.map_none, e2]
    simp only [Instr.slice, Sem.run_bind, run_under hu, Result.andThen_ok, e1, run_size hsz, Sem.run_pure]
  · rename_i m hm
    obtain ⟨⟨hs, h0, h1, h2, h3⟩, h⟩ := h
    obtain ⟨mx1, rfl⟩ : ∃ z, mx' = some z := by cases mx' with | none => simp [optv] at hm | some z => exact ⟨z, rfl⟩
    refine ⟨_, good_pure fun base w0 E a w hh hr => ?_, h⟩
    have hrep := rep_rows hh (hr x x' (by simp [ho, Op.operands]) hx) hrow
    obtain ⟨A, c, hv, hl, hc, _⟩ := hrep.row
    rw [hv] at hrep
    have hcut := hrep.cut (l := (boundOf 0 (optv ev lo')).toNat) (h := (boundOf rows.length (optv ev hi')).toNat) (m := (boundOf rows.length (optv ev hi')).toNat) (by omega) (by omega) (by omega) (by omega)
    refine ⟨_, ?_, .full hcut⟩
    have hlo2 := bound_rep hr hlo (fun y hy => by subst hy; simp [ho, Op.operands]) 0 h0
    have hhi2 := bound_rep hr hhi (fun y hy => by subst hy; simp [ho, Op.operands]) rows.length (by omega)
    have hmb : boundOf (-1) (optv ev (some mx1)) = boundOf rows.length (optv ev hi') := by rw [hm]; exact h2.symm
    have hmx2 := bound_rep hr hmx (fun y hy => by subst hy; simp [ho, Op.operands]) (-1) (by rw [hmb]; omega)
    rcases hmx2 with ⟨_, hno⟩ | ⟨ym, km, nm, rfl, hym, hbm, _⟩
    · cases hno
    rcases hhi2 with ⟨rfl, rfl⟩ | ⟨yh, kh, nh, rfl, hyh, hbh, _⟩
    · simp [optv] at hs
    have hnm : nm = nh := by rw [← hbm, ← hbh, hmb]
    subst hnm
    have e1 : (Instr.sliceBounds true rows.length c (lo.map a.eval) (some (a.eval yh)) (some (a.eval ym))).run P w = .ok ((boundOf 0 (optv ev lo')).toNat, (boundOf rows.length (optv ev hi')).toNat, (boundOf rows.length (optv ev hi')).toNat) w := by
      have q := run_sliceBound (P := P) (w := w) km nm c .slice3Acap (by omega) (by omega)
      have q1 := run_sliceBound (P := P) (w := w) kh nm nm.toNat .slice3B (by omega) (by omega)
      rcases hlo2 with ⟨rfl, rfl⟩ | ⟨yl, kl, nl, rfl, hyl, hbl, _⟩
      · simp [Instr.sliceBounds, hyh, hym, q, q1, hbh, Sem.run_bind]
        simp [optv, boundOf]
      · have q2 := run_sliceBound (P := P) (w := w) kl nl nm.toNat .slice3C (by omega) (by omega)
        simp [Instr.sliceBounds, hyh, hyl, hym, q, q1, q2, hbh, hbl, Sem.run_bind]
    have e2 : (Instr.sliceAt t (.slice A rows.length c) (lo.map a.eval) (some (a.eval yh)) (some (a.eval ym))).run P w = (Instr.slice t (.slice A rows.length c) (lo.map a.eval) (some (a.eval yh)) (some (a.eval ym))).run P w := by
      simp [Instr.sliceAt, Sem.run_bind, run_under hu]
    simp only [execOp, ho, hv, Sem.run_bind, Option.map_some, e2]
    simp only [Instr.slice, Sem.run_bind, run_under hu, Result.andThen_ok, e1, run_size hsz, Sem.run_pure]

theorem good_slV {o : Oper} {t e : TypeId} {x : Operand} {lo hi mx : Option Operand} {x' : AX} {lo' hi' mx' : Option AX} {sz q : Nat} (ho : o.op = .slice t x lo hi mx) (hu : P.underlying t = some (.slice e)) (hsz : sizeAt P e = some sz)
    (hx : cX x = some x') (hlo : cXO lo = some lo') (hhi : cXO hi = some hi') (hmx : cXO mx = some mx') (hrow : ev x' = .own q) (hh0 : hi'.isSome = false) (hm0 : mx'.isSome = false) (h0 : 0 ≤ boundOf 0 (optv ev lo')) (h1 : boundOf 0 (optv ev lo') ≤ (O.getD q default).rows.length) :
    Good P o ev H O (.vsl q sz (boundOf 0 (optv ev lo')).toNat) := by
  have hmn : mx' = none := by cases mx' <;> simp at hm0 ⊢
  subst hmn
  have hmx0 : mx = none := by cases mx with | none => rfl | some y => cases hy : cX y <;> simp [cXO, hy] at hmx
  subst hmx0
  have hhn : hi' = none := by cases hi' <;> simp at hh0 ⊢
  subst hhn
  have hhi0 : hi = none := by cases hi with | none => rfl | some y => cases hy : cX y <;> simp [cXO, hy] at hhi
  subst hhi0
  refine good_pure fun base w0 E a w hh hr => ?_
  have hv := hrow ▸ hr x x' (by simp [ho, Op.operands]) hx
  have hok := rep_own hh hv
  generalize hav : a.eval x = v at hv hok
  have hlo2 := bound_rep hr hlo (fun y hy => by subst hy; simp [ho, Op.operands]) 0 h0
  cases hv with
  | own hκ =>
    obtain ⟨⟨xs, hown, hrr⟩, hlen, hpos, hat⟩ := hok
    have hform : ∃ B c, v = .slice B (O.getD q default).rows.length c ∧ (O.getD q default).rows.length ≤ c := by
      rcases hown.2 with ⟨rfl, hz⟩ | ⟨g, cap, cur, rfl, hb, hg, hcap, hm, hcs, ht⟩
      · exact ⟨none, 0, by rw [hz], by omega⟩
      · exact ⟨_, _, rfl, hcap⟩
    obtain ⟨B, c, rfl, hnc⟩ := hform
    generalize hd : O.getD q default = d at *
    generalize hl : (boundOf 0 (optv ev lo')).toNat = l at *
    refine ⟨.slice (if c = l then B else B.map (·.add (l * sz))) (d.rows.length - l) (c - l), ?_, .vsl hκ (by omega) ?_⟩
    · have e1 : (Instr.sliceBounds true d.rows.length c (lo.map a.eval) none none).run P w = .ok (l, d.rows.length, c) w := by
        rcases hlo2 with ⟨rfl, rfl⟩ | ⟨yl, kl, nl, rfl, hyl, hbl, _⟩
        · simp [optv, boundOf] at hl
          subst hl
          simp [Instr.sliceBounds]
        · have q2 := run_sliceBound (P := P) (w := w) kl nl d.rows.length .sliceB (by omega) (by omega)
          simp [Instr.sliceBounds, hyl, q2, hbl]
          rw [hbl] at hl; exact hl
      have e2 : (Instr.sliceAt t (.slice B d.rows.length c) (lo.map a.eval) none none).run P w = (Instr.slice t (.slice B d.rows.length c) (lo.map a.eval) none none).run P w := by
        simp [Instr.sliceAt, Sem.run_bind, run_under hu]
      simp only [execOp, ho, hav, Sem.run_bind, Option.map_none, e2]
      simp only [Instr.slice, Sem.run_bind, run_under hu, Result.andThen_ok, e1, run_size hsz, Sem.run_pure]
    · by_cases hc : c = l
      · exact .inr (by omega)
      · rw [if_neg hc]; exact .inl rfl

theorem good_slStr {o : Oper} {t : TypeId} {x : Operand} {lo hi : Option Operand} {x' : AX} {lo' hi' : Option AX} {s : ByteArray} (ho : o.op = .slice t x lo hi none) (hu : P.underlying t = some .string)
    (hx : cX x = some x') (hlo : cXO lo = some lo') (hhi : cXO hi = some hi') (hev : ev x' = .a (.str s)) (h : astr (optv ev lo') (optv ev hi') s K) : ∃ r, Good P o ev H O r ∧ K r := by
  unfold astr at h
  obtain ⟨⟨h0, h1, h2⟩, h⟩ := h
  refine ⟨_, good_pure fun base w0 E a w hh hr => ?_, h⟩
  obtain ⟨hv, hsz⟩ := (hev ▸ hr x x' (by simp [ho, Op.operands]) hx).str_
  refine ⟨_, ?_, .a (.str _ ?_)⟩
  have hlo2 := bound_rep hr hlo (fun y hy => by subst hy; simp [ho, Op.operands]) 0 h0
  have hhi2 := bound_rep hr hhi (fun y hy => by subst hy; simp [ho, Op.operands]) s.size (by omega)
  have e1 : (Instr.sliceBounds false s.size s.size (lo.map a.eval) (hi.map a.eval) none).run P w = .ok ((boundOf 0 (optv ev lo')).toNat, (boundOf s.size (optv ev hi')).toNat, s.size) w := by
    rcases hhi2 with ⟨rfl, rfl⟩ | ⟨yh, kh, nh, rfl, hyh, hbh, _⟩ <;> rcases hlo2 with ⟨rfl, rfl⟩ | ⟨yl, kl, nl, rfl, hyl, hbl, _⟩
    · simp [Instr.sliceBounds, optv, boundOf]
    · have q := run_sliceBound (P := P) (w := w) kl nl s.size .sliceB (by omega) (by simp [optv, boundOf] at h1 hbl; omega)
      simp [Instr.sliceBounds, hyl, q, hbl]
      simp [optv, boundOf]
    · have q := run_sliceBound (P := P) (w := w) kh nh s.size .sliceAlen (by omega) (by omega)
      simp [Instr.sliceBounds, hyh, q, hbh]
      simp [optv, boundOf]
    · have q := run_sliceBound (P := P) (w := w) kh nh s.size .sliceAlen (by omega) (by omega)
      have q2 := run_sliceBound (P := P) (w := w) kl nl nh.toNat .sliceB (by omega) (by omega)
      simp [Instr.sliceBounds, hyh, hyl, q, q2, hbh, hbl, Sem.run_bind]
  have e2 : (Instr.sliceAt t (.string s) (lo.map a.eval) (hi.map a.eval) none).run P w = (Instr.slice t (.string s) (lo.map a.eval) (hi.map a.eval) none).run P w := by
    simp [Instr.sliceAt, Sem.run_bind, run_under hu]
  simp only [execOp, ho, hv, Sem.run_bind, Option.map_none, e2]
  simp [Instr.slice, Sem.run_bind, run_under hu, Result.andThen_ok, e1, Sem.run_pure]
  rw [ByteArray.size_extract]
  omega
end
end Ab
