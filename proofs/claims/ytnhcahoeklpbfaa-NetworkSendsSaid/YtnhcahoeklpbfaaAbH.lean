/- Single operations do what abstract code says: fields, indexes, lengths, calls. No program. -/
import Derived.Test.YtnhcahoeklpbfaaAbG
set_option linter.unusedSimpArgs false
set_option linter.unusedVariables false
namespace Ab
open Go Go.RowKit

section
variable {P : Program} {ev : AX → AV} {H : List (List AV)} {O : List OwnD} {K : AV → Prop}

theorem fieldOf_spec {t : TypeId} {f o n : Nat} {g : Bool} (h : fieldOf P t f = some (o, n, g)) : ∃ fs fd, P.underlying t = some (.struct fs) ∧ fs[f]? = some fd ∧ fd.offset = o ∧ shapeOf P fd.type = some (n, g) := by
  unfold fieldOf at h
  split at h
  · rename_i fs hu
    split at h
    · rename_i fd hf
      split at h
      · rename_i n' g' hs
        simp at h
        obtain ⟨rfl, rfl, rfl⟩ := h
        exact ⟨fs, fd, hu, hf, rfl, hs⟩
      · cases h
    · cases h
  · cases h

theorem size_of_shape {t : TypeId} {n : Nat} {g : Bool} (h : shapeOf P t = some (n, g)) : sizeAt P t = some n := by
  cases g
  · obtain ⟨_, _, _, h, _⟩ := shape_one h; exact h
  · obtain ⟨_, _, _, h⟩ := shape_agg h; exact h

theorem RepC.drop {S : Nat → Nat → Prop} {w : World} {g o k : Nat} {xs : List Atom} (h : RepC S w g o xs) : RepC S w g (o + k) (xs.drop k) := by
  intro j x hj
  rw [List.getElem?_drop] at hj
  obtain ⟨h1, u, h2, h3⟩ := h (k + j) x hj
  rw [← Nat.add_assoc] at h1 h2
  exact ⟨h1, u, h2, h3⟩

theorem good_fieldAddr {o : Oper} {t : TypeId} {x : Operand} {x' : AX} {f off n : Nat} {g : Bool} (ho : o.op = .fieldAddr t x f) (hx : cX x = some x') (hf : fieldOf P t f = some (off, n, g)) (hn : n ≠ 0) (h : afield off (ev x') K) : ∃ r, Good P o ev H O r ∧ K r := by
  obtain ⟨fs, fd, hu, hfd, rfl, hs⟩ := fieldOf_spec hf
  have hsz := size_of_shape hs
  have run : ∀ (b o' : Nat) (w : World), (Instr.fieldAt t (.pointer (some ⟨b, o', none⟩)) f).run P w = .ok (.pointer (some ⟨b, o' + fd.offset, none⟩)) w := by
    intro b o' w
    simp only [Instr.fieldAt, Sem.run_bind, run_under hu, Result.andThen_ok, hfd, Instr.sureAddr, Sem.run_pure, fieldPlace, run_size hsz, hn, if_false, add_at]
  unfold afield at h
  split at h
  · rename_i id off' hev
    refine ⟨_, good_pure fun base w0 E a w hh hr => ?_, h⟩
    obtain ⟨b, hb, hv⟩ := (hev ▸ hr x x' (by simp [ho, Op.operands]) hx).loc_
    exact ⟨_, by simp only [execOp, ho, hv, Sem.run_bind, run, Result.andThen_ok]; rfl, .loc hb⟩
  · rename_i xs hev
    refine ⟨_, good_pure fun base w0 E a w hh hr => ?_, h⟩
    obtain ⟨b, o', hv, hc⟩ := (hev ▸ hr x x' (by simp [ho, Op.operands]) hx).ptr_
    exact ⟨_, by simp only [execOp, ho, hv, Sem.run_bind, run, Result.andThen_ok]; rfl, .ptr hc.drop⟩
  · rename_i k s i f' hev
    refine ⟨_, good_pure fun base w0 E a w hh hr => ?_, h⟩
    have hr' := hev ▸ hr x x' (by simp [ho, Op.operands]) hx
    generalize hav : a.eval x = v at hr'
    cases hr' with
    | eptr hκ =>
      rename_i g' n' c'
      exact ⟨.pointer (some ⟨g', i * s + (f' + fd.offset), none⟩), by simp only [execOp, ho, hav, Sem.run_bind, run, Result.andThen_ok, Nat.add_assoc]; rfl, .eptr hκ⟩
  · exact h.elim

theorem run_part_agg {w : World} {t : TypeId} {n : Nat} (hs : shapeOf P t = some (n, true)) (cs : Array Value) (off : Nat) : (part t cs off).run P w = .ok (.agg (cs.extract off (off + n))) w := by
  obtain ⟨d, hd, ha, hn⟩ := shape_agg hs
  simp only [part, Sem.run_bind, run_agg hd, ha, Result.andThen_ok, if_true, run_size hn, Sem.run_pure]
theorem run_part_one {w : World} {t : TypeId} {n : Nat} (hs : shapeOf P t = some (n, false)) (cs : Array Value) (off : Nat) (u : Value) (h : cs[off]? = some u) : (part t cs off).run P w = .ok u w := by
  obtain ⟨d, hd, ha, hn, _⟩ := shape_one hs
  simp only [part, Sem.run_bind, run_agg hd, ha, Result.andThen_ok, h, Sem.run_pure, Bool.false_eq_true, if_false]

theorem rep_extract {E : Env} {w : World} {xs : List Atom} {arr : Array Value} (hs : arr.size = xs.length) (h : ∀ (j : Nat) (x : Atom) (u : Value), xs[j]? = some x → arr[j]? = some u → Rep E.S w x u) {off n : Nat} (hn : off + n ≤ xs.length) :
    RepV E w (.agg ((xs.drop off).take n)) (.agg (arr.extract off (off + n))) := by
  refine .agg (by simp; omega) fun j x u hj hu => ?_
  rw [List.getElem?_take] at hj
  split at hj
  · rename_i hjn
    rw [List.getElem?_drop] at hj
    refine h (off + j) x u hj ?_
    rw [Array.getElem?_extract] at hu
    split at hu
    · exact hu
    · cases hu
  · cases hj

theorem good_field {o : Oper} {t : TypeId} {x : Operand} {x' : AX} {f off n : Nat} {g : Bool} {xs : List Atom} (ho : o.op = .field t x f) (hx : cX x = some x') (hf : fieldOf P t f = some (off, n, g)) (hev : ev x' = .agg xs)
    (h : agate (off + n ≤ xs.length ∧ 0 < n) (if g then K (.agg ((xs.drop off).take n)) else K (.a (xs.getD off default)))) : ∃ r, Good P o ev H O r ∧ K r := by
  obtain ⟨fs, fd, hu, hfd, rfl, hs⟩ := fieldOf_spec hf
  obtain ⟨⟨hn, hpos⟩, h⟩ := h
  cases g
  · refine ⟨_, good_pure fun base w0 E a w hh hr => ?_, h⟩
    obtain ⟨arr, hv, h1, h2⟩ := (hev ▸ hr x x' (by simp [ho, Op.operands]) hx).agg_
    have hlt : fd.offset < arr.size := by omega
    refine ⟨arr[fd.offset], ?_, .a ?_⟩
    · have := run_part_one (P := P) (w := w) hs arr fd.offset arr[fd.offset] (by simp [hlt])
      simp only [execOp, ho, hv, Instr.field, asAgg, Sem.run_bind, run_under hu, hfd, this, Result.andThen_ok, Sem.run_pure]
    · have hx0 : fd.offset < xs.length := by omega
      have e : xs.getD fd.offset default = xs[fd.offset] := by rw [List.getD_eq_getElem?_getD, List.getElem?_eq_getElem hx0]; rfl
      rw [e]
      exact h2 _ _ _ (List.getElem?_eq_getElem hx0) (by simp [hlt])
  · refine ⟨_, good_pure fun base w0 E a w hh hr => ?_, h⟩
    obtain ⟨arr, hv, h1, h2⟩ := (hev ▸ hr x x' (by simp [ho, Op.operands]) hx).agg_
    refine ⟨.agg (arr.extract fd.offset (fd.offset + n)), ?_, rep_extract h1 h2 hn⟩
    have := run_part_agg (P := P) (w := w) hs arr fd.offset
    simp only [execOp, ho, hv, Instr.field, asAgg, Sem.run_bind, run_under hu, hfd, this, Result.andThen_ok, Sem.run_pure]

/-- Row i of a slice. -/
theorem Rep.nilcap {S : Nat → Nat → Prop} {w : World} {sz : Nat} {rows : List (List Atom)} {n c : Nat} (h : Rep S w (.slice sz rows) (.slice none n c)) : c = 0 := by
  cases h with
  | empty sz A c hc hz => exact hz rfl

theorem Rep.row {S : Nat → Nat → Prop} {w : World} {sz : Nat} {rows : List (List Atom)} {v : Value} (h : Rep S w (.slice sz rows) v) : ∃ A c, v = .slice A rows.length c ∧ rows.length ≤ c ∧ c ≤ maxLen ∧ rows.length ≤ 9223372036854775807 ∧
    (∀ (i : Nat) (r : List Atom), rows[i]? = some r → r.length = sz) ∧
    ∀ i : Nat, i < rows.length → ∃ g o, A = some ⟨g, o, none⟩ ∧ RepC S w g (o + i * sz) (rows.getD i []) := by
  cases h with
  | empty sz A c hc _ => exact ⟨A, c, rfl, by simp, hc, by simp, by simp, fun i hi => by simp at hi⟩
  | slice sz rows g o c U hn hl hc hr hcell hrep =>
    refine ⟨_, c, rfl, hl, hc, hn, hr, fun i hi => ⟨g, o, rfl, ?_⟩⟩
    have e : rows.getD i [] = rows[i] := by rw [List.getD_eq_getElem?_getD, List.getElem?_eq_getElem hi]; rfl
    rw [e]
    intro j x hj
    obtain ⟨h1, h2⟩ := hcell i rows[i] j x (List.getElem?_eq_getElem hi) hj
    exact ⟨h1, _, h2, hrep i rows[i] j x (List.getElem?_eq_getElem hi) hj⟩

theorem good_ix {o : Oper} {t e : TypeId} {x i : Operand} {x' i' : AX} {sz : Nat} {rows : List (List Atom)} {k : IntKind} {n : Int} (ho : o.op = .indexAddr t x i) (hx : cX x = some x') (hi : cX i = some i') (hu : P.underlying t = some (.slice e)) (hsz : sizeAt P e = some sz)
    (hrow : rowsOf O sz (ev x') = some rows) (hin : ev i' = .a (.int k n)) (h0 : 0 ≤ n) (hn : n < rows.length) : Good P o ev H O (.ptr (rows.getD n.toNat [])) :=
  good_pure fun base w0 E a w hh hr => by
    obtain ⟨A, c, hv, _, _, _, _, hrows⟩ := (rep_rows hh (hr x x' (by simp [ho, Op.operands]) hx) hrow).row
    have hi' := (hin ▸ hr i i' (by simp [ho, Op.operands]) hi).int_
    obtain ⟨g, o', rfl, hc⟩ := hrows n.toNat (by omega)
    refine ⟨.pointer (some ⟨g, o' + n.toNat * sz, none⟩), ?_, .ptr hc⟩
    simp only [execOp, ho, hv, hi', Instr.indexAt, asIntOf, Sem.run_bind, Sem.run_pure, run_under hu, Result.andThen_ok, h0, hn, and_self, if_true, run_size hsz, add_at]

theorem good_ixV {o : Oper} {t e : TypeId} {x i : Operand} {x' i' : AX} {sz q : Nat} {k : IntKind} {n : Int} (ho : o.op = .indexAddr t x i) (hx : cX x = some x') (hi : cX i = some i') (hu : P.underlying t = some (.slice e)) (hsz : sizeAt P e = some sz)
    (hrow : ev x' = .own q) (hin : ev i' = .a (.int k n)) (h0 : 0 ≤ n) (hn : n < (O.getD q default).rows.length) : Good P o ev H O (.eptr q sz n.toNat 0) :=
  good_pure fun base w0 E a w hh hr => by
    have hv := hrow ▸ hr x x' (by simp [ho, Op.operands]) hx
    have hok := rep_own hh hv
    generalize hav : a.eval x = v at hv hok
    have hi' := (hin ▸ hr i i' (by simp [ho, Op.operands]) hi).int_
    cases hv with
    | own hκ =>
      obtain ⟨⟨xs, hown, hrr⟩, hlen, hpos, hat⟩ := hok
      rcases hown.2 with ⟨rfl, h0'⟩ | ⟨g, cap, cur, rfl, hb, hg, hcap, hm, hcs, ht⟩
      · omega
      · refine ⟨.pointer (some ⟨g, n.toNat * sz, none⟩), ?_, .eptr hκ⟩
        simp only [execOp, ho, hav, hi', Instr.indexAt, asIntOf, Sem.run_bind, Sem.run_pure, run_under hu, Result.andThen_ok, h0, hn, and_self, if_true, run_size hsz, add_at, Nat.zero_add]

theorem good_ixArr {o : Oper} {t e : TypeId} {x i : Operand} {x' i' : AX} {sz l id off : Nat} {k : IntKind} {n : Int} (ho : o.op = .indexAddr t x i) (hx : cX x = some x') (hi : cX i = some i') (hu : P.underlying t = some (.array l e)) (hsz : sizeAt P e = some sz)
    (hev : ev x' = .loc id off) (hin : ev i' = .a (.int k n)) (h0 : 0 ≤ n) (hn : n < l) : Good P o ev H O (.loc id (off + n.toNat * sz)) :=
  good_pure fun base w0 E a w hh hr => by
    obtain ⟨b, hb, hv⟩ := (hev ▸ hr x x' (by simp [ho, Op.operands]) hx).loc_
    have hi' := (hin ▸ hr i i' (by simp [ho, Op.operands]) hi).int_
    refine ⟨.pointer (some ⟨b, off + n.toNat * sz, none⟩), ?_, .loc hb⟩
    simp only [execOp, ho, hv, hi', Instr.indexAt, Instr.sureAddr, asIntOf, Sem.run_bind, Sem.run_pure, run_under hu, Result.andThen_ok, h0, hn, and_self, if_true, run_size hsz, add_at]

theorem good_elem {o : Oper} {t e : TypeId} {x i : Operand} {x' i' : AX} {l n : Nat} {g : Bool} {xs : List Atom} {k : IntKind} {m : Int} (ho : o.op = .index t x i) (hx : cX x = some x') (hi : cX i = some i') (hu : P.underlying t = some (.array l e)) (hs : shapeOf P e = some (n, g))
    (hev : ev x' = .agg xs) (hin : ev i' = .a (.int k m)) (h : agate (0 ≤ m ∧ m < l ∧ (m.toNat + 1) * n ≤ xs.length ∧ (g = false → n = 1)) (if g then K (.agg ((xs.drop (m.toNat * n)).take n)) else K (.a (xs.getD m.toNat default)))) : ∃ r, Good P o ev H O r ∧ K r := by
  obtain ⟨⟨h0, hm, hl, hg⟩, h⟩ := h
  cases g
  · have hn1 := hg rfl
    subst hn1
    refine ⟨_, good_pure fun base w0 E a w hh hr => ?_, h⟩
    obtain ⟨arr, hv, h1, h2⟩ := (hev ▸ hr x x' (by simp [ho, Op.operands]) hx).agg_
    have hi' := (hin ▸ hr i i' (by simp [ho, Op.operands]) hi).int_
    have hlt : m.toNat < arr.size := by omega
    refine ⟨arr[m.toNat], ?_, .a ?_⟩
    · have := run_part_one (P := P) (w := w) hs arr m.toNat arr[m.toNat] (by simp [hlt])
      simp only [execOp, ho, hv, hi', Instr.index, asIntOf, Sem.run_bind, Sem.run_pure, run_under hu, Result.andThen_ok, h0, hm, and_self, if_true, run_size (size_of_shape hs), Nat.mul_one, this]
    · have hx0 : m.toNat < xs.length := by omega
      have e : xs.getD m.toNat default = xs[m.toNat] := by rw [List.getD_eq_getElem?_getD, List.getElem?_eq_getElem hx0]; rfl
      rw [e]
      exact h2 _ _ _ (List.getElem?_eq_getElem hx0) (by simp [hlt])
  · refine ⟨_, good_pure fun base w0 E a w hh hr => ?_, h⟩
    obtain ⟨arr, hv, h1, h2⟩ := (hev ▸ hr x x' (by simp [ho, Op.operands]) hx).agg_
    have hi' := (hin ▸ hr i i' (by simp [ho, Op.operands]) hi).int_
    refine ⟨.agg (arr.extract (m.toNat * n) (m.toNat * n + n)), ?_, rep_extract h1 h2 (by rw [Nat.succ_mul] at hl; exact hl)⟩
    have := run_part_agg (P := P) (w := w) hs arr (m.toNat * n)
    simp only [execOp, ho, hv, hi', Instr.index, asIntOf, Sem.run_bind, Sem.run_pure, run_under hu, Result.andThen_ok, h0, hm, and_self, if_true, run_size (size_of_shape hs), this]

theorem good_byte {o : Oper} {t : TypeId} {x i : Operand} {x' i' : AX} {s : ByteArray} {k : IntKind} {n : Int} (ho : o.op = .index t x i) (hx : cX x = some x') (hi : cX i = some i') (hu : P.underlying t = some .string)
    (hev : ev x' = .a (.str s)) (hin : ev i' = .a (.int k n)) (h0 : 0 ≤ n) (hn : n < s.size) : Good P o ev H O (.a (.int .u8 (s.data.toList.getD n.toNat 0).toNat)) :=
  good_pure fun base w0 E a w hh hr => by
    have hv := (hev ▸ hr x x' (by simp [ho, Op.operands]) hx).str_.1
    have hi' := (hin ▸ hr i i' (by simp [ho, Op.operands]) hi).int_
    have hlt : n.toNat < s.size := by omega
    have e : s[n.toNat]? = some (s.data.toList.getD n.toNat 0) := by
      rw [getElem?_pos s n.toNat hlt]
      have : n.toNat < s.data.toList.length := by simpa using hlt
      rw [List.getD_eq_getElem?_getD, List.getElem?_eq_getElem this]
      rfl
    refine ⟨_, ?_, .a (.int _ _)⟩
    simp only [execOp, ho, hv, hi', Instr.index, asIntOf, Sem.run_bind, Sem.run_pure, run_under hu, Result.andThen_ok, h0, if_true, e]

theorem good_extract {o : Oper} {x : Operand} {x' : AX} {i : Nat} {xs : List AV} (ho : o.op = .extract x i) (hx : cX x = some x') (hev : ev x' = .tup xs) (hi : i < xs.length) : Good P o ev H O (xs.getD i .undef) :=
  good_pure fun base w0 E a w hh hr => by
    obtain ⟨arr, hv, h1, h2⟩ := (hev ▸ hr x x' (by simp [ho, Op.operands]) hx).tup_
    have hlt : i < arr.size := by omega
    have e : xs.getD i .undef = xs[i] := by rw [List.getD_eq_getElem?_getD, List.getElem?_eq_getElem hi]; rfl
    refine ⟨arr[i], ?_, ?_⟩
    · have : arr[i]? = some arr[i] := by simp [hlt]
      simp only [execOp, ho, hv, Instr.extract, Sem.run_bind, this, Sem.run_pure, Result.andThen_ok]
    · rw [e]; exact h2 i _ _ (List.getElem?_eq_getElem hi) (by simp [hlt])

theorem good_nilCheck {o : Oper} {x : Operand} {x' : AX} (ho : o.op = .nilCheck x) (hx : cX x = some x') (h : anil (ev x') K) : ∃ r, Good P o ev H O r ∧ K r := by
  unfold anil at h
  split at h
  · rename_i id off hev
    refine ⟨_, good_pure fun base w0 E a w hh hr => ?_, h⟩
    obtain ⟨b, hb, hv⟩ := (hev ▸ hr x x' (by simp [ho, Op.operands]) hx).loc_
    exact ⟨_, by simp only [execOp, ho, hv]; rfl, .loc hb⟩
  · rename_i xs hev
    refine ⟨_, good_pure fun base w0 E a w hh hr => ?_, h⟩
    obtain ⟨b, o', hv, hc⟩ := (hev ▸ hr x x' (by simp [ho, Op.operands]) hx).ptr_
    exact ⟨_, by simp only [execOp, ho, hv]; rfl, .ptr hc⟩
  · rename_i k s i f hev
    refine ⟨_, good_pure fun base w0 E a w hh hr => ?_, h⟩
    have hv := hev ▸ hr x x' (by simp [ho, Op.operands]) hx
    generalize hav : a.eval x = u at hv
    cases hv with
    | eptr hκ => exact ⟨_, by simp only [execOp, ho, hav]; rfl, .eptr hκ⟩
  · rename_i f cs hev
    refine ⟨_, good_pure fun base w0 E a w hh hr => ?_, h⟩
    have hv := hev ▸ hr x x' (by simp [ho, Op.operands]) hx
    generalize hav : a.eval x = u at hv
    cases hv with
    | clo hs hc => exact ⟨_, by simp only [execOp, ho, hav]; rfl, .clo hs hc⟩
  · exact h.elim
end
end Ab
