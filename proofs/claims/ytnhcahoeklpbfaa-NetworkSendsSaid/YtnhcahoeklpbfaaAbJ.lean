/- Single operations do what abstract code says: built values, calls; all of them together. No program. -/
import Derived.Test.YtnhcahoeklpbfaaAbI
import Derived.Laws.StructEq
set_option linter.unusedSimpArgs false
set_option linter.unusedVariables false
namespace Ab
open Go Go.RowKit

section
variable {P : Program} {ev : AX → AV} {H : List (List AV)} {O : List OwnD} {K : AV → Prop}

/-- Cells that stand for data. -/
def RepA (S : Nat → Nat → Prop) (w : World) (xs : List Atom) (arr : Array Value) : Prop :=
  arr.size = xs.length ∧ ∀ (j : Nat) (x : Atom) (u : Value), xs[j]? = some x → arr[j]? = some u → Rep S w x u

theorem fold_set (off : Nat) : ∀ (l : List Value) (k : Nat) (cs : Array Value) (p : Nat),
    ((l.zipIdx k).foldl (fun cs (x : Value × Nat) => cs.setIfInBounds (off + x.2) x.1) cs).size = cs.size ∧
    ((l.zipIdx k).foldl (fun cs (x : Value × Nat) => cs.setIfInBounds (off + x.2) x.1) cs)[p]? = if off + k ≤ p ∧ p < off + k + l.length ∧ p < cs.size then l[p - off - k]? else cs[p]?
  | [], k, cs, p => by
    refine ⟨rfl, ?_⟩
    rw [if_neg (by simp; omega)]
    rfl
  | v :: l, k, cs, p => by
    simp only [List.zipIdx_cons, List.foldl_cons]
    obtain ⟨h1, h2⟩ := fold_set off l (k + 1) (cs.setIfInBounds (off + k) v) p
    refine ⟨by rw [h1]; simp, ?_⟩
    rw [h2]
    simp only [Array.size_setIfInBounds, List.length_cons]
    by_cases hp : p = off + k
    · subst hp
      rw [if_neg (by omega)]
      by_cases hs : off + k < cs.size
      · rw [if_pos (by omega)]
        simp [hs]
      · rw [if_neg (by omega)]
        simp [hs]
    · by_cases hc : off + (k + 1) ≤ p ∧ p < off + (k + 1) + l.length ∧ p < cs.size
      · rw [if_pos hc, if_pos (by omega)]
        rw [show p - off - k = (p - off - (k + 1)) + 1 by omega, List.getElem?_cons_succ]
      · rw [if_neg hc, Array.getElem?_setIfInBounds_ne (by omega)]
        rw [if_neg (by omega)]

theorem fill_rep {base : Nat} {w0 : World} {E : Env} {w : World} (hh : Holds base w0 E w H O) {a : Act} {place : Nat → Option (Nat × Nat)} : ∀ {parts : List (Nat × Operand)} {ps : List (Nat × Nat × AX)} {xs ys : List Atom} {arr : Array Value},
    cParts place parts = some ps → (∀ p ∈ parts, ∀ y, cX p.2 = some y → RepV E w (ev y) (a.eval p.2)) → RepA E.S w xs arr → withs O (ps.map fun p => (p.1, p.2.1, ev p.2.2)) xs = some ys →
    ∃ arr', Instr.fill place arr (parts.map fun p => (p.1, a.eval p.2)) = some arr' ∧ RepA E.S w ys arr'
  | [], ps, xs, ys, arr, hp, hr, hx, hw => by
    simp [cParts] at hp; subst hp
    simp [withs] at hw; subst hw
    exact ⟨arr, rfl, hx⟩
  | (i, x) :: parts, ps, xs, ys, arr, hp, hr, hx, hw => by
    unfold cParts at hp
    split at hp
    · rename_i off n y ps' hpl hcx hps
      simp at hp; subst hp
      simp only [List.map_cons] at hw ⊢
      unfold withs at hw
      split at hw
      · rename_i cs hcs
        split at hw
        · rename_i hfit
          obtain ⟨hcl, hle⟩ := hfit
          obtain ⟨hs, hc⟩ := rep_cells hh (hr (i, x) (by simp) y hcx) hcs
          have hsz : (a.eval x).cells.size = n := by rw [hs]; exact hcl
          have hfold := fun p => fold_set off (a.eval x).cells.toList 0 arr p
          have hnew : RepA E.S w (xs.take off ++ cs ++ xs.drop (off + n)) (((a.eval x).cells.toList.zipIdx 0).foldl (fun cs (x : Value × Nat) => cs.setIfInBounds (off + x.2) x.1) arr) := by
            refine ⟨by rw [(hfold 0).1, hx.1]; simp; omega, fun j z u hj hu => ?_⟩
            rw [(hfold j).2] at hu
            simp only [Array.length_toList, Nat.add_zero, Nat.sub_zero] at hu
            by_cases h1 : j < off
            · rw [if_neg (by omega)] at hu
              rw [List.append_assoc, List.getElem?_append_left (by simp; omega), List.getElem?_take, if_pos h1] at hj
              exact hx.2 j z u hj hu
            · by_cases h2 : j < off + n
              · rw [if_pos (by rw [hx.1]; omega)] at hu
                rw [List.append_assoc, List.getElem?_append_right (by simp; omega), List.getElem?_append_left (by simp; omega)] at hj
                have e : j - (xs.take off).length = j - off := by rw [List.length_take]; omega
                rw [e] at hj
                exact hc (j - off) z u hj (by simpa using hu)
              · rw [if_neg (by omega)] at hu
                rw [List.append_assoc, List.getElem?_append_right (by simp; omega), List.getElem?_append_right (by simp; omega), List.getElem?_drop] at hj
                have e : off + n + (j - (xs.take off).length - cs.length) = j := by rw [List.length_take]; omega
                rw [e] at hj
                exact hx.2 j z u hj hu
          obtain ⟨arr', h1, h2⟩ := fill_rep hh hps (fun p hp y hy => hr p (by simp [hp]) y hy) hnew hw
          refine ⟨arr', ?_, h2⟩
          unfold Instr.fill
          simp only [hpl]
          have hno : ((a.eval x).cells.size ≠ n || off + (a.eval x).cells.size > arr.size) = false := by
            rw [hsz, hx.1]; simp; omega
          have efold : (a.eval x).cells.zipIdx.foldl (fun cs (x : Value × Nat) => cs.setIfInBounds (off + x.2) x.1) arr = ((a.eval x).cells.toList.zipIdx 0).foldl (fun cs (x : Value × Nat) => cs.setIfInBounds (off + x.2) x.1) arr := by
            rw [← Array.foldl_toList, Array.toList_zipIdx]
          rw [hno]
          simp only [Bool.false_eq_true, if_false]
          rw [← h1, ← efold]
        · cases hw
      · cases hw
    · cases hp

/-- Cells that stand for values with names. -/
def RepB0 (E : Env) (w : World) (cs : List AV) (arr : Array Value) : Prop :=
  arr.size = cs.length ∧ ∀ (j : Nat) (x : AV) (u : Value), cs[j]? = some x → arr[j]? = some u → RepV E w x u
theorem rep_cellsV {base : Nat} {w0 : World} {E : Env} {w : World} (hh : Holds base w0 E w H O) {x : AV} {v : Value} {ys : List AV} (h : RepV E w x v) (hx : cellsV O x = some ys) :
    v.cells.size = ys.length ∧ ∀ (j : Nat) (y : AV) (u : Value), ys[j]? = some y → v.cells[j]? = some u → RepV E w y u := by
  unfold cellsV at hx
  split at hx
  · rename_i xs hxs
    cases hx
    obtain ⟨h1, h2⟩ := rep_cells hh h hxs
    refine ⟨by simp [h1], fun j y u hj hu => ?_⟩
    rw [List.getElem?_map] at hj
    cases hz : xs[j]? with
    | none => rw [hz] at hj; simp at hj
    | some z => rw [hz] at hj; simp at hj; subst hj; exact .a (h2 j z u hz hu)
  · split at hx
    · cases hx
      obtain ⟨A, c, rfl⟩ := (rep_own hh h).form
      refine ⟨rfl, fun j y u hj hu => ?_⟩
      cases j with
      | zero => simp [Value.cells] at hj hu; subst hj; subst hu; exact h
      | succ j => simp at hj
    · cases hx

theorem fill_repV {base : Nat} {w0 : World} {E : Env} {w : World} (hh : Holds base w0 E w H O) {a : Act} {place : Nat → Option (Nat × Nat)} : ∀ {parts : List (Nat × Operand)} {ps : List (Nat × Nat × AX)} {xs ys : List AV} {arr : Array Value},
    cParts place parts = some ps → (∀ p ∈ parts, ∀ y, cX p.2 = some y → RepV E w (ev y) (a.eval p.2)) → RepB0 E w xs arr → withsV O (ps.map fun p => (p.1, p.2.1, ev p.2.2)) xs = some ys →
    ∃ arr', Instr.fill place arr (parts.map fun p => (p.1, a.eval p.2)) = some arr' ∧ RepB0 E w ys arr'
  | [], ps, xs, ys, arr, hp, hr, hx, hw => by
    simp [cParts] at hp; subst hp
    simp [withsV] at hw; subst hw
    exact ⟨arr, rfl, hx⟩
  | (i, x) :: parts, ps, xs, ys, arr, hp, hr, hx, hw => by
    unfold cParts at hp
    split at hp
    · rename_i off n y ps' hpl hcx hps
      simp at hp; subst hp
      simp only [List.map_cons] at hw ⊢
      unfold withsV at hw
      split at hw
      · rename_i cs hcs
        split at hw
        · rename_i hfit
          obtain ⟨hcl, hle⟩ := hfit
          obtain ⟨hs, hc⟩ := rep_cellsV hh (hr (i, x) (by simp) y hcx) hcs
          have hsz : (a.eval x).cells.size = n := by rw [hs]; exact hcl
          have hfold := fun p => fold_set off (a.eval x).cells.toList 0 arr p
          have hnew : RepB0 E w (xs.take off ++ cs ++ xs.drop (off + n)) (((a.eval x).cells.toList.zipIdx 0).foldl (fun cs (x : Value × Nat) => cs.setIfInBounds (off + x.2) x.1) arr) := by
            refine ⟨by rw [(hfold 0).1, hx.1]; simp; omega, fun j z u hj hu => ?_⟩
            rw [(hfold j).2] at hu
            simp only [Array.length_toList, Nat.add_zero, Nat.sub_zero] at hu
            by_cases h1 : j < off
            · rw [if_neg (by omega)] at hu
              rw [List.append_assoc, List.getElem?_append_left (by simp; omega), List.getElem?_take, if_pos h1] at hj
              exact hx.2 j z u hj hu
            · by_cases h2 : j < off + n
              · rw [if_pos (by rw [hx.1]; omega)] at hu
                rw [List.append_assoc, List.getElem?_append_right (by simp; omega), List.getElem?_append_left (by simp; omega)] at hj
                have e : j - (xs.take off).length = j - off := by rw [List.length_take]; omega
                rw [e] at hj
                exact hc (j - off) z u hj (by simpa using hu)
              · rw [if_neg (by omega)] at hu
                rw [List.append_assoc, List.getElem?_append_right (by simp; omega), List.getElem?_append_right (by simp; omega), List.getElem?_drop] at hj
                have e : off + n + (j - (xs.take off).length - cs.length) = j := by rw [List.length_take]; omega
                rw [e] at hj
                exact hx.2 j z u hj hu
          obtain ⟨arr', h1, h2⟩ := fill_repV hh hps (fun p hp y hy => hr p (by simp [hp]) y hy) hnew hw
          refine ⟨arr', ?_, h2⟩
          unfold Instr.fill
          simp only [hpl]
          have hno : ((a.eval x).cells.size ≠ n || off + (a.eval x).cells.size > arr.size) = false := by
            rw [hsz, hx.1]; simp; omega
          have efold : (a.eval x).cells.zipIdx.foldl (fun cs (x : Value × Nat) => cs.setIfInBounds (off + x.2) x.1) arr = ((a.eval x).cells.toList.zipIdx 0).foldl (fun cs (x : Value × Nat) => cs.setIfInBounds (off + x.2) x.1) arr := by
            rw [← Array.foldl_toList, Array.toList_zipIdx]
          rw [hno]
          simp only [Bool.false_eq_true, if_false]
          rw [← h1, ← efold]
        · cases hw
      · cases hw
    · cases hp

theorem built_of {t : TypeId} {i : TypeInfo} {z : Value} {place : Nat → Option (Nat × Nat)} (hi : P.info? t = some i) (hz : i.zero = some z) (hp : placesOf P t = some place) (parts : List (Nat × Value)) : P.built t parts = Instr.fill place z.cells parts := by
  unfold placesOf at hp
  unfold Program.built
  rw [hi]
  split at hp
  · rename_i n e hu
    rw [hu]
    cases he : P.info? e with
    | none => rw [he] at hp; simp at hp
    | some ie => rw [he] at hp; simp at hp; subst hp; simp [hz, he]
  · rename_i fs hu
    rw [hu]
    cases he : fs.toList.mapM (fun f => (P.info? f.type).map fun i => (f.offset, i.size)) with
    | none => rw [he] at hp; simp at hp
    | some places => rw [he] at hp; simp at hp; subst hp; simp [hz, he]
  · cases hp

theorem zero_rep {S : Nat → Nat → Prop} {w : World} {z : Value} {zs : List Atom} (h : mapO cAtom z.cells.toList = some zs) : RepA S w zs z.cells := by
  obtain ⟨h1, h2⟩ := mapO_spec h
  exact ⟨by simpa using h1.symm, fun j x u hj hu => cAtom_rep (h2 j x u hj (by simpa using hu))⟩

theorem good_build {o : Oper} {t : TypeId} {parts : Array (Nat × Operand)} {i : TypeInfo} {z : Value} {place : Nat → Option (Nat × Nat)} {zs cs : List Atom} {ps : List (Nat × Nat × AX)} (ho : o.op = .build t parts) (hi : P.info? t = some i) (hz : i.zero = some z) (hp : placesOf P t = some place)
    (hzs : mapO cAtom z.cells.toList = some zs) (hps : cParts place parts.toList = some ps) (hcs : withs O (ps.map fun p => (p.1, p.2.1, ev p.2.2)) zs = some cs) : Good P o ev H O (.agg cs) :=
  good_pure fun base w0 E a w hh hr => by
    obtain ⟨arr, h1, h2, h3⟩ := fill_rep hh hps (fun p hp y hy => hr p.2 y (by
      simp only [ho, Op.operands]
      simp only [List.mem_toArray, List.mem_map]
      exact ⟨p, hp, rfl⟩) hy) (zero_rep hzs) hcs
    refine ⟨.agg arr, ?_, .agg h2 h3⟩
    have hb : P.built t (parts.map fun (i, x) => (i, a.eval x)).toList = some arr := by
      rw [built_of hi hz hp]
      simpa using h1
    simp only [execOp, ho, Sem.run_bind, run_build w t _ arr hb, Result.andThen_ok, Sem.run_pure]

theorem good_buildV {o : Oper} {t : TypeId} {parts : Array (Nat × Operand)} {i : TypeInfo} {z : Value} {place : Nat → Option (Nat × Nat)} {zs : List Atom} {cs : List AV} {ps : List (Nat × Nat × AX)} (ho : o.op = .build t parts) (hi : P.info? t = some i) (hz : i.zero = some z) (hp : placesOf P t = some place)
    (hzs : mapO cAtom z.cells.toList = some zs) (hps : cParts place parts.toList = some ps) (hcs : withsV O (ps.map fun p => (p.1, p.2.1, ev p.2.2)) (zs.map .a) = some cs) : Good P o ev H O (.mix cs) :=
  good_pure fun base w0 E a w hh hr => by
    obtain ⟨q1, q2⟩ := zero_rep (S := E.S) (w := w) hzs
    have hz0 : RepB0 E w (zs.map .a) z.cells := ⟨by simp [q1], fun j x u hj hu => by
      rw [List.getElem?_map] at hj
      cases hy : zs[j]? with
      | none => rw [hy] at hj; simp at hj
      | some y => rw [hy] at hj; simp at hj; subst hj; exact .a (q2 j y u hy hu)⟩
    obtain ⟨arr, h1, h2, h3⟩ := fill_repV hh hps (fun p hp y hy => hr p.2 y (by
      simp only [ho, Op.operands]
      simp only [List.mem_toArray, List.mem_map]
      exact ⟨p, hp, rfl⟩) hy) hz0 hcs
    refine ⟨.agg arr, ?_, .mix h2 h3⟩
    have hb : P.built t (parts.map fun (i, x) => (i, a.eval x)).toList = some arr := by
      rw [built_of hi hz hp]
      simpa using h1
    simp only [execOp, ho, Sem.run_bind, run_build w t _ arr hb, Result.andThen_ok, Sem.run_pure]

theorem cParts_seq {sz : Nat} : ∀ {parts : List (Nat × Operand)} {ys : List AX} {k : Nat}, parts.map (·.1) = List.range' k parts.length → mapO (fun p : Nat × Operand => cX p.2) parts = some ys →
    cParts (fun i => some (i * sz, sz)) parts = some ((ys.zipIdx k).map fun p => (p.2 * sz, sz, p.1))
  | [], ys, k, _, h => by simp [mapO] at h; subst h; simp [cParts]
  | (i, x) :: parts, ys, k, hk, h => by
    unfold mapO at h
    split at h
    · rename_i y ys' hy hys
      simp at h; subst h
      simp only [List.map_cons, List.length_cons, List.range'_succ, List.cons.injEq] at hk
      obtain ⟨rfl, hk⟩ := hk
      have := cParts_seq (sz := sz) hk hys
      unfold cParts
      simp only [hy] at *
      simp [this]
    · cases h

theorem withs_seq {sz : Nat} : ∀ {ys : List AX} {rows : List (List Atom)} {k : Nat} {xs : List Atom}, rowsMade O sz (ys.map ev) = some rows → xs.length = (k + ys.length) * sz →
    withs O (((ys.zipIdx k).map fun p => (p.2 * sz, sz, p.1)).map fun p => (p.1, p.2.1, ev p.2.2)) xs = some (xs.take (k * sz) ++ rows.flatten)
  | [], rows, k, xs, h, hl => by
    simp [rowsMade] at h; subst h
    simp only [List.length_nil, Nat.add_zero] at hl
    simp [withs, ← hl]
  | y :: ys, rows, k, xs, h, hl => by
    simp only [List.map_cons] at h
    unfold rowsMade at h
    split at h
    · rename_i r rs hr hrs
      split at h
      · rename_i hrl
        simp at h; subst h
        simp only [List.length_cons] at hl
        have h1 : k * sz + sz ≤ xs.length := by
          rw [hl, ← Nat.succ_mul]; exact Nat.mul_le_mul_right _ (by omega)
        simp only [List.zipIdx_cons, List.map_cons]
        unfold withs
        simp only [hr]
        rw [if_pos ⟨hrl, h1⟩]
        have := withs_seq (k := k + 1) (xs := xs.take (k * sz) ++ r ++ xs.drop (k * sz + sz)) hrs (by
          rw [List.length_append, List.length_append, List.length_take, List.length_drop, hrl, hl]
          have : (k + 1 + ys.length) * sz = (k + (ys.length + 1)) * sz := by congr 1; omega
          rw [this, ← hl]; omega)
        rw [this]
        congr 1
        rw [List.flatten_cons, ← List.append_assoc]
        congr 1
        rw [List.take_append_of_le_length (by simp [hrl, Nat.succ_mul]; omega), List.take_of_length_le (by simp [hrl, Nat.succ_mul]; omega)]
      · cases h
    · cases h

theorem rowsMade_len {sz : Nat} : ∀ {l : List AV} {rows : List (List Atom)}, rowsMade O sz l = some rows → rows.length = l.length ∧ ∀ (i : Nat) (r : List Atom), rows[i]? = some r → r.length = sz
  | [], rows, h => by simp [rowsMade] at h; subst h; simp
  | x :: l, rows, h => by
    unfold rowsMade at h
    split at h
    · rename_i r rs hr hrs
      split at h
      · rename_i hrl
        simp at h; subst h
        obtain ⟨h1, h2⟩ := rowsMade_len hrs
        refine ⟨by simp [h1], fun i r' hi => ?_⟩
        cases i with
        | zero => simp at hi; subst hi; exact hrl
        | succ i => simp at hi; exact h2 i r' hi
      · cases h
    · cases h

theorem flatten_get {sz : Nat} : ∀ {rows : List (List Atom)}, (∀ (i : Nat) (r : List Atom), rows[i]? = some r → r.length = sz) → ∀ (i : Nat) (r : List Atom) (j : Nat) (x : Atom), rows[i]? = some r → r[j]? = some x → rows.flatten[i * sz + j]? = some x
  | [], _, i, r, j, x, hi, _ => by simp at hi
  | r0 :: rows, h, i, r, j, x, hi, hj => by
    have h0 := h 0 r0 rfl
    rw [List.flatten_cons]
    cases i with
    | zero =>
      simp at hi; subst hi
      have hlt : j < r0.length := (List.getElem?_eq_some_iff.1 hj).1
      rw [List.getElem?_append_left (by omega)]
      simpa using hj
    | succ i =>
      simp at hi
      rw [List.getElem?_append_right (by rw [h0, Nat.succ_mul]; omega)]
      have e : (i + 1) * sz + j - r0.length = i * sz + j := by rw [h0, Nat.succ_mul]; omega
      rw [e]
      exact flatten_get (fun i r hi => h (i + 1) r (by simpa using hi)) i r j x hi hj

theorem flatten_len {sz : Nat} : ∀ {rows : List (List Atom)}, (∀ (i : Nat) (r : List Atom), rows[i]? = some r → r.length = sz) → rows.flatten.length = rows.length * sz
  | [], _ => by simp
  | r0 :: rows, h => by
    rw [List.flatten_cons, List.length_append, h 0 r0 rfl, flatten_len (fun i r hi => h (i + 1) r (by simpa using hi)), List.length_cons, Nat.succ_mul]; omega

theorem good_buildSlice {o : Oper} {t e : TypeId} {len : Nat} {parts : Array (Nat × Operand)} {i : TypeInfo} {z : Value} {zs : List Atom} {ys : List AX} {rows : List (List Atom)} (ho : o.op = .buildSlice t len parts) (hu : P.underlying t = some (.slice e)) (hi : P.info? e = some i) (hz : i.zero = some z)
    (hzs : mapO cAtom z.cells.toList = some zs) (hys : mapO (fun p : Nat × Operand => cX p.2) parts.toList = some ys) (hix : parts.toList.map (·.1) = List.range len) (hzl : z.cells.size = i.size) (hpos : 0 < i.size) (hfit : len * i.size ≤ 2 ^ 24)
    (hrows : rowsMade O i.size (ys.map ev) = some rows) (lit : Bool) : Good P o ev H O (litV lit i.size rows) := by
  intro base w0 E a w hh hr K Q hk
  have hlp : parts.toList.length = len := by have := congrArg List.length hix; simpa using this
  have hyl : ys.length = len := by rw [← hlp]; exact (mapO_spec hys).1
  obtain ⟨hrl, hrs⟩ := rowsMade_len hrows
  have hrl : rows.length = len := by rw [hrl, List.length_map, hyl]
  have hc := cParts_seq (sz := i.size) (k := 0) (by rw [hix, hlp, List.range_eq_range']) hys
  have hzsl : zs.length = i.size := by rw [(mapO_spec hzs).1]; simpa using hzl
  have hw := withs_seq (ev := ev) (O := O) (k := 0) (xs := (List.range (len * i.size)).map fun q => zs.getD (q % i.size) default) hrows (by simp [hyl])
  obtain ⟨arr, h1, h2, h3⟩ := fill_rep hh hc (arr := (Array.range (len * i.size)).map (z.cells[· % z.cells.size]!)) (fun p hp y hy => hr p.2 y (by
    simp only [ho, Op.operands]
    simp only [List.mem_toArray, List.mem_map]
    exact ⟨p, hp, rfl⟩) hy) (by
      refine ⟨by simp, fun j x u hj hu => ?_⟩
      have hjl : j < len * i.size := by have := (List.getElem?_eq_some_iff.1 hj).1; simpa using this
      simp [hjl] at hj hu
      have hm : j % i.size < i.size := Nat.mod_lt _ hpos
      rw [hzl] at hu
      have hm' : j % i.size < z.cells.size := by omega
      have hm2 : j % i.size < zs.length := by omega
      refine (zero_rep hzs).2 (j % i.size) x u ?_ ?_
      · rw [List.getElem?_eq_getElem hm2] at hj ⊢; simpa using hj
      · rw [← hu]; simp [hm']) hw
  simp only [Nat.zero_mul, List.take_zero, List.nil_append] at h2 h3
  have hal : arr.size = len * i.size := by rw [h2, flatten_len hrs, hrl]
  have hrun : (execOp a.eval o).run P w = .ok (.value (.slice (some ⟨w.heap.size, 0, none⟩) len len)) (w.alloc (.cells arr e)) := by
    have hfit' : ¬ len * i.size > 2 ^ 24 := by omega
    have hsz : sizeAt P e = some i.size := by simp [sizeAt, hi]
    have h1' : Instr.fill (fun x => some (x * i.size, i.size)) (Array.map (fun x => z.cells[x % z.cells.size]!) (Array.range (len * i.size))) (List.map (fun p : Nat × Operand => (p.fst, a.eval p.snd)) parts.toList) = some arr := h1
    have hnew : ∀ cs : Array Value, (newRow e cs).run P w = .ok ⟨w.heap.size, 0, none⟩ (w.alloc (.cells cs e)) := fun _ => rfl
    have e1 : (Array.map (fun x => (x.fst, a.eval x.snd)) parts).toList = List.map (fun p : Nat × Operand => (p.fst, a.eval p.snd)) parts.toList := by simp
    simp only [execOp, ho, Sem.run_bind, Instr.buildSlice, run_under hu, Result.andThen_ok, run_size hsz, hfit', if_false]
    by_cases h0 : len * i.size = 0
    · have hl0 : len = 0 := by
        rcases Nat.mul_eq_zero.1 h0 with h | h
        · exact h
        · omega
      have hp0 : parts.toList = [] := List.eq_nil_of_length_eq_zero (by omega)
      have ha0 : arr = #[] := by apply Array.eq_empty_of_size_eq_zero; omega
      have e2 : (Array.map (fun x : Nat × Operand => (x.fst, a.eval x.snd)) parts).toList = [] := by rw [e1, hp0]; rfl
      subst ha0
      have e3 : Array.range 0 = #[] := rfl
      subst hl0
      simp only [Nat.zero_mul, if_true, Sem.run_bind, Sem.run_pure, Result.andThen_ok, e2, Instr.fill, e3, Array.map_empty, hnew]
    · simp only [h0, if_false, zeroValue, Sem.run_bind, run_info hi, Result.andThen_ok, hz, Sem.run_pure, e1, h1', hnew]
  obtain ⟨hg, hx⟩ := hh.grow arr e
  refine wp_value hrun (hk _ _ _ hg hx (fun g o h => ?_) (show RepV _ _ (litV lit i.size rows) (.slice (some ⟨w.heap.size, 0, none⟩) len len) from ?_))
  · rcases h with h | ⟨rfl, _⟩
    · exact .inl h
    · exact .inr (Nat.le_trans hh.hb hh.below.size)
  · have hrep : Rep (fun g o => E.S g o ∨ (g = w.heap.size ∧ o < arr.size)) (w.alloc (.cells arr e)) (.slice i.size rows) (.slice (some ⟨w.heap.size, 0, none⟩) len len) := ?_
    · cases lit with
      | true => exact .full hrep
      | false => exact .a hrep
    rw [← hrl]
    have hb24 : len ≤ 2 ^ 24 := Nat.le_trans (Nat.le_mul_of_pos_right _ hpos) hfit
    refine .slice i.size rows w.heap.size 0 rows.length (fun q => arr.getD q Go.undef) (by omega) (Nat.le_refl _) (by simp only [maxLen]; omega) hrs (fun q r j x hq hj => ?_) (fun q r j x hq hj => ?_)
    · have hf := flatten_get hrs q r j x hq hj
      have hlt : q * i.size + j < arr.size := by rw [h2]; exact (List.getElem?_eq_some_iff.1 hf).1
      rw [Nat.zero_add]
      refine ⟨.inr ⟨rfl, hlt⟩, ?_⟩
      rw [cell_of_row _ _ _ arr e (0, 0) (heap_alloc_new w _)]
      simp [hlt]
    · have hf := flatten_get hrs q r j x hq hj
      have hlt : q * i.size + j < arr.size := by rw [h2]; exact (List.getElem?_eq_some_iff.1 hf).1
      have := h3 (q * i.size + j) x arr[q * i.size + j] hf (by simp [hlt])
      simpa [hlt] using this.mono hx.S hx.cell

/-- The value whose cells these are. -/
def valOf (P : Program) (t : TypeId) (arr : Array Value) : Value := match P.underlying t with | some (.struct _) | some (.array _ _) => .agg arr | _ => arr.getD 0 Go.undef

theorem eqShape_len : ∀ {n : Nat} {t : TypeId} {ks : List Nat}, eqShape P n t = some ks → sizeAt P t = some ks.length
  | 0, t, ks, h => by simp [eqShape] at h
  | n + 1, t, ks, h => by
    simp only [eqShape] at h
    split at h
    · split at h <;> simp at h; subst h; assumption
    · split at h <;> simp at h; subst h; assumption
    · split at h <;> simp at h; subst h; assumption
    · split at h
      · split at h
        · rename_i hs; simp at h; subst h; exact hs.1
        · cases h
      · cases h
    · split at h
      · split at h
        · rename_i hs; injection h with h; subst h; rw [List.length_replicate]; exact hs.2.2
        · cases h
      · cases h
    · cases h

theorem atomsEq_split : ∀ {ks ks' : List Nat} {xs ys : List Atom} {r : Bool}, atomsEq (ks ++ ks') xs ys = some r → ∃ a b, atomsEq ks (xs.take ks.length) (ys.take ks.length) = some a ∧ atomsEq ks' (xs.drop ks.length) (ys.drop ks.length) = some b ∧ r = (a && b)
  | [], ks', xs, ys, r, h => ⟨true, r, by simp [atomsEq], by simpa using h, by simp⟩
  | k :: ks, ks', xs, ys, r, h => by
    cases xs with
    | nil => simp [atomsEq] at h
    | cons x xs =>
      cases ys with
      | nil => simp [atomsEq] at h
      | cons y ys =>
        simp only [List.cons_append, atomsEq] at h
        split at h
        · rename_i a b ha hb
          obtain ⟨a', b', h1, h2, h3⟩ := atomsEq_split hb
          simp at h; subst h
          refine ⟨a && a', b', ?_, by simpa using h2, by rw [h3, Bool.and_assoc]⟩
          simp [atomsEq, ha, h1]
        · cases h

theorem atomsEq_len : ∀ {ks : List Nat} {xs ys : List Atom} {r : Bool}, atomsEq ks xs ys = some r → xs.length = ks.length ∧ ys.length = ks.length
  | [], [], [], r, h => by simp
  | [], x :: xs, ys, r, h => by simp [atomsEq] at h
  | [], [], y :: ys, r, h => by simp [atomsEq] at h
  | k :: ks, [], ys, r, h => by simp [atomsEq] at h
  | k :: ks, x :: xs, [], r, h => by simp [atomsEq] at h
  | k :: ks, x :: xs, y :: ys, r, h => by
    simp only [atomsEq] at h
    split at h
    · rename_i a b ha hb
      obtain ⟨h1, h2⟩ := atomsEq_len hb
      simp [h1, h2]
    · cases h

theorem kindEq0 {x y : Atom} {r : Bool} (h : kindEq 0 x y = some r) : ∃ a b, x = .bool a ∧ y = .bool b ∧ r = (a == b) := by
  cases x <;> cases y <;> simp [kindEq] at h
  exact ⟨_, _, rfl, rfl, h.symm⟩
theorem kindEq1 {x y : Atom} {r : Bool} (h : kindEq 1 x y = some r) : ∃ k a b, x = .int k a ∧ y = .int k b ∧ r = (a == b) := by
  cases x <;> cases y <;> simp [kindEq] at h
  obtain ⟨rfl, h⟩ := h
  exact ⟨_, _, _, rfl, rfl, h.symm⟩
theorem kindEq2 {x y : Atom} {r : Bool} (h : kindEq 2 x y = some r) : ∃ a b, x = .str a ∧ y = .str b ∧ r = (a.toList == b.toList) := by
  cases x <;> cases y <;> simp [kindEq] at h
  exact ⟨_, _, rfl, rfl, h.symm⟩

theorem eqShape_under {n : Nat} {t : TypeId} {ks : List Nat} (h : eqShape P n t = some ks) : ∃ d, P.underlying t = some d ∧ (isAggD d = false → ks.length = 1) := by
  cases n with
  | zero => simp [eqShape] at h
  | succ n =>
    simp only [eqShape] at h
    split at h
    · rename_i hu; split at h <;> simp at h; subst h; exact ⟨_, hu, fun _ => rfl⟩
    · rename_i hu; split at h <;> simp at h; subst h; exact ⟨_, hu, fun _ => rfl⟩
    · rename_i hu; split at h <;> simp at h; subst h; exact ⟨_, hu, fun _ => rfl⟩
    · rename_i hu; exact ⟨_, hu, fun h => by simp [isAggD] at h⟩
    · rename_i hu; exact ⟨_, hu, fun h => by simp [isAggD] at h⟩
    · cases h

theorem run_part_val {w : World} {t : TypeId} {n : Nat} (hs : sizeAt P t = some n) (hd : ∃ d, P.underlying t = some d ∧ (isAggD d = false → n = 1)) (cs : Array Value) (off : Nat) (h : off + n ≤ cs.size) : (part t cs off).run P w = .ok (valOf P t (cs.extract off (off + n))) w := by
  obtain ⟨d, hu, h1⟩ := hd
  simp only [part, Sem.run_bind, run_agg hu, Result.andThen_ok]
  cases ha : isAggD d with
  | true =>
    have hv : valOf P t (cs.extract off (off + n)) = .agg (cs.extract off (off + n)) := by
      unfold valOf; rw [hu]
      cases d <;> simp [isAggD] at ha <;> rfl
    simp only [if_true, Sem.run_bind, run_size hs, Result.andThen_ok, Sem.run_pure, hv]
  | false =>
    have hn := h1 ha
    subst hn
    have hlt : off < cs.size := by omega
    have hv : valOf P t (cs.extract off (off + 1)) = cs[off] := by
      unfold valOf; rw [hu]
      have e : (cs.extract off (off + 1)).getD 0 Go.undef = cs[off] := by
        rw [Array.getD_eq_getD_getElem?, Array.getElem?_extract, if_pos (by omega)]
        simp [hlt]
      cases d <;> simp [isAggD] at ha <;> exact e
    have hg : cs[off]? = some cs[off] := by simp [hlt]
    simp only [Bool.false_eq_true, if_false, hg, Sem.run_pure, hv]

theorem RepA.part {S : Nat → Nat → Prop} {w : World} {as : List Atom} {xs : Array Value} (h : RepA S w as xs) {off n : Nat} (hn : off + n ≤ as.length) : RepA S w ((as.drop off).take n) (xs.extract off (off + n)) := by
  obtain ⟨hs, h⟩ := h
  refine ⟨by simp; omega, fun j x u hj hu => ?_⟩
  rw [List.getElem?_take] at hj
  split at hj
  · rename_i hjn
    rw [List.getElem?_drop] at hj
    refine h (off + j) x u hj ?_
    rw [Array.getElem?_extract] at hu
    split at hu
    · exact hu
    · cases hu
  · cases hj

theorem eq_fields {S : Nat → Nat → Prop} {w : World} {n d : Nat}
    (ih : ∀ (t : TypeId) (ks : List Nat) (as bs : List Atom) (xs ys : Array Value) (r : Bool), eqShape P n t = some ks → RepA S w as xs → RepA S w bs ys → atomsEq ks as bs = some r → (Op.equalIn d t (valOf P t xs) (valOf P t ys)).run P w = .ok r w)
    (as bs : List Atom) (xs ys : Array Value) (hx : RepA S w as xs) (hy : RepA S w bs ys) : ∀ (fs : List Field) (off : Nat) (ks : List Nat) (r : Bool), eqFieldsShape (eqShape P n) off fs = some ks → atomsEq ks (as.drop off) (bs.drop off) = some r →
      (Op.eqFields d xs ys fs).run P w = .ok r w
  | [], off, ks, r, h, hr => by
    simp [eqFieldsShape] at h; subst h
    have : r = true := by
      cases h1 : as.drop off <;> cases h2 : bs.drop off <;> rw [h1, h2] at hr <;> simp [atomsEq] at hr
      exact hr
    subst this
    simp [Op.eqFields]
  | f :: fs, off, ks, r, h, hr => by
    simp only [eqFieldsShape] at h
    split at h
    · rename_i hf
      split at h
      · rename_i k ks1 h1
        split at h
        · rename_i ks2 h2
          injection h with h
          subst h
          obtain ⟨a, b, ha, hb, rfl⟩ := atomsEq_split hr
          have hlen := eqShape_len h1
          have hund := eqShape_under h1
          obtain ⟨l1, l2⟩ := atomsEq_len ha
          have hpos : 0 < (k :: ks1).length := by simp
          generalize (k :: ks1) = K1 at *
          rw [List.length_take, List.length_drop] at l1 l2
          have hxl : off + K1.length ≤ as.length := by omega
          have hyl : off + K1.length ≤ bs.length := by omega
          have p1 := run_part_val (P := P) (w := w) hlen hund xs off (by rw [hx.1]; exact hxl)
          have p2 := run_part_val (P := P) (w := w) hlen hund ys off (by rw [hy.1]; exact hyl)
          have e1 := ih f.type K1 _ _ _ _ a h1 (hx.part hxl) (hy.part hyl) ha
          have e2 := eq_fields ih as bs xs ys hx hy fs (off + K1.length) ks2 b h2 (by rw [List.drop_drop] at hb; rw [List.drop_drop] at hb; exact hb)
          have hn : f.name ≠ "_" := hf.2
          simp only [Op.eqFields, ne_eq, hn, not_false_eq_true, if_true, Sem.run_bind, hf.1, p1, p2, Result.andThen_ok, e1]
          cases a
          · simp
          · simpa using e2
        · cases h
      · cases h
    · cases h

theorem run_all {w : World} {α σ : Type} (b : α → Bool) (s0 s1 : σ) (f : α → σ → Sem (ForInStep σ)) : ∀ (l : List α), (∀ a ∈ l, (f a s0).run P w = .ok (if b a then .yield s0 else .done s1) w) →
    (forIn (m := Sem) l s0 f).run P w = .ok (if l.all b then s0 else s1) w
  | [], _ => by simp [Sem.run_pure]
  | a :: l, h => by
    have h0 := h a (by simp)
    have ih := run_all b s0 s1 f l fun x hx => h x (by simp [hx])
    simp only [List.forIn_cons, Sem.run_bind, h0, Result.andThen_ok]
    cases hb : b a
    · simp [Sem.run_pure, hb]
    · simp only [if_true, ih, List.all_cons, hb, Bool.true_and]
theorem run_equalIn_array {w : World} (d len : Nat) (t e : TypeId) (xs ys : Array Value) (b : Nat → Bool) (ht : P.underlying t = some (.array len e)) (hs : sizeAt P e = some 1)
    (h : ∀ i, i < len → ∃ x y, (part e xs (i * 1)).run P w = .ok x w ∧ (part e ys (i * 1)).run P w = .ok y w ∧ (Op.equalIn d e x y).run P w = .ok (b i) w) :
    (Op.equalIn (d + 1) t (.agg xs) (.agg ys)).run P w = .ok ((List.range len).all b) w := by
  simp only [Op.equalIn, Sem.run_bind, run_under ht, Result.andThen_ok, run_size hs]
  simp only [Std.Legacy.Range.forIn_eq_forIn_range', Std.Legacy.Range.size, Nat.sub_zero, Nat.add_one_sub_one, Nat.div_one]
  rw [run_all b (none, ()) (some false, ()) _ (List.range' 0 len) (fun i hi => by
    obtain ⟨x, y, h1, h2, h3⟩ := h i (by simpa using hi)
    simp only [Sem.run_bind, h1, h2, h3, Result.andThen_ok]
    cases b i <;> simp [Sem.run_pure])]
  rw [← List.range_eq_range']
  simp only [Result.andThen_ok]
  cases (List.range len).all b <;> simp [Sem.run_pure]
theorem atomsEq_rep {k : Nat} : ∀ {n : Nat} {as bs : List Atom} {r : Bool}, atomsEq (List.replicate n k) as bs = some r → ∃ b : Nat → Bool, (∀ i, i < n → kindEq k (as.getD i default) (bs.getD i default) = some (b i)) ∧ r = (List.range n).all b
  | 0, as, bs, r, h => by
    have : r = true := by
      cases as <;> cases bs <;> simp [atomsEq] at h
      exact h
    exact ⟨fun _ => true, fun i hi => absurd hi (Nat.not_lt_zero _), by simp [this]⟩
  | n + 1, [], bs, r, h => by simp [List.replicate_succ, atomsEq] at h
  | n + 1, a :: as, [], r, h => by simp [List.replicate_succ, atomsEq] at h
  | n + 1, a :: as, c :: bs, r, h => by
    rw [List.replicate_succ] at h
    simp only [atomsEq] at h
    split at h
    · rename_i p q hp hq
      obtain ⟨b, h1, h2⟩ := atomsEq_rep hq
      refine ⟨fun i => match i with | 0 => p | i + 1 => b i, fun i hi => ?_, ?_⟩
      · cases i with
        | zero => exact hp
        | succ i => simpa using h1 i (by omega)
      · simp only [Option.some.injEq] at h
        rw [← h, h2, List.range_succ_eq_map, List.all_cons, List.all_map]
        rfl
    · cases h

theorem eq_run {S : Nat → Nat → Prop} {w : World} : ∀ {n d : Nat} {t : TypeId} {ks : List Nat} {as bs : List Atom} {xs ys : Array Value} {r : Bool}, n ≤ d → eqShape P n t = some ks → RepA S w as xs → RepA S w bs ys → atomsEq ks as bs = some r →
    (Op.equalIn d t (valOf P t xs) (valOf P t ys)).run P w = .ok r w
  | 0, d, t, ks, as, bs, xs, ys, r, _, h, _, _, _ => by simp [eqShape] at h
  | n + 1, 0, t, ks, as, bs, xs, ys, r, hd, _, _, _, _ => by omega
  | n + 1, d + 1, t, ks, as, bs, xs, ys, r, hd, h, hx, hy, hr => by
    simp only [eqShape] at h
    have one : ∀ {k : Nat}, atomsEq [k] as bs = some r → ∃ x y u v, as = [x] ∧ bs = [y] ∧ xs.getD 0 Go.undef = u ∧ ys.getD 0 Go.undef = v ∧ Rep S w x u ∧ Rep S w y v ∧ kindEq k x y = some r := by
      intro k hk
      obtain ⟨l1, l2⟩ := atomsEq_len hk
      match as, bs, l1, l2 with
      | [x], [y], _, _ =>
        have s1 : xs.size = 1 := hx.1
        have s2 : ys.size = 1 := hy.1
        refine ⟨x, y, xs[0], ys[0], rfl, rfl, by simp [s1], by simp [s2], hx.2 0 x _ rfl (by simp [s1]), hy.2 0 y _ rfl (by simp [s2]), ?_⟩
        simp only [atomsEq] at hk
        split at hk
        · rename_i a b ha hb
          simp at hb; subst hb
          simp at hk; subst hk
          exact ha
        · cases hk
    split at h
    · rename_i hu
      split at h <;> simp at h
      subst h
      obtain ⟨x, y, u, v, _, _, e1, e2, r1, r2, hk⟩ := one hr
      simp only [valOf, hu, e1, e2]
      obtain ⟨a, b, rfl, rfl, rfl⟩ := kindEq0 hk
      cases r1; cases r2
      simp [Op.equalIn, Sem.run_bind, run_under hu]
    · rename_i k hu
      split at h <;> simp at h
      subst h
      obtain ⟨x, y, u, v, _, _, e1, e2, r1, r2, hk⟩ := one hr
      simp only [valOf, hu, e1, e2]
      obtain ⟨k', a, b, rfl, rfl, rfl⟩ := kindEq1 hk
      cases r1; cases r2
      simp [Op.equalIn, Sem.run_bind, run_under hu]
    · rename_i hu
      split at h <;> simp at h
      subst h
      obtain ⟨x, y, u, v, _, _, e1, e2, r1, r2, hk⟩ := one hr
      simp only [valOf, hu, e1, e2]
      obtain ⟨a, b, rfl, rfl, rfl⟩ := kindEq2 hk
      cases r1; cases r2
      exact run_equalIn_string w d t a b hu
    · rename_i fs hu
      split at h
      · rename_i ks' hks
        split at h
        · rename_i hs
          injection h with h
          subst h
          simp only [valOf, hu]
          have ht : P.underlying t = some (.struct (P.fieldsOf t)) := by simp [Program.fieldsOf, hu]
          have hfs : P.fieldsOf t = fs := by simp [Program.fieldsOf, hu]
          rw [run_equalIn_struct w d t xs ys ht hs.2, hfs]
          exact eq_fields (fun t ks as bs xs ys r h1 h2 h3 h4 => eq_run (by omega) h1 h2 h3 h4) as bs xs ys hx hy fs.toList 0 _ r hks (by simpa using hr)
        · cases h
      · cases h
    · rename_i len e hu
      split at h
      · rename_i ks1 hk
        split at h
        · rename_i hs
          injection h with h
          subst h
          simp only [valOf, hu]
          generalize ks1.headD 0 = k at hs hr
          obtain ⟨hk1, hs⟩ := hs
          subst hk1
          obtain ⟨b, hb, rfl⟩ := atomsEq_rep hr
          obtain ⟨l1, l2⟩ := atomsEq_len hr
          rw [List.length_replicate] at l1 l2
          have hund := eqShape_under hk
          refine run_equalIn_array d len t e xs ys b hu hs.1 fun i hi => ?_
          have p1 := run_part_val (P := P) (w := w) hs.1 hund xs (i * 1) (by rw [hx.1]; omega)
          have p2 := run_part_val (P := P) (w := w) hs.1 hund ys (i * 1) (by rw [hy.1]; omega)
          refine ⟨_, _, p1, p2, eq_run (n := n) (d := d) (by omega) hk (hx.part (by omega)) (hy.part (by omega)) ?_⟩
          have hi1 : i < as.length := by omega
          have hi2 : i < bs.length := by omega
          have e1 : (as.drop (i * 1)).take 1 = [as.getD i default] := by
            rw [Nat.mul_one, List.drop_eq_getElem_cons hi1, List.take_succ_cons, List.take_zero, List.getD_eq_getElem?_getD, List.getElem?_eq_getElem hi1]
            rfl
          have e2 : (bs.drop (i * 1)).take 1 = [bs.getD i default] := by
            rw [Nat.mul_one, List.drop_eq_getElem_cons hi2, List.take_succ_cons, List.take_zero, List.getD_eq_getElem?_getD, List.getElem?_eq_getElem hi2]
            rfl
          rw [e1, e2]
          have hki := hb i hi
          simp only [atomsEq, hki, Bool.and_true]
        · cases h
      · cases h
    · cases h

theorem good_eqAgg {o : Oper} {op : BinOp} {t t' : TypeId} {x y : Operand} {x' y' : AX} {as bs : List Atom} {ks : List Nat} {b : Bool} (neg : Bool) (ho : o.op = .binOp op t x y t') (hop : op = if neg then .neq else .eql) (hx : cX x = some x') (hy : cX y = some y') (hst : structT P t = true) (hks : eqShape P 20 t = some ks)
    (ha : ev x' = .agg as) (hb : ev y' = .agg bs) (he : atomsEq ks as bs = some b) : Good P o ev H O (.a (.bool (if neg then !b else b))) :=
  good_pure fun base w0 E a w hh hr => ⟨_, by
    obtain ⟨xs, h1, h2, h3⟩ := (ha ▸ hr x x' (by simp [ho, Op.operands]) hx).agg_
    obtain ⟨ys, k1, k2, k3⟩ := (hb ▸ hr y y' (by simp [ho, Op.operands]) hy).agg_
    have hv : (∀ arr, valOf P t arr = .agg arr) ∧ P.eqGuardType P.depth t = false := by
      unfold structT at hst
      split at hst
      · rename_i hu
        exact ⟨fun arr => by unfold valOf; rw [hu], by simpa using hst⟩
      · rename_i hu
        exact ⟨fun arr => by unfold valOf; rw [hu], by simpa using hst⟩
      · cases hst
    obtain ⟨hv, hgt⟩ := hv
    have he' : (Op.equal t (.agg xs) (.agg ys)).run P w = .ok b w := by
      have := eq_run (S := E.S) (w := w) (n := 20) (d := 10000) (by omega) hks ⟨h2, h3⟩ ⟨k2, k3⟩ he
      rw [hv, hv] at this
      exact this
    have hguard : (eqGuard op t x y (.agg xs) (.agg ys)).run P w = .ok () w := by
      have hp : (program).run P w = .ok P w := rfl
      cases neg <;> simp only [Bool.false_eq_true, if_false, if_true] at hop <;> subst hop <;> simp [eqGuard, Sem.run_bind, hp, hgt]
    cases neg
    · simp only [Bool.false_eq_true, if_false] at hop; subst hop
      simp only [execOp, ho, h1, k1, Sem.run_bind, hguard, Result.andThen_ok, Go.binOp, he', Sem.run_pure]
      rfl
    · simp only [if_true] at hop; subst hop
      simp only [execOp, ho, h1, k1, Sem.run_bind, hguard, Result.andThen_ok, Go.binOp, he', Sem.run_pure]
      rfl, .a (.bool _)⟩
end
end Ab
