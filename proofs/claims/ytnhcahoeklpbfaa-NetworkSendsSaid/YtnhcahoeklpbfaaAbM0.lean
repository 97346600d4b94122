/- Code does what abstract code says; a function's contract out of its abstract body. No program. -/
import Derived.Test.YtnhcahoeklpbfaaAbL3
set_option linter.unusedSimpArgs false
set_option linter.unusedVariables false
namespace Ab
open Go Go.RowKit

section
variable {P : Program} {C : Ctx}

theorem op_ok {o : Oper} {ao : AO} (hkp : C.keep = true → isBreak ao = false) {st : St} {K : AV → St → Prop} (hc : cOp P o = some ao) (h : aop P ao st K) : OpOk P C o st K := by
  unfold aop at h
  split at h
  · rename_i hs; exact ok_soft hc hs h
  · rename_i hs
    have hs : isSoft ao = false := by simpa using hs
    unfold cOp at hc
    split at hc
    case h_4 t ho =>
      split at hc
      · rename_i i hi
        split at hc
        · rename_i z hz
          simp only [Option.map_eq_some_iff] at hc
          obtain ⟨zs, hzs, rfl⟩ := hc
          exact ok_alloc ho hi hz hzs h
        · cases hc
      · cases hc
    case h_5 t x ho =>
      split at hc
      · rename_i n x' hn hx
        simp at hc; subst hc
        obtain ⟨⟨h1, h2⟩, h3⟩ := h
        exact ok_box ho hx h1 h3
      · cases hc
    case h_9 t x y ho =>
      split at hc
      · rename_i n x' y' hn hx hy
        simp at hc; subst hc
        simp only [aeff] at h
        unfold astore at h
        split at h
        · rename_i id off hev
          obtain ⟨⟨h1, h2, h3⟩, h4⟩ := h
          exact ok_store ho hx hy hn hev h1 h2 h3 h4
        · rename_i k s i f hev
          obtain ⟨xs, hxs, ⟨h1, h2, h3, h4, h5⟩, h6⟩ := onOpt_elim h
          exact ok_storeE ho hx hy hn hev hxs h1 h2 h3 h4 h5 h6
        · exact h.elim
      · cases hc
    case h_20 t l c ho =>
      split at hc
      · rename_i e hu
        split at hc
        · rename_i i hi
          split at hc
          · rename_i z hz
            split at hc
            · rename_i zs l' c' hzs hl' hc'
              split at hc
              · rename_i hzl
                cases hc
                obtain ⟨kl, n, hln, h⟩ := onInt_elim h
                obtain ⟨kc, m, hcm, ⟨h1, h2, h3, h4, h5, h6⟩, h7⟩ := onInt_elim h
                exact ok_make ho hu hi hz hzs hzl hl' hc' hln hcm h1 h2 h3 h4 h5 h7
              · cases hc
            · cases hc
          · cases hc
        · cases hc
      · cases hc
    case h_22 c ho =>
      split at hc
      · rename_i args hargs
        unfold cCallee at hc
        split at hc
        · unfold cCall at hc
          split at hc
          · cases hc; simp [isSoft] at hs
          · cases hc
        · cases hc; simp [isSoft] at hs
        · rename_i b hcal
          unfold cBuiltin at hc
          split at hc
          · split at hc
            · unfold cLen at hc
              repeat' split at hc
              all_goals first
                | (cases hc; done)
                | (cases hc; simp [isSoft] at hs; done)
            · cases hc
          · rename_i x' y'
            obtain ⟨x, y, hl, hx, hy⟩ := mapO_two hargs
            have hca : c.args = #[x, y] := by apply Array.ext'; simpa using hl
            split at hc
            · rename_i hb
              subst hb
              unfold cAppend at hc
              split at hc
              · rename_i t t' ht0 ht1
                split at hc
                · rename_i e hu
                  split at hc
                  · rename_i i hi
                    split at hc
                    · rename_i z hz
                      split at hc
                      · rename_i hall
                        obtain ⟨rfl, hts, hzs⟩ := hall
                        cases hc
                        obtain ⟨news, hnews, hk⟩ := onOpt_elim h
                        have hts' : c.argTypes = #[t, t] := by
                          apply Array.ext (by simpa using hts)
                          intro q h1 h2
                          match q, h2 with
                          | 0, _ => simpa [h1] using ht0
                          | 1, _ => simpa [h1] using ht1
                        exact ok_append (by rw [ho, ← hca]; cases c; simp_all) hts' hu hi hz hzs hx hy hnews (fun q => absurd (hkp q) (by simp [isBreak])) hk
                      · cases hc
                    · cases hc
                  · cases hc
                · cases hc
              · cases hc
            · split at hc
              · cases hc; simp [isSoft] at hs
              · split at hc
                · cases hc; simp [isSoft] at hs
                · split at hc
                  · rename_i hb
                    subst hb
                    unfold cCopy at hc
                    split at hc
                    · rename_i t t' ht0 ht1
                      split at hc
                      · rename_i e hu
                        split at hc
                        · rename_i i hi
                          split at hc
                          · rename_i hall
                            obtain ⟨rfl, hts⟩ := hall
                            cases hc
                            obtain ⟨src, hsrc, hk⟩ := onOpt_elim h
                            have hts' : c.argTypes = #[t, t] := by
                              apply Array.ext (by simpa using hts)
                              intro q h1 h2
                              match q, h2 with
                              | 0, _ => simpa [h1] using ht0
                              | 1, _ => simpa [h1] using ht1
                            exact ok_copy (by rw [ho, ← hca]; cases c; simp_all) hts' hu hi hx hy hsrc hk
                          · cases hc
                        · cases hc
                      · cases hc
                    · cases hc
                  · cases hc
          · cases hc
        · cases hc
      · cases hc
    all_goals (repeat' split at hc)
    all_goals first
      | (cases hc; done)
      | (cases hc; simp [isSoft] at hs; done)
      | (simp only [Option.map_eq_some_iff] at hc; obtain ⟨_, _, rfl⟩ := hc; simp [isSoft] at hs)

/-- An operation as it is turned. -/
def OperOk (P : Program) (C : Ctx) (o : Oper) (op : AO) : Prop :=
  (∀ (st : St) (K : AV → St → Prop), aop P op st K → OpOk P C o st K) ∧ ∀ (ev : AX → AV) (H : List (List AV)) (O : List OwnD) (K : AV → Prop), isSoft op = true → asoft P ev H O K op → ∃ r, Good P o ev H O r ∧ K r

theorem OperOk.of {o : Oper} {op : AO} (hkp : C.keep = true → isBreak op = false) (h : cOp P o = some op) : OperOk P C o op := ⟨fun _ _ => op_ok hkp h, fun _ _ _ _ hs hk => soft_good h hs hk⟩

theorem build_shape {o : Oper} {e sz : Nat} {ps : List AX} (hc : cOp P o = some (.buildSlice e sz ps)) : ∃ t len parts i z zs, o.op = .buildSlice t len parts ∧ P.underlying t = some (.slice e) ∧ P.info? e = some i ∧ i.zero = some z ∧ mapO cAtom z.cells.toList = some zs ∧ mapO (fun p : Nat × Operand => cX p.2) parts.toList = some ps ∧ parts.toList.map (·.1) = List.range len ∧ z.cells.size = i.size ∧ 0 < i.size ∧ len * i.size ≤ 2 ^ 24 ∧ sz = i.size := by
  cases ho : o.op with
  | buildSlice t len parts =>
    unfold cOp at hc
    rw [ho] at hc
    simp only at hc
    split at hc
    · rename_i e' hu
      split at hc
      · rename_i i hi
        split at hc
        · rename_i z hz
          split at hc
          · rename_i zs ys hzs hys
            split at hc
            · rename_i hall
              obtain ⟨h1, h2, h3, h4⟩ := hall
              cases hc
              exact ⟨t, len, parts, i, z, zs, rfl, hu, hi, hz, hzs, hys, h1, h2, h3, h4, rfl⟩
            · cases hc
          · cases hc
        · cases hc
      · cases hc
    · cases hc
  | call c =>
    unfold cOp at hc
    rw [ho] at hc
    simp only at hc
    split at hc
    · unfold cCallee at hc
      split at hc
      · unfold cCall at hc
        split at hc <;> cases hc
      · cases hc
      · unfold cBuiltin at hc
        split at hc
        · split at hc
          · unfold cLen at hc
            repeat' split at hc
            all_goals first | (cases hc; done)
          · cases hc
        · split at hc
          · unfold cAppend at hc
            repeat' split at hc
            all_goals first | (cases hc; done)
          · split at hc
            · cases hc
            · split at hc
              · cases hc
              · split at hc
                · unfold cCopy at hc
                  repeat' split at hc
                  all_goals first | (cases hc; done)
                · cases hc
        · cases hc
      · cases hc
    · cases hc
  | _ =>
    unfold cOp at hc
    rw [ho] at hc
    simp only at hc
    repeat' (first | (cases hc; done) | (simp only [Option.map_eq_some_iff] at hc; obtain ⟨_, _, h⟩ := hc; cases h; done) | split at hc)
theorem make_shape {o : Oper} {e sz b : Nat} {zr : List Atom} {la ca : AX} (hc : cOp P o = some (.make e sz b zr la ca)) : ∃ t l c i z, o.op = .makeSlice t l c ∧ P.underlying t = some (.slice e) ∧ P.info? e = some i ∧ i.zero = some z ∧ mapO cAtom z.cells.toList = some zr ∧ zr.length = i.size ∧ cX l = some la ∧ cX c = some ca ∧ sz = i.size ∧ b = i.bytes := by
  cases ho : o.op with
  | makeSlice t l c =>
    unfold cOp at hc
    rw [ho] at hc
    simp only at hc
    split at hc
    · rename_i e' hu
      split at hc
      · rename_i i hi
        split at hc
        · rename_i z hz
          split at hc
          · rename_i zs l' c' hzs hl' hc'
            split at hc
            · rename_i hzl
              cases hc
              exact ⟨t, l, c, i, z, rfl, hu, hi, hz, hzs, hzl, hl', hc', rfl, rfl⟩
            · cases hc
          · cases hc
        · cases hc
      · cases hc
    · cases hc
  | call c =>
    unfold cOp at hc
    rw [ho] at hc
    simp only at hc
    split at hc
    · unfold cCallee at hc
      split at hc
      · unfold cCall at hc
        split at hc <;> cases hc
      · cases hc
      · unfold cBuiltin at hc
        split at hc
        · split at hc
          · unfold cLen at hc
            repeat' split at hc
            all_goals first | (cases hc; done)
          · cases hc
        · split at hc
          · unfold cAppend at hc
            repeat' split at hc
            all_goals first | (cases hc; done)
          · split at hc
            · cases hc
            · split at hc
              · cases hc
              · split at hc
                · unfold cCopy at hc
                  repeat' split at hc
                  all_goals first | (cases hc; done)
                · cases hc
        · cases hc
      · cases hc
    · cases hc
  | _ =>
    unfold cOp at hc
    rw [ho] at hc
    simp only at hc
    repeat' (first | (cases hc; done) | (simp only [Option.map_eq_some_iff] at hc; obtain ⟨_, _, h⟩ := hc; cases h; done) | split at hc)
/-- A literal []T{..} that is a row of the call's own. -/
theorem ok_buildO {o : Oper} {t e : TypeId} {len : Nat} {parts : Array (Nat × Operand)} {i : TypeInfo} {z : Value} {zs : List Atom} {ys : List AX} {rows : List (List Atom)} {st : St} {K : AV → St → Prop} (ho : o.op = .buildSlice t len parts) (hu : P.underlying t = some (.slice e)) (hi : P.info? e = some i) (hz : i.zero = some z)
    (hzs : mapO cAtom z.cells.toList = some zs) (hys : mapO (fun p : Nat × Operand => cX p.2) parts.toList = some ys) (hix : parts.toList.map (·.1) = List.range len) (hzl : z.cells.size = i.size) (hpos : 0 < i.size) (hfit : len * i.size ≤ 2 ^ 24)
    (hrows : rowsMade st.O i.size (ys.map (aval st.fr)) = some rows) (hne : rows ≠ []) (h : K (.own st.O.length) { st with O := st.O ++ [⟨e, i.size, rows, true⟩] }) : OpOk P C o st K := by
  intro E a w hsat KK Q hKK
  have hh := hsat.holds
  have hsz : C.base ≤ w.heap.size := Nat.le_trans hh.hb hh.below.size
  have hlp : parts.toList.length = len := by have := congrArg List.length hix; simpa using this
  have hyl : ys.length = len := by rw [← hlp]; exact (mapO_spec hys).1
  obtain ⟨hrl, hrs⟩ := rowsMade_len hrows
  have hrl : rows.length = len := by rw [hrl, List.length_map, hyl]
  have hlen0 : 0 < len := by
    rw [← hrl]
    exact List.length_pos_iff.mpr hne
  have hc := cParts_seq (sz := i.size) (k := 0) (by rw [hix, hlp, List.range_eq_range']) hys
  have hzsl : zs.length = i.size := by rw [(mapO_spec hzs).1]; simpa using hzl
  have hw := withs_seq (ev := aval st.fr) (O := st.O) (k := 0) (xs := (List.range (len * i.size)).map fun q => zs.getD (q % i.size) default) hrows (by simp [hyl])
  obtain ⟨arr, h1, h2, h3⟩ := fill_rep hh hc (arr := (Array.range (len * i.size)).map (z.cells[· % z.cells.size]!)) (fun p hp y hy => rep_aval hsat.fr hy) (by
      refine ⟨by simp, fun j x u hj hu => ?_⟩
      have hjl : j < len * i.size := by have := (List.getElem?_eq_some_iff.1 hj).1; simpa using this
      simp [hjl] at hj hu
      have hm : j % i.size < i.size := Nat.mod_lt _ hpos
      rw [hzl] at hu
      have hm' : j % i.size < z.cells.size := by omega
      have hm2 : j % i.size < zs.length := by omega
      refine (zero_rep hzs).2 (j % i.size) x u ?_ ?_
      · rw [List.getElem?_eq_getElem hm2] at hj ⊢; simpa using hj
      · rw [← hu]; simp [hm']) hw
  simp only [Nat.zero_mul, List.take_zero, List.nil_append] at h2 h3
  have hal : arr.size = len * i.size := by rw [h2, flatten_len hrs, hrl]
  have hrun : (execOp a.eval o).run P w = .ok (.value (.slice (some ⟨w.heap.size, 0, none⟩) len len)) (w.alloc (.cells arr e)) := by
    have hfit' : ¬ len * i.size > 2 ^ 24 := by omega
    have hsz : sizeAt P e = some i.size := by simp [sizeAt, hi]
    have h1' : Instr.fill (fun x => some (x * i.size, i.size)) (Array.map (fun x => z.cells[x % z.cells.size]!) (Array.range (len * i.size))) (List.map (fun p : Nat × Operand => (p.fst, a.eval p.snd)) parts.toList) = some arr := h1
    have hnew : ∀ cs : Array Value, (newRow e cs).run P w = .ok ⟨w.heap.size, 0, none⟩ (w.alloc (.cells cs e)) := fun _ => rfl
    have e1 : (Array.map (fun x => (x.fst, a.eval x.snd)) parts).toList = List.map (fun p : Nat × Operand => (p.fst, a.eval p.snd)) parts.toList := by simp
    simp only [execOp, ho, Sem.run_bind, Instr.buildSlice, run_under hu, Result.andThen_ok, run_size hsz, hfit', if_false]
    have h0 : ¬ len * i.size = 0 := Nat.mul_ne_zero (by omega) (by omega)
    simp only [h0, if_false, zeroValue, Sem.run_bind, run_info hi, Result.andThen_ok, hz, Sem.run_pure, e1, h1', hnew]
  obtain ⟨hl2, hx2⟩ := hh.later (w' := w.alloc (.cells arr e)) (S' := E.S) ((Below.refl _ _).alloc (Nat.le_refl _) _) (fun _ _ h => h) (fun _ _ h => .inl h) (fun g o hs => by
    obtain ⟨u, hu⟩ := hh.imm g o hs
    exact ⟨u, (World.cell?_alloc_lt w _ ⟨g, o, none⟩ (lt_of_cell hu)).trans hu⟩)
  have hb24 : len ≤ 2 ^ 24 := Nat.le_trans (Nat.le_mul_of_pos_right _ hpos) hfit
  have hown : (w.alloc (.cells arr e)).ownsRow C.base e i.size (.slice (some ⟨w.heap.size, 0, none⟩) len len) len arr.toList := by
    refine ⟨by rw [Array.length_toList, hal], .inr ⟨w.heap.size, len, arr, rfl, hsz, heap_alloc_new w _, Nat.le_refl _, by simp only [maxLen]; omega, hal, ?_⟩⟩
    rw [List.take_of_length_le (by rw [Array.length_toList, hal]; exact Nat.le_refl _)]
  have hok : OwnOk C.base E.S (w.alloc (.cells arr e)) (.slice (some ⟨w.heap.size, 0, none⟩) len len) ⟨e, i.size, rows, true⟩ := by
    refine ⟨⟨_, by simpa [hrl] using hown, ⟨hrs, fun q r j x hq hj => ?_⟩⟩, by simp only [hrl]; omega, hpos, fun g hg o => ?_⟩
    · have hf := flatten_get hrs q r j x hq hj
      have hlt : q * i.size + j < arr.size := by rw [h2]; exact (List.getElem?_eq_some_iff.1 hf).1
      exact ⟨arr[q * i.size + j], by simp [hlt], (h3 (q * i.size + j) x arr[q * i.size + j] hf (by simp [hlt])).mono hx2.S hx2.cell⟩
    · simp [Value.ownBlock] at hg
      subst hg
      refine ⟨fun hs => ?_, fun hs => by simp at hs⟩
      obtain ⟨u, hu⟩ := hh.imm _ o hs
      exact absurd (lt_of_cell hu) (Nat.lt_irrefl _)
  obtain ⟨hh3, hx3⟩ := hl2.addOwn hok (fun g hg i' hi' => by
    simp [Value.ownBlock] at hg; subst hg
    exact absurd (ι_lt hh hi') (Nat.lt_irrefl _)) (fun g k u hg hk hu => by
    simp [Value.ownBlock] at hg; subst hg
    exact absurd (κ_lt hh hk hu).2 (Nat.lt_irrefl _))
  refine wp_value hrun (hKK _ _ _ _ _ h ((hsat.later hh3 (hx2.trans hx3) (fun g o h => .inl h)).put (.own ?_) _))
  show (E.κ ++ [_])[st.O.length]? = _
  rw [← hh.lenκ]; simp

theorem append_shape {o : Oper} {e sz b : Nat} {s x : AX} (hc : cOp P o = some (.append e sz b s x)) : ∃ u v ts t i z, o.op = .call { callee := .builtin .append, args := #[u, v], argTypes := ts } ∧ ts = #[t, t] ∧ P.underlying t = some (.slice e) ∧ P.info? e = some i ∧ i.zero = some z ∧ z.cells.size = i.size ∧ cX u = some s ∧ cX v = some x ∧ sz = i.size ∧ b = i.bytes := by
  unfold cOp at hc
  split at hc
  case h_22 c ho =>
    split at hc
    · rename_i args hargs
      unfold cCallee at hc
      split at hc
      · unfold cCall at hc
        split at hc <;> cases hc
      · cases hc
      · rename_i b' hcal
        unfold cBuiltin at hc
        split at hc
        · split at hc
          · unfold cLen at hc
            repeat' split at hc
            all_goals first | (cases hc; done)
          · cases hc
        · rename_i x' y'
          obtain ⟨x, y, hl, hx, hy⟩ := mapO_two hargs
          have hca : c.args = #[x, y] := by apply Array.ext'; simpa using hl
          split at hc
          · rename_i hb
            subst hb
            unfold cAppend at hc
            split at hc
            · rename_i t t' ht0 ht1
              split at hc
              · rename_i e hu
                split at hc
                · rename_i i hi
                  split at hc
                  · rename_i z hz
                    split at hc
                    · rename_i hall
                      obtain ⟨rfl, hts, hzs⟩ := hall
                      cases hc
                      have hts' : c.argTypes = #[t, t] := by
                        apply Array.ext (by simpa using hts)
                        intro q h1 h2
                        match q, h2 with
                        | 0, _ => simpa [h1] using ht0
                        | 1, _ => simpa [h1] using ht1
                      exact ⟨x, y, _, t, i, z, by rw [ho, ← hca]; cases c; simp_all, hts', hu, hi, hz, hzs, hx, hy, rfl, rfl⟩
                    · cases hc
                  · cases hc
                · cases hc
              · cases hc
            · cases hc
          · split at hc
            · cases hc
            · split at hc
              · cases hc
              · split at hc
                · unfold cCopy at hc
                  repeat' split at hc
                  all_goals first | (cases hc; done)
                · cases hc
        · cases hc
      · cases hc
    · cases hc
  all_goals (repeat' split at hc)
  all_goals first
    | (cases hc; done)
    | (simp only [Option.map_eq_some_iff] at hc; obtain ⟨_, _, hc⟩ := hc; cases hc; done)

theorem call_shape {o : Oper} {f : FuncId} {args : List AX} (hc : cOp P o = some (.call f args)) : ∃ ops ts, o.op = .call { callee := .value (.func f), args := ops, argTypes := ts } ∧ bodied P f = true ∧ mapO cX ops.toList = some args := by
  unfold cOp at hc
  split at hc
  case h_22 c ho =>
    split at hc
    · rename_i as hargs
      unfold cCallee at hc
      split at hc
      · rename_i g hcal
        unfold cCall at hc
        split at hc
        · rename_i hb
          cases hc
          exact ⟨c.args, c.argTypes, by rw [ho, ← hcal], hb, hargs⟩
        · cases hc
      · cases hc
      · unfold cBuiltin at hc
        split at hc
        · split at hc
          · unfold cLen at hc
            repeat' split at hc
            all_goals first | (cases hc; done)
          · cases hc
        · split at hc
          · unfold cAppend at hc
            repeat' split at hc
            all_goals first | (cases hc; done)
          · split at hc
            · cases hc
            · split at hc
              · cases hc
              · split at hc
                · unfold cCopy at hc
                  repeat' split at hc
                  all_goals first | (cases hc; done)
                · cases hc
        · cases hc
      · cases hc
    · cases hc
  all_goals (repeat' split at hc)
  all_goals first
    | (cases hc; done)
    | (simp only [Option.map_eq_some_iff] at hc; obtain ⟨_, _, hc⟩ := hc; cases hc; done)

/-- A call with the caller's memory, whatever names the function. -/
theorem ok_enterI {o : Oper} {f : FuncId} {as : List AV} {st : St} {K : AV → St → Prop} (h : ∃ r H' O' keep, (C.keep = true → keep = true) ∧ IDen P f as st.H st.O r H' O' keep ∧ K r ⟨forgetIf keep st.fr, H', O'⟩)
    (hrun : ∀ (E : Env) (a : Act) (w : World), Sat C E a w st → ∃ vs : List Value, (execOp a.eval o).run P w = .ok (.enter f vs.toArray) w ∧ vs.length = as.length ∧ ∀ (j : Nat) (x : AV) (v : Value), as[j]? = some x → vs[j]? = some v → RepV E w x v) : OpOk P C o st K := by
  obtain ⟨r, H', O', keep, hkp, hden, hk⟩ := h
  intro E a w hsat KK Q hKK
  obtain ⟨vs, hrun, hl, hv0⟩ := hrun E a w hsat
  have hcall := hden C.base C.w0 E w vs hsat.holds ⟨hl, hv0⟩
  unfold Oper.wp
  rw [hrun]
  refine Calls.mono hcall ?_
  rintro e w' ⟨v, E', rfl, hh, hx, hn, hv⟩
  refine hKK E' w' v r _ hk (Sat.put (st := ⟨forgetIf keep st.fr, H', O'⟩) ⟨hh, fun g o k => ⟨hx.S g o (hsat.S g o k).1, (hx.cell g o (hsat.S g o k).1).trans (hsat.S g o k).2⟩, fun i g k => hx.ι i g (hsat.ι i g k), fun g o k => (hn g o k).elim (hsat.news g o) .inr, hsat.defers, fun q k v e => hx.κ (hkp q) k v (hsat.κ q k v e), ?_⟩ hv _)
  cases keep with
  | true => exact hsat.fr.mono ⟨hx.S, hx.cell, hx.ι, hx.κ rfl⟩
  | false =>
    refine ⟨by simp [forgetIf, hsat.fr.1], fun t x u hx0 hu => ?_⟩
    simp only [forgetIf, List.getElem?_map] at hx0
    cases hy : st.fr[t]? with
    | none => rw [hy] at hx0; simp at hx0
    | some y =>
      rw [hy] at hx0; simp at hx0; subst hx0
      have hr := hsat.fr.2 t y u hy hu
      cases hr with
      | a h => exact .a (h.mono hx.S hx.cell)
      | agg hs h => exact .agg hs fun j x u hj hu => (h j x u hj hu).mono hx.S hx.cell
      | tup => exact .any
      | loc h => exact .loc (hx.ι _ _ h)
      | ptr h => exact .ptr (h.mono hx.S hx.cell)
      | nilptr => exact .nilptr
      | full h => exact .full (h.mono hx.S hx.cell)
      | nn h => exact .nn (h.mono hx.S hx.cell)
      | own => exact .any
      | eptr => exact .any
      | vsl => exact .any
      | mix => exact .any
      | clo hs h =>
        simp only [forget]
        split
        · rename_i hl
          refine .clo hs fun j x u hj hu => ?_
          obtain ⟨id, off, rfl⟩ := locs_mem hl hj
          cases h j _ u hj hu with
          | loc h => exact .loc (hx.ι _ _ h)
        · exact .any
      | bself => exact .bself
      | ownv => exact .any
      | ownc => exact .any
      | undef => exact .undef
      | any => exact .any

theorem ok_callI {o : Oper} {f : FuncId} {args : Array Operand} {ts : Array TypeId} {ys : List AX} {st : St} {K : AV → St → Prop} (ho : o.op = .call { callee := .value (.func f), args := args, argTypes := ts }) (hb : bodied P f = true) (hys : mapO cX args.toList = some ys)
    (h : ∃ r H' O' keep, (C.keep = true → keep = true) ∧ IDen P f (ys.map (aval st.fr)) st.H st.O r H' O' keep ∧ K r ⟨forgetIf keep st.fr, H', O'⟩) : OpOk P C o st K := by
  refine ok_enterI h fun E a w hsat => ⟨args.toList.map a.eval, ?_, by simp [(mapO_spec hys).1], fun j x v hj hv => ?_⟩
  · have e : execOp a.eval o = callFunc f (#[] ++ args.map a.eval ++ #[]) := by
      obtain ⟨dst, op, type, pos, after, guard⟩ := o
      simp only at ho
      subst ho
      rfl
    rw [e]
    have e2 : (args.toList.map a.eval).toArray = args.map a.eval := by
      apply Array.ext'
      simp
    rw [e2]
    simpa using run_callFunc hb (args.map a.eval) w
  · rw [List.getElem?_map] at hj hv
    cases hy : ys[j]? with
    | none => rw [hy] at hj; simp at hj
    | some y =>
      cases hx : args.toList[j]? with
      | none => rw [hx] at hv; simp at hv
      | some z =>
        rw [hy] at hj; rw [hx] at hv
        simp at hj hv; subst hj; subst hv
        exact rep_aval hsat.fr ((mapO_spec hys).2 j y z hy hx)

/-- A call of a function value with the caller's memory. -/
theorem ok_callvI (hkp : C.keep = true → False) {o : Oper} {x : Operand} {x' : AX} {args : Array Operand} {ts : Array TypeId} {ys : List AX} {st : St} {K : AV → St → Prop} (ho : o.op = .call { callee := .value x, args := args, argTypes := ts }) (hnf : ∀ f, x ≠ .func f) (hx : cX x = some x') (hys : mapO cX args.toList = some ys)
    (h : onClo (aval st.fr x') fun f cs => agate (bodied P f = true) <| acallI P f (ys.map (aval st.fr) ++ cs) st K) : OpOk P C o st K := by
  obtain ⟨f, cs, hev, hb, r, H', O', keep, hden, hk⟩ := onClo_elim h
  refine ok_enterI ⟨r, H', O', keep, fun q => (hkp q).elim, hden, hk⟩ fun E a w hsat => ?_
  have hv : ∃ arr : Array Value, a.eval x = .func (.func f) #[] arr ∧ arr.size = cs.length ∧ ∀ (j : Nat) (x : AV) (u : Value), cs[j]? = some x → arr[j]? = some u → RepV E w x u := by
    have h := hev ▸ rep_aval hsat.fr hx
    generalize a.eval x = u at h
    cases h with
    | clo hs h => exact ⟨_, rfl, hs, h⟩
  obtain ⟨arr, hv, hsz, hrep⟩ := hv
  have hl : ys.length = args.toList.length := (mapO_spec hys).1
  refine ⟨args.toList.map a.eval ++ arr.toList, ?_, by simp [hl, hsz], fun j z v hj hv' => ?_⟩
  · have e : execOp a.eval o = (do let d ← Deferred.ofValue (a.eval x) (args.map a.eval); invoke d.target d.args) := by
      obtain ⟨dst, op, type, pos, after, guard⟩ := o
      simp only at ho
      subst ho
      cases x with
      | func f => exact absurd rfl (hnf f)
      | tmp t => rfl
      | const v => rfl
      | global g => rfl
    rw [e, hv]
    have e2 : (args.toList.map a.eval ++ arr.toList).toArray = args.map a.eval ++ arr := by
      apply Array.ext'
      simp
    rw [e2]
    have := run_callFunc hb (args.map a.eval ++ arr) w
    simp only [Deferred.ofValue, Sem.run_bind, Sem.run_pure, Result.andThen_ok, invoke]
    simpa using this
  · rcases Nat.lt_or_ge j ys.length with hjl | hjl
    · rw [List.getElem?_append_left (by simpa using hjl), List.getElem?_map] at hj
      rw [List.getElem?_append_left (by rw [List.length_map]; omega), List.getElem?_map] at hv'
      cases hy : ys[j]? with
      | none => rw [hy] at hj; simp at hj
      | some y =>
        cases hx : args.toList[j]? with
        | none => rw [hx] at hv'; simp at hv'
        | some q =>
          rw [hy] at hj; rw [hx] at hv'
          simp at hj hv'; subst hj; subst hv'
          exact rep_aval hsat.fr ((mapO_spec hys).2 j y q hy hx)
    · rw [List.getElem?_append_right (by simpa using hjl), List.length_map] at hj
      rw [List.getElem?_append_right (by rw [List.length_map]; omega), List.length_map] at hv'
      rw [← hl] at hv'
      exact hrep _ z v hj (by simpa using hv')
theorem callv_shape {o : Oper} {x : AX} {args : List AX} (hc : cOp P o = some (.callv x args)) : ∃ t ops ts, o.op = .call { callee := .value (.tmp t), args := ops, argTypes := ts } ∧ x = .tmp t ∧ mapO cX ops.toList = some args := by
  unfold cOp at hc
  split at hc
  case h_22 c ho =>
    split at hc
    · rename_i as hargs
      unfold cCallee at hc
      split at hc
      · rename_i g hcal
        unfold cCall at hc
        split at hc
        · cases hc
        · cases hc
      · rename_i t hcal
        cases hc
        exact ⟨t, c.args, c.argTypes, by rw [ho, ← hcal], rfl, hargs⟩
      · unfold cBuiltin at hc
        split at hc
        · split at hc
          · unfold cLen at hc
            repeat' split at hc
            all_goals first | (cases hc; done)
          · cases hc
        · split at hc
          · unfold cAppend at hc
            repeat' split at hc
            all_goals first | (cases hc; done)
          · split at hc
            · cases hc
            · split at hc
              · cases hc
              · split at hc
                · unfold cCopy at hc
                  repeat' split at hc
                  all_goals first | (cases hc; done)
                · cases hc
        · cases hc
      · cases hc
    · cases hc
  all_goals (repeat' split at hc)
  all_goals first
    | (cases hc; done)
    | (simp only [Option.map_eq_some_iff] at hc; obtain ⟨_, _, hc⟩ := hc; cases hc; done)

theorem OwnOk.base {b b' : Nat} {S : Nat → Nat → Prop} {w : World} {v : Value} {d : OwnD} (h : OwnOk b S w v d) (hb : b' ≤ b) : OwnOk b' S w v d := by
  obtain ⟨⟨xs, ⟨h0, ho⟩, hr⟩, h2, h3, h4⟩ := h
  refine ⟨⟨xs, ⟨h0, ?_⟩, hr⟩, h2, h3, h4⟩
  rcases ho with ho | ⟨g, cap, cur, h5, h6, h7⟩
  · exact .inl ho
  · exact .inr ⟨g, cap, cur, h5, Nat.le_trans hb h6, h7⟩

/-- A call of a function that makes a new row. -/
theorem ok_callFG {r0 y : AV} (h0 : ∀ (E : Env) (w : World) (v : Value), RepV E w r0 v → E.κ[0]? = some v) {o : Oper} {f : FuncId} {args : Array Operand} {ts : Array TypeId} {ys : List AX} {st : St} {K : AV → St → Prop} (ho : o.op = .call { callee := .value (.func f), args := args, argTypes := ts }) (hb : bodied P f = true) (hys : mapO cX args.toList = some ys)
    (hy : ∀ (E E2 : Env) (w : World) (v : Value), RepV E w r0 v → E2.κ[st.O.length]? = some v → RepV E2 w y v)
    (h : ∃ as, argsOf st.O (ys.map (aval st.fr)) = some as ∧ ∃ d, IDen P f as [] [] r0 [] [d] false ∧ K y { st with O := st.O ++ [d] }) : OpOk P C o st K := by
  obtain ⟨as, has, d, hden, hk⟩ := h
  intro E a w hsat KK Q hKK
  have hh := hsat.holds
  have hsz : C.base ≤ w.heap.size := Nat.le_trans hh.hb hh.below.size
  have hrun : (execOp a.eval o).run P w = .ok (.enter f (args.map a.eval)) w := by
    have e : execOp a.eval o = callFunc f (#[] ++ args.map a.eval ++ #[]) := by
      obtain ⟨dst, op, type, pos, after, guard⟩ := o
      simp only at ho
      subst ho
      rfl
    rw [e]
    simpa using run_callFunc hb (args.map a.eval) w
  have hrep := args_rep hh hys (fun x _ y hy => rep_aval hsat.fr hy) has
  have hh0 : Holds w.heap.size w ⟨E.S, [], []⟩ w [] [] := ⟨Below.refl _ _, Nat.le_refl _, hh.imm, rfl, rfl, fun i j g h => by simp at h, fun i g cs h => by simp at h, fun i g h => by simp at h, fun k v d h => by simp at h, fun k v g h => by simp at h, fun j k v u g h => by simp at h, fun i g cs t h => by simp at h⟩
  have hcall := hden w.heap.size w ⟨E.S, [], []⟩ w (args.toList.map a.eval) hh0 hrep
  unfold Oper.wp
  rw [hrun]
  have e : (args.toList.map a.eval).toArray = args.map a.eval := by
    apply Array.ext'
    simp
  rw [e] at hcall
  refine Calls.mono hcall ?_
  rintro e w' ⟨v, E', rfl, hh', hx, hn, hv⟩
  obtain ⟨h1, h2⟩ := hh.later (w' := w') (S' := E'.S) hh'.below (fun g o h => hx.S g o h) (fun g o h => hn g o h) hh'.imm
  have hκ : E'.κ[0]? = some v := h0 _ _ _ hv
  have hok := hh'.owns 0 v d hκ rfl
  have hge : ∀ g, v.ownBlock = some g → w.heap.size ≤ g := fun g hg => (κ_lt hh' hκ hg).1
  obtain ⟨h3, h4⟩ := h1.addOwn (hok.base hsz) (fun g hg i hi => by
    have := ι_lt hh (E := E) hi
    have := hge g hg
    omega) (fun g k u hg hk hu => by
    have := (κ_lt hh (E := E) hk hu).2
    have := hge g hg
    omega)
  refine hKK _ w' v y _ hk (Sat.put (st := { st with O := st.O ++ [d] }) (hsat.later h3 (h2.trans h4) (fun g o h => (hn g o h).imp id fun h => Nat.le_trans hsz h)) (hy _ _ _ _ hv ?_) _)
  show (E.κ ++ [v])[st.O.length]? = _
  rw [← hh.lenκ]; simp

/-- A call of a function that makes a new row. -/
theorem ok_callF {o : Oper} {f : FuncId} {args : Array Operand} {ts : Array TypeId} {ys : List AX} {st : St} {K : AV → St → Prop} (ho : o.op = .call { callee := .value (.func f), args := args, argTypes := ts }) (hb : bodied P f = true) (hys : mapO cX args.toList = some ys)
    (h : onOpt (argsOf st.O (ys.map (aval st.fr))) fun as => acallF P f as st K) : OpOk P C o st K := by
  obtain ⟨as, has, d, hden, hk⟩ := onOpt_elim h
  exact ok_callFG (r0 := .own 0) (y := .own st.O.length) (fun E w v hv => by cases hv with | own h => exact h) ho hb hys (fun E E2 w v _ h => .own h) ⟨as, has, d, hden, hk⟩
theorem ok_callFC {o : Oper} {f : FuncId} {args : Array Operand} {ts : Array TypeId} {ys : List AX} {st : St} {K : AV → St → Prop} (ho : o.op = .call { callee := .value (.func f), args := args, argTypes := ts }) (hb : bodied P f = true) (hys : mapO cX args.toList = some ys)
    (h : onOpt (argsOf st.O (ys.map (aval st.fr))) fun as => acallFC P f as st K) : OpOk P C o st K := by
  obtain ⟨as, has, d, c, hden, hk⟩ := onOpt_elim h
  exact ok_callFG (r0 := .ownc 0 c) (y := .ownc st.O.length c) (fun E w v hv => by cases hv with | ownc h _ => exact h) ho hb hys (fun E E2 w v hv h => by cases hv with | ownc _ hc => exact .ownc h hc) ⟨as, has, d, hden, hk⟩

/-- Soft operations are served by what they yield. -/
theorem OperOk.soft {o : Oper} {ao : AO} (hs : isSoft ao = true) (gd : ∀ (ev : AX → AV) (H : List (List AV)) (O : List OwnD) (K : AV → Prop), asoft P ev H O K ao → ∃ r, Good P o ev H O r ∧ K r) : OperOk P C o ao := by
  refine ⟨fun st K hk E a w hsat KK Q hKK => ?_, fun ev H O K _ hk => gd ev H O K hk⟩
  unfold aop at hk
  rw [if_pos hs] at hk
  obtain ⟨r, hg, hk⟩ := gd (aval st.fr) st.H st.O (fun v => K v st) hk
  exact hg C.base C.w0 E a w hsat.holds (fun x y _ hy => rep_aval hsat.fr hy) KK Q fun v E' w' hh hx hn hv => hKK E' w' v r st hk ((hsat.later hh hx hn).put hv _)

theorem soft_ixD {ev : AX → AV} {H : List (List AV)} {O : List OwnD} {K : AV → Prop} {sz : Nat} {x i : AX} (h : asoft P ev H O K (.ixD sz x i)) : asoft P ev H O K (.ix sz x i) := by
  obtain ⟨hb, h⟩ := h
  show onVec (vecOf O (ev x)) _ _
  have : vecOf O (ev x) = none := by
    cases hx : ev x <;> rw [hx] at hb <;> first | rfl | cases hb
  rw [this]
  exact h
theorem soft_loadM {ev : AX → AV} {H : List (List AV)} {O : List OwnD} {K : AV → Prop} {n : Nat} {g : Bool} {x : AX} (h : asoft P ev H O K (.loadM n g x)) : ∃ id off, ev x = .loc id off ∧ id < H.length ∧ barel (((H.getD id []).drop off).take (if g then n else 1)) = true ∧ aload n g H O (.loc id off) K := by
  have h : onLoc (ev x) _ := h
  unfold onLoc at h
  split at h
  · rename_i id off hx
    exact ⟨id, off, hx, h.1.1, h.1.2, h.2⟩
  · exact h.elim

theorem soft_loadZ {ev : AX → AV} {H : List (List AV)} {O : List OwnD} {K : AV → Prop} {n : Nat} {g : Bool} {x : AX} (h : asoft P ev H O K (.loadZ n g x)) : ∃ id off, ev x = .loc id off ∧ 1 ≤ id ∧ id < H.length ∧ (g = true → barel (((H.getD id []).drop off).take n) = true) ∧ aload n g H O (.loc id off) K := by
  have h : onLoc (ev x) _ := h
  unfold onLoc at h
  split at h
  · rename_i id off hx
    exact ⟨id, off, hx, h.1.1, h.1.2.1, h.1.2.2, h.2⟩
  · exact h.elim
theorem OperOk.dry {o : Oper} {ao : AO} (h : OperOk P C o ao) (cp : CP) (d : Option Nat) : OperOk P C o (dryIf cp d ao) := by
  unfold dryIf
  split
  · split
    · unfold dryA
      split
      · exact .soft rfl fun ev H O K hk => h.2 ev H O K rfl hk.2
      · exact .soft rfl fun ev H O K hk => h.2 ev H O K rfl (soft_ixD hk)
      · exact .soft rfl fun ev H O K hk => h.2 ev H O K rfl hk.2
      · exact .soft rfl fun ev H O K hk => h.2 ev H O K rfl hk.2
      · refine .soft rfl fun ev H O K hk => h.2 ev H O K rfl ?_
        obtain ⟨cs, h1, h2⟩ := onOpt_elim hk.2
        show onBuild _ _ _
        rw [h1]; exact h2
      · exact .soft rfl fun ev H O K hk => h.2 ev H O K rfl hk.2
      · exact h
    · split
      split
      · unfold zedA
        split
        · refine .soft rfl fun ev H O K hk => h.2 ev H O K rfl ?_
          obtain ⟨id, off, h1, _, _, _, h4⟩ := soft_loadZ hk
          show aload _ _ H O (ev _) K
          rw [h1]; exact h4
        · exact h
      · unfold monA
        split
        · refine .soft rfl fun ev H O K hk => h.2 ev H O K rfl ?_
          obtain ⟨id, off, h1, _, _, h4⟩ := soft_loadM hk
          show aload _ _ H O (ev _) K
          rw [h1]; exact h4
        · exact h
      · exact h
  · exact h

theorem OperOk.late {o : Oper} {ao : AO} (h : OperOk P C o ao) (cp : CP) : OperOk P C o (lateA cp ao) := by
  unfold lateA
  split
  · split
    · refine ⟨fun st K hk => h.1 st K ?_, fun ev H O K hs => by simp [isSoft] at hs⟩
      unfold aop at hk ⊢
      rw [if_neg (by simp [isSoft])] at hk ⊢
      simp only [aeff] at hk ⊢
      unfold astoreN at hk
      split at hk
      · rename_i hv
        rw [hv]
        obtain ⟨⟨h1, h2, h3, _⟩, hk⟩ := hk
        exact ⟨⟨h1, h2, h3⟩, hk⟩
      · exact hk.elim
    · exact h
  · exact h

theorem isBreak_late (cp : CP) (ao : AO) : isBreak (lateA cp ao) = isBreak ao := by
  unfold lateA; split
  · split <;> rfl
  · rfl
theorem isBreak_dry (cp : CP) (d : Option Nat) (ao : AO) : isBreak (dryIf cp d ao) = isBreak ao := by
  unfold dryIf; split
  · split
    · cases ao <;> rfl
    · split
      · split
        · cases ao <;> rfl
        · cases ao <;> rfl
      · rfl
  · rfl
theorem inv_late {cp : CP} {ao : AO} {e sz b : Nat} {s x : AX} (h : lateA cp ao = .append e sz b s x) : ao = .append e sz b s x := by
  unfold lateA at h
  split at h
  · split at h <;> cases h
  · exact h
theorem inv_dry {cp : CP} {d : Option Nat} {ao : AO} {e sz b : Nat} {s x : AX} (h : dryIf cp d ao = .append e sz b s x) : ao = .append e sz b s x := by
  unfold dryIf at h
  split at h
  · split at h
    · cases ao <;> first | exact h | (cases h; done)
    · split at h
      · split at h
        · cases ao <;> first | exact h | (cases h; done)
        · cases ao <;> first | exact h | (cases h; done)
      · exact h
  · exact h
theorem inv_eff {cp : CP} {d : Option Nat} {ao : AO} {e sz b : Nat} {s x : AX} (h : effA cp d ao = .append e sz b s x) : ao = .append e sz b s x := by
  unfold effA at h
  split at h
  · repeat' split at h
    all_goals cases h
  · split at h <;> cases h
  · split at h <;> cases h
  · split at h <;> cases h
  · exact h
theorem inv_soft {ops : List Oper} {ao : AO} {e sz b : Nat} {s x : AX} (h : softA ops ao = .append e sz b s x) : ao = .append e sz b s x := by
  unfold softA at h
  split at h
  · split at h
    · cases h
    · exact h
  · exact h
theorem inv_append {cp : CP} {d : Option Nat} {ops : List Oper} {ao : AO} {e sz b : Nat} {s x : AX} (h : lateA cp (dryIf cp d (effA cp d (softA ops ao))) = .append e sz b s x) : ao = .append e sz b s x :=
  inv_soft (inv_eff (inv_dry (inv_late h)))
theorem cOper_spec {cp : CP} (hkp : C.keep = true → cp.keep = true ∧ (cp.from_ = 0 ∨ C.E0.κ.length ≤ cp.from_)) {ops : List Oper} {o : Oper} {ao : AOp} (h : cOper P cp ops o = some ao) : ∃ g op, cGuard ops o.guard = some g ∧ ao = ⟨o.dst, g, op⟩ ∧ OperOk P C o op := by
  unfold cOper at h
  split at h
  · rename_i g hg
    split at h
    · rename_i op hop
      simp only [Option.some.injEq] at h
      refine ⟨g, _, hg, h.symm, ?_⟩
      unfold keepA
      split
      · rename_i hbr
        have hkq := hkp
        generalize hao : lateA cp (dryIf cp o.dst (effA cp o.dst (softA ops op))) = ao'
        have hbad : OperOk P C o .bad := ⟨fun st K hk => False.elim hk, fun ev H O K _ hk => hk.elim⟩
        cases ao' with
        | append e sz b s x =>
          show OperOk P C o (if cp.from_ = 0 then .bad else .appendN cp.from_ e sz b s x)
          split
          · exact hbad
          rename_i hne
          have hop' := inv_append hao
          rw [hop'] at hop
          obtain ⟨u, v, ts, t', i, z, h1, h2, h3, h4, h5, h6, h7, h8, h9, h10⟩ := append_shape hop
          subst h9; subst h10
          refine ⟨fun st K hk => ?_, fun ev H O K hs => by simp [isSoft] at hs⟩
          obtain ⟨news, hn, hfr, hk⟩ := onOpt_elim hk
          exact ok_append h1 h2 h3 h4 h5 h6 h7 h8 hn (fun q => ⟨fun k hev => by
            rw [hev] at hfr
            have hfr : cp.from_ ≤ k := hfr
            exact Nat.le_trans ((hkq q).2.resolve_left hne) hfr, fun v x hev => by rw [hev] at hfr; exact hfr, fun k c hev => by
            rw [hev] at hfr
            have hfr : cp.from_ ≤ k := hfr
            exact Nat.le_trans ((hkq q).2.resolve_left hne) hfr⟩) hk
        | _ => exact hbad
      rename_i hnb
      rw [isBreak_late, isBreak_dry] at hnb
      replace hnb : C.keep = true → isBreak (effA cp o.dst (softA ops op)) = false := fun q => by
        cases hb : isBreak (effA cp o.dst (softA ops op)) with
        | false => rfl
        | true => exact absurd ⟨(hkp q).1, hb⟩ hnb
      clear h
      refine OperOk.late (OperOk.dry ?_ cp o.dst) cp
      unfold softA
      split
      · rename_i e sz b t x
        split
        · -- onto a full slice
          show OperOk P C o (.appendS e sz b (.tmp t) x)
          refine OperOk.soft rfl fun ev H O K hk => ?_
          · obtain ⟨u, v, ts, t', i, z, h1, h2, h3, h4, h5, h6, h7, h8, h9, h10⟩ := append_shape hop
            obtain ⟨news, hn, hk⟩ := onOpt_elim hk
            obtain ⟨s', rows, hs, ⟨g1, g2, g3, g4⟩, hk2⟩ := onFull_elim hk
            subst h9; subst h10
            exact good_appendF h1 h2 h3 h4 h5 h6 h7 h8 hn hs g1 g2 g3 g4 hk2
        · exact OperOk.of (C := C) (fun q => by have h := hnb q; simp only [softA, effA] at h; first | exact h | rfl | (rw [if_neg ‹_›] at h; exact h)) hop
      · unfold effA
        split
        · split
          · split
            · split
              · obtain ⟨ops', ts, h1, h2, h3⟩ := call_shape hop
                refine ⟨fun st K hk => ?_, fun ev H O K hs => by simp [isSoft] at hs⟩
                obtain ⟨r, H', Y, hd, _, hk⟩ := hk
                exact ok_callI h1 h2 h3 ⟨r, H', st.O ++ Y, true, fun _ => rfl, hd, hk⟩
              · obtain ⟨ops', ts, h1, h2, h3⟩ := call_shape hop
                refine ⟨fun st K hk => ?_, fun ev H O K hs => by simp [isSoft] at hs⟩
                obtain ⟨r, H', O', hd, _, hk⟩ := hk
                exact ok_callI h1 h2 h3 ⟨r, H', O', true, fun _ => rfl, hd, hk⟩
            · obtain ⟨ops', ts, h1, h2, h3⟩ := call_shape hop
              exact ⟨fun st K ⟨r, H', O', keep, hd, hk⟩ => ok_callI h1 h2 h3 ⟨r, H', O', keep, fun q => absurd (hnb q) (by simp only [softA, effA]; rw [if_pos ‹_›, if_neg ‹_›]; simp [isBreak]), hd, hk⟩, fun ev H O K hs => by simp [isSoft] at hs⟩
          · split
            · obtain ⟨ops', ts, h1, h2, h3⟩ := call_shape hop
              have gd : ∀ (ev : AX → AV) (H : List (List AV)) (O : List OwnD) (K : AV → Prop), asoft P ev H O K (.callT _ _) → ∃ r, Good P o ev H O r ∧ K r := fun ev H O K hk => by
                obtain ⟨as, has, r, hp, hsc, hk⟩ := onOpt_elim hk
                exact ⟨r, good_callT h1 h2 h3 has hp hsc, hk⟩
              refine ⟨fun st K hk E a w hsat KK Q hKK => ?_, fun ev H O K _ hk => gd ev H O K hk⟩
              obtain ⟨r, hg, hk⟩ := gd (aval st.fr) st.H st.O (fun v => K v st) hk
              exact hg C.base C.w0 E a w hsat.holds (fun x y _ hy => rep_aval hsat.fr hy) KK Q fun v E' w' hh hx hn hv => hKK E' w' v r st hk ((hsat.later hh hx hn).put hv _)
            · split
              · split
                · obtain ⟨ops', ts, h1, h2, h3⟩ := call_shape hop
                  exact ⟨fun st K hk => ok_callFC h1 h2 h3 hk, fun ev H O K hs => by simp [isSoft] at hs⟩
                · obtain ⟨ops', ts, h1, h2, h3⟩ := call_shape hop
                  exact ⟨fun st K hk => ok_callF h1 h2 h3 hk, fun ev H O K hs => by simp [isSoft] at hs⟩
              · exact OperOk.of (C := C) (fun q => by have h := hnb q; simp only [softA, effA] at h; first | exact h | rfl | (rw [if_neg ‹_›] at h; exact h)) hop
        · split
          · obtain ⟨t, ops', ts, h1, h2, h3⟩ := callv_shape hop
            subst h2
            exact ⟨fun st K hk => ok_callvI (fun q => absurd (hnb q) (by simp only [softA, effA]; rw [if_pos ‹_›]; simp [isBreak])) h1 (fun f => by simp) rfl h3 hk, fun ev H O K hs => by simp [isSoft] at hs⟩
          · exact OperOk.of (C := C) (fun q => by have h := hnb q; simp only [softA, effA] at h; first | exact h | rfl | (rw [if_neg ‹_›] at h; exact h)) hop
        · split
          · obtain ⟨t, len, parts, i, z, zs, h1, h2, h3, h4, h5, h6, h7, h8, h9, h10, h11⟩ := build_shape hop
            subst h11
            refine ⟨fun st K hk => ?_, fun ev H O K hs => by simp [isSoft] at hs⟩
            obtain ⟨rows, hr, ⟨g1, g2⟩, hk⟩ := onOpt_elim hk
            exact ok_buildO h1 h2 h3 h4 h5 h6 h7 h8 h9 h10 hr g1 hk
          · exact OperOk.of (C := C) (fun q => by have h := hnb q; simp only [softA, effA] at h; first | exact h | rfl | (rw [if_neg ‹_›] at h; exact h)) hop
        · split
          · obtain ⟨t, l, c, i, z, h1, h2, h3, h4, h5, h6, h7, h8, h9, h10⟩ := make_shape hop
            subst h9; subst h10
            refine ⟨fun st K hk => ?_, fun ev H O K hs => by simp [isSoft] at hs⟩
            obtain ⟨kl, n, hln, h⟩ := onInt_elim hk
            obtain ⟨kc, m, hcm, ⟨g1, g2, g3, g4, g5, g6⟩, g7⟩ := onInt_elim h
            exact ok_makeC h1 h2 h3 h4 h5 h6 h7 h8 hln hcm g1 g2 g3 g4 g5 g7
          · exact OperOk.of (C := C) (fun q => by have h := hnb q; simp only [softA, effA] at h; first | exact h | rfl | (rw [if_neg ‹_›] at h; exact h)) hop
        · exact OperOk.of (C := C) (fun q => by have h := hnb q; simp only [softA, effA] at h; first | exact h | rfl | (rw [if_neg ‹_›] at h; exact h)) hop
    · simp only [Option.some.injEq] at h
      refine ⟨g, _, hg, h.symm, fun st K hk => ?_, fun ev H O K _ hk => hk.elim⟩
      exact False.elim hk
  · cases h

theorem RepF.refine {E : Env} {w : World} {fr : List AV} {tmps : Array Value} (h : RepF E w fr tmps) {t : Nat} {x : AV} (hx : RepV E w x (tmps.getD t Go.undef)) : RepF E w (fr.set t x) tmps := by
  refine ⟨by simp [h.1], fun j y u hy hu => ?_⟩
  rw [List.getElem?_set] at hy
  by_cases hd : t = j
  · subst hd
    simp only [if_true] at hy
    split at hy
    · cases hy
      have : tmps.getD t Go.undef = u := by simp [hu]
      rw [← this]; exact hx
    · cases hy
  · rw [if_neg hd] at hy
    exact h.2 j y u hy hu

theorem Sat.refine {E : Env} {a : Act} {w : World} {st : St} (h : Sat C E a w st) {t : Nat} {x : AV} (hx : RepV E w x (a.tmps.getD t Go.undef)) : Sat C E a w { st with fr := st.fr.set t x } :=
  ⟨h.holds, h.S, h.ι, h.news, h.defers, h.κ, h.fr.refine hx⟩

theorem guard_spec {ops : List Oper} {g : Option (Nat × Bool)} {j : Nat} {b : Bool} (h : cGuard ops (some (j, b)) = some g) : ∃ o t, ops[j]? = some o ∧ o.dst = some t ∧ g = some (t, b) := by
  simp only [cGuard] at h
  split at h
  · rename_i o ho
    split at h
    · rename_i t ht
      simp at h
      exact ⟨o, t, ho, ht, h.symm⟩
    · cases h
  · cases h

theorem ops_ok {cp : CP} (hkp : C.keep = true → cp.keep = true ∧ (cp.from_ = 0 ∨ C.E0.κ.length ≤ cp.from_)) {ops : Array Oper} {Kf : St → Prop} : ∀ {l : List Oper} {al : List AOp}, mapO (cOper P cp ops.toList) l = some al → ∀ {st : St}, aops P Kf al st → ∀ {E : Env} {a : Act} {w : World}, Sat C E a w st →
    ∀ {Q : Exit → Act → World → Prop}, (∀ E' a' w' st', Kf st' → Sat C E' a' w' st' → Q .normal a' w') → wpList P ops Q l a w
  | [], al, hm, st, h, E, a, w, hsat, Q, hq => by
    simp [mapO] at hm; subst hm
    exact hq E a w st h hsat
  | o :: l, al, hm, st, h, E, a, w, hsat, Q, hq => by
    unfold mapO at hm
    split at hm
    · rename_i ao al' hao hal
      simp at hm; subst hm
      obtain ⟨g, op, hg, rfl, hop⟩ := cOper_spec (C := C) hkp hao
      · unfold wpList
        have run : ∀ {st : St} {E : Env}, Sat C E a w st → aop P op st (fun v st' => aops P Kf al' (st'.put o.dst v)) → o.wp P a w (wpList P ops Q l) Q := fun hsat h =>
          hop.1 _ _ h _ a w hsat _ _ fun E' w' u v st' hk hs => ops_ok hkp hal hk hs hq
        have skip : ∀ {st : St} {E : Env}, Sat C E a w st → aops P Kf al' (st.put o.dst .undef) → wpList P ops Q l (a.put o.dst Go.undef) w := fun hsat h =>
          ops_ok hkp hal h (hsat.put .undef _) hq
        cases hgd : o.guard with
        | none =>
          rw [hgd] at hg; simp [cGuard] at hg; subst hg
          rw [if_pos (by simp [Region.wanted, hgd])]
          simp only [aops] at h
          exact .inl (run hsat h)
        | some jb =>
          obtain ⟨j, b⟩ := jb
          rw [hgd] at hg
          obtain ⟨oj, t, hj, ht, rfl⟩ := guard_spec hg
          simp only [aops] at h
          have hj' : ops[j]? = some oj := by simpa using hj
          have hrep := hsat.fr.get t
          unfold aguard at h
          split at h
          · rename_i c hc
            rw [hc] at hrep
            have hv := hrep.bool_
            have hy : yielded ops a.tmps j = some c := by
              have hlt : t < a.tmps.size := by
                rcases Nat.lt_or_ge t a.tmps.size with h' | h'
                · exact h'
                · simp [h'] at hv
                  cases hv
              have : a.tmps[t]? = some (.bool c) := by simp [hlt] at hv ⊢; exact hv
              simp [yielded, hj', ht, this]
            have hwant : Region.wanted o (yielded ops a.tmps) = (c == b) := by
              simp only [Region.wanted, hgd, hy]
              cases c <;> cases b <;> rfl
            rw [hwant]
            rcases onCase_elim h with ⟨he, hk⟩ | ⟨he, hk⟩
            · rw [he]
              have : c = b := by simpa using he
              subst this
              simp only [if_true]
              exact .inl (run (hsat.refine (t := t) (x := .a (.bool c)) hrep) hk)
            · rw [he]
              have : c = !b := by cases c <;> cases b <;> simp_all
              subst this
              simp only [Bool.false_eq_true, if_false]
              exact skip (hsat.refine (t := t) (x := .a (.bool (!b))) hrep) hk
          · rename_i hc
            rw [hc] at hrep
            have hv : a.tmps.getD t Go.undef = Go.undef := by
              generalize a.tmps.getD t Go.undef = v at hrep
              cases hrep; rfl
            have hy : yielded ops a.tmps j = none := by
              cases hx : a.tmps[t]? with
              | none => simp [yielded, hj', ht, hx]
              | some v =>
                have : v = Go.undef := by simpa [hx] using hv
                subst this
                simp [yielded, hj', ht, hx, Go.undef]
            have hwant : Region.wanted o (yielded ops a.tmps) = false := by
              simp only [Region.wanted, hgd, hy]; rfl
            rw [hwant]
            simp only [Bool.false_eq_true, if_false]
            exact skip hsat h
          · exact h.elim
    · cases hm
end
end Ab
