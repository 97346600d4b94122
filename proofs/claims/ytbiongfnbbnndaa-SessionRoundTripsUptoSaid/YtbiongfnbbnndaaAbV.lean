/- Arguments of the narrower form as they come in: no string and no list is longer than the bulk. -/
import Derived.Test.YtbiongfnbbnndaaAbO
import Derived.Test.YtbiongfnbbnndaaRows
set_option linter.unusedSimpArgs false
set_option linter.unusedVariables false
namespace Go.Proofs.Ytbiongfnbbnndaa
open Go Ab Go.RowKit Go.ChangeShapes Go.WideShapes

mutual
/-- What is read, counted. -/
def szA : Atom → Nat
  | .str s => s.size + 1
  | .slice _ rows => szRs rows + 1
  | _ => 1
def szL : List Atom → Nat
  | [] => 0
  | x :: xs => szA x + szL xs
def szRs : List (List Atom) → Nat
  | [] => 0
  | r :: rs => szL r + szRs rs
end
theorem szL_app (xs ys : List Atom) : szL (xs ++ ys) = szL xs + szL ys := by
  induction xs with
  | nil => simp [szL]
  | cons x xs ih => simp only [List.cons_append, szL, ih]; omega
theorem szRs_mem {r : List Atom} : ∀ {rs : List (List Atom)}, r ∈ rs → szL r ≤ szRs rs
  | x :: rs, h => by
    simp only [szRs]
    rcases List.mem_cons.1 h with rfl | h
    · omega
    · have := szRs_mem h; omega

theorem one_leV {H : Type} (d : DataW H) : 1 ≤ Rows.uptoBulk d := by
  cases d with
  | lit l => cases l <;> simp [Rows.uptoBulk]
  | nil => simp [Rows.uptoBulk]
  | ptr d => simp [Rows.uptoBulk]
  | slice elems spare => simp [Rows.uptoBulk]
  | agg parts => simp [Rows.uptoBulk]
  | iface t d => simp [Rows.uptoBulk]
  | map entries => simp [Rows.uptoBulk]
  | held h => simp [Rows.uptoBulk]
theorem length_leU {H : Type} (l : List (DataW H)) : l.length ≤ Rows.uptoBulkAll l := by
  induction l with
  | nil => simp [Rows.uptoBulkAll]
  | cons x r ih => have := one_leV x; simp only [Rows.uptoBulkAll, List.length_cons]; omega
theorem mem_leU {H : Type} {l : List (DataW H)} {d : DataW H} (h : d ∈ l) : Rows.uptoBulk d ≤ Rows.uptoBulkAll l := by
  induction l with
  | nil => cases h
  | cons x r ih =>
    simp only [Rows.uptoBulkAll]
    rcases List.mem_cons.1 h with rfl | h
    · omega
    · have := ih h; omega

/-- Data of a type, of any size that a machine bears. -/
def HasU (P : Program) : Nat → TypeId → List Atom → Prop
  | 0, _, _ => False
  | n + 1, t, xs =>
    match P.underlying t with
    | some .bool => ∃ b, xs = [.bool b]
    | some (.int k) => ∃ m, xs = [.int k m] ∧ (Lit.int k m).wf = true
    | some .string => ∃ s : ByteArray, xs = [.str s] ∧ s.size ≤ 1048576
    | some (.slice e) => ∃ rows, xs = [.slice (P.cellsOf e) rows] ∧ rows.length ≤ 1048576 ∧ ∀ r ∈ rows, HasU P n e r
    | some (.struct fs) => HasAll (HasU P n) (fs.toList.map (·.type)) xs
    | _ => False

theorem szRs_le {H : Type} : ∀ (rows : List (List Atom)) (ds : List (DataW H)), rows.length ≤ ds.length → (∀ (i : Nat) (r : List Atom) (d : DataW H), rows[i]? = some r → ds[i]? = some d → szL r ≤ Rows.uptoBulk d) → szRs rows ≤ Rows.uptoBulkAll ds
  | [], ds, _, _ => by simp [szRs]
  | r :: rows, [], h, _ => by simp at h
  | r :: rows, d :: ds, h, hh => by
    have ih := szRs_le rows ds (by simpa using h) (fun i r' d' h1 h2 => hh (i + 1) r' d' (by simpa using h1) (by simpa using h2))
    have h0 := hh 0 r d rfl rfl
    simp only [szRs, Rows.uptoBulkAll]
    omega
section
variable {H : Type} {enc : TypeId × Value → H} {P : Program} {w : World} {base : Nat} {spare : Nat → Bool} {held : Bool}
theorem fields_okU {n : Nat} (ih : ∀ (fuel : Nat) (t : TypeId) (cs : List Value) (x : DataW H × List MemPlace), okTy P n t = true → DataW.trod enc P w base spare held fuel t cs = some x → Rows.uptoBulk x.1 ≤ 1048576 → ∃ xs, HasU P n t xs ∧ RepCs w xs cs ∧ szL xs ≤ Rows.uptoBulk x.1)
    (cs : List Value) (m : Nat) : ∀ (fs : List Field) (off top : Nat) (ys : List (DataW H × List MemPlace)), contig P off fs = some top → fs.all (fun f => okTy P n f.type) = true → top ≤ cs.length → ys.length = fs.length →
      (∀ (i : Nat) (f : Field), fs[i]? = some f → DataW.trod enc P w base spare held m f.type ((cs.drop f.offset).take (P.cellsOf f.type)) = ys[i]?) → Rows.uptoBulkAll (ys.map (·.1)) ≤ 1048576 →
      off ≤ top ∧ ∃ xs, HasAll (HasU P n) (fs.map (·.type)) xs ∧ RepCs w xs ((cs.take top).drop off) ∧ szL xs ≤ Rows.uptoBulkAll (ys.map (·.1))
  | [], off, top, ys, hc, _, ht, _, _, _ => by
    simp [contig] at hc; subst hc
    refine ⟨Nat.le_refl _, [], rfl, ⟨?_, fun j x u hj => by simp at hj⟩, by simp [szL]⟩
    simp
  | f :: fs, off, top, ys, hc, hok, ht, hyl, htr, hw => by
    simp only [contig] at hc
    split at hc
    · rename_i hoff
      cases ys with
      | nil => simp at hyl
      | cons y ys =>
        simp only [List.all_cons, Bool.and_eq_true] at hok
        simp only [List.map_cons, Rows.uptoBulkAll] at hw
        obtain ⟨hle, xs, hx1, hx2, hx3⟩ := fields_okU ih cs m fs _ top ys hc hok.2 ht (by simpa using hyl) (fun i g hg => by simpa using htr (i + 1) g (by simpa using hg)) (by omega)
        obtain ⟨p, hp1, hp2, hp3⟩ := ih m f.type _ y hok.1 (by simpa using htr 0 f rfl) (by omega)
        have hpl : p.length = P.cellsOf f.type := by
          rw [hp2.1, hoff, List.length_take, List.length_drop]; omega
        refine ⟨by omega, p ++ xs, ⟨p, xs, rfl, hp1, hx1⟩, ⟨?_, fun j x u hj hu => ?_⟩, by rw [szL_app]; simp only [List.map_cons, Rows.uptoBulkAll]; omega⟩
        · rw [List.length_append, hx2.1, hpl]
          simp only [List.length_drop, List.length_take]
          omega
        · rw [List.getElem?_drop, List.getElem?_take] at hu
          split at hu
          · rename_i hlt
            rcases Nat.lt_or_ge j p.length with hjl | hjl
            · rw [List.getElem?_append_left hjl] at hj
              refine hp2.2 j x u hj ?_
              rw [List.getElem?_take, if_pos (by omega), List.getElem?_drop, hoff]
              exact hu
            · rw [List.getElem?_append_right hjl] at hj
              refine hx2.2 (j - p.length) x u hj ?_
              have e : off + P.cellsOf f.type + (j - p.length) = off + j := by omega
              rw [List.getElem?_drop, List.getElem?_take, e, if_pos hlt]
              exact hu
          · cases hu
    · cases hc

theorem has_of_trodU : ∀ (n fuel : Nat) (t : TypeId) (cs : List Value) (x : DataW H × List MemPlace), okTy P n t = true → DataW.trod enc P w base spare held fuel t cs = some x → Rows.uptoBulk x.1 ≤ 1048576 → ∃ xs, HasU P n t xs ∧ RepCs w xs cs ∧ szL xs ≤ Rows.uptoBulk x.1
  | 0, _, _, _, _, h, _, _ => by simp [okTy] at h
  | n + 1, fuel, t, cs, x, hok, h, hw => by
    simp only [okTy] at hok
    split at hok
    · rename_i hu
      obtain ⟨b, rfl, rfl⟩ := DataW.trod_bool hu h
      exact ⟨[.bool b], by simp only [HasU, hu]; exact ⟨b, rfl⟩, .one (.bool b), by simp [szL, szA, Rows.uptoBulk]⟩
    · rename_i k hu
      obtain ⟨m, rfl, rfl, hwf⟩ := DataW.trod_int hu h
      exact ⟨[.int k m], by simp only [HasU, hu]; exact ⟨m, rfl, hwf⟩, .one (.int k m), by simp [szL, szA, Rows.uptoBulk]⟩
    · rename_i hu
      obtain ⟨s, rfl, rfl, hs⟩ := DataW.trod_string hu h
      have h1 : s.size ≤ 1048576 := by
        simp only [Rows.uptoBulk] at hw
        have : s.data.toList.length = s.size := by simp
        omega
      exact ⟨[.str s], by simp only [HasU, hu]; exact ⟨s, rfl, h1⟩, .one (.str s (by simp only [maxLen] at hs; omega)), by simp [szL, szA, Rows.uptoBulk]⟩
    · rename_i e hu
      simp only [Bool.and_eq_true, decide_eq_true_eq] at hok
      rcases DataW.trod_slice hu h with ⟨rfl, rfl⟩ | ⟨a, len, cap, elems, rest, m, _, rfl, rfl, hb, hl, hcm, hel, htr, _, _⟩
      · exact ⟨[.slice (P.cellsOf e) []], by simp only [HasU, hu]; exact ⟨[], rfl, by simp, by simp⟩, .one (.empty _ _ _ (by simp [maxLen]) (fun _ => rfl)), by simp [szL, szA, szRs, Rows.uptoBulk]⟩
      · simp only [Rows.uptoBulk] at hw
        have hall := length_leU (elems.map (·.1))
        rw [List.length_map] at hall
        have hlen0 : len ≤ 1048576 := by omega
        have hlen : len ≤ 9223372036854775807 := by omega
        obtain ⟨rows, hrl, hrows⟩ := listOf len (fun i (r : List Atom) => (HasU P n e r ∧ ∀ d : DataW H, (elems.map (·.1))[i]? = some d → szL r ≤ Rows.uptoBulk d) ∧ ∃ cs', w.cells? base (a.add (i * P.cellsOf e)) (P.cellsOf e) = some cs' ∧ RepCs w r cs') (by
          intro i hi
          have h1 := htr i hi
          have hie : i < elems.length := by omega
          rw [List.getElem?_eq_getElem hie] at h1
          cases hc : w.cells? base (a.add (i * P.cellsOf e)) (P.cellsOf e) with
          | none => rw [hc] at h1; simp at h1
          | some cs' =>
            rw [hc] at h1
            simp only [Option.bind_some] at h1
            obtain ⟨r, hr1, hr2, hr3⟩ := has_of_trodU n m e cs' elems[i] hok.1 h1 (by
              have := mem_leU (List.mem_map.2 ⟨elems[i], List.getElem_mem hie, rfl⟩ : elems[i].1 ∈ elems.map (·.1))
              omega)
            exact ⟨r, ⟨hr1, fun d hd => by
              rw [List.getElem?_map, List.getElem?_eq_getElem hie] at hd
              simp only [Option.map_some, Option.some.injEq] at hd
              rw [← hd]; exact hr3⟩, cs', rfl, hr2⟩)
        subst hrl
        refine ⟨[.slice (P.cellsOf e) rows], by
          simp only [HasU, hu]
          exact ⟨rows, rfl, hlen0, fun r hr => by
            obtain ⟨i, hi, rfl⟩ := List.mem_iff_getElem.1 hr
            exact (hrows i _ (List.getElem?_eq_getElem hi)).1.1⟩, .one ?_, ?_⟩
        rotate_left
        · have hsz := szRs_le rows (elems.map (·.1)) (by rw [List.length_map]; omega) (fun i r d h1 h2 => (hrows i r h1).1.2 d h2)
          simp only [szL, szA, Rows.uptoBulk]
          omega
        by_cases h0 : rows = []
        · subst h0; exact .empty _ _ _ hcm (fun h => by simp at h)
        · have hpos : 0 < rows.length := List.length_pos_iff.2 h0
          obtain ⟨r0, hr0⟩ : ∃ r, rows[0]? = some r := ⟨_, List.getElem?_eq_getElem hpos⟩
          have hsp : a.spot = none := by
            obtain ⟨_, cs', hc, _⟩ := hrows 0 r0 hr0
            obtain ⟨_, hcl, hat⟩ := World.cells?_some hc
            have h1 := hat 0 (by omega)
            simp only [Nat.zero_mul, Addr.add, if_true] at h1
            have h2 : cs'[0]? = some (cs'[0]'(by omega)) := List.getElem?_eq_getElem (by omega)
            rw [h2] at h1
            cases hs : a.spot with
            | none => rfl
            | some sp =>
              unfold World.cell? at h1
              split at h1
              · simp [hs] at h1
              · cases h1
          have ha : a = ⟨a.block, a.off, none⟩ := by cases a; simp_all
          rw [ha] at hrows ⊢
          have key : ∀ (i : Nat) (r : List Atom), rows[i]? = some r → r.length = P.cellsOf e ∧ ∀ (j : Nat) (x : Atom), r[j]? = some x → ∃ u, w.cell? ⟨a.block, a.off + i * P.cellsOf e + j, none⟩ = some u ∧ Rep (There w) w x u := by
            intro i r hi
            obtain ⟨_, cs', hc, hr⟩ := hrows i r hi
            obtain ⟨_, hcl, hat⟩ := World.cells?_some hc
            refine ⟨hr.1.trans hcl, fun j x hj => ?_⟩
            have hjl : j < cs'.length := by rw [← hr.1]; exact (List.getElem?_eq_some_iff.1 hj).1
            have h1 := hat j (by omega)
            rw [add_at, add_at, List.getElem?_eq_getElem hjl] at h1
            exact ⟨_, h1, hr.2 j x _ hj (List.getElem?_eq_getElem hjl)⟩
          refine .slice _ rows a.block a.off cap (fun q => (w.cell? ⟨a.block, a.off + q, none⟩).getD Go.undef) hlen hl hcm (fun i r hi => (key i r hi).1) (fun i r j x hi hj => ?_) (fun i r j x hi hj => ?_)
          · obtain ⟨u, hu', hru⟩ := (key i r hi).2 j x hj
            refine ⟨⟨u, hu'⟩, ?_⟩
            rw [← Nat.add_assoc, hu']; rfl
          · obtain ⟨u, hu', hru⟩ := (key i r hi).2 j x hj
            rw [← Nat.add_assoc, hu']; exact hru
    · rename_i fs hu
      simp only [Bool.and_eq_true, decide_eq_true_eq] at hok
      obtain ⟨ys, m, _, rfl, hcl, hyl, hf⟩ := DataW.trod_struct hu h
      simp only [Rows.uptoBulk] at hw
      obtain ⟨_, xs, hx1, hx2, hx3⟩ := fields_okU (fun fuel t cs x => has_of_trodU n fuel t cs x) cs m fs.toList 0 (P.cellsOf t) ys hok.1 hok.2 (by omega) (by simpa using hyl) (fun i f hi => hf i f (by simpa using hi)) (by omega)
      refine ⟨xs, by simp only [HasU, hu]; exact hx1, ?_, by simp only [Rows.uptoBulk]; omega⟩
      rw [List.drop_zero, List.take_of_length_le (by omega)] at hx2
      exact hx2
    · cases hok

/-- An argument of one cell. -/
theorem open_oneU {n : Nat} {t : TypeId} {v : Value} {d : DataW H} {p : List MemPlace} (hok : okTy P n t = true) (hone : v.cells = #[v]) (h : DataW.Trod enc P w base spare held t v d p) (hw : Rows.uptoBulk d ≤ 1048576) :
    ∃ x, HasU P n t [x] ∧ szA x ≤ Rows.uptoBulk d ∧ RepV ⟨There w, [], []⟩ w (.a x) v := by
  obtain ⟨fuel, hx⟩ := h
  obtain ⟨xs, h1, ⟨h2, h3⟩, h4⟩ := has_of_trodU n fuel t _ _ hok hx hw
  rw [hone] at h2 h3
  simp at h2
  match xs, h2 with
  | [x], _ => exact ⟨x, h1, by simpa [szL] using h4, .a (h3 0 x v rfl rfl)⟩

/-- An argument that is a struct. -/
theorem open_aggU {r : Reach} {b0 n : Nat} {t : TypeId} {fs : Array Field} {v : Value} {d : DataW H} {p : List MemPlace} (hs : P.underlying t = some (.struct fs)) (hok : okTy P n t = true) (hv : Value.okWide P w r b0 t v) (h : DataW.Trod enc P w base spare held t v d p) (hw : Rows.uptoBulk d ≤ 1048576) :
    ∃ xs, HasU P n t xs ∧ szL xs ≤ Rows.uptoBulk d ∧ RepV ⟨There w, [], []⟩ w (.agg xs) v := by
  obtain ⟨cs, rfl, hsz⟩ := okWide_struct hs hv
  obtain ⟨fuel, hx⟩ := h
  obtain ⟨xs, h1, ⟨h2, h3⟩, h4⟩ := has_of_trodU n fuel t _ _ hok hx hw
  exact ⟨xs, h1, h4, .agg (by simpa [Value.cells] using h2.symm) fun j x u hj hu => h3 j x u hj (by simpa [Value.cells] using hu)⟩
end
end Go.Proofs.Ytbiongfnbbnndaa
