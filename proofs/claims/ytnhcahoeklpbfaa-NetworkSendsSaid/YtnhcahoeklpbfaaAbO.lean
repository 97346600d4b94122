/- Arguments as they come in, as abstract values. No program. -/
import Derived.Test.YtnhcahoeklpbfaaAbM
import Derived.ChangeArms
import Derived.ChangeSame
import Derived.SizedLaws
import Derived.WideShapes
set_option linter.unusedSimpArgs false
set_option linter.unusedVariables false
namespace Ab
open Go Go.RowKit Go.ChangeShapes Go.WideShapes

def HasAll (R : TypeId → List Atom → Prop) : List TypeId → List Atom → Prop
  | [], xs => xs = []
  | t :: ts, xs => ∃ p r, xs = p ++ r ∧ R t p ∧ HasAll R ts r

/-- Data of a type, of any size that a machine bears. -/
def Has (P : Program) : Nat → TypeId → List Atom → Prop
  | 0, _, _ => False
  | n + 1, t, xs =>
    match P.underlying t with
    | some .bool => ∃ b, xs = [.bool b]
    | some (.int k) => ∃ m, xs = [.int k m] ∧ (Lit.int k m).wf = true
    | some .string => ∃ s : ByteArray, xs = [.str s] ∧ s.size ≤ reachBytes
    | some (.slice e) => ∃ rows, xs = [.slice (P.cellsOf e) rows] ∧ rows.length ≤ 9223372036854775807 ∧ rows.length * P.bytesOf e ≤ reachBytes ∧ ∀ r ∈ rows, Has P n e r
    | some (.struct fs) => HasAll (Has P n) (fs.toList.map (·.type)) xs
    | _ => False

/-- Fields that lie one behind the other. -/
def contig (P : Program) : Nat → List Field → Option Nat
  | off, [] => some off
  | off, f :: fs => if f.offset = off then contig P (off + P.cellsOf f.type) fs else none

/-- Types that are opened. -/
def okTy (P : Program) : Nat → TypeId → Bool
  | 0, _ => false
  | n + 1, t =>
    match P.underlying t with
    | some .bool | some (.int _) | some .string => true
    | some (.slice e) => okTy P n e && decide (0 < P.cellsOf e)
    | some (.struct fs) => decide (contig P 0 fs.toList = some (P.cellsOf t)) && fs.toList.all fun f => okTy P n f.type
    | _ => false

/-- Everything that is there. -/
def There (w : World) (g o : Nat) : Prop := ∃ u, w.cell? ⟨g, o, none⟩ = some u

section
variable {H : Type} {enc : TypeId × Value → H} {P : Program} {w : World} {base : Nat} {spare : Nat → Bool} {held : Bool}

def RepCs (w : World) (xs : List Atom) (cs : List Value) : Prop :=
  xs.length = cs.length ∧ ∀ (j : Nat) (x : Atom) (u : Value), xs[j]? = some x → cs[j]? = some u → Rep (There w) w x u

theorem RepCs.one {x : Atom} {u : Value} (h : Rep (There w) w x u) : RepCs w [x] [u] := by
  refine ⟨rfl, fun j y v hj hv => ?_⟩
  cases j with
  | zero => simp at hj hv; subst hj; subst hv; exact h
  | succ j => simp at hj

theorem weightsAll_mem {e : TypeId} : ∀ {l : List (DataW H)} {d : DataW H}, d ∈ l → ∀ n ∈ d.weights P e, n ∈ DataW.weightsAll P e l
  | d' :: l, d, h, n, hn => by
    simp only [DataW.weightsAll, List.mem_append]
    rcases List.mem_cons.1 h with h | h
    · subst h; exact .inl hn
    · exact .inr (weightsAll_mem h n hn)

theorem fields_ok {n : Nat} (ih : ∀ (fuel : Nat) (t : TypeId) (cs : List Value) (x : DataW H × List MemPlace), okTy P n t = true → DataW.trod enc P w base spare held fuel t cs = some x → (∀ q ∈ x.1.weights P t, q ≤ reachBytes) → ∃ xs, Has P n t xs ∧ RepCs w xs cs)
    (cs : List Value) (m : Nat) : ∀ (fs : List Field) (off top : Nat) (ys : List (DataW H × List MemPlace)), contig P off fs = some top → fs.all (fun f => okTy P n f.type) = true → top ≤ cs.length → ys.length = fs.length →
      (∀ (i : Nat) (f : Field), fs[i]? = some f → DataW.trod enc P w base spare held m f.type ((cs.drop f.offset).take (P.cellsOf f.type)) = ys[i]?) → (∀ q ∈ DataW.weightsEach P (fs.map (·.type)) (ys.map (·.1)), q ≤ reachBytes) →
      off ≤ top ∧ ∃ xs, HasAll (Has P n) (fs.map (·.type)) xs ∧ RepCs w xs ((cs.take top).drop off)
  | [], off, top, ys, hc, _, ht, _, _, _ => by
    simp [contig] at hc; subst hc
    refine ⟨Nat.le_refl _, [], rfl, ?_, fun j x u hj => by simp at hj⟩
    simp
  | f :: fs, off, top, ys, hc, hok, ht, hyl, htr, hw => by
    simp only [contig] at hc
    split at hc
    · rename_i hoff
      cases ys with
      | nil => simp at hyl
      | cons y ys =>
        simp only [List.all_cons, Bool.and_eq_true] at hok
        simp only [List.map_cons, DataW.weightsEach, List.mem_append] at hw
        obtain ⟨hle, xs, hx1, hx2⟩ := fields_ok ih cs m fs _ top ys hc hok.2 ht (by simpa using hyl) (fun i g hg => by simpa using htr (i + 1) g (by simpa using hg)) (fun q hq => hw q (.inr hq))
        obtain ⟨p, hp1, hp2⟩ := ih m f.type _ y hok.1 (by simpa using htr 0 f rfl) (fun q hq => hw q (.inl hq))
        have hpl : p.length = P.cellsOf f.type := by
          rw [hp2.1, hoff, List.length_take, List.length_drop]; omega
        refine ⟨by omega, p ++ xs, ⟨p, xs, rfl, hp1, hx1⟩, ?_, fun j x u hj hu => ?_⟩
        · rw [List.length_append, hx2.1, hpl]
          simp only [List.length_drop, List.length_take]
          omega
        · rw [List.getElem?_drop, List.getElem?_take] at hu
          split at hu
          · rename_i hlt
            rcases Nat.lt_or_ge j p.length with hjl | hjl
            · rw [List.getElem?_append_left hjl] at hj
              refine hp2.2 j x u hj ?_
              rw [List.getElem?_take, if_pos (by omega), List.getElem?_drop, hoff]
              exact hu
            · rw [List.getElem?_append_right hjl] at hj
              refine hx2.2 (j - p.length) x u hj ?_
              have e : off + P.cellsOf f.type + (j - p.length) = off + j := by omega
              rw [List.getElem?_drop, List.getElem?_take, e, if_pos hlt]
              exact hu
          · cases hu
    · cases hc

theorem listOf {α : Type} (n : Nat) (Q : Nat → α → Prop) (h : ∀ i, i < n → ∃ a, Q i a) : ∃ l : List α, l.length = n ∧ ∀ (i : Nat) (a : α), l[i]? = some a → Q i a := by
  induction n with
  | zero => exact ⟨[], rfl, fun i a h => by simp at h⟩
  | succ n ih =>
    obtain ⟨l, hl, hq⟩ := ih fun i hi => h i (by omega)
    obtain ⟨a, ha⟩ := h n (by omega)
    refine ⟨l ++ [a], by simp [hl], fun i b hb => ?_⟩
    by_cases hi : i < l.length
    · rw [List.getElem?_append_left hi] at hb; exact hq i b hb
    · have hn : i = n := by
        have := (List.getElem?_eq_some_iff.1 hb).1
        simp at this; omega
      subst hn
      rw [List.getElem?_append_right (by omega)] at hb
      simp [hl] at hb
      subst hb; exact ha

theorem has_of_trod : ∀ (n fuel : Nat) (t : TypeId) (cs : List Value) (x : DataW H × List MemPlace), okTy P n t = true → DataW.trod enc P w base spare held fuel t cs = some x → (∀ q ∈ x.1.weights P t, q ≤ reachBytes) → ∃ xs, Has P n t xs ∧ RepCs w xs cs
  | 0, _, _, _, _, h, _, _ => by simp [okTy] at h
  | n + 1, fuel, t, cs, x, hok, h, hw => by
    simp only [okTy] at hok
    split at hok
    · rename_i hu
      obtain ⟨b, rfl, rfl⟩ := DataW.trod_bool hu h
      exact ⟨[.bool b], by simp only [Has, hu]; exact ⟨b, rfl⟩, .one (.bool b)⟩
    · rename_i k hu
      obtain ⟨m, rfl, rfl, hwf⟩ := DataW.trod_int hu h
      exact ⟨[.int k m], by simp only [Has, hu]; exact ⟨m, rfl, hwf⟩, .one (.int k m)⟩
    · rename_i hu
      obtain ⟨s, rfl, rfl, hs⟩ := DataW.trod_string hu h
      have h1 : s.size ≤ reachBytes := by
        have := hw s.data.toList.length (by simp [DataW.weights])
        simpa using this
      exact ⟨[.str s], by simp only [Has, hu]; exact ⟨s, rfl, h1⟩, .one (.str s (by simp only [maxLen] at hs; omega))⟩
    · rename_i e hu
      simp only [Bool.and_eq_true, decide_eq_true_eq] at hok
      rcases DataW.trod_slice hu h with ⟨rfl, rfl⟩ | ⟨a, len, cap, elems, rest, m, _, rfl, rfl, hb, hl, hcm, hel, htr, _, _⟩
      · exact ⟨[.slice (P.cellsOf e) []], by simp only [Has, hu]; exact ⟨[], rfl, by simp, by simp, by simp⟩, .one (.empty _ _ _ (by simp [maxLen]) (fun _ => rfl))⟩
      · simp only [DataW.weights, hu, List.length_map] at hw
        have hbytes : len * P.bytesOf e ≤ reachBytes := by
          have := hw _ (List.mem_cons_self ..)
          refine Nat.le_trans (Nat.mul_le_mul_right _ ?_) this
          omega
        have hlen : len ≤ 9223372036854775807 := by simp only [maxLen] at hcm; omega
        obtain ⟨rows, hrl, hrows⟩ := listOf len (fun i (r : List Atom) => Has P n e r ∧ ∃ cs', w.cells? base (a.add (i * P.cellsOf e)) (P.cellsOf e) = some cs' ∧ RepCs w r cs') (by
          intro i hi
          have h1 := htr i hi
          have hie : i < elems.length := by omega
          rw [List.getElem?_eq_getElem hie] at h1
          cases hc : w.cells? base (a.add (i * P.cellsOf e)) (P.cellsOf e) with
          | none => rw [hc] at h1; simp at h1
          | some cs' =>
            rw [hc] at h1
            simp only [Option.bind_some] at h1
            obtain ⟨r, hr1, hr2⟩ := has_of_trod n m e cs' elems[i] hok.1 h1 (fun q hq => hw q (by
              refine List.mem_cons_of_mem _ (List.mem_append_left _ ?_)
              exact weightsAll_mem (List.mem_map.2 ⟨elems[i], List.getElem_mem hie, rfl⟩) q hq))
            exact ⟨r, hr1, cs', rfl, hr2⟩)
        subst hrl
        refine ⟨[.slice (P.cellsOf e) rows], by
          simp only [Has, hu]
          exact ⟨rows, rfl, hlen, hbytes, fun r hr => by
            obtain ⟨i, hi, rfl⟩ := List.mem_iff_getElem.1 hr
            exact (hrows i _ (List.getElem?_eq_getElem hi)).1⟩, .one ?_⟩
        by_cases h0 : rows = []
        · subst h0; exact .empty _ _ _ hcm (fun h => by simp at h)
        · have hpos : 0 < rows.length := List.length_pos_iff.2 h0
          obtain ⟨r0, hr0⟩ : ∃ r, rows[0]? = some r := ⟨_, List.getElem?_eq_getElem hpos⟩
          have hsp : a.spot = none := by
            obtain ⟨_, cs', hc, _⟩ := hrows 0 r0 hr0
            obtain ⟨_, hcl, hat⟩ := World.cells?_some hc
            have h1 := hat 0 (by omega)
            simp only [Nat.zero_mul, Addr.add, if_true] at h1
            have h2 : cs'[0]? = some (cs'[0]'(by omega)) := List.getElem?_eq_getElem (by omega)
            rw [h2] at h1
            cases hs : a.spot with
            | none => rfl
            | some sp =>
              unfold World.cell? at h1
              split at h1
              · simp [hs] at h1
              · cases h1
          have ha : a = ⟨a.block, a.off, none⟩ := by cases a; simp_all
          rw [ha] at hrows ⊢
          have key : ∀ (i : Nat) (r : List Atom), rows[i]? = some r → r.length = P.cellsOf e ∧ ∀ (j : Nat) (x : Atom), r[j]? = some x → ∃ u, w.cell? ⟨a.block, a.off + i * P.cellsOf e + j, none⟩ = some u ∧ Rep (There w) w x u := by
            intro i r hi
            obtain ⟨_, cs', hc, hr⟩ := hrows i r hi
            obtain ⟨_, hcl, hat⟩ := World.cells?_some hc
            refine ⟨hr.1.trans hcl, fun j x hj => ?_⟩
            have hjl : j < cs'.length := by rw [← hr.1]; exact (List.getElem?_eq_some_iff.1 hj).1
            have h1 := hat j (by omega)
            rw [add_at, add_at, List.getElem?_eq_getElem hjl] at h1
            exact ⟨_, h1, hr.2 j x _ hj (List.getElem?_eq_getElem hjl)⟩
          refine .slice _ rows a.block a.off cap (fun q => (w.cell? ⟨a.block, a.off + q, none⟩).getD Go.undef) hlen hl hcm (fun i r hi => (key i r hi).1) (fun i r j x hi hj => ?_) (fun i r j x hi hj => ?_)
          · obtain ⟨u, hu', hru⟩ := (key i r hi).2 j x hj
            refine ⟨⟨u, hu'⟩, ?_⟩
            rw [← Nat.add_assoc, hu']; rfl
          · obtain ⟨u, hu', hru⟩ := (key i r hi).2 j x hj
            rw [← Nat.add_assoc, hu']; exact hru
    · rename_i fs hu
      simp only [Bool.and_eq_true, decide_eq_true_eq] at hok
      obtain ⟨ys, m, _, rfl, hcl, hyl, hf⟩ := DataW.trod_struct hu h
      simp only [DataW.weights, hu] at hw
      obtain ⟨_, xs, hx1, hx2⟩ := fields_ok (fun fuel t cs x => has_of_trod n fuel t cs x) cs m fs.toList 0 (P.cellsOf t) ys hok.1 hok.2 (by omega) (by simpa using hyl) (fun i f hi => hf i f (by simpa using hi)) hw
      refine ⟨xs, by simp only [Has, hu]; exact hx1, ?_⟩
      rw [List.drop_zero, List.take_of_length_le (by omega)] at hx2
      exact hx2
    · cases hok

/-- An argument of one cell. -/
theorem open_one {n : Nat} {t : TypeId} {v : Value} {d : DataW H} {p : List MemPlace} (hok : okTy P n t = true) (hone : v.cells = #[v]) (h : DataW.Trod enc P w base spare held t v d p) (hw : ∀ q ∈ d.weights P t, q ≤ reachBytes) :
    ∃ x, Has P n t [x] ∧ RepV ⟨There w, [], []⟩ w (.a x) v := by
  obtain ⟨fuel, hx⟩ := h
  obtain ⟨xs, h1, h2, h3⟩ := has_of_trod n fuel t _ _ hok hx hw
  rw [hone] at h2 h3
  simp at h2
  match xs, h2 with
  | [x], _ => exact ⟨x, h1, .a (h3 0 x v rfl rfl)⟩

/-- An argument that is a struct. -/
theorem open_agg {r : Reach} {b0 n : Nat} {t : TypeId} {fs : Array Field} {v : Value} {d : DataW H} {p : List MemPlace} (hs : P.underlying t = some (.struct fs)) (hok : okTy P n t = true) (hv : Value.okWide P w r b0 t v) (h : DataW.Trod enc P w base spare held t v d p) (hw : ∀ q ∈ d.weights P t, q ≤ reachBytes) :
    ∃ xs, Has P n t xs ∧ RepV ⟨There w, [], []⟩ w (.agg xs) v := by
  obtain ⟨cs, rfl, hsz⟩ := okWide_struct hs hv
  obtain ⟨fuel, hx⟩ := h
  obtain ⟨xs, h1, h2, h3⟩ := has_of_trod n fuel t _ _ hok hx hw
  exact ⟨xs, h1, .agg (by simpa [Value.cells] using h2.symm) fun j x u hj hu => h3 j x u hj (by simpa [Value.cells] using hu)⟩
end
end Ab
