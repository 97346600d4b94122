/- Stores in order: the search finds what is there; both ways to read a store agree. Plain law, no program but for its names. -/
import Derived.Test.YtlfebjehmabejaaRe
set_option linter.unusedSimpArgs false
set_option linter.unusedVariables false
namespace Go.Proofs.Ytlfebjehmabejaa
open Go Ab

theorem bl_trans : ∀ a b c : List UInt8, Op.bytesLess a b = true → Op.bytesLess b c = true → Op.bytesLess a c = true
  | _, [], _, h, _ => by simp [Op.bytesLess] at h
  | _, _ :: _, [], _, h => by simp [Op.bytesLess] at h
  | [], _ :: _, _ :: _, _, _ => rfl
  | x :: a, y :: b, z :: c, h1, h2 => by
    unfold Op.bytesLess at h1 h2 ⊢
    simp only [Bool.or_eq_true, Bool.and_eq_true, decide_eq_true_eq, beq_iff_eq] at h1 h2 ⊢
    rcases h1 with h1 | ⟨h1, h1'⟩
    · rcases h2 with h2 | ⟨h2, _⟩
      · left; rw [UInt8.lt_iff_toNat_lt] at *; omega
      · left; rw [← h2]; exact h1
    · rcases h2 with h2 | ⟨h2, h2'⟩
      · left; rw [h1]; exact h2
      · right; exact ⟨h1.trans h2, bl_trans a b c h1' h2'⟩
def rLt (a b : Row) : Prop := Op.bytesLess a.key.toList b.key.toList = true
theorem rowsGo_sorted (fl la : Int) : ∀ (rows : List Row) (p : Option Row), rowsGo fl la p rows = true →
    (∀ y, p = some y → ∀ x ∈ rows, rLt y x) ∧ rows.Pairwise rLt ∧ ∀ x ∈ rows, keyV x.key = true ∧ versV x.vs fl la = true
  | [], _, _ => ⟨fun _ _ _ h => by simp at h, .nil, fun _ h => by simp at h⟩
  | x :: xs, p, h => by
    unfold rowsGo at h
    simp only [Bool.and_eq_true] at h
    obtain ⟨⟨⟨h1, h2⟩, h3⟩, h4⟩ := h
    obtain ⟨a1, a2, a3⟩ := rowsGo_sorted fl la xs (some x) h4
    refine ⟨fun y hy z hz => ?_, .cons (fun z hz => a1 x rfl z hz) a2, fun z hz => ?_⟩
    · subst hy
      simp only at h2
      rw [strGt_lt] at h2
      rcases List.mem_cons.1 hz with rfl | hz
      · exact h2
      · exact bl_trans _ _ _ h2 (a1 x rfl z hz)
    · rcases List.mem_cons.1 hz with rfl | hz
      · exact ⟨h1, h3⟩
      · exact a3 z hz
theorem storeV_sorted (s : Store) (h : storeV s = true) : s.rows.Pairwise rLt ∧ ∀ x ∈ s.rows, keyV x.key = true ∧ versV x.vs s.fl s.la = true := by
  unfold storeV at h
  simp only [Bool.and_eq_true] at h
  exact (rowsGo_sorted _ _ _ _ h.2).2
theorem versGo_sorted (fl la : Int) : ∀ (vs : List Ver) (p : Option Ver), versGo fl la p vs = true →
    (∀ y, p = some y → ∀ x ∈ vs, y.at_ < x.at_) ∧ vs.Pairwise (fun a b => a.at_ < b.at_) ∧ ∀ x ∈ vs, valV x.v = true
  | [], _, _ => ⟨fun _ _ _ h => by simp at h, .nil, fun _ h => by simp at h⟩
  | x :: xs, p, h => by
    unfold versGo at h
    simp only [Bool.and_eq_true] at h
    obtain ⟨⟨h1, h2⟩, h4⟩ := h
    obtain ⟨a1, a2, a3⟩ := versGo_sorted fl la xs (some x) h4
    refine ⟨fun y hy z hz => ?_, .cons (fun z hz => a1 x rfl z hz) a2, fun z hz => ?_⟩
    · subst hy
      simp only [verStep, Bool.and_eq_true, decide_eq_true_eq] at h2
      rcases List.mem_cons.1 hz with rfl | hz
      · exact h2.1
      · exact Int.lt_trans h2.1 (a1 x rfl z hz)
    · rcases List.mem_cons.1 hz with rfl | hz
      · unfold verOk at h1
        simp only [Bool.and_eq_true] at h1
        exact h1.2
      · exact a3 z hz
theorem versV_go (vs : List Ver) (fl la : Int) (h : versV vs fl la = true) : versGo fl la none vs = true := by
  unfold versV at h
  split at h
  · simp at h
  · simp only [Bool.and_eq_true] at h; exact h.2

/-! The search -/
theorem cmpV_lt (a b : ByteArray) : cmpV a b < 0 ↔ Op.bytesLess a.toList b.toList = true := by
  unfold cmpV
  split
  · rename_i h; simp [h]
  · rename_i h; split <;> simp [h]
theorem cmpV_eq (a b : ByteArray) : (cmpV a b == 0) = true ↔ a.toList = b.toList := by
  unfold cmpV
  split
  · rename_i h
    constructor
    · intro h'; exact absurd h' (by decide)
    · intro h'; rw [h', bl_irrefl] at h; simp at h
  · rename_i h
    split
    · rename_i h2
      constructor
      · intro h'; exact absurd h' (by decide)
      · intro h'; rw [h', bl_irrefl] at h2; simp at h2
    · rename_i h2
      refine ⟨fun _ => ?_, fun _ => rfl⟩
      apply Classical.byContradiction
      intro hne
      have := bl_total _ _ hne
      simp only [Bool.not_eq_true] at h h2
      rw [h, h2] at this
      simp at this
theorem lo_ex (key : ByteArray) : ∀ rows : List Row, rows.Pairwise rLt → ∃ lo, lo ≤ rows.length ∧ (∀ (i : Nat) (hi : i < rows.length), i < lo → cmpV rows[i].key key < 0) ∧ ∀ (i : Nat) (hi : i < rows.length), lo ≤ i → ¬ cmpV rows[i].key key < 0
  | [], _ => ⟨0, Nat.le_refl _, fun i hi => by simp at hi, fun i hi => by simp at hi⟩
  | x :: xs, h => by
    obtain ⟨lo, h0, h1, h2⟩ := lo_ex key xs h.of_cons
    by_cases hx : cmpV x.key key < 0
    · refine ⟨lo + 1, by simp; omega, fun i hi hl => ?_, fun i hi hl => ?_⟩
      · cases i with
        | zero => exact hx
        | succ i => exact h1 i (by simpa using hi) (by omega)
      · cases i with
        | zero => omega
        | succ i => exact h2 i (by simpa using hi) (by omega)
    · refine ⟨0, by omega, fun i hi hl => by omega, fun i hi _ hc => ?_⟩
      cases i with
      | zero => exact hx hc
      | succ i =>
        have hi' : i < xs.length := by simpa using hi
        have hc' : cmpV xs[i].key key < 0 := hc
        rw [cmpV_lt] at hx hc'
        exact hx (bl_trans _ _ _ ((List.pairwise_cons.1 h).1 _ (List.getElem_mem hi')) hc')

def rowOf (rows : List Row) (key : ByteArray) : Option Row := rows.find? fun r => r.key.toList == key.toList
theorem found_yes (rows : List Row) (key : ByteArray) (lo : Nat) (h1 : ∀ (i : Nat) (hi : i < rows.length), i < lo → cmpV rows[i].key key < 0) (h : foundV rows lo key = true) :
    ∃ hl : lo < rows.length, rowOf rows key = some rows[lo] := by
  unfold foundV at h
  split at h
  · simp at h
  · rename_i r hr
    obtain ⟨hl, rfl⟩ := List.getElem?_eq_some_iff.1 hr
    refine ⟨hl, ?_⟩
    unfold rowOf
    rw [List.find?_eq_some_iff_getElem]
    refine ⟨by simpa using (cmpV_eq _ _).1 h, lo, hl, rfl, fun j hj => ?_⟩
    have := h1 j (by omega) hj
    rw [cmpV_lt] at this
    have hne : rows[j].key.toList ≠ key.toList := fun e => by rw [e, bl_irrefl] at this; simp at this
    simpa using hne
theorem found_no (rows : List Row) (key : ByteArray) (lo : Nat) (hp : rows.Pairwise rLt) (h1 : ∀ (i : Nat) (hi : i < rows.length), i < lo → cmpV rows[i].key key < 0)
    (h2 : ∀ (i : Nat) (hi : i < rows.length), lo ≤ i → ¬ cmpV rows[i].key key < 0) (h : foundV rows lo key = false) : rowOf rows key = none := by
  unfold rowOf
  rw [List.find?_eq_none]
  intro x hx
  obtain ⟨i, hi, rfl⟩ := List.getElem_of_mem hx
  intro he
  have he : rows[i].key.toList = key.toList := by simpa using he
  rcases Nat.lt_trichotomy i lo with hl | hl | hl
  · have := h1 i hi hl
    rw [cmpV_lt, he, bl_irrefl] at this
    simp at this
  · subst hl
    have h0 : foundV rows i key = true := by
      unfold foundV
      rw [List.getElem?_eq_getElem hi]
      exact (cmpV_eq _ _).2 he
    rw [h0] at h; simp at h
  · have hll : lo < rows.length := by omega
    refine h2 lo hll (Nat.le_refl _) ?_
    rw [cmpV_lt, ← he]
    exact List.pairwise_iff_getElem.1 hp lo i hll hi hl

/-! Values at a position -/
def lookV (f : Row → Vl) (rows : List Row) (key : ByteArray) : Vl := match rowOf rows key with | none => vl0 | some r => f r
def valN (vs : List Ver) : Nat → Vl
  | 0 => vl0
  | n + 1 => match vs[n]? with | none => vl0 | some x => x.v
theorem vlAt_valN (vs : List Ver) (at_ : Int) : vlAt vs at_ = valN vs (seenGo at_ vs) := by
  unfold vlAt
  cases seenGo at_ vs <;> rfl
theorem seen_lt (at_ : Int) : ∀ (vs : List Ver) (i : Nat) (hi : i < vs.length), i < seenGo at_ vs → vs[i].at_ ≤ at_
  | x :: xs, i, hi, h => by
    unfold seenGo at h
    split at h
    · rename_i hx
      cases i with
      | zero => exact hx
      | succ i => exact seen_lt at_ xs i (by simpa using hi) (by omega)
    · omega
theorem seen_not (at_ : Int) : ∀ (vs : List Ver) (j : Nat) (hj : j < vs.length), seenGo at_ vs = j → ¬ vs[j].at_ ≤ at_
  | x :: xs, j, hj, h => by
    unfold seenGo at h
    split at h
    · obtain ⟨i, rfl⟩ : ∃ i, j = i + 1 := ⟨j - 1, by omega⟩
      exact seen_not at_ xs i (by simpa using hj) (by omega)
    · subst h; assumption
theorem lastV_vlAt (vs : List Ver) (at_ : Int) (hp : vs.Pairwise (fun a b => a.at_ < b.at_)) : lastV vs at_ vs.length = vlAt vs at_ := by
  have key : ∀ k, k ≤ vs.length → lastV vs at_ k = valN vs (min k (seenGo at_ vs)) := by
    intro k
    induction k with
    | zero => intro _; simp [lastV, valN]
    | succ k ih =>
      intro hk
      have hk' : k < vs.length := by omega
      by_cases hs : k < seenGo at_ vs
      · rw [lastV_yes vs at_ k hk' (seen_lt at_ vs k hk' hs), Nat.min_eq_left (by omega)]
        simp [valN, hk']
      · have hno : ¬ vs[k].at_ ≤ at_ := by
          have hn : seenGo at_ vs < vs.length := by omega
          have h0 := seen_not at_ vs _ hn rfl
          rcases Nat.lt_or_ge (seenGo at_ vs) k with hlt | hge
          · have := List.pairwise_iff_getElem.1 hp _ k hn hk' hlt
            omega
          · have : seenGo at_ vs = k := by omega
            exact seen_not at_ vs k hk' this
        rw [lastV_no vs at_ k hk' hno, ih (by omega), Nat.min_eq_right (by omega), Nat.min_eq_right (by omega)]
  rw [key _ (Nat.le_refl _), vlAt_valN, Nat.min_eq_right (seenGo_le at_ vs)]
theorem vl_zero (v : Vl) (h : valV v = true) (hk : v.kind = 0) : v = vl0 := by
  obtain ⟨k, n, s⟩ := v
  simp only at hk
  subst hk
  unfold valV at h
  simp only [if_true, Bool.and_eq_true, beq_iff_eq] at h
  obtain ⟨rfl, h⟩ := h
  rw [ByteArray.toList_eq] at h
  have : s = ⟨#[]⟩ := by
    obtain ⟨d⟩ := s
    simp only at h
    have : d = #[] := by simpa using h
    rw [this]
  rw [this]; rfl
theorem vlAt_zero (vs : List Ver) (at_ : Int) (h : ∀ x ∈ vs, valV x.v = true) (hk : (vlAt vs at_).kind = 0) : vlAt vs at_ = vl0 := by
  rw [vlAt_valN] at hk ⊢
  generalize seenGo at_ vs = n at *
  unfold valN at hk ⊢
  split
  · rfl
  · split
    · rfl
    · rename_i n x hx
      simp only [hx] at hk
      exact vl_zero _ (h x (List.mem_of_getElem? hx)) hk
theorem getP_pairs (f : Row → Vl) (key : ByteArray) : ∀ rows : List Row, (∀ r ∈ rows, (f r).kind = 0 → f r = vl0) → rows.Pairwise rLt → getP (rows.filterMap (prOf f)) key = lookV f rows key
  | [], _, _ => rfl
  | x :: xs, h0, hp => by
    have ih := getP_pairs f key xs (fun r hr => h0 r (by simp [hr])) hp.of_cons
    unfold lookV rowOf
    by_cases hx : (x.key.toList == key.toList) = true
    · rw [List.find?_cons_of_pos (by simpa using hx)]
      simp only
      by_cases hk : (f x).kind = 0
      · have e : prOf f x = none := by simp [prOf, hk]
        rw [List.filterMap_cons_none e, ih, h0 x (by simp) hk]
        have : rowOf xs key = none := by
          unfold rowOf
          rw [List.find?_eq_none]
          intro z hz hc
          have h1 := (List.pairwise_cons.1 hp).1 z hz
          have e1 : x.key.toList = key.toList := by simpa using hx
          have e2 : z.key.toList = key.toList := by simpa using hc
          unfold rLt at h1
          rw [e1, e2, bl_irrefl] at h1
          simp at h1
        unfold lookV
        rw [this]
      · have e : prOf f x = some ⟨x.key, f x⟩ := by simp [prOf, hk]
        rw [List.filterMap_cons_some e]
        unfold getP
        rw [List.find?_cons_of_pos (by simpa using hx)]
    · rw [List.find?_cons_of_neg (by simpa using hx)]
      have : getP ((x :: xs).filterMap (prOf f)) key = getP (xs.filterMap (prOf f)) key := by
        by_cases hk : (f x).kind = 0
        · have e : prOf f x = none := by simp [prOf, hk]
          rw [List.filterMap_cons_none e]
        · have e : prOf f x = some ⟨x.key, f x⟩ := by simp [prOf, hk]
          rw [List.filterMap_cons_some e]
          unfold getP
          rw [List.find?_cons_of_neg (by simpa using hx)]
      rw [this, ih]; rfl
theorem filterMap_congr2 {α β : Type} {f g : α → Option β} : ∀ {l : List α}, (∀ x ∈ l, f x = g x) → l.filterMap f = l.filterMap g
  | [], _ => rfl
  | x :: xs, h => by
    have h1 := h x (by simp)
    have h2 := filterMap_congr2 (l := xs) fun y hy => h y (by simp [hy])
    simp only [List.filterMap_cons, h1, h2]
theorem pairs_same (s : Store) (h : storeV s = true) (at_ : Int) :
    pairsTo (fun r => lastV r.vs at_ r.vs.length) s.rows s.rows.length = pairsTo (fun r => vlAt r.vs at_) s.rows s.rows.length := by
  unfold pairsTo
  rw [List.take_length]
  refine filterMap_congr2 fun r hr => ?_
  have hv := ((storeV_sorted s h).2 r hr).2
  have e := lastV_vlAt r.vs at_ (versGo_sorted _ _ _ _ (versV_go _ _ _ hv)).2.1
  simp only [prOf, e]
theorem pairs_get (s : Store) (h : storeV s = true) (at_ : Int) (key : ByteArray) :
    getP (pairsTo (fun r => vlAt r.vs at_) s.rows s.rows.length) key = lookV (fun r => vlAt r.vs at_) s.rows key := by
  unfold pairsTo
  rw [List.take_length]
  refine getP_pairs _ key _ (fun r hr hk => ?_) (storeV_sorted s h).1
  have hv := ((storeV_sorted s h).2 r hr).2
  exact vlAt_zero r.vs at_ (versGo_sorted _ _ _ _ (versV_go _ _ _ hv)).2.2 hk
end Go.Proofs.Ytlfebjehmabejaa
