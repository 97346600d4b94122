/- Chapter 22: valid stores that show the same states at all positions are equal. Plain law, but for the names of the program. -/
import Derived.Test.YtlfebjehmabejaaMst
set_option linter.unusedSimpArgs false
set_option linter.unusedVariables false
namespace Go.Proofs.Ytlfebjehmabejaa
open Go Ab
set_option maxRecDepth 100000

theorem ba_ext {a b : ByteArray} (h : a.toList = b.toList) : a = b := by
  rw [ByteArray.toList_eq, ByteArray.toList_eq] at h
  obtain ⟨x⟩ := a
  obtain ⟨y⟩ := b
  simp only at h
  rw [Array.toList_inj.1 h]
theorem vlEq_iff (a b : Vl) : vlEq a b = true ↔ a = b := by
  constructor
  · intro h
    simp only [vlEq, Bool.and_eq_true, beq_iff_eq] at h
    obtain ⟨⟨h1, h2⟩, h3⟩ := h
    obtain ⟨k, n, s⟩ := a
    obtain ⟨k', n', s'⟩ := b
    simp only at h1 h2 h3
    rw [h1, h2, ba_ext h3]
  · rintro rfl; simp [vlEq]
/-- The value at a position, given the one before. -/
def valU (u : Vl) : List Ver → Int → Vl
  | [], _ => u
  | x :: xs, p => if x.at_ ≤ p then valU x.v xs p else u
theorem valU_vlAt (p : Int) : ∀ vs : List Ver, vlAt vs p = valU vl0 vs p := by
  have key : ∀ (vs : List Ver) (u : Vl), (match seenGo p vs with | 0 => u | n + 1 => match vs[n]? with | none => vl0 | some x => x.v) = valU u vs p := by
    intro vs
    induction vs with
    | nil => intro u; rfl
    | cons x xs ih =>
      intro u
      simp only [seenGo, valU]
      by_cases h : x.at_ ≤ p
      · rw [if_pos h, if_pos h, ← ih x.v]
        cases hs : seenGo p xs with
        | zero => rfl
        | succ n => rfl
      · rw [if_neg h, if_neg h]
  intro vs
  exact key vs vl0
/-- Versions in order, each of another value than the one before. -/
def ordV (lo la : Int) : Vl → List Ver → Prop
  | _, [] => True
  | u, x :: xs => lo ≤ x.at_ ∧ x.at_ ≤ la ∧ x.v ≠ u ∧ ordV (x.at_ + 1) la x.v xs
theorem valU_below : ∀ (vs : List Ver) (lo la : Int) (u : Vl) (p : Int), ordV lo la u vs → p < lo → valU u vs p = u
  | [], _, _, _, _, _, _ => rfl
  | x :: xs, lo, la, u, p, h, hp => by
    simp only [valU]
    rw [if_neg (by have := h.1; omega)]
theorem valU_at (x : Ver) (xs : List Ver) (lo la : Int) (u : Vl) (h : ordV lo la u (x :: xs)) : valU u (x :: xs) x.at_ = x.v := by
  simp only [valU]
  rw [if_pos (Int.le_refl _)]
  exact valU_below xs (x.at_ + 1) la x.v x.at_ h.2.2.2 (by omega)
theorem vers_det : ∀ (vs ws : List Ver) (lo la : Int) (u : Vl), ordV lo la u vs → ordV lo la u ws → (∀ p, lo ≤ p → p ≤ la → valU u vs p = valU u ws p) → vs = ws
  | [], [], _, _, _, _, _, _ => rfl
  | x :: xs, [], lo, la, u, h, _, hp => by
    have := hp x.at_ h.1 h.2.1
    rw [valU_at x xs lo la u h] at this
    exact absurd this h.2.2.1
  | [], y :: ys, lo, la, u, _, h, hp => by
    have := hp y.at_ h.1 h.2.1
    rw [valU_at y ys lo la u h] at this
    exact absurd this.symm h.2.2.1
  | x :: xs, y :: ys, lo, la, u, h, k, hp => by
    rcases Int.lt_trichotomy x.at_ y.at_ with hlt | heq | hgt
    · have := hp x.at_ h.1 h.2.1
      rw [valU_at x xs lo la u h] at this
      simp only [valU] at this
      rw [if_neg (by omega)] at this
      exact absurd this h.2.2.1
    · have := hp x.at_ h.1 h.2.1
      rw [valU_at x xs lo la u h, heq, valU_at y ys lo la u k] at this
      have ex : x = y := by
        obtain ⟨a, v⟩ := x
        obtain ⟨b, w⟩ := y
        simp only at heq this
        rw [heq, this]
      subst ex
      rw [vers_det xs ys (x.at_ + 1) la x.v h.2.2.2 k.2.2.2 fun p h1 h2 => ?_]
      have := hp p (by have := h.1; omega) h2
      simp only [valU] at this
      rw [if_pos (by omega), if_pos (by omega)] at this
      exact this
    · have := hp y.at_ k.1 k.2.1
      rw [valU_at y ys lo la u k] at this
      simp only [valU] at this
      rw [if_neg (by omega)] at this
      exact absurd this.symm k.2.2.1
theorem ord_of (fl la : Int) : ∀ (vs : List Ver) (lo : Int) (p : Option Ver) (u : Vl), versGo fl la p vs = true → (∀ y, p = some y → lo = y.at_ + 1 ∧ u = y.v) → (p = none → lo = fl ∧ ∀ x, vs.head? = some x → x.v ≠ u) → ordV lo la u vs
  | [], _, _, _, _, _, _ => trivial
  | x :: xs, lo, p, u, h, h1, h2 => by
    simp only [versGo, Bool.and_eq_true] at h
    obtain ⟨⟨ha, hb⟩, hc⟩ := h
    simp only [verOk, Bool.and_eq_true, decide_eq_true_eq] at ha
    have rest : ordV (x.at_ + 1) la x.v xs := ord_of fl la xs _ (some x) _ hc (fun y hy => by cases hy; exact ⟨rfl, rfl⟩) (fun h => by cases h)
    cases p with
    | none =>
      obtain ⟨e1, e2⟩ := h2 rfl
      exact ⟨by omega, ha.1.2, e2 x rfl, rest⟩
    | some y =>
      obtain ⟨e1, e2⟩ := h1 y rfl
      simp only [verStep, Bool.and_eq_true, decide_eq_true_eq, Bool.not_eq_true'] at hb
      refine ⟨by omega, ha.1.2, fun he => ?_, rest⟩
      rw [e2] at he
      rw [(vlEq_iff _ _).2 he] at hb
      cases hb.2
theorem ord_row (fl la : Int) (vs : List Ver) (h : versV vs fl la = true) : ordV fl la vl0 vs := by
  refine ord_of fl la vs fl none vl0 (versV_go vs fl la h) (fun y hy => by cases hy) fun _ => ⟨rfl, fun x hx => ?_⟩
  cases vs with
  | nil => cases hx
  | cons y ys =>
    cases hx
    simp only [versV, Bool.and_eq_true, Bool.not_eq_true', beq_eq_false_iff_ne, ne_eq] at h
    intro he
    exact h.1 (by rw [he]; rfl)

/-! Rows -/
theorem rowOf_mem {rows : List Row} {key : ByteArray} {r : Row} (h : rowOf rows key = some r) : r ∈ rows ∧ r.key = key := by
  unfold rowOf at h
  refine ⟨List.mem_of_find?_eq_some h, ?_⟩
  have := List.find?_some h
  exact ba_ext (by simpa using this)
theorem rowOf_some {rows : List Row} {r : Row} (hp : rows.Pairwise rLt) (hr : r ∈ rows) : rowOf rows r.key = some r := by
  induction rows with
  | nil => cases hr
  | cons x xs ih =>
    unfold rowOf
    rcases List.mem_cons.1 hr with rfl | hr
    · rw [List.find?_cons_of_pos (by simp)]
    · have hx := (List.pairwise_cons.1 hp).1 r hr
      rw [List.find?_cons_of_neg]
      · exact ih hp.of_cons hr
      · intro he
        have he : x.key.toList = r.key.toList := by simpa using he
        unfold rLt at hx
        rw [he, bl_irrefl] at hx
        cases hx
theorem rows_det : ∀ (l m : List Row), l.Pairwise rLt → m.Pairwise rLt → (∀ r, r ∈ l ↔ r ∈ m) → l = m
  | [], [], _, _, _ => rfl
  | x :: xs, [], _, _, h => absurd ((h x).1 (by simp)) (by simp)
  | [], y :: ys, _, _, h => absurd ((h y).2 (by simp)) (by simp)
  | x :: xs, y :: ys, h1, h2, h => by
    have anti : ∀ a b : Row, rLt a b → rLt b a → False := fun a b h3 h4 => by
      have := bl_trans _ _ _ h3 h4
      rw [bl_irrefl] at this; cases this
    have hxy : x = y := by
      rcases List.mem_cons.1 ((h x).1 (by simp)) with e | hx
      · exact e
      · rcases List.mem_cons.1 ((h y).2 (by simp)) with e | hy
        · exact e.symm
        · exact (anti _ _ ((List.pairwise_cons.1 h1).1 y hy) ((List.pairwise_cons.1 h2).1 x hx)).elim
    subst hxy
    rw [rows_det xs ys h1.of_cons h2.of_cons fun r => ?_]
    constructor
    · intro hr
      rcases List.mem_cons.1 ((h r).1 (by simp [hr])) with e | hr'
      · subst e
        exact (anti _ _ ((List.pairwise_cons.1 h1).1 r hr) ((List.pairwise_cons.1 h1).1 r hr)).elim
      · exact hr'
    · intro hr
      rcases List.mem_cons.1 ((h r).2 (by simp [hr])) with e | hr'
      · subst e
        exact (anti _ _ ((List.pairwise_cons.1 h2).1 r hr) ((List.pairwise_cons.1 h2).1 r hr)).elim
      · exact hr'
/-- What a store shows at a position. -/
def showS (s : Store) (p : Int) : List Pr := pairsTo (fun r => vlAt r.vs p) s.rows s.rows.length
theorem form_half (a b : Store) (ha : storeV a = true) (hb : storeV b = true) (h1 : a.fl = b.fl) (h2 : a.la = b.la) (h : ∀ p, a.fl ≤ p → p ≤ a.la → showS a p = showS b p) : ∀ r, r ∈ a.rows → r ∈ b.rows := by
  intro r hr
  obtain ⟨sa, va⟩ := storeV_sorted a ha
  obtain ⟨sb, vb⟩ := storeV_sorted b hb
  have look : ∀ p, a.fl ≤ p → p ≤ a.la → lookV (fun r => vlAt r.vs p) a.rows r.key = lookV (fun r => vlAt r.vs p) b.rows r.key := fun p h3 h4 => by
    rw [← pairs_get a ha p r.key, ← pairs_get b hb p r.key]
    exact congrArg (fun l => getP l r.key) (h p h3 h4)
  have er := rowOf_some sa hr
  have ov := ord_row _ _ _ (va r hr).2
  have la_ : ∀ p, lookV (fun r => vlAt r.vs p) a.rows r.key = valU vl0 r.vs p := fun p => by
    unfold lookV; rw [er]; exact valU_vlAt p r.vs
  cases hq : rowOf b.rows r.key with
  | none =>
    have hv := (va r hr).2
    cases hvs : r.vs with
    | nil => rw [hvs] at hv; simp [versV] at hv
    | cons x xs =>
      rw [hvs] at ov
      have h5 := look x.at_ ov.1 ov.2.1
      rw [la_, hvs, valU_at x xs _ _ _ ov] at h5
      unfold lookV at h5
      rw [hq] at h5
      exact absurd h5 ov.2.2.1
  | some q =>
    obtain ⟨hqm, hqk⟩ := rowOf_mem hq
    have oq := ord_row _ _ _ (vb q hqm).2
    rw [← h1, ← h2] at oq
    have : r.vs = q.vs := vers_det r.vs q.vs a.fl a.la vl0 ov oq fun p h3 h4 => by
      have h5 := look p h3 h4
      rw [la_] at h5
      unfold lookV at h5
      rw [hq] at h5
      rw [h5]; exact valU_vlAt p q.vs
    have : r = q := by
      obtain ⟨k, v⟩ := r
      obtain ⟨k', v'⟩ := q
      simp only at this hqk
      rw [this, hqk]
    rw [this]; exact hqm
theorem form_law (a b : Store) (ha : storeV a = true) (hb : storeV b = true) (h1 : a.fl = b.fl) (h2 : a.la = b.la) (h : ∀ p, a.fl ≤ p → p ≤ a.la → showS a p = showS b p) : a = b := by
  have : a.rows = b.rows := rows_det _ _ (storeV_sorted a ha).1 (storeV_sorted b hb).1 fun r =>
    ⟨form_half a b ha hb h1 h2 h r, form_half b a hb ha h1.symm h2.symm (fun p h3 h4 => (h p (by omega) (by omega)).symm) r⟩
  obtain ⟨x, y, z⟩ := a
  obtain ⟨x', y', z'⟩ := b
  simp only at h1 h2 this
  rw [h1, h2, this]
theorem all_zip_eq {α : Type} {f : α × α → Bool} (hf : ∀ x y, f (x, y) = true → x = y) : ∀ (p q : List α), p.length = q.length → (p.zip q).all f = true → p = q
  | [], [], _, _ => rfl
  | [], _ :: _, h, _ => by simp at h
  | _ :: _, [], h, _ => by simp at h
  | x :: p, y :: q, h, h2 => by
    rw [List.zip_cons_cons, List.all_cons, Bool.and_eq_true] at h2
    rw [hf x y h2.1, all_zip_eq hf p q (by simpa using h) h2.2]
theorem storeEq_iff (a b : Store) : storeEq a b = true ↔ a = b := by
  constructor
  · intro h
    simp only [storeEq, Bool.and_eq_true, beq_iff_eq] at h
    obtain ⟨⟨⟨h1, h2⟩, h3⟩, h4⟩ := h
    have : a.rows = b.rows := by
      refine all_zip_eq (f := fun z => rowEq z.1 z.2) (fun x y hxy => ?_) _ _ h3 h4
      simp only [rowEq, Bool.and_eq_true, beq_iff_eq] at hxy
      obtain ⟨⟨g1, g2⟩, g3⟩ := hxy
      have hvs : x.vs = y.vs := by
        refine all_zip_eq (f := fun z => verEq z.1 z.2) (fun u v huv => ?_) _ _ g2 g3
        simp only [verEq, Bool.and_eq_true, beq_iff_eq] at huv
        obtain ⟨e1, e2⟩ := huv
        have e2 := (vlEq_iff _ _).1 e2
        obtain ⟨c, d⟩ := u
        obtain ⟨c', d'⟩ := v
        simp only at e1 e2
        rw [e1, e2]
      have hk := ba_ext g1
      obtain ⟨c, d⟩ := x
      obtain ⟨c', d'⟩ := y
      simp only at hk hvs
      rw [hk, hvs]
    obtain ⟨x, y, z⟩ := a
    obtain ⟨x', y', z'⟩ := b
    simp only at h1 h2 this
    rw [h1, h2, this]
  · rintro rfl; exact storeEq_self a

/-! Lists of pairs -/
def prEq (p q : Pr) : Bool := (p.key.toList == q.key.toList) && vlEq p.v q.v
def prsEq (l m : List Pr) : Bool := decide (l.length = m.length) && (l.zip m).all fun z => prEq z.1 z.2
theorem prsEq_iff (l m : List Pr) : prsEq l m = true ↔ l = m := by
  constructor
  · intro h
    simp only [prsEq, Bool.and_eq_true, decide_eq_true_eq] at h
    refine all_zip_eq (f := fun z => prEq z.1 z.2) (fun x y hxy => ?_) _ _ h.1 h.2
    simp only [prEq, Bool.and_eq_true, beq_iff_eq] at hxy
    have e1 := ba_ext hxy.1
    have e2 := (vlEq_iff _ _).1 hxy.2
    obtain ⟨c, d⟩ := x
    obtain ⟨c', d'⟩ := y
    simp only at e1 e2
    rw [e1, e2]
  · rintro rfl
    have := zip_self (fun z : Pr × Pr => prEq z.1 z.2) (fun x => by simp [prEq, vlEq]) l
    simp only [prsEq, this]; simp
end Go.Proofs.Ytlfebjehmabejaa
