/- Chapter 06: what merge makes of sorted lists. Plain law, but for the names of the program. -/
import Derived.Test.YtldonmombfpleaaSf
set_option linter.unusedSimpArgs false
set_option linter.unusedVariables false
namespace Go.Proofs.Ytldonmombfpleaa
open Go Ab

/-! Keys in order -/
def bl (a b : ByteArray) : Prop := Op.bytesLess a.toList b.toList = true
theorem bl.irr {a : ByteArray} (h : bl a a) : False := by unfold bl at h; rw [bl_irrefl] at h; cases h
theorem bl.tr {a b c : ByteArray} (h : bl a b) (k : bl b c) : bl a c := bl_trans _ _ _ h k
theorem bl.as {a b : ByteArray} (h : bl a b) (k : bl b a) : False := (h.tr k).irr
theorem cmp_spec : ∀ a b : List UInt8, (Lib.compareBytes a b < 0 ↔ Op.bytesLess a b = true) ∧ (Lib.compareBytes a b > 0 ↔ Op.bytesLess b a = true)
  | [], [] => by simp [Lib.compareBytes, Op.bytesLess]
  | [], _ :: _ => by simp [Lib.compareBytes, Op.bytesLess]
  | _ :: _, [] => by simp [Lib.compareBytes, Op.bytesLess]
  | x :: a, y :: b => by
    have ih := cmp_spec a b
    unfold Lib.compareBytes Op.bytesLess
    by_cases h : x < y
    · have h2 : ¬ y < x := by rw [UInt8.lt_iff_toNat_lt] at *; omega
      have h3 : ¬ y = x := by intro e; subst e; exact h2 h
      simp [h, h2, h3]
    · by_cases h2 : y < x
      · have h3 : ¬ x = y := by intro e; subst e; exact h h2
        simp [h, h2, h3]
      · have h3 : x = y := by
          apply UInt8.toNat_inj.1
          rw [UInt8.lt_iff_toNat_lt] at h h2; omega
        subst h3
        simp [h, ih.1, ih.2]
theorem cmp_lt (a b : ByteArray) : cmpK a b < 0 ↔ bl a b := by
  unfold cmpK bl
  rw [ByteArray.toList_eq, ByteArray.toList_eq]
  exact (cmp_spec _ _).1
theorem cmp_gt (a b : ByteArray) : cmpK a b > 0 ↔ bl b a := by
  unfold cmpK bl
  rw [ByteArray.toList_eq, ByteArray.toList_eq]
  exact (cmp_spec _ _).2
theorem bl_tot {a b : ByteArray} (h : ¬ bl a b) (k : ¬ bl b a) : a = b := by
  apply ba_ext
  apply Classical.byContradiction
  intro hne
  have := bl_total _ _ hne
  unfold bl at h k
  simp only [Bool.not_eq_true] at h k
  rw [h, k] at this; simp at this

def Srt (l : List Pr) : Prop := l.Pairwise fun a b => bl a.key b.key
def lb (k : ByteArray) (l : List Pr) : Prop := ∀ p ∈ l, bl k p.key
theorem srt_cons {x : Pr} {l : List Pr} : Srt (x :: l) ↔ lb x.key l ∧ Srt l := List.pairwise_cons
theorem lb.tr {a b : ByteArray} {l : List Pr} (h : bl a b) (k : lb b l) : lb a l := fun p hp => h.tr (k p hp)

/-- The pair of a key. -/
def fnd : List Pr → ByteArray → Option Pr
  | [], _ => none
  | x :: xs, k => if x.key = k then some x else fnd xs k
theorem fnd_mem : ∀ {l : List Pr} {k : ByteArray} {p : Pr}, fnd l k = some p → p ∈ l ∧ p.key = k
  | x :: xs, k, p, h => by
    simp only [fnd] at h
    split at h
    · rename_i hx; cases h; exact ⟨by simp, hx⟩
    · obtain ⟨h1, h2⟩ := fnd_mem h; exact ⟨by simp [h1], h2⟩
theorem fnd_lb : ∀ {l : List Pr} {k : ByteArray}, lb k l → fnd l k = none
  | [], _, _ => rfl
  | x :: xs, k, h => by
    simp only [fnd]
    rw [if_neg (fun e => (e ▸ h x (by simp)).irr)]
    exact fnd_lb fun p hp => h p (by simp [hp])
theorem mem_fnd : ∀ {l : List Pr} {p : Pr}, Srt l → p ∈ l → fnd l p.key = some p
  | x :: xs, p, hs, h => by
    rw [srt_cons] at hs
    simp only [fnd]
    rcases List.mem_cons.1 h with rfl | h
    · rw [if_pos rfl]
    · rw [if_neg (fun e => (e ▸ hs.1 p h).irr)]
      exact mem_fnd hs.2 h
theorem fnd_none {l : List Pr} {k : ByteArray} (h : fnd l k = none) : ∀ p ∈ l, p.key ≠ k := by
  induction l with
  | nil => intro p hp; cases hp
  | cons x xs ih =>
    simp only [fnd] at h
    split at h
    · cases h
    · rename_i hx
      intro p hp
      rcases List.mem_cons.1 hp with rfl | hp
      · exact hx
      · exact ih h p hp
theorem srt_ext : ∀ (l m : List Pr), Srt l → Srt m → (∀ k, fnd l k = fnd m k) → l = m := by
  have det : ∀ (l m : List Pr), Srt l → Srt m → (∀ r, r ∈ l ↔ r ∈ m) → l = m := by
    intro l
    induction l with
    | nil => intro m _ _ h; cases m with
      | nil => rfl
      | cons y ys => exact absurd ((h y).2 (by simp)) (by simp)
    | cons x xs ih =>
      intro m h1 h2 h
      cases m with
      | nil => exact absurd ((h x).1 (by simp)) (by simp)
      | cons y ys =>
        rw [srt_cons] at h1 h2
        have hxy : x = y := by
          rcases List.mem_cons.1 ((h x).1 (by simp)) with e | hx
          · exact e
          · rcases List.mem_cons.1 ((h y).2 (by simp)) with e | hy
            · exact e.symm
            · exact ((h1.1 y hy).as (h2.1 x hx)).elim
        subst hxy
        rw [ih ys h1.2 h2.2 fun r => ⟨fun hr => ?_, fun hr => ?_⟩]
        · rcases List.mem_cons.1 ((h r).1 (by simp [hr])) with e | hr'
          · subst e; exact (h1.1 r hr).irr.elim
          · exact hr'
        · rcases List.mem_cons.1 ((h r).2 (by simp [hr])) with e | hr'
          · subst e; exact (h2.1 r hr).irr.elim
          · exact hr'
  intro l m hl hm h
  refine det l m hl hm fun r => ⟨fun hr => ?_, fun hr => ?_⟩
  · have := mem_fnd hl hr; rw [h] at this; exact (fnd_mem this).1
  · have := mem_fnd hm hr; rw [← h] at this; exact (fnd_mem this).1
theorem getP_fnd (k : ByteArray) : ∀ l : List Pr, getP l k = match fnd l k with | none => vl0 | some p => p.v
  | [] => rfl
  | x :: xs => by
    have ih := getP_fnd k xs
    unfold getP at ih ⊢
    simp only [fnd]
    by_cases h : x.key = k
    · rw [if_pos h, List.find?_cons_of_pos (by simp [h])]
    · rw [if_neg h, List.find?_cons_of_neg (by intro e; exact h (ba_ext (by simpa using e)))]
      exact ih

/-! Valid writes and states -/
theorem writes_iff : ∀ (l : List Pr) (p : Option Pr), writesGo p l = true ↔ ((∀ y, p = some y → lb y.key l) ∧ Srt l ∧ ∀ x ∈ l, keyV x.key = true ∧ valV x.v = true)
  | [], p => by simp [writesGo, Srt, lb]
  | x :: xs, p => by
    have ih := writes_iff xs (some x)
    simp only [writesGo, Bool.and_eq_true]
    rw [ih, srt_cons]
    constructor
    · rintro ⟨⟨⟨h1, h2⟩, h3⟩, h4, h5, h6⟩
      have h4 := h4 x rfl
      refine ⟨fun y hy => ?_, ⟨h4, h5⟩, fun z hz => ?_⟩
      · subst hy
        have hyx : bl y.key x.key := by
          simp only [prStep] at h3
          rw [strGt_lt] at h3; exact h3
        intro z hz
        rcases List.mem_cons.1 hz with rfl | hz
        · exact hyx
        · exact hyx.tr (h4 z hz)
      · rcases List.mem_cons.1 hz with rfl | hz
        · exact ⟨h1, h2⟩
        · exact h6 z hz
    · rintro ⟨h1, ⟨h2, h3⟩, h4⟩
      refine ⟨⟨⟨(h4 x (by simp)).1, (h4 x (by simp)).2⟩, ?_⟩, fun y hy => by cases hy; exact h2, h3, fun z hz => h4 z (by simp [hz])⟩
      cases p with
      | none => rfl
      | some y =>
        simp only [prStep]
        rw [strGt_lt]
        exact h1 y rfl x (by simp)
theorem writes_iff0 (l : List Pr) : writesGo none l = true ↔ (Srt l ∧ ∀ x ∈ l, keyV x.key = true ∧ valV x.v = true) := by
  rw [writes_iff]
  exact ⟨fun h => h.2, fun h => ⟨fun y hy => (by cases hy), h⟩⟩
theorem state_iff (l : List Pr) : stateV l = true ↔ (Srt l ∧ ∀ x ∈ l, keyV x.key = true ∧ valV x.v = true ∧ x.v.kind ≠ 0) := by
  unfold stateV
  rw [Bool.and_eq_true, writes_iff0]
  simp only [Bool.not_eq_true', List.any_eq_false, beq_iff_eq]
  constructor
  · rintro ⟨⟨h1, h2⟩, h3⟩
    exact ⟨h1, fun x hx => ⟨(h2 x hx).1, (h2 x hx).2, h3 x hx⟩⟩
  · rintro ⟨h1, h2⟩
    exact ⟨⟨h1, fun x hx => ⟨(h2 x hx).1, (h2 x hx).2.1⟩⟩, fun x hx => (h2 x hx).2.2⟩

/-! Merging -/
def mrg (L R : Pr → Option Pr) (B : Pr → Pr → Option Pr) : List Pr → List Pr → List Pr
  | [], [] => []
  | x :: xs, [] => (L x).toList ++ mrg L R B xs []
  | [], y :: ys => (R y).toList ++ mrg L R B [] ys
  | x :: xs, y :: ys => if cmpK x.key y.key < 0 then (L x).toList ++ mrg L R B xs (y :: ys) else if cmpK x.key y.key > 0 then (R y).toList ++ mrg L R B (x :: xs) ys else (B x y).toList ++ mrg L R B xs ys
  termination_by l m => l.length + m.length
theorem merge_mrg {σ : Type} {L R : Pr → σ → σ} {B : Pr → Pr → σ → σ} {L' R' : Pr → Option Pr} {B' : Pr → Pr → Option Pr} (out : σ → List Pr)
    (hL : ∀ x s, out (L x s) = out s ++ (L' x).toList) (hR : ∀ x s, out (R x s) = out s ++ (R' x).toList) (hB : ∀ x y s, out (B x y s) = out s ++ (B' x y).toList) :
    ∀ (n : Nat) (a b : List Pr) (s : σ), a.length + b.length ≤ n → out (mergeS L R B a b s) = out s ++ mrg L' R' B' a b := by
  intro n
  induction n with
  | zero =>
    intro a b s h
    have ha : a = [] := List.eq_nil_of_length_eq_zero (by omega)
    have hb : b = [] := List.eq_nil_of_length_eq_zero (by omega)
    subst ha; subst hb
    simp only [mergeS, mrg, List.append_nil]
  | succ n ih =>
    intro a b s h
    match a, b, h with
    | [], [], _ => simp only [mergeS, mrg, List.append_nil]
    | x :: xs, [], h => simp only [mergeS, mrg]; rw [ih _ _ _ (by simp at h ⊢; omega), hL, List.append_assoc]
    | [], y :: ys, h => simp only [mergeS, mrg]; rw [ih _ _ _ (by simp at h ⊢; omega), hR, List.append_assoc]
    | x :: xs, y :: ys, h =>
      simp only [mergeS, mrg]
      split
      · rw [ih _ _ _ (by simp at h ⊢; omega), hL, List.append_assoc]
      · split
        · rw [ih _ _ _ (by simp at h ⊢; omega), hR, List.append_assoc]
        · rw [ih _ _ _ (by simp at h ⊢; omega), hB, List.append_assoc]

/-- What keeps keys. -/
structure Keeps (L R : Pr → Option Pr) (B : Pr → Pr → Option Pr) : Prop where
  l : ∀ x p, L x = some p → p.key = x.key
  r : ∀ x p, R x = some p → p.key = x.key
  b : ∀ x y p, x.key = y.key → B x y = some p → p.key = x.key
def pick (L R : Pr → Option Pr) (B : Pr → Pr → Option Pr) : Option Pr → Option Pr → Option Pr
  | none, none => none
  | some x, none => L x
  | none, some y => R y
  | some x, some y => B x y
theorem one_srt {o : Option Pr} {k : ByteArray} {l : List Pr} (ho : ∀ p, o = some p → p.key = k) (hl : lb k l) (hs : Srt l) : Srt (o.toList ++ l) := by
  cases o with
  | none => exact hs
  | some p => exact srt_cons.2 ⟨by rw [ho p rfl]; exact hl, hs⟩
theorem one_fnd {o : Option Pr} {k q : ByteArray} {l : List Pr} (ho : ∀ p, o = some p → p.key = k) (hl : lb k l) : fnd (o.toList ++ l) q = if k = q then o else fnd l q := by
  cases o with
  | none =>
    split
    · rename_i e; subst e; exact fnd_lb hl
    · rfl
  | some p =>
    show (if p.key = q then some p else fnd l q) = _
    rw [ho p rfl]
theorem one_lb {o : Option Pr} {k q : ByteArray} {l : List Pr} (ho : ∀ p, o = some p → p.key = k) (hk : bl q k) (hl : lb q l) : lb q (o.toList ++ l) := by
  intro p hp
  rcases List.mem_append.1 hp with h | h
  · cases o with
    | none => cases h
    | some z =>
      have : p = z := by simpa using h
      subst this
      rw [ho p rfl]; exact hk
  · exact hl p h
theorem mrg_spec {L R : Pr → Option Pr} {B : Pr → Pr → Option Pr} (K : Keeps L R B) : ∀ (n : Nat) (a b : List Pr), a.length + b.length ≤ n → Srt a → Srt b →
    (∀ q, lb q a → lb q b → lb q (mrg L R B a b)) ∧ Srt (mrg L R B a b) ∧ ∀ k, fnd (mrg L R B a b) k = pick L R B (fnd a k) (fnd b k) := by
  intro n
  induction n with
  | zero =>
    intro a b h _ _
    have ha : a = [] := List.eq_nil_of_length_eq_zero (by omega)
    have hb : b = [] := List.eq_nil_of_length_eq_zero (by omega)
    subst ha; subst hb
    simp only [mrg]
    exact ⟨fun q h1 _ => h1, .nil, fun k => rfl⟩
  | succ n ih =>
    intro a b h sa sb
    match a, b, h, sa, sb with
    | [], [], _, _, _ => simp only [mrg]; exact ⟨fun q h1 _ => h1, .nil, fun k => rfl⟩
    | x :: xs, [], h, sa, sb =>
      rw [srt_cons] at sa
      obtain ⟨i1, i2, i3⟩ := ih xs [] (by simp at h ⊢; omega) sa.2 sb
      have hlb := i1 x.key sa.1 (fun p hp => by cases hp)
      simp only [mrg]
      refine ⟨fun q h1 h2 => one_lb (K.l x) (h1 x (by simp)) (i1 q (fun p hp => h1 p (by simp [hp])) h2), one_srt (K.l x) hlb i2, fun k => ?_⟩
      rw [one_fnd (K.l x) hlb, i3]
      simp only [fnd]
      split
      · rfl
      · rfl
    | [], y :: ys, h, sa, sb =>
      rw [srt_cons] at sb
      obtain ⟨i1, i2, i3⟩ := ih [] ys (by simp at h ⊢; omega) sa sb.2
      have hlb := i1 y.key (fun p hp => by cases hp) sb.1
      simp only [mrg]
      refine ⟨fun q h1 h2 => one_lb (K.r y) (h2 y (by simp)) (i1 q h1 (fun p hp => h2 p (by simp [hp]))), one_srt (K.r y) hlb i2, fun k => ?_⟩
      rw [one_fnd (K.r y) hlb, i3]
      simp only [fnd]
      split
      · rfl
      · rfl
    | x :: xs, y :: ys, h, sa, sb =>
      have sa' := srt_cons.1 sa
      have sb' := srt_cons.1 sb
      simp only [mrg]
      by_cases h1 : cmpK x.key y.key < 0
      · rw [if_pos h1]
        rw [cmp_lt] at h1
        obtain ⟨i1, i2, i3⟩ := ih xs (y :: ys) (by simp at h ⊢; omega) sa'.2 sb
        have hly : lb x.key (y :: ys) := fun p hp => by
          rcases List.mem_cons.1 hp with rfl | hp
          · exact h1
          · exact h1.tr (sb'.1 p hp)
        have hlb := i1 x.key sa'.1 hly
        refine ⟨fun q h3 h4 => one_lb (K.l x) (h3 x (by simp)) (i1 q (fun p hp => h3 p (by simp [hp])) h4), one_srt (K.l x) hlb i2, fun k => ?_⟩
        rw [one_fnd (K.l x) hlb, i3]
        by_cases hk : x.key = k
        · subst hk
          rw [if_pos rfl, fnd_lb hly]
          simp [fnd, pick]
        · rw [if_neg hk]
          simp only [fnd, if_neg hk]
      · rw [if_neg h1]
        by_cases h2 : cmpK x.key y.key > 0
        · rw [if_pos h2]
          rw [cmp_gt] at h2
          obtain ⟨i1, i2, i3⟩ := ih (x :: xs) ys (by simp at h ⊢; omega) sa sb'.2
          have hlx : lb y.key (x :: xs) := fun p hp => by
            rcases List.mem_cons.1 hp with rfl | hp
            · exact h2
            · exact h2.tr (sa'.1 p hp)
          have hlb := i1 y.key hlx sb'.1
          refine ⟨fun q h3 h4 => one_lb (K.r y) (h4 y (by simp)) (i1 q h3 (fun p hp => h4 p (by simp [hp]))), one_srt (K.r y) hlb i2, fun k => ?_⟩
          rw [one_fnd (K.r y) hlb, i3]
          by_cases hk : y.key = k
          · subst hk
            rw [if_pos rfl, fnd_lb hlx]
            simp [fnd, pick]
          · rw [if_neg hk]
            simp only [fnd, if_neg hk]
        · rw [if_neg h2]
          rw [cmp_lt] at h1
          rw [cmp_gt] at h2
          have hxy : x.key = y.key := bl_tot h1 h2
          obtain ⟨i1, i2, i3⟩ := ih xs ys (by simp at h ⊢; omega) sa'.2 sb'.2
          have hlb := i1 x.key sa'.1 (by rw [hxy]; exact sb'.1)
          refine ⟨fun q h3 h4 => one_lb (K.b x y · hxy) (h3 x (by simp)) (i1 q (fun p hp => h3 p (by simp [hp])) (fun p hp => h4 p (by simp [hp]))), one_srt (K.b x y · hxy) hlb i2, fun k => ?_⟩
          rw [one_fnd (K.b x y · hxy) hlb, i3]
          by_cases hk : x.key = k
          · subst hk
            rw [if_pos rfl]
            simp [fnd, pick, hxy]
          · rw [if_neg hk]
            simp only [fnd, if_neg hk, if_neg (fun e => hk (hxy.trans e))]
end Go.Proofs.Ytldonmombfpleaa
