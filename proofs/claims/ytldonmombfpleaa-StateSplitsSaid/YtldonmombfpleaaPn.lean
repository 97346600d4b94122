/- Chapter 06: what Apply, Diff and Union make: their laws, plain; their contracts once more. -/
import Derived.Test.YtldonmombfpleaaPm
set_option linter.unusedSimpArgs false
set_option linter.unusedVariables false
namespace Go.Proofs.Ytldonmombfpleaa
open Go Ab
attribute [local irreducible] awp aops aop asoft aeff aloop acall acallI acallT

theorem vl_zeroP (v : Vl) (h : valV v = true) (hk : v.kind = 0) : v = vl0 := by
  obtain ⟨k, n, s⟩ := v
  simp only at hk
  subst hk
  unfold valV at h
  simp only [if_true, Bool.and_eq_true, beq_iff_eq] at h
  obtain ⟨rfl, h⟩ := h
  rw [ByteArray.toList_eq] at h
  have : s = ⟨#[]⟩ := by
    obtain ⟨d⟩ := s
    simp only at h
    have : d = #[] := by simpa using h
    rw [this]
  rw [this]; rfl
def wr (y : Pr) : Option Pr := if y.v.kind = 0 then none else some y
def apL (a w : List Pr) : List Pr := mrg some wr (fun _ y => wr y) a w
def dfL (a b : List Pr) : List Pr := mrg (fun x => some (nilP x)) some (fun x y => if vlEq x.v y.v = true then none else some y) a b
def unL (a b : List Pr) : List Pr := mrg some some (fun _ _ => none) a b
theorem add_out (o : Option (List Pr)) (p : Pr) : outL (add o p) = outL o ++ [p] := rfl
theorem addW_out (o : Option (List Pr)) (p : Pr) : outL (addW o p) = outL o ++ (wr p).toList := by
  unfold addW wr
  split
  · simp
  · rw [add_out]; rfl
theorem apply_out (a w : List Pr) : outL (applyO a w) = apL a w := by
  have := merge_mrg (L' := some) (R' := wr) (B' := fun _ y => wr y) outL (L := applyL) (R := applyR) (B := applyB) (fun x s => add_out s x) (fun x s => addW_out s x) (fun x y s => addW_out s y) _ a w none (Nat.le_refl _)
  simpa [outL, applyO, apL] using this
theorem diff_out (a b : List Pr) : outL (diffO a b) = dfL a b := by
  have := merge_mrg (L' := fun x => some (nilP x)) (R' := some) (B' := fun x y => if vlEq x.v y.v = true then none else some y) outL (L := diffL) (R := diffR) (B := diffB) (fun x s => add_out s _) (fun x s => add_out s x) (fun x y s => by
    unfold diffB addD
    split
    · simp
    · rw [add_out]; rfl) _ a b none (Nat.le_refl _)
  simpa [outL, diffO, dfL] using this
theorem uni_out (a b : List Pr) : outL (uniO a b).1 = unL a b := by
  have := merge_mrg (L' := some) (R' := some) (B' := fun _ _ => none) (fun s : Option (List Pr) × Bool => outL s.1) (L := uniL) (R := uniL) (B := uniB) (fun x s => add_out s.1 x) (fun x s => add_out s.1 x) (fun x y s => by simp [uniB]) _ a b (none, false) (Nat.le_refl _)
  simpa [outL, uniO, unL] using this
theorem mrg_len {L R : Pr → Option Pr} {B : Pr → Pr → Option Pr} : ∀ (n : Nat) (a b : List Pr), a.length + b.length ≤ n → (mrg L R B a b).length ≤ a.length + b.length := by
  have one : ∀ o : Option Pr, o.toList.length ≤ 1 := fun o => by cases o <;> simp
  intro n
  induction n with
  | zero =>
    intro a b h
    have ha : a = [] := List.eq_nil_of_length_eq_zero (by omega)
    have hb : b = [] := List.eq_nil_of_length_eq_zero (by omega)
    subst ha; subst hb
    simp [mrg]
  | succ n ih =>
    intro a b h
    match a, b, h with
    | [], [], _ => simp [mrg]
    | x :: xs, [], h =>
      have := ih xs [] (by simp at h ⊢; omega); have := one (L x)
      simp only [mrg, List.length_append, List.length_cons] at *; omega
    | [], y :: ys, h =>
      have := ih [] ys (by simp at h ⊢; omega); have := one (R y)
      simp only [mrg, List.length_append, List.length_cons] at *; omega
    | x :: xs, y :: ys, h =>
      simp only [mrg]
      split
      · have := ih xs (y :: ys) (by simp at h ⊢; omega); have := one (L x)
        simp only [List.length_append, List.length_cons] at *; omega
      · split
        · have := ih (x :: xs) ys (by simp at h ⊢; omega); have := one (R y)
          simp only [List.length_append, List.length_cons] at *; omega
        · have := ih xs ys (by simp at h ⊢; omega); have := one (B x y)
          simp only [List.length_append, List.length_cons] at *; omega
theorem wr_key (y p : Pr) (h : wr y = some p) : p = y ∧ y.v.kind ≠ 0 := by
  unfold wr at h
  split at h
  · cases h
  · cases h; exact ⟨rfl, by assumption⟩
theorem apK : Keeps some wr (fun _ y => wr y) where
  l := fun x p h => by cases h; rfl
  r := fun x p h => by rw [(wr_key x p h).1]
  b := fun x y p e h => by rw [(wr_key y p h).1, e]
theorem dfK : Keeps (fun x => some (nilP x)) some (fun x y => if vlEq x.v y.v = true then none else some y) where
  l := fun x p h => by cases h; rfl
  r := fun x p h => by cases h; rfl
  b := fun x y p e h => by
    split at h
    · cases h
    · cases h; exact e.symm
theorem unK : Keeps some some (fun _ _ => none) where
  l := fun x p h => by cases h; rfl
  r := fun x p h => by cases h; rfl
  b := fun x y p e h => by cases h
theorem ap_spec {a w : List Pr} (ha : Srt a) (hw : Srt w) : Srt (apL a w) ∧ ∀ k, fnd (apL a w) k = pick some wr (fun _ y => wr y) (fnd a k) (fnd w k) :=
  (mrg_spec apK _ a w (Nat.le_refl _) ha hw).2
theorem df_spec {a b : List Pr} (ha : Srt a) (hb : Srt b) : Srt (dfL a b) ∧ ∀ k, fnd (dfL a b) k = pick (fun x => some (nilP x)) some (fun x y => if vlEq x.v y.v = true then none else some y) (fnd a k) (fnd b k) :=
  (mrg_spec dfK _ a b (Nat.le_refl _) ha hb).2
theorem un_spec {a b : List Pr} (ha : Srt a) (hb : Srt b) : Srt (unL a b) ∧ ∀ k, fnd (unL a b) k = pick some some (fun _ _ => none) (fnd a k) (fnd b k) :=
  (mrg_spec unK _ a b (Nat.le_refl _) ha hb).2
/-- What is in the result of Apply. -/
theorem ap_mem {a w : List Pr} (ha : Srt a) (hw : Srt w) {p : Pr} (h : p ∈ apL a w) : p ∈ a ∨ (p ∈ w ∧ p.v.kind ≠ 0) := by
  obtain ⟨h1, h2⟩ := ap_spec ha hw
  have h3 := mem_fnd h1 h
  rw [h2] at h3
  cases hA : fnd a p.key with
  | none =>
    cases hW : fnd w p.key with
    | none => rw [hA, hW] at h3; cases h3
    | some y => rw [hA, hW] at h3; obtain ⟨e, hk⟩ := wr_key y p h3; subst e; exact .inr ⟨(fnd_mem hW).1, hk⟩
  | some x =>
    cases hW : fnd w p.key with
    | none => rw [hA, hW] at h3; cases h3; exact .inl (fnd_mem hA).1
    | some y => rw [hA, hW] at h3; obtain ⟨e, hk⟩ := wr_key y p h3; subst e; exact .inr ⟨(fnd_mem hW).1, hk⟩
theorem ap_state {a w : List Pr} (ha : stateV a = true) (hw : writesGo none w = true) : stateV (apL a w) = true := by
  rw [state_iff] at ha ⊢
  rw [writes_iff0] at hw
  refine ⟨(ap_spec ha.1 hw.1).1, fun p hp => ?_⟩
  rcases ap_mem ha.1 hw.1 hp with h | ⟨h, hk⟩
  · exact ha.2 p h
  · exact ⟨(hw.2 p h).1, (hw.2 p h).2, hk⟩
theorem ap_again {a w : List Pr} (ha : stateV a = true) (hw : writesGo none w = true) : apL (apL a w) w = apL a w := by
  have hs := (state_iff _).1 (ap_state ha hw)
  rw [state_iff] at ha
  rw [writes_iff0] at hw
  obtain ⟨h1, h2⟩ := ap_spec ha.1 hw.1
  obtain ⟨h3, h4⟩ := ap_spec hs.1 hw.1
  refine srt_ext _ _ h3 h1 fun k => ?_
  rw [h4, h2]
  cases fnd w k with
  | none => cases fnd a k <;> rfl
  | some y =>
    have : ∀ o : Option Pr, pick some wr (fun _ y => wr y) o (some y) = wr y := fun o => by cases o <;> rfl
    rw [this, this]
theorem ap_get {a w : List Pr} (ha : stateV a = true) (hw : writesGo none w = true) {y : Pr} (hy : y ∈ w) : getP (apL a w) y.key = y.v := by
  rw [state_iff] at ha
  rw [writes_iff0] at hw
  rw [getP_fnd, (ap_spec ha.1 hw.1).2, mem_fnd hw.1 hy]
  have : ∀ o : Option Pr, pick some wr (fun _ y => wr y) o (some y) = wr y := fun o => by cases o <;> rfl
  rw [this]
  by_cases hk : y.v.kind = 0
  · rw [show wr y = none from if_pos hk]
    exact (vl_zeroP _ (hw.2 y hy).2 hk).symm
  · rw [show wr y = some y from if_neg hk]
theorem ap_old {a w : List Pr} (ha : stateV a = true) (hw : writesGo none w = true) {k : ByteArray} (hk : fnd w k = none) : getP (apL a w) k = getP a k := by
  rw [state_iff] at ha
  rw [writes_iff0] at hw
  rw [getP_fnd, getP_fnd, (ap_spec ha.1 hw.1).2, hk]
  cases fnd a k <;> rfl

/-! Differences -/
theorem df_mem {a b : List Pr} (ha : Srt a) (hb : Srt b) {p : Pr} (h : p ∈ dfL a b) :
    (∃ x ∈ a, p = nilP x ∧ fnd a p.key = some x ∧ fnd b p.key = none) ∨ (p ∈ b ∧ fnd b p.key = some p ∧ ∀ x, fnd a p.key = some x → vlEq x.v p.v = false) := by
  obtain ⟨h1, h2⟩ := df_spec ha hb
  have h3 := mem_fnd h1 h
  rw [h2] at h3
  cases hA : fnd a p.key with
  | none =>
    cases hB : fnd b p.key with
    | none => rw [hA, hB] at h3; cases h3
    | some y => rw [hA, hB] at h3; cases h3; exact .inr ⟨(fnd_mem hB).1, rfl, fun x hx => by cases hx⟩
  | some x =>
    cases hB : fnd b p.key with
    | none => rw [hA, hB] at h3; cases h3; exact .inl ⟨x, (fnd_mem hA).1, rfl, rfl, rfl⟩
    | some y =>
      rw [hA, hB] at h3
      simp only [pick] at h3
      split at h3
      · cases h3
      · rename_i hv
        cases h3
        exact .inr ⟨(fnd_mem hB).1, rfl, fun z hz => by cases hz; simpa using hv⟩
theorem vl0_ok : valV vl0 = true := by decide +kernel
theorem df_writes {a b : List Pr} (ha : stateV a = true) (hb : stateV b = true) : writesGo none (dfL a b) = true := by
  rw [state_iff] at ha hb
  rw [writes_iff0]
  refine ⟨(df_spec ha.1 hb.1).1, fun p hp => ?_⟩
  rcases df_mem ha.1 hb.1 hp with ⟨x, hx, rfl, _⟩ | ⟨h, _⟩
  · exact ⟨(ha.2 x hx).1, vl0_ok⟩
  · exact ⟨(hb.2 p h).1, (hb.2 p h).2.1⟩
theorem df_apply {a b : List Pr} (ha : stateV a = true) (hb : stateV b = true) : apL a (dfL a b) = b := by
  have hd := (writes_iff0 _).1 (df_writes ha hb)
  rw [state_iff] at ha hb
  refine srt_ext _ _ (ap_spec ha.1 hd.1).1 hb.1 fun k => ?_
  rw [(ap_spec ha.1 hd.1).2, (df_spec ha.1 hb.1).2]
  have wrb : ∀ y, y ∈ b → wr y = some y := fun y hy => by unfold wr; rw [if_neg (hb.2 y hy).2.2]
  cases hA : fnd a k with
  | none =>
    cases hB : fnd b k with
    | none => rfl
    | some y => exact wrb y (fnd_mem hB).1
  | some x =>
    cases hB : fnd b k with
    | none => rfl
    | some y =>
      simp only [pick]
      by_cases hv : vlEq x.v y.v = true
      · rw [if_pos hv]
        have e := (vlEq_iff _ _).1 hv
        have e1 := (fnd_mem hA).2
        have e2 := (fnd_mem hB).2
        show some x = some y
        obtain ⟨c, d⟩ := x
        obtain ⟨c', d'⟩ := y
        simp only at e e1 e2
        rw [e, e1, e2]
      · rw [if_neg hv]
        exact wrb y (fnd_mem hB).1
theorem df_diff {a b : List Pr} (ha : stateV a = true) (hb : stateV b = true) {p : Pr} (hp : p ∈ dfL a b) : vlEq (getP a p.key) (getP b p.key) = false ∧ p.v = getP b p.key := by
  rw [state_iff] at ha hb
  have ne : ∀ u v : Vl, u ≠ v → vlEq u v = false := fun u v h => by
    cases hc : vlEq u v with
    | false => rfl
    | true => exact absurd ((vlEq_iff _ _).1 hc) h
  rw [getP_fnd, getP_fnd]
  rcases df_mem ha.1 hb.1 hp with ⟨x, hx, e, h1, h2⟩ | ⟨h, h1, h2⟩
  · rw [h1, h2]
    refine ⟨ne _ _ fun e => (ha.2 x hx).2.2 ?_, by rw [e]; rfl⟩
    show x.v.kind = 0
    have e : x.v = vl0 := e
    rw [e]; rfl
  · rw [h1]
    refine ⟨?_, rfl⟩
    cases hA : fnd a p.key with
    | none => exact ne _ _ fun e => (hb.2 p h).2.2 (by have e : vl0 = p.v := e; rw [← e]; rfl)
    | some x => exact h2 x hA
theorem nil_of_fnd {l : List Pr} (h : ∀ k, fnd l k = none) : l = [] := by
  cases l with
  | nil => rfl
  | cons x xs => have := h x.key; simp [fnd] at this
theorem df_self {a : List Pr} (ha : stateV a = true) : dfL a a = [] := by
  rw [state_iff] at ha
  refine nil_of_fnd fun k => ?_
  rw [(df_spec ha.1 ha.1).2]
  cases fnd a k with
  | none => rfl
  | some x =>
    simp only [pick]
    rw [if_pos ((vlEq_iff _ _).2 rfl)]

/-! Unions -/
theorem uni_flag : ∀ (n : Nat) (a b : List Pr) (s : Option (List Pr) × Bool), a.length + b.length ≤ n → Srt a → Srt b →
    ((mergeS uniL uniL uniB a b s).2 = true ↔ s.2 = true ∨ ∃ k x y, fnd a k = some x ∧ fnd b k = some y) := by
  intro n
  induction n with
  | zero =>
    intro a b s h _ _
    have ha : a = [] := List.eq_nil_of_length_eq_zero (by omega)
    have hb : b = [] := List.eq_nil_of_length_eq_zero (by omega)
    subst ha; subst hb
    simp [mergeS, fnd]
  | succ n ih =>
    intro a b s h sa sb
    match a, b, h, sa, sb with
    | [], [], _, _, _ => simp [mergeS, fnd]
    | x :: xs, [], h, sa, sb =>
      simp only [mergeS]
      rw [ih xs [] _ (by simp at h ⊢; omega) (srt_cons.1 sa).2 sb]
      simp [uniL, fnd]
    | [], y :: ys, h, sa, sb =>
      simp only [mergeS]
      rw [ih [] ys _ (by simp at h ⊢; omega) sa (srt_cons.1 sb).2]
      simp [uniL, fnd]
    | x :: xs, y :: ys, h, sa, sb =>
      have sa' := srt_cons.1 sa
      have sb' := srt_cons.1 sb
      simp only [mergeS]
      by_cases h1 : cmpK x.key y.key < 0
      · rw [if_pos h1, ih xs (y :: ys) _ (by simp at h ⊢; omega) sa'.2 sb]
        rw [cmp_lt] at h1
        have hly : lb x.key (y :: ys) := fun p hp => by
          rcases List.mem_cons.1 hp with rfl | hp
          · exact h1
          · exact h1.tr (sb'.1 p hp)
        refine or_congr Iff.rfl ⟨?_, ?_⟩
        · rintro ⟨k, p, q, hp, hq⟩
          refine ⟨k, p, q, ?_, hq⟩
          simp only [fnd]
          rw [if_neg (fun e => by rw [← e, fnd_lb hly] at hq; cases hq)]
          exact hp
        · rintro ⟨k, p, q, hp, hq⟩
          refine ⟨k, p, q, ?_, hq⟩
          simp only [fnd] at hp
          rw [if_neg (fun e => by rw [← e, fnd_lb hly] at hq; cases hq)] at hp
          exact hp
      · rw [if_neg h1]
        by_cases h2 : cmpK x.key y.key > 0
        · rw [if_pos h2, ih (x :: xs) ys _ (by simp at h ⊢; omega) sa sb'.2]
          rw [cmp_gt] at h2
          have hlx : lb y.key (x :: xs) := fun p hp => by
            rcases List.mem_cons.1 hp with rfl | hp
            · exact h2
            · exact h2.tr (sa'.1 p hp)
          refine or_congr Iff.rfl ⟨?_, ?_⟩
          · rintro ⟨k, p, q, hp, hq⟩
            refine ⟨k, p, q, hp, ?_⟩
            simp only [fnd]
            rw [if_neg (fun e => by rw [← e, fnd_lb hlx] at hp; cases hp)]
            exact hq
          · rintro ⟨k, p, q, hp, hq⟩
            refine ⟨k, p, q, hp, ?_⟩
            simp only [fnd] at hq
            rw [if_neg (fun e => by rw [← e, fnd_lb hlx] at hp; cases hp)] at hq
            exact hq
        · rw [if_neg h2, ih xs ys _ (by simp at h ⊢; omega) sa'.2 sb'.2]
          rw [cmp_lt] at h1
          rw [cmp_gt] at h2
          have hxy : x.key = y.key := bl_tot h1 h2
          constructor
          · intro _
            exact .inr ⟨x.key, x, y, by simp [fnd], by simp [fnd, hxy]⟩
          · intro _
            exact .inl rfl
theorem fnd_filter (f : ByteArray → Bool) (k : ByteArray) : ∀ l : List Pr, fnd (l.filter fun p => f p.key) k = if f k = true then fnd l k else none
  | [] => by simp [fnd]
  | x :: xs => by
    have ih := fnd_filter f k xs
    by_cases hx : f x.key = true
    · rw [List.filter_cons_of_pos (by simpa using hx)]
      simp only [fnd]
      by_cases hk : x.key = k
      · rw [if_pos hk, if_pos hk, if_pos (hk ▸ hx)]
      · rw [if_neg hk, if_neg hk, ih]
    · rw [List.filter_cons_of_neg (by simpa using hx)]
      simp only [fnd]
      by_cases hk : x.key = k
      · rw [ih, if_neg (hk ▸ hx), if_neg (hk ▸ hx)]
      · rw [if_neg hk, ih]
theorem srt_filter {l : List Pr} (h : Srt l) (f : Pr → Bool) : Srt (l.filter f) := h.sublist List.filter_sublist
theorem state_filter {l : List Pr} (h : stateV l = true) (f : Pr → Bool) : stateV (l.filter f) = true := by
  rw [state_iff] at h ⊢
  exact ⟨srt_filter h.1 f, fun x hx => h.2 x ((List.mem_filter.1 hx).1)⟩
theorem un_split {l : List Pr} (h : Srt l) (f : ByteArray → Bool) : unL (l.filter fun p => f p.key) (l.filter fun p => !f p.key) = l ∧ unL (l.filter fun p => !f p.key) (l.filter fun p => f p.key) = l ∧
    (uniO (l.filter fun p => f p.key) (l.filter fun p => !f p.key)).2 = false ∧ (uniO (l.filter fun p => !f p.key) (l.filter fun p => f p.key)).2 = false := by
  have s1 := srt_filter h fun p => f p.key
  have s2 := srt_filter h fun p => !f p.key
  have f1 := fun k => fnd_filter f k l
  have f2 := fun k => fnd_filter (fun k => !f k) k l
  refine ⟨srt_ext _ _ (un_spec s1 s2).1 h fun k => ?_, srt_ext _ _ (un_spec s2 s1).1 h fun k => ?_, ?_, ?_⟩
  · rw [(un_spec s1 s2).2, f1, f2]
    cases f k <;> cases fnd l k <;> rfl
  · rw [(un_spec s2 s1).2, f1, f2]
    cases f k <;> cases fnd l k <;> rfl
  · cases hc : (uniO (l.filter fun p => f p.key) (l.filter fun p => !f p.key)).2 with
    | false => rfl
    | true =>
      rcases (uni_flag _ _ _ (none, false) (Nat.le_refl _) s1 s2).1 hc with h | ⟨k, x, y, hx, hy⟩
      · cases h
      · rw [f1] at hx; rw [f2] at hy
        cases hk : f k <;> rw [hk] at hx hy <;> simp at hx hy
  · cases hc : (uniO (l.filter fun p => !f p.key) (l.filter fun p => f p.key)).2 with
    | false => rfl
    | true =>
      rcases (uni_flag _ _ _ (none, false) (Nat.le_refl _) s2 s1).1 hc with h | ⟨k, x, y, hx, hy⟩
      · cases h
      · rw [f2] at hx; rw [f1] at hy
        cases hk : f k <;> rw [hk] at hx hy <;> simp at hx hy
theorem un_self {l : List Pr} (h : Srt l) : (uniO l l).2 = decide (0 < l.length) := by
  cases l with
  | nil => simp [uniO, mergeS]
  | cons x xs =>
    have := (uni_flag _ (x :: xs) (x :: xs) (none, false) (Nat.le_refl _) h h).2 (.inr ⟨x.key, x, x, by simp [fnd], by simp [fnd]⟩)
    rw [show (uniO (x :: xs) (x :: xs)).2 = true from this]; simp

/-! The contracts once more -/
theorem apply_ok (l ws : List Pr) (hl : l.length ≤ 1048576) (hw : ws.length ≤ 1048576) (fl : ∀ p ∈ l, p.fit) (fw : ∀ p ∈ ws, p.fit) (h1 : stateV l = true) (h2 : writesGo none ws = true) :
    PDen Try.prog 10 [.a (.slice 4 (l.map Pr.row)), .a (.slice 4 (ws.map Pr.row))] (.tup [.a (.slice 4 ((apL l ws).map Pr.row)), .a (.int .i64 0)]) := by
  have h := apply_den l ws (by omega) (by omega) (by omega) fl fw
  rw [show applyA l ws = .tup [.a (.slice 4 ((outL (applyO l ws)).map Pr.row)), .a (.int .i64 0)] from if_pos (by rw [h1, h2]; rfl), apply_out] at h
  exact h
theorem apply_no (l ws : List Pr) (hl : l.length ≤ 1048576) (hw : ws.length ≤ 1048576) (fl : ∀ p ∈ l, p.fit) (fw : ∀ p ∈ ws, p.fit) (h1 : (stateV l && writesGo none ws) = false) :
    PDen Try.prog 10 [.a (.slice 4 (l.map Pr.row)), .a (.slice 4 (ws.map Pr.row))] (.tup [.a .nils, .a (.int .i64 1)]) := by
  have h := apply_den l ws (by omega) (by omega) (by omega) fl fw
  rw [show applyA l ws = .tup [.a .nils, .a (.int .i64 1)] from if_neg (by rw [h1]; simp)] at h
  exact h
theorem diff_ok (l ws : List Pr) (hl : l.length ≤ 1048576) (hw : ws.length ≤ 1048576) (fl : ∀ p ∈ l, p.fit) (fw : ∀ p ∈ ws, p.fit) (h1 : stateV l = true) (h2 : stateV ws = true) :
    PDen Try.prog 19 [.a (.slice 4 (l.map Pr.row)), .a (.slice 4 (ws.map Pr.row))] (.tup [.a (.slice 4 ((dfL l ws).map Pr.row)), .a (.int .i64 0)]) := by
  have h := diff_den l ws (by omega) (by omega) (by omega) fl fw
  rw [show diffA l ws = .tup [.a (.slice 4 ((outL (diffO l ws)).map Pr.row)), .a (.int .i64 0)] from if_pos (by rw [h1, h2]; rfl), diff_out] at h
  exact h
theorem diff_no (l ws : List Pr) (hl : l.length ≤ 1048576) (hw : ws.length ≤ 1048576) (fl : ∀ p ∈ l, p.fit) (fw : ∀ p ∈ ws, p.fit) (h1 : (stateV l && stateV ws) = false) :
    PDen Try.prog 19 [.a (.slice 4 (l.map Pr.row)), .a (.slice 4 (ws.map Pr.row))] (.tup [.a .nils, .a (.int .i64 1)]) := by
  have h := diff_den l ws (by omega) (by omega) (by omega) fl fw
  rw [show diffA l ws = .tup [.a .nils, .a (.int .i64 1)] from if_neg (by rw [h1]; simp)] at h
  exact h
theorem uni_ok (l ws : List Pr) (hl : l.length ≤ 1048576) (hw : ws.length ≤ 1048576) (fl : ∀ p ∈ l, p.fit) (fw : ∀ p ∈ ws, p.fit) (h1 : stateV l = true) (h2 : stateV ws = true) (h3 : (uniO l ws).2 = false) :
    PDen Try.prog 17 [.a (.slice 4 (l.map Pr.row)), .a (.slice 4 (ws.map Pr.row))] (.tup [.a (.slice 4 ((unL l ws).map Pr.row)), .a (.int .i64 0)]) := by
  have h := uni_den l ws (by omega) (by omega) (by omega) fl fw
  rw [show uniA l ws = .tup [.a (.slice 4 ((outL (uniO l ws).1).map Pr.row)), .a (.int .i64 0)] from (if_pos (by rw [h1, h2]; rfl)).trans (if_neg (by rw [h3]; simp)), uni_out] at h
  exact h
theorem uni_twice (l ws : List Pr) (hl : l.length ≤ 1048576) (hw : ws.length ≤ 1048576) (fl : ∀ p ∈ l, p.fit) (fw : ∀ p ∈ ws, p.fit) (h1 : stateV l = true) (h2 : stateV ws = true) (h3 : (uniO l ws).2 = true) :
    PDen Try.prog 17 [.a (.slice 4 (l.map Pr.row)), .a (.slice 4 (ws.map Pr.row))] (.tup [.a .nils, .a (.int .i64 8)]) := by
  have h := uni_den l ws (by omega) (by omega) (by omega) fl fw
  rw [show uniA l ws = .tup [.a .nils, .a (.int .i64 8)] from (if_pos (by rw [h1, h2]; rfl)).trans (if_pos h3)] at h
  exact h
end Go.Proofs.Ytldonmombfpleaa
