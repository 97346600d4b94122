/- Chapter 22: what stores show behind New, Apply and Truncate; their validity. Plain law. -/
import Derived.Test.YtlfebjehmabejaaMp
import Derived.Test.YtlfebjehmabejaaMwD
import Derived.Test.YtlfebjehmabejaaMfm
set_option linter.unusedSimpArgs false
set_option linter.unusedVariables false
namespace Go.Proofs.Ytlfebjehmabejaa
open Go Ab
set_option maxRecDepth 100000

/-! Versions -/
theorem valU_snoc_lt (x : Ver) (p : Int) (h : p < x.at_) : ∀ (vs : List Ver) (u : Vl), valU u (vs ++ [x]) p = valU u vs p
  | [], u => by
    show (if x.at_ ≤ p then x.v else u) = u
    rw [if_neg (by omega)]
  | y :: ys, u => by
    show (if y.at_ ≤ p then valU y.v (ys ++ [x]) p else u) = if y.at_ ≤ p then valU y.v ys p else u
    rw [valU_snoc_lt x p h ys y.v]
theorem valU_snoc_at (x : Ver) (p la : Int) (h : x.at_ ≤ p) (hp : la ≤ p) : ∀ (vs : List Ver) (lo : Int) (u : Vl), ordV lo la u vs → valU u (vs ++ [x]) p = x.v
  | [], lo, u, _ => by
    show (if x.at_ ≤ p then x.v else u) = x.v
    rw [if_pos h]
  | y :: ys, lo, u, ho => by
    show (if y.at_ ≤ p then valU y.v (ys ++ [x]) p else u) = x.v
    have h2 : y.at_ ≤ la := ho.2.1
    have h4 := ho.2.2.2
    rw [if_pos (Int.le_trans h2 hp)]
    exact valU_snoc_at x p la h hp ys _ y.v h4
theorem valU_past (p q la : Int) (hp : la ≤ p) (hq : la ≤ q) : ∀ (vs : List Ver) (lo : Int) (u : Vl), ordV lo la u vs → valU u vs p = valU u vs q
  | [], _, _, _ => rfl
  | y :: ys, lo, u, ho => by
    have h2 : y.at_ ≤ la := ho.2.1
    show (if y.at_ ≤ p then valU y.v ys p else u) = if y.at_ ≤ q then valU y.v ys q else u
    rw [if_pos (Int.le_trans h2 hp), if_pos (Int.le_trans h2 hq)]
    exact valU_past p q la hp hq ys _ y.v ho.2.2.2
theorem ordV_snoc (x : Ver) (la : Int) (h : la < x.at_) : ∀ (vs : List Ver) (lo : Int) (u : Vl), ordV lo la u vs → lo ≤ x.at_ → x.v ≠ valU u vs la → ordV lo x.at_ u (vs ++ [x])
  | [], lo, u, _, hl, hv => ⟨hl, Int.le_refl _, hv, trivial⟩
  | y :: ys, lo, u, ho, hl, hv => by
    obtain ⟨h1, h2, h3, h4⟩ := ho
    refine ⟨h1, by omega, h3, ordV_snoc x la h ys _ y.v h4 (by omega) ?_⟩
    have e : valU u (y :: ys) la = valU y.v ys la := by
      show (if y.at_ ≤ la then valU y.v ys la else u) = _
      rw [if_pos h2]
    rw [← e]; exact hv
theorem ordV_la {la la' : Int} (h : la ≤ la') : ∀ (vs : List Ver) (lo : Int) (u : Vl), ordV lo la u vs → ordV lo la' u vs
  | [], _, _, _ => trivial
  | y :: ys, lo, u, ho => ⟨ho.1, Int.le_trans ho.2.1 h, ho.2.2.1, ordV_la h ys _ y.v ho.2.2.2⟩
theorem ordV_lo {la lo lo' : Int} (h : lo' ≤ lo) : ∀ (vs : List Ver) (u : Vl), ordV lo la u vs → ordV lo' la u vs
  | [], _, _ => trivial
  | _ :: _, _, ho => ⟨Int.le_trans h ho.1, ho.2.1, ho.2.2.1, ho.2.2.2⟩
/-- Behind a cut. -/
theorem ordV_drop (fl la : Int) : ∀ (vs : List Ver) (lo : Int) (u : Vl), ordV lo la u vs → ordV (fl + 1) la (valU u vs fl) (vs.drop (seenGo fl vs))
  | [], _, _, _ => trivial
  | y :: ys, lo, u, ho => by
    obtain ⟨h1, h2, h3, h4⟩ := ho
    by_cases h : y.at_ ≤ fl
    · have e1 : seenGo fl (y :: ys) = seenGo fl ys + 1 := if_pos h
      have e2 : valU u (y :: ys) fl = valU y.v ys fl := if_pos h
      rw [e1, e2]
      exact ordV_drop fl la ys _ y.v h4
    · have e1 : seenGo fl (y :: ys) = 0 := if_neg h
      have e2 : valU u (y :: ys) fl = u := if_neg h
      rw [e1, e2]
      exact ⟨by omega, h2, h3, h4⟩
theorem valU_drop (fl p : Int) (hp : fl ≤ p) : ∀ (vs : List Ver) (u : Vl), valU (valU u vs fl) (vs.drop (seenGo fl vs)) p = valU u vs p
  | [], _ => rfl
  | y :: ys, u => by
    by_cases h : y.at_ ≤ fl
    · have e1 : seenGo fl (y :: ys) = seenGo fl ys + 1 := if_pos h
      have e2 : valU u (y :: ys) fl = valU y.v ys fl := if_pos h
      have e3 : valU u (y :: ys) p = valU y.v ys p := if_pos (Int.le_trans h hp)
      rw [e1, e2, e3]
      exact valU_drop fl p hp ys y.v
    · have e1 : seenGo fl (y :: ys) = 0 := if_neg h
      have e2 : valU u (y :: ys) fl = u := if_neg h
      rw [e1, e2]; rfl
theorem valU_ok : ∀ (vs : List Ver) (u : Vl) (p : Int), valV u = true → (∀ x ∈ vs, valV x.v = true) → valV (valU u vs p) = true
  | [], _, _, h, _ => h
  | y :: ys, u, p, h, h2 => by
    show valV (if y.at_ ≤ p then valU y.v ys p else u) = true
    split
    · exact valU_ok ys y.v p (h2 y (by simp)) fun x hx => h2 x (by simp [hx])
    · exact h
theorem ord_go (fl la : Int) : ∀ (vs : List Ver) (lo : Int) (p : Option Ver) (u : Vl), ordV lo la u vs → (∀ x ∈ vs, valV x.v = true) → fl ≤ lo → (∀ y, p = some y → lo = y.at_ + 1 ∧ u = y.v) → versGo fl la p vs = true
  | [], _, p, _, _, _, _, _ => by cases p <;> rfl
  | x :: xs, lo, p, u, ho, hv, hl, hp => by
    obtain ⟨h1, h2, h3, h4⟩ := ho
    simp only [versGo, Bool.and_eq_true]
    refine ⟨⟨?_, ?_⟩, ord_go fl la xs _ (some x) x.v h4 (fun y hy => hv y (by simp [hy])) (by omega) (fun y hy => by cases hy; exact ⟨rfl, rfl⟩)⟩
    · unfold verOk
      rw [hv x (by simp), decide_eq_true (show fl ≤ x.at_ by omega), decide_eq_true h2]; rfl
    · cases p with
      | none => rfl
      | some y =>
        obtain ⟨e1, e2⟩ := hp y rfl
        simp only
        unfold verStep
        have hne : vlEq x.v y.v = false := by
          rw [Bool.eq_false_iff]
          exact fun q => h3 (by rw [(vlEq_iff _ _).1 q, e2])
        rw [hne, decide_eq_true (show y.at_ < x.at_ by omega)]; rfl
/-- Versions of a row of a valid store. -/
structure GoodV (fl la : Int) (vs : List Ver) : Prop where
  ord : ordV fl la vl0 vs
  val : ∀ x ∈ vs, valV x.v = true
  ne : vs ≠ []
theorem vl0_val : valV vl0 = true := by decide +kernel
theorem good_iff (fl la : Int) (vs : List Ver) : versV vs fl la = true ↔ GoodV fl la vs := by
  constructor
  · intro h
    refine ⟨ord_row fl la vs h, (versGo_sorted _ _ _ _ (versV_go _ _ _ h)).2.2, fun q => ?_⟩
    rw [q] at h
    cases h
  · rintro ⟨h1, h2, h3⟩
    cases vs with
    | nil => exact absurd rfl h3
    | cons x xs =>
      show (!(x.v.kind == 0) && versGo fl la none (x :: xs)) = true
      rw [ord_go fl la (x :: xs) fl none vl0 h1 h2 (Int.le_refl _) (fun y hy => by cases hy)]
      have hk : x.v.kind ≠ 0 := fun q => h1.2.2.1 (vl_zero _ (h2 x (by simp)) q)
      simp [hk]
theorem goodV_up {fl la : Int} {vs : List Ver} (h : GoodV fl la vs) (at_ : Int) (v : Vl) (ha : la < at_) (hf : fl ≤ at_) (hv : valV v = true) : GoodV fl at_ (vlUp vs at_ la v) := by
  unfold vlUp
  split
  · exact ⟨ordV_la (by omega) vs _ _ h.ord, h.val, h.ne⟩
  · rename_i hne
    refine ⟨ordV_snoc ⟨at_, v⟩ la ha vs fl vl0 h.ord hf (fun q => hne ?_), fun x hx => ?_, by simp⟩
    · rw [vlEq_iff, valU_vlAt]; exact q.symm
    · rcases List.mem_append.1 hx with hx | hx
      · exact h.val x hx
      · rw [List.mem_singleton.1 hx]; exact hv
theorem goodV_one (fl at_ : Int) (v : Vl) (hf : fl ≤ at_) (hv : valV v = true) (hk : v.kind ≠ 0) : GoodV fl at_ [⟨at_, v⟩] :=
  ⟨⟨hf, Int.le_refl _, fun q => hk (by rw [show v = vl0 from q]; rfl), trivial⟩, fun x hx => by rw [List.mem_singleton.1 hx]; exact hv, by simp⟩
theorem goodV_cut {fl la : Int} {r : Row} (h : GoodV fl la r.vs) (floor : Int) (hf : floor ≤ la) (hne : cutV r floor ≠ []) : GoodV floor la (cutV r floor) := by
  have ho := ordV_drop floor la r.vs fl vl0 h.ord
  have hvl : vlAt r.vs floor = valU vl0 r.vs floor := valU_vlAt floor r.vs
  have hvv := valU_ok r.vs vl0 floor vl0_val h.val
  have hd : ∀ x ∈ r.vs.drop (seenGo floor r.vs), valV x.v = true := fun x hx => h.val x (List.mem_of_mem_drop hx)
  unfold cutV cutHead at hne ⊢
  rw [hvl] at hne ⊢
  split
  · rename_i hk
    rw [if_pos hk] at hne
    have e := vl_zero _ hvv hk
    rw [e] at ho
    exact ⟨ordV_lo (by omega) _ _ ho, fun x hx => hd x (by simpa using hx), hne⟩
  · rename_i hk
    refine ⟨⟨Int.le_refl _, hf, fun q => hk (by rw [show valU vl0 r.vs floor = vl0 from q]; rfl), ho⟩, fun x hx => ?_, by simp⟩
    rcases List.mem_append.1 hx with hx | hx
    · rw [List.mem_singleton.1 hx]; exact hvv
    · exact hd x hx
theorem cut_val {fl la : Int} {r : Row} (h : GoodV fl la r.vs) (floor p : Int) (hp : floor ≤ p) : vlAt (cutV r floor) p = vlAt r.vs p := by
  have hvv := valU_ok r.vs vl0 floor vl0_val h.val
  rw [valU_vlAt p (cutV r floor), valU_vlAt p r.vs, ← valU_drop floor p hp r.vs vl0]
  unfold cutV cutHead
  rw [valU_vlAt floor r.vs]
  split
  · rename_i hk
    rw [vl_zero _ hvv hk]; rfl
  · show (if floor ≤ p then valU _ _ p else vl0) = _
    rw [if_pos hp]; rfl

/-! Rows -/
theorem prOf_key {f : Row → Vl} {r : Row} {q : Pr} (h : prOf f r = some q) : q.key = r.key := by
  unfold prOf at h
  split at h
  · cases h
  · cases h; rfl
theorem show_mem {f : Row → Vl} {rows : List Row} {q : Pr} (h : q ∈ rows.filterMap (prOf f)) : ∃ r ∈ rows, q.key = r.key := by
  obtain ⟨r, hr, e⟩ := List.mem_filterMap.1 h
  exact ⟨r, hr, prOf_key e⟩
theorem show_srt (f : Row → Vl) : ∀ rows : List Row, rows.Pairwise rLt → Srt (rows.filterMap (prOf f))
  | [], _ => .nil
  | r :: rs, hs => by
    have hs' := List.pairwise_cons.1 hs
    have ih := show_srt f rs hs'.2
    rw [List.filterMap_cons]
    split
    · exact ih
    · rename_i q hq
      refine srt_cons.2 ⟨fun x hx => ?_, ih⟩
      obtain ⟨r', hr', e⟩ := show_mem hx
      rw [e, prOf_key hq]
      exact hs'.1 r' hr'
theorem show_fnd (f : Row → Vl) (key : ByteArray) : ∀ rows : List Row, rows.Pairwise rLt → fnd (rows.filterMap (prOf f)) key = (rowOf rows key).bind (prOf f)
  | [], _ => rfl
  | r :: rs, hs => by
    have hs' := List.pairwise_cons.1 hs
    have ih := show_fnd f key rs hs'.2
    rw [List.filterMap_cons, rowOf_cons]
    by_cases hk : r.key = key
    · rw [if_pos hk]
      show _ = prOf f r
      split
      · rename_i h0
        rw [h0, ih, rowOf_below hs'.1 hk]; rfl
      · rename_i q hq
        rw [hq]
        simp only [fnd]
        rw [if_pos ((prOf_key hq).trans hk)]
    · rw [if_neg hk]
      split
      · exact ih
      · rename_i q hq
        simp only [fnd]
        rw [if_neg (fun e => hk ((prOf_key hq).symm.trans e))]
        exact ih
theorem showS_eq (s : Store) (p : Int) : showS s p = s.rows.filterMap (prOf fun r => vlAt r.vs p) := by
  unfold showS pairsTo
  rw [List.take_length]

/-! Stores -/
structure GoodS (s : Store) : Prop where
  b0 : 0 ≤ s.fl
  b1 : s.fl ≤ s.la
  b2 : s.la ≤ 1099511627776
  srt : s.rows.Pairwise rLt
  key : ∀ r ∈ s.rows, keyV r.key = true
  vs : ∀ r ∈ s.rows, GoodV s.fl s.la r.vs
theorem rowsGo_of (fl la : Int) : ∀ (rows : List Row) (p : Option Row), rows.Pairwise rLt → (∀ r ∈ rows, keyV r.key = true) → (∀ r ∈ rows, versV r.vs fl la = true) → (∀ y, p = some y → ∀ x ∈ rows, rLt y x) → rowsGo fl la p rows = true
  | [], _, _, _, _, _ => by unfold rowsGo; rfl
  | r :: rs, p, hs, hk, hv, hp => by
    have hs' := List.pairwise_cons.1 hs
    unfold rowsGo
    simp only [Bool.and_eq_true]
    refine ⟨⟨⟨hk r (by simp), ?_⟩, hv r (by simp)⟩, rowsGo_of fl la rs (some r) hs'.2 (fun x hx => hk x (by simp [hx])) (fun x hx => hv x (by simp [hx])) (fun y hy => by cases hy; exact hs'.1)⟩
    cases p with
    | none => rfl
    | some y =>
      show strGt r.key y.key = true
      rw [strGt_lt]
      exact hp y rfl r (by simp)
theorem storeV_iff (s : Store) : storeV s = true ↔ GoodS s := by
  constructor
  · intro h
    have hs := storeV_sorted s h
    unfold storeV at h
    simp only [Bool.and_eq_true, decide_eq_true_eq] at h
    exact ⟨h.1.1.1, h.1.1.2, h.1.2, hs.1, fun r hr => (hs.2 r hr).1, fun r hr => (good_iff _ _ _).1 (hs.2 r hr).2⟩
  · intro h
    unfold storeV
    simp only [Bool.and_eq_true, decide_eq_true_eq]
    exact ⟨⟨⟨h.b0, h.b1⟩, h.b2⟩, rowsGo_of _ _ _ _ h.srt h.key (fun r hr => (good_iff _ _ _).2 (h.vs r hr)) (fun y hy => by cases hy)⟩
def apply1 (s : Store) (at_ : Int) (ws : List Pr) : Store := ⟨s.fl, at_, putAll at_ s.la ws s.rows⟩
theorem putAll_srt {s : Store} (h : GoodS s) (at_ : Int) (ws : List Pr) : (putAll at_ s.la ws s.rows).Pairwise rLt := putAll_sorted at_ s.la ws _ h.srt
theorem apply_goodS {s : Store} (h : GoodS s) {at_ : Int} {ws : List Pr} (hw : writesGo none ws = true) (ha : s.la < at_) (hm : at_ ≤ 1099511627776) : GoodS (apply1 s at_ ws) := by
  have hws := (writes_iff0 ws).1 hw
  have hsp := putAll_srt h at_ ws
  have hb0 := h.b0
  have hb1 := h.b1
  have key : ∀ r ∈ putAll at_ s.la ws s.rows, keyV r.key = true ∧ GoodV s.fl at_ r.vs := fun r hr => by
    have h0 := rowOf_some hsp hr
    rw [putAll_row at_ s.la r.key ws s.rows h.srt hws.1] at h0
    cases hf : fnd ws r.key with
    | none =>
      rw [hf] at h0
      have hm := rowOf_mem h0
      exact ⟨h.key r hm.1, ordV_la (by omega) _ _ _ (h.vs r hm.1).ord, (h.vs r hm.1).val, (h.vs r hm.1).ne⟩
    | some p =>
      rw [hf] at h0
      have hp := fnd_mem hf
      have hpv := hws.2 p hp.1
      cases hr0 : rowOf s.rows r.key with
      | none =>
        rw [hr0] at h0
        unfold upO nw at h0
        simp only at h0
        split at h0
        · cases h0
        · rename_i hk
          injection h0 with h0
          rw [← h0]
          exact ⟨hpv.1, goodV_one s.fl at_ p.v (by omega) hpv.2 hk⟩
      | some q =>
        rw [hr0] at h0
        have hq := rowOf_mem hr0
        unfold upO at h0
        injection h0 with h0
        rw [← h0]
        exact ⟨h.key q hq.1, goodV_up (h.vs q hq.1) at_ p.v ha (by omega) hpv.2⟩
  exact ⟨hb0, by show s.fl ≤ at_; omega, hm, hsp, fun r hr => (key r hr).1, fun r hr => (key r hr).2⟩
theorem vlUp_lt (vs : List Ver) (at_ la : Int) (v : Vl) (p : Int) (hp : p < at_) : vlAt (vlUp vs at_ la v) p = vlAt vs p := by
  unfold vlUp
  split
  · rfl
  · rw [valU_vlAt, valU_vlAt]
    exact valU_snoc_lt ⟨at_, v⟩ p hp vs vl0
theorem vlUp_at {fl la : Int} {vs : List Ver} (h : GoodV fl la vs) (at_ : Int) (v : Vl) (ha : la < at_) : vlAt (vlUp vs at_ la v) at_ = v := by
  unfold vlUp
  split
  · rename_i he
    rw [valU_vlAt, valU_past at_ la la (by omega) (Int.le_refl _) vs fl vl0 h.ord, ← valU_vlAt]
    exact (vlEq_iff _ _).1 he
  · rw [valU_vlAt]
    exact valU_snoc_at ⟨at_, v⟩ at_ la (Int.le_refl _) (by omega) vs fl vl0 h.ord
theorem prOf_congr {f g : Row → Vl} {r r' : Row} (hk : r.key = r'.key) (h : f r = g r') : prOf f r = prOf g r' := by
  unfold prOf
  rw [h, hk]
/-- What was shown stays. -/
theorem show_old {s : Store} (h : GoodS s) {at_ : Int} {ws : List Pr} (hw : writesGo none ws = true) (p : Int) (hp : p < at_) : showS (apply1 s at_ ws) p = showS s p := by
  have hws := (writes_iff0 ws).1 hw
  have hsp := putAll_srt h at_ ws
  rw [showS_eq, showS_eq]
  refine srt_ext _ _ (show_srt _ _ hsp) (show_srt _ _ h.srt) fun key => ?_
  show fnd ((putAll at_ s.la ws s.rows).filterMap _) key = _
  rw [show_fnd _ _ _ hsp, show_fnd _ _ _ h.srt, putAll_row at_ s.la key ws s.rows h.srt hws.1]
  cases hf : fnd ws key with
  | none => rfl
  | some q =>
    cases hr : rowOf s.rows key with
    | none =>
      show (nw at_ q).bind _ = none
      unfold nw
      split
      · rfl
      · show prOf (fun r => vlAt r.vs p) ⟨q.key, [⟨at_, q.v⟩]⟩ = none
        unfold prOf
        rw [if_pos ?_]
        show (vlAt [⟨at_, q.v⟩] p).kind = 0
        rw [valU_vlAt]
        show (if at_ ≤ p then q.v else vl0).kind = 0
        rw [if_neg (by omega)]; rfl
    | some r =>
      show prOf (fun r => vlAt r.vs p) ⟨r.key, vlUp r.vs at_ s.la q.v⟩ = prOf (fun r => vlAt r.vs p) r
      exact prOf_congr rfl (vlUp_lt r.vs at_ s.la q.v p hp)
/-- The last position stands for all behind it. -/
theorem show_past {s : Store} (h : GoodS s) (p q : Int) (hp : s.la ≤ p) (hq : s.la ≤ q) : showS s p = showS s q := by
  rw [showS_eq, showS_eq]
  refine filterMap_congr2 fun r hr => prOf_congr rfl ?_
  rw [valU_vlAt, valU_vlAt]
  exact valU_past p q s.la hp hq r.vs s.fl vl0 (h.vs r hr).ord
/-- The state that was applied. -/
theorem show_new {s : Store} (h : GoodS s) {at_ : Int} {ws : List Pr} (hw : writesGo none ws = true) (ha : s.la < at_) : showS (apply1 s at_ ws) at_ = apL (showS s s.la) ws := by
  have hws := (writes_iff0 ws).1 hw
  have hsp := putAll_srt h at_ ws
  have hss := show_srt (fun r => vlAt r.vs s.la) s.rows h.srt
  rw [showS_eq, showS_eq]
  have hap := ap_spec hss hws.1
  refine srt_ext _ _ (show_srt _ _ hsp) hap.1 fun key => ?_
  show fnd ((putAll at_ s.la ws s.rows).filterMap _) key = _
  rw [show_fnd _ _ _ hsp, hap.2, show_fnd _ _ _ h.srt, putAll_row at_ s.la key ws s.rows h.srt hws.1]
  cases hf : fnd ws key with
  | none =>
    cases hr : rowOf s.rows key with
    | none => rfl
    | some r =>
      have hm := rowOf_mem hr
      have e : prOf (fun r => vlAt r.vs at_) r = prOf (fun r => vlAt r.vs s.la) r := prOf_congr rfl (by
        rw [valU_vlAt, valU_vlAt]
        exact valU_past at_ s.la s.la (by omega) (Int.le_refl _) r.vs s.fl vl0 (h.vs r hm.1).ord)
      show prOf (fun r => vlAt r.vs at_) r = pick some wr (fun _ y => wr y) (prOf (fun r => vlAt r.vs s.la) r) none
      rw [e]
      cases prOf (fun r => vlAt r.vs s.la) r <;> rfl
  | some q =>
    have hpk : ∀ o : Option Pr, pick some wr (fun _ y => wr y) o (some q) = wr q := fun o => by cases o <;> rfl
    rw [hpk]
    have hq := fnd_mem hf
    cases hr : rowOf s.rows key with
    | none =>
      show (nw at_ q).bind _ = wr q
      unfold nw wr
      split
      · rfl
      · rename_i hk
        show prOf (fun r => vlAt r.vs at_) ⟨q.key, [⟨at_, q.v⟩]⟩ = some q
        unfold prOf
        have e : vlAt [⟨at_, q.v⟩] at_ = q.v := by
          rw [valU_vlAt]
          show (if at_ ≤ at_ then q.v else vl0) = _
          rw [if_pos (Int.le_refl _)]
        simp only [e]
        rw [if_neg hk]
    | some r =>
      have hm := rowOf_mem hr
      show prOf (fun r => vlAt r.vs at_) ⟨r.key, vlUp r.vs at_ s.la q.v⟩ = wr q
      unfold prOf wr
      simp only [vlUp_at (h.vs r hm.1) at_ q.v ha]
      split
      · rfl
      · rw [hm.2, ← hq.2]
theorem cutRows_srt {s : Store} (h : GoodS s) (floor : Int) : (cutRows floor s.rows).Pairwise rLt := by
  unfold cutRows
  refine List.Pairwise.filter _ (List.pairwise_map.2 (h.srt.imp fun {a b} h => ?_))
  exact h
theorem cut_goodS {s : Store} (h : GoodS s) {floor : Int} (h1 : s.fl < floor) (h2 : floor ≤ s.la) : GoodS (cutS s floor) := by
  have hb0 := h.b0
  refine ⟨by show 0 ≤ floor; omega, h2, h.b2, cutRows_srt h floor, fun r hr => ?_, fun r hr => ?_⟩
  all_goals
    have hr' : r ∈ (s.rows.map (cutRow floor)).filter (fun r => !r.vs.isEmpty) := hr
    rw [List.mem_filter, List.mem_map] at hr'
    obtain ⟨⟨x, hx, rfl⟩, hne⟩ := hr'
  · exact h.key x hx
  · exact goodV_cut (h.vs x hx) floor h2 (by simpa [cutRow] using hne)
theorem show_cut {s : Store} (h : GoodS s) (floor p : Int) (hp : floor ≤ p) : showS (cutS s floor) p = showS s p := by
  rw [showS_eq, showS_eq]
  show ((s.rows.map (cutRow floor)).filter (fun r => !r.vs.isEmpty)).filterMap _ = _
  rw [List.filterMap_filter, List.filterMap_map]
  refine filterMap_congr2 fun r hr => ?_
  show (if (!(cutV r floor).isEmpty) = true then prOf _ (cutRow floor r) else none) = prOf _ r
  have e := cut_val (h.vs r hr) floor p hp
  by_cases hz : cutV r floor = []
  · rw [if_neg (by rw [hz]; simp)]
    unfold prOf
    have : (vlAt r.vs p).kind = 0 := by rw [← e, hz]; rfl
    rw [if_pos this]
  · rw [if_pos (by simpa using hz)]
    exact prOf_congr rfl e
theorem new_goodS {l : List Pr} {at_ : Int} (hv : stateV l = true) (h0 : 0 ≤ at_) (hm : at_ ≤ 1099511627776) : GoodS (newS l at_) := by
  have hs := (state_iff l).1 hv
  refine ⟨h0, Int.le_refl _, hm, List.pairwise_map.2 (hs.1.imp fun {a b} h => h), fun r hr => ?_, fun r hr => ?_⟩
  all_goals
    have hr' : r ∈ l.map (newRow at_) := hr
    obtain ⟨p, hp, rfl⟩ := List.mem_map.1 hr'
  · exact (hs.2 p hp).1
  · exact goodV_one at_ at_ p.v (Int.le_refl _) (hs.2 p hp).2.1 (hs.2 p hp).2.2
theorem show_newS {l : List Pr} {at_ : Int} (hv : stateV l = true) (p : Int) (hp : at_ ≤ p) : showS (newS l at_) p = l := by
  have hs := (state_iff l).1 hv
  rw [showS_eq]
  show (l.map (newRow at_)).filterMap _ = l
  rw [List.filterMap_map]
  have : ∀ m : List Pr, (∀ q ∈ m, q.v.kind ≠ 0) → m.filterMap ((prOf fun r => vlAt r.vs p) ∘ newRow at_) = m := by
    intro m
    induction m with
    | nil => intro _; rfl
    | cons q m ih =>
      intro hm
      have e : prOf (fun r => vlAt r.vs p) (newRow at_ q) = some q := by
        unfold prOf
        have e2 : vlAt [⟨at_, q.v⟩] p = q.v := by
          rw [valU_vlAt]
          show (if at_ ≤ p then q.v else vl0) = _
          rw [if_pos hp]
        show (if (vlAt [⟨at_, q.v⟩] p).kind = 0 then none else some (⟨q.key, vlAt [⟨at_, q.v⟩] p⟩ : Pr)) = _
        rw [e2, if_neg (hm q (by simp))]
      rw [List.filterMap_cons, show ((prOf fun r => vlAt r.vs p) ∘ newRow at_) q = some q from e]
      simp only
      rw [ih fun x hx => hm x (by simp [hx])]
  exact this l fun q hq => (hs.2 q hq).2.2
end Go.Proofs.Ytlfebjehmabejaa
