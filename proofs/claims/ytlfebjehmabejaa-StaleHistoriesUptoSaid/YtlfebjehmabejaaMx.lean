/- Chapter 22: what the loop of MvstoreSnapshots holds. Plain law. -/
import Derived.Test.YtlfebjehmabejaaMu
import Derived.Test.YtlfebjehmabejaaUs
import Derived.Test.YtlfebjehmabejaaMwE
set_option linter.unusedSimpArgs false
set_option linter.unusedVariables false
namespace Go.Proofs.Ytlfebjehmabejaa
open Go Ab
set_option maxRecDepth 100000

theorem valV_size (v : Vl) (h : valV v = true) : v.s.size ≤ 64 := by
  unfold valV at h
  have e0 : (v.s.toList == []) = true → v.s.size ≤ 64 := fun hh => by
    rw [size0] at hh; have := of_decide_eq_true hh; omega
  split at h
  · exact e0 (by simp only [Bool.and_eq_true] at h; exact h.2)
  · split at h
    · exact e0 h
    · split at h
      · unfold plainV at h
        simp only [Bool.and_eq_true, decide_eq_true_eq] at h
        exact h.2.1
      · cases h
theorem keyV_size (s : ByteArray) (h : keyV s = true) : s.size ≤ 24 := by
  unfold keyV bytesOk at h
  simp only [Bool.and_eq_true, decide_eq_true_eq] at h
  exact h.2.1
theorem state_fit {m : List Pr} (h : stateV m = true) : ∀ p ∈ m, p.fit := fun p hp => by
  have h1 := ((state_iff m).1 h).2 p hp
  exact ⟨Nat.le_trans (keyV_size _ h1.1) (by decide), Nat.le_trans (valV_size _ h1.2.1) (by decide)⟩
theorem writes_fit {m : List Pr} (h : writesGo none m = true) : ∀ p ∈ m, p.fit := fun p hp => by
  have h1 := ((writes_iff0 m).1 h).2 p hp
  exact ⟨Nat.le_trans (keyV_size _ h1.1) (by decide), Nat.le_trans (valV_size _ h1.2) (by decide)⟩
theorem goodS_fit {s : Store} (h : GoodS s) (n M : Nat) (hn : s.rows.length ≤ n) (hM : ∀ r ∈ s.rows, r.vs.length ≤ M) (b1 : n ≤ 1000000000) (b2 : M ≤ 1000000000) : s.fit ∧ s.small := by
  refine ⟨⟨Nat.le_trans hn (Nat.le_trans b1 (by decide)), fun r hr => ⟨Nat.le_trans (keyV_size _ (h.key r hr)) (by decide), Nat.le_trans (hM r hr) (Nat.le_trans b2 (by decide)), fun x hx => Nat.le_trans (valV_size _ ((h.vs r hr).val x hx)) (by decide)⟩⟩, Nat.le_trans (Nat.mul_le_mul_right 40 (Nat.le_trans hn b1)) (by decide), fun r hr => ⟨Nat.le_trans (Nat.mul_le_mul_right 40 (Nat.le_trans (hM r hr) b2)) (by decide), Nat.le_trans (keyV_size _ (h.key r hr)) (by decide)⟩⟩
theorem show_state {s : Store} (h : GoodS s) (p : Int) : stateV (showS s p) = true := by
  rw [state_iff, showS_eq]
  refine ⟨show_srt _ _ h.srt, fun q hq => ?_⟩
  obtain ⟨r, hr, e⟩ := List.mem_filterMap.1 hq
  unfold prOf at e
  split at e
  · cases e
  · rename_i hk
    cases e
    refine ⟨h.key r hr, ?_, hk⟩
    show valV (vlAt r.vs p) = true
    rw [valU_vlAt]
    exact valU_ok r.vs vl0 p vl0_val (h.vs r hr).val
theorem show_le (s : Store) (p : Int) : (showS s p).length ≤ s.rows.length := by
  rw [showS_eq]
  exact List.length_filterMap_le _ _
theorem apL_len (a w : List Pr) : (apL a w).length ≤ a.length + w.length := mrg_len _ a w (Nat.le_refl _)

structure Snap where
  s : Store
  ss : List (List Pr)
def lastP (ss : List (List Pr)) : List Pr := ss.getD (ss.length - 1) []
def trunc1 (t : Store) (floor : Int) : Store := if floor ≤ t.fl then t else cutS t floor
def snap1 (gap behind : Int) (x : Snap) (ws : List Pr) : Snap :=
  ⟨trunc1 (apply1 x.s (x.s.la + 1 + gap) ws) (x.s.la + 1 + gap - behind), x.ss ++ List.replicate gap.toNat (lastP x.ss) ++ [apL (lastP x.ss) ws]⟩
structure SnapOk (at_ gap behind : Int) (k : Nat) (x : Snap) : Prop where
  good : GoodS x.s
  la : x.s.la = at_ + (x.ss.length : Int) - 1
  ne : 0 < x.ss.length
  le : x.ss.length ≤ 1 + 3 * k
  flA : at_ ≤ x.s.fl
  flB : x.s.la - behind ≤ x.s.fl
  flC : x.s.fl = at_ ∨ x.s.fl = x.s.la - behind
  shows : ∀ (i : Nat) (h : i < x.ss.length), x.s.fl ≤ at_ + i → showS x.s (at_ + i) = x.ss[i]
  rows : x.s.rows.length ≤ 12 + 8 * k
  vers : ∀ r ∈ x.s.rows, r.vs.length ≤ 1 + 9 * k
  sts : ∀ m ∈ x.ss, stateV m = true ∧ m.length ≤ 12 + 8 * k
theorem lastP_get (ss : List (List Pr)) (h : 0 < ss.length) : lastP ss = ss[ss.length - 1]'(by omega) := by
  unfold lastP
  rw [List.getD_eq_getElem?_getD, List.getElem?_eq_getElem (by omega)]; rfl
theorem SnapOk.last {at_ gap behind : Int} {k : Nat} {x : Snap} (h : SnapOk at_ gap behind k x) (hb : 0 ≤ behind) : showS x.s x.s.la = lastP x.ss := by
  have h1 := h.la
  have h2 := h.ne
  have h3 := h.good.b1
  have e : x.s.la = at_ + ((x.ss.length - 1 : Nat) : Int) := by omega
  rw [lastP_get _ h2, e]
  exact h.shows (x.ss.length - 1) (by omega) (by omega)
theorem snap0_ok {l : List Pr} {at_ gap behind : Int} (hv : stateV l = true) (h0 : 0 ≤ at_) (hm : at_ ≤ 549755813888) (hb : 0 ≤ behind) (hl : l.length ≤ 12) : SnapOk at_ gap behind 0 ⟨newS l at_, [l]⟩ where
  good := new_goodS hv h0 (by omega)
  la := by show at_ = at_ + ((1 : Nat) : Int) - 1; omega
  ne := by show 0 < 1; decide
  le := by show 1 ≤ 1 + 3 * 0; decide
  flA := Int.le_refl _
  flB := by show at_ - behind ≤ at_; omega
  flC := .inl rfl
  shows := fun i h _ => by
    have hi : i = 0 := by simpa using h
    subst hi
    exact show_newS hv _ (by omega)
  rows := by show (l.map (newRow at_)).length ≤ 12 + 8 * 0; rw [List.length_map]; omega
  vers := fun r hr => by
    have hr' : r ∈ l.map (newRow at_) := hr
    obtain ⟨p, _, rfl⟩ := List.mem_map.1 hr'
    show 1 ≤ 1 + 9 * 0; decide
  sts := fun m hm => by
    have : m = l := by simpa using hm
    subst this
    exact ⟨hv, by omega⟩
theorem trunc1_rows (t : Store) (floor : Int) : (trunc1 t floor).rows.length ≤ t.rows.length := by
  unfold trunc1
  split
  · exact Nat.le_refl _
  · show ((t.rows.map (cutRow floor)).filter _).length ≤ _
    refine Nat.le_trans (List.length_filter_le _ _) ?_
    rw [List.length_map]; exact Nat.le_refl _
theorem trunc1_vers (t : Store) (floor : Int) (M : Nat) (h : ∀ r ∈ t.rows, r.vs.length ≤ M) : ∀ r ∈ (trunc1 t floor).rows, r.vs.length ≤ M + 1 := fun r hr => by
  unfold trunc1 at hr
  split at hr
  · have := h r hr; omega
  · have hr' : r ∈ (t.rows.map (cutRow floor)).filter (fun r => !r.vs.isEmpty) := hr
    rw [List.mem_filter, List.mem_map] at hr'
    obtain ⟨⟨x, hx, rfl⟩, _⟩ := hr'
    have h1 := h x hx
    have h2 : (cutV x floor).length ≤ x.vs.length + 1 := by
      unfold cutV cutHead
      split <;> simp <;> omega
    show (cutV x floor).length ≤ M + 1
    omega
theorem snap1_ok {at_ gap behind : Int} {k : Nat} {x : Snap} {ws : List Pr} (h : SnapOk at_ gap behind k x) (hk : k < 8) (h0 : 0 ≤ at_) (hm : at_ ≤ 549755813888) (hg : 0 ≤ gap) (hg2 : gap ≤ 2) (hb : 0 ≤ behind) (hw : writesGo none ws = true) (hwl : ws.length ≤ 8) :
    GoodS (apply1 x.s (x.s.la + 1 + gap) ws) ∧ SnapOk at_ gap behind (k + 1) (snap1 gap behind x ws) := by
  have e1 := h.la
  have e2 := h.ne
  have e3 := h.le
  have e4 := h.good.b1
  have e5 := h.flA
  have e6 := h.flB
  have hlast := h.last hb
  have hG := apply_goodS h.good hw (show x.s.la < x.s.la + 1 + gap by omega) (by omega)
  refine ⟨hG, ?_⟩
  have hll : (List.replicate gap.toNat (lastP x.ss)).length = gap.toNat := List.length_replicate
  have hsl : (snap1 gap behind x ws).ss.length = x.ss.length + gap.toNat + 1 := by
    show (x.ss ++ List.replicate gap.toNat (lastP x.ss) ++ [_]).length = _
    rw [List.length_append, List.length_append, hll]; rfl
  have htla : (trunc1 (apply1 x.s (x.s.la + 1 + gap) ws) (x.s.la + 1 + gap - behind)).la = x.s.la + 1 + gap := by
    unfold trunc1; split <;> rfl
  have htg : GoodS (trunc1 (apply1 x.s (x.s.la + 1 + gap) ws) (x.s.la + 1 + gap - behind)) := by
    unfold trunc1
    split
    · exact hG
    · rename_i hf
      exact cut_goodS hG (by show x.s.fl < _; exact Int.not_le.1 hf) (by show x.s.la + 1 + gap - behind ≤ x.s.la + 1 + gap; omega)
  have hsh : ∀ p, (trunc1 (apply1 x.s (x.s.la + 1 + gap) ws) (x.s.la + 1 + gap - behind)).fl ≤ p → showS (trunc1 (apply1 x.s (x.s.la + 1 + gap) ws) (x.s.la + 1 + gap - behind)) p = showS (apply1 x.s (x.s.la + 1 + gap) ws) p := fun p hp => by
    unfold trunc1 at hp ⊢
    split
    · rfl
    · rename_i hf
      rw [if_neg hf] at hp
      exact show_cut hG _ p hp
  have hfl : (trunc1 (apply1 x.s (x.s.la + 1 + gap) ws) (x.s.la + 1 + gap - behind)).fl = x.s.fl ∧ x.s.la + 1 + gap - behind ≤ x.s.fl ∨ (trunc1 (apply1 x.s (x.s.la + 1 + gap) ws) (x.s.la + 1 + gap - behind)).fl = x.s.la + 1 + gap - behind ∧ x.s.fl < x.s.la + 1 + gap - behind := by
    unfold trunc1
    split
    · rename_i hf; exact .inl ⟨rfl, hf⟩
    · rename_i hf; exact .inr ⟨rfl, Int.not_le.1 hf⟩
  refine ⟨htg, ?_, ?_, ?_, ?_, ?_, ?_, ?_, ?_, ?_, ?_⟩
  · show (trunc1 _ _).la = _
    rw [htla, hsl]; omega
  · rw [hsl]; omega
  · rw [hsl]; omega
  · show at_ ≤ (trunc1 _ _).fl
    omega
  · show (trunc1 _ _).la - behind ≤ (trunc1 _ _).fl
    rw [htla]; omega
  · show (trunc1 _ _).fl = at_ ∨ (trunc1 _ _).fl = (trunc1 _ _).la - behind
    rw [htla]
    have := h.flC
    omega
  · intro i hi hp
    have hp' : (trunc1 (apply1 x.s (x.s.la + 1 + gap) ws) (x.s.la + 1 + gap - behind)).fl ≤ at_ + i := hp
    have hi2 : i < (x.ss ++ List.replicate gap.toNat (lastP x.ss) ++ [apL (lastP x.ss) ws]).length := hi
    show showS (trunc1 _ _) (at_ + i) = (x.ss ++ List.replicate gap.toNat (lastP x.ss) ++ [apL (lastP x.ss) ws])[i]'hi2
    rw [hsh _ hp']
    have hfl2 : x.s.fl ≤ at_ + i := by omega
    by_cases c1 : i < x.ss.length
    · rw [show_old h.good hw _ (by omega), h.shows i c1 hfl2, List.getElem_append_left (by rw [List.length_append]; omega), List.getElem_append_left c1]
    · by_cases c2 : i < x.ss.length + gap.toNat
      · rw [show_old h.good hw _ (by omega), show_past h.good (at_ + i) x.s.la (by omega) (Int.le_refl _), hlast, List.getElem_append_left (by rw [List.length_append, hll]; exact c2), List.getElem_append_right (by omega), List.getElem_replicate]
      · rw [hsl] at hi
        have e : at_ + (i : Int) = x.s.la + 1 + gap := by omega
        rw [e, show_new h.good hw (by omega), hlast, List.getElem_append_right (by rw [List.length_append, hll]; omega)]
        simp
  · have h1 := trunc1_rows (apply1 x.s (x.s.la + 1 + gap) ws) (x.s.la + 1 + gap - behind)
    have h2 := putAll_len (x.s.la + 1 + gap) x.s.la ws x.s.rows
    have h3 := h.rows
    show (trunc1 _ _).rows.length ≤ _
    have h4 : (apply1 x.s (x.s.la + 1 + gap) ws).rows.length = (putAll (x.s.la + 1 + gap) x.s.la ws x.s.rows).length := rfl
    omega
  · have h2 := putAll_vers (at_ := x.s.la + 1 + gap) (last := x.s.la) (ws := ws) h.vers
    have h3 := trunc1_vers (apply1 x.s (x.s.la + 1 + gap) ws) (x.s.la + 1 + gap - behind) _ h2
    intro r hr
    have := h3 r hr
    omega
  · intro m hm
    have hlm : lastP x.ss ∈ x.ss := by rw [lastP_get _ e2]; exact List.getElem_mem _
    have hls := h.sts _ hlm
    have hm' : m ∈ x.ss ++ List.replicate gap.toNat (lastP x.ss) ++ [apL (lastP x.ss) ws] := hm
    rcases List.mem_append.1 hm' with hm' | hm'
    · rcases List.mem_append.1 hm' with hm' | hm'
      · have := h.sts m hm'
        exact ⟨this.1, by omega⟩
      · rw [(List.mem_replicate.1 hm').2]
        exact ⟨hls.1, by omega⟩
    · rw [List.mem_singleton.1 hm']
      refine ⟨ap_state hls.1 hw, ?_⟩
      have := apL_len (lastP x.ss) ws
      omega
end Go.Proofs.Ytlfebjehmabejaa
