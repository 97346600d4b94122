/- Chapter 52: reads and snapshots agree with the reference, and with each other. -/
import Derived.Test.YtpicnfikpeekeaaRg
import Derived.Test.YtpicnfikpeekeaaStL
import Derived.Test.YtpicnfikpeekeaaUn
namespace Go.Proofs.Ytpicnfikpeekeaa
open Go Ab
attribute [local irreducible] awp aops aop asoft aeff aloop acall
attribute [local go_sem] Vl.row Ver.row Row.row Store.row Rg.row Pr.row

structure Ask where
  key : ByteArray
  nw : Int
  bd : Int
def Ask.row (x : Ask) : List Atom := [.str x.key, .int .i64 x.nw, .int .i64 x.bd]
def Ask.fit (x : Ask) : Prop := x.key.size ≤ 9223372036854775807 ∧ x.bd ≤ 9223372036854775807
attribute [local go_sem] Ask.row
theorem un_range {n : Nat} {xs : List Atom} (h : Has Try.prog (n + 2) 37 xs) : ∃ v : Rg, xs = v.row ∧ v.fit := by
  unfold Has at h; rw [Try.underlying37] at h
  obtain ⟨p1, r1, rfl, h1, p2, r2, rfl, h2, rfl⟩ := h
  obtain ⟨a, rfl, ha⟩ := un_string h1
  obtain ⟨b, rfl, hb⟩ := un_string h2
  unfold reachBytes at ha hb
  exact ⟨⟨a, b⟩, rfl, by simp only; omega, by simp only; omega⟩
theorem un_ask {n : Nat} {xs : List Atom} (h : Has Try.prog (n + 2) 35 xs) : ∃ v : Ask, xs = v.row ∧ v.fit := by
  unfold Has at h; rw [Try.underlying35] at h
  obtain ⟨p1, r1, rfl, h1, p2, r2, rfl, h2, p3, r3, rfl, h3, rfl⟩ := h
  obtain ⟨a, rfl, ha⟩ := un_string h1
  obtain ⟨b, rfl, _⟩ := un_i64 h2
  obtain ⟨c, rfl, hc⟩ := un_i64 h3
  have hm : IntKind.max .i64 = 9223372036854775807 := by decide
  simp only [Lit.wf, Bool.and_eq_true, decide_eq_true_eq] at hc
  unfold reachBytes at ha
  exact ⟨⟨a, b, c⟩, rfl, by simp only; omega, by simp only; omega⟩

theorem reads_ex (l : List Store) (hl : l.length * 40 ≤ 140737488351232) (hf : ∀ s ∈ l, s.fit) (hs : ∀ s ∈ l, s.small) (key : ByteArray) (hk : key.size ≤ 9223372036854775807) (nw bd : Int) (hbd : bd ≤ 9223372036854775807) :
    ∃ (v : Vl) (b e : Int), PDen Try.prog 14 [.a (.slice 3 (l.map Store.row)), .a (.str key), .a (.int .i64 nw), .a (.int .i64 bd)] (.tup [.agg v.row, .a (.int .i64 b), .a (.int .i64 e)]) ∧
      PDen Try.prog 15 [.a (.slice 3 (l.map Store.row)), .a (.str key), .a (.int .i64 nw), .a (.int .i64 bd)] (.tup [.agg v.row, .a (.int .i64 b), .a (.int .i64 e)]) := by
  rcases choose_split l nw bd with ⟨c, hc, he⟩ | ⟨j, hj, _, _, _, he⟩
  · exact ⟨_, _, _, read_err l nw bd c key hl hf hbd hc he, rread_err l nw bd c key hl hf hbd hc he⟩
  · exact ⟨_, _, _, read_ok l nw bd _ j hj key hk hl hf (fun s h => (hs s h).1) hbd he, rread_ok l nw bd _ j hj key hk hl hf (fun s h => (hs s h).1) hbd he⟩
theorem slices_len (r : Rg) (s : Store) (h : s.small) (at_ : Int) : ((shown s at_).filter fun p => containsV r p.key).length ≤ 9223372036854775807 := by
  have h1 := List.length_filter_le (fun p : Pr => containsV r p.key) (shown s at_)
  have h2 := shown_len s at_
  have h3 := h.1
  omega
theorem sliceRows_all (r : Rg) (l : List Pr) : sliceRows r l l.length = (l.filter fun p => containsV r p.key).map Pr.row := by
  unfold sliceRows; rw [List.take_length]
theorem snaps_ex (l : List Store) (hl : l.length * 40 ≤ 140737488351232) (hf : ∀ s ∈ l, s.fit) (hs : ∀ s ∈ l, s.small) (r : Rg) (hr : r.fit) (at_ : Int) :
    ∃ (x : Atom) (e : Int), PDen Try.prog 16 [.a (.slice 3 (l.map Store.row)), .agg r.row, .a (.int .i64 at_)] (.tup [.a x, .a (.int .i64 e)]) ∧
      PDen Try.prog 17 [.a (.slice 3 (l.map Store.row)), .agg r.row, .a (.int .i64 at_)] (.tup [.a x, .a (.int .i64 e)]) ∧
      PDen Try.prog 18 [.a x, .a x] (.a (.bool true)) := by
  by_cases hb : snapBad r at_
  · exact ⟨_, _, snap_bad l r hr at_ hb, rsnap_bad l r hr at_ hb, same_nil_den⟩
  · rcases first_or l at_ with h | ⟨j, hj, h1, h2⟩
    · exact ⟨_, _, snap_none l hl hf r hr at_ hb h, rsnap_none l hl hf r hr at_ hb h, same_nil_den⟩
    · refine ⟨_, _, snap_some l hl hf (fun s h => (hs s h).1) r hr at_ hb j hj h1 h2, rsnap_some l hl hf (fun s h => (hs s h).1) r hr at_ hb j hj h1 h2, ?_⟩
      rw [sliceRows_all]
      exact same_den _ (slices_len r _ (hs _ (List.getElem_mem hj)) at_)

set_option maxRecDepth 100000 in
set_option maxHeartbeats 1000000 in
theorem staleReads_den (l : List Store) (hl : l.length * 40 ≤ 140737488351232) (hf : ∀ s ∈ l, s.fit) (hs : ∀ s ∈ l, s.small) (x : Ask) (hx : x.fit) (r : Rg) (hr : r.fit) :
    PDen Try.prog 5 [.a (.slice 3 (l.map Store.row)), .agg x.row, .agg r.row] (.a (.bool true)) := by
  refine den_of_body k_law52_StaleReads ⟨rfl, Nat.le_of_ble_eq_true rfl, thaw_intro ?_⟩
  unfold c_law52_StaleReads
  simp only [go_sem]
  obtain ⟨v, b, e, h1, h2⟩ := reads_ex l hl hf hs x.key hx.1 x.nw x.bd hx.2
  obtain ⟨y, g, h3, h4, h5⟩ := snaps_ex l hl hf hs r hr x.nw
  refine t_call_intro h1 ?_
  simp only [go_sem]
  refine t_call_intro h2 ?_
  simp only [go_sem]
  refine t_call_intro h3 ?_
  simp only [go_sem]
  refine t_call_intro h4 ?_
  simp only [beq_self_eq_true, Bool.and_self, go_sem]
  refine t_call_intro h5 ?_
  simp only [beq_self_eq_true, go_sem]
  refine t_call_intro (examples_den) ?_
  simp only [go_sem]
  simp only [aresult, ares, go_sem]

/-! The whole and its parts -/
def rg0 : Rg := ⟨⟨#[]⟩, ⟨#[]⟩⟩
theorem rg0_fit : rg0.fit := ⟨by show (0 : Nat) ≤ _; omega, by show (0 : Nat) ≤ _; omega⟩
theorem rg0_range : rangeV rg0 = true := by
  show (boundV ⟨#[]⟩ && boundV ⟨#[]⟩ && ((ByteArray.toList ⟨#[]⟩ == []) || Op.bytesLess (ByteArray.toList ⟨#[]⟩) (ByteArray.toList ⟨#[]⟩))) = true
  rw [toList_nil]; rfl
theorem rg0_all (k : ByteArray) : containsV rg0 k = true := by
  unfold containsV
  rw [rg0_range]
  have h2 : Op.bytesLess k.toList rg0.f.toList = false := by
    have : rg0.f.toList = [] := by show ByteArray.toList ⟨#[]⟩ = []; exact toList_nil
    rw [this]; cases k.toList <;> rfl
  have h3 : (rg0.t.toList == []) = true := by
    have : rg0.t.toList = [] := by show ByteArray.toList ⟨#[]⟩ = []; exact toList_nil
    rw [this]; rfl
  rw [h2, h3]; rfl
theorem rg0_slice (l : List Pr) : sliceRows rg0 l l.length = l.map Pr.row := by
  rw [sliceRows_all, List.filter_eq_self.2 fun p _ => rg0_all p.key]
theorem rg0_bad (at_ : Int) (h1 : 0 ≤ at_) (h2 : at_ ≤ 1099511627776) : ¬ snapBad rg0 at_ := by
  rintro (h | h | h)
  · rw [rg0_range] at h; cases h
  · omega
  · omega

set_option maxRecDepth 100000 in
set_option maxHeartbeats 2000000 in
theorem staleSnapshots_den (l : List Store) (hl : l.length * 40 ≤ 140737488351232) (hf : ∀ s ∈ l, s.fit) (hs : ∀ s ∈ l, s.small) (x : Ask) (hx : x.fit) (r : Rg) (hr : r.fit) :
    PDen Try.prog 6 [.a (.slice 3 (l.map Store.row)), .agg x.row, .agg r.row] (.a (.bool true)) := by
  have n00 : ((0 : Int) != 0) = false := rfl
  have e00 : ((0 : Int) == 0) = true := rfl
  have n10 : ((1 : Int) != 0) = true := rfl
  have hvz : (0 : Int) = vl0.kind := rfl
  refine den_of_body k_law52_StaleSnapshots ⟨rfl, Nat.le_of_ble_eq_true rfl, thaw_intro ?_⟩
  unfold c_law52_StaleSnapshots
  simp only [go_sem]
  rcases choose_split l x.nw x.bd with ⟨c, hc, he⟩ | ⟨j, hj, hn0, hn1, hrd, he⟩
  · have nc : (c != 0) = true := by simpa using hc
    have nc2 : (c == 0) = false := by simpa using hc
    refine t_call_intro (read_err l x.nw x.bd c x.key hl hf hx.2 hc he) ?_
    simp only [go_sem]
    refine t_call_intro (he ▸ choose_den l x.nw x.bd (by omega) hf hx.2) ?_
    have v1 : vl0.kind = 0 := rfl
    have v2 : vl0.n = 0 := rfl
    have v3 : vl0.s = ⟨#[]⟩ := rfl
    simp only [nc, nc2, v1, v2, v3, beq_self_eq_true, Bool.and_self, go_sem]
    refine t_call_intro (examples_den) ?_
    simp only [go_sem]
    simp only [aresult, ares, go_sem]
  · have hfj := hf _ (List.getElem_mem hj)
    have hsj := hs _ (List.getElem_mem hj)
    have hjl : (j : Int) < (l.length : Int) := by omega
    have e := getD_map Store.row l j hj
    obtain ⟨hsv, hpe⟩ := readB_at _ _ hrd
    refine t_call_intro (read_ok l x.nw x.bd _ j hj x.key hx.1 hl hf (fun s h => (hs s h).1) hx.2 he) ?_
    simp only [go_sem]
    refine t_call_intro (he ▸ choose_den l x.nw x.bd (by omega) hf hx.2) ?_
    generalize hb : least2 l[j].la x.nw = b at *
    simp only [n00, go_sem]
    refine t_call_intro (keyV_den x.key hx.1) ?_
    simp only [go_sem]
    first | refine t_case_dec (fun hk => ?_) (fun hk => ?_) | refine t_case_ndec (fun hk => ?_) (fun hk => ?_) | refine t_case_eqI (fun hk => ?_) (fun hk => ?_) | refine t_case_neI (fun hk => ?_) (fun hk => ?_) | refine t_case_not (fun hk => ?_) (fun hk => ?_) | refine t_case_intro (fun hk => ?_) (fun hk => ?_)
    rotate_left
    · have g1 : getE l[j] x.key b = 1 := by simp [getE, hk]
      have g2 : getV l[j] x.key b = vl0 := by simp [getV, g1]
      have v1 : vl0.kind = 0 := rfl
      have v2 : vl0.n = 0 := rfl
      have v3 : vl0.s = ⟨#[]⟩ := rfl
      simp only [e00, g1, g2, n10, v1, v2, v3, beq_self_eq_true, Bool.and_self, go_sem]
      refine t_call_intro (examples_den) ?_
      simp only [go_sem]
      simp only [aresult, ares, go_sem]
    · have g1 : getE l[j] x.key b = 0 := by simp [getE, hsv, hk, hpe]
      have g2 : getV l[j] x.key b = lookV (fun r => vlAt r.vs b) l[j].rows x.key := by simp [getV, g1]
      have g3 : readAt 0 b = b := by simp [readAt]
      have hj0 : ¬ (j : Int) < 0 := by omega
      have hjg : ¬ (l.length : Int) ≤ (j : Int) := by omega
      simp only [g1, g3, n00, hj0, hjl, hjg, e, go_sem]
      have hl1 : ([l[j]] : List Store).length * 40 ≤ 140737488351232 := by simp
      have hf1 : ∀ s ∈ ([l[j]] : List Store), s.fit := by simpa using hfj
      have hb1 : ∀ s ∈ ([l[j]] : List Store), s.rows.length * 40 ≤ 140737488351232 := by simpa using hsj.1
      have hrb : 0 ≤ b ∧ b ≤ 1099511627776 := by
        have h1 := hrd
        unfold readB storeV at h1
        simp only [Bool.and_eq_true, decide_eq_true_eq] at h1
        omega
      have w1 := snap_some [l[j]] hl1 hf1 hb1 rg0 rg0_fit b (rg0_bad b hrb.1 hrb.2) 0 (by simp) hrd (fun i hi h => by omega)
      rw [rg0_slice] at w1
      refine t_call_intro w1 ?_
      simp only [go_sem]
      have hsl := shown_len l[j] b
      have hsb := hsj.1
      have g4 : getP (shown l[j] b) x.key = getV l[j] x.key b := by rw [g2]; exact pairs_get l[j] hsv b x.key
      by_cases hrv : rangeV r = false
      · have nb : snapBad r b := .inl hrv
        simp only [hjl, e, go_sem]
        refine t_call_intro (snap_bad [l[j]] r hr b nb) ?_
        simp only [n00, go_sem]
        refine t_call_intro (g4 ▸ get_den (shown l[j] b) (by omega) x.key) ?_
        simp only [beq_self_eq_true, Bool.and_self, go_sem]
        refine t_call_intro (hrv ▸ rangeV_den r hr) ?_
        have e11 : ((1 : Int) == 1) = true := rfl
        simp only [e11, e00, go_sem]
        refine t_call_intro (examples_den) ?_
        simp only [go_sem]
        simp only [aresult, ares, go_sem]
      · have hrv2 : rangeV r = true := by simpa using hrv
        have nb : ¬ snapBad r b := by
          rintro (h | h | h)
          · exact hrv h
          · omega
          · omega
        simp only [hjl, e, go_sem]
        refine t_call_intro (snap_some [l[j]] hl1 hf1 hb1 r hr b nb 0 (by simp) hrd (fun i hi h => by omega)) ?_
        simp only [n00, go_sem]
        refine t_call_intro (g4 ▸ get_den (shown l[j] b) (by omega) x.key) ?_
        simp only [beq_self_eq_true, Bool.and_self, go_sem]
        refine t_call_intro (hrv2 ▸ rangeV_den r hr) ?_
        simp only [e00, go_sem]
        refine t_call_intro (slice_den (shown l[j] b) (by omega) r hr) ?_
        simp only [go_sem]
        have hsd := same_den _ (slices_len r l[j] hsj b)
        rw [← sliceRows_all] at hsd
        refine t_call_intro hsd ?_
        simp only [go_sem]
        refine t_call_intro (examples_den) ?_
        simp only [go_sem]
        simp only [aresult, ares, go_sem]
end Go.Proofs.Ytpicnfikpeekeaa
