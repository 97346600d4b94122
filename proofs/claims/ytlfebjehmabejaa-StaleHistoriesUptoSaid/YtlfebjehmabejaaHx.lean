/- Chapter 52: two stores with one history: the laws. -/
import Derived.Test.YtlfebjehmabejaaMx
import Derived.Test.YtlfebjehmabejaaSx
import Derived.Test.YtlfebjehmabejaaAbV
set_option linter.unusedSimpArgs false
set_option linter.unusedVariables false
namespace Go.Proofs.Ytlfebjehmabejaa
open Go Ab
set_option maxRecDepth 100000
structure Hist where
  full : Store
  beh : Store
def hist1 (x : Hist) (at_ : Int) (ws : List Pr) : Hist := ⟨apply1 x.full at_ ws, x.full⟩
def histN (l : List Pr) (ch : List (List Pr)) : Nat → Hist
  | 0 => ⟨newS l 0, newS l 0⟩
  | k + 1 => hist1 (histN l ch k) ((k : Int) + 1) (ch.getD k [])
structure HistOk (k : Nat) (x : Hist) : Prop where
  good : GoodS x.full
  la : x.full.la = (k : Int)
  fl : x.full.fl = 0
  rows : x.full.rows.length ≤ 1048576 * (k + 1)
  vers : ∀ r ∈ x.full.rows, r.vs.length ≤ 1 + 1048576 * k
  bgood : GoodS x.beh
  bla : x.beh.la ≤ x.full.la
  bfl : x.beh.fl = 0
  brows : x.beh.rows.length ≤ 1048576 * (k + 1)
  bvers : ∀ r ∈ x.beh.rows, r.vs.length ≤ 1 + 1048576 * k
  shows : ∀ p, p ≤ x.beh.la → showS x.full p = showS x.beh p
theorem hist0_ok {l : List Pr} (hv : stateV l = true) (hl : l.length ≤ 1048576) : HistOk 0 ⟨newS l 0, newS l 0⟩ := by
  have hg := new_goodS (l := l) (at_ := 0) hv (by omega) (by omega)
  have hr : (newS l 0).rows.length ≤ 1048576 * (0 + 1) := by show (l.map (newRow 0)).length ≤ _; rw [List.length_map]; omega
  have hw : ∀ r ∈ (newS l 0).rows, r.vs.length ≤ 1 + 1048576 * 0 := fun r hr => by
    have hr' : r ∈ l.map (newRow 0) := hr
    obtain ⟨p, _, rfl⟩ := List.mem_map.1 hr'
    show 1 ≤ 1 + 1048576 * 0; decide
  exact ⟨hg, rfl, rfl, hr, hw, hg, Int.le_refl _, rfl, hr, hw, fun p _ => rfl⟩
theorem hist1_ok {k : Nat} {x : Hist} {ws : List Pr} (h : HistOk k x) (hk : k < 20) (hw : writesGo none ws = true) (hwl : ws.length ≤ 1048576) : HistOk (k + 1) (hist1 x ((k : Int) + 1) ws) := by
  have e1 := h.la
  have hG := apply_goodS h.good hw (show x.full.la < (k : Int) + 1 by omega) (by omega)
  have h2 := putAll_len ((k : Int) + 1) x.full.la ws x.full.rows
  have h3 := putAll_vers (at_ := (k : Int) + 1) (last := x.full.la) (ws := ws) h.vers
  have h4 := h.rows
  refine ⟨hG, ?_, h.fl, ?_, fun r hr => ?_, h.good, ?_, h.fl, ?_, fun r hr => ?_, fun p hp => ?_⟩
  · show ((k : Int) + 1) = ((k + 1 : Nat) : Int); omega
  · show (putAll ((k : Int) + 1) x.full.la ws x.full.rows).length ≤ _; omega
  · have := h3 r hr; omega
  · show x.full.la ≤ (k : Int) + 1; omega
  · show x.full.rows.length ≤ _; omega
  · have := h.vers r hr; omega
  · have hp' : p ≤ x.full.la := hp
    exact show_old h.good hw p (by omega)
theorem histN_zero (l : List Pr) (ch : List (List Pr)) : histN l ch 0 = ⟨newS l 0, newS l 0⟩ := rfl
theorem histN_step (l : List Pr) (ch : List (List Pr)) (k : Nat) (h : k < ch.length) : histN l ch (k + 1) = hist1 (histN l ch k) ((k : Int) + 1) ch[k] := by
  show hist1 _ _ (ch.getD k []) = _
  rw [List.getD_eq_getElem?_getD, List.getElem?_eq_getElem h]; rfl
theorem HistOk.fits {k : Nat} {x : Hist} (h : HistOk k x) (hk : k ≤ 20) : (x.full.fit ∧ x.full.small) ∧ x.beh.fit ∧ x.beh.small :=
  ⟨goodS_fit h.good (1048576 * (k + 1)) (1 + 1048576 * k) h.rows h.vers (by omega) (by omega), goodS_fit h.bgood (1048576 * (k + 1)) (1 + 1048576 * k) h.brows h.bvers (by omega) (by omega)⟩
/-- Where the changes are no writes. -/
theorem mzero_le (e : Int) : VLe (.tup [.agg [.int .i64 0, .int .i64 0, .nils], .a (.int .i64 e)]) (.tup [.agg [.int .i64 0, .int .i64 0, .slice 2 []], .a (.int .i64 e)]) := VLe.tup ⟨VLe.agg ⟨RLe.refl _, RLe.refl _, RLe.nils 2, trivial⟩, VLe.refl _, trivial⟩
theorem trunc1_good {t : Store} (h : GoodS t) {floor : Int} (hf : floor ≤ t.la) : GoodS (trunc1 t floor) := by
  unfold trunc1
  split
  · exact h
  · rename_i h1
    exact cut_goodS h (Int.not_le.1 h1) hf
theorem trunc1_show {t : Store} (h : GoodS t) {floor : Int} (p : Int) (hp : (trunc1 t floor).fl ≤ p) : showS (trunc1 t floor) p = showS t p := by
  unfold trunc1 at hp ⊢
  split
  · rfl
  · rename_i hf
    rw [if_neg hf] at hp
    exact show_cut h _ p hp
theorem trunc1_la (t : Store) (floor : Int) : (trunc1 t floor).la = t.la := by unfold trunc1; split <;> rfl
theorem read_yes {s : Store} (h : GoodS s) {p : Int} (h1 : s.fl ≤ p) (h2 : p ≤ s.la) : readB s p = true := by
  unfold readB
  rw [(storeV_iff s).2 h, decide_eq_true h1, decide_eq_true h2]; rfl
theorem read_no {s : Store} {p : Int} (h2 : s.la < p) : readB s p = false := by
  unfold readB
  rw [decide_eq_false (show ¬ p ≤ s.la by omega), Bool.and_false, Bool.and_false]
theorem shown_eq (s : Store) (p : Int) : shown s p = showS s p := rfl
def rgZ : Rg := ⟨ByteArray.mk #[], ByteArray.mk #[]⟩
theorem rgZ_row : rgZ.row = [.str (ByteArray.mk #[]), .str (ByteArray.mk #[])] := rfl
theorem rgZ_ok : rangeV rgZ = true := by decide +kernel
theorem rgZ_fit : rgZ.fit := by
  constructor <;> decide
def snapZ (s : Store) (p : Int) : List Pr := ((showS s p).filter fun q => containsV rgZ q.key)
theorem snapZ_rows (s : Store) (p : Int) : sliceRows rgZ (shown s p) (shown s p).length = (snapZ s p).map Pr.row := by
  unfold sliceRows snapZ
  rw [List.take_length, shown_eq]
theorem snapZ_len (s : Store) (p : Int) : (snapZ s p).length ≤ s.rows.length := Nat.le_trans (List.length_filter_le _ _) (show_le s p)
theorem snapZ_one {s : Store} (h : GoodS s) (hs : s.fit) (hm : s.small) (p : Int) (h1 : s.fl ≤ p) (h2 : p ≤ s.la) :
    PDen Try.prog 19 [.a (.slice 3 [s.row]), .agg [.str (ByteArray.mk #[]), .str (ByteArray.mk #[])], .a (.int .i64 p)] (.tup [.a (.slice 4 ((snapZ s p).map Pr.row)), .a (.int .i64 0)]) := by
  have b0 := h.b0
  have b2 := h.b2
  have hd := snap_some [s] (by simp) (fun x hx => by rw [List.mem_singleton.1 hx]; exact hs) (fun x hx => by rw [List.mem_singleton.1 hx]; exact hm.1) rgZ rgZ_fit p (by unfold snapBad; rw [rgZ_ok]; simp; omega) 0 (by simp) (read_yes h h1 h2) (fun i hi hj => by omega)
  rw [show ([s][0]'(by simp)) = s from rfl, snapZ_rows] at hd
  exact hd
theorem snapZ_two {s t : Store} (h : GoodS s) (hs : s.fit) (hm : s.small) (ht : t.fit) (hmt : t.small) (p : Int) (h1 : s.fl ≤ p) (h2 : p ≤ s.la) :
    PDen Try.prog 19 [.a (.slice 3 [s.row, t.row]), .agg [.str (ByteArray.mk #[]), .str (ByteArray.mk #[])], .a (.int .i64 p)] (.tup [.a (.slice 4 ((snapZ s p).map Pr.row)), .a (.int .i64 0)]) := by
  have b0 := h.b0
  have b2 := h.b2
  have hmem : ∀ x ∈ [s, t], x = s ∨ x = t := fun x hx => by simpa using hx
  have hd := snap_some [s, t] (by simp) (fun x hx => by rcases hmem x hx with rfl | rfl <;> assumption) (fun x hx => by rcases hmem x hx with rfl | rfl <;> first | exact hm.1 | exact hmt.1) rgZ rgZ_fit p (by unfold snapBad; rw [rgZ_ok]; simp; omega) 0 (by simp) (read_yes h h1 h2) (fun i hi hj => by omega)
  rw [show ([s, t][0]'(by simp)) = s from rfl, snapZ_rows] at hd
  exact hd
theorem avail_both {s t : Store} (h : GoodS s) (g : GoodS t) (hs : s.fit) (ht : t.fit) (p : Int) (h1 : s.fl ≤ p) (h2 : p ≤ s.la) (h3 : t.fl ≤ p) (h4 : p ≤ t.la) :
    PDen Try.prog 20 [.a (.slice 3 [s.row, t.row]), .a (.int .i64 p)] (.a (.slice 1 [[.int .i64 0], [.int .i64 1]])) := by
  have hmem : ∀ x ∈ [s, t], x = s ∨ x = t := fun x hx => by simpa using hx
  have hd := avail_den [s, t] p (by simp) (fun x hx => by rcases hmem x hx with rfl | rfl <;> assumption)
  have e0 : canB [s, t] p 0 = true := read_yes h h1 h2
  have e1 : canB [s, t] p 1 = true := read_yes g h3 h4
  have ee : idxRows (canB [s, t] p) [s, t].length = [[.int .i64 0], [.int .i64 1]] := by
    show idxRows (canB [s, t] p) 2 = _
    rw [idxRows_yes _ _ e1, idxRows_yes _ _ e0, idxRows_zero]; rfl
  rw [ee] at hd
  exact hd
theorem avail_none {s t : Store} (hs : s.fit) (ht : t.fit) (p : Int) (h2 : s.la < p) (h4 : t.la < p) :
    PDen Try.prog 20 [.a (.slice 3 [s.row, t.row]), .a (.int .i64 p)] (.a (.slice 1 [])) := by
  have hmem : ∀ x ∈ [s, t], x = s ∨ x = t := fun x hx => by simpa using hx
  have hd := avail_den [s, t] p (by simp) (fun x hx => by rcases hmem x hx with rfl | rfl <;> assumption)
  have e0 : canB [s, t] p 0 = false := read_no h2
  have e1 : canB [s, t] p 1 = false := read_no h4
  have ee : idxRows (canB [s, t] p) [s, t].length = [] := by
    show idxRows (canB [s, t] p) 2 = _
    rw [idxRows_no _ _ e1, idxRows_no _ _ e0, idxRows_zero]
  rw [ee] at hd
  exact hd
attribute [local irreducible] awp aops aop asoft aeff aloop acall acallI acallT
attribute [local go_sem] Vl.row Ver.row Row.row Store.row Pr.row
set_option maxHeartbeats 1000000 in
theorem psame_den (l : List Pr) (hl : l.length ≤ 9223372036854775807) :
    PDen Try.prog 17 [.a (.slice 4 (l.map Pr.row)), .a (.slice 4 (l.map Pr.row))] (.a (.bool true)) := by
  have n3 : (((l.length : Nat) : Int) != ((l.length : Nat) : Int)) = false := by simp
  refine den_of_body k_ref06_Same ⟨rfl, Nat.le_of_ble_eq_true rfl, thaw_intro ?_⟩
  unfold c_ref06_Same
  simp only [n3, go_sem]
  refine t_loop_intro (fun k : Nat => k ≤ l.length) (fun k => l.length - k) 0 [4, 5, 11, 12, 13, 14, 15, 16, 17, 18, 19, 20, 21, 22, 23, 24, 25] (fun k => [(5, .a (.int .i64 k))]) (by omega) (by simp) (fun k => by simp) rfl ?_
  intro k hk fr_ hfr
  simp only [go_sem] at hfr
  subst hfr
  by_cases hlt : k < l.length
  · have h3 : (k : Int) < (l.length : Int) := by omega
    have ew := wrap1 k l.length hlt hl
    have e := getD_map Pr.row l k hlt
    have er : l[k].row = [.str l[k].key, .int .i64 l[k].v.kind, .int .i64 l[k].v.n, .str l[k].v.s] := rfl
    have n1 : (l[k].key.toList == l[k].key.toList) = true := by simp
    have n2 : (l[k].v.kind == l[k].v.kind) = true := by simp
    have n4 : (l[k].v.n == l[k].v.n) = true := by simp
    have n5 : (l[k].v.s.toList == l[k].v.s.toList) = true := by simp
    simp only [h3, e, er, n1, n2, n4, n5, Bool.true_and, Bool.and_true, Bool.not_true, ew, go_sem]
    refine t_round (k + 1) (by omega) (by omega) (by simp) rfl rfl (by simp) rfl
  · have h3 : ¬ (k : Int) < (l.length : Int) := by omega
    simp only [h3, go_sem]
    simp only [aresult, ares, go_sem]
theorem trunc_ok {t : Store} (h : GoodS t) (hs : t.fit) (hc : t.cutable) (floor : Int) (hf : floor ≤ t.la) :
    PDen Try.prog 15 [.agg t.row, .a (.int .i64 floor)] (.tup [.agg (trunc1 t floor).row, .a (.int .i64 0)]) := by
  have ht := trunc_den t hs hc floor
  unfold truncA at ht
  rw [if_pos ((storeV_iff t).2 h), if_neg (by omega)] at ht
  unfold trunc1
  split
  · rename_i h1
    rw [if_pos h1] at ht; exact ht
  · rename_i h1
    rw [if_neg h1] at ht; exact ht
def stR (m : List Pr) : List Atom := [.slice 4 (m.map Pr.row)]
theorem store_rw (s : Store) : s.row = [.int .i64 s.fl, .int .i64 s.la, .slice 2 (s.rows.map Row.row)] := rfl
set_option maxHeartbeats 2000000 in
theorem apply_bad (s : Store) (hs : s.fit) (at_ : Int) (ws : List Pr) (hwl : ws.length ≤ 1048576) (hwf : ∀ p ∈ ws, p.fit) (h1 : storeV s = true) (h : writesGo none ws = false) :
    PDen Try.prog 9 [.agg s.row, .a (.int .i64 at_), .a (.slice 4 (ws.map Pr.row))] (.tup [.agg [.int .i64 0, .int .i64 0, .slice 2 []], .a (.int .i64 1)]) := by
  refine PDen.le ?_ (mzero_le 1)
  have hsv := storeV_den s hs
  have hwd := writes_den ws (by omega) hwf
  rw [h1] at hsv
  rw [h] at hwd
  refine den_of_body k_mvstore_Apply ⟨rfl, Nat.le_of_ble_eq_true rfl, thaw_intro ?_⟩
  unfold c_mvstore_Apply
  simp only [go_sem]
  refine t_call_intro (hsv) ?_
  simp only [go_sem]
  refine t_call_intro (hwd) ?_
  simp only [go_sem]
  simp only [aresult, ares, go_sem]
theorem unU_string {n : Nat} {xs : List Atom} (h : HasU Try.prog (n + 1) 9 xs) : ∃ s : ByteArray, xs = [.str s] ∧ s.size ≤ 1048576 := by
  unfold HasU at h; rw [Try.underlying9] at h; exact h
theorem unU_i64 {n : Nat} {xs : List Atom} (h : HasU Try.prog (n + 1) 2 xs) : ∃ m, xs = [.int .i64 m] := by
  unfold HasU at h; rw [Try.underlying2] at h; obtain ⟨m, h, _⟩ := h; exact ⟨m, h⟩
theorem unU_int {n : Nat} {xs : List Atom} (h : HasU Try.prog (n + 1) 3 xs) : ∃ m, xs = [.int .i64 m] := by
  unfold HasU at h; rw [Try.underlying3] at h; obtain ⟨m, h, _⟩ := h; exact ⟨m, h⟩
theorem unU_value {n : Nat} {xs : List Atom} (h : HasU Try.prog (n + 2) 54 xs) : ∃ v : Vl, xs = v.row ∧ v.s.size ≤ 1048576 := by
  unfold HasU at h; rw [Try.underlying54] at h
  obtain ⟨p1, r1, rfl, h1, p2, r2, rfl, h2, p3, r3, rfl, h3, rfl⟩ := h
  obtain ⟨a, rfl⟩ := unU_int h1
  obtain ⟨b, rfl⟩ := unU_i64 h2
  obtain ⟨c, rfl, hc⟩ := unU_string h3
  exact ⟨⟨a, b, c⟩, rfl, hc⟩
theorem unU_rows {α : Type} {f : α → List Atom} {Q : α → Prop} : ∀ {rows : List (List Atom)}, (∀ r ∈ rows, ∃ a, r = f a ∧ Q a) → ∃ l : List α, rows = l.map f ∧ ∀ a ∈ l, Q a
  | [], _ => ⟨[], rfl, fun a h => by cases h⟩
  | r :: rows, h => by
    obtain ⟨a, rfl, ha⟩ := h r (by simp)
    obtain ⟨l, rfl, hl⟩ := unU_rows (rows := rows) fun r hr => h r (by simp [hr])
    exact ⟨a :: l, rfl, fun b hb => by
      rcases List.mem_cons.1 hb with rfl | hb
      · exact ha
      · exact hl b hb⟩
theorem unU_pair {n : Nat} {xs : List Atom} (h : HasU Try.prog (n + 3) 58 xs) : ∃ v : Pr, xs = v.row ∧ v.fit := by
  unfold HasU at h; rw [Try.underlying58] at h
  obtain ⟨p1, r1, rfl, h1, p2, r2, rfl, h2, rfl⟩ := h
  obtain ⟨a, rfl, ha⟩ := unU_string h1
  obtain ⟨v, rfl, hv⟩ := unU_value h2
  exact ⟨⟨a, v⟩, rfl, by simp only; omega, by simp only; omega⟩
theorem cells_pairU : Try.prog.cellsOf 58 = 4 := by kernel_rfl
theorem cells_prsU : Try.prog.cellsOf 25 = 1 := by kernel_rfl
structure PrsU (l : List Pr) : Prop where
  len : l.length ≤ 1048576
  all : ∀ p ∈ l, p.fit
theorem unU_prs {n : Nat} {xs : List Atom} (h : HasU Try.prog (n + 4) 25 xs) : ∃ l : List Pr, xs = stR l ∧ PrsU l := by
  unfold HasU at h; rw [Try.underlying25] at h
  obtain ⟨rows, rfl, hn, hr⟩ := h
  obtain ⟨l, rfl, hl⟩ := unU_rows fun r hrr => unU_pair (hr r hrr)
  rw [List.length_map] at hn
  exact ⟨l, by rw [cells_pairU]; rfl, ⟨hn, hl⟩⟩
theorem unU_start {n : Nat} {x : Atom} (h : HasU Try.prog (n + 4) 25 [x]) : ∃ l : List Pr, x = .slice 4 (l.map Pr.row) ∧ PrsU l := by
  obtain ⟨l, e, hl⟩ := unU_prs h
  cases e
  exact ⟨l, rfl, hl⟩
structure ChsU (l : List (List Pr)) : Prop where
  len : l.length ≤ 1048576
  all : ∀ m ∈ l, PrsU m
theorem unU_chs {n : Nat} {x : Atom} (h : HasU Try.prog (n + 5) 34 [x]) : ∃ l : List (List Pr), x = .slice 1 (l.map stR) ∧ ChsU l := by
  unfold HasU at h; rw [Try.underlying34] at h
  obtain ⟨rows, he, hn, hr⟩ := h
  obtain ⟨l, rfl, hl⟩ := unU_rows fun r hrr => unU_prs (hr r hrr)
  rw [List.length_map] at hn
  cases he
  exact ⟨l, by rw [cells_prsU], ⟨hn, hl⟩⟩
end Go.Proofs.Ytlfebjehmabejaa
