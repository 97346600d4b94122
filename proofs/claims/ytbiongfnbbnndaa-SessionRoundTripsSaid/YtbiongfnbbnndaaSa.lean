/- Chapter 06: keys, values, ranges, lists of pairs: what is valid, parts, the value of a key; both ways. -/
import Derived.Test.YtbiongfnbbnndaaKv
set_option linter.unusedSimpArgs false
set_option linter.unusedVariables false
namespace Go.Proofs.Ytbiongfnbbnndaa
open Go Ab
attribute [local irreducible] awp aops aop asoft aeff aloop acall acallI acallT
attribute [local go_sem] Vl.row

def vlEq (a b : Vl) : Bool := (a.kind == b.kind) && (a.n == b.n) && (a.s.toList == b.s.toList)
theorem vlEq_row (a b : Vl) : vlEq a b = ((a.kind == b.kind) && ((a.n == b.n) && ((a.s.toList == b.s.toList) && true))) := by
  unfold vlEq
  cases a.kind == b.kind <;> cases a.n == b.n <;> cases a.s.toList == b.s.toList <;> rfl
theorem unwrap1 (k : Nat) (h : 0 < k) (hn : k ≤ 9223372036854775807) : IntKind.i64.wrap ((k : Int) - 1) = ((k - 1 : Nat) : Int) := by
  rw [IntKind.wrap_i64]; omega
theorem getD_map {α : Type} (f : α → List Atom) (l : List α) (k : Nat) (h : k < l.length) : (l.map f).getD k [] = f l[k] := by
  simp [List.getD_eq_getElem?_getD, h]
def strGt (a b : ByteArray) : Bool := !(Op.bytesLess a.toList b.toList || a.toList == b.toList)
theorem all_step {α : Type} (p : α → Bool) (l : List α) (k : Nat) (h : k < l.length) : (l.take (k + 1)).all p = ((l.take k).all p && p l[k]) := by
  rw [List.take_succ_eq_append_getElem h, List.all_append]; simp
theorem all_no {α : Type} (p : α → Bool) (l : List α) (k : Nat) (h : k < l.length) (hx : p l[k] = false) : l.all p = false := by
  rw [List.all_eq_false]; exact ⟨l[k], List.getElem_mem h, by rw [hx]; simp⟩
theorem size0 (s : ByteArray) : (s.toList == []) = decide (s.size = 0) := by
  have h := dsize s
  rw [ByteArray.toList_eq]
  cases hl : s.data.toList with
  | nil => rw [hl] at h; rw [decide_eq_true (by simpa using h.symm)]; rfl
  | cons a l => rw [hl] at h; rw [decide_eq_false (by simp only [List.length_cons] at h; omega)]; rfl
theorem getD_get {α : Type} (l : List α) (d : α) (k : Nat) (h : k < l.length) : l.getD k d = l[k] := by
  rw [List.getD_eq_getElem?_getD, List.getElem?_eq_getElem h]; rfl
set_option maxRecDepth 100000 in
set_option maxHeartbeats 1000000 in
theorem rplainV_den (s : ByteArray) (hs : s.size ≤ 9223372036854775807) : PDen Try.prog 86 [.a (.str s)] (.a (.bool (plainV s))) := by
  refine den_of_body k_ref05_Plain ⟨rfl, Nat.le_of_ble_eq_true rfl, thaw_intro ?_⟩
  unfold c_ref05_Plain
  simp only [go_sem]
  have hsz := dsize s
  refine t_case_dec (fun h => ?_) (fun h => ?_)
  · simp only [go_sem]
    simp only [aresult, ares, go_sem]
    congr 3; unfold plainV; simp; omega
  simp only [go_sem]
  refine t_loop_intro (fun k : Nat => k ≤ s.size ∧ ((s.data.toList.take k).all plainB = true)) (fun k => s.size - k) 0 [2, 3, 7, 8, 9, 10, 11, 12, 13, 14, 15, 16, 17, 18, 19, 20, 21, 22] (fun k => [(3, .a (.int .i64 k))]) ⟨by omega, by simp⟩ (by simp) (fun k => by simp) rfl ?_
  intro k hk0 fr_ hfr
  have hk : k ≤ s.size := hk0.1
  have hall := hk0.2
  clear hk0
  simp only [go_sem] at hfr
  subst hfr
  by_cases hlt : k < s.size
  · have h1 : (k : Int) < (s.size : Int) := by omega
    have ew := wrap1 k s.size hlt hs
    have hlt' : k < s.data.toList.length := by omega
    have e := getD_get s.data.toList 0 k hlt'
    have es := all_step plainB s.data.toList k hlt'
    have ef : plainB s.data.toList[k] = false → plainV s = false := fun hx => by
      unfold plainV; rw [all_no _ _ _ hlt' hx]; simp
    simp only [h1, e, go_sem]
    generalize s.data.toList[k] = c at *
    repeat' ((first | refine t_case_dec (fun hc => ?_) (fun hc => ?_) | refine t_case_ndec (fun hc => ?_) (fun hc => ?_) | refine t_case_eqI (fun hc => ?_) (fun hc => ?_) | refine t_case_neI (fun hc => ?_) (fun hc => ?_) | refine t_case_not (fun hc => ?_) (fun hc => ?_) | refine t_case_intro (fun hc => ?_) (fun hc => ?_)) <;> try simp only [h1, e, ew, go_sem])
    all_goals first
      | (have hx : plainB c = false := by (simp [plainB]; omega)
         simp only [aresult, ares, go_sem]; rw [ef hx])
      | (have hx : plainB c = true := by (simp [plainB]; omega)
         refine t_round (k + 1) ⟨by omega, by rw [es, hall, hx]; rfl⟩ (by omega) (by simp) rfl rfl (by simp) rfl
        )
  · have h1 : ¬ (k : Int) < (s.size : Int) := by omega
    rw [List.take_of_length_le (by omega)] at hall
    simp only [h1, go_sem]
    simp only [aresult, ares, go_sem]
    congr 3; unfold plainV; rw [hall]; simp; omega
set_option maxRecDepth 100000 in
theorem rvalV_den (v : Vl) (hs : v.s.size ≤ 9223372036854775807) : PDen Try.prog 78 [.agg v.row] (.a (.bool (valV v))) := by
  refine den_of_body k_ref05_Valid ⟨rfl, Nat.le_of_ble_eq_true rfl, thaw_intro ?_⟩
  unfold c_ref05_Valid
  unfold Vl.row
  simp only [go_sem]
  refine t_case_eqI (fun h1 => ?_) (fun h1 => ?_)
  · simp only [go_sem]
    repeat' ((first | refine t_case_dec (fun hc => ?_) (fun hc => ?_) | refine t_case_ndec (fun hc => ?_) (fun hc => ?_) | refine t_case_eqI (fun hc => ?_) (fun hc => ?_) | refine t_case_neI (fun hc => ?_) (fun hc => ?_) | refine t_case_not (fun hc => ?_) (fun hc => ?_) | refine t_case_intro (fun hc => ?_) (fun hc => ?_)) <;> try simp only [go_sem])
    all_goals simp only [aresult, ares, go_sem]
    all_goals simp_all [valV]
  · simp only [go_sem]
    refine t_case_eqI (fun h2 => ?_) (fun h2 => ?_)
    · simp only [go_sem]
      simp only [aresult, ares, go_sem]
      simp [valV, h2]
    · simp only [go_sem]
      refine t_case_eqI (fun h3 => ?_) (fun h3 => ?_)
      · simp only [go_sem]
        refine t_case_eqI (fun h4 => ?_) (fun h4 => ?_)
        · simp only [go_sem]
          refine t_call_intro (rplainV_den v.s hs) ?_
          simp only [go_sem]
          simp only [aresult, ares, go_sem]
          simp [valV, h3, h4]
        · simp only [go_sem]
          simp only [aresult, ares, go_sem]
          simp [valV, h3, h4]
      · simp only [go_sem]
        simp only [aresult, ares, go_sem]
        simp [valV, h1, h2, h3]
theorem bl_irrefl : ∀ a : List UInt8, Op.bytesLess a a = false
  | [] => rfl
  | x :: a => by simp [Op.bytesLess, bl_irrefl a, UInt8.lt_irrefl]
theorem bl_total : ∀ a b : List UInt8, a ≠ b → Op.bytesLess a b = !Op.bytesLess b a
  | [], [], h => absurd rfl h
  | [], _ :: _, _ => rfl
  | _ :: _, [], _ => rfl
  | x :: a, y :: b, h => by
    unfold Op.bytesLess
    by_cases hxy : x = y
    · subst hxy
      have h' : a ≠ b := fun e => h (by rw [e])
      simp [UInt8.lt_irrefl, bl_total a b h']
    · have h1 : x < y ∨ y < x := by
        rcases Nat.lt_trichotomy x.toNat y.toNat with h | h | h
        · exact .inl (UInt8.lt_iff_toNat_lt.2 h)
        · exact absurd (UInt8.toNat_inj.1 h) hxy
        · exact .inr (UInt8.lt_iff_toNat_lt.2 h)
      have hyx : ¬ y = x := fun e => hxy e.symm
      rcases h1 with h1 | h1
      · have h2 : ¬ y < x := by rw [UInt8.lt_iff_toNat_lt] at *; omega
        simp [h1, h2, hyx]
      · have h2 : ¬ x < y := by rw [UInt8.lt_iff_toNat_lt] at *; omega
        simp [h1, h2, hxy]
/-- 'not less or equal' is 'greater'. -/
theorem strGt_lt (a b : ByteArray) : strGt a b = Op.bytesLess b.toList a.toList := by
  unfold strGt
  by_cases h : a.toList = b.toList
  · rw [h]; simp [bl_irrefl]
  · rw [bl_total b.toList a.toList (fun e => h e.symm)]
    have : (a.toList == b.toList) = false := by simpa using h
    rw [this]; simp
theorem bl_trans : ∀ a b c : List UInt8, Op.bytesLess a b = true → Op.bytesLess b c = true → Op.bytesLess a c = true
  | _, [], _, h, _ => by simp [Op.bytesLess] at h
  | _, _ :: _, [], _, h => by simp [Op.bytesLess] at h
  | [], _ :: _, _ :: _, _, _ => rfl
  | x :: a, y :: b, z :: c, h1, h2 => by
    unfold Op.bytesLess at h1 h2 ⊢
    simp only [Bool.or_eq_true, Bool.and_eq_true, decide_eq_true_eq, beq_iff_eq] at h1 h2 ⊢
    rcases h1 with h1 | ⟨h1, h1'⟩
    · rcases h2 with h2 | ⟨h2, _⟩
      · left; rw [UInt8.lt_iff_toNat_lt] at *; omega
      · left; rw [← h2]; exact h1
    · rcases h2 with h2 | ⟨h2, h2'⟩
      · left; rw [h1]; exact h2
      · right; exact ⟨h1.trans h2, bl_trans a b c h1' h2'⟩
def vl0 : Vl := ⟨0, 0, ⟨#[]⟩⟩
structure Rg where
  f : ByteArray
  t : ByteArray
def Rg.row (r : Rg) : List Atom := [.str r.f, .str r.t]
attribute [local go_sem] Rg.row
def Rg.fit (r : Rg) : Prop := r.f.size ≤ 9223372036854775807 ∧ r.t.size ≤ 9223372036854775807
def rangeV (r : Rg) : Bool := boundV r.f && boundV r.t && ((r.t.toList == []) || Op.bytesLess r.f.toList r.t.toList)
def containsV (r : Rg) (k : ByteArray) : Bool := rangeV r && !Op.bytesLess k.toList r.f.toList && ((r.t.toList == []) || Op.bytesLess k.toList r.t.toList)
theorem gt_lt (a b : ByteArray) : (!(Op.bytesLess a.toList b.toList || a.toList == b.toList)) = Op.bytesLess b.toList a.toList := strGt_lt a b
theorem le_lt (a b : ByteArray) : (Op.bytesLess a.toList b.toList || a.toList == b.toList) = !Op.bytesLess b.toList a.toList := by
  rw [← gt_lt a b, Bool.not_not]
structure Pr where
  key : ByteArray
  v : Vl
def Pr.row (p : Pr) : List Atom := [.str p.key, .int .i64 p.v.kind, .int .i64 p.v.n, .str p.v.s]
attribute [local go_sem] Pr.row
def sliceRows (r : Rg) (l : List Pr) (k : Nat) : List (List Atom) := ((l.take k).filter fun p => containsV r p.key).map Pr.row
theorem sliceRows_zero (r : Rg) (l : List Pr) : sliceRows r l 0 = [] := by simp [sliceRows]
theorem sliceRows_len (r : Rg) (l : List Pr) (k : Nat) : (sliceRows r l k).length ≤ k := by
  have h1 := List.length_filter_le (fun p : Pr => containsV r p.key) (l.take k)
  have h2 := List.length_take_le k l
  simp only [sliceRows, List.length_map]; omega
theorem sliceRows_yes (r : Rg) (l : List Pr) (k : Nat) (h : k < l.length) (h2 : containsV r l[k].key = true) :
    sliceRows r l (k + 1) = sliceRows r l k ++ [[.str l[k].key, .int .i64 l[k].v.kind, .int .i64 l[k].v.n, .str l[k].v.s]] := by
  unfold sliceRows
  rw [List.take_succ_eq_append_getElem h, List.filter_append, List.map_append]
  simp [h2, Pr.row]
theorem sliceRows_no (r : Rg) (l : List Pr) (k : Nat) (h : k < l.length) (h2 : containsV r l[k].key = false) :
    sliceRows r l (k + 1) = sliceRows r l k := by
  unfold sliceRows
  rw [List.take_succ_eq_append_getElem h, List.filter_append, List.map_append]
  simp [h2]
def getP (l : List Pr) (key : ByteArray) : Vl := match l.find? (fun p => p.key.toList == key.toList) with | none => vl0 | some p => p.v
theorem getP_hit (l : List Pr) (key : ByteArray) (k : Nat) (h : k < l.length) (h2 : (l[k].key.toList == key.toList) = true) : getP (l.drop k) key = l[k].v := by
  rw [List.drop_eq_getElem_cons h]; simp only [getP, List.find?_cons, h2]
theorem getP_miss (l : List Pr) (key : ByteArray) (k : Nat) (h : k < l.length) (h2 : (l[k].key.toList == key.toList) = false) : getP (l.drop k) key = getP (l.drop (k + 1)) key := by
  rw [List.drop_eq_getElem_cons h]; simp only [getP, List.find?_cons, h2]
def Pr.fit (p : Pr) : Prop := p.key.size ≤ 9223372036854775807 ∧ p.v.s.size ≤ 9223372036854775807
def prStep (p : Option Pr) (x : Pr) : Bool := match p with | none => true | some y => strGt x.key y.key
def writesGo : Option Pr → List Pr → Bool
  | _, [] => true
  | p, x :: xs => keyV x.key && valV x.v && prStep p x && writesGo (some x) xs
def pp (l : List Pr) : Nat → Option Pr
  | 0 => none
  | k + 1 => l[k]?
theorem writesGo_step (l : List Pr) (k : Nat) (h : k < l.length) : writesGo (pp l k) (l.drop k) = (keyV l[k].key && valV l[k].v && prStep (pp l k) l[k] && writesGo (pp l (k + 1)) (l.drop (k + 1))) := by
  rw [List.drop_eq_getElem_cons h]
  simp only [writesGo, pp]
  rw [List.getElem?_eq_getElem h]
def idxGo : Nat → List Pr → Int
  | _, [] => -1
  | i, x :: xs => if x.v.kind = 0 then (i : Int) else idxGo (i + 1) xs
theorem idxGo_any : ∀ (l : List Pr) (i : Nat), decide (0 ≤ idxGo i l) = l.any (fun p => p.v.kind == 0)
  | [], i => by simp [idxGo]
  | x :: xs, i => by
    simp only [idxGo, List.any_cons]
    by_cases h : x.v.kind = 0
    · simp [h]
    · have := idxGo_any xs (i + 1)
      simp [h, this]
theorem idxGo_step (l : List Pr) (k : Nat) (h : k < l.length) : idxGo k (l.drop k) = if l[k].v.kind = 0 then (k : Int) else idxGo (k + 1) (l.drop (k + 1)) := by
  rw [List.drop_eq_getElem_cons h]; rfl
def stateV (l : List Pr) : Bool := writesGo none l && !(l.any fun p => p.v.kind == 0)
theorem allD_step {α : Type} (f : α → Bool) (l : List α) (k : Nat) (h : k < l.length) : (l.drop k).all f = (f l[k] && (l.drop (k + 1)).all f) := by
  rw [List.drop_eq_getElem_cons h, List.all_cons]
def ascGo : Option Pr → List Pr → Bool
  | _, [] => true
  | p, x :: xs => keyV x.key && prStep p x && ascGo (some x) xs
theorem ascGo_step (l : List Pr) (k : Nat) (h : k < l.length) : ascGo (pp l k) (l.drop k) = (keyV l[k].key && prStep (pp l k) l[k] && ascGo (pp l (k + 1)) (l.drop (k + 1))) := by
  rw [List.drop_eq_getElem_cons h]
  simp only [ascGo, pp]
  rw [List.getElem?_eq_getElem h]
theorem writes_split : ∀ (l : List Pr) (p : Option Pr), writesGo p l = (l.all (fun p => valV p.v) && ascGo p l)
  | [], _ => rfl
  | x :: xs, p => by
    simp only [writesGo, ascGo, List.all_cons]
    rw [writes_split xs (some x)]
    cases keyV x.key <;> cases valV x.v <;> cases prStep p x <;> cases xs.all (fun p => valV p.v) <;> rfl
theorem zip_self {α : Type} (f : α × α → Bool) (h : ∀ x, f (x, x) = true) : ∀ l : List α, (l.zip l).all f = true
  | [] => rfl
  | x :: xs => by rw [List.zip_cons_cons, List.all_cons, h, zip_self f h xs]; rfl
theorem zip_step {α : Type} (f : α × α → Bool) (p q : List α) (k : Nat) (h : k < p.length) (h' : k < q.length) : ((p.zip q).drop k).all f = (f (p[k], q[k]) && ((p.zip q).drop (k + 1)).all f) := by
  have hk : k < (p.zip q).length := by rw [List.length_zip]; omega
  rw [List.drop_eq_getElem_cons hk, List.all_cons, List.getElem_zip]
theorem zip_end {α : Type} (f : α × α → Bool) (p q : List α) (k : Nat) (h : p.length ≤ k) : ((p.zip q).drop k).all f = true := by
  rw [List.drop_eq_nil_of_le (by rw [List.length_zip]; omega)]; rfl
theorem ba_ext {a b : ByteArray} (h : a.toList = b.toList) : a = b := by
  rw [ByteArray.toList_eq, ByteArray.toList_eq] at h
  obtain ⟨x⟩ := a
  obtain ⟨y⟩ := b
  simp only at h
  rw [Array.toList_inj.1 h]
theorem vlEq_iff (a b : Vl) : vlEq a b = true ↔ a = b := by
  constructor
  · intro h
    simp only [vlEq, Bool.and_eq_true, beq_iff_eq] at h
    obtain ⟨⟨h1, h2⟩, h3⟩ := h
    obtain ⟨k, n, s⟩ := a
    obtain ⟨k', n', s'⟩ := b
    simp only at h1 h2 h3
    rw [h1, h2, ba_ext h3]
  · rintro rfl; simp [vlEq]
theorem all_zip_eq {α : Type} {f : α × α → Bool} (hf : ∀ x y, f (x, y) = true → x = y) : ∀ (p q : List α), p.length = q.length → (p.zip q).all f = true → p = q
  | [], [], _, _ => rfl
  | [], _ :: _, h, _ => by simp at h
  | _ :: _, [], h, _ => by simp at h
  | x :: p, y :: q, h, h2 => by
    rw [List.zip_cons_cons, List.all_cons, Bool.and_eq_true] at h2
    rw [hf x y h2.1, all_zip_eq hf p q (by simpa using h) h2.2]
def prEq (p q : Pr) : Bool := (p.key.toList == q.key.toList) && vlEq p.v q.v
def prsEq (l m : List Pr) : Bool := decide (l.length = m.length) && (l.zip m).all fun z => prEq z.1 z.2
theorem prsEq_iff (l m : List Pr) : prsEq l m = true ↔ l = m := by
  constructor
  · intro h
    simp only [prsEq, Bool.and_eq_true, decide_eq_true_eq] at h
    refine all_zip_eq (f := fun z => prEq z.1 z.2) (fun x y hxy => ?_) _ _ h.1 h.2
    simp only [prEq, Bool.and_eq_true, beq_iff_eq] at hxy
    have e1 := ba_ext hxy.1
    have e2 := (vlEq_iff _ _).1 hxy.2
    obtain ⟨c, d⟩ := x
    obtain ⟨c', d'⟩ := y
    simp only at e1 e2
    rw [e1, e2]
  · rintro rfl
    have := zip_self (fun z : Pr × Pr => prEq z.1 z.2) (fun x => by simp [prEq, vlEq]) l
    simp only [prsEq, this]; simp
end Go.Proofs.Ytbiongfnbbnndaa
