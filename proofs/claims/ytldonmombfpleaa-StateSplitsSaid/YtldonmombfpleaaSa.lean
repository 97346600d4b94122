/- Chapter 06: keys, values, ranges, lists of pairs: what is valid, parts, the value of a key; both ways. -/
import Derived.Test.YtldonmombfpleaaKv
set_option linter.unusedSimpArgs false
set_option linter.unusedVariables false
namespace Go.Proofs.Ytldonmombfpleaa
open Go Ab
attribute [local irreducible] awp aops aop asoft aeff aloop acall acallI acallT
attribute [local go_sem] Vl.row

def vlEq (a b : Vl) : Bool := (a.kind == b.kind) && (a.n == b.n) && (a.s.toList == b.s.toList)
theorem vlEq_row (a b : Vl) : vlEq a b = ((a.kind == b.kind) && ((a.n == b.n) && ((a.s.toList == b.s.toList) && true))) := by
  unfold vlEq
  cases a.kind == b.kind <;> cases a.n == b.n <;> cases a.s.toList == b.s.toList <;> rfl
theorem unwrap1 (k : Nat) (h : 0 < k) (hn : k ≤ 9223372036854775807) : IntKind.i64.wrap ((k : Int) - 1) = ((k - 1 : Nat) : Int) := by
  rw [IntKind.wrap_i64]; omega
theorem getD_map {α : Type} (f : α → List Atom) (l : List α) (k : Nat) (h : k < l.length) : (l.map f).getD k [] = f l[k] := by
  simp [List.getD_eq_getElem?_getD, h]
def strGt (a b : ByteArray) : Bool := !(Op.bytesLess a.toList b.toList || a.toList == b.toList)
theorem all_step {α : Type} (p : α → Bool) (l : List α) (k : Nat) (h : k < l.length) : (l.take (k + 1)).all p = ((l.take k).all p && p l[k]) := by
  rw [List.take_succ_eq_append_getElem h, List.all_append]; simp
theorem all_no {α : Type} (p : α → Bool) (l : List α) (k : Nat) (h : k < l.length) (hx : p l[k] = false) : l.all p = false := by
  rw [List.all_eq_false]; exact ⟨l[k], List.getElem_mem h, by rw [hx]; simp⟩
theorem size0 (s : ByteArray) : (s.toList == []) = decide (s.size = 0) := by
  have h := dsize s
  rw [ByteArray.toList_eq]
  cases hl : s.data.toList with
  | nil => rw [hl] at h; rw [decide_eq_true (by simpa using h.symm)]; rfl
  | cons a l => rw [hl] at h; rw [decide_eq_false (by simp only [List.length_cons] at h; omega)]; rfl
theorem getD_get {α : Type} (l : List α) (d : α) (k : Nat) (h : k < l.length) : l.getD k d = l[k] := by
  rw [List.getD_eq_getElem?_getD, List.getElem?_eq_getElem h]; rfl
set_option maxRecDepth 100000 in
set_option maxHeartbeats 1000000 in
theorem rkeyV_den (s : ByteArray) (hs : s.size ≤ 9223372036854775807) : PDen Try.prog 87 [.a (.str s)] (.a (.bool (keyV s))) := by
  refine den_of_body k_ref04_Valid ⟨rfl, Nat.le_of_ble_eq_true rfl, thaw_intro ?_⟩
  unfold c_ref04_Valid
  simp only [go_sem]
  have hsz := dsize s
  refine t_loop_intro (fun k : Nat => k ≤ s.size ∧ ((s.data.toList.take k).all keyB = true)) (fun k => s.size - k) 0 [2, 3, 4, 5, 6, 7, 8, 9, 10, 11, 12, 13, 14, 15, 16, 17, 18, 19, 20, 21, 22, 23, 24, 25, 26, 27, 28, 29, 30, 31, 32, 33, 34, 35, 36, 37, 38, 39, 40, 41, 42, 43] (fun k => [(3, .a (.int .i64 k))]) ⟨by omega, by simp⟩ (by simp) (fun k => by simp) rfl ?_
  intro k hk0 fr_ hfr
  have hk : k ≤ s.size := hk0.1
  have hall := hk0.2
  clear hk0
  simp only [go_sem] at hfr
  subst hfr
  by_cases hlt : k < s.size
  · have h1 : (k : Int) < (s.size : Int) := by omega
    have ew := wrap1 k s.size hlt hs
    have hlt' : k < s.data.toList.length := by omega
    have e := getD_get s.data.toList 0 k hlt'
    have es := all_step keyB s.data.toList k hlt'
    have ef : keyB s.data.toList[k] = false → keyV s = false := fun hx => by
      unfold keyV bytesOk; rw [all_no _ _ _ hlt' hx]; simp
    simp only [h1, e, go_sem]
    generalize s.data.toList[k] = c at *
    repeat' ((first | refine t_case_dec (fun hc => ?_) (fun hc => ?_) | refine t_case_ndec (fun hc => ?_) (fun hc => ?_) | refine t_case_eqI (fun hc => ?_) (fun hc => ?_) | refine t_case_neI (fun hc => ?_) (fun hc => ?_) | refine t_case_not (fun hc => ?_) (fun hc => ?_) | refine t_case_intro (fun hc => ?_) (fun hc => ?_)) <;> try simp only [ew, go_sem])
    all_goals first
      | (have hx : keyB c = false := by (simp [keyB]; omega)
         simp only [aresult, ares, go_sem]; rw [ef hx])
      | (have hx : keyB c = true := by (simp [keyB]; omega)
         refine t_round (k + 1) ⟨by omega, by rw [es, hall, hx]; rfl⟩ (by omega) (by simp) rfl rfl (by simp) rfl
        )
  · have h1 : ¬ (k : Int) < (s.size : Int) := by omega
    rw [List.take_of_length_le (by omega)] at hall
    simp only [h1, go_sem]
    repeat' ((first | refine t_case_dec (fun hc => ?_) (fun hc => ?_) | refine t_case_ndec (fun hc => ?_) (fun hc => ?_) | refine t_case_eqI (fun hc => ?_) (fun hc => ?_) | refine t_case_neI (fun hc => ?_) (fun hc => ?_) | refine t_case_not (fun hc => ?_) (fun hc => ?_) | refine t_case_intro (fun hc => ?_) (fun hc => ?_)) <;> try simp only [go_sem])
    all_goals simp only [aresult, ares, go_sem]
    all_goals (congr 3; unfold keyV bytesOk; rw [hall, size0 s]; generalize s.size = n at *; rw [Bool.eq_iff_iff]; simp; omega)
set_option maxRecDepth 100000 in
set_option maxHeartbeats 1000000 in
theorem rboundV_den (s : ByteArray) (hs : s.size ≤ 9223372036854775807) : PDen Try.prog 89 [.a (.str s)] (.a (.bool (boundV s))) := by
  refine den_of_body k_ref04_Bound ⟨rfl, Nat.le_of_ble_eq_true rfl, thaw_intro ?_⟩
  unfold c_ref04_Bound
  simp only [go_sem]
  have hsz := dsize s
  refine t_loop_intro (fun k : Nat => k ≤ s.size ∧ ((s.data.toList.take k).all boundB = true)) (fun k => s.size - k) 0 [2, 3, 4, 5, 6, 7, 8, 9, 10, 11, 12, 13, 14, 15, 16, 17, 18, 19] (fun k => [(3, .a (.int .i64 k))]) ⟨by omega, by simp⟩ (by simp) (fun k => by simp) rfl ?_
  intro k hk0 fr_ hfr
  have hk : k ≤ s.size := hk0.1
  have hall := hk0.2
  clear hk0
  simp only [go_sem] at hfr
  subst hfr
  by_cases hlt : k < s.size
  · have h1 : (k : Int) < (s.size : Int) := by omega
    have ew := wrap1 k s.size hlt hs
    have hlt' : k < s.data.toList.length := by omega
    have e := getD_get s.data.toList 0 k hlt'
    have es := all_step boundB s.data.toList k hlt'
    have ef : boundB s.data.toList[k] = false → boundV s = false := fun hx => by
      unfold boundV bytesOk; rw [all_no _ _ _ hlt' hx]; simp
    simp only [h1, e, go_sem]
    generalize s.data.toList[k] = c at *
    repeat' ((first | refine t_case_dec (fun hc => ?_) (fun hc => ?_) | refine t_case_ndec (fun hc => ?_) (fun hc => ?_) | refine t_case_eqI (fun hc => ?_) (fun hc => ?_) | refine t_case_neI (fun hc => ?_) (fun hc => ?_) | refine t_case_not (fun hc => ?_) (fun hc => ?_) | refine t_case_intro (fun hc => ?_) (fun hc => ?_)) <;> try simp only [h1, e, ew, go_sem])
    all_goals first
      | (have hx : boundB c = false := by (simp [boundB]; omega)
         simp only [aresult, ares, go_sem]; rw [ef hx])
      | (have hx : boundB c = true := by (simp [boundB]; omega)
         refine t_round (k + 1) ⟨by omega, by rw [es, hall, hx]; rfl⟩ (by omega) (by simp) rfl rfl (by simp) rfl
        )
  · have h1 : ¬ (k : Int) < (s.size : Int) := by omega
    rw [List.take_of_length_le (by omega)] at hall
    simp only [h1, go_sem]
    simp only [aresult, ares, go_sem]
    congr 3; unfold boundV bytesOk; rw [hall]; simp; omega
set_option maxRecDepth 100000 in
set_option maxHeartbeats 1000000 in
theorem rplainV_den (s : ByteArray) (hs : s.size ≤ 9223372036854775807) : PDen Try.prog 79 [.a (.str s)] (.a (.bool (plainV s))) := by
  refine den_of_body k_ref05_Plain ⟨rfl, Nat.le_of_ble_eq_true rfl, thaw_intro ?_⟩
  unfold c_ref05_Plain
  simp only [go_sem]
  have hsz := dsize s
  refine t_case_dec (fun h => ?_) (fun h => ?_)
  · simp only [go_sem]
    simp only [aresult, ares, go_sem]
    congr 3; unfold plainV; simp; omega
  simp only [go_sem]
  refine t_loop_intro (fun k : Nat => k ≤ s.size ∧ ((s.data.toList.take k).all plainB = true)) (fun k => s.size - k) 0 [2, 3, 7, 8, 9, 10, 11, 12, 13, 14, 15, 16, 17, 18, 19, 20, 21, 22] (fun k => [(3, .a (.int .i64 k))]) ⟨by omega, by simp⟩ (by simp) (fun k => by simp) rfl ?_
  intro k hk0 fr_ hfr
  have hk : k ≤ s.size := hk0.1
  have hall := hk0.2
  clear hk0
  simp only [go_sem] at hfr
  subst hfr
  by_cases hlt : k < s.size
  · have h1 : (k : Int) < (s.size : Int) := by omega
    have ew := wrap1 k s.size hlt hs
    have hlt' : k < s.data.toList.length := by omega
    have e := getD_get s.data.toList 0 k hlt'
    have es := all_step plainB s.data.toList k hlt'
    have ef : plainB s.data.toList[k] = false → plainV s = false := fun hx => by
      unfold plainV; rw [all_no _ _ _ hlt' hx]; simp
    simp only [h1, e, go_sem]
    generalize s.data.toList[k] = c at *
    repeat' ((first | refine t_case_dec (fun hc => ?_) (fun hc => ?_) | refine t_case_ndec (fun hc => ?_) (fun hc => ?_) | refine t_case_eqI (fun hc => ?_) (fun hc => ?_) | refine t_case_neI (fun hc => ?_) (fun hc => ?_) | refine t_case_not (fun hc => ?_) (fun hc => ?_) | refine t_case_intro (fun hc => ?_) (fun hc => ?_)) <;> try simp only [h1, e, ew, go_sem])
    all_goals first
      | (have hx : plainB c = false := by (simp [plainB]; omega)
         simp only [aresult, ares, go_sem]; rw [ef hx])
      | (have hx : plainB c = true := by (simp [plainB]; omega)
         refine t_round (k + 1) ⟨by omega, by rw [es, hall, hx]; rfl⟩ (by omega) (by simp) rfl rfl (by simp) rfl
        )
  · have h1 : ¬ (k : Int) < (s.size : Int) := by omega
    rw [List.take_of_length_le (by omega)] at hall
    simp only [h1, go_sem]
    simp only [aresult, ares, go_sem]
    congr 3; unfold plainV; rw [hall]; simp; omega
set_option maxRecDepth 100000 in
theorem rvalV_den (v : Vl) (hs : v.s.size ≤ 9223372036854775807) : PDen Try.prog 68 [.agg v.row] (.a (.bool (valV v))) := by
  refine den_of_body k_ref05_Valid ⟨rfl, Nat.le_of_ble_eq_true rfl, thaw_intro ?_⟩
  unfold c_ref05_Valid
  unfold Vl.row
  simp only [go_sem]
  refine t_case_eqI (fun h1 => ?_) (fun h1 => ?_)
  · simp only [go_sem]
    repeat' ((first | refine t_case_dec (fun hc => ?_) (fun hc => ?_) | refine t_case_ndec (fun hc => ?_) (fun hc => ?_) | refine t_case_eqI (fun hc => ?_) (fun hc => ?_) | refine t_case_neI (fun hc => ?_) (fun hc => ?_) | refine t_case_not (fun hc => ?_) (fun hc => ?_) | refine t_case_intro (fun hc => ?_) (fun hc => ?_)) <;> try simp only [go_sem])
    all_goals simp only [aresult, ares, go_sem]
    all_goals simp_all [valV]
  · simp only [go_sem]
    refine t_case_eqI (fun h2 => ?_) (fun h2 => ?_)
    · simp only [go_sem]
      simp only [aresult, ares, go_sem]
      simp [valV, h2]
    · simp only [go_sem]
      refine t_case_eqI (fun h3 => ?_) (fun h3 => ?_)
      · simp only [go_sem]
        refine t_case_eqI (fun h4 => ?_) (fun h4 => ?_)
        · simp only [go_sem]
          refine t_call_intro (rplainV_den v.s hs) ?_
          simp only [go_sem]
          simp only [aresult, ares, go_sem]
          simp [valV, h3, h4]
        · simp only [go_sem]
          simp only [aresult, ares, go_sem]
          simp [valV, h3, h4]
      · simp only [go_sem]
        simp only [aresult, ares, go_sem]
        simp [valV, h1, h2, h3]
theorem bl_irrefl : ∀ a : List UInt8, Op.bytesLess a a = false
  | [] => rfl
  | x :: a => by simp [Op.bytesLess, bl_irrefl a, UInt8.lt_irrefl]
theorem bl_total : ∀ a b : List UInt8, a ≠ b → Op.bytesLess a b = !Op.bytesLess b a
  | [], [], h => absurd rfl h
  | [], _ :: _, _ => rfl
  | _ :: _, [], _ => rfl
  | x :: a, y :: b, h => by
    unfold Op.bytesLess
    by_cases hxy : x = y
    · subst hxy
      have h' : a ≠ b := fun e => h (by rw [e])
      simp [UInt8.lt_irrefl, bl_total a b h']
    · have h1 : x < y ∨ y < x := by
        rcases Nat.lt_trichotomy x.toNat y.toNat with h | h | h
        · exact .inl (UInt8.lt_iff_toNat_lt.2 h)
        · exact absurd (UInt8.toNat_inj.1 h) hxy
        · exact .inr (UInt8.lt_iff_toNat_lt.2 h)
      have hyx : ¬ y = x := fun e => hxy e.symm
      rcases h1 with h1 | h1
      · have h2 : ¬ y < x := by rw [UInt8.lt_iff_toNat_lt] at *; omega
        simp [h1, h2, hyx]
      · have h2 : ¬ x < y := by rw [UInt8.lt_iff_toNat_lt] at *; omega
        simp [h1, h2, hxy]
/-- 'not less or equal' is 'greater'. -/
theorem strGt_lt (a b : ByteArray) : strGt a b = Op.bytesLess b.toList a.toList := by
  unfold strGt
  by_cases h : a.toList = b.toList
  · rw [h]; simp [bl_irrefl]
  · rw [bl_total b.toList a.toList (fun e => h e.symm)]
    have : (a.toList == b.toList) = false := by simpa using h
    rw [this]; simp
theorem bl_trans : ∀ a b c : List UInt8, Op.bytesLess a b = true → Op.bytesLess b c = true → Op.bytesLess a c = true
  | _, [], _, h, _ => by simp [Op.bytesLess] at h
  | _, _ :: _, [], _, h => by simp [Op.bytesLess] at h
  | [], _ :: _, _ :: _, _, _ => rfl
  | x :: a, y :: b, z :: c, h1, h2 => by
    unfold Op.bytesLess at h1 h2 ⊢
    simp only [Bool.or_eq_true, Bool.and_eq_true, decide_eq_true_eq, beq_iff_eq] at h1 h2 ⊢
    rcases h1 with h1 | ⟨h1, h1'⟩
    · rcases h2 with h2 | ⟨h2, _⟩
      · left; rw [UInt8.lt_iff_toNat_lt] at *; omega
      · left; rw [← h2]; exact h1
    · rcases h2 with h2 | ⟨h2, h2'⟩
      · left; rw [h1]; exact h2
      · right; exact ⟨h1.trans h2, bl_trans a b c h1' h2'⟩
def vl0 : Vl := ⟨0, 0, ⟨#[]⟩⟩
structure Rg where
  f : ByteArray
  t : ByteArray
def Rg.row (r : Rg) : List Atom := [.str r.f, .str r.t]
attribute [local go_sem] Rg.row
def Rg.fit (r : Rg) : Prop := r.f.size ≤ 9223372036854775807 ∧ r.t.size ≤ 9223372036854775807
def rangeV (r : Rg) : Bool := boundV r.f && boundV r.t && ((r.t.toList == []) || Op.bytesLess r.f.toList r.t.toList)
def containsV (r : Rg) (k : ByteArray) : Bool := rangeV r && !Op.bytesLess k.toList r.f.toList && ((r.t.toList == []) || Op.bytesLess k.toList r.t.toList)
theorem gt_lt (a b : ByteArray) : (!(Op.bytesLess a.toList b.toList || a.toList == b.toList)) = Op.bytesLess b.toList a.toList := strGt_lt a b
theorem le_lt (a b : ByteArray) : (Op.bytesLess a.toList b.toList || a.toList == b.toList) = !Op.bytesLess b.toList a.toList := by
  rw [← gt_lt a b, Bool.not_not]
set_option maxRecDepth 100000 in
theorem rangeV_den (r : Rg) (hr : r.fit) : PDen Try.prog 48 [.agg r.row] (.a (.bool (rangeV r))) := by
  refine den_of_body k_keys_ValidRange ⟨rfl, Nat.le_of_ble_eq_true rfl, thaw_intro ?_⟩
  unfold c_keys_ValidRange
  simp only [go_sem]
  refine t_call_intro (boundV_den r.f hr.1) ?_
  simp only [go_sem]
  first | refine t_case_dec (fun h => ?_) (fun h => ?_) | refine t_case_ndec (fun h => ?_) (fun h => ?_) | refine t_case_eqI (fun h => ?_) (fun h => ?_) | refine t_case_neI (fun h => ?_) (fun h => ?_) | refine t_case_not (fun h => ?_) (fun h => ?_) | refine t_case_intro (fun h => ?_) (fun h => ?_)
  rotate_left
  · simp only [go_sem]
    simp only [aresult, ares, go_sem]
    simp [rangeV, h]
  simp only [go_sem]
  refine t_call_intro (boundV_den r.t hr.2) ?_
  simp only [go_sem]
  first | refine t_case_dec (fun h2 => ?_) (fun h2 => ?_) | refine t_case_ndec (fun h2 => ?_) (fun h2 => ?_) | refine t_case_eqI (fun h2 => ?_) (fun h2 => ?_) | refine t_case_neI (fun h2 => ?_) (fun h2 => ?_) | refine t_case_not (fun h2 => ?_) (fun h2 => ?_) | refine t_case_intro (fun h2 => ?_) (fun h2 => ?_)
  rotate_left
  · simp only [go_sem]
    simp only [aresult, ares, go_sem]
    simp [rangeV, h2]
  simp only [toList_nil, go_sem]
  first | refine t_case_dec (fun h3 => ?_) (fun h3 => ?_) | refine t_case_ndec (fun h3 => ?_) (fun h3 => ?_) | refine t_case_eqI (fun h3 => ?_) (fun h3 => ?_) | refine t_case_neI (fun h3 => ?_) (fun h3 => ?_) | refine t_case_not (fun h3 => ?_) (fun h3 => ?_) | refine t_case_intro (fun h3 => ?_) (fun h3 => ?_)
  · simp only [go_sem]
    simp only [aresult, ares, go_sem]
    simp [rangeV, h, h2, h3]
  · simp only [gt_lt, go_sem]
    simp only [aresult, ares, go_sem]
    simp [rangeV, h, h2, h3]
set_option maxRecDepth 100000 in
theorem rrangeV_den (r : Rg) (hr : r.fit) : PDen Try.prog 71 [.agg r.row] (.a (.bool (rangeV r))) := by
  refine den_of_body k_ref04_ValidRange ⟨rfl, Nat.le_of_ble_eq_true rfl, thaw_intro ?_⟩
  unfold c_ref04_ValidRange
  simp only [go_sem]
  refine t_call_intro (rboundV_den r.f hr.1) ?_
  simp only [go_sem]
  first | refine t_case_dec (fun h => ?_) (fun h => ?_) | refine t_case_ndec (fun h => ?_) (fun h => ?_) | refine t_case_eqI (fun h => ?_) (fun h => ?_) | refine t_case_neI (fun h => ?_) (fun h => ?_) | refine t_case_not (fun h => ?_) (fun h => ?_) | refine t_case_intro (fun h => ?_) (fun h => ?_)
  rotate_left
  · simp only [go_sem]
    simp only [aresult, ares, go_sem]
    simp [rangeV, h]
  simp only [go_sem]
  refine t_call_intro (rboundV_den r.t hr.2) ?_
  simp only [go_sem]
  first | refine t_case_dec (fun h2 => ?_) (fun h2 => ?_) | refine t_case_ndec (fun h2 => ?_) (fun h2 => ?_) | refine t_case_eqI (fun h2 => ?_) (fun h2 => ?_) | refine t_case_neI (fun h2 => ?_) (fun h2 => ?_) | refine t_case_not (fun h2 => ?_) (fun h2 => ?_) | refine t_case_intro (fun h2 => ?_) (fun h2 => ?_)
  rotate_left
  · simp only [go_sem]
    simp only [aresult, ares, go_sem]
    simp [rangeV, h2]
  simp only [toList_nil, go_sem]
  first | refine t_case_dec (fun h3 => ?_) (fun h3 => ?_) | refine t_case_ndec (fun h3 => ?_) (fun h3 => ?_) | refine t_case_eqI (fun h3 => ?_) (fun h3 => ?_) | refine t_case_neI (fun h3 => ?_) (fun h3 => ?_) | refine t_case_not (fun h3 => ?_) (fun h3 => ?_) | refine t_case_intro (fun h3 => ?_) (fun h3 => ?_)
  · simp only [go_sem]
    simp only [aresult, ares, go_sem]
    simp [rangeV, h, h2, h3]
  · simp only [gt_lt, go_sem]
    simp only [aresult, ares, go_sem]
    simp [rangeV, h, h2, h3]
set_option maxRecDepth 100000 in
theorem containsV_den (r : Rg) (hr : r.fit) (k : ByteArray) : PDen Try.prog 23 [.agg r.row, .a (.str k)] (.a (.bool (containsV r k))) := by
  refine den_of_body k_keys_Contains ⟨rfl, Nat.le_of_ble_eq_true rfl, thaw_intro ?_⟩
  unfold c_keys_Contains
  simp only [go_sem]
  refine t_call_intro (rangeV_den r hr) ?_
  simp only [go_sem]
  first | refine t_case_dec (fun h => ?_) (fun h => ?_) | refine t_case_ndec (fun h => ?_) (fun h => ?_) | refine t_case_eqI (fun h => ?_) (fun h => ?_) | refine t_case_neI (fun h => ?_) (fun h => ?_) | refine t_case_not (fun h => ?_) (fun h => ?_) | refine t_case_intro (fun h => ?_) (fun h => ?_)
  rotate_left
  · simp only [go_sem]
    simp only [aresult, ares, go_sem]
    simp [containsV, h]
  simp only [le_lt, go_sem]
  first | refine t_case_dec (fun h2 => ?_) (fun h2 => ?_) | refine t_case_ndec (fun h2 => ?_) (fun h2 => ?_) | refine t_case_eqI (fun h2 => ?_) (fun h2 => ?_) | refine t_case_neI (fun h2 => ?_) (fun h2 => ?_) | refine t_case_not (fun h2 => ?_) (fun h2 => ?_) | refine t_case_intro (fun h2 => ?_) (fun h2 => ?_)
  · simp only [go_sem]
    simp only [aresult, ares, go_sem]
    simp [containsV, h2]
  simp only [toList_nil, go_sem]
  first | refine t_case_dec (fun h3 => ?_) (fun h3 => ?_) | refine t_case_ndec (fun h3 => ?_) (fun h3 => ?_) | refine t_case_eqI (fun h3 => ?_) (fun h3 => ?_) | refine t_case_neI (fun h3 => ?_) (fun h3 => ?_) | refine t_case_not (fun h3 => ?_) (fun h3 => ?_) | refine t_case_intro (fun h3 => ?_) (fun h3 => ?_)
  · simp only [go_sem]
    simp only [aresult, ares, go_sem]
    simp [containsV, h, h2, h3]
  · simp only [go_sem]
    simp only [aresult, ares, go_sem]
    simp [containsV, h, h2, h3]
set_option maxRecDepth 100000 in
theorem rcontainsV_den (r : Rg) (hr : r.fit) (k : ByteArray) : PDen Try.prog 49 [.agg r.row, .a (.str k)] (.a (.bool (containsV r k))) := by
  refine den_of_body k_ref04_Contains ⟨rfl, Nat.le_of_ble_eq_true rfl, thaw_intro ?_⟩
  unfold c_ref04_Contains
  simp only [go_sem]
  refine t_call_intro (rrangeV_den r hr) ?_
  simp only [go_sem]
  first | refine t_case_dec (fun h => ?_) (fun h => ?_) | refine t_case_ndec (fun h => ?_) (fun h => ?_) | refine t_case_eqI (fun h => ?_) (fun h => ?_) | refine t_case_neI (fun h => ?_) (fun h => ?_) | refine t_case_not (fun h => ?_) (fun h => ?_) | refine t_case_intro (fun h => ?_) (fun h => ?_)
  rotate_left
  · simp only [go_sem]
    simp only [aresult, ares, go_sem]
    simp [containsV, h]
  simp only [go_sem]
  first | refine t_case_dec (fun h2 => ?_) (fun h2 => ?_) | refine t_case_ndec (fun h2 => ?_) (fun h2 => ?_) | refine t_case_eqI (fun h2 => ?_) (fun h2 => ?_) | refine t_case_neI (fun h2 => ?_) (fun h2 => ?_) | refine t_case_not (fun h2 => ?_) (fun h2 => ?_) | refine t_case_intro (fun h2 => ?_) (fun h2 => ?_)
  · simp only [go_sem]
    simp only [aresult, ares, go_sem]
    simp [containsV, h2]
  simp only [toList_nil, go_sem]
  first | refine t_case_dec (fun h3 => ?_) (fun h3 => ?_) | refine t_case_ndec (fun h3 => ?_) (fun h3 => ?_) | refine t_case_eqI (fun h3 => ?_) (fun h3 => ?_) | refine t_case_neI (fun h3 => ?_) (fun h3 => ?_) | refine t_case_not (fun h3 => ?_) (fun h3 => ?_) | refine t_case_intro (fun h3 => ?_) (fun h3 => ?_)
  · simp only [go_sem]
    simp only [aresult, ares, go_sem]
    simp [containsV, h, h2, h3]
  · simp only [go_sem]
    simp only [aresult, ares, go_sem]
    simp [containsV, h, h2, h3]
structure Pr where
  key : ByteArray
  v : Vl
def Pr.row (p : Pr) : List Atom := [.str p.key, .int .i64 p.v.kind, .int .i64 p.v.n, .str p.v.s]
attribute [local go_sem] Pr.row
def sliceRows (r : Rg) (l : List Pr) (k : Nat) : List (List Atom) := ((l.take k).filter fun p => containsV r p.key).map Pr.row
theorem sliceRows_zero (r : Rg) (l : List Pr) : sliceRows r l 0 = [] := by simp [sliceRows]
theorem sliceRows_len (r : Rg) (l : List Pr) (k : Nat) : (sliceRows r l k).length ≤ k := by
  have h1 := List.length_filter_le (fun p : Pr => containsV r p.key) (l.take k)
  have h2 := List.length_take_le k l
  simp only [sliceRows, List.length_map]; omega
theorem sliceRows_yes (r : Rg) (l : List Pr) (k : Nat) (h : k < l.length) (h2 : containsV r l[k].key = true) :
    sliceRows r l (k + 1) = sliceRows r l k ++ [[.str l[k].key, .int .i64 l[k].v.kind, .int .i64 l[k].v.n, .str l[k].v.s]] := by
  unfold sliceRows
  rw [List.take_succ_eq_append_getElem h, List.filter_append, List.map_append]
  simp [h2, Pr.row]
theorem sliceRows_no (r : Rg) (l : List Pr) (k : Nat) (h : k < l.length) (h2 : containsV r l[k].key = false) :
    sliceRows r l (k + 1) = sliceRows r l k := by
  unfold sliceRows
  rw [List.take_succ_eq_append_getElem h, List.filter_append, List.map_append]
  simp [h2]
set_option maxRecDepth 100000 in
set_option maxHeartbeats 1000000 in
theorem rslice_den (l : List Pr) (hl : l.length * 40 ≤ 140737488351232) (r : Rg) (hr : r.fit) :
    PDen Try.prog 26 [.a (.slice 4 (l.map Pr.row)), .agg r.row] (.a (.slice 4 (sliceRows r l l.length))) := by
  refine den_of_body k_ref06_Slice ⟨rfl, Nat.le_of_ble_eq_true rfl, thaw_intro ?_⟩
  unfold c_ref06_Slice
  simp only [go_sem]
  refine t_loopO_intro [.slot 5 33 4] (fun k : Nat => k ≤ l.length) (fun k => l.length - k) 0 [5, 6, 7, 8, 9, 10, 11, 12, 13, 14, 15, 16, 17, 18, 19, 20, 21, 22, 23, 24, 25, 26] (fun k => [(5, .own 0), (6, .a (.int .i64 k))]) (fun k => [[.a (.str r.f), .a (.str r.t)]]) (fun k => [⟨33, 4, sliceRows r l k, false⟩]) (by omega) (by simp) (by first | (simp; done) | simp [sliceRows_zero]) (by first | (simp; done) | simp [sliceRows_zero]) (by first | (simp; done) | simp [sliceRows_zero]) (fun k => by first | (simp; done) | simp [sliceRows_zero]) (fun k => by first | (simp; done) | simp [sliceRows_zero]) (fun k => by first | (simp; done) | simp [sliceRows_zero]) ?_
  intro k hk st_ hst
  simp only [go_sem] at hst
  subst hst
  by_cases hlt : k < l.length
  · have h3 : (k : Int) < (l.length : Int) := by omega
    have ew := wrap1 k l.length hlt (by omega)
    have e := getD_map Pr.row l k hlt
    have hlen := sliceRows_len r l k
    simp only [h3, e, go_sem]
    refine t_call_intro (rcontainsV_den r hr l[k].key) ?_
    simp only [go_sem]
    first | refine t_case_dec (fun h4 => ?_) (fun h4 => ?_) | refine t_case_ndec (fun h4 => ?_) (fun h4 => ?_) | refine t_case_eqI (fun h4 => ?_) (fun h4 => ?_) | refine t_case_neI (fun h4 => ?_) (fun h4 => ?_) | refine t_case_not (fun h4 => ?_) (fun h4 => ?_) | refine t_case_intro (fun h4 => ?_) (fun h4 => ?_)
    · simp only [h3, e, go_sem]
      refine t_gate_intro (by omega) ?_
      simp only [ew, go_sem]
      refine t_roundO (k + 1) (by omega) (by omega) (by first | (simp; done) | simp [sliceRows_yes _ _ _ hlt h4]) (by first | (simp; done) | simp [sliceRows_yes _ _ _ hlt h4]) (by first | (simp; done) | simp [sliceRows_yes _ _ _ hlt h4]) (by first | (simp; done) | simp [sliceRows_yes _ _ _ hlt h4]) (by first | (simp; done) | simp [sliceRows_yes _ _ _ hlt h4])
    · simp only [ew, go_sem]
      refine t_roundO (k + 1) (by omega) (by omega) (by first | (simp; done) | simp [sliceRows_no _ _ _ hlt h4]) (by first | (simp; done) | simp [sliceRows_no _ _ _ hlt h4]) (by first | (simp; done) | simp [sliceRows_no _ _ _ hlt h4]) (by first | (simp; done) | simp [sliceRows_no _ _ _ hlt h4]) (by first | (simp; done) | simp [sliceRows_no _ _ _ hlt h4])
  · have h3 : ¬ (k : Int) < (l.length : Int) := by omega
    have hke : k = l.length := by omega
    simp only [h3, go_sem]
    simp only [aresult, ares, go_sem]
    rw [hke]
def getP (l : List Pr) (key : ByteArray) : Vl := match l.find? (fun p => p.key.toList == key.toList) with | none => vl0 | some p => p.v
theorem getP_hit (l : List Pr) (key : ByteArray) (k : Nat) (h : k < l.length) (h2 : (l[k].key.toList == key.toList) = true) : getP (l.drop k) key = l[k].v := by
  rw [List.drop_eq_getElem_cons h]; simp only [getP, List.find?_cons, h2]
theorem getP_miss (l : List Pr) (key : ByteArray) (k : Nat) (h : k < l.length) (h2 : (l[k].key.toList == key.toList) = false) : getP (l.drop k) key = getP (l.drop (k + 1)) key := by
  rw [List.drop_eq_getElem_cons h]; simp only [getP, List.find?_cons, h2]
set_option maxRecDepth 100000 in
set_option maxHeartbeats 1000000 in
theorem rget_den (l : List Pr) (hl : l.length * 40 ≤ 140737488351232) (key : ByteArray) :
    PDen Try.prog 25 [.a (.slice 4 (l.map Pr.row)), .a (.str key)] (.agg (getP l key).row) := by
  refine den_of_body k_ref06_Get ⟨rfl, Nat.le_of_ble_eq_true rfl, thaw_intro ?_⟩
  unfold c_ref06_Get
  simp only [go_sem]
  refine t_loop_intro (fun k : Nat => k ≤ l.length ∧ (getP l key = getP (l.drop k) key)) (fun k => l.length - k) 0 [5, 6, 7, 8, 9, 10, 11, 12, 13, 14, 15, 16, 17, 18, 19, 20, 21, 22, 23] (fun k => [(5, .a (.int .i64 k))]) ⟨by omega, by simp⟩ (by simp) (fun k => by simp) rfl ?_
  intro k hk0 fr_ hfr
  have hk : k ≤ l.length := hk0.1
  have hall := hk0.2
  clear hk0
  simp only [go_sem] at hfr
  subst hfr
  by_cases hlt : k < l.length
  · have h3 : (k : Int) < (l.length : Int) := by omega
    have ew := wrap1 k l.length hlt (by omega)
    have e := getD_map Pr.row l k hlt
    simp only [h3, e, go_sem]
    first | refine t_case_dec (fun h4 => ?_) (fun h4 => ?_) | refine t_case_ndec (fun h4 => ?_) (fun h4 => ?_) | refine t_case_eqI (fun h4 => ?_) (fun h4 => ?_) | refine t_case_neI (fun h4 => ?_) (fun h4 => ?_) | refine t_case_not (fun h4 => ?_) (fun h4 => ?_) | refine t_case_intro (fun h4 => ?_) (fun h4 => ?_)
    · simp only [h3, e, go_sem]
      simp only [aresult, ares, go_sem]
      rw [hall, getP_hit l key k hlt h4]
    · simp only [ew, go_sem]
      refine t_round (k + 1) ⟨by omega, by rw [hall, getP_miss l key k hlt h4]⟩ (by omega) (by simp) rfl rfl (by simp) rfl
  · have h3 : ¬ (k : Int) < (l.length : Int) := by omega
    simp only [h3, go_sem]
    simp only [aresult, ares, go_sem]
    rw [hall, List.drop_eq_nil_of_le (by omega)]
    rfl
set_option maxRecDepth 100000 in
set_option maxHeartbeats 1000000 in
theorem same_den (l : List Pr) (hl : l.length ≤ 9223372036854775807) :
    PDen Try.prog 13 [.a (.slice 4 (l.map Pr.row)), .a (.slice 4 (l.map Pr.row))] (.a (.bool true)) := by
  refine den_of_body k_ref06_Same ⟨rfl, Nat.le_of_ble_eq_true rfl, thaw_intro ?_⟩
  unfold c_ref06_Same
  simp only [bne_self_eq_false, go_sem]
  refine t_loop_intro (fun k : Nat => k ≤ l.length) (fun k => l.length - k) 0 [4, 5, 11, 12, 13, 14, 15, 16, 17, 18, 19, 20, 21, 22, 23, 24, 25] (fun k => [(5, .a (.int .i64 k))]) (by omega) (by simp) (fun k => by simp) rfl ?_
  intro k hk fr_ hfr
  simp only [go_sem] at hfr
  subst hfr
  by_cases hlt : k < l.length
  · have h3 : (k : Int) < (l.length : Int) := by omega
    have ew := wrap1 k l.length hlt hl
    have e := getD_map Pr.row l k hlt
    simp only [h3, e, beq_self_eq_true, Bool.and_self, ew, go_sem]
    refine t_round (k + 1) (by omega) (by omega) (by simp) rfl rfl (by simp) rfl
  · have h3 : ¬ (k : Int) < (l.length : Int) := by omega
    simp only [h3, go_sem]
    simp only [aresult, ares, go_sem]
set_option maxRecDepth 100000 in
theorem same_nil_den : PDen Try.prog 13 [.a .nils, .a .nils] (.a (.bool true)) := by
  refine den_of_body k_ref06_Same ⟨rfl, Nat.le_of_ble_eq_true rfl, thaw_intro ?_⟩
  unfold c_ref06_Same
  simp only [bne_self_eq_false, go_sem]
  refine t_loop_intro (fun k : Nat => k ≤ 0) (fun k => 0 - k) 0 [4, 5, 11, 12, 13, 14, 15, 16, 17, 18, 19, 20, 21, 22, 23, 24, 25] (fun k => [(5, .a (.int .i64 k))]) (by omega) (by simp) (fun k => by simp) rfl ?_
  intro k hk fr_ hfr
  simp only [go_sem] at hfr
  subst hfr
  by_cases hlt : k < 0
  · omega
  · have hk0 : k = 0 := by omega
    subst hk0
    have h3 : ¬ ((0 : Nat) : Int) < 0 := by omega
    simp only [h3, go_sem]
    simp only [aresult, ares, go_sem]
set_option maxRecDepth 100000 in
set_option maxHeartbeats 1000000 in
theorem slice_den (l : List Pr) (hl : l.length * 40 ≤ 140737488351232) (r : Rg) (hr : r.fit) :
    PDen Try.prog 22 [.a (.slice 4 (l.map Pr.row)), .agg r.row] (.a (.slice 4 (sliceRows r l l.length))) := by
  refine den_of_body k_state_Slice ⟨rfl, Nat.le_of_ble_eq_true rfl, thaw_intro ?_⟩
  unfold c_state_Slice
  simp only [go_sem]
  refine t_loopO_intro [.slot 5 33 4] (fun k : Nat => k ≤ l.length) (fun k => l.length - k) 0 [5, 7, 10, 11, 12, 13, 14, 15, 16, 17, 18, 19, 20, 21, 22] (fun k => [(5, .own 0), (10, .a (.int .i64 k))]) (fun k => [[.a (.str r.f), .a (.str r.t)]]) (fun k => [⟨33, 4, sliceRows r l k, false⟩]) (by omega) (by simp) (by first | (simp; done) | simp [sliceRows_zero]) (by first | (simp; done) | simp [sliceRows_zero]) (by first | (simp; done) | simp [sliceRows_zero]) (fun k => by first | (simp; done) | simp [sliceRows_zero]) (fun k => by first | (simp; done) | simp [sliceRows_zero]) (fun k => by first | (simp; done) | simp [sliceRows_zero]) ?_
  intro k hk st_ hst
  simp only [go_sem] at hst
  subst hst
  by_cases hlt : k < l.length
  · have h3 : (k : Int) < (l.length : Int) := by omega
    have ew := wrap1 k l.length hlt (by omega)
    have e := getD_map Pr.row l k hlt
    have hlen := sliceRows_len r l k
    simp only [h3, e, go_sem]
    refine t_call_intro (containsV_den r hr l[k].key) ?_
    simp only [go_sem]
    first | refine t_case_dec (fun h4 => ?_) (fun h4 => ?_) | refine t_case_ndec (fun h4 => ?_) (fun h4 => ?_) | refine t_case_eqI (fun h4 => ?_) (fun h4 => ?_) | refine t_case_neI (fun h4 => ?_) (fun h4 => ?_) | refine t_case_not (fun h4 => ?_) (fun h4 => ?_) | refine t_case_intro (fun h4 => ?_) (fun h4 => ?_)
    · simp only [go_sem]
      refine t_gate_intro (by omega) ?_
      simp only [ew, go_sem]
      refine t_roundO (k + 1) (by omega) (by omega) (by first | (simp; done) | simp [sliceRows_yes _ _ _ hlt h4]) (by first | (simp; done) | simp [sliceRows_yes _ _ _ hlt h4]) (by first | (simp; done) | simp [sliceRows_yes _ _ _ hlt h4]) (by first | (simp; done) | simp [sliceRows_yes _ _ _ hlt h4]) (by first | (simp; done) | simp [sliceRows_yes _ _ _ hlt h4])
    · simp only [ew, go_sem]
      refine t_roundO (k + 1) (by omega) (by omega) (by first | (simp; done) | simp [sliceRows_no _ _ _ hlt h4]) (by first | (simp; done) | simp [sliceRows_no _ _ _ hlt h4]) (by first | (simp; done) | simp [sliceRows_no _ _ _ hlt h4]) (by first | (simp; done) | simp [sliceRows_no _ _ _ hlt h4]) (by first | (simp; done) | simp [sliceRows_no _ _ _ hlt h4])
  · have h3 : ¬ (k : Int) < (l.length : Int) := by omega
    have hke : k = l.length := by omega
    simp only [h3, go_sem]
    simp only [aresult, ares, go_sem]
    rw [hke]
set_option maxRecDepth 100000 in
set_option maxHeartbeats 1000000 in
theorem get_den (l : List Pr) (hl : l.length * 40 ≤ 140737488351232) (key : ByteArray) :
    PDen Try.prog 14 [.a (.slice 4 (l.map Pr.row)), .a (.str key)] (.agg (getP l key).row) := by
  refine den_of_body k_state_Get ⟨rfl, Nat.le_of_ble_eq_true rfl, thaw_intro ?_⟩
  unfold c_state_Get
  simp only [go_sem]
  refine t_loop_intro (fun k : Nat => k ≤ l.length ∧ (getP l key = getP (l.drop k) key)) (fun k => l.length - k) 0 [6, 9, 10, 11, 12, 13, 14, 15, 16, 17, 18, 19] (fun k => [(9, .a (.int .i64 k))]) ⟨by omega, by simp⟩ (by simp) (fun k => by simp) rfl ?_
  intro k hk0 fr_ hfr
  have hk : k ≤ l.length := hk0.1
  have hall := hk0.2
  clear hk0
  simp only [go_sem] at hfr
  subst hfr
  by_cases hlt : k < l.length
  · have h3 : (k : Int) < (l.length : Int) := by omega
    have ew := wrap1 k l.length hlt (by omega)
    have e := getD_map Pr.row l k hlt
    simp only [h3, e, go_sem]
    first | refine t_case_dec (fun h4 => ?_) (fun h4 => ?_) | refine t_case_ndec (fun h4 => ?_) (fun h4 => ?_) | refine t_case_eqI (fun h4 => ?_) (fun h4 => ?_) | refine t_case_neI (fun h4 => ?_) (fun h4 => ?_) | refine t_case_not (fun h4 => ?_) (fun h4 => ?_) | refine t_case_intro (fun h4 => ?_) (fun h4 => ?_)
    · simp only [go_sem]
      simp only [aresult, ares, go_sem]
      rw [hall, getP_hit l key k hlt h4]
    · simp only [ew, go_sem]
      refine t_round (k + 1) ⟨by omega, by rw [hall, getP_miss l key k hlt h4]⟩ (by omega) (by simp) rfl rfl (by simp) rfl
  · have h3 : ¬ (k : Int) < (l.length : Int) := by omega
    simp only [h3, go_sem]
    simp only [aresult, ares, go_sem]
    rw [hall, List.drop_eq_nil_of_le (by omega)]
    rfl
def Pr.fit (p : Pr) : Prop := p.key.size ≤ 9223372036854775807 ∧ p.v.s.size ≤ 9223372036854775807
def prStep (p : Option Pr) (x : Pr) : Bool := match p with | none => true | some y => strGt x.key y.key
def writesGo : Option Pr → List Pr → Bool
  | _, [] => true
  | p, x :: xs => keyV x.key && valV x.v && prStep p x && writesGo (some x) xs
def pp (l : List Pr) : Nat → Option Pr
  | 0 => none
  | k + 1 => l[k]?
theorem writesGo_step (l : List Pr) (k : Nat) (h : k < l.length) : writesGo (pp l k) (l.drop k) = (keyV l[k].key && valV l[k].v && prStep (pp l k) l[k] && writesGo (pp l (k + 1)) (l.drop (k + 1))) := by
  rw [List.drop_eq_getElem_cons h]
  simp only [writesGo, pp]
  rw [List.getElem?_eq_getElem h]
set_option maxRecDepth 100000 in
set_option maxHeartbeats 2000000 in
theorem sorted_den (l : List Pr) (hl : l.length * 40 ≤ 140737488351232) (hf : ∀ p ∈ l, p.fit) : PDen Try.prog 31 [.a (.slice 4 (l.map Pr.row))] (.a (.bool (writesGo none l))) := by
  refine den_of_body k_state_sorted ⟨rfl, Nat.le_of_ble_eq_true rfl, thaw_intro ?_⟩
  unfold c_state_sorted
  simp only [go_sem]
  refine t_loop_intro (fun k : Nat => k ≤ l.length ∧ (writesGo none l = writesGo (pp l k) (l.drop k))) (fun k => l.length - k) 0 [2, 3, 4, 7, 8, 9, 10, 11, 12, 13, 14, 15, 16, 17, 18, 19, 20, 21, 22, 23, 24, 25, 26, 27, 28, 29, 30, 31, 32, 33, 34, 35, 36, 37] (fun k => [(7, .a (.int .i64 k))]) ⟨by omega, by rfl⟩ (by simp) (fun k => by simp) rfl ?_
  intro k hk0 fr_ hfr
  have hk : k ≤ l.length := hk0.1
  have hall := hk0.2
  clear hk0
  simp only [go_sem] at hfr
  subst hfr
  by_cases hlt : k < l.length
  · have h1 : (k : Int) < (l.length : Int) := by omega
    have e := getD_map Pr.row l k hlt
    have er : l[k].row = [.str l[k].key, .int .i64 l[k].v.kind, .int .i64 l[k].v.n, .str l[k].v.s] := rfl
    have ew := wrap1 k l.length hlt (by omega)
    have es := writesGo_step l k hlt
    have hfk := hf _ (List.getElem_mem hlt)
    simp only [h1, e, er, go_sem]
    refine t_call_intro (keyV_den l[k].key hfk.1) ?_
    simp only [go_sem]
    first | refine t_case_dec (fun h2 => ?_) (fun h2 => ?_) | refine t_case_ndec (fun h2 => ?_) (fun h2 => ?_) | refine t_case_eqI (fun h2 => ?_) (fun h2 => ?_) | refine t_case_neI (fun h2 => ?_) (fun h2 => ?_) | refine t_case_not (fun h2 => ?_) (fun h2 => ?_) | refine t_case_intro (fun h2 => ?_) (fun h2 => ?_)
    rotate_left
    · simp only [go_sem]
      simp only [aresult, ares, go_sem]
      rw [hall, es, h2]; simp
    simp only [go_sem]
    refine t_call_intro (valV_den l[k].v hfk.2) ?_
    simp only [go_sem]
    first | refine t_case_dec (fun h3 => ?_) (fun h3 => ?_) | refine t_case_ndec (fun h3 => ?_) (fun h3 => ?_) | refine t_case_eqI (fun h3 => ?_) (fun h3 => ?_) | refine t_case_neI (fun h3 => ?_) (fun h3 => ?_) | refine t_case_not (fun h3 => ?_) (fun h3 => ?_) | refine t_case_intro (fun h3 => ?_) (fun h3 => ?_)
    rotate_left
    · simp only [go_sem]
      simp only [aresult, ares, go_sem]
      rw [hall, es, h3]; simp
    simp only [go_sem]
    first | refine t_case_dec (fun h4 => ?_) (fun h4 => ?_) | refine t_case_ndec (fun h4 => ?_) (fun h4 => ?_) | refine t_case_eqI (fun h4 => ?_) (fun h4 => ?_) | refine t_case_neI (fun h4 => ?_) (fun h4 => ?_) | refine t_case_not (fun h4 => ?_) (fun h4 => ?_) | refine t_case_intro (fun h4 => ?_) (fun h4 => ?_)
    rotate_left
    · have hk0 : k = 0 := by omega
      have epp : pp l k = none := by rw [hk0]; rfl
      simp only [ew, go_sem]
      refine t_round (k + 1) ⟨by omega, by rw [hall, es, h2, h3, epp]; simp [prStep, ← epp]⟩ (by omega) (by simp) rfl rfl (by simp) rfl
    have hk1 : 0 < k := by omega
    have ew' := unwrap1 k hk1 (by omega)
    have hlt1 : k - 1 < l.length := by omega
    have h8 : ((k - 1 : Nat) : Int) < (l.length : Int) := by omega
    have e1 := getD_map Pr.row l (k - 1) hlt1
    have er1 : l[k-1].row = [.str l[k-1].key, .int .i64 l[k-1].v.kind, .int .i64 l[k-1].v.n, .str l[k-1].v.s] := rfl
    have epp : pp l k = some l[k-1] := by
      obtain ⟨j, rfl⟩ : ∃ j, k = j + 1 := ⟨k - 1, by omega⟩
      simp [pp]
    simp only [ew', h8, e1, er1, go_sem]
    first | refine t_case_dec (fun h9 => ?_) (fun h9 => ?_) | refine t_case_ndec (fun h9 => ?_) (fun h9 => ?_) | refine t_case_eqI (fun h9 => ?_) (fun h9 => ?_) | refine t_case_neI (fun h9 => ?_) (fun h9 => ?_) | refine t_case_not (fun h9 => ?_) (fun h9 => ?_) | refine t_case_intro (fun h9 => ?_) (fun h9 => ?_)
    rotate_left
    · simp only [go_sem]
      simp only [aresult, ares, go_sem]
      rw [hall, es, epp]; simp only [prStep, strGt_lt]; simp [h9]
    · simp only [ew, go_sem]
      refine t_round (k + 1) ⟨by omega, by rw [hall, es, h2, h3, epp]; simp only [prStep, strGt_lt]; simp [h9]⟩ (by omega) (by simp) rfl rfl (by simp) rfl
  · have h1 : ¬ (k : Int) < (l.length : Int) := by omega
    simp only [h1, go_sem]
    simp only [aresult, ares, go_sem]
    rw [List.drop_eq_nil_of_le (by omega)] at hall
    rw [hall]; rfl
set_option maxRecDepth 100000 in
theorem absent_den (p : Pr) : PDen Try.prog 34 [.agg p.row] (.a (.bool (p.v.kind == 0))) := by
  refine den_of_body k_state_absent ⟨rfl, Nat.le_of_ble_eq_true rfl, thaw_intro ?_⟩
  unfold c_state_absent
  simp only [go_sem]
  simp only [aresult, ares, go_sem]
theorem b_absent : bodied Try.prog 34 = true := by kernel_rfl
def idxGo : Nat → List Pr → Int
  | _, [] => -1
  | i, x :: xs => if x.v.kind = 0 then (i : Int) else idxGo (i + 1) xs
theorem idxGo_any : ∀ (l : List Pr) (i : Nat), decide (0 ≤ idxGo i l) = l.any (fun p => p.v.kind == 0)
  | [], i => by simp [idxGo]
  | x :: xs, i => by
    simp only [idxGo, List.any_cons]
    by_cases h : x.v.kind = 0
    · simp [h]
    · have := idxGo_any xs (i + 1)
      simp [h, this]
theorem idxGo_step (l : List Pr) (k : Nat) (h : k < l.length) : idxGo k (l.drop k) = if l[k].v.kind = 0 then (k : Int) else idxGo (k + 1) (l.drop (k + 1)) := by
  rw [List.drop_eq_getElem_cons h]; rfl
set_option maxRecDepth 100000 in
set_option maxHeartbeats 1000000 in
theorem index_den (l : List Pr) (hl : l.length * 40 ≤ 140737488351232) : PDen Try.prog 67 [.a (.slice 4 (l.map Pr.row)), .clo 34 []] (.a (.int .i64 (idxGo 0 l))) := by
  refine den_of_body k_slices_IndexFunc_api_Pair_api_Pair ⟨rfl, Nat.le_of_ble_eq_true rfl, thaw_intro ?_⟩
  unfold c_slices_IndexFunc_api_Pair_api_Pair
  simp only [go_sem]
  refine t_loop_intro (fun k : Nat => k ≤ l.length ∧ (idxGo 0 l = idxGo k (l.drop k))) (fun k => l.length - k) 0 [4, 5, 8, 9, 10, 11, 12, 13, 14, 15, 16, 17, 18] (fun k => [(8, .a (.int .i64 k))]) ⟨by omega, by rfl⟩ (by simp) (fun k => by simp) rfl ?_
  intro k hk0 fr_ hfr
  have hk : k ≤ l.length := hk0.1
  have hall := hk0.2
  clear hk0
  simp only [go_sem] at hfr
  subst hfr
  by_cases hlt : k < l.length
  · have h1 : (k : Int) < (l.length : Int) := by omega
    have e := getD_map Pr.row l k hlt
    have er : l[k].row = [.str l[k].key, .int .i64 l[k].v.kind, .int .i64 l[k].v.n, .str l[k].v.s] := rfl
    have ew := wrap1 k l.length hlt (by omega)
    have es := idxGo_step l k hlt
    have hab := absent_den l[k]
    rw [er] at hab
    simp only [h1, e, er, b_absent, go_sem]
    refine t_call_intro (hab) ?_
    simp only [go_sem]
    first | refine t_case_dec (fun h2 => ?_) (fun h2 => ?_) | refine t_case_ndec (fun h2 => ?_) (fun h2 => ?_) | refine t_case_eqI (fun h2 => ?_) (fun h2 => ?_) | refine t_case_neI (fun h2 => ?_) (fun h2 => ?_) | refine t_case_not (fun h2 => ?_) (fun h2 => ?_) | refine t_case_intro (fun h2 => ?_) (fun h2 => ?_)
    · simp only [go_sem]
      simp only [aresult, ares, go_sem]
      rw [hall, es, if_pos h2]
    · simp only [ew, go_sem]
      refine t_round (k + 1) ⟨by omega, by rw [hall, es, if_neg h2]⟩ (by omega) (by simp) rfl rfl (by simp) rfl
  · have h1 : ¬ (k : Int) < (l.length : Int) := by omega
    simp only [h1, go_sem]
    simp only [aresult, ares, go_sem]
    rw [List.drop_eq_nil_of_le (by omega)] at hall
    rw [hall]; rfl
set_option maxRecDepth 100000 in
theorem contains_den (l : List Pr) (hl : l.length * 40 ≤ 140737488351232) : PDen Try.prog 39 [.a (.slice 4 (l.map Pr.row)), .clo 34 []] (.a (.bool (l.any fun p => p.v.kind == 0))) := by
  refine den_of_body k_slices_ContainsFunc_api_Pair_api_Pair ⟨rfl, Nat.le_of_ble_eq_true rfl, thaw_intro ?_⟩
  unfold c_slices_ContainsFunc_api_Pair_api_Pair
  simp only [go_sem]
  refine t_call_intro (index_den l hl) ?_
  simp only [go_sem]
  simp only [aresult, ares, go_sem]
  rw [idxGo_any]
def stateV (l : List Pr) : Bool := writesGo none l && !(l.any fun p => p.v.kind == 0)
set_option maxRecDepth 100000 in
theorem stateV_den (l : List Pr) (hl : l.length * 40 ≤ 140737488351232) (hf : ∀ p ∈ l, p.fit) : PDen Try.prog 12 [.a (.slice 4 (l.map Pr.row))] (.a (.bool (stateV l))) := by
  refine den_of_body k_state_Valid ⟨rfl, Nat.le_of_ble_eq_true rfl, thaw_intro ?_⟩
  unfold c_state_Valid
  simp only [go_sem]
  refine t_call_intro (sorted_den l hl hf) ?_
  simp only [go_sem]
  first | refine t_case_dec (fun h => ?_) (fun h => ?_) | refine t_case_ndec (fun h => ?_) (fun h => ?_) | refine t_case_eqI (fun h => ?_) (fun h => ?_) | refine t_case_neI (fun h => ?_) (fun h => ?_) | refine t_case_not (fun h => ?_) (fun h => ?_) | refine t_case_intro (fun h => ?_) (fun h => ?_)
  · simp only [go_sem]
    refine t_call_intro (contains_den l hl) ?_
    simp only [go_sem]
    simp only [aresult, ares, go_sem]
    simp [stateV, h]
  · simp only [go_sem]
    simp only [aresult, ares, go_sem]
    simp [stateV, h]
theorem allD_step {α : Type} (f : α → Bool) (l : List α) (k : Nat) (h : k < l.length) : (l.drop k).all f = (f l[k] && (l.drop (k + 1)).all f) := by
  rw [List.drop_eq_getElem_cons h, List.all_cons]
def ascGo : Option Pr → List Pr → Bool
  | _, [] => true
  | p, x :: xs => keyV x.key && prStep p x && ascGo (some x) xs
theorem ascGo_step (l : List Pr) (k : Nat) (h : k < l.length) : ascGo (pp l k) (l.drop k) = (keyV l[k].key && prStep (pp l k) l[k] && ascGo (pp l (k + 1)) (l.drop (k + 1))) := by
  rw [List.drop_eq_getElem_cons h]
  simp only [ascGo, pp]
  rw [List.getElem?_eq_getElem h]
theorem writes_split : ∀ (l : List Pr) (p : Option Pr), writesGo p l = (l.all (fun p => valV p.v) && ascGo p l)
  | [], _ => rfl
  | x :: xs, p => by
    simp only [writesGo, ascGo, List.all_cons]
    rw [writes_split xs (some x)]
    cases keyV x.key <;> cases valV x.v <;> cases prStep p x <;> cases xs.all (fun p => valV p.v) <;> rfl
set_option maxRecDepth 100000 in
set_option maxHeartbeats 2000000 in
theorem rasc_den (l : List Pr) (hl : l.length * 40 ≤ 140737488351232) (hf : ∀ p ∈ l, p.fit) : PDen Try.prog 69 [.a (.slice 4 (l.map Pr.row))] (.a (.bool (ascGo none l))) := by
  refine den_of_body k_ref06_ascending ⟨rfl, Nat.le_of_ble_eq_true rfl, thaw_intro ?_⟩
  unfold c_ref06_ascending
  simp only [go_sem]
  refine t_loop_intro (fun k : Nat => k ≤ l.length ∧ (ascGo none l = ascGo (pp l k) (l.drop k))) (fun k => l.length - k) 0 [2, 3, 4, 5, 6, 7, 8, 9, 10, 11, 12, 13, 14, 15, 16, 17, 18, 19, 20, 21, 22, 23, 24, 25, 26, 27, 28, 29, 30, 31, 32, 33, 34] (fun k => [(3, .a (.int .i64 k))]) ⟨by omega, by rfl⟩ (by simp) (fun k => by simp) rfl ?_
  intro k hk0 fr_ hfr
  have hk : k ≤ l.length := hk0.1
  have hall := hk0.2
  clear hk0
  simp only [go_sem] at hfr
  subst hfr
  by_cases hlt : k < l.length
  · have h1 : (k : Int) < (l.length : Int) := by omega
    have e := getD_map Pr.row l k hlt
    have er : l[k].row = [.str l[k].key, .int .i64 l[k].v.kind, .int .i64 l[k].v.n, .str l[k].v.s] := rfl
    have ew := wrap1 k l.length hlt (by omega)
    have es := ascGo_step l k hlt
    have hfk := hf _ (List.getElem_mem hlt)
    simp only [h1, e, er, go_sem]
    refine t_call_intro (rkeyV_den l[k].key hfk.1) ?_
    simp only [go_sem]
    first | refine t_case_dec (fun h2 => ?_) (fun h2 => ?_) | refine t_case_ndec (fun h2 => ?_) (fun h2 => ?_) | refine t_case_eqI (fun h2 => ?_) (fun h2 => ?_) | refine t_case_neI (fun h2 => ?_) (fun h2 => ?_) | refine t_case_not (fun h2 => ?_) (fun h2 => ?_) | refine t_case_intro (fun h2 => ?_) (fun h2 => ?_)
    rotate_left
    · simp only [go_sem]
      simp only [aresult, ares, go_sem]
      rw [hall, es, h2]; simp
    simp only [go_sem]
    first | refine t_case_dec (fun h4 => ?_) (fun h4 => ?_) | refine t_case_ndec (fun h4 => ?_) (fun h4 => ?_) | refine t_case_eqI (fun h4 => ?_) (fun h4 => ?_) | refine t_case_neI (fun h4 => ?_) (fun h4 => ?_) | refine t_case_not (fun h4 => ?_) (fun h4 => ?_) | refine t_case_intro (fun h4 => ?_) (fun h4 => ?_)
    rotate_left
    · have hk0 : k = 0 := by omega
      have epp : pp l k = none := by rw [hk0]; rfl
      simp only [ew, go_sem]
      refine t_round (k + 1) ⟨by omega, by rw [hall, es, h2, epp]; simp [prStep, ← epp]⟩ (by omega) (by simp) rfl rfl (by simp) rfl
    have hk1 : 0 < k := by omega
    have ew' := unwrap1 k hk1 (by omega)
    have hlt1 : k - 1 < l.length := by omega
    have h8 : ((k - 1 : Nat) : Int) < (l.length : Int) := by omega
    have e1 := getD_map Pr.row l (k - 1) hlt1
    have er1 : l[k-1].row = [.str l[k-1].key, .int .i64 l[k-1].v.kind, .int .i64 l[k-1].v.n, .str l[k-1].v.s] := rfl
    have epp : pp l k = some l[k-1] := by
      obtain ⟨j, rfl⟩ : ∃ j, k = j + 1 := ⟨k - 1, by omega⟩
      simp [pp]
    simp only [ew', h8, h1, e, er, e1, er1, go_sem]
    first | refine t_case_dec (fun h9 => ?_) (fun h9 => ?_) | refine t_case_ndec (fun h9 => ?_) (fun h9 => ?_) | refine t_case_eqI (fun h9 => ?_) (fun h9 => ?_) | refine t_case_neI (fun h9 => ?_) (fun h9 => ?_) | refine t_case_not (fun h9 => ?_) (fun h9 => ?_) | refine t_case_intro (fun h9 => ?_) (fun h9 => ?_)
    · simp only [go_sem]
      simp only [aresult, ares, go_sem]
      rw [hall, es, epp]; simp only [prStep, strGt]; simp [h9]
    · simp only [ew, go_sem]
      refine t_round (k + 1) ⟨by omega, by rw [hall, es, h2, epp]; simp only [prStep, strGt]; simp [h9]⟩ (by omega) (by simp) rfl rfl (by simp) rfl
  · have h1 : ¬ (k : Int) < (l.length : Int) := by omega
    simp only [h1, go_sem]
    simp only [aresult, ares, go_sem]
    rw [List.drop_eq_nil_of_le (by omega)] at hall
    rw [hall]; rfl
set_option maxRecDepth 100000 in
set_option maxHeartbeats 2000000 in
theorem rwrites_den (l : List Pr) (hl : l.length * 40 ≤ 140737488351232) (hf : ∀ p ∈ l, p.fit) : PDen Try.prog 40 [.a (.slice 4 (l.map Pr.row))] (.a (.bool (writesGo none l))) := by
  rw [writes_split]
  refine den_of_body k_ref06_ValidWrites ⟨rfl, Nat.le_of_ble_eq_true rfl, thaw_intro ?_⟩
  unfold c_ref06_ValidWrites
  simp only [go_sem]
  refine t_loop_intro (fun k : Nat => k ≤ l.length ∧ (l.all (fun p => valV p.v) = (l.drop k).all (fun p => valV p.v))) (fun k => l.length - k) 0 [2, 3, 4, 5, 6, 7, 8, 9, 10, 11, 12, 13, 14, 15, 16] (fun k => [(3, .a (.int .i64 k))]) ⟨by omega, by rfl⟩ (by simp) (fun k => by simp) rfl ?_
  intro k hk0 fr_ hfr
  have hk : k ≤ l.length := hk0.1
  have hall := hk0.2
  clear hk0
  simp only [go_sem] at hfr
  subst hfr
  by_cases hlt : k < l.length
  · have h1 : (k : Int) < (l.length : Int) := by omega
    have e := getD_map Pr.row l k hlt
    have er : l[k].row = [.str l[k].key, .int .i64 l[k].v.kind, .int .i64 l[k].v.n, .str l[k].v.s] := rfl
    have ew := wrap1 k l.length hlt (by omega)
    have es := allD_step (fun p : Pr => valV p.v) l k hlt
    have hfk := hf _ (List.getElem_mem hlt)
    simp only [h1, e, er, go_sem]
    refine t_call_intro (rvalV_den l[k].v hfk.2) ?_
    simp only [go_sem]
    first | refine t_case_dec (fun h2 => ?_) (fun h2 => ?_) | refine t_case_ndec (fun h2 => ?_) (fun h2 => ?_) | refine t_case_eqI (fun h2 => ?_) (fun h2 => ?_) | refine t_case_neI (fun h2 => ?_) (fun h2 => ?_) | refine t_case_not (fun h2 => ?_) (fun h2 => ?_) | refine t_case_intro (fun h2 => ?_) (fun h2 => ?_)
    rotate_left
    · simp only [go_sem]
      simp only [aresult, ares, go_sem]
      rw [hall, es, h2]; simp
    simp only [ew, go_sem]
    refine t_round (k + 1) ⟨by omega, by rw [hall, es, h2]; rfl⟩ (by omega) (by simp) rfl rfl (by simp) rfl
  · have h1 : ¬ (k : Int) < (l.length : Int) := by omega
    simp only [h1, go_sem]
    refine t_call_intro (rasc_den l hl hf) ?_
    simp only [go_sem]
    simp only [aresult, ares, go_sem]
    rw [hall, List.drop_eq_nil_of_le (by omega)]; simp
set_option maxRecDepth 100000 in
set_option maxHeartbeats 2000000 in
theorem rstateV_den (l : List Pr) (hl : l.length * 40 ≤ 140737488351232) (hf : ∀ p ∈ l, p.fit) : PDen Try.prog 24 [.a (.slice 4 (l.map Pr.row))] (.a (.bool (stateV l))) := by
  refine den_of_body k_ref06_Valid ⟨rfl, Nat.le_of_ble_eq_true rfl, thaw_intro ?_⟩
  unfold c_ref06_Valid
  simp only [go_sem]
  refine t_loop_intro (fun k : Nat => k ≤ l.length ∧ ((l.any fun p => p.v.kind == 0) = ((l.drop k).any fun p => p.v.kind == 0))) (fun k => l.length - k) 0 [2, 3, 4, 5, 6, 7, 8, 9, 10, 11, 12, 13, 14, 15, 16] (fun k => [(3, .a (.int .i64 k))]) ⟨by omega, by rfl⟩ (by simp) (fun k => by simp) rfl ?_
  intro k hk0 fr_ hfr
  have hk : k ≤ l.length := hk0.1
  have hall := hk0.2
  clear hk0
  simp only [go_sem] at hfr
  subst hfr
  by_cases hlt : k < l.length
  · have h1 : (k : Int) < (l.length : Int) := by omega
    have e := getD_map Pr.row l k hlt
    have er : l[k].row = [.str l[k].key, .int .i64 l[k].v.kind, .int .i64 l[k].v.n, .str l[k].v.s] := rfl
    have ew := wrap1 k l.length hlt (by omega)
    have es : ((l.drop k).any fun p => p.v.kind == 0) = ((l[k].v.kind == 0) || ((l.drop (k + 1)).any fun p => p.v.kind == 0)) := by rw [List.drop_eq_getElem_cons hlt, List.any_cons]
    simp only [h1, e, er, go_sem]
    first | refine t_case_dec (fun h2 => ?_) (fun h2 => ?_) | refine t_case_ndec (fun h2 => ?_) (fun h2 => ?_) | refine t_case_eqI (fun h2 => ?_) (fun h2 => ?_) | refine t_case_neI (fun h2 => ?_) (fun h2 => ?_) | refine t_case_not (fun h2 => ?_) (fun h2 => ?_) | refine t_case_intro (fun h2 => ?_) (fun h2 => ?_)
    · simp only [go_sem]
      simp only [aresult, ares, go_sem]
      unfold stateV
      rw [hall, es]; simp [h2]
    simp only [ew, go_sem]
    refine t_round (k + 1) ⟨by omega, by rw [hall, es]; simp [h2]⟩ (by omega) (by simp) rfl rfl (by simp) rfl
  · have h1 : ¬ (k : Int) < (l.length : Int) := by omega
    simp only [h1, go_sem]
    refine t_call_intro (rwrites_den l hl hf) ?_
    simp only [go_sem]
    simp only [aresult, ares, go_sem]
    unfold stateV
    rw [hall, List.drop_eq_nil_of_le (by omega)]; simp
theorem zip_self {α : Type} (f : α × α → Bool) (h : ∀ x, f (x, x) = true) : ∀ l : List α, (l.zip l).all f = true
  | [] => rfl
  | x :: xs => by rw [List.zip_cons_cons, List.all_cons, h, zip_self f h xs]; rfl
theorem zip_step {α : Type} (f : α × α → Bool) (p q : List α) (k : Nat) (h : k < p.length) (h' : k < q.length) : ((p.zip q).drop k).all f = (f (p[k], q[k]) && ((p.zip q).drop (k + 1)).all f) := by
  have hk : k < (p.zip q).length := by rw [List.length_zip]; omega
  rw [List.drop_eq_getElem_cons hk, List.all_cons, List.getElem_zip]
theorem zip_end {α : Type} (f : α × α → Bool) (p q : List α) (k : Nat) (h : p.length ≤ k) : ((p.zip q).drop k).all f = true := by
  rw [List.drop_eq_nil_of_le (by rw [List.length_zip]; omega)]; rfl
theorem ba_ext {a b : ByteArray} (h : a.toList = b.toList) : a = b := by
  rw [ByteArray.toList_eq, ByteArray.toList_eq] at h
  obtain ⟨x⟩ := a
  obtain ⟨y⟩ := b
  simp only at h
  rw [Array.toList_inj.1 h]
theorem vlEq_iff (a b : Vl) : vlEq a b = true ↔ a = b := by
  constructor
  · intro h
    simp only [vlEq, Bool.and_eq_true, beq_iff_eq] at h
    obtain ⟨⟨h1, h2⟩, h3⟩ := h
    obtain ⟨k, n, s⟩ := a
    obtain ⟨k', n', s'⟩ := b
    simp only at h1 h2 h3
    rw [h1, h2, ba_ext h3]
  · rintro rfl; simp [vlEq]
theorem all_zip_eq {α : Type} {f : α × α → Bool} (hf : ∀ x y, f (x, y) = true → x = y) : ∀ (p q : List α), p.length = q.length → (p.zip q).all f = true → p = q
  | [], [], _, _ => rfl
  | [], _ :: _, h, _ => by simp at h
  | _ :: _, [], h, _ => by simp at h
  | x :: p, y :: q, h, h2 => by
    rw [List.zip_cons_cons, List.all_cons, Bool.and_eq_true] at h2
    rw [hf x y h2.1, all_zip_eq hf p q (by simpa using h) h2.2]
def prEq (p q : Pr) : Bool := (p.key.toList == q.key.toList) && vlEq p.v q.v
def prsEq (l m : List Pr) : Bool := decide (l.length = m.length) && (l.zip m).all fun z => prEq z.1 z.2
theorem prsEq_iff (l m : List Pr) : prsEq l m = true ↔ l = m := by
  constructor
  · intro h
    simp only [prsEq, Bool.and_eq_true, decide_eq_true_eq] at h
    refine all_zip_eq (f := fun z => prEq z.1 z.2) (fun x y hxy => ?_) _ _ h.1 h.2
    simp only [prEq, Bool.and_eq_true, beq_iff_eq] at hxy
    have e1 := ba_ext hxy.1
    have e2 := (vlEq_iff _ _).1 hxy.2
    obtain ⟨c, d⟩ := x
    obtain ⟨c', d'⟩ := y
    simp only at e1 e2
    rw [e1, e2]
  · rintro rfl
    have := zip_self (fun z : Pr × Pr => prEq z.1 z.2) (fun x => by simp [prEq, vlEq]) l
    simp only [prsEq, this]; simp
end Go.Proofs.Ytldonmombfpleaa
