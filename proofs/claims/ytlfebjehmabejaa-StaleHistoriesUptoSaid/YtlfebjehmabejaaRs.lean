/- The reference's stores: the same answers as the program's. -/
import Derived.Test.YtlfebjehmabejaaRk
set_option linter.unusedSimpArgs false
set_option linter.unusedVariables false
namespace Go.Proofs.Ytlfebjehmabejaa
open Go Ab
attribute [local irreducible] awp aops aop asoft aeff aloop acall

def vstep (p : Option Ver) (x : Ver) : Bool := match p with | none => true | some y => verStep y x
theorem versGo_step2 (vs : List Ver) (fl la : Int) (k : Nat) (h : k < vs.length) :
    versGo fl la (pv vs k) (vs.drop k) = (verOk fl la vs[k] && vstep (pv vs k) vs[k] && versGo fl la (pv vs (k + 1)) (vs.drop (k + 1))) := versGo_step vs fl la k h
def rstep (p : Option Row) (x : Row) : Bool := match p with | none => true | some y => strGt x.key y.key
theorem rowsGo_step2 (vs : List Row) (fl la : Int) (k : Nat) (h : k < vs.length) :
    rowsGo fl la (pr vs k) (vs.drop k) = (keyV vs[k].key && rstep (pr vs k) vs[k] && versV vs[k].vs fl la && rowsGo fl la (pr vs (k + 1)) (vs.drop (k + 1))) := rowsGo_step vs fl la k h

set_option maxRecDepth 100000 in
set_option maxHeartbeats 2000000 in
theorem rrowV_den (r : Row) (fl la : Int) (hfit : r.fit) :
    PDen Try.prog 57 [.agg r.row, .a (.int .i64 fl), .a (.int .i64 la)] (.a (.bool (keyV r.key && versV r.vs fl la))) := by
  obtain ⟨key, vs⟩ := r
  obtain ⟨hkey, hs, hf⟩ := hfit
  simp only at hkey hs hf
  refine den_of_body k_ref22_row ⟨rfl, Nat.le_of_ble_eq_true rfl, thaw_intro ?_⟩
  unfold c_ref22_row
  unfold Row.row
  simp only [go_sem]
  refine t_call_intro (rkeyV_den key hkey) ?_
  simp only [go_sem]
  first | refine t_case_dec (fun hkv => ?_) (fun hkv => ?_) | refine t_case_ndec (fun hkv => ?_) (fun hkv => ?_) | refine t_case_eqI (fun hkv => ?_) (fun hkv => ?_) | refine t_case_neI (fun hkv => ?_) (fun hkv => ?_) | refine t_case_not (fun hkv => ?_) (fun hkv => ?_) | refine t_case_intro (fun hkv => ?_) (fun hkv => ?_)
  rotate_left
  · simp only [go_sem]
    simp only [aresult, ares, go_sem]
    simp [hkv]
  simp only [go_sem]
  first | refine t_case_dec (fun h => ?_) (fun h => ?_) | refine t_case_ndec (fun h => ?_) (fun h => ?_) | refine t_case_eqI (fun h => ?_) (fun h => ?_) | refine t_case_neI (fun h => ?_) (fun h => ?_) | refine t_case_not (fun h => ?_) (fun h => ?_) | refine t_case_intro (fun h => ?_) (fun h => ?_)
  · have : vs = [] := List.length_eq_zero_iff.1 (by omega)
    subst this
    simp only [go_sem]
    simp only [aresult, ares, go_sem]
    simp [versV]
  have hp : 0 < vs.length := by omega
  have h1 : (0 : Int) < (vs.length : Int) := by omega
  have e0 := getD_map Ver.row vs 0 hp
  have eV : versV vs fl la = (!(vs[0].v.kind == 0) && versGo fl la none vs) := by
    cases vs with
    | nil => simp at hp
    | cons x xs => rfl
  have er : vs[0].row = [.int .i64 vs[0].at_, .int .i64 vs[0].v.kind, .int .i64 vs[0].v.n, .str vs[0].v.s] := rfl
  simp only [h1, e0, er, go_sem]
  first | refine t_case_dec (fun h2 => ?_) (fun h2 => ?_) | refine t_case_ndec (fun h2 => ?_) (fun h2 => ?_) | refine t_case_eqI (fun h2 => ?_) (fun h2 => ?_) | refine t_case_neI (fun h2 => ?_) (fun h2 => ?_) | refine t_case_not (fun h2 => ?_) (fun h2 => ?_) | refine t_case_intro (fun h2 => ?_) (fun h2 => ?_)
  · simp only [go_sem]
    simp only [aresult, ares, go_sem]
    simp [eV, h2]
  simp only [go_sem]
  have eV2 : versV vs fl la = versGo fl la none vs := by rw [eV]; simp [h2]
  refine t_loop_intro (fun k : Nat => k ≤ vs.length ∧ (versGo fl la none vs = versGo fl la (pv vs k) (vs.drop k))) (fun k => vs.length - k) 0 [6, 7, 8, 28, 29, 30, 31, 32, 33, 34, 35, 36, 37, 38, 39, 40, 41, 42, 43, 44, 45, 46, 47, 48, 49, 50, 51, 52, 53, 54, 55, 56, 57, 58, 59, 60, 61, 62, 63, 64, 65, 66, 67, 68, 69, 70, 71, 72, 73, 74, 75, 76, 77, 78, 79, 80, 81] (fun k => [(7, .a (.int .i64 k))]) ⟨by omega, by rfl⟩ (by simp) (fun k => by simp) rfl ?_
  intro k hk0 fr_ hfr
  have hk : k ≤ vs.length := hk0.1
  have hall := hk0.2
  clear hk0
  simp only [go_sem] at hfr
  subst hfr
  by_cases hlt : k < vs.length
  · have h3 : (k : Int) < (vs.length : Int) := by omega
    have ew := wrap1 k vs.length hlt hs
    have e := getD_map Ver.row vs k hlt
    have er' : vs[k].row = [.int .i64 vs[k].at_, .int .i64 vs[k].v.kind, .int .i64 vs[k].v.n, .str vs[k].v.s] := rfl
    have hb : verOk fl la vs[k] = false → versV vs fl la = false := fun hx => by
      rw [eV, hall, versGo_step2 vs fl la k hlt, hx]; simp
    have hb2 : vstep (pv vs k) vs[k] = false → versV vs fl la = false := fun hx => by
      rw [eV, hall, versGo_step2 vs fl la k hlt, hx]; simp
    have hg : verOk fl la vs[k] = true → vstep (pv vs k) vs[k] = true → versGo fl la none vs = versGo fl la (pv vs (k + 1)) (vs.drop (k + 1)) := fun hx hy => by
      rw [hall, versGo_step2 vs fl la k hlt, hx, hy]; rfl
    simp only [h3, e, er', go_sem]
    refine t_call_intro (rstored_den vs[k].v (hf _ (List.getElem_mem hlt))) ?_
    simp only [go_sem]
    first | refine t_case_dec (fun h4 => ?_) (fun h4 => ?_) | refine t_case_ndec (fun h4 => ?_) (fun h4 => ?_) | refine t_case_eqI (fun h4 => ?_) (fun h4 => ?_) | refine t_case_neI (fun h4 => ?_) (fun h4 => ?_) | refine t_case_not (fun h4 => ?_) (fun h4 => ?_) | refine t_case_intro (fun h4 => ?_) (fun h4 => ?_)
    rotate_left
    · simp only [go_sem]
      simp only [aresult, ares, go_sem]
      rw [hb (by simp [verOk, h4])]; simp
    simp only [go_sem]
    first | refine t_case_dec (fun h5 => ?_) (fun h5 => ?_) | refine t_case_ndec (fun h5 => ?_) (fun h5 => ?_) | refine t_case_eqI (fun h5 => ?_) (fun h5 => ?_) | refine t_case_neI (fun h5 => ?_) (fun h5 => ?_) | refine t_case_not (fun h5 => ?_) (fun h5 => ?_) | refine t_case_intro (fun h5 => ?_) (fun h5 => ?_)
    · simp only [go_sem]
      simp only [aresult, ares, go_sem]
      rw [hb (by simp [verOk]; omega)]; simp
    simp only [go_sem]
    first | refine t_case_dec (fun h6 => ?_) (fun h6 => ?_) | refine t_case_ndec (fun h6 => ?_) (fun h6 => ?_) | refine t_case_eqI (fun h6 => ?_) (fun h6 => ?_) | refine t_case_neI (fun h6 => ?_) (fun h6 => ?_) | refine t_case_not (fun h6 => ?_) (fun h6 => ?_) | refine t_case_intro (fun h6 => ?_) (fun h6 => ?_)
    · simp only [go_sem]
      simp only [aresult, ares, go_sem]
      rw [hb (by simp [verOk]; omega)]; simp
    have hok : verOk fl la vs[k] = true := by simp [verOk, h4]; omega
    simp only [go_sem]
    first | refine t_case_dec (fun h7 => ?_) (fun h7 => ?_) | refine t_case_ndec (fun h7 => ?_) (fun h7 => ?_) | refine t_case_eqI (fun h7 => ?_) (fun h7 => ?_) | refine t_case_neI (fun h7 => ?_) (fun h7 => ?_) | refine t_case_not (fun h7 => ?_) (fun h7 => ?_) | refine t_case_intro (fun h7 => ?_) (fun h7 => ?_)
    rotate_left
    · have hk1 : k = 0 := by omega
      have epv : pv vs k = none := by rw [hk1]; rfl
      simp only [ew, go_sem]
      refine t_round (k + 1) ⟨by omega, hg hok (by rw [epv]; rfl)⟩ (by omega) (by simp) rfl rfl (by simp) rfl
    have hk1 : 0 < k := by omega
    have ew' := unwrap1 k hk1 (by omega)
    have hlt1 : k - 1 < vs.length := by omega
    have h8 : ((k - 1 : Nat) : Int) < (vs.length : Int) := by omega
    have e1 := getD_map Ver.row vs (k - 1) hlt1
    have er1 : vs[k-1].row = [.int .i64 vs[k-1].at_, .int .i64 vs[k-1].v.kind, .int .i64 vs[k-1].v.n, .str vs[k-1].v.s] := rfl
    have epv : pv vs k = some vs[k-1] := by
      obtain ⟨j, rfl⟩ : ∃ j, k = j + 1 := ⟨k - 1, by omega⟩
      simp [pv]
    simp only [ew', h8, e1, er1, go_sem]
    first | refine t_case_dec (fun h9 => ?_) (fun h9 => ?_) | refine t_case_ndec (fun h9 => ?_) (fun h9 => ?_) | refine t_case_eqI (fun h9 => ?_) (fun h9 => ?_) | refine t_case_neI (fun h9 => ?_) (fun h9 => ?_) | refine t_case_not (fun h9 => ?_) (fun h9 => ?_) | refine t_case_intro (fun h9 => ?_) (fun h9 => ?_)
    · simp only [go_sem]
      simp only [aresult, ares, go_sem]
      rw [hb2 (by rw [epv]; simp [vstep, verStep]; omega)]; simp
    simp only [ew', h8, e1, er1, go_sem]
    first | refine t_case_dec (fun h10 => ?_) (fun h10 => ?_) | refine t_case_ndec (fun h10 => ?_) (fun h10 => ?_) | refine t_case_eqI (fun h10 => ?_) (fun h10 => ?_) | refine t_case_neI (fun h10 => ?_) (fun h10 => ?_) | refine t_case_not (fun h10 => ?_) (fun h10 => ?_) | refine t_case_intro (fun h10 => ?_) (fun h10 => ?_)
    · simp only [go_sem]
      simp only [aresult, ares, go_sem]
      rw [hb2 (by rw [epv]; show (_ && !vlEq _ _) = false; rw [vlEq_row, h10]; simp)]; simp
    · simp only [ew, go_sem]
      refine t_round (k + 1) ⟨by omega, hg hok (by rw [epv]; show (decide _ && !vlEq _ _) = true; rw [vlEq_row, h10]; simp; omega)⟩ (by omega) (by simp) rfl rfl (by simp) rfl
  · have h3 : ¬ (k : Int) < (vs.length : Int) := by omega
    simp only [h3, go_sem]
    simp only [aresult, ares, go_sem]
    rw [List.drop_eq_nil_of_le (by omega)] at hall
    rw [eV2, hall, hkv]
    simp [versGo]

theorem strGt_not (a b : ByteArray) (h : strGt a b = true) : (Op.bytesLess a.toList b.toList || a.toList == b.toList) = false := by
  unfold strGt at h; simpa using h

theorem bl_irrefl : ∀ a : List UInt8, Op.bytesLess a a = false
  | [] => rfl
  | x :: a => by simp [Op.bytesLess, bl_irrefl a, UInt8.lt_irrefl]
theorem bl_total : ∀ a b : List UInt8, a ≠ b → Op.bytesLess a b = !Op.bytesLess b a
  | [], [], h => absurd rfl h
  | [], _ :: _, _ => rfl
  | _ :: _, [], _ => rfl
  | x :: a, y :: b, h => by
    unfold Op.bytesLess
    by_cases hxy : x = y
    · subst hxy
      have h' : a ≠ b := fun e => h (by rw [e])
      simp [UInt8.lt_irrefl, bl_total a b h']
    · have h1 : x < y ∨ y < x := by
        rcases Nat.lt_trichotomy x.toNat y.toNat with h | h | h
        · exact .inl (UInt8.lt_iff_toNat_lt.2 h)
        · exact absurd (UInt8.toNat_inj.1 h) hxy
        · exact .inr (UInt8.lt_iff_toNat_lt.2 h)
      have hyx : ¬ y = x := fun e => hxy e.symm
      rcases h1 with h1 | h1
      · have h2 : ¬ y < x := by rw [UInt8.lt_iff_toNat_lt] at *; omega
        simp [h1, h2, hyx]
      · have h2 : ¬ x < y := by rw [UInt8.lt_iff_toNat_lt] at *; omega
        simp [h1, h2, hxy]
/-- 'not less or equal' is 'greater'. -/
theorem strGt_lt (a b : ByteArray) : strGt a b = Op.bytesLess b.toList a.toList := by
  unfold strGt
  by_cases h : a.toList = b.toList
  · rw [h]; simp [bl_irrefl]
  · rw [bl_total b.toList a.toList (fun e => h e.symm)]
    have : (a.toList == b.toList) = false := by simpa using h
    rw [this]; simp

set_option maxRecDepth 100000 in
set_option maxHeartbeats 2000000 in
theorem rstoreV_den (s : Store) (hs : s.fit) :
    PDen Try.prog 29 [.agg s.row] (.a (.bool (storeV s))) := by
  obtain ⟨fl, la, vs⟩ := s
  obtain ⟨hn, hf⟩ := hs
  simp only at hn hf
  refine den_of_body k_ref22_Valid ⟨rfl, Nat.le_of_ble_eq_true rfl, thaw_intro ?_⟩
  unfold c_ref22_Valid
  unfold Store.row
  simp only [go_sem]
  first | refine t_case_dec (fun h => ?_) (fun h => ?_) | refine t_case_ndec (fun h => ?_) (fun h => ?_) | refine t_case_eqI (fun h => ?_) (fun h => ?_) | refine t_case_neI (fun h => ?_) (fun h => ?_) | refine t_case_not (fun h => ?_) (fun h => ?_) | refine t_case_intro (fun h => ?_) (fun h => ?_)
  · simp only [go_sem]
    simp only [aresult, ares, go_sem]
    rw [show storeV ⟨fl, la, vs⟩ = false by simp [storeV]; omega]
  simp only [go_sem]
  first | refine t_case_dec (fun h1 => ?_) (fun h1 => ?_) | refine t_case_ndec (fun h1 => ?_) (fun h1 => ?_) | refine t_case_eqI (fun h1 => ?_) (fun h1 => ?_) | refine t_case_neI (fun h1 => ?_) (fun h1 => ?_) | refine t_case_not (fun h1 => ?_) (fun h1 => ?_) | refine t_case_intro (fun h1 => ?_) (fun h1 => ?_)
  · simp only [go_sem]
    simp only [aresult, ares, go_sem]
    rw [show storeV ⟨fl, la, vs⟩ = false by simp [storeV]; omega]
  simp only [go_sem]
  first | refine t_case_dec (fun h2 => ?_) (fun h2 => ?_) | refine t_case_ndec (fun h2 => ?_) (fun h2 => ?_) | refine t_case_eqI (fun h2 => ?_) (fun h2 => ?_) | refine t_case_neI (fun h2 => ?_) (fun h2 => ?_) | refine t_case_not (fun h2 => ?_) (fun h2 => ?_) | refine t_case_intro (fun h2 => ?_) (fun h2 => ?_)
  · simp only [go_sem]
    simp only [aresult, ares, go_sem]
    rw [show storeV ⟨fl, la, vs⟩ = false by simp [storeV]; omega]
  have eV : storeV ⟨fl, la, vs⟩ = rowsGo fl la none vs := by
    have a1 : 0 ≤ fl := by omega
    have a2 : fl ≤ la := by omega
    have a3 : la ≤ 1099511627776 := by omega
    simp [storeV, a1, a2, a3]
  simp only [go_sem]
  refine t_loop_intro (fun k : Nat => k ≤ vs.length ∧ (rowsGo fl la none vs = rowsGo fl la (pr vs k) (vs.drop k))) (fun k => vs.length - k) 0 [2, 3, 19, 20, 21, 22, 23, 24, 25, 26, 27, 28, 29, 30, 31, 32, 33, 34, 35, 36, 37, 38, 39, 40, 41, 42, 43, 44, 45, 46, 47, 48, 49, 50, 51, 52, 53, 54, 55, 56] (fun k => [(3, .a (.int .i64 k))]) ⟨by omega, by rfl⟩ (by simp) (fun k => by simp) rfl ?_
  intro k hk0 fr_ hfr
  have hk : k ≤ vs.length := hk0.1
  have hall := hk0.2
  clear hk0
  simp only [go_sem] at hfr
  subst hfr
  by_cases hlt : k < vs.length
  · have h3 : (k : Int) < (vs.length : Int) := by omega
    have ew := wrap1 k vs.length hlt hn
    have e := getD_map Row.row vs k hlt
    have er' : vs[k].row = [.str vs[k].key, .slice 4 (vs[k].vs.map Ver.row)] := rfl
    have hfk := hf _ (List.getElem_mem hlt)
    have hbad : (keyV vs[k].key && versV vs[k].vs fl la) = false ∨ rstep (pr vs k) vs[k] = false → storeV ⟨fl, la, vs⟩ = false := fun hx => by
      rw [eV, hall, rowsGo_step2 vs fl la k hlt]
      rcases hx with hx | hx
      · rcases Bool.and_eq_false_iff.1 hx with hx | hx <;> rw [hx] <;> simp
      · rw [hx]; simp
    have hg : (keyV vs[k].key && versV vs[k].vs fl la) = true → rstep (pr vs k) vs[k] = true → rowsGo fl la none vs = rowsGo fl la (pr vs (k + 1)) (vs.drop (k + 1)) := fun hx hy => by
      rw [hall, rowsGo_step2 vs fl la k hlt, hy]
      rw [Bool.and_eq_true] at hx
      rw [hx.1, hx.2]; rfl
    simp only [h3, e, er', go_sem]
    refine t_call_intro (rrowV_den vs[k] fl la hfk) ?_
    simp only [go_sem]
    first | refine t_case_dec (fun h4 => ?_) (fun h4 => ?_) | refine t_case_ndec (fun h4 => ?_) (fun h4 => ?_) | refine t_case_eqI (fun h4 => ?_) (fun h4 => ?_) | refine t_case_neI (fun h4 => ?_) (fun h4 => ?_) | refine t_case_not (fun h4 => ?_) (fun h4 => ?_) | refine t_case_intro (fun h4 => ?_) (fun h4 => ?_)
    rotate_left
    · simp only [go_sem]
      simp only [aresult, ares, go_sem]
      rw [hbad (.inl h4)]
    simp only [go_sem]
    first | refine t_case_dec (fun h5 => ?_) (fun h5 => ?_) | refine t_case_ndec (fun h5 => ?_) (fun h5 => ?_) | refine t_case_eqI (fun h5 => ?_) (fun h5 => ?_) | refine t_case_neI (fun h5 => ?_) (fun h5 => ?_) | refine t_case_not (fun h5 => ?_) (fun h5 => ?_) | refine t_case_intro (fun h5 => ?_) (fun h5 => ?_)
    rotate_left
    · have hk1 : k = 0 := by omega
      have epv : pr vs k = none := by rw [hk1]; rfl
      simp only [ew, go_sem]
      refine t_round (k + 1) ⟨by omega, hg h4 (by rw [epv]; rfl)⟩ (by omega) (by simp) rfl rfl (by simp) rfl
    have hk1 : 0 < k := by omega
    have ew' := unwrap1 k hk1 (by omega)
    have hlt1 : k - 1 < vs.length := by omega
    have h8 : ((k - 1 : Nat) : Int) < (vs.length : Int) := by omega
    have e1 := getD_map Row.row vs (k - 1) hlt1
    have er1 : vs[k-1].row = [.str vs[k-1].key, .slice 4 (vs[k-1].vs.map Ver.row)] := rfl
    have epv : pr vs k = some vs[k-1] := by
      obtain ⟨j, rfl⟩ : ∃ j, k = j + 1 := ⟨k - 1, by omega⟩
      simp [pr]
    simp only [h3, e, er', ew', h8, e1, er1, go_sem]
    have es : rstep (pr vs k) vs[k] = Op.bytesLess vs[k-1].key.toList vs[k].key.toList := by rw [epv]; exact strGt_lt _ _
    first | refine t_case_dec (fun h9 => ?_) (fun h9 => ?_) | refine t_case_ndec (fun h9 => ?_) (fun h9 => ?_) | refine t_case_eqI (fun h9 => ?_) (fun h9 => ?_) | refine t_case_neI (fun h9 => ?_) (fun h9 => ?_) | refine t_case_not (fun h9 => ?_) (fun h9 => ?_) | refine t_case_intro (fun h9 => ?_) (fun h9 => ?_)
    rotate_left
    · simp only [go_sem]
      simp only [aresult, ares, go_sem]
      rw [hbad (.inr (by rw [es]; simpa using h9))]
    · simp only [ew, go_sem]
      refine t_round (k + 1) ⟨by omega, hg h4 (by rw [es]; simpa using h9)⟩ (by omega) (by simp) rfl rfl (by simp) rfl
  · have h3 : ¬ (k : Int) < (vs.length : Int) := by omega
    simp only [h3, go_sem]
    simp only [aresult, ares, go_sem]
    rw [List.drop_eq_nil_of_le (by omega)] at hall
    rw [eV, hall]
    simp [rowsGo]
end Go.Proofs.Ytlfebjehmabejaa
