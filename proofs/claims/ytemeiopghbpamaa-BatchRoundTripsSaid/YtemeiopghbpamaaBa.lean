/- Names, as contracts of the abstract layer. -/
import Derived.Test.YtemeiopghbpamaaLw
set_option linter.unusedSimpArgs false
set_option linter.unusedVariables false
namespace Go.Proofs.Ytemeiopghbpamaa
open Go Ab Go.RowKit
attribute [local irreducible] awp aops aop asoft aeff aloop acall acallI acallT

def letterB (c : UInt8) : Bool := decide (97 ≤ (c.toNat : Int)) && decide ((c.toNat : Int) ≤ 122)
def digitB (c : UInt8) : Bool := decide (48 ≤ (c.toNat : Int)) && decide ((c.toNat : Int) ≤ 57)
theorem partB_eq (c : UInt8) : partB c = (letterB c || digitB c || ((c.toNat : Int) == 95)) := by
  rw [Bool.eq_iff_iff, partI_byte]
  unfold partI letterB digitB
  simp only [Bool.or_eq_true, Bool.and_eq_true, decide_eq_true_eq, beq_iff_eq]
  omega
theorem letter_den (c : Int) : PDen Try.prog 59 [.a (.int .i32 c)] (.a (.bool (decide (97 ≤ c) && decide (c ≤ 122)))) :=
  pden_same rfl (fun S w => .a (.bool _)) fun w => letter_any c w
set_option maxRecDepth 100000 in
theorem rletter_den (c : UInt8) : PDen Try.prog 49 [.a (.int .u8 c.toNat)] (.a (.bool (letterB c))) := by
  refine den_of_body k_ref07_letter ⟨rfl, Nat.le_of_ble_eq_true rfl, thaw_intro ?_⟩
  unfold c_ref07_letter
  simp only [go_sem]
  repeat' ((first | refine t_case_dec (fun hc => ?_) (fun hc => ?_) | refine t_case_ndec (fun hc => ?_) (fun hc => ?_) | refine t_case_eqI (fun hc => ?_) (fun hc => ?_) | refine t_case_neI (fun hc => ?_) (fun hc => ?_) | refine t_case_not (fun hc => ?_) (fun hc => ?_) | refine t_case_intro (fun hc => ?_) (fun hc => ?_)) <;> try simp only [go_sem])
  all_goals simp only [aresult, ares, go_sem]
  all_goals (congr 3; unfold letterB; rw [Bool.eq_iff_iff]; simp; omega)
set_option maxRecDepth 100000 in
theorem rdigit_den (c : UInt8) : PDen Try.prog 73 [.a (.int .u8 c.toNat)] (.a (.bool (digitB c))) := by
  refine den_of_body k_ref07_digit ⟨rfl, Nat.le_of_ble_eq_true rfl, thaw_intro ?_⟩
  unfold c_ref07_digit
  simp only [go_sem]
  repeat' ((first | refine t_case_dec (fun hc => ?_) (fun hc => ?_) | refine t_case_ndec (fun hc => ?_) (fun hc => ?_) | refine t_case_eqI (fun hc => ?_) (fun hc => ?_) | refine t_case_neI (fun hc => ?_) (fun hc => ?_) | refine t_case_not (fun hc => ?_) (fun hc => ?_) | refine t_case_intro (fun hc => ?_) (fun hc => ?_)) <;> try simp only [go_sem])
  all_goals simp only [aresult, ares, go_sem]
  all_goals (congr 3; unfold digitB; rw [Bool.eq_iff_iff]; simp; omega)
set_option maxRecDepth 100000 in
theorem rpart_den (c : UInt8) : PDen Try.prog 65 [.a (.int .u8 c.toNat)] (.a (.bool (partB c))) := by
  rw [partB_eq]
  cases h1 : letterB c with
  | true =>
    have hl := rletter_den c
    rw [h1] at hl
    refine den_of_body k_ref07_part ⟨rfl, Nat.le_of_ble_eq_true rfl, thaw_intro ?_⟩
    unfold c_ref07_part
    simp only [go_sem]
    refine t_call_intro (hl) ?_
    simp only [go_sem]
    simp only [aresult, ares, go_sem]
    rfl
  | false =>
    have hl := rletter_den c
    rw [h1] at hl
    cases h2 : digitB c with
    | true =>
      have hd := rdigit_den c
      rw [h2] at hd
      refine den_of_body k_ref07_part ⟨rfl, Nat.le_of_ble_eq_true rfl, thaw_intro ?_⟩
      unfold c_ref07_part
      simp only [go_sem]
      refine t_call_intro (hl) ?_
      simp only [go_sem]
      refine t_call_intro (hd) ?_
      simp only [go_sem]
      simp only [aresult, ares, go_sem]
      rfl
    | false =>
      have hd := rdigit_den c
      rw [h2] at hd
      refine den_of_body k_ref07_part ⟨rfl, Nat.le_of_ble_eq_true rfl, thaw_intro ?_⟩
      unfold c_ref07_part
      simp only [go_sem]
      refine t_call_intro (hl) ?_
      simp only [go_sem]
      refine t_call_intro (hd) ?_
      simp only [go_sem]
      simp only [aresult, ares, go_sem]
      rfl
theorem wordN_cons_drop (l : List UInt8) (k : Nat) (h : k < l.length) : wordN (l.drop k) = if partB l[k] = true then 1 + wordN (l.drop (k + 1)) else 0 := by
  rw [List.drop_eq_getElem_cons h]
  split
  · rename_i h2; exact wordN_yes _ _ h2
  · rename_i h2; exact wordN_no _ _ (by simpa using h2)
set_option maxRecDepth 100000 in
set_option maxHeartbeats 1000000 in
theorem rword_den (s : ByteArray) (hs : s.size ≤ 9223372036854775807) : PDen Try.prog 50 [.a (.str s), .a (.int .i64 0)] (.a (.int .i64 (wordN s.data.toList))) := by
  have hsz := dsize s
  refine den_of_body k_ref07_word ⟨rfl, Nat.le_of_ble_eq_true rfl, thaw_intro ?_⟩
  unfold c_ref07_word
  simp only [go_sem]
  refine t_loop_intro (fun k : Nat => k ≤ s.size ∧ (wordN s.data.toList = k + wordN (s.data.toList.drop k))) (fun k => s.size - k) 0 [1, 5, 6, 7, 8, 9, 10, 11, 12, 13, 14, 15, 16] (fun k => [(1, .a (.int .i64 k))]) ⟨by omega, by simp⟩ (by simp) (fun k => by simp) rfl ?_
  intro k hk0 fr_ hfr
  have hk : k ≤ s.size := hk0.1
  have hall := hk0.2
  clear hk0
  simp only [go_sem] at hfr
  subst hfr
  by_cases hlt : k < s.size
  · have h3 : (k : Int) < (s.size : Int) := by omega
    have ew := wrap1 k s.size hlt (by omega)
    have hlt' : k < s.data.toList.length := by omega
    have e := getD_get s.data.toList 0 k hlt'
    have hw := wordN_cons_drop s.data.toList k hlt'
    simp only [h3, e, go_sem]
    refine t_call_intro (rpart_den s.data.toList[k]) ?_
    simp only [go_sem]
    cases hb : partB s.data.toList[k] with
    | true =>
      rw [hb, if_pos rfl] at hw
      simp only [ew, go_sem]
      refine t_round (k + 1) ⟨by omega, by omega⟩ (by omega) (by simp) rfl rfl (by simp) rfl
    | false =>
      rw [hb, if_neg (by simp)] at hw
      simp only [go_sem]
      simp only [aresult, ares, go_sem]
      congr 3; omega
  · have h3 : ¬ (k : Int) < (s.size : Int) := by omega
    have hn : wordN (s.data.toList.drop k) = 0 := by rw [List.drop_eq_nil_of_le (by omega)]; rfl
    simp only [h3, go_sem]
    simp only [aresult, ares, go_sem]
    congr 3; omega
def sRow (s : ByteArray) : List Atom := [.str s]
def hasB (l : List ByteArray) (s : ByteArray) : Bool := l.any fun k => k.toList == s.toList
set_option maxRecDepth 100000 in
set_option maxHeartbeats 1000000 in
theorem rhasS_den (l : List ByteArray) (hl : l.length ≤ 9223372036854775807) (s : ByteArray) : PDen Try.prog 66 [.a (.slice 1 (l.map sRow)), .a (.str s)] (.a (.bool (hasB l s))) := by
  refine den_of_body k_ref07_has ⟨rfl, Nat.le_of_ble_eq_true rfl, thaw_intro ?_⟩
  unfold c_ref07_has
  simp only [go_sem]
  refine t_loop_intro (fun k : Nat => k ≤ l.length ∧ (hasB l s = hasB (l.drop k) s)) (fun k => l.length - k) 0 [4, 5, 6, 7, 8, 9, 10, 11, 12, 13, 14, 15, 16, 17] (fun k => [(5, .a (.int .i64 k))]) ⟨by omega, by simp⟩ (by simp) (fun k => by simp) rfl ?_
  intro k hk0 fr_ hfr
  have hk : k ≤ l.length := hk0.1
  have hall := hk0.2
  clear hk0
  simp only [go_sem] at hfr
  subst hfr
  by_cases hlt : k < l.length
  · have h3 : (k : Int) < (l.length : Int) := by omega
    have ew := wrap1 k l.length hlt (by omega)
    have e := getD_map sRow l k hlt
    have er : sRow l[k] = [.str l[k]] := rfl
    have es : hasB (l.drop k) s = ((l[k].toList == s.toList) || hasB (l.drop (k + 1)) s) := by rw [List.drop_eq_getElem_cons hlt]; rfl
    simp only [h3, e, er, go_sem]
    first | refine t_case_dec (fun h4 => ?_) (fun h4 => ?_) | refine t_case_ndec (fun h4 => ?_) (fun h4 => ?_) | refine t_case_eqI (fun h4 => ?_) (fun h4 => ?_) | refine t_case_neI (fun h4 => ?_) (fun h4 => ?_) | refine t_case_not (fun h4 => ?_) (fun h4 => ?_) | refine t_case_intro (fun h4 => ?_) (fun h4 => ?_)
    · simp only [go_sem]
      simp only [aresult, ares, go_sem]
      rw [hall, es, h4]; rfl
    · simp only [ew, go_sem]
      refine t_round (k + 1) ⟨by omega, by rw [hall, es, h4]; rfl⟩ (by omega) (by simp) rfl rfl (by simp) rfl
  · have h3 : ¬ (k : Int) < (l.length : Int) := by omega
    simp only [h3, go_sem]
    simp only [aresult, ares, go_sem]
    rw [hall, List.drop_eq_nil_of_le (by omega)]; rfl
def kwL : List ByteArray := [⟨#[112, 114, 111, 99]⟩, ⟨#[108, 101, 116]⟩, ⟨#[112, 117, 116]⟩, ⟨#[100, 101, 108, 101, 116, 101]⟩, ⟨#[105, 102]⟩, ⟨#[101, 108, 115, 101]⟩, ⟨#[102, 111, 114]⟩, ⟨#[116, 111]⟩, ⟨#[109, 97, 120]⟩, ⟨#[101, 109, 105, 116]⟩, ⟨#[97, 98, 111, 114, 116]⟩, ⟨#[110, 111, 116]⟩, ⟨#[97, 110, 100]⟩, ⟨#[111, 114]⟩, ⟨#[105, 110, 116]⟩, ⟨#[115, 116, 114]⟩, ⟨#[98, 111, 111, 108]⟩, ⟨#[116, 101, 120, 116]⟩, ⟨#[108, 101, 110]⟩, ⟨#[103, 101, 116, 105, 110, 116]⟩, ⟨#[103, 101, 116, 115, 116, 114]⟩, ⟨#[104, 97, 115]⟩, ⟨#[110, 111, 119]⟩, ⟨#[114, 97, 110, 100, 111, 109]⟩, ⟨#[110, 111, 100, 101]⟩]
def kwV (s : ByteArray) : Bool := hasB kwL s
set_option maxRecDepth 100000 in
theorem rkeywords_den : PDen Try.prog 67 [] (.a (.slice 1 (kwL.map sRow))) := by
  refine den_of_body k_ref07_Keywords ⟨rfl, Nat.le_of_ble_eq_true rfl, thaw_intro ?_⟩
  unfold c_ref07_Keywords
  simp only [go_sem]
  simp only [aresult, ares, go_sem]
  rfl
set_option maxRecDepth 100000 in
theorem rkw_den (s : ByteArray) : PDen Try.prog 51 [.a (.str s)] (.a (.bool (kwV s))) := by
  refine den_of_body k_ref07_IsKeyword ⟨rfl, Nat.le_of_ble_eq_true rfl, thaw_intro ?_⟩
  unfold c_ref07_IsKeyword
  simp only [go_sem]
  refine t_call_intro (rkeywords_den) ?_
  simp only [go_sem]
  refine t_call_intro (rhasS_den kwL (by decide) s) ?_
  simp only [go_sem]
  simp only [aresult, ares, go_sem]
  rfl
theorem kw_iff (s : ByteArray) : kwV s = (((⟨#[112, 114, 111, 99]⟩ : ByteArray).toList == s.toList) || (((⟨#[108, 101, 116]⟩ : ByteArray).toList == s.toList) || (((⟨#[112, 117, 116]⟩ : ByteArray).toList == s.toList) || (((⟨#[100, 101, 108, 101, 116, 101]⟩ : ByteArray).toList == s.toList) || (((⟨#[105, 102]⟩ : ByteArray).toList == s.toList) || (((⟨#[101, 108, 115, 101]⟩ : ByteArray).toList == s.toList) || (((⟨#[102, 111, 114]⟩ : ByteArray).toList == s.toList) || (((⟨#[116, 111]⟩ : ByteArray).toList == s.toList) || (((⟨#[109, 97, 120]⟩ : ByteArray).toList == s.toList) || (((⟨#[101, 109, 105, 116]⟩ : ByteArray).toList == s.toList) || (((⟨#[97, 98, 111, 114, 116]⟩ : ByteArray).toList == s.toList) || (((⟨#[110, 111, 116]⟩ : ByteArray).toList == s.toList) || (((⟨#[97, 110, 100]⟩ : ByteArray).toList == s.toList) || (((⟨#[111, 114]⟩ : ByteArray).toList == s.toList) || (((⟨#[105, 110, 116]⟩ : ByteArray).toList == s.toList) || (((⟨#[115, 116, 114]⟩ : ByteArray).toList == s.toList) || (((⟨#[98, 111, 111, 108]⟩ : ByteArray).toList == s.toList) || (((⟨#[116, 101, 120, 116]⟩ : ByteArray).toList == s.toList) || (((⟨#[108, 101, 110]⟩ : ByteArray).toList == s.toList) || (((⟨#[103, 101, 116, 105, 110, 116]⟩ : ByteArray).toList == s.toList) || (((⟨#[103, 101, 116, 115, 116, 114]⟩ : ByteArray).toList == s.toList) || (((⟨#[104, 97, 115]⟩ : ByteArray).toList == s.toList) || (((⟨#[110, 111, 119]⟩ : ByteArray).toList == s.toList) || (((⟨#[114, 97, 110, 100, 111, 109]⟩ : ByteArray).toList == s.toList) || (((⟨#[110, 111, 100, 101]⟩ : ByteArray).toList == s.toList)))))))))))))))))))))))))) := by
  unfold kwV hasB kwL
  simp only [List.any_cons, List.any_nil, Bool.or_false]
set_option maxRecDepth 100000 in
set_option maxHeartbeats 4000000 in
theorem kw_den (s : ByteArray) : PDen Try.prog 61 [.a (.str s)] (.a (.bool (kwV s))) := by
  rw [kw_iff]
  refine den_of_body k_lexer_IsKeyword ⟨rfl, Nat.le_of_ble_eq_true rfl, thaw_intro ?_⟩
  unfold c_lexer_IsKeyword
  simp only [go_sem]
  first | refine t_case_dec (fun h0 => ?_) (fun h0 => ?_) | refine t_case_ndec (fun h0 => ?_) (fun h0 => ?_) | refine t_case_eqI (fun h0 => ?_) (fun h0 => ?_) | refine t_case_neI (fun h0 => ?_) (fun h0 => ?_) | refine t_case_not (fun h0 => ?_) (fun h0 => ?_) | refine t_case_intro (fun h0 => ?_) (fun h0 => ?_)
  · have g : ((⟨#[112, 114, 111, 99]⟩ : ByteArray).toList == s.toList) = true := by rw [Bool.beq_comm]; exact h0
    simp only [h0, go_sem]
    simp only [aresult, ares, go_sem]
    simp only [g, Bool.or_true, Bool.true_or]
  have g0 : ((⟨#[112, 114, 111, 99]⟩ : ByteArray).toList == s.toList) = false := by rw [Bool.beq_comm]; exact h0
  simp only [go_sem]
  first | refine t_case_dec (fun h1 => ?_) (fun h1 => ?_) | refine t_case_ndec (fun h1 => ?_) (fun h1 => ?_) | refine t_case_eqI (fun h1 => ?_) (fun h1 => ?_) | refine t_case_neI (fun h1 => ?_) (fun h1 => ?_) | refine t_case_not (fun h1 => ?_) (fun h1 => ?_) | refine t_case_intro (fun h1 => ?_) (fun h1 => ?_)
  · have g : ((⟨#[108, 101, 116]⟩ : ByteArray).toList == s.toList) = true := by rw [Bool.beq_comm]; exact h1
    simp only [h1, go_sem]
    simp only [aresult, ares, go_sem]
    simp only [g, Bool.or_true, Bool.true_or]
  have g1 : ((⟨#[108, 101, 116]⟩ : ByteArray).toList == s.toList) = false := by rw [Bool.beq_comm]; exact h1
  simp only [go_sem]
  first | refine t_case_dec (fun h2 => ?_) (fun h2 => ?_) | refine t_case_ndec (fun h2 => ?_) (fun h2 => ?_) | refine t_case_eqI (fun h2 => ?_) (fun h2 => ?_) | refine t_case_neI (fun h2 => ?_) (fun h2 => ?_) | refine t_case_not (fun h2 => ?_) (fun h2 => ?_) | refine t_case_intro (fun h2 => ?_) (fun h2 => ?_)
  · have g : ((⟨#[112, 117, 116]⟩ : ByteArray).toList == s.toList) = true := by rw [Bool.beq_comm]; exact h2
    simp only [h2, go_sem]
    simp only [aresult, ares, go_sem]
    simp only [g, Bool.or_true, Bool.true_or]
  have g2 : ((⟨#[112, 117, 116]⟩ : ByteArray).toList == s.toList) = false := by rw [Bool.beq_comm]; exact h2
  simp only [go_sem]
  first | refine t_case_dec (fun h3 => ?_) (fun h3 => ?_) | refine t_case_ndec (fun h3 => ?_) (fun h3 => ?_) | refine t_case_eqI (fun h3 => ?_) (fun h3 => ?_) | refine t_case_neI (fun h3 => ?_) (fun h3 => ?_) | refine t_case_not (fun h3 => ?_) (fun h3 => ?_) | refine t_case_intro (fun h3 => ?_) (fun h3 => ?_)
  · have g : ((⟨#[100, 101, 108, 101, 116, 101]⟩ : ByteArray).toList == s.toList) = true := by rw [Bool.beq_comm]; exact h3
    simp only [h3, go_sem]
    simp only [aresult, ares, go_sem]
    simp only [g, Bool.or_true, Bool.true_or]
  have g3 : ((⟨#[100, 101, 108, 101, 116, 101]⟩ : ByteArray).toList == s.toList) = false := by rw [Bool.beq_comm]; exact h3
  simp only [go_sem]
  first | refine t_case_dec (fun h4 => ?_) (fun h4 => ?_) | refine t_case_ndec (fun h4 => ?_) (fun h4 => ?_) | refine t_case_eqI (fun h4 => ?_) (fun h4 => ?_) | refine t_case_neI (fun h4 => ?_) (fun h4 => ?_) | refine t_case_not (fun h4 => ?_) (fun h4 => ?_) | refine t_case_intro (fun h4 => ?_) (fun h4 => ?_)
  · have g : ((⟨#[105, 102]⟩ : ByteArray).toList == s.toList) = true := by rw [Bool.beq_comm]; exact h4
    simp only [h4, go_sem]
    simp only [aresult, ares, go_sem]
    simp only [g, Bool.or_true, Bool.true_or]
  have g4 : ((⟨#[105, 102]⟩ : ByteArray).toList == s.toList) = false := by rw [Bool.beq_comm]; exact h4
  simp only [go_sem]
  first | refine t_case_dec (fun h5 => ?_) (fun h5 => ?_) | refine t_case_ndec (fun h5 => ?_) (fun h5 => ?_) | refine t_case_eqI (fun h5 => ?_) (fun h5 => ?_) | refine t_case_neI (fun h5 => ?_) (fun h5 => ?_) | refine t_case_not (fun h5 => ?_) (fun h5 => ?_) | refine t_case_intro (fun h5 => ?_) (fun h5 => ?_)
  · have g : ((⟨#[101, 108, 115, 101]⟩ : ByteArray).toList == s.toList) = true := by rw [Bool.beq_comm]; exact h5
    simp only [h5, go_sem]
    simp only [aresult, ares, go_sem]
    simp only [g, Bool.or_true, Bool.true_or]
  have g5 : ((⟨#[101, 108, 115, 101]⟩ : ByteArray).toList == s.toList) = false := by rw [Bool.beq_comm]; exact h5
  simp only [go_sem]
  first | refine t_case_dec (fun h6 => ?_) (fun h6 => ?_) | refine t_case_ndec (fun h6 => ?_) (fun h6 => ?_) | refine t_case_eqI (fun h6 => ?_) (fun h6 => ?_) | refine t_case_neI (fun h6 => ?_) (fun h6 => ?_) | refine t_case_not (fun h6 => ?_) (fun h6 => ?_) | refine t_case_intro (fun h6 => ?_) (fun h6 => ?_)
  · have g : ((⟨#[102, 111, 114]⟩ : ByteArray).toList == s.toList) = true := by rw [Bool.beq_comm]; exact h6
    simp only [h6, go_sem]
    simp only [aresult, ares, go_sem]
    simp only [g, Bool.or_true, Bool.true_or]
  have g6 : ((⟨#[102, 111, 114]⟩ : ByteArray).toList == s.toList) = false := by rw [Bool.beq_comm]; exact h6
  simp only [go_sem]
  first | refine t_case_dec (fun h7 => ?_) (fun h7 => ?_) | refine t_case_ndec (fun h7 => ?_) (fun h7 => ?_) | refine t_case_eqI (fun h7 => ?_) (fun h7 => ?_) | refine t_case_neI (fun h7 => ?_) (fun h7 => ?_) | refine t_case_not (fun h7 => ?_) (fun h7 => ?_) | refine t_case_intro (fun h7 => ?_) (fun h7 => ?_)
  · have g : ((⟨#[116, 111]⟩ : ByteArray).toList == s.toList) = true := by rw [Bool.beq_comm]; exact h7
    simp only [h7, go_sem]
    simp only [aresult, ares, go_sem]
    simp only [g, Bool.or_true, Bool.true_or]
  have g7 : ((⟨#[116, 111]⟩ : ByteArray).toList == s.toList) = false := by rw [Bool.beq_comm]; exact h7
  simp only [go_sem]
  first | refine t_case_dec (fun h8 => ?_) (fun h8 => ?_) | refine t_case_ndec (fun h8 => ?_) (fun h8 => ?_) | refine t_case_eqI (fun h8 => ?_) (fun h8 => ?_) | refine t_case_neI (fun h8 => ?_) (fun h8 => ?_) | refine t_case_not (fun h8 => ?_) (fun h8 => ?_) | refine t_case_intro (fun h8 => ?_) (fun h8 => ?_)
  · have g : ((⟨#[109, 97, 120]⟩ : ByteArray).toList == s.toList) = true := by rw [Bool.beq_comm]; exact h8
    simp only [h8, go_sem]
    simp only [aresult, ares, go_sem]
    simp only [g, Bool.or_true, Bool.true_or]
  have g8 : ((⟨#[109, 97, 120]⟩ : ByteArray).toList == s.toList) = false := by rw [Bool.beq_comm]; exact h8
  simp only [go_sem]
  first | refine t_case_dec (fun h9 => ?_) (fun h9 => ?_) | refine t_case_ndec (fun h9 => ?_) (fun h9 => ?_) | refine t_case_eqI (fun h9 => ?_) (fun h9 => ?_) | refine t_case_neI (fun h9 => ?_) (fun h9 => ?_) | refine t_case_not (fun h9 => ?_) (fun h9 => ?_) | refine t_case_intro (fun h9 => ?_) (fun h9 => ?_)
  · have g : ((⟨#[101, 109, 105, 116]⟩ : ByteArray).toList == s.toList) = true := by rw [Bool.beq_comm]; exact h9
    simp only [h9, go_sem]
    simp only [aresult, ares, go_sem]
    simp only [g, Bool.or_true, Bool.true_or]
  have g9 : ((⟨#[101, 109, 105, 116]⟩ : ByteArray).toList == s.toList) = false := by rw [Bool.beq_comm]; exact h9
  simp only [go_sem]
  first | refine t_case_dec (fun h10 => ?_) (fun h10 => ?_) | refine t_case_ndec (fun h10 => ?_) (fun h10 => ?_) | refine t_case_eqI (fun h10 => ?_) (fun h10 => ?_) | refine t_case_neI (fun h10 => ?_) (fun h10 => ?_) | refine t_case_not (fun h10 => ?_) (fun h10 => ?_) | refine t_case_intro (fun h10 => ?_) (fun h10 => ?_)
  · have g : ((⟨#[97, 98, 111, 114, 116]⟩ : ByteArray).toList == s.toList) = true := by rw [Bool.beq_comm]; exact h10
    simp only [h10, go_sem]
    simp only [aresult, ares, go_sem]
    simp only [g, Bool.or_true, Bool.true_or]
  have g10 : ((⟨#[97, 98, 111, 114, 116]⟩ : ByteArray).toList == s.toList) = false := by rw [Bool.beq_comm]; exact h10
  simp only [go_sem]
  first | refine t_case_dec (fun h11 => ?_) (fun h11 => ?_) | refine t_case_ndec (fun h11 => ?_) (fun h11 => ?_) | refine t_case_eqI (fun h11 => ?_) (fun h11 => ?_) | refine t_case_neI (fun h11 => ?_) (fun h11 => ?_) | refine t_case_not (fun h11 => ?_) (fun h11 => ?_) | refine t_case_intro (fun h11 => ?_) (fun h11 => ?_)
  · have g : ((⟨#[110, 111, 116]⟩ : ByteArray).toList == s.toList) = true := by rw [Bool.beq_comm]; exact h11
    simp only [h11, go_sem]
    simp only [aresult, ares, go_sem]
    simp only [g, Bool.or_true, Bool.true_or]
  have g11 : ((⟨#[110, 111, 116]⟩ : ByteArray).toList == s.toList) = false := by rw [Bool.beq_comm]; exact h11
  simp only [go_sem]
  first | refine t_case_dec (fun h12 => ?_) (fun h12 => ?_) | refine t_case_ndec (fun h12 => ?_) (fun h12 => ?_) | refine t_case_eqI (fun h12 => ?_) (fun h12 => ?_) | refine t_case_neI (fun h12 => ?_) (fun h12 => ?_) | refine t_case_not (fun h12 => ?_) (fun h12 => ?_) | refine t_case_intro (fun h12 => ?_) (fun h12 => ?_)
  · have g : ((⟨#[97, 110, 100]⟩ : ByteArray).toList == s.toList) = true := by rw [Bool.beq_comm]; exact h12
    simp only [h12, go_sem]
    simp only [aresult, ares, go_sem]
    simp only [g, Bool.or_true, Bool.true_or]
  have g12 : ((⟨#[97, 110, 100]⟩ : ByteArray).toList == s.toList) = false := by rw [Bool.beq_comm]; exact h12
  simp only [go_sem]
  first | refine t_case_dec (fun h13 => ?_) (fun h13 => ?_) | refine t_case_ndec (fun h13 => ?_) (fun h13 => ?_) | refine t_case_eqI (fun h13 => ?_) (fun h13 => ?_) | refine t_case_neI (fun h13 => ?_) (fun h13 => ?_) | refine t_case_not (fun h13 => ?_) (fun h13 => ?_) | refine t_case_intro (fun h13 => ?_) (fun h13 => ?_)
  · have g : ((⟨#[111, 114]⟩ : ByteArray).toList == s.toList) = true := by rw [Bool.beq_comm]; exact h13
    simp only [h13, go_sem]
    simp only [aresult, ares, go_sem]
    simp only [g, Bool.or_true, Bool.true_or]
  have g13 : ((⟨#[111, 114]⟩ : ByteArray).toList == s.toList) = false := by rw [Bool.beq_comm]; exact h13
  simp only [go_sem]
  first | refine t_case_dec (fun h14 => ?_) (fun h14 => ?_) | refine t_case_ndec (fun h14 => ?_) (fun h14 => ?_) | refine t_case_eqI (fun h14 => ?_) (fun h14 => ?_) | refine t_case_neI (fun h14 => ?_) (fun h14 => ?_) | refine t_case_not (fun h14 => ?_) (fun h14 => ?_) | refine t_case_intro (fun h14 => ?_) (fun h14 => ?_)
  · have g : ((⟨#[105, 110, 116]⟩ : ByteArray).toList == s.toList) = true := by rw [Bool.beq_comm]; exact h14
    simp only [h14, go_sem]
    simp only [aresult, ares, go_sem]
    simp only [g, Bool.or_true, Bool.true_or]
  have g14 : ((⟨#[105, 110, 116]⟩ : ByteArray).toList == s.toList) = false := by rw [Bool.beq_comm]; exact h14
  simp only [go_sem]
  first | refine t_case_dec (fun h15 => ?_) (fun h15 => ?_) | refine t_case_ndec (fun h15 => ?_) (fun h15 => ?_) | refine t_case_eqI (fun h15 => ?_) (fun h15 => ?_) | refine t_case_neI (fun h15 => ?_) (fun h15 => ?_) | refine t_case_not (fun h15 => ?_) (fun h15 => ?_) | refine t_case_intro (fun h15 => ?_) (fun h15 => ?_)
  · have g : ((⟨#[115, 116, 114]⟩ : ByteArray).toList == s.toList) = true := by rw [Bool.beq_comm]; exact h15
    simp only [h15, go_sem]
    simp only [aresult, ares, go_sem]
    simp only [g, Bool.or_true, Bool.true_or]
  have g15 : ((⟨#[115, 116, 114]⟩ : ByteArray).toList == s.toList) = false := by rw [Bool.beq_comm]; exact h15
  simp only [go_sem]
  first | refine t_case_dec (fun h16 => ?_) (fun h16 => ?_) | refine t_case_ndec (fun h16 => ?_) (fun h16 => ?_) | refine t_case_eqI (fun h16 => ?_) (fun h16 => ?_) | refine t_case_neI (fun h16 => ?_) (fun h16 => ?_) | refine t_case_not (fun h16 => ?_) (fun h16 => ?_) | refine t_case_intro (fun h16 => ?_) (fun h16 => ?_)
  · have g : ((⟨#[98, 111, 111, 108]⟩ : ByteArray).toList == s.toList) = true := by rw [Bool.beq_comm]; exact h16
    simp only [h16, go_sem]
    simp only [aresult, ares, go_sem]
    simp only [g, Bool.or_true, Bool.true_or]
  have g16 : ((⟨#[98, 111, 111, 108]⟩ : ByteArray).toList == s.toList) = false := by rw [Bool.beq_comm]; exact h16
  simp only [go_sem]
  first | refine t_case_dec (fun h17 => ?_) (fun h17 => ?_) | refine t_case_ndec (fun h17 => ?_) (fun h17 => ?_) | refine t_case_eqI (fun h17 => ?_) (fun h17 => ?_) | refine t_case_neI (fun h17 => ?_) (fun h17 => ?_) | refine t_case_not (fun h17 => ?_) (fun h17 => ?_) | refine t_case_intro (fun h17 => ?_) (fun h17 => ?_)
  · have g : ((⟨#[116, 101, 120, 116]⟩ : ByteArray).toList == s.toList) = true := by rw [Bool.beq_comm]; exact h17
    simp only [h17, go_sem]
    simp only [aresult, ares, go_sem]
    simp only [g, Bool.or_true, Bool.true_or]
  have g17 : ((⟨#[116, 101, 120, 116]⟩ : ByteArray).toList == s.toList) = false := by rw [Bool.beq_comm]; exact h17
  simp only [go_sem]
  first | refine t_case_dec (fun h18 => ?_) (fun h18 => ?_) | refine t_case_ndec (fun h18 => ?_) (fun h18 => ?_) | refine t_case_eqI (fun h18 => ?_) (fun h18 => ?_) | refine t_case_neI (fun h18 => ?_) (fun h18 => ?_) | refine t_case_not (fun h18 => ?_) (fun h18 => ?_) | refine t_case_intro (fun h18 => ?_) (fun h18 => ?_)
  · have g : ((⟨#[108, 101, 110]⟩ : ByteArray).toList == s.toList) = true := by rw [Bool.beq_comm]; exact h18
    simp only [h18, go_sem]
    simp only [aresult, ares, go_sem]
    simp only [g, Bool.or_true, Bool.true_or]
  have g18 : ((⟨#[108, 101, 110]⟩ : ByteArray).toList == s.toList) = false := by rw [Bool.beq_comm]; exact h18
  simp only [go_sem]
  first | refine t_case_dec (fun h19 => ?_) (fun h19 => ?_) | refine t_case_ndec (fun h19 => ?_) (fun h19 => ?_) | refine t_case_eqI (fun h19 => ?_) (fun h19 => ?_) | refine t_case_neI (fun h19 => ?_) (fun h19 => ?_) | refine t_case_not (fun h19 => ?_) (fun h19 => ?_) | refine t_case_intro (fun h19 => ?_) (fun h19 => ?_)
  · have g : ((⟨#[103, 101, 116, 105, 110, 116]⟩ : ByteArray).toList == s.toList) = true := by rw [Bool.beq_comm]; exact h19
    simp only [h19, go_sem]
    simp only [aresult, ares, go_sem]
    simp only [g, Bool.or_true, Bool.true_or]
  have g19 : ((⟨#[103, 101, 116, 105, 110, 116]⟩ : ByteArray).toList == s.toList) = false := by rw [Bool.beq_comm]; exact h19
  simp only [go_sem]
  first | refine t_case_dec (fun h20 => ?_) (fun h20 => ?_) | refine t_case_ndec (fun h20 => ?_) (fun h20 => ?_) | refine t_case_eqI (fun h20 => ?_) (fun h20 => ?_) | refine t_case_neI (fun h20 => ?_) (fun h20 => ?_) | refine t_case_not (fun h20 => ?_) (fun h20 => ?_) | refine t_case_intro (fun h20 => ?_) (fun h20 => ?_)
  · have g : ((⟨#[103, 101, 116, 115, 116, 114]⟩ : ByteArray).toList == s.toList) = true := by rw [Bool.beq_comm]; exact h20
    simp only [h20, go_sem]
    simp only [aresult, ares, go_sem]
    simp only [g, Bool.or_true, Bool.true_or]
  have g20 : ((⟨#[103, 101, 116, 115, 116, 114]⟩ : ByteArray).toList == s.toList) = false := by rw [Bool.beq_comm]; exact h20
  simp only [go_sem]
  first | refine t_case_dec (fun h21 => ?_) (fun h21 => ?_) | refine t_case_ndec (fun h21 => ?_) (fun h21 => ?_) | refine t_case_eqI (fun h21 => ?_) (fun h21 => ?_) | refine t_case_neI (fun h21 => ?_) (fun h21 => ?_) | refine t_case_not (fun h21 => ?_) (fun h21 => ?_) | refine t_case_intro (fun h21 => ?_) (fun h21 => ?_)
  · have g : ((⟨#[104, 97, 115]⟩ : ByteArray).toList == s.toList) = true := by rw [Bool.beq_comm]; exact h21
    simp only [h21, go_sem]
    simp only [aresult, ares, go_sem]
    simp only [g, Bool.or_true, Bool.true_or]
  have g21 : ((⟨#[104, 97, 115]⟩ : ByteArray).toList == s.toList) = false := by rw [Bool.beq_comm]; exact h21
  simp only [go_sem]
  first | refine t_case_dec (fun h22 => ?_) (fun h22 => ?_) | refine t_case_ndec (fun h22 => ?_) (fun h22 => ?_) | refine t_case_eqI (fun h22 => ?_) (fun h22 => ?_) | refine t_case_neI (fun h22 => ?_) (fun h22 => ?_) | refine t_case_not (fun h22 => ?_) (fun h22 => ?_) | refine t_case_intro (fun h22 => ?_) (fun h22 => ?_)
  · have g : ((⟨#[110, 111, 119]⟩ : ByteArray).toList == s.toList) = true := by rw [Bool.beq_comm]; exact h22
    simp only [h22, go_sem]
    simp only [aresult, ares, go_sem]
    simp only [g, Bool.or_true, Bool.true_or]
  have g22 : ((⟨#[110, 111, 119]⟩ : ByteArray).toList == s.toList) = false := by rw [Bool.beq_comm]; exact h22
  simp only [go_sem]
  first | refine t_case_dec (fun h23 => ?_) (fun h23 => ?_) | refine t_case_ndec (fun h23 => ?_) (fun h23 => ?_) | refine t_case_eqI (fun h23 => ?_) (fun h23 => ?_) | refine t_case_neI (fun h23 => ?_) (fun h23 => ?_) | refine t_case_not (fun h23 => ?_) (fun h23 => ?_) | refine t_case_intro (fun h23 => ?_) (fun h23 => ?_)
  · have g : ((⟨#[114, 97, 110, 100, 111, 109]⟩ : ByteArray).toList == s.toList) = true := by rw [Bool.beq_comm]; exact h23
    simp only [h23, go_sem]
    simp only [aresult, ares, go_sem]
    simp only [g, Bool.or_true, Bool.true_or]
  have g23 : ((⟨#[114, 97, 110, 100, 111, 109]⟩ : ByteArray).toList == s.toList) = false := by rw [Bool.beq_comm]; exact h23
  simp only [go_sem]
  first | refine t_case_dec (fun h24 => ?_) (fun h24 => ?_) | refine t_case_ndec (fun h24 => ?_) (fun h24 => ?_) | refine t_case_eqI (fun h24 => ?_) (fun h24 => ?_) | refine t_case_neI (fun h24 => ?_) (fun h24 => ?_) | refine t_case_not (fun h24 => ?_) (fun h24 => ?_) | refine t_case_intro (fun h24 => ?_) (fun h24 => ?_)
  · have g : ((⟨#[110, 111, 100, 101]⟩ : ByteArray).toList == s.toList) = true := by rw [Bool.beq_comm]; exact h24
    simp only [h24, go_sem]
    simp only [aresult, ares, go_sem]
    simp only [g, Bool.or_true, Bool.true_or]
  have g24 : ((⟨#[110, 111, 100, 101]⟩ : ByteArray).toList == s.toList) = false := by rw [Bool.beq_comm]; exact h24
  simp only [h24, go_sem]
  simp only [aresult, ares, go_sem]
  simp only [g0, g1, g2, g3, g4, g5, g6, g7, g8, g9, g10, g11, g12, g13, g14, g15, g16, g17, g18, g19, g20, g21, g22, g23, g24, Bool.or_false]
def nameV (s : ByteArray) : Bool := match s.data.toList with
  | [] => false
  | c :: l => decide (s.size ≤ 16) && letterB c && (c :: l).all partB && !kwV s
theorem word_all : ∀ l : List UInt8, wordN l ≤ l.length ∧ (wordN l = l.length ↔ l.all partB = true)
  | [] => by simp [wordN]
  | c :: l => by
    have ih := word_all l
    cases h : partB c with
    | true =>
      rw [wordN_yes c l h, List.all_cons, h, Bool.true_and, List.length_cons]
      exact ⟨by omega, by rw [← ih.2]; omega⟩
    | false => rw [wordN_no c l h]; simp [h]
theorem i32_byte (c : UInt8) : IntKind.i32.wrap (c.toNat : Int) = (c.toNat : Int) := by
  have := c.toNat_lt
  rw [IntKind.wrap_i32]; omega
set_option maxRecDepth 100000 in
set_option maxHeartbeats 1000000 in
theorem name_den (s : ByteArray) (hs : s.size ≤ 9223372036854775807) : PDen Try.prog 38 [.a (.str s)] (.a (.bool (nameV s))) := by
  have hsz := dsize s
  have ht : s.toList = s.data.toList := ByteArray.toList_eq s
  cases hl : s.data.toList with
  | nil =>
    have n1 : (s.toList == []) = true := by rw [ht, hl]; rfl
    have n2 : ¬ (1 : Int) ≤ (s.size : Int) := by rw [hl] at hsz; simp at hsz; omega
    have hr : nameV s = false := by unfold nameV; rw [hl]
    rw [hr]
    refine den_of_body k_lexer_IsName ⟨rfl, Nat.le_of_ble_eq_true rfl, thaw_intro ?_⟩
    unfold c_lexer_IsName
    simp only [toList_nil, n1, n2, go_sem]
    simp only [aresult, ares, go_sem]
  | cons c l =>
    have n1 : (s.toList == []) = false := by rw [ht, hl]; rfl
    have hpos : 0 < s.size := by rw [hl] at hsz; simp at hsz; omega
    have n2 : (1 : Int) ≤ (s.size : Int) := by omega
    have n3 : (0 : Int) < (s.size : Int) := by omega
    have hr : nameV s = (decide (s.size ≤ 16) && letterB c && (c :: l).all partB && !kwV s) := by unfold nameV; rw [hl]
    have e : (s.data.toList.getD (0 : Int).toNat 0) = c := by rw [hl]; rfl
    have e' : (s.data.toList.getD 0 0) = c := by rw [hl]; rfl
    rw [hr]
    by_cases h16 : s.size ≤ 16
    · have n4 : (s.size : Int) ≤ 16 := by omega
      have ewc := i32_byte c
      have hL := letter_den (c.toNat : Int)
      cases hc : letterB c with
      | false =>
        rw [show (decide (97 ≤ (c.toNat : Int)) && decide ((c.toNat : Int) ≤ 122)) = false from hc] at hL
        refine den_of_body k_lexer_IsName ⟨rfl, Nat.le_of_ble_eq_true rfl, thaw_intro ?_⟩
        unfold c_lexer_IsName
        simp only [toList_nil, n1, n2, n3, n4, e, e', hl, List.getD_cons_zero, ewc, go_sem]
        refine t_call_intro (hL) ?_
        simp only [go_sem]
        simp only [aresult, ares, go_sem]
        simp
      | true =>
        rw [show (decide (97 ≤ (c.toNat : Int)) && decide ((c.toNat : Int) ≤ 122)) = true from hc] at hL
        obtain ⟨w1, w2⟩ := word_all (c :: l)
        have hW := word_den s hs
        rw [hl] at hW hsz
        cases hp : (c :: l).all partB with
        | false =>
          rw [hp] at w2
          have q : ((wordN (c :: l) : Int) == (s.size : Int)) = false := by
            rw [beq_eq_false_iff_ne]; intro hh
            have := w2.1 (by omega)
            cases this
          refine den_of_body k_lexer_IsName ⟨rfl, Nat.le_of_ble_eq_true rfl, thaw_intro ?_⟩
          unfold c_lexer_IsName
          simp only [toList_nil, n1, n2, n3, n4, e, e', hl, List.getD_cons_zero, ewc, go_sem]
          refine t_call_intro (hL) ?_
          simp only [go_sem]
          refine t_call_intro (hW) ?_
          simp only [q, go_sem]
          simp only [aresult, ares, go_sem]
          simp
        | true =>
          have q : ((wordN (c :: l) : Int) == (s.size : Int)) = true := by
            rw [beq_iff_eq]; have := w2.2 hp; omega
          refine den_of_body k_lexer_IsName ⟨rfl, Nat.le_of_ble_eq_true rfl, thaw_intro ?_⟩
          unfold c_lexer_IsName
          simp only [toList_nil, n1, n2, n3, n4, e, e', hl, List.getD_cons_zero, ewc, go_sem]
          refine t_call_intro (hL) ?_
          simp only [go_sem]
          refine t_call_intro (hW) ?_
          simp only [q, go_sem]
          refine t_call_intro (kw_den s) ?_
          simp only [go_sem]
          simp only [aresult, ares, go_sem]
          simp [h16]
    · have n4 : ¬ (s.size : Int) ≤ 16 := by omega
      refine den_of_body k_lexer_IsName ⟨rfl, Nat.le_of_ble_eq_true rfl, thaw_intro ?_⟩
      unfold c_lexer_IsName
      simp only [toList_nil, n1, n2, n3, n4, go_sem]
      simp only [aresult, ares, go_sem]
      simp [h16]
set_option maxRecDepth 100000 in
set_option maxHeartbeats 1000000 in
theorem rname_den (s : ByteArray) (hs : s.size ≤ 9223372036854775807) : PDen Try.prog 26 [.a (.str s)] (.a (.bool (nameV s))) := by
  have hsz := dsize s
  have ht : s.toList = s.data.toList := ByteArray.toList_eq s
  cases hl : s.data.toList with
  | nil =>
    have n1 : (s.toList == []) = true := by rw [ht, hl]; rfl
    have n2 : ¬ (1 : Int) ≤ (s.size : Int) := by rw [hl] at hsz; simp at hsz; omega
    have hr : nameV s = false := by unfold nameV; rw [hl]
    rw [hr]
    refine den_of_body k_ref07_IsName ⟨rfl, Nat.le_of_ble_eq_true rfl, thaw_intro ?_⟩
    unfold c_ref07_IsName
    simp only [toList_nil, n1, n2, go_sem]
    simp only [aresult, ares, go_sem]
  | cons c l =>
    have n1 : (s.toList == []) = false := by rw [ht, hl]; rfl
    have hpos : 0 < s.size := by rw [hl] at hsz; simp at hsz; omega
    have n2 : (1 : Int) ≤ (s.size : Int) := by omega
    have n3 : (0 : Int) < (s.size : Int) := by omega
    have hr : nameV s = (decide (s.size ≤ 16) && letterB c && (c :: l).all partB && !kwV s) := by unfold nameV; rw [hl]
    have e : (s.data.toList.getD (0 : Int).toNat 0) = c := by rw [hl]; rfl
    have e' : (s.data.toList.getD 0 0) = c := by rw [hl]; rfl
    rw [hr]
    by_cases h16 : s.size ≤ 16
    · have n4 : (s.size : Int) ≤ 16 := by omega
      have ewc := i32_byte c
      have hL := rletter_den c
      cases hc : letterB c with
      | false =>
        rw [hc] at hL
        refine den_of_body k_ref07_IsName ⟨rfl, Nat.le_of_ble_eq_true rfl, thaw_intro ?_⟩
        unfold c_ref07_IsName
        simp only [toList_nil, n1, n2, n3, n4, e, e', hl, List.getD_cons_zero, ewc, go_sem]
        refine t_call_intro (hL) ?_
        simp only [go_sem]
        simp only [aresult, ares, go_sem]
        simp
      | true =>
        rw [hc] at hL
        obtain ⟨w1, w2⟩ := word_all (c :: l)
        have hW := rword_den s hs
        rw [hl] at hW hsz
        cases hp : (c :: l).all partB with
        | false =>
          rw [hp] at w2
          have q : ((wordN (c :: l) : Int) == (s.size : Int)) = false := by
            rw [beq_eq_false_iff_ne]; intro hh
            have := w2.1 (by omega)
            cases this
          refine den_of_body k_ref07_IsName ⟨rfl, Nat.le_of_ble_eq_true rfl, thaw_intro ?_⟩
          unfold c_ref07_IsName
          simp only [toList_nil, n1, n2, n3, n4, e, e', hl, List.getD_cons_zero, ewc, go_sem]
          refine t_call_intro (hL) ?_
          simp only [go_sem]
          refine t_call_intro (hW) ?_
          simp only [q, go_sem]
          simp only [aresult, ares, go_sem]
          simp
        | true =>
          have q : ((wordN (c :: l) : Int) == (s.size : Int)) = true := by
            rw [beq_iff_eq]; have := w2.2 hp; omega
          refine den_of_body k_ref07_IsName ⟨rfl, Nat.le_of_ble_eq_true rfl, thaw_intro ?_⟩
          unfold c_ref07_IsName
          simp only [toList_nil, n1, n2, n3, n4, e, e', hl, List.getD_cons_zero, ewc, go_sem]
          refine t_call_intro (hL) ?_
          simp only [go_sem]
          refine t_call_intro (hW) ?_
          simp only [q, go_sem]
          refine t_call_intro (rkw_den s) ?_
          simp only [go_sem]
          simp only [aresult, ares, go_sem]
          simp [h16]
    · have n4 : ¬ (s.size : Int) ≤ 16 := by omega
      refine den_of_body k_ref07_IsName ⟨rfl, Nat.le_of_ble_eq_true rfl, thaw_intro ?_⟩
      unfold c_ref07_IsName
      simp only [toList_nil, n1, n2, n3, n4, go_sem]
      simp only [aresult, ares, go_sem]
      simp [h16]
end Go.Proofs.Ytemeiopghbpamaa
