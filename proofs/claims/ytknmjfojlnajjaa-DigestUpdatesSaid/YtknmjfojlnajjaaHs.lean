/- Hashes of strings: the package checksum and its reference. -/
import Derived.Test.YtknmjfojlnajjaaCodc
import Derived.Test.YtknmjfojlnajjaaSa
set_option linter.unusedSimpArgs false
set_option linter.unusedVariables false
namespace Go.Proofs.Ytknmjfojlnajjaa
open Go Ab
set_option maxRecDepth 100000
attribute [local irreducible] awp aops aop asoft aeff aloop acall acallI acallT

def stepH (h : Int) (b : UInt8) : Int := IntKind.u64.wrap (IntKind.u64.wrap ((BitVec.ofInt 64 h ^^^ BitVec.ofInt 64 (IntKind.u64.wrap (b.toNat : Int))).toNat : Int) * 1099511628211)
def extH (h : Int) (l : List UInt8) : Int := l.foldl stepH h
@[simp] theorem extH_nil (h : Int) : extH h [] = h := rfl
theorem extH_step (h : Int) (l : List UInt8) (k : Nat) (hk : k < l.length) : stepH (extH h (l.take k)) l[k] = extH h (l.take (k + 1)) := by
  unfold extH
  rw [List.take_succ_eq_append_getElem hk, List.foldl_append]; rfl
theorem stepH_in (h : Int) (b : UInt8) : 0 ≤ stepH h b ∧ stepH h b < 18446744073709551616 := by
  unfold stepH
  rw [IntKind.wrap_u64]; omega
theorem extH_in (l : List UInt8) : ∀ (h : Int), 0 ≤ h → h < 18446744073709551616 → 0 ≤ extH h l ∧ extH h l < 18446744073709551616 := by
  induction l with
  | nil => intro h h0 h1; exact ⟨h0, h1⟩
  | cons b l ih => intro h _ _; exact ih (stepH h b) (stepH_in h b).1 (stepH_in h b).2
def bt (u k : Nat) : UInt8 := UInt8.ofNat (u / 256 ^ k % 256)
theorem bt_nat (u k : Nat) : ((bt u k).toNat : Int) = ((u / 256 ^ k % 256 : Nat) : Int) := by
  unfold bt
  rw [UInt8.toNat_ofNat']
  congr 1
  omega
def lit (u n : Nat) : List UInt8 := (List.range n).map (bt u)
theorem lit_len (u n : Nat) : (lit u n).length = n := by simp [lit]
theorem lit_zero (u : Nat) : lit u 0 = [] := rfl
theorem lit_succ (u n : Nat) : lit u (n + 1) = lit u n ++ [bt u n] := by
  unfold lit; rw [List.range_succ, List.map_append]; rfl
def litR (u n k : Nat) : List UInt8 := lit u k ++ List.replicate (n - k) 0
theorem litR_zero (u n : Nat) : List.replicate n [Atom.int .u8 0] = byteRows (litR u n 0) := by
  simp [litR, lit_zero, byteRows]
theorem litR_len (u n k : Nat) (h : k ≤ n) : (byteRows (litR u n k)).length = n := by
  simp [litR, byteRows, lit_len]; omega
theorem litR_get (u n k : Nat) (h : k < n) : (byteRows (litR u n k)).getD k [] = [.int .u8 0] := by
  unfold byteRows litR
  rw [List.getD_eq_getElem?_getD, List.getElem?_map, List.getElem?_append_right (by rw [lit_len]; omega), lit_len, List.getElem?_replicate, if_pos (by omega)]
  rfl
theorem litR_set (u n k : Nat) (h : k < n) : (byteRows (litR u n k)).set k [.int .u8 ((bt u k).toNat : Int)] = byteRows (litR u n (k + 1)) := by
  unfold byteRows litR
  have e2 : n - k = (n - (k + 1)) + 1 := by omega
  rw [List.map_append, List.set_append_right _ _ (by simp [lit_len]), e2, List.replicate_succ, List.map_cons, lit_succ]
  simp [lit_len]
theorem litR_all (u n : Nat) : litR u n n = lit u n := by simp [litR]
theorem fdiv_pow (u k : Nat) : Int.fdiv (u : Int) (2 ^ (8 * k)) = ((u / 256 ^ k : Nat) : Int) := by
  rw [Int.fdiv_eq_ediv_of_nonneg _ (by exact Int.le_of_lt (Int.pow_pos (by decide)))]
  have : (2 : Int) ^ (8 * k) = ((256 ^ k : Nat) : Int) := by
    rw [Int.pow_mul]; push_cast; rfl
  rw [this]; rfl
theorem wrap_bt (u k : Nat) : IntKind.u8.wrap ((u / 256 ^ k : Nat) : Int) = ((bt u k).toNat : Int) := by
  rw [bt_nat]
  generalize u / 256 ^ k = q
  rw [IntKind.wrap_u8]; omega
set_option maxHeartbeats 1000000 in
theorem ext_den (h : Int) (s : ByteArray) (hs : s.size ≤ 9223372036854775807) : PDen Try.prog 31 [.a (.int .u64 h), .a (.str s)] (.a (.int .u64 (extH h s.data.toList))) := by
  refine den_of_body k_checksum_Extend ⟨rfl, Nat.le_of_ble_eq_true rfl, thaw_intro ?_⟩
  unfold c_checksum_Extend
  simp only [go_sem]
  have hsz := dsize s
  refine t_loop_intro (fun k : Nat => k ≤ s.size) (fun k => s.size - k) 0 [0, 5, 8, 9, 10, 11, 12, 13, 14, 15, 16, 17, 18] (fun k => [(0, .a (.int .u64 (extH h (s.data.toList.take k)))), (8, .a (.int .i64 k))]) (by omega) (by simp) (fun k => by simp) rfl ?_
  intro k hk fr_ hfr
  simp only [go_sem] at hfr
  subst hfr
  by_cases hlt : k < s.size
  · have h1 : (k : Int) < (s.size : Int) := by omega
    have ew := wrap1 k s.size hlt hs
    have hlt' : k < s.data.toList.length := by omega
    have e := getD_get s.data.toList 0 k hlt'
    have es := extH_step h s.data.toList k hlt'
    unfold stepH at es
    simp only [h1, e, ew, go_sem]
    refine t_round (k + 1) (by omega) (by omega) (by simp; simp at es; exact es) rfl rfl (by simp) rfl
  · have h1 : ¬ (k : Int) < (s.size : Int) := by omega
    have ek : s.data.toList.take k = s.data.toList := List.take_of_length_le (by omega)
    simp only [h1, ek, go_sem]
    simp only [aresult, ares, go_sem]
set_option maxHeartbeats 1000000 in
theorem rext_den (h : Int) (s : ByteArray) (hs : s.size ≤ 9223372036854775807) : PDen Try.prog 54 [.a (.int .u64 h), .a (.str s)] (.a (.int .u64 (extH h s.data.toList))) := by
  refine den_of_body k_ref03_Extend ⟨rfl, Nat.le_of_ble_eq_true rfl, thaw_intro ?_⟩
  unfold c_ref03_Extend
  simp only [go_sem]
  have hsz := dsize s
  refine t_loop_intro (fun k : Nat => k ≤ s.size) (fun k => s.size - k) 0 [0, 5, 6, 7, 8, 9, 10, 11, 12, 13, 14, 15, 16, 17, 18] (fun k => [(0, .a (.int .u64 (extH h (s.data.toList.take k)))), (5, .a (.int .i64 k))]) (by omega) (by simp) (fun k => by simp) rfl ?_
  intro k hk fr_ hfr
  simp only [go_sem] at hfr
  subst hfr
  by_cases hlt : k < s.size
  · have h1 : (k : Int) < (s.size : Int) := by omega
    have ew := wrap1 k s.size hlt hs
    have hlt' : k < s.data.toList.length := by omega
    have e := getD_get s.data.toList 0 k hlt'
    have es := extH_step h s.data.toList k hlt'
    unfold stepH at es
    simp only [h1, e, ew, go_sem]
    refine t_round (k + 1) (by omega) (by omega) (by simp; simp at es; exact es) rfl rfl (by simp) rfl
  · have h1 : ¬ (k : Int) < (s.size : Int) := by omega
    have ek : s.data.toList.take k = s.data.toList := List.take_of_length_le (by omega)
    simp only [h1, ek, go_sem]
    simp only [aresult, ares, go_sem]
def litB (u n : Nat) : ByteArray := ⟨(lit u n).toArray⟩
theorem litB_size (u n : Nat) : (litB u n).size = n := by simp [litB, ByteArray.size, lit_len]
theorem litB_list (u n : Nat) : (litB u n).data.toList = lit u n := by simp [litB]
theorem litB_succ (u n : Nat) : litB u n ++ (⟨[bt u n].toArray⟩ : ByteArray) = litB u (n + 1) := by
  unfold litB
  apply ByteArray.ext
  rw [lit_succ]
  simp
set_option maxHeartbeats 1000000 in
theorem little_den (u n : Nat) (hn : n ≤ 8) : PDen Try.prog 59 [.a (.int .u64 u), .a (.int .i64 n)] (.a (.str (litB u n))) := by
  refine den_of_body k_checksum_little ⟨rfl, Nat.le_of_ble_eq_true rfl, thaw_intro ?_⟩
  unfold c_checksum_little
  simp only [go_sem]
  refine t_gate_intro (by simp; omega) ?_
  simp only [go_sem]
  have hz := litR_zero u n
  refine t_loopO_intro [] (fun k : Nat => k ≤ n) (fun k => n - k) 0 [6, 10, 11, 12, 13, 14, 15, 16, 17, 18, 19, 20, 21] (fun k => [(10, .a (.int .i64 k))]) (fun k => []) (fun k => [⟨5, 1, byteRows (litR u n k), true⟩]) (by omega) (by simp) (by first | (simp; done) | simp [hz]) (by first | (simp; done) | simp [hz]) (by first | (simp; done) | simp [hz]) (fun k => by first | (simp; done) | simp [hz]) (fun k => by first | (simp; done) | simp [hz]) (fun k => by first | (simp; done) | simp [hz]) ?_
  intro k hk st_ hst
  simp only [go_sem] at hst
  subst hst
  by_cases hlt : k < n
  · have h1 : (k : Int) < (n : Int) := by omega
    have ew := wrap1 k n hlt (by omega)
    have e8 : IntKind.i64.wrap (8 * (k : Int)) = ((8 * k : Nat) : Int) := by rw [IntKind.wrap_i64]; omega
    have eb : Min.min (8 * k) 64 = 8 * k := Nat.min_eq_left (by omega)
    have ef := fdiv_pow u k
    have ev := wrap_bt u k
    have e2 := litR_len u n k hk
    have e3 := litR_get u n k hlt
    have e4 := litR_set u n k hlt
    simp only [h1, e8, eb, ef, ev, e2, e3, e4, ew, hlt, go_sem]
    refine t_roundO (k + 1) (by omega) (by omega) (by simp) (by simp) (by simp) (by simp) (by simp)
  · have h1 : ¬ (k : Int) < (n : Int) := by omega
    have ek : k = n := by omega
    subst ek
    have ea := litR_all u k
    simp only [h1, ea, go_sem]
    refine t_bytes_intro ?_
    simp only [go_sem]
    simp only [aresult, ares, go_sem]
    rfl
theorem ne256 : ((256 : Int) ≠ 0) = True := by simp
theorem tmod_bt (u k : Nat) : IntKind.u8.wrap (Int.tmod ((u / 256 ^ k : Nat) : Int) 256) = ((bt u k).toNat : Int) := by
  rw [bt_nat]
  generalize u / 256 ^ k = q
  rw [IntKind.wrap_u8, Int.tmod_eq_emod_of_nonneg (by omega)]; omega
theorem tdiv_next (u k : Nat) (hu : u < 18446744073709551616) : IntKind.u64.wrap (Int.tdiv ((u / 256 ^ k : Nat) : Int) 256) = ((u / 256 ^ (k + 1) : Nat) : Int) := by
  have e : u / 256 ^ (k + 1) = u / 256 ^ k / 256 := by rw [Nat.pow_succ, Nat.div_div_eq_div_mul]
  have h : u / 256 ^ k ≤ u := Nat.div_le_self _ _
  rw [e]
  generalize u / 256 ^ k = q at h ⊢
  rw [IntKind.wrap_u64, Int.tdiv_eq_ediv_of_nonneg (by omega)]
  omega
theorem t_bytes1 {b : UInt8} {kb : List UInt8 → Prop} (h : thaw (kb [b])) : thaw (onBytes [[.int .u8 (b.toNat : Int)]] kb) := t_bytes_intro (l := [b]) h
set_option maxHeartbeats 1000000 in
theorem rlittle_den (u n : Nat) (hu : u < 18446744073709551616) (hn : n ≤ 8) : PDen Try.prog 63 [.a (.int .u64 u), .a (.int .i64 n)] (.a (.str (litB u n))) := by
  refine den_of_body k_ref03_little ⟨rfl, Nat.le_of_ble_eq_true rfl, thaw_intro ?_⟩
  unfold c_ref03_little
  simp only [go_sem]
  have z0 : (⟨#[]⟩ : ByteArray) = litB u 0 := rfl
  refine t_loop_intro (fun k : Nat => k ≤ n) (fun k => n - k) 0 [0, 5, 6, 7, 8, 9, 10, 11, 12, 13, 14, 15, 16, 17, 18, 19, 20] (fun k => [(0, .a (.int .u64 ((u / 256 ^ k : Nat) : Int))), (5, .a (.str (litB u k))), (6, .a (.int .i64 k))]) (by omega) (by first | (simp; done) | simp [z0]) (fun k => by simp) rfl ?_
  intro k hk fr_ hfr
  simp only [go_sem] at hfr
  subst hfr
  by_cases hlt : k < n
  · have h1 : (k : Int) < (n : Int) := by omega
    have ew := wrap1 k n hlt (by omega)
    have et := tmod_bt u k
    have ed := tdiv_next u k hu
    simp only [h1, ne256, et, ed, ew, go_sem]
    refine t_bytes1 ?_
    simp only [go_sem]
    refine t_gate_intro (by rw [litB_size]; show k + 1 ≤ _; omega) ?_
    have ec := litB_succ u k
    simp only [ec, ne256, ed, ew, go_sem]
    refine t_round (k + 1) (by omega) (by omega) (by simp) rfl rfl (by simp) rfl
  · have h1 : ¬ (k : Int) < (n : Int) := by omega
    have ek : k = n := by omega
    subst ek
    simp only [h1, go_sem]
    simp only [aresult, ares, go_sem]
def bas : Int := 14695981039346656037
def fnvH (s : ByteArray) : Int := extH 14695981039346656037 s.data.toList
theorem fnvH_nat (s : ByteArray) : ∃ m : Nat, fnvH s = (m : Int) ∧ m < 18446744073709551616 := by
  have := extH_in s.data.toList 14695981039346656037 (by decide) (by decide)
  exact ⟨(fnvH s).toNat, by unfold fnvH; omega, by unfold fnvH; omega⟩
theorem fnv_den (s : ByteArray) (hs : s.size ≤ 9223372036854775807) : PDen Try.prog 30 [.a (.str s)] (.a (.int .u64 (fnvH s))) := by
  refine den_of_body k_checksum_FNV ⟨rfl, Nat.le_of_ble_eq_true rfl, thaw_intro ?_⟩
  unfold c_checksum_FNV
  simp only [go_sem]
  refine t_call_intro (ext_den _ s hs) ?_
  simp only [go_sem]
  simp only [aresult, ares, go_sem]
  rfl
theorem rfnv_den (s : ByteArray) (hs : s.size ≤ 9223372036854775807) : PDen Try.prog 34 [.a (.str s)] (.a (.int .u64 (fnvH s))) := by
  refine den_of_body k_ref03_FNV ⟨rfl, Nat.le_of_ble_eq_true rfl, thaw_intro ?_⟩
  unfold c_ref03_FNV
  simp only [go_sem]
  refine t_call_intro (rext_den _ s hs) ?_
  simp only [go_sem]
  simp only [aresult, ares, go_sem]
  rfl
def mixH (a b : Nat) : Int := extH (fnvH (litB a 8)) (litB b 8).data.toList
theorem mix_den (a b : Nat) : PDen Try.prog 42 [.a (.int .u64 a), .a (.int .u64 b)] (.a (.int .u64 (mixH a b))) := by
  have la := little_den a 8 (by omega)
  have lb := little_den b 8 (by omega)
  rw [show ((8 : Nat) : Int) = 8 from rfl] at la lb
  refine den_of_body k_checksum_Mix ⟨rfl, Nat.le_of_ble_eq_true rfl, thaw_intro ?_⟩
  unfold c_checksum_Mix
  simp only [go_sem]
  refine t_call_intro (la) ?_
  simp only [go_sem]
  refine t_call_intro (fnv_den _ (by rw [litB_size]; omega)) ?_
  simp only [go_sem]
  refine t_call_intro (lb) ?_
  simp only [go_sem]
  refine t_call_intro (ext_den _ _ (by rw [litB_size]; omega)) ?_
  simp only [go_sem]
  simp only [aresult, ares, go_sem]
  rfl
theorem rmix_den (a b : Nat) (ha : a < 18446744073709551616) (hb : b < 18446744073709551616) : PDen Try.prog 44 [.a (.int .u64 a), .a (.int .u64 b)] (.a (.int .u64 (mixH a b))) := by
  have la := rlittle_den a 8 ha (by omega)
  have lb := rlittle_den b 8 hb (by omega)
  rw [show ((8 : Nat) : Int) = 8 from rfl] at la lb
  refine den_of_body k_ref03_Mix ⟨rfl, Nat.le_of_ble_eq_true rfl, thaw_intro ?_⟩
  unfold c_ref03_Mix
  simp only [go_sem]
  refine t_call_intro (la) ?_
  simp only [go_sem]
  refine t_call_intro (rext_den _ _ (by rw [litB_size]; omega)) ?_
  simp only [go_sem]
  refine t_call_intro (lb) ?_
  simp only [go_sem]
  refine t_call_intro (rext_den _ _ (by rw [litB_size]; omega)) ?_
  simp only [go_sem]
  simp only [aresult, ares, go_sem]
  rfl
end Go.Proofs.Ytknmjfojlnajjaa
