/- Chapter 53: pairs, buckets, roots, keys of both. -/
import Derived.Test.YtknmjfojlnajjaaDw
import Derived.Test.YtknmjfojlnajjaaCode
set_option linter.unusedSimpArgs false
set_option linter.unusedVariables false
namespace Go.Proofs.Ytknmjfojlnajjaa
open Go Ab Go.RowKit
set_option maxRecDepth 100000
attribute [local irreducible] awp aops aop asoft aeff aloop acall acallI acallT
attribute [local go_sem] Vl.row Pr.row

theorem fnv_denN (s : ByteArray) (hs : s.size ≤ 9223372036854775807) : PDen Try.prog 30 [.a (.str s)] (.a (.int .u64 (fnvN s : Nat))) := by
  have h := fnv_den s hs
  rw [fnvN_eq] at h
  exact h
theorem rfnv_denN (s : ByteArray) (hs : s.size ≤ 9223372036854775807) : PDen Try.prog 34 [.a (.str s)] (.a (.int .u64 (fnvN s : Nat))) := by
  have h := rfnv_den s hs
  rw [fnvN_eq] at h
  exact h
theorem mix_denN (a b : Nat) : PDen Try.prog 42 [.a (.int .u64 a), .a (.int .u64 b)] (.a (.int .u64 (mixN a b : Nat))) := by
  have h := mix_den a b
  rw [mixN_eq] at h
  exact h
theorem rmix_denN (a b : Nat) (ha : a < 18446744073709551616) (hb : b < 18446744073709551616) : PDen Try.prog 44 [.a (.int .u64 a), .a (.int .u64 b)] (.a (.int .u64 (mixN a b : Nat))) := by
  have h := rmix_den a b ha hb
  rw [mixN_eq] at h
  exact h
/-- Pairs whose strings are not long. -/
structure Pr.few (p : Pr) : Prop where
  ks : p.key.size ≤ 1000000
  vs : p.v.s.size ≤ 1000000
  lo : -Cw.M63 ≤ p.v.n
  hi : p.v.n < Cw.M63
theorem valB_sz (v : Vl) (h : v.s.size ≤ 1000000) (h0 : -Cw.M63 ≤ v.n) (h1 : v.n < Cw.M63) : (valB v).size ≤ v.s.size + 20 := by
  have s1 := vintB_size 1 m64_1
  have s2 := vintB_size 2 m64_2
  have s0 := vintB_size 0 m64_0
  have s3 : (vintB (Cw.fold v.n)).size ≤ 10 := vintB_size _ (Cw.fold_lt v.n h0 h1)
  have s4 := textB_size v.s (by omega)
  unfold valB
  split
  · rw [ByteArray.size_append]; omega
  · split
    · rw [ByteArray.size_append]; omega
    · omega
theorem rowp (p : Pr) : p.row = [.str p.key, .int .i64 p.v.kind, .int .i64 p.v.n, .str p.v.s] := rfl
theorem pair_den (p : Pr) (h : p.few) : PDen Try.prog 20 [.agg p.row] (.a (.int .u64 (pairN p : Nat))) := by
  have z := valB_sz p.v h.vs h.lo h.hi
  have k1 := h.ks
  have k2 := h.vs
  refine den_of_body k_digest_Pair ⟨rfl, Nat.le_of_ble_eq_true rfl, thaw_intro ?_⟩
  unfold c_digest_Pair
  simp only [go_sem]
  refine t_call_intro (fnv_denN p.key (by omega)) ?_
  simp only [go_sem]
  refine t_call_intro (venc_den p.v (by omega) h.lo h.hi) ?_
  simp only [go_sem]
  refine t_call_intro (fnv_denN (valB p.v) (by omega)) ?_
  simp only [go_sem]
  refine t_call_intro (mix_denN _ _) ?_
  simp only [go_sem]
  simp only [aresult, ares, go_sem]
  rfl
theorem rpair_den (p : Pr) (h : p.few) : PDen Try.prog 21 [.agg p.row] (.a (.int .u64 (pairN p : Nat))) := by
  have z := valB_sz p.v h.vs h.lo h.hi
  have k1 := h.ks
  have k2 := h.vs
  refine den_of_body k_ref53_Pair ⟨rfl, Nat.le_of_ble_eq_true rfl, thaw_intro ?_⟩
  unfold c_ref53_Pair
  simp only [go_sem]
  refine t_call_intro (rfnv_denN p.key (by omega)) ?_
  simp only [go_sem]
  refine t_call_intro (rvenc_den p.v (by omega) h.lo h.hi) ?_
  simp only [go_sem]
  refine t_call_intro (rfnv_denN (valB p.v) (by omega)) ?_
  simp only [go_sem]
  refine t_call_intro (rmix_denN _ _ (fnvN_lt _) (fnvN_lt _)) ?_
  simp only [go_sem]
  simp only [aresult, ares, go_sem]
  rfl
theorem ne64 : ((64 : Int) ≠ 0) = True := by simp
theorem tmod64 (n : Nat) : IntKind.i64.wrap (Int.tmod (n : Int) 64) = ((n % 64 : Nat) : Int) := by
  rw [IntKind.wrap_i64, Int.tmod_eq_emod_of_nonneg (by omega)]; omega
theorem bucket_den (k : ByteArray) (h : k.size ≤ 9223372036854775807) : PDen Try.prog 22 [.a (.str k)] (.a (.int .i64 (bktN k : Nat))) := by
  have e := tmod64 (fnvN k)
  refine den_of_body k_digest_Bucket ⟨rfl, Nat.le_of_ble_eq_true rfl, thaw_intro ?_⟩
  unfold c_digest_Bucket
  simp only [go_sem]
  refine t_call_intro (fnv_denN k h) ?_
  simp only [ne64, e, go_sem]
  simp only [aresult, ares, go_sem]
  rfl
theorem rbucket_den (k : ByteArray) (h : k.size ≤ 9223372036854775807) : PDen Try.prog 23 [.a (.str k)] (.a (.int .i64 (bktN k : Nat))) := by
  have e := tmod64 (fnvN k)
  refine den_of_body k_ref53_Bucket ⟨rfl, Nat.le_of_ble_eq_true rfl, thaw_intro ?_⟩
  unfold c_ref53_Bucket
  simp only [go_sem]
  refine t_call_intro (rfnv_denN k h) ?_
  simp only [ne64, e, go_sem]
  simp only [aresult, ares, go_sem]
  rfl
/-! Roots -/
theorem rootI_nil : rootI [] = 14695981039346656037 := rfl
theorem rootI_step (bs : List Nat) (k : Nat) (h : k < bs.length) : extH (rootI (bs.take k)) (litB bs[k] 8).data.toList = rootI (bs.take (k + 1)) := by
  unfold rootI extH
  rw [litB_list, List.take_succ_eq_append_getElem h, List.map_append, List.flatten_append, List.foldl_append]
  simp
theorem u64_get (bs : List Nat) (k : Nat) (h : k < bs.length) : (bs.map u64R).getD k [] = [.int .u64 (bs[k] : Int)] := getD_map u64R bs k h
theorem fnv_empty : fnvH ⟨#[]⟩ = 14695981039346656037 := rfl
set_option maxHeartbeats 1000000 in
theorem root_den (t : Tr) (hl : t.bs.length ≤ 1000000) : PDen Try.prog 14 [.agg t.row] (.a (.int .u64 (rootN t.bs : Nat))) := by
  have hf := fnv_den ⟨#[]⟩ (by decide)
  rw [fnv_empty] at hf
  rw [← rootN_eq]
  unfold Tr.row
  refine den_of_body k_digest_Root ⟨rfl, Nat.le_of_ble_eq_true rfl, thaw_intro ?_⟩
  unfold c_digest_Root
  simp only [go_sem]
  refine t_call_intro (hf) ?_
  simp only [go_sem]
  refine t_loop_intro (fun k : Nat => k ≤ t.bs.length) (fun k => t.bs.length - k) 0 [3, 5, 10, 11, 12, 13, 14, 15, 16, 17, 18] (fun k => [(3, .a (.int .u64 (rootI (t.bs.take k)))), (10, .a (.int .i64 k))]) (by omega) (by first | (simp; done) | simp [rootI_nil]) (fun k => by simp) rfl ?_
  intro k hk fr_ hfr
  simp only [go_sem] at hfr
  subst hfr
  by_cases hlt : k < t.bs.length
  · have h1 : (k : Int) < (t.bs.length : Int) := by omega
    have ew := wrap1 k t.bs.length hlt (by omega)
    have e := u64_get t.bs k hlt
    have es := rootI_step t.bs k hlt
    simp only [h1, e, go_sem]
    refine t_call_intro (dlittle_den t.bs[k]) ?_
    simp only [go_sem]
    refine t_call_intro (ext_den (rootI (t.bs.take k)) (litB t.bs[k] 8) (by rw [litB_size]; omega)) ?_
    simp only [es, ew, go_sem]
    refine t_round (k + 1) (by omega) (by omega) (by simp) rfl rfl (by simp) rfl
  · have h1 : ¬ (k : Int) < (t.bs.length : Int) := by omega
    have ek : t.bs.take k = t.bs := List.take_of_length_le (by omega)
    simp only [h1, ek, go_sem]
    simp only [aresult, ares, go_sem]
theorem lit_app (u k : Nat) : byteRows (lit u k) ++ [[.int .u8 ((bt u k).toNat : Int)]] = byteRows (lit u (k + 1)) := by
  rw [lit_succ]; simp [byteRows]
set_option maxHeartbeats 1000000 in
theorem bytes_den (u : Nat) (hu : u < 18446744073709551616) : PDen Try.prog 33 [.a (.int .u64 u)] (.a (.str (litB u 8))) := by
  have z0 : byteRows (lit u 0) = [] := rfl
  refine den_of_body k_ref53_bytes ⟨rfl, Nat.le_of_ble_eq_true rfl, thaw_intro ?_⟩
  unfold c_ref53_bytes
  simp only [go_sem]
  refine t_loopO_intro [.slot 3 5 1] (fun k : Nat => k ≤ 8) (fun k => 8 - k) 0 [0, 3, 4, 5, 6, 7, 8, 9, 10, 11, 12, 13, 14, 15, 16] (fun k => [(0, .a (.int .u64 ((u / 256 ^ k : Nat) : Int))), (3, .own 0), (4, .a (.int .i64 k))]) (fun k => []) (fun k => [⟨5, 1, byteRows (lit u k), false⟩]) (by omega) (by simp) (by first | (simp; done) | simp [z0]) (by first | (simp; done) | simp [z0]) (by first | (simp; done) | simp [z0]) (fun k => by first | (simp; done) | simp [z0]) (fun k => by first | (simp; done) | simp [z0]) (fun k => by first | (simp; done) | simp [z0]) ?_
  intro k hk st_ hst
  simp only [go_sem] at hst
  subst hst
  by_cases hlt : k < 8
  · have h1 : (k : Int) < 8 := by omega
    have ew := wrap1 k 8 hlt (by omega)
    have et := tmod_bt u k
    have ed := tdiv_next u k hu
    have ea := lit_app u k
    have el : (byteRows (lit u k)).length = k := by simp [byteRows, lit_len]
    simp only [h1, ne256, et, go_sem]
    refine t_gate_intro (by rw [el]; omega) ?_
    simp only [ea, ne256, ed, ew, go_sem]
    refine t_roundO (k + 1) (by omega) (by omega) (by simp) (by simp) (by simp) (by simp) (by simp)
  · have h1 : ¬ (k : Int) < 8 := by omega
    have ek : k = 8 := by omega
    subst ek
    simp only [h1, go_sem]
    refine t_bytes_intro ?_
    simp only [go_sem]
    simp only [aresult, ares, go_sem]
    rfl
def strR (bs : List Nat) (k : Nat) : ByteArray := ⟨((bs.take k).map fun x => lit x 8).flatten.toArray⟩
theorem strR_zero (bs : List Nat) : (⟨#[]⟩ : ByteArray) = strR bs 0 := by simp [strR]
theorem strR_step (bs : List Nat) (k : Nat) (h : k < bs.length) : strR bs k ++ litB bs[k] 8 = strR bs (k + 1) := by
  unfold strR litB
  rw [List.take_succ_eq_append_getElem h, List.map_append, List.flatten_append]
  apply ByteArray.ext
  simp
theorem strR_size (bs : List Nat) : ∀ k, k ≤ bs.length → (strR bs k).size = 8 * k
  | 0, _ => rfl
  | k + 1, h => by rw [← strR_step bs k (by omega), ByteArray.size_append, strR_size bs k (by omega), litB_size]; omega
theorem strR_fnv (bs : List Nat) : fnvH (strR bs bs.length) = rootI bs := by
  unfold fnvH rootI strR
  simp
set_option maxHeartbeats 1000000 in
theorem rroot_den (t : Tr) (hl : t.bs.length ≤ 1000000) (hf : t.fit) : PDen Try.prog 15 [.agg t.row] (.a (.int .u64 (rootN t.bs : Nat))) := by
  have hz := strR_zero t.bs
  have hsN := strR_size t.bs t.bs.length (Nat.le_refl _)
  have hfv := rfnv_den (strR t.bs t.bs.length) (by omega)
  rw [strR_fnv, rootN_eq] at hfv
  unfold Tr.row
  refine den_of_body k_ref53_Root ⟨rfl, Nat.le_of_ble_eq_true rfl, thaw_intro ?_⟩
  unfold c_ref53_Root
  simp only [go_sem]
  refine t_loop_intro (fun k : Nat => k ≤ t.bs.length) (fun k => t.bs.length - k) 0 [3, 4, 5, 6, 7, 8, 9, 10, 11, 12, 13, 14, 15, 16, 17, 18, 19] (fun k => [(3, .a (.str (strR t.bs k))), (4, .a (.int .i64 k))]) (by omega) (by first | (simp; done) | simp [hz]) (fun k => by simp) rfl ?_
  intro k hk fr_ hfr
  simp only [go_sem] at hfr
  subst hfr
  by_cases hlt : k < t.bs.length
  · have h1 : (k : Int) < (t.bs.length : Int) := by omega
    have ew := wrap1 k t.bs.length hlt (by omega)
    have e := u64_get t.bs k hlt
    have es := strR_step t.bs k hlt
    have sz := strR_size t.bs k hk
    have zl := litB_size t.bs[k] 8
    simp only [h1, e, go_sem]
    refine t_call_intro (bytes_den t.bs[k] (hf.bs _ (List.getElem_mem hlt))) ?_
    simp only [go_sem]
    refine t_gate_intro (by rw [sz, zl]; omega) ?_
    simp only [es, ew, go_sem]
    refine t_round (k + 1) (by omega) (by omega) (by simp) rfl rfl (by simp) rfl
  · have h1 : ¬ (k : Int) < (t.bs.length : Int) := by omega
    have ek : k = t.bs.length := by omega
    subst ek
    simp only [h1, go_sem]
    refine t_call_intro (hfv) ?_
    simp only [go_sem]
    simp only [aresult, ares, go_sem]
/-! Keys -/
def keyRows (b : Int) (l : List Pr) (k : Nat) : List (List Atom) := ((l.take k).filter (keysF b)).map Pr.row
theorem keyRows_zero (b : Int) (l : List Pr) : keyRows b l 0 = [] := by simp [keyRows]
theorem keyRows_len (b : Int) (l : List Pr) (k : Nat) : (keyRows b l k).length ≤ k := by
  have h1 := List.length_filter_le (keysF b) (l.take k)
  have h2 := List.length_take_le k l
  simp only [keyRows, List.length_map]; omega
theorem keyRows_yes (b : Int) (l : List Pr) (k : Nat) (h : k < l.length) (h2 : keysF b l[k] = true) : keyRows b l (k + 1) = keyRows b l k ++ [[.str l[k].key, .int .i64 l[k].v.kind, .int .i64 l[k].v.n, .str l[k].v.s]] := by
  unfold keyRows
  rw [List.take_succ_eq_append_getElem h, List.filter_append, List.map_append]
  simp [h2, Pr.row]
theorem keyRows_no (b : Int) (l : List Pr) (k : Nat) (h : k < l.length) (h2 : keysF b l[k] = false) : keyRows b l (k + 1) = keyRows b l k := by
  unfold keyRows
  rw [List.take_succ_eq_append_getElem h, List.filter_append, List.map_append]
  simp [h2]
set_option maxHeartbeats 1000000 in
theorem keys_den (l : List Pr) (b : Int) (hl : l.length ≤ 1000000) (hf : ∀ p ∈ l, p.few) : PDen Try.prog 25 [.a (.slice 4 (l.map Pr.row)), .a (.int .i64 b)] (.a (.slice 4 ((l.filter (keysF b)).map Pr.row))) := by
  refine den_of_body k_digest_Keys ⟨rfl, Nat.le_of_ble_eq_true rfl, thaw_intro ?_⟩
  unfold c_digest_Keys
  simp only [go_sem]
  refine t_loopO_intro [.slot 5 36 4] (fun k : Nat => k ≤ l.length) (fun k => l.length - k) 0 [5, 7, 10, 11, 12, 13, 14, 15, 16, 17, 18, 19, 20, 21, 22, 23] (fun k => [(5, .own 0), (10, .a (.int .i64 k))]) (fun k => []) (fun k => [⟨36, 4, keyRows b l k, false⟩]) (by omega) (by simp) (by first | (simp; done) | simp [keyRows_zero]) (by first | (simp; done) | simp [keyRows_zero]) (by first | (simp; done) | simp [keyRows_zero]) (fun k => by first | (simp; done) | simp [keyRows_zero]) (fun k => by first | (simp; done) | simp [keyRows_zero]) (fun k => by first | (simp; done) | simp [keyRows_zero]) ?_
  intro k hk st_ hst
  simp only [go_sem] at hst
  subst hst
  by_cases hlt : k < l.length
  · have h3 : (k : Int) < (l.length : Int) := by omega
    have ew := wrap1 k l.length hlt (by omega)
    have e := getD_map Pr.row l k hlt
    have hlen := keyRows_len b l k
    have hp := hf _ (List.getElem_mem hlt)
    simp only [h3, e, go_sem]
    refine t_call_intro (bucket_den l[k].key (by have := hp.ks; omega)) ?_
    cases h4 : keysF b l[k] with
    | true =>
      have h5 : (((bktN l[k].key : Nat) : Int) == b) = true := h4
      simp only [h5, go_sem]
      refine t_gate_intro (by omega) ?_
      simp only [ew, go_sem]
      refine t_roundO (k + 1) (by omega) (by omega) (by first | (simp; done) | simp [keyRows_yes _ _ _ hlt h4]) (by first | (simp; done) | simp [keyRows_yes _ _ _ hlt h4]) (by first | (simp; done) | simp [keyRows_yes _ _ _ hlt h4]) (by first | (simp; done) | simp [keyRows_yes _ _ _ hlt h4]) (by first | (simp; done) | simp [keyRows_yes _ _ _ hlt h4])
    | false =>
      have h5 : (((bktN l[k].key : Nat) : Int) == b) = false := h4
      simp only [h5, ew, go_sem]
      refine t_roundO (k + 1) (by omega) (by omega) (by first | (simp; done) | simp [keyRows_no _ _ _ hlt h4]) (by first | (simp; done) | simp [keyRows_no _ _ _ hlt h4]) (by first | (simp; done) | simp [keyRows_no _ _ _ hlt h4]) (by first | (simp; done) | simp [keyRows_no _ _ _ hlt h4]) (by first | (simp; done) | simp [keyRows_no _ _ _ hlt h4])
  · have h3 : ¬ (k : Int) < (l.length : Int) := by omega
    have hke : k = l.length := by omega
    simp only [h3, go_sem]
    simp only [aresult, ares, go_sem]
    rw [hke]
    unfold keyRows
    rw [List.take_length]
set_option maxHeartbeats 1000000 in
theorem rkeys_den (l : List Pr) (b : Int) (hl : l.length ≤ 1000000) (hf : ∀ p ∈ l, p.few) : PDen Try.prog 26 [.a (.slice 4 (l.map Pr.row)), .a (.int .i64 b)] (.a (.slice 4 ((l.filter (keysF b)).map Pr.row))) := by
  refine den_of_body k_ref53_Keys ⟨rfl, Nat.le_of_ble_eq_true rfl, thaw_intro ?_⟩
  unfold c_ref53_Keys
  simp only [go_sem]
  refine t_loopO_intro [.slot 5 36 4] (fun k : Nat => k ≤ l.length) (fun k => l.length - k) 0 [5, 6, 7, 8, 9, 10, 11, 12, 13, 14, 15, 16, 17, 18, 19, 20, 21, 22, 23, 24, 25, 26, 27] (fun k => [(5, .own 0), (6, .a (.int .i64 k))]) (fun k => []) (fun k => [⟨36, 4, keyRows b l k, false⟩]) (by omega) (by simp) (by first | (simp; done) | simp [keyRows_zero]) (by first | (simp; done) | simp [keyRows_zero]) (by first | (simp; done) | simp [keyRows_zero]) (fun k => by first | (simp; done) | simp [keyRows_zero]) (fun k => by first | (simp; done) | simp [keyRows_zero]) (fun k => by first | (simp; done) | simp [keyRows_zero]) ?_
  intro k hk st_ hst
  simp only [go_sem] at hst
  subst hst
  by_cases hlt : k < l.length
  · have h3 : (k : Int) < (l.length : Int) := by omega
    have ew := wrap1 k l.length hlt (by omega)
    have e := getD_map Pr.row l k hlt
    have hlen := keyRows_len b l k
    have hp := hf _ (List.getElem_mem hlt)
    simp only [h3, e, go_sem]
    refine t_call_intro (rbucket_den l[k].key (by have := hp.ks; omega)) ?_
    cases h4 : keysF b l[k] with
    | true =>
      have h5 : (((bktN l[k].key : Nat) : Int) == b) = true := h4
      simp only [h5, h3, e, go_sem]
      refine t_gate_intro (by omega) ?_
      simp only [ew, go_sem]
      refine t_roundO (k + 1) (by omega) (by omega) (by first | (simp; done) | simp [keyRows_yes _ _ _ hlt h4]) (by first | (simp; done) | simp [keyRows_yes _ _ _ hlt h4]) (by first | (simp; done) | simp [keyRows_yes _ _ _ hlt h4]) (by first | (simp; done) | simp [keyRows_yes _ _ _ hlt h4]) (by first | (simp; done) | simp [keyRows_yes _ _ _ hlt h4])
    | false =>
      have h5 : (((bktN l[k].key : Nat) : Int) == b) = false := h4
      simp only [h5, ew, go_sem]
      refine t_roundO (k + 1) (by omega) (by omega) (by first | (simp; done) | simp [keyRows_no _ _ _ hlt h4]) (by first | (simp; done) | simp [keyRows_no _ _ _ hlt h4]) (by first | (simp; done) | simp [keyRows_no _ _ _ hlt h4]) (by first | (simp; done) | simp [keyRows_no _ _ _ hlt h4]) (by first | (simp; done) | simp [keyRows_no _ _ _ hlt h4])
  · have h3 : ¬ (k : Int) < (l.length : Int) := by omega
    have hke : k = l.length := by omega
    simp only [h3, go_sem]
    simp only [aresult, ares, go_sem]
    rw [hke]
    unfold keyRows
    rw [List.take_length]
end Go.Proofs.Ytknmjfojlnajjaa
