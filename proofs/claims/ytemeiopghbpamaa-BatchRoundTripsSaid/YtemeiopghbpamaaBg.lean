/- The reader of requests: its methods. -/
import Derived.Test.YtemeiopghbpamaaBe
set_option linter.unusedSimpArgs false
set_option linter.unusedVariables false
namespace Go.Proofs.Ytemeiopghbpamaa
open Go Ab Go.RowKit
attribute [local irreducible] awp aops aop asoft aeff aloop acall acallI acallT acallK
attribute [local go_sem] Vl.row sRow

def rdr (s : ByteArray) (a e : Int) : List AV := [.a (.str s), .a (.int .i64 a), .a (.int .i64 e)]
theorem boundS_mono {n n' m m' : Nat} (hn : n ≤ n') (hm : m ≤ m') {x : AV} (h : boundS n m x = true) : boundS n' m' x = true := by
  unfold boundS at h ⊢
  split at h <;> first | (simp only [decide_eq_true_eq] at h ⊢; omega) | rfl | exact h | cases h
theorem boundV_mono {n n' m m' : Nat} (hn : n ≤ n') (hm : m ≤ m') {x : AV} (h : Ab.boundV n m x = true) : Ab.boundV n' m' x = true := by
  have key : ∀ xs : List AV, xs.all (boundS n m) = true → xs.all (boundS n' m') = true := fun xs h => List.all_eq_true.2 fun y hy => boundS_mono hn hm (List.all_eq_true.1 h y hy)
  cases x <;> first | exact key _ h | (simp only [Ab.boundV] at h ⊢; exact boundS_mono hn hm h)
theorem boundL_mono {n n' m m' : Nat} (hn : n ≤ n') (hm : m ≤ m') {H : List (List AV)} (h : H.all (·.all (Ab.boundV n m)) = true) : H.all (·.all (Ab.boundV n' m')) = true :=
  List.all_eq_true.2 fun cs hc => List.all_eq_true.2 fun x hx => boundV_mono hn hm (List.all_eq_true.1 (List.all_eq_true.1 h cs hc) x hx)
theorem rdr_bound {h0 : List AV} {hs : List (List AV)} {O : List OwnD} (s : ByteArray) (a e : Int) (hb : (h0 :: hs).all (·.all (Ab.boundV (hs.length + 2) O.length)) = true) :
    (h0 :: rdr s a e :: hs).all (·.all (Ab.boundV (h0 :: rdr s a e :: hs).length O.length)) = true := by
  simp only [List.all_cons, Bool.and_eq_true] at hb
  simp only [List.all_cons, List.length_cons, Bool.and_eq_true]
  exact ⟨hb.1, rfl, hb.2⟩
theorem z00 : ((0 : Int) != 0) = false := rfl
variable {h0 : List AV} {hs : List (List AV)} {O : List OwnD}
set_option maxRecDepth 100000 in
set_option maxHeartbeats 4000000 in
theorem took_iden (s : ByteArray) (a e a' e' : Int) (hb : (h0 :: hs).all (·.all (Ab.boundV (hs.length + 2) O.length)) = true) :
    IDen Try.prog 55 [.loc 1 0, .a (.int .i64 a'), .a (.int .i64 e')] (h0 :: rdr s a e :: hs) O (.tup []) (h0 :: rdr s a' e' :: hs) O true := by
  refine iden_of_bodyK rfl k_batch_reader_took ⟨rfl, Nat.le_of_ble_eq_true rfl, ⟨by simp, (rdr_bound s a' e' hb), rfl⟩, thaw_intro ?_⟩
  unfold c_batch_reader_took
  unfold rdr
  simp only [go_sem]
  exact ⟨by first | rfl | (simp only [aresultI, aresI, aggI, go_sem]; done) | (simp only [aresultI, aresI, aggI, go_sem]; rfl), by simp⟩
set_option maxRecDepth 100000 in
set_option maxHeartbeats 4000000 in
theorem number_iden (s : ByteArray) (a e : Int) (hs0 : s.size ≤ 1073741824) (hb : (h0 :: hs).all (·.all (Ab.boundV (hs.length + 2) O.length)) = true) :
    IDen Try.prog 29 [.loc 1 0] (h0 :: rdr s a e :: hs) O (.a (.int .u64 (rdU s.data.toList a e).1)) (h0 :: rdr s (rdU s.data.toList a e).2.1 (rdU s.data.toList a e).2.2 :: hs) O true := by
  refine iden_of_bodyK rfl k_batch_reader_number ⟨rfl, Nat.le_of_ble_eq_true rfl, ⟨by simp, (rdr_bound s _ _ hb), rfl⟩, thaw_intro ?_⟩
  unfold c_batch_reader_number
  have ht := fun a' e' => took_iden (h0 := h0) (hs := hs) (O := O) s a e a' e' hb
  by_cases he : e = 0
  · subst he
    rw [rdU_ok]
    unfold rdr at ht ⊢
    simp only [z00, go_sem]
    refine t_call_intro (wtakeuint_den s a hs0) ?_
    simp only [takeUV, go_sem]
    refine t_callK_intro (ht _ _) (by simp) ?_
    simp only [go_sem]
    exact ⟨by first | rfl | (simp only [aresultI, aresI, aggI, go_sem]; done) | (simp only [aresultI, aresI, aggI, go_sem]; rfl), by simp⟩
  · rw [rdU_err _ _ _ he]
    have h1 : (e != 0) = true := by simpa using he
    unfold rdr at ht ⊢
    simp only [h1, go_sem]
    exact ⟨by first | rfl | (simp only [aresultI, aresI, aggI, go_sem]; done) | (simp only [aresultI, aresI, aggI, go_sem]; rfl), by simp⟩
set_option maxRecDepth 100000 in
set_option maxHeartbeats 4000000 in
theorem text_iden (s : ByteArray) (m a e : Int) (hs0 : s.size ≤ 1073741824) (hm : m ≤ 9223372036854775807) (hb : (h0 :: hs).all (·.all (Ab.boundV (hs.length + 2) O.length)) = true) :
    IDen Try.prog 30 [.loc 1 0, .a (.int .i64 m)] (h0 :: rdr s a e :: hs) O (.a (.str ⟨(rdT s.data.toList m a e).1.toArray⟩)) (h0 :: rdr s (rdT s.data.toList m a e).2.1 (rdT s.data.toList m a e).2.2 :: hs) O true := by
  refine iden_of_bodyK rfl k_batch_reader_text ⟨rfl, Nat.le_of_ble_eq_true rfl, ⟨by simp, (rdr_bound s _ _ hb), rfl⟩, thaw_intro ?_⟩
  unfold c_batch_reader_text
  have ht := fun a' e' => took_iden (h0 := h0) (hs := hs) (O := O) s a e a' e' hb
  by_cases he : e = 0
  · subst he
    rw [rdT_ok]
    unfold rdr at ht ⊢
    simp only [z00, go_sem]
    refine t_call_intro (wtaketext_den s a m hs0 hm) ?_
    simp only [takeTV, go_sem]
    refine t_callK_intro (ht _ _) (by simp) ?_
    simp only [go_sem]
    exact ⟨by first | rfl | (simp only [aresultI, aresI, aggI, go_sem]; done) | (simp only [aresultI, aresI, aggI, go_sem]; rfl), by simp⟩
  · rw [rdT_err _ _ _ _ he]
    have h1 : (e != 0) = true := by simpa using he
    unfold rdr at ht ⊢
    simp only [h1, go_sem]
    exact ⟨by first | rfl | (simp only [aresultI, aresI, aggI, go_sem]; done) | (simp only [aresultI, aresI, aggI, go_sem]; rfl), by simp⟩
set_option maxRecDepth 100000 in
set_option maxHeartbeats 4000000 in
theorem count_iden (s : ByteArray) (m a e : Int) (hs0 : s.size ≤ 1073741824) (hm : m ≤ 9223372036854775807) (hb : (h0 :: hs).all (·.all (Ab.boundV (hs.length + 2) O.length)) = true) :
    IDen Try.prog 31 [.loc 1 0, .a (.int .i64 m)] (h0 :: rdr s a e :: hs) O (.a (.int .i64 (rdC s.data.toList m a e).1)) (h0 :: rdr s (rdC s.data.toList m a e).2.1 (rdC s.data.toList m a e).2.2 :: hs) O true := by
  refine iden_of_bodyK rfl k_batch_reader_count ⟨rfl, Nat.le_of_ble_eq_true rfl, ⟨by simp, (rdr_bound s _ _ hb), rfl⟩, thaw_intro ?_⟩
  unfold c_batch_reader_count
  have ht := fun a' e' => took_iden (h0 := h0) (hs := hs) (O := O) s a e a' e' hb
  by_cases he : e = 0
  · subst he
    rw [rdC_ok]
    unfold rdr at ht ⊢
    simp only [z00, go_sem]
    refine t_call_intro (wtakecount_den s a m hs0 hm) ?_
    simp only [takeCV, go_sem]
    refine t_callK_intro (ht _ _) (by simp) ?_
    simp only [go_sem]
    exact ⟨by first | rfl | (simp only [aresultI, aresI, aggI, go_sem]; done) | (simp only [aresultI, aresI, aggI, go_sem]; rfl), by simp⟩
  · rw [rdC_err _ _ _ _ he]
    have h1 : (e != 0) = true := by simpa using he
    unfold rdr at ht ⊢
    simp only [h1, go_sem]
    exact ⟨by first | rfl | (simp only [aresultI, aresI, aggI, go_sem]; done) | (simp only [aresultI, aresI, aggI, go_sem]; rfl), by simp⟩
set_option maxRecDepth 100000 in
set_option maxHeartbeats 4000000 in
theorem flag_iden (s : ByteArray) (a e : Int) (hs0 : s.size ≤ 1073741824) (hb : (h0 :: hs).all (·.all (Ab.boundV (hs.length + 2) O.length)) = true) :
    IDen Try.prog 33 [.loc 1 0] (h0 :: rdr s a e :: hs) O (.a (.bool (rdF s.data.toList a e).1)) (h0 :: rdr s (rdF s.data.toList a e).2.1 (rdF s.data.toList a e).2.2 :: hs) O true := by
  refine iden_of_bodyK rfl k_batch_reader_flag ⟨rfl, Nat.le_of_ble_eq_true rfl, ⟨by simp, (rdr_bound s _ _ hb), rfl⟩, thaw_intro ?_⟩
  unfold c_batch_reader_flag
  have ht := fun a' e' => took_iden (h0 := h0) (hs := hs) (O := O) s a e a' e' hb
  by_cases he : e = 0
  · subst he
    rw [rdF_ok]
    unfold rdr at ht ⊢
    simp only [z00, go_sem]
    refine t_call_intro (wtakebool_den s a hs0) ?_
    simp only [takeBV, go_sem]
    refine t_callK_intro (ht _ _) (by simp) ?_
    simp only [go_sem]
    exact ⟨by first | rfl | (simp only [aresultI, aresI, aggI, go_sem]; done) | (simp only [aresultI, aresI, aggI, go_sem]; rfl), by simp⟩
  · rw [rdF_err _ _ _ he]
    have h1 : (e != 0) = true := by simpa using he
    unfold rdr at ht ⊢
    simp only [h1, go_sem]
    exact ⟨by first | rfl | (simp only [aresultI, aresI, aggI, go_sem]; done) | (simp only [aresultI, aresI, aggI, go_sem]; rfl), by simp⟩
set_option maxRecDepth 100000 in
set_option maxHeartbeats 4000000 in
theorem value_iden {h2 : List AV} (s : ByteArray) (a e : Int) (hs0 : s.size ≤ 1073741824) (hb : [h0, h2].all (·.all (Ab.boundV 3 O.length)) = true) :
    IDen Try.prog 32 [.loc 1 0] [h0, rdr s a e, h2] O (.agg (rdV s.data.toList a e).1.row) [h0, rdr s (rdV s.data.toList a e).2.1 (rdV s.data.toList a e).2.2, h2] O true := by
  refine iden_of_bodyK rfl k_batch_reader_value ⟨rfl, Nat.le_of_ble_eq_true rfl, ⟨by simp, (rdr_bound (hs := [h2]) s _ _ hb), rfl⟩, thaw_intro ?_⟩
  unfold c_batch_reader_value
  have mono : [h0, h2].all (·.all (Ab.boundV 5 O.length)) = true := boundL_mono (by omega) (Nat.le_refl _) hb
  by_cases he : e = 0
  · subst he
    rw [rdV_ok]
    unfold rdr
    simp only [z00, go_sem]
    refine t_call_intro (vdec_den s a hs0) ?_
    simp only [decVV, go_sem]
    refine t_callK_intro ((took_iden (h0 := h0) (hs := [h2, _, _]) (O := O) s a 0 _ _ (by simp only [List.all_cons, List.all_nil, Bool.and_eq_true, Bool.and_true] at mono ⊢; exact ⟨mono.1, mono.2, ⟨rfl, rfl, rfl⟩, rfl, rfl, rfl⟩))) (by simp) ?_
    simp only [rdr, go_sem]
    first | rfl | (simp only [aresultI, aresI, aggI, go_sem]; done) | (simp only [aresultI, aresI, aggI, go_sem]; rfl)
  · rw [rdV_err _ _ _ he]
    have h1 : (e != 0) = true := by simpa using he
    unfold rdr
    simp only [h1, go_sem]
    first | rfl | (simp only [aresultI, aresI, aggI, go_sem]; done) | (simp only [aresultI, aresI, aggI, go_sem]; rfl)
theorem take_snoc {α : Type} (O : List α) (d : α) : (O ++ [d]).take (O.length + 1) = O ++ [d] := List.take_of_length_le (by simp)
theorem gate16 (n : Nat) (h : n ≤ 1000) : (n + 1 + (n + 1) / 4 + 192) * 16 ≤ 281474976710656 ∧ n + 1 ≤ 9223372036854775807 := by omega
theorem ksSt_ml (l : List UInt8) (a e : Int) (n : Nat) : ((ksSt l a e n).1.map sRow).length = n := by rw [List.length_map, ksSt_len]
set_option maxRecDepth 100000 in
set_option maxHeartbeats 4000000 in
theorem keys_iden {h2 : List AV} (s : ByteArray) (a e : Int) (hs0 : s.size ≤ 1073741824) (hb : [h0, h2].all (·.all (Ab.boundV 3 O.length)) = true) (hq0 : h0.map (inval O.length) = h0) (hq2 : h2.map (inval O.length) = h2) :
    IDen Try.prog 34 [.loc 1 0] [h0, rdr s a e, h2] O (.own O.length) [h0, rdr s (rdKs s.data.toList a e).2.1 (rdKs s.data.toList a e).2.2, h2] (O ++ [⟨9, 1, (rdKs s.data.toList a e).1.map sRow, false⟩]) false := by
  have hbm : [h0, h2].all (·.all (Ab.boundV 3 (O.length + 1))) = true := boundL_mono (Nat.le_refl _) (Nat.le_succ _) hb
  have hb1 : [h0, h2].all (·.all (Ab.boundV 3 O.length)) = true := hb
  have hbm0 : h0.all (Ab.boundV 3 (O.length + 1)) = true := by simp only [List.all_cons, List.all_nil, Bool.and_eq_true, Bool.and_true] at hbm; exact hbm.1
  have hbm2 : h2.all (Ab.boundV 3 (O.length + 1)) = true := by simp only [List.all_cons, List.all_nil, Bool.and_eq_true, Bool.and_true] at hbm; exact hbm.2
  refine iden_of_body k_batch_reader_keys ⟨rfl, Nat.le_of_ble_eq_true rfl, ⟨by simp, by simp [rdr, Ab.boundV, boundS, hbm0, hbm2], by simp [Ab.boundV, boundS]⟩, thaw_intro ?_⟩
  unfold c_batch_reader_keys
  have hn := rdC_le s.data.toList 64 a e (by omega)
  simp only [go_sem]
  refine t_callI_intro (count_iden (hs := [h2]) s 64 a e hs0 (by omega) hb) ?_
  simp only [go_sem]
  unfold rdKs
  generalize rdC s.data.toList 64 a e = C at hn ⊢
  obtain ⟨n, a1, e1⟩ := C
  simp only [] at hn ⊢
  generalize hL : s.data.toList = L
  refine t_loopO_intro [.slot 3 9 1] (fun k : Nat => k ≤ n) (fun k => n - k) 0 [3, 6, 7, 8, 9, 10, 11, 12, 13] (fun k => [(3, .own O.length), (6, .a (.int .i64 k))]) (fun k => [h0, rdr s (ksSt L a1 e1 k).2.1 (ksSt L a1 e1 k).2.2, h2]) (fun k => O ++ [⟨9, 1, (ksSt L a1 e1 k).1.map sRow, false⟩]) (by omega) (by simp) (by first | (simp; done) | simp [hbm0, hbm2, rdr, Ab.boundV, boundS, ksSt, take_snoc]) (by first | (simp; done) | simp [hbm0, hbm2, rdr, Ab.boundV, boundS, ksSt, take_snoc]) (by first | (simp; done) | simp [hbm0, hbm2, rdr, Ab.boundV, boundS, ksSt, take_snoc]) (fun k => by first | (simp; done) | simp [hbm0, hbm2, rdr, Ab.boundV, boundS, ksSt, take_snoc]) (fun k => by first | (simp; done) | simp [hbm0, hbm2, rdr, Ab.boundV, boundS, ksSt, take_snoc]) (fun k => by first | (simp; done) | simp [hbm0, hbm2, rdr, Ab.boundV, boundS, ksSt, take_snoc]) ?_
  intro k hk st_ hst
  simp only [go_sem] at hst
  subst hst
  by_cases hlt : k < n
  · have h3 : (k : Int) < (n : Int) := by omega
    have ekn := wrap1 k n hlt (by omega)
    have ht := text_iden (h0 := h0) (hs := [h2]) (O := O ++ [⟨9, 1, (ksSt L a1 e1 k).1.map sRow, false⟩]) s 24 (ksSt L a1 e1 k).2.1 (ksSt L a1 e1 k).2.2 hs0 (by omega) (by simpa using hbm)
    rw [hL] at ht
    have eg : ∀ d : OwnD, (O ++ [d]).getD O.length default = d := fun d => by simp
    have es : ∀ d d' : OwnD, (O ++ [d]).set O.length d' = O ++ [d'] := fun d d' => by simp
    have er : (rdr s (rdT L 24 (ksSt L a1 e1 k).2.1 (ksSt L a1 e1 k).2.2).2.1 (rdT L 24 (ksSt L a1 e1 k).2.1 (ksSt L a1 e1 k).2.2).2.2).map (inval O.length) = rdr s (ksSt L a1 e1 (k + 1)).2.1 (ksSt L a1 e1 (k + 1)).2.2 := rfl
    have eo : (ksSt L a1 e1 k).1.map sRow ++ [[Atom.str ⟨(rdT L 24 (ksSt L a1 e1 k).2.1 (ksSt L a1 e1 k).2.2).1.toArray⟩]] = (ksSt L a1 e1 (k + 1)).1.map sRow := by simp [ksSt, sRow]
    have em := ksSt_len L a1 e1 k
    simp only [h3, go_sem]
    refine t_callK_intro (ht) (by simp) ?_
    simp only [eg, es, go_sem]
    refine t_gate_intro (by rw [em]; omega) ?_
    simp only [hq0, hq2, er, es, eo, ekn, go_sem]
    refine t_roundO (k + 1) (by omega) (by omega) (by first | (simp; done) | simp [take_snoc, hbm0, hbm2, rdr, Ab.boundV, boundS]) (by first | (simp; done) | simp [take_snoc, hbm0, hbm2, rdr, Ab.boundV, boundS]) (by first | (simp; done) | simp [take_snoc, hbm0, hbm2, rdr, Ab.boundV, boundS]) (by first | (simp; done) | simp [take_snoc, hbm0, hbm2, rdr, Ab.boundV, boundS]) (by first | (simp; done) | simp [take_snoc, hbm0, hbm2, rdr, Ab.boundV, boundS])
  · have h3 : ¬ (k : Int) < (n : Int) := by omega
    have hke : k = n := by omega
    subst hke
    simp only [h3, go_sem]

    first | rfl | (simp only [aresultI, aresI, aggI, go_sem]; done) | (simp only [aresultI, aresI, aggI, go_sem]; rfl)
end Go.Proofs.Ytemeiopghbpamaa
