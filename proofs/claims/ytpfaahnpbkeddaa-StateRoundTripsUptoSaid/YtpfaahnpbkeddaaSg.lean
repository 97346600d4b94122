/- Chapter 06: Encode and Decode of both. -/
import Derived.Test.YtpfaahnpbkeddaaSa
import Derived.Test.YtpfaahnpbkeddaaBw
import Derived.Test.YtpfaahnpbkeddaaAt
set_option linter.unusedSimpArgs false
set_option linter.unusedVariables false
namespace Go.Proofs.Ytpfaahnpbkeddaa
open Go Ab Go.RowKit
set_option maxRecDepth 100000
attribute [local irreducible] awp aops aop asoft aeff aloop acall acallI acallT
attribute [local go_sem] Vl.row Pr.row

def prL (p : Pr) : List UInt8 := textL p.key ++ valL p.v
def encL (l : List Pr) (k : Nat) : List UInt8 := Cw.vint l.length ++ ((l.take k).map prL).flatten
def encB (l : List Pr) (k : Nat) : ByteArray := ⟨(encL l k).toArray⟩
theorem encB_L (l : List Pr) (k : Nat) : (encB l k).data.toList = encL l k := by simp [encB]
theorem encB_size (l : List Pr) (k : Nat) : (encB l k).size = (encL l k).length := by rw [← encB_L, dsize]
theorem encL_zero (l : List Pr) : (vintB l.length).data.toList = encL l 0 := by simp [encL, vintB]
theorem encB_zero (l : List Pr) : vintB l.length = encB l 0 := by simp [encB, encL, vintB]
theorem encL_step (l : List Pr) (k : Nat) (h : k < l.length) : (encL l k ++ (textB l[k].key).data.toList) ++ (valB l[k].v).data.toList = encL l (k + 1) := by
  unfold encL
  rw [flat_next prL l k h]
  simp only [List.append_assoc]
  rfl
theorem encB_step (l : List Pr) (k : Nat) (h : k < l.length) : (encB l k ++ textB l[k].key) ++ valB l[k].v = encB l (k + 1) := by
  apply ByteArray.ext
  apply Array.toList_inj.1
  rw [app_L, app_L, encB_L, encB_L, encL_step l k h]
structure Pr.small (p : Pr) : Prop where
  ks : p.key.size ≤ 1048576
  vs : p.v.s.size ≤ 1048576
  lo : -Cw.M63 ≤ p.v.n
  hi : p.v.n < Cw.M63
theorem valB_size (v : Vl) (h : v.s.size ≤ 1048576) (h0 : -Cw.M63 ≤ v.n) (h1 : v.n < Cw.M63) : (valB v).size ≤ v.s.size + 20 := by
  have s1 := vintB_size 1 m64_1
  have s2 := vintB_size 2 m64_2
  have s0 := vintB_size 0 m64_0
  have s3 : (vintB (Cw.fold v.n)).size ≤ 10 := vintB_size _ (Cw.fold_lt v.n h0 h1)
  have s4 := textB_size v.s (by omega)
  unfold valB
  split
  · rw [ByteArray.size_append]; omega
  · split
    · rw [ByteArray.size_append]; omega
    · omega
theorem prL_len (p : Pr) (h : p.small) : (prL p).length ≤ p.key.size + p.v.s.size + 30 := by
  have h1 := textB_size p.key (by have := h.ks; omega)
  have h2 := valB_size p.v h.vs h.lo h.hi
  rw [← dsize] at h1 h2
  unfold prL textL valL
  rw [List.length_append]; omega
theorem encL_len (l : List Pr) (hl : l.length ≤ 1048576) (hf : ∀ p ∈ l, p.small) : ∀ k, k ≤ l.length → (encL l k).length ≤ 10 + k * 2097182
  | 0, _ => by
    rw [← encL_zero, dsize]
    have := vintB_size l.length (by rw [Cw.m64]; omega)
    omega
  | k + 1, h => by
    have ih := encL_len l hl hf k (by omega)
    have hk : k < l.length := by omega
    have hp := hf _ (List.getElem_mem hk)
    have := prL_len l[k] hp
    have k1 := hp.ks
    have k2 := hp.vs
    have e : (encL l (k + 1)).length = (encL l k).length + (prL l[k]).length := by
      unfold encL
      rw [flat_next prL l k hk]
      simp only [List.length_append]; omega
    rw [e]; omega
theorem encL_ne (l : List Pr) (k : Nat) (hl : l.length ≤ 1048576) : encL l k ≠ [] := by
  intro h
  have h0 := vint_pos l.length (by rw [Cw.m64]; omega)
  have h1 := congrArg List.length h
  unfold encL at h1
  rw [List.length_append] at h1
  simp only [List.length_nil] at h1
  omega
theorem wrapu (n : Nat) (h : n ≤ 1048576) : IntKind.u64.wrap (n : Int) = (n : Int) := by rw [IntKind.wrap_u64]; omega
set_option maxHeartbeats 2000000 in
theorem senc_den (l : List Pr) (hl : l.length ≤ 1048576) (hf : ∀ p ∈ l, p.small) : PDen Try.prog 7 [.a (.slice 4 (l.map Pr.row))] (.a (.str (encB l l.length))) := by
  have eu := wrapu l.length hl
  have hn := encL_ne l l.length hl
  refine den_of_body k_state_Encode ⟨rfl, Nat.le_of_ble_eq_true rfl, thaw_intro ?_⟩
  unfold c_state_Encode
  simp only [eu, go_sem]
  refine t_call_intro (wuint_den l.length (by omega) (by rw [Cw.m64]; omega)) ?_
  have hz := encL_zero l
  have z0 := vintB_size l.length (by rw [Cw.m64]; omega)
  simp only [go_sem]
  refine t_callI_intro (bwrite_nil write_spec rfl (by omega)) ?_
  simp only [hz, go_sem]
  refine t_loopO_intro [] (fun k : Nat => k ≤ l.length) (fun k => l.length - k) 0 [5, 13, 14, 15, 16, 17, 18, 19, 20, 21, 22, 23, 24, 25] (fun k => [(13, .a (.int .i64 k))]) (fun k => [[.bself 45, .own 0]]) (fun k => [⟨5, 1, byteRows (encL l k), false⟩]) (by omega) (by simp) (by simp) (by simp) (by simp) (fun k => by simp) (fun k => by simp) (fun k => by simp) ?_
  intro k hk st_ hst
  simp only [go_sem] at hst
  subst hst
  by_cases hlt : k < l.length
  · have h1 : (k : Int) < (l.length : Int) := by omega
    have e := getD_map Pr.row l k hlt
    have ew := wrap1 k l.length hlt (by omega)
    have hp := hf _ (List.getElem_mem hlt)
    have es := encL_step l k hlt
    have sz := encL_len l hl hf k hk
    have s1 := textB_size l[k].key (by have := hp.ks; omega)
    have s2 := valB_size l[k].v hp.vs hp.lo hp.hi
    have k1 := hp.ks
    have k2 := hp.vs
    have s3 : (textB l[k].key).data.toList.length = (textB l[k].key).size := dsize _
    simp only [h1, e, go_sem]
    refine t_call_intro (wtext_den l[k].key (by omega)) ?_
    simp only [go_sem]
    refine t_callI_intro (bwrite_iden write_spec rfl rfl (by omega)) ?_
    simp only [go_sem]
    refine t_call_intro (venc_den l[k].v (by omega) hp.lo hp.hi) ?_
    simp only [go_sem]
    refine t_callI_intro (bwrite_iden write_spec rfl rfl (by rw [List.length_append]; omega)) ?_
    simp only [es, ew, go_sem]
    refine t_roundO (k + 1) (by omega) (by omega) (by simp) (by simp) (by simp) (by simp) (by simp)
  · have h1 : ¬ (k : Int) < (l.length : Int) := by omega
    have ek : k = l.length := by omega
    subst ek
    simp only [h1, go_sem]
    refine t_callI_intro (bstring_iden string_spec rfl rfl hn) ?_
    simp only [go_sem]
    simp only [aresult, ares, go_sem]
    rfl
set_option maxHeartbeats 2000000 in
theorem rsenc_den (l : List Pr) (hl : l.length ≤ 1048576) (hf : ∀ p ∈ l, p.small) : PDen Try.prog 8 [.a (.slice 4 (l.map Pr.row))] (.a (.str (encB l l.length))) := by
  have eu := wrapu l.length hl
  have hz := encB_zero l
  refine den_of_body k_ref06_Encode ⟨rfl, Nat.le_of_ble_eq_true rfl, thaw_intro ?_⟩
  unfold c_ref06_Encode
  simp only [eu, go_sem]
  refine t_call_intro (ruint_den l.length (by omega) (by rw [Cw.m64]; omega)) ?_
  simp only [hz, go_sem]
  refine t_loop_intro (fun k : Nat => k ≤ l.length) (fun k => l.length - k) 0 [3, 4, 9, 10, 11, 12, 13, 14, 15, 16, 17, 18, 19, 20, 21, 22, 23, 24, 25, 26, 27, 28, 29] (fun k => [(3, .a (.str (encB l k))), (4, .a (.int .i64 k))]) (by omega) (by simp) (fun k => by simp) rfl ?_
  intro k hk fr_ hfr
  simp only [go_sem] at hfr
  subst hfr
  by_cases hlt : k < l.length
  · have h1 : (k : Int) < (l.length : Int) := by omega
    have e := getD_map Pr.row l k hlt
    have ew := wrap1 k l.length hlt (by omega)
    have hp := hf _ (List.getElem_mem hlt)
    have es := encB_step l k hlt
    have sz := encL_len l hl hf k hk
    rw [← encB_size] at sz
    have s1 := textB_size l[k].key (by have := hp.ks; omega)
    have s2 := valB_size l[k].v hp.vs hp.lo hp.hi
    have k1 := hp.ks
    have k2 := hp.vs
    simp only [h1, e, go_sem]
    refine t_call_intro (rtext_den l[k].key (by omega)) ?_
    simp only [go_sem]
    refine t_gate_intro (by omega) ?_
    simp only [h1, e, go_sem]
    refine t_call_intro (rvenc_den l[k].v (by omega) hp.lo hp.hi) ?_
    simp only [go_sem]
    refine t_gate_intro (by first | omega | (rw [ByteArray.size_append]; omega)) ?_
    simp only [es, ew, go_sem]
    refine t_round (k + 1) (by omega) (by omega) (by simp) rfl rfl (by simp) rfl
  · have h1 : ¬ (k : Int) < (l.length : Int) := by omega
    have ek : k = l.length := by omega
    subst ek
    simp only [h1, go_sem]
    simp only [aresult, ares, go_sem]
/-! Decode -/
def pr0 : Pr := ⟨⟨#[]⟩, vl0⟩
def dPr (l : List UInt8) (a : Int) : Pr × Int × Int :=
  if (Cw.takeT l a 24).2.2 ≠ 0 then (pr0, 0, (Cw.takeT l a 24).2.2)
  else (⟨⟨(Cw.takeT l a 24).1.toArray⟩, (decV l (Cw.takeT l a 24).2.1).1⟩, (decV l (Cw.takeT l a 24).2.1).2.1, (decV l (Cw.takeT l a 24).2.1).2.2)
def prSt (l : List UInt8) (a : Int) : Nat → List Pr × Int × Int
  | 0 => ([], a, 0)
  | k + 1 => if (prSt l a k).2.2 ≠ 0 then prSt l a k else ((prSt l a k).1 ++ [(dPr l (prSt l a k).2.1).1], (dPr l (prSt l a k).2.1).2.1, (dPr l (prSt l a k).2.1).2.2)
theorem prSt_err (l : List UInt8) (a : Int) (k : Nat) (h : (prSt l a k).2.2 ≠ 0) : ∀ n, k ≤ n → prSt l a n = prSt l a k
  | n, hn => by
    induction n with
    | zero => rw [show k = 0 by omega]
    | succ n ih =>
      by_cases hk : k = n + 1
      · rw [hk]
      · have ih := ih (by omega)
        show (if (prSt l a n).2.2 ≠ 0 then prSt l a n else _) = _
        rw [if_pos (by rw [ih]; exact h), ih]
theorem prSt_ok (l : List UInt8) (a : Int) (k : Nat) (h : (prSt l a k).2.2 = 0) : prSt l a (k + 1) = ((prSt l a k).1 ++ [(dPr l (prSt l a k).2.1).1], (dPr l (prSt l a k).2.1).2.1, (dPr l (prSt l a k).2.1).2.2) := if_neg (by simp [h])
theorem prSt_len (l : List UInt8) (a : Int) : ∀ k, (prSt l a k).1.length ≤ k
  | 0 => Nat.le_refl _
  | k + 1 => by
    have ih := prSt_len l a k
    by_cases he : (prSt l a k).2.2 = 0
    · rw [prSt_ok l a k he]; simp; omega
    · rw [prSt_err l a k he (k + 1) (by omega)]; omega
theorem dPr_in (l : List UInt8) (a : Int) : (dPr l a).1.key.size ≤ l.length ∧ (dPr l a).1.v.s.size ≤ l.length ∧ -Cw.M63 ≤ (dPr l a).1.v.n ∧ (dPr l a).1.v.n < Cw.M63 := by
  unfold dPr
  split
  · exact ⟨Nat.zero_le _, Nat.zero_le _, m63_0.1, m63_0.2⟩
  · exact ⟨by rw [bsize]; exact takeT_sz l a 24, decV_in l _⟩
theorem prSt_in (l : List UInt8) (a : Int) : ∀ k, ∀ p ∈ (prSt l a k).1, p.key.size ≤ l.length ∧ p.v.s.size ≤ l.length ∧ -Cw.M63 ≤ p.v.n ∧ p.v.n < Cw.M63
  | 0, p, h => by cases h
  | k + 1, p, h => by
    by_cases he : (prSt l a k).2.2 = 0
    · rw [prSt_ok l a k he] at h
      rcases List.mem_append.1 h with h | h
      · exact prSt_in l a k p h
      · rw [List.mem_singleton.1 h]; exact dPr_in l _
    · rw [prSt_err l a k he (k + 1) (by omega)] at h
      exact prSt_in l a k p h
def dC (l : List UInt8) (a : Int) := Cw.takeC l a 2147483647
theorem dC_le (l : List UInt8) (a : Int) : ((dC l a).1 : Int) ≤ 2147483647 := takeC_le l a 2147483647 (by omega)
def decS (l : List UInt8) (a : Int) : List Pr × Int × Int :=
  if (dC l a).2.2 ≠ 0 then ([], 0, (dC l a).2.2)
  else if (prSt l (dC l a).2.1 (dC l a).1).2.2 ≠ 0 then ([], 0, (prSt l (dC l a).2.1 (dC l a).1).2.2)
  else if stateV (prSt l (dC l a).2.1 (dC l a).1).1 = true then ((prSt l (dC l a).2.1 (dC l a).1).1, (prSt l (dC l a).2.1 (dC l a).1).2.1, 0)
  else ([], 0, 5)
def decSN (l : List UInt8) (a : Int) : AV :=
  if (dC l a).2.2 ≠ 0 then .tup [.a .nils, .a (.int .i64 0), .a (.int .i64 (dC l a).2.2)]
  else if (prSt l (dC l a).2.1 (dC l a).1).2.2 ≠ 0 then .tup [.a .nils, .a (.int .i64 0), .a (.int .i64 (prSt l (dC l a).2.1 (dC l a).1).2.2)]
  else if stateV (prSt l (dC l a).2.1 (dC l a).1).1 = true then .tup [.a (.slice 4 ((prSt l (dC l a).2.1 (dC l a).1).1.map Pr.row)), .a (.int .i64 (prSt l (dC l a).2.1 (dC l a).1).2.1), .a (.int .i64 0)]
  else .tup [.a .nils, .a (.int .i64 0), .a (.int .i64 5)]
def decSV (x : List Pr × Int × Int) : AV := .tup [.a (.slice 4 (x.1.map Pr.row)), .a (.int .i64 x.2.1), .a (.int .i64 x.2.2)]
theorem decSN_le (l : List UInt8) (a : Int) : VLe (decSN l a) (decSV (decS l a)) := by
  have z : ∀ e : Int, VLe (.tup [.a .nils, .a (.int .i64 0), .a (.int .i64 e)]) (decSV ([], 0, e)) := fun e => VLe.tup ⟨VLe.a (RLe.nils 4), VLe.refl _, VLe.refl _, trivial⟩
  unfold decSN decS
  by_cases h1 : (dC l a).2.2 ≠ 0
  · rw [if_pos h1, if_pos h1]; exact z _
  · rw [if_neg h1, if_neg h1]
    by_cases h2 : (prSt l (dC l a).2.1 (dC l a).1).2.2 ≠ 0
    · rw [if_pos h2, if_pos h2]; exact z _
    · rw [if_neg h2, if_neg h2]
      by_cases h3 : stateV (prSt l (dC l a).2.1 (dC l a).1).1 = true
      · rw [if_pos h3, if_pos h3]; exact VLe.refl _
      · rw [if_neg h3, if_neg h3]; exact z _
set_option maxHeartbeats 4000000 in
theorem sdec_N (s : ByteArray) (at_ : Int) (hs0 : s.size ≤ 1073741824) : PDen Try.prog 5 [.a (.str s), .a (.int .i64 at_)] (decSN s.data.toList at_) := by
  have hC := wtakecount_den s at_ 2147483647 hs0 (by omega)
  have hT := fun a' => wtaketext_den s a' 24 hs0 (by omega)
  have hD := fun a' => vdec_den s a' hs0
  have hLn : s.data.toList.length ≤ 1073741824 := by rw [dsize]; exact hs0
  generalize hL : s.data.toList = L at hC hD hT hLn ⊢
  have hn := dC_le L at_
  have eC : takeCV L at_ 2147483647 = .tup [.a (.int .i64 (dC L at_).1), .a (.int .i64 (dC L at_).2.1), .a (.int .i64 (dC L at_).2.2)] := rfl
  rw [eC] at hC
  unfold decSN
  generalize dC L at_ = C at hC hn ⊢
  obtain ⟨n, a1, e1⟩ := C
  simp only [] at hC hn ⊢
  refine den_of_body k_state_Decode ⟨rfl, Nat.le_of_ble_eq_true rfl, thaw_intro ?_⟩
  unfold c_state_Decode
  simp only [go_sem]
  refine t_call_intro (hC) ?_
  by_cases he1 : e1 = 0
  rotate_left
  · have n1 : (e1 != 0) = true := by simpa using he1
    rw [if_pos he1]
    simp only [n1, go_sem]
    simp only [aresult, ares, go_sem]
  have n1 : (e1 != 0) = false := by simpa using he1
  rw [if_neg (by simpa using he1)]
  simp only [n1, go_sem]
  refine t_loopO_intro [.slot 9 41 4] (fun k : Nat => k ≤ n ∧ ((prSt L a1 k).2.2 = 0 ∧ (prSt L a1 k).1.length = k)) (fun k => n - k) 0 [1, 4, 5, 6, 9, 10, 11, 12, 13, 14, 26, 27, 28, 29, 30, 31, 32, 33, 34, 35, 36, 37, 38, 39, 40, 41, 42, 43, 44, 45, 46, 47, 48, 49, 50, 51, 52, 53, 54, 55] (fun k => [(1, .a (.int .i64 (prSt L a1 k).2.1)), (9, .own 0), (15, .any), (18, .any), (26, .a (.int .i64 k))]) (fun k => []) (fun k => [⟨41, 4, (prSt L a1 k).1.map Pr.row, false⟩]) ⟨by omega, by exact ⟨rfl, rfl⟩⟩ (by simp) (by first | (simp; done) | simp [prSt]) (by first | (simp; done) | simp [prSt]) (by first | (simp; done) | simp [prSt]) (fun k => by first | (simp; done) | simp [prSt]) (fun k => by first | (simp; done) | simp [prSt]) (fun k => by first | (simp; done) | simp [prSt]) ?_
  intro k hk0 st_ hst
  have hk : k ≤ n := hk0.1
  have hall := hk0.2
  clear hk0
  simp only [go_sem] at hst
  subst hst
  by_cases hlt : k < n
  · have h1 : (k : Int) < (n : Int) := by omega
    have ew := wrap1 k n hlt (by omega)
    obtain ⟨g1, g2⟩ := hall
    have es := prSt_ok L a1 k g1
    have hd := hT (prSt L a1 k).2.1
    unfold dPr at es
    unfold takeTV at hd
    generalize Cw.takeT L (prSt L a1 k).2.1 24 = T at hd es
    obtain ⟨tx, a2, e2⟩ := T
    simp only [] at hd es
    simp only [h1, go_sem]
    refine t_call_intro (hd) ?_
    by_cases he2 : e2 = 0
    · have n2 : (e2 != 0) = false := by simpa using he2
      rw [if_neg (by simpa using he2)] at es
      have hv := hD a2
      unfold decVV at hv
      generalize decV L a2 = V at hv es
      obtain ⟨v, a3, e3⟩ := V
      simp only [] at hv es
      simp only [n2, go_sem]
      refine t_call_intro (hv) ?_
      by_cases he3 : e3 = 0
      · have n3 : (e3 != 0) = false := by simpa using he3
        have eo : (prSt L a1 k).1.map Pr.row ++ [[.str ⟨tx.toArray⟩, .int .i64 v.kind, .int .i64 v.n, .str v.s]] = (prSt L a1 (k + 1)).1.map Pr.row := by rw [es]; simp [Pr.row]
        have ea : (prSt L a1 (k + 1)).2.1 = a3 := by rw [es]
        simp only [n3, go_sem]
        refine t_gate_intro (by first | omega | (simp; omega)) ?_
        simp only [eo, ew, go_sem]
        refine t_roundO (k + 1) ⟨by omega, ⟨by rw [es]; exact he3, by rw [es]; simp [g2]⟩⟩ (by omega) (by first | (simp; done) | simp [ea]) (by first | (simp; done) | simp [ea]) (by first | (simp; done) | simp [ea]) (by first | (simp; done) | simp [ea]) (by first | (simp; done) | simp [ea])
      · have n3 : (e3 != 0) = true := by simpa using he3
        have ef : prSt L a1 n = prSt L a1 (k + 1) := prSt_err L a1 (k + 1) (by rw [es]; exact he3) n (by omega)
        have e4 : (prSt L a1 n).2.2 = e3 := by rw [ef, es]
        rw [if_pos (by rw [e4]; exact he3), e4]
        simp only [n3, go_sem]
        simp only [aresult, ares, go_sem]
    · have n2 : (e2 != 0) = true := by simpa using he2
      rw [if_pos he2] at es
      have ef : prSt L a1 n = prSt L a1 (k + 1) := prSt_err L a1 (k + 1) (by rw [es]; exact he2) n (by omega)
      have e4 : (prSt L a1 n).2.2 = e2 := by rw [ef, es]
      rw [if_pos (by rw [e4]; exact he2), e4]
      simp only [n2, go_sem]
      simp only [aresult, ares, go_sem]
  · have h1 : ¬ (k : Int) < (n : Int) := by omega
    have hke : k = n := by omega
    subst hke
    obtain ⟨g1, g2⟩ := hall
    have hv := stateV_den (prSt L a1 k).1 (by omega) (fun p hp => by have := prSt_in L a1 k p hp; exact ⟨by omega, by omega⟩)
    rw [if_neg (by simp [g1])]
    simp only [h1, go_sem]
    refine t_call_intro (hv) ?_
    cases hq : stateV (prSt L a1 k).1 with
    | true =>
      rw [if_pos rfl]
      simp only [go_sem]
      simp only [aresult, ares, go_sem]
    | false =>
      rw [if_neg (by simp)]
      simp only [go_sem]
      simp only [aresult, ares, go_sem]
theorem sdec_den (s : ByteArray) (at_ : Int) (hs0 : s.size ≤ 1073741824) : PDen Try.prog 5 [.a (.str s), .a (.int .i64 at_)] (decSV (decS s.data.toList at_)) := (sdec_N s at_ hs0).le (decSN_le _ _)
set_option maxHeartbeats 4000000 in
theorem rsdec_N (s : ByteArray) (at_ : Int) (hs0 : s.size ≤ 1073741824) : PDen Try.prog 6 [.a (.str s), .a (.int .i64 at_)] (decSN s.data.toList at_) := by
  have hC := rtakecount_den s at_ 2147483647 hs0 (by omega)
  have hT := fun a' => rtaketext_den s a' 24 hs0 (by omega)
  have hD := fun a' => rvdec_den s a' hs0
  have hLn : s.data.toList.length ≤ 1073741824 := by rw [dsize]; exact hs0
  generalize hL : s.data.toList = L at hC hD hT hLn ⊢
  have hn := dC_le L at_
  have eC : takeCV L at_ 2147483647 = .tup [.a (.int .i64 (dC L at_).1), .a (.int .i64 (dC L at_).2.1), .a (.int .i64 (dC L at_).2.2)] := rfl
  rw [eC] at hC
  unfold decSN
  generalize dC L at_ = C at hC hn ⊢
  obtain ⟨n, a1, e1⟩ := C
  simp only [] at hC hn ⊢
  refine den_of_body k_ref06_Decode ⟨rfl, Nat.le_of_ble_eq_true rfl, thaw_intro ?_⟩
  unfold c_ref06_Decode
  simp only [go_sem]
  refine t_call_intro (hC) ?_
  by_cases he1 : e1 = 0
  rotate_left
  · have n1 : (e1 != 0) = true := by simpa using he1
    rw [if_pos he1]
    simp only [n1, go_sem]
    simp only [aresult, ares, go_sem]
  have n1 : (e1 != 0) = false := by simpa using he1
  rw [if_neg (by simpa using he1)]
  simp only [n1, go_sem]
  refine t_loopO_intro [.slot 10 41 4] (fun k : Nat => k ≤ n ∧ ((prSt L a1 k).2.2 = 0 ∧ (prSt L a1 k).1.length = k)) (fun k => n - k) 0 [4, 5, 6, 8, 10, 11, 12, 13, 14, 15, 16, 27, 28, 29, 30, 31, 32, 33, 34, 35, 36, 37, 38, 39, 40, 41, 42, 43, 44, 45, 46, 47, 48, 49, 50, 51, 52, 53, 54, 55, 56, 57, 58] (fun k => [(8, .a (.int .i64 (prSt L a1 k).2.1)), (10, .own 0), (17, .any), (20, .any), (11, .a (.int .i64 k))]) (fun k => []) (fun k => [⟨41, 4, (prSt L a1 k).1.map Pr.row, false⟩]) ⟨by omega, by exact ⟨rfl, rfl⟩⟩ (by simp) (by first | (simp; done) | simp [prSt]) (by first | (simp; done) | simp [prSt]) (by first | (simp; done) | simp [prSt]) (fun k => by first | (simp; done) | simp [prSt]) (fun k => by first | (simp; done) | simp [prSt]) (fun k => by first | (simp; done) | simp [prSt]) ?_
  intro k hk0 st_ hst
  have hk : k ≤ n := hk0.1
  have hall := hk0.2
  clear hk0
  simp only [go_sem] at hst
  subst hst
  by_cases hlt : k < n
  · have h1 : (k : Int) < (n : Int) := by omega
    have ew := wrap1 k n hlt (by omega)
    obtain ⟨g1, g2⟩ := hall
    have es := prSt_ok L a1 k g1
    have hd := hT (prSt L a1 k).2.1
    unfold dPr at es
    unfold takeTV at hd
    generalize Cw.takeT L (prSt L a1 k).2.1 24 = T at hd es
    obtain ⟨tx, a2, e2⟩ := T
    simp only [] at hd es
    simp only [h1, go_sem]
    refine t_call_intro (hd) ?_
    by_cases he2 : e2 = 0
    · have n2 : (e2 != 0) = false := by simpa using he2
      rw [if_neg (by simpa using he2)] at es
      have hv := hD a2
      unfold decVV at hv
      generalize decV L a2 = V at hv es
      obtain ⟨v, a3, e3⟩ := V
      simp only [] at hv es
      simp only [n2, go_sem]
      refine t_call_intro (hv) ?_
      by_cases he3 : e3 = 0
      · have n3 : (e3 != 0) = false := by simpa using he3
        have eo : (prSt L a1 k).1.map Pr.row ++ [[.str ⟨tx.toArray⟩, .int .i64 v.kind, .int .i64 v.n, .str v.s]] = (prSt L a1 (k + 1)).1.map Pr.row := by rw [es]; simp [Pr.row]
        have ea : (prSt L a1 (k + 1)).2.1 = a3 := by rw [es]
        simp only [n3, go_sem]
        refine t_gate_intro (by first | omega | (simp; omega)) ?_
        simp only [eo, ew, go_sem]
        refine t_roundO (k + 1) ⟨by omega, ⟨by rw [es]; exact he3, by rw [es]; simp [g2]⟩⟩ (by omega) (by first | (simp; done) | simp [ea]) (by first | (simp; done) | simp [ea]) (by first | (simp; done) | simp [ea]) (by first | (simp; done) | simp [ea]) (by first | (simp; done) | simp [ea])
      · have n3 : (e3 != 0) = true := by simpa using he3
        have ef : prSt L a1 n = prSt L a1 (k + 1) := prSt_err L a1 (k + 1) (by rw [es]; exact he3) n (by omega)
        have e4 : (prSt L a1 n).2.2 = e3 := by rw [ef, es]
        rw [if_pos (by rw [e4]; exact he3), e4]
        simp only [n3, go_sem]
        simp only [aresult, ares, go_sem]
    · have n2 : (e2 != 0) = true := by simpa using he2
      rw [if_pos he2] at es
      have ef : prSt L a1 n = prSt L a1 (k + 1) := prSt_err L a1 (k + 1) (by rw [es]; exact he2) n (by omega)
      have e4 : (prSt L a1 n).2.2 = e2 := by rw [ef, es]
      rw [if_pos (by rw [e4]; exact he2), e4]
      simp only [n2, go_sem]
      simp only [aresult, ares, go_sem]
  · have h1 : ¬ (k : Int) < (n : Int) := by omega
    have hke : k = n := by omega
    subst hke
    obtain ⟨g1, g2⟩ := hall
    have hv := rstateV_den (prSt L a1 k).1 (by omega) (fun p hp => by have := prSt_in L a1 k p hp; exact ⟨by omega, by omega⟩)
    rw [if_neg (by simp [g1])]
    simp only [h1, go_sem]
    refine t_call_intro (hv) ?_
    cases hq : stateV (prSt L a1 k).1 with
    | true =>
      rw [if_pos rfl]
      simp only [go_sem]
      simp only [aresult, ares, go_sem]
    | false =>
      rw [if_neg (by simp)]
      simp only [go_sem]
      simp only [aresult, ares, go_sem]
theorem rsdec_den (s : ByteArray) (at_ : Int) (hs0 : s.size ≤ 1073741824) : PDen Try.prog 6 [.a (.str s), .a (.int .i64 at_)] (decSV (decS s.data.toList at_)) := (rsdec_N s at_ hs0).le (decSN_le _ _)
end Go.Proofs.Ytpfaahnpbkeddaa
