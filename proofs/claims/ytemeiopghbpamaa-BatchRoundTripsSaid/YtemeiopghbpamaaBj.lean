/- Lists of requests: bytes. -/
import Derived.Test.YtemeiopghbpamaaBi
set_option linter.unusedSimpArgs false
set_option linter.unusedVariables false
namespace Go.Proofs.Ytemeiopghbpamaa
open Go Ab Go.RowKit
attribute [local irreducible] awp aops aop asoft aeff aloop acall acallI acallT
attribute [local go_sem] Vl.row sRow

theorem reqB_size (r : Req) (h : r.fit) : (reqB r).size ≤ 200000 := by
  by_cases he : reqE r = 0
  · have hr : reqB r = valsH (reqHead r) r.args r.args.length ++ boolBB r.dc ++ (if r.dc = true then keysB r.rd ++ keysB r.wt else ⟨#[]⟩) := if_pos he
    have ok := (reqE_ok r).1 he
    have c1 := ok.c1; have c2 := ok.c2; have s1 := ok.s1; have s2 := ok.s2; have ln := ok.ln; have ar := ok.ar
    have zn := nameV_size _ ok.nm
    have kr := asc_small _ ok.rd
    have kw := asc_small _ ok.wt
    have z1 := vintB_size r.cl.toNat (by rw [Cw.m64]; omega)
    have z2 := vintB_size r.sq.toNat (by rw [Cw.m64]; omega)
    have z3 := vintB_size r.args.length (m64_nat _ (by omega))
    have z4 := textB_size r.pr (by omega)
    have zk1 := keysH_size r.rd kr r.rd.length (Nat.le_refl _)
    have zk2 := keysH_size r.wt kw r.wt.length (Nat.le_refl _)
    have zl1 := kr.len
    have zl2 := kw.len
    have zb : (boolBB r.dc).size ≤ 1 := by cases r.dc <;> decide
    have zh : (reqHead r).size ≤ 60 := by unfold reqHead; simp only [ByteArray.size_append]; omega
    have zv := valsH_size (reqHead r) r.args (fun v hv => (ar v hv).1) h.ns r.args.length (Nat.le_refl _)
    have zt : (if r.dc = true then keysB r.rd ++ keysB r.wt else (⟨#[]⟩ : ByteArray)).size ≤ 140000 := by
      split
      · rw [ByteArray.size_append]; unfold keysB; omega
      · exact Nat.zero_le _
    rw [hr]
    simp only [ByteArray.size_append]
    omega
  · have hr : reqB r = ⟨#[]⟩ := if_neg he
    rw [hr]; exact Nat.zero_le _
def encH (l : List Req) (k : Nat) : ByteArray := (l.take k).foldl (fun acc r => acc ++ reqB r) (vintB l.length)
theorem encH_zero (l : List Req) : encH l 0 = vintB l.length := rfl
theorem encH_step (l : List Req) (k : Nat) (h : k < l.length) : encH l (k + 1) = encH l k ++ reqB l[k] := by
  unfold encH
  rw [List.take_succ_eq_append_getElem h, List.foldl_append]; rfl
theorem encH_size (l : List Req) (hl : l.length ≤ 64) (hf : ∀ r ∈ l, r.fit) : ∀ k, k ≤ l.length → (encH l k).size ≤ 10 + k * 200000
  | 0, _ => by rw [encH_zero]; have := vintB_size l.length (m64_nat _ (by omega)); omega
  | k + 1, h => by
    have ih := encH_size l hl hf k (by omega)
    have := reqB_size l[k] (hf _ (List.getElem_mem (by omega)))
    rw [encH_step l k (by omega), ByteArray.size_append]; omega
def encReqs (l : List Req) : ByteArray := if 64 < l.length then ⟨#[]⟩ else if ∀ r ∈ l, reqE r = 0 then encH l l.length else ⟨#[]⟩
theorem all_take (l : List Req) (k : Nat) (h : k < l.length) (ha : ∀ r ∈ l.take k, reqE r = 0) (hk : reqE l[k] = 0) : ∀ r ∈ l.take (k + 1), reqE r = 0 := by
  intro r hr
  rw [List.take_succ_eq_append_getElem h] at hr
  rcases List.mem_append.1 hr with hr | hr
  · exact ha r hr
  · rw [List.mem_singleton.1 hr]; exact hk
theorem not_all (l : List Req) (k : Nat) (h : k < l.length) (hk : reqE l[k] ≠ 0) (hl : l.length ≤ 64) : encReqs l = ⟨#[]⟩ := by
  unfold encReqs
  rw [if_neg (by omega), if_neg (fun ha => hk (ha _ (List.getElem_mem h)))]

set_option maxRecDepth 100000 in
set_option maxHeartbeats 4000000 in
theorem encReqs_den (l : List Req) (hl : l.length ≤ 9223372036854775807) (hf : ∀ r ∈ l, r.fit) : PDen Try.prog 10 [.a (.slice 8 (l.map Req.row))] (.a (.str (encReqs l))) := by
  by_cases h64 : 64 < l.length
  · have q : (64 : Int) < (l.length : Int) := by omega
    have er : encReqs l = ⟨#[]⟩ := if_pos h64
    rw [er]
    refine den_of_body k_batch_Encode ⟨rfl, Nat.le_of_ble_eq_true rfl, thaw_intro ?_⟩
    unfold c_batch_Encode
    simp only [q, go_sem]
    simp only [aresult, ares, go_sem]
  have q : ¬ (64 : Int) < (l.length : Int) := by omega
  have hu := wuint_den (l.length : Int) (by omega) (m64_nat _ hl)
  rw [Int.toNat_natCast, ← encH_zero] at hu
  have ewu := u64_nat l.length hl
  have zs := encH_size l (by omega) hf
  refine den_of_body k_batch_Encode ⟨rfl, Nat.le_of_ble_eq_true rfl, thaw_intro ?_⟩
  unfold c_batch_Encode
  simp only [q, ewu, go_sem]
  refine t_call_intro (hu) ?_
  simp only [go_sem]
  refine t_loop_intro (fun k : Nat => k ≤ l.length ∧ (∀ r ∈ l.take k, reqE r = 0)) (fun k => l.length - k) 0 [2, 3, 5, 15, 16, 17, 18, 19, 20, 21, 22, 23, 24, 25, 26] (fun k => [(3, .a (.str (encH l k))), (15, .a (.int .i64 k))]) ⟨by omega, by simp⟩ (by simp) (fun k => by simp) rfl ?_
  intro k hk0 fr_ hfr
  have hk : k ≤ l.length := hk0.1
  have hall := hk0.2
  clear hk0
  simp only [go_sem] at hfr
  subst hfr
  by_cases hlt : k < l.length
  · have h1 : (k : Int) < (l.length : Int) := by omega
    have e := getD_map Req.row l k hlt
    have er := rowr l[k]
    have ew := wrap1 k l.length hlt (by omega)
    have hm := hf _ (List.getElem_mem hlt)
    have hE := reqE_den l[k] hm
    have hB := reqB_den l[k] hm
    rw [er] at hE hB e
    have es := encH_step l k hlt
    have z1 := zs k hk
    have z2 := reqB_size l[k] hm
    simp only [h1, e, go_sem]
    refine t_call_intro (hE) ?_
    simp only [go_sem]
    by_cases he : reqE l[k] = 0
    · have n0 : (reqE l[k] != 0) = false := by simp [he]
      simp only [n0, h1, e, go_sem]
      refine t_call_intro (hB) ?_
      simp only [go_sem]
      refine t_gate_intro (by first | omega | (simp; omega)) ?_
      simp only [ew, go_sem]
      refine t_round (k + 1) ⟨by omega, all_take l k hlt hall he⟩ (by omega) (by first | (simp; done) | simp [es]) rfl rfl (by simp) rfl
    · have n0 : (reqE l[k] != 0) = true := by simp [he]
      rw [not_all l k hlt he (by omega)]
      simp only [n0, go_sem]
      simp only [aresult, ares, go_sem]
  · have h1 : ¬ (k : Int) < (l.length : Int) := by omega
    have hke : k = l.length := by omega
    subst hke
    have er : encReqs l = encH l l.length := by
      unfold encReqs
      rw [if_neg h64, if_pos (by intro r hr; exact hall r (by rw [List.take_length]; exact hr))]
    rw [er]
    simp only [h1, go_sem]
    simp only [aresult, ares, go_sem]

theorem rsSt_err (l : List UInt8) (a : Int) (k : Nat) (h : (rsSt l a k).2.2 ≠ 0) : ∀ n, k ≤ n → rsSt l a n = rsSt l a k
  | n, hn => by
    induction n with
    | zero => rw [show k = 0 by omega]
    | succ n ih =>
      by_cases hk : k = n + 1
      · rw [hk]
      · have ih := ih (by omega)
        show (if (rsSt l a n).2.2 ≠ 0 then rsSt l a n else _) = _
        rw [if_pos (by rw [ih]; exact h), ih]
theorem rsSt_ok (l : List UInt8) (a : Int) (k : Nat) (h : (rsSt l a k).2.2 = 0) : rsSt l a (k + 1) = ((rsSt l a k).1 ++ [(decReq l (rsSt l a k).2.1).1], (decReq l (rsSt l a k).2.1).2.1, (decReq l (rsSt l a k).2.1).2.2) := if_neg (by simp [h])
def rqC64 (l : List UInt8) (a : Int) := Cw.takeC l a 64
def decReqsN (l : List UInt8) (a : Int) : AV :=
  if (rqC64 l a).2.2 ≠ 0 then .tup [.a .nils, .a (.int .i64 0), .a (.int .i64 (rqC64 l a).2.2)]
  else if (rsSt l (rqC64 l a).2.1 (rqC64 l a).1).2.2 ≠ 0 then .tup [.a .nils, .a (.int .i64 0), .a (.int .i64 (rsSt l (rqC64 l a).2.1 (rqC64 l a).1).2.2)]
  else .tup [.a (.slice 8 ((rsSt l (rqC64 l a).2.1 (rqC64 l a).1).1.map Req.row)), .a (.int .i64 (rsSt l (rqC64 l a).2.1 (rqC64 l a).1).2.1), .a (.int .i64 0)]
def decReqsV (x : List Req × Int × Int) : AV := .tup [.a (.slice 8 (x.1.map Req.row)), .a (.int .i64 x.2.1), .a (.int .i64 x.2.2)]
theorem decReqsN_le (l : List UInt8) (a : Int) : VLe (decReqsN l a) (decReqsV (decReqs l a)) := by
  unfold decReqsN decReqsV decReqs
  show VLe (if (Cw.takeC l a 64).2.2 ≠ 0 then _ else _) _
  split
  · exact VLe.tup ⟨VLe.a (RLe.nils 8), VLe.refl _, VLe.refl _, trivial⟩
  · show VLe (if (rsSt l (Cw.takeC l a 64).2.1 (Cw.takeC l a 64).1).2.2 ≠ 0 then _ else _) _
    split
    · exact VLe.tup ⟨VLe.a (RLe.nils 8), VLe.refl _, VLe.refl _, trivial⟩
    · rename_i h
      have h : (rsSt l (Cw.takeC l a 64).2.1 (Cw.takeC l a 64).1).2.2 = 0 := by simpa using h
      rw [h]
      exact VLe.refl _
theorem rqC64_le (l : List UInt8) (a : Int) : ((rqC64 l a).1 : Int) ≤ 64 := takeC_le l a 64 (by omega)

set_option maxRecDepth 100000 in
set_option maxHeartbeats 4000000 in
theorem decReqs_N (s : ByteArray) (at_ : Int) (hs0 : s.size ≤ 1073741824) : PDen Try.prog 14 [.a (.str s), .a (.int .i64 at_)] (decReqsN s.data.toList at_) := by
  have hC := wtakecount_den s at_ 64 hs0 (by omega)
  have hD := fun a' => decReq_den s a' hs0
  generalize hL : s.data.toList = L at hC hD ⊢
  have hn := rqC64_le L at_
  have eC : takeCV L at_ 64 = .tup [.a (.int .i64 (rqC64 L at_).1), .a (.int .i64 (rqC64 L at_).2.1), .a (.int .i64 (rqC64 L at_).2.2)] := rfl
  rw [eC] at hC
  unfold decReqsN
  generalize rqC64 L at_ = C at hC hn ⊢
  obtain ⟨n, a1, e1⟩ := C
  simp only [] at hC hn ⊢
  refine den_of_body k_batch_Decode ⟨rfl, Nat.le_of_ble_eq_true rfl, thaw_intro ?_⟩
  unfold c_batch_Decode
  simp only [go_sem]
  refine t_call_intro (hC) ?_
  by_cases he1 : e1 = 0
  rotate_left
  · have n1 : (e1 != 0) = true := by simpa using he1
    rw [if_pos he1]
    simp only [n1, go_sem]
    simp only [aresult, ares, go_sem]
  have n1 : (e1 != 0) = false := by simpa using he1
  rw [if_neg (by simpa using he1)]
  simp only [n1, go_sem]
  refine t_loopO_intro [.slot 10 31 8] (fun k : Nat => k ≤ n ∧ ((rsSt L a1 k).2.2 = 0 ∧ (rsSt L a1 k).1.length = k)) (fun k => n - k) 0 [4, 5, 6, 8, 10, 11, 12, 13, 25, 26, 27, 28, 29, 30, 31, 32, 33, 34, 35, 36, 37, 38, 39, 40, 41, 42] (fun k => [(8, .a (.int .i64 (rsSt L a1 k).2.1)), (10, .own 0), (14, .any), (17, .any), (25, .a (.int .i64 k))]) (fun k => []) (fun k => [⟨31, 8, (rsSt L a1 k).1.map Req.row, false⟩]) ⟨by omega, by exact ⟨rfl, rfl⟩⟩ (by simp) (by first | (simp; done) | simp [rsSt]) (by first | (simp; done) | simp [rsSt]) (by first | (simp; done) | simp [rsSt]) (fun k => by first | (simp; done) | simp [rsSt]) (fun k => by first | (simp; done) | simp [rsSt]) (fun k => by first | (simp; done) | simp [rsSt]) ?_
  intro k hk0 st_ hst
  have hk : k ≤ n := hk0.1
  have hall := hk0.2
  clear hk0
  simp only [go_sem] at hst
  subst hst
  by_cases hlt : k < n
  · have h1 : (k : Int) < (n : Int) := by omega
    have ew := wrap1 k n hlt (by omega)
    obtain ⟨g1, g2⟩ := hall
    have es := rsSt_ok L a1 k g1
    have hd := hD (rsSt L a1 k).2.1
    unfold decReqV at hd
    rw [rowr] at hd
    generalize hx : decReq L (rsSt L a1 k).2.1 = X at hd es
    obtain ⟨x, a2, e2⟩ := X
    simp only [] at hd es
    simp only [h1, go_sem]
    refine t_call_intro (hd) ?_
    by_cases he2 : e2 = 0
    · have n2 : (e2 != 0) = false := by simpa using he2
      have eo : (rsSt L a1 k).1.map Req.row ++ [[.int .i64 x.cl, .int .i64 x.sq, .str x.pr, .slice 3 (x.args.map Vl.row), .bool x.dc, .bool x.al, .slice 1 (x.rd.map sRow), .slice 1 (x.wt.map sRow)]] = (rsSt L a1 (k + 1)).1.map Req.row := by rw [es]; simp [rowr]
      have ea : (rsSt L a1 (k + 1)).2.1 = a2 := by rw [es]
      simp only [n2, go_sem]
      refine t_gate_intro (by first | omega | (simp; omega)) ?_
      simp only [eo, ew, go_sem]
      refine t_roundO (k + 1) ⟨by omega, ⟨by rw [es]; exact he2, by rw [es]; simp [g2]⟩⟩ (by omega) (by first | (simp; done) | simp [ea]) (by first | (simp; done) | simp [ea]) (by first | (simp; done) | simp [ea]) (by first | (simp; done) | simp [ea]) (by first | (simp; done) | simp [ea])
    · have n2 : (e2 != 0) = true := by simpa using he2
      have ef : rsSt L a1 n = rsSt L a1 (k + 1) := rsSt_err L a1 (k + 1) (by rw [es]; exact he2) n (by omega)
      have e3 : (rsSt L a1 n).2.2 = e2 := by rw [ef, es]
      rw [if_pos (by rw [e3]; exact he2), e3]
      simp only [n2, go_sem]
      simp only [aresult, ares, go_sem]
  · have h1 : ¬ (k : Int) < (n : Int) := by omega
    have hke : k = n := by omega
    subst hke
    rw [if_neg (by simp [hall.1])]
    simp only [h1, go_sem]
    simp only [aresult, ares, go_sem]
theorem decReqs_den (s : ByteArray) (at_ : Int) (hs0 : s.size ≤ 1073741824) : PDen Try.prog 14 [.a (.str s), .a (.int .i64 at_)] (decReqsV (decReqs s.data.toList at_)) := (decReqs_N s at_ hs0).le (decReqsN_le _ _)

end Go.Proofs.Ytemeiopghbpamaa
