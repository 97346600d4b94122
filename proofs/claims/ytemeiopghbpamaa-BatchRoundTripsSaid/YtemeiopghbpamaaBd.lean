/- Requests: their bytes; contracts of the abstract layer. -/
import Derived.Test.YtemeiopghbpamaaBc
set_option linter.unusedSimpArgs false
set_option linter.unusedVariables false
namespace Go.Proofs.Ytemeiopghbpamaa
open Go Ab Go.RowKit
attribute [local irreducible] awp aops aop asoft aeff aloop acall acallI acallT
attribute [local go_sem] Vl.row sRow fpRow Req.row

def keysH (l : List ByteArray) (k : Nat) : ByteArray := (l.take k).foldl (fun acc s => acc ++ textB s) (vintB l.length)
def keysB (l : List ByteArray) : ByteArray := keysH l l.length
theorem keysH_zero (l : List ByteArray) : keysH l 0 = vintB l.length := by simp [keysH]
theorem keysH_step (l : List ByteArray) (k : Nat) (h : k < l.length) : keysH l (k + 1) = keysH l k ++ textB l[k] := by
  unfold keysH
  rw [List.take_succ_eq_append_getElem h, List.foldl_append]; rfl
structure KeysSmall (l : List ByteArray) : Prop where
  len : l.length ≤ 64
  all : ∀ s ∈ l, s.size ≤ 1024
theorem keysH_size (l : List ByteArray) (hf : KeysSmall l) : ∀ k, k ≤ l.length → (keysH l k).size ≤ 10 + k * 1034
  | 0, _ => by
    rw [keysH_zero]
    have := vintB_size l.length (by have := hf.len; rw [Cw.m64]; omega)
    omega
  | k + 1, h => by
    have ih := keysH_size l hf k (by omega)
    have h1 := hf.all _ (List.getElem_mem (show k < l.length by omega))
    have h2 := textB_size l[k] (by omega)
    rw [keysH_step l k (by omega), ByteArray.size_append]
    omega
theorem u64_nat (n : Nat) (h : n ≤ 9223372036854775807) : IntKind.u64.wrap (n : Int) = (n : Int) := by rw [IntKind.wrap_u64]; omega
theorem m64_nat (n : Nat) (h : n ≤ 9223372036854775807) : (n : Int) < Cw.M64 := by rw [Cw.m64]; omega
set_option maxRecDepth 100000 in
set_option maxHeartbeats 4000000 in
theorem keysB_den (l : List ByteArray) (hf : KeysSmall l) : PDen Try.prog 25 [.a (.slice 1 (l.map sRow))] (.a (.str (keysB l))) := by
  have hl := hf.len
  have hu := wuint_den (l.length : Int) (by omega) (m64_nat _ (by omega))
  rw [Int.toNat_natCast, ← keysH_zero] at hu
  have ewu := u64_nat l.length (by omega)
  refine den_of_body k_batch_texts ⟨rfl, Nat.le_of_ble_eq_true rfl, thaw_intro ?_⟩
  unfold c_batch_texts
  simp only [ewu, go_sem]
  refine t_call_intro (hu) ?_
  simp only [go_sem]
  refine t_loop_intro (fun k : Nat => k ≤ l.length) (fun k => l.length - k) 0 [3, 5, 12, 13, 14, 15, 16, 17, 18, 19, 20] (fun k => [(3, .a (.str (keysH l k))), (12, .a (.int .i64 k))]) (by omega) (by simp) (fun k => by simp) rfl ?_
  intro k hk fr_ hfr
  simp only [go_sem] at hfr
  subst hfr
  by_cases hlt : k < l.length
  · have h1 : (k : Int) < (l.length : Int) := by omega
    have e := getD_map sRow l k hlt
    have er : sRow l[k] = [.str l[k]] := rfl
    have ew := wrap1 k l.length hlt (by omega)
    have es := keysH_step l k hlt
    have hk1 := hf.all _ (List.getElem_mem hlt)
    have z1 := keysH_size l hf k (by omega)
    have z2 := textB_size l[k] (by omega)
    simp only [h1, e, er, go_sem]
    refine t_call_intro (wtext_den l[k] (by omega)) ?_
    simp only [go_sem]
    refine t_gate_intro (by first | omega | (simp; omega)) ?_
    simp only [ew, go_sem]
    refine t_round (k + 1) (by omega) (by omega) (by first | (simp; done) | simp [es]) rfl rfl (by simp) rfl
  · have h1 : ¬ (k : Int) < (l.length : Int) := by omega
    have hke : k = l.length := by omega
    subst hke
    simp only [h1, go_sem]
    simp only [aresult, ares, go_sem]
    rfl
theorem app_nil (x : ByteArray) : x ++ (⟨#[]⟩ : ByteArray) = x := by apply ByteArray.ext; simp
def valsH (h : ByteArray) (l : List Vl) (k : Nat) : ByteArray := (l.take k).foldl (fun acc v => acc ++ valB v) h
theorem valsH_zero (h : ByteArray) (l : List Vl) : valsH h l 0 = h := by simp [valsH]
theorem valsH_step (h : ByteArray) (l : List Vl) (k : Nat) (hk : k < l.length) : valsH h l (k + 1) = valsH h l k ++ valB l[k] := by
  unfold valsH
  rw [List.take_succ_eq_append_getElem hk, List.foldl_append]; rfl
theorem valV_size (v : Vl) (h : valV v = true) : v.s.size ≤ 64 := by
  unfold valV at h
  have e0 : (v.s.toList == []) = true → v.s.size ≤ 64 := fun hh => by
    rw [size0] at hh; have := of_decide_eq_true hh; omega
  split at h
  · exact e0 (by simp only [Bool.and_eq_true] at h; exact h.2)
  · split at h
    · exact e0 h
    · split at h
      · unfold plainV at h
        simp only [Bool.and_eq_true, decide_eq_true_eq] at h
        exact h.2.1
      · cases h
theorem valB_size (v : Vl) (h : valV v = true) (h0 : -Cw.M63 ≤ v.n) (h1 : v.n < Cw.M63) : (valB v).size ≤ 100 := by
  have s1 : (vintB 1).size ≤ 10 := vintB_size 1 m64_1
  have s2 : (vintB 2).size ≤ 10 := vintB_size 2 m64_2
  have s0 : (vintB 0).size ≤ 10 := vintB_size 0 m64_0
  have s3 : (vintB (Cw.fold v.n)).size ≤ 10 := vintB_size _ (Cw.fold_lt v.n h0 h1)
  have s4 := valV_size v h
  have s5 := textB_size v.s (by omega)
  unfold valB
  split
  · rw [ByteArray.size_append]; omega
  · split
    · rw [ByteArray.size_append]; omega
    · omega
def reqHead (r : Req) : ByteArray := vintB r.cl.toNat ++ vintB r.sq.toNat ++ textB r.pr ++ vintB r.args.length
def reqB (r : Req) : ByteArray := if reqE r = 0 then valsH (reqHead r) r.args r.args.length ++ boolBB r.dc ++ (if r.dc = true then keysB r.rd ++ keysB r.wt else ⟨#[]⟩) else ⟨#[]⟩
/-- What a request without an error is. -/
structure Req.ok (r : Req) : Prop where
  c1 : 1 ≤ r.cl
  c2 : r.cl ≤ 32
  s1 : 1 ≤ r.sq
  s2 : r.sq ≤ 1099511627776
  nm : nameV r.pr = true
  ln : r.args.length ≤ 6
  ar : ∀ v ∈ r.args, valV v = true ∧ v.kind ≠ 0
  al : r.al = false
  rd : ascK none r.rd = true ∧ r.rd.length ≤ 64
  wt : ascK none r.wt = true ∧ r.wt.length ≤ 64
  un : r.dc = false → r.rd = [] ∧ r.wt = []
theorem reqE_ok (r : Req) : reqE r = 0 ↔ r.ok := by
  obtain ⟨cl, sq, pr, args, dc, al, rd, wt⟩ := r
  constructor
  · intro h
    unfold reqE at h
    simp only at h
    split at h
    · cases h
    · rename_i h1
      split at h
      · cases h
      · rename_i h2
        split at h
        · cases h
        · rename_i h3
          split at h
          · cases h
          · rename_i h4
            split at h
            · cases h
            · rename_i h5
              have hal : al = false := by cases al; rfl; exact absurd (.inr (.inl rfl)) h5
              subst hal
              have hfp : fpV false rd wt = true := by cases hq : fpV false rd wt; exact absurd (.inl hq) h5; rfl
              rw [show fpV false rd wt = ((ascK none rd && decide (rd.length ≤ 64)) && (ascK none wt && decide (wt.length ≤ 64))) from if_neg (by simp)] at hfp
              simp only [Bool.and_eq_true, decide_eq_true_eq] at hfp
              refine ⟨by simp only; omega, by simp only; omega, by simp only; omega, by simp only; omega, by simpa using h2, by simp only; omega, fun v hv => ?_, rfl, hfp.1, hfp.2, fun hd => ?_⟩
              · have h4 : args.any argBad = false := by simpa using h4
                have := List.any_eq_false.1 h4 v hv
                unfold argBad at this
                simp only [Bool.or_eq_true, beq_iff_eq, Bool.not_eq_true', not_or, Bool.not_eq_false] at this
                exact ⟨this.2, this.1⟩
              · simp only at hd
                have : ¬ 0 < rd.length + wt.length := fun hs => h5 (.inr (.inr ⟨hd, hs⟩))
                show rd = [] ∧ wt = []
                exact ⟨List.eq_nil_of_length_eq_zero (by omega), List.eq_nil_of_length_eq_zero (by omega)⟩
  · intro h
    have hc := h.c1; have hc2 := h.c2; have hs := h.s1; have hs2 := h.s2; have hl := h.ln
    have hal := h.al
    simp only at hc hc2 hs hs2 hl hal
    subst hal
    refine (if_neg (by simp only; omega)).trans ((if_neg (by rw [h.nm]; simp)).trans ((if_neg (by simp only; omega)).trans ((if_neg ?_).trans (if_neg ?_))))
    · intro hb
      obtain ⟨v, hv, hb⟩ := List.any_eq_true.1 hb
      have := h.ar v hv
      unfold argBad at hb
      simp [this.1, this.2] at hb
    · rintro (hh | hh | hh)
      · rw [show fpV false rd wt = ((ascK none rd && decide (rd.length ≤ 64)) && (ascK none wt && decide (wt.length ≤ 64))) from if_neg (by simp)] at hh
        have r1 := h.rd; have r2 := h.wt
        simp only at r1 r2
        rw [r1.1, r2.1, decide_eq_true r1.2, decide_eq_true r2.2] at hh
        cases hh
      · cases hh
      · have := h.un hh.1
        simp only at this
        rw [this.1, this.2] at hh
        simp at hh
theorem ascK_keys : ∀ (l : List ByteArray) (p : Option ByteArray), ascK p l = true → ∀ s ∈ l, keyV s = true
  | [], _, _ => fun s hs => by cases hs
  | x :: xs, p, h => fun s hs => by
    simp only [ascK, Bool.and_eq_true] at h
    rcases List.mem_cons.1 hs with rfl | hs
    · exact h.1.1
    · exact ascK_keys xs (some x) h.2 s hs
theorem keyV_size (s : ByteArray) (h : keyV s = true) : s.size ≤ 24 := by
  unfold keyV bytesOk at h
  simp only [Bool.and_eq_true, decide_eq_true_eq] at h
  exact h.2.1
theorem asc_small (l : List ByteArray) (h : ascK none l = true ∧ l.length ≤ 64) : KeysSmall l :=
  ⟨h.2, fun s hs => by have := keyV_size s (ascK_keys l none h.1 s hs); omega⟩
theorem nameV_size (s : ByteArray) (h : nameV s = true) : s.size ≤ 16 := by
  unfold nameV at h
  split at h
  · cases h
  · simp only [Bool.and_eq_true, decide_eq_true_eq] at h
    exact h.1.1.1
theorem u64_small (x : Int) (h0 : 0 ≤ x) (h1 : x ≤ 9223372036854775807) : IntKind.u64.wrap x = x := by rw [IntKind.wrap_u64]; omega
theorem valsH_size (h : ByteArray) (l : List Vl) (ha : ∀ v ∈ l, valV v = true) (hn : ∀ v ∈ l, -Cw.M63 ≤ v.n ∧ v.n < Cw.M63) : ∀ k, k ≤ l.length → (valsH h l k).size ≤ h.size + k * 100
  | 0, _ => by rw [valsH_zero]; omega
  | k + 1, hk => by
    have ih := valsH_size h l ha hn k (by omega)
    have hm := List.getElem_mem (show k < l.length by omega)
    have h2 := valB_size l[k] (ha _ hm) (hn _ hm).1 (hn _ hm).2
    rw [valsH_step h l k (by omega), ByteArray.size_append]
    omega
set_option maxRecDepth 100000 in
set_option maxHeartbeats 4000000 in
theorem reqB_den (r : Req) (h : r.fit) : PDen Try.prog 11 [.agg r.row] (.a (.str (reqB r))) := by
  have hE := reqE_den r h
  by_cases he : reqE r = 0
  · have hr : reqB r = valsH (reqHead r) r.args r.args.length ++ boolBB r.dc ++ (if r.dc = true then keysB r.rd ++ keysB r.wt else ⟨#[]⟩) := if_pos he
    have ok := (reqE_ok r).1 he
    rw [he] at hE
    rw [hr]
    have hns := h.ns
    obtain ⟨cl, sq, pr, args, dc, al, rd, wt⟩ := r
    have c1 := ok.c1; have c2 := ok.c2; have s1 := ok.s1; have s2 := ok.s2; have ln := ok.ln; have ar := ok.ar
    have zn := nameV_size _ ok.nm
    have kr := asc_small _ ok.rd
    have kw := asc_small _ ok.wt
    simp only at c1 c2 s1 s2 ln ar zn kr kw hns hE ⊢
    have n0 : ((0 : Int) != 0) = false := by decide
    have w1 := u64_small cl (by omega) (by omega)
    have w2 := u64_small sq (by omega) (by omega)
    have w3 := u64_nat args.length (by omega)
    have u1 := wuint_den cl (by omega) (by rw [Cw.m64]; omega)
    have u2 := wuint_den sq (by omega) (by rw [Cw.m64]; omega)
    have u3 := wuint_den (args.length : Int) (by omega) (m64_nat _ (by omega))
    rw [Int.toNat_natCast] at u3
    have z1 := vintB_size cl.toNat (by rw [Cw.m64]; omega)
    have z2 := vintB_size sq.toNat (by rw [Cw.m64]; omega)
    have z3 := vintB_size args.length (m64_nat _ (by omega))
    have z4 := textB_size pr (by omega)
    have zk1 := keysH_size rd kr rd.length (Nat.le_refl _)
    have zk2 := keysH_size wt kw wt.length (Nat.le_refl _)
    have zl1 := kr.len
    have zl2 := kw.len
    have zb : (boolBB dc).size ≤ 1 := by cases dc <;> decide
    have zh : (reqHead ⟨cl, sq, pr, args, dc, al, rd, wt⟩).size ≤ 60 := by
      unfold reqHead; simp only [ByteArray.size_append]; omega
    have zv : ∀ k, k ≤ args.length → _ := valsH_size (reqHead ⟨cl, sq, pr, args, dc, al, rd, wt⟩) args (fun v hv => (ar v hv).1) hns
    have eh : vintB cl.toNat ++ vintB sq.toNat ++ textB pr ++ vintB args.length = valsH (reqHead ⟨cl, sq, pr, args, dc, al, rd, wt⟩) args 0 := by rw [valsH_zero]; rfl
    refine den_of_body k_batch_EncodeRequest ⟨rfl, Nat.le_of_ble_eq_true rfl, thaw_intro ?_⟩
    unfold c_batch_EncodeRequest
    simp only [go_sem]
    refine t_call_intro (hE) ?_
    simp only [n0, w1, go_sem]
    refine t_call_intro (u1) ?_
    simp only [w2, go_sem]
    refine t_call_intro (u2) ?_
    simp only [go_sem]
    refine t_gate_intro (by first | omega | (simp; omega)) ?_
    simp only [go_sem]
    refine t_call_intro (wtext_den pr (by omega)) ?_
    simp only [go_sem]
    refine t_gate_intro (by first | omega | (simp; omega)) ?_
    simp only [w3, go_sem]
    refine t_call_intro (u3) ?_
    simp only [go_sem]
    refine t_gate_intro (by first | omega | (simp; omega)) ?_
    simp only [eh, go_sem]
    refine t_loop_intro (fun k : Nat => k ≤ args.length) (fun k => args.length - k) 0 [3, 5, 31, 32, 33, 34, 35, 36, 37, 38, 39] (fun k => [(3, .a (.str (valsH (reqHead ⟨cl, sq, pr, args, dc, al, rd, wt⟩) args k))), (31, .a (.int .i64 k))]) (by omega) (by simp) (fun k => by simp) rfl ?_
    intro k hk fr_ hfr
    simp only [go_sem] at hfr
    subst hfr
    by_cases hlt : k < args.length
    · have b1 : (k : Int) < (args.length : Int) := by omega
      have e := getD_map Vl.row args k hlt
      have er : args[k].row = [.int .i64 args[k].kind, .int .i64 args[k].n, .str args[k].s] := rfl
      have ew := wrap1 k args.length hlt (by omega)
      have es := valsH_step (reqHead ⟨cl, sq, pr, args, dc, al, rd, wt⟩) args k hlt
      have hm := List.getElem_mem hlt
      have g1 := valV_size _ (ar _ hm).1
      have g2 := hns _ hm
      have g3 := valB_size _ (ar _ hm).1 g2.1 g2.2
      have g4 := zv k (by omega)
      have hv := venc_den args[k] (by omega) g2.1 g2.2
      rw [er] at hv
      simp only [b1, e, er, go_sem]
      refine t_call_intro (hv) ?_
      simp only [go_sem]
      refine t_gate_intro (by first | omega | (simp; omega)) ?_
      simp only [ew, go_sem]
      refine t_round (k + 1) (by omega) (by omega) (by first | (simp; done) | simp [es]) rfl rfl (by simp) rfl
    · have b1 : ¬ (k : Int) < (args.length : Int) := by omega
      have hke : k = args.length := by omega
      subst hke
      have g4 := zv args.length (Nat.le_refl _)
      simp only [b1, go_sem]
      refine t_call_intro (wbool_den dc) ?_
      simp only [go_sem]
      refine t_gate_intro (by first | omega | (simp; omega)) ?_
      cases dc with
      | true =>
        simp only [go_sem]
        refine t_call_intro (keysB_den rd kr) ?_
        simp only [go_sem]
        refine t_call_intro (keysB_den wt kw) ?_
        simp only [go_sem]
        refine t_gate_intro (by unfold keysB; first | omega | (simp; omega)) ?_
        simp only [go_sem]
        refine t_gate_intro (by unfold keysB; first | omega | (simp; omega)) ?_
        simp only [go_sem]
        simp only [aresult, ares, go_sem]
        first | done | simp only [if_true, ByteArray.append_assoc]
      | false =>
        simp only [go_sem]
        simp only [aresult, ares, go_sem]
        rw [app_nil]
  · have n1 : (reqE r != 0) = true := by simp [he]
    have hr : reqB r = ⟨#[]⟩ := if_neg he
    rw [hr]
    refine den_of_body k_batch_EncodeRequest ⟨rfl, Nat.le_of_ble_eq_true rfl, thaw_intro ?_⟩
    unfold c_batch_EncodeRequest
    simp only [go_sem]
    refine t_call_intro (hE) ?_
    simp only [n1, go_sem]
    simp only [aresult, ares, go_sem]
end Go.Proofs.Ytemeiopghbpamaa
