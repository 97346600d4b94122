/- Chapter 37: Encode of the program and of the reference. -/
import Derived.Test.YtbiongfnbbnndaaQh
import Derived.Test.YtbiongfnbbnndaaBw
import Derived.Test.YtbiongfnbbnndaaAt
set_option linter.unusedSimpArgs false
set_option linter.unusedVariables false

set_option linter.unusedSimpArgs false
set_option linter.unusedVariables false
namespace Go.Proofs.Ytbiongfnbbnndaa
open Go Ab Go.RowKit
set_option maxRecDepth 100000
attribute [local irreducible] awp aops aop asoft aeff aloop acall acallI acallT
attribute [local go_sem] Vl.row sRow fpRow Req.row Rpl.row Ses.row

/-! The bytes -/
def outHd (r : Rpl) : List UInt8 := Cw.vint r.st.toNat ++ Cw.vint r.cd.toNat ++ Cw.vint r.out.length
def outK (r : Rpl) (i : Nat) : List UInt8 := outHd r ++ ((r.out.take i).map valL).flatten
def outL (r : Rpl) : List UInt8 := outK r r.out.length
def sesHd (s : Ses) : List UInt8 := Cw.vint s.cl.toNat ++ Cw.vint s.nx.toNat
def sesK (s : Ses) (j : Nat) : List UInt8 := sesHd s ++ ((s.rs.take j).map outL).flatten
def sesL (s : Ses) : List UInt8 := sesK s s.rs.length
def essK (l : List Ses) (k : Nat) : List UInt8 := Cw.vint l.length ++ ((l.take k).map sesL).flatten
def essB (l : List Ses) : ByteArray := ⟨(essK l l.length).toArray⟩
theorem essK_zero (l : List Ses) : (vintB l.length).data.toList = essK l 0 := by simp [essK, vintB]
theorem essK_step (l : List Ses) (k : Nat) (h : k < l.length) : essK l k ++ sesK l[k] l[k].rs.length = essK l (k + 1) := by
  unfold essK
  rw [flat_next sesL l k h, List.append_assoc]; rfl
theorem sesK_zero (s : Ses) : sesK s 0 = sesHd s := by simp [sesK]
theorem sesK_step (s : Ses) (j : Nat) (h : j < s.rs.length) : sesK s j ++ outK s.rs[j] s.rs[j].out.length = sesK s (j + 1) := by
  unfold sesK
  rw [flat_next outL s.rs j h, List.append_assoc]; rfl
theorem outK_zero (r : Rpl) : outK r 0 = outHd r := by simp [outK]
theorem outK_step (r : Rpl) (i : Nat) (h : i < r.out.length) : outK r i ++ (valB r.out[i]).data.toList = outK r (i + 1) := by
  unfold outK
  rw [flat_next valL r.out i h, List.append_assoc]; rfl
theorem hd2 (s : Ses) : (vintB s.cl.toNat ++ vintB s.nx.toNat).data.toList = sesHd s := by
  rw [app_L]; simp [vintB, sesHd]
theorem hd3 (r : Rpl) : (vintB r.st.toNat ++ vintB r.cd.toNat ++ vintB r.out.length).data.toList = outHd r := by
  rw [app_L, app_L]; simp [vintB, outHd]
theorem valB_size (v : Vl) (h : v.s.size ≤ 1048576) (h0 : -Cw.M63 ≤ v.n) (h1 : v.n < Cw.M63) : (valB v).size ≤ v.s.size + 20 := by
  have s1 := vintB_size 1 m64_1
  have s2 := vintB_size 2 m64_2
  have s0 := vintB_size 0 m64_0
  have s3 : (vintB (Cw.fold v.n)).size ≤ 10 := vintB_size _ (Cw.fold_lt v.n h0 h1)
  have s4 := textB_size v.s (by omega)
  unfold valB
  split
  · rw [ByteArray.size_append]; omega
  · split
    · rw [ByteArray.size_append]; omega
    · omega
theorem I64.m63 {m : Int} (h : I64 m) : -Cw.M63 ≤ m ∧ m < Cw.M63 := by
  have h1 := h.lo
  have h2 := h.hi
  rw [Cw.m63]; omega
theorem outV_le {st cd : Int} {out : List Vl} (h : outV st cd out = true) : 1 ≤ st ∧ st ≤ 2 ∧ 0 ≤ cd ∧ cd ≤ 1009 ∧ out.length ≤ 16 ∧ ∀ v ∈ out, valV v = true := by
  unfold outV at h
  split at h
  · rename_i h1
    simp only [Bool.and_eq_true, beq_iff_eq, decide_eq_true_eq, List.all_eq_true] at h
    refine ⟨by omega, by omega, by omega, by omega, h.1.2, fun v hv => ?_⟩
    have := h.2 v hv
    unfold vgood at this
    rw [Bool.and_eq_true] at this
    exact this.1
  · simp only [Bool.and_eq_true, beq_iff_eq, decide_eq_true_eq] at h
    refine ⟨by omega, by omega, by omega, by omega, by omega, fun v hv => ?_⟩
    have : out = [] := List.length_eq_zero_iff.1 h.2
    subst this; simp at hv
theorem vL_size (n : Nat) (h : (n : Int) < Cw.M64) : (Cw.vint n).length ≤ 10 := by
  have := vintB_size n h
  rw [← dsize] at this
  simpa [vintB] using this
theorem outHd_len (r : Rpl) (h : outV r.st r.cd r.out = true) : (outHd r).length ≤ 30 := by
  obtain ⟨a1, a2, a3, a4, a5, _⟩ := outV_le h
  have h1 := vL_size r.st.toNat (by rw [Cw.m64]; omega)
  have h2 := vL_size r.cd.toNat (by rw [Cw.m64]; omega)
  have h3 := vL_size r.out.length (by rw [Cw.m64]; omega)
  unfold outHd
  simp only [List.length_append]; omega
theorem valV_size (v : Vl) (h : valV v = true) : v.s.size ≤ 64 := by
  unfold valV at h
  have e0 : (v.s.toList == []) = true → v.s.size ≤ 64 := fun hh => by
    rw [size0] at hh; have := of_decide_eq_true hh; omega
  split at h
  · exact e0 (by simp only [Bool.and_eq_true] at h; exact h.2)
  · split at h
    · exact e0 h
    · split at h
      · unfold plainV at h
        simp only [Bool.and_eq_true, decide_eq_true_eq] at h
        exact h.2.1
      · cases h
theorem outK_len (r : Rpl) (h : outV r.st r.cd r.out = true) (hf : r.full) : ∀ i, i ≤ r.out.length → (outK r i).length ≤ 30 + i * 84
  | 0, _ => by rw [outK_zero]; have := outHd_len r h; omega
  | i + 1, hi => by
    have ih := outK_len r h hf i (by omega)
    have hm := List.getElem_mem (show i < r.out.length by omega)
    have hv := valV_size _ ((outV_le h).2.2.2.2.2 _ hm)
    have hu := hf.out.all _ hm
    have hs := valB_size r.out[i] (by omega) hu.n.m63.1 hu.n.m63.2
    rw [← dsize] at hs
    rw [← outK_step r i (by omega), List.length_append]; omega
structure SesIn (s : Ses) : Prop where
  c1 : 1 ≤ s.cl
  c2 : s.cl ≤ 32
  n1 : 1 ≤ s.nx
  n2 : s.nx ≤ 1099511627776
  l8 : s.rs.length ≤ 8
  rs : ∀ r ∈ s.rs, r.cl = s.cl ∧ outV r.st r.cd r.out = true
theorem sesV_in {s : Ses} (h : sesV s = true) : SesIn s := by
  have h2 := ses_cl h
  unfold sesV at h
  rw [Bool.and_eq_true] at h
  have hh := sHead_of h.1
  exact ⟨by have := hh.c1; omega, by have := hh.c2; omega, by have := hh.n1; omega, by have := hh.n2; omega, hh.l8, h2⟩
theorem sesHd_len (s : Ses) (h : SesIn s) : (sesHd s).length ≤ 20 := by
  have h1 := vL_size s.cl.toNat (by have := h.c1; have := h.c2; rw [Cw.m64]; omega)
  have h2 := vL_size s.nx.toNat (by have := h.n1; have := h.n2; rw [Cw.m64]; omega)
  unfold sesHd
  rw [List.length_append]; omega
theorem sesK_len (s : Ses) (h : SesIn s) (hf : s.full) : ∀ j, j ≤ s.rs.length → (sesK s j).length ≤ 20 + j * 1400
  | 0, _ => by rw [sesK_zero]; have := sesHd_len s h; omega
  | j + 1, hj => by
    have ih := sesK_len s h hf j (by omega)
    have hm := List.getElem_mem (show j < s.rs.length by omega)
    have ho := (h.rs _ hm).2
    have hk := outK_len s.rs[j] ho (hf.all _ hm) s.rs[j].out.length (Nat.le_refl _)
    have h16 := (outV_le ho).2.2.2.2.1
    rw [← sesK_step s j (by omega), List.length_append]; omega
theorem essK_len (l : List Ses) (hl : l.length ≤ 1048576) (h : ∀ s ∈ l, SesIn s) (hf : ∀ s ∈ l, s.full) : ∀ k, k ≤ l.length → (essK l k).length ≤ 10 + k * 12000
  | 0, _ => by
    rw [← essK_zero, dsize]
    have := vintB_size l.length (by rw [Cw.m64]; omega)
    omega
  | k + 1, hk => by
    have ih := essK_len l hl h hf k (by omega)
    have hm := List.getElem_mem (show k < l.length by omega)
    have hs := sesK_len l[k] (h _ hm) (hf _ hm) l[k].rs.length (Nat.le_refl _)
    have h8 := (h _ hm).l8
    rw [← essK_step l k (by omega), List.length_append]; omega
theorem essK_ne (l : List Ses) (hl : l.length ≤ 1048576) (k : Nat) : essK l k ≠ [] := by
  intro h
  have h0 := vint_pos l.length (by rw [Cw.m64]; omega)
  have h1 := congrArg List.length h
  unfold essK at h1
  rw [List.length_append] at h1
  simp only [List.length_nil] at h1
  omega
theorem wrapu (n : Nat) (h : n ≤ 1048576) : IntKind.u64.wrap (n : Int) = (n : Int) := by rw [IntKind.wrap_u64]; omega
theorem wrapu2 (n : Int) (h0 : 0 ≤ n) (h : n ≤ 1099511627776) : IntKind.u64.wrap n = n := by rw [IntKind.wrap_u64]; omega
theorem asc_len : ∀ (l : List Ses) (lo : Int), AscC l → (∀ s ∈ l, lo ≤ s.cl ∧ s.cl ≤ 32) → lo ≤ 33 → (l.length : Int) ≤ 33 - lo
  | [], lo, _, _, h => by simp only [List.length_nil]; omega
  | s :: ss, lo, ha, hb, h => by
    have h1 := hb s (by simp)
    have hp := List.pairwise_cons.1 ha
    have ih := asc_len ss (s.cl + 1) hp.2 (fun x hx => ⟨by have := hp.1 x hx; omega, (hb x (by simp [hx])).2⟩) (by omega)
    simp only [List.length_cons]; omega
theorem sess_len {l : List Ses} (h : sessV l = true) : l.length ≤ 32 := by
  have ha := sessV_asc h
  have := asc_len l 1 ha.1 (fun s hs => ⟨(sesV_in (ha.2 s hs)).c1, (sesV_in (ha.2 s hs)).c2⟩) (by omega)
  omega
def encA (l : List Ses) : ByteArray := if sessV l = true then essB l else ⟨#[]⟩
set_option maxHeartbeats 8000000 in
theorem senc_den (l : List Ses) (hl : Sess.full l) : PDen Try.prog 27 [.a (.slice 3 (l.map Ses.row))] (.a (.str (encA l))) := by
  have dv := sessV_den l hl.fit
  unfold encA
  cases h : sessV l with
  | false =>
    rw [h] at dv
    rw [if_neg (by simp)]
    refine den_of_body k_session_Encode ⟨rfl, Nat.le_of_ble_eq_true rfl, thaw_intro ?_⟩
    unfold c_session_Encode
    simp only [go_sem]
    refine t_call_intro (dv) ?_
    simp only [go_sem]
    simp only [aresult, ares, go_sem]
  | true =>
    rw [h] at dv
    rw [if_pos rfl]
    have hin : ∀ s ∈ l, SesIn s := fun s hs => sesV_in ((sessV_asc h).2 s hs)
    have hll : l.length ≤ 1048576 := by have := sess_len h; omega
    have eu := wrapu l.length hll
    have hn := essK_ne l hll l.length
    have hz := essK_zero l
    have z0 := vintB_size l.length (by rw [Cw.m64]; omega)
    refine den_of_body k_session_Encode ⟨rfl, Nat.le_of_ble_eq_true rfl, thaw_intro ?_⟩
    unfold c_session_Encode
    simp only [go_sem]
    refine t_call_intro (dv) ?_
    simp only [eu, go_sem]
    refine t_call_intro (wuint_den l.length (by omega) (by rw [Cw.m64]; omega)) ?_
    simp only [go_sem]
    refine t_callI_intro (bwrite_nil write_spec rfl (by omega)) ?_
    simp only [hz, go_sem]
    refine t_loopO_intro [] (fun k : Nat => k ≤ l.length) (fun k => l.length - k) 0 [5, 7, 9, 20, 21, 22, 23, 24, 25, 26, 27, 28, 29, 30, 31, 32, 33, 34, 35, 36, 37, 38, 39, 40, 41, 42, 43, 44, 45, 46, 47, 48, 49, 50, 51, 52, 53, 54, 55, 56, 57, 58, 59, 60, 61, 62, 63, 64, 65, 66, 67, 68, 69, 70, 71, 72, 73] (fun k => [(20, .a (.int .i64 k))]) (fun k => [[.bself 88, .own 0]]) (fun k => [⟨5, 1, byteRows (essK l k), false⟩]) (by omega) (by simp) (by simp) (by simp) (by simp) (fun k => by simp) (fun k => by simp) (fun k => by simp) ?_
    intro k hk st_ hst
    simp only [go_sem] at hst
    subst hst
    by_cases hlt : k < l.length
    · have h1 : (k : Int) < (l.length : Int) := by omega
      have e := getD_map Ses.row l k hlt
      have er := ses_rw l[k]
      have ew := wrap1 k l.length hlt (by omega)
      have hm := List.getElem_mem hlt
      have hs := hin _ hm
      have hsf := hl.all _ hm
      have c1 := hs.c1
      have c2 := hs.c2
      have n1 := hs.n1
      have n2 := hs.n2
      have e1 := wrapu2 l[k].cl (by omega) (by omega)
      have e2 := wrapu2 l[k].nx (by omega) (by omega)
      have es := essK_step l k hlt
      have sz := essK_len l hll hin (fun s hs => hl.all s hs) k hk
      have sH := sesHd_len _ hs
      have eh := hd2 l[k]
      have eh2 := sesK_zero l[k]
      simp only [h1, e, er, e1, go_sem]
      refine t_call_intro (wuint_den l[k].cl (by omega) (by rw [Cw.m64]; omega)) ?_
      simp only [e2, go_sem]
      refine t_call_intro (wuint_den l[k].nx (by omega) (by rw [Cw.m64]; omega)) ?_
      simp only [go_sem]
      have y1 := vintB_size l[k].cl.toNat (by rw [Cw.m64]; omega)
      have y2 := vintB_size l[k].nx.toNat (by rw [Cw.m64]; omega)
      have yy : (vintB l[k].cl.toNat ++ vintB l[k].nx.toNat).size ≤ 20 := by rw [ByteArray.size_append]; omega
      refine t_gate_intro (by omega) ?_
      simp only [h1, e, er, go_sem]
      refine t_callI_intro (bwrite_iden write_spec rfl rfl (by omega)) ?_
      simp only [eh, go_sem]
      have lm := hs.l8
      refine t_loopO_intro [] (fun j : Nat => j ≤ l[k].rs.length) (fun j => l[k].rs.length - j) 0 [7, 9, 37, 38, 39, 40, 41, 42, 43, 44, 45, 46, 47, 48, 49, 50, 51, 52, 53, 54, 55, 56, 57, 58, 59, 60, 61, 62, 63, 64, 65, 66, 67, 68, 69, 70, 71, 72] (fun j => [(37, .a (.int .i64 j))]) (fun j => [[.bself 88, .own 0], [.a (.int .i64 l[k].cl), .a (.int .i64 l[k].nx), .a (.slice 5 (l[k].rs.map Rpl.row))]]) (fun j => [⟨5, 1, byteRows (essK l k ++ sesK l[k] j), false⟩]) (by omega) (by simp) (by first | (simp; done) | simp [eh2]) (by first | (simp; done) | simp [eh2]) (by first | (simp; done) | simp [eh2]) (fun j => by first | (simp; done) | simp [eh2]) (fun j => by first | (simp; done) | simp [eh2]) (fun j => by first | (simp; done) | simp [eh2]) ?_
      intro j hkj st_ hst
      simp only [go_sem] at hst
      subst hst
      by_cases hltj : j < l[k].rs.length
      · have j1 : (j : Int) < (l[k].rs.length : Int) := by omega
        have ej := getD_map Rpl.row l[k].rs j hltj
        have ejr := rpl_rw l[k].rs[j]
        have ewj := wrap1 j l[k].rs.length hltj (by omega)
        have hmr := List.getElem_mem hltj
        have hr := (hs.rs _ hmr).2
        have hrf := hsf.all _ hmr
        obtain ⟨b1, b2, b3, b4, b5, b6⟩ := outV_le hr
        have f1 := wrapu2 l[k].rs[j].st (by omega) (by omega)
        have f2 := wrapu2 l[k].rs[j].cd (by omega) (by omega)
        have f3 := wrapu l[k].rs[j].out.length (by omega)
        have u1 := vintB_size l[k].rs[j].st.toNat (by rw [Cw.m64]; omega)
        have u2 := vintB_size l[k].rs[j].cd.toNat (by rw [Cw.m64]; omega)
        have u3 := vintB_size l[k].rs[j].out.length (by rw [Cw.m64]; omega)
        have szj := sesK_len l[k] hs hsf j hkj
        simp only [j1, ej, ejr, f1, go_sem]
        refine t_call_intro (wuint_den l[k].rs[j].st (by omega) (by rw [Cw.m64]; omega)) ?_
        simp only [f2, go_sem]
        refine t_call_intro (wuint_den l[k].rs[j].cd (by omega) (by rw [Cw.m64]; omega)) ?_
        simp only [go_sem]
        have v1 : (vintB l[k].rs[j].st.toNat ++ vintB l[k].rs[j].cd.toNat).size ≤ 20 := by rw [ByteArray.size_append]; omega
        have v2 : (vintB l[k].rs[j].st.toNat ++ vintB l[k].rs[j].cd.toNat ++ vintB l[k].rs[j].out.length).size ≤ 30 := by rw [ByteArray.size_append]; omega
        have hh3 := hd3 l[k].rs[j]
        have hz3 := outK_zero l[k].rs[j]
        refine t_gate_intro (by omega) ?_
        simp only [f3, go_sem]
        refine t_call_intro (wuint_den l[k].rs[j].out.length (by omega) (by rw [Cw.m64]; omega)) ?_
        simp only [go_sem]
        refine t_gate_intro (by omega) ?_
        simp only [go_sem]
        refine t_callI_intro (bwrite_iden write_spec rfl rfl (by rw [List.length_append]; omega)) ?_
        simp only [hh3, go_sem]
        refine t_loopO_intro [] (fun i : Nat => i ≤ l[k].rs[j].out.length) (fun i => l[k].rs[j].out.length - i) 0 [9, 64, 65, 66, 67, 68, 69, 70, 71] (fun i => [(64, .a (.int .i64 i))]) (fun i => [[.bself 88, .own 0], [.a (.int .i64 l[k].cl), .a (.int .i64 l[k].nx), .a (.slice 5 (l[k].rs.map Rpl.row))], [.a (.int .i64 l[k].rs[j].cl), .a (.int .i64 l[k].rs[j].sq), .a (.int .i64 l[k].rs[j].st), .a (.int .i64 l[k].rs[j].cd), .a (.slice 3 (l[k].rs[j].out.map Vl.row))]]) (fun i => [⟨5, 1, byteRows (essK l k ++ sesK l[k] j ++ outK l[k].rs[j] i), false⟩]) (by omega) (by simp) (by first | (simp; done) | simp [hz3]) (by first | (simp; done) | simp [hz3]) (by first | (simp; done) | simp [hz3]) (fun i => by first | (simp; done) | simp [hz3]) (fun i => by first | (simp; done) | simp [hz3]) (fun i => by first | (simp; done) | simp [hz3]) ?_
        intro i hki st_ hst
        simp only [go_sem] at hst
        subst hst
        by_cases hlti : i < l[k].rs[j].out.length
        · have i1 : (i : Int) < (l[k].rs[j].out.length : Int) := by omega
          have ei := getD_map Vl.row l[k].rs[j].out i hlti
          have eir := vl_rw l[k].rs[j].out[i]
          have ewi := wrap1 i l[k].rs[j].out.length hlti (by omega)
          have hmv := List.getElem_mem hlti
          have hvf := hrf.out.all _ hmv
          have hv64 := valV_size _ (b6 _ hmv)
          have hvb := valB_size l[k].rs[j].out[i] (by omega) hvf.n.m63.1 hvf.n.m63.2
          have szi := outK_len l[k].rs[j] hr hrf i hki
          have esi := outK_step l[k].rs[j] i hlti
          have hven := venc_den l[k].rs[j].out[i] (by omega) hvf.n.m63.1 hvf.n.m63.2
          rw [vl_rw] at hven
          simp only [i1, ei, eir, go_sem]
          refine t_call_intro (hven) ?_
          simp only [go_sem]
          refine t_callI_intro (bwrite_iden write_spec rfl rfl (by simp only [List.length_append]; omega)) ?_
          have esi2 : essK l k ++ sesK l[k] j ++ outK l[k].rs[j] i ++ (valB l[k].rs[j].out[i]).data.toList = essK l k ++ sesK l[k] j ++ outK l[k].rs[j] (i + 1) := by rw [List.append_assoc, esi]
          simp only [esi2, ewi, go_sem]
          refine t_roundO (i + 1) (by omega) (by omega) (by simp) (by simp) (by simp) (by simp) (by simp)
        · have i1 : ¬ (i : Int) < (l[k].rs[j].out.length : Int) := by omega
          have ii : i = l[k].rs[j].out.length := by omega
          subst ii
          have esj : essK l k ++ sesK l[k] j ++ outK l[k].rs[j] l[k].rs[j].out.length = essK l k ++ sesK l[k] (j + 1) := by rw [List.append_assoc, sesK_step l[k] j hltj]
          simp only [i1, ewj, go_sem]
          refine t_roundO (j + 1) (by omega) (by omega) (by first | (simp; done) | simp [esj]) (by first | (simp; done) | simp [esj]) (by first | (simp; done) | simp [esj]) (by first | (simp; done) | simp [esj]) (by first | (simp; done) | simp [esj])
      · have j1 : ¬ (j : Int) < (l[k].rs.length : Int) := by omega
        have jj : j = l[k].rs.length := by omega
        subst jj
        simp only [j1, ew, go_sem]
        refine t_roundO (k + 1) (by omega) (by omega) (by first | (simp; done) | simp [es]) (by first | (simp; done) | simp [es]) (by first | (simp; done) | simp [es]) (by first | (simp; done) | simp [es]) (by first | (simp; done) | simp [es])
    · have h1 : ¬ (k : Int) < (l.length : Int) := by omega
      have kk : k = l.length := by omega
      subst kk
      simp only [h1, go_sem]
      refine t_callI_intro (bstring_iden string_spec rfl rfl hn) ?_
      simp only [go_sem]
      simp only [aresult, ares, go_sem]
      rfl
end Go.Proofs.Ytbiongfnbbnndaa

/- Chapter 37: Encode of the reference. -/
set_option linter.unusedSimpArgs false
set_option linter.unusedVariables false
namespace Go.Proofs.Ytbiongfnbbnndaa
open Go Ab Go.RowKit
set_option maxRecDepth 100000
attribute [local irreducible] awp aops aop asoft aeff aloop acall acallI acallT
attribute [local go_sem] Vl.row sRow fpRow Req.row Rpl.row Ses.row

def bsOf (l : List UInt8) : ByteArray := ⟨l.toArray⟩
theorem bsOf_L (l : List UInt8) : (bsOf l).data.toList = l := by simp [bsOf]
theorem bsOf_size (l : List UInt8) : (bsOf l).size = l.length := by simp [bsOf, ByteArray.size]
theorem bs_app (l : List UInt8) (x : ByteArray) : bsOf l ++ x = bsOf (l ++ x.data.toList) := by
  apply ByteArray.ext
  apply Array.toList_inj.1
  rw [app_L, bsOf_L, bsOf_L]
theorem bs_self (x : ByteArray) : x = bsOf x.data.toList := by
  apply ByteArray.ext
  apply Array.toList_inj.1
  rw [bsOf_L]
set_option maxHeartbeats 4000000 in
theorem rencO_den (r : Rpl) (h : outV r.st r.cd r.out = true) (hf : r.full) : PDen Try.prog 52 [.agg [.int .i64 r.st, .int .i64 r.cd, .slice 3 (r.out.map Vl.row)]] (.a (.str (bsOf (outL r)))) := by
  obtain ⟨b1, b2, b3, b4, b5, b6⟩ := outV_le h
  have f1 := wrapu2 r.st (by omega) (by omega)
  have f2 := wrapu2 r.cd (by omega) (by omega)
  have f3 := wrapu r.out.length (by omega)
  have u1 := vintB_size r.st.toNat (by rw [Cw.m64]; omega)
  have u2 := vintB_size r.cd.toNat (by rw [Cw.m64]; omega)
  have u3 := vintB_size r.out.length (by rw [Cw.m64]; omega)
  have v1 : (vintB r.st.toNat ++ vintB r.cd.toNat).size ≤ 20 := by rw [ByteArray.size_append]; omega
  have eh : vintB r.st.toNat ++ vintB r.cd.toNat ++ vintB r.out.length = bsOf (outK r 0) := by rw [bs_self (vintB r.st.toNat ++ vintB r.cd.toNat ++ vintB r.out.length), hd3, outK_zero]
  refine den_of_body k_ref37_encodeOutcome ⟨rfl, Nat.le_of_ble_eq_true rfl, thaw_intro ?_⟩
  unfold c_ref37_encodeOutcome
  simp only [f1, go_sem]
  refine t_call_intro (ruint_den r.st (by omega) (by rw [Cw.m64]; omega)) ?_
  simp only [f2, go_sem]
  refine t_call_intro (ruint_den r.cd (by omega) (by rw [Cw.m64]; omega)) ?_
  simp only [go_sem]
  refine t_gate_intro (by omega) ?_
  simp only [f3, go_sem]
  refine t_call_intro (ruint_den r.out.length (by omega) (by rw [Cw.m64]; omega)) ?_
  simp only [go_sem]
  refine t_gate_intro (by omega) ?_
  simp only [eh, go_sem]
  refine t_loop_intro (fun k : Nat => k ≤ r.out.length) (fun k => r.out.length - k) 0 [3, 4, 20, 21, 22, 23, 24, 25, 26, 27, 28, 29, 30, 31, 32, 33, 34] (fun k => [(3, .a (.str (bsOf (outK r k)))), (4, .a (.int .i64 k))]) (by omega) (by simp) (fun k => by simp) rfl ?_
  intro k hk fr_ hfr
  simp only [go_sem] at hfr
  subst hfr
  by_cases hlt : k < r.out.length
  · have i1 : (k : Int) < (r.out.length : Int) := by omega
    have ei := getD_map Vl.row r.out k hlt
    have eir := vl_rw r.out[k]
    have ewi := wrap1 k r.out.length hlt (by omega)
    have hmv := List.getElem_mem hlt
    have hvf := hf.out.all _ hmv
    have hv64 := valV_size _ (b6 _ hmv)
    have hvb := valB_size r.out[k] (by omega) hvf.n.m63.1 hvf.n.m63.2
    have szi := outK_len r h hf k hk
    have esi : bsOf (outK r k) ++ valB r.out[k] = bsOf (outK r (k + 1)) := by rw [bs_app, outK_step r k hlt]
    have hsz := bsOf_size (outK r k)
    have hven := rvenc_den r.out[k] (by omega) hvf.n.m63.1 hvf.n.m63.2
    rw [vl_rw] at hven
    simp only [i1, ei, eir, go_sem]
    refine t_call_intro (hven) ?_
    simp only [go_sem]
    refine t_gate_intro (by omega) ?_
    simp only [esi, ewi, go_sem]
    refine t_round (k + 1) (by omega) (by omega) (by simp) rfl rfl (by simp) rfl
  · have i1 : ¬ (k : Int) < (r.out.length : Int) := by omega
    have ii : k = r.out.length := by omega
    subst ii
    simp only [i1, go_sem]
    simp only [aresult, ares, go_sem]
    rfl
set_option maxHeartbeats 4000000 in
theorem renc_den (l : List Ses) (hl : Sess.full l) : PDen Try.prog 28 [.a (.slice 3 (l.map Ses.row))] (.a (.str (encA l))) := by
  have dv := rsessV_den l hl.fit
  unfold encA
  cases h : sessV l with
  | false =>
    rw [h] at dv
    rw [if_neg (by simp)]
    refine den_of_body k_ref37_Encode ⟨rfl, Nat.le_of_ble_eq_true rfl, thaw_intro ?_⟩
    unfold c_ref37_Encode
    simp only [go_sem]
    refine t_call_intro (dv) ?_
    simp only [go_sem]
    simp only [aresult, ares, go_sem]
  | true =>
    rw [h] at dv
    rw [if_pos rfl]
    have hin : ∀ s ∈ l, SesIn s := fun s hs => sesV_in ((sessV_asc h).2 s hs)
    have hll : l.length ≤ 1048576 := by have := sess_len h; omega
    have eu := wrapu l.length hll
    have hz : vintB l.length = bsOf (essK l 0) := by rw [← essK_zero, ← bs_self]
    have z0 := vintB_size l.length (by rw [Cw.m64]; omega)
    refine den_of_body k_ref37_Encode ⟨rfl, Nat.le_of_ble_eq_true rfl, thaw_intro ?_⟩
    unfold c_ref37_Encode
    simp only [go_sem]
    refine t_call_intro (dv) ?_
    simp only [eu, go_sem]
    refine t_call_intro (ruint_den l.length (by omega) (by rw [Cw.m64]; omega)) ?_
    simp only [hz, go_sem]
    refine t_loop_intro (fun k : Nat => k ≤ l.length) (fun k => l.length - k) 0 [3, 4, 5, 13, 14, 15, 16, 17, 18, 19, 20, 21, 22, 23, 24, 25, 26, 27, 28, 29, 30, 31, 32, 33, 34, 35, 36, 37, 38, 39, 40, 41, 42, 43, 44, 45, 46, 47, 48, 49, 50, 51, 52, 53, 54, 55, 56, 57] (fun k => [(3, .a (.str (bsOf (essK l k)))), (4, .a (.int .i64 k))]) (by omega) (by simp) (fun k => by simp) rfl ?_
    intro k hk fr_ hfr
    simp only [go_sem] at hfr
    subst hfr
    by_cases hlt : k < l.length
    · have h1 : (k : Int) < (l.length : Int) := by omega
      have e := getD_map Ses.row l k hlt
      have er := ses_rw l[k]
      have ew := wrap1 k l.length hlt (by omega)
      have hm := List.getElem_mem hlt
      have hs := hin _ hm
      have hsf := hl.all _ hm
      have c1 := hs.c1
      have c2 := hs.c2
      have n1 := hs.n1
      have n2 := hs.n2
      have e1 := wrapu2 l[k].cl (by omega) (by omega)
      have e2 := wrapu2 l[k].nx (by omega) (by omega)
      have es := essK_step l k hlt
      have sz := essK_len l hll hin (fun s hs => hl.all s hs) k hk
      have y1 := vintB_size l[k].cl.toNat (by rw [Cw.m64]; omega)
      have y2 := vintB_size l[k].nx.toNat (by rw [Cw.m64]; omega)
      have hsz := bsOf_size (essK l k)
      have y3 : (bsOf (essK l k) ++ vintB l[k].cl.toNat).size ≤ (essK l k).length + 10 := by rw [ByteArray.size_append]; omega
      have lm := hs.l8
      have eh : bsOf (essK l k) ++ vintB l[k].cl.toNat ++ vintB l[k].nx.toNat = bsOf (essK l k ++ sesK l[k] 0) := by
        rw [bs_app, bs_app, sesK_zero, ← hd2, app_L, List.append_assoc]
      simp only [h1, e, er, e1, go_sem]
      refine t_call_intro (ruint_den l[k].cl (by omega) (by rw [Cw.m64]; omega)) ?_
      simp only [go_sem]
      refine t_gate_intro (by omega) ?_
      simp only [h1, e, er, e2, go_sem]
      refine t_call_intro (ruint_den l[k].nx (by omega) (by rw [Cw.m64]; omega)) ?_
      simp only [go_sem]
      refine t_gate_intro (by omega) ?_
      simp only [eh, go_sem]
      refine t_loop_intro (fun j : Nat => j ≤ l[k].rs.length) (fun j => l[k].rs.length - j) 0 [3, 5, 36, 37, 38, 39, 40, 41, 42, 43, 44, 45, 46, 47, 48, 49, 50, 51, 52, 53, 54, 55, 56, 57] (fun j => [(3, .a (.str (bsOf (essK l k ++ sesK l[k] j)))), (5, .a (.int .i64 j))]) (by omega) (by simp) (fun j => by simp) rfl ?_
      intro j hkj fr_ hfr
      simp only [go_sem] at hfr
      subst hfr
      by_cases hltj : j < l[k].rs.length
      · have j1 : (j : Int) < (l[k].rs.length : Int) := by omega
        have ej := getD_map Rpl.row l[k].rs j hltj
        have ejr := rpl_rw l[k].rs[j]
        have ewj := wrap1 j l[k].rs.length hltj (by omega)
        have hmr := List.getElem_mem hltj
        have hr := (hs.rs _ hmr).2
        have hrf := hsf.all _ hmr
        have szj := sesK_len l[k] hs hsf j hkj
        have h16 := (outV_le hr).2.2.2.2.1
        have szo := outK_len l[k].rs[j] hr hrf l[k].rs[j].out.length (Nat.le_refl _)
        have hso : (bsOf (outL l[k].rs[j])).size ≤ 1400 := by rw [bsOf_size]; show (outK l[k].rs[j] l[k].rs[j].out.length).length ≤ _; omega
        have hsj : (bsOf (essK l k ++ sesK l[k] j)).size = (essK l k).length + (sesK l[k] j).length := by rw [bsOf_size, List.length_append]
        have esj : bsOf (essK l k ++ sesK l[k] j) ++ bsOf (outL l[k].rs[j]) = bsOf (essK l k ++ sesK l[k] (j + 1)) := by rw [bs_app, bsOf_L, List.append_assoc, ← sesK_step l[k] j hltj]; rfl
        simp only [h1, e, er, j1, ej, ejr, go_sem]
        refine t_call_intro (rencO_den l[k].rs[j] hr hrf) ?_
        simp only [go_sem]
        refine t_gate_intro (by omega) ?_
        simp only [esj, ewj, go_sem]
        refine t_round (j + 1) (by omega) (by omega) (by simp) rfl rfl (by simp) rfl
      · have j1 : ¬ (j : Int) < (l[k].rs.length : Int) := by omega
        have jj : j = l[k].rs.length := by omega
        subst jj
        simp only [h1, e, er, j1, ew, es, go_sem]
        refine t_round (k + 1) (by omega) (by omega) (by simp) rfl rfl (by simp) rfl
    · have h1 : ¬ (k : Int) < (l.length : Int) := by omega
      have kk : k = l.length := by omega
      subst kk
      simp only [h1, go_sem]
      simp only [aresult, ares, go_sem]
      rfl
end Go.Proofs.Ytbiongfnbbnndaa

/- Chapter 37: what is read out of bytes; the reference's numbers and outcomes. -/
set_option linter.unusedSimpArgs false
set_option linter.unusedVariables false
namespace Go.Proofs.Ytbiongfnbbnndaa
open Go Ab Go.RowKit
set_option maxRecDepth 100000
attribute [local irreducible] awp aops aop asoft aeff aloop acall acallI acallT
attribute [local go_sem] Vl.row sRow fpRow Req.row Rpl.row Ses.row

def dN (L : List UInt8) (a m : Int) : Int × Int × Int :=
  if (Cw.takeU L a).2.2 ≠ 0 then (0, 0, (Cw.takeU L a).2.2) else if m < ((Cw.takeU L a).1 : Int) then (0, 0, 5) else (((Cw.takeU L a).1 : Int), (Cw.takeU L a).2.1, 0)
def vsSt (L : List UInt8) (a : Int) : Nat → List Vl × Int × Int
  | 0 => ([], a, 0)
  | k + 1 => if (vsSt L a k).2.2 ≠ 0 then vsSt L a k else ((vsSt L a k).1 ++ [(decV L (vsSt L a k).2.1).1], (decV L (vsSt L a k).2.1).2.1, (decV L (vsSt L a k).2.1).2.2)
theorem vsSt_err (l : List UInt8) (a : Int) (k : Nat) (h : (vsSt l a k).2.2 ≠ 0) : ∀ n, k ≤ n → vsSt l a n = vsSt l a k
  | n, hn => by
    induction n with
    | zero => rw [show k = 0 by omega]
    | succ n ih =>
      by_cases hk : k = n + 1
      · rw [hk]
      · have ih := ih (by omega)
        show (if (vsSt l a n).2.2 ≠ 0 then vsSt l a n else _) = _
        rw [if_pos (by rw [ih]; exact h), ih]
theorem vsSt_ok (l : List UInt8) (a : Int) (k : Nat) (h : (vsSt l a k).2.2 = 0) : vsSt l a (k + 1) = ((vsSt l a k).1 ++ [(decV l (vsSt l a k).2.1).1], (decV l (vsSt l a k).2.1).2.1, (decV l (vsSt l a k).2.1).2.2) := if_neg (by simp [h])
theorem vsSt_len (l : List UInt8) (a : Int) : ∀ k, (vsSt l a k).1.length ≤ k
  | 0 => Nat.le_refl _
  | k + 1 => by
    have ih := vsSt_len l a k
    by_cases he : (vsSt l a k).2.2 = 0
    · rw [vsSt_ok l a k he]; simp; omega
    · rw [vsSt_err l a k he (k + 1) (by omega)]; omega
structure Oc where
  st : Int
  cd : Int
  out : List Vl
def oc0 : Oc := ⟨0, 0, []⟩
def Oc.row (o : Oc) : List Atom := [.int .i64 o.st, .int .i64 o.cd, .slice 3 (o.out.map Vl.row)]
def dO (L : List UInt8) (a : Int) : Oc × Int × Int :=
  if (dN L a 9999).2.2 ≠ 0 then (oc0, 0, (dN L a 9999).2.2)
  else if (dN L (dN L a 9999).2.1 9999).2.2 ≠ 0 then (oc0, 0, (dN L (dN L a 9999).2.1 9999).2.2)
  else if (Cw.takeC L (dN L (dN L a 9999).2.1 9999).2.1 16).2.2 ≠ 0 then (oc0, 0, (Cw.takeC L (dN L (dN L a 9999).2.1 9999).2.1 16).2.2)
  else if (vsSt L (Cw.takeC L (dN L (dN L a 9999).2.1 9999).2.1 16).2.1 (Cw.takeC L (dN L (dN L a 9999).2.1 9999).2.1 16).1).2.2 ≠ 0 then (oc0, 0, (vsSt L (Cw.takeC L (dN L (dN L a 9999).2.1 9999).2.1 16).2.1 (Cw.takeC L (dN L (dN L a 9999).2.1 9999).2.1 16).1).2.2)
  else (⟨(dN L a 9999).1, (dN L (dN L a 9999).2.1 9999).1, (vsSt L (Cw.takeC L (dN L (dN L a 9999).2.1 9999).2.1 16).2.1 (Cw.takeC L (dN L (dN L a 9999).2.1 9999).2.1 16).1).1⟩, (vsSt L (Cw.takeC L (dN L (dN L a 9999).2.1 9999).2.1 16).2.1 (Cw.takeC L (dN L (dN L a 9999).2.1 9999).2.1 16).1).2.1, 0)
def dNV (x : Int × Int × Int) : AV := .tup [.a (.int .i64 x.1), .a (.int .i64 x.2.1), .a (.int .i64 x.2.2)]
def dOV (x : Oc × Int × Int) : AV := .tup [.agg x.1.row, .a (.int .i64 x.2.1), .a (.int .i64 x.2.2)]
set_option maxHeartbeats 2000000 in
theorem rnum_den (s : ByteArray) (a m : Int) (hs : s.size ≤ 1125899906842624) (hm : m ≤ 9223372036854775807) : PDen Try.prog 68 [.a (.str s), .a (.int .i64 a), .a (.int .u64 m)] (dNV (dN s.data.toList a m)) := by
  have hT := rtakeuint_den s a hs
  unfold takeUV at hT
  unfold dN dNV
  generalize Cw.takeU s.data.toList a = x at *
  obtain ⟨u, n, e⟩ := x
  simp only [] at hT ⊢
  by_cases he : e = 0
  · subst he
    have n0 : ((0 : Int) != 0) = false := rfl
    by_cases hu : m < (u : Int)
    · rw [if_neg (by simp), if_pos hu]
      refine den_of_body k_ref37_takeNumber ⟨rfl, Nat.le_of_ble_eq_true rfl, thaw_intro ?_⟩
      unfold c_ref37_takeNumber
      simp only [go_sem]
      refine t_call_intro (hT) ?_
      simp only [n0, hu, go_sem]
      simp only [aresult, ares, go_sem]
    · rw [if_neg (by simp), if_neg hu]
      have hw : IntKind.i64.wrap (u : Int) = (u : Int) := by rw [IntKind.wrap_i64]; omega
      refine den_of_body k_ref37_takeNumber ⟨rfl, Nat.le_of_ble_eq_true rfl, thaw_intro ?_⟩
      unfold c_ref37_takeNumber
      simp only [go_sem]
      refine t_call_intro (hT) ?_
      simp only [n0, hu, hw, go_sem]
      simp only [aresult, ares, go_sem]
  · have n1 : (e != 0) = true := by simpa using he
    rw [if_pos he]
    refine den_of_body k_ref37_takeNumber ⟨rfl, Nat.le_of_ble_eq_true rfl, thaw_intro ?_⟩
    unfold c_ref37_takeNumber
    simp only [go_sem]
    refine t_call_intro (hT) ?_
    simp only [n1, go_sem]
    simp only [aresult, ares, go_sem]
theorem oc_le (e : Int) : VLe (.tup [.agg [.int .i64 0, .int .i64 0, .nils], .a (.int .i64 0), .a (.int .i64 e)]) (dOV (oc0, 0, e)) :=
  VLe.tup ⟨VLe.agg ⟨RLe.refl _, RLe.refl _, RLe.nils 3, trivial⟩, VLe.refl _, VLe.refl _, trivial⟩
set_option maxHeartbeats 8000000 in
theorem rout_den (s : ByteArray) (a : Int) (hs : s.size ≤ 1125899906842624) : PDen Try.prog 69 [.a (.str s), .a (.int .i64 a)] (dOV (dO s.data.toList a)) := by
  have n0 : ((0 : Int) != 0) = false := rfl
  have h1 := rnum_den s a 9999 hs (by omega)
  unfold dO
  generalize dN s.data.toList a 9999 = x at h1 ⊢
  obtain ⟨st, a1, e1⟩ := x
  unfold dNV at h1
  simp only [] at h1 ⊢
  by_cases c1 : e1 = 0
  rotate_left
  · rw [if_pos c1]
    have m1 : (e1 != 0) = true := by simpa using c1
    refine PDen.le ?_ (oc_le e1)
    refine den_of_body k_ref37_takeOutcome ⟨rfl, Nat.le_of_ble_eq_true rfl, thaw_intro ?_⟩
    unfold c_ref37_takeOutcome
    simp only [go_sem]
    refine t_call_intro (h1) ?_
    simp only [m1, go_sem]
    simp only [aresult, ares, go_sem]
  subst c1
  rw [if_neg (by simp)]
  have h2 := rnum_den s a1 9999 hs (by omega)
  generalize dN s.data.toList a1 9999 = y at h2 ⊢
  obtain ⟨cd, a2, e2⟩ := y
  unfold dNV at h2
  simp only [] at h2 ⊢
  by_cases c2 : e2 = 0
  rotate_left
  · rw [if_pos c2]
    have m1 : (e2 != 0) = true := by simpa using c2
    refine PDen.le ?_ (oc_le e2)
    refine den_of_body k_ref37_takeOutcome ⟨rfl, Nat.le_of_ble_eq_true rfl, thaw_intro ?_⟩
    unfold c_ref37_takeOutcome
    simp only [go_sem]
    refine t_call_intro (h1) ?_
    simp only [n0, go_sem]
    refine t_call_intro (h2) ?_
    simp only [m1, go_sem]
    simp only [aresult, ares, go_sem]
  subst c2
  rw [if_neg (by simp)]
  have h3 := rtakecount_den s a2 16 hs (by omega)
  have hle := takeC_le s.data.toList a2 16 (by omega)
  unfold takeCV at h3
  generalize Cw.takeC s.data.toList a2 16 = z at h3 hle ⊢
  obtain ⟨n, a3, e3⟩ := z
  simp only [] at h3 hle ⊢
  by_cases c3 : e3 = 0
  rotate_left
  · rw [if_pos c3]
    have m1 : (e3 != 0) = true := by simpa using c3
    refine PDen.le ?_ (oc_le e3)
    refine den_of_body k_ref37_takeOutcome ⟨rfl, Nat.le_of_ble_eq_true rfl, thaw_intro ?_⟩
    unfold c_ref37_takeOutcome
    simp only [go_sem]
    refine t_call_intro (h1) ?_
    simp only [n0, go_sem]
    refine t_call_intro (h2) ?_
    simp only [n0, go_sem]
    refine t_call_intro (h3) ?_
    simp only [m1, go_sem]
    simp only [aresult, ares, go_sem]
  subst c3
  rw [if_neg (by simp)]
  generalize hL : s.data.toList = L
  by_cases c4 : (vsSt L a3 n).2.2 = 0
  rotate_left
  · rw [if_pos c4]
    refine PDen.le ?_ (oc_le _)
    refine den_of_body k_ref37_takeOutcome ⟨rfl, Nat.le_of_ble_eq_true rfl, thaw_intro ?_⟩
    unfold c_ref37_takeOutcome
    simp only [go_sem]
    refine t_call_intro (h1) ?_
    simp only [n0, go_sem]
    refine t_call_intro (h2) ?_
    simp only [n0, go_sem]
    refine t_call_intro (h3) ?_
    simp only [n0, go_sem]
    refine t_loopO_intro [.cell 1 2 96 3] (fun k : Nat => k ≤ n ∧ ((vsSt L a3 k).2.2 = 0)) (fun k => n - k) 0 [1, 5, 6, 12, 13, 14, 15, 52, 53, 54, 55, 56, 57, 58, 59, 60, 61, 62, 63, 64, 65, 66, 67, 68, 69, 70, 71, 72, 73, 74] (fun k => [(1, .a (.int .i64 (vsSt L a3 k).2.1)), (12, .a (.int .i64 k)), (16, .any), (19, .any), (27, .any), (30, .any), (38, .any), (41, .any)]) (fun k => [[.a (.int .i64 0), .a (.int .i64 0), .a .nils], [.a (.int .i64 st), .a (.int .i64 cd), .own 0]]) (fun k => [⟨96, 3, (vsSt L a3 k).1.map Vl.row, false⟩]) ⟨by omega, by rfl⟩ (by simp) (by first | (simp; done) | simp [vsSt]) (by first | (simp; done) | simp [vsSt]) (by first | (simp; done) | simp [vsSt]) (fun k => by first | (simp; done) | simp [vsSt]) (fun k => by first | (simp; done) | simp [vsSt]) (fun k => by first | (simp; done) | simp [vsSt]) ?_
    intro k hk0 st_ hst
    have hk : k ≤ n := hk0.1
    have hall := hk0.2
    clear hk0
    simp only [go_sem] at hst
    subst hst
    by_cases hlt : k < n
    · have i1 : (k : Int) < (n : Int) := by omega
      have ewi := wrap1 k n hlt (by omega)
      have hd := rvdec_den s (vsSt L a3 k).2.1 hs
      rw [hL] at hd
      unfold decVV at hd
      rw [vl_rw] at hd
      have hvl := vsSt_len L a3 k
      have ek := vsSt_ok L a3 k hall
      by_cases hv : (decV L (vsSt L a3 k).2.1).2.2 = 0
      · have n2 : ((decV L (vsSt L a3 k).2.1).2.2 != 0) = false := by simpa using hv
        have r1 : (vsSt L a3 (k + 1)).1.map Vl.row = (vsSt L a3 k).1.map Vl.row ++ [[.int .i64 (decV L (vsSt L a3 k).2.1).1.kind, .int .i64 (decV L (vsSt L a3 k).2.1).1.n, .str (decV L (vsSt L a3 k).2.1).1.s]] := by rw [ek]; simp [Vl.row]
        have r2 : (vsSt L a3 (k + 1)).2.1 = (decV L (vsSt L a3 k).2.1).2.1 := by rw [ek]
        simp only [i1, go_sem]
        refine t_call_intro (hd) ?_
        simp only [n2, go_sem]
        refine t_gate_intro (by omega) ?_
        simp only [ewi, go_sem]
        refine t_roundO (k + 1) ⟨by omega, by rw [ek]; exact hv⟩ (by omega) (by first | (simp; done) | simp [r1, r2]) (by first | (simp; done) | simp [r1, r2]) (by first | (simp; done) | simp [r1, r2]) (by first | (simp; done) | simp [r1, r2]) (by first | (simp; done) | simp [r1, r2])
      · have n2 : ((decV L (vsSt L a3 k).2.1).2.2 != 0) = true := by simpa using hv
        have ee : (vsSt L a3 n).2.2 = (decV L (vsSt L a3 k).2.1).2.2 := by
          rw [vsSt_err L a3 (k + 1) (by rw [ek]; exact hv) n (by omega), ek]
        simp only [i1, go_sem]
        refine t_call_intro (hd) ?_
        simp only [n2, go_sem]
        simp only [aresult, ares, go_sem]
        simp [ee]
    · exact absurd (by rw [show n = k by omega]; exact hall) c4
  · rw [if_neg (by simp [c4])]
    refine den_of_body k_ref37_takeOutcome ⟨rfl, Nat.le_of_ble_eq_true rfl, thaw_intro ?_⟩
    unfold c_ref37_takeOutcome
    simp only [go_sem]
    refine t_call_intro (h1) ?_
    simp only [n0, go_sem]
    refine t_call_intro (h2) ?_
    simp only [n0, go_sem]
    refine t_call_intro (h3) ?_
    simp only [n0, go_sem]
    refine t_loopO_intro [.cell 1 2 96 3] (fun k : Nat => k ≤ n ∧ ((vsSt L a3 k).2.2 = 0)) (fun k => n - k) 0 [1, 5, 6, 12, 13, 14, 15, 52, 53, 54, 55, 56, 57, 58, 59, 60, 61, 62, 63, 64, 65, 66, 67, 68, 69, 70, 71, 72, 73, 74] (fun k => [(1, .a (.int .i64 (vsSt L a3 k).2.1)), (12, .a (.int .i64 k)), (16, .any), (19, .any), (27, .any), (30, .any), (38, .any), (41, .any)]) (fun k => [[.a (.int .i64 0), .a (.int .i64 0), .a .nils], [.a (.int .i64 st), .a (.int .i64 cd), .own 0]]) (fun k => [⟨96, 3, (vsSt L a3 k).1.map Vl.row, false⟩]) ⟨by omega, by rfl⟩ (by simp) (by first | (simp; done) | simp [vsSt]) (by first | (simp; done) | simp [vsSt]) (by first | (simp; done) | simp [vsSt]) (fun k => by first | (simp; done) | simp [vsSt]) (fun k => by first | (simp; done) | simp [vsSt]) (fun k => by first | (simp; done) | simp [vsSt]) ?_
    intro k hk0 st_ hst
    have hk : k ≤ n := hk0.1
    have hall := hk0.2
    clear hk0
    simp only [go_sem] at hst
    subst hst
    by_cases hlt : k < n
    · have i1 : (k : Int) < (n : Int) := by omega
      have ewi := wrap1 k n hlt (by omega)
      have hd := rvdec_den s (vsSt L a3 k).2.1 hs
      rw [hL] at hd
      unfold decVV at hd
      rw [vl_rw] at hd
      have hvl := vsSt_len L a3 k
      have ek := vsSt_ok L a3 k hall
      by_cases hv : (decV L (vsSt L a3 k).2.1).2.2 = 0
      · have n2 : ((decV L (vsSt L a3 k).2.1).2.2 != 0) = false := by simpa using hv
        have r1 : (vsSt L a3 (k + 1)).1.map Vl.row = (vsSt L a3 k).1.map Vl.row ++ [[.int .i64 (decV L (vsSt L a3 k).2.1).1.kind, .int .i64 (decV L (vsSt L a3 k).2.1).1.n, .str (decV L (vsSt L a3 k).2.1).1.s]] := by rw [ek]; simp [Vl.row]
        have r2 : (vsSt L a3 (k + 1)).2.1 = (decV L (vsSt L a3 k).2.1).2.1 := by rw [ek]
        simp only [i1, go_sem]
        refine t_call_intro (hd) ?_
        simp only [n2, go_sem]
        refine t_gate_intro (by omega) ?_
        simp only [ewi, go_sem]
        refine t_roundO (k + 1) ⟨by omega, by rw [ek]; exact hv⟩ (by omega) (by first | (simp; done) | simp [r1, r2]) (by first | (simp; done) | simp [r1, r2]) (by first | (simp; done) | simp [r1, r2]) (by first | (simp; done) | simp [r1, r2]) (by first | (simp; done) | simp [r1, r2])
      · exact absurd c4 (by rw [vsSt_err L a3 (k + 1) (by rw [ek]; exact hv) n (by omega), ek]; exact hv)
    · have i1 : ¬ (k : Int) < (n : Int) := by omega
      have kk : k = n := by omega
      subst kk
      simp only [i1, go_sem]
      simp only [aresult, ares, go_sem]
      rfl
end Go.Proofs.Ytbiongfnbbnndaa

/- Chapter 37: the reference's sessions and lists of sessions, read. -/
set_option linter.unusedSimpArgs false
set_option linter.unusedVariables false
namespace Go.Proofs.Ytbiongfnbbnndaa
open Go Ab Go.RowKit
set_option maxRecDepth 100000
attribute [local irreducible] awp aops aop asoft aeff aloop acall acallI acallT
attribute [local go_sem] Vl.row sRow fpRow Req.row Rpl.row Ses.row

def dM (L : List UInt8) (a m : Int) : Int × Int × Int := if (dN L a m).2.2 = 0 ∧ (dN L a m).1 < 1 then (0, 0, 5) else dN L a m
theorem dM_ok {L : List UInt8} {a m : Int} (h : (dM L a m).2.2 = 0) : 1 ≤ (dM L a m).1 ∧ (dM L a m).1 ≤ m ∧ dM L a m = dN L a m := by
  unfold dM at h ⊢
  split at h
  · simp at h
  · rename_i h1
    rw [if_neg h1]
    have h2 : 1 ≤ (dN L a m).1 := by
      rcases Int.lt_or_le (dN L a m).1 1 with q | q
      · exact absurd ⟨h, q⟩ h1
      · exact q
    refine ⟨h2, ?_, rfl⟩
    unfold dN at h2 h ⊢
    split
    · rename_i q; rw [if_pos q] at h2; simp at h2
    · rename_i q
      rw [if_neg q] at h h2
      split
      · rename_i q2; rw [if_pos q2] at h2; simp at h2
      · rename_i q2; simp only; omega
def rpl1 (cl nx : Int) (N k : Nat) (o : Oc) : Rpl := ⟨cl, nx - ((N : Int) - (k : Int)), o.st, o.cd, o.out⟩
def rsSt (L : List UInt8) (cl nx : Int) (N : Nat) (a : Int) : Nat → List Rpl × Int × Int
  | 0 => ([], a, 0)
  | k + 1 => if (rsSt L cl nx N a k).2.2 ≠ 0 then rsSt L cl nx N a k else ((rsSt L cl nx N a k).1 ++ [rpl1 cl nx N k (dO L (rsSt L cl nx N a k).2.1).1], (dO L (rsSt L cl nx N a k).2.1).2.1, (dO L (rsSt L cl nx N a k).2.1).2.2)
theorem rsSt_err (l : List UInt8) (cl nx : Int) (N : Nat) (a : Int) (k : Nat) (h : (rsSt l cl nx N a k).2.2 ≠ 0) : ∀ n, k ≤ n → rsSt l cl nx N a n = rsSt l cl nx N a k
  | n, hn => by
    induction n with
    | zero => rw [show k = 0 by omega]
    | succ n ih =>
      by_cases hk : k = n + 1
      · rw [hk]
      · have ih := ih (by omega)
        show (if (rsSt l cl nx N a n).2.2 ≠ 0 then rsSt l cl nx N a n else _) = _
        rw [if_pos (by rw [ih]; exact h), ih]
theorem rsSt_ok (l : List UInt8) (cl nx : Int) (N : Nat) (a : Int) (k : Nat) (h : (rsSt l cl nx N a k).2.2 = 0) : rsSt l cl nx N a (k + 1) = ((rsSt l cl nx N a k).1 ++ [rpl1 cl nx N k (dO l (rsSt l cl nx N a k).2.1).1], (dO l (rsSt l cl nx N a k).2.1).2.1, (dO l (rsSt l cl nx N a k).2.1).2.2) := if_neg (by simp [h])
theorem rsSt_len (l : List UInt8) (cl nx : Int) (N : Nat) (a : Int) : ∀ k, (rsSt l cl nx N a k).1.length ≤ k
  | 0 => Nat.le_refl _
  | k + 1 => by
    have ih := rsSt_len l cl nx N a k
    by_cases he : (rsSt l cl nx N a k).2.2 = 0
    · rw [rsSt_ok l cl nx N a k he]; simp; omega
    · rw [rsSt_err l cl nx N a k he (k + 1) (by omega)]; omega
def ses0 : Ses := ⟨0, 0, []⟩
def dSr (L : List UInt8) (cl nx a : Int) : Ses × Int × Int :=
  if (rsSt L cl nx (storedI nx).toNat a (storedI nx).toNat).2.2 ≠ 0 then (ses0, 0, (rsSt L cl nx (storedI nx).toNat a (storedI nx).toNat).2.2)
  else (⟨cl, nx, (rsSt L cl nx (storedI nx).toNat a (storedI nx).toNat).1⟩, (rsSt L cl nx (storedI nx).toNat a (storedI nx).toNat).2.1, 0)
def dS (L : List UInt8) (a : Int) : Ses × Int × Int :=
  if (dM L a 32).2.2 ≠ 0 then (ses0, 0, (dM L a 32).2.2)
  else if (dM L (dM L a 32).2.1 1099511627776).2.2 ≠ 0 then (ses0, 0, (dM L (dM L a 32).2.1 1099511627776).2.2)
  else dSr L (dM L a 32).1 (dM L (dM L a 32).2.1 1099511627776).1 (dM L (dM L a 32).2.1 1099511627776).2.1
def dSV (x : Ses × Int × Int) : AV := .tup [.agg x.1.row, .a (.int .i64 x.2.1), .a (.int .i64 x.2.2)]
theorem ses_le (e : Int) : VLe (.tup [.agg [.int .i64 0, .int .i64 0, .nils], .a (.int .i64 0), .a (.int .i64 e)]) (dSV (ses0, 0, e)) :=
  VLe.tup ⟨VLe.agg ⟨RLe.refl _, RLe.refl _, RLe.nils 5, trivial⟩, VLe.refl _, VLe.refl _, trivial⟩
theorem dM_cases (L : List UInt8) (a m : Int) : ((dN L a m).2.2 ≠ 0 ∧ dM L a m = dN L a m) ∨ ((dN L a m).2.2 = 0 ∧ (dN L a m).1 < 1 ∧ dM L a m = (0, 0, 5)) ∨ ((dN L a m).2.2 = 0 ∧ ¬ (dN L a m).1 < 1 ∧ dM L a m = dN L a m) := by
  unfold dM
  by_cases h : (dN L a m).2.2 = 0
  · by_cases h1 : (dN L a m).1 < 1
    · exact .inr (.inl ⟨h, h1, if_pos ⟨h, h1⟩⟩)
    · exact .inr (.inr ⟨h, h1, if_neg fun q => h1 q.2⟩)
  · exact .inl ⟨h, if_neg fun q => h q.1⟩
set_option maxHeartbeats 8000000 in
theorem rses_den (s : ByteArray) (a : Int) (hs : s.size ≤ 1125899906842624) : PDen Try.prog 46 [.a (.str s), .a (.int .i64 a)] (dSV (dS s.data.toList a)) := by
  have n0 : ((0 : Int) != 0) = false := rfl
  have m0 : ((0 : Int) == 0) = true := rfl
  have n5 : ((5 : Int) != 0) = true := rfl
  have h1 := rnum_den s a 32 hs (by omega)
  unfold dS
  rcases dM_cases s.data.toList a 32 with ⟨q1, q2⟩ | ⟨q1, q3, q2⟩ | ⟨q1, q3, q2⟩
  · rw [q2, if_pos q1]
    unfold dNV at h1
    generalize dN s.data.toList a 32 = x at h1 q1 ⊢
    have m1 : (x.2.2 != 0) = true := by simpa using q1
    have m2 : (x.2.2 == 0) = false := by simpa using q1
    refine PDen.le ?_ (ses_le _)
    refine den_of_body k_ref37_takeSession ⟨rfl, Nat.le_of_ble_eq_true rfl, thaw_intro ?_⟩
    unfold c_ref37_takeSession
    simp only [go_sem]
    refine t_call_intro (h1) ?_
    simp only [m1, m2, go_sem]
    simp only [aresult, ares, go_sem]
  · rw [q2, if_pos (by decide)]
    unfold dNV at h1
    generalize dN s.data.toList a 32 = x at h1 q1 q3 ⊢
    rw [q1] at h1
    refine PDen.le ?_ (ses_le _)
    refine den_of_body k_ref37_takeSession ⟨rfl, Nat.le_of_ble_eq_true rfl, thaw_intro ?_⟩
    unfold c_ref37_takeSession
    simp only [go_sem]
    refine t_call_intro (h1) ?_
    simp only [m0, q3, n5, go_sem]
    simp only [aresult, ares, go_sem]
  have hle := (dM_ok (show (dM s.data.toList a 32).2.2 = 0 by rw [q2]; exact q1)).2.1
  rw [q2, if_neg (by simp [q1])]
  rw [q2] at hle
  unfold dNV at h1
  generalize dN s.data.toList a 32 = x at h1 q1 q3 hle ⊢
  obtain ⟨cl, a1, e1⟩ := x
  simp only [] at q1 q3 h1 hle ⊢
  subst q1
  have h2 := rnum_den s a1 1099511627776 hs (by omega)
  rcases dM_cases s.data.toList a1 1099511627776 with ⟨p1, p2⟩ | ⟨p1, p3, p2⟩ | ⟨p1, p3, p2⟩
  · rw [p2, if_pos p1]
    unfold dNV at h2
    generalize dN s.data.toList a1 1099511627776 = x at h2 p1 ⊢
    have m1 : (x.2.2 != 0) = true := by simpa using p1
    have m2 : (x.2.2 == 0) = false := by simpa using p1
    refine PDen.le ?_ (ses_le _)
    refine den_of_body k_ref37_takeSession ⟨rfl, Nat.le_of_ble_eq_true rfl, thaw_intro ?_⟩
    unfold c_ref37_takeSession
    simp only [go_sem]
    refine t_call_intro (h1) ?_
    simp only [m0, q3, n0, go_sem]
    refine t_call_intro (h2) ?_
    simp only [m1, m2, go_sem]
    simp only [aresult, ares, go_sem]
  · rw [p2, if_pos (by decide)]
    unfold dNV at h2
    generalize dN s.data.toList a1 1099511627776 = x at h2 p1 p3 ⊢
    rw [p1] at h2
    refine PDen.le ?_ (ses_le _)
    refine den_of_body k_ref37_takeSession ⟨rfl, Nat.le_of_ble_eq_true rfl, thaw_intro ?_⟩
    unfold c_ref37_takeSession
    simp only [go_sem]
    refine t_call_intro (h1) ?_
    simp only [m0, q3, n0, go_sem]
    refine t_call_intro (h2) ?_
    simp only [m0, p3, n5, go_sem]
    simp only [aresult, ares, go_sem]
  have hle2 := (dM_ok (show (dM s.data.toList a1 1099511627776).2.2 = 0 by rw [p2]; exact p1)).2.1
  rw [p2, if_neg (by simp [p1])]
  rw [p2] at hle2
  unfold dNV at h2
  generalize dN s.data.toList a1 1099511627776 = y at h2 p1 p3 hle2 ⊢
  obtain ⟨nx, a2, e2⟩ := y
  simp only [] at p1 p3 h2 hle2 ⊢
  subst p1
  have h3 := rkept_den nx (by omega) hle2
  have hN : ((storedI nx).toNat : Int) = storedI nx ∧ (storedI nx).toNat ≤ 8 := by unfold storedI; split <;> omega
  rw [← hN.1] at h3
  unfold dSr
  generalize (storedI nx).toNat = n at h3 hN ⊢
  have hn8 := hN.2
  generalize hL : s.data.toList = L
  by_cases c4 : (rsSt L cl nx n a2 n).2.2 = 0
  rotate_left
  · rw [if_pos c4]
    refine PDen.le ?_ (ses_le _)
    refine den_of_body k_ref37_takeSession ⟨rfl, Nat.le_of_ble_eq_true rfl, thaw_intro ?_⟩
    unfold c_ref37_takeSession
    simp only [go_sem]
    refine t_call_intro (h1) ?_
    simp only [m0, q3, n0, go_sem]
    refine t_call_intro (h2) ?_
    simp only [m0, p3, n0, go_sem]
    refine t_call_intro (h3) ?_
    simp only [go_sem]
    refine t_loopO_intro [.cell 1 2 40 5] (fun k : Nat => k ≤ n ∧ ((rsSt L cl nx n a2 k).2.2 = 0)) (fun k => n - k) 0 [1, 5, 6, 12, 13, 14, 15, 55, 56, 57, 58, 59, 60, 61, 62, 63, 64, 65, 66, 67, 68, 69, 70, 71, 72, 73, 74, 75, 76, 77, 78, 79, 80, 81, 82, 83, 84, 85] (fun k => [(1, .a (.int .i64 (rsSt L cl nx n a2 k).2.1)), (12, .a (.int .i64 k)), (16, .any), (19, .any), (33, .any), (36, .any)]) (fun k => [[.a (.int .i64 0), .a (.int .i64 0), .a .nils], [.a (.int .i64 cl), .a (.int .i64 nx), .own 0]]) (fun k => [⟨40, 5, (rsSt L cl nx n a2 k).1.map Rpl.row, false⟩]) ⟨by omega, by rfl⟩ (by simp) (by first | (simp; done) | simp [rsSt]) (by first | (simp; done) | simp [rsSt]) (by first | (simp; done) | simp [rsSt]) (fun k => by first | (simp; done) | simp [rsSt]) (fun k => by first | (simp; done) | simp [rsSt]) (fun k => by first | (simp; done) | simp [rsSt]) ?_
    intro k hk0 st_ hst
    have hk : k ≤ n := hk0.1
    have hall := hk0.2
    clear hk0
    simp only [go_sem] at hst
    subst hst
    by_cases hlt : k < n
    · have i1 : (k : Int) < (n : Int) := by omega
      have ewi := wrap1 k n hlt (by omega)
      have hd := rout_den s (rsSt L cl nx n a2 k).2.1 hs
      rw [hL] at hd
      unfold dOV Oc.row at hd
      have hvl := rsSt_len L cl nx n a2 k
      have ek := rsSt_ok L cl nx n a2 k hall
      have w1 : IntKind.i64.wrap ((n : Int) - (k : Int)) = (n : Int) - (k : Int) := by rw [IntKind.wrap_i64]; omega
      have w2 : IntKind.i64.wrap (nx - ((n : Int) - (k : Int))) = nx - ((n : Int) - (k : Int)) := by rw [IntKind.wrap_i64]; omega
      by_cases hv : (dO L (rsSt L cl nx n a2 k).2.1).2.2 = 0
      · have n2 : ((dO L (rsSt L cl nx n a2 k).2.1).2.2 != 0) = false := by simpa using hv
        have r1 : (rsSt L cl nx n a2 (k + 1)).1.map Rpl.row = (rsSt L cl nx n a2 k).1.map Rpl.row ++ [[.int .i64 cl, .int .i64 (nx - ((n : Int) - (k : Int))), .int .i64 (dO L (rsSt L cl nx n a2 k).2.1).1.st, .int .i64 (dO L (rsSt L cl nx n a2 k).2.1).1.cd, .slice 3 ((dO L (rsSt L cl nx n a2 k).2.1).1.out.map Vl.row)]] := by rw [ek]; simp [Rpl.row, rpl1]
        have r2 : (rsSt L cl nx n a2 (k + 1)).2.1 = (dO L (rsSt L cl nx n a2 k).2.1).2.1 := by rw [ek]
        simp only [i1, go_sem]
        refine t_call_intro (hd) ?_
        simp only [n2, w1, w2, go_sem]
        refine t_gate_intro (by omega) ?_
        simp only [ewi, go_sem]
        refine t_roundO (k + 1) ⟨by omega, by rw [ek]; exact hv⟩ (by omega) (by first | (simp; done) | simp [r1, r2]) (by first | (simp; done) | simp [r1, r2]) (by first | (simp; done) | simp [r1, r2]) (by first | (simp; done) | simp [r1, r2]) (by first | (simp; done) | simp [r1, r2])
      · have n2 : ((dO L (rsSt L cl nx n a2 k).2.1).2.2 != 0) = true := by simpa using hv
        have ee : (rsSt L cl nx n a2 n).2.2 = (dO L (rsSt L cl nx n a2 k).2.1).2.2 := by
          rw [rsSt_err L cl nx n a2 (k + 1) (by rw [ek]; exact hv) n (by omega), ek]
        simp only [i1, go_sem]
        refine t_call_intro (hd) ?_
        simp only [n2, go_sem]
        simp only [aresult, ares, go_sem]
        simp [ee]
    · obtain rfl : k = n := by omega
      exact absurd hall c4
  · rw [if_neg (by simp [c4])]
    refine den_of_body k_ref37_takeSession ⟨rfl, Nat.le_of_ble_eq_true rfl, thaw_intro ?_⟩
    unfold c_ref37_takeSession
    simp only [go_sem]
    refine t_call_intro (h1) ?_
    simp only [m0, q3, n0, go_sem]
    refine t_call_intro (h2) ?_
    simp only [m0, p3, n0, go_sem]
    refine t_call_intro (h3) ?_
    simp only [go_sem]
    refine t_loopO_intro [.cell 1 2 40 5] (fun k : Nat => k ≤ n ∧ ((rsSt L cl nx n a2 k).2.2 = 0)) (fun k => n - k) 0 [1, 5, 6, 12, 13, 14, 15, 55, 56, 57, 58, 59, 60, 61, 62, 63, 64, 65, 66, 67, 68, 69, 70, 71, 72, 73, 74, 75, 76, 77, 78, 79, 80, 81, 82, 83, 84, 85] (fun k => [(1, .a (.int .i64 (rsSt L cl nx n a2 k).2.1)), (12, .a (.int .i64 k)), (16, .any), (19, .any), (33, .any), (36, .any)]) (fun k => [[.a (.int .i64 0), .a (.int .i64 0), .a .nils], [.a (.int .i64 cl), .a (.int .i64 nx), .own 0]]) (fun k => [⟨40, 5, (rsSt L cl nx n a2 k).1.map Rpl.row, false⟩]) ⟨by omega, by rfl⟩ (by simp) (by first | (simp; done) | simp [rsSt]) (by first | (simp; done) | simp [rsSt]) (by first | (simp; done) | simp [rsSt]) (fun k => by first | (simp; done) | simp [rsSt]) (fun k => by first | (simp; done) | simp [rsSt]) (fun k => by first | (simp; done) | simp [rsSt]) ?_
    intro k hk0 st_ hst
    have hk : k ≤ n := hk0.1
    have hall := hk0.2
    clear hk0
    simp only [go_sem] at hst
    subst hst
    by_cases hlt : k < n
    · have i1 : (k : Int) < (n : Int) := by omega
      have ewi := wrap1 k n hlt (by omega)
      have hd := rout_den s (rsSt L cl nx n a2 k).2.1 hs
      rw [hL] at hd
      unfold dOV Oc.row at hd
      have hvl := rsSt_len L cl nx n a2 k
      have ek := rsSt_ok L cl nx n a2 k hall
      have w1 : IntKind.i64.wrap ((n : Int) - (k : Int)) = (n : Int) - (k : Int) := by rw [IntKind.wrap_i64]; omega
      have w2 : IntKind.i64.wrap (nx - ((n : Int) - (k : Int))) = nx - ((n : Int) - (k : Int)) := by rw [IntKind.wrap_i64]; omega
      by_cases hv : (dO L (rsSt L cl nx n a2 k).2.1).2.2 = 0
      · have n2 : ((dO L (rsSt L cl nx n a2 k).2.1).2.2 != 0) = false := by simpa using hv
        have r1 : (rsSt L cl nx n a2 (k + 1)).1.map Rpl.row = (rsSt L cl nx n a2 k).1.map Rpl.row ++ [[.int .i64 cl, .int .i64 (nx - ((n : Int) - (k : Int))), .int .i64 (dO L (rsSt L cl nx n a2 k).2.1).1.st, .int .i64 (dO L (rsSt L cl nx n a2 k).2.1).1.cd, .slice 3 ((dO L (rsSt L cl nx n a2 k).2.1).1.out.map Vl.row)]] := by rw [ek]; simp [Rpl.row, rpl1]
        have r2 : (rsSt L cl nx n a2 (k + 1)).2.1 = (dO L (rsSt L cl nx n a2 k).2.1).2.1 := by rw [ek]
        simp only [i1, go_sem]
        refine t_call_intro (hd) ?_
        simp only [n2, w1, w2, go_sem]
        refine t_gate_intro (by omega) ?_
        simp only [ewi, go_sem]
        refine t_roundO (k + 1) ⟨by omega, by rw [ek]; exact hv⟩ (by omega) (by first | (simp; done) | simp [r1, r2]) (by first | (simp; done) | simp [r1, r2]) (by first | (simp; done) | simp [r1, r2]) (by first | (simp; done) | simp [r1, r2]) (by first | (simp; done) | simp [r1, r2])
      · exact absurd c4 (by rw [rsSt_err L cl nx n a2 (k + 1) (by rw [ek]; exact hv) n (by omega), ek]; exact hv)
    · have i1 : ¬ (k : Int) < (n : Int) := by omega
      have kk : k = n := by omega
      subst kk
      simp only [i1, go_sem]
      simp only [aresult, ares, go_sem]
      rfl
end Go.Proofs.Ytbiongfnbbnndaa

/- Chapter 37: the reference's Decode. -/
set_option linter.unusedSimpArgs false
set_option linter.unusedVariables false
namespace Go.Proofs.Ytbiongfnbbnndaa
open Go Ab Go.RowKit
set_option maxRecDepth 100000
attribute [local irreducible] awp aops aop asoft aeff aloop acall acallI acallT
attribute [local go_sem] Vl.row sRow fpRow Req.row Rpl.row Ses.row

def ssSt (L : List UInt8) (a : Int) : Nat → List Ses × Int × Int
  | 0 => ([], a, 0)
  | k + 1 => if (ssSt L a k).2.2 ≠ 0 then ssSt L a k else ((ssSt L a k).1 ++ [(dS L (ssSt L a k).2.1).1], (dS L (ssSt L a k).2.1).2.1, (dS L (ssSt L a k).2.1).2.2)
theorem ssSt_err (l : List UInt8) (a : Int) (k : Nat) (h : (ssSt l a k).2.2 ≠ 0) : ∀ n, k ≤ n → ssSt l a n = ssSt l a k
  | n, hn => by
    induction n with
    | zero => rw [show k = 0 by omega]
    | succ n ih =>
      by_cases hk : k = n + 1
      · rw [hk]
      · have ih := ih (by omega)
        show (if (ssSt l a n).2.2 ≠ 0 then ssSt l a n else _) = _
        rw [if_pos (by rw [ih]; exact h), ih]
theorem ssSt_ok (l : List UInt8) (a : Int) (k : Nat) (h : (ssSt l a k).2.2 = 0) : ssSt l a (k + 1) = ((ssSt l a k).1 ++ [(dS l (ssSt l a k).2.1).1], (dS l (ssSt l a k).2.1).2.1, (dS l (ssSt l a k).2.1).2.2) := if_neg (by simp [h])
theorem ssSt_len (l : List UInt8) (a : Int) : ∀ k, (ssSt l a k).1.length ≤ k
  | 0 => Nat.le_refl _
  | k + 1 => by
    have ih := ssSt_len l a k
    by_cases he : (ssSt l a k).2.2 = 0
    · rw [ssSt_ok l a k he]; simp; omega
    · rw [ssSt_err l a k he (k + 1) (by omega)]; omega
def dAr (L : List UInt8) (n : Nat) (a : Int) : List Ses × Int × Int :=
  if (ssSt L a n).2.2 ≠ 0 then ([], 0, (ssSt L a n).2.2)
  else if sessV (ssSt L a n).1 = true then ((ssSt L a n).1, (ssSt L a n).2.1, 0) else ([], 0, 5)
def dA (L : List UInt8) (a : Int) : List Ses × Int × Int :=
  if (Cw.takeC L a 32).2.2 ≠ 0 then ([], 0, (Cw.takeC L a 32).2.2) else dAr L (Cw.takeC L a 32).1 (Cw.takeC L a 32).2.1
def dAV (x : List Ses × Int × Int) : AV := .tup [.a (.slice 3 (x.1.map Ses.row)), .a (.int .i64 x.2.1), .a (.int .i64 x.2.2)]
theorem da_le (e : Int) : VLe (.tup [.a .nils, .a (.int .i64 0), .a (.int .i64 e)]) (dAV ([], 0, e)) :=
  VLe.tup ⟨VLe.a (RLe.nils 3), VLe.refl _, VLe.refl _, trivial⟩
/-! What is read fits -/
theorem decV_size (L : List UInt8) (a : Int) : (decV L a).1.s.size ≤ L.length := by
  exact (decV_in L a).1
theorem vsSt_fit (L : List UInt8) (hL : L.length ≤ 1125899906842624) (a : Int) : ∀ k, ∀ v ∈ (vsSt L a k).1, v.s.size ≤ 1125899906842624
  | 0 => fun v h => by cases h
  | k + 1 => fun v h => by
    by_cases he : (vsSt L a k).2.2 = 0
    · rw [vsSt_ok L a k he] at h
      rcases List.mem_append.1 h with h | h
      · exact vsSt_fit L hL a k v h
      · rw [List.mem_singleton.1 h]; exact Nat.le_trans (decV_size L _) hL
    · rw [vsSt_err L a k he (k + 1) (by omega)] at h
      exact vsSt_fit L hL a k v h
theorem dO_fit (L : List UInt8) (hL : L.length ≤ 1125899906842624) (a : Int) : (dO L a).1.out.length ≤ 16 ∧ ∀ v ∈ (dO L a).1.out, v.s.size ≤ 1125899906842624 := by
  have h0 : oc0.out.length ≤ 16 ∧ ∀ v ∈ oc0.out, v.s.size ≤ 1125899906842624 := ⟨by decide, fun v h => by cases h⟩
  unfold dO
  split
  · exact h0
  · split
    · exact h0
    · split
      · exact h0
      · split
        · exact h0
        · have h1 := takeC_le L (dN L (dN L a 9999).2.1 9999).2.1 16 (by omega)
          have h2 := vsSt_len L (Cw.takeC L (dN L (dN L a 9999).2.1 9999).2.1 16).2.1 (Cw.takeC L (dN L (dN L a 9999).2.1 9999).2.1 16).1
          exact ⟨by simp only; omega, vsSt_fit L hL _ _⟩
theorem rsSt_fit (L : List UInt8) (hL : L.length ≤ 1125899906842624) (cl nx : Int) (N : Nat) (a : Int) : ∀ k, ∀ r ∈ (rsSt L cl nx N a k).1, VlsFit r.out
  | 0 => fun v h => by cases h
  | k + 1 => fun v h => by
    by_cases he : (rsSt L cl nx N a k).2.2 = 0
    · rw [rsSt_ok L cl nx N a k he] at h
      rcases List.mem_append.1 h with h | h
      · exact rsSt_fit L hL cl nx N a k v h
      · rw [List.mem_singleton.1 h]
        have := dO_fit L hL (rsSt L cl nx N a k).2.1
        exact ⟨by show (dO L _).1.out.length ≤ _; omega, fun v hv => by have := this.2 v hv; omega⟩
    · rw [rsSt_err L cl nx N a k he (k + 1) (by omega)] at h
      exact rsSt_fit L hL cl nx N a k v h
theorem dS_fit (L : List UInt8) (hL : L.length ≤ 1125899906842624) (a : Int) : (dS L a).1.fit := by
  have h0 : ses0.fit := ⟨by decide, fun r h => by cases h⟩
  unfold dS
  split
  · exact h0
  · split
    · exact h0
    · unfold dSr
      split
      · exact h0
      · have h1 := rsSt_len L (dM L a 32).1 (dM L (dM L a 32).2.1 1099511627776).1 (storedI (dM L (dM L a 32).2.1 1099511627776).1).toNat (dM L (dM L a 32).2.1 1099511627776).2.1 (storedI (dM L (dM L a 32).2.1 1099511627776).1).toNat
        have h2 : (storedI (dM L (dM L a 32).2.1 1099511627776).1).toNat ≤ 8 := by unfold storedI; split <;> omega
        exact ⟨by simp only; omega, rsSt_fit L hL _ _ _ _ _⟩
theorem ssSt_fit (L : List UInt8) (hL : L.length ≤ 1125899906842624) (a : Int) : ∀ k, ∀ r ∈ (ssSt L a k).1, r.fit
  | 0 => fun v h => by cases h
  | k + 1 => fun v h => by
    by_cases he : (ssSt L a k).2.2 = 0
    · rw [ssSt_ok L a k he] at h
      rcases List.mem_append.1 h with h | h
      · exact ssSt_fit L hL a k v h
      · rw [List.mem_singleton.1 h]; exact dS_fit L hL _
    · rw [ssSt_err L a k he (k + 1) (by omega)] at h
      exact ssSt_fit L hL a k v h
set_option maxHeartbeats 8000000 in
theorem rdec_den (s : ByteArray) (a : Int) (hs : s.size ≤ 1125899906842624) : PDen Try.prog 26 [.a (.str s), .a (.int .i64 a)] (dAV (dA s.data.toList a)) := by
  have n0 : ((0 : Int) != 0) = false := rfl
  have hLl : s.data.toList.length ≤ 1125899906842624 := by rw [dsize]; exact hs
  have h1 := rtakecount_den s a 32 hs (by omega)
  have hle := takeC_le s.data.toList a 32 (by omega)
  unfold takeCV at h1
  unfold dA
  generalize Cw.takeC s.data.toList a 32 = x at h1 hle ⊢
  obtain ⟨n, a1, e1⟩ := x
  simp only [] at h1 hle ⊢
  by_cases c1 : e1 = 0
  rotate_left
  · rw [if_pos c1]
    have m1 : (e1 != 0) = true := by simpa using c1
    refine PDen.le ?_ (da_le e1)
    refine den_of_body k_ref37_Decode ⟨rfl, Nat.le_of_ble_eq_true rfl, thaw_intro ?_⟩
    unfold c_ref37_Decode
    simp only [go_sem]
    refine t_call_intro (h1) ?_
    simp only [m1, go_sem]
    simp only [aresult, ares, go_sem]
  subst c1
  rw [if_neg (by simp)]
  unfold dAr
  generalize hL : s.data.toList = L at hLl ⊢
  by_cases c4 : (ssSt L a1 n).2.2 = 0
  rotate_left
  · rw [if_pos c4]
    refine PDen.le ?_ (da_le _)
    refine den_of_body k_ref37_Decode ⟨rfl, Nat.le_of_ble_eq_true rfl, thaw_intro ?_⟩
    unfold c_ref37_Decode
    simp only [go_sem]
    refine t_call_intro (h1) ?_
    simp only [n0, go_sem]
    refine t_loopO_intro [.slot 9 66 3] (fun k : Nat => k ≤ n ∧ ((ssSt L a1 k).2.2 = 0)) (fun k => n - k) 0 [1, 4, 5, 6, 9, 10, 11, 12, 13, 24, 25, 26, 27, 28, 29, 30, 31, 32, 33, 34, 35, 36, 37, 38, 39, 40, 41, 42, 43] (fun k => [(1, .a (.int .i64 (ssSt L a1 k).2.1)), (9, .own 0), (10, .a (.int .i64 k)), (14, .any), (17, .any)]) (fun k => []) (fun k => [⟨66, 3, (ssSt L a1 k).1.map Ses.row, false⟩]) ⟨by omega, by rfl⟩ (by simp) (by first | (simp; done) | simp [ssSt]) (by first | (simp; done) | simp [ssSt]) (by first | (simp; done) | simp [ssSt]) (fun k => by first | (simp; done) | simp [ssSt]) (fun k => by first | (simp; done) | simp [ssSt]) (fun k => by first | (simp; done) | simp [ssSt]) ?_
    intro k hk0 st_ hst
    have hk : k ≤ n := hk0.1
    have hall := hk0.2
    clear hk0
    simp only [go_sem] at hst
    subst hst
    by_cases hlt : k < n
    · have i1 : (k : Int) < (n : Int) := by omega
      have ewi := wrap1 k n hlt (by omega)
      have hd := rses_den s (ssSt L a1 k).2.1 hs
      rw [hL] at hd
      unfold dSV at hd
      rw [ses_rw] at hd
      have hvl := ssSt_len L a1 k
      have ek := ssSt_ok L a1 k hall
      by_cases hv : (dS L (ssSt L a1 k).2.1).2.2 = 0
      · have n2 : ((dS L (ssSt L a1 k).2.1).2.2 != 0) = false := by simpa using hv
        have r1 : (ssSt L a1 (k + 1)).1.map Ses.row = (ssSt L a1 k).1.map Ses.row ++ [[.int .i64 (dS L (ssSt L a1 k).2.1).1.cl, .int .i64 (dS L (ssSt L a1 k).2.1).1.nx, .slice 5 ((dS L (ssSt L a1 k).2.1).1.rs.map Rpl.row)]] := by rw [ek]; simp [Ses.row]
        have r2 : (ssSt L a1 (k + 1)).2.1 = (dS L (ssSt L a1 k).2.1).2.1 := by rw [ek]
        simp only [i1, go_sem]
        refine t_call_intro (hd) ?_
        simp only [n2, go_sem]
        refine t_gate_intro (by omega) ?_
        simp only [ewi, go_sem]
        refine t_roundO (k + 1) ⟨by omega, by rw [ek]; exact hv⟩ (by omega) (by first | (simp; done) | simp [r1, r2]) (by first | (simp; done) | simp [r1, r2]) (by first | (simp; done) | simp [r1, r2]) (by first | (simp; done) | simp [r1, r2]) (by first | (simp; done) | simp [r1, r2])
      · have n2 : ((dS L (ssSt L a1 k).2.1).2.2 != 0) = true := by simpa using hv
        have ee : (ssSt L a1 n).2.2 = (dS L (ssSt L a1 k).2.1).2.2 := by
          rw [ssSt_err L a1 (k + 1) (by rw [ek]; exact hv) n (by omega), ek]
        simp only [i1, go_sem]
        refine t_call_intro (hd) ?_
        simp only [n2, go_sem]
        simp only [aresult, ares, go_sem]
        simp [ee]
    · obtain rfl : k = n := by omega
      exact absurd hall c4
  · rw [if_neg (by simp [c4])]
    have hvd := rsessV_den (ssSt L a1 n).1 ⟨by have := ssSt_len L a1 n; omega, ssSt_fit L hLl a1 n⟩
    cases hv0 : sessV (ssSt L a1 n).1 with
    | false =>
      rw [if_neg (by simp)]
      rw [hv0] at hvd
      refine PDen.le ?_ (da_le _)
      refine den_of_body k_ref37_Decode ⟨rfl, Nat.le_of_ble_eq_true rfl, thaw_intro ?_⟩
      unfold c_ref37_Decode
      simp only [go_sem]
      refine t_call_intro (h1) ?_
      simp only [n0, go_sem]
      refine t_loopO_intro [.slot 9 66 3] (fun k : Nat => k ≤ n ∧ ((ssSt L a1 k).2.2 = 0)) (fun k => n - k) 0 [1, 4, 5, 6, 9, 10, 11, 12, 13, 24, 25, 26, 27, 28, 29, 30, 31, 32, 33, 34, 35, 36, 37, 38, 39, 40, 41, 42, 43] (fun k => [(1, .a (.int .i64 (ssSt L a1 k).2.1)), (9, .own 0), (10, .a (.int .i64 k)), (14, .any), (17, .any)]) (fun k => []) (fun k => [⟨66, 3, (ssSt L a1 k).1.map Ses.row, false⟩]) ⟨by omega, by rfl⟩ (by simp) (by first | (simp; done) | simp [ssSt]) (by first | (simp; done) | simp [ssSt]) (by first | (simp; done) | simp [ssSt]) (fun k => by first | (simp; done) | simp [ssSt]) (fun k => by first | (simp; done) | simp [ssSt]) (fun k => by first | (simp; done) | simp [ssSt]) ?_
      intro k hk0 st_ hst
      have hk : k ≤ n := hk0.1
      have hall := hk0.2
      clear hk0
      simp only [go_sem] at hst
      subst hst
      by_cases hlt : k < n
      · have i1 : (k : Int) < (n : Int) := by omega
        have ewi := wrap1 k n hlt (by omega)
        have hd := rses_den s (ssSt L a1 k).2.1 hs
        rw [hL] at hd
        unfold dSV at hd
        rw [ses_rw] at hd
        have hvl := ssSt_len L a1 k
        have ek := ssSt_ok L a1 k hall
        by_cases hv : (dS L (ssSt L a1 k).2.1).2.2 = 0
        · have n2 : ((dS L (ssSt L a1 k).2.1).2.2 != 0) = false := by simpa using hv
          have r1 : (ssSt L a1 (k + 1)).1.map Ses.row = (ssSt L a1 k).1.map Ses.row ++ [[.int .i64 (dS L (ssSt L a1 k).2.1).1.cl, .int .i64 (dS L (ssSt L a1 k).2.1).1.nx, .slice 5 ((dS L (ssSt L a1 k).2.1).1.rs.map Rpl.row)]] := by rw [ek]; simp [Ses.row]
          have r2 : (ssSt L a1 (k + 1)).2.1 = (dS L (ssSt L a1 k).2.1).2.1 := by rw [ek]
          simp only [i1, go_sem]
          refine t_call_intro (hd) ?_
          simp only [n2, go_sem]
          refine t_gate_intro (by omega) ?_
          simp only [ewi, go_sem]
          refine t_roundO (k + 1) ⟨by omega, by rw [ek]; exact hv⟩ (by omega) (by first | (simp; done) | simp [r1, r2]) (by first | (simp; done) | simp [r1, r2]) (by first | (simp; done) | simp [r1, r2]) (by first | (simp; done) | simp [r1, r2]) (by first | (simp; done) | simp [r1, r2])
        · exact absurd c4 (by rw [ssSt_err L a1 (k + 1) (by rw [ek]; exact hv) n (by omega), ek]; exact hv)
      · have i1 : ¬ (k : Int) < (n : Int) := by omega
        obtain rfl : k = n := by omega
        simp only [i1, go_sem]
        refine t_call_intro (hvd) ?_
        simp only [go_sem]
        simp only [aresult, ares, go_sem]
    | true =>
      rw [if_pos rfl]
      rw [hv0] at hvd
      refine den_of_body k_ref37_Decode ⟨rfl, Nat.le_of_ble_eq_true rfl, thaw_intro ?_⟩
      unfold c_ref37_Decode
      simp only [go_sem]
      refine t_call_intro (h1) ?_
      simp only [n0, go_sem]
      refine t_loopO_intro [.slot 9 66 3] (fun k : Nat => k ≤ n ∧ ((ssSt L a1 k).2.2 = 0)) (fun k => n - k) 0 [1, 4, 5, 6, 9, 10, 11, 12, 13, 24, 25, 26, 27, 28, 29, 30, 31, 32, 33, 34, 35, 36, 37, 38, 39, 40, 41, 42, 43] (fun k => [(1, .a (.int .i64 (ssSt L a1 k).2.1)), (9, .own 0), (10, .a (.int .i64 k)), (14, .any), (17, .any)]) (fun k => []) (fun k => [⟨66, 3, (ssSt L a1 k).1.map Ses.row, false⟩]) ⟨by omega, by rfl⟩ (by simp) (by first | (simp; done) | simp [ssSt]) (by first | (simp; done) | simp [ssSt]) (by first | (simp; done) | simp [ssSt]) (fun k => by first | (simp; done) | simp [ssSt]) (fun k => by first | (simp; done) | simp [ssSt]) (fun k => by first | (simp; done) | simp [ssSt]) ?_
      intro k hk0 st_ hst
      have hk : k ≤ n := hk0.1
      have hall := hk0.2
      clear hk0
      simp only [go_sem] at hst
      subst hst
      by_cases hlt : k < n
      · have i1 : (k : Int) < (n : Int) := by omega
        have ewi := wrap1 k n hlt (by omega)
        have hd := rses_den s (ssSt L a1 k).2.1 hs
        rw [hL] at hd
        unfold dSV at hd
        rw [ses_rw] at hd
        have hvl := ssSt_len L a1 k
        have ek := ssSt_ok L a1 k hall
        by_cases hv : (dS L (ssSt L a1 k).2.1).2.2 = 0
        · have n2 : ((dS L (ssSt L a1 k).2.1).2.2 != 0) = false := by simpa using hv
          have r1 : (ssSt L a1 (k + 1)).1.map Ses.row = (ssSt L a1 k).1.map Ses.row ++ [[.int .i64 (dS L (ssSt L a1 k).2.1).1.cl, .int .i64 (dS L (ssSt L a1 k).2.1).1.nx, .slice 5 ((dS L (ssSt L a1 k).2.1).1.rs.map Rpl.row)]] := by rw [ek]; simp [Ses.row]
          have r2 : (ssSt L a1 (k + 1)).2.1 = (dS L (ssSt L a1 k).2.1).2.1 := by rw [ek]
          simp only [i1, go_sem]
          refine t_call_intro (hd) ?_
          simp only [n2, go_sem]
          refine t_gate_intro (by omega) ?_
          simp only [ewi, go_sem]
          refine t_roundO (k + 1) ⟨by omega, by rw [ek]; exact hv⟩ (by omega) (by first | (simp; done) | simp [r1, r2]) (by first | (simp; done) | simp [r1, r2]) (by first | (simp; done) | simp [r1, r2]) (by first | (simp; done) | simp [r1, r2]) (by first | (simp; done) | simp [r1, r2])
        · exact absurd c4 (by rw [ssSt_err L a1 (k + 1) (by rw [ek]; exact hv) n (by omega), ek]; exact hv)
      · have i1 : ¬ (k : Int) < (n : Int) := by omega
        obtain rfl : k = n := by omega
        simp only [i1, go_sem]
        refine t_call_intro (hvd) ?_
        simp only [go_sem]
        simp only [aresult, ares, go_sem]
        rfl
end Go.Proofs.Ytbiongfnbbnndaa

/- Chapter 37: what is encoded is decoded. -/
set_option linter.unusedSimpArgs false
set_option linter.unusedVariables false
namespace Go.Proofs.Ytbiongfnbbnndaa
open Go Ab Go.RowKit

theorem dN_RT {l : List UInt8} {a n m : Int} {u : Nat} (h : At l a n (Cw.vint u)) (hu : (u : Int) < Cw.M64) (hm : (u : Int) ≤ m) : dN l a m = ((u : Int), n, 0) := by
  unfold dN
  rw [takeU_RT h hu]
  rw [if_neg (by simp), if_neg (by simp only; omega)]
theorem dM_RT {l : List UInt8} {a n m : Int} {u : Nat} (h : At l a n (Cw.vint u)) (hu : (u : Int) < Cw.M64) (hm : (u : Int) ≤ m) (h1 : 1 ≤ u) : dM l a m = ((u : Int), n, 0) := by
  unfold dM
  rw [dN_RT h hu hm, if_neg (by simp only; omega)]
theorem vsSt_RT (l : List UInt8) (a n : Int) (vs : List Vl) (h : At l a n (vs.map valL).flatten) (hv : ∀ v ∈ vs, valV v = true ∧ -Cw.M63 ≤ v.n ∧ v.n < Cw.M63) : ∀ k, k ≤ vs.length → vsSt l a k = (vs.take k, a + (((vs.take k).map valL).flatten.length : Int), 0)
  | 0, _ => by simp [vsSt]
  | k + 1, hk => by
    have ih := vsSt_RT l a n vs h hv k (by omega)
    rw [flat_split valL vs k (by omega)] at h
    have HH := h.split.2.split.1
    have hd := decV_RT HH (hv _ (List.getElem_mem (by omega))).1 (hv _ (List.getElem_mem (by omega))).2.1 (hv _ (List.getElem_mem (by omega))).2.2
    rw [vsSt_ok l a k (by rw [ih]), ih]
    simp only []
    rw [hd, flat_next valL vs k (by omega), List.take_succ_eq_append_getElem (by omega)]
    simp only []
    rw [List.length_append]
    refine Prod.ext rfl (Prod.ext ?_ rfl)
    simp only []
    omega
theorem outHd_pos (r : Rpl) (h : outV r.st r.cd r.out = true) : 1 ≤ (outHd r).length := by
  obtain ⟨a1, a2, a3, a4, a5, _⟩ := outV_le h
  have h1 := vint_pos r.st.toNat (by rw [Cw.m64]; omega)
  unfold outHd
  simp only [List.length_append]; omega
theorem dO_RT {l : List UInt8} {a n : Int} {r : Rpl} (h : At l a n (outL r)) (hv : outV r.st r.cd r.out = true) (hf : r.full) : dO l a = (⟨r.st, r.cd, r.out⟩, n, 0) := by
  obtain ⟨a1, a2, a3, a4, a5, a6⟩ := outV_le hv
  have hvs : ∀ v ∈ r.out, valV v = true ∧ -Cw.M63 ≤ v.n ∧ v.n < Cw.M63 := fun v hv => ⟨a6 v hv, (hf.out.all v hv).n.m63.1, (hf.out.all v hv).n.m63.2⟩
  unfold outL outK outHd at h
  rw [List.take_length, List.append_assoc, List.append_assoc] at h
  obtain ⟨g1, h⟩ := h.split
  obtain ⟨g2, h⟩ := h.split
  obtain ⟨g3, g4⟩ := h.split
  have l4 := g4.len
  have hp : r.out.length ≤ ((r.out.map valL).flatten).length := flat_len valL r.out fun v hx => valL_pos v (hvs v hx).2.1 (hvs v hx).2.2
  have e1 := dN_RT (m := 9999) g1 (by rw [Cw.m64]; omega) (by omega)
  have e2 := dN_RT (m := 9999) g2 (by rw [Cw.m64]; omega) (by omega)
  have e3 := takeC_RT (m := 16) g3 (by rw [Cw.m64]; omega) (by omega) (by omega)
  have e4 := vsSt_RT l _ n r.out g4 hvs r.out.length (Nat.le_refl _)
  rw [List.take_length, ← l4.2.1] at e4
  have t1 : ((r.st.toNat : Nat) : Int) = r.st := by omega
  have t2 : ((r.cd.toNat : Nat) : Int) = r.cd := by omega
  unfold dO
  rw [e1]
  simp only [ne_eq, not_true_eq_false, if_false]
  rw [e2]
  simp only [not_true_eq_false, if_false]
  rw [e3]
  simp only [not_true_eq_false, if_false]
  rw [e4]
  simp only [not_true_eq_false, if_false]
  rw [t1, t2]
theorem rsGo_sq : ∀ (l : List Rpl) (cl sq : Int), rsGo cl sq l = true → ∀ (j : Nat) (h : j < l.length), l[j].cl = cl ∧ l[j].sq = sq + j
  | [], _, _, _ => fun j h => by simp at h
  | x :: xs, cl, sq, hg => fun j h => by
    unfold rsGo rpOk at hg
    simp only [Bool.and_eq_true, beq_iff_eq] at hg
    cases j with
    | zero => exact ⟨hg.1.1.1, by simp only [List.getElem_cons_zero]; rw [hg.1.1.2]; simp⟩
    | succ j =>
      have ih := rsGo_sq xs cl (sq + 1) hg.2 j (by simpa using h)
      refine ⟨ih.1, ?_⟩
      simp only [List.getElem_cons_succ]
      rw [ih.2]; omega
theorem rsSt_RT (l : List UInt8) (a n : Int) (cl nx : Int) (rs : List Rpl) (h : At l a n (rs.map outL).flatten) (hg : rsGo cl (nx - rs.length) rs = true) (hf : ∀ r ∈ rs, r.full) : ∀ k, k ≤ rs.length → rsSt l cl nx rs.length a k = (rs.take k, a + (((rs.take k).map outL).flatten.length : Int), 0)
  | 0, _ => by simp [rsSt]
  | k + 1, hk => by
    have ih := rsSt_RT l a n cl nx rs h hg hf k (by omega)
    have hm := List.getElem_mem (show k < rs.length by omega)
    have hc := rsGo_cl rs _ _ hg _ hm
    have hq := rsGo_sq rs _ _ hg k (by omega)
    rw [flat_split outL rs k (by omega)] at h
    have HH := h.split.2.split.1
    have hd := dO_RT HH hc.2 (hf _ hm)
    rw [rsSt_ok l cl nx rs.length a k (by rw [ih]), ih]
    simp only []
    rw [hd, flat_next outL rs k (by omega), List.take_succ_eq_append_getElem (by omega)]
    simp only []
    rw [List.length_append]
    have e : rpl1 cl nx rs.length k ⟨rs[k].st, rs[k].cd, rs[k].out⟩ = rs[k] := by
      unfold rpl1
      have e1 : nx - ((rs.length : Int) - (k : Int)) = rs[k].sq := by rw [hq.2]; omega
      rw [e1, ← hq.1]
    rw [e]
    refine Prod.ext rfl (Prod.ext ?_ rfl)
    simp only []
    omega
theorem dS_RT {l : List UInt8} {a n : Int} {s : Ses} (h : At l a n (sesL s)) (hv : sesV s = true) (hf : s.full) : dS l a = (s, n, 0) := by
  have hs := sesV_in hv
  have c1 := hs.c1
  have c2 := hs.c2
  have n1 := hs.n1
  have n2 := hs.n2
  have hv2 := hv
  unfold sesV sHead at hv2
  simp only [Bool.and_eq_true, beq_iff_eq] at hv2
  have hN : (storedI s.nx).toNat = s.rs.length := by rw [← hv2.1.2]; simp
  unfold sesL sesK sesHd at h
  rw [List.take_length, List.append_assoc] at h
  obtain ⟨g1, h⟩ := h.split
  obtain ⟨g2, g3⟩ := h.split
  have l3 := g3.len
  have e1 := dM_RT (m := 32) g1 (by rw [Cw.m64]; omega) (by omega) (by omega)
  have e2 := dM_RT (m := 1099511627776) g2 (by rw [Cw.m64]; omega) (by omega) (by omega)
  have t1 : ((s.cl.toNat : Nat) : Int) = s.cl := by omega
  have t2 : ((s.nx.toNat : Nat) : Int) = s.nx := by omega
  have e3 := rsSt_RT l _ n s.cl s.nx s.rs g3 hv2.2 (fun r hr => hf.all r hr) s.rs.length (Nat.le_refl _)
  rw [List.take_length, ← l3.2.1] at e3
  unfold dS
  rw [e1]
  simp only [ne_eq, not_true_eq_false, if_false]
  rw [e2]
  simp only [not_true_eq_false, if_false]
  rw [t1, t2]
  unfold dSr
  rw [hN, e3]
  simp only [ne_eq, not_true_eq_false, if_false]
theorem ssSt_RT (l : List UInt8) (a n : Int) (ss : List Ses) (h : At l a n (ss.map sesL).flatten) (hv : ∀ s ∈ ss, sesV s = true) (hf : ∀ s ∈ ss, s.full) : ∀ k, k ≤ ss.length → ssSt l a k = (ss.take k, a + (((ss.take k).map sesL).flatten.length : Int), 0)
  | 0, _ => by simp [ssSt]
  | k + 1, hk => by
    have ih := ssSt_RT l a n ss h hv hf k (by omega)
    have hm := List.getElem_mem (show k < ss.length by omega)
    rw [flat_split sesL ss k (by omega)] at h
    have HH := h.split.2.split.1
    have hd := dS_RT HH (hv _ hm) (hf _ hm)
    rw [ssSt_ok l a k (by rw [ih]), ih]
    simp only []
    rw [hd, flat_next sesL ss k (by omega), List.take_succ_eq_append_getElem (by omega)]
    simp only []
    rw [List.length_append]
    refine Prod.ext rfl (Prod.ext ?_ rfl)
    simp only []
    omega
theorem dA_RT {l : List UInt8} {a n : Int} {ss : List Ses} (h : At l a n (essK ss ss.length)) (hv : sessV ss = true) (hf : ∀ s ∈ ss, s.full) : dA l a = (ss, n, 0) := by
  have hl := sess_len hv
  have ha := (sessV_asc hv).2
  unfold essK at h
  rw [List.take_length] at h
  obtain ⟨g1, g2⟩ := h.split
  have l2 := g2.len
  have hp : ss.length ≤ ((ss.map sesL).flatten).length := flat_len sesL ss fun s hs => by
    have hh := sesV_in (ha s hs)
    have := vint_pos s.cl.toNat (by have := hh.c1; have := hh.c2; rw [Cw.m64]; omega)
    unfold sesL sesK sesHd
    simp only [List.length_append]; omega
  have hC := takeC_RT (m := 32) g1 (by rw [Cw.m64]; omega) (by omega) (by omega)
  have hS := ssSt_RT l _ n ss g2 ha hf ss.length (Nat.le_refl _)
  rw [List.take_length, ← l2.2.1] at hS
  unfold dA
  rw [hC]
  simp only [ne_eq, not_true_eq_false, if_false]
  unfold dAr
  rw [hS]
  simp [hv]
theorem dA_ok {L : List UInt8} {a : Int} (h : (dA L a).2.2 = 0) : sessV (dA L a).1 = true := by
  unfold dA dAr at h ⊢
  split at h
  · rename_i h1; exact absurd h h1
  · rename_i h1
    rw [if_neg h1]
    split at h
    · rename_i h2; exact absurd h h2
    · rename_i h2
      rw [if_neg h2]
      split at h
      · rename_i h3; rw [if_pos h3]; exact h3
      · simp at h
end Go.Proofs.Ytbiongfnbbnndaa

/- Chapter 37: the scanner's numbers and outcomes. -/
set_option linter.unusedSimpArgs false
set_option linter.unusedVariables false
namespace Go.Proofs.Ytbiongfnbbnndaa
open Go Ab Go.RowKit
set_option maxRecDepth 100000
attribute [local irreducible] awp aops aop asoft aeff aloop acall acallI acallT acallK aloopN
attribute [local go_sem] Vl.row sRow fpRow Req.row Rpl.row Ses.row

def scn (s : ByteArray) (a e : Int) : List AV := [.a (.str s), .a (.int .i64 a), .a (.int .i64 e)]
theorem scn_bound {hs : List (List AV)} {O : List OwnD} (s : ByteArray) (a e : Int) (hb : hs.all (·.all (Ab.boundV (hs.length + 1) O.length)) = true) :
    (scn s a e :: hs).all (·.all (Ab.boundV (scn s a e :: hs).length O.length)) = true := by
  simp only [List.all_cons, List.length_cons, Bool.and_eq_true]
  exact ⟨rfl, hb⟩
def nS (L : List UInt8) (lo m a e : Int) : Int × Int × Int :=
  if e ≠ 0 then (0, a, e) else if (Cw.takeU L a).2.2 ≠ 0 then (0, a, (Cw.takeU L a).2.2) else if ((Cw.takeU L a).1 : Int) < lo ∨ m < ((Cw.takeU L a).1 : Int) then (0, a, 5) else (((Cw.takeU L a).1 : Int), (Cw.takeU L a).2.1, 0)
variable {hs : List (List AV)} {O : List OwnD}
set_option maxHeartbeats 4000000 in
theorem number_iden (s : ByteArray) (lo m a e : Int) (hs0 : s.size ≤ 1125899906842624) (hm : m ≤ 9223372036854775807) (hb : hs.all (·.all (Ab.boundV (hs.length + 1) O.length)) = true) :
    IDen Try.prog 65 [.loc 0 0, .a (.int .u64 lo), .a (.int .u64 m)] (scn s a e :: hs) O (.a (.int .i64 (nS s.data.toList lo m a e).1)) (scn s (nS s.data.toList lo m a e).2.1 (nS s.data.toList lo m a e).2.2 :: hs) O true := by
  refine iden_of_bodyK rfl k_session_scanner_number ⟨rfl, Nat.le_of_ble_eq_true rfl, ⟨by simp, (scn_bound s _ _ hb), rfl⟩, thaw_intro ?_⟩
  unfold c_session_scanner_number
  have n0 : ((0 : Int) != 0) = false := rfl
  have m0 : ((0 : Int) == 0) = true := rfl
  have n5 : ((5 : Int) != 0) = true := rfl
  unfold nS
  by_cases he : e = 0
  rotate_left
  · rw [if_pos he]
    have h1 : (e != 0) = true := by simpa using he
    unfold scn
    simp only [h1, go_sem]
    exact ⟨by first | rfl | (simp only [aresultI, aresI, aggI, go_sem]; done) | (simp only [aresultI, aresI, aggI, go_sem]; rfl), by simp⟩
  subst he
  rw [if_neg (by simp)]
  have hT := wtakeuint_den s a hs0
  unfold takeUV at hT
  generalize Cw.takeU s.data.toList a = x at hT ⊢
  obtain ⟨u, a1, e1⟩ := x
  simp only [] at hT ⊢
  unfold scn
  by_cases c1 : e1 = 0
  rotate_left
  · rw [if_pos c1]
    have q1 : (e1 != 0) = true := by simpa using c1
    have q2 : (e1 == 0) = false := by simpa using c1
    simp only [n0, go_sem]
    refine t_call_intro (hT) ?_
    simp only [q1, q2, go_sem]
    exact ⟨by first | rfl | (simp only [aresultI, aresI, aggI, go_sem]; done) | (simp only [aresultI, aresI, aggI, go_sem]; rfl), by simp⟩
  subst c1
  rw [if_neg (by simp)]
  by_cases c2 : (u : Int) < lo
  · rw [if_pos (.inl c2)]
    simp only [n0, go_sem]
    refine t_call_intro (hT) ?_
    simp only [n0, m0, c2, n5, go_sem]
    exact ⟨by first | rfl | (simp only [aresultI, aresI, aggI, go_sem]; done) | (simp only [aresultI, aresI, aggI, go_sem]; rfl), by simp⟩
  by_cases c3 : m < (u : Int)
  · rw [if_pos (.inr c3)]
    simp only [n0, go_sem]
    refine t_call_intro (hT) ?_
    simp only [n0, m0, c2, c3, n5, go_sem]
    exact ⟨by first | rfl | (simp only [aresultI, aresI, aggI, go_sem]; done) | (simp only [aresultI, aresI, aggI, go_sem]; rfl), by simp⟩
  rw [if_neg (by omega)]
  have hw : IntKind.i64.wrap (u : Int) = (u : Int) := by rw [IntKind.wrap_i64]; omega
  simp only [n0, go_sem]
  refine t_call_intro (hT) ?_
  simp only [n0, m0, c2, c3, n5, hw, go_sem]
  exact ⟨by first | rfl | (simp only [aresultI, aresI, aggI, go_sem]; done) | (simp only [aresultI, aresI, aggI, go_sem]; rfl), by simp⟩
end Go.Proofs.Ytbiongfnbbnndaa

/- Chapter 37: the scanner's outcomes. -/
set_option linter.unusedSimpArgs false
set_option linter.unusedVariables false
namespace Go.Proofs.Ytbiongfnbbnndaa
open Go Ab Go.RowKit
set_option maxRecDepth 100000
attribute [local irreducible] awp aops aop asoft aeff aloop acall acallI acallT acallK aloopN
attribute [local go_sem] Vl.row sRow fpRow Req.row Rpl.row Ses.row

theorem boundS_mono {n n' m m' : Nat} (hn : n ≤ n') (hm : m ≤ m') {x : AV} (h : boundS n m x = true) : boundS n' m' x = true := by
  unfold boundS at h ⊢
  split at h <;> first | (simp only [decide_eq_true_eq] at h ⊢; omega) | rfl | exact h | cases h
theorem boundV_mono {n n' m m' : Nat} (hn : n ≤ n') (hm : m ≤ m') {x : AV} (h : Ab.boundV n m x = true) : Ab.boundV n' m' x = true := by
  have key : ∀ xs : List AV, xs.all (boundS n m) = true → xs.all (boundS n' m') = true := fun xs h => List.all_eq_true.2 fun y hy => boundS_mono hn hm (List.all_eq_true.1 h y hy)
  cases x <;> first | exact key _ h | (simp only [Ab.boundV] at h ⊢; exact boundS_mono hn hm h)
theorem boundL_mono {n n' m m' : Nat} (hn : n ≤ n') (hm : m ≤ m') {H : List (List AV)} (h : H.all (·.all (Ab.boundV n m)) = true) : H.all (·.all (Ab.boundV n' m')) = true :=
  List.all_eq_true.2 fun cs hc => List.all_eq_true.2 fun x hx => boundV_mono hn hm (List.all_eq_true.1 (List.all_eq_true.1 h cs hc) x hx)
theorem all_app {p : List AV → Bool} {xs ys : List (List AV)} (h : xs.all p = true) (k : ys.all p = true) : (xs ++ ys).all p = true := by simp only [List.all_append, h, k, Bool.and_self]
theorem nS_err (L : List UInt8) (lo m a e : Int) (h : e ≠ 0) : nS L lo m a e = (0, a, e) := if_pos h
theorem nS_0 (L : List UInt8) (m a : Int) : nS L 0 m a 0 = if (dN L a m).2.2 = 0 then dN L a m else (0, a, (dN L a m).2.2) := by
  unfold nS dN
  generalize Cw.takeU L a = x
  obtain ⟨u, n, e⟩ := x
  simp only []
  have c3 : ¬ (u : Int) < 0 := by omega
  by_cases c1 : e = 0
  · subst c1
    by_cases c2 : m < (u : Int)
    · simp [c2]
    · simp [c2, c3]
  · simp [c1]
theorem nS_1 (L : List UInt8) (m a : Int) : nS L 1 m a 0 = if (dM L a m).2.2 = 0 then dM L a m else (0, a, (dM L a m).2.2) := by
  unfold nS dM dN
  generalize Cw.takeU L a = x
  obtain ⟨u, n, e⟩ := x
  simp only []
  by_cases c1 : e = 0
  · subst c1
    by_cases c2 : m < (u : Int)
    · simp [c2]
    · by_cases c3 : (u : Int) < 1
      · simp [c2, c3]
      · simp [c2, c3]
  · simp [c1]
variable {h1 h2 : List AV} {d0 d1 : OwnD}
theorem bnd5 (hb : [h1, h2].all (·.all (Ab.boundV 3 2)) = true) {x y z : List AV} (hx : x.all (Ab.boundV 5 3) = true) (hy : y.all (Ab.boundV 5 3) = true) (hz : z.all (Ab.boundV 5 3) = true) : [x, h1, h2, y, z].all (·.all (Ab.boundV 5 3)) = true := by
  have := boundL_mono (n' := 5) (m' := 3) (by omega) (by omega) hb
  simp only [List.all_cons, List.all_nil, Bool.and_true, Bool.and_eq_true] at this ⊢
  exact ⟨hx, this.1, this.2, hy, hz⟩
set_option maxHeartbeats 16000000 in
theorem outcome_iden (s : ByteArray) (a : Int) (hs0 : s.size ≤ 1125899906842624) :
    ∃ (st cd : Int) (X : Atom) (a' : Int) (Y : List OwnD), ((dO s.data.toList a).2.2 = 0 → [.int .i64 st, .int .i64 cd, X] = (dO s.data.toList a).1.row ∧ a' = (dO s.data.toList a).2.1) ∧ ∀ (h1 h2 : List AV) (d0 d1 : OwnD) (_ : [h1, h2].all (·.all (Ab.boundV 3 2)) = true) (_ : h1.map (inval 2) = h1) (_ : h2.map (inval 2) = h2),
      IDen Try.prog 66 [.loc 0 0] (scn s a 0 :: [h1, h2]) [d0, d1] (.agg [.int .i64 st, .int .i64 cd, X]) (scn s a' (dO s.data.toList a).2.2 :: [h1, h2]) ([d0, d1] ++ Y) true := by
  have n0 : ((0 : Int) != 0) = false := rfl
  have m0 : ((0 : Int) == 0) = true := rfl
  have hnum := fun (h1 h2 : List AV) (d0 d1 : OwnD) (hb : [h1, h2].all (·.all (Ab.boundV 3 2)) = true) a e => number_iden (hs := [h1, h2, [.a (.int .i64 0), .a (.int .i64 0), .a .nils]]) (O := [d0, d1]) s 0 9999 a e hs0 (by omega) (all_app (xs := [h1, h2]) (boundL_mono (by simp) (by simp) hb) rfl)
  unfold scn at hnum
  have hbY := fun (h1 h2 : List AV) (d0 d1 : OwnD) (hb : [h1, h2].all (·.all (Ab.boundV 3 2)) = true) (Y : List OwnD) (a e : Int) => scn_bound (hs := [h1, h2]) (O := [d0, d1] ++ Y) s a e (boundL_mono (by simp) (by simp) hb)
  unfold dO
  by_cases c1 : (dN s.data.toList a 9999).2.2 = 0
  rotate_left
  · rw [if_pos c1]
    refine ⟨0, 0, .nils, a, [], fun h => absurd h c1, ?_⟩
    have e1 : nS s.data.toList 0 9999 a 0 = (0, a, (dN s.data.toList a 9999).2.2) := by rw [nS_0, if_neg c1]
    intro h1 h2 d0 d1 hb hi1 hi2
    have hn1 := hnum h1 h2 d0 d1 hb a 0
    rw [e1] at hn1
    have hn2 := hnum h1 h2 d0 d1 hb a (dN s.data.toList a 9999).2.2
    rw [nS_err _ _ _ _ _ c1] at hn2
    have m1 : ((dN s.data.toList a 9999).2.2 != 0) = true := by simpa using c1
    refine iden_of_bodyN rfl (by simp) k_session_scanner_outcome ⟨rfl, Nat.le_of_ble_eq_true rfl, ⟨by simp, (hbY h1 h2 d0 d1 hb [] _ _), rfl⟩, thaw_intro ?_⟩
    unfold c_session_scanner_outcome
    unfold scn
    simp only [go_sem]
    refine t_callK_intro (hn1) (by simp) ?_
    simp only [go_sem]
    refine t_callK_intro (hn2) (by simp) ?_
    simp only [m1, go_sem]
    first | rfl | (simp only [aresultI, aresI, aggI, go_sem]; done) | (simp only [aresultI, aresI, aggI, go_sem]; rfl)
  rw [if_neg (by simp [c1])]
  have e1 : nS s.data.toList 0 9999 a 0 = dN s.data.toList a 9999 := by rw [nS_0, if_pos c1]
  generalize dN s.data.toList a 9999 = x at e1 c1 ⊢
  obtain ⟨st, a1, x1⟩ := x
  simp only [] at c1 ⊢
  subst c1
  by_cases c2 : (dN s.data.toList a1 9999).2.2 = 0
  rotate_left
  · rw [if_pos c2]
    refine ⟨st, 0, .nils, a1, [], fun h => absurd h c2, ?_⟩
    have e2 : nS s.data.toList 0 9999 a1 0 = (0, a1, (dN s.data.toList a1 9999).2.2) := by rw [nS_0, if_neg c2]
    intro h1 h2 d0 d1 hb hi1 hi2
    have hn1 := hnum h1 h2 d0 d1 hb a 0
    rw [e1] at hn1
    have hn2 := hnum h1 h2 d0 d1 hb a1 0
    rw [e2] at hn2
    have m1 : ((dN s.data.toList a1 9999).2.2 != 0) = true := by simpa using c2
    refine iden_of_bodyN rfl (by simp) k_session_scanner_outcome ⟨rfl, Nat.le_of_ble_eq_true rfl, ⟨by simp, (hbY h1 h2 d0 d1 hb [] _ _), rfl⟩, thaw_intro ?_⟩
    unfold c_session_scanner_outcome
    unfold scn
    simp only [go_sem]
    refine t_callK_intro (hn1) (by simp) ?_
    simp only [go_sem]
    refine t_callK_intro (hn2) (by simp) ?_
    simp only [m1, go_sem]
    first | rfl | (simp only [aresultI, aresI, aggI, go_sem]; done) | (simp only [aresultI, aresI, aggI, go_sem]; rfl)
  rw [if_neg (by simp [c2])]
  have e2 : nS s.data.toList 0 9999 a1 0 = dN s.data.toList a1 9999 := by rw [nS_0, if_pos c2]
  generalize dN s.data.toList a1 9999 = y at e2 c2 ⊢
  obtain ⟨cd, a2, y2⟩ := y
  simp only [] at c2 ⊢
  subst c2
  have h3 := wtakecount_den s a2 16 hs0 (by omega)
  have hle := takeC_le s.data.toList a2 16 (by omega)
  unfold takeCV at h3
  generalize Cw.takeC s.data.toList a2 16 = z at h3 hle ⊢
  obtain ⟨n, a3, e3⟩ := z
  simp only [] at h3 hle ⊢
  by_cases c3 : e3 = 0
  rotate_left
  · rw [if_pos c3]
    refine ⟨st, cd, .slice 3 [], a3, [⟨96, 3, [], false⟩], fun h => absurd h c3, ?_⟩
    have q1 : (e3 == 0) = false := by simpa using c3
    intro h1 h2 d0 d1 hb hi1 hi2
    have hn1 := hnum h1 h2 d0 d1 hb a 0
    rw [e1] at hn1
    have hn2 := hnum h1 h2 d0 d1 hb a1 0
    rw [e2] at hn2
    refine iden_of_bodyN rfl (by simp) k_session_scanner_outcome ⟨rfl, Nat.le_of_ble_eq_true rfl, ⟨by simp, (hbY h1 h2 d0 d1 hb [_] _ _), rfl⟩, thaw_intro ?_⟩
    unfold c_session_scanner_outcome
    unfold scn
    simp only [go_sem]
    refine t_callK_intro (hn1) (by simp) ?_
    simp only [go_sem]
    refine t_callK_intro (hn2) (by simp) ?_
    simp only [n0, go_sem]
    refine t_call_intro (h3) ?_
    simp only [go_sem]
    refine t_loopN_intro [.cell 4 2 96 3] (fun k : Nat => k ≤ 0) (fun k => 0 - k) 0 [7, 8, 9, 10, 43, 44, 45, 46, 47, 48, 49, 50, 51, 52, 53, 54, 55, 56, 57, 58, 59, 60, 61, 62, 63, 64, 65, 66, 67, 68, 69, 70, 71, 72, 73, 74, 75, 76, 77, 78, 79, 80, 81] (fun k => [(7, .a (.int .i64 k)), (22, .any), (31, .any)]) (fun k => [[.a (.str s), .a (.int .i64 a3), .a (.int .i64 e3)], h1, h2, [.a (.int .i64 0), .a (.int .i64 0), .a .nils], [.a (.int .i64 st), .a (.int .i64 cd), .own 2]]) (fun k => [d0, d1, ⟨96, 3, [], false⟩]) (by omega) (by simp) (by simp) (by simp) (by simp) (fun k => by simp) (fun k => by simp) (fun k => bnd5 hb rfl rfl rfl) ?_
    intro k hk st_ hst
    simp only [go_sem] at hst
    subst hst
    by_cases hlt : k < 0
    · omega
    · obtain rfl : k = 0 := by omega
      by_cases hn0 : ((0 : Nat) : Int) < (n : Int)
      · simp only [q1, hn0, go_sem]
        first | rfl | (simp only [aresultI, aresI, aggI, go_sem]; done) | (simp only [aresultI, aresI, aggI, go_sem]; rfl)
      · simp only [hn0, go_sem]
        first | rfl | (simp only [aresultI, aresI, aggI, go_sem]; done) | (simp only [aresultI, aresI, aggI, go_sem]; rfl)
  subst c3
  rw [if_neg (by simp)]
  generalize hL : s.data.toList = L
  refine ⟨st, cd, .slice 3 ((vsSt L a3 n).1.map Vl.row), (vsSt L a3 n).2.1, [⟨96, 3, (vsSt L a3 n).1.map Vl.row, false⟩], fun h => ?_, ?_⟩
  · split at h
    · rename_i h'; exact absurd h h'
    · rename_i h'; rw [if_neg h']; exact ⟨rfl, rfl⟩
  have hE : (if (vsSt L a3 n).2.2 ≠ 0 then ((oc0, 0, (vsSt L a3 n).2.2) : Oc × Int × Int) else (⟨st, cd, (vsSt L a3 n).1⟩, (vsSt L a3 n).2.1, 0)).2.2 = (vsSt L a3 n).2.2 := by
    split
    · rfl
    · rename_i h'; exact (Classical.not_not.1 h').symm
  rw [hE]
  intro h1 h2 d0 d1 hb hi1 hi2
  have hn1 := hnum h1 h2 d0 d1 hb a 0
  rw [e1] at hn1
  have hn2 := hnum h1 h2 d0 d1 hb a1 0
  rw [e2] at hn2
  refine iden_of_bodyN rfl (by simp) k_session_scanner_outcome ⟨rfl, Nat.le_of_ble_eq_true rfl, ⟨by simp, (hbY h1 h2 d0 d1 hb [_] _ _), rfl⟩, thaw_intro ?_⟩
  unfold c_session_scanner_outcome
  unfold scn
  simp only [go_sem]
  refine t_callK_intro (hn1) (by simp) ?_
  simp only [go_sem]
  refine t_callK_intro (hn2) (by simp) ?_
  simp only [n0, go_sem]
  refine t_call_intro (h3) ?_
  simp only [go_sem]
  refine t_loopN_intro [.cell 4 2 96 3] (fun k : Nat => k ≤ n) (fun k => n - k) 0 [7, 8, 9, 10, 43, 44, 45, 46, 47, 48, 49, 50, 51, 52, 53, 54, 55, 56, 57, 58, 59, 60, 61, 62, 63, 64, 65, 66, 67, 68, 69, 70, 71, 72, 73, 74, 75, 76, 77, 78, 79, 80, 81] (fun k => [(7, .a (.int .i64 k)), (22, .any), (31, .any)]) (fun k => [[.a (.str s), .a (.int .i64 (vsSt L a3 k).2.1), .a (.int .i64 (vsSt L a3 k).2.2)], h1, h2, [.a (.int .i64 0), .a (.int .i64 0), .a .nils], [.a (.int .i64 st), .a (.int .i64 cd), .own 2]]) (fun k => [d0, d1, ⟨96, 3, (vsSt L a3 k).1.map Vl.row, false⟩]) (by omega) (by simp) (by first | (simp; done) | simp [vsSt]) (by first | (simp; done) | simp [vsSt]) (by first | (simp; done) | simp [vsSt]) (fun k => by first | (simp; done) | simp [vsSt]) (fun k => by first | (simp; done) | simp [vsSt]) (fun k => bnd5 hb rfl rfl rfl) ?_
  intro k hk st_ hst
  simp only [go_sem] at hst
  subst hst
  by_cases hlt : k < n
  · have i1 : (k : Int) < (n : Int) := by omega
    have ewi := wrap1 k n hlt (by omega)
    by_cases hall : (vsSt L a3 k).2.2 = 0
    rotate_left
    · have n2 : ((vsSt L a3 k).2.2 == 0) = false := by simpa using hall
      have ee := vsSt_err L a3 k hall n (by omega)
      rw [ee]
      simp only [i1, n2, go_sem]
      first | rfl | (simp only [aresultI, aresI, aggI, go_sem]; done) | (simp only [aresultI, aresI, aggI, go_sem]; rfl)
    have n2 : ((vsSt L a3 k).2.2 == 0) = true := by simpa using hall
    have hd := vdec_den s (vsSt L a3 k).2.1 hs0
    rw [hL] at hd
    unfold decVV at hd
    rw [vl_rw] at hd
    have hvl := vsSt_len L a3 k
    have ek := vsSt_ok L a3 k hall
    have r1 : (vsSt L a3 (k + 1)).1.map Vl.row = (vsSt L a3 k).1.map Vl.row ++ [[.int .i64 (decV L (vsSt L a3 k).2.1).1.kind, .int .i64 (decV L (vsSt L a3 k).2.1).1.n, .str (decV L (vsSt L a3 k).2.1).1.s]] := by rw [ek]; simp [Vl.row]
    have r2 : (vsSt L a3 (k + 1)).2.1 = (decV L (vsSt L a3 k).2.1).2.1 := by rw [ek]
    have r3 : (vsSt L a3 (k + 1)).2.2 = (decV L (vsSt L a3 k).2.1).2.2 := by rw [ek]
    simp only [i1, n2, go_sem]
    refine t_call_intro (hd) ?_
    simp only [go_sem]
    refine t_gate_intro (by omega) ?_
    simp only [ewi, go_sem]
    refine t_roundO (k + 1) (by omega) (by omega) (by first | (simp; done) | simp [r1, r2, r3, hi1, hi2]) (by first | (simp; done) | simp [r1, r2, r3, hi1, hi2]) (by first | (simp; done) | simp [r1, r2, r3, hi1, hi2]) (by first | (simp; done) | simp [r1, r2, r3, hi1, hi2]) (bnd5 hb rfl rfl rfl)
  · have i1 : ¬ (k : Int) < (n : Int) := by omega
    have kk : k = n := by omega
    subst kk
    simp only [i1, go_sem]
    first | rfl | (simp only [aresultI, aresI, aggI, go_sem]; done) | (simp only [aresultI, aresI, aggI, go_sem]; rfl)
end Go.Proofs.Ytbiongfnbbnndaa

/- Chapter 37: the scanner's sessions. -/
set_option linter.unusedSimpArgs false
set_option linter.unusedVariables false
namespace Go.Proofs.Ytbiongfnbbnndaa
open Go Ab Go.RowKit
set_option maxRecDepth 100000
attribute [local irreducible] awp aops aop asoft aeff aloop acall acallI acallT acallK acallZ aloopN
attribute [local go_sem] Vl.row sRow fpRow Req.row Rpl.row Ses.row

/-- The replies as they are read, whatever an outcome is whose reading failed. -/
def gS (L : List UInt8) (G : Int → Int × Int × Atom × Int × List OwnD) (cl nx : Int) (N : Nat) (a : Int) : Nat → List (List Atom) × Int × Int
  | 0 => ([], a, 0)
  | k + 1 => if (gS L G cl nx N a k).2.2 ≠ 0 then gS L G cl nx N a k else
      ((gS L G cl nx N a k).1 ++ [[.int .i64 cl, .int .i64 (nx - ((N : Int) - (k : Int))), .int .i64 (G (gS L G cl nx N a k).2.1).1, .int .i64 (G (gS L G cl nx N a k).2.1).2.1, (G (gS L G cl nx N a k).2.1).2.2.1]], (G (gS L G cl nx N a k).2.1).2.2.2.1, (dO L (gS L G cl nx N a k).2.1).2.2)
section
variable {L : List UInt8} {G : Int → Int × Int × Atom × Int × List OwnD} {cl nx : Int} {N : Nat} {a : Int}
theorem gS_err (k : Nat) (h : (gS L G cl nx N a k).2.2 ≠ 0) : ∀ n, k ≤ n → gS L G cl nx N a n = gS L G cl nx N a k
  | n, hn => by
    induction n with
    | zero => rw [show k = 0 by omega]
    | succ n ih =>
      by_cases hk : k = n + 1
      · rw [hk]
      · have ih := ih (by omega)
        show (if (gS L G cl nx N a n).2.2 ≠ 0 then gS L G cl nx N a n else _) = _
        rw [if_pos (by rw [ih]; exact h), ih]
theorem gS_ok (k : Nat) (h : (gS L G cl nx N a k).2.2 = 0) : gS L G cl nx N a (k + 1) = ((gS L G cl nx N a k).1 ++ [[.int .i64 cl, .int .i64 (nx - ((N : Int) - (k : Int))), .int .i64 (G (gS L G cl nx N a k).2.1).1, .int .i64 (G (gS L G cl nx N a k).2.1).2.1, (G (gS L G cl nx N a k).2.1).2.2.1]], (G (gS L G cl nx N a k).2.1).2.2.2.1, (dO L (gS L G cl nx N a k).2.1).2.2) := if_neg (by simp [h])
theorem gS_len : ∀ k, (gS L G cl nx N a k).1.length ≤ k
  | 0 => Nat.le_refl _
  | k + 1 => by
    have ih := gS_len k
    by_cases he : (gS L G cl nx N a k).2.2 = 0
    · rw [gS_ok k he]; simp; omega
    · rw [gS_err k he (k + 1) (by omega)]; omega
theorem gS_rs (hG : ∀ b, (dO L b).2.2 = 0 → [.int .i64 (G b).1, .int .i64 (G b).2.1, (G b).2.2.1] = (dO L b).1.row ∧ (G b).2.2.2.1 = (dO L b).2.1) :
    ∀ k, (gS L G cl nx N a k).2.2 = (rsSt L cl nx N a k).2.2 ∧ ((rsSt L cl nx N a k).2.2 = 0 → (gS L G cl nx N a k).1 = (rsSt L cl nx N a k).1.map Rpl.row ∧ (gS L G cl nx N a k).2.1 = (rsSt L cl nx N a k).2.1)
  | 0 => ⟨rfl, fun _ => ⟨rfl, rfl⟩⟩
  | k + 1 => by
    obtain ⟨h1, h2⟩ := gS_rs hG k
    by_cases he : (rsSt L cl nx N a k).2.2 = 0
    · obtain ⟨h3, h4⟩ := h2 he
      rw [gS_ok k (h1.trans he), rsSt_ok L cl nx N a k he, h4]
      refine ⟨rfl, fun hz => ?_⟩
      obtain ⟨h5, h6⟩ := hG _ hz
      refine ⟨?_, h6⟩
      simp only [List.map_append, List.map_cons, List.map_nil, h3]
      unfold Oc.row at h5
      simp only [List.cons.injEq, Atom.int.injEq, true_and, and_true] at h5
      rw [h5.1, h5.2.1, h5.2.2]
      rfl
    · rw [gS_err k (by rw [h1]; exact he) (k + 1) (by omega), rsSt_err L cl nx N a k he (k + 1) (by omega)]
      exact ⟨h1, h2⟩
end
set_option maxHeartbeats 16000000 in
theorem session_iden (s : ByteArray) (a : Int) (hs0 : s.size ≤ 1125899906842624) :
    ∃ (cl nx : Int) (X : Atom) (a' : Int) (Y : List OwnD), ((dS s.data.toList a).2.2 = 0 → [.int .i64 cl, .int .i64 nx, X] = (dS s.data.toList a).1.row ∧ a' = (dS s.data.toList a).2.1) ∧ ∀ d0 : OwnD,
      IDen Try.prog 44 [.loc 0 0] [scn s a 0] [d0] (.agg [.int .i64 cl, .int .i64 nx, X]) [scn s a' (dS s.data.toList a).2.2] ([d0] ++ Y) true := by
  have n0 : ((0 : Int) != 0) = false := rfl
  have m0 : ((0 : Int) == 0) = true := rfl
  have hnum := fun (d0 : OwnD) lo m a e hm => number_iden (hs := [[.a (.int .i64 0), .a (.int .i64 0), .a .nils]]) (O := [d0]) s lo m a e hs0 hm rfl
  unfold scn at hnum
  have hbY := fun (d0 : OwnD) (Y : List OwnD) (a e : Int) => scn_bound (hs := []) (O := [d0] ++ Y) s a e rfl
  unfold dS
  by_cases c1 : (dM s.data.toList a 32).2.2 = 0
  rotate_left
  · rw [if_pos c1]
    refine ⟨0, 0, .nils, a, [], fun h => absurd h c1, ?_⟩
    have e1 : nS s.data.toList 1 32 a 0 = (0, a, (dM s.data.toList a 32).2.2) := by rw [nS_1, if_neg c1]
    intro d0
    have hn1 := hnum d0 1 32 a 0 (by omega)
    rw [e1] at hn1
    have hn2 := hnum d0 1 1099511627776 a (dM s.data.toList a 32).2.2 (by omega)
    rw [nS_err _ _ _ _ _ c1] at hn2
    have m1 : ((dM s.data.toList a 32).2.2 != 0) = true := by simpa using c1
    refine iden_of_bodyN rfl (by simp) k_session_scanner_session ⟨rfl, Nat.le_of_ble_eq_true rfl, ⟨by simp, (hbY d0 [] _ _), rfl⟩, thaw_intro ?_⟩
    unfold c_session_scanner_session
    unfold scn
    simp only [go_sem]
    refine t_callK_intro (hn1) (by simp) ?_
    simp only [go_sem]
    refine t_callK_intro (hn2) (by simp) ?_
    simp only [m1, go_sem]
    first | rfl | (simp only [aresultI, aresI, aggI, go_sem]; done) | (simp only [aresultI, aresI, aggI, go_sem]; rfl)
  rw [if_neg (by simp [c1])]
  have e1 : nS s.data.toList 1 32 a 0 = dM s.data.toList a 32 := by rw [nS_1, if_pos c1]
  have hle1 := dM_ok c1
  rw [← hle1.2.2] at hle1
  have hcl := hle1.1
  clear hle1
  generalize dM s.data.toList a 32 = x at e1 c1 hcl ⊢
  obtain ⟨cl, a1, x1⟩ := x
  simp only [] at c1 hcl ⊢
  subst c1
  by_cases c2 : (dM s.data.toList a1 1099511627776).2.2 = 0
  rotate_left
  · rw [if_pos c2]
    refine ⟨cl, 0, .nils, a1, [], fun h => absurd h c2, ?_⟩
    have e2 : nS s.data.toList 1 1099511627776 a1 0 = (0, a1, (dM s.data.toList a1 1099511627776).2.2) := by rw [nS_1, if_neg c2]
    intro d0
    have hn1 := hnum d0 1 32 a 0 (by omega)
    rw [e1] at hn1
    have hn2 := hnum d0 1 1099511627776 a1 0 (by omega)
    rw [e2] at hn2
    have m1 : ((dM s.data.toList a1 1099511627776).2.2 != 0) = true := by simpa using c2
    refine iden_of_bodyN rfl (by simp) k_session_scanner_session ⟨rfl, Nat.le_of_ble_eq_true rfl, ⟨by simp, (hbY d0 [] _ _), rfl⟩, thaw_intro ?_⟩
    unfold c_session_scanner_session
    unfold scn
    simp only [go_sem]
    refine t_callK_intro (hn1) (by simp) ?_
    simp only [go_sem]
    refine t_callK_intro (hn2) (by simp) ?_
    simp only [m1, go_sem]
    first | rfl | (simp only [aresultI, aresI, aggI, go_sem]; done) | (simp only [aresultI, aresI, aggI, go_sem]; rfl)
  rw [if_neg (by simp [c2])]
  have e2 : nS s.data.toList 1 1099511627776 a1 0 = dM s.data.toList a1 1099511627776 := by rw [nS_1, if_pos c2]
  have hb2 : 1 ≤ (dM s.data.toList a1 1099511627776).1 ∧ (dM s.data.toList a1 1099511627776).1 ≤ 1099511627776 := by
    have := dM_ok c2
    exact ⟨this.2.2 ▸ this.1, this.2.2 ▸ this.2.1⟩
  generalize dM s.data.toList a1 1099511627776 = y at e2 c2 hb2 ⊢
  obtain ⟨nx, a2, y2⟩ := y
  simp only [] at c2 hb2 ⊢
  subst c2
  have h3 := stored_den nx hb2.1 hb2.2
  have hN : ((storedI nx).toNat : Int) = storedI nx ∧ (storedI nx).toNat ≤ 8 := by unfold storedI; split <;> omega
  rw [← hN.1] at h3
  unfold dSr
  generalize (storedI nx).toNat = n at h3 hN ⊢
  have hn8 := hN.2
  have hout : ∀ b, ∃ p : Int × Int × Atom × Int × List OwnD, ((dO s.data.toList b).2.2 = 0 → [.int .i64 p.1, .int .i64 p.2.1, p.2.2.1] = (dO s.data.toList b).1.row ∧ p.2.2.2.1 = (dO s.data.toList b).2.1) ∧
      ∀ (h1 h2 : List AV) (d0 d1 : OwnD) (_ : [h1, h2].all (·.all (Ab.boundV 3 2)) = true) (_ : h1.map (inval 2) = h1) (_ : h2.map (inval 2) = h2),
        IDen Try.prog 66 [.loc 0 0] (scn s b 0 :: [h1, h2]) [d0, d1] (.agg [.int .i64 p.1, .int .i64 p.2.1, p.2.2.1]) (scn s p.2.2.2.1 (dO s.data.toList b).2.2 :: [h1, h2]) ([d0, d1] ++ p.2.2.2.2) true := fun b => by
    obtain ⟨st, cd, X, a', Y, q⟩ := outcome_iden s b hs0
    exact ⟨(st, cd, X, a', Y), q⟩
  obtain ⟨G, hG⟩ := Classical.skolem.1 hout
  clear hout
  unfold scn at hG
  generalize hL : s.data.toList = L at hG ⊢
  have hrs := gS_rs (L := L) (G := G) (cl := cl) (nx := nx) (N := n) (a := a2) fun b => (hG b).1
  refine ⟨cl, nx, .slice 5 (gS L G cl nx n a2 n).1, (gS L G cl nx n a2 n).2.1, [⟨40, 5, (gS L G cl nx n a2 n).1, false⟩], fun h => ?_, ?_⟩
  · split at h
    · rename_i h'; exact absurd h h'
    · rename_i h'
      have h' := Classical.not_not.1 h'
      rw [if_neg (by simp [h']), ((hrs n).2 h').1, ((hrs n).2 h').2]
      exact ⟨rfl, rfl⟩
  have hE : (if (rsSt L cl nx n a2 n).2.2 ≠ 0 then ((ses0, 0, (rsSt L cl nx n a2 n).2.2) : Ses × Int × Int) else (⟨cl, nx, (rsSt L cl nx n a2 n).1⟩, (rsSt L cl nx n a2 n).2.1, 0)).2.2 = (gS L G cl nx n a2 n).2.2 := by
    rw [(hrs n).1]
    split
    · rfl
    · rename_i h'; exact (Classical.not_not.1 h').symm
  rw [hE]
  intro d0
  have hn1 := hnum d0 1 32 a 0 (by omega)
  rw [e1] at hn1
  have hn2 := hnum d0 1 1099511627776 a1 0 (by omega)
  rw [e2] at hn2
  refine iden_of_bodyN rfl (by simp) k_session_scanner_session ⟨rfl, Nat.le_of_ble_eq_true rfl, ⟨by simp, (hbY d0 [_] _ _), rfl⟩, thaw_intro ?_⟩
  unfold c_session_scanner_session
  unfold scn
  simp only [go_sem]
  refine t_callK_intro (hn1) (by simp) ?_
  simp only [go_sem]
  refine t_callK_intro (hn2) (by simp) ?_
  simp only [n0, go_sem]
  refine t_call_intro (h3) ?_
  simp only [go_sem]
  refine t_loopN_intro [.cell 2 2 40 5] (fun k : Nat => k ≤ n) (fun k => n - k) 0 [5, 20, 21, 22, 23, 24, 25, 26, 27, 28, 29, 30, 31, 32, 33, 34, 35, 36, 37, 38, 39, 40, 41, 42, 43, 44, 45, 46, 47] (fun k => [(5, .a (.int .i64 k))]) (fun k => [[.a (.str s), .a (.int .i64 (gS L G cl nx n a2 k).2.1), .a (.int .i64 (gS L G cl nx n a2 k).2.2)], [.a (.int .i64 0), .a (.int .i64 0), .a .nils], [.a (.int .i64 cl), .a (.int .i64 nx), .own 1]]) (fun k => [d0, ⟨40, 5, (gS L G cl nx n a2 k).1, false⟩]) (by omega) (by simp) (by first | (simp; done) | simp [gS]) (by first | (simp; done) | simp [gS]) (by first | (simp; done) | simp [gS]) (fun k => by first | (simp; done) | simp [gS]) (fun k => by first | (simp; done) | simp [gS]) (fun k => by first | (simp; done) | simp [gS]) ?_
  intro k hk st_ hst
  simp only [go_sem] at hst
  subst hst
  by_cases hlt : k < n
  · have i1 : (k : Int) < (n : Int) := by omega
    have ewi := wrap1 k n hlt (by omega)
    by_cases hall : (gS L G cl nx n a2 k).2.2 = 0
    rotate_left
    · have n2 : ((gS L G cl nx n a2 k).2.2 == 0) = false := by simpa using hall
      have ee := gS_err k hall n (by omega)
      rw [ee]
      simp only [i1, n2, go_sem]
      first | rfl | (simp only [aresultI, aresI, aggI, go_sem]; done) | (simp only [aresultI, aresI, aggI, go_sem]; rfl)
    have n2 : ((gS L G cl nx n a2 k).2.2 == 0) = true := by simpa using hall
    have hd := (hG (gS L G cl nx n a2 k).2.1).2 [.a (.int .i64 0), .a (.int .i64 0), .a .nils] [.a (.int .i64 cl), .a (.int .i64 nx), .own 1] d0 ⟨40, 5, (gS L G cl nx n a2 k).1, false⟩ rfl rfl rfl
    have hvl := gS_len (L := L) (G := G) (cl := cl) (nx := nx) (N := n) (a := a2) k
    have ek := gS_ok k hall
    have w1 : IntKind.i64.wrap ((n : Int) - (k : Int)) = (n : Int) - (k : Int) := by rw [IntKind.wrap_i64]; omega
    have w2 : IntKind.i64.wrap (nx - ((n : Int) - (k : Int))) = nx - ((n : Int) - (k : Int)) := by rw [IntKind.wrap_i64]; omega
    have r2 : (gS L G cl nx n a2 (k + 1)).2.1 = (G (gS L G cl nx n a2 k).2.1).2.2.2.1 := by rw [ek]
    have r3 : (gS L G cl nx n a2 (k + 1)).2.2 = (dO L (gS L G cl nx n a2 k).2.1).2.2 := by rw [ek]
    have r1 : (gS L G cl nx n a2 (k + 1)).1 = (gS L G cl nx n a2 k).1 ++ [[.int .i64 cl, .int .i64 (nx - ((n : Int) - (k : Int))), .int .i64 (G (gS L G cl nx n a2 k).2.1).1, .int .i64 (G (gS L G cl nx n a2 k).2.1).2.1, (G (gS L G cl nx n a2 k).2.1).2.2.1]] := by rw [ek]
    simp only [i1, hall, m0, w1, w2, go_sem]
    refine t_callZ_intro (hd) ?_ ?_
    · exact ⟨rfl, fun id h => by cases id with | zero => omega | succ id => rfl⟩
    simp only [w1, w2, go_sem]
    refine t_gate_intro (by omega) ?_
    simp only [ewi, go_sem]
    refine t_roundO (k + 1) (by omega) (by omega) (by first | (simp; done) | simp [r1, r2, r3]) (by first | (simp; done) | simp [r1, r2, r3]) (by first | (simp; done) | simp [r1, r2, r3]) (by first | (simp; done) | simp [r1, r2, r3]) (by first | (simp; done) | simp [r1, r2, r3])
  · have i1 : ¬ (k : Int) < (n : Int) := by omega
    have kk : k = n := by omega
    subst kk
    simp only [i1, go_sem]
    first | rfl | (simp only [aresultI, aresI, aggI, go_sem]; done) | (simp only [aresultI, aresI, aggI, go_sem]; rfl)
end Go.Proofs.Ytbiongfnbbnndaa

/- Chapter 37: the program's Decode. -/
set_option linter.unusedSimpArgs false
set_option linter.unusedVariables false
namespace Go.Proofs.Ytbiongfnbbnndaa
open Go Ab Go.RowKit
set_option maxRecDepth 100000
attribute [local irreducible] awp aops aop asoft aeff aloop acall acallI acallT acallK acallZ aloopN
attribute [local go_sem] Vl.row sRow fpRow Req.row Rpl.row Ses.row

/-- The sessions as they are read, whatever a session is whose reading failed. -/
def gA (L : List UInt8) (G : Int → Int × Int × Atom × Int × List OwnD) (a : Int) : Nat → List (List Atom) × Int × Int
  | 0 => ([], a, 0)
  | k + 1 => if (gA L G a k).2.2 ≠ 0 then gA L G a k else
      ((gA L G a k).1 ++ [[.int .i64 (G (gA L G a k).2.1).1, .int .i64 (G (gA L G a k).2.1).2.1, (G (gA L G a k).2.1).2.2.1]], (G (gA L G a k).2.1).2.2.2.1, (dS L (gA L G a k).2.1).2.2)
section
variable {L : List UInt8} {G : Int → Int × Int × Atom × Int × List OwnD} {a : Int}
theorem gA_err (k : Nat) (h : (gA L G a k).2.2 ≠ 0) : ∀ n, k ≤ n → gA L G a n = gA L G a k
  | n, hn => by
    induction n with
    | zero => rw [show k = 0 by omega]
    | succ n ih =>
      by_cases hk : k = n + 1
      · rw [hk]
      · have ih := ih (by omega)
        show (if (gA L G a n).2.2 ≠ 0 then gA L G a n else _) = _
        rw [if_pos (by rw [ih]; exact h), ih]
theorem gA_ok (k : Nat) (h : (gA L G a k).2.2 = 0) : gA L G a (k + 1) = ((gA L G a k).1 ++ [[.int .i64 (G (gA L G a k).2.1).1, .int .i64 (G (gA L G a k).2.1).2.1, (G (gA L G a k).2.1).2.2.1]], (G (gA L G a k).2.1).2.2.2.1, (dS L (gA L G a k).2.1).2.2) := if_neg (by simp [h])
theorem gA_len : ∀ k, (gA L G a k).1.length ≤ k
  | 0 => Nat.le_refl _
  | k + 1 => by
    have ih := gA_len k
    by_cases he : (gA L G a k).2.2 = 0
    · rw [gA_ok k he]; simp; omega
    · rw [gA_err k he (k + 1) (by omega)]; omega
theorem gA_ss (hG : ∀ b, (dS L b).2.2 = 0 → [.int .i64 (G b).1, .int .i64 (G b).2.1, (G b).2.2.1] = (dS L b).1.row ∧ (G b).2.2.2.1 = (dS L b).2.1) :
    ∀ k, (gA L G a k).2.2 = (ssSt L a k).2.2 ∧ ((ssSt L a k).2.2 = 0 → (gA L G a k).1 = (ssSt L a k).1.map Ses.row ∧ (gA L G a k).2.1 = (ssSt L a k).2.1)
  | 0 => ⟨rfl, fun _ => ⟨rfl, rfl⟩⟩
  | k + 1 => by
    obtain ⟨h1, h2⟩ := gA_ss hG k
    by_cases he : (ssSt L a k).2.2 = 0
    · obtain ⟨h3, h4⟩ := h2 he
      rw [gA_ok k (h1.trans he), ssSt_ok L a k he, h4]
      refine ⟨rfl, fun hz => ?_⟩
      obtain ⟨h5, h6⟩ := hG _ hz
      refine ⟨?_, h6⟩
      simp only [List.map_append, List.map_cons, List.map_nil, h3]
      rw [h5]
    · rw [gA_err k (by rw [h1]; exact he) (k + 1) (by omega), ssSt_err L a k he (k + 1) (by omega)]
      exact ⟨h1, h2⟩
end
/-- What Decode returns: nil with an error. -/
def dAW (x : List Ses × Int × Int) : AV := if x.2.2 ≠ 0 then .tup [.a .nils, .a (.int .i64 x.2.1), .a (.int .i64 x.2.2)] else dAV x
theorem daw_le {x : List Ses × Int × Int} (h : x.2.2 ≠ 0 → x.1 = []) : VLe (dAW x) (dAV x) := by
  unfold dAW
  split
  · rename_i q
    obtain ⟨l, b, e⟩ := x
    obtain rfl := h q
    exact VLe.tup ⟨VLe.a (RLe.nils 3), VLe.refl _, VLe.refl _, trivial⟩
  · exact VLe.refl _
set_option maxHeartbeats 16000000 in
theorem dec_den (s : ByteArray) (a : Int) (hs : s.size ≤ 1125899906842624) : PDen Try.prog 25 [.a (.str s), .a (.int .i64 a)] (dAV (dA s.data.toList a)) := by
  have n0 : ((0 : Int) != 0) = false := rfl
  have m0 : ((0 : Int) == 0) = true := rfl
  have hLl : s.data.toList.length ≤ 1125899906842624 := by rw [dsize]; exact hs
  have h1 := wtakecount_den s a 32 hs (by omega)
  have hle := takeC_le s.data.toList a 32 (by omega)
  unfold takeCV at h1
  unfold dA
  generalize Cw.takeC s.data.toList a 32 = x at h1 hle ⊢
  obtain ⟨n, a1, e1⟩ := x
  simp only [] at h1 hle ⊢
  by_cases c1 : e1 = 0
  rotate_left
  · rw [if_pos c1]
    have m1 : (e1 != 0) = true := by simpa using c1
    refine PDen.le ?_ (da_le e1)
    refine den_of_body k_session_Decode ⟨rfl, Nat.le_of_ble_eq_true rfl, thaw_intro ?_⟩
    unfold c_session_Decode
    simp only [go_sem]
    refine t_call_intro (h1) ?_
    simp only [m1, go_sem]
    simp only [aresult, ares, go_sem]
  subst c1
  rw [if_neg (by simp)]
  have hout : ∀ b, ∃ p : Int × Int × Atom × Int × List OwnD, ((dS s.data.toList b).2.2 = 0 → [.int .i64 p.1, .int .i64 p.2.1, p.2.2.1] = (dS s.data.toList b).1.row ∧ p.2.2.2.1 = (dS s.data.toList b).2.1) ∧
      ∀ d0 : OwnD, IDen Try.prog 44 [.loc 0 0] [scn s b 0] [d0] (.agg [.int .i64 p.1, .int .i64 p.2.1, p.2.2.1]) [scn s p.2.2.2.1 (dS s.data.toList b).2.2] ([d0] ++ p.2.2.2.2) true := fun b => by
    obtain ⟨st, cd, X, a', Y, q⟩ := session_iden s b hs
    exact ⟨(st, cd, X, a', Y), q⟩
  obtain ⟨G, hG⟩ := Classical.skolem.1 hout
  clear hout
  unfold scn at hG
  unfold dAr
  generalize hL : s.data.toList = L at hG hLl ⊢
  have hss := gA_ss (L := L) (G := G) (a := a1) fun b => (hG b).1
  have hvd := sessV_den (ssSt L a1 n).1 ⟨by have := ssSt_len L a1 n; omega, ssSt_fit L hLl a1 n⟩
  refine PDen.le ?_ (daw_le ?_)
  rotate_left
  · split
    · exact fun _ => rfl
    · split
      · intro h; exact absurd rfl h
      · exact fun _ => rfl
  refine den_of_body k_session_Decode ⟨rfl, Nat.le_of_ble_eq_true rfl, thaw_intro ?_⟩
  unfold c_session_Decode
  simp only [go_sem]
  refine t_call_intro (h1) ?_
  simp only [n0, go_sem]
  refine t_loopO_intro [.slot 11 66 3] (fun k : Nat => k ≤ n) (fun k => n - k) 0 [11, 12, 27, 28, 29, 30, 31, 32, 33, 34, 35, 36, 37, 38, 39, 40, 41, 42, 43] (fun k => [(11, .own 0), (12, .a (.int .i64 k)), (13, .any), (16, .any)]) (fun k => [[.a (.str s), .a (.int .i64 (gA L G a1 k).2.1), .a (.int .i64 (gA L G a1 k).2.2)]]) (fun k => [⟨66, 3, (gA L G a1 k).1, false⟩]) (by omega) (by simp) (by first | (simp; done) | simp [gA]) (by first | (simp; done) | simp [gA]) (by first | (simp; done) | simp [gA]) (fun k => by first | (simp; done) | simp [gA]) (fun k => by first | (simp; done) | simp [gA]) (fun k => by first | (simp; done) | simp [gA]) ?_
  intro k hk st_ hst
  simp only [go_sem] at hst
  subst hst
  by_cases hlt : k < n
  · have i1 : (k : Int) < (n : Int) := by omega
    have ewi := wrap1 k n hlt (by omega)
    by_cases hall : (gA L G a1 k).2.2 = 0
    rotate_left
    · have n2 : ((gA L G a1 k).2.2 == 0) = false := by simpa using hall
      have n3 : ((gA L G a1 k).2.2 != 0) = true := by simpa using hall
      have ee := gA_err k hall n (by omega)
      have eh : (ssSt L a1 n).2.2 = (gA L G a1 k).2.2 := by rw [← (hss n).1, ee]
      rw [if_pos (by rw [eh]; exact hall), eh]
      simp only [i1, n2, n3, go_sem]
      simp only [dAW]
      rw [if_pos hall]
      simp only [aresult, ares, go_sem]
    have hd := (hG (gA L G a1 k).2.1).2 ⟨66, 3, (gA L G a1 k).1, false⟩
    have hvl := gA_len (L := L) (G := G) (a := a1) k
    have ek := gA_ok k hall
    have r2 : (gA L G a1 (k + 1)).2.1 = (G (gA L G a1 k).2.1).2.2.2.1 := by rw [ek]
    have r3 : (gA L G a1 (k + 1)).2.2 = (dS L (gA L G a1 k).2.1).2.2 := by rw [ek]
    have r1 : (gA L G a1 (k + 1)).1 = (gA L G a1 k).1 ++ [[.int .i64 (G (gA L G a1 k).2.1).1, .int .i64 (G (gA L G a1 k).2.1).2.1, (G (gA L G a1 k).2.1).2.2.1]] := by rw [ek]
    simp only [i1, hall, m0, go_sem]
    refine t_callK_intro (hd) (by simp) ?_
    simp only [go_sem]
    refine t_gate_intro (by omega) ?_
    simp only [ewi, go_sem]
    refine t_roundO (k + 1) (by omega) (by omega) (by first | (simp; done) | simp [r1, r2, r3]) (by first | (simp; done) | simp [r1, r2, r3]) (by first | (simp; done) | simp [r1, r2, r3]) (by first | (simp; done) | simp [r1, r2, r3]) (by first | (simp; done) | simp [r1, r2, r3])
  · have i1 : ¬ (k : Int) < (n : Int) := by omega
    have kk : k = n := by omega
    subst kk
    by_cases hall : (gA L G a1 k).2.2 = 0
    rotate_left
    · have n3 : ((gA L G a1 k).2.2 != 0) = true := by simpa using hall
      have eh := (hss k).1
      rw [if_pos (by rw [← eh]; exact hall), ← eh]
      simp only [i1, n3, go_sem]
      simp only [dAW]
      rw [if_pos hall]
      simp only [aresult, ares, go_sem]
    have hz : (ssSt L a1 k).2.2 = 0 := by rw [← (hss k).1]; exact hall
    obtain ⟨hr, ha⟩ := (hss k).2 hz
    rw [if_neg (by simp [hz])]
    cases hv0 : sessV (ssSt L a1 k).1 with
    | false =>
      rw [if_neg (by simp)]
      rw [hv0, ← hr] at hvd
      simp only [i1, hall, n0, go_sem]
      refine t_call_intro (hvd) ?_
      simp only [go_sem]
      simp only [aresult, ares, go_sem]
      rfl
    | true =>
      rw [if_pos rfl]
      rw [hv0, ← hr] at hvd
      simp only [i1, hall, n0, go_sem]
      refine t_call_intro (hvd) ?_
      simp only [go_sem]
      simp only [aresult, ares, go_sem]
      simp only [dAW, dAV, hr, ha]
      rfl
end Go.Proofs.Ytbiongfnbbnndaa
