/- Chapter 40: Encode of both. -/
import Derived.Test.YtokkjkoonglheaaNwE
import Derived.Test.YtokkjkoonglheaaBw
import Derived.Test.YtokkjkoonglheaaAn
set_option linter.unusedSimpArgs false
set_option linter.unusedVariables false
namespace Go.Proofs.Ytokkjkoonglheaa
open Go Ab Go.RowKit
set_option maxRecDepth 100000
attribute [local irreducible] awp aops aop asoft aeff aloop acall acallI acallT
attribute [local go_sem] Msg.row itemsA

def nums (m : Msg) : List Int := [m.kind, m.frm, m.to, m.term, m.index, m.logTerm, m.commit]
def intL (n : Int) : List UInt8 := Cw.vint (Cw.fold n)
def numL (m : Msg) (k : Nat) : List UInt8 := (((nums m).take k).map intL).flatten
def itL (x : Itm) : List UInt8 := intL x.term ++ textL x.data
def midL (m : Msg) : List UInt8 := numL m 7 ++ Cw.boolB m.ok
def headL (m : Msg) : List UInt8 := midL m ++ Cw.vint m.items.length
def msgL (m : Msg) (k : Nat) : List UInt8 := headL m ++ ((m.items.take k).map itL).flatten
def byt (l : List UInt8) : ByteArray := ⟨l.toArray⟩
theorem byt_L (l : List UInt8) : (byt l).data.toList = l := by simp [byt]
theorem byt_size (l : List UInt8) : (byt l).size = l.length := by rw [← dsize, byt_L]
theorem byt_app (l m : List UInt8) : byt l ++ byt m = byt (l ++ m) := by
  apply ByteArray.ext
  apply Array.toList_inj.1
  rw [app_L, byt_L, byt_L, byt_L]
theorem nums_len (m : Msg) : (nums m).length = 7 := rfl
theorem numL_step (m : Msg) (k : Nat) (h : k < 7) : numL m k ++ intL (nums m)[k] = numL m (k + 1) := by
  unfold numL
  rw [flat_next intL (nums m) k h]
theorem msgL_step (m : Msg) (k : Nat) (h : k < m.items.length) : (msgL m k ++ intL m.items[k].term) ++ textL m.items[k].data = msgL m (k + 1) := by
  unfold msgL
  rw [flat_next itL m.items k h]
  simp only [List.append_assoc]
  rfl
def in63 (n : Int) : Prop := -Cw.M63 ≤ n ∧ n < Cw.M63
structure Msg.num (m : Msg) : Prop where
  all : ∀ n ∈ nums m, in63 n
  its : ∀ x ∈ m.items, in63 x.term
/-- What an argument is. -/
structure Msg.smal (m : Msg) : Prop where
  num : m.num
  len : m.items.length ≤ 1048576
  dat : ∀ x ∈ m.items, x.data.size ≤ 1048576
theorem intL_len (n : Int) (h : in63 n) : (intL n).length ≤ 10 := by
  have := vintB_size _ (Cw.fold_lt n h.1 h.2)
  rw [← dsize] at this
  exact this
theorem numL_len (m : Msg) (h : m.num) : ∀ k, k ≤ 7 → (numL m k).length ≤ 10 * k
  | 0, _ => by simp [numL]
  | k + 1, hk => by
    have ih := numL_len m h k (by omega)
    rw [← numL_step m k (by omega), List.length_append]
    have := intL_len (nums m)[k] (h.all _ (List.getElem_mem _))
    omega
theorem textL_len (s : ByteArray) (h : s.size ≤ 1048576) : (textL s).length ≤ s.size + 10 := by
  have := textB_size s (by omega)
  rw [← dsize] at this
  exact this
theorem headL_len (m : Msg) (h : m.smal) : (midL m).length ≤ 71 ∧ (headL m).length ≤ 81 := by
  have h1 := numL_len m h.num 7 (Nat.le_refl _)
  have h2 : (Cw.boolB m.ok).length = 1 := by cases m.ok <;> rfl
  have h3 := vintB_size m.items.length (by rw [Cw.m64]; have := h.len; omega)
  rw [← dsize] at h3
  have h4 : (Cw.vint m.items.length).length ≤ 10 := h3
  unfold headL midL
  simp only [List.length_append]; omega
theorem msgL_len (m : Msg) (h : m.smal) : ∀ k, k ≤ m.items.length → (msgL m k).length ≤ 81 + k * 1048596
  | 0, _ => by
    have := (headL_len m h).2
    unfold msgL; simp; omega
  | k + 1, hk => by
    have ih := msgL_len m h k (by omega)
    have hm : m.items[k] ∈ m.items := List.getElem_mem _
    have h1 := intL_len _ (h.num.its _ hm)
    have h2 := textL_len _ (h.dat _ hm)
    have h3 := h.dat _ hm
    rw [← msgL_step m k (by omega), List.length_append, List.length_append]; omega
theorem headL_ne (m : Msg) (k : Nat) : msgL m k ≠ [] := by
  intro h
  have h1 := congrArg List.length h
  have h2 : (Cw.boolB m.ok).length = 1 := by cases m.ok <;> rfl
  unfold msgL headL midL at h1
  simp only [List.length_append, List.length_nil] at h1
  omega
theorem num_at (m : Msg) (k : Nat) (h : k < 7) : ([Atom.int .i64 m.kind, .int .i64 m.frm, .int .i64 m.to, .int .i64 m.term, .int .i64 m.index, .int .i64 m.logTerm, .int .i64 m.commit].getD k default) = .int .i64 (nums m)[k] := by
  match k, h with
  | 0, _ => rfl
  | 1, _ => rfl
  | 2, _ => rfl
  | 3, _ => rfl
  | 4, _ => rfl
  | 5, _ => rfl
  | 6, _ => rfl
theorem wrapu (n : Nat) (h : n ≤ 1048576) : IntKind.u64.wrap (n : Int) = (n : Int) := by rw [IntKind.wrap_u64]; omega
set_option maxHeartbeats 2000000 in
theorem nenc_den (m : Msg) (hm : m.smal) : PDen Try.prog 7 [.agg m.row] (.a (.str (byt (msgL m m.items.length)))) := by
  have eu := wrapu m.items.length hm.len
  have hn := headL_ne m m.items.length
  have hz : numL m 0 = [] := rfl
  have hbr : byteRows [] = [] := rfl
  have hz2 : msgL m 0 = headL m := by simp [msgL]
  have hhd := headL_len m hm
  have hvl : (vintB m.items.length).data.toList = Cw.vint m.items.length := by simp [vintB]
  have hbl : (boolBB m.ok).data.toList = Cw.boolB m.ok := by simp [boolBB]
  have hb1 : (boolBB m.ok).size = 1 := by rw [← dsize, hbl]; cases m.ok <;> rfl
  refine den_of_body k_network_Encode ⟨rfl, Nat.le_of_ble_eq_true rfl, thaw_intro ?_⟩
  unfold c_network_Encode
  simp only [go_sem]
  refine t_loopO_intro [.cell 1 1 5 1] (fun k : Nat => k ≤ 7) (fun k => 7 - k) 0 [5, 23, 24, 25, 26, 27, 28, 29] (fun k => [(23, .a (.int .i64 k))]) (fun k => [[.a (.int .i64 m.kind), .a (.int .i64 m.frm), .a (.int .i64 m.to), .a (.int .i64 m.term), .a (.int .i64 m.index), .a (.int .i64 m.logTerm), .a (.int .i64 m.commit), .a (.bool m.ok), .a (.slice 2 (m.items.map Itm.row))], [.bself 47, .own 0]]) (fun k => [⟨5, 1, byteRows (numL m k), false⟩]) (by omega) (by simp) (by first | (simp; done) | simp [hz, hbr]) (by first | (simp; done) | simp [hz, hbr]) (by first | (simp; done) | simp [hz, hbr]) (fun k => by first | (simp; done) | simp [hz, hbr]) (fun k => by first | (simp; done) | simp [hz, hbr]) (fun k => by first | (simp; done) | simp [hz, hbr]) ?_
  intro k hk st_ hst
  simp only [go_sem] at hst
  subst hst
  by_cases hlt : k < 7
  · have h1 : (k : Int) < 7 := by omega
    have e := num_at m k hlt
    have ew := wrap1 k 7 hlt (by omega)
    have hp := hm.num.all _ (List.getElem_mem (l := nums m) (n := k) (by rw [nums_len]; exact hlt))
    have es := numL_step m k hlt
    have hv : (vintB (Cw.fold (nums m)[k])).data.toList = intL (nums m)[k] := by simp [vintB, intL]
    have hl := numL_len m hm.num k hk
    have s1 := vintB_size _ (Cw.fold_lt _ hp.1 hp.2)
    simp only [h1, hlt, go_sem]
    refine t_gate_intro (by omega) ?_
    simp only [h1, hlt, e, go_sem]
    refine t_call_intro (wint_den _ hp.1 hp.2) ?_
    simp only [go_sem]
    refine t_callI_intro (bwrite_iden write_spec rfl rfl (by omega)) ?_
    simp only [hv, es, ew, go_sem]
    refine t_roundO (k + 1) (by omega) (by omega) (by simp) (by simp) (by simp) (by simp) (by simp)
  · have h1 : ¬ (k : Int) < 7 := by omega
    have ek : k = 7 := by omega
    subst ek
    have hl := numL_len m hm.num 7 (Nat.le_refl _)
    simp only [h1, go_sem]
    refine t_call_intro (wbool_den m.ok) ?_
    simp only [go_sem]
    refine t_callI_intro (bwrite_iden write_spec rfl rfl (by omega)) ?_
    simp only [eu, go_sem]
    refine t_call_intro (wuint_den m.items.length (by omega) (by rw [Cw.m64]; have := hm.len; omega)) ?_
    simp only [go_sem]
    have hbL : (boolBB m.ok).data.toList.length = 1 := by rw [dsize]; exact hb1
    have hvs : (vintB m.items.length).size ≤ 10 := vintB_size _ (by rw [Cw.m64]; have := hm.len; omega)
    refine t_callI_intro (bwrite_iden write_spec rfl rfl (by simp only [List.length_append]; omega)) ?_
    simp only [hbl, hvl, go_sem]
    have hzz : (numL m 7 ++ Cw.boolB m.ok) ++ Cw.vint m.items.length = msgL m 0 := by rw [hz2]; rfl
    simp only [hzz, go_sem]
    refine t_loopO_intro [] (fun k : Nat => k ≤ m.items.length) (fun k => m.items.length - k) 0 [7, 43, 44, 45, 46, 47, 48, 49, 50, 51, 52, 53, 54, 55] (fun k => [(43, .a (.int .i64 k))]) (fun k => [[.a (.int .i64 m.kind), .a (.int .i64 m.frm), .a (.int .i64 m.to), .a (.int .i64 m.term), .a (.int .i64 m.index), .a (.int .i64 m.logTerm), .a (.int .i64 m.commit), .a (.bool m.ok), .a (.slice 2 (m.items.map Itm.row))], [.bself 47, .own 0]]) (fun k => [⟨5, 1, byteRows (msgL m k), false⟩]) (by omega) (by simp) (by simp) (by simp) (by simp) (fun k => by simp) (fun k => by simp) (fun k => by simp) ?_
    intro k hk st_ hst
    simp only [go_sem] at hst
    subst hst
    by_cases hlt : k < m.items.length
    · have h1 : (k : Int) < (m.items.length : Int) := by omega
      have e := getD_map Itm.row m.items k hlt
      have er : m.items[k].row = [.int .i64 m.items[k].term, .str m.items[k].data] := rfl
      have ew := wrap1 k m.items.length hlt (by have := hm.len; omega)
      have hmm : m.items[k] ∈ m.items := List.getElem_mem _
      have hp := hm.num.its _ hmm
      have hd := hm.dat _ hmm
      have es := msgL_step m k hlt
      have hv : (vintB (Cw.fold m.items[k].term)).data.toList = intL m.items[k].term := by simp [vintB, intL]
      have hv2 : (textB m.items[k].data).data.toList = textL m.items[k].data := rfl
      have hl := msgL_len m hm k hk
      have hml := hm.len
      have s1 := vintB_size _ (Cw.fold_lt _ hp.1 hp.2)
      have s2 := textB_size m.items[k].data (by omega)
      have s3 := intL_len _ hp
      simp only [h1, hlt, e, er, go_sem]
      refine t_call_intro (wint_den _ hp.1 hp.2) ?_
      simp only [go_sem]
      refine t_callI_intro (bwrite_iden write_spec rfl rfl (by omega)) ?_
      simp only [go_sem]
      refine t_call_intro (wtext_den m.items[k].data (by omega)) ?_
      simp only [hv, go_sem]
      refine t_callI_intro (bwrite_iden write_spec rfl rfl (by simp only [List.length_append]; omega)) ?_
      simp only [hv, hv2, es, ew, go_sem]
      refine t_roundO (k + 1) (by omega) (by omega) (by simp) (by simp) (by simp) (by simp) (by simp)
    · have h1 : ¬ (k : Int) < (m.items.length : Int) := by omega
      have ek : k = m.items.length := by omega
      subst ek
      simp only [h1, go_sem]
      refine t_callI_intro (bstring_iden string_spec rfl rfl hn) ?_
      simp only [go_sem]
      simp only [aresult, ares, go_sem]
      rfl
def nRow (n : Int) : List Atom := [.int .i64 n]
theorem rnumbers_den (m : Msg) : PDen Try.prog 25 [.agg m.row] (.a (.slice 1 ((nums m).map nRow))) := by
  refine den_of_body k_ref40_numbers ⟨rfl, Nat.le_of_ble_eq_true rfl, thaw_intro ?_⟩
  unfold c_ref40_numbers
  simp only [go_sem]
  simp only [aresult, ares, go_sem]
  rfl
theorem numB_step (m : Msg) (k : Nat) (h : k < 7) : byt (numL m k) ++ vintB (Cw.fold (nums m)[k]) = byt (numL m (k + 1)) := by
  rw [← numL_step m k h, ← byt_app]; rfl
theorem msgB_step (m : Msg) (k : Nat) (h : k < m.items.length) : (byt (msgL m k) ++ vintB (Cw.fold m.items[k].term)) ++ textB m.items[k].data = byt (msgL m (k + 1)) := by
  rw [← msgL_step m k h, ← byt_app, ← byt_app]; rfl
theorem wrapsz (a b : ByteArray) (h : a.size + b.size ≤ 1000000000000000) : (a ++ b).size ≤ 9223372036854775807 := by rw [ByteArray.size_append]; omega
set_option maxHeartbeats 2000000 in
theorem rnenc_den (m : Msg) (hm : m.smal) : PDen Try.prog 8 [.agg m.row] (.a (.str (byt (msgL m m.items.length)))) := by
  have eu := wrapu m.items.length hm.len
  have hz : byt (numL m 0) = ⟨#[]⟩ := rfl
  have hhd := headL_len m hm
  have hbl : (boolBB m.ok).data.toList = Cw.boolB m.ok := by simp [boolBB]
  have hb1 : (boolBB m.ok).size = 1 := by rw [← dsize, hbl]; cases m.ok <;> rfl
  have hvs : (vintB m.items.length).size ≤ 10 := vintB_size _ (by rw [Cw.m64]; have := hm.len; omega)
  have hzz : (byt (numL m 7) ++ boolBB m.ok) ++ vintB m.items.length = byt (msgL m 0) := by
    have : msgL m 0 = (numL m 7 ++ Cw.boolB m.ok) ++ Cw.vint m.items.length := by simp [msgL, headL, midL]
    rw [this, ← byt_app, ← byt_app]; rfl
  have hml := hm.len
  have hnl : ((nums m).map nRow).length = 7 := rfl
  have hnl2 : (nums m).length = 7 := rfl
  refine den_of_body k_ref40_Encode ⟨rfl, Nat.le_of_ble_eq_true rfl, thaw_intro ?_⟩
  unfold c_ref40_Encode
  simp only [go_sem]
  refine t_call_intro (rnumbers_den m) ?_
  simp only [hnl, hnl2, go_sem]
  refine t_loop_intro (fun k : Nat => k ≤ 7) (fun k => 7 - k) 0 [3, 5, 9, 10, 11, 12, 13, 14, 15, 16, 17, 18, 19, 20, 21] (fun k => [(3, .a (.str (byt (numL m k)))), (5, .a (.int .i64 k))]) (by omega) (by first | (simp; done) | simp [hz]) (fun k => by simp) rfl ?_
  intro k hk fr_ hfr
  simp only [go_sem] at hfr
  subst hfr
  by_cases hlt : k < 7
  · have h1 : (k : Int) < 7 := by omega
    have h1' : (k : Int) < ((7 : Nat) : Int) := by omega
    have e := getD_map nRow (nums m) k hlt
    have er : nRow (nums m)[k] = [.int .i64 (nums m)[k]] := rfl
    have ew := wrap1 k 7 hlt (by omega)
    have hp := hm.num.all _ (List.getElem_mem (l := nums m) (n := k) (by rw [nums_len]; exact hlt))
    have es := numB_step m k hlt
    have hl := numL_len m hm.num k hk
    rw [← byt_size] at hl
    have s1 := vintB_size _ (Cw.fold_lt _ hp.1 hp.2)
    simp only [hnl, hnl2, h1, h1', hlt, e, er, go_sem]
    refine t_call_intro (rint_den _ hp.1 hp.2) ?_
    simp only [go_sem]
    refine t_gate_intro (by omega) ?_
    simp only [es, ew, go_sem]
    refine t_round (k + 1) (by omega) (by omega) (by simp) rfl rfl (by simp) rfl
  · have h1 : ¬ (k : Int) < 7 := by omega
    have h1' : ¬ (k : Int) < ((7 : Nat) : Int) := by omega
    have ek : k = 7 := by omega
    subst ek
    have hl := numL_len m hm.num 7 (Nat.le_refl _)
    rw [← byt_size] at hl
    simp only [hnl, hnl2, h1, h1', go_sem]
    refine t_call_intro (rbool_den m.ok) ?_
    simp only [go_sem]
    refine t_gate_intro (by omega) ?_
    simp only [eu, go_sem]
    refine t_call_intro (ruint_den m.items.length (by omega) (by rw [Cw.m64]; omega)) ?_
    simp only [go_sem]
    refine t_gate_intro (by omega) ?_
    simp only [hzz, go_sem]
    refine t_loop_intro (fun k : Nat => k ≤ m.items.length) (fun k => m.items.length - k) 0 [3, 6, 33, 34, 35, 36, 37, 38, 39, 40, 41, 42, 43, 44, 45, 46, 47, 48, 49, 50, 51, 52, 53, 54, 55, 56] (fun k => [(3, .a (.str (byt (msgL m k)))), (6, .a (.int .i64 k))]) (by omega) (by simp) (fun k => by simp) rfl ?_
    intro k hk fr_ hfr
    simp only [go_sem] at hfr
    subst hfr
    by_cases hlt : k < m.items.length
    · have h1 : (k : Int) < (m.items.length : Int) := by omega
      have e := getD_map Itm.row m.items k hlt
      have er : m.items[k].row = [.int .i64 m.items[k].term, .str m.items[k].data] := rfl
      have ew := wrap1 k m.items.length hlt (by omega)
      have hmm : m.items[k] ∈ m.items := List.getElem_mem _
      have hp := hm.num.its _ hmm
      have hd := hm.dat _ hmm
      have es := msgB_step m k hlt
      have hl := msgL_len m hm k hk
      rw [← byt_size] at hl
      have s1 := vintB_size _ (Cw.fold_lt _ hp.1 hp.2)
      have s2 := textB_size m.items[k].data (by omega)
      simp only [h1, hlt, e, er, go_sem]
      refine t_call_intro (rint_den _ hp.1 hp.2) ?_
      simp only [go_sem]
      refine t_gate_intro (by omega) ?_
      simp only [h1, hlt, e, er, go_sem]
      refine t_call_intro (rtext_den m.items[k].data (by omega)) ?_
      simp only [go_sem]
      refine t_gate_intro (by omega) ?_
      simp only [es, ew, go_sem]
      refine t_round (k + 1) (by omega) (by omega) (by simp) rfl rfl (by simp) rfl
    · have h1 : ¬ (k : Int) < (m.items.length : Int) := by omega
      have ek : k = m.items.length := by omega
      subst ek
      simp only [h1, go_sem]
      simp only [aresult, ares, go_sem]
end Go.Proofs.Ytokkjkoonglheaa
