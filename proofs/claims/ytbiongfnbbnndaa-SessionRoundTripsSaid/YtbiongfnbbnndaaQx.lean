/- Chapter 37: the laws of the encoding. -/
import Derived.Test.YtbiongfnbbnndaaQz
set_option linter.unusedSimpArgs false
set_option linter.unusedVariables false
namespace Go.Proofs.Ytbiongfnbbnndaa
open Go Ab Go.RowKit
set_option maxRecDepth 100000
attribute [local irreducible] awp aops aop asoft aeff aloop acall acallI acallT
attribute [local go_sem] Vl.row sRow fpRow Req.row Rpl.row Ses.row

theorem un_string2 {n : Nat} {x : Atom} (h : Has Try.prog (n + 1) 9 [x]) : ∃ s : ByteArray, x = .str s ∧ s.size ≤ 140737488351232 := by
  obtain ⟨s, e, hs⟩ := un_string h
  cases e
  unfold reachBytes at hs
  exact ⟨s, rfl, by omega⟩
theorem dA_fit (L : List UInt8) (hL : L.length ≤ 1125899906842624) (a : Int) : SesFit (dA L a).1 := by
  have z : SesFit [] := ⟨by decide, fun s h => by cases h⟩
  have hle := takeC_le L a 32 (by omega)
  unfold dA
  split
  · exact z
  · unfold dAr
    split
    · exact z
    · split
      · exact ⟨by have := ssSt_len L (Cw.takeC L a 32).2.1 (Cw.takeC L a 32).1; simp only; omega, ssSt_fit L hL _ _⟩
      · exact z
theorem encA_size (l : List Ses) (hl : Sess.full l) : (encA l).size ≤ 1048576 := by
  unfold encA
  split
  · rename_i h
    have h1 := sess_len h
    have h2 := essK_len l (by omega) (fun s hs => sesV_in ((sessV_asc h).2 s hs)) hl.all l.length (Nat.le_refl _)
    have h3 : (essB l).size = (essK l l.length).length := by simp [essB, ByteArray.size]
    omega
  · decide
set_option maxHeartbeats 4000000 in
theorem SessionCodes_den (l : List Ses) (s : ByteArray) (at_ : Int) (hl : Sess.full l) (hs : s.size ≤ 140737488351232) : PDen Try.prog 7 [.a (.slice 3 (l.map Ses.row)), .a (.str s), .a (.int .i64 at_)] (.a (.bool true)) := by
  have d1 := dec_den s at_ (by omega)
  have d2 := rdec_den s at_ (by omega)
  have hf := dA_fit s.data.toList (by rw [dsize]; omega) at_
  unfold dAV at d1 d2
  generalize dA s.data.toList at_ = X at d1 d2 hf
  obtain ⟨x, i, e⟩ := X
  simp only [] at d1 d2 hf
  refine den_of_body k_law37_SessionCodes ⟨rfl, Nat.le_of_ble_eq_true rfl, thaw_intro ?_⟩
  unfold c_law37_SessionCodes
  simp only [go_sem]
  refine t_call_intro (d1) ?_
  simp only [go_sem]
  refine t_call_intro (d2) ?_
  simp only [go_sem]
  refine t_call_intro (senc_den l hl) ?_
  simp only [go_sem]
  refine t_call_intro (renc_den l hl) ?_
  simp only [beq_self_eq_true, go_sem]
  refine t_call_intro (sess_refl x hf) ?_
  simp only [beq_self_eq_true, go_sem]
  refine t_call_intro (examples_den) ?_
  simp only [go_sem]
  simp only [aresult, ares, go_sem]
set_option maxHeartbeats 4000000 in
theorem SessionRoundTrips_den (l : List Ses) (b a : ByteArray) (hl : Sess.full l) (hb : b.size ≤ 140737488351232) (ha : a.size ≤ 140737488351232) : PDen Try.prog 8 [.a (.slice 3 (l.map Ses.row)), .a (.str b), .a (.str a)] (.a (.bool true)) := by
  have hE := encA_size l hl
  have zz : ((b ++ encA l) ++ a).size ≤ 1125899906842624 := by rw [ByteArray.size_append, ByteArray.size_append]; omega
  have d := dec_den ((b ++ encA l) ++ a) b.size zz
  have hv := sessV_den l hl.fit
  have hRT : sessV l = true → dA ((b ++ encA l) ++ a).data.toList b.size = (l, ((b.size : Nat) : Int) + ((encA l).size : Int), 0) := fun h => by
    have e1 : (encA l).data.toList = essK l l.length := by unfold encA; rw [if_pos h]; simp [essB]
    have e2 : (encA l).size = (essK l l.length).length := by rw [← e1, dsize]
    refine dA_RT ?_ h hl.all
    have hA := At.whole b.data.toList (essK l l.length) a.data.toList
    rw [app_L, app_L, e1, e2, List.append_assoc]
    rw [dsize] at hA
    exact hA
  have hEn : sessV l = false → encA l = ⟨#[]⟩ := fun h => by unfold encA; rw [h]; rfl
  have hok := @dA_ok ((b ++ encA l) ++ a).data.toList b.size
  have hin := dA_fit ((b ++ encA l) ++ a).data.toList (by rw [dsize]; omega) b.size
  unfold dAV at d
  have he := senc_den l hl
  generalize encA l = B at d he hRT hok hin hE zz hEn
  have ewr : IntKind.i64.wrap (((b.size : Nat) : Int) + ((B.size : Nat) : Int)) = ((b.size : Nat) : Int) + ((B.size : Nat) : Int) := by rw [IntKind.wrap_i64]; omega
  refine den_of_body k_law37_SessionRoundTrips ⟨rfl, Nat.le_of_ble_eq_true rfl, thaw_intro ?_⟩
  unfold c_law37_SessionRoundTrips
  simp only [go_sem]
  refine t_call_intro (he) ?_
  simp only [go_sem]
  refine t_gate_intro (by omega) ?_
  simp only [go_sem]
  refine t_gate_intro (by first | omega | (rw [ByteArray.size_append]; omega)) ?_
  simp only [go_sem]
  refine t_call_intro (d) ?_
  cases hq : sessV l with
  | true =>
    rw [hRT hq]
    rw [hq] at hv
    simp only [go_sem]
    refine t_call_intro (hv) ?_
    simp only [beq_self_eq_true, ewr, go_sem]
    refine t_call_intro (sess_refl l hl.fit) ?_
    simp only [go_sem]
    refine t_call_intro (examples_den) ?_
    simp only [go_sem]
    simp only [aresult, ares, go_sem]
  | false =>
    rw [hq] at hv
    obtain rfl := hEn hq
    generalize dA ((b ++ ⟨#[]⟩) ++ a).data.toList b.size = X at hok hin
    obtain ⟨x, i, e⟩ := X
    simp only [] at hok hin
    simp only [go_sem]
    refine t_call_intro (hv) ?_
    by_cases h0 : e = 0
    · subst h0
      have hx := sessV_den x hin
      rw [hok rfl] at hx
      have n0 : ((0 : Int) != 0) = false := rfl
      simp only [beq_self_eq_true, n0, go_sem]
      refine t_call_intro (hx) ?_
      simp only [go_sem]
      refine t_call_intro (examples_den) ?_
      simp only [go_sem]
      simp only [aresult, ares, go_sem]
    · have n0 : (e != 0) = true := by simpa using h0
      simp only [beq_self_eq_true, n0, go_sem]
      refine t_call_intro (examples_den) ?_
      simp only [go_sem]
      simp only [aresult, ares, go_sem]
end Go.Proofs.Ytbiongfnbbnndaa
