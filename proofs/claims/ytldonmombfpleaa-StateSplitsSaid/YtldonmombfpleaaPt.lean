/- Chapter 06: the union of a list with itself, of every length; the pairs of a list that fits. -/
import Derived.Test.YtldonmombfpleaaPn
import Derived.Test.YtldonmombfpleaaSun
set_option linter.unusedSimpArgs false
set_option linter.unusedVariables false
namespace Go.Proofs.Ytldonmombfpleaa
open Go Ab
attribute [local irreducible] awp aops aop asoft aeff aloop acall acallI acallT
attribute [local go_sem] Vl.row Rg.row Pr.row

theorem cmpB_self : ∀ a : List UInt8, Lib.compareBytes a a = 0
  | [] => by simp [Lib.compareBytes]
  | x :: xs => by
    have h := cmpB_self xs
    unfold Lib.compareBytes
    simp [h]
set_option maxRecDepth 100000 in
set_option maxHeartbeats 4000000 in
/-- A list merged with itself calls the third closure alone. -/
theorem merge_self {σ : Type} {Hs : σ → List (List AV)} {Os : σ → List OwnD} {L R : Pr → σ → σ} {B : Pr → Pr → σ → σ} {fl fr fb : FuncId} {cl cr cb : List AV} {G : Nat → σ → Prop} (S : Steps Hs Os L R B fl fr fb cl cr cb G)
    (a : List Pr) (ha : a.length * 40 ≤ 140737488351232) (s : σ) (Inv : σ → Prop) (hI : Inv s) (hIG : ∀ t, Inv t → G 1 t) (hIB : ∀ x t, Inv t → Inv (B x x t)) :
    IDen Try.prog 35 [.a (.slice 4 (a.map Pr.row)), .a (.slice 4 (a.map Pr.row)), .clo 36 [], .clo fl cl, .clo fr cr, .clo fb cb] (Hs s) (Os s) (.tup [])
      (Hs (mergeS L R B a a s)) (Os (mergeS L R B a a s)) false := by
  refine iden_of_body k_state_merge_api_Pair ⟨rfl, Nat.le_of_ble_eq_true rfl, ⟨Nat.le_of_eq (S.len _ _), S.bH _, rfl⟩, thaw_intro ?_⟩
  unfold c_state_merge_api_Pair
  have f1 := S.ll
  have f2 := S.lr
  have f3 := S.lb
  have f4 := S.dl
  have f5 := S.dr
  have f6 := S.db
  have f7 := S.bl
  have f8 := S.br
  have f9 := S.bb
  have f0 := S.bH
  simp only [go_sem]
  refine t_loopO_intro (α := Nat × σ) [] (fun x => x.1 ≤ a.length ∧ Inv x.2 ∧ mergeS L R B a a s = mergeS L R B (a.drop x.1) (a.drop x.1) x.2) (fun x => a.length - x.1) (0, s) [12, 13, 14, 15, 16, 17, 18, 19, 20, 21, 22, 23, 24, 25, 26, 27, 28, 29, 30, 31, 32, 33, 34, 35, 36, 37, 38, 39, 40, 41, 42, 43, 44, 45, 46, 47, 48, 49, 50, 51, 52, 53, 54, 55, 56, 57, 58, 59, 60, 61, 62, 63, 64, 65, 66, 67, 68, 69, 70, 71, 72, 73, 74, 75, 76, 77, 78, 79, 80] (fun x => [(12, .a (.int .i64 x.1)), (13, .a (.int .i64 x.1))]) (fun x => Hs x.2) (fun x => Os x.2) ⟨by simp, hI, by simp⟩ (by simp) (by simp) (by simp) (by simp) (fun x => Nat.le_of_eq (S.len _ _)) (fun x => by have g7 := f7 x.2; have g8 := f8 x.2; have g9 := f9 x.2; simp at g7 g8 g9 ⊢; exact ⟨g7, g8, g9⟩) (fun x => f0 _) ?_
  rintro ⟨i, t⟩ ⟨hi, hv, hm⟩ st_ hst
  simp only at hi hv hm
  simp only [go_sem] at hst
  subst hst
  have len : ∀ n m : Nat, n ≤ m → m * 40 ≤ 140737488351232 → IntKind.i64.wrap ((n : Int) + 1) = ((n + 1 : Nat) : Int) := fun n m h1 h2 => by rw [IntKind.wrap_i64]; omega
  by_cases hia : i < a.length
  · have h1 : (i : Int) < (a.length : Int) := by omega
    have e1 : ((i : Int) == (a.length : Int)) = false := by simp; omega
    have ew1 := len i a.length hi ha
    have ex := getD_map Pr.row a i hia
    have er : a[i].row = [.str a[i].key, .int .i64 a[i].v.kind, .int .i64 a[i].v.n, .str a[i].v.s] := rfl
    have edA : a.drop i = a[i] :: a.drop (i + 1) := List.drop_eq_getElem_cons hia
    have ez : cmpK a[i].key a[i].key = 0 := cmpB_self _
    have hc : ¬ (0 : Int) < 0 := by decide
    simp only [h1, e1, go_sem]
    simp only [h1, e1, ex, er, b_order, go_sem]
    refine t_call_intro (order_den a[i] a[i]) ?_
    simp only [ez, hc, go_sem]
    simp only [h1, ex, er, f1, f2, f3, f6, go_sem]
    refine t_callI_intro (S.sb 0 a[i] a[i] t (hIG t hv)).1 ?_
    simp only [f1, f2, f3, ew1, go_sem]
    refine t_roundO (q := (i, t)) (i + 1, B a[i] a[i] t) ⟨hia, hIB _ _ hv, ?_⟩ (by simp only; omega) (by simp) (by simp) (by simp) (by have g7 := f7 (B a[i] a[i] t); have g8 := f8 (B a[i] a[i] t); have g9 := f9 (B a[i] a[i] t); simp at g7 g8 g9 ⊢; exact ⟨g7, g8, g9⟩) (f0 _)
    rw [hm, edA]; simp only [mergeS]; rw [ez, if_neg (by decide), if_neg (by decide)]
  · have hie : i = a.length := by omega
    have edA : a.drop i = [] := List.drop_eq_nil_of_le (by omega)
    have h1 : ¬ (i : Int) < (a.length : Int) := by omega
    have em : mergeS L R B a a s = t := by rw [hm, edA]; simp only [mergeS]
    simp only [h1, go_sem]
    rw [em]
    refine ⟨by simp only [aresultI, aresI, aggI, go_sem], by simp, rfl⟩
set_option maxRecDepth 100000 in
set_option maxHeartbeats 2000000 in
theorem uni_self (l : List Pr) (hl : l.length * 40 ≤ 140737488351232) (fl : ∀ p ∈ l, p.fit) :
    PDen Try.prog 17 [.a (.slice 4 (l.map Pr.row)), .a (.slice 4 (l.map Pr.row))] (uniA l l) := by
  have hS := stateV_den l hl fl
  have hW := stateV_den l hl fl
  by_cases h0 : stateV l = true
  · rw [h0] at hS
    have h1 := h0
    · rw [h1] at hW
      have hM := merge_self uniSteps l hl (none, false) (fun s => s.1 = none) rfl (fun t ht => by unfold roomU roomG; rw [ht]; decide) (fun x t ht => ht)
      change IDen _ _ _ _ _ _ (unionH (uniO l l)) (outO (uniO l l).1) _ at hM
      by_cases ht : (uniO l l).2 = true
      · rw [show uniA l l = .tup [.a .nils, .a (.int .i64 8)] by simp [uniA, h0, h1, ht]]
        rw [show uniO l l = ((uniO l l).1, true) by rw [← ht]] at hM
        cases ho : (uniO l l).1 with
        | none =>
          rw [ho] at hM
          refine den_of_body k_state_Union ⟨rfl, Nat.le_of_ble_eq_true rfl, thaw_intro ?_⟩
          unfold c_state_Union
          simp only [go_sem]
          refine t_call_intro (hS) ?_
          simp only [go_sem]
          refine t_call_intro (hW) ?_
          simp only [go_sem]
          refine t_callI_intro hM ?_
          unfold unionH outV outO
          simp only [go_sem]
          simp only [aresult, ares, go_sem]
        | some m =>
          rw [ho] at hM
          refine den_of_body k_state_Union ⟨rfl, Nat.le_of_ble_eq_true rfl, thaw_intro ?_⟩
          unfold c_state_Union
          simp only [go_sem]
          refine t_call_intro (hS) ?_
          simp only [go_sem]
          refine t_call_intro (hW) ?_
          simp only [go_sem]
          refine t_callI_intro hM ?_
          unfold unionH outV outO
          simp only [go_sem]
          simp only [aresult, ares, go_sem]
      · have ht : (uniO l l).2 = false := by simpa using ht
        rw [show uniA l l = .tup [.a (.slice 4 ((outL (uniO l l).1).map Pr.row)), .a (.int .i64 0)] by simp [uniA, h0, h1, ht]]
        rw [show uniO l l = ((uniO l l).1, false) by rw [← ht]] at hM
        cases ho : (uniO l l).1 with
        | none =>
          rw [ho] at hM
          refine PDen.le (r := .tup [.a .nils, .a (.int .i64 0)]) ?_ (nilTup 0)
          refine den_of_body k_state_Union ⟨rfl, Nat.le_of_ble_eq_true rfl, thaw_intro ?_⟩
          unfold c_state_Union
          simp only [go_sem]
          refine t_call_intro (hS) ?_
          simp only [go_sem]
          refine t_call_intro (hW) ?_
          simp only [go_sem]
          refine t_callI_intro hM ?_
          unfold unionH outV outO
          simp only [go_sem]
          simp only [aresult, ares, go_sem]
        | some m =>
          rw [ho] at hM
          refine den_of_body k_state_Union ⟨rfl, Nat.le_of_ble_eq_true rfl, thaw_intro ?_⟩
          unfold c_state_Union
          simp only [go_sem]
          refine t_call_intro (hS) ?_
          simp only [go_sem]
          refine t_call_intro (hW) ?_
          simp only [go_sem]
          refine t_callI_intro hM ?_
          unfold unionH outV outO outL
          simp only [go_sem]
          simp only [aresult, ares, go_sem]
  · rw [show uniA l l = .tup [.a .nils, .a (.int .i64 1)] by simp [uniA, h0]]
    have h0 : stateV l = false := by simpa using h0
    rw [h0] at hS
    refine den_of_body k_state_Union ⟨rfl, Nat.le_of_ble_eq_true rfl, thaw_intro ?_⟩
    unfold c_state_Union
    simp only [go_sem]
    refine t_call_intro (hS) ?_
    simp only [go_sem]
    simp only [aresult, ares, go_sem]
theorem uni_ok2 (l ws : List Pr) (hs : (l.length + ws.length) * 48 ≤ 140737488351232) (fl : ∀ p ∈ l, p.fit) (fw : ∀ p ∈ ws, p.fit) (h1 : stateV l = true) (h2 : stateV ws = true) (h3 : (uniO l ws).2 = false) :
    PDen Try.prog 17 [.a (.slice 4 (l.map Pr.row)), .a (.slice 4 (ws.map Pr.row))] (.tup [.a (.slice 4 ((unL l ws).map Pr.row)), .a (.int .i64 0)]) := by
  have h := uni_den l ws (by omega) (by omega) hs fl fw
  rw [show uniA l ws = .tup [.a (.slice 4 ((outL (uniO l ws).1).map Pr.row)), .a (.int .i64 0)] from (if_pos (by rw [h1, h2]; rfl)).trans (if_neg (by rw [h3]; simp)), uni_out] at h
  exact h
theorem uni_none (l : List Pr) (hl : l.length * 40 ≤ 140737488351232) (fl : ∀ p ∈ l, p.fit) (h1 : stateV l = true) (h3 : (uniO l l).2 = false) :
    PDen Try.prog 17 [.a (.slice 4 (l.map Pr.row)), .a (.slice 4 (l.map Pr.row))] (.tup [.a (.slice 4 ((unL l l).map Pr.row)), .a (.int .i64 0)]) := by
  have h := uni_self l hl fl
  rw [show uniA l l = .tup [.a (.slice 4 ((outL (uniO l l).1).map Pr.row)), .a (.int .i64 0)] from (if_pos (by rw [h1]; rfl)).trans (if_neg (by rw [h3]; simp)), uni_out] at h
  exact h
theorem uni_both (l : List Pr) (hl : l.length * 40 ≤ 140737488351232) (fl : ∀ p ∈ l, p.fit) (h1 : stateV l = true) (h3 : (uniO l l).2 = true) :
    PDen Try.prog 17 [.a (.slice 4 (l.map Pr.row)), .a (.slice 4 (l.map Pr.row))] (.tup [.a .nils, .a (.int .i64 8)]) := by
  have h := uni_self l hl fl
  rw [show uniA l l = .tup [.a .nils, .a (.int .i64 8)] from (if_pos (by rw [h1]; rfl)).trans (if_pos h3)] at h
  exact h
structure Pairs.full (l : List Pr) : Prop where
  len : l.length * 48 ≤ 140737488351232
  all : ∀ p ∈ l, p.fit
theorem un_pairs48 {n : Nat} {x : Atom} (h : Has Try.prog (n + 4) 22 [x]) : ∃ l : List Pr, x = .slice 4 (l.map Pr.row) ∧ Pairs.full l := by
  unfold Has at h; rw [Try.underlying22] at h
  obtain ⟨rows, he, hn, hb, hr⟩ := h
  obtain ⟨l, rfl, hl⟩ := un_rows fun r hrr => un_pair (hr r hrr)
  rw [List.length_map] at hn hb
  rw [bytes_pair] at hb
  unfold reachBytes at hb
  cases he
  exact ⟨l, by rw [cells_pair], ⟨by omega, hl⟩⟩
end Go.Proofs.Ytldonmombfpleaa
