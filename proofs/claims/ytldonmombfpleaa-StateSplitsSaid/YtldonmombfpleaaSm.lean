/- Chapter 06: merge, whatever its closures do to the memory of the caller. -/
import Derived.Test.YtldonmombfpleaaSb
set_option linter.unusedSimpArgs false
set_option linter.unusedVariables false
namespace Go.Proofs.Ytldonmombfpleaa
open Go Ab
attribute [local irreducible] awp aops aop asoft aeff aloop acall acallI acallT
attribute [local go_sem] Vl.row Rg.row Pr.row

/-- What merge makes of two lists. -/
def mergeS {σ : Type} (L R : Pr → σ → σ) (B : Pr → Pr → σ → σ) : List Pr → List Pr → σ → σ
  | [], [], s => s
  | x :: xs, [], s => mergeS L R B xs [] (L x s)
  | [], y :: ys, s => mergeS L R B [] ys (R y s)
  | x :: xs, y :: ys, s => if cmpK x.key y.key < 0 then mergeS L R B xs (y :: ys) (L x s) else if cmpK x.key y.key > 0 then mergeS L R B (x :: xs) ys (R y s) else mergeS L R B xs ys (B x y s)
  termination_by l m => l.length + m.length
/-- What is asked of the closures. -/
structure Steps {σ : Type} (Hs : σ → List (List AV)) (Os : σ → List OwnD) (L R : Pr → σ → σ) (B : Pr → Pr → σ → σ) (fl fr fb : FuncId) (cl cr cb : List AV) (G : Nat → σ → Prop) : Prop where
  len : ∀ s s', (Hs s).length = (Hs s').length
  bH : ∀ s, (Hs s).all (·.all (Ab.boundV (Hs s).length (Os s).length)) = true
  bl : ∀ s, Ab.boundV (Hs s).length (Os s).length (.clo fl cl) = true
  br : ∀ s, Ab.boundV (Hs s).length (Os s).length (.clo fr cr) = true
  bb : ∀ s, Ab.boundV (Hs s).length (Os s).length (.clo fb cb) = true
  ll : locs cl = true
  lr : locs cr = true
  lb : locs cb = true
  dl : bodied Try.prog fl = true
  dr : bodied Try.prog fr = true
  db : bodied Try.prog fb = true
  sl : ∀ n x s, G (n + 1) s → IDen Try.prog fl ([.agg (Pr.row x)] ++ cl) (Hs s) (Os s) (.tup []) (Hs (L x s)) (Os (L x s)) false ∧ G n (L x s)
  sr : ∀ n x s, G (n + 1) s → IDen Try.prog fr ([.agg (Pr.row x)] ++ cr) (Hs s) (Os s) (.tup []) (Hs (R x s)) (Os (R x s)) false ∧ G n (R x s)
  sb : ∀ n x y s, G (n + 1) s → IDen Try.prog fb ([.agg (Pr.row x), .agg (Pr.row y)] ++ cb) (Hs s) (Os s) (.tup []) (Hs (B x y s)) (Os (B x y s)) false ∧ G n (B x y s)
  down : ∀ n s, G (n + 1) s → G n s
theorem b_order : bodied Try.prog 36 = true := by kernel_rfl

set_option maxRecDepth 100000 in
set_option maxHeartbeats 4000000 in
theorem merge_iden {σ : Type} {Hs : σ → List (List AV)} {Os : σ → List OwnD} {L R : Pr → σ → σ} {B : Pr → Pr → σ → σ} {fl fr fb : FuncId} {cl cr cb : List AV} {G : Nat → σ → Prop} (S : Steps Hs Os L R B fl fr fb cl cr cb G)
    (a b : List Pr) (ha : a.length * 40 ≤ 140737488351232) (hb : b.length * 40 ≤ 140737488351232) (s : σ) (hG : G (a.length + b.length) s) :
    IDen Try.prog 35 [.a (.slice 4 (a.map Pr.row)), .a (.slice 4 (b.map Pr.row)), .clo 36 [], .clo fl cl, .clo fr cr, .clo fb cb] (Hs s) (Os s) (.tup [])
      (Hs (mergeS L R B a b s)) (Os (mergeS L R B a b s)) false := by
  refine iden_of_body k_state_merge_api_Pair ⟨rfl, Nat.le_of_ble_eq_true rfl, ⟨Nat.le_of_eq (S.len _ _), S.bH _, rfl⟩, thaw_intro ?_⟩
  unfold c_state_merge_api_Pair
  have f1 := S.ll
  have f2 := S.lr
  have f3 := S.lb
  have f4 := S.dl
  have f5 := S.dr
  have f6 := S.db
  have f7 := S.bl
  have f8 := S.br
  have f9 := S.bb
  have f0 := S.bH
  simp only [go_sem]
  refine t_loopO_intro (α := Nat × Nat × σ) [] (fun x => x.1 ≤ a.length ∧ x.2.1 ≤ b.length ∧ G (a.length - x.1 + (b.length - x.2.1)) x.2.2 ∧ mergeS L R B a b s = mergeS L R B (a.drop x.1) (b.drop x.2.1) x.2.2) (fun x => a.length - x.1 + (b.length - x.2.1)) (0, 0, s) [12, 13, 14, 15, 16, 17, 18, 19, 20, 21, 22, 23, 24, 25, 26, 27, 28, 29, 30, 31, 32, 33, 34, 35, 36, 37, 38, 39, 40, 41, 42, 43, 44, 45, 46, 47, 48, 49, 50, 51, 52, 53, 54, 55, 56, 57, 58, 59, 60, 61, 62, 63, 64, 65, 66, 67, 68, 69, 70, 71, 72, 73, 74, 75, 76, 77, 78, 79, 80] (fun x => [(12, .a (.int .i64 x.1)), (13, .a (.int .i64 x.2.1))]) (fun x => Hs x.2.2) (fun x => Os x.2.2) ⟨by simp, by simp, by simpa using hG, by simp⟩ (by simp) (by simp) (by simp) (by simp) (fun x => Nat.le_of_eq (S.len _ _)) (fun x => by have g7 := f7 x.2.2; have g8 := f8 x.2.2; have g9 := f9 x.2.2; simp at g7 g8 g9 ⊢; exact ⟨g7, g8, g9⟩) (fun x => f0 _) ?_
  rintro ⟨i, k, t⟩ ⟨hi, hk, hg, hm⟩ st_ hst
  simp only at hi hk hg hm
  simp only [go_sem] at hst
  subst hst
  have len : ∀ n m : Nat, n ≤ m → m * 40 ≤ 140737488351232 → IntKind.i64.wrap ((n : Int) + 1) = ((n + 1 : Nat) : Int) := fun n m h1 h2 => by rw [IntKind.wrap_i64]; omega
  have fin : ∀ (y : Nat × Nat × σ), True := fun _ => trivial
  by_cases hia : i < a.length
  · have h1 : (i : Int) < (a.length : Int) := by omega
    have e1 : ((i : Int) == (a.length : Int)) = false := by simp; omega
    have ew1 := len i a.length hi ha
    have ex := getD_map Pr.row a i hia
    have er : a[i].row = [.str a[i].key, .int .i64 a[i].v.kind, .int .i64 a[i].v.n, .str a[i].v.s] := rfl
    have edA : a.drop i = a[i] :: a.drop (i + 1) := List.drop_eq_getElem_cons hia
    simp only [h1, e1, go_sem]
    by_cases hkb : k < b.length
    · have h2 : (k : Int) < (b.length : Int) := by omega
      have e2 : ((k : Int) == (b.length : Int)) = false := by simp; omega
      have ew2 := len k b.length hk hb
      have ey := getD_map Pr.row b k hkb
      have er2 : b[k].row = [.str b[k].key, .int .i64 b[k].v.kind, .int .i64 b[k].v.n, .str b[k].v.s] := rfl
      have edB : b.drop k = b[k] :: b.drop (k + 1) := List.drop_eq_getElem_cons hkb
      simp only [h1, h2, e1, e2, ex, er, ey, er2, b_order, go_sem]
      refine t_call_intro (order_den a[i] b[k]) ?_
      simp only [go_sem]
      by_cases hc : cmpK a[i].key b[k].key < 0
      · simp only [hc, go_sem]
        have hst1 : G (a.length - (i + 1) + (b.length - k) + 1) t := by rw [show a.length - (i + 1) + (b.length - k) + 1 = a.length - i + (b.length - k) by omega]; exact hg
        have hst2 := (S.sl _ a[i] t hst1).2
        simp only [h1, ex, er, f1, f2, f3, f4, go_sem]
        refine t_callI_intro (S.sl _ a[i] t hst1).1 ?_
        simp only [f1, f2, f3, ew1, go_sem]
        refine t_roundO (q := (i, k, t)) (i + 1, k, L a[i] t) ⟨hia, hk, ?_, ?_⟩ (by simp only; omega) (by simp) (by simp) (by simp) (by have g7 := f7 (L a[i] t); have g8 := f8 (L a[i] t); have g9 := f9 (L a[i] t); simp at g7 g8 g9 ⊢; exact ⟨g7, g8, g9⟩) (f0 _)
        · exact hst2
        · rw [hm, edA, edB]; simp only [mergeS]; rw [if_pos hc]
      · by_cases hc2 : cmpK a[i].key b[k].key > 0
        · have hc3 : (0 : Int) < cmpK a[i].key b[k].key := hc2
          simp only [hc, hc3, go_sem]
          have hst1 : G (a.length - i + (b.length - (k + 1)) + 1) t := by rw [show a.length - i + (b.length - (k + 1)) + 1 = a.length - i + (b.length - k) by omega]; exact hg
          have hst2 := (S.sr _ b[k] t hst1).2
          simp only [h2, ey, er2, f1, f2, f3, f5, go_sem]
          refine t_callI_intro (S.sr _ b[k] t hst1).1 ?_
          simp only [f1, f2, f3, ew2, go_sem]
          refine t_roundO (q := (i, k, t)) (i, k + 1, R b[k] t) ⟨hi, hkb, ?_, ?_⟩ (by simp only; omega) (by simp) (by simp) (by simp) (by have g7 := f7 (R b[k] t); have g8 := f8 (R b[k] t); have g9 := f9 (R b[k] t); simp at g7 g8 g9 ⊢; exact ⟨g7, g8, g9⟩) (f0 _)
          · exact hst2
          · rw [hm, edA, edB]; simp only [mergeS]; rw [if_neg hc, if_pos hc2]
        · have hc3 : ¬ (0 : Int) < cmpK a[i].key b[k].key := hc2
          simp only [hc, hc3, go_sem]
          have hst1 : G (a.length - (i + 1) + (b.length - (k + 1)) + 1) t := S.down _ _ (by rw [show a.length - (i + 1) + (b.length - (k + 1)) + 1 + 1 = a.length - i + (b.length - k) by omega]; exact hg)
          have hst2 := (S.sb _ a[i] b[k] t hst1).2
          simp only [h1, h2, ex, er, ey, er2, f1, f2, f3, f6, go_sem]
          refine t_callI_intro (S.sb _ a[i] b[k] t hst1).1 ?_
          simp only [f1, f2, f3, ew1, ew2, go_sem]
          refine t_roundO (q := (i, k, t)) (i + 1, k + 1, B a[i] b[k] t) ⟨hia, hkb, ?_, ?_⟩ (by simp only; omega) (by simp) (by simp) (by simp) (by have g7 := f7 (B a[i] b[k] t); have g8 := f8 (B a[i] b[k] t); have g9 := f9 (B a[i] b[k] t); simp at g7 g8 g9 ⊢; exact ⟨g7, g8, g9⟩) (f0 _)
          · exact hst2
          · rw [hm, edA, edB]; simp only [mergeS]; rw [if_neg hc, if_neg hc2]
    · have hke : k = b.length := by omega
      have edB : b.drop k = [] := List.drop_eq_nil_of_le (by omega)
      have h2 : ¬ (k : Int) < (b.length : Int) := by omega
      have e2 : ((k : Int) == (b.length : Int)) = true := by simp; omega
      have n1 : (-1 : Int) < 0 := by decide
      simp only [h1, h2, e1, e2, n1, go_sem]
      have hst1 : G (a.length - (i + 1) + (b.length - k) + 1) t := by rw [show a.length - (i + 1) + (b.length - k) + 1 = a.length - i + (b.length - k) by omega]; exact hg
      have hst2 := (S.sl _ a[i] t hst1).2
      simp only [h1, ex, er, f1, f2, f3, f4, go_sem]
      refine t_callI_intro (S.sl _ a[i] t hst1).1 ?_
      simp only [f1, f2, f3, ew1, go_sem]
      refine t_roundO (q := (i, k, t)) (i + 1, k, L a[i] t) ⟨hia, hk, ?_, ?_⟩ (by simp only; omega) (by simp) (by simp) (by simp) (by have g7 := f7 (L a[i] t); have g8 := f8 (L a[i] t); have g9 := f9 (L a[i] t); simp at g7 g8 g9 ⊢; exact ⟨g7, g8, g9⟩) (f0 _)
      · exact hst2
      · rw [hm, edA, edB]; simp only [mergeS]
  · have hie : i = a.length := by omega
    have edA : a.drop i = [] := List.drop_eq_nil_of_le (by omega)
    have h1 : ¬ (i : Int) < (a.length : Int) := by omega
    have e1 : ((i : Int) == (a.length : Int)) = true := by simp; omega
    simp only [h1, go_sem]
    by_cases hkb : k < b.length
    · have h2 : (k : Int) < (b.length : Int) := by omega
      have e2 : ((k : Int) == (b.length : Int)) = false := by simp; omega
      have ew2 := len k b.length hk hb
      have ey := getD_map Pr.row b k hkb
      have er2 : b[k].row = [.str b[k].key, .int .i64 b[k].v.kind, .int .i64 b[k].v.n, .str b[k].v.s] := rfl
      have edB : b.drop k = b[k] :: b.drop (k + 1) := List.drop_eq_getElem_cons hkb
      have n1 : ¬ (1 : Int) < 0 := by decide
      have n2 : (0 : Int) < 1 := by decide
      simp only [h1, h2, e1, e2, n1, n2, go_sem]
      have hst1 : G (a.length - i + (b.length - (k + 1)) + 1) t := by rw [show a.length - i + (b.length - (k + 1)) + 1 = a.length - i + (b.length - k) by omega]; exact hg
      have hst2 := (S.sr _ b[k] t hst1).2
      simp only [h2, ey, er2, f1, f2, f3, f5, go_sem]
      refine t_callI_intro (S.sr _ b[k] t hst1).1 ?_
      simp only [f1, f2, f3, ew2, go_sem]
      refine t_roundO (q := (i, k, t)) (i, k + 1, R b[k] t) ⟨hi, hkb, ?_, ?_⟩ (by simp only; omega) (by simp) (by simp) (by simp) (by have g7 := f7 (R b[k] t); have g8 := f8 (R b[k] t); have g9 := f9 (R b[k] t); simp at g7 g8 g9 ⊢; exact ⟨g7, g8, g9⟩) (f0 _)
      · exact hst2
      · rw [hm, edA, edB]; simp only [mergeS]
    · have h2 : ¬ (k : Int) < (b.length : Int) := by omega
      have edB : b.drop k = [] := List.drop_eq_nil_of_le (by omega)
      have em : mergeS L R B a b s = t := by rw [hm, edA, edB]; simp only [mergeS]
      simp only [h2, go_sem]
      rw [em]
      refine ⟨by simp only [aresultI, aresI, aggI, go_sem], by simp, rfl⟩
end Go.Proofs.Ytldonmombfpleaa
