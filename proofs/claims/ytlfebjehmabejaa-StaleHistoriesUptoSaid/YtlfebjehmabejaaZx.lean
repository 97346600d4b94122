/- Chapter 06: the order of pairs; the closures of Apply, Union and Diff; merge, whatever its closures do. -/
import Derived.Test.YtlfebjehmabejaaMfm
import Derived.Lib.Bytealg
import Derived.Handy
import Derived.BigQuiet
import Derived.WalkKit
import Derived.WalkSpells
import Derived.Test.YtlfebjehmabejaaAbP
set_option linter.unusedSimpArgs false
set_option linter.unusedVariables false

set_option linter.unusedSimpArgs false
set_option linter.unusedVariables false
namespace Go.Proofs.Ytlfebjehmabejaa
open Go Ab
set_option maxRecDepth 100000
attribute [local irreducible] awp aops aop asoft aeff aloop acall acallI acallT
attribute [local go_sem] Vl.row Rg.row Pr.row

set_option maxRecDepth 100000 in
theorem cmpStr_any (a b : ByteArray) (w : World) : Calls Try.prog 73 #[.string a, .string b] w fun e w' => e = .returned (.int .i64 (Lib.compareBytes a.data.toList b.data.toList)) ∧ w' = w := by
  go_enter Try.func73, Try.ntmps73
  go_wp2
  rw [run_callFunc_extern Try.func76 (by kernel_rfl) (by kernel_rfl) (by kernel_rfl) (e := Extern.BytealgCompare.compare) (by kernel_rfl), Lib.run_compareString]
  simp only [Result.andThen]
  rw [Oper.upon_value]
  go_wp2
  go_ret
  exact ⟨rfl, rfl⟩
theorem cmpStr_den (a b : ByteArray) : PDen Try.prog 73 [.a (.str a), .a (.str b)] (.a (.int .i64 (Lib.compareBytes a.data.toList b.data.toList))) := by
  intro S w vs himm hrep
  obtain ⟨hl, hr⟩ := hrep
  match vs, hl with
  | [x, y], _ =>
    have hx := hr 0 _ x rfl rfl
    have hy := hr 1 _ y rfl rfl
    have ex : x = .string a := by cases hx with | a h => cases h; rfl
    have ey : y = .string b := by cases hy with | a h => cases h; rfl
    subst ex; subst ey
    refine (cmpStr_any a b w).mono ?_
    rintro e w' ⟨rfl, rfl⟩
    exact ⟨_, S, rfl, fun _ _ h => h, fun _ _ h => .inl h, himm, Go.RowKit.Below.refl _ _, .a (.int _ _)⟩
/-- What orders two keys. -/
def cmpK (a b : ByteArray) : Int := Lib.compareBytes a.data.toList b.data.toList
theorem scmp_den (a b : ByteArray) : PDen Try.prog 61 [.a (.str a), .a (.str b)] (.a (.int .i64 (cmpK a b))) := by
  refine den_of_body k_strings_Compare ⟨rfl, Nat.le_of_ble_eq_true rfl, thaw_intro ?_⟩
  unfold c_strings_Compare
  simp only [go_sem]
  refine t_call_intro (cmpStr_den a b) ?_
  simp only [go_sem]
  simp only [aresult, ares, go_sem]
  rfl
theorem order_den (p q : Pr) : PDen Try.prog 40 [.agg p.row, .agg q.row] (.a (.int .i64 (cmpK p.key q.key))) := by
  refine den_of_body k_state_order ⟨rfl, Nat.le_of_ble_eq_true rfl, thaw_intro ?_⟩
  unfold c_state_order
  simp only [go_sem]
  refine t_call_intro (scmp_den p.key q.key) ?_
  simp only [go_sem]
  simp only [aresult, ares, go_sem]

/-! The list that grows: nil at first, then a row of the call's own. -/
/-- What the variable holds, and the row (in place n). -/
def outV (n : Nat) : Option (List Pr) → AV
  | none => .a .nils
  | some _ => .own n
def outO : Option (List Pr) → List OwnD
  | none => []
  | some l => [⟨58, 4, l.map Pr.row, false⟩]
def outL : Option (List Pr) → List Pr
  | none => []
  | some l => l
def add (o : Option (List Pr)) (p : Pr) : Option (List Pr) := some (outL o ++ [p])
theorem gate48 (n : Nat) (h : (n + 1) * 48 ≤ 140737488351232) : (n + 1 + (n + 1) / 4 + 192) * 48 ≤ 281474976710656 ∧ n ≤ 9223372036854775806 := by
  have := Nat.div_le_self (n + 1) 4
  omega
/-- Apply's memory: the list, the two closures. -/
def applyH (o : Option (List Pr)) : List (List AV) := [[outV 0 o], [.clo 36 [.loc 0 0]], [.clo 37 [.loc 1 0]]]
end Go.Proofs.Ytlfebjehmabejaa

/- Chapter 06: merge, whatever its closures do to the memory of the caller. -/
set_option linter.unusedSimpArgs false
set_option linter.unusedVariables false
namespace Go.Proofs.Ytlfebjehmabejaa
open Go Ab
set_option maxRecDepth 100000
attribute [local irreducible] awp aops aop asoft aeff aloop acall acallI acallT
attribute [local go_sem] Vl.row Rg.row Pr.row

/-- What merge makes of two lists. -/
def mergeS {σ : Type} (L R : Pr → σ → σ) (B : Pr → Pr → σ → σ) : List Pr → List Pr → σ → σ
  | [], [], s => s
  | x :: xs, [], s => mergeS L R B xs [] (L x s)
  | [], y :: ys, s => mergeS L R B [] ys (R y s)
  | x :: xs, y :: ys, s => if cmpK x.key y.key < 0 then mergeS L R B xs (y :: ys) (L x s) else if cmpK x.key y.key > 0 then mergeS L R B (x :: xs) ys (R y s) else mergeS L R B xs ys (B x y s)
  termination_by l m => l.length + m.length
/-- What is asked of the closures. -/
structure Steps {σ : Type} (Hs : σ → List (List AV)) (Os : σ → List OwnD) (L R : Pr → σ → σ) (B : Pr → Pr → σ → σ) (fl fr fb : FuncId) (cl cr cb : List AV) (G : Nat → σ → Prop) : Prop where
  len : ∀ s s', (Hs s).length = (Hs s').length
  bH : ∀ s, (Hs s).all (·.all (Ab.boundV (Hs s).length (Os s).length)) = true
  bl : ∀ s, Ab.boundV (Hs s).length (Os s).length (.clo fl cl) = true
  br : ∀ s, Ab.boundV (Hs s).length (Os s).length (.clo fr cr) = true
  bb : ∀ s, Ab.boundV (Hs s).length (Os s).length (.clo fb cb) = true
  ll : locs cl = true
  lr : locs cr = true
  lb : locs cb = true
  dl : bodied Try.prog fl = true
  dr : bodied Try.prog fr = true
  db : bodied Try.prog fb = true
  sl : ∀ n x s, G (n + 1) s → IDen Try.prog fl ([.agg (Pr.row x)] ++ cl) (Hs s) (Os s) (.tup []) (Hs (L x s)) (Os (L x s)) false ∧ G n (L x s)
  sr : ∀ n x s, G (n + 1) s → IDen Try.prog fr ([.agg (Pr.row x)] ++ cr) (Hs s) (Os s) (.tup []) (Hs (R x s)) (Os (R x s)) false ∧ G n (R x s)
  sb : ∀ n x y s, G (n + 1) s → IDen Try.prog fb ([.agg (Pr.row x), .agg (Pr.row y)] ++ cb) (Hs s) (Os s) (.tup []) (Hs (B x y s)) (Os (B x y s)) false ∧ G n (B x y s)
  down : ∀ n s, G (n + 1) s → G n s
theorem b_order : bodied Try.prog 40 = true := by kernel_rfl

set_option maxRecDepth 100000 in
set_option maxHeartbeats 4000000 in
theorem merge_iden {σ : Type} {Hs : σ → List (List AV)} {Os : σ → List OwnD} {L R : Pr → σ → σ} {B : Pr → Pr → σ → σ} {fl fr fb : FuncId} {cl cr cb : List AV} {G : Nat → σ → Prop} (S : Steps Hs Os L R B fl fr fb cl cr cb G)
    (a b : List Pr) (ha : a.length * 40 ≤ 140737488351232) (hb : b.length * 40 ≤ 140737488351232) (s : σ) (hG : G (a.length + b.length) s) :
    IDen Try.prog 39 [.a (.slice 4 (a.map Pr.row)), .a (.slice 4 (b.map Pr.row)), .clo 40 [], .clo fl cl, .clo fr cr, .clo fb cb] (Hs s) (Os s) (.tup [])
      (Hs (mergeS L R B a b s)) (Os (mergeS L R B a b s)) false := by
  refine iden_of_body k_state_merge_api_Pair ⟨rfl, Nat.le_of_ble_eq_true rfl, ⟨Nat.le_of_eq (S.len _ _), S.bH _, rfl⟩, thaw_intro ?_⟩
  unfold c_state_merge_api_Pair
  have f1 := S.ll
  have f2 := S.lr
  have f3 := S.lb
  have f4 := S.dl
  have f5 := S.dr
  have f6 := S.db
  have f7 := S.bl
  have f8 := S.br
  have f9 := S.bb
  have f0 := S.bH
  simp only [go_sem]
  refine t_loopO_intro (α := Nat × Nat × σ) [] (fun x => x.1 ≤ a.length ∧ x.2.1 ≤ b.length ∧ G (a.length - x.1 + (b.length - x.2.1)) x.2.2 ∧ mergeS L R B a b s = mergeS L R B (a.drop x.1) (b.drop x.2.1) x.2.2) (fun x => a.length - x.1 + (b.length - x.2.1)) (0, 0, s) [12, 13, 14, 15, 16, 17, 18, 19, 20, 21, 22, 23, 24, 25, 26, 27, 28, 29, 30, 31, 32, 33, 34, 35, 36, 37, 38, 39, 40, 41, 42, 43, 44, 45, 46, 47, 48, 49, 50, 51, 52, 53, 54, 55, 56, 57, 58, 59, 60, 61, 62, 63, 64, 65, 66, 67, 68, 69, 70, 71, 72, 73, 74, 75, 76, 77, 78, 79, 80] (fun x => [(12, .a (.int .i64 x.1)), (13, .a (.int .i64 x.2.1))]) (fun x => Hs x.2.2) (fun x => Os x.2.2) ⟨by simp, by simp, by simpa using hG, by simp⟩ (by simp) (by simp) (by simp) (by simp) (fun x => Nat.le_of_eq (S.len _ _)) (fun x => by have g7 := f7 x.2.2; have g8 := f8 x.2.2; have g9 := f9 x.2.2; simp at g7 g8 g9 ⊢; exact ⟨g7, g8, g9⟩) (fun x => f0 _) ?_
  rintro ⟨i, k, t⟩ ⟨hi, hk, hg, hm⟩ st_ hst
  simp only at hi hk hg hm
  simp only [go_sem] at hst
  subst hst
  have len : ∀ n m : Nat, n ≤ m → m * 40 ≤ 140737488351232 → IntKind.i64.wrap ((n : Int) + 1) = ((n + 1 : Nat) : Int) := fun n m h1 h2 => by rw [IntKind.wrap_i64]; omega
  have fin : ∀ (y : Nat × Nat × σ), True := fun _ => trivial
  by_cases hia : i < a.length
  · have h1 : (i : Int) < (a.length : Int) := by omega
    have e1 : ((i : Int) == (a.length : Int)) = false := by simp; omega
    have ew1 := len i a.length hi ha
    have ex := getD_map Pr.row a i hia
    have er : a[i].row = [.str a[i].key, .int .i64 a[i].v.kind, .int .i64 a[i].v.n, .str a[i].v.s] := rfl
    have edA : a.drop i = a[i] :: a.drop (i + 1) := List.drop_eq_getElem_cons hia
    simp only [h1, e1, go_sem]
    by_cases hkb : k < b.length
    · have h2 : (k : Int) < (b.length : Int) := by omega
      have e2 : ((k : Int) == (b.length : Int)) = false := by simp; omega
      have ew2 := len k b.length hk hb
      have ey := getD_map Pr.row b k hkb
      have er2 : b[k].row = [.str b[k].key, .int .i64 b[k].v.kind, .int .i64 b[k].v.n, .str b[k].v.s] := rfl
      have edB : b.drop k = b[k] :: b.drop (k + 1) := List.drop_eq_getElem_cons hkb
      simp only [h1, h2, e1, e2, ex, er, ey, er2, b_order, go_sem]
      refine t_call_intro (order_den a[i] b[k]) ?_
      simp only [go_sem]
      by_cases hc : cmpK a[i].key b[k].key < 0
      · simp only [hc, go_sem]
        have hst1 : G (a.length - (i + 1) + (b.length - k) + 1) t := by rw [show a.length - (i + 1) + (b.length - k) + 1 = a.length - i + (b.length - k) by omega]; exact hg
        have hst2 := (S.sl _ a[i] t hst1).2
        simp only [h1, ex, er, f1, f2, f3, f4, go_sem]
        refine t_callI_intro (S.sl _ a[i] t hst1).1 ?_
        simp only [f1, f2, f3, ew1, go_sem]
        refine t_roundO (q := (i, k, t)) (i + 1, k, L a[i] t) ⟨hia, hk, ?_, ?_⟩ (by simp only; omega) (by simp) (by simp) (by simp) (by have g7 := f7 (L a[i] t); have g8 := f8 (L a[i] t); have g9 := f9 (L a[i] t); simp at g7 g8 g9 ⊢; exact ⟨g7, g8, g9⟩) (f0 _)
        · exact hst2
        · rw [hm, edA, edB]; simp only [mergeS]; rw [if_pos hc]
      · by_cases hc2 : cmpK a[i].key b[k].key > 0
        · have hc3 : (0 : Int) < cmpK a[i].key b[k].key := hc2
          simp only [hc, hc3, go_sem]
          have hst1 : G (a.length - i + (b.length - (k + 1)) + 1) t := by rw [show a.length - i + (b.length - (k + 1)) + 1 = a.length - i + (b.length - k) by omega]; exact hg
          have hst2 := (S.sr _ b[k] t hst1).2
          simp only [h2, ey, er2, f1, f2, f3, f5, go_sem]
          refine t_callI_intro (S.sr _ b[k] t hst1).1 ?_
          simp only [f1, f2, f3, ew2, go_sem]
          refine t_roundO (q := (i, k, t)) (i, k + 1, R b[k] t) ⟨hi, hkb, ?_, ?_⟩ (by simp only; omega) (by simp) (by simp) (by simp) (by have g7 := f7 (R b[k] t); have g8 := f8 (R b[k] t); have g9 := f9 (R b[k] t); simp at g7 g8 g9 ⊢; exact ⟨g7, g8, g9⟩) (f0 _)
          · exact hst2
          · rw [hm, edA, edB]; simp only [mergeS]; rw [if_neg hc, if_pos hc2]
        · have hc3 : ¬ (0 : Int) < cmpK a[i].key b[k].key := hc2
          simp only [hc, hc3, go_sem]
          have hst1 : G (a.length - (i + 1) + (b.length - (k + 1)) + 1) t := S.down _ _ (by rw [show a.length - (i + 1) + (b.length - (k + 1)) + 1 + 1 = a.length - i + (b.length - k) by omega]; exact hg)
          have hst2 := (S.sb _ a[i] b[k] t hst1).2
          simp only [h1, h2, ex, er, ey, er2, f1, f2, f3, f6, go_sem]
          refine t_callI_intro (S.sb _ a[i] b[k] t hst1).1 ?_
          simp only [f1, f2, f3, ew1, ew2, go_sem]
          refine t_roundO (q := (i, k, t)) (i + 1, k + 1, B a[i] b[k] t) ⟨hia, hkb, ?_, ?_⟩ (by simp only; omega) (by simp) (by simp) (by simp) (by have g7 := f7 (B a[i] b[k] t); have g8 := f8 (B a[i] b[k] t); have g9 := f9 (B a[i] b[k] t); simp at g7 g8 g9 ⊢; exact ⟨g7, g8, g9⟩) (f0 _)
          · exact hst2
          · rw [hm, edA, edB]; simp only [mergeS]; rw [if_neg hc, if_neg hc2]
    · have hke : k = b.length := by omega
      have edB : b.drop k = [] := List.drop_eq_nil_of_le (by omega)
      have h2 : ¬ (k : Int) < (b.length : Int) := by omega
      have e2 : ((k : Int) == (b.length : Int)) = true := by simp; omega
      have n1 : (-1 : Int) < 0 := by decide
      simp only [h1, h2, e1, e2, n1, go_sem]
      have hst1 : G (a.length - (i + 1) + (b.length - k) + 1) t := by rw [show a.length - (i + 1) + (b.length - k) + 1 = a.length - i + (b.length - k) by omega]; exact hg
      have hst2 := (S.sl _ a[i] t hst1).2
      simp only [h1, ex, er, f1, f2, f3, f4, go_sem]
      refine t_callI_intro (S.sl _ a[i] t hst1).1 ?_
      simp only [f1, f2, f3, ew1, go_sem]
      refine t_roundO (q := (i, k, t)) (i + 1, k, L a[i] t) ⟨hia, hk, ?_, ?_⟩ (by simp only; omega) (by simp) (by simp) (by simp) (by have g7 := f7 (L a[i] t); have g8 := f8 (L a[i] t); have g9 := f9 (L a[i] t); simp at g7 g8 g9 ⊢; exact ⟨g7, g8, g9⟩) (f0 _)
      · exact hst2
      · rw [hm, edA, edB]; simp only [mergeS]
  · have hie : i = a.length := by omega
    have edA : a.drop i = [] := List.drop_eq_nil_of_le (by omega)
    have h1 : ¬ (i : Int) < (a.length : Int) := by omega
    have e1 : ((i : Int) == (a.length : Int)) = true := by simp; omega
    simp only [h1, go_sem]
    by_cases hkb : k < b.length
    · have h2 : (k : Int) < (b.length : Int) := by omega
      have e2 : ((k : Int) == (b.length : Int)) = false := by simp; omega
      have ew2 := len k b.length hk hb
      have ey := getD_map Pr.row b k hkb
      have er2 : b[k].row = [.str b[k].key, .int .i64 b[k].v.kind, .int .i64 b[k].v.n, .str b[k].v.s] := rfl
      have edB : b.drop k = b[k] :: b.drop (k + 1) := List.drop_eq_getElem_cons hkb
      have n1 : ¬ (1 : Int) < 0 := by decide
      have n2 : (0 : Int) < 1 := by decide
      simp only [h1, h2, e1, e2, n1, n2, go_sem]
      have hst1 : G (a.length - i + (b.length - (k + 1)) + 1) t := by rw [show a.length - i + (b.length - (k + 1)) + 1 = a.length - i + (b.length - k) by omega]; exact hg
      have hst2 := (S.sr _ b[k] t hst1).2
      simp only [h2, ey, er2, f1, f2, f3, f5, go_sem]
      refine t_callI_intro (S.sr _ b[k] t hst1).1 ?_
      simp only [f1, f2, f3, ew2, go_sem]
      refine t_roundO (q := (i, k, t)) (i, k + 1, R b[k] t) ⟨hi, hkb, ?_, ?_⟩ (by simp only; omega) (by simp) (by simp) (by simp) (by have g7 := f7 (R b[k] t); have g8 := f8 (R b[k] t); have g9 := f9 (R b[k] t); simp at g7 g8 g9 ⊢; exact ⟨g7, g8, g9⟩) (f0 _)
      · exact hst2
      · rw [hm, edA, edB]; simp only [mergeS]
    · have h2 : ¬ (k : Int) < (b.length : Int) := by omega
      have edB : b.drop k = [] := List.drop_eq_nil_of_le (by omega)
      have em : mergeS L R B a b s = t := by rw [hm, edA, edB]; simp only [mergeS]
      simp only [h2, go_sem]
      rw [em]
      refine ⟨by simp only [aresultI, aresI, aggI, go_sem], by simp, rfl⟩
end Go.Proofs.Ytlfebjehmabejaa

/- Chapter 06: the closures of Apply, Union and Diff. -/
set_option linter.unusedSimpArgs false
set_option linter.unusedVariables false
namespace Go.Proofs.Ytlfebjehmabejaa
open Go Ab
set_option maxRecDepth 100000
attribute [local irreducible] awp aops aop asoft aeff aloop acall acallI acallT
attribute [local go_sem] Vl.row Rg.row Pr.row

def boxP (q : Pr) : List AV := [.a (.str q.key), .a (.int .i64 q.v.kind), .a (.int .i64 q.v.n), .a (.str q.v.s)]
theorem b_a1 : bodied Try.prog 36 = true := by kernel_rfl
theorem b_a2 : bodied Try.prog 37 = true := by kernel_rfl
theorem b_a3 : bodied Try.prog 41 = true := by kernel_rfl
theorem bOut (m : Nat) (o : Option (List Pr)) : Ab.boundV m (outO o).length (outV 0 o) = true := by cases o <;> simp [outV, outO, boundS]
def unionH (x : Option (List Pr) × Bool) : List (List AV) := [[outV 0 x.1], [.a (.bool x.2)]]
set_option maxRecDepth 100000 in
set_option maxHeartbeats 1000000 in
theorem keep_a0 (o : Option (List Pr)) (p : Pr) (hlen : ((outL o).length + 1) * 48 ≤ 140737488351232) :
    IDen Try.prog 36 [.agg p.row, .loc 0 0] (applyH o ++ []) (outO o) (.tup []) (applyH (add o p) ++ []) (outO (add o p)) false := by
  cases o with
  | none =>
    unfold applyH outO outV add outL
    refine iden_of_body k_state_Apply_1 ⟨rfl, Nat.le_of_ble_eq_true rfl, ⟨by simp, by simp [boundS, Ab.boundV], rfl⟩, thaw_intro ?_⟩
    unfold c_state_Apply_1
    simp only [go_sem]
    refine t_gate_intro (by decide) ?_
    simp only [go_sem]
    first | (simp only [aresultI, aresI, aggI, go_sem]; done) | (refine ⟨by simp only [aresultI, aresI, aggI, go_sem], by simp [Pr.row]⟩) | (refine ⟨by simp only [aresultI, aresI, aggI, go_sem], by simp, by simp⟩)
  | some l =>
    have g := gate48 l.length hlen
    unfold applyH outO outV add outL
    refine iden_of_body k_state_Apply_1 ⟨rfl, Nat.le_of_ble_eq_true rfl, ⟨by simp, by simp [boundS, Ab.boundV], rfl⟩, thaw_intro ?_⟩
    unfold c_state_Apply_1
    simp only [go_sem]
    refine t_gate_intro g ?_
    simp only [go_sem]
    first | (simp only [aresultI, aresI, aggI, go_sem]; done) | (refine ⟨by simp only [aresultI, aresI, aggI, go_sem], by simp [Pr.row]⟩) | (refine ⟨by simp only [aresultI, aresI, aggI, go_sem], by simp, by simp⟩)

set_option maxRecDepth 100000 in
set_option maxHeartbeats 1000000 in
theorem keep_a1 (o : Option (List Pr)) (p : Pr) (q1 : Pr) (hlen : ((outL o).length + 1) * 48 ≤ 140737488351232) :
    IDen Try.prog 36 [.agg p.row, .loc 0 0] (applyH o ++ [boxP q1]) (outO o) (.tup []) (applyH (add o p) ++ [boxP q1]) (outO (add o p)) false := by
  cases o with
  | none =>
    unfold applyH outO outV add outL boxP
    refine iden_of_body k_state_Apply_1 ⟨rfl, Nat.le_of_ble_eq_true rfl, ⟨by simp, by simp [boundS, Ab.boundV], rfl⟩, thaw_intro ?_⟩
    unfold c_state_Apply_1
    simp only [go_sem]
    refine t_gate_intro (by decide) ?_
    simp only [go_sem]
    first | (simp only [aresultI, aresI, aggI, go_sem]; done) | (refine ⟨by simp only [aresultI, aresI, aggI, go_sem], by simp [Pr.row]⟩) | (refine ⟨by simp only [aresultI, aresI, aggI, go_sem], by simp, by simp⟩)
  | some l =>
    have g := gate48 l.length hlen
    unfold applyH outO outV add outL boxP
    refine iden_of_body k_state_Apply_1 ⟨rfl, Nat.le_of_ble_eq_true rfl, ⟨by simp, by simp [boundS, Ab.boundV], rfl⟩, thaw_intro ?_⟩
    unfold c_state_Apply_1
    simp only [go_sem]
    refine t_gate_intro g ?_
    simp only [go_sem]
    first | (simp only [aresultI, aresI, aggI, go_sem]; done) | (refine ⟨by simp only [aresultI, aresI, aggI, go_sem], by simp [Pr.row]⟩) | (refine ⟨by simp only [aresultI, aresI, aggI, go_sem], by simp, by simp⟩)

set_option maxRecDepth 100000 in
set_option maxHeartbeats 1000000 in
theorem keep_a3 (o : Option (List Pr)) (p : Pr) (q1 : Pr) (q2 : Pr) (q3 : Pr) (hlen : ((outL o).length + 1) * 48 ≤ 140737488351232) :
    IDen Try.prog 36 [.agg p.row, .loc 0 0] (applyH o ++ [boxP q1, boxP q2, boxP q3]) (outO o) (.tup []) (applyH (add o p) ++ [boxP q1, boxP q2, boxP q3]) (outO (add o p)) false := by
  cases o with
  | none =>
    unfold applyH outO outV add outL boxP
    refine iden_of_body k_state_Apply_1 ⟨rfl, Nat.le_of_ble_eq_true rfl, ⟨by simp, by simp [boundS, Ab.boundV], rfl⟩, thaw_intro ?_⟩
    unfold c_state_Apply_1
    simp only [go_sem]
    refine t_gate_intro (by decide) ?_
    simp only [go_sem]
    first | (simp only [aresultI, aresI, aggI, go_sem]; done) | (refine ⟨by simp only [aresultI, aresI, aggI, go_sem], by simp [Pr.row]⟩) | (refine ⟨by simp only [aresultI, aresI, aggI, go_sem], by simp, by simp⟩)
  | some l =>
    have g := gate48 l.length hlen
    unfold applyH outO outV add outL boxP
    refine iden_of_body k_state_Apply_1 ⟨rfl, Nat.le_of_ble_eq_true rfl, ⟨by simp, by simp [boundS, Ab.boundV], rfl⟩, thaw_intro ?_⟩
    unfold c_state_Apply_1
    simp only [go_sem]
    refine t_gate_intro g ?_
    simp only [go_sem]
    first | (simp only [aresultI, aresI, aggI, go_sem]; done) | (refine ⟨by simp only [aresultI, aresI, aggI, go_sem], by simp [Pr.row]⟩) | (refine ⟨by simp only [aresultI, aresI, aggI, go_sem], by simp, by simp⟩)

def addW (o : Option (List Pr)) (p : Pr) : Option (List Pr) := if p.v.kind = 0 then o else add o p

set_option maxRecDepth 100000 in
set_option maxHeartbeats 1000000 in
theorem write0 (o : Option (List Pr)) (p : Pr) (hlen : ((outL o).length + 1) * 48 ≤ 140737488351232) :
    IDen Try.prog 37 [.agg p.row, .loc 1 0] (applyH o ++ []) (outO o) (.tup []) (applyH (addW o p) ++ []) (outO (addW o p)) false := by
  by_cases hk : p.v.kind = 0
  · have hb : (p.v.kind == 0) = true := by simp [hk]
    have e : addW o p = o := by simp [addW, hk]
    rw [e]
    unfold applyH
    refine iden_of_body k_state_Apply_2 ⟨rfl, Nat.le_of_ble_eq_true rfl, ⟨by simp, by have hbo := bOut 3 (o); simp at hbo; simp [boundS]; exact hbo, rfl⟩, thaw_intro ?_⟩
    unfold c_state_Apply_2
    simp only [go_sem]
    refine t_call_intro (absent_den p) ?_
    simp only [hb, go_sem]
    first | (simp only [aresultI, aresI, aggI, go_sem]; done) | (refine ⟨by simp only [aresultI, aresI, aggI, go_sem], by simp [Pr.row]⟩) | (refine ⟨by simp only [aresultI, aresI, aggI, go_sem], by simp, by simp⟩)
  · have hb : (p.v.kind == 0) = false := by simp [hk]
    have e : addW o p = add o p := by simp [addW, hk]
    rw [e]
    unfold applyH
    refine iden_of_body k_state_Apply_2 ⟨rfl, Nat.le_of_ble_eq_true rfl, ⟨by simp, by have hbo := bOut 3 (add o p); simp at hbo; simp [boundS]; exact hbo, rfl⟩, thaw_intro ?_⟩
    unfold c_state_Apply_2
    simp only [go_sem]
    refine t_call_intro (absent_den p) ?_
    simp only [hb, b_a1, go_sem]
    refine t_callI_intro (keep_a1 o p p hlen) ?_
    unfold applyH boxP
    simp only [go_sem]
    first | (simp only [aresultI, aresI, aggI, go_sem]; done) | (refine ⟨by simp only [aresultI, aresI, aggI, go_sem], by simp [Pr.row]⟩) | (refine ⟨by simp only [aresultI, aresI, aggI, go_sem], by simp, by simp⟩)

set_option maxRecDepth 100000 in
set_option maxHeartbeats 1000000 in
theorem write2 (o : Option (List Pr)) (p : Pr) (q1 : Pr) (q2 : Pr) (hlen : ((outL o).length + 1) * 48 ≤ 140737488351232) :
    IDen Try.prog 37 [.agg p.row, .loc 1 0] (applyH o ++ [boxP q1, boxP q2]) (outO o) (.tup []) (applyH (addW o p) ++ [boxP q1, boxP q2]) (outO (addW o p)) false := by
  by_cases hk : p.v.kind = 0
  · have hb : (p.v.kind == 0) = true := by simp [hk]
    have e : addW o p = o := by simp [addW, hk]
    rw [e]
    unfold applyH boxP
    refine iden_of_body k_state_Apply_2 ⟨rfl, Nat.le_of_ble_eq_true rfl, ⟨by simp, by have hbo := bOut 5 (o); simp at hbo; simp [boundS]; exact hbo, rfl⟩, thaw_intro ?_⟩
    unfold c_state_Apply_2
    simp only [go_sem]
    refine t_call_intro (absent_den p) ?_
    simp only [hb, go_sem]
    first | (simp only [aresultI, aresI, aggI, go_sem]; done) | (refine ⟨by simp only [aresultI, aresI, aggI, go_sem], by simp [Pr.row]⟩) | (refine ⟨by simp only [aresultI, aresI, aggI, go_sem], by simp, by simp⟩)
  · have hb : (p.v.kind == 0) = false := by simp [hk]
    have e : addW o p = add o p := by simp [addW, hk]
    rw [e]
    unfold applyH boxP
    refine iden_of_body k_state_Apply_2 ⟨rfl, Nat.le_of_ble_eq_true rfl, ⟨by simp, by have hbo := bOut 5 (add o p); simp at hbo; simp [boundS]; exact hbo, rfl⟩, thaw_intro ?_⟩
    unfold c_state_Apply_2
    simp only [go_sem]
    refine t_call_intro (absent_den p) ?_
    simp only [hb, b_a1, go_sem]
    refine t_callI_intro (keep_a3 o p q1 q2 p hlen) ?_
    unfold applyH boxP
    simp only [go_sem]
    first | (simp only [aresultI, aresI, aggI, go_sem]; done) | (refine ⟨by simp only [aresultI, aresI, aggI, go_sem], by simp [Pr.row]⟩) | (refine ⟨by simp only [aresultI, aresI, aggI, go_sem], by simp, by simp⟩)

set_option maxRecDepth 100000 in
set_option maxHeartbeats 1000000 in
theorem both_a (o : Option (List Pr)) (x p : Pr) (hlen : ((outL o).length + 1) * 48 ≤ 140737488351232) :
    IDen Try.prog 41 [.agg x.row, .agg p.row, .loc 2 0] (applyH o) (outO o) (.tup []) (applyH (addW o p)) (outO (addW o p)) false := by
  unfold applyH
  refine iden_of_body k_state_Apply_3 ⟨rfl, Nat.le_of_ble_eq_true rfl, ⟨by simp, by have hbo := bOut 3 (addW o p); simp at hbo; simp [boundS]; exact hbo, rfl⟩, thaw_intro ?_⟩
  unfold c_state_Apply_3
  simp only [b_a2, go_sem]
  refine t_callI_intro (write2 o p x p hlen) ?_
  unfold applyH boxP
  simp only [go_sem]
  first | (simp only [aresultI, aresI, aggI, go_sem]; done) | (refine ⟨by simp only [aresultI, aresI, aggI, go_sem], by simp [Pr.row]⟩) | (refine ⟨by simp only [aresultI, aresI, aggI, go_sem], by simp, by simp⟩)

def nilP (p : Pr) : Pr := ⟨p.key, ⟨0, 0, ⟨#[]⟩⟩⟩

def addD (o : Option (List Pr)) (x y : Pr) : Option (List Pr) := if vlEq x.v y.v = true then o else add o y

end Go.Proofs.Ytlfebjehmabejaa

/- state.Apply, given what merge makes (of the text of chapter 06, Apply alone). -/
set_option linter.unusedSimpArgs false
set_option linter.unusedVariables false
namespace Go.Proofs.Ytlfebjehmabejaa
open Go Ab
set_option maxRecDepth 100000
attribute [local irreducible] awp aops aop asoft aeff aloop acall acallI acallT
attribute [local go_sem] Vl.row Rg.row Pr.row

def roomG (n : Nat) (o : Option (List Pr)) : Prop := ((outL o).length + n) * 48 ≤ 140737488351232
theorem room_add {n : Nat} {o : Option (List Pr)} (p : Pr) (h : roomG (n + 1) o) : roomG n (add o p) := by
  unfold roomG at *
  have e : (outL (add o p)).length = (outL o).length + 1 := by show (outL o ++ [p]).length = _; simp
  rw [e]; omega
theorem room_down {n : Nat} {o : Option (List Pr)} (h : roomG (n + 1) o) : roomG n o := by
  unfold roomG at *; omega
theorem room_one {n : Nat} {o : Option (List Pr)} (h : roomG (n + 1) o) : ((outL o).length + 1) * 48 ≤ 140737488351232 := by
  unfold roomG at *; omega
theorem room_addW {n : Nat} {o : Option (List Pr)} (p : Pr) (h : roomG (n + 1) o) : roomG n (addW o p) := by
  unfold addW; split
  · exact room_down h
  · exact room_add p h
def applyL (x : Pr) (o : Option (List Pr)) : Option (List Pr) := add o x
def applyR (y : Pr) (o : Option (List Pr)) : Option (List Pr) := addW o y
def applyB (_ y : Pr) (o : Option (List Pr)) : Option (List Pr) := addW o y
theorem applySteps : Steps applyH outO applyL applyR applyB 36 37 41 [.loc 0 0] [.loc 1 0] [.loc 2 0] roomG where
  len := fun s s' => rfl
  bH := fun s => by have hbo := bOut 3 s; simp at hbo; simp [applyH, boundS]; exact hbo
  bl := fun s => by simp [applyH, boundS]
  br := fun s => by simp [applyH, boundS]
  bb := fun s => by simp [applyH, boundS]
  ll := rfl
  lr := rfl
  lb := rfl
  dl := b_a1
  dr := b_a2
  db := b_a3
  sl := fun n x s h => ⟨keep_a0 s x (room_one h), room_add x h⟩
  sr := fun n x s h => ⟨write0 s x (room_one h), room_addW x h⟩
  sb := fun n x y s h => ⟨both_a s x y (room_one h), room_addW y h⟩
  down := fun n s h => room_down h
def applyO (l ws : List Pr) : Option (List Pr) := mergeS applyL applyR applyB l ws none
def applyA (l ws : List Pr) : AV := if (stateV l && writesGo none ws) = true then .tup [.a (.slice 4 ((outL (applyO l ws)).map Pr.row)), .a (.int .i64 0)] else .tup [.a .nils, .a (.int .i64 1)]
theorem nilTup (e : Int) : VLe (.tup [.a .nils, .a (.int .i64 e)]) (.tup [.a (.slice 4 []), .a (.int .i64 e)]) := VLe.tup ⟨VLe.a (RLe.nils 4), VLe.refl _, trivial⟩

set_option maxRecDepth 100000 in
set_option maxHeartbeats 2000000 in
theorem sapply_den (l ws : List Pr) (hl : l.length * 40 ≤ 140737488351232) (hw : ws.length * 40 ≤ 140737488351232) (hsum : (l.length + ws.length) * 48 ≤ 140737488351232) (fl : ∀ p ∈ l, p.fit) (fw : ∀ p ∈ ws, p.fit) :
    PDen Try.prog 13 [.a (.slice 4 (l.map Pr.row)), .a (.slice 4 (ws.map Pr.row))] (applyA l ws) := by
  have hS := stateV_den l hl fl
  have hW := sorted_den ws hw fw
  by_cases h0 : stateV l = true
  · rw [h0] at hS
    by_cases h1 : writesGo none ws = true
    · rw [h1] at hW
      have hM := merge_iden applySteps l ws hl hw none (by unfold roomG; simp only [outL, List.length_nil]; omega)
      rw [show applyA l ws = .tup [.a (.slice 4 ((outL (applyO l ws)).map Pr.row)), .a (.int .i64 0)] by simp [applyA, h0, h1]]
      change IDen _ _ _ _ _ _ (applyH (applyO l ws)) (outO (applyO l ws)) _ at hM
      cases ho : applyO l ws with
      | none =>
        rw [ho] at hM
        refine PDen.le (r := .tup [.a .nils, .a (.int .i64 0)]) ?_ (nilTup 0)
        refine den_of_body k_state_Apply ⟨rfl, Nat.le_of_ble_eq_true rfl, thaw_intro ?_⟩
        unfold c_state_Apply
        simp only [go_sem]
        refine t_call_intro (hS) ?_
        simp only [go_sem]
        refine t_call_intro (hW) ?_
        simp only [go_sem]
        refine t_callI_intro hM ?_
        unfold applyH outV outO
        simp only [go_sem]
        simp only [aresult, ares, go_sem]
      | some m =>
        rw [ho] at hM
        refine den_of_body k_state_Apply ⟨rfl, Nat.le_of_ble_eq_true rfl, thaw_intro ?_⟩
        unfold c_state_Apply
        simp only [go_sem]
        refine t_call_intro (hS) ?_
        simp only [go_sem]
        refine t_call_intro (hW) ?_
        simp only [go_sem]
        refine t_callI_intro hM ?_
        unfold applyH outV outO outL
        simp only [go_sem]
        simp only [aresult, ares, go_sem]
    · rw [show applyA l ws = .tup [.a .nils, .a (.int .i64 1)] by simp [applyA, h1]]
      have h1 : writesGo none ws = false := by simpa using h1
      rw [h1] at hW
      refine den_of_body k_state_Apply ⟨rfl, Nat.le_of_ble_eq_true rfl, thaw_intro ?_⟩
      unfold c_state_Apply
      simp only [go_sem]
      refine t_call_intro (hS) ?_
      simp only [go_sem]
      refine t_call_intro (hW) ?_
      simp only [go_sem]
      simp only [aresult, ares, go_sem]
  · rw [show applyA l ws = .tup [.a .nils, .a (.int .i64 1)] by simp [applyA, h0]]
    have h0 : stateV l = false := by simpa using h0
    rw [h0] at hS
    refine den_of_body k_state_Apply ⟨rfl, Nat.le_of_ble_eq_true rfl, thaw_intro ?_⟩
    unfold c_state_Apply
    simp only [go_sem]
    refine t_call_intro (hS) ?_
    simp only [go_sem]
    simp only [aresult, ares, go_sem]
end Go.Proofs.Ytlfebjehmabejaa

/- Chapter 06: what merge makes of sorted lists. Plain law, but for the names of the program. -/
set_option linter.unusedSimpArgs false
set_option linter.unusedVariables false
namespace Go.Proofs.Ytlfebjehmabejaa
open Go Ab
set_option maxRecDepth 100000

/-! Keys in order -/
def bl (a b : ByteArray) : Prop := Op.bytesLess a.toList b.toList = true
theorem bl.irr {a : ByteArray} (h : bl a a) : False := by unfold bl at h; rw [bl_irrefl] at h; cases h
theorem bl.tr {a b c : ByteArray} (h : bl a b) (k : bl b c) : bl a c := bl_trans _ _ _ h k
theorem bl.as {a b : ByteArray} (h : bl a b) (k : bl b a) : False := (h.tr k).irr
theorem cmp_spec : ∀ a b : List UInt8, (Lib.compareBytes a b < 0 ↔ Op.bytesLess a b = true) ∧ (Lib.compareBytes a b > 0 ↔ Op.bytesLess b a = true)
  | [], [] => by simp [Lib.compareBytes, Op.bytesLess]
  | [], _ :: _ => by simp [Lib.compareBytes, Op.bytesLess]
  | _ :: _, [] => by simp [Lib.compareBytes, Op.bytesLess]
  | x :: a, y :: b => by
    have ih := cmp_spec a b
    unfold Lib.compareBytes Op.bytesLess
    by_cases h : x < y
    · have h2 : ¬ y < x := by rw [UInt8.lt_iff_toNat_lt] at *; omega
      have h3 : ¬ y = x := by intro e; subst e; exact h2 h
      simp [h, h2, h3]
    · by_cases h2 : y < x
      · have h3 : ¬ x = y := by intro e; subst e; exact h h2
        simp [h, h2, h3]
      · have h3 : x = y := by
          apply UInt8.toNat_inj.1
          rw [UInt8.lt_iff_toNat_lt] at h h2; omega
        subst h3
        simp [h, ih.1, ih.2]
theorem cmp_lt (a b : ByteArray) : cmpK a b < 0 ↔ bl a b := by
  unfold cmpK bl
  rw [ByteArray.toList_eq, ByteArray.toList_eq]
  exact (cmp_spec _ _).1
theorem cmp_gt (a b : ByteArray) : cmpK a b > 0 ↔ bl b a := by
  unfold cmpK bl
  rw [ByteArray.toList_eq, ByteArray.toList_eq]
  exact (cmp_spec _ _).2
theorem bl_tot {a b : ByteArray} (h : ¬ bl a b) (k : ¬ bl b a) : a = b := by
  apply ba_ext
  apply Classical.byContradiction
  intro hne
  have := bl_total _ _ hne
  unfold bl at h k
  simp only [Bool.not_eq_true] at h k
  rw [h, k] at this; simp at this

def Srt (l : List Pr) : Prop := l.Pairwise fun a b => bl a.key b.key
def lb (k : ByteArray) (l : List Pr) : Prop := ∀ p ∈ l, bl k p.key
theorem srt_cons {x : Pr} {l : List Pr} : Srt (x :: l) ↔ lb x.key l ∧ Srt l := List.pairwise_cons
theorem lb.tr {a b : ByteArray} {l : List Pr} (h : bl a b) (k : lb b l) : lb a l := fun p hp => h.tr (k p hp)

/-- The pair of a key. -/
def fnd : List Pr → ByteArray → Option Pr
  | [], _ => none
  | x :: xs, k => if x.key = k then some x else fnd xs k
theorem fnd_mem : ∀ {l : List Pr} {k : ByteArray} {p : Pr}, fnd l k = some p → p ∈ l ∧ p.key = k
  | x :: xs, k, p, h => by
    simp only [fnd] at h
    split at h
    · rename_i hx; cases h; exact ⟨by simp, hx⟩
    · obtain ⟨h1, h2⟩ := fnd_mem h; exact ⟨by simp [h1], h2⟩
theorem fnd_lb : ∀ {l : List Pr} {k : ByteArray}, lb k l → fnd l k = none
  | [], _, _ => rfl
  | x :: xs, k, h => by
    simp only [fnd]
    rw [if_neg (fun e => (e ▸ h x (by simp)).irr)]
    exact fnd_lb fun p hp => h p (by simp [hp])
theorem mem_fnd : ∀ {l : List Pr} {p : Pr}, Srt l → p ∈ l → fnd l p.key = some p
  | x :: xs, p, hs, h => by
    rw [srt_cons] at hs
    simp only [fnd]
    rcases List.mem_cons.1 h with rfl | h
    · rw [if_pos rfl]
    · rw [if_neg (fun e => (e ▸ hs.1 p h).irr)]
      exact mem_fnd hs.2 h
theorem fnd_none {l : List Pr} {k : ByteArray} (h : fnd l k = none) : ∀ p ∈ l, p.key ≠ k := by
  induction l with
  | nil => intro p hp; cases hp
  | cons x xs ih =>
    simp only [fnd] at h
    split at h
    · cases h
    · rename_i hx
      intro p hp
      rcases List.mem_cons.1 hp with rfl | hp
      · exact hx
      · exact ih h p hp
theorem srt_ext : ∀ (l m : List Pr), Srt l → Srt m → (∀ k, fnd l k = fnd m k) → l = m := by
  have det : ∀ (l m : List Pr), Srt l → Srt m → (∀ r, r ∈ l ↔ r ∈ m) → l = m := by
    intro l
    induction l with
    | nil => intro m _ _ h; cases m with
      | nil => rfl
      | cons y ys => exact absurd ((h y).2 (by simp)) (by simp)
    | cons x xs ih =>
      intro m h1 h2 h
      cases m with
      | nil => exact absurd ((h x).1 (by simp)) (by simp)
      | cons y ys =>
        rw [srt_cons] at h1 h2
        have hxy : x = y := by
          rcases List.mem_cons.1 ((h x).1 (by simp)) with e | hx
          · exact e
          · rcases List.mem_cons.1 ((h y).2 (by simp)) with e | hy
            · exact e.symm
            · exact ((h1.1 y hy).as (h2.1 x hx)).elim
        subst hxy
        rw [ih ys h1.2 h2.2 fun r => ⟨fun hr => ?_, fun hr => ?_⟩]
        · rcases List.mem_cons.1 ((h r).1 (by simp [hr])) with e | hr'
          · subst e; exact (h1.1 r hr).irr.elim
          · exact hr'
        · rcases List.mem_cons.1 ((h r).2 (by simp [hr])) with e | hr'
          · subst e; exact (h2.1 r hr).irr.elim
          · exact hr'
  intro l m hl hm h
  refine det l m hl hm fun r => ⟨fun hr => ?_, fun hr => ?_⟩
  · have := mem_fnd hl hr; rw [h] at this; exact (fnd_mem this).1
  · have := mem_fnd hm hr; rw [← h] at this; exact (fnd_mem this).1
theorem getP_fnd (k : ByteArray) : ∀ l : List Pr, getP l k = match fnd l k with | none => vl0 | some p => p.v
  | [] => rfl
  | x :: xs => by
    have ih := getP_fnd k xs
    unfold getP at ih ⊢
    simp only [fnd]
    by_cases h : x.key = k
    · rw [if_pos h, List.find?_cons_of_pos (by simp [h])]
    · rw [if_neg h, List.find?_cons_of_neg (by intro e; exact h (ba_ext (by simpa using e)))]
      exact ih

/-! Valid writes and states -/
theorem writes_iff : ∀ (l : List Pr) (p : Option Pr), writesGo p l = true ↔ ((∀ y, p = some y → lb y.key l) ∧ Srt l ∧ ∀ x ∈ l, keyV x.key = true ∧ valV x.v = true)
  | [], p => by simp [writesGo, Srt, lb]
  | x :: xs, p => by
    have ih := writes_iff xs (some x)
    simp only [writesGo, Bool.and_eq_true]
    rw [ih, srt_cons]
    constructor
    · rintro ⟨⟨⟨h1, h2⟩, h3⟩, h4, h5, h6⟩
      have h4 := h4 x rfl
      refine ⟨fun y hy => ?_, ⟨h4, h5⟩, fun z hz => ?_⟩
      · subst hy
        have hyx : bl y.key x.key := by
          simp only [prStep] at h3
          rw [strGt_lt] at h3; exact h3
        intro z hz
        rcases List.mem_cons.1 hz with rfl | hz
        · exact hyx
        · exact hyx.tr (h4 z hz)
      · rcases List.mem_cons.1 hz with rfl | hz
        · exact ⟨h1, h2⟩
        · exact h6 z hz
    · rintro ⟨h1, ⟨h2, h3⟩, h4⟩
      refine ⟨⟨⟨(h4 x (by simp)).1, (h4 x (by simp)).2⟩, ?_⟩, fun y hy => by cases hy; exact h2, h3, fun z hz => h4 z (by simp [hz])⟩
      cases p with
      | none => rfl
      | some y =>
        simp only [prStep]
        rw [strGt_lt]
        exact h1 y rfl x (by simp)
theorem writes_iff0 (l : List Pr) : writesGo none l = true ↔ (Srt l ∧ ∀ x ∈ l, keyV x.key = true ∧ valV x.v = true) := by
  rw [writes_iff]
  exact ⟨fun h => h.2, fun h => ⟨fun y hy => (by cases hy), h⟩⟩
theorem state_iff (l : List Pr) : stateV l = true ↔ (Srt l ∧ ∀ x ∈ l, keyV x.key = true ∧ valV x.v = true ∧ x.v.kind ≠ 0) := by
  unfold stateV
  rw [Bool.and_eq_true, writes_iff0]
  simp only [Bool.not_eq_true', List.any_eq_false, beq_iff_eq]
  constructor
  · rintro ⟨⟨h1, h2⟩, h3⟩
    exact ⟨h1, fun x hx => ⟨(h2 x hx).1, (h2 x hx).2, h3 x hx⟩⟩
  · rintro ⟨h1, h2⟩
    exact ⟨⟨h1, fun x hx => ⟨(h2 x hx).1, (h2 x hx).2.1⟩⟩, fun x hx => (h2 x hx).2.2⟩

/-! Merging -/
def mrg (L R : Pr → Option Pr) (B : Pr → Pr → Option Pr) : List Pr → List Pr → List Pr
  | [], [] => []
  | x :: xs, [] => (L x).toList ++ mrg L R B xs []
  | [], y :: ys => (R y).toList ++ mrg L R B [] ys
  | x :: xs, y :: ys => if cmpK x.key y.key < 0 then (L x).toList ++ mrg L R B xs (y :: ys) else if cmpK x.key y.key > 0 then (R y).toList ++ mrg L R B (x :: xs) ys else (B x y).toList ++ mrg L R B xs ys
  termination_by l m => l.length + m.length
theorem merge_mrg {σ : Type} {L R : Pr → σ → σ} {B : Pr → Pr → σ → σ} {L' R' : Pr → Option Pr} {B' : Pr → Pr → Option Pr} (out : σ → List Pr)
    (hL : ∀ x s, out (L x s) = out s ++ (L' x).toList) (hR : ∀ x s, out (R x s) = out s ++ (R' x).toList) (hB : ∀ x y s, out (B x y s) = out s ++ (B' x y).toList) :
    ∀ (n : Nat) (a b : List Pr) (s : σ), a.length + b.length ≤ n → out (mergeS L R B a b s) = out s ++ mrg L' R' B' a b := by
  intro n
  induction n with
  | zero =>
    intro a b s h
    have ha : a = [] := List.eq_nil_of_length_eq_zero (by omega)
    have hb : b = [] := List.eq_nil_of_length_eq_zero (by omega)
    subst ha; subst hb
    simp only [mergeS, mrg, List.append_nil]
  | succ n ih =>
    intro a b s h
    match a, b, h with
    | [], [], _ => simp only [mergeS, mrg, List.append_nil]
    | x :: xs, [], h => simp only [mergeS, mrg]; rw [ih _ _ _ (by simp at h ⊢; omega), hL, List.append_assoc]
    | [], y :: ys, h => simp only [mergeS, mrg]; rw [ih _ _ _ (by simp at h ⊢; omega), hR, List.append_assoc]
    | x :: xs, y :: ys, h =>
      simp only [mergeS, mrg]
      split
      · rw [ih _ _ _ (by simp at h ⊢; omega), hL, List.append_assoc]
      · split
        · rw [ih _ _ _ (by simp at h ⊢; omega), hR, List.append_assoc]
        · rw [ih _ _ _ (by simp at h ⊢; omega), hB, List.append_assoc]

/-- What keeps keys. -/
structure Keeps (L R : Pr → Option Pr) (B : Pr → Pr → Option Pr) : Prop where
  l : ∀ x p, L x = some p → p.key = x.key
  r : ∀ x p, R x = some p → p.key = x.key
  b : ∀ x y p, x.key = y.key → B x y = some p → p.key = x.key
def pick (L R : Pr → Option Pr) (B : Pr → Pr → Option Pr) : Option Pr → Option Pr → Option Pr
  | none, none => none
  | some x, none => L x
  | none, some y => R y
  | some x, some y => B x y
theorem one_srt {o : Option Pr} {k : ByteArray} {l : List Pr} (ho : ∀ p, o = some p → p.key = k) (hl : lb k l) (hs : Srt l) : Srt (o.toList ++ l) := by
  cases o with
  | none => exact hs
  | some p => exact srt_cons.2 ⟨by rw [ho p rfl]; exact hl, hs⟩
theorem one_fnd {o : Option Pr} {k q : ByteArray} {l : List Pr} (ho : ∀ p, o = some p → p.key = k) (hl : lb k l) : fnd (o.toList ++ l) q = if k = q then o else fnd l q := by
  cases o with
  | none =>
    split
    · rename_i e; subst e; exact fnd_lb hl
    · rfl
  | some p =>
    show (if p.key = q then some p else fnd l q) = _
    rw [ho p rfl]
theorem one_lb {o : Option Pr} {k q : ByteArray} {l : List Pr} (ho : ∀ p, o = some p → p.key = k) (hk : bl q k) (hl : lb q l) : lb q (o.toList ++ l) := by
  intro p hp
  rcases List.mem_append.1 hp with h | h
  · cases o with
    | none => cases h
    | some z =>
      have : p = z := by simpa using h
      subst this
      rw [ho p rfl]; exact hk
  · exact hl p h
theorem mrg_spec {L R : Pr → Option Pr} {B : Pr → Pr → Option Pr} (K : Keeps L R B) : ∀ (n : Nat) (a b : List Pr), a.length + b.length ≤ n → Srt a → Srt b →
    (∀ q, lb q a → lb q b → lb q (mrg L R B a b)) ∧ Srt (mrg L R B a b) ∧ ∀ k, fnd (mrg L R B a b) k = pick L R B (fnd a k) (fnd b k) := by
  intro n
  induction n with
  | zero =>
    intro a b h _ _
    have ha : a = [] := List.eq_nil_of_length_eq_zero (by omega)
    have hb : b = [] := List.eq_nil_of_length_eq_zero (by omega)
    subst ha; subst hb
    simp only [mrg]
    exact ⟨fun q h1 _ => h1, .nil, fun k => rfl⟩
  | succ n ih =>
    intro a b h sa sb
    match a, b, h, sa, sb with
    | [], [], _, _, _ => simp only [mrg]; exact ⟨fun q h1 _ => h1, .nil, fun k => rfl⟩
    | x :: xs, [], h, sa, sb =>
      rw [srt_cons] at sa
      obtain ⟨i1, i2, i3⟩ := ih xs [] (by simp at h ⊢; omega) sa.2 sb
      have hlb := i1 x.key sa.1 (fun p hp => by cases hp)
      simp only [mrg]
      refine ⟨fun q h1 h2 => one_lb (K.l x) (h1 x (by simp)) (i1 q (fun p hp => h1 p (by simp [hp])) h2), one_srt (K.l x) hlb i2, fun k => ?_⟩
      rw [one_fnd (K.l x) hlb, i3]
      simp only [fnd]
      split
      · rfl
      · rfl
    | [], y :: ys, h, sa, sb =>
      rw [srt_cons] at sb
      obtain ⟨i1, i2, i3⟩ := ih [] ys (by simp at h ⊢; omega) sa sb.2
      have hlb := i1 y.key (fun p hp => by cases hp) sb.1
      simp only [mrg]
      refine ⟨fun q h1 h2 => one_lb (K.r y) (h2 y (by simp)) (i1 q h1 (fun p hp => h2 p (by simp [hp]))), one_srt (K.r y) hlb i2, fun k => ?_⟩
      rw [one_fnd (K.r y) hlb, i3]
      simp only [fnd]
      split
      · rfl
      · rfl
    | x :: xs, y :: ys, h, sa, sb =>
      have sa' := srt_cons.1 sa
      have sb' := srt_cons.1 sb
      simp only [mrg]
      by_cases h1 : cmpK x.key y.key < 0
      · rw [if_pos h1]
        rw [cmp_lt] at h1
        obtain ⟨i1, i2, i3⟩ := ih xs (y :: ys) (by simp at h ⊢; omega) sa'.2 sb
        have hly : lb x.key (y :: ys) := fun p hp => by
          rcases List.mem_cons.1 hp with rfl | hp
          · exact h1
          · exact h1.tr (sb'.1 p hp)
        have hlb := i1 x.key sa'.1 hly
        refine ⟨fun q h3 h4 => one_lb (K.l x) (h3 x (by simp)) (i1 q (fun p hp => h3 p (by simp [hp])) h4), one_srt (K.l x) hlb i2, fun k => ?_⟩
        rw [one_fnd (K.l x) hlb, i3]
        by_cases hk : x.key = k
        · subst hk
          rw [if_pos rfl, fnd_lb hly]
          simp [fnd, pick]
        · rw [if_neg hk]
          simp only [fnd, if_neg hk]
      · rw [if_neg h1]
        by_cases h2 : cmpK x.key y.key > 0
        · rw [if_pos h2]
          rw [cmp_gt] at h2
          obtain ⟨i1, i2, i3⟩ := ih (x :: xs) ys (by simp at h ⊢; omega) sa sb'.2
          have hlx : lb y.key (x :: xs) := fun p hp => by
            rcases List.mem_cons.1 hp with rfl | hp
            · exact h2
            · exact h2.tr (sa'.1 p hp)
          have hlb := i1 y.key hlx sb'.1
          refine ⟨fun q h3 h4 => one_lb (K.r y) (h4 y (by simp)) (i1 q h3 (fun p hp => h4 p (by simp [hp]))), one_srt (K.r y) hlb i2, fun k => ?_⟩
          rw [one_fnd (K.r y) hlb, i3]
          by_cases hk : y.key = k
          · subst hk
            rw [if_pos rfl, fnd_lb hlx]
            simp [fnd, pick]
          · rw [if_neg hk]
            simp only [fnd, if_neg hk]
        · rw [if_neg h2]
          rw [cmp_lt] at h1
          rw [cmp_gt] at h2
          have hxy : x.key = y.key := bl_tot h1 h2
          obtain ⟨i1, i2, i3⟩ := ih xs ys (by simp at h ⊢; omega) sa'.2 sb'.2
          have hlb := i1 x.key sa'.1 (by rw [hxy]; exact sb'.1)
          refine ⟨fun q h3 h4 => one_lb (K.b x y · hxy) (h3 x (by simp)) (i1 q (fun p hp => h3 p (by simp [hp])) (fun p hp => h4 p (by simp [hp]))), one_srt (K.b x y · hxy) hlb i2, fun k => ?_⟩
          rw [one_fnd (K.b x y · hxy) hlb, i3]
          by_cases hk : x.key = k
          · subst hk
            rw [if_pos rfl]
            simp [fnd, pick, hxy]
          · rw [if_neg hk]
            simp only [fnd, if_neg hk, if_neg (fun e => hk (hxy.trans e))]
end Go.Proofs.Ytlfebjehmabejaa

/- Chapter 06: what Apply, Diff and Union make: their laws, plain; their contracts once more. -/
set_option linter.unusedSimpArgs false
set_option linter.unusedVariables false
namespace Go.Proofs.Ytlfebjehmabejaa
open Go Ab
set_option maxRecDepth 100000
attribute [local irreducible] awp aops aop asoft aeff aloop acall acallI acallT

theorem vl_zeroP (v : Vl) (h : valV v = true) (hk : v.kind = 0) : v = vl0 := by
  obtain ⟨k, n, s⟩ := v
  simp only at hk
  subst hk
  unfold valV at h
  simp only [if_true, Bool.and_eq_true, beq_iff_eq] at h
  obtain ⟨rfl, h⟩ := h
  rw [ByteArray.toList_eq] at h
  have : s = ⟨#[]⟩ := by
    obtain ⟨d⟩ := s
    simp only at h
    have : d = #[] := by simpa using h
    rw [this]
  rw [this]; rfl
def wr (y : Pr) : Option Pr := if y.v.kind = 0 then none else some y
def apL (a w : List Pr) : List Pr := mrg some wr (fun _ y => wr y) a w
theorem add_out (o : Option (List Pr)) (p : Pr) : outL (add o p) = outL o ++ [p] := rfl
theorem addW_out (o : Option (List Pr)) (p : Pr) : outL (addW o p) = outL o ++ (wr p).toList := by
  unfold addW wr
  split
  · simp
  · rw [add_out]; rfl
theorem apply_out (a w : List Pr) : outL (applyO a w) = apL a w := by
  have := merge_mrg (L' := some) (R' := wr) (B' := fun _ y => wr y) outL (L := applyL) (R := applyR) (B := applyB) (fun x s => add_out s x) (fun x s => addW_out s x) (fun x y s => addW_out s y) _ a w none (Nat.le_refl _)
  simpa [outL, applyO, apL] using this
theorem mrg_len {L R : Pr → Option Pr} {B : Pr → Pr → Option Pr} : ∀ (n : Nat) (a b : List Pr), a.length + b.length ≤ n → (mrg L R B a b).length ≤ a.length + b.length := by
  have one : ∀ o : Option Pr, o.toList.length ≤ 1 := fun o => by cases o <;> simp
  intro n
  induction n with
  | zero =>
    intro a b h
    have ha : a = [] := List.eq_nil_of_length_eq_zero (by omega)
    have hb : b = [] := List.eq_nil_of_length_eq_zero (by omega)
    subst ha; subst hb
    simp [mrg]
  | succ n ih =>
    intro a b h
    match a, b, h with
    | [], [], _ => simp [mrg]
    | x :: xs, [], h =>
      have := ih xs [] (by simp at h ⊢; omega); have := one (L x)
      simp only [mrg, List.length_append, List.length_cons] at *; omega
    | [], y :: ys, h =>
      have := ih [] ys (by simp at h ⊢; omega); have := one (R y)
      simp only [mrg, List.length_append, List.length_cons] at *; omega
    | x :: xs, y :: ys, h =>
      simp only [mrg]
      split
      · have := ih xs (y :: ys) (by simp at h ⊢; omega); have := one (L x)
        simp only [List.length_append, List.length_cons] at *; omega
      · split
        · have := ih (x :: xs) ys (by simp at h ⊢; omega); have := one (R y)
          simp only [List.length_append, List.length_cons] at *; omega
        · have := ih xs ys (by simp at h ⊢; omega); have := one (B x y)
          simp only [List.length_append, List.length_cons] at *; omega
theorem wr_key (y p : Pr) (h : wr y = some p) : p = y ∧ y.v.kind ≠ 0 := by
  unfold wr at h
  split at h
  · cases h
  · cases h; exact ⟨rfl, by assumption⟩
theorem apK : Keeps some wr (fun _ y => wr y) where
  l := fun x p h => by cases h; rfl
  r := fun x p h => by rw [(wr_key x p h).1]
  b := fun x y p e h => by rw [(wr_key y p h).1, e]
theorem ap_spec {a w : List Pr} (ha : Srt a) (hw : Srt w) : Srt (apL a w) ∧ ∀ k, fnd (apL a w) k = pick some wr (fun _ y => wr y) (fnd a k) (fnd w k) :=
  (mrg_spec apK _ a w (Nat.le_refl _) ha hw).2
/-- What is in the result of Apply. -/
theorem ap_mem {a w : List Pr} (ha : Srt a) (hw : Srt w) {p : Pr} (h : p ∈ apL a w) : p ∈ a ∨ (p ∈ w ∧ p.v.kind ≠ 0) := by
  obtain ⟨h1, h2⟩ := ap_spec ha hw
  have h3 := mem_fnd h1 h
  rw [h2] at h3
  cases hA : fnd a p.key with
  | none =>
    cases hW : fnd w p.key with
    | none => rw [hA, hW] at h3; cases h3
    | some y => rw [hA, hW] at h3; obtain ⟨e, hk⟩ := wr_key y p h3; subst e; exact .inr ⟨(fnd_mem hW).1, hk⟩
  | some x =>
    cases hW : fnd w p.key with
    | none => rw [hA, hW] at h3; cases h3; exact .inl (fnd_mem hA).1
    | some y => rw [hA, hW] at h3; obtain ⟨e, hk⟩ := wr_key y p h3; subst e; exact .inr ⟨(fnd_mem hW).1, hk⟩
theorem ap_state {a w : List Pr} (ha : stateV a = true) (hw : writesGo none w = true) : stateV (apL a w) = true := by
  rw [state_iff] at ha ⊢
  rw [writes_iff0] at hw
  refine ⟨(ap_spec ha.1 hw.1).1, fun p hp => ?_⟩
  rcases ap_mem ha.1 hw.1 hp with h | ⟨h, hk⟩
  · exact ha.2 p h
  · exact ⟨(hw.2 p h).1, (hw.2 p h).2, hk⟩
theorem ap_again {a w : List Pr} (ha : stateV a = true) (hw : writesGo none w = true) : apL (apL a w) w = apL a w := by
  have hs := (state_iff _).1 (ap_state ha hw)
  rw [state_iff] at ha
  rw [writes_iff0] at hw
  obtain ⟨h1, h2⟩ := ap_spec ha.1 hw.1
  obtain ⟨h3, h4⟩ := ap_spec hs.1 hw.1
  refine srt_ext _ _ h3 h1 fun k => ?_
  rw [h4, h2]
  cases fnd w k with
  | none => cases fnd a k <;> rfl
  | some y =>
    have : ∀ o : Option Pr, pick some wr (fun _ y => wr y) o (some y) = wr y := fun o => by cases o <;> rfl
    rw [this, this]
theorem ap_get {a w : List Pr} (ha : stateV a = true) (hw : writesGo none w = true) {y : Pr} (hy : y ∈ w) : getP (apL a w) y.key = y.v := by
  rw [state_iff] at ha
  rw [writes_iff0] at hw
  rw [getP_fnd, (ap_spec ha.1 hw.1).2, mem_fnd hw.1 hy]
  have : ∀ o : Option Pr, pick some wr (fun _ y => wr y) o (some y) = wr y := fun o => by cases o <;> rfl
  rw [this]
  by_cases hk : y.v.kind = 0
  · rw [show wr y = none from if_pos hk]
    exact (vl_zeroP _ (hw.2 y hy).2 hk).symm
  · rw [show wr y = some y from if_neg hk]
theorem ap_old {a w : List Pr} (ha : stateV a = true) (hw : writesGo none w = true) {k : ByteArray} (hk : fnd w k = none) : getP (apL a w) k = getP a k := by
  rw [state_iff] at ha
  rw [writes_iff0] at hw
  rw [getP_fnd, getP_fnd, (ap_spec ha.1 hw.1).2, hk]
  cases fnd a k <;> rfl

theorem apply_ok (l ws : List Pr) (hl : l.length ≤ 1048576) (hw : ws.length ≤ 1048576) (fl : ∀ p ∈ l, p.fit) (fw : ∀ p ∈ ws, p.fit) (h1 : stateV l = true) (h2 : writesGo none ws = true) :
    PDen Try.prog 13 [.a (.slice 4 (l.map Pr.row)), .a (.slice 4 (ws.map Pr.row))] (.tup [.a (.slice 4 ((apL l ws).map Pr.row)), .a (.int .i64 0)]) := by
  have h := sapply_den l ws (by omega) (by omega) (by omega) fl fw
  rw [show applyA l ws = .tup [.a (.slice 4 ((outL (applyO l ws)).map Pr.row)), .a (.int .i64 0)] from if_pos (by rw [h1, h2]; rfl), apply_out] at h
  exact h
theorem apply_no (l ws : List Pr) (hl : l.length ≤ 1048576) (hw : ws.length ≤ 1048576) (fl : ∀ p ∈ l, p.fit) (fw : ∀ p ∈ ws, p.fit) (h1 : (stateV l && writesGo none ws) = false) :
    PDen Try.prog 13 [.a (.slice 4 (l.map Pr.row)), .a (.slice 4 (ws.map Pr.row))] (.tup [.a .nils, .a (.int .i64 1)]) := by
  have h := sapply_den l ws (by omega) (by omega) (by omega) fl fw
  rw [show applyA l ws = .tup [.a .nils, .a (.int .i64 1)] from if_neg (by rw [h1]; simp)] at h
  exact h
theorem vl0_ok : valV vl0 = true := by decide +kernel
theorem fnd_filter (f : ByteArray → Bool) (k : ByteArray) : ∀ l : List Pr, fnd (l.filter fun p => f p.key) k = if f k = true then fnd l k else none
  | [] => by simp [fnd]
  | x :: xs => by
    have ih := fnd_filter f k xs
    by_cases hx : f x.key = true
    · rw [List.filter_cons_of_pos (by simpa using hx)]
      simp only [fnd]
      by_cases hk : x.key = k
      · rw [if_pos hk, if_pos hk, if_pos (hk ▸ hx)]
      · rw [if_neg hk, if_neg hk, ih]
    · rw [List.filter_cons_of_neg (by simpa using hx)]
      simp only [fnd]
      by_cases hk : x.key = k
      · rw [ih, if_neg (hk ▸ hx), if_neg (hk ▸ hx)]
      · rw [if_neg hk, ih]
theorem srt_filter {l : List Pr} (h : Srt l) (f : Pr → Bool) : Srt (l.filter f) := h.sublist List.filter_sublist
end Go.Proofs.Ytlfebjehmabejaa
