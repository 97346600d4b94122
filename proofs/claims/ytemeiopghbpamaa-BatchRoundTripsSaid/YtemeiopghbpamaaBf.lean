/- Requests: equality, small requests; contracts of the abstract layer. -/
import Derived.Test.YtemeiopghbpamaaBh
set_option linter.unusedSimpArgs false
set_option linter.unusedVariables false
namespace Go.Proofs.Ytemeiopghbpamaa
open Go Ab Go.RowKit
attribute [local irreducible] awp aops aop asoft aeff aloop acall acallI acallT
attribute [local go_sem] Vl.row sRow fpRow Req.row

def vlEqq (a b : Vl) : Bool := (a.kind == b.kind) && ((a.n == b.n) && ((a.s.toList == b.s.toList) && true))
theorem eqL_refl {α : Type} (f : α → α → Bool) (h : ∀ x, f x x = true) : ∀ l, eqL f l l = true
  | [] => rfl
  | x :: xs => by simp only [eqL]; rw [h x, eqL_refl f h xs]; rfl
theorem strEq_refl (a : ByteArray) : strEq a a = true := by simp [strEq]
theorem vlEqq_refl (a : Vl) : vlEqq a a = true := by simp [vlEqq]
theorem bs_eq {a b : ByteArray} (h : a.toList = b.toList) : a = b := ba_ext h
def reqEq (a b : Req) : Bool := (a.cl == b.cl) && (a.sq == b.sq) && (a.pr.toList == b.pr.toList) && eqL vlEqq a.args b.args && (a.dc == b.dc) && (a.al == b.al) && eqL strEq a.rd b.rd && eqL strEq a.wt b.wt
theorem reqEq_refl (a : Req) : reqEq a a = true := by
  simp [reqEq, eqL_refl _ vlEqq_refl, eqL_refl _ strEq_refl]
def reqsEq (a b : List Req) : Bool := eqL reqEq a b
theorem reqsEq_refl (a : List Req) : reqsEq a a = true := eqL_refl _ reqEq_refl a

set_option maxRecDepth 100000 in
set_option maxHeartbeats 1000000 in
theorem sequal_den (a b : List ByteArray) (ha : a.length ≤ 9223372036854775807) : PDen Try.prog 37 [.a (.slice 1 (a.map sRow)), .a (.slice 1 (b.map sRow))] (.a (.bool (eqL strEq a b))) := by
  by_cases hl : a.length = b.length
  · have q : ((a.length : Int) != (b.length : Int)) = false := by simp [hl]
    refine den_of_body k_slices_Equal_string_string ⟨rfl, Nat.le_of_ble_eq_true rfl, thaw_intro ?_⟩
    unfold c_slices_Equal_string_string
    simp only [q, go_sem]
    refine t_loop_intro (fun k : Nat => k ≤ a.length ∧ (eqL strEq a b = eqL strEq (a.drop k) (b.drop k))) (fun k => a.length - k) 0 [4, 5, 13, 14, 15, 16, 17, 18, 19, 20, 21, 22, 23, 24, 25] (fun k => [(13, .a (.int .i64 k))]) ⟨by omega, by rfl⟩ (by simp) (fun k => by simp) rfl ?_
    intro k hk0 fr_ hfr
    have hk : k ≤ a.length := hk0.1
    have hall := hk0.2
    clear hk0
    simp only [go_sem] at hfr
    subst hfr
    by_cases hlt : k < a.length
    · have h1 : (k : Int) < (a.length : Int) := by omega
      have h1' : (k : Int) < (b.length : Int) := by omega
      have hlt2 : k < b.length := by omega
      have e := getD_map sRow a k hlt
      have e2 := getD_map sRow b k hlt2
      have er : sRow a[k] = [.str a[k]] := rfl
      have er2 : sRow b[k] = [.str b[k]] := rfl
      have ew := wrap1 k a.length hlt (by omega)
      have es := eqL_step strEq a b k hlt hlt2
      cases hq : strEq a[k] b[k] with
      | true =>
        have hq' : (a[k].toList == b[k].toList) = true := hq
        simp only [h1, h1', e, er, e2, er2, hq', ew, go_sem]
        refine t_round (k + 1) ⟨by omega, by rw [hall, es, hq]; rfl⟩ (by omega) (by simp) rfl rfl (by simp) rfl
      | false =>
        have hq' : (a[k].toList == b[k].toList) = false := hq
        simp only [h1, h1', e, er, e2, er2, hq', go_sem]
        simp only [aresult, ares, go_sem]
        rw [hall, es, hq]; rfl
    · have h1 : ¬ (k : Int) < (a.length : Int) := by omega
      simp only [h1, go_sem]
      simp only [aresult, ares, go_sem]
      rw [hall, List.drop_eq_nil_of_le (by omega), List.drop_eq_nil_of_le (by omega)]; rfl
  · have q : ((a.length : Int) != (b.length : Int)) = true := by simp; omega
    rw [eqL_len strEq a b hl]
    refine den_of_body k_slices_Equal_string_string ⟨rfl, Nat.le_of_ble_eq_true rfl, thaw_intro ?_⟩
    unfold c_slices_Equal_string_string
    simp only [q, go_sem]
    simp only [aresult, ares, go_sem]
set_option maxRecDepth 100000 in
set_option maxHeartbeats 1000000 in
theorem vequal_den (a b : List Vl) (ha : a.length ≤ 9223372036854775807) : PDen Try.prog 36 [.a (.slice 3 (a.map Vl.row)), .a (.slice 3 (b.map Vl.row))] (.a (.bool (eqL vlEqq a b))) := by
  by_cases hl : a.length = b.length
  · have q : ((a.length : Int) != (b.length : Int)) = false := by simp [hl]
    refine den_of_body k_slices_Equal_api_Value_api_Value ⟨rfl, Nat.le_of_ble_eq_true rfl, thaw_intro ?_⟩
    unfold c_slices_Equal_api_Value_api_Value
    simp only [q, go_sem]
    refine t_loop_intro (fun k : Nat => k ≤ a.length ∧ (eqL vlEqq a b = eqL vlEqq (a.drop k) (b.drop k))) (fun k => a.length - k) 0 [4, 5, 13, 14, 15, 16, 17, 18, 19, 20, 21, 22, 23, 24, 25] (fun k => [(13, .a (.int .i64 k))]) ⟨by omega, by rfl⟩ (by simp) (fun k => by simp) rfl ?_
    intro k hk0 fr_ hfr
    have hk : k ≤ a.length := hk0.1
    have hall := hk0.2
    clear hk0
    simp only [go_sem] at hfr
    subst hfr
    by_cases hlt : k < a.length
    · have h1 : (k : Int) < (a.length : Int) := by omega
      have h1' : (k : Int) < (b.length : Int) := by omega
      have hlt2 : k < b.length := by omega
      have e := getD_map Vl.row a k hlt
      have e2 := getD_map Vl.row b k hlt2
      have er : a[k].row = [.int .i64 a[k].kind, .int .i64 a[k].n, .str a[k].s] := rfl
      have er2 : b[k].row = [.int .i64 b[k].kind, .int .i64 b[k].n, .str b[k].s] := rfl
      have ew := wrap1 k a.length hlt (by omega)
      have es := eqL_step vlEqq a b k hlt hlt2
      cases hq : vlEqq a[k] b[k] with
      | true =>
        have hq' : ((a[k].kind == b[k].kind) && ((a[k].n == b[k].n) && ((a[k].s.toList == b[k].s.toList) && true))) = true := hq
        simp only [h1, h1', e, er, e2, er2, hq', ew, go_sem]
        refine t_round (k + 1) ⟨by omega, by rw [hall, es, hq]; rfl⟩ (by omega) (by simp) rfl rfl (by simp) rfl
      | false =>
        have hq' : ((a[k].kind == b[k].kind) && ((a[k].n == b[k].n) && ((a[k].s.toList == b[k].s.toList) && true))) = false := hq
        simp only [h1, h1', e, er, e2, er2, hq', go_sem]
        simp only [aresult, ares, go_sem]
        rw [hall, es, hq]; rfl
    · have h1 : ¬ (k : Int) < (a.length : Int) := by omega
      simp only [h1, go_sem]
      simp only [aresult, ares, go_sem]
      rw [hall, List.drop_eq_nil_of_le (by omega), List.drop_eq_nil_of_le (by omega)]; rfl
  · have q : ((a.length : Int) != (b.length : Int)) = true := by simp; omega
    rw [eqL_len vlEqq a b hl]
    refine den_of_body k_slices_Equal_api_Value_api_Value ⟨rfl, Nat.le_of_ble_eq_true rfl, thaw_intro ?_⟩
    unfold c_slices_Equal_api_Value_api_Value
    simp only [q, go_sem]
    simp only [aresult, ares, go_sem]
structure Req.fits (r : Req) : Prop where
  args : r.args.length ≤ 9223372036854775807
  rd : r.rd.length ≤ 9223372036854775807
  wt : r.wt.length ≤ 9223372036854775807
theorem Req.fit.fits {r : Req} (h : r.fit) : r.fits := ⟨by have := h.len; omega, by have := h.rd.1; omega, by have := h.wt.1; omega⟩

set_option maxRecDepth 100000 in
set_option maxHeartbeats 4000000 in
theorem same_den (a b : Req) (ha : a.fits) : PDen Try.prog 16 [.agg a.row, .agg b.row] (.a (.bool (reqEq a b))) := by
  obtain ⟨ha1, ha2, ha3⟩ := ha
  obtain ⟨cl, sq, pr, args, dc, al, rd, wt⟩ := a
  obtain ⟨cl', sq', pr', args', dc', al', rd', wt'⟩ := b
  simp only at ha1 ha2 ha3
  have hA := vequal_den args args' ha1
  have hR := sequal_den rd rd' ha2
  have hW := sequal_den wt wt' ha3
  refine den_of_body k_batch_Same ⟨rfl, Nat.le_of_ble_eq_true rfl, thaw_intro ?_⟩
  unfold c_batch_Same
  simp only [go_sem]
  cases q1 : (cl == cl')
  · simp only [go_sem]
    simp only [aresult, ares, go_sem]
    simp [reqEq, q1]
  simp only [go_sem]
  cases q2 : (sq == sq')
  · simp only [go_sem]
    simp only [aresult, ares, go_sem]
    simp [reqEq, q2]
  simp only [go_sem]
  cases q3 : (pr.toList == pr'.toList)
  · simp only [go_sem]
    simp only [aresult, ares, go_sem]
    simp [reqEq, q3]
  simp only [go_sem]
  refine t_call_intro (hA) ?_
  cases q4 : eqL vlEqq args args'
  · simp only [go_sem]
    simp only [aresult, ares, go_sem]
    simp [reqEq, q4]
  simp only [go_sem]
  cases q5 : (dc == dc')
  · simp only [go_sem]
    simp only [aresult, ares, go_sem]
    simp [reqEq, q5]
  simp only [go_sem]
  cases q6 : (al == al')
  · simp only [go_sem]
    simp only [aresult, ares, go_sem]
    simp [reqEq, q6]
  simp only [go_sem]
  refine t_call_intro (hR) ?_
  cases q7 : eqL strEq rd rd'
  · simp only [go_sem]
    simp only [aresult, ares, go_sem]
    simp [reqEq, q7]
  simp only [go_sem]
  refine t_call_intro (hW) ?_
  cases q8 : eqL strEq wt wt'
  · simp only [go_sem]
    simp only [aresult, ares, go_sem]
    simp [reqEq, q8]
  simp only [go_sem]
  simp only [aresult, ares, go_sem]
  simp only [reqEq, q1, q2, q3, q4, q5, q6, q7, q8, Bool.and_self]

def fpEq (al al' : Bool) (rd rd' wt wt' : List ByteArray) : Bool := (al == al') && (eqL strEq rd rd' && eqL strEq wt wt')
set_option maxRecDepth 100000 in
set_option maxHeartbeats 4000000 in
theorem rfpsame_den (al al' : Bool) (rd rd' wt wt' : List ByteArray) (hr : rd.length ≤ 9223372036854775807) (hw : wt.length ≤ 9223372036854775807) : PDen Try.prog 19 [.agg (fpRow al rd wt), .agg (fpRow al' rd' wt')] (.a (.bool (fpEq al al' rd rd' wt wt'))) := by
  have hR := rksame_den rd rd' hr
  have hW := rksame_den wt wt' hw
  refine den_of_body k_ref19_Same ⟨rfl, Nat.le_of_ble_eq_true rfl, thaw_intro ?_⟩
  unfold c_ref19_Same
  simp only [go_sem]
  cases q1 : (al == al')
  · simp only [go_sem]
    simp only [aresult, ares, go_sem]
    simp [fpEq, q1]
  simp only [go_sem]
  refine t_call_intro (hR) ?_
  cases q2 : eqL strEq rd rd'
  · simp only [go_sem]
    simp only [aresult, ares, go_sem]
    simp [fpEq, q1, q2]
  simp only [go_sem]
  refine t_call_intro (hW) ?_
  simp only [go_sem]
  simp only [aresult, ares, go_sem]
  simp [fpEq, q1, q2]

set_option maxRecDepth 100000 in
set_option maxHeartbeats 4000000 in
theorem rsame_den (a b : Req) (ha : a.fits) : PDen Try.prog 8 [.agg a.row, .agg b.row] (.a (.bool (reqEq a b))) := by
  obtain ⟨ha1, ha2, ha3⟩ := ha
  obtain ⟨cl, sq, pr, args, dc, al, rd, wt⟩ := a
  obtain ⟨cl', sq', pr', args', dc', al', rd', wt'⟩ := b
  simp only at ha1 ha2 ha3
  have hF := rfpsame_den al al' rd rd' wt wt' ha2 ha3
  have nb : ∀ {α : Type} [BEq α] (x y : α), (x != y) = !(x == y) := fun _ _ => rfl
  refine den_of_body k_ref36_Same ⟨rfl, Nat.le_of_ble_eq_true rfl, thaw_intro ?_⟩
  unfold c_ref36_Same
  simp only [nb, go_sem]
  cases q1 : (cl == cl')
  · simp only [go_sem]
    simp only [aresult, ares, go_sem]
    simp [reqEq, q1]
  simp only [nb, go_sem]
  cases q2 : (sq == sq')
  · simp only [go_sem]
    simp only [aresult, ares, go_sem]
    simp [reqEq, q2]
  simp only [nb, go_sem]
  cases q3 : (pr.toList == pr'.toList)
  · simp only [go_sem]
    simp only [aresult, ares, go_sem]
    simp [reqEq, q3]
  simp only [nb, go_sem]
  cases q4 : (dc == dc')
  · simp only [go_sem]
    simp only [aresult, ares, go_sem]
    simp [reqEq, q4]
  simp only [nb, go_sem]
  by_cases hl : args.length = args'.length
  rotate_left
  · have q : ((args.length : Int) == (args'.length : Int)) = false := by simp; omega
    simp only [nb, q, go_sem]
    simp only [aresult, ares, go_sem]
    simp [reqEq, eqL_len vlEqq args args' hl]
  have q : ((args.length : Int) == (args'.length : Int)) = true := by simp [hl]
  simp only [nb, q, go_sem]
  refine t_call_intro (hF) ?_
  cases q5 : fpEq al al' rd rd' wt wt'
  · simp only [go_sem]
    simp only [aresult, ares, go_sem]
    unfold fpEq at q5
    simp only [reqEq]
    cases h1 : (al == al') <;> cases h2 : eqL strEq rd rd' <;> cases h3 : eqL strEq wt wt' <;> simp [h1, h2, h3] at q5 ⊢
  have hG : reqEq ⟨cl, sq, pr, args, dc, al, rd, wt⟩ ⟨cl', sq', pr', args', dc', al', rd', wt'⟩ = eqL vlEqq args args' := by
    unfold fpEq at q5
    simp only [Bool.and_eq_true] at q5
    simp only [reqEq, q1, q2, q3, q4, q5.1, q5.2.1, q5.2.2, Bool.and_true, Bool.true_and]
  rw [hG]
  simp only [go_sem]
  refine t_loop_intro (fun k : Nat => k ≤ args.length ∧ (eqL vlEqq args args' = eqL vlEqq (args.drop k) (args'.drop k))) (fun k => args.length - k) 0 [4, 5, 49, 50, 51, 52, 53, 54, 55, 56, 57, 58, 59, 60, 61, 62, 63, 64, 65, 66] (fun k => [(5, .a (.int .i64 k))]) ⟨by omega, by rfl⟩ (by simp) (fun k => by simp) rfl ?_
  intro k hk0 fr_ hfr
  have hk : k ≤ args.length := hk0.1
  have hall := hk0.2
  clear hk0
  simp only [go_sem] at hfr
  subst hfr
  by_cases hlt : k < args.length
  · have h1 : (k : Int) < (args.length : Int) := by omega
    have h1' : (k : Int) < (args'.length : Int) := by omega
    have hlt2 : k < args'.length := by omega
    have e := getD_map Vl.row args k hlt
    have e2 := getD_map Vl.row args' k hlt2
    have er : args[k].row = [.int .i64 args[k].kind, .int .i64 args[k].n, .str args[k].s] := rfl
    have er2 : args'[k].row = [.int .i64 args'[k].kind, .int .i64 args'[k].n, .str args'[k].s] := rfl
    have ew := wrap1 k args.length hlt (by omega)
    have es := eqL_step vlEqq args args' k hlt hlt2
    cases hq : vlEqq args[k] args'[k] with
    | true =>
      have hq' : ((args[k].kind == args'[k].kind) && ((args[k].n == args'[k].n) && ((args[k].s.toList == args'[k].s.toList) && true))) = true := hq
      simp only [h1, h1', e, er, e2, er2, hq', ew, go_sem]
      refine t_round (k + 1) ⟨by omega, by rw [hall, es, hq]; rfl⟩ (by omega) (by simp) rfl rfl (by simp) rfl
    | false =>
      have hq' : ((args[k].kind == args'[k].kind) && ((args[k].n == args'[k].n) && ((args[k].s.toList == args'[k].s.toList) && true))) = false := hq
      simp only [h1, h1', e, er, e2, er2, hq', go_sem]
      simp only [aresult, ares, go_sem]
      rw [hall, es, hq]; rfl
  · have h1 : ¬ (k : Int) < (args.length : Int) := by omega
    simp only [h1, go_sem]
    simp only [aresult, ares, go_sem]
    rw [hall, List.drop_eq_nil_of_le (by omega), List.drop_eq_nil_of_le (by omega)]; rfl

/-! Small requests -/
def sh (m : Nat) (s : ByteArray) : Bool := decide (s.size ≤ m)
def fewFp (m : Nat) (rd wt : List ByteArray) : Bool := decide (rd.length ≤ m) && (decide (wt.length ≤ m) && (rd.all (sh 100) && wt.all (sh 100)))
theorem all_dstep {α : Type} (f : α → Bool) (l : List α) (k : Nat) (h : k < l.length) : (l.drop k).all f = (f l[k] && (l.drop (k + 1)).all f) := by
  rw [List.drop_eq_getElem_cons h, List.all_cons]
set_option maxRecDepth 100000 in
set_option maxHeartbeats 4000000 in
theorem rfewfp_den (al : Bool) (rd wt : List ByteArray) (m : Nat) (hm : m ≤ 1000) : PDen Try.prog 46 [.agg (fpRow al rd wt), .a (.int .i64 m)] (.a (.bool (fewFp m rd wt))) := by
  by_cases c1 : rd.length ≤ m
  rotate_left
  · have q1 : (m : Int) < (rd.length : Int) := by omega
    refine den_of_body k_ref19_Few ⟨rfl, Nat.le_of_ble_eq_true rfl, thaw_intro ?_⟩
    unfold c_ref19_Few
    simp only [q1, go_sem]
    simp only [aresult, ares, go_sem]
    simp [fewFp, c1]
  have q1 : ¬ (m : Int) < (rd.length : Int) := by omega
  by_cases c2 : wt.length ≤ m
  rotate_left
  · have q2 : (m : Int) < (wt.length : Int) := by omega
    refine den_of_body k_ref19_Few ⟨rfl, Nat.le_of_ble_eq_true rfl, thaw_intro ?_⟩
    unfold c_ref19_Few
    simp only [q1, q2, go_sem]
    simp only [aresult, ares, go_sem]
    simp [fewFp, c2]
  have q2 : ¬ (m : Int) < (wt.length : Int) := by omega
  have hG : fewFp m rd wt = (rd.all (sh 100) && wt.all (sh 100)) := by simp [fewFp, c1, c2]
  rw [hG]
  refine den_of_body k_ref19_Few ⟨rfl, Nat.le_of_ble_eq_true rfl, thaw_intro ?_⟩
  unfold c_ref19_Few
  simp only [q1, q2, go_sem]
  refine t_loop_intro (fun k : Nat => k ≤ rd.length ∧ (rd.all (sh 100) = (rd.drop k).all (sh 100))) (fun k => rd.length - k) 0 [4, 5, 19, 20, 21, 22, 23, 24, 25, 26, 27, 28, 29, 30, 31, 32] (fun k => [(5, .a (.int .i64 k))]) ⟨by omega, by rfl⟩ (by simp) (fun k => by simp) rfl ?_
  intro k hk0 fr_ hfr
  have hk : k ≤ rd.length := hk0.1
  have hall := hk0.2
  clear hk0
  simp only [go_sem] at hfr
  subst hfr
  by_cases hlt : k < rd.length
  · have h1 : (k : Int) < (rd.length : Int) := by omega
    have e := getD_map sRow rd k hlt
    have er : sRow rd[k] = [.str rd[k]] := rfl
    have ew := wrap1 k rd.length hlt (by omega)
    have es := all_dstep (sh 100) rd k hlt
    by_cases c3 : rd[k].size ≤ 100
    · have q3 : ¬ (100 : Int) < (rd[k].size : Int) := by omega
      simp only [h1, e, er, q3, ew, go_sem]
      refine t_round (k + 1) ⟨by omega, by rw [hall, es]; simp [sh, c3]⟩ (by omega) (by simp) rfl rfl (by simp) rfl
    · have q3 : (100 : Int) < (rd[k].size : Int) := by omega
      simp only [h1, e, er, q3, go_sem]
      simp only [aresult, ares, go_sem]
      rw [hall, es]; simp [sh, c3]
  · have h1 : ¬ (k : Int) < (rd.length : Int) := by omega
    have ha : rd.all (sh 100) = true := by rw [hall, List.drop_eq_nil_of_le (by omega)]; rfl
    rw [ha, Bool.true_and]
    simp only [h1, go_sem]
    refine t_loop_intro (fun j : Nat => j ≤ wt.length ∧ (wt.all (sh 100) = (wt.drop j).all (sh 100))) (fun j => wt.length - j) 0 [4, 6, 33, 34, 35, 36, 37, 38, 39, 40, 41, 42, 43, 44, 45, 46] (fun j => [(6, .a (.int .i64 j))]) ⟨by omega, by rfl⟩ (by simp) (fun j => by simp) rfl ?_
    intro j hk0j fr_ hfr
    have hkj : j ≤ wt.length := hk0j.1
    have hallj := hk0j.2
    clear hk0j
    simp only [go_sem] at hfr
    subst hfr
    by_cases hltj : j < wt.length
    · have h2 : (j : Int) < (wt.length : Int) := by omega
      have e := getD_map sRow wt j hltj
      have er : sRow wt[j] = [.str wt[j]] := rfl
      have ew := wrap1 j wt.length hltj (by omega)
      have es := all_dstep (sh 100) wt j hltj
      by_cases c3 : wt[j].size ≤ 100
      · have q3 : ¬ (100 : Int) < (wt[j].size : Int) := by omega
        simp only [h2, e, er, q3, ew, go_sem]
        refine t_round (j + 1) ⟨by omega, by rw [hallj, es]; simp [sh, c3]⟩ (by omega) (by simp) rfl rfl (by simp) rfl
      · have q3 : (100 : Int) < (wt[j].size : Int) := by omega
        simp only [h2, e, er, q3, go_sem]
        simp only [aresult, ares, go_sem]
        rw [hallj, es]; simp [sh, c3]
    · have h2 : ¬ (j : Int) < (wt.length : Int) := by omega
      simp only [h2, go_sem]
      simp only [aresult, ares, go_sem]
      rw [hallj, List.drop_eq_nil_of_le (by omega)]; rfl
def fewR (r : Req) : Bool := decide (r.pr.size ≤ 300) && (decide (r.args.length ≤ 40) && (fewFp 100 r.rd r.wt && r.args.all (fun v => sh 300 v.s)))
set_option maxRecDepth 100000 in
set_option maxHeartbeats 4000000 in
theorem rfew_den (r : Req) : PDen Try.prog 20 [.agg r.row] (.a (.bool (fewR r))) := by
  obtain ⟨cl, sq, pr, args, dc, al, rd, wt⟩ := r
  have hF := rfewfp_den al rd wt 100 (by omega)
  by_cases c1 : pr.size ≤ 300
  rotate_left
  · have q1 : (300 : Int) < (pr.size : Int) := by omega
    refine den_of_body k_ref36_Few ⟨rfl, Nat.le_of_ble_eq_true rfl, thaw_intro ?_⟩
    unfold c_ref36_Few
    simp only [q1, go_sem]
    simp only [aresult, ares, go_sem]
    simp [fewR, c1]
  have q1 : ¬ (300 : Int) < (pr.size : Int) := by omega
  by_cases c2 : args.length ≤ 40
  rotate_left
  · have q2 : (40 : Int) < (args.length : Int) := by omega
    refine den_of_body k_ref36_Few ⟨rfl, Nat.le_of_ble_eq_true rfl, thaw_intro ?_⟩
    unfold c_ref36_Few
    simp only [q1, q2, go_sem]
    simp only [aresult, ares, go_sem]
    simp [fewR, c2]
  have q2 : ¬ (40 : Int) < (args.length : Int) := by omega
  have i100 : (((100 : Nat) : Int)) = 100 := rfl
  rw [i100] at hF
  refine den_of_body k_ref36_Few ⟨rfl, Nat.le_of_ble_eq_true rfl, thaw_intro ?_⟩
  unfold c_ref36_Few
  simp only [q1, q2, go_sem]
  refine t_call_intro (hF) ?_
  cases q3 : fewFp 100 rd wt
  · simp only [go_sem]
    simp only [aresult, ares, go_sem]
    simp [fewR, q3]
  have hG : fewR ⟨cl, sq, pr, args, dc, al, rd, wt⟩ = args.all (fun v => sh 300 v.s) := by simp [fewR, c1, c2, q3]
  rw [hG]
  simp only [go_sem]
  refine t_loop_intro (fun k : Nat => k ≤ args.length ∧ (args.all (fun v => sh 300 v.s) = (args.drop k).all (fun v => sh 300 v.s))) (fun k => args.length - k) 0 [2, 3, 20, 21, 22, 23, 24, 25, 26, 27, 28, 29, 30, 31, 32, 33, 34] (fun k => [(3, .a (.int .i64 k))]) ⟨by omega, by rfl⟩ (by simp) (fun k => by simp) rfl ?_
  intro k hk0 fr_ hfr
  have hk : k ≤ args.length := hk0.1
  have hall := hk0.2
  clear hk0
  simp only [go_sem] at hfr
  subst hfr
  by_cases hlt : k < args.length
  · have h1 : (k : Int) < (args.length : Int) := by omega
    have e := getD_map Vl.row args k hlt
    have er : args[k].row = [.int .i64 args[k].kind, .int .i64 args[k].n, .str args[k].s] := rfl
    have ew := wrap1 k args.length hlt (by omega)
    have es := all_dstep (fun v : Vl => sh 300 v.s) args k hlt
    by_cases c3 : args[k].s.size ≤ 300
    · have q3 : ¬ (300 : Int) < (args[k].s.size : Int) := by omega
      simp only [h1, e, er, q3, ew, go_sem]
      refine t_round (k + 1) ⟨by omega, by rw [hall, es]; simp [sh, c3]⟩ (by omega) (by simp) rfl rfl (by simp) rfl
    · have q3 : (300 : Int) < (args[k].s.size : Int) := by omega
      simp only [h1, e, er, q3, go_sem]
      simp only [aresult, ares, go_sem]
      rw [hall, es]; simp [sh, c3]
  · have h1 : ¬ (k : Int) < (args.length : Int) := by omega
    simp only [h1, go_sem]
    simp only [aresult, ares, go_sem]
    rw [hall, List.drop_eq_nil_of_le (by omega)]; rfl
theorem sh_le {m : Nat} {s : ByteArray} (h : sh m s = true) : s.size ≤ m := of_decide_eq_true h
end Go.Proofs.Ytemeiopghbpamaa
