/- Requests: their equality and copies (out of the texts of chapter 36). -/
import Derived.Test.YtbiongfnbbnndaaCv
set_option linter.unusedSimpArgs false
set_option linter.unusedVariables false
namespace Go.Proofs.Ytbiongfnbbnndaa
open Go Ab Go.RowKit
set_option maxRecDepth 100000
attribute [local irreducible] awp aops aop asoft aeff aloop acall acallI acallT
attribute [local go_sem] Vl.row
def sRow (s : ByteArray) : List Atom := [.str s]
attribute [local go_sem] sRow
set_option maxRecDepth 100000 in
set_option maxHeartbeats 400000 in
theorem clVals_den (l : List Vl) (hl : l.length * 32 ≤ 140737488351232) : PDen Try.prog 53 [.a (.slice 3 (l.map Vl.row))] (.a (.slice 3 (l.map Vl.row))) := by
  refine PDen.nn ?_ fun h0 => ?_
  · refine den_of_body k_slices_Clone_api_Value_api_Value ⟨rfl, Nat.le_of_ble_eq_true rfl, thaw_intro ?_⟩
    unfold c_slices_Clone_api_Value_api_Value
    simp only [go_sem]
    refine t_gate_intro (by simp; omega) ?_
    simp only [go_sem]
    simp only [aresult, ares, go_sem]
  · have h1 : l = [] := by simpa using h0
    subst h1
    refine PDen.resA (x := .nils) ?_ (RLe.nils 3)
    refine den_of_body k_slices_Clone_api_Value_api_Value ⟨rfl, Nat.le_of_ble_eq_true rfl, thaw_intro ?_⟩
    unfold c_slices_Clone_api_Value_api_Value
    simp only [go_sem]
    simp only [aresult, ares, go_sem]
set_option maxRecDepth 100000 in
set_option maxHeartbeats 400000 in
theorem clStrs_den (l : List ByteArray) (hl : l.length * 16 ≤ 140737488351232) : PDen Try.prog 54 [.a (.slice 1 (l.map sRow))] (.a (.slice 1 (l.map sRow))) := by
  refine PDen.nn ?_ fun h0 => ?_
  · refine den_of_body k_slices_Clone_string_string ⟨rfl, Nat.le_of_ble_eq_true rfl, thaw_intro ?_⟩
    unfold c_slices_Clone_string_string
    simp only [go_sem]
    refine t_gate_intro (by simp; omega) ?_
    simp only [go_sem]
    simp only [aresult, ares, go_sem]
  · have h1 : l = [] := by simpa using h0
    subst h1
    refine PDen.resA (x := .nils) ?_ (RLe.nils 1)
    refine den_of_body k_slices_Clone_string_string ⟨rfl, Nat.le_of_ble_eq_true rfl, thaw_intro ?_⟩
    unfold c_slices_Clone_string_string
    simp only [go_sem]
    simp only [aresult, ares, go_sem]
def eqL {α : Type} (f : α → α → Bool) : List α → List α → Bool
  | [], [] => true
  | x :: xs, y :: ys => f x y && eqL f xs ys
  | _, _ => false
theorem eqL_len {α : Type} (f : α → α → Bool) : ∀ (a b : List α), a.length ≠ b.length → eqL f a b = false
  | [], [], h => absurd rfl h
  | [], _ :: _, _ => rfl
  | _ :: _, [], _ => rfl
  | x :: xs, y :: ys, h => by simp only [eqL]; rw [eqL_len f xs ys (by simpa using h), Bool.and_false]
theorem eqL_step {α : Type} (f : α → α → Bool) (a b : List α) (k : Nat) (h : k < a.length) (h2 : k < b.length) : eqL f (a.drop k) (b.drop k) = (f a[k] b[k] && eqL f (a.drop (k + 1)) (b.drop (k + 1))) := by
  rw [List.drop_eq_getElem_cons h, List.drop_eq_getElem_cons h2]; rfl
def strEq (a b : ByteArray) : Bool := a.toList == b.toList
set_option maxRecDepth 100000 in
set_option maxHeartbeats 1000000 in
theorem rksame_den (a b : List ByteArray) (ha : a.length ≤ 9223372036854775807) : PDen Try.prog 77 [.a (.slice 1 (a.map sRow)), .a (.slice 1 (b.map sRow))] (.a (.bool (eqL strEq a b))) := by
  by_cases hl : a.length = b.length
  · have q : ((a.length : Int) != (b.length : Int)) = false := by simp [hl]
    refine den_of_body k_ref04_Same ⟨rfl, Nat.le_of_ble_eq_true rfl, thaw_intro ?_⟩
    unfold c_ref04_Same
    simp only [q, go_sem]
    refine t_loop_intro (fun k : Nat => k ≤ a.length ∧ (eqL strEq a b = eqL strEq (a.drop k) (b.drop k))) (fun k => a.length - k) 0 [4, 5, 11, 12, 13, 14, 15, 16, 17, 18, 19, 20, 21, 22, 23, 24, 25] (fun k => [(5, .a (.int .i64 k))]) ⟨by omega, by rfl⟩ (by simp) (fun k => by simp) rfl ?_
    intro k hk0 fr_ hfr
    have hk : k ≤ a.length := hk0.1
    have hall := hk0.2
    clear hk0
    simp only [go_sem] at hfr
    subst hfr
    by_cases hlt : k < a.length
    · have h1 : (k : Int) < (a.length : Int) := by omega
      have h1' : (k : Int) < (b.length : Int) := by omega
      have hlt2 : k < b.length := by omega
      have e := getD_map sRow a k hlt
      have e2 := getD_map sRow b k hlt2
      have er : sRow a[k] = [.str a[k]] := rfl
      have er2 : sRow b[k] = [.str b[k]] := rfl
      have ew := wrap1 k a.length hlt (by omega)
      have es := eqL_step strEq a b k hlt hlt2
      cases hq : strEq a[k] b[k] with
      | true =>
        have hq' : (a[k].toList == b[k].toList) = true := hq
        simp only [h1, h1', e, er, e2, er2, hq', ew, go_sem]
        refine t_round (k + 1) ⟨by omega, by rw [hall, es, hq]; rfl⟩ (by omega) (by simp) rfl rfl (by simp) rfl
      | false =>
        have hq' : (a[k].toList == b[k].toList) = false := hq
        simp only [h1, h1', e, er, e2, er2, hq', go_sem]
        simp only [aresult, ares, go_sem]
        rw [hall, es, hq]; rfl
    · have h1 : ¬ (k : Int) < (a.length : Int) := by omega
      simp only [h1, go_sem]
      simp only [aresult, ares, go_sem]
      rw [hall, List.drop_eq_nil_of_le (by omega), List.drop_eq_nil_of_le (by omega)]; rfl
  · have q : ((a.length : Int) != (b.length : Int)) = true := by simp; omega
    rw [eqL_len strEq a b hl]
    refine den_of_body k_ref04_Same ⟨rfl, Nat.le_of_ble_eq_true rfl, thaw_intro ?_⟩
    unfold c_ref04_Same
    simp only [q, go_sem]
    simp only [aresult, ares, go_sem]
structure Req where
  cl : Int
  sq : Int
  pr : ByteArray
  args : List Vl
  dc : Bool
  al : Bool
  rd : List ByteArray
  wt : List ByteArray
def fpRow (al : Bool) (rd wt : List ByteArray) : List Atom := [.bool al, .slice 1 (rd.map sRow), .slice 1 (wt.map sRow)]
def Req.row (r : Req) : List Atom := [.int .i64 r.cl, .int .i64 r.sq, .str r.pr, .slice 3 (r.args.map Vl.row), .bool r.dc, .bool r.al, .slice 1 (r.rd.map sRow), .slice 1 (r.wt.map sRow)]
/-- No longer than what can be in memory. -/
structure Req.bulk (r : Req) : Prop where
  args : r.args.length * 32 ≤ 140737488351232
  rd : r.rd.length * 16 ≤ 140737488351232
  wt : r.wt.length * 16 ≤ 140737488351232
theorem rowr (r : Req) : r.row = [.int .i64 r.cl, .int .i64 r.sq, .str r.pr, .slice 3 (r.args.map Vl.row), .bool r.dc, .bool r.al, .slice 1 (r.rd.map sRow), .slice 1 (r.wt.map sRow)] := rfl
attribute [local go_sem] fpRow Req.row
def vlEqq (a b : Vl) : Bool := (a.kind == b.kind) && ((a.n == b.n) && ((a.s.toList == b.s.toList) && true))
theorem eqL_refl {α : Type} (f : α → α → Bool) (h : ∀ x, f x x = true) : ∀ l, eqL f l l = true
  | [] => rfl
  | x :: xs => by simp only [eqL]; rw [h x, eqL_refl f h xs]; rfl
theorem strEq_refl (a : ByteArray) : strEq a a = true := by simp [strEq]
theorem vlEqq_refl (a : Vl) : vlEqq a a = true := by simp [vlEqq]
theorem bs_eq {a b : ByteArray} (h : a.toList = b.toList) : a = b := ba_ext h
def reqEq (a b : Req) : Bool := (a.cl == b.cl) && (a.sq == b.sq) && (a.pr.toList == b.pr.toList) && eqL vlEqq a.args b.args && (a.dc == b.dc) && (a.al == b.al) && eqL strEq a.rd b.rd && eqL strEq a.wt b.wt
theorem reqEq_refl (a : Req) : reqEq a a = true := by
  simp [reqEq, eqL_refl _ vlEqq_refl, eqL_refl _ strEq_refl]
def reqsEq (a b : List Req) : Bool := eqL reqEq a b
theorem reqsEq_refl (a : List Req) : reqsEq a a = true := eqL_refl _ reqEq_refl a
structure Req.fits (r : Req) : Prop where
  args : r.args.length ≤ 9223372036854775807
  rd : r.rd.length ≤ 9223372036854775807
  wt : r.wt.length ≤ 9223372036854775807
def fpEq (al al' : Bool) (rd rd' wt wt' : List ByteArray) : Bool := (al == al') && (eqL strEq rd rd' && eqL strEq wt wt')
set_option maxRecDepth 100000 in
set_option maxHeartbeats 4000000 in
theorem rfpsame_den (al al' : Bool) (rd rd' wt wt' : List ByteArray) (hr : rd.length ≤ 9223372036854775807) (hw : wt.length ≤ 9223372036854775807) : PDen Try.prog 61 [.agg (fpRow al rd wt), .agg (fpRow al' rd' wt')] (.a (.bool (fpEq al al' rd rd' wt wt'))) := by
  have hR := rksame_den rd rd' hr
  have hW := rksame_den wt wt' hw
  refine den_of_body k_ref19_Same ⟨rfl, Nat.le_of_ble_eq_true rfl, thaw_intro ?_⟩
  unfold c_ref19_Same
  simp only [go_sem]
  cases q1 : (al == al')
  · simp only [go_sem]
    simp only [aresult, ares, go_sem]
    simp [fpEq, q1]
  simp only [go_sem]
  refine t_call_intro (hR) ?_
  cases q2 : eqL strEq rd rd'
  · simp only [go_sem]
    simp only [aresult, ares, go_sem]
    simp [fpEq, q1, q2]
  simp only [go_sem]
  refine t_call_intro (hW) ?_
  simp only [go_sem]
  simp only [aresult, ares, go_sem]
  simp [fpEq, q1, q2]
set_option maxRecDepth 100000 in
set_option maxHeartbeats 4000000 in
theorem rsame_den (a b : Req) (ha : a.fits) : PDen Try.prog 40 [.agg a.row, .agg b.row] (.a (.bool (reqEq a b))) := by
  obtain ⟨ha1, ha2, ha3⟩ := ha
  obtain ⟨cl, sq, pr, args, dc, al, rd, wt⟩ := a
  obtain ⟨cl', sq', pr', args', dc', al', rd', wt'⟩ := b
  simp only at ha1 ha2 ha3
  have hF := rfpsame_den al al' rd rd' wt wt' ha2 ha3
  have nb : ∀ {α : Type} [BEq α] (x y : α), (x != y) = !(x == y) := fun _ _ => rfl
  refine den_of_body k_ref36_Same ⟨rfl, Nat.le_of_ble_eq_true rfl, thaw_intro ?_⟩
  unfold c_ref36_Same
  simp only [nb, go_sem]
  cases q1 : (cl == cl')
  · simp only [go_sem]
    simp only [aresult, ares, go_sem]
    simp [reqEq, q1]
  simp only [nb, go_sem]
  cases q2 : (sq == sq')
  · simp only [go_sem]
    simp only [aresult, ares, go_sem]
    simp [reqEq, q2]
  simp only [nb, go_sem]
  cases q3 : (pr.toList == pr'.toList)
  · simp only [go_sem]
    simp only [aresult, ares, go_sem]
    simp [reqEq, q3]
  simp only [nb, go_sem]
  cases q4 : (dc == dc')
  · simp only [go_sem]
    simp only [aresult, ares, go_sem]
    simp [reqEq, q4]
  simp only [nb, go_sem]
  by_cases hl : args.length = args'.length
  rotate_left
  · have q : ((args.length : Int) == (args'.length : Int)) = false := by simp; omega
    simp only [nb, q, go_sem]
    simp only [aresult, ares, go_sem]
    simp [reqEq, eqL_len vlEqq args args' hl]
  have q : ((args.length : Int) == (args'.length : Int)) = true := by simp [hl]
  simp only [nb, q, go_sem]
  refine t_call_intro (hF) ?_
  cases q5 : fpEq al al' rd rd' wt wt'
  · simp only [go_sem]
    simp only [aresult, ares, go_sem]
    unfold fpEq at q5
    simp only [reqEq]
    cases h1 : (al == al') <;> cases h2 : eqL strEq rd rd' <;> cases h3 : eqL strEq wt wt' <;> simp [h1, h2, h3] at q5 ⊢
  have hG : reqEq ⟨cl, sq, pr, args, dc, al, rd, wt⟩ ⟨cl', sq', pr', args', dc', al', rd', wt'⟩ = eqL vlEqq args args' := by
    unfold fpEq at q5
    simp only [Bool.and_eq_true] at q5
    simp only [reqEq, q1, q2, q3, q4, q5.1, q5.2.1, q5.2.2, Bool.and_true, Bool.true_and]
  rw [hG]
  simp only [go_sem]
  refine t_loop_intro (fun k : Nat => k ≤ args.length ∧ (eqL vlEqq args args' = eqL vlEqq (args.drop k) (args'.drop k))) (fun k => args.length - k) 0 [4, 5, 49, 50, 51, 52, 53, 54, 55, 56, 57, 58, 59, 60, 61, 62, 63, 64, 65, 66] (fun k => [(5, .a (.int .i64 k))]) ⟨by omega, by rfl⟩ (by simp) (fun k => by simp) rfl ?_
  intro k hk0 fr_ hfr
  have hk : k ≤ args.length := hk0.1
  have hall := hk0.2
  clear hk0
  simp only [go_sem] at hfr
  subst hfr
  by_cases hlt : k < args.length
  · have h1 : (k : Int) < (args.length : Int) := by omega
    have h1' : (k : Int) < (args'.length : Int) := by omega
    have hlt2 : k < args'.length := by omega
    have e := getD_map Vl.row args k hlt
    have e2 := getD_map Vl.row args' k hlt2
    have er : args[k].row = [.int .i64 args[k].kind, .int .i64 args[k].n, .str args[k].s] := rfl
    have er2 : args'[k].row = [.int .i64 args'[k].kind, .int .i64 args'[k].n, .str args'[k].s] := rfl
    have ew := wrap1 k args.length hlt (by omega)
    have es := eqL_step vlEqq args args' k hlt hlt2
    cases hq : vlEqq args[k] args'[k] with
    | true =>
      have hq' : ((args[k].kind == args'[k].kind) && ((args[k].n == args'[k].n) && ((args[k].s.toList == args'[k].s.toList) && true))) = true := hq
      simp only [h1, h1', e, er, e2, er2, hq', ew, go_sem]
      refine t_round (k + 1) ⟨by omega, by rw [hall, es, hq]; rfl⟩ (by omega) (by simp) rfl rfl (by simp) rfl
    | false =>
      have hq' : ((args[k].kind == args'[k].kind) && ((args[k].n == args'[k].n) && ((args[k].s.toList == args'[k].s.toList) && true))) = false := hq
      simp only [h1, h1', e, er, e2, er2, hq', go_sem]
      simp only [aresult, ares, go_sem]
      rw [hall, es, hq]; rfl
  · have h1 : ¬ (k : Int) < (args.length : Int) := by omega
    simp only [h1, go_sem]
    simp only [aresult, ares, go_sem]
    rw [hall, List.drop_eq_nil_of_le (by omega), List.drop_eq_nil_of_le (by omega)]; rfl
end Go.Proofs.Ytbiongfnbbnndaa
