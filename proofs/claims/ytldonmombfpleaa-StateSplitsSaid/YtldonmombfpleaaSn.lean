/- Chapter 06: the closures of Apply, Union and Diff. -/
import Derived.Test.YtldonmombfpleaaSm
set_option linter.unusedSimpArgs false
set_option linter.unusedVariables false
namespace Go.Proofs.Ytldonmombfpleaa
open Go Ab
attribute [local irreducible] awp aops aop asoft aeff aloop acall acallI acallT
attribute [local go_sem] Vl.row Rg.row Pr.row

def boxP (q : Pr) : List AV := [.a (.str q.key), .a (.int .i64 q.v.kind), .a (.int .i64 q.v.n), .a (.str q.v.s)]
theorem b_a1 : bodied Try.prog 32 = true := by kernel_rfl
theorem b_a2 : bodied Try.prog 33 = true := by kernel_rfl
theorem b_a3 : bodied Try.prog 37 = true := by kernel_rfl
theorem b_u1 : bodied Try.prog 42 = true := by kernel_rfl
theorem b_u2 : bodied Try.prog 43 = true := by kernel_rfl
theorem b_d1 : bodied Try.prog 44 = true := by kernel_rfl
theorem b_d2 : bodied Try.prog 45 = true := by kernel_rfl
theorem b_d3 : bodied Try.prog 46 = true := by kernel_rfl
theorem bOut (m : Nat) (o : Option (List Pr)) : Ab.boundV m (outO o).length (outV 0 o) = true := by cases o <;> simp [outV, outO, boundS]
def unionH (x : Option (List Pr) × Bool) : List (List AV) := [[outV 0 x.1], [.a (.bool x.2)]]
def diffH (o : Option (List Pr)) : List (List AV) := [[outV 0 o], [.clo 45 [.loc 0 0]]]

set_option maxRecDepth 100000 in
set_option maxHeartbeats 1000000 in
theorem keep_a0 (o : Option (List Pr)) (p : Pr) (hlen : ((outL o).length + 1) * 48 ≤ 140737488351232) :
    IDen Try.prog 32 [.agg p.row, .loc 0 0] (applyH o ++ []) (outO o) (.tup []) (applyH (add o p) ++ []) (outO (add o p)) false := by
  cases o with
  | none =>
    unfold applyH outO outV add outL
    refine iden_of_body k_state_Apply_1 ⟨rfl, Nat.le_of_ble_eq_true rfl, ⟨by simp, by simp [boundS, Ab.boundV], rfl⟩, thaw_intro ?_⟩
    unfold c_state_Apply_1
    simp only [go_sem]
    refine t_gate_intro (by decide) ?_
    simp only [go_sem]
    first | (simp only [aresultI, aresI, aggI, go_sem]; done) | (refine ⟨by simp only [aresultI, aresI, aggI, go_sem], by simp [Pr.row]⟩) | (refine ⟨by simp only [aresultI, aresI, aggI, go_sem], by simp, by simp⟩)
  | some l =>
    have g := gate48 l.length hlen
    unfold applyH outO outV add outL
    refine iden_of_body k_state_Apply_1 ⟨rfl, Nat.le_of_ble_eq_true rfl, ⟨by simp, by simp [boundS, Ab.boundV], rfl⟩, thaw_intro ?_⟩
    unfold c_state_Apply_1
    simp only [go_sem]
    refine t_gate_intro g ?_
    simp only [go_sem]
    first | (simp only [aresultI, aresI, aggI, go_sem]; done) | (refine ⟨by simp only [aresultI, aresI, aggI, go_sem], by simp [Pr.row]⟩) | (refine ⟨by simp only [aresultI, aresI, aggI, go_sem], by simp, by simp⟩)

set_option maxRecDepth 100000 in
set_option maxHeartbeats 1000000 in
theorem keep_a1 (o : Option (List Pr)) (p : Pr) (q1 : Pr) (hlen : ((outL o).length + 1) * 48 ≤ 140737488351232) :
    IDen Try.prog 32 [.agg p.row, .loc 0 0] (applyH o ++ [boxP q1]) (outO o) (.tup []) (applyH (add o p) ++ [boxP q1]) (outO (add o p)) false := by
  cases o with
  | none =>
    unfold applyH outO outV add outL boxP
    refine iden_of_body k_state_Apply_1 ⟨rfl, Nat.le_of_ble_eq_true rfl, ⟨by simp, by simp [boundS, Ab.boundV], rfl⟩, thaw_intro ?_⟩
    unfold c_state_Apply_1
    simp only [go_sem]
    refine t_gate_intro (by decide) ?_
    simp only [go_sem]
    first | (simp only [aresultI, aresI, aggI, go_sem]; done) | (refine ⟨by simp only [aresultI, aresI, aggI, go_sem], by simp [Pr.row]⟩) | (refine ⟨by simp only [aresultI, aresI, aggI, go_sem], by simp, by simp⟩)
  | some l =>
    have g := gate48 l.length hlen
    unfold applyH outO outV add outL boxP
    refine iden_of_body k_state_Apply_1 ⟨rfl, Nat.le_of_ble_eq_true rfl, ⟨by simp, by simp [boundS, Ab.boundV], rfl⟩, thaw_intro ?_⟩
    unfold c_state_Apply_1
    simp only [go_sem]
    refine t_gate_intro g ?_
    simp only [go_sem]
    first | (simp only [aresultI, aresI, aggI, go_sem]; done) | (refine ⟨by simp only [aresultI, aresI, aggI, go_sem], by simp [Pr.row]⟩) | (refine ⟨by simp only [aresultI, aresI, aggI, go_sem], by simp, by simp⟩)

set_option maxRecDepth 100000 in
set_option maxHeartbeats 1000000 in
theorem keep_a3 (o : Option (List Pr)) (p : Pr) (q1 : Pr) (q2 : Pr) (q3 : Pr) (hlen : ((outL o).length + 1) * 48 ≤ 140737488351232) :
    IDen Try.prog 32 [.agg p.row, .loc 0 0] (applyH o ++ [boxP q1, boxP q2, boxP q3]) (outO o) (.tup []) (applyH (add o p) ++ [boxP q1, boxP q2, boxP q3]) (outO (add o p)) false := by
  cases o with
  | none =>
    unfold applyH outO outV add outL boxP
    refine iden_of_body k_state_Apply_1 ⟨rfl, Nat.le_of_ble_eq_true rfl, ⟨by simp, by simp [boundS, Ab.boundV], rfl⟩, thaw_intro ?_⟩
    unfold c_state_Apply_1
    simp only [go_sem]
    refine t_gate_intro (by decide) ?_
    simp only [go_sem]
    first | (simp only [aresultI, aresI, aggI, go_sem]; done) | (refine ⟨by simp only [aresultI, aresI, aggI, go_sem], by simp [Pr.row]⟩) | (refine ⟨by simp only [aresultI, aresI, aggI, go_sem], by simp, by simp⟩)
  | some l =>
    have g := gate48 l.length hlen
    unfold applyH outO outV add outL boxP
    refine iden_of_body k_state_Apply_1 ⟨rfl, Nat.le_of_ble_eq_true rfl, ⟨by simp, by simp [boundS, Ab.boundV], rfl⟩, thaw_intro ?_⟩
    unfold c_state_Apply_1
    simp only [go_sem]
    refine t_gate_intro g ?_
    simp only [go_sem]
    first | (simp only [aresultI, aresI, aggI, go_sem]; done) | (refine ⟨by simp only [aresultI, aresI, aggI, go_sem], by simp [Pr.row]⟩) | (refine ⟨by simp only [aresultI, aresI, aggI, go_sem], by simp, by simp⟩)

set_option maxRecDepth 100000 in
set_option maxHeartbeats 1000000 in
theorem keep_u0 (o : Option (List Pr)) (p : Pr) (t : Bool) (hlen : ((outL o).length + 1) * 48 ≤ 140737488351232) :
    IDen Try.prog 42 [.agg p.row, .loc 0 0] (unionH (o, t) ++ []) (outO o) (.tup []) (unionH (add o p, t) ++ []) (outO (add o p)) false := by
  cases o with
  | none =>
    unfold unionH outO outV add outL
    refine iden_of_body k_state_Union_1 ⟨rfl, Nat.le_of_ble_eq_true rfl, ⟨by simp, by simp [boundS, Ab.boundV], rfl⟩, thaw_intro ?_⟩
    unfold c_state_Union_1
    simp only [go_sem]
    refine t_gate_intro (by decide) ?_
    simp only [go_sem]
    first | (simp only [aresultI, aresI, aggI, go_sem]; done) | (refine ⟨by simp only [aresultI, aresI, aggI, go_sem], by simp [Pr.row]⟩) | (refine ⟨by simp only [aresultI, aresI, aggI, go_sem], by simp, by simp⟩)
  | some l =>
    have g := gate48 l.length hlen
    unfold unionH outO outV add outL
    refine iden_of_body k_state_Union_1 ⟨rfl, Nat.le_of_ble_eq_true rfl, ⟨by simp, by simp [boundS, Ab.boundV], rfl⟩, thaw_intro ?_⟩
    unfold c_state_Union_1
    simp only [go_sem]
    refine t_gate_intro g ?_
    simp only [go_sem]
    first | (simp only [aresultI, aresI, aggI, go_sem]; done) | (refine ⟨by simp only [aresultI, aresI, aggI, go_sem], by simp [Pr.row]⟩) | (refine ⟨by simp only [aresultI, aresI, aggI, go_sem], by simp, by simp⟩)

set_option maxRecDepth 100000 in
set_option maxHeartbeats 1000000 in
theorem keep_d0 (o : Option (List Pr)) (p : Pr) (hlen : ((outL o).length + 1) * 48 ≤ 140737488351232) :
    IDen Try.prog 45 [.agg p.row, .loc 0 0] (diffH o ++ []) (outO o) (.tup []) (diffH (add o p) ++ []) (outO (add o p)) false := by
  cases o with
  | none =>
    unfold diffH outO outV add outL
    refine iden_of_body k_state_Diff_2 ⟨rfl, Nat.le_of_ble_eq_true rfl, ⟨by simp, by simp [boundS, Ab.boundV], rfl⟩, thaw_intro ?_⟩
    unfold c_state_Diff_2
    simp only [go_sem]
    refine t_gate_intro (by decide) ?_
    simp only [go_sem]
    first | (simp only [aresultI, aresI, aggI, go_sem]; done) | (refine ⟨by simp only [aresultI, aresI, aggI, go_sem], by simp [Pr.row]⟩) | (refine ⟨by simp only [aresultI, aresI, aggI, go_sem], by simp, by simp⟩)
  | some l =>
    have g := gate48 l.length hlen
    unfold diffH outO outV add outL
    refine iden_of_body k_state_Diff_2 ⟨rfl, Nat.le_of_ble_eq_true rfl, ⟨by simp, by simp [boundS, Ab.boundV], rfl⟩, thaw_intro ?_⟩
    unfold c_state_Diff_2
    simp only [go_sem]
    refine t_gate_intro g ?_
    simp only [go_sem]
    first | (simp only [aresultI, aresI, aggI, go_sem]; done) | (refine ⟨by simp only [aresultI, aresI, aggI, go_sem], by simp [Pr.row]⟩) | (refine ⟨by simp only [aresultI, aresI, aggI, go_sem], by simp, by simp⟩)

set_option maxRecDepth 100000 in
set_option maxHeartbeats 1000000 in
theorem keep_d2 (o : Option (List Pr)) (p : Pr) (q1 : Pr) (q2 : Pr) (hlen : ((outL o).length + 1) * 48 ≤ 140737488351232) :
    IDen Try.prog 45 [.agg p.row, .loc 0 0] (diffH o ++ [boxP q1, boxP q2]) (outO o) (.tup []) (diffH (add o p) ++ [boxP q1, boxP q2]) (outO (add o p)) false := by
  cases o with
  | none =>
    unfold diffH outO outV add outL boxP
    refine iden_of_body k_state_Diff_2 ⟨rfl, Nat.le_of_ble_eq_true rfl, ⟨by simp, by simp [boundS, Ab.boundV], rfl⟩, thaw_intro ?_⟩
    unfold c_state_Diff_2
    simp only [go_sem]
    refine t_gate_intro (by decide) ?_
    simp only [go_sem]
    first | (simp only [aresultI, aresI, aggI, go_sem]; done) | (refine ⟨by simp only [aresultI, aresI, aggI, go_sem], by simp [Pr.row]⟩) | (refine ⟨by simp only [aresultI, aresI, aggI, go_sem], by simp, by simp⟩)
  | some l =>
    have g := gate48 l.length hlen
    unfold diffH outO outV add outL boxP
    refine iden_of_body k_state_Diff_2 ⟨rfl, Nat.le_of_ble_eq_true rfl, ⟨by simp, by simp [boundS, Ab.boundV], rfl⟩, thaw_intro ?_⟩
    unfold c_state_Diff_2
    simp only [go_sem]
    refine t_gate_intro g ?_
    simp only [go_sem]
    first | (simp only [aresultI, aresI, aggI, go_sem]; done) | (refine ⟨by simp only [aresultI, aresI, aggI, go_sem], by simp [Pr.row]⟩) | (refine ⟨by simp only [aresultI, aresI, aggI, go_sem], by simp, by simp⟩)

def addW (o : Option (List Pr)) (p : Pr) : Option (List Pr) := if p.v.kind = 0 then o else add o p

set_option maxRecDepth 100000 in
set_option maxHeartbeats 1000000 in
theorem write0 (o : Option (List Pr)) (p : Pr) (hlen : ((outL o).length + 1) * 48 ≤ 140737488351232) :
    IDen Try.prog 33 [.agg p.row, .loc 1 0] (applyH o ++ []) (outO o) (.tup []) (applyH (addW o p) ++ []) (outO (addW o p)) false := by
  by_cases hk : p.v.kind = 0
  · have hb : (p.v.kind == 0) = true := by simp [hk]
    have e : addW o p = o := by simp [addW, hk]
    rw [e]
    unfold applyH
    refine iden_of_body k_state_Apply_2 ⟨rfl, Nat.le_of_ble_eq_true rfl, ⟨by simp, by have hbo := bOut 3 (o); simp at hbo; simp [boundS]; exact hbo, rfl⟩, thaw_intro ?_⟩
    unfold c_state_Apply_2
    simp only [go_sem]
    refine t_call_intro (absent_den p) ?_
    simp only [hb, go_sem]
    first | (simp only [aresultI, aresI, aggI, go_sem]; done) | (refine ⟨by simp only [aresultI, aresI, aggI, go_sem], by simp [Pr.row]⟩) | (refine ⟨by simp only [aresultI, aresI, aggI, go_sem], by simp, by simp⟩)
  · have hb : (p.v.kind == 0) = false := by simp [hk]
    have e : addW o p = add o p := by simp [addW, hk]
    rw [e]
    unfold applyH
    refine iden_of_body k_state_Apply_2 ⟨rfl, Nat.le_of_ble_eq_true rfl, ⟨by simp, by have hbo := bOut 3 (add o p); simp at hbo; simp [boundS]; exact hbo, rfl⟩, thaw_intro ?_⟩
    unfold c_state_Apply_2
    simp only [go_sem]
    refine t_call_intro (absent_den p) ?_
    simp only [hb, b_a1, go_sem]
    refine t_callI_intro (keep_a1 o p p hlen) ?_
    unfold applyH boxP
    simp only [go_sem]
    first | (simp only [aresultI, aresI, aggI, go_sem]; done) | (refine ⟨by simp only [aresultI, aresI, aggI, go_sem], by simp [Pr.row]⟩) | (refine ⟨by simp only [aresultI, aresI, aggI, go_sem], by simp, by simp⟩)

set_option maxRecDepth 100000 in
set_option maxHeartbeats 1000000 in
theorem write2 (o : Option (List Pr)) (p : Pr) (q1 : Pr) (q2 : Pr) (hlen : ((outL o).length + 1) * 48 ≤ 140737488351232) :
    IDen Try.prog 33 [.agg p.row, .loc 1 0] (applyH o ++ [boxP q1, boxP q2]) (outO o) (.tup []) (applyH (addW o p) ++ [boxP q1, boxP q2]) (outO (addW o p)) false := by
  by_cases hk : p.v.kind = 0
  · have hb : (p.v.kind == 0) = true := by simp [hk]
    have e : addW o p = o := by simp [addW, hk]
    rw [e]
    unfold applyH boxP
    refine iden_of_body k_state_Apply_2 ⟨rfl, Nat.le_of_ble_eq_true rfl, ⟨by simp, by have hbo := bOut 5 (o); simp at hbo; simp [boundS]; exact hbo, rfl⟩, thaw_intro ?_⟩
    unfold c_state_Apply_2
    simp only [go_sem]
    refine t_call_intro (absent_den p) ?_
    simp only [hb, go_sem]
    first | (simp only [aresultI, aresI, aggI, go_sem]; done) | (refine ⟨by simp only [aresultI, aresI, aggI, go_sem], by simp [Pr.row]⟩) | (refine ⟨by simp only [aresultI, aresI, aggI, go_sem], by simp, by simp⟩)
  · have hb : (p.v.kind == 0) = false := by simp [hk]
    have e : addW o p = add o p := by simp [addW, hk]
    rw [e]
    unfold applyH boxP
    refine iden_of_body k_state_Apply_2 ⟨rfl, Nat.le_of_ble_eq_true rfl, ⟨by simp, by have hbo := bOut 5 (add o p); simp at hbo; simp [boundS]; exact hbo, rfl⟩, thaw_intro ?_⟩
    unfold c_state_Apply_2
    simp only [go_sem]
    refine t_call_intro (absent_den p) ?_
    simp only [hb, b_a1, go_sem]
    refine t_callI_intro (keep_a3 o p q1 q2 p hlen) ?_
    unfold applyH boxP
    simp only [go_sem]
    first | (simp only [aresultI, aresI, aggI, go_sem]; done) | (refine ⟨by simp only [aresultI, aresI, aggI, go_sem], by simp [Pr.row]⟩) | (refine ⟨by simp only [aresultI, aresI, aggI, go_sem], by simp, by simp⟩)

set_option maxRecDepth 100000 in
set_option maxHeartbeats 1000000 in
theorem both_a (o : Option (List Pr)) (x p : Pr) (hlen : ((outL o).length + 1) * 48 ≤ 140737488351232) :
    IDen Try.prog 37 [.agg x.row, .agg p.row, .loc 2 0] (applyH o) (outO o) (.tup []) (applyH (addW o p)) (outO (addW o p)) false := by
  unfold applyH
  refine iden_of_body k_state_Apply_3 ⟨rfl, Nat.le_of_ble_eq_true rfl, ⟨by simp, by have hbo := bOut 3 (addW o p); simp at hbo; simp [boundS]; exact hbo, rfl⟩, thaw_intro ?_⟩
  unfold c_state_Apply_3
  simp only [b_a2, go_sem]
  refine t_callI_intro (write2 o p x p hlen) ?_
  unfold applyH boxP
  simp only [go_sem]
  first | (simp only [aresultI, aresI, aggI, go_sem]; done) | (refine ⟨by simp only [aresultI, aresI, aggI, go_sem], by simp [Pr.row]⟩) | (refine ⟨by simp only [aresultI, aresI, aggI, go_sem], by simp, by simp⟩)

set_option maxRecDepth 100000 in
set_option maxHeartbeats 1000000 in
theorem both_u (o : Option (List Pr)) (x p : Pr) (t : Bool) :
    IDen Try.prog 43 [.agg x.row, .agg p.row, .loc 1 0] (unionH (o, t)) (outO o) (.tup []) (unionH (o, true)) (outO o) false := by
  cases o with
  | none =>
    unfold unionH outO outV
    refine iden_of_body k_state_Union_2 ⟨rfl, Nat.le_of_ble_eq_true rfl, ⟨by simp, by simp [boundS, Ab.boundV], rfl⟩, thaw_intro ?_⟩
    unfold c_state_Union_2
    simp only [go_sem]
    first | (simp only [aresultI, aresI, aggI, go_sem]; done) | (refine ⟨by simp only [aresultI, aresI, aggI, go_sem], by simp [Pr.row]⟩) | (refine ⟨by simp only [aresultI, aresI, aggI, go_sem], by simp, by simp⟩)
  | some l =>
    unfold unionH outO outV
    refine iden_of_body k_state_Union_2 ⟨rfl, Nat.le_of_ble_eq_true rfl, ⟨by simp, by simp [boundS, Ab.boundV], rfl⟩, thaw_intro ?_⟩
    unfold c_state_Union_2
    simp only [go_sem]
    first | (simp only [aresultI, aresI, aggI, go_sem]; done) | (refine ⟨by simp only [aresultI, aresI, aggI, go_sem], by simp [Pr.row]⟩) | (refine ⟨by simp only [aresultI, aresI, aggI, go_sem], by simp, by simp⟩)

def nilP (p : Pr) : Pr := ⟨p.key, ⟨0, 0, ⟨#[]⟩⟩⟩

set_option maxRecDepth 100000 in
set_option maxHeartbeats 1000000 in
theorem rem_d (o : Option (List Pr)) (p : Pr) (hlen : ((outL o).length + 1) * 48 ≤ 140737488351232) :
    IDen Try.prog 44 [.agg p.row, .loc 0 0] (diffH o) (outO o) (.tup []) (diffH (add o (nilP p))) (outO (add o (nilP p))) false := by
  cases o with
  | none =>
    unfold diffH outO outV add outL
    refine iden_of_body k_state_Diff_1 ⟨rfl, Nat.le_of_ble_eq_true rfl, ⟨by simp, by simp [boundS, Ab.boundV], rfl⟩, thaw_intro ?_⟩
    unfold c_state_Diff_1
    simp only [go_sem]
    refine t_gate_intro (by decide) ?_
    simp only [go_sem]
    first | (simp only [aresultI, aresI, aggI, go_sem]; done) | (refine ⟨by simp only [aresultI, aresI, aggI, go_sem], by simp [Pr.row, nilP]⟩) | (refine ⟨by simp only [aresultI, aresI, aggI, go_sem], by simp, by simp⟩)
  | some l =>
    have g := gate48 l.length hlen
    unfold diffH outO outV add outL
    refine iden_of_body k_state_Diff_1 ⟨rfl, Nat.le_of_ble_eq_true rfl, ⟨by simp, by simp [boundS, Ab.boundV], rfl⟩, thaw_intro ?_⟩
    unfold c_state_Diff_1
    simp only [go_sem]
    refine t_gate_intro g ?_
    simp only [go_sem]
    first | (simp only [aresultI, aresI, aggI, go_sem]; done) | (refine ⟨by simp only [aresultI, aresI, aggI, go_sem], by simp [Pr.row, nilP]⟩) | (refine ⟨by simp only [aresultI, aresI, aggI, go_sem], by simp, by simp⟩)

def addD (o : Option (List Pr)) (x y : Pr) : Option (List Pr) := if vlEq x.v y.v = true then o else add o y

set_option maxRecDepth 100000 in
set_option maxHeartbeats 1000000 in
theorem both_d (o : Option (List Pr)) (x y : Pr) (hlen : ((outL o).length + 1) * 48 ≤ 140737488351232) :
    IDen Try.prog 46 [.agg x.row, .agg y.row, .loc 1 0] (diffH o) (outO o) (.tup []) (diffH (addD o x y)) (outO (addD o x y)) false := by
  by_cases hk : vlEq x.v y.v = true
  · have hb := hk
    rw [vlEq_row] at hb
    have e : addD o x y = o := by simp [addD, hk]
    rw [e]
    unfold diffH
    refine iden_of_body k_state_Diff_3 ⟨rfl, Nat.le_of_ble_eq_true rfl, ⟨by simp, by have hbo := bOut 2 (o); simp at hbo; simp [boundS]; exact hbo, rfl⟩, thaw_intro ?_⟩
    unfold c_state_Diff_3
    simp only [hb, go_sem]
    first | (simp only [aresultI, aresI, aggI, go_sem]; done) | (refine ⟨by simp only [aresultI, aresI, aggI, go_sem], by simp [Pr.row]⟩) | (refine ⟨by simp only [aresultI, aresI, aggI, go_sem], by simp, by simp⟩)
  · have hb : vlEq x.v y.v = false := by simpa using hk
    rw [vlEq_row] at hb
    have e : addD o x y = add o y := by simp [addD, hk]
    rw [e]
    unfold diffH
    refine iden_of_body k_state_Diff_3 ⟨rfl, Nat.le_of_ble_eq_true rfl, ⟨by simp, by have hbo := bOut 2 (add o y); simp at hbo; simp [boundS]; exact hbo, rfl⟩, thaw_intro ?_⟩
    unfold c_state_Diff_3
    simp only [hb, b_d2, go_sem]
    refine t_callI_intro (keep_d2 o y x y hlen) ?_
    unfold diffH boxP
    simp only [go_sem]
    first | (simp only [aresultI, aresI, aggI, go_sem]; done) | (refine ⟨by simp only [aresultI, aresI, aggI, go_sem], by simp [Pr.row]⟩) | (refine ⟨by simp only [aresultI, aresI, aggI, go_sem], by simp, by simp⟩)

end Go.Proofs.Ytldonmombfpleaa
