/- Chapter 06: Apply, Union and Diff, given what merge makes. -/
import Derived.Test.YtldonmombfpleaaSn
import Derived.Test.YtldonmombfpleaaAbP
set_option linter.unusedSimpArgs false
set_option linter.unusedVariables false
namespace Go.Proofs.Ytldonmombfpleaa
open Go Ab
attribute [local irreducible] awp aops aop asoft aeff aloop acall acallI acallT
attribute [local go_sem] Vl.row Rg.row Pr.row

def roomG (n : Nat) (o : Option (List Pr)) : Prop := ((outL o).length + n) * 48 ≤ 140737488351232
theorem room_add {n : Nat} {o : Option (List Pr)} (p : Pr) (h : roomG (n + 1) o) : roomG n (add o p) := by
  unfold roomG at *
  have e : (outL (add o p)).length = (outL o).length + 1 := by show (outL o ++ [p]).length = _; simp
  rw [e]; omega
theorem room_down {n : Nat} {o : Option (List Pr)} (h : roomG (n + 1) o) : roomG n o := by
  unfold roomG at *; omega
theorem room_one {n : Nat} {o : Option (List Pr)} (h : roomG (n + 1) o) : ((outL o).length + 1) * 48 ≤ 140737488351232 := by
  unfold roomG at *; omega
theorem room_addW {n : Nat} {o : Option (List Pr)} (p : Pr) (h : roomG (n + 1) o) : roomG n (addW o p) := by
  unfold addW; split
  · exact room_down h
  · exact room_add p h
theorem room_addD {n : Nat} {o : Option (List Pr)} (x y : Pr) (h : roomG (n + 1) o) : roomG n (addD o x y) := by
  unfold addD; split
  · exact room_down h
  · exact room_add y h
def applyL (x : Pr) (o : Option (List Pr)) : Option (List Pr) := add o x
def applyR (y : Pr) (o : Option (List Pr)) : Option (List Pr) := addW o y
def applyB (_ y : Pr) (o : Option (List Pr)) : Option (List Pr) := addW o y
theorem applySteps : Steps applyH outO applyL applyR applyB 32 33 37 [.loc 0 0] [.loc 1 0] [.loc 2 0] roomG where
  len := fun s s' => rfl
  bH := fun s => by have hbo := bOut 3 s; simp at hbo; simp [applyH, boundS]; exact hbo
  bl := fun s => by simp [applyH, boundS]
  br := fun s => by simp [applyH, boundS]
  bb := fun s => by simp [applyH, boundS]
  ll := rfl
  lr := rfl
  lb := rfl
  dl := b_a1
  dr := b_a2
  db := b_a3
  sl := fun n x s h => ⟨keep_a0 s x (room_one h), room_add x h⟩
  sr := fun n x s h => ⟨write0 s x (room_one h), room_addW x h⟩
  sb := fun n x y s h => ⟨both_a s x y (room_one h), room_addW y h⟩
  down := fun n s h => room_down h
def diffL (x : Pr) (o : Option (List Pr)) : Option (List Pr) := add o (nilP x)
def diffR (y : Pr) (o : Option (List Pr)) : Option (List Pr) := add o y
def diffB (x y : Pr) (o : Option (List Pr)) : Option (List Pr) := addD o x y
theorem diffSteps : Steps diffH outO diffL diffR diffB 44 45 46 [.loc 0 0] [.loc 0 0] [.loc 1 0] roomG where
  len := fun s s' => rfl
  bH := fun s => by have hbo := bOut 2 s; simp at hbo; simp [diffH, boundS]; exact hbo
  bl := fun s => by simp [diffH, boundS]
  br := fun s => by simp [diffH, boundS]
  bb := fun s => by simp [diffH, boundS]
  ll := rfl
  lr := rfl
  lb := rfl
  dl := b_d1
  dr := b_d2
  db := b_d3
  sl := fun n x s h => ⟨rem_d s x (room_one h), room_add _ h⟩
  sr := fun n x s h => ⟨keep_d0 s x (room_one h), room_add x h⟩
  sb := fun n x y s h => ⟨both_d s x y (room_one h), room_addD x y h⟩
  down := fun n s h => room_down h
def uniL (x : Pr) (s : Option (List Pr) × Bool) : Option (List Pr) × Bool := (add s.1 x, s.2)
def uniB (_ _ : Pr) (s : Option (List Pr) × Bool) : Option (List Pr) × Bool := (s.1, true)
def roomU (n : Nat) (s : Option (List Pr) × Bool) : Prop := roomG n s.1
theorem uniSteps : Steps unionH (fun s => outO s.1) uniL uniL uniB 42 42 43 [.loc 0 0] [.loc 0 0] [.loc 1 0] roomU where
  len := fun s s' => rfl
  bH := fun s => by have hbo := bOut 2 s.1; simp at hbo; simp [unionH, boundS]; exact hbo
  bl := fun s => by simp [unionH, boundS]
  br := fun s => by simp [unionH, boundS]
  bb := fun s => by simp [unionH, boundS]
  ll := rfl
  lr := rfl
  lb := rfl
  dl := b_u1
  dr := b_u1
  db := b_u2
  sl := fun n x s h => ⟨keep_u0 s.1 x s.2 (room_one h), room_add x h⟩
  sr := fun n x s h => ⟨keep_u0 s.1 x s.2 (room_one h), room_add x h⟩
  sb := fun n x y s h => ⟨both_u s.1 x y s.2, room_down h⟩
  down := fun n s h => room_down h

def applyO (l ws : List Pr) : Option (List Pr) := mergeS applyL applyR applyB l ws none
def diffO (a b : List Pr) : Option (List Pr) := mergeS diffL diffR diffB a b none
def uniO (a b : List Pr) : Option (List Pr) × Bool := mergeS uniL uniL uniB a b (none, false)
def applyA (l ws : List Pr) : AV := if (stateV l && writesGo none ws) = true then .tup [.a (.slice 4 ((outL (applyO l ws)).map Pr.row)), .a (.int .i64 0)] else .tup [.a .nils, .a (.int .i64 1)]
def diffA (a b : List Pr) : AV := if (stateV a && stateV b) = true then .tup [.a (.slice 4 ((outL (diffO a b)).map Pr.row)), .a (.int .i64 0)] else .tup [.a .nils, .a (.int .i64 1)]
def uniA (a b : List Pr) : AV := if (stateV a && stateV b) = true then (if (uniO a b).2 = true then .tup [.a .nils, .a (.int .i64 8)] else .tup [.a (.slice 4 ((outL (uniO a b).1).map Pr.row)), .a (.int .i64 0)]) else .tup [.a .nils, .a (.int .i64 1)]

theorem nilTup (e : Int) : VLe (.tup [.a .nils, .a (.int .i64 e)]) (.tup [.a (.slice 4 []), .a (.int .i64 e)]) := VLe.tup ⟨VLe.a (RLe.nils 4), VLe.refl _, trivial⟩

set_option maxRecDepth 100000 in
set_option maxHeartbeats 2000000 in
theorem apply_den (l ws : List Pr) (hl : l.length * 40 ≤ 140737488351232) (hw : ws.length * 40 ≤ 140737488351232) (hsum : (l.length + ws.length) * 48 ≤ 140737488351232) (fl : ∀ p ∈ l, p.fit) (fw : ∀ p ∈ ws, p.fit) :
    PDen Try.prog 10 [.a (.slice 4 (l.map Pr.row)), .a (.slice 4 (ws.map Pr.row))] (applyA l ws) := by
  have hS := stateV_den l hl fl
  have hW := sorted_den ws hw fw
  by_cases h0 : stateV l = true
  · rw [h0] at hS
    by_cases h1 : writesGo none ws = true
    · rw [h1] at hW
      have hM := merge_iden applySteps l ws hl hw none (by unfold roomG; simp only [outL, List.length_nil]; omega)
      rw [show applyA l ws = .tup [.a (.slice 4 ((outL (applyO l ws)).map Pr.row)), .a (.int .i64 0)] by simp [applyA, h0, h1]]
      change IDen _ _ _ _ _ _ (applyH (applyO l ws)) (outO (applyO l ws)) _ at hM
      cases ho : applyO l ws with
      | none =>
        rw [ho] at hM
        refine PDen.le (r := .tup [.a .nils, .a (.int .i64 0)]) ?_ (nilTup 0)
        refine den_of_body k_state_Apply ⟨rfl, Nat.le_of_ble_eq_true rfl, thaw_intro ?_⟩
        unfold c_state_Apply
        simp only [go_sem]
        refine t_call_intro (hS) ?_
        simp only [go_sem]
        refine t_call_intro (hW) ?_
        simp only [go_sem]
        refine t_callI_intro hM ?_
        unfold applyH outV outO
        simp only [go_sem]
        simp only [aresult, ares, go_sem]
      | some m =>
        rw [ho] at hM
        refine den_of_body k_state_Apply ⟨rfl, Nat.le_of_ble_eq_true rfl, thaw_intro ?_⟩
        unfold c_state_Apply
        simp only [go_sem]
        refine t_call_intro (hS) ?_
        simp only [go_sem]
        refine t_call_intro (hW) ?_
        simp only [go_sem]
        refine t_callI_intro hM ?_
        unfold applyH outV outO outL
        simp only [go_sem]
        simp only [aresult, ares, go_sem]
    · rw [show applyA l ws = .tup [.a .nils, .a (.int .i64 1)] by simp [applyA, h1]]
      have h1 : writesGo none ws = false := by simpa using h1
      rw [h1] at hW
      refine den_of_body k_state_Apply ⟨rfl, Nat.le_of_ble_eq_true rfl, thaw_intro ?_⟩
      unfold c_state_Apply
      simp only [go_sem]
      refine t_call_intro (hS) ?_
      simp only [go_sem]
      refine t_call_intro (hW) ?_
      simp only [go_sem]
      simp only [aresult, ares, go_sem]
  · rw [show applyA l ws = .tup [.a .nils, .a (.int .i64 1)] by simp [applyA, h0]]
    have h0 : stateV l = false := by simpa using h0
    rw [h0] at hS
    refine den_of_body k_state_Apply ⟨rfl, Nat.le_of_ble_eq_true rfl, thaw_intro ?_⟩
    unfold c_state_Apply
    simp only [go_sem]
    refine t_call_intro (hS) ?_
    simp only [go_sem]
    simp only [aresult, ares, go_sem]
set_option maxRecDepth 100000 in
set_option maxHeartbeats 2000000 in
theorem diff_den (l ws : List Pr) (hl : l.length * 40 ≤ 140737488351232) (hw : ws.length * 40 ≤ 140737488351232) (hsum : (l.length + ws.length) * 48 ≤ 140737488351232) (fl : ∀ p ∈ l, p.fit) (fw : ∀ p ∈ ws, p.fit) :
    PDen Try.prog 19 [.a (.slice 4 (l.map Pr.row)), .a (.slice 4 (ws.map Pr.row))] (diffA l ws) := by
  have hS := stateV_den l hl fl
  have hW := stateV_den ws hw fw
  by_cases h0 : stateV l = true
  · rw [h0] at hS
    by_cases h1 : stateV ws = true
    · rw [h1] at hW
      have hM := merge_iden diffSteps l ws hl hw none (by unfold roomG; simp only [outL, List.length_nil]; omega)
      rw [show diffA l ws = .tup [.a (.slice 4 ((outL (diffO l ws)).map Pr.row)), .a (.int .i64 0)] by simp [diffA, h0, h1]]
      change IDen _ _ _ _ _ _ (diffH (diffO l ws)) (outO (diffO l ws)) _ at hM
      cases ho : diffO l ws with
      | none =>
        rw [ho] at hM
        refine PDen.le (r := .tup [.a .nils, .a (.int .i64 0)]) ?_ (nilTup 0)
        refine den_of_body k_state_Diff ⟨rfl, Nat.le_of_ble_eq_true rfl, thaw_intro ?_⟩
        unfold c_state_Diff
        simp only [go_sem]
        refine t_call_intro (hS) ?_
        simp only [go_sem]
        refine t_call_intro (hW) ?_
        simp only [go_sem]
        refine t_callI_intro hM ?_
        unfold diffH outV outO
        simp only [go_sem]
        simp only [aresult, ares, go_sem]
      | some m =>
        rw [ho] at hM
        refine den_of_body k_state_Diff ⟨rfl, Nat.le_of_ble_eq_true rfl, thaw_intro ?_⟩
        unfold c_state_Diff
        simp only [go_sem]
        refine t_call_intro (hS) ?_
        simp only [go_sem]
        refine t_call_intro (hW) ?_
        simp only [go_sem]
        refine t_callI_intro hM ?_
        unfold diffH outV outO outL
        simp only [go_sem]
        simp only [aresult, ares, go_sem]
    · rw [show diffA l ws = .tup [.a .nils, .a (.int .i64 1)] by simp [diffA, h1]]
      have h1 : stateV ws = false := by simpa using h1
      rw [h1] at hW
      refine den_of_body k_state_Diff ⟨rfl, Nat.le_of_ble_eq_true rfl, thaw_intro ?_⟩
      unfold c_state_Diff
      simp only [go_sem]
      refine t_call_intro (hS) ?_
      simp only [go_sem]
      refine t_call_intro (hW) ?_
      simp only [go_sem]
      simp only [aresult, ares, go_sem]
  · rw [show diffA l ws = .tup [.a .nils, .a (.int .i64 1)] by simp [diffA, h0]]
    have h0 : stateV l = false := by simpa using h0
    rw [h0] at hS
    refine den_of_body k_state_Diff ⟨rfl, Nat.le_of_ble_eq_true rfl, thaw_intro ?_⟩
    unfold c_state_Diff
    simp only [go_sem]
    refine t_call_intro (hS) ?_
    simp only [go_sem]
    simp only [aresult, ares, go_sem]
set_option maxRecDepth 100000 in
set_option maxHeartbeats 2000000 in
theorem uni_den (l ws : List Pr) (hl : l.length * 40 ≤ 140737488351232) (hw : ws.length * 40 ≤ 140737488351232) (hsum : (l.length + ws.length) * 48 ≤ 140737488351232) (fl : ∀ p ∈ l, p.fit) (fw : ∀ p ∈ ws, p.fit) :
    PDen Try.prog 17 [.a (.slice 4 (l.map Pr.row)), .a (.slice 4 (ws.map Pr.row))] (uniA l ws) := by
  have hS := stateV_den l hl fl
  have hW := stateV_den ws hw fw
  by_cases h0 : stateV l = true
  · rw [h0] at hS
    by_cases h1 : stateV ws = true
    · rw [h1] at hW
      have hM := merge_iden uniSteps l ws hl hw (none, false) (by unfold roomU roomG; simp only [outL, List.length_nil]; omega)
      change IDen _ _ _ _ _ _ (unionH (uniO l ws)) (outO (uniO l ws).1) _ at hM
      by_cases ht : (uniO l ws).2 = true
      · rw [show uniA l ws = .tup [.a .nils, .a (.int .i64 8)] by simp [uniA, h0, h1, ht]]
        rw [show uniO l ws = ((uniO l ws).1, true) by rw [← ht]] at hM
        cases ho : (uniO l ws).1 with
        | none =>
          rw [ho] at hM
          refine den_of_body k_state_Union ⟨rfl, Nat.le_of_ble_eq_true rfl, thaw_intro ?_⟩
          unfold c_state_Union
          simp only [go_sem]
          refine t_call_intro (hS) ?_
          simp only [go_sem]
          refine t_call_intro (hW) ?_
          simp only [go_sem]
          refine t_callI_intro hM ?_
          unfold unionH outV outO
          simp only [go_sem]
          simp only [aresult, ares, go_sem]
        | some m =>
          rw [ho] at hM
          refine den_of_body k_state_Union ⟨rfl, Nat.le_of_ble_eq_true rfl, thaw_intro ?_⟩
          unfold c_state_Union
          simp only [go_sem]
          refine t_call_intro (hS) ?_
          simp only [go_sem]
          refine t_call_intro (hW) ?_
          simp only [go_sem]
          refine t_callI_intro hM ?_
          unfold unionH outV outO
          simp only [go_sem]
          simp only [aresult, ares, go_sem]
      · have ht : (uniO l ws).2 = false := by simpa using ht
        rw [show uniA l ws = .tup [.a (.slice 4 ((outL (uniO l ws).1).map Pr.row)), .a (.int .i64 0)] by simp [uniA, h0, h1, ht]]
        rw [show uniO l ws = ((uniO l ws).1, false) by rw [← ht]] at hM
        cases ho : (uniO l ws).1 with
        | none =>
          rw [ho] at hM
          refine PDen.le (r := .tup [.a .nils, .a (.int .i64 0)]) ?_ (nilTup 0)
          refine den_of_body k_state_Union ⟨rfl, Nat.le_of_ble_eq_true rfl, thaw_intro ?_⟩
          unfold c_state_Union
          simp only [go_sem]
          refine t_call_intro (hS) ?_
          simp only [go_sem]
          refine t_call_intro (hW) ?_
          simp only [go_sem]
          refine t_callI_intro hM ?_
          unfold unionH outV outO
          simp only [go_sem]
          simp only [aresult, ares, go_sem]
        | some m =>
          rw [ho] at hM
          refine den_of_body k_state_Union ⟨rfl, Nat.le_of_ble_eq_true rfl, thaw_intro ?_⟩
          unfold c_state_Union
          simp only [go_sem]
          refine t_call_intro (hS) ?_
          simp only [go_sem]
          refine t_call_intro (hW) ?_
          simp only [go_sem]
          refine t_callI_intro hM ?_
          unfold unionH outV outO outL
          simp only [go_sem]
          simp only [aresult, ares, go_sem]
    · rw [show uniA l ws = .tup [.a .nils, .a (.int .i64 1)] by simp [uniA, h1]]
      have h1 : stateV ws = false := by simpa using h1
      rw [h1] at hW
      refine den_of_body k_state_Union ⟨rfl, Nat.le_of_ble_eq_true rfl, thaw_intro ?_⟩
      unfold c_state_Union
      simp only [go_sem]
      refine t_call_intro (hS) ?_
      simp only [go_sem]
      refine t_call_intro (hW) ?_
      simp only [go_sem]
      simp only [aresult, ares, go_sem]
  · rw [show uniA l ws = .tup [.a .nils, .a (.int .i64 1)] by simp [uniA, h0]]
    have h0 : stateV l = false := by simpa using h0
    rw [h0] at hS
    refine den_of_body k_state_Union ⟨rfl, Nat.le_of_ble_eq_true rfl, thaw_intro ?_⟩
    unfold c_state_Union
    simp only [go_sem]
    refine t_call_intro (hS) ?_
    simp only [go_sem]
    simp only [aresult, ares, go_sem]
end Go.Proofs.Ytldonmombfpleaa
