/- Chapter 06: the encoding of the empty list; the example of the chapter. -/
import Derived.Test.YtldonmombfpleaaSd
set_option linter.unusedSimpArgs false
set_option linter.unusedVariables false
namespace Go.Proofs.Ytldonmombfpleaa
open Go Ab Go.RowKit
attribute [local irreducible] awp aops aop asoft aeff aloop acall acallI acallT
attribute [local go_sem] Vl.row Rg.row Pr.row

set_option maxRecDepth 100000 in
theorem appended0_den : PDen Try.prog 81 [.a .nils, .a (.int .u8 0)] (.a (.slice 1 [[.int .u8 0]])) := by
  refine den_of_body k_wire_appended ⟨rfl, Nat.le_of_ble_eq_true rfl, thaw_intro ?_⟩
  unfold c_wire_appended
  simp only [go_sem]
  refine t_gate_intro rfl ?_
  simp only [go_sem]
  refine t_gate_intro (by decide) ?_
  simp only [go_sem]
  simp only [aresult, ares, go_sem]
set_option maxRecDepth 100000 in
theorem uint0_den : PDen Try.prog 57 [.a (.int .u64 0)] (.a (.str ⟨#[0]⟩)) := by
  refine den_of_body k_wire_Uint ⟨rfl, Nat.le_of_ble_eq_true rfl, thaw_intro ?_⟩
  unfold c_wire_Uint
  simp only [go_sem]
  refine t_loop_intro (fun k : Nat => k ≤ 0) (fun k => 0 - k) 0 [0, 3, 4, 5, 6, 7, 8, 9, 10, 11, 12] (fun k => [(0, .a (.int .u64 0)), (3, .a .nils)]) (by omega) (by simp) (fun k => by simp) rfl ?_
  intro k hk fr_ hfr
  simp only [go_sem] at hfr
  subst hfr
  by_cases hlt : k < 0
  · omega
  · have n1 : ¬ (128 : Int) ≤ 0 := by decide
    have ew : IntKind.u8.wrap 0 = 0 := by decide
    simp only [n1, ew, go_sem]
    refine t_call_intro (appended0_den) ?_
    simp only [go_sem]
    refine t_bytes_intro (l := [0]) ?_
    simp only [go_sem]
    simp only [aresult, ares, go_sem]
theorem uint0_any (w : World) : Calls Try.prog 57 #[.int .u64 0] w fun e w' => e = .returned (.string ⟨#[0]⟩) ∧ Below w.heap.size w w' := by
  refine (uint0_den (fun _ _ => False) w [.int .u64 0] (fun g o h => h.elim) ⟨rfl, fun j x v hx hv => ?_⟩).mono ?_
  · match j with
    | 0 => cases hx; cases hv; exact .a (.int _ _)
    | _ + 1 => cases hx
  · rintro e w' ⟨v, S', rfl, _, _, _, hb, hr⟩
    cases hr with
    | a hr =>
      cases hr
      exact ⟨rfl, hb⟩
set_option maxHeartbeats 2000000 in
set_option maxRecDepth 100000 in
theorem encode_nil_any (w : World) : Calls Try.prog 29 #[.slice none 0 0] w fun e w' => e = .returned (.string ⟨#[0]⟩) ∧ Below w.heap.size w w' := by
  go_enter Try.func29, Try.ntmps29
  go_wp2_with (go_at_call 57; refine (uint0_any _).mono ?_)
  rintro e w1 ⟨rfl, hb1⟩
  have hsz := hb1.size
  have e1 : (w.alloc (Obj.cells #[Value.pointer none, Value.slice none 0 0] 65)).heap.size = w.heap.size + 1 := Array.size_push _
  have hold : w1.heap[w.heap.size]? = some (.cells #[.pointer none, .slice none 0 0] 65 (0, 0)) :=
    (hb1.block w.heap.size (by rw [e1]; exact Nat.lt_succ_self _)).trans Array.getElem?_push_size
  have hsz2 : w.heap.size ≤ w1.heap.size := Nat.le_trans (by rw [e1]; exact Nat.le_succ _) hsz
  have hB : IsB w.heap.size w.heap.size [] w1 := .inl ⟨Nat.le_refl _, _, hold, World.ownsRow_nil _ _ _ _, fun h => by cases h⟩
  go_wp2_with (go_at_call 56; refine (write_any w.heap.size w.heap.size [] _ _ hB (by decide) hsz2).mono ?_)
  rintro e w2 ⟨⟨v, rfl⟩, hB2, hb2⟩
  have hsz3 : w.heap.size ≤ w2.heap.size := Nat.le_trans hsz2 hb2.size
  have hbelow : Below w.heap.size w w2 := ((Below.refl w.heap.size w).alloc (Nat.le_refl _) _).trans ((hb1.mono (by rw [e1]; exact Nat.le_succ _)).trans hb2)
  go_wp2
  refine wp_loop_once ?_
  go_wp2_with (go_at_call 60; refine (Builder_String_any w.heap.size w.heap.size [0] _ (.inr hB2) hsz3).mono ?_)
  rintro e w3 ⟨rfl, hb3⟩
  go_wp2
  go_ret
  exact ⟨rfl, hbelow.trans hb3⟩
end Go.Proofs.Ytldonmombfpleaa
