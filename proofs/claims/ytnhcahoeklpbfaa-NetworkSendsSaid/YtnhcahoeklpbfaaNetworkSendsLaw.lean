/- The law NetworkSends holds for every input. -/
import Derived.Test.YtnhcahoeklpbfaaRow
import Derived.Test.YtnhcahoeklpbfaaNwI
set_option linter.unusedSimpArgs false
set_option linter.unusedVariables false
namespace Go.Proofs.Ytnhcahoeklpbfaa.networkSends
open Go Go.ChangeShapes Go.WideShapes Go.ChangeAt Go.RowKit
open Go.ChangeMaps (open_string shut_string)
set_option maxRecDepth 100000

theorem one_cell0 {W : World} {r : Reach} {b : Nat} {v : Value} (h : Value.okWide Try.prog W r b 22 v) : v.cells = #[v] := by
  obtain ⟨a, n, c, rfl⟩ := okWide_slice Try.underlying22 h
  rfl
theorem one_cell1 {W : World} {r : Reach} {b : Nat} {v : Value} (h : Value.okWide Try.prog W r b 22 v) : v.cells = #[v] := by
  obtain ⟨a, n, c, rfl⟩ := okWide_slice Try.underlying22 h
  rfl
set_option maxRecDepth 100000 in
theorem contract (H : Type) (enc : TypeId × Value → H) (W : World) (base : Nat) (args : Array Value) (ds gs : List (DataW H)) (before : List MemPlace)
    (hval : ∀ (j : Nat) t v, Try.f3.params[j]? = some t → args[j]? = some v → Value.okWide Try.prog W .any base t v)
    (hW : DataW.Whole enc Try.prog Try.f3.params.toList Rows.networkSendsSpec.vars false W args.toList ds gs before) (hsz0 : (DataW.weightsEach Try.prog (Try.f3.params.toList ++ Rows.networkSendsSpec.plain.varTypes Try.prog) (ds ++ gs)).all (· ≤ reachBytes) = true) :
    Calls Try.prog 3 args W fun e W' => ∃ v, e = .returned v ∧ Rows.networkSendsSpec.post enc Try.prog Try.f3 false true false false W args v W' := by
  have hW' := hW
  have hlt := hW.lt
  obtain ⟨p, q, hA0, hV, rfl, _, _⟩ := hW
  have hA : DataW.TrodAll enc Try.prog W 0 (fun _ => true) true Try.f3.params.toList args.toList ds p := hA0
  have hsz : (DataW.weightsEach Try.prog (Try.f3.params.toList ++ Rows.networkSendsSpec.plain.varTypes Try.prog) (ds ++ gs)).all (· ≤ reachBytes) = true := hsz0
  rw [Try.params3] at hA hval hsz
  obtain ⟨v0, vs0, d0, ds0, p0, q0, hargs, rfl, rfl, h0, r0⟩ := trodAll_cons hA
  obtain ⟨v1, vs1, d1, ds1, p1, q1, rfl, rfl, rfl, h1, r1⟩ := trodAll_cons r0
  obtain ⟨v2, vs2, d2, ds2, p2, q2, rfl, rfl, rfl, h2, r2⟩ := trodAll_cons r1
  obtain ⟨rfl, rfl, rfl⟩ := trodAll_nil r2
  obtain rfl : args = #[v0, v1, v2] := by cases args; simp_all
  obtain ⟨rfl, rfl⟩ := trodVars_none hV
  have hw0 : ∀ q ∈ d0.weights Try.prog 22, q ≤ reachBytes := fun q hq => by
    have := List.all_eq_true.1 hsz q (by simp only [List.cons_append, DataW.weightsEach, List.mem_append]; exact .inl hq)
    exact of_decide_eq_true this
  have ok0 : Ab.okTy Try.prog 6 22 = true := by kernel_rfl
  have one0 : v0.cells = #[v0] := one_cell0 (hval 0 22 v0 rfl rfl)
  obtain ⟨x0, hx0, rep0⟩ := Ab.open_one ok0 one0 h0 hw0
  obtain ⟨l, rfl, hl⟩ := un_msgs hx0
  have hw1 : ∀ q ∈ d1.weights Try.prog 22, q ≤ reachBytes := fun q hq => by
    have := List.all_eq_true.1 hsz q (by simp only [List.cons_append, DataW.weightsEach, List.mem_append]; exact .inr (.inl hq))
    exact of_decide_eq_true this
  have ok1 : Ab.okTy Try.prog 6 22 = true := by kernel_rfl
  have one1 : v1.cells = #[v1] := one_cell1 (hval 1 22 v1 rfl rfl)
  obtain ⟨x1, hx1, rep1⟩ := Ab.open_one ok1 one1 h1 hw1
  obtain ⟨b, rfl, hb⟩ := un_msgs hx1
  obtain ⟨a2, rfl, rfl, rfl, w2⟩ := open_int Try.underlying3 (hval 2 3 v2 rfl rfl) h2
  simp only [Lit.wf, Bool.and_eq_true, decide_eq_true_eq] at w2
  have ma2 : IntKind.max .i64 = 9223372036854775807 := by decide
  have mi2 : IntKind.min .i64 = -9223372036854775808 := by decide
  rw [ma2, mi2] at w2
  clear hA0
  refine (sends_den l b hl hb a2 (Ab.There W) W [v0, v1, _] (fun g o h => h) ?_).mono fun e W' hh => ?_
  · refine ⟨rfl, fun j x v hx hv => ?_⟩
    match j with
    | 0 => cases hx; cases hv; exact rep0
    | 1 => cases hx; cases hv; exact rep1
    | 2 => cases hx; cases hv; exact .a (.int _ _)
    | _ + 3 => cases hx
  · obtain ⟨v, S', rfl, _, _, _, hb, hr⟩ := hh
    cases hr with
    | a hr =>
      cases hr
      exact ⟨_, rfl, law_post rfl (by kernel_rfl) rfl hW' ⟨rfl, rfl, rfl⟩ hb⟩

set_option maxRecDepth 100000 in
theorem lifted (os : Os) (started : os.Started) (H : Type) (enc : TypeId × Value → H) :
    ReturnsInHanded {} Try.checked os 3 .any (Rows.networkSendsSpec.pre6 enc Try.prog Try.f3 Rows.networkSendsRow.domain false) (Rows.networkSendsSpec.post enc Try.prog Try.f3 false true false false) := by
  refine returnsInHanded_of_change_sized (C := Try.checked) own started (by kernel_rfl) Try.func3
    (ChangeSpec.witness6 (enc := enc) (C := Try.checked) false ⟨#[], #[.slice none 0 0, .slice none 0 0, .int .i64 0], []⟩ 8 (by kernel_rfl) (by kernel_rfl) (by kernel_rfl) (by kernel_rfl)) ?_
  intro W base args ds gs before hval0 hW hcnd hsz _
  exact contract H enc W base args ds gs before hval0 hW hsz

theorem over : Rows.networkSendsRow.holds Try.pinned (OpenSpec.ofChange Rows.networkSendsSpec) :=
  OpenClaim.holds_of_wide 3 Try.f3 rfl rfl rfl rfl rfl rfl rfl ⟨rfl, rfl, rfl, rfl, rfl⟩ rfl rfl rfl rfl rfl (by kernel_rfl) Try.func3 (by kernel_rfl)
    (of_decide_eq_true (by kernel_rfl)) (by unfold Func.isWrapper; first | (rw [if_pos (by decide +kernel)]; kernel_rfl) | (rw [if_neg (by decide +kernel)]; exact ⟨rfl, rfl⟩))
    (fun os started H enc _ => lifted os started H enc)

theorem proved : Rows.NetworkSendsSaid := over
end Go.Proofs.Ytnhcahoeklpbfaa.networkSends
