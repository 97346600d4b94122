/- The law MvstoreSnapshots holds for every input. -/
import Derived.Test.YtlfebjehmabejaaRow
import Derived.Test.YtlfebjehmabejaaMz
set_option linter.unusedSimpArgs false
set_option linter.unusedVariables false
namespace Go.Proofs.Ytlfebjehmabejaa.mvstoreSnapshots
open Go Go.ChangeShapes Go.WideShapes Go.ChangeAt Go.RowKit
open Go.ChangeMaps (open_string shut_string)
set_option maxRecDepth 100000

theorem one_cell0 {W : World} {r : Reach} {b : Nat} {v : Value} (h : Value.okWide Try.prog W r b 25 v) : v.cells = #[v] := by
  obtain ⟨a, n, c, rfl⟩ := okWide_slice Try.underlying25 h
  rfl
theorem one_cell2 {W : World} {r : Reach} {b : Nat} {v : Value} (h : Value.okWide Try.prog W r b 34 v) : v.cells = #[v] := by
  obtain ⟨a, n, c, rfl⟩ := okWide_slice Try.underlying34 h
  rfl
set_option maxRecDepth 100000 in
theorem contract (H : Type) (enc : TypeId × Value → H) (W : World) (base : Nat) (args : Array Value) (ds gs : List (DataW H)) (before : List MemPlace)
    (hval : ∀ (j : Nat) t v, Try.f4.params[j]? = some t → args[j]? = some v → Value.okWide Try.prog W .any base t v)
    (hW : DataW.Whole enc Try.prog Try.f4.params.toList Rows.mvstoreSnapshotsSpec.vars false W args.toList ds gs before) (hsz0 : (DataW.weightsEach Try.prog (Try.f4.params.toList ++ Rows.mvstoreSnapshotsSpec.plain.varTypes Try.prog) (ds ++ gs)).all (· ≤ reachBytes) = true) :
    Calls Try.prog 4 args W fun e W' => ∃ v, e = .returned v ∧ Rows.mvstoreSnapshotsSpec.post enc Try.prog Try.f4 false true false false W args v W' := by
  have hW' := hW
  have hlt := hW.lt
  obtain ⟨p, q, hA0, hV, rfl, _, _⟩ := hW
  have hA : DataW.TrodAll enc Try.prog W 0 (fun _ => true) true Try.f4.params.toList args.toList ds p := hA0
  have hsz : (DataW.weightsEach Try.prog (Try.f4.params.toList ++ Rows.mvstoreSnapshotsSpec.plain.varTypes Try.prog) (ds ++ gs)).all (· ≤ reachBytes) = true := hsz0
  rw [Try.params4] at hA hval hsz
  obtain ⟨v0, vs0, d0, ds0, p0, q0, hargs, rfl, rfl, h0, r0⟩ := trodAll_cons hA
  obtain ⟨v1, vs1, d1, ds1, p1, q1, rfl, rfl, rfl, h1, r1⟩ := trodAll_cons r0
  obtain ⟨v2, vs2, d2, ds2, p2, q2, rfl, rfl, rfl, h2, r2⟩ := trodAll_cons r1
  obtain ⟨v3, vs3, d3, ds3, p3, q3, rfl, rfl, rfl, h3, r3⟩ := trodAll_cons r2
  obtain ⟨v4, vs4, d4, ds4, p4, q4, rfl, rfl, rfl, h4, r4⟩ := trodAll_cons r3
  obtain ⟨rfl, rfl, rfl⟩ := trodAll_nil r4
  obtain rfl : args = #[v0, v1, v2, v3, v4] := by cases args; simp_all
  obtain ⟨rfl, rfl⟩ := trodVars_none hV
  have hw0 : ∀ q ∈ d0.weights Try.prog 25, q ≤ reachBytes := fun q hq => by
    have := List.all_eq_true.1 hsz q (by simp only [List.cons_append, DataW.weightsEach, List.mem_append]; exact .inl hq)
    exact of_decide_eq_true this
  have ok0 : Ab.okTy Try.prog 6 25 = true := by kernel_rfl
  have one0 : v0.cells = #[v0] := one_cell0 (hval 0 25 v0 rfl rfl)
  obtain ⟨x0, hx0, rep0⟩ := Ab.open_one ok0 one0 h0 hw0
  obtain ⟨l, rfl, hl⟩ := un_pairs hx0
  obtain ⟨a1, rfl, rfl, rfl, w1⟩ := open_int Try.underlying2 (hval 1 2 v1 rfl rfl) h1
  simp only [Lit.wf, Bool.and_eq_true, decide_eq_true_eq] at w1
  have ma1 : IntKind.max .i64 = 9223372036854775807 := by decide
  have mi1 : IntKind.min .i64 = -9223372036854775808 := by decide
  rw [ma1, mi1] at w1
  have hw2 : ∀ q ∈ d2.weights Try.prog 34, q ≤ reachBytes := fun q hq => by
    have := List.all_eq_true.1 hsz q (by simp only [List.cons_append, DataW.weightsEach, List.mem_append]; exact .inr (.inr (.inl hq)))
    exact of_decide_eq_true this
  have ok2 : Ab.okTy Try.prog 8 34 = true := by kernel_rfl
  have one2 : v2.cells = #[v2] := one_cell2 (hval 2 34 v2 rfl rfl)
  obtain ⟨x2, hx2, rep2⟩ := Ab.open_one ok2 one2 h2 hw2
  obtain ⟨steps, rfl, hst⟩ := un_steps hx2
  obtain ⟨a3, rfl, rfl, rfl, w3⟩ := open_int Try.underlying2 (hval 3 2 v3 rfl rfl) h3
  simp only [Lit.wf, Bool.and_eq_true, decide_eq_true_eq] at w3
  have ma3 : IntKind.max .i64 = 9223372036854775807 := by decide
  have mi3 : IntKind.min .i64 = -9223372036854775808 := by decide
  rw [ma3, mi3] at w3
  obtain ⟨a4, rfl, rfl, rfl, w4⟩ := open_int Try.underlying2 (hval 4 2 v4 rfl rfl) h4
  simp only [Lit.wf, Bool.and_eq_true, decide_eq_true_eq] at w4
  have ma4 : IntKind.max .i64 = 9223372036854775807 := by decide
  have mi4 : IntKind.min .i64 = -9223372036854775808 := by decide
  rw [ma4, mi4] at w4
  clear hA0
  refine (mvSnapshots_den l hl.len hl.all a1 steps hst a3 a4 (by omega) (Ab.There W) W [v0, _, v2, _, _] (fun g o h => h) ?_).mono fun e W' hh => ?_
  · refine ⟨rfl, fun j x v hx hv => ?_⟩
    match j with
    | 0 => cases hx; cases hv; exact rep0
    | 1 => cases hx; cases hv; exact .a (.int _ _)
    | 2 => cases hx; cases hv; exact rep2
    | 3 => cases hx; cases hv; exact .a (.int _ _)
    | 4 => cases hx; cases hv; exact .a (.int _ _)
    | _ + 5 => cases hx
  · obtain ⟨v, S', rfl, _, _, _, hb, hr⟩ := hh
    cases hr with
    | a hr =>
      cases hr
      exact ⟨_, rfl, law_post rfl (by kernel_rfl) rfl hW' ⟨rfl, rfl, rfl⟩ hb⟩

set_option maxRecDepth 100000 in
theorem lifted (os : Os) (started : os.Started) (H : Type) (enc : TypeId × Value → H) :
    ReturnsInHanded {} Try.checked os 4 .any (Rows.mvstoreSnapshotsSpec.pre6 enc Try.prog Try.f4 Rows.mvstoreSnapshotsRow.domain false) (Rows.mvstoreSnapshotsSpec.post enc Try.prog Try.f4 false true false false) := by
  refine returnsInHanded_of_change_sized (C := Try.checked) own started (by kernel_rfl) Try.func4
    (ChangeSpec.witness6 (enc := enc) (C := Try.checked) false ⟨#[], #[.slice none 0 0, .int .i64 0, .slice none 0 0, .int .i64 0, .int .i64 0], []⟩ 8 (by kernel_rfl) (by kernel_rfl) (by kernel_rfl) (by kernel_rfl)) ?_
  intro W base args ds gs before hval0 hW hcnd hsz _
  exact contract H enc W base args ds gs before hval0 hW hsz

theorem over : Rows.mvstoreSnapshotsRow.holds Try.pinned (OpenSpec.ofChange Rows.mvstoreSnapshotsSpec) :=
  OpenClaim.holds_of_wide 4 Try.f4 rfl rfl rfl rfl rfl rfl rfl ⟨rfl, rfl, rfl, rfl, rfl⟩ rfl rfl rfl rfl rfl (by kernel_rfl) Try.func4 (by kernel_rfl)
    (of_decide_eq_true (by kernel_rfl)) (by unfold Func.isWrapper; first | (rw [if_pos (by decide +kernel)]; kernel_rfl) | (rw [if_neg (by decide +kernel)]; exact ⟨rfl, rfl⟩))
    (fun os started H enc _ => lifted os started H enc)

theorem proved : Rows.MvstoreSnapshotsSaid := over
end Go.Proofs.Ytlfebjehmabejaa.mvstoreSnapshots
