/- The law SessionRoundTrips holds for every input. -/
import Derived.Test.YtbiongfnbbnndaaRow
import Derived.Test.YtbiongfnbbnndaaQx
set_option linter.unusedSimpArgs false
set_option linter.unusedVariables false
namespace Go.Proofs.Ytbiongfnbbnndaa.sessionRoundTrips
open Go Go.ChangeShapes Go.WideShapes Go.ChangeAt Go.RowKit
open Go.ChangeMaps (open_string shut_string)
set_option maxRecDepth 100000

theorem one_cell0 {W : World} {r : Reach} {b : Nat} {v : Value} (h : Value.okWide Try.prog W r b 22 v) : v.cells = #[v] := by
  obtain ⟨a, n, c, rfl⟩ := okWide_slice Try.underlying22 h
  rfl
theorem one_cell1 {W : World} {r : Reach} {b : Nat} {v : Value} (h : Value.okWide Try.prog W r b 9 v) : v.cells = #[v] := by
  obtain ⟨s, rfl⟩ := okWide_string Try.underlying9 h
  rfl
theorem one_cell2 {W : World} {r : Reach} {b : Nat} {v : Value} (h : Value.okWide Try.prog W r b 9 v) : v.cells = #[v] := by
  obtain ⟨s, rfl⟩ := okWide_string Try.underlying9 h
  rfl
set_option maxRecDepth 100000 in
theorem contract (H : Type) (enc : TypeId × Value → H) (W : World) (base : Nat) (args : Array Value) (ds gs : List (DataW H)) (before : List MemPlace)
    (hval : ∀ (j : Nat) t v, Try.f8.params[j]? = some t → args[j]? = some v → Value.okWide Try.prog W .any base t v)
    (hW : DataW.Whole enc Try.prog Try.f8.params.toList Rows.sessionRoundTripsSpec.vars false W args.toList ds gs before) (hsz0 : (DataW.weightsEach Try.prog (Try.f8.params.toList ++ Rows.sessionRoundTripsSpec.plain.varTypes Try.prog) (ds ++ gs)).all (· ≤ reachBytes) = true) :
    Calls Try.prog 8 args W fun e W' => ∃ v, e = .returned v ∧ Rows.sessionRoundTripsSpec.post enc Try.prog Try.f8 false true false false W args v W' := by
  have hW' := hW
  have hlt := hW.lt
  obtain ⟨p, q, hA0, hV, rfl, _, _⟩ := hW
  have hA : DataW.TrodAll enc Try.prog W 0 (fun _ => true) true Try.f8.params.toList args.toList ds p := hA0
  have hsz : (DataW.weightsEach Try.prog (Try.f8.params.toList ++ Rows.sessionRoundTripsSpec.plain.varTypes Try.prog) (ds ++ gs)).all (· ≤ reachBytes) = true := hsz0
  rw [Try.params8] at hA hval hsz
  obtain ⟨v0, vs0, d0, ds0, p0, q0, hargs, rfl, rfl, h0, r0⟩ := trodAll_cons hA
  obtain ⟨v1, vs1, d1, ds1, p1, q1, rfl, rfl, rfl, h1, r1⟩ := trodAll_cons r0
  obtain ⟨v2, vs2, d2, ds2, p2, q2, rfl, rfl, rfl, h2, r2⟩ := trodAll_cons r1
  obtain ⟨rfl, rfl, rfl⟩ := trodAll_nil r2
  obtain rfl : args = #[v0, v1, v2] := by cases args; simp_all
  obtain ⟨rfl, rfl⟩ := trodVars_none hV
  have hw0 : ∀ q ∈ d0.weights Try.prog 22, q ≤ reachBytes := fun q hq => by
    have := List.all_eq_true.1 hsz q (by simp only [List.cons_append, DataW.weightsEach, List.mem_append]; exact .inl hq)
    exact of_decide_eq_true this
  have ok0 : Ab.okTy Try.prog 9 22 = true := by kernel_rfl
  have one0 : v0.cells = #[v0] := one_cell0 (hval 0 22 v0 rfl rfl)
  obtain ⟨x0, hx0, rep0⟩ := Ab.open_one ok0 one0 h0 hw0
  obtain ⟨l, rfl, hl⟩ := un_sess hx0
  have hw1 : ∀ q ∈ d1.weights Try.prog 9, q ≤ reachBytes := fun q hq => by
    have := List.all_eq_true.1 hsz q (by simp only [List.cons_append, DataW.weightsEach, List.mem_append]; exact .inr (.inl hq))
    exact of_decide_eq_true this
  have ok1 : Ab.okTy Try.prog 2 9 = true := by kernel_rfl
  have one1 : v1.cells = #[v1] := one_cell1 (hval 1 9 v1 rfl rfl)
  obtain ⟨x1, hx1, rep1⟩ := Ab.open_one ok1 one1 h1 hw1
  obtain ⟨b, rfl, hb⟩ := un_string2 hx1
  have hw2 : ∀ q ∈ d2.weights Try.prog 9, q ≤ reachBytes := fun q hq => by
    have := List.all_eq_true.1 hsz q (by simp only [List.cons_append, DataW.weightsEach, List.mem_append]; exact .inr (.inr (.inl hq)))
    exact of_decide_eq_true this
  have ok2 : Ab.okTy Try.prog 2 9 = true := by kernel_rfl
  have one2 : v2.cells = #[v2] := one_cell2 (hval 2 9 v2 rfl rfl)
  obtain ⟨x2, hx2, rep2⟩ := Ab.open_one ok2 one2 h2 hw2
  obtain ⟨a, rfl, ha⟩ := un_string2 hx2
  clear hA0
  refine (SessionRoundTrips_den l b a hl hb ha (Ab.There W) W [v0, v1, v2] (fun g o h => h) ?_).mono fun e W' hh => ?_
  · refine ⟨rfl, fun j x v hx hv => ?_⟩
    match j with
    | 0 => cases hx; cases hv; exact rep0
    | 1 => cases hx; cases hv; exact rep1
    | 2 => cases hx; cases hv; exact rep2
    | _ + 3 => cases hx
  · obtain ⟨v, S', rfl, _, _, _, hb, hr⟩ := hh
    cases hr with
    | a hr =>
      cases hr
      exact ⟨_, rfl, law_post rfl (by kernel_rfl) rfl hW' ⟨rfl, rfl, rfl⟩ hb⟩

set_option maxRecDepth 100000 in
theorem lifted (os : Os) (started : os.Started) (H : Type) (enc : TypeId × Value → H) :
    ReturnsInHanded {} Try.checked os 8 .any (Rows.sessionRoundTripsSpec.pre6 enc Try.prog Try.f8 Rows.sessionRoundTripsRow.domain false) (Rows.sessionRoundTripsSpec.post enc Try.prog Try.f8 false true false false) := by
  refine returnsInHanded_of_change_sized (C := Try.checked) own started (by kernel_rfl) Try.func8
    (ChangeSpec.witness6 (enc := enc) (C := Try.checked) false ⟨#[], #[.slice none 0 0, .string ByteArray.empty, .string ByteArray.empty], []⟩ 8 (by kernel_rfl) (by kernel_rfl) (by kernel_rfl) (by kernel_rfl)) ?_
  intro W base args ds gs before hval0 hW hcnd hsz _
  exact contract H enc W base args ds gs before hval0 hW hsz

theorem over : Rows.sessionRoundTripsRow.holds Try.pinned (OpenSpec.ofChange Rows.sessionRoundTripsSpec) :=
  OpenClaim.holds_of_wide 8 Try.f8 rfl rfl rfl rfl rfl rfl rfl ⟨rfl, rfl, rfl, rfl, rfl⟩ rfl rfl rfl rfl rfl (by kernel_rfl) Try.func8 (by kernel_rfl)
    (of_decide_eq_true (by kernel_rfl)) (by unfold Func.isWrapper; first | (rw [if_pos (by decide +kernel)]; kernel_rfl) | (rw [if_neg (by decide +kernel)]; exact ⟨rfl, rfl⟩))
    (fun os started H enc _ => lifted os started H enc)

theorem proved : Rows.SessionRoundTripsSaid := over
end Go.Proofs.Ytbiongfnbbnndaa.sessionRoundTrips
