/- The law NetworkRoundTrips holds for every input. -/
import Derived.Test.YtokkjkoonglheaaRow
import Derived.Deep.CondSized
import Derived.JoinedCond
import Derived.Test.YtokkjkoonglheaaNl
set_option linter.unusedSimpArgs false
set_option linter.unusedVariables false
namespace Go.Proofs.Ytokkjkoonglheaa.networkRoundTrips
open Go Go.ChangeShapes Go.WideShapes Go.ChangeAt Go.RowKit
open Go.ChangeMaps (open_string shut_string)
set_option maxRecDepth 100000

theorem one_cell1 {W : World} {r : Reach} {b : Nat} {v : Value} (h : Value.okWide Try.prog W r b 9 v) : v.cells = #[v] := by
  obtain ⟨s, rfl⟩ := okWide_string Try.underlying9 h
  rfl
set_option maxRecDepth 100000 in
theorem contract (H : Type) (enc : TypeId × Value → H) (W : World) (base : Nat) (args : Array Value) (ds gs : List (DataW H)) (before : List MemPlace)
    (hval : ∀ (j : Nat) t v, Try.f4.params[j]? = some t → args[j]? = some v → Value.okWide Try.prog W .any base t v)
    (hW : DataW.Whole enc Try.prog Try.f4.params.toList Rows.networkRoundTripsSpec.vars false W args.toList ds gs before) (hsz0 : (DataW.weightsEach Try.prog (Try.f4.params.toList ++ Rows.networkRoundTripsSpec.plain.varTypes Try.prog) (ds ++ gs)).all (· ≤ reachBytes) = true) (hkb : Rows.uptoSmall H (ds ++ gs) = true) :
    Calls Try.prog 4 args W fun e W' => ∃ v, e = .returned v ∧ Rows.networkRoundTripsSpec.post enc Try.prog Try.f4 false true false false W args v W' := by
  have hW' := hW
  have hlt := hW.lt
  obtain ⟨p, q, hA0, hV, rfl, _, _⟩ := hW
  have hA : DataW.TrodAll enc Try.prog W 0 (fun _ => true) true Try.f4.params.toList args.toList ds p := hA0
  have hsz : (DataW.weightsEach Try.prog (Try.f4.params.toList ++ Rows.networkRoundTripsSpec.plain.varTypes Try.prog) (ds ++ gs)).all (· ≤ reachBytes) = true := hsz0
  rw [Try.params4] at hA hval hsz
  obtain ⟨v0, vs0, d0, ds0, p0, q0, hargs, rfl, rfl, h0, r0⟩ := trodAll_cons hA
  obtain ⟨v1, vs1, d1, ds1, p1, q1, rfl, rfl, rfl, h1, r1⟩ := trodAll_cons r0
  obtain ⟨rfl, rfl, rfl⟩ := trodAll_nil r1
  obtain rfl : args = #[v0, v1] := by cases args; simp_all
  obtain ⟨rfl, rfl⟩ := trodVars_none hV
  have hbk : Rows.uptoBulkAll _ ≤ 1048576 := of_decide_eq_true hkb
  simp only [List.cons_append, List.nil_append, List.append_nil, Rows.uptoBulkAll] at hbk
  have hw0 : Rows.uptoBulk d0 ≤ 1048576 := by omega
  have ok0 : Ab.okTy Try.prog 4 24 = true := by kernel_rfl
  obtain ⟨x0, hx0, hz0, rep0⟩ := open_aggU Try.underlying24 ok0 (hval 0 24 v0 rfl rfl) h0 hw0
  replace hz0 := Nat.le_trans hz0 hw0
  obtain ⟨m, rfl, hm⟩ := unU_msg hx0
  have hw1 : Rows.uptoBulk d1 ≤ 1048576 := by omega
  have ok1 : Ab.okTy Try.prog 4 9 = true := by kernel_rfl
  have one1 : v1.cells = #[v1] := one_cell1 (hval 1 9 v1 rfl rfl)
  obtain ⟨x1, hx1, hz1, rep1⟩ := open_oneU ok1 one1 h1 hw1
  replace hz1 := Nat.le_trans hz1 hw1
  obtain ⟨s, rfl, hs⟩ := unU_string1 hx1

  clear hA0
  refine (NetworkRoundTrips_den m ⟨hm, hz0⟩ s hs (Ab.There W) W [v0, v1] (fun g o h => h) ?_).mono fun e W' hh => ?_
  · refine ⟨rfl, fun j x v hx hv => ?_⟩
    match j with
    | 0 => cases hx; cases hv; exact rep0
    | 1 => cases hx; cases hv; exact rep1
    | _ + 2 => cases hx
  · obtain ⟨v, S', rfl, _, _, _, hb, hr⟩ := hh
    cases hr with
    | a hr =>
      cases hr
      exact ⟨_, rfl, law_post rfl (by kernel_rfl) rfl hW' ⟨rfl, rfl, rfl⟩ hb⟩

set_option maxRecDepth 100000 in
theorem lifted (os : Os) (started : os.Started) (H : Type) (enc : TypeId × Value → H) (F : Stop.Interp) :
    ReturnsInHanded {} Try.checked os 4 .any ((Rows.OpenSpec.upto Rows.networkRoundTripsSpec).pre6 enc Try.prog Try.f4 Rows.networkRoundTripsUptoRow.domain false) (((Rows.OpenSpec.upto Rows.networkRoundTripsSpec).at F).post enc Try.prog Try.f4 false true false false) := by
  refine returnsInHanded_of_cond_sized (C := Try.checked) (s := Rows.OpenSpec.upto Rows.networkRoundTripsSpec) (k := Rows.uptoSmall) rfl own started (by kernel_rfl) Try.func4
    (OpenSpec.witness (enc := enc) (C := Try.checked) (s := Rows.OpenSpec.upto Rows.networkRoundTripsSpec) (k := Rows.uptoSmall) rfl false ⟨#[], #[.agg #[.int .i64 0, .int .i64 0, .int .i64 0, .int .i64 0, .int .i64 0, .int .i64 0, .int .i64 0, .bool false, .slice none 0 0], .string ByteArray.empty], []⟩ 8 (by kernel_rfl) (by kernel_rfl) (by kernel_rfl)
      (x := ([.agg [.lit (.int .i64 0), .lit (.int .i64 0), .lit (.int .i64 0), .lit (.int .i64 0), .lit (.int .i64 0), .lit (.int .i64 0), .lit (.int .i64 0), .lit (.bool false), .nil], .lit (.string [])], [], [])) (by kernel_rfl) rfl (by kernel_rfl)) ?_
  intro W base args ds gs before hval0 hW _ hk hsz _
  exact contract H enc W base args ds gs before hval0 hW hsz hk

theorem over : Rows.NetworkRoundTripsUptoSaid :=
  OpenClaim.holds_of_cond 4 Try.f4 rfl rfl rfl rfl rfl rfl rfl ⟨rfl, rfl, rfl, rfl, rfl⟩ rfl rfl rfl rfl rfl (by kernel_rfl) Try.func4 (by kernel_rfl)
    (of_decide_eq_true (by kernel_rfl)) (by unfold Func.isWrapper; first | (rw [if_pos (by decide +kernel)]; kernel_rfl) | (rw [if_neg (by decide +kernel)]; exact ⟨rfl, rfl⟩))
    (fun os started H enc _ F => lifted os started H enc F)

theorem proved : Rows.NetworkRoundTripsUptoSaid := over
end Go.Proofs.Ytokkjkoonglheaa.networkRoundTrips
