/- The law StateApplies holds for every input. -/
import Derived.Test.YtldonmombfpleaaRow
import Derived.Deep.CondSized
import Derived.JoinedCond
import Derived.Test.YtldonmombfpleaaPw
import Derived.Test.YtldonmombfpleaaSun
namespace Go.Proofs.Ytldonmombfpleaa.stateApplies
open Go Go.ChangeShapes Go.WideShapes Go.ChangeAt Go.RowKit
open Go.ChangeMaps (open_string shut_string)

theorem one_leU {H : Type} (d : DataW H) : 1 ≤ Rows.uptoBulk d := by
  cases d with
  | lit l => cases l <;> simp [Rows.uptoBulk]
  | nil => simp [Rows.uptoBulk]
  | ptr d => simp [Rows.uptoBulk]
  | slice elems spare => simp [Rows.uptoBulk]
  | agg parts => simp [Rows.uptoBulk]
  | iface t d => simp [Rows.uptoBulk]
  | map entries => simp [Rows.uptoBulk]
  | held h => simp [Rows.uptoBulk]
theorem length_leU {H : Type} (l : List (DataW H)) : l.length ≤ Rows.uptoBulkAll l := by
  induction l with
  | nil => simp [Rows.uptoBulkAll]
  | cons x r ih => have := one_leU x; simp only [Rows.uptoBulkAll, List.length_cons]; omega
/-- A list is no longer than the bulk of what was read. -/
theorem len_bulk {H : Type} {enc : TypeId × Value → H} {P : Program} {w : World} {base : Nat} {spare : Nat → Bool} {held : Bool} {t e : TypeId} {v : Value} {d : DataW H} {p : List MemPlace} {E : Ab.Env} {sz : Nat} {rows : List (List Ab.Atom)}
    (hu : P.underlying t = some (.slice e)) (hone : v.cells = #[v]) (h : DataW.Trod enc P w base spare held t v d p) (hr : Ab.RepV E w (.a (.slice sz rows)) v) : rows.length ≤ Rows.uptoBulk d := by
  obtain ⟨fuel, hx⟩ := h
  rw [hone] at hx
  rcases DataW.trod_slice hu hx with ⟨h1, h2⟩ | ⟨a, len, cap, elems, rest, m, _, h1, h2, _, _, _, hel, _, _, _⟩
  · have hv : v = .slice none 0 0 := by simpa using h1
    subst hv
    cases hr with
    | a hr => cases hr with
      | empty => exact Nat.zero_le _
  · have hv : v = .slice (some a) len cap := by simpa using h1
    subst hv
    have hd : d = .slice (elems.map (·.1)) (rest.map (·.1)) := by have := congrArg Prod.fst h2; simpa using this
    have hl : rows.length = len ∨ rows = [] := by
      cases hr with
      | a hr => cases hr with
        | empty => exact .inr rfl
        | slice => exact .inl rfl
    rw [hd]
    simp only [Rows.uptoBulk]
    have h3 := length_leU (elems.map (·.1))
    rw [List.length_map] at h3
    rcases hl with hl | hl
    · omega
    · rw [hl]; exact Nat.zero_le _
theorem one_cell0 {W : World} {r : Reach} {b : Nat} {v : Value} (h : Value.okWide Try.prog W r b 22 v) : v.cells = #[v] := by
  obtain ⟨a, n, c, rfl⟩ := okWide_slice Try.underlying22 h
  rfl
theorem one_cell1 {W : World} {r : Reach} {b : Nat} {v : Value} (h : Value.okWide Try.prog W r b 22 v) : v.cells = #[v] := by
  obtain ⟨a, n, c, rfl⟩ := okWide_slice Try.underlying22 h
  rfl
set_option maxRecDepth 100000 in
theorem contract (H : Type) (enc : TypeId × Value → H) (W : World) (base : Nat) (args : Array Value) (ds gs : List (DataW H)) (before : List MemPlace)
    (hval : ∀ (j : Nat) t v, Try.f4.params[j]? = some t → args[j]? = some v → Value.okWide Try.prog W .any base t v)
    (hW : DataW.Whole enc Try.prog Try.f4.params.toList Rows.stateAppliesSpec.vars false W args.toList ds gs before) (hsz0 : (DataW.weightsEach Try.prog (Try.f4.params.toList ++ Rows.stateAppliesSpec.plain.varTypes Try.prog) (ds ++ gs)).all (· ≤ reachBytes) = true) (hkb : Rows.uptoSmall H (ds ++ gs) = true) :
    Calls Try.prog 4 args W fun e W' => ∃ v, e = .returned v ∧ Rows.stateAppliesSpec.post enc Try.prog Try.f4 false true false false W args v W' := by
  have hW' := hW
  have hlt := hW.lt
  obtain ⟨p, q, hA0, hV, rfl, _, _⟩ := hW
  have hA : DataW.TrodAll enc Try.prog W 0 (fun _ => true) true Try.f4.params.toList args.toList ds p := hA0
  have hsz : (DataW.weightsEach Try.prog (Try.f4.params.toList ++ Rows.stateAppliesSpec.plain.varTypes Try.prog) (ds ++ gs)).all (· ≤ reachBytes) = true := hsz0
  rw [Try.params4] at hA hval hsz
  obtain ⟨v0, vs0, d0, ds0, p0, q0, hargs, rfl, rfl, h0, r0⟩ := trodAll_cons hA
  obtain ⟨v1, vs1, d1, ds1, p1, q1, rfl, rfl, rfl, h1, r1⟩ := trodAll_cons r0
  obtain ⟨rfl, rfl, rfl⟩ := trodAll_nil r1
  obtain rfl : args = #[v0, v1] := by cases args; simp_all
  obtain ⟨rfl, rfl⟩ := trodVars_none hV
  have hw0 : ∀ q ∈ d0.weights Try.prog 22, q ≤ reachBytes := fun q hq => by
    have := List.all_eq_true.1 hsz q (by simp only [List.cons_append, DataW.weightsEach, List.mem_append]; exact .inl hq)
    exact of_decide_eq_true this
  have ok0 : Ab.okTy Try.prog 6 22 = true := by kernel_rfl
  have one0 : v0.cells = #[v0] := one_cell0 (hval 0 22 v0 rfl rfl)
  obtain ⟨x0, hx0, rep0⟩ := Ab.open_one ok0 one0 h0 hw0
  obtain ⟨l, rfl, hl⟩ := un_pairs hx0
  have hw1 : ∀ q ∈ d1.weights Try.prog 22, q ≤ reachBytes := fun q hq => by
    have := List.all_eq_true.1 hsz q (by simp only [List.cons_append, DataW.weightsEach, List.mem_append]; exact .inr (.inl hq))
    exact of_decide_eq_true this
  have ok1 : Ab.okTy Try.prog 6 22 = true := by kernel_rfl
  have one1 : v1.cells = #[v1] := one_cell1 (hval 1 22 v1 rfl rfl)
  obtain ⟨x1, hx1, rep1⟩ := Ab.open_one ok1 one1 h1 hw1
  obtain ⟨m, rfl, hm⟩ := un_pairs hx1
  have hbk : Rows.uptoBulkAll _ ≤ 1048576 := of_decide_eq_true hkb
  simp only [List.cons_append, List.nil_append, List.append_nil, Rows.uptoBulkAll] at hbk
  have hb0 := len_bulk Try.underlying22 one0 h0 rep0
  have hb1 := len_bulk Try.underlying22 one1 h1 rep1
  rw [List.length_map] at hb0 hb1
  clear hA0
  refine (applies_den l m (by omega) hl.all hm.all (Ab.There W) W [v0, v1] (fun g o h => h) ?_).mono fun e W' hh => ?_
  · refine ⟨rfl, fun j x v hx hv => ?_⟩
    match j with
    | 0 => cases hx; cases hv; exact rep0
    | 1 => cases hx; cases hv; exact rep1
    | _ + 2 => cases hx
  · obtain ⟨v, S', rfl, _, _, _, hb, hr⟩ := hh
    cases hr with
    | a hr =>
      cases hr
      exact ⟨_, rfl, law_post rfl (by kernel_rfl) rfl hW' ⟨rfl, rfl, rfl⟩ hb⟩

set_option maxRecDepth 100000 in
theorem lifted (os : Os) (started : os.Started) (H : Type) (enc : TypeId × Value → H) (F : Stop.Interp) :
    ReturnsInHanded {} Try.checked os 4 .any ((Rows.OpenSpec.upto Rows.stateAppliesSpec).pre6 enc Try.prog Try.f4 Rows.stateAppliesUptoRow.domain false) (((Rows.OpenSpec.upto Rows.stateAppliesSpec).at F).post enc Try.prog Try.f4 false true false false) := by
  refine returnsInHanded_of_cond_sized (C := Try.checked) (s := Rows.OpenSpec.upto Rows.stateAppliesSpec) (k := Rows.uptoSmall) rfl own started (by kernel_rfl) Try.func4
    (OpenSpec.witness (enc := enc) (C := Try.checked) (s := Rows.OpenSpec.upto Rows.stateAppliesSpec) (k := Rows.uptoSmall) rfl false ⟨#[], #[.slice none 0 0, .slice none 0 0], []⟩ 8 (by kernel_rfl) (by kernel_rfl) (by kernel_rfl)
      (x := ([.nil, .nil], [], [])) (by kernel_rfl) rfl (by kernel_rfl)) ?_
  intro W base args ds gs before hval0 hW _ hk hsz _
  exact contract H enc W base args ds gs before hval0 hW hsz hk

theorem over : Rows.StateAppliesUptoSaid :=
  OpenClaim.holds_of_cond 4 Try.f4 rfl rfl rfl rfl rfl rfl rfl ⟨rfl, rfl, rfl, rfl, rfl⟩ rfl rfl rfl rfl rfl (by kernel_rfl) Try.func4 (by kernel_rfl)
    (of_decide_eq_true (by kernel_rfl)) (by unfold Func.isWrapper; first | (rw [if_pos (by decide +kernel)]; kernel_rfl) | (rw [if_neg (by decide +kernel)]; exact ⟨rfl, rfl⟩))
    (fun os started H enc _ F => lifted os started H enc F)

theorem proved : Rows.StateAppliesUptoSaid := over
end Go.Proofs.Ytldonmombfpleaa.stateApplies
