/- Chapter 06: the order of pairs; the closures of Apply, Union and Diff; merge, whatever its closures do. -/
import Derived.Test.YtldonmombfpleaaSa
import Derived.Lib.Bytealg
import Derived.Handy
import Derived.BigQuiet
import Derived.WalkKit
import Derived.WalkSpells
set_option linter.unusedSimpArgs false
set_option linter.unusedVariables false
namespace Go.Proofs.Ytldonmombfpleaa
open Go Ab
attribute [local irreducible] awp aops aop asoft aeff aloop acall acallI acallT
attribute [local go_sem] Vl.row Rg.row Pr.row

set_option maxRecDepth 100000 in
theorem cmpStr_any (a b : ByteArray) (w : World) : Calls Try.prog 86 #[.string a, .string b] w fun e w' => e = .returned (.int .i64 (Lib.compareBytes a.data.toList b.data.toList)) ∧ w' = w := by
  go_enter Try.func86, Try.ntmps86
  go_wp2
  rw [run_callFunc_extern Try.func94 (by kernel_rfl) (by kernel_rfl) (by kernel_rfl) (e := Extern.BytealgCompare.compare) (by kernel_rfl), Lib.run_compareString]
  simp only [Result.andThen]
  rw [Oper.upon_value]
  go_wp2
  go_ret
  exact ⟨rfl, rfl⟩
theorem cmpStr_den (a b : ByteArray) : PDen Try.prog 86 [.a (.str a), .a (.str b)] (.a (.int .i64 (Lib.compareBytes a.data.toList b.data.toList))) := by
  intro S w vs himm hrep
  obtain ⟨hl, hr⟩ := hrep
  match vs, hl with
  | [x, y], _ =>
    have hx := hr 0 _ x rfl rfl
    have hy := hr 1 _ y rfl rfl
    have ex : x = .string a := by cases hx with | a h => cases h; rfl
    have ey : y = .string b := by cases hy with | a h => cases h; rfl
    subst ex; subst ey
    refine (cmpStr_any a b w).mono ?_
    rintro e w' ⟨rfl, rfl⟩
    exact ⟨_, S, rfl, fun _ _ h => h, fun _ _ h => .inl h, himm, Go.RowKit.Below.refl _ _, .a (.int _ _)⟩
/-- What orders two keys. -/
def cmpK (a b : ByteArray) : Int := Lib.compareBytes a.data.toList b.data.toList
theorem cmp_den (a b : ByteArray) : PDen Try.prog 66 [.a (.str a), .a (.str b)] (.a (.int .i64 (cmpK a b))) := by
  refine den_of_body k_strings_Compare ⟨rfl, Nat.le_of_ble_eq_true rfl, thaw_intro ?_⟩
  unfold c_strings_Compare
  simp only [go_sem]
  refine t_call_intro (cmpStr_den a b) ?_
  simp only [go_sem]
  simp only [aresult, ares, go_sem]
  rfl
theorem order_den (p q : Pr) : PDen Try.prog 36 [.agg p.row, .agg q.row] (.a (.int .i64 (cmpK p.key q.key))) := by
  refine den_of_body k_state_order ⟨rfl, Nat.le_of_ble_eq_true rfl, thaw_intro ?_⟩
  unfold c_state_order
  simp only [go_sem]
  refine t_call_intro (cmp_den p.key q.key) ?_
  simp only [go_sem]
  simp only [aresult, ares, go_sem]

/-! The list that grows: nil at first, then a row of the call's own. -/
/-- What the variable holds, and the row (in place n). -/
def outV (n : Nat) : Option (List Pr) → AV
  | none => .a .nils
  | some _ => .own n
def outO : Option (List Pr) → List OwnD
  | none => []
  | some l => [⟨33, 4, l.map Pr.row, false⟩]
def outL : Option (List Pr) → List Pr
  | none => []
  | some l => l
def add (o : Option (List Pr)) (p : Pr) : Option (List Pr) := some (outL o ++ [p])
theorem gate48 (n : Nat) (h : (n + 1) * 48 ≤ 140737488351232) : (n + 1 + (n + 1) / 4 + 192) * 48 ≤ 281474976710656 ∧ n ≤ 9223372036854775806 := by
  have := Nat.div_le_self (n + 1) 4
  omega
/-- Apply's memory: the list, the two closures. -/
def applyH (o : Option (List Pr)) : List (List AV) := [[outV 0 o], [.clo 32 [.loc 0 0]], [.clo 33 [.loc 1 0]]]
end Go.Proofs.Ytldonmombfpleaa
