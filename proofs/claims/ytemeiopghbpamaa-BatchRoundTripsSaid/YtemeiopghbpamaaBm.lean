/- The chapter's examples: works; short, few. -/
import Derived.Test.YtemeiopghbpamaaBl
set_option linter.unusedSimpArgs false
set_option linter.unusedVariables false
namespace Go.Proofs.Ytemeiopghbpamaa
open Go Ab Go.RowKit
attribute [local irreducible] awp aops aop asoft aeff aloop acall acallI acallT
attribute [local go_sem] Vl.row sRow

def exS : ByteArray := ⟨#[2, 1, 3, 97, 100, 100, 1, 1, 10, 0]⟩
def exR : Req := ⟨2, 1, ⟨#[97, 100, 100]⟩, [⟨1, 5, ⟨#[]⟩⟩], false, false, [], []⟩
def exT : ByteArray := ⟨#[2, 2, 1, 3, 97, 100, 100, 1, 1, 10, 0, 2, 1, 3, 97, 100, 100, 1, 1, 10, 0]⟩
def rc (c : Int) : Req := ⟨c, 0, ⟨#[]⟩, [], false, false, [], []⟩
theorem ex_dec : decReq exS.data.toList 0 = (exR, 10, 0) := by kernel_rfl
theorem ex_merge : mergeR [[rc 1, rc 2, rc 3], [rc 9]] = [rc 1, rc 9, rc 2, rc 3] := by kernel_rfl
theorem ex_encR : reqB exR = exS := by kernel_rfl
theorem ex_E : reqE exR = 0 := by kernel_rfl
theorem ex_E0 : reqE (rc 0) = 1 := by kernel_rfl
theorem ex_enc : encReqs [exR, exR] = exT := by kernel_rfl
theorem ex_decs : decReqs exT.data.toList 0 = ([exR, exR], 21, 0) := by kernel_rfl
def exRaw : List Atom := [.int .i64 2, .int .i64 1, .str ⟨#[97, 100, 100]⟩, .slice 3 [[.int .i64 1, .int .i64 5, .str ⟨#[]⟩]], .bool false, .bool false, .nils, .nils]
def exRow : List Atom := [.int .i64 2, .int .i64 1, .str ⟨#[97, 100, 100]⟩, .slice 3 [[.int .i64 1, .int .i64 5, .str ⟨#[]⟩]], .bool false, .bool false, .slice 1 [], .slice 1 []]
def rcRaw (c : Int) : List Atom := [.int .i64 c, .int .i64 0, .str ⟨#[]⟩, .nils, .bool false, .bool false, .nils, .nils]
def rcRow (c : Int) : List Atom := [.int .i64 c, .int .i64 0, .str ⟨#[]⟩, .slice 3 [], .bool false, .bool false, .slice 1 [], .slice 1 []]
theorem exRow_eq : exR.row = exRow := rfl
theorem rcRow_eq (c : Int) : (rc c).row = rcRow c := rfl
theorem exRaw_le : RLs exRaw exR.row := ⟨RLe.refl _, RLe.refl _, RLe.refl _, RLe.refl _, RLe.refl _, RLe.refl _, RLe.nils 1, RLe.nils 1, trivial⟩
theorem rcRaw_le (c : Int) : RLs (rcRaw c) (rc c).row := ⟨RLe.refl _, RLe.refl _, RLe.refl _, RLe.nils 3, RLe.refl _, RLe.refl _, RLe.nils 1, RLe.nils 1, trivial⟩
theorem exR_fit : exR.fit := by
  refine ⟨by decide, by decide, fun v hv => ?_, ⟨by decide, fun s h => by cases h⟩, ⟨by decide, fun s h => by cases h⟩, fun v hv => ?_⟩
  · have : v = ⟨1, 5, ⟨#[]⟩⟩ := by simpa [exR] using hv
    subst this; decide
  · have : v = ⟨1, 5, ⟨#[]⟩⟩ := by simpa [exR] using hv
    subst this; rw [Cw.m63]; decide
theorem rc_fit (c : Int) : (rc c).fit := ⟨Nat.zero_le _, Nat.zero_le _, (fun v hv => by cases hv), ⟨Nat.zero_le _, (fun s h => by cases h)⟩, ⟨Nat.zero_le _, (fun s h => by cases h)⟩, (fun v hv => by cases hv)⟩
theorem rc_bulk (c : Int) : (rc c).bulk := ⟨Nat.zero_le _, Nat.zero_le _, Nat.zero_le _⟩
theorem ex_Eqq : reqEq exR exR = true := reqEq_refl _
set_option maxRecDepth 100000 in
set_option maxHeartbeats 4000000 in
theorem works_den : PDen Try.prog 6 [] (.a (.bool true)) := by
  have hD : PDen Try.prog 13 [.a (.str exS), .a (.int .i64 0)] (.tup [.agg exRow, .a (.int .i64 10), .a (.int .i64 0)]) := by
    have h := decReq_den exS 0 (by decide)
    rw [ex_dec] at h
    exact h
  have hM : PDen Try.prog 7 [.a (.slice 1 [[.slice 8 [rcRaw 1, rcRaw 2, rcRaw 3]], [.slice 8 [rcRaw 9]]])] (.a (.slice 8 [rcRow 1, rcRow 9, rcRow 2, rcRow 3])) := by
    have h := merge_den [[rc 1, rc 2, rc 3], [rc 9]] (by decide) (by decide) (fun l hl r hr => by
      simp only [List.mem_cons, List.not_mem_nil, or_false] at hl
      rcases hl with rfl | rfl <;> simp only [List.mem_cons, List.not_mem_nil, or_false] at hr
      · rcases hr with rfl | rfl | rfl <;> exact rc_bulk _
      · rw [hr]; exact rc_bulk _)
    rw [ex_merge] at h
    refine PDen.args (bs := [.a (.slice 1 ([[rc 1, rc 2, rc 3], [rc 9]].map lsRow))]) h ⟨VLe.a (RLe.slice ⟨⟨RLe.slice ⟨rcRaw_le 1, rcRaw_le 2, rcRaw_le 3, trivial⟩, trivial⟩, ⟨RLe.slice ⟨rcRaw_le 9, trivial⟩, trivial⟩, trivial⟩), trivial⟩
  have hEn : PDen Try.prog 10 [.a (.slice 8 [exRaw, exRaw])] (.a (.str exT)) := by
    have h := encReqs_den [exR, exR] (by decide) (fun r hr => by
      have : r = exR := by simpa using hr
      rw [this]; exact exR_fit)
    rw [ex_enc] at h
    exact PDen.args (bs := [.a (.slice 8 ([exR, exR].map Req.row))]) h ⟨VLe.a (RLe.slice ⟨exRaw_le, exRaw_le, trivial⟩), trivial⟩
  have hDs : PDen Try.prog 14 [.a (.str exT), .a (.int .i64 0)] (.tup [.a (.slice 8 [exRow, exRow]), .a (.int .i64 21), .a (.int .i64 0)]) := by
    have h := decReqs_den exT 0 (by decide)
    rw [ex_decs] at h
    exact h
  have hB : PDen Try.prog 11 [.agg exRaw] (.a (.str exS)) := by
    have h := reqB_den exR exR_fit
    rw [ex_encR] at h
    exact PDen.args h ⟨VLe.agg exRaw_le, trivial⟩
  have hS : PDen Try.prog 16 [.agg exRow, .agg exRaw] (.a (.bool true)) := by
    have h := same_den exR exR exR_fit.fits
    rw [ex_Eqq] at h
    exact PDen.args h ⟨VLe.refl _, VLe.agg exRaw_le, trivial⟩
  have hV : PDen Try.prog 17 [.agg exRaw] (.a (.int .i64 0)) := by
    have h := reqE_den exR exR_fit
    rw [ex_E] at h
    exact PDen.args h ⟨VLe.agg exRaw_le, trivial⟩
  have hV0 : PDen Try.prog 17 [.agg (rcRaw 0)] (.a (.int .i64 1)) := by
    have h := reqE_den (rc 0) (rc_fit 0)
    rw [ex_E0] at h
    exact PDen.args h ⟨VLe.agg (rcRaw_le 0), trivial⟩
  unfold exS exT exRow exRaw at *
  unfold rcRow rcRaw at *
  have c4 : ((4 : Nat) : Int) = 4 := rfl
  have c2 : ((2 : Nat) : Int) = 2 := rfl
  have cz : ((#[2, 1, 3, 97, 100, 100, 1, 1, 10, 0] : Array UInt8).size : Int) = 10 := rfl
  have wm : IntKind.i64.wrap (2 * 10) = 20 := by decide
  have wa : IntKind.i64.wrap (1 + 20) = 21 := by decide
  refine den_of_body k_law36_works ⟨rfl, Nat.le_of_ble_eq_true rfl, thaw_intro ?_⟩
  unfold c_law36_works
  simp only [go_sem]
  refine t_call_intro (hD) ?_
  simp only [go_sem]
  refine t_call_intro (hM) ?_
  simp only [c4, bne_self_eq_false, go_sem]
  refine t_call_intro (hEn) ?_
  simp only [go_sem]
  refine t_call_intro (hDs) ?_
  simp only [go_sem]
  refine t_call_intro (hB) ?_
  simp only [beq_self_eq_true, cz, go_sem]
  refine t_call_intro (hS) ?_
  simp only [go_sem]
  refine t_call_intro (hV) ?_
  simp only [beq_self_eq_true, go_sem]
  refine t_call_intro (hV0) ?_
  simp only [beq_self_eq_true, cz, wm, wa, c2, go_sem]
  refine t_call_intro (hS) ?_
  simp only [go_sem]
  simp only [aresult, ares, go_sem]
end Go.Proofs.Ytemeiopghbpamaa
