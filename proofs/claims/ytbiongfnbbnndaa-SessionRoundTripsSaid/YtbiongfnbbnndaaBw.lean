/- The text builder's methods at this program: what they do to a world; contracts of the layer. -/
import Derived.Test.YtbiongfnbbnndaaAbU
import Derived.Test.YtbiongfnbbnndaaRows
import Derived.WalkKit
import Derived.RegionTactic
import Derived.Lib.Builder
import Derived.Lib.AppendStr
import Derived.Lib.Strings
import Derived.Lib.Slices
import Derived.Lib.Walk
import Derived.Lib.UnsafeStr
import Derived.Lib.MakeNoZero
import Derived.Laws.Externs
set_option linter.unusedSimpArgs false
set_option linter.unusedVariables false
namespace Go.Proofs.Ytbiongfnbbnndaa
open Go Ab Go.RowKit

theorem bwSize : (Try.prog.info? 88).map (·.size) = some 2 := by kernel_rfl
theorem bwLies : liesAt Try.prog Try.prog.depth 88 (2 / Try.prog.cellsOf 88) 0 88 1 = true := by kernel_rfl
theorem bwInfo : (Try.prog.info? 5).map (fun i => (i.zero, i.size, i.bytes)) = some (some (.int .u8 0), 1, 1) := by kernel_rfl

set_option maxHeartbeats 1000000 in
set_option maxRecDepth 100000 in
theorem bw_check_used (b : Nat) (w : World) (h0 : w.cell? ⟨b, 0, none⟩ = some (.pointer (some ⟨b, 0, none⟩))) :
    Calls Try.prog 70 #[.pointer (some ⟨b, 0, none⟩)] w fun e w' => e = .returned (.tuple #[]) ∧ w' = w := by
  obtain ⟨j, hj, _⟩ := Option.map_eq_some_iff.1 bwSize
  go_enter Try.func70, Try.ntmps70
  go_wp2
  rw [Lib.run_neq_ptr_same w _ Try.underlying86 hj]
  go_wp2
  go_end0
  exact ⟨rfl, rfl⟩
set_option maxHeartbeats 1000000 in
set_option maxRecDepth 100000 in
theorem bw_check_fresh (b : Nat) (w : World) (h0 : w.cell? ⟨b, 0, none⟩ = some (.pointer none)) (hsh : w.shape? b = some (88, 2)) (hfz : w.frozen? ⟨b, 0, none⟩ = false) :
    Calls Try.prog 70 #[.pointer (some ⟨b, 0, none⟩)] w fun e w' => e = .returned (.tuple #[]) ∧ w' = w.setCell ⟨b, 0, none⟩ (.pointer (some ⟨b, 0, none⟩)) := by
  obtain ⟨j, hj, hjs⟩ := Option.map_eq_some_iff.1 bwSize
  go_enter Try.func70, Try.ntmps70
  go_wp2
  rw [Lib.run_to_unsafe w ⟨b, 0, none⟩ Try.underlying86 Try.underlying126 hj (by rw [hjs]; decide) hsh (Nat.zero_lt_succ 1)]
  simp only [Result.andThen]
  rw [Oper.upon_value]
  go_wp2
  rw [run_callFunc_extern Try.func82 (by kernel_rfl) (by kernel_rfl) (by kernel_rfl) (e := Extern.AbiNoEscape.same) (by kernel_rfl)]
  rw [Lib.run_noEscape]
  simp only [Result.andThen]
  rw [Oper.upon_value]
  go_wp2
  rw [Lib.run_from_unsafe w ⟨b, 0, none⟩ Try.underlying126 Try.underlying86 hj hsh bwLies]
  simp only [Result.andThen]
  rw [Oper.upon_value]
  go_wp2
  go_end0
  exact ⟨rfl, rfl⟩
set_option maxHeartbeats 2000000 in
set_option maxRecDepth 100000 in
theorem write_spec : WriteSpec Try.prog 47 88 5 := by
  intro B b p v bs s w hBw hBb hbk hp hown hne hlen
  obtain ⟨i0, hi, hz0, hz1, hz2⟩ := info_parts bwInfo
  have hck : Calls Try.prog 70 #[.pointer (some ⟨b, 0, none⟩)] w fun e w1 => e = .returned (.tuple #[]) ∧ w1 = w.setRow b #[.pointer (some ⟨b, 0, none⟩), v] := by
    rcases hp with rfl | rfl
    · refine (bw_check_fresh b w (by rw [Lib.cell_of_heap hbk]; rfl) (by simp [World.shape?, hbk]) (by simp [World.frozen?, hbk])).mono ?_
      rintro e w' ⟨rfl, rfl⟩
      exact ⟨rfl, setCell_two0 w b _ _ _ _ hbk⟩
    · refine (bw_check_used b w (by rw [Lib.cell_of_heap hbk]; rfl)).mono ?_
      rintro e w' ⟨rfl, rfl⟩
      exact ⟨rfl, (setRow_id _ b _ _ hbk).symm⟩
  have hlt0 : b < w.heap.size := (Array.getElem?_eq_some_iff.1 hbk).1
  have hrow := setRow_heap w b _ #[.pointer (some ⟨b, 0, none⟩), v] _ _ hbk
  have hsz1 : (w.setRow b #[.pointer (some ⟨b, 0, none⟩), v]).heap.size = w.heap.size := by simp [World.setRow]
  have hc1 : ∀ g o, g ≠ b → (w.setRow b #[.pointer (some ⟨b, 0, none⟩), v]).cell? ⟨g, o, none⟩ = w.cell? ⟨g, o, none⟩ := fun g o hg => World.cell?_of_block (w := w) (a := ⟨g, o, none⟩) (setRow_other w b g _ hg)
  have hown1 : (w.setRow b #[.pointer (some ⟨b, 0, none⟩), v]).ownsRow B 5 1 v bs.length bs :=
    hown.kept (row := some b) ⟨rfl, rfl, rfl, by simp [World.setRow], fun k _ hk => setRow_other w b k _ (fun e => hk (by rw [e]))⟩ (.inr hne)
  generalize w.setRow b #[.pointer (some ⟨b, 0, none⟩), v] = w1 at hck hrow hsz1 hc1 hown1 ⊢
  have c0 : w1.cell? ⟨b, 0, none⟩ = some (.pointer (some ⟨b, 0, none⟩)) := by rw [Lib.cell_of_heap hrow]; rfl
  have c1 : w1.cell? ⟨b, 1, none⟩ = some v := by rw [Lib.cell_of_heap hrow]; rfl
  go_enter Try.func47, Try.ntmps47
  go_wp2_with (go_at_call 70; refine hck.mono ?_)
  rintro e w1' ⟨rfl, hw1⟩
  subst w1'
  go_wp2_with (at_builtin; refine wpList_app_str rfl _ _ 24 9 rfl B 5 i0 Try.underlying24 Try.underlying9 hi hz0 hz1 hz2 _ _ _ rfl hown1 s rfl (by unfold maxLen; omega) (by omega) (by omega) ?_)
  intro v' w2 hown' hgrow hat hkeep
  have hb2 : w2.heap[b]? = some (.cells #[.pointer (some ⟨b, 0, none⟩), v] 88 (0, 0)) := by
    rw [hgrow.block b (by omega) (fun e => hne e.symm)]
    exact hrow
  have d0 : w2.cell? ⟨b, 0, none⟩ = some (.pointer (some ⟨b, 0, none⟩)) := by rw [Lib.cell_of_heap hb2]; rfl
  have d1 : w2.cell? ⟨b, 1, none⟩ = some v := by rw [Lib.cell_of_heap hb2]; rfl
  have f1 : w2.frozen? ⟨b, 1, none⟩ = false := Lib.frozen_of_heap hb2 1
  obtain ⟨ao, n', cap, rfl⟩ : ∃ ao n' cap, v' = .slice ao n' cap := by
    rcases hown'.2 with ⟨hv, _⟩ | ⟨g, cap, cur, hv, _⟩
    · exact ⟨_, _, _, hv⟩
    · exact ⟨_, _, _, hv⟩
  have hfin := setCell_two1 w2 b (.pointer (some ⟨b, 0, none⟩)) v (.slice ao n' cap) _ hb2
  have hres : ∀ x, ∃ (x' v' : Value) (w2' : World), (Ending.returned x) = .returned x' ∧ w1.grownBy w2' v.ownBlock ∧ w2'.ownsRow B 5 1 v' (bs.length + s.size) (bs ++ Lib.strCells s) ∧ (v'.ownBlock = v.ownBlock ∨ v'.ownBlock = some w.heap.size) ∧
      (∀ g o u, v.ownBlock = some g → o < bs.length → w.cell? ⟨g, o, none⟩ = some u → w2'.cell? ⟨g, o, none⟩ = some u) ∧ w2.setRow b #[.pointer (some ⟨b, 0, none⟩), .slice ao n' cap] = w2'.setRow b #[.pointer (some ⟨b, 0, none⟩), v'] :=
    fun x => ⟨x, _, w2, rfl, hgrow, hown', by first | exact hat | (rw [hsz1] at hat; exact hat), fun g o u hg ho hu => hkeep g o u hg ho (by rw [hc1 g o (fun e => hne (e ▸ hg))]; exact hu), rfl⟩
  go_wp2
  go_ret2
  exact hres _
set_option maxHeartbeats 2000000 in
set_option maxRecDepth 100000 in
theorem string_spec : StringSpec Try.prog 50 88 5 := by
  intro b g cap p cur l w hbk hg h0 hnc hcm hcs htake
  have hl0 : l.length ≠ 0 := by simpa using h0
  have c1 : w.drew.cell? ⟨b, 1, none⟩ = some (.slice (some ⟨g, 0, none⟩) l.length cap) := by
    have : w.drew.heap[b]? = some (.cells #[p, .slice (some ⟨g, 0, none⟩) l.length cap] 88 (0, 0)) := hbk
    rw [Lib.cell_of_heap this]; rfl
  have hSD : (Builtin.unsafeSliceData_ #[24] 120 #[.slice (some ⟨g, 0, none⟩) l.length cap]).run Try.prog w.drew = .ok (.pointer (some ⟨g, 0, none⟩)) w.drew :=
    Lib.run_unsafeSliceData_row _ _ _ _ _ _ (by omega)
  have hg' : w.drew.heap[g]? = some (.cells cur 5 (0, 0)) := hg
  have hUS : (Builtin.unsafeString_ #[120, 3] 9 #[.pointer (some ⟨g, 0, none⟩), .int .i64 l.length]).run Try.prog w.drew = .ok (.string ⟨l.toArray⟩) (w.drew.freeze ⟨g, 0, none⟩ l.length) := by
    refine Lib.run_unsafeString_row w.drew 120 3 9 5 Try.underlying120 (by kernel_rfl) g cur.size (by simp [World.shape?, hg']) l h0 (by omega) (by unfold maxLen at hcm; omega) ?_
    intro j x hx
    rw [add_at, Nat.zero_add, Lib.cell_of_heap hg']
    have e : (cur.toList.take l.length)[j]? = some (.int .u8 x.toNat) := by rw [htake]; simp [Lib.byteCells, hx]
    rw [List.getElem?_take] at e
    split at e
    · simpa using e
    · cases e
  go_enter Try.func50, Try.ntmps50
  go_wp2
  go_region
  all_goals (go_wp2; go_ret; exact ⟨rfl, rfl⟩)
end Go.Proofs.Ytbiongfnbbnndaa
