/- Chapter 53: the bytes of a number, walked (an array and a slice of it). -/
import Derived.Test.YtknmjfojlnajjaaRows
import Derived.Test.YtknmjfojlnajjaaDp
import Derived.Test.YtknmjfojlnajjaaCw
import Derived.Test.YtknmjfojlnajjaaAbK
import Derived.WalkKit
import Derived.WalkSpells
import Derived.WalkLawsBesides
import Derived.LoopTactic
import Derived.Lib.Builder
import Derived.Handy
set_option linter.unusedSimpArgs false
set_option linter.unusedVariables false
namespace Go.Proofs.Ytknmjfojlnajjaa
open Go Ab Go.RowKit

theorem setCell_at (w : World) (g k : Nat) (cs : Array Value) (T : TypeId) (v : Value) (h : w.heap[g]? = some (.cells cs T (0, 0))) : (w.setCell ⟨g, k, none⟩ v).heap[g]? = some (.cells (cs.setIfInBounds k v) T (0, 0)) := by
  have hlt : g < w.heap.size := (Array.getElem?_eq_some_iff.1 h).1
  have hv : w.heap[g] = .cells cs T (0, 0) := (Array.getElem?_eq_some_iff.1 h).2
  unfold World.setCell
  rw [Array.getElem?_eq_getElem (by simpa using hlt), Array.getElem_modify]
  simp [hv]
def u8s (l : List UInt8) : Array Value := (l.map fun b => Value.int .u8 b.toNat).toArray
theorem conv_block (w : World) (g : Nat) (l : List UInt8) (T : TypeId) (h : w.heap[g]? = some (.cells (u8s l) T (0, 0))) (n : Nat) (hn : l.length = n) :
    (convert 71 9 (.slice (some ⟨g, 0, none⟩) n n)).run Try.prog w = .ok (.string ⟨l.toArray⟩) w := by
  have hcells : (loadCells ⟨g, 0, none⟩ n).run Try.prog w = .ok (u8s l) w := by
    have := run_loadCells_list (P := Try.prog) (w := w) ⟨g, 0, none⟩ (l.map fun b => Value.int .u8 b.toNat) (fun j v hj => by
      rw [add_at, Nat.zero_add, Lib.cell_of_heap h]
      unfold u8s
      simpa using hj)
    rw [List.length_map, hn] at this
    exact this
  have hf := fun f h => run_bytes (P := Try.prog) f h l (l.map fun b => Value.int .u8 b.toNat) ByteArray.empty w (by simp) (fun i b v hb hv => by
    rw [List.getElem?_map, hb] at hv; simp at hv; exact hv.symm)
  have hrun : (Conv.bytesToString (.slice (some ⟨g, 0, none⟩) n n)).run Try.prog w = .ok (.string ⟨l.toArray⟩) w := by
    simp only [Conv.bytesToString, Sem.run_bind, hcells, Result.andThen_ok, u8s, List.forIn_toArray]
    rw [hf _ (fun n r => rfl)]
    simp
  simp only [convert, Sem.run_bind, run_under Try.underlying71, run_under Try.underlying9, Result.andThen_ok, run_under Try.underlying5, hrun, Sem.run_pure]
theorem u8s_set (u n k : Nat) (h : k < n) : (u8s (litR u n k)).setIfInBounds k (.int .u8 ((bt u k).toNat : Int)) = u8s (litR u n (k + 1)) := by
  apply Array.ext'
  unfold u8s litR
  have e2 : n - k = (n - (k + 1)) + 1 := by omega
  rw [Array.toList_setIfInBounds, List.map_append, List.set_append_right _ _ (by simp [lit_len]), e2, List.replicate_succ, List.map_cons, lit_succ]
  simp [lit_len]
theorem u8s_zero (u : Nat) : u8s (litR u 8 0) = #[.int .u8 0, .int .u8 0, .int .u8 0, .int .u8 0, .int .u8 0, .int .u8 0, .int .u8 0, .int .u8 0] := rfl
theorem u8s_size (u n k : Nat) (h : k ≤ n) : (u8s (litR u n k)).size = n := by simp [u8s, litR, lit_len]; omega
theorem ediv_pow (u k : Nat) : (u : Int) / 2 ^ (8 * k) % 256 = ((bt u k).toNat : Int) := by
  have h := fdiv_pow u k
  rw [Int.fdiv_eq_ediv_of_nonneg _ (by exact Int.le_of_lt (Int.pow_pos (by decide)))] at h
  rw [h, bt_nat]
  omega
set_option maxHeartbeats 1000000 in
set_option maxRecDepth 100000 in
theorem dlittle_any (u : Nat) (w : World) : Calls Try.prog 32 #[.int .u64 u] w fun e w' => e = .returned (.string (litB u 8)) ∧ Below w.heap.size w w' := by
  go_enter Try.func32, Try.ntmps32
  go_wp2
  go_loopw [5] (fun i wr => ∃ k : Nat, k ≤ 8 ∧ i = .int .i64 k ∧ wr.heap[w.heap.size]? = some (.cells (u8s (litR u 8 k)) 70 (0, 0)) ∧ Below w.heap.size w wr) (fun i _ => 8 - (intOf i).toNat)
  case atStart => exact ⟨0, Nat.zero_le _, rfl, heap_alloc_new w _, (Below.refl _ _).alloc (Nat.le_refl _) _⟩
  case round =>
    obtain ⟨k, hk, rfl, hb, hbel⟩ := hrel
    by_cases hlt : k < 8
    · have hsz := u8s_size u 8 k hk
      have c1 : wr.cell? ⟨w.heap.size, k, none⟩ = some ((u8s (litR u 8 k))[k]'(by omega)) := by rw [Lib.cell_of_heap hb]; simp [hsz, hlt]
      have f1 : wr.frozen? ⟨w.heap.size, k, none⟩ = false := Lib.frozen_of_heap hb k
      have hfin : (∃ q : Nat, q ≤ 8 ∧ Value.int IntKind.i64 ((k : Int) + 1) = Value.int IntKind.i64 q ∧ (wr.setCell ⟨w.heap.size, k, none⟩ (.int .u8 ((u : Int) / 2 ^ (8 * k) % 256))).heap[w.heap.size]? = some (.cells (u8s (litR u 8 q)) 70 (0, 0)) ∧
          Below w.heap.size w (wr.setCell ⟨w.heap.size, k, none⟩ (.int .u8 ((u : Int) / 2 ^ (8 * k) % 256)))) ∧ 8 - (intOf (Value.int IntKind.i64 ((k : Int) + 1))).toNat < 8 - (intOf (Value.int IntKind.i64 (k : Int))).toNat := by
        refine ⟨⟨k + 1, by omega, rfl, ?_, hbel.setCell (p := ⟨w.heap.size, k, none⟩) (Nat.le_refl _) _⟩, by simp [intOf]; omega⟩
        rw [setCell_at _ _ _ _ _ _ hb, ediv_pow, u8s_set u 8 k hlt]
      go_wp2
      exact hfin
    · have hk8 : k = 8 := by omega
      subst hk8
      have hc := conv_block wr w.heap.size (litR u 8 8) _ hb 8 (by simp [litR, lit_len])
      rw [litR_all] at hc
      go_wp2
      go_ret
      exact ⟨rfl, hbel⟩
theorem dlittle_den (u : Nat) : PDen Try.prog 32 [.a (.int .u64 u)] (.a (.str (litB u 8))) :=
  pden_plain rfl (fun S w => .a (.str _ (by rw [litB_size]; omega))) fun w => dlittle_any u w
end Go.Proofs.Ytknmjfojlnajjaa
