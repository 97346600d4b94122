/- Chapter 53: the buckets of a tree (copy into a slice of an array), walked. -/
import Derived.Test.YtknmjfojlnajjaaDn
import Derived.Deep.RegionLaw
import Derived.Deep.RegionHeld3
import Derived.Laws.ResultCell
set_option linter.unusedSimpArgs false
set_option linter.unusedVariables false
namespace Go.Proofs.Ytknmjfojlnajjaa
open Go Ab Go.RowKit
set_option maxRecDepth 100000

def zer : Array Value := #[.int .u64 0, .int .u64 0, .int .u64 0, .int .u64 0, .int .u64 0, .int .u64 0, .int .u64 0, .int .u64 0, .int .u64 0, .int .u64 0, .int .u64 0, .int .u64 0, .int .u64 0, .int .u64 0, .int .u64 0, .int .u64 0, .int .u64 0, .int .u64 0, .int .u64 0, .int .u64 0, .int .u64 0, .int .u64 0, .int .u64 0, .int .u64 0, .int .u64 0, .int .u64 0, .int .u64 0, .int .u64 0, .int .u64 0, .int .u64 0, .int .u64 0, .int .u64 0, .int .u64 0, .int .u64 0, .int .u64 0, .int .u64 0, .int .u64 0, .int .u64 0, .int .u64 0, .int .u64 0, .int .u64 0, .int .u64 0, .int .u64 0, .int .u64 0, .int .u64 0, .int .u64 0, .int .u64 0, .int .u64 0, .int .u64 0, .int .u64 0, .int .u64 0, .int .u64 0, .int .u64 0, .int .u64 0, .int .u64 0, .int .u64 0, .int .u64 0, .int .u64 0, .int .u64 0, .int .u64 0, .int .u64 0, .int .u64 0, .int .u64 0, .int .u64 0]
theorem keepB {w W : World} {v0 v1 : Value} (h0 : W.cell? ⟨w.heap.size, 0, none⟩ = some v0) (h1 : W.cell? ⟨w.heap.size, 1, none⟩ = some v1) (w' : World) (h : Below W.heap.size W w') (hl : w.heap.size < W.heap.size) :
    Below W.heap.size W w' ∧ w'.cell? ⟨w.heap.size, 0, none⟩ = some v0 ∧ w'.cell? ⟨w.heap.size, 1, none⟩ = some v1 :=
  ⟨h, (h.cell (by exact hl)).trans h0, (h.cell (by exact hl)).trans h1⟩
theorem bthenB {W a b : World} (h : Below W.heap.size W a) (k : Below a.heap.size a b) : Below W.heap.size W b := h.trans (k.mono h.size)
theorem results_row_tmp {P : Program} {fn : Func} {p u : Tmp} {ty : TypeId} (h : fn.results = #[.cell p ty, .tmp u]) (tmps : Array Value) (w : World) (g : Nat) (t : TypeId) (cs : Array Value) (fr : Nat × Nat) (d : TypeDesc)
    (hp : tmps.getD p undef = .pointer (some ⟨g, 0, none⟩)) (hg : w.heap[g]? = some (.cells cs t fr))
    (hu : P.underlying ty = some d) (hd : (match d with | .struct _ | .array _ _ => true | _ => false) = true) (hi : (P.info? ty).map (·.size) = some cs.size) :
    (results fn tmps).run P w = .ok (.tuple #[.agg cs, tmps.getD u undef]) w := by
  rw [results_cell_tmp h, hp]
  simp [asAddr, run_loadVar_row w g t ty cs fr d hg hu hd hi, Result.andThen]
set_option maxHeartbeats 2000000 in
theorem buckets_no1 (Z : Array Value) (hZ : Z = zer) (sp : Option Addr) (n c r : Nat) (hn : n ≠ 64) (w : World) : Calls Try.prog 35 #[.agg #[.slice sp n c, .int .u64 (r : Int)]] w fun e w' =>
    e = .returned (.tuple #[.agg Z, .bool false]) ∧ Below w.heap.size w w' := by
  have hn1 : ((n : Int) != 64) = true := by simp; omega
  go_enter Try.func35, Try.ntmps35
  go_wp2
  obtain ⟨e0, h0, h1, h2, hB⟩ := three_alloc w (.cells #[.slice sp n c, .int .u64 (r : Int)] 26) (.cells #[.int .u64 0, .int .u64 0, .int .u64 0, .int .u64 0, .int .u64 0, .int .u64 0, .int .u64 0, .int .u64 0, .int .u64 0, .int .u64 0, .int .u64 0, .int .u64 0, .int .u64 0, .int .u64 0, .int .u64 0, .int .u64 0, .int .u64 0, .int .u64 0, .int .u64 0, .int .u64 0, .int .u64 0, .int .u64 0, .int .u64 0, .int .u64 0, .int .u64 0, .int .u64 0, .int .u64 0, .int .u64 0, .int .u64 0, .int .u64 0, .int .u64 0, .int .u64 0, .int .u64 0, .int .u64 0, .int .u64 0, .int .u64 0, .int .u64 0, .int .u64 0, .int .u64 0, .int .u64 0, .int .u64 0, .int .u64 0, .int .u64 0, .int .u64 0, .int .u64 0, .int .u64 0, .int .u64 0, .int .u64 0, .int .u64 0, .int .u64 0, .int .u64 0, .int .u64 0, .int .u64 0, .int .u64 0, .int .u64 0, .int .u64 0, .int .u64 0, .int .u64 0, .int .u64 0, .int .u64 0, .int .u64 0, .int .u64 0, .int .u64 0, .int .u64 0] 52) (.cells #[.int .u64 0, .int .u64 0, .int .u64 0, .int .u64 0, .int .u64 0, .int .u64 0, .int .u64 0, .int .u64 0, .int .u64 0, .int .u64 0, .int .u64 0, .int .u64 0, .int .u64 0, .int .u64 0, .int .u64 0, .int .u64 0, .int .u64 0, .int .u64 0, .int .u64 0, .int .u64 0, .int .u64 0, .int .u64 0, .int .u64 0, .int .u64 0, .int .u64 0, .int .u64 0, .int .u64 0, .int .u64 0, .int .u64 0, .int .u64 0, .int .u64 0, .int .u64 0, .int .u64 0, .int .u64 0, .int .u64 0, .int .u64 0, .int .u64 0, .int .u64 0, .int .u64 0, .int .u64 0, .int .u64 0, .int .u64 0, .int .u64 0, .int .u64 0, .int .u64 0, .int .u64 0, .int .u64 0, .int .u64 0, .int .u64 0, .int .u64 0, .int .u64 0, .int .u64 0, .int .u64 0, .int .u64 0, .int .u64 0, .int .u64 0, .int .u64 0, .int .u64 0, .int .u64 0, .int .u64 0, .int .u64 0, .int .u64 0, .int .u64 0, .int .u64 0] 52)
  generalize ((w.alloc (.cells #[.slice sp n c, .int .u64 (r : Int)] 26)).alloc (.cells #[.int .u64 0, .int .u64 0, .int .u64 0, .int .u64 0, .int .u64 0, .int .u64 0, .int .u64 0, .int .u64 0, .int .u64 0, .int .u64 0, .int .u64 0, .int .u64 0, .int .u64 0, .int .u64 0, .int .u64 0, .int .u64 0, .int .u64 0, .int .u64 0, .int .u64 0, .int .u64 0, .int .u64 0, .int .u64 0, .int .u64 0, .int .u64 0, .int .u64 0, .int .u64 0, .int .u64 0, .int .u64 0, .int .u64 0, .int .u64 0, .int .u64 0, .int .u64 0, .int .u64 0, .int .u64 0, .int .u64 0, .int .u64 0, .int .u64 0, .int .u64 0, .int .u64 0, .int .u64 0, .int .u64 0, .int .u64 0, .int .u64 0, .int .u64 0, .int .u64 0, .int .u64 0, .int .u64 0, .int .u64 0, .int .u64 0, .int .u64 0, .int .u64 0, .int .u64 0, .int .u64 0, .int .u64 0, .int .u64 0, .int .u64 0, .int .u64 0, .int .u64 0, .int .u64 0, .int .u64 0, .int .u64 0, .int .u64 0, .int .u64 0, .int .u64 0] 52)).alloc (.cells #[.int .u64 0, .int .u64 0, .int .u64 0, .int .u64 0, .int .u64 0, .int .u64 0, .int .u64 0, .int .u64 0, .int .u64 0, .int .u64 0, .int .u64 0, .int .u64 0, .int .u64 0, .int .u64 0, .int .u64 0, .int .u64 0, .int .u64 0, .int .u64 0, .int .u64 0, .int .u64 0, .int .u64 0, .int .u64 0, .int .u64 0, .int .u64 0, .int .u64 0, .int .u64 0, .int .u64 0, .int .u64 0, .int .u64 0, .int .u64 0, .int .u64 0, .int .u64 0, .int .u64 0, .int .u64 0, .int .u64 0, .int .u64 0, .int .u64 0, .int .u64 0, .int .u64 0, .int .u64 0, .int .u64 0, .int .u64 0, .int .u64 0, .int .u64 0, .int .u64 0, .int .u64 0, .int .u64 0, .int .u64 0, .int .u64 0, .int .u64 0, .int .u64 0, .int .u64 0, .int .u64 0, .int .u64 0, .int .u64 0, .int .u64 0, .int .u64 0, .int .u64 0, .int .u64 0, .int .u64 0, .int .u64 0, .int .u64 0, .int .u64 0, .int .u64 0] 52) = W at *
  have c0 : W.cell? ⟨w.heap.size, 0, none⟩ = some (.slice sp n c) := by rw [Lib.cell_of_heap h0]; rfl
  have c1 : W.cell? ⟨w.heap.size, 1, none⟩ = some (.int .u64 (r : Int)) := by rw [Lib.cell_of_heap h0]; rfl
  have kp := keepB c0 c1
  have hlt : w.heap.size < W.heap.size := by omega
  clear kp
  have h1' : W.heap[w.heap.size + 1]? = some (.cells Z 52 (0, 0)) := by rw [hZ]; exact h1
  have h2' : W.heap[w.heap.size + 1 + 1]? = some (.cells Z 52 (0, 0)) := by rw [hZ]; exact h2
  clear h1 h2
  have hi64 : (Try.prog.info? 52).map (·.size) = some Z.size := by rw [hZ]; kernel_rfl
  have hz1 : Z.all (·.oneCell') = true := by rw [hZ]; kernel_rfl
  clear hZ
  go_region
  go_wp2_with (first | (refine wpList_load_row rfl 52 (.tmp 4) rfl (w.heap.size + 1 + 1) rfl 52 Z (0, 0) _ h2' Try.underlying52 rfl hi64 ?_) | (refine wpList_store_row rfl 52 (.tmp 2) (.tmp 16) rfl (w.heap.size + 1) Z rfl rfl 52 Z h1' hi64 rfl hz1 ?_))
  try simp only [Exit.inBlock, Exit.then]
  refine bodyPost_ret (results_row_tmp rfl _ _ (w.heap.size + 1) 52 Z (0, 0) _ rfl (setRow_heap W.drew _ Z _ _ _ h1') Try.underlying52 rfl hi64) rfl ?_
  exact ⟨rfl, below_setRow hB.drew (by omega) _⟩
set_option maxHeartbeats 2000000 in
theorem buckets_no2 (Z : Array Value) (hZ : Z = zer) (sp : Option Addr) (c r R : Nat) (hn : r ≠ R) (w : World) (hR : ∀ w', Below w.heap.size w w' → Calls Try.prog 14 #[.agg #[.slice sp 64 c, .int .u64 (r : Int)]] w' fun e w2 => e = .returned (.int .u64 (R : Int)) ∧ Below w'.heap.size w' w2) : Calls Try.prog 35 #[.agg #[.slice sp 64 c, .int .u64 (r : Int)]] w fun e w' =>
    e = .returned (.tuple #[.agg Z, .bool false]) ∧ Below w.heap.size w w' := by
  have hn1 : ((r : Int) != (R : Int)) = true := by simp; omega
  go_enter Try.func35, Try.ntmps35
  go_wp2
  obtain ⟨e0, h0, h1, h2, hB⟩ := three_alloc w (.cells #[.slice sp 64 c, .int .u64 (r : Int)] 26) (.cells #[.int .u64 0, .int .u64 0, .int .u64 0, .int .u64 0, .int .u64 0, .int .u64 0, .int .u64 0, .int .u64 0, .int .u64 0, .int .u64 0, .int .u64 0, .int .u64 0, .int .u64 0, .int .u64 0, .int .u64 0, .int .u64 0, .int .u64 0, .int .u64 0, .int .u64 0, .int .u64 0, .int .u64 0, .int .u64 0, .int .u64 0, .int .u64 0, .int .u64 0, .int .u64 0, .int .u64 0, .int .u64 0, .int .u64 0, .int .u64 0, .int .u64 0, .int .u64 0, .int .u64 0, .int .u64 0, .int .u64 0, .int .u64 0, .int .u64 0, .int .u64 0, .int .u64 0, .int .u64 0, .int .u64 0, .int .u64 0, .int .u64 0, .int .u64 0, .int .u64 0, .int .u64 0, .int .u64 0, .int .u64 0, .int .u64 0, .int .u64 0, .int .u64 0, .int .u64 0, .int .u64 0, .int .u64 0, .int .u64 0, .int .u64 0, .int .u64 0, .int .u64 0, .int .u64 0, .int .u64 0, .int .u64 0, .int .u64 0, .int .u64 0, .int .u64 0] 52) (.cells #[.int .u64 0, .int .u64 0, .int .u64 0, .int .u64 0, .int .u64 0, .int .u64 0, .int .u64 0, .int .u64 0, .int .u64 0, .int .u64 0, .int .u64 0, .int .u64 0, .int .u64 0, .int .u64 0, .int .u64 0, .int .u64 0, .int .u64 0, .int .u64 0, .int .u64 0, .int .u64 0, .int .u64 0, .int .u64 0, .int .u64 0, .int .u64 0, .int .u64 0, .int .u64 0, .int .u64 0, .int .u64 0, .int .u64 0, .int .u64 0, .int .u64 0, .int .u64 0, .int .u64 0, .int .u64 0, .int .u64 0, .int .u64 0, .int .u64 0, .int .u64 0, .int .u64 0, .int .u64 0, .int .u64 0, .int .u64 0, .int .u64 0, .int .u64 0, .int .u64 0, .int .u64 0, .int .u64 0, .int .u64 0, .int .u64 0, .int .u64 0, .int .u64 0, .int .u64 0, .int .u64 0, .int .u64 0, .int .u64 0, .int .u64 0, .int .u64 0, .int .u64 0, .int .u64 0, .int .u64 0, .int .u64 0, .int .u64 0, .int .u64 0, .int .u64 0] 52)
  generalize ((w.alloc (.cells #[.slice sp 64 c, .int .u64 (r : Int)] 26)).alloc (.cells #[.int .u64 0, .int .u64 0, .int .u64 0, .int .u64 0, .int .u64 0, .int .u64 0, .int .u64 0, .int .u64 0, .int .u64 0, .int .u64 0, .int .u64 0, .int .u64 0, .int .u64 0, .int .u64 0, .int .u64 0, .int .u64 0, .int .u64 0, .int .u64 0, .int .u64 0, .int .u64 0, .int .u64 0, .int .u64 0, .int .u64 0, .int .u64 0, .int .u64 0, .int .u64 0, .int .u64 0, .int .u64 0, .int .u64 0, .int .u64 0, .int .u64 0, .int .u64 0, .int .u64 0, .int .u64 0, .int .u64 0, .int .u64 0, .int .u64 0, .int .u64 0, .int .u64 0, .int .u64 0, .int .u64 0, .int .u64 0, .int .u64 0, .int .u64 0, .int .u64 0, .int .u64 0, .int .u64 0, .int .u64 0, .int .u64 0, .int .u64 0, .int .u64 0, .int .u64 0, .int .u64 0, .int .u64 0, .int .u64 0, .int .u64 0, .int .u64 0, .int .u64 0, .int .u64 0, .int .u64 0, .int .u64 0, .int .u64 0, .int .u64 0, .int .u64 0] 52)).alloc (.cells #[.int .u64 0, .int .u64 0, .int .u64 0, .int .u64 0, .int .u64 0, .int .u64 0, .int .u64 0, .int .u64 0, .int .u64 0, .int .u64 0, .int .u64 0, .int .u64 0, .int .u64 0, .int .u64 0, .int .u64 0, .int .u64 0, .int .u64 0, .int .u64 0, .int .u64 0, .int .u64 0, .int .u64 0, .int .u64 0, .int .u64 0, .int .u64 0, .int .u64 0, .int .u64 0, .int .u64 0, .int .u64 0, .int .u64 0, .int .u64 0, .int .u64 0, .int .u64 0, .int .u64 0, .int .u64 0, .int .u64 0, .int .u64 0, .int .u64 0, .int .u64 0, .int .u64 0, .int .u64 0, .int .u64 0, .int .u64 0, .int .u64 0, .int .u64 0, .int .u64 0, .int .u64 0, .int .u64 0, .int .u64 0, .int .u64 0, .int .u64 0, .int .u64 0, .int .u64 0, .int .u64 0, .int .u64 0, .int .u64 0, .int .u64 0, .int .u64 0, .int .u64 0, .int .u64 0, .int .u64 0, .int .u64 0, .int .u64 0, .int .u64 0, .int .u64 0] 52) = W at *
  have c0 : W.cell? ⟨w.heap.size, 0, none⟩ = some (.slice sp 64 c) := by rw [Lib.cell_of_heap h0]; rfl
  have c1 : W.cell? ⟨w.heap.size, 1, none⟩ = some (.int .u64 (r : Int)) := by rw [Lib.cell_of_heap h0]; rfl
  have kp := keepB c0 c1
  have hlt : w.heap.size < W.heap.size := by omega
  have h1' : W.heap[w.heap.size + 1]? = some (.cells Z 52 (0, 0)) := by rw [hZ]; exact h1
  have h2' : W.heap[w.heap.size + 1 + 1]? = some (.cells Z 52 (0, 0)) := by rw [hZ]; exact h2
  clear h1 h2
  have hi64 : (Try.prog.info? 52).map (·.size) = some Z.size := by rw [hZ]; kernel_rfl
  have hz1 : Z.all (·.oneCell') = true := by rw [hZ]; kernel_rfl
  clear hZ
  have HR : ∀ w', Below W.heap.size W w' → Calls Try.prog 14 #[.agg #[.slice sp 64 c, .int .u64 (r : Int)]] w' fun e w2 => e = .returned (.int .u64 (R : Int)) ∧ Below w'.heap.size w' w2 := fun w' h => hR w' (hB.trans (h.mono (by omega)))
  go_region_held3? (fun w' => Below W.heap.size W w' ∧ w'.cell? ⟨w.heap.size, 0, none⟩ = some (.slice sp 64 c) ∧ w'.cell? ⟨w.heap.size, 1, none⟩ = some (.int .u64 (r : Int))) (first | exact kp _ (Below.refl _ _).drew hlt | (refine kp _ ?_ hlt; exact bthenB (And.left (by assumption : Below W.heap.size W _ ∧ _)) hn))
    (((go_at_call 14; refine (HR _ (And.left (by assumption : Below W.heap.size W _ ∧ _))).mono ?_; rintro e wn ⟨rfl, hn⟩)))
  obtain ⟨hW, d0, d1⟩ := (by assumption : Below W.heap.size W _ ∧ _)
  have k1 := (hW.block (w.heap.size + 1) (by omega)).trans h1'
  have k2 := (hW.block (w.heap.size + 1 + 1) (by omega)).trans h2'
  have hB2 := hB.trans (hW.mono (by omega))
  clear hW
  go_wp2_with (first | (refine wpList_load_row rfl 52 (.tmp 4) rfl (w.heap.size + 1 + 1) rfl 52 Z (0, 0) _ k2 Try.underlying52 rfl hi64 ?_) | (refine wpList_store_row rfl 52 (.tmp 2) (.tmp 16) rfl (w.heap.size + 1) Z rfl rfl 52 Z k1 hi64 rfl hz1 ?_))
  try simp only [Exit.inBlock, Exit.then]
  refine bodyPost_ret (results_row_tmp rfl _ _ (w.heap.size + 1) 52 Z (0, 0) _ rfl (setRow_heap _ _ Z _ _ _ k1) Try.underlying52 rfl hi64) rfl ?_
  exact ⟨rfl, below_setRow hB2 (by omega) _⟩
set_option maxHeartbeats 2000000 in
theorem buckets_yes (Z X : Array Value) (hZ : Z = zer) (hX : X.size = 64) (hX1 : X.all (·.oneCell') = true) (ad : Addr) (c r : Nat) (w : World) (hsrc : ∀ j v, X.toList[j]? = some v → w.cell? (ad.add j) = some v) (hR : ∀ w', Below w.heap.size w w' → Calls Try.prog 14 #[.agg #[.slice (some ad) 64 c, .int .u64 (r : Int)]] w' fun e w2 => e = .returned (.int .u64 (r : Int)) ∧ Below w'.heap.size w' w2) : Calls Try.prog 35 #[.agg #[.slice (some ad) 64 c, .int .u64 (r : Int)]] w fun e w' =>
    e = .returned (.tuple #[.agg X, .bool true]) ∧ Below w.heap.size w w' := by
  have hn1 : ((r : Int) != (r : Int)) = false := by simp
  go_enter Try.func35, Try.ntmps35
  go_wp2
  obtain ⟨e0, h0, h1, h2, hB⟩ := three_alloc w (.cells #[.slice (some ad) 64 c, .int .u64 (r : Int)] 26) (.cells #[.int .u64 0, .int .u64 0, .int .u64 0, .int .u64 0, .int .u64 0, .int .u64 0, .int .u64 0, .int .u64 0, .int .u64 0, .int .u64 0, .int .u64 0, .int .u64 0, .int .u64 0, .int .u64 0, .int .u64 0, .int .u64 0, .int .u64 0, .int .u64 0, .int .u64 0, .int .u64 0, .int .u64 0, .int .u64 0, .int .u64 0, .int .u64 0, .int .u64 0, .int .u64 0, .int .u64 0, .int .u64 0, .int .u64 0, .int .u64 0, .int .u64 0, .int .u64 0, .int .u64 0, .int .u64 0, .int .u64 0, .int .u64 0, .int .u64 0, .int .u64 0, .int .u64 0, .int .u64 0, .int .u64 0, .int .u64 0, .int .u64 0, .int .u64 0, .int .u64 0, .int .u64 0, .int .u64 0, .int .u64 0, .int .u64 0, .int .u64 0, .int .u64 0, .int .u64 0, .int .u64 0, .int .u64 0, .int .u64 0, .int .u64 0, .int .u64 0, .int .u64 0, .int .u64 0, .int .u64 0, .int .u64 0, .int .u64 0, .int .u64 0, .int .u64 0] 52) (.cells #[.int .u64 0, .int .u64 0, .int .u64 0, .int .u64 0, .int .u64 0, .int .u64 0, .int .u64 0, .int .u64 0, .int .u64 0, .int .u64 0, .int .u64 0, .int .u64 0, .int .u64 0, .int .u64 0, .int .u64 0, .int .u64 0, .int .u64 0, .int .u64 0, .int .u64 0, .int .u64 0, .int .u64 0, .int .u64 0, .int .u64 0, .int .u64 0, .int .u64 0, .int .u64 0, .int .u64 0, .int .u64 0, .int .u64 0, .int .u64 0, .int .u64 0, .int .u64 0, .int .u64 0, .int .u64 0, .int .u64 0, .int .u64 0, .int .u64 0, .int .u64 0, .int .u64 0, .int .u64 0, .int .u64 0, .int .u64 0, .int .u64 0, .int .u64 0, .int .u64 0, .int .u64 0, .int .u64 0, .int .u64 0, .int .u64 0, .int .u64 0, .int .u64 0, .int .u64 0, .int .u64 0, .int .u64 0, .int .u64 0, .int .u64 0, .int .u64 0, .int .u64 0, .int .u64 0, .int .u64 0, .int .u64 0, .int .u64 0, .int .u64 0, .int .u64 0] 52)
  generalize ((w.alloc (.cells #[.slice (some ad) 64 c, .int .u64 (r : Int)] 26)).alloc (.cells #[.int .u64 0, .int .u64 0, .int .u64 0, .int .u64 0, .int .u64 0, .int .u64 0, .int .u64 0, .int .u64 0, .int .u64 0, .int .u64 0, .int .u64 0, .int .u64 0, .int .u64 0, .int .u64 0, .int .u64 0, .int .u64 0, .int .u64 0, .int .u64 0, .int .u64 0, .int .u64 0, .int .u64 0, .int .u64 0, .int .u64 0, .int .u64 0, .int .u64 0, .int .u64 0, .int .u64 0, .int .u64 0, .int .u64 0, .int .u64 0, .int .u64 0, .int .u64 0, .int .u64 0, .int .u64 0, .int .u64 0, .int .u64 0, .int .u64 0, .int .u64 0, .int .u64 0, .int .u64 0, .int .u64 0, .int .u64 0, .int .u64 0, .int .u64 0, .int .u64 0, .int .u64 0, .int .u64 0, .int .u64 0, .int .u64 0, .int .u64 0, .int .u64 0, .int .u64 0, .int .u64 0, .int .u64 0, .int .u64 0, .int .u64 0, .int .u64 0, .int .u64 0, .int .u64 0, .int .u64 0, .int .u64 0, .int .u64 0, .int .u64 0, .int .u64 0] 52)).alloc (.cells #[.int .u64 0, .int .u64 0, .int .u64 0, .int .u64 0, .int .u64 0, .int .u64 0, .int .u64 0, .int .u64 0, .int .u64 0, .int .u64 0, .int .u64 0, .int .u64 0, .int .u64 0, .int .u64 0, .int .u64 0, .int .u64 0, .int .u64 0, .int .u64 0, .int .u64 0, .int .u64 0, .int .u64 0, .int .u64 0, .int .u64 0, .int .u64 0, .int .u64 0, .int .u64 0, .int .u64 0, .int .u64 0, .int .u64 0, .int .u64 0, .int .u64 0, .int .u64 0, .int .u64 0, .int .u64 0, .int .u64 0, .int .u64 0, .int .u64 0, .int .u64 0, .int .u64 0, .int .u64 0, .int .u64 0, .int .u64 0, .int .u64 0, .int .u64 0, .int .u64 0, .int .u64 0, .int .u64 0, .int .u64 0, .int .u64 0, .int .u64 0, .int .u64 0, .int .u64 0, .int .u64 0, .int .u64 0, .int .u64 0, .int .u64 0, .int .u64 0, .int .u64 0, .int .u64 0, .int .u64 0, .int .u64 0, .int .u64 0, .int .u64 0, .int .u64 0] 52) = W at *
  have c0 : W.cell? ⟨w.heap.size, 0, none⟩ = some (.slice (some ad) 64 c) := by rw [Lib.cell_of_heap h0]; rfl
  have c1 : W.cell? ⟨w.heap.size, 1, none⟩ = some (.int .u64 (r : Int)) := by rw [Lib.cell_of_heap h0]; rfl
  have kp := keepB c0 c1
  have hlt : w.heap.size < W.heap.size := by omega
  have h1' : W.heap[w.heap.size + 1]? = some (.cells Z 52 (0, 0)) := by rw [hZ]; exact h1
  have h2' : W.heap[w.heap.size + 1 + 1]? = some (.cells Z 52 (0, 0)) := by rw [hZ]; exact h2
  clear h1 h2
  have hi64 : (Try.prog.info? 52).map (·.size) = some Z.size := by rw [hZ]; kernel_rfl
  have hz1 : Z.all (·.oneCell') = true := by rw [hZ]; kernel_rfl
  have hz3 : Z.size = 64 := by rw [hZ]; rfl
  have hiX : (Try.prog.info? 52).map (·.size) = some X.size := by rw [hX]; kernel_rfl
  have hsz : (Try.prog.info? 24).map (·.size) = some 1 := by kernel_rfl
  clear hZ
  have HR : ∀ w', Below W.heap.size W w' → Calls Try.prog 14 #[.agg #[.slice (some ad) 64 c, .int .u64 (r : Int)]] w' fun e w2 => e = .returned (.int .u64 (r : Int)) ∧ Below w'.heap.size w' w2 := fun w' h => hR w' (hB.trans (h.mono (by omega)))
  go_region_held3? (fun w' => Below W.heap.size W w' ∧ w'.cell? ⟨w.heap.size, 0, none⟩ = some (.slice (some ad) 64 c) ∧ w'.cell? ⟨w.heap.size, 1, none⟩ = some (.int .u64 (r : Int))) (first | exact kp _ (Below.refl _ _).drew hlt | (refine kp _ ?_ hlt; exact bthenB (And.left (by assumption : Below W.heap.size W _ ∧ _)) hn))
    (((go_at_call 14; refine (HR _ (And.left (by assumption : Below W.heap.size W _ ∧ _))).mono ?_; rintro e wn ⟨rfl, hn⟩)))
  obtain ⟨hW, d0, d1⟩ := (by assumption : Below W.heap.size W _ ∧ _)
  have k1 := (hW.block (w.heap.size + 1) (by omega)).trans h1'
  have k2 := (hW.block (w.heap.size + 1 + 1) (by omega)).trans h2'
  have hB2 := hB.trans (hW.mono (by omega))
  clear hW
  have hsrc2 : ∀ j v, X.toList[j]? = some v → wn.cell? (ad.add j) = some v := fun j v h => by
    have h0 := hsrc j v h
    exact (hB2.cell (World.block_lt_of_cell? w (ad.add j) h0)).trans h0
  have hXa : ∀ v ∈ X.toList, v.oneCell' = true := fun v hv => Array.all_eq_true_iff_forall_mem.1 hX1 v (by simpa using hv)
  have hsp : (splice Z.toList 0 X.toList).toArray = X := by
    have : Z.toList.drop (0 + X.toList.length) = [] := List.drop_of_length_le (by simp [hX, hz3])
    unfold splice
    rw [this]; simp
  go_wp2
  go_region_law? (refine step_copy_splice rfl (.tmp 17) (.tmp 19) 23 23 rfl 24 Try.underlying23 hsz _ _ _ _ _ _ rfl rfl (w.heap.size + 1 + 1) 0 Z.toList 52 k2 X.toList (by rw [Array.length_toList, hX]; rfl) (fun _ => ⟨rfl, ad, rfl, hsrc2⟩) (by simp [hX, hz3]) hXa (w.heap.size + 1 + 1) _ (Below.refl _ _) (Nat.le_refl _) ?_; intro w4 hg4 hb4)
  have g2 : w4.heap[w.heap.size + 1 + 1]? = some (.cells (splice Z.toList 0 X.toList).toArray 52 (0, 0)) := hg4
  rw [hsp] at g2
  have g1 := (hb4.block (w.heap.size + 1) (by omega)).trans k1
  have hB4 := hB2.drew.trans (hb4.mono (by omega : w.heap.size ≤ w.heap.size + 1 + 1))
  clear hg4 hsp hXa hsrc2
  go_wp2_with (first | (refine wpList_load_row rfl 52 (.tmp 4) rfl (w.heap.size + 1 + 1) rfl 52 X (0, 0) _ g2 Try.underlying52 rfl hiX ?_) | (refine wpList_store_row rfl 52 (.tmp 2) (.tmp 21) rfl (w.heap.size + 1) X rfl rfl 52 Z g1 hiX (hz3.trans hX.symm) hX1 ?_))
  try simp only [Exit.inBlock, Exit.then]
  refine bodyPost_ret (results_row_tmp rfl _ _ (w.heap.size + 1) 52 X (0, 0) _ rfl (setRow_heap _ _ Z _ _ _ g1) Try.underlying52 rfl hiX) rfl ?_
  exact ⟨rfl, below_setRow hB4 (by omega) _⟩
end Go.Proofs.Ytknmjfojlnajjaa
