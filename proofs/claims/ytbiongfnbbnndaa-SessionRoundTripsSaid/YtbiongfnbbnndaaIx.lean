/- slices.Insert at sessions, walked: room and no room. -/
import Derived.Test.YtbiongfnbbnndaaIn
import Derived.Test.YtbiongfnbbnndaaProg
import Derived.Shelf.Spec.SlicesInsert
import Derived.RegionTactic
import Derived.RegionCalls
import Derived.Lib.Hide
import Derived.Lib.Walk
set_option linter.unusedSimpArgs false
set_option linter.unusedVariables false
namespace Go.Proofs.Ytbiongfnbbnndaa
open Go Ab Go.RowKit
set_option maxRecDepth 100000

def insF : FuncId := 36
def insT : TypeId := 22
def insE : TypeId := 66
abbrev insZ : Nat := 3

theorem ins_info : ∃ I : TypeInfo, Try.prog.info? 66 = some I ∧ I.size = 3 ∧ I.bytes = 40 ∧ I.zero = some (.agg #[.int .i64 0, .int .i64 0, .slice none 0 0]) := by
  refine ⟨(Try.prog.info? 66).get (by kernel_rfl), ?_, by kernel_rfl, by kernel_rfl, by kernel_rfl⟩
  exact (Option.some_get _).symm

set_option maxHeartbeats 4000000 in
/-- There is room, and i is before the end: in place. -/
theorem ins_shift (w : World) (g n c i : Nat) (cur : List Value) (ad : Addr) (vc : Nat) (ys : List Value) (hg : w.heap[g]? = some (.cells cur.toArray 66 (0, 0))) (hcl : cur.length = c * 3) (hi : i < n) (hroom : n + 1 ≤ c) (hc63 : c ≤ 9223372036854775807)
    (hne : ad.block ≠ g) (hyl : ys.length = 3) (hsrc : ∀ j u, ys[j]? = some u → w.cell? (ad.add j) = some u) (h1c : ∀ u ∈ cur.take (n * 3), u.oneCell' = true) (h1y : ∀ u ∈ ys, u.oneCell' = true) :
    Calls Try.prog 36 #[.slice (some ⟨g, 0, none⟩) n c, .int .i64 i, .slice (some ad) 1 vc] w fun e w' =>
      e = .returned (.slice (some ⟨g, 0, none⟩) (n + 1) c) ∧ w'.heap[g]? = some (.cells (splice (splice cur ((i + 1) * 3) ((cur.take (n * 3)).drop (i * 3))) (i * 3) ys).toArray 66 (0, 0)) ∧ w.grownBy w' (some g) := by
  obtain ⟨I, hI, hIs, hIb, hIz⟩ := ins_info
  have hz1 : ¬ ((i : Int) = (n : Int)) := by omega
  have hcp1 : ∀ W : World, W.heap = w.heap → ∀ ty dc sc, (Builtin.copy_ #[22, 22] ty #[.slice (some ⟨g, (i + 1) * 3, none⟩) (n - i) dc, .slice (some ⟨g, i * 3, none⟩) (n + 1 - i) sc]).run Try.prog W =
      .ok (.int .i64 ((n - i : Nat) : Int)) (W.setRow g (splice cur ((i + 1) * 3) ((cur.take (n * 3)).drop (i * 3))).toArray) := fun W hW ty dc sc => by
    have hl : ((cur.take (n * 3)).drop (i * 3)).length = (n - i) * 3 := by rw [List.length_drop, List.length_take]; omega
    refine run_copy_rowN W 22 ty 66 I Try.underlying22 hI g ((i + 1) * 3) _ dc cur 66 (by rw [hW]; exact hg) ⟨g, i * 3, none⟩ _ sc (n - i) (by simp only [Nat.min_def]; split <;> omega) _ (by rw [hl, hIs]) (fun j u hj => ?_) (by rw [hl]; omega) (fun v hv => h1c v (List.mem_of_mem_drop hv))
    rw [add_at, cell_of_row W g (i * 3 + j) cur.toArray 66 (0, 0) (by rw [hW]; exact hg)]
    rw [List.getElem?_drop, List.getElem?_take] at hj
    split at hj
    · simpa using hj
    · cases hj
  generalize hC1 : splice cur ((i + 1) * 3) ((cur.take (n * 3)).drop (i * 3)) = cur1 at *
  have hl1 : cur1.length = c * 3 := by
    rw [← hC1, length_splice, hcl]
    rw [List.length_drop, List.length_take]; omega
  have hcp2 : ∀ W : World, W.heap = (w.setRow g cur1.toArray).heap → ∀ ty dc, (Builtin.copy_ #[22, 22] ty #[.slice (some ⟨g, i * 3, none⟩) (n + 1 - i) dc, .slice (some ad) 1 vc]).run Try.prog W =
      .ok (.int .i64 ((1 : Nat) : Int)) (W.setRow g (splice cur1 (i * 3) ys).toArray) := fun W hW ty dc => by
    refine run_copy_rowN W 22 ty 66 I Try.underlying22 hI g (i * 3) _ dc cur1 66 (by rw [hW]; exact setRow_heap w g _ _ _ _ hg) ad _ vc 1 (by simp only [Nat.min_def]; split <;> omega) ys (by rw [hyl, hIs]) (fun j u hj => ?_) (by rw [hyl]; omega) h1y
    have h := hsrc j u hj
    have hb : (ad.add j).block ≠ g := by
      have : (ad.add j).block = ad.block := by unfold Addr.add; split <;> rfl
      rw [this]; exact hne
    exact (World.cell?_of_block (w := w) (by rw [hW]; exact setRow_other w g _ _ hb)).trans h
  have hov : ∀ W : World, W.heap = w.heap → ∀ lb cb, (callFunc 59 #[.slice (some ad) 1 vc, .slice (some ⟨g, (i + 1) * 3, none⟩) lb cb]).run Try.prog W = .ok (.value (.bool false)) W := fun W hW lb cb => by
    rw [run_callFunc_extern Try.func59 (by kernel_rfl) (by kernel_rfl) (by kernel_rfl) (e := Extern.SlicesOverlaps.overlaps #[22, 22] #[4]) (by kernel_rfl),
      run_overlaps_own W 22 4 66 Try.underlying22 3 (fun w => by rw [run_size (n := 3) (by unfold sizeAt; rw [show Try.prog.info? 66 = some I from hI]; simp [hIs])]) ad ⟨g, (i + 1) * 3, none⟩ 1 vc lb cb hne (ys[0]'(by omega)) (by
        have h := hsrc 0 _ (List.getElem?_eq_getElem (by omega : 0 < ys.length))
        have e0 : ad.add 0 = ad := by unfold Addr.add; split <;> simp_all
        rw [e0] at h
        exact (World.cell?_of_block (w := w) (by rw [hW])).trans h) cur.toArray 66 (by rw [hW]; exact hg) (by simp; exact fun h => by rw [h] at hcl; simp at hcl; omega)]
    rfl
  have hw1 : IntKind.i64.wrap ((n : Int) + 1) = (n : Int) + 1 := by rw [IntKind.wrap_i64]; omega
  have hw2 : IntKind.i64.wrap ((i : Int) + 1) = (i : Int) + 1 := by rw [IntKind.wrap_i64]; omega
  have hgt : ¬ ((c : Int) < (n : Int) + 1) := by omega
  have htn : ((i : Int) + 1).toNat = i + 1 := by omega
  have htn2 : ((n : Int) + 1).toNat = n + 1 := by omega
  have hb4 : ¬ (c = i) := by omega
  have hb1 : (0 : Int) ≤ (i : Int) + 1 := by omega
  have hin : i ≤ n := by omega
  have hb3 : (i : Int) ≤ (n : Int) + 1 := by omega
  have mixed : Try.prog.follows .mixedOrders = true := by kernel_rfl
  have hb2 : ¬ (c = i + 1) := by omega
  go_enter Try.func36, Try.ntmps36
  go_wp2_with (simp only [hov])
  go_region_law_o (refine step_copy_runI rfl _ _ 22 22 rfl (.slice (some ⟨g, (i + 1) * 3, none⟩) (n - i) (c - (i + 1))) (.slice (some ⟨g, i * 3, none⟩) (n + 1 - i) (c - i)) (by simp [Act.eval, Act.put]) (by simp [Act.eval, Act.put]) (hcp1 w.drew rfl 3 (c - (i + 1)) (c - i)) ?_)
  have hh2 : (w.drew.setRow g cur1.toArray).heap = (w.setRow g cur1.toArray).heap := rfl
  go_wp2_with (at_builtin; refine wpList_copy_runI _ rfl _ _ 22 22 rfl _ _ rfl rfl (hcp2 (w.drew.setRow g cur1.toArray) hh2 _ _) ?_)
  go_ret
  have hs : ∀ (W : World) cs, (W.setRow g cs).heap.size = W.heap.size := fun W cs => by simp [World.setRow]
  refine ⟨rfl, setRow_heap _ g cur1.toArray _ _ (0, 0) (setRow_heap w.drew g cur.toArray _ _ (0, 0) hg), rfl, rfl, rfl, by rw [hs, hs]; exact Nat.le_refl _, fun k hk hne2 => ?_⟩
  have hkg : k ≠ g := fun e => hne2 (by rw [e])
  exact (setRow_other _ g k _ hkg).trans (setRow_other w.drew g k _ hkg)
set_option maxHeartbeats 4000000 in
/-- There is no room, and i is before the end: a new row. -/
theorem ins_grow (w : World) (g n c i : Nat) (xs : List Value) (ad : Addr) (vc : Nat) (ys : List Value) (hxl : xs.length = n * 3) (hxs : ∀ j u, xs[j]? = some u → w.cell? ⟨g, j, none⟩ = some u) (hi : i < n) (hnc : n ≤ c) (hroom : c < n + 1) (hbig : (n + 1) * 40 ≤ 140737488355328)
    (hyl : ys.length = 3) (hsrc : ∀ j u, ys[j]? = some u → w.cell? (ad.add j) = some u) (h1c : ∀ u ∈ xs, u.oneCell' = true) (h1y : ∀ u ∈ ys, u.oneCell' = true) :
    Calls Try.prog 36 #[.slice (some ⟨g, 0, none⟩) n c, .int .i64 i, .slice (some ad) 1 vc] w fun e w' =>
      ∃ G row, e = .returned (.slice (some ⟨w.heap.size, 0, none⟩) (n + 1) G) ∧ n + 1 ≤ G ∧ G ≤ maxLen ∧ row.length = G * 3 ∧ row.take (i * 3) = xs.take (i * 3) ∧
        w'.heap[w.heap.size]? = some (.cells (splice (splice row (i * 3) ys) ((i + 1) * 3) (xs.drop (i * 3))).toArray 66 (0, 0)) ∧ w.grownBy w' none := by
  obtain ⟨I, hI, hIs, hIb, hIz⟩ := ins_info
  have hz1 : ¬ ((i : Int) = (n : Int)) := by omega
  have hcn : c = n := by omega
  subst hcn
  have hgw : g < w.heap.size := World.block_lt_of_cell? w ⟨g, 0, none⟩ (hxs 0 _ (List.getElem?_eq_getElem (by omega)))
  have hin : i ≤ c := by omega
  have hkk : (c : Int) + 1 - (i : Int) = ((c + 1 - i : Nat) : Int) := by omega
  have hik : i + (c + 1 - i) = c + 1 := by omega
  have htl : (xs.take (i * 3)).length = i * 3 := by rw [List.length_take]; omega
  have hold : (Builtin.firstCells I.size i (.slice (some ⟨g, 0, none⟩) i c)).run Try.prog w.drew = .ok (xs.take (i * 3)).toArray w.drew := by
    rw [hIs]
    exact run_firstCells_some w.drew 3 i ⟨g, 0, none⟩ i c (xs.take (i * 3)) htl (fun j v hj => by
      rw [add_at, Nat.zero_add]
      rw [List.getElem?_take] at hj
      split at hj
      · exact hxs j v hj
      · cases hj)
  obtain ⟨G, hG⟩ : ∃ G, G = grownCap w (c + 1) c 66 := ⟨_, rfl⟩
  obtain ⟨row, hrow⟩ : ∃ row : List Value, row = ((xs.take (i * 3)).toArray ++ Builtin.zeroCells (Value.agg #[.int .i64 0, .int .i64 0, .slice none 0 0]).cells (c + 1 - i) ++ Builtin.zeroCells (Value.agg #[.int .i64 0, .int .i64 0, .slice none 0 0]).cells (grownCap w (c + 1) c 66 - (c + 1))).toList := ⟨_, rfl⟩
  have hrz : ∀ ty, (Builtin.append_ #[22, 3] ty #[.slice (some ⟨g, 0, none⟩) i c, .int .i64 ((c : Int) + 1 - (i : Int))]).run Try.prog w =
      .ok (.slice (some ⟨w.heap.size, 0, none⟩) (c + 1) G) (w.drew.alloc (.cells row.toArray 66)) := fun ty => by
    have h := Lib.run_append_grow_zeros w 22 3 ty 66 I _ .i64 .i64 Try.underlying22 Try.underlying3 hI hIz (some ⟨g, 0, none⟩) i c (xs.take (i * 3)) hold (c + 1 - i) (by omega) (by omega) (by omega) (by omega) (by rw [hIb]; omega) (by rw [hIb, hik]; exact growslice_fits hroom hbig)
    rw [hik] at h
    rw [hkk, hG, hrow, Array.toArray_toList]
    exact h
  have hGn : c + 1 ≤ G := by rw [hG]; exact grownCap_ge w _ _ _
  have hGm : G ≤ maxLen := by rw [hG]; exact grownCap_le_maxLen w (c + 1) c 66 (by unfold maxLen; omega)
  have hrl : row.length = G * 3 := by
    rw [hrow, hG]
    have := hGn
    rw [hG] at this
    simp [Builtin.zeroCells, Value.cells, htl]
    omega
  have hrt : row.take (i * 3) = xs.take (i * 3) := by
    rw [hrow]
    simp only [Array.toList_append, List.append_assoc]
    rw [List.take_append_of_le_length (by simp [htl]), List.take_of_length_le (by simp [htl])]
  clear hrow hold
  obtain ⟨N, hN⟩ : ∃ N, N = w.heap.size := ⟨_, rfl⟩
  have hgN : g ≠ N := by omega
  have haN : ∀ j u, ys[j]? = some u → (ad.add j).block ≠ N := fun j u hj => by
    have := World.block_lt_of_cell? w (ad.add j) (hsrc j u hj)
    omega
  have hW1 : (w.drew.alloc (.cells row.toArray 66)).heap[N]? = some (.cells row.toArray 66 (0, 0)) := by rw [hN]; exact heap_alloc_new w.drew _
  have hold1 : ∀ k, k < N → (w.drew.alloc (.cells row.toArray 66)).heap[k]? = w.heap[k]? := fun k hk => Below.heap_alloc w.drew _ k (by rw [hN] at hk; exact hk)
  rw [← hN] at hrz ⊢
  have hcpA : ∀ W : World, W.heap = (w.drew.alloc (.cells row.toArray 66)).heap → ∀ ty dc, (Builtin.copy_ #[22, 22] ty #[.slice (some ⟨N, i * 3, none⟩) (c + 1 - i) dc, .slice (some ad) 1 vc]).run Try.prog W =
      .ok (.int .i64 ((1 : Nat) : Int)) (W.setRow N (splice row (i * 3) ys).toArray) := fun W hW ty dc => by
    refine run_copy_rowN W 22 ty 66 I Try.underlying22 hI N (i * 3) _ dc row 66 (by rw [hW]; exact hW1) ad _ vc 1 (by simp only [Nat.min_def]; split <;> omega) ys (by rw [hyl, hIs]) (fun j u hj => ?_) (by rw [hyl]; omega) h1y
    have h := hsrc j u hj
    have hlt := World.block_lt_of_cell? w (ad.add j) h
    exact (World.cell?_of_block (w := w) (by rw [hW]; exact hold1 _ (by omega))).trans h
  have hl1 : (splice row (i * 3) ys).length = G * 3 := by rw [length_splice _ _ _ (by omega), hrl]
  generalize hR1 : splice row (i * 3) ys = row1 at *
  have hcpB : ∀ W : World, W.heap = ((w.drew.alloc (.cells row.toArray 66)).setRow N row1.toArray).heap → ∀ ty dc sc, (Builtin.copy_ #[22, 22] ty #[.slice (some ⟨N, (i + 1) * 3, none⟩) (c - i) dc, .slice (some ⟨g, i * 3, none⟩) (c - i) sc]).run Try.prog W =
      .ok (.int .i64 ((c - i : Nat) : Int)) (W.setRow N (splice row1 ((i + 1) * 3) (xs.drop (i * 3))).toArray) := fun W hW ty dc sc => by
    have hl : (xs.drop (i * 3)).length = (c - i) * 3 := by rw [List.length_drop]; omega
    refine run_copy_rowN W 22 ty 66 I Try.underlying22 hI N ((i + 1) * 3) _ dc row1 66 (by rw [hW]; exact setRow_heap _ N _ _ _ _ hW1) ⟨g, i * 3, none⟩ _ sc (c - i) (by simp) _ (by rw [hl, hIs]) (fun j u hj => ?_) (by rw [hl]; omega) (fun v hv => h1c v (List.mem_of_mem_drop hv))
    rw [add_at]
    rw [List.getElem?_drop] at hj
    exact (World.cell?_of_block (w := w) (by rw [hW]; exact (setRow_other _ N g _ hgN).trans (hold1 g (by omega)))).trans (hxs _ u hj)
  have hw1 : IntKind.i64.wrap ((c : Int) + 1) = (c : Int) + 1 := by rw [IntKind.wrap_i64]; omega
  have hw2 : IntKind.i64.wrap ((i : Int) + 1) = (i : Int) + 1 := by rw [IntKind.wrap_i64]; omega
  have hw3 : IntKind.i64.wrap ((c : Int) + 1 - (i : Int)) = (c : Int) + 1 - (i : Int) := by rw [IntKind.wrap_i64]; omega
  have hgt : (c : Int) < (c : Int) + 1 := by omega
  have htn : ((i : Int) + 1).toNat = i + 1 := by omega
  have htn2 : ((c : Int) + 1).toNat = c + 1 := by omega
  have hGi : ¬ (G = i) := by omega
  have hGi1 : ¬ (G = i + 1) := by omega
  have hb4 : ¬ (c = i) := by omega
  have hb1 : (0 : Int) ≤ (i : Int) + 1 := by omega
  have hb3 : (i : Int) ≤ (c : Int) + 1 := by omega
  have mixed : Try.prog.follows .mixedOrders = true := by kernel_rfl
  clear hkk hik
  subst hN
  subst hG
  have hA := hcpA ((w.alloc (.cells row.toArray 66)).drew) rfl
  have hB := hcpB (((w.alloc (.cells row.toArray 66)).drew.setRow w.heap.size row1.toArray).drew) rfl
  go_enter Try.func36, Try.ntmps36
  go_wp2_with (first
    | (at_builtin; refine Lib.wpList_append_run _ rfl _ _ _ _ rfl _ _ rfl rfl _ _ (hrz _) ?_)
    | (at_builtin; refine wpList_copy_runI _ rfl _ _ 22 22 rfl _ _ rfl rfl (hA _ _) ?_))
  go_region_law_o (refine step_copy_runI rfl _ _ 22 22 rfl (.slice (some ⟨w.heap.size, (i + 1) * 3, none⟩) (c - i) (grownCap w (c + 1) c 66 - (i + 1))) (.slice (some ⟨g, i * 3, none⟩) (c - i) (c - i)) (by simp [Act.eval, Act.put]) (by simp [Act.eval, Act.put]) (hB 3 (grownCap w (c + 1) c 66 - (i + 1)) (c - i)) ?_)
  go_wp2
  go_ret
  have hs : ∀ (W : World) (k : Nat) cs, (W.setRow k cs).heap.size = W.heap.size := fun W k cs => by simp [World.setRow]
  refine ⟨_, row, rfl, hGn, hGm, hrl, hrt, ?_, rfl, rfl, rfl, ?_, fun k hk _ => ?_⟩
  · rw [hR1]
    exact setRow_heap _ w.heap.size row1.toArray _ _ (0, 0) (setRow_heap ((w.alloc (.cells row.toArray 66)).drew) w.heap.size row.toArray _ _ (0, 0) (heap_alloc_new w _))
  · rw [hs]
    show w.heap.size ≤ (((w.alloc (.cells row.toArray 66)).drew.setRow w.heap.size row1.toArray)).heap.size
    rw [hs]
    show w.heap.size ≤ (w.alloc (.cells row.toArray 66)).heap.size
    simp
  · have hkn : k ≠ w.heap.size := by omega
    exact (setRow_other _ w.heap.size k _ hkn).trans ((setRow_other ((w.alloc (.cells row.toArray 66)).drew) w.heap.size k _ hkn).trans (heap_alloc_old w _ hk))

set_option maxHeartbeats 4000000 in
/-- i is the end. -/
theorem ins_end (w : World) (base n : Nat) (v : Value) (xs : List Value) (hown : w.ownsRow base 66 3 v n xs) (hbase : base ≤ w.heap.size) (ad : Addr) (vc : Nat) (ys : List Value) (hbig : ((n + 1) + (n + 1) / 4 + 192) * 40 ≤ 281474976710656)
    (hyl : ys.length = 3) (hsrc : ∀ j u, ys[j]? = some u → w.cell? (ad.add j) = some u) (h1y : ∀ u ∈ ys, u.oneCell' = true) :
    Calls Try.prog 36 #[v, .int .i64 n, .slice (some ad) 1 vc] w fun e w' =>
      ∃ v', e = .returned v' ∧ w'.ownsRow base 66 3 v' (n + 1) (xs ++ ys) ∧ w.grownBy w' v.ownBlock ∧ (v'.ownBlock = v.ownBlock ∨ v'.ownBlock = some w.heap.size) := by
  obtain ⟨I, hI, hIs, hIb, hIz⟩ := ins_info
  have hrun : ∀ ty, ∃ v' w', (Builtin.append_ #[22, 22] ty #[v, .slice (some ad) 1 vc]).run Try.prog w = .ok v' w' ∧ w'.ownsRow base 66 3 v' (n + 1) (xs ++ ys) ∧ w.grownBy w' v.ownBlock ∧ (v'.ownBlock = v.ownBlock ∨ v'.ownBlock = some w.heap.size) := fun ty => by
    obtain ⟨v', w', h1, h2, h3, h4, _⟩ := run_app (P := Try.prog) (w := w) (base := base) 22 ty 66 I _ Try.underlying22 hI hIz (by rw [hIs]; rfl) (by omega) v n xs (by rw [hIs]; exact hown) (some ad) 1 vc ys (by rw [hyl, hIs]) h1y (fun ad' e j u hj => by cases e; exact hsrc j u hj) (fun e => by cases e) (by unfold maxLen; omega) (by rw [hIb]; exact hbig) hbase
    rw [hIs] at h2
    exact ⟨v', w', h1, h2, h3, h4⟩
  rcases hown.2 with ⟨rfl, rfl⟩ | ⟨g, cap, cur, rfl, hbg, hgg, hnc, hcm, hcs, htake⟩
  · go_enter Try.func36, Try.ntmps36
    go_wp2_with (at_builtin; obtain ⟨v', w', h1, h2, h3, h4⟩ := hrun 22; refine Lib.wpList_append_run _ rfl _ _ _ _ rfl _ _ rfl rfl _ _ h1 ?_)
    go_ret
    exact ⟨_, rfl, h2, h3, h4⟩
  · have hcm' : cap ≤ 9223372036854775807 := by unfold maxLen at hcm; omega
    go_enter Try.func36, Try.ntmps36
    go_wp2_with (at_builtin; obtain ⟨v', w', h1, h2, h3, h4⟩ := hrun 22; refine Lib.wpList_append_run _ rfl _ _ _ _ rfl _ _ rfl rfl _ _ h1 ?_)
    all_goals (go_ret; exact ⟨_, rfl, h2, h3, h4⟩)
theorem ins_any (w : World) (base n i : Nat) (v : Value) (xs : List Value) (hown : w.ownsRow base 66 3 v n xs) (hbase : base ≤ w.heap.size) (hi : i ≤ n) (ad : Addr) (vc : Nat) (ys : List Value) (hbig : ((n + 1) + (n + 1) / 4 + 192) * 40 ≤ 281474976710656) (hbig2 : (n + 1) * 40 ≤ 140737488355328)
    (hne : v.ownBlock ≠ some ad.block) (hyl : ys.length = 3) (hsrc : ∀ j u, ys[j]? = some u → w.cell? (ad.add j) = some u) (h1x : ∀ u ∈ xs, u.oneCell' = true) (h1y : ∀ u ∈ ys, u.oneCell' = true) :
    Calls Try.prog 36 #[v, .int .i64 i, .slice (some ad) 1 vc] w fun e w' =>
      ∃ v', e = .returned v' ∧ w'.ownsRow base 66 3 v' (n + 1) (xs.take (i * 3) ++ ys ++ xs.drop (i * 3)) ∧ w.grownBy w' v.ownBlock ∧ (v'.ownBlock = v.ownBlock ∨ v'.ownBlock = some w.heap.size) := by
  by_cases hin : i = n
  · subst hin
    have h := ins_end w base i v xs hown hbase ad vc ys hbig hyl hsrc h1y
    have e1 : xs.take (i * 3) = xs := List.take_of_length_le (by rw [hown.1]; exact Nat.le_refl _)
    have e2 : xs.drop (i * 3) = [] := List.drop_of_length_le (by rw [hown.1]; exact Nat.le_refl _)
    rw [e1, e2, List.append_nil]
    exact h
  · have hxl := hown.1
    rcases hown.2 with ⟨rfl, rfl⟩ | ⟨g, cap, cur, rfl, hbg, hgg, hnc, hcm, hcs, htake⟩
    · omega
    · have hcm' : cap ≤ 9223372036854775807 := by unfold maxLen at hcm; omega
      have hlen : (xs.take (i * 3) ++ ys ++ xs.drop (i * 3)).length = (n + 1) * 3 := by simp; omega
      by_cases hroom : n + 1 ≤ cap
      · refine (ins_shift w g n cap i cur.toList ad vc ys hgg (by rw [Array.length_toList, hcs]) (by omega) hroom hcm' (fun e => hne (by rw [e]; rfl)) hyl hsrc (by rw [htake]; exact h1x) h1y).mono ?_
        rintro e w' ⟨rfl, h2, h3⟩
        refine ⟨_, rfl, ⟨hlen, .inr ⟨g, cap, _, rfl, hbg, h2, hroom, hcm, ?_, ?_⟩⟩, h3, .inl rfl⟩
        · have l1 : ((cur.toList.take (n * 3)).drop (i * 3)).length = (n - i) * 3 := by rw [htake, List.length_drop]; omega
          have l2 : cur.toList.length = cap * 3 := by rw [Array.length_toList, hcs]
          simp only [List.size_toArray]
          rw [length_splice, length_splice, l2]
          · rw [l1]; omega
          · rw [length_splice, l2]
            · omega
            · rw [l1]; omega
        · have h := splice_ins (sz := 3) (n := n) (i := i) (cur := cur.toList) (ys := ys) hi (by rw [Array.length_toList, hcs]; omega) hyl
          rw [htake] at h
          simpa [htake] using h
      · have hcell : ∀ j u, xs[j]? = some u → w.cell? ⟨g, j, none⟩ = some u := fun j u hj => by
          have h := hown.cells (g := g) rfl j u hj
          rw [add_at, Nat.zero_add] at h
          exact h
        refine (ins_grow w g n cap i xs ad vc ys hxl hcell (by omega) hnc (by omega) hbig2 hyl hsrc h1x h1y).mono ?_
        rintro e w' ⟨G, row, rfl, hG1, hG2, hrl, hrt, h2, h3⟩
        refine ⟨_, rfl, ⟨hlen, .inr ⟨w.heap.size, G, _, rfl, hbase, h2, hG1, hG2, ?_, ?_⟩⟩, ⟨h3.os, h3.tape, h3.output, h3.size, fun k hk _ => h3.block k hk (by simp)⟩, .inr rfl⟩
        · have l1 : (xs.drop (i * 3)).length = (n - i) * 3 := by rw [List.length_drop]; omega
          simp only [List.size_toArray]
          rw [length_splice, length_splice, hrl]
          · rw [hrl]; omega
          · rw [length_splice, hrl]
            · rw [l1]; omega
            · rw [hrl]; omega
        · have h := splice_new (sz := 3) (n := n) (i := i) (xs := xs) (row := row) (ys := ys) hi hxl hrt (by rw [hrl]; omega) hyl
          simpa using h

theorem repr_app2 {S : Nat → Nat → Prop} {w : World} {sz : Nat} {a b : List (List Atom)} {xs ys : List Value} (h : RepR S w sz a xs) (k : RepR S w sz b ys) (hl : xs.length = a.length * sz) : RepR S w sz (a ++ b) (xs ++ ys) := by
  refine ⟨fun i r hi => ?_, fun i r q x hi hq => ?_⟩
  · rcases Nat.lt_or_ge i a.length with hil | hil
    · rw [List.getElem?_append_left hil] at hi; exact h.1 i r hi
    · rw [List.getElem?_append_right hil] at hi; exact k.1 _ r hi
  · rcases Nat.lt_or_ge i a.length with hil | hil
    · rw [List.getElem?_append_left hil] at hi
      obtain ⟨u, hu, hru⟩ := h.2 i r q x hi hq
      exact ⟨u, by rw [List.getElem?_append_left (List.getElem?_eq_some_iff.1 hu).1]; exact hu, hru⟩
    · rw [List.getElem?_append_right hil] at hi
      obtain ⟨u, hu, hru⟩ := k.2 _ r q x hi hq
      refine ⟨u, ?_, hru⟩
      have e1 : i * sz + q = a.length * sz + ((i - a.length) * sz + q) := by
        have : i * sz = a.length * sz + (i - a.length) * sz := by rw [← Nat.add_mul]; congr 1; omega
        omega
      rw [e1, ← hl, List.getElem?_append_right (by omega)]
      simpa using hu
theorem repr_take2 {S : Nat → Nat → Prop} {w : World} {sz : Nat} {a : List (List Atom)} {xs : List Value} (h : RepR S w sz a xs) (i : Nat) : RepR S w sz (a.take i) (xs.take (i * sz)) := by
  refine ⟨fun j r hj => ?_, fun j r q x hj hq => ?_⟩
  · rw [List.getElem?_take] at hj
    split at hj
    · exact h.1 j r hj
    · cases hj
  · rw [List.getElem?_take] at hj
    split at hj
    · rename_i hji
      obtain ⟨u, hu, hru⟩ := h.2 j r q x hj hq
      refine ⟨u, ?_, hru⟩
      have hq2 : q < sz := by rw [← h.1 j r hj]; exact (List.getElem?_eq_some_iff.1 hq).1
      have : (j + 1) * sz ≤ i * sz := Nat.mul_le_mul_right _ hji
      rw [List.getElem?_take, if_pos (by rw [Nat.add_mul, Nat.one_mul] at this; omega)]
      exact hu
    · cases hj
theorem repr_drop2 {S : Nat → Nat → Prop} {w : World} {sz : Nat} {a : List (List Atom)} {xs : List Value} (h : RepR S w sz a xs) (i : Nat) : RepR S w sz (a.drop i) (xs.drop (i * sz)) := by
  refine ⟨fun j r hj => ?_, fun j r q x hj hq => ?_⟩
  · rw [List.getElem?_drop] at hj; exact h.1 _ r hj
  · rw [List.getElem?_drop] at hj
    obtain ⟨u, hu, hru⟩ := h.2 _ r q x hj hq
    refine ⟨u, ?_, hru⟩
    rw [List.getElem?_drop, ← hu]
    congr 1
    rw [Nat.add_mul]; omega
theorem repr_one {S : Nat → Nat → Prop} {w : World} {sz : Nat} {a : List (List Atom)} {xs : List Value} (h : RepR S w sz a xs) (hp : 0 < sz) (hl : xs.length = a.length * sz) : ∀ u ∈ xs, u.oneCell' = true := by
  intro u hu
  obtain ⟨j, hj⟩ := List.getElem?_of_mem hu
  have hlt : j < a.length * sz := by rw [← hl]; exact (List.getElem?_eq_some_iff.1 hj).1
  have h1 : j / sz < a.length := (Nat.div_lt_iff_lt_mul hp).2 hlt
  have h2 : j % sz < sz := Nat.mod_lt _ hp
  have hr : a[j / sz]? = some a[j / sz] := List.getElem?_eq_getElem h1
  have hrl := h.1 _ _ hr
  obtain ⟨u', hu', hru⟩ := h.2 (j / sz) _ (j % sz) _ hr (List.getElem?_eq_getElem (by rw [hrl]; exact h2))
  have : j / sz * sz + j % sz = j := by rw [Nat.mul_comm]; exact Nat.div_add_mod j sz
  rw [this, hj] at hu'
  cases hu'
  exact hru.one

theorem ins_iden (k i : Nat) (rows : List (List Atom)) (row : List Atom) (H : List (List AV)) (O : List OwnD) (hO : O[k]? = some ⟨66, 3, rows, true⟩) (hi : i ≤ rows.length) (hbig : ((rows.length + 1) + (rows.length + 1) / 4 + 192) * 40 ≤ 281474976710656) (hbig2 : (rows.length + 1) * 40 ≤ 140737488355328) :
    IDen Try.prog 36 [.own k, .a (.int .i64 i), .a (.slice 3 [row])] H O (.own k) (H.map (·.map (inval k))) (O.set k ⟨66, 3, rows.take i ++ [row] ++ rows.drop i, true⟩) false := by
  intro base w0 E w vs hh hargs
  obtain ⟨hl, hv⟩ := hargs
  match vs, hl with
  | [v0, v1, v2], _ =>
  have r0 := hv 0 _ v0 rfl rfl
  have r1 := (hv 1 _ v1 rfl rfl).int_
  have r2 := hv 2 _ v2 rfl rfl
  subst r1
  have hk : E.κ[k]? = some v0 := by cases r0 with | own h => exact h
  obtain ⟨⟨xs, hown, hxr⟩, hlen, hpos, hat⟩ := hh.owns k v0 _ hk hO
  simp only at hown hxr hlen hpos hat
  have hbase : base ≤ w.heap.size := Nat.le_trans hh.hb hh.below.size
  cases r2 with
  | a r2 =>
  have r2' := r2
  obtain ⟨A, c, hvy, _, _, hm, _, _⟩ := r2.row
  rw [hvy] at r2
  obtain ⟨ys, hyl, hyr, hy1, hyc, hy0⟩ := rows_cells r2
  have hyl2 : ys.length = 3 := by simpa using hyl
  cases A with
  | none => exact absurd (hy0 rfl) (by simp)
  | some ad =>
  subst hvy
  have hrl : row.length = 3 := hyr.1 0 row rfl
  have hSad : ∃ o, E.S ad.block o := by
    cases r2' with
    | slice sz rows' g o c' U hn hl2 hc hr hcell hrep =>
      obtain ⟨x, hx⟩ : ∃ x, row[0]? = some x := ⟨_, List.getElem?_eq_getElem (by omega)⟩
      exact ⟨_, (hcell 0 row 0 x rfl hx).1⟩
  have hne : v0.ownBlock ≠ some ad.block := fun e => by
    obtain ⟨o, ho⟩ := hSad
    have := (hat _ e o).1 ho
    cases this.1
  have h1x := repr_one hxr hpos hown.1
  refine (ins_any w base rows.length i v0 xs hown hbase hi ad c ys hbig hbig2 hne hyl2 (fun j u hj => hyc ad rfl j u hj) h1x hy1).mono ?_
  rintro e w' ⟨v', rfl, hown', hg, hb⟩
  have hnl : (rows.take i ++ [row] ++ rows.drop i).length = rows.length + 1 := by simp; omega
  have hys' : RepR E.S w 3 (rows.take i ++ [row] ++ rows.drop i) (xs.take (i * 3) ++ ys ++ xs.drop (i * 3)) := by
    have htl : (xs.take (i * 3)).length = (rows.take i).length * 3 := by
      rw [List.length_take, List.length_take, hown.1]
      rw [Nat.min_eq_left (by omega), Nat.min_eq_left hi]
    exact repr_app2 (repr_app2 (repr_take2 hxr i) hyr htl) (repr_drop2 hxr i) (by rw [List.length_append, htl, hyl2, List.length_append]; simp; omega)
  have hS : (fun g o => E.S g o ∨ (true = false ∧ v'.ownBlock = some g ∧ o < (([] : List (List Atom)).length + (rows.take i ++ [row] ++ rows.drop i).length) * 3)) = E.S := by
    funext g o
    apply propext
    exact ⟨fun h => h.elim id (fun h => by cases h.1), .inl⟩
  have hcell : ∀ g o, E.S g o → w'.cell? ⟨g, o, none⟩ = w.cell? ⟨g, o, none⟩ := fun g o hs => by
    obtain ⟨u, hu⟩ := hh.imm g o hs
    refine World.cell?_of_block (w := w) (a := ⟨g, o, none⟩) (hg.block g (lt_of_cell hu) fun he => ?_)
    have := (hat g he.symm o).1 hs
    cases this.1
  have hkl : k < E.κ.length := (List.getElem?_eq_some_iff.1 hk).1
  have hkO : k < O.length := (List.getElem?_eq_some_iff.1 hO).1
  have hh' := hh.app (k := k) (v := v0) (v' := v') (w' := w') (e := 66) (sz := 3) (rows := []) (news := rows.take i ++ [row] ++ rows.drop i) (mu := true) (κ' := E.κ.set k v') (O' := O.set k ⟨66, 3, rows.take i ++ [row] ++ rows.drop i, true⟩) (f := inval k)
    hg hb (fun g o u _ h => absurd h (by simp)) (fun g hgv => ⟨hk, (hown.lt g hgv).1, fun o => ⟨fun h => absurd ((hat g hgv o).1 h).1 (by simp), fun h => by cases h.1⟩⟩) [] _ ⟨fun i r h => by simp at h, fun i r q x h => by simp at h⟩ hys' rfl
    (by rw [List.nil_append, hnl]; simpa using hown') (by rw [hnl]; simp only [List.length_nil]; omega) (by omega) (by simp [hh.lenκ]) (fun j u hj => by
      rw [List.getElem?_set] at hj
      split at hj
      · rename_i e
        cases hj; exact .inr ⟨e.symm, rfl⟩
      · rename_i e; exact .inl ⟨fun h => e h.symm, hj⟩) (fun j d hj => by
      rw [List.getElem?_set] at hj
      split at hj
      · rename_i e
        cases hj; exact .inr ⟨e.symm, rfl⟩
      · rename_i e; exact .inl ⟨fun h => e h.symm, hj⟩) E.S hS.symm (fun hc x u hr => inval_rep (fun _ _ h => h) hc hr) (fun x t h => inval_b x t h)
  refine ⟨v', _, rfl, hh', ⟨fun _ _ h => h, hcell, fun _ _ h => h, fun h => by cases h⟩, fun g o h => .inl h, ?_⟩
  refine .own ?_
  show (E.κ.set k v')[k]? = some v'
  rw [List.getElem?_set_self hkl]
theorem ins_nil (row : List Atom) (H : List (List AV)) (O : List OwnD) :
    IDen Try.prog 36 [.a .nils, .a (.int .i64 0), .a (.slice 3 [row])] H O (.own O.length) H (O ++ [⟨66, 3, [row], true⟩]) true := by
  intro base w0 E w vs hh hargs
  obtain ⟨hl, hv⟩ := hargs
  match vs, hl with
  | [v0, v1, v2], _ =>
  have r0 := hv 0 _ v0 rfl rfl
  have r1 := (hv 1 _ v1 rfl rfl).int_
  have r2 := hv 2 _ v2 rfl rfl
  subst r1
  have h0 : v0 = .slice none 0 0 := by
    cases r0 with
    | a r0 => cases r0; rfl
  subst h0
  have hbase : base ≤ w.heap.size := Nat.le_trans hh.hb hh.below.size
  cases r2 with
  | a r2 =>
  obtain ⟨A, c, hvy, _, _, hm, _, _⟩ := r2.row
  rw [hvy] at r2
  obtain ⟨ys, hyl, hyr, hy1, hyc, hy0⟩ := rows_cells r2
  have hyl2 : ys.length = 3 := by simpa using hyl
  cases A with
  | none => exact absurd (hy0 rfl) (by simp)
  | some ad =>
  subst hvy
  have hrl : row.length = 3 := hyr.1 0 row rfl
  refine (ins_any w base 0 0 (.slice none 0 0) [] (World.ownsRow_nil w base _ 3) hbase (Nat.le_refl _) ad c ys (by decide) (by decide) (by simp [Value.ownBlock]) hyl2 (fun j u hj => hyc ad rfl j u hj) (fun u hu => by simp at hu) hy1).mono ?_
  rintro e w' ⟨v', rfl, hown', hg, hb⟩
  have hB : Below w.heap.size w w' := ⟨hg.os, hg.tape, hg.output, hg.size, fun k hk => hg.block k hk (by simp [Value.ownBlock])⟩
  obtain ⟨hl2, hx2⟩ := hh.later (w' := w') (S' := E.S) hB (fun _ _ h => h) (fun _ _ h => .inl h) (fun g o hs => by
    obtain ⟨u, hu⟩ := hh.imm g o hs
    exact ⟨u, (hB.cell (lt_of_cell hu)).trans hu⟩)
  have hat : ∀ g, v'.ownBlock = some g → g = w.heap.size := fun g hg' => by
    rcases hb with h | h
    · rw [h] at hg'; simp [Value.ownBlock] at hg'
    · rw [h] at hg'; injection hg' with h'; exact h'.symm
  have hok : OwnOk base E.S w' v' ⟨66, 3, [row], true⟩ := by
    refine ⟨⟨ys, by simpa using hown', hyr.mono hx2.S hx2.cell⟩, by simp, by show 0 < 3; decide, fun g hg' o => ⟨fun hs => ?_, fun hs => by cases hs.1⟩⟩
    obtain ⟨u, hu⟩ := hh.imm _ o hs
    have := lt_of_cell hu
    rw [hat g hg'] at this
    exact absurd this (Nat.lt_irrefl _)
  obtain ⟨hh3, hx3⟩ := hl2.addOwn hok (fun g hg' i' hi' => by
    rw [hat g hg'] at hi'
    exact absurd (ι_lt hh hi') (Nat.lt_irrefl _)) (fun g k u hg' hk hu => by
    rw [hat g hg'] at hu
    exact absurd (κ_lt hh hk hu).2 (Nat.lt_irrefl _))
  refine ⟨v', _, rfl, hh3, ⟨hx3.S, hx2.cell, hx3.ι, fun _ => hx3.κ⟩, fun g o h => .inl h, .own ?_⟩
  show (E.κ ++ [v'])[O.length]? = some v'
  rw [← hh.lenκ]; simp
end Go.Proofs.Ytbiongfnbbnndaa
