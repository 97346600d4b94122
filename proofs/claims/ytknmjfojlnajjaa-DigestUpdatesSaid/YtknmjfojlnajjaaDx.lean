/- Chapter 53: trees sealed, buckets read (slices of arrays), walked. -/
import Derived.Test.YtknmjfojlnajjaaDg
import Derived.RegionTactic
import Derived.RegionCalls
import Derived.Laws.CopyOwn
set_option linter.unusedSimpArgs false
set_option linter.unusedVariables false
namespace Go.Proofs.Ytknmjfojlnajjaa
open Go Ab Go.RowKit
set_option maxRecDepth 100000

def u64V (x : Nat) : Value := .int .u64 (x : Int)
def arrV (bs : List Nat) : Array Value := (bs.map u64V).toArray
theorem arrV_get (bs : List Nat) (k : Nat) (h : k < bs.length) : (arrV bs)[k]? = some (u64V bs[k]) := by simp [arrV, h]
theorem arrV_size (bs : List Nat) : (arrV bs).size = bs.length := by simp [arrV]
/-- Buckets that lie in a block. -/
theorem rep_block (bs : List Nat) (hl : bs.length ≤ 1000000) (S : Nat → Nat → Prop) (w : World) (g : Nat) (T : TypeId) (hb : w.heap[g]? = some (.cells (arrV bs) T (0, 0))) (hS : ∀ o, o < bs.length → S g o) :
    Rep S w (.slice 1 (bs.map u64R)) (.slice (some ⟨g, 0, none⟩) bs.length bs.length) := by
  have h := Rep.slice (S := S) (w := w) 1 (bs.map u64R) g 0 bs.length (fun q => u64V (bs.getD q 0)) (by rw [List.length_map]; omega) (by rw [List.length_map]; omega) (by unfold maxLen; omega)
    (fun i r hi => by
      simp only [List.getElem?_map, Option.map_eq_some_iff] at hi
      obtain ⟨x, _, rfl⟩ := hi
      rfl)
    (fun i r j x hi hj => by
      simp only [List.getElem?_map, Option.map_eq_some_iff] at hi
      obtain ⟨y, hy, rfl⟩ := hi
      have hil : i < bs.length := (List.getElem?_eq_some_iff.1 hy).1
      cases j with
      | zero =>
        refine ⟨by rw [Nat.zero_add, Nat.mul_one, Nat.add_zero]; exact hS i hil, ?_⟩
        rw [Nat.zero_add, Nat.mul_one, Nat.add_zero, Lib.cell_of_heap hb, arrV_get bs i hil, List.getD_eq_getElem?_getD, List.getElem?_eq_getElem hil]
        rfl
      | succ j => simp [u64R] at hj)
    (fun i r j x hi hj => by
      simp only [List.getElem?_map, Option.map_eq_some_iff] at hi
      obtain ⟨y, hy, rfl⟩ := hi
      cases j with
      | zero =>
        simp [u64R] at hj
        subst hj
        rw [Nat.mul_one, Nat.add_zero, List.getD_eq_getElem?_getD, hy]
        exact .int _ _
      | succ j => simp [u64R] at hj)
  rw [List.length_map] at h
  exact h
theorem root_block (bs : List Nat) (hl : bs.length ≤ 1000000) (r : Nat) (w : World) (g : Nat) (T : TypeId) (hb : w.heap[g]? = some (.cells (arrV bs) T (0, 0))) :
    Calls Try.prog 14 #[.agg #[.slice (some ⟨g, 0, none⟩) bs.length bs.length, .int .u64 (r : Int)]] w fun e w' => e = .returned (.int .u64 (rootN bs : Nat)) ∧ Below w.heap.size w w' := by
  refine (root_den ⟨bs, r⟩ hl (fun g' o => g' = g ∧ o < bs.length) w [_] ?_ ⟨rfl, fun j x v hx hv => ?_⟩).mono ?_
  · rintro g' o ⟨rfl, ho⟩
    exact ⟨_, by rw [Lib.cell_of_heap hb]; exact arrV_get bs o ho⟩
  · match j with
    | 0 =>
      cases hx; cases hv
      refine .agg rfl fun j x u hj hu => ?_
      match j with
      | 0 =>
        simp [Tr.row] at hj hu
        subst hj; subst hu
        exact rep_block bs hl _ w g T hb fun o ho => ⟨rfl, ho⟩
      | 1 =>
        simp [Tr.row] at hj hu
        subst hj; subst hu
        exact .int _ _
      | j + 2 => simp [Tr.row] at hj
    | j + 1 => cases hx
  · rintro e w' ⟨v, S', rfl, _, _, _, hbw, hr⟩
    cases hr with
    | a hr => cases hr; exact ⟨rfl, hbw⟩
theorem root_block64 (bs : List Nat) (hl : bs.length = 64) (w : World) (g : Nat) (T : TypeId) (hb : w.heap[g]? = some (.cells (arrV bs) T (0, 0))) :
    Calls Try.prog 14 #[.agg #[.slice (some ⟨g, 0, none⟩) 64 64, .int .u64 0]] w fun e w' => e = .returned (.int .u64 (rootN bs : Nat)) ∧ Below w.heap.size w w' := by
  have h := root_block bs (by omega) 0 w g T hb
  rw [hl] at h
  exact h
theorem three_alloc (w : World) (a b c : Obj) : (((w.alloc a).alloc b).alloc c).heap.size = w.heap.size + 1 + 1 + 1 ∧ (((w.alloc a).alloc b).alloc c).heap[w.heap.size]? = some a ∧ (((w.alloc a).alloc b).alloc c).heap[w.heap.size + 1]? = some b ∧ (((w.alloc a).alloc b).alloc c).heap[w.heap.size + 1 + 1]? = some c ∧ Below w.heap.size w (((w.alloc a).alloc b).alloc c) := by
  have s1 : (w.alloc a).heap.size = w.heap.size + 1 := by simp
  have s2 : ((w.alloc a).alloc b).heap.size = w.heap.size + 1 + 1 := by simp
  have n0 := heap_alloc_new w a
  have n1 := heap_alloc_new (w.alloc a) b
  have n2 := heap_alloc_new ((w.alloc a).alloc b) c
  rw [s1] at n1
  rw [s2] at n2
  have o1 := fun k hk => Below.heap_alloc (w.alloc a) b k hk
  have o2 := fun k hk => Below.heap_alloc ((w.alloc a).alloc b) c k hk
  rw [s1] at o1
  rw [s2] at o2
  refine ⟨by simp, (o2 _ (by omega)).trans ((o1 _ (by omega)).trans n0), (o2 _ (by omega)).trans n1, n2, (((Below.refl _ _).alloc (Nat.le_refl _) _).alloc (by rw [s1]; omega) _).alloc (by rw [s2]; omega) _⟩
set_option maxHeartbeats 2000000 in
theorem sealed_any (bs : List Nat) (hl : bs.length = 64) (w : World) : Calls Try.prog 29 #[.agg (arrV bs)] w fun e w' =>
    e = .returned (.agg #[.slice (some ⟨w.heap.size, 0, none⟩) 64 64, .int .u64 (rootN bs : Nat)]) ∧ w'.heap[w.heap.size]? = some (.cells (arrV bs) 52 (0, 0)) ∧ Below w.heap.size w w' := by
  have hz := arrV_size bs
  have hroot := root_block64 bs hl
  generalize arrV bs = arr at hz hroot ⊢
  go_enter Try.func29, Try.ntmps29
  obtain ⟨e0, h0, h1, h2, hB⟩ := three_alloc w (.cells arr 52) (.cells #[.slice none 0 0, .int .u64 0] 26) (.cells #[.slice (some ⟨w.heap.size, 0, none⟩) 64 64, .int .u64 0] 26)
  go_wp2_with (go_at_call 14; refine (hroot _ _ 52 h0).mono ?_)
  rintro e w2 ⟨rfl, hb⟩
  rw [e0] at hb
  have k0 := (hb.block w.heap.size (by omega)).trans h0
  have k1 := (hb.block (w.heap.size + 1) (by omega)).trans h1
  have k2 := (hb.block (w.heap.size + 1 + 1) (by omega)).trans h2
  have hB2 := hB.trans (hb.mono (by omega))
  have hs2 := hb.size
  rw [e0] at hs2
  clear hb h0 h1 h2 hB e0
  have c0 : w2.cell? ⟨w.heap.size + 1 + 1, 0, none⟩ = some (.slice (some ⟨w.heap.size, 0, none⟩) 64 64) := by rw [Lib.cell_of_heap k2]; rfl
  have c1 : w2.cell? ⟨w.heap.size + 1 + 1, 1, none⟩ = some (.int .u64 0) := by rw [Lib.cell_of_heap k2]; rfl
  have f1 : w2.frozen? ⟨w.heap.size + 1 + 1, 1, none⟩ = false := Lib.frozen_of_heap k2 1
  have r0 : w2.cell? ⟨w.heap.size + 1, 0, none⟩ = some (.slice none 0 0) := by rw [Lib.cell_of_heap k1]; rfl
  have r1 : w2.cell? ⟨w.heap.size + 1, 1, none⟩ = some (.int .u64 0) := by rw [Lib.cell_of_heap k1]; rfl
  have f2 : w2.frozen? ⟨w.heap.size + 1, 0, none⟩ = false := Lib.frozen_of_heap k1 0
  have f3 : w2.frozen? ⟨w.heap.size + 1, 1, none⟩ = false := Lib.frozen_of_heap k1 1
  go_wp2
  have n1 : (w2.setCell ⟨w.heap.size + 1 + 1, 1, none⟩ (.int .u64 (rootN bs : Nat))).heap[w.heap.size + 1]? = some (.cells #[.slice none 0 0, .int .u64 0] 26 (0, 0)) := by
    rw [Below.heap_setCell _ _ _ _ (by show w.heap.size + 1 ≠ w.heap.size + 1 + 1; omega)]; exact k1
  have n2 := heap_setCell_same _ (w.heap.size + 1) 0 _ _ (.slice (some ⟨w.heap.size, 0, none⟩) 64 64) n1
  have n3 := heap_setCell_same _ (w.heap.size + 1) 1 _ _ (.int .u64 (rootN bs : Nat)) n2
  have hi : (Try.prog.info? 26).map (·.size) = some 2 := by kernel_rfl
  try simp only [Exit.inBlock, Exit.then]
  refine bodyPost_ret (results_cell_row rfl _ _ (w.heap.size + 1) 26 #[.slice (some ⟨w.heap.size, 0, none⟩) 64 64, .int .u64 (rootN bs : Nat)] (0, 0) _ rfl n3 Try.underlying26 rfl hi) rfl ?_
  refine ⟨rfl, ?_, ((hB2.setCell (by show w.heap.size ≤ w.heap.size + 1 + 1; omega) _).setCell (by show w.heap.size ≤ w.heap.size + 1; omega) _).setCell (by show w.heap.size ≤ w.heap.size + 1; omega) _⟩
  rw [Below.heap_setCell _ _ _ _ (by show w.heap.size ≠ w.heap.size + 1; omega), Below.heap_setCell _ _ _ _ (by show w.heap.size ≠ w.heap.size + 1; omega), Below.heap_setCell _ _ _ _ (by show w.heap.size ≠ w.heap.size + 1 + 1; omega)]
  exact k0
def u64A (x : Nat) : Atom := .int .u64 (x : Int)
/-- An array out of its cells. -/
theorem arr_of {S : Nat → Nat → Prop} {w : World} {bs : List Nat} {v : Value} (h : RepV ⟨S, [], []⟩ w (.agg (bs.map u64A)) v) : v = .agg (arrV bs) := by
  cases h with
  | agg hl hr =>
    rename_i arr
    congr 1
    apply Array.ext_getElem?
    intro j
    rcases Nat.lt_or_ge j bs.length with hj | hj
    · have h1 : (bs.map u64A)[j]? = some (u64A bs[j]) := by simp [hj]
      have hja : j < arr.size := by rw [List.length_map] at hl; omega
      have h2 := hr j _ _ h1 (Array.getElem?_eq_getElem hja)
      rw [arrV_get bs j hj, Array.getElem?_eq_getElem hja]
      generalize arr[j] = u at h2
      cases h2
      rfl
    · rw [Array.getElem?_eq_none (by rw [List.length_map] at hl; omega), Array.getElem?_eq_none (by rw [arrV_size]; omega)]
theorem sealed_den (bs : List Nat) (hl : bs.length = 64) : PDen Try.prog 29 [.agg (bs.map u64A)] (.agg (Tr.row ⟨bs, rootN bs⟩)) := by
  intro S w vs hS hL
  obtain ⟨hl1, hv⟩ := hL
  match vs, hl1 with
  | [v], _ =>
  have h0 := arr_of (hv 0 _ v rfl rfl)
  subst h0
  refine (sealed_any bs hl w).mono ?_
  rintro e w' ⟨rfl, hb, hB⟩
  have hlt : ∀ g o u, w.cell? ⟨g, o, none⟩ = some u → g < w.heap.size := fun g o u hu => World.block_lt_of_cell? w ⟨g, o, none⟩ hu
  refine ⟨_, fun g o => S g o ∨ (g = w.heap.size ∧ o < 64), rfl, fun g o h => .inl h, fun g o h => h.imp id fun h => by omega, ?_, hB, ?_⟩
  · rintro g o (h | ⟨rfl, h⟩)
    · obtain ⟨u, hu⟩ := hS g o h
      exact ⟨u, (hB.cell (hlt g o u hu)).trans hu⟩
    · exact ⟨_, by rw [Lib.cell_of_heap hb]; exact arrV_get bs o (by omega)⟩
  · refine .agg rfl fun j x u hj hu => ?_
    match j with
    | 0 =>
      simp [Tr.row] at hj hu
      subst hj; subst hu
      have := rep_block bs (by omega) (fun g o => S g o ∨ (g = w.heap.size ∧ o < 64)) w' w.heap.size _ hb fun o ho => .inr ⟨rfl, by omega⟩
      rw [hl] at this
      exact this
    | 1 =>
      simp [Tr.row] at hj hu
      subst hj; subst hu
      exact .int _ _
    | j + 2 => simp [Tr.row] at hj
end Go.Proofs.Ytknmjfojlnajjaa
