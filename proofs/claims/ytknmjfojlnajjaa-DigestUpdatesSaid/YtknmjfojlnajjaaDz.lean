/- Chapter 53: the buckets of a tree, as a contract of the layer. -/
import Derived.Test.YtknmjfojlnajjaaDy
set_option linter.unusedSimpArgs false
set_option linter.unusedVariables false
namespace Go.Proofs.Ytknmjfojlnajjaa
open Go Ab Go.RowKit
set_option maxRecDepth 100000

def bcA (t : Tr) : List Atom := if vT t = true then t.bs.map u64A else List.replicate 64 (.int .u64 0)
theorem bcA_len (t : Tr) : (bcA t).length = 64 := by
  unfold bcA
  split
  · rename_i h
    rw [List.length_map, vT_len h]
  · simp
theorem rep_zer (S : Nat → Nat → Prop) (w : World) : RepV ⟨S, [], []⟩ w (.agg (List.replicate 64 (.int .u64 0))) (.agg zer) := by
  refine .agg rfl fun j x u hj hu => ?_
  have h1 : x = .int .u64 0 := (List.mem_replicate.1 (List.mem_of_getElem? hj)).2
  have h2 : u = .int .u64 0 := by
    have hz : zer.toList = List.replicate 64 (.int .u64 0) := rfl
    have : u ∈ zer.toList := List.mem_of_getElem? (by rw [Array.getElem?_toList]; exact hu)
    rw [hz] at this
    exact (List.mem_replicate.1 this).2
  rw [h1, h2]
  exact .int _ _
theorem rep_arrV (S : Nat → Nat → Prop) (w : World) (bs : List Nat) : RepV ⟨S, [], []⟩ w (.agg (bs.map u64A)) (.agg (arrV bs)) := by
  refine .agg (by rw [arrV_size, List.length_map]) fun j x u hj hu => ?_
  rw [List.getElem?_map] at hj
  obtain ⟨y, hy, rfl⟩ := Option.map_eq_some_iff.1 hj
  obtain ⟨hl, rfl⟩ := List.getElem?_eq_some_iff.1 hy
  rw [arrV_get bs j hl] at hu
  cases hu
  exact .int _ _
theorem arr_two (arr : Array Value) (h : arr.size = 2) : ∃ a0 a1, arr = #[a0, a1] := by
  refine ⟨arr[0], arr[1], ?_⟩
  apply Array.ext
  · simp [h]
  · intro i h1 h2
    have : i = 0 ∨ i = 1 := by omega
    rcases this with rfl | rfl <;> rfl
theorem tr_row (t : Tr) : t.row = [.slice 1 (t.bs.map u64R), .int .u64 (t.root : Int)] := rfl
set_option maxHeartbeats 400000 in
theorem buckets_den (t : Tr) (hl : t.bs.length ≤ 1000000) : PDen Try.prog 35 [.agg t.row] (.tup [.agg (bcA t), .a (.bool (vT t))]) := by
  intro S w vs hS hL
  have hL0 := hL
  obtain ⟨hl1, hv⟩ := hL
  match vs, hl1 with
  | [v], _ =>
  have hlt : ∀ g o u, w.cell? ⟨g, o, none⟩ = some u → g < w.heap.size := fun g o u hu => World.block_lt_of_cell? w ⟨g, o, none⟩ hu
  have hcell : ∀ w', Below w.heap.size w w' → ∀ g o, S g o → w'.cell? ⟨g, o, none⟩ = w.cell? ⟨g, o, none⟩ := fun w' hb g o hs => by
    obtain ⟨u, hu⟩ := hS g o hs
    exact hb.cell (hlt g o u hu)
  have hR : ∀ w', Below w.heap.size w w' → Calls Try.prog 14 #[v] w' fun e w2 => e = .returned (.int .u64 ((rootN t.bs : Nat) : Int)) ∧ Below w'.heap.size w' w2 := fun w' hb => by
    refine (root_den t hl S w' [v] (fun g o hs => ?_) ⟨rfl, fun j x u hx hu => ?_⟩).mono ?_
    · obtain ⟨u, hu⟩ := hS g o hs
      exact ⟨u, (hcell w' hb g o hs).trans hu⟩
    · have hx2 : Ext ⟨S, [], []⟩ w ⟨S, [], []⟩ w' := ⟨fun _ _ h => h, fun g o h => hcell w' hb g o h, fun _ _ h => h, fun _ _ h => h⟩
      exact (hv j x u hx hu).mono hx2
    · rintro e w2 ⟨u, S', rfl, _, _, _, hb2, hr⟩
      cases hr with
      | a hr => cases hr; exact ⟨rfl, hb2⟩
  have hrep := hv 0 _ v rfl rfl
  have fin : ∀ (X : Array Value) (b : Bool), (∀ w', RepV ⟨S, [], []⟩ w' (.agg (bcA t)) (.agg X)) → b = vT t → (Calls Try.prog 35 #[v] w fun e w' => e = .returned (.tuple #[.agg X, .bool b]) ∧ Below w.heap.size w w') →
      Calls Try.prog 35 [v].toArray w fun e w' => ∃ v, ∃ S' : Nat → Nat → Prop, e = .returned v ∧ (∀ g o, S g o → S' g o) ∧ (∀ g o, S' g o → S g o ∨ w.heap.size ≤ g) ∧
        (∀ g o, S' g o → ∃ u, w'.cell? ⟨g, o, none⟩ = some u) ∧ Below w.heap.size w w' ∧ RepV ⟨S', [], []⟩ w' (.tup [.agg (bcA t), .a (.bool (vT t))]) v := fun X b hX hb h => by
    refine h.mono ?_
    rintro e w' ⟨rfl, hb2⟩
    refine ⟨_, S, rfl, fun _ _ h => h, fun _ _ h => .inl h, fun g o hs => ?_, hb2, .tup rfl fun j x u hx hu => ?_⟩
    · obtain ⟨u, hu⟩ := hS g o hs
      exact ⟨u, (hcell w' hb2 g o hs).trans hu⟩
    · match j, hx, hu with
      | 0, hx, hu => cases hx; cases hu; exact hX w'
      | 1, hx, hu => cases hx; cases hu; rw [← hb]; exact .a (.bool _)
  have no : vT t = false → ∀ w', RepV ⟨S, [], []⟩ w' (.agg (bcA t)) (.agg zer) := fun h w' => by
    unfold bcA; rw [h, if_neg (by simp)]; exact rep_zer S w'
  obtain ⟨arr, rfl, hs, hr⟩ : ∃ arr, v = .agg arr ∧ arr.size = 2 ∧ ∀ (j : Nat) (x : Atom) (u : Value), t.row[j]? = some x → arr[j]? = some u → Rep S w x u := by
    cases hrep with
    | agg hs hr => exact ⟨_, rfl, hs, hr⟩
  · obtain ⟨a0, a1, rfl⟩ := arr_two arr hs
    rw [tr_row] at hr
    have r0 := hr 0 _ a0 rfl rfl
    have r1 := hr 1 _ a1 rfl rfl
    cases r1
    generalize hq : t.bs.map u64R = rows at r0
    have hn0 : rows.length = t.bs.length := by rw [← hq, List.length_map]
    cases r0 with
    | empty _ A c hc hz =>
      have h0 : t.bs.length = 0 := by rw [← hn0]; rfl
      have hv0 : vT t = false := by unfold vT; rw [h0]; rfl
      exact fin zer false (no hv0) hv0.symm (buckets_no1 zer rfl A 0 c t.root (by decide) w)
    | slice _ _ g o c U hn hlc hc hr0 hcl hrp =>
      by_cases h64 : t.bs.length = 64
      rotate_left
      · have hv0 : vT t = false := by unfold vT; rw [decide_eq_false h64]; rfl
        exact fin zer false (no hv0) hv0.symm (buckets_no1 zer rfl (some ⟨g, o, none⟩) rows.length c t.root (by omega) w)
      have e64 : rows.length = 64 := by omega
      rw [e64] at hR fin ⊢
      by_cases hrt : t.root = rootN t.bs
      rotate_left
      · have hv0 : vT t = false := by
          unfold vT
          rw [decide_eq_true h64, Bool.true_and]
          simp [hrt]
        exact fin zer false (no hv0) hv0.symm (buckets_no2 zer rfl (some ⟨g, o, none⟩) c t.root (rootN t.bs) hrt w hR)
      · have hv1 : vT t = true := by
          unfold vT
          rw [decide_eq_true h64, ← hrt]; simp
        rw [← hrt] at hR
        refine fin (arrV t.bs) true (fun w' => by unfold bcA; rw [if_pos hv1]; exact rep_arrV S w' t.bs) hv1.symm (buckets_yes zer (arrV t.bs) rfl (by rw [arrV_size]; exact h64) ?_ ⟨g, o, none⟩ c t.root w (fun j v h => ?_) hR)
        · refine Array.all_eq_true_iff_forall_mem.2 fun v hv => ?_
          obtain ⟨x, _, rfl⟩ := List.mem_map.1 (by simpa [arrV] using hv : v ∈ t.bs.map u64V)
          rfl
        · rw [Array.getElem?_toList] at h
          have hj : j < t.bs.length := by
            have := (Array.getElem?_eq_some_iff.1 h).1
            rw [arrV_size] at this; exact this
          rw [arrV_get t.bs j hj] at h
          cases h
          have hr1 : rows[j]? = some (u64R t.bs[j]) := by rw [← hq]; simp [hj]
          have q1 := (hcl j _ 0 _ hr1 rfl).2
          have q2 := hrp j _ 0 _ hr1 rfl
          rw [add_at]
          rw [Nat.mul_one, Nat.add_zero] at q1 q2
          rw [q1]
          generalize U j = u at q2
          cases q2
          rfl
end Go.Proofs.Ytknmjfojlnajjaa
