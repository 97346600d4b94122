/- slices.Insert at structs: copy into a known row, overlaps at a row of one's own. No program. -/
import Derived.Test.YtbiongfnbbnndaaAbP
import Derived.Laws.CopyOwn
import Derived.Laws.Externs
import Derived.Lib.Overlaps
import Derived.Lib.AppendZerosOnto
set_option linter.unusedSimpArgs false
set_option linter.unusedVariables false
namespace Ab
open Go Go.RowKit

theorem run_copy_rowN {P : Program} (w : World) (t ty e : TypeId) (i : TypeInfo) (ht : P.underlying t = some (.slice e)) (hi : P.info? e = some i) (g o dl dc : Nat) (cur : List Value) (te : TypeId)
    (hg : w.heap[g]? = some (.cells cur.toArray te (0, 0))) (ad : Addr) (sl sc m : Nat) (hm : m = Min.min sl dl) (ys : List Value) (hyl : ys.length = m * i.size)
    (hsrc : ∀ j u, ys[j]? = some u → w.cell? (ad.add j) = some u) (hfit : o + ys.length ≤ cur.length) (h1 : ∀ v ∈ ys, v.oneCell' = true) :
    (Builtin.copy_ #[t, t] ty #[.slice (some ⟨g, o, none⟩) dl dc, .slice (some ad) sl sc]).run P w = .ok (.int .i64 m) (w.setRow g (splice cur o ys).toArray) := by
  refine run_copy_part t ty e i ht hi hm ys hyl (fun _ => ⟨ad, rfl, hsrc⟩) (fun _ => ⟨_, rfl, ?_⟩) (fun h0 => ?_)
  · have h := run_storeCells_at P g o te ys 0 cur.toArray w hg (by simpa using hfit) h1
    have e0 : (⟨g, o, none⟩ : Addr).add 0 = ⟨g, o, none⟩ := by rw [add_at]; rfl
    simpa [splice, Nat.add_assoc] using h
  · have : ys = [] := List.eq_nil_of_length_eq_zero (by rw [hyl, h0, Nat.zero_mul])
    subst this
    have e1 : (splice cur o []).toArray = cur.toArray := by simp [splice]
    rw [e1]
    exact setRow_self w g cur.toArray te (0, 0) hg

theorem block_of_cell {w : World} {a : Addr} {u : Value} (h : w.cell? a = some u) : ∃ c e f, w.heap[a.block]? = some (.cells c e f) ∧ c.size ≠ 0 := by
  unfold World.cell? at h
  split at h
  · rename_i c e f hb
    split at h
    · cases h
    · refine ⟨c, e, f, hb, fun h0 => ?_⟩
      have := (Array.getElem?_eq_some_iff.1 h).1
      omega
  · cases h

theorem run_overlaps_own {P : Program} (w : World) (tS tR e : TypeId) (ht : P.underlying tS = some (.slice e)) (size : Nat) (hz : ∀ w, (Go.sizeOf e).run P w = .ok size w)
    (a b : Addr) (la ca lb cb : Nat) (hne : a.block ≠ b.block) (u : Value) (hca : w.cell? a = some u) (cur : Array Value) (te : TypeId) (hgb : w.heap[b.block]? = some (.cells cur te (0, 0))) (hpos : cur.size ≠ 0) :
    (Extern.SlicesOverlaps.overlaps #[tS, tS] #[tR] #[.slice (some a) la ca, .slice (some b) lb cb]).run P w = .ok (.bool false) w := by
  have hnb : (a.block != b.block) = true := by simpa using hne
  have hnb' : (a.block == b.block) = false := by simpa using hne
  obtain ⟨c, ea, f, hga, hc0⟩ := block_of_cell hca
  have hsa : w.shape? a.block = some (ea, c.size) := by simp [World.shape?, hga]
  have hsb : w.shape? b.block = some (te, cur.size) := by simp [World.shape?, hgb]
  have hfb : w.frozen? b = false := by simp [World.frozen?, hgb]
  have hfb2 : w.frozen? { block := b.block, off := cur.size } = false := by simp [World.frozen?, hgb]
  change Sem.run P (α := Value) (do
    let some t := (#[tS, tS] : Array TypeId)[0]? | stuck "slices.overlaps: no parameter types"
    let .slice elem ← underlying t | stuck "slices.overlaps: slice type expected"
    let size ← sizeOf elem
    match (some a : Option Addr), (some b : Option Addr) with
    | some a, some b =>
      if la = 0 ∨ lb = 0 ∨ size = 0 then pure (Value.bool false)
      else if a.block != b.block && (← frozen a) && (← frozen b) then unsupported .addressObserved
      else do
        if a.block != b.block then do
          noView a; noView b
          if ← mayBeOne a b then return Value.bool ((← choose (.extern "sameAddr.stringBytes" 2)) == 1)
        pure (Value.bool (a.block == b.block && a.off < b.off + lb * size && b.off < a.off + la * size))
    | _, _ => pure (Value.bool false)) w = _
  by_cases h0 : la = 0 ∨ lb = 0 ∨ size = 0
  · simp [run_underlying ht, hz, h0]
  · obtain ⟨kA, hkA⟩ : ∃ k, c.size = k + 1 := ⟨c.size - 1, by omega⟩
    obtain ⟨kB, hkB⟩ : ∃ k, cur.size = k + 1 := ⟨cur.size - 1, by omega⟩
    rw [hkA] at hsa
    rw [hkB] at hsb hfb2
    cases hfa : w.frozen? a with
    | true => simp [run_underlying ht, hz, h0, hnb, hnb', frozen, noView, viewAt, mayBeOne, stringish, shape, Sem.run, hsa, hsb, hfa, hfb, hfb2]
    | false =>
      cases hfe : w.frozen? { block := a.block, off := kA + 1 } <;> simp [run_underlying ht, hz, h0, hnb, hnb', frozen, noView, viewAt, mayBeOne, stringish, shape, Sem.run, hsa, hsb, hfa, hfb, hfb2, hfe]

/-- A row behind an insertion. -/
theorem splice_ins {sz n i : Nat} {cur ys : List Value} (hi : i ≤ n) (hc : (n + 1) * sz ≤ cur.length) (hy : ys.length = sz) :
    (splice (splice cur ((i + 1) * sz) ((cur.take (n * sz)).drop (i * sz))) (i * sz) ys).take ((n + 1) * sz) = (cur.take (n * sz)).take (i * sz) ++ ys ++ (cur.take (n * sz)).drop (i * sz) := by
  have e1 : (i + 1) * sz = i * sz + sz := by rw [Nat.add_mul, Nat.one_mul]
  have e2 : (n + 1) * sz = n * sz + sz := by rw [Nat.add_mul, Nat.one_mul]
  have h1 : i * sz ≤ n * sz := Nat.mul_le_mul_right _ hi
  rw [e2] at hc
  rw [e1, e2]
  generalize i * sz = a at *
  generalize n * sz = b at *
  apply List.ext_getElem?
  intro j
  have l1 : ((cur.take b).drop a).length = b - a := by simp; omega
  have l2 : (splice cur (a + sz) ((cur.take b).drop a)).length = cur.length := length_splice _ _ _ (by rw [l1]; omega)
  have g1 : ∀ j, (splice cur (a + sz) ((cur.take b).drop a))[j]? = if j < a + sz then cur[j]? else if j < b + sz then cur[j - sz]? else cur[j]? := by
    intro j
    unfold splice
    by_cases q1 : j < a + sz
    · rw [if_pos q1, List.getElem?_append_left (by rw [List.length_take]; omega), List.getElem?_take, if_pos q1]
    · rw [if_neg q1, List.getElem?_append_right (by rw [List.length_take]; omega), List.length_take, Nat.min_eq_left (by omega)]
      by_cases q2 : j < b + sz
      · rw [if_pos q2, List.getElem?_append_left (by rw [l1]; omega), List.getElem?_drop, List.getElem?_take, if_pos (by omega)]
        congr 1; omega
      · rw [if_neg q2, List.getElem?_append_right (by rw [l1]; omega), List.getElem?_drop, l1]
        congr 1; omega
  generalize splice cur (a + sz) ((cur.take b).drop a) = M at l2 g1
  have g2 : (splice M a ys)[j]? = if j < a then M[j]? else if j < a + sz then ys[j - a]? else M[j]? := by
    unfold splice
    by_cases q1 : j < a
    · rw [if_pos q1, List.getElem?_append_left (by rw [List.length_take]; omega), List.getElem?_take, if_pos q1]
    · rw [if_neg q1, List.getElem?_append_right (by rw [List.length_take]; omega), List.length_take, Nat.min_eq_left (by omega)]
      by_cases q2 : j < a + sz
      · rw [if_pos q2, List.getElem?_append_left (by omega)]
      · rw [if_neg q2, List.getElem?_append_right (by omega), List.getElem?_drop]
        congr 1; omega
  rw [List.getElem?_take, g2, g1]
  by_cases q0 : j < b + sz
  · rw [if_pos q0]
    by_cases q1 : j < a
    · rw [if_pos q1, if_pos (by omega), List.append_assoc, List.getElem?_append_left (by simp; omega), List.getElem?_take, if_pos q1, List.getElem?_take, if_pos (by omega)]
    · rw [if_neg q1]
      by_cases q2 : j < a + sz
      · rw [if_pos q2, List.append_assoc, List.getElem?_append_right (by simp; omega), List.getElem?_append_left (by simp; omega)]
        congr 1; simp; omega
      · rw [if_neg q2, if_neg q2, if_pos q0, List.getElem?_append_right (by simp; omega), List.getElem?_drop, List.getElem?_take, if_pos (by simp; omega)]
        congr 1; simp; omega
  · rw [if_neg q0, List.getElem?_eq_none (by simp; omega)]
theorem splice_new {sz n i : Nat} {xs row ys : List Value} (hi : i ≤ n) (hx : xs.length = n * sz) (hr : row.take (i * sz) = xs.take (i * sz)) (hc : (n + 1) * sz ≤ row.length) (hy : ys.length = sz) :
    (splice (splice row (i * sz) ys) ((i + 1) * sz) (xs.drop (i * sz))).take ((n + 1) * sz) = xs.take (i * sz) ++ ys ++ xs.drop (i * sz) := by
  have e1 : (i + 1) * sz = i * sz + sz := by rw [Nat.add_mul, Nat.one_mul]
  have e2 : (n + 1) * sz = n * sz + sz := by rw [Nat.add_mul, Nat.one_mul]
  have h1 : i * sz ≤ n * sz := Nat.mul_le_mul_right _ hi
  rw [e2] at hc
  rw [e1, e2]
  generalize i * sz = a at *
  generalize n * sz = b at *
  have k1 : (splice row a ys).take (a + sz) = xs.take a ++ ys := by
    unfold splice
    rw [hr, ← List.append_assoc, List.take_append_of_le_length (by simp; omega), List.take_of_length_le (by simp; omega)]
  unfold splice at k1 ⊢
  rw [k1, ← List.append_assoc, List.take_append_of_le_length (by simp; omega), List.take_of_length_le (by simp; omega)]
end Ab
