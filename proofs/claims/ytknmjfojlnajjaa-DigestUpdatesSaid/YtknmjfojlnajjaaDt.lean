/- Chapter 53: trees of both. -/
import Derived.Test.YtknmjfojlnajjaaDx
set_option linter.unusedSimpArgs false
set_option linter.unusedVariables false
namespace Go.Proofs.Ytknmjfojlnajjaa
open Go Ab Go.RowKit
set_option maxRecDepth 100000
attribute [local irreducible] awp aops aop asoft aeff aloop acall acallI acallT
attribute [local go_sem] Vl.row Pr.row

theorem bx64 (a b : Nat) (ha : a < 18446744073709551616) (hb : b < 18446744073709551616) (k : AV → Prop) : thaw (binInt .xor .u64 .u64 (a : Int) (b : Int) k) = thaw (k (.a (.int .u64 ((a ^^^ b : Nat) : Int)))) := by
  have h : thaw (binInt .xor .u64 .u64 (a : Int) (b : Int) k) = thaw (agate (IntKind.u64 = IntKind.u64) <| k (.a (.int .u64 (IntKind.u64.wrap (((BitVec.ofInt 64 (a : Int) ^^^ BitVec.ofInt 64 (b : Int)).toNat : Nat) : Int))))) := b_xor
  rw [h, xor64 a b ha hb]
  simp only [go_sem]
theorem row_mk (bs : List Nat) (r : Nat) : Tr.row ⟨bs, r⟩ = [.slice 1 (bs.map u64R), .int .u64 (r : Int)] := rfl
theorem tree_mk (l : List Pr) : treeT l = ⟨bks l, rootN (bks l)⟩ := rfl
def bkA (l : List Pr) : List Atom := (bks l).map u64A
theorem bkA_len (l : List Pr) : (bkA l).length = 64 := by simp [bkA, bks_len]
theorem bkA_nil : (bkA []).map AV.a = List.replicate 64 (.a (.int .u64 0)) := by kernel_rfl
theorem bkA_get (l : List Pr) (c : Nat) (h : c < 64) : ((bkA l).map AV.a).getD c .any = .a (.int .u64 (bk l c : Nat)) := by
  unfold bkA bks
  simp [List.getD_eq_getElem?_getD, h, u64A]
theorem bkA_set (l : List Pr) (p : Pr) : ((bkA l).map AV.a).take (bktN p.key) ++ [.a (.int .u64 ((bk l (bktN p.key) ^^^ pairN p : Nat) : Int))] ++ ((bkA l).map AV.a).drop (bktN p.key + 1) = (bkA (l ++ [p])).map AV.a := by
  have hb := bktN_lt p.key
  apply List.ext_getElem
  · simp [bkA_len]; omega
  · intro i h1 h2
    have hi : i < 64 := by simpa [bkA_len] using h2
    have hR : ((bkA (l ++ [p])).map AV.a)[i] = .a (.int .u64 ((bkF i (bk l i) p : Nat) : Int)) := by
      simp [bkA, bks, u64A, bk_snoc]
    refine Eq.trans ?_ hR.symm
    have hL : ∀ (j : Nat) (h : j < ((bkA l).map AV.a).length), ((bkA l).map AV.a)[j] = .a (.int .u64 (bk l j : Nat)) := fun j h => by
      simp [bkA, bks, u64A]
    unfold bkF
    by_cases e : bktN p.key = i
    · subst e
      rw [if_pos rfl]
      rw [List.getElem_append_left (by simp [bkA_len]; omega), List.getElem_append_right (by simp [bkA_len]; omega)]
      simp
    · rw [if_neg e]
      by_cases lt : i < bktN p.key
      · rw [List.getElem_append_left (by simp [bkA_len]; omega), List.getElem_append_left (by simp [bkA_len]; omega), List.getElem_take, hL]
      · rw [List.getElem_append_right (by simp [bkA_len]; omega), List.getElem_drop, hL]
        congr 3
        simp [bkA_len]
        congr 1
        omega
theorem atomsOf_map (O : List OwnD) : ∀ xs : List Atom, atomsOf O (xs.map AV.a) = some xs
  | [] => rfl
  | x :: xs => by
    have ih := atomsOf_map O xs
    simp [atomsOf, atomOf, ih]
set_option maxHeartbeats 2000000 in
theorem tree_den (l : List Pr) (hl : l.length ≤ 1000000) (hf : ∀ p ∈ l, p.few) : PDen Try.prog 12 [.a (.slice 4 (l.map Pr.row))] (.agg (Tr.row (treeT l))) := by
  have hs := sealed_den (bks l) (bks_len l)
  rw [tree_mk, row_mk]
  rw [row_mk] at hs
  change PDen Try.prog _ [.agg (bkA l)] _ at hs
  generalize rootN (bks l) = R at hs ⊢
  have hz := bkA_nil
  refine den_of_body k_digest_Tree ⟨rfl, Nat.le_of_ble_eq_true rfl, thaw_intro ?_⟩
  unfold c_digest_Tree
  simp only [go_sem]
  refine t_loopO_intro [] (fun k : Nat => k ≤ l.length) (fun k => l.length - k) 0 [5, 8, 9, 10, 11, 12, 13, 14, 15, 16, 17, 18, 19, 20, 21] (fun k => [(8, .a (.int .i64 k))]) (fun k => [[.a .nils, .a (.int .u64 0)], (bkA (l.take k)).map AV.a]) (fun k => []) (by omega) (by simp) (by first | (simp; done) | simp [hz]) (by first | (simp; done) | simp [hz]) (by first | (simp; done) | simp [hz]) (fun k => by first | (simp; done) | simp [hz]) (fun k => by first | (simp; done) | simp [hz]) (fun k => by first | (simp; done) | simp [hz]) ?_
  intro k hk st_ hst
  simp only [go_sem] at hst
  subst hst
  by_cases hlt : k < l.length
  · have h1 : (k : Int) < (l.length : Int) := by omega
    have ew := wrap1 k l.length hlt (by omega)
    have e := getD_map Pr.row l k hlt
    have hp := hf _ (List.getElem_mem hlt)
    have hb := bktN_lt l[k].key
    have hbi : ((bktN l[k].key : Nat) : Int) < 64 := by omega
    have hg := bkA_get (l.take k) _ hb
    have hn := bkA_len (l.take k)
    have hst := bkA_set (l.take k) l[k]
    rw [← List.take_succ_eq_append_getElem hlt] at hst
    have hx := bx64 (bk (l.take k) (bktN l[k].key)) (pairN l[k]) (bk_lt _ _) (pairN_lt _)
    simp only [h1, e, go_sem]
    refine t_call_intro (bucket_den l[k].key (by have := hp.ks; omega)) ?_
    simp only [h1, e, hbi, hb, hn, hg, Nat.mul_one, Nat.zero_add, go_sem]
    refine t_gate_intro (by omega) ?_
    simp only [hbi, hb, hn, hg, Nat.mul_one, Nat.zero_add, go_sem]
    refine t_call_intro (pair_den l[k] hp) ?_
    simp only [hbi, hb, hn, hg, hx, Nat.mul_one, Nat.zero_add, hst, ew, go_sem]
    refine t_gate_intro (by omega) ?_
    simp only [hbi, hb, hn, hg, hx, Nat.mul_one, Nat.zero_add, hst, ew, go_sem]
    refine t_gate_intro (by omega) ?_
    simp only [hst, ew, go_sem]
    refine t_roundO (k + 1) (by omega) (by omega) (by simp) (by simp) (by simp) (by simp) (by simp)
  · have h1 : ¬ (k : Int) < (l.length : Int) := by omega
    have ek : l.take k = l := List.take_of_length_le (by omega)
    have ht : ((bkA l).map AV.a).take 64 = (bkA l).map AV.a := List.take_of_length_le (by rw [List.length_map, bkA_len]; exact Nat.le_refl _)
    have hat := atomsOf_map [] (bkA l)
    have hbl := bkA_len l
    simp only [h1, ek, ht, hat, hbl, go_sem]
    refine t_call_intro (hs) ?_
    simp only [go_sem]
    simp only [aresult, ares, go_sem]
end Go.Proofs.Ytknmjfojlnajjaa
