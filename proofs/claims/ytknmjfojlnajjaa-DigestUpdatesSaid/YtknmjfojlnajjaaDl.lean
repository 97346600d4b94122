/- Chapter 53: the example of the chapter. -/
import Derived.Test.YtknmjfojlnajjaaDr
set_option linter.unusedSimpArgs false
set_option linter.unusedVariables false
namespace Go.Proofs.Ytknmjfojlnajjaa
open Go Ab Go.RowKit
set_option maxRecDepth 100000
attribute [local irreducible] awp aops aop asoft aeff aloop acall acallI acallT
attribute [local go_sem] Vl.row Pr.row

def xP : Pr := ⟨⟨#[120]⟩, ⟨1, 1, ⟨#[]⟩⟩⟩
def xN : Pr := ⟨⟨#[120]⟩, ⟨0, 0, ⟨#[]⟩⟩⟩
theorem ex_bkt : bktN ⟨#[97]⟩ = 12 := by decide +kernel
theorem ex_pair : pairN xP = pairN xP := rfl
theorem ex_ne : sameT (treeT [xP]) (treeT []) = false := by decide +kernel
theorem ex_upd : updT (treeT [xP]) xP xN = (treeT [], 0) := by
  have h : (updT (treeT [xP]) xP xN).1.bs = bks [] ∧ (updT (treeT [xP]) xP xN).1.root = rootN (bks []) ∧ (updT (treeT [xP]) xP xN).2 = 0 := by decide +kernel
  generalize updT (treeT [xP]) xP xN = x at h
  obtain ⟨⟨b, r⟩, e⟩ := x
  obtain ⟨h1, h2, h3⟩ := h
  simp only [] at h1 h2 h3
  rw [h1, h2, h3]; rfl
theorem ex_diff : (diffT (treeT [xP]) (treeT [])).length = 1 := by decide +kernel
theorem ex_few (p : Pr) (h : p = xP ∨ p = xN) : p.few := by
  rcases h with rfl | rfl
  · exact ⟨by decide, by decide, by rw [Cw.m63]; decide, by rw [Cw.m63]; decide⟩
  · exact ⟨by decide, by decide, by rw [Cw.m63]; decide, by rw [Cw.m63]; decide⟩
theorem treeT_len (l : List Pr) : (treeT l).bs.length = 64 := bks_len l
set_option maxHeartbeats 2000000 in
theorem lives_den : PDen Try.prog 10 [] (.a (.bool true)) := by
  have hx := ex_few xP (.inl rfl)
  have ht := tree_den [xP] (by decide) (fun p hp => by rw [List.mem_singleton.1 hp]; exact hx)
  have hn : PDen Try.prog 12 [.a .nils] (.agg (treeT []).row) := (tree_den [] (by decide) (fun p hp => by cases hp)).args ⟨VLe.a (RLe.nils 4), trivial⟩
  have hu := upd_den (treeT [xP]) xP xN (by rw [treeT_len]; decide) (treeT_fit _) hx (ex_few xN (.inr rfl))
  rw [ex_upd] at hu
  have hs := rsameT_den (treeT []) (treeT []) (by rw [treeT_len]; decide) (by rw [treeT_len]; decide)
  rw [sameT_refl] at hs
  have hd := rsameT_den (treeT [xP]) (treeT []) (by rw [treeT_len]; decide) (by rw [treeT_len]; decide)
  rw [ex_ne] at hd
  have hf := diff_den (treeT [xP]) (treeT []) (by rw [treeT_len]; decide) (by rw [treeT_len]; decide)
  have hb := bucket_den ⟨#[97]⟩ (by decide)
  rw [ex_bkt] at hb
  change PDen _ _ _ (.a (.int .i64 12)) at hb
  have hfl : ((diffT (treeT [xP]) (treeT [])).map iR).length = 1 := by rw [List.length_map]; exact ex_diff
  generalize (diffT (treeT [xP]) (treeT [])).map iR = D at hf hfl
  have l0 : (treeT []).bs.length = 64 := treeT_len []
  have z0 : (treeT []).bs.getD 0 0 = 0 := by decide +kernel
  generalize treeT [] = T0 at *
  generalize treeT [xP] = T1 at *
  unfold trA at hu
  rw [tr_row T0] at hn hu hs hd hf
  rw [tr_row T1] at ht hu hd hf
  have g0 : (T0.bs.map u64R).getD 0 [] = [.int .u64 0] := by
    rw [u64R_get T0.bs 0 (by omega)]
    have q : T0.bs.getD 0 0 = T0.bs[0] := by rw [List.getD_eq_getElem?_getD, List.getElem?_eq_getElem (by omega)]; rfl
    have : T0.bs[0] = 0 := q.symm.trans z0
    rw [this]; rfl
  have rx : xP.row = [.str ⟨#[120]⟩, .int .i64 1, .int .i64 1, .str ⟨#[]⟩] := rfl
  have rn : xN.row = [.str ⟨#[120]⟩, .int .i64 0, .int .i64 0, .str ⟨#[]⟩] := rfl
  rw [rx, rn] at hu
  simp only [List.map_cons, List.map_nil, rx] at ht
  have i0 : (0 : Int) < (64 : Int) := by decide
  have i1 : (0 : Int) < ((64 : Nat) : Int) := by decide
  have e12 : ((12 : Int) == 12) = true := by decide
  have e64 : (((64 : Nat) : Int) == 64) = true := by decide
  have e0 : ((0 : Int) == 0) = true := by decide
  have e1 : (((1 : Nat) : Int) == 1) = true := by decide
  refine den_of_body k_law53_lives ⟨rfl, Nat.le_of_ble_eq_true rfl, thaw_intro ?_⟩
  unfold c_law53_lives
  simp only [go_sem]
  refine t_call_intro (ht) ?_
  simp only [go_sem]
  refine t_call_intro (hu) ?_
  simp only [go_sem]
  refine t_call_intro (hn) ?_
  simp only [go_sem]
  refine t_call_intro (hb) ?_
  simp only [l0, g0, i0, i1, e12, e64, e0, e1, go_sem]
  try simp only [l0, g0, i0, i1, e12, e64, e0, e1, go_sem]
  refine t_call_intro (hs) ?_
  simp only [go_sem]
  refine t_call_intro (hd) ?_
  simp only [go_sem]
  refine t_call_intro (hf) ?_
  simp only [hfl, e1, go_sem]
  simp only [aresult, ares, go_sem]
end Go.Proofs.Ytknmjfojlnajjaa
