/- Chapter 39: the hash chain. -/
import Derived.Test.YtpnihinmlmoogaaHs
import Derived.Test.YtpnihinmlmoogaaEx
set_option linter.unusedSimpArgs false
set_option linter.unusedVariables false
namespace Go.Proofs.Ytpnihinmlmoogaa
open Go Ab Go.RowKit
set_option maxRecDepth 100000
attribute [local irreducible] awp aops aop asoft aeff aloop acall acallI acallT

theorem chain_den (h : Nat) (s : ByteArray) (hs : s.size ≤ 9223372036854775807) : PDen Try.prog 14 [.a (.int .u64 h), .a (.str s)] (.a (.int .u64 (mixH h (fnvH s).toNat))) := by
  have hf := fnv_den s hs
  obtain ⟨m, e, hm⟩ := fnvH_nat s
  rw [e] at hf ⊢
  refine den_of_body k_entry_Chain ⟨rfl, Nat.le_of_ble_eq_true rfl, thaw_intro ?_⟩
  unfold c_entry_Chain
  simp only [go_sem]
  refine t_call_intro (hf) ?_
  simp only [go_sem]
  refine t_call_intro (mix_den h m) ?_
  simp only [go_sem]
  simp only [aresult, ares, go_sem]
theorem rchain_den (h : Nat) (hh : h < 18446744073709551616) (s : ByteArray) (hs : s.size ≤ 9223372036854775807) : PDen Try.prog 15 [.a (.int .u64 h), .a (.str s)] (.a (.int .u64 (mixH h (fnvH s).toNat))) := by
  have hf := rfnv_den s hs
  obtain ⟨m, e, hm⟩ := fnvH_nat s
  rw [e] at hf ⊢
  refine den_of_body k_ref39_Chain ⟨rfl, Nat.le_of_ble_eq_true rfl, thaw_intro ?_⟩
  unfold c_ref39_Chain
  simp only [go_sem]
  refine t_call_intro (hf) ?_
  simp only [go_sem]
  refine t_call_intro (rmix_den h m hh hm) ?_
  simp only [go_sem]
  simp only [aresult, ares, go_sem]
theorem EntryChains_den (h : Int) (s : ByteArray) (w : 0 ≤ h ∧ h ≤ 18446744073709551615) : PDen Try.prog 4 [.a (.int .u64 h), .a (.str s)] (.a (.bool true)) := by
  obtain ⟨n, rfl⟩ := Int.eq_ofNat_of_zero_le w.1
  by_cases hs : s.size ≤ 6000
  rotate_left
  · have q : (6000 : Int) < (s.size : Int) := by omega
    refine den_of_body k_law39_EntryChains ⟨rfl, Nat.le_of_ble_eq_true rfl, thaw_intro ?_⟩
    unfold c_law39_EntryChains
    simp only [q, go_sem]
    refine t_call_intro (works39_den) ?_
    simp only [go_sem]
    simp only [aresult, ares, go_sem]
  have q : ¬ (6000 : Int) < (s.size : Int) := by omega
  refine den_of_body k_law39_EntryChains ⟨rfl, Nat.le_of_ble_eq_true rfl, thaw_intro ?_⟩
  unfold c_law39_EntryChains
  simp only [q, go_sem]
  refine t_call_intro (chain_den n s (by omega)) ?_
  simp only [go_sem]
  refine t_call_intro (rchain_den n (by omega) s (by omega)) ?_
  simp only [beq_self_eq_true, go_sem]
  refine t_call_intro (works39_den) ?_
  simp only [go_sem]
  simp only [aresult, ares, go_sem]
end Go.Proofs.Ytpnihinmlmoogaa
