/- Walks of the reference of layer 2. -/
import Derived.Test.YtemeiopghbpamaaWireB
set_option linter.unusedSimpArgs false
set_option linter.unusedVariables false
namespace Go.Proofs.Ytemeiopghbpamaa
open Go.RowKit Go.PlainAid

theorem convert_one (W : World) (g : Nat) (x : Int) (h : W.cell? ⟨g, 0, none⟩ = some (.int .u8 x)) (hx : 0 ≤ x) (hx1 : x ≤ 255) :
    (convert 76 9 (.slice (some ⟨g, 0, none⟩) 1 1)).run Try.prog W = .ok (.string ⟨#[UInt8.ofNat x.toNat]⟩) W := by
  have := run_convert_bytes_back (P := Try.prog) W 76 9 5 ⟨g, 0, none⟩ 1 [UInt8.ofNat x.toNat] Try.underlying76 Try.underlying5 Try.underlying9 ?_
  · exact this
  · intro j hj
    match j, hj with
    | 0, _ =>
      have e : ((UInt8.ofNat x.toNat).toNat : Int) = x := by simp; omega
      show W.cell? _ = some (.int .u8 ((UInt8.ofNat x.toNat).toNat : Int))
      rw [e]; exact h

/-- The weight of a group of seven bits. -/
def wt (k : Nat) : Int := ((128 ^ k : Nat) : Int)
theorem wt_step (acc k : Nat) (c : Int) (hk : k < 10) (ha : acc < 128 ^ k) (hc0 : 0 ≤ c) (hc : c ≤ 255) (h9 : k = 9 → c ≤ 1) :
    IntKind.u64.wrap (acc + IntKind.u64.wrap (c % 128 * wt k)) = ((acc + c.toNat % 128 * 128 ^ k : Nat) : Int) := by
  obtain ⟨m, rfl⟩ := Int.eq_ofNat_of_zero_le hc0
  have hlt : m % 128 * 128 ^ k ≤ 9223372036854775808 := by
    by_cases h : k = 9
    · subst h
      have := h9 rfl
      have h1 : m % 128 * 128 ^ 9 ≤ 1 * 128 ^ 9 := Nat.mul_le_mul_right _ (by omega)
      have h2 : (128 : Nat) ^ 9 = 9223372036854775808 := by decide
      omega
    · have h1 : m % 128 * 128 ^ k ≤ 127 * 128 ^ 8 := Nat.mul_le_mul (by omega) (Nat.pow_le_pow_right (by omega) (by omega))
      have h2 : (128 : Nat) ^ 8 = 72057594037927936 := by decide
      omega
  have ha2 : acc < 9223372036854775808 := by
    have h1 : (128 : Nat) ^ k ≤ 128 ^ 9 := Nat.pow_le_pow_right (by omega) (by omega)
    have h2 : (128 : Nat) ^ 9 = 9223372036854775808 := by decide
    omega
  have hcast : ((m : Int) % 128) * wt k = ((m % 128 * 128 ^ k : Nat) : Int) := by unfold wt; rw [Int.natCast_mul]; rfl
  have e1 : IntKind.u64.wrap ((m % 128 * 128 ^ k : Nat) : Int) = ((m % 128 * 128 ^ k : Nat) : Int) := u64_nonneg (by omega) (by omega)
  rw [hcast, e1, u64_nonneg (by omega) (by omega), Int.toNat_natCast]
  rfl
theorem wt_next (k : Nat) (hk : k < 9) : IntKind.u64.wrap (wt k * 128) = wt (k + 1) := by
  have h1 : (128 : Nat) ^ k ≤ 128 ^ 8 := Nat.pow_le_pow_right (by omega) (by omega)
  have h2 : (128 : Nat) ^ 8 = 72057594037927936 := by decide
  have h3 : wt k * 128 = wt (k + 1) := by unfold wt; rw [Nat.pow_succ, Int.natCast_mul]; rfl
  have h4 : wt k * 128 ≤ 9223372036854775808 := by unfold wt; omega
  have h5 : 0 ≤ wt k * 128 := by unfold wt; exact Int.mul_nonneg (Int.natCast_nonneg _) (by omega)
  rw [u64_nonneg h5 (by omega), h3]

end Go.Proofs.Ytemeiopghbpamaa
