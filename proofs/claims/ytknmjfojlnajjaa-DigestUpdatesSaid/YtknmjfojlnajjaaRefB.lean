/- Walks of the reference of layer 2. -/
import Derived.Test.YtknmjfojlnajjaaWireB
set_option linter.unusedSimpArgs false
set_option linter.unusedVariables false
namespace Go.Proofs.Ytknmjfojlnajjaa
open Go.RowKit Go.PlainAid

theorem convert_one (W : World) (g : Nat) (x : Int) (h : W.cell? ⟨g, 0, none⟩ = some (.int .u8 x)) (hx : 0 ≤ x) (hx1 : x ≤ 255) :
    (convert 71 9 (.slice (some ⟨g, 0, none⟩) 1 1)).run Try.prog W = .ok (.string ⟨#[UInt8.ofNat x.toNat]⟩) W := by
  have := run_convert_bytes_back (P := Try.prog) W 71 9 5 ⟨g, 0, none⟩ 1 [UInt8.ofNat x.toNat] Try.underlying71 Try.underlying5 Try.underlying9 ?_
  · exact this
  · intro j hj
    match j, hj with
    | 0, _ =>
      have e : ((UInt8.ofNat x.toNat).toNat : Int) = x := by simp; omega
      show W.cell? _ = some (.int .u8 ((UInt8.ofNat x.toNat).toNat : Int))
      rw [e]; exact h

set_option maxHeartbeats 400000 in
set_option maxRecDepth 100000 in
theorem ruint_any (u : Int) (w : World) (h0 : 0 ≤ u) (h1 : u < Cw.M64) :
    Calls Try.prog 64 #[.int .u64 u] w fun e w' => e = .returned (.string ⟨(Cw.vint u.toNat).toArray⟩) ∧ Below w.heap.size w w' := by
  obtain ⟨m0, rfl⟩ := Int.eq_ofNat_of_zero_le h0
  have hlen := Cw.vint_len_10 m0 (by have := Cw.m64; omega)
  have H1 := Cw.Box.mk h1
  clear h1
  go_enter Try.func64, Try.ntmps64
  go_wp2
  go_loopw [0, 3] (fun u b wr => ∃ (m : Nat) (l : List UInt8), u = .int .u64 m ∧ m ≤ m0 ∧ Hid (Cw.vint m0 = l ++ Cw.vint m) ∧ b = .string ⟨l.toArray⟩ ∧ Below w.heap.size w wr) (fun u _ _ => (intOf u).toNat)
  case atStart => exact ⟨m0, [], rfl, Nat.le_refl _, rfl, rfl, Below.refl _ _⟩
  case round =>
    obtain ⟨m, l, rfl, hm, hv, rfl, hbw⟩ := hrel
    have hl : l.length ≤ 10 := by have := congrArg List.length hv.out; simp at this; omega
    by_cases hlt : 128 ≤ m
    · have hc := convert_one (wr.alloc (.cells #[.int .u8 ((m : Int) % 128 + 128)] 5)) wr.heap.size ((m : Int) % 128 + 128) (World.cell?_alloc_at _ _ _ _ rfl) (by omega) (by omega)
      go_wp2
      have e1 : IntKind.u64.wrap ((m : Int) / 128) = ((m / 128 : Nat) : Int) := by have := H1.out; rw [Cw.m64] at this; rw [u64_nonneg (by omega) (by omega)]; omega
      rw [e1]
      refine ⟨⟨m / 128, l ++ [UInt8.ofNat (m % 128 + 128)], rfl, by omega, ?_, ?_, hbw.alloc hbw.size _⟩, by simp [intOf]; omega⟩
      · show Cw.vint m0 = _
        rw [hv.out, Cw.vint_ge hlt]; simp
      · rw [append_str, UInt8.ofNat_add]; rfl
    · have hc := convert_one (wr.alloc (.cells #[.int .u8 (m : Int)] 5)) wr.heap.size (m : Int) (World.cell?_alloc_at _ _ _ _ rfl) (by omega) (by omega)
      go_wp2
      go_ret
      refine ⟨?_, hbw.alloc hbw.size _⟩
      rw [Int.toNat_natCast, hv.out, Cw.vint_lt (by omega)]
      show Ending.returned (.string _) = _
      rw [append_str]
set_option maxHeartbeats 400000 in
set_option maxRecDepth 100000 in
theorem rfold_any (m : Int) (w : World) (h0 : -Cw.M63 ≤ m) (h1 : m < Cw.M63) :
    Calls Try.prog 70 #[.int .i64 m] w fun e w' => e = .returned (.int .u64 (Cw.fold m)) ∧ w = w' := by
  rw [Cw.m63] at h0 h1
  have hf : Hid ((m < 0 → (Cw.fold m : Int) = 2 * -(m + 1) + 1) ∧ (¬ m < 0 → (Cw.fold m : Int) = 2 * m)) := by
    unfold Cw.fold
    exact ⟨fun h => by rw [if_pos h]; omega, fun h => by rw [if_neg h]; omega⟩
  by_cases h : m < 0
  · go_enter Try.func70, Try.ntmps70
    go_wp2
    go_ret
    exact ⟨by rw [hf.out.1 h]; rfl, rfl⟩
  · go_enter Try.func70, Try.ntmps70
    go_wp2
    go_ret
    exact ⟨by rw [hf.out.2 h]; rfl, rfl⟩
/-- The weight of a group of seven bits. -/
def wt (k : Nat) : Int := ((128 ^ k : Nat) : Int)
theorem wt_step (acc k : Nat) (c : Int) (hk : k < 10) (ha : acc < 128 ^ k) (hc0 : 0 ≤ c) (hc : c ≤ 255) (h9 : k = 9 → c ≤ 1) :
    IntKind.u64.wrap (acc + IntKind.u64.wrap (c % 128 * wt k)) = ((acc + c.toNat % 128 * 128 ^ k : Nat) : Int) := by
  obtain ⟨m, rfl⟩ := Int.eq_ofNat_of_zero_le hc0
  have hlt : m % 128 * 128 ^ k ≤ 9223372036854775808 := by
    by_cases h : k = 9
    · subst h
      have := h9 rfl
      have h1 : m % 128 * 128 ^ 9 ≤ 1 * 128 ^ 9 := Nat.mul_le_mul_right _ (by omega)
      have h2 : (128 : Nat) ^ 9 = 9223372036854775808 := by decide
      omega
    · have h1 : m % 128 * 128 ^ k ≤ 127 * 128 ^ 8 := Nat.mul_le_mul (by omega) (Nat.pow_le_pow_right (by omega) (by omega))
      have h2 : (128 : Nat) ^ 8 = 72057594037927936 := by decide
      omega
  have ha2 : acc < 9223372036854775808 := by
    have h1 : (128 : Nat) ^ k ≤ 128 ^ 9 := Nat.pow_le_pow_right (by omega) (by omega)
    have h2 : (128 : Nat) ^ 9 = 9223372036854775808 := by decide
    omega
  have hcast : ((m : Int) % 128) * wt k = ((m % 128 * 128 ^ k : Nat) : Int) := by unfold wt; rw [Int.natCast_mul]; rfl
  have e1 : IntKind.u64.wrap ((m % 128 * 128 ^ k : Nat) : Int) = ((m % 128 * 128 ^ k : Nat) : Int) := u64_nonneg (by omega) (by omega)
  rw [hcast, e1, u64_nonneg (by omega) (by omega), Int.toNat_natCast]
  rfl
theorem wt_next (k : Nat) (hk : k < 9) : IntKind.u64.wrap (wt k * 128) = wt (k + 1) := by
  have h1 : (128 : Nat) ^ k ≤ 128 ^ 8 := Nat.pow_le_pow_right (by omega) (by omega)
  have h2 : (128 : Nat) ^ 8 = 72057594037927936 := by decide
  have h3 : wt k * 128 = wt (k + 1) := by unfold wt; rw [Nat.pow_succ, Int.natCast_mul]; rfl
  have h4 : wt k * 128 ≤ 9223372036854775808 := by unfold wt; omega
  have h5 : 0 ≤ wt k * 128 := by unfold wt; exact Int.mul_nonneg (Int.natCast_nonneg _) (by omega)
  rw [u64_nonneg h5 (by omega), h3]

set_option maxHeartbeats 400000 in
set_option maxRecDepth 100000 in
theorem rint_any (m : Int) (w : World) (h0 : -Cw.M63 ≤ m) (h1 : m < Cw.M63) :
    Calls Try.prog 65 #[.int .i64 m] w fun e w' => e = .returned (.string ⟨(Cw.vint (Cw.fold m)).toArray⟩) ∧ Below w.heap.size w w' := by
  have hlt := Cw.fold_lt m h0 h1
  have H0 := Lib.hid h0
  have H1 := Lib.hid h1
  clear h0 h1
  go_enter Try.func65, Try.ntmps65
  go_wp2_with fail
  refine (rfold_any _ _ H0.out H1.out).mono ?_
  rintro e w1 ⟨rfl, rfl⟩
  go_wp2_with fail
  refine (ruint_any _ _ (by omega) hlt).mono ?_
  rintro e w1 ⟨rfl, hb⟩
  go_wp2
  go_ret
  exact ⟨by simp, hb⟩
set_option maxHeartbeats 400000 in
set_option maxRecDepth 100000 in
theorem rtext_any (s : ByteArray) (w : World) (hs : s.size ≤ 1073741824) :
    Calls Try.prog 66 #[.string s] w fun e w' => e = .returned (.string ⟨(Cw.text s.data.toList).toArray⟩) ∧ Below w.heap.size w w' := by
  have hl := Cw.vint_len_10 s.size (by omega)
  go_enter Try.func66, Try.ntmps66
  go_wp2_with fail
  refine (ruint_any _ _ (by omega) (by rw [Cw.m64]; omega)).mono ?_
  rintro e w1 ⟨rfl, hb⟩
  go_wp2
  go_ret
  exact ⟨by rw [append_str]; simp [Cw.text], hb⟩
end Go.Proofs.Ytknmjfojlnajjaa
