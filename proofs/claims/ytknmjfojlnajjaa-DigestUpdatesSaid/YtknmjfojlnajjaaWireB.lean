/- Walks of the package wire: the Take functions. -/
import Derived.Test.YtknmjfojlnajjaaWireA
set_option linter.unusedSimpArgs false
set_option linter.unusedVariables false
namespace Go.Proofs.Ytknmjfojlnajjaa
open Go.RowKit Go.PlainAid

/-- What is left of a string from byte k on. -/
def rest (s : ByteArray) (k : Nat) : List UInt8 := s.data.toList.drop k
theorem rest_cons (s : ByteArray) (k : Nat) (h : k < s.size) : rest s k = s[k] :: rest s (k + 1) := by
  unfold rest
  rw [List.drop_eq_getElem_cons (by simpa using h)]; rfl
theorem rest_nil (s : ByteArray) (k : Nat) (h : s.size ≤ k) : rest s k = [] := List.drop_of_length_le (by simpa using h)
theorem bt_eq (s : ByteArray) (k : Nat) (h : k < s.size) : bt s k = ((s[k]).toNat : Int) := (get_bt s k h).symm
/-- The accumulated number and the next seven bits. -/
theorem or_step (acc k : Nat) (c : Int) (hk : k < 10) (ha : acc < 128 ^ k) (hc0 : 0 ≤ c) (hc : c ≤ 255) (h9 : k = 9 → c ≤ 1) :
    ∀ p : Int, p = 2 ^ (7 * k) → bits .or .u64 acc (IntKind.u64.wrap (IntKind.u64.wrap (bits .and .u8 c 127) * p)) = ((acc + c.toNat % 128 * 128 ^ k : Nat) : Int) := by
  rintro p rfl
  obtain ⟨m, rfl⟩ := Int.eq_ofNat_of_zero_le hc0
  have hand : bits .and .u8 (m : Int) 127 = ((m % 128 : Nat) : Int) := by
    rw [show (127 : Int) = ((127 : Nat) : Int) by rfl, u8_and_nat _ _ (by omega) (by omega)]
    congr 1
    exact Nat.and_two_pow_sub_one_eq_mod m 7
  have hw : IntKind.u64.wrap ((m % 128 : Nat) : Int) = ((m % 128 : Nat) : Int) := u64_nonneg (by omega) (by omega)
  rw [hand, hw]
  have hp : (128 : Nat) ^ k = 2 ^ (7 * k) := by rw [show (128 : Nat) = 2 ^ 7 by rfl, ← Nat.pow_mul]
  have hlt : m % 128 * 2 ^ (7 * k) < 18446744073709551616 := by
    rw [← hp]
    by_cases h : k = 9
    · subst h
      have := h9 rfl
      have h1 : m % 128 * 128 ^ 9 ≤ 1 * 128 ^ 9 := Nat.mul_le_mul_right _ (by omega)
      have h2 : (128 : Nat) ^ 9 = 9223372036854775808 := by decide
      omega
    · have h1 : m % 128 * 128 ^ k ≤ 127 * 128 ^ 8 := Nat.mul_le_mul (by omega) (Nat.pow_le_pow_right (by omega) (by omega))
      have h2 : (128 : Nat) ^ 8 = 72057594037927936 := by decide
      omega
  have ha2 : acc < 18446744073709551616 := by
    have h1 : (128 : Nat) ^ k ≤ 128 ^ 9 := Nat.pow_le_pow_right (by omega) (by omega)
    have h2 : (128 : Nat) ^ 9 = 9223372036854775808 := by decide
    omega
  have hcast : ((m % 128 : Nat) : Int) * 2 ^ (7 * k) = ((m % 128 * 2 ^ (7 * k) : Nat) : Int) := by
    rw [Int.natCast_mul, Int.natCast_pow]; rfl
  rw [hcast, u64_nonneg (by omega) (by omega), u64_or_nat _ _ ha2 hlt]
  congr 1
  rw [Nat.or_comm, ← Nat.shiftLeft_eq, ← Nat.shiftLeft_add_eq_or_of_lt (by rw [← hp]; exact ha), Nat.shiftLeft_eq, ← hp, Nat.add_comm]
  simp

theorem retT {a b c a' b' c' : Value} (h1 : a = a') (h2 : b = b') (h3 : c = c') : Ending.returned (.tuple #[a, b, c]) = .returned (.tuple #[a', b', c']) := by rw [h1, h2, h3]
theorem tup3 {a u : Nat} {b n c er : Int} (h : Hid ((a, b, c) = (u, n, er))) :
    Ending.returned (.tuple #[.int .u64 a, .int .i64 b, .int .i64 c]) = .returned (.tuple #[.int .u64 u, .int .i64 n, .int .i64 er]) := by
  have h := h.out
  simp only [Prod.mk.injEq] at h
  obtain ⟨rfl, rfl, rfl⟩ := h
  rfl

theorem ret3 {a u b n c er : Int} (h1 : a = u) (h2 : b = n) (h3 : c = er) :
    Ending.returned (.tuple #[.int .u64 a, .int .i64 b, .int .i64 c]) = .returned (.tuple #[.int .u64 u, .int .i64 n, .int .i64 er]) := by
  rw [h1, h2, h3]

theorem xor_ones (a : Nat) (h : a < 18446744073709551616) : a ^^^ 18446744073709551615 = 18446744073709551615 - a := by
  have h1 : (~~~(BitVec.ofNat 64 a)).toNat = 2 ^ 64 - 1 - (BitVec.ofNat 64 a).toNat := BitVec.toNat_not
  have h2 : ~~~(BitVec.ofNat 64 a) = (BitVec.ofNat 64 a) ^^^ BitVec.allOnes 64 := by rw [BitVec.xor_allOnes]
  rw [h2, BitVec.toNat_xor, BitVec.toNat_allOnes] at h1
  have h3 : (BitVec.ofNat 64 a).toNat = a := by simp; omega
  rw [h3] at h1
  exact h1

theorem fold_bits (m : Int) (h0 : -Cw.M63 ≤ m) (h1 : m < Cw.M63) :
    bits .xor .u64 (IntKind.u64.wrap (IntKind.u64.wrap m * 2)) (IntKind.u64.wrap (m / 9223372036854775808)) = (Cw.fold m : Int) := by
  rw [Cw.m63] at h0 h1
  unfold Cw.fold
  by_cases h : m < 0
  · rw [shr63_neg h (by omega), if_pos h]
    have e1 : IntKind.u64.wrap (-1) = ((18446744073709551615 : Nat) : Int) := by rw [IntKind.wrap_u64]; rfl
    have e2 : IntKind.u64.wrap (IntKind.u64.wrap m * 2) = ((2 * m + 18446744073709551616).toNat : Int) := by
      simp only [IntKind.wrap_u64]; omega
    rw [e1, e2, u64_xor_nat _ _ (by omega) (by omega), xor_ones _ (by omega)]
    omega
  · rw [shr63_nonneg (by omega) (by omega), if_neg h]
    have e1 : IntKind.u64.wrap 0 = ((0 : Nat) : Int) := by rw [IntKind.wrap_u64]; rfl
    have e2 : IntKind.u64.wrap (IntKind.u64.wrap m * 2) = ((2 * m).toNat : Int) := by
      simp only [IntKind.wrap_u64]; omega
    rw [e1, e2, u64_xor_nat _ _ (by omega) (by omega), Nat.xor_zero]

set_option maxHeartbeats 400000 in
theorem int_any (m : Int) (w : World) (h0 : -Cw.M63 ≤ m) (h1 : m < Cw.M63) :
    Calls Try.prog 61 #[.int .i64 m] w fun e w' => e = .returned (.string ⟨(Cw.vint (Cw.fold m)).toArray⟩) ∧ Below w.heap.size w w' := by
  have hf := Lib.hid (fold_bits m h0 h1)
  have hlt := Cw.fold_lt m h0 h1
  clear h0 h1
  go_enter Try.func61, Try.ntmps61
  go_wp2_with fail
  rw [hf.out]
  refine (uint_any _ _ (by omega) hlt).mono ?_
  rintro e w1 ⟨rfl, hb⟩
  go_wp2
  go_ret
  exact ⟨by simp, hb⟩
theorem append_str (l : List UInt8) (s : ByteArray) : (⟨l.toArray⟩ : ByteArray) ++ s = ⟨(l ++ s.data.toList).toArray⟩ := by
  apply ByteArray.ext; simp
set_option maxHeartbeats 400000 in
set_option maxRecDepth 100000 in
theorem text_any (s : ByteArray) (w : World) (hs : s.size ≤ 1073741824) :
    Calls Try.prog 62 #[.string s] w fun e w' => e = .returned (.string ⟨(Cw.text s.data.toList).toArray⟩) ∧ Below w.heap.size w w' := by
  have hl := Cw.vint_len_10 s.size (by omega)
  go_enter Try.func62, Try.ntmps62
  go_wp2_with fail
  refine (uint_any _ _ (by omega) (by rw [Cw.m64]; omega)).mono ?_
  rintro e w1 ⟨rfl, hb⟩
  go_wp2
  go_ret
  exact ⟨by rw [append_str]; simp [Cw.text], hb⟩
theorem tupC {a u : Nat} {b n c er : Int} (h : Hid ((a, b, c) = (u, n, er))) :
    Ending.returned (.tuple #[.int .i64 a, .int .i64 b, .int .i64 c]) = .returned (.tuple #[.int .i64 u, .int .i64 n, .int .i64 er]) := by
  have h := h.out
  simp only [Prod.mk.injEq] at h
  obtain ⟨rfl, rfl, rfl⟩ := h
  rfl
/-- What TakeCount decides, with its tests in the walk's form. -/
theorem takeC_ok {l : List UInt8} {a most : Int} {u1 u : Nat} {n1 n er : Int} (e1 : Cw.takeU l a = (u1, n1, 0)) (hT : Hid (Cw.takeC l a most = (u, n, er))) :
    Hid ((if most < 0 ∨ most < u1 then (0, 0, 2) else if (l.length : Int) - n1 < u1 then (0, 0, 6) else (u1, n1, 0)) = (u, n, er)) := by
  have h := hT.out
  unfold Cw.takeC at h
  rw [e1] at h
  simp only [ne_eq, not_true_eq_false, if_false] at h
  exact h
theorem takeC_err {l : List UInt8} {a most : Int} {u : Nat} {e1 n er : Int} (h1 : Cw.takeU l a = (0, 0, e1)) (h2 : e1 = 1 ∨ e1 = 5 ∨ e1 = 6) (hT : Hid (Cw.takeC l a most = (u, n, er))) : Hid (((0, 0, e1) : Nat × Int × Int) = (u, n, er)) := by
  have h := hT.out
  unfold Cw.takeC at h
  rw [h1] at h
  simp only at h
  rw [if_pos (by omega)] at h
  exact h
/-- What TakeCount can give. -/
theorem takeC_cases (l : List UInt8) (a most : Int) : (∃ u n, Cw.takeC l a most = (u, n, 0) ∧ (u : Int) ≤ most ∧ 0 ≤ a ∧ a < n ∧ n + u ≤ l.length) ∨
    (∃ e : Int, Cw.takeC l a most = (0, 0, e) ∧ (e = 1 ∨ e = 5 ∨ e = 6 ∨ e = 2)) := by
  unfold Cw.takeC
  rcases Cw.takeU_cases l a with ⟨u1, n1, e1, h1, h2, h3, h4, h5⟩ | ⟨e1, h1, h2⟩
  · rw [e1]
    simp only [ne_eq, not_true_eq_false, if_false]
    by_cases hlim : most < 0 ∨ most < u1
    · rw [if_pos hlim]; exact .inr ⟨2, rfl, by omega⟩
    · rw [if_neg hlim]
      by_cases htr : (l.length : Int) - n1 < u1
      · rw [if_pos htr]; exact .inr ⟨6, rfl, by omega⟩
      · rw [if_neg htr]; exact .inl ⟨u1, n1, rfl, by omega, h2, h3, by omega⟩
  · rw [h1]
    simp only
    rw [if_pos (by omega)]; exact .inr ⟨e1, rfl, by omega⟩
theorem extract_str (s : ByteArray) (i k : Nat) : s.extract i k = ⟨((s.data.toList.drop i).take (k - i)).toArray⟩ := by
  apply ByteArray.ext
  apply Array.ext'
  simp [Array.toList_extract, List.extract_eq_take_drop]
theorem tupT {a t : List UInt8} {b n c er : Int} (h : Hid ((a, b, c) = (t, n, er))) :
    Ending.returned (.tuple #[.string ⟨a.toArray⟩, .int .i64 b, .int .i64 c]) = .returned (.tuple #[.string ⟨t.toArray⟩, .int .i64 n, .int .i64 er]) := by
  have h := h.out
  simp only [Prod.mk.injEq] at h
  obtain ⟨rfl, rfl, rfl⟩ := h
  rfl
theorem xor_i64_nat (a : Nat) (ha : a < 9223372036854775808) : bits .xor .i64 (a : Int) 0 = a ∧ bits .xor .i64 (a : Int) (-1) = -(a : Int) - 1 := by
  have h1 : (BitVec.ofInt 64 (a : Int)).toNat = a := by
    rw [BitVec.ofInt_natCast, BitVec.toNat_ofNat]; exact Nat.mod_eq_of_lt (by omega)
  have h0 : BitVec.ofInt 64 (0 : Int) = 0#64 := by decide
  have hm : BitVec.ofInt 64 (-1 : Int) = BitVec.allOnes 64 := by decide
  constructor
  · show IntKind.i64.wrap ((BitVec.ofInt 64 (a : Int) ^^^ BitVec.ofInt 64 (0 : Int)).toNat : Int) = _
    rw [h0, BitVec.xor_zero, h1, IntKind.wrap_i64]
    omega
  · show IntKind.i64.wrap ((BitVec.ofInt 64 (a : Int) ^^^ BitVec.ofInt 64 (-1 : Int)).toNat : Int) = _
    rw [hm, BitVec.xor_allOnes, BitVec.toNat_not, h1, IntKind.wrap_i64]
    omega
theorem unfold_bits (u : Nat) (h : (u : Int) < Cw.M64) : bits .xor .i64 (wrap64 ((u : Int) / 2)) (wrap64 (-(wrap64 (bits .and .u64 u 1)))) = Cw.unfold u := by
  rw [Cw.m64] at h
  have e0 : bits .and .u64 (u : Int) 1 = (u : Int) % 2 := by
    have h := bits_and_u64_nat u 1 (by omega) (by omega)
    rw [Nat.and_one_is_mod] at h
    exact h.trans (by omega)
  have e1 : wrap64 ((u : Int) / 2) = ((u / 2 : Nat) : Int) := by rw [IntWalk.wrap64_in _ (by omega)]; omega
  have hx := xor_i64_nat (u / 2) (by omega)
  rw [e0, e1, IntWalk.wrap64_in ((u : Int) % 2) (by omega), IntWalk.wrap64_in _ (by omega)]
  unfold Cw.unfold
  by_cases h2 : u % 2 = 1
  · rw [if_pos h2, show -((u : Int) % 2) = -1 by omega]; exact hx.2
  · rw [if_neg h2, show -((u : Int) % 2) = 0 by omega]; exact hx.1

def takeIv (x : Nat × Int × Int) : Int × Int × Int := match x with | (u, n, e) => if e ≠ 0 then (0, 0, e) else (Cw.unfold u, n, 0)
/-- What TakeBool gives. -/
def takeB (l : List UInt8) (a : Int) : Bool × Int × Int :=
  if a < 0 ∨ (l.length : Int) < a then (false, 0, 1)
  else match l.drop a.toNat with
    | [] => (false, 0, 6)
    | c :: _ => if 1 < c.toNat then (false, 0, 5) else (c.toNat == 1, a + 1, 0)
end Go.Proofs.Ytknmjfojlnajjaa
