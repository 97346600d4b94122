/- Plain laws on varints: lists of bytes and natural numbers; nothing of a program. -/
import Derived.Lib.Hide
set_option linter.unusedSimpArgs false
set_option linter.unusedVariables false
namespace Cw

/-- 2 to the 64th, behind a name. -/
def M64 : Int := 18446744073709551616
theorem m64 : M64 = 18446744073709551616 := rfl
def M63 : Int := 9223372036854775808
theorem m63 : M63 = 9223372036854775808 := rfl

/-- A fact kept from whoever looks into hypotheses. -/
structure Box (p : Prop) : Prop where
  out : p

/-- The byte of a truth value. -/
def boolB (b : Bool) : List UInt8 := if b then [1] else [0]

/-- The bytes of a varint. -/
def vint (n : Nat) : List UInt8 :=
  if n < 128 then [UInt8.ofNat n] else UInt8.ofNat (n % 128 + 128) :: vint (n / 128)
termination_by n
decreasing_by omega

theorem vint_lt {n : Nat} (h : n < 128) : vint n = [UInt8.ofNat n] := by rw [vint, if_pos h]
theorem vint_ge {n : Nat} (h : 128 ≤ n) : vint n = UInt8.ofNat (n % 128 + 128) :: vint (n / 128) := by rw [vint, if_neg (by omega)]

theorem vint_len_pos (n : Nat) : 0 < (vint n).length := by
  by_cases h : n < 128
  · rw [vint_lt h]; simp
  · rw [vint_ge (by omega)]; simp

theorem vint_len_le (k : Nat) : ∀ n, n < 128 ^ (k + 1) → (vint n).length ≤ k + 1 := by
  induction k with
  | zero => intro n h; rw [vint_lt (by omega)]; simp
  | succ k ih =>
    intro n h
    by_cases h1 : n < 128
    · rw [vint_lt h1]; simp
    · rw [vint_ge (by omega)]
      have := ih (n / 128) (by rw [Nat.div_lt_iff_lt_mul (by omega)]; rw [← Nat.pow_succ]; exact h)
      simp; omega

theorem vint_len_10 (n : Nat) (h : n < 18446744073709551616) : (vint n).length ≤ 10 :=
  vint_len_le 9 n (by have : (128 : Nat) ^ (9 + 1) = 1180591620717411303424 := by decide
                      omega)

theorem vint_mono : ∀ (a b : Nat), a ≤ b → (vint a).length ≤ (vint b).length := by
  intro a
  induction a using Nat.strongRecOn with
  | _ a ih =>
    intro b h
    by_cases h1 : a < 128
    · rw [vint_lt h1]
      have := vint_len_pos b
      simp; omega
    · rw [vint_ge (by omega), vint_ge (n := b) (by omega)]
      have := ih (a / 128) (by omega) (b / 128) (by omega)
      simp; omega

/-- What decoding gives: the number, how many bytes it took, the error (0: none, 5: malformed, 6: cut off). -/
def vrun : List UInt8 → Nat → Nat → Nat × Nat × Nat
  | [], k, _ => if k = 10 then (0, 0, 5) else (0, 0, 6)
  | c :: r, k, acc =>
    if k = 10 then (0, 0, 5)
    else if (k = 9 ∧ 1 < c.toNat) ∨ (c.toNat = 0 ∧ 0 < k) then (0, 0, 5)
    else if c.toNat < 128 then (acc + c.toNat % 128 * 128 ^ k, k + 1, 0)
    else vrun r (k + 1) (acc + c.toNat % 128 * 128 ^ k)

theorem vrun_nil {k acc : Nat} (hk : k < 10) : vrun [] k acc = (0, 0, 6) := by
  rw [vrun, if_neg (by omega)]
theorem vrun_bad {c : UInt8} {r : List UInt8} {k acc : Nat} (hk : k < 10) (h : (k = 9 ∧ 1 < c.toNat) ∨ (c.toNat = 0 ∧ 0 < k)) : vrun (c :: r) k acc = (0, 0, 5) := by
  rw [vrun, if_neg (by omega), if_pos h]
theorem vrun_end {c : UInt8} {r : List UInt8} {k acc : Nat} (hk : k < 10) (h : ¬((k = 9 ∧ 1 < c.toNat) ∨ (c.toNat = 0 ∧ 0 < k))) (hc : c.toNat < 128) :
    vrun (c :: r) k acc = (acc + c.toNat % 128 * 128 ^ k, k + 1, 0) := by
  rw [vrun, if_neg (by omega), if_neg h, if_pos hc]
theorem vrun_more {c : UInt8} {r : List UInt8} {k acc : Nat} (hk : k < 10) (h : ¬((k = 9 ∧ 1 < c.toNat) ∨ (c.toNat = 0 ∧ 0 < k))) (hc : ¬ c.toNat < 128) :
    vrun (c :: r) k acc = vrun r (k + 1) (acc + c.toNat % 128 * 128 ^ k) := by
  rw [vrun, if_neg (by omega), if_neg h, if_neg hc]
theorem vrun_ten (l : List UInt8) (acc : Nat) : vrun l 10 acc = (0, 0, 5) := by
  cases l <;> rw [vrun, if_pos rfl]

/-- Decoding at a place: offset and error as the program gives them (1: a bad argument). -/
def takeU (l : List UInt8) (at_ : Int) : Nat × Int × Int :=
  if at_ < 0 ∨ (l.length : Int) < at_ then (0, 0, 1)
  else match vrun (l.drop at_.toNat) 0 0 with
    | (u, n, 0) => (u, at_ + n, 0)
    | (_, _, e) => (0, 0, e)

theorem takeU_out {l : List UInt8} {a : Int} (h : a < 0 ∨ (l.length : Int) < a) : takeU l a = (0, 0, 1) := by rw [takeU, if_pos h]
theorem takeU_in {l : List UInt8} {a : Nat} (h : a ≤ l.length) : takeU l a = match vrun (l.drop a) 0 0 with
    | (u, n, 0) => (u, (a : Int) + n, 0)
    | (_, _, e) => (0, 0, (e : Int)) := by
  rw [takeU, if_neg (by omega)]; simp

/-- The zigzag number. -/
def fold (n : Int) : Nat := if n < 0 then (-2 * n - 1).toNat else (2 * n).toNat
def unfold (u : Nat) : Int := if u % 2 = 1 then -((u / 2 : Nat) : Int) - 1 else ((u / 2 : Nat) : Int)
theorem unfold_fold (n : Int) : unfold (fold n) = n := by unfold unfold fold; split <;> split <;> omega
theorem fold_unfold (u : Nat) : fold (unfold u) = u := by unfold unfold fold; split <;> split <;> omega
theorem fold_lt (n : Int) (h0 : -M63 ≤ n) (h1 : n < M63) : (fold n : Int) < M64 := by
  unfold fold; rw [m63] at *; rw [m64]; split <;> omega
theorem unfold_in (u : Nat) (h : (u : Int) < M64) : -M63 ≤ unfold u ∧ unfold u < M63 := by
  unfold unfold; rw [m64] at h; rw [m63]; split <;> omega

/-- The length and the bytes. -/
def text (l : List UInt8) : List UInt8 := vint l.length ++ l

/-- A number that is at most 'most' and at most the number of bytes behind it. -/
def takeC (l : List UInt8) (a most : Int) : Nat × Int × Int :=
  match takeU l a with
  | (u, n, e) => if e ≠ 0 then (0, 0, e) else if most < 0 ∨ most < u then (0, 0, 2) else if (l.length : Int) - n < u then (0, 0, 6) else (u, n, 0)
/-- A string of at most 'most' bytes. -/
def takeT (l : List UInt8) (a most : Int) : List UInt8 × Int × Int :=
  match takeC l a most with
  | (u, n, e) => if e ≠ 0 then ([], 0, e) else ((l.drop n.toNat).take u, n + u, 0)

theorem vrun_shape (l : List UInt8) : ∀ k acc, k ≤ 10 → acc < 128 ^ k →
    (∃ u n, vrun l k acc = (u, n, 0) ∧ u < 18446744073709551616 ∧ k < n ∧ n ≤ k + l.length ∧ n ≤ 10) ∨ vrun l k acc = (0, 0, 5) ∨ vrun l k acc = (0, 0, 6) := by
  induction l with
  | nil =>
    intro k acc hk _
    by_cases h : k = 10
    · subst h; right; left; exact vrun_ten _ _
    · right; right; exact vrun_nil (by omega)
  | cons c r ih =>
    intro k acc hk ha
    by_cases h : k = 10
    · subst h; right; left; exact vrun_ten _ _
    · have hk' : k < 10 := by omega
      by_cases hb : (k = 9 ∧ 1 < c.toNat) ∨ (c.toNat = 0 ∧ 0 < k)
      · right; left; exact vrun_bad hk' hb
      · have hm : c.toNat % 128 < 128 := Nat.mod_lt _ (by omega)
        have hn : acc + c.toNat % 128 * 128 ^ k < 128 ^ (k + 1) := by
          have h1 : c.toNat % 128 * 128 ^ k ≤ 127 * 128 ^ k := Nat.mul_le_mul_right _ (by omega)
          rw [Nat.pow_succ]; omega
        by_cases hc : c.toNat < 128
        · left
          refine ⟨_, _, vrun_end hk' hb hc, ?_, by omega, by simp, by omega⟩
          by_cases h9 : k = 9
          · subst h9
            have h1 : c.toNat % 128 ≤ 1 := by omega
            have h2 : c.toNat % 128 * 128 ^ 9 ≤ 1 * 128 ^ 9 := Nat.mul_le_mul_right _ h1
            have h3 : (128 : Nat) ^ 9 = 9223372036854775808 := by decide
            omega
          · have h1 : (128 : Nat) ^ (k + 1) ≤ 128 ^ 9 := Nat.pow_le_pow_right (by omega) (by omega)
            have h3 : (128 : Nat) ^ 9 = 9223372036854775808 := by decide
            omega
        · rw [vrun_more hk' hb hc]
          rcases ih (k + 1) _ (by omega) hn with ⟨u, n, e, h1, h2, h3, h4⟩ | e
          · left; exact ⟨u, n, e, h1, by omega, by simp; omega, h4⟩
          · right; exact e

theorem takeU_cases (l : List UInt8) (a : Int) : (∃ u n, takeU l a = (u, n, 0) ∧ (u : Int) < M64 ∧ 0 ≤ a ∧ a < n ∧ n ≤ a + 10 ∧ n ≤ l.length) ∨
    (∃ e : Int, takeU l a = (0, 0, e) ∧ (e = 1 ∨ e = 5 ∨ e = 6)) := by
  by_cases h : a < 0 ∨ (l.length : Int) < a
  · exact .inr ⟨1, takeU_out h, .inl rfl⟩
  · obtain ⟨m, rfl⟩ := Int.eq_ofNat_of_zero_le (show 0 ≤ a by omega)
    have hm : m ≤ l.length := by omega
    rw [takeU_in hm]
    rcases vrun_shape (l.drop m) 0 0 (by omega) (by decide) with ⟨u, n, e, h1, h2, h3, h4⟩ | e | e
    · left
      rw [e]
      simp only [List.length_drop] at h3
      exact ⟨u, (m : Int) + n, rfl, by rw [m64]; omega, by omega, by omega, by omega, by omega⟩
    · right; rw [e]; exact ⟨5, rfl, .inr (.inl rfl)⟩
    · right; rw [e]; exact ⟨6, rfl, .inr (.inr rfl)⟩

/-- The accumulator is added at the end. -/
theorem vrun_acc (l : List UInt8) : ∀ k acc, k ≤ 10 → vrun l k acc = match vrun l k 0 with
    | (u, n, 0) => (acc + u, n, 0)
    | (_, _, e) => (0, 0, e) := by
  induction l with
  | nil =>
    intro k acc hk
    by_cases h : k = 10
    · subst h; simp [vrun_ten]
    · simp [vrun_nil (show k < 10 by omega)]
  | cons c r ih =>
    intro k acc hk
    by_cases h : k = 10
    · subst h; simp [vrun_ten]
    · have hk' : k < 10 := by omega
      by_cases hb : (k = 9 ∧ 1 < c.toNat) ∨ (c.toNat = 0 ∧ 0 < k)
      · simp [vrun_bad hk' hb]
      · by_cases hc : c.toNat < 128
        · simp [vrun_end hk' hb hc]
        · rw [vrun_more hk' hb hc, vrun_more hk' hb hc, ih (k + 1) (acc + _) (by omega), ih (k + 1) (0 + _) (by omega)]
          rcases vrun r (k + 1) 0 with ⟨u, n, e⟩
          cases e <;> simp [Nat.add_assoc]

/-- What is encoded is decoded, whatever follows. -/
theorem vrun_vint (r : List UInt8) (u : Nat) : ∀ k acc, k < 10 → (k = 0 ∨ 0 < u) → u * 128 ^ k < 18446744073709551616 →
    vrun (vint u ++ r) k acc = (acc + u * 128 ^ k, k + (vint u).length, 0) := by
  induction u using Nat.strongRecOn with
  | _ u ih =>
    intro k acc hk h0 hu
    have h9 : k = 9 → u ≤ 1 := by
      intro h; subst h
      have h3 : (128 : Nat) ^ 9 = 9223372036854775808 := by decide
      rw [h3] at hu
      omega
    by_cases h : u < 128
    · rw [vint_lt h]
      have hc : (UInt8.ofNat u).toNat = u := by simp; omega
      rw [List.singleton_append, vrun_end hk (by rw [hc]; omega) (by omega), hc, Nat.mod_eq_of_lt h]
      simp
    · rw [vint_ge (by omega)]
      have hc : (UInt8.ofNat (u % 128 + 128)).toNat = u % 128 + 128 := by simp; omega
      have hk9 : k ≠ 9 := by intro h'; have := h9 h'; omega
      have hmod : (u % 128 + 128) % 128 = u % 128 := by omega
      rw [List.cons_append, vrun_more hk (by rw [hc]; omega) (by omega), hc, hmod]
      have hp : u = 128 * (u / 128) + u % 128 := by omega
      have hle : u / 128 * 128 ^ (k + 1) ≤ u * 128 ^ k := by
        rw [Nat.pow_succ, ← Nat.mul_assoc, Nat.mul_right_comm]
        exact Nat.mul_le_mul_right _ (by omega)
      rw [ih (u / 128) (by omega) (k + 1) _ (by omega) (by omega) (by omega)]
      have he : u * 128 ^ k = u % 128 * 128 ^ k + u / 128 * 128 ^ (k + 1) := by
        rw [Nat.pow_succ]
        calc u * 128 ^ k = (128 * (u / 128) + u % 128) * 128 ^ k := by rw [← hp]
          _ = _ := by rw [Nat.add_mul, Nat.add_comm, Nat.mul_comm 128, Nat.mul_assoc, Nat.mul_comm (128 ^ k) 128]
      rw [he]
      simp [Nat.add_assoc, Nat.add_comm]

/-- An accepted string is the encoding of its number. -/
theorem vrun_is_vint (l : List UInt8) : ∀ k u n, k < 10 → vrun l k 0 = (u, n, 0) → ∃ v, u = v * 128 ^ k ∧ (0 < k → 0 < v) ∧ vint v = l.take (n - k) ∧ k < n ∧ n - k ≤ l.length := by
  induction l with
  | nil => intro k u n hk h; rw [vrun_nil hk] at h; simp at h
  | cons c r ih =>
    intro k u n hk h
    by_cases hb : (k = 9 ∧ 1 < c.toNat) ∨ (c.toNat = 0 ∧ 0 < k)
    · rw [vrun_bad hk hb] at h; simp at h
    · by_cases hc : c.toNat < 128
      · rw [vrun_end hk hb hc] at h
        simp only [Prod.mk.injEq, and_true] at h
        obtain ⟨h1, h2⟩ := h
        refine ⟨c.toNat, ?_, by omega, ?_, by omega, by simp; omega⟩
        · rw [← h1, Nat.mod_eq_of_lt hc]; simp
        · rw [vint_lt hc, ← h2, show k + 1 - k = 1 by omega]; simp
      · rw [vrun_more hk hb hc] at h
        by_cases hk1 : k + 1 = 10
        · rw [hk1, vrun_ten] at h; simp at h
        · rw [vrun_acc r (k + 1) _ (by omega)] at h
          rcases hv : vrun r (k + 1) 0 with ⟨u', n', e⟩
          rw [hv] at h
          cases e with
          | succ e => simp at h
          | zero =>
            simp only [Prod.mk.injEq, and_true] at h
            obtain ⟨h1, h2⟩ := h
            subst h2
            obtain ⟨v, hu, hpos, hvint, hn, hlen⟩ := ih (k + 1) u' n' (by omega) hv
            have hvp := hpos (by omega)
            have hcl : c.toNat < 256 := c.toNat_lt
            refine ⟨v * 128 + c.toNat % 128, ?_, by omega, ?_, by omega, by simp; omega⟩
            · rw [← h1, hu, Nat.pow_succ, Nat.add_mul, Nat.add_comm, Nat.mul_comm (128 ^ k) 128, Nat.mul_assoc]
              simp
            · rw [vint_ge (by omega), show (v * 128 + c.toNat % 128) / 128 = v by omega, show (v * 128 + c.toNat % 128) % 128 = c.toNat % 128 by omega, hvint,
                show n' - k = (n' - (k + 1)) + 1 by omega, List.take_succ_cons]
              congr 1
              apply UInt8.toNat_inj.1
              simp; omega

/-- What is cut off from an encoding is truncated. -/
theorem vrun_prefix (u : Nat) : ∀ k i acc, k < 10 → (k = 0 ∨ 0 < u) → u * 128 ^ k < 18446744073709551616 → i < (vint u).length → vrun ((vint u).take i) k acc = (0, 0, 6) := by
  induction u using Nat.strongRecOn with
  | _ u ih =>
    intro k i acc hk h0 hu hi
    have h9 : k = 9 → u ≤ 1 := by
      intro h; subst h
      have h3 : (128 : Nat) ^ 9 = 9223372036854775808 := by decide
      rw [h3] at hu
      omega
    cases i with
    | zero => exact vrun_nil hk
    | succ i =>
      by_cases h : u < 128
      · rw [vint_lt h] at hi; simp at hi
      · have hge : 128 ≤ u := by omega
        rw [vint_ge hge] at hi ⊢
        have hc : (UInt8.ofNat (u % 128 + 128)).toNat = u % 128 + 128 := by simp; omega
        simp only [List.length_cons] at hi
        have hk9 : k ≠ 9 := by intro h'; have := h9 h'; omega
        rw [List.take_succ_cons, vrun_more hk (by rw [hc]; omega) (by omega)]
        have hle : u / 128 * 128 ^ (k + 1) ≤ u * 128 ^ k := by
          rw [Nat.pow_succ, ← Nat.mul_assoc, Nat.mul_right_comm]
          exact Nat.mul_le_mul_right _ (by omega)
        exact ih (u / 128) (by omega) (k + 1) i _ (by omega) (by omega) (by omega) (by omega)

theorem vint_300 : vint 300 = [172, 2] := by rw [vint_ge (by decide), vint_lt (by decide)]; rfl
theorem vint_5 : vint 5 = [5] := by rw [vint_lt (by decide)]; rfl
theorem vint_2 : vint 2 = [2] := by rw [vint_lt (by decide)]; rfl
theorem ex1 : takeU [128] 0 = (0, 0, 6) := by decide
theorem ex2 : takeU [128, 0] 0 = (0, 0, 5) := by decide
theorem ex3 : takeT [2, 97, 98] 0 1 = ([], 0, 2) := by decide
theorem ex4 : takeU [120, 172, 2, 121] 1 = (300, 3, 0) := by decide
end Cw
