/- Walks of the package wire: the Take functions. -/
import Derived.Test.YtbiongfnbbnndaaWireA
set_option linter.unusedSimpArgs false
set_option linter.unusedVariables false
namespace Go.Proofs.Ytbiongfnbbnndaa
open Go.RowKit Go.PlainAid

/-- What is left of a string from byte k on. -/
def rest (s : ByteArray) (k : Nat) : List UInt8 := s.data.toList.drop k
theorem rest_cons (s : ByteArray) (k : Nat) (h : k < s.size) : rest s k = s[k] :: rest s (k + 1) := by
  unfold rest
  rw [List.drop_eq_getElem_cons (by simpa using h)]; rfl
theorem rest_nil (s : ByteArray) (k : Nat) (h : s.size ≤ k) : rest s k = [] := List.drop_of_length_le (by simpa using h)
theorem bt_eq (s : ByteArray) (k : Nat) (h : k < s.size) : bt s k = ((s[k]).toNat : Int) := (get_bt s k h).symm
/-- The accumulated number and the next seven bits. -/
theorem or_step (acc k : Nat) (c : Int) (hk : k < 10) (ha : acc < 128 ^ k) (hc0 : 0 ≤ c) (hc : c ≤ 255) (h9 : k = 9 → c ≤ 1) :
    ∀ p : Int, p = 2 ^ (7 * k) → bits .or .u64 acc (IntKind.u64.wrap (IntKind.u64.wrap (bits .and .u8 c 127) * p)) = ((acc + c.toNat % 128 * 128 ^ k : Nat) : Int) := by
  rintro p rfl
  obtain ⟨m, rfl⟩ := Int.eq_ofNat_of_zero_le hc0
  have hand : bits .and .u8 (m : Int) 127 = ((m % 128 : Nat) : Int) := by
    rw [show (127 : Int) = ((127 : Nat) : Int) by rfl, u8_and_nat _ _ (by omega) (by omega)]
    congr 1
    exact Nat.and_two_pow_sub_one_eq_mod m 7
  have hw : IntKind.u64.wrap ((m % 128 : Nat) : Int) = ((m % 128 : Nat) : Int) := u64_nonneg (by omega) (by omega)
  rw [hand, hw]
  have hp : (128 : Nat) ^ k = 2 ^ (7 * k) := by rw [show (128 : Nat) = 2 ^ 7 by rfl, ← Nat.pow_mul]
  have hlt : m % 128 * 2 ^ (7 * k) < 18446744073709551616 := by
    rw [← hp]
    by_cases h : k = 9
    · subst h
      have := h9 rfl
      have h1 : m % 128 * 128 ^ 9 ≤ 1 * 128 ^ 9 := Nat.mul_le_mul_right _ (by omega)
      have h2 : (128 : Nat) ^ 9 = 9223372036854775808 := by decide
      omega
    · have h1 : m % 128 * 128 ^ k ≤ 127 * 128 ^ 8 := Nat.mul_le_mul (by omega) (Nat.pow_le_pow_right (by omega) (by omega))
      have h2 : (128 : Nat) ^ 8 = 72057594037927936 := by decide
      omega
  have ha2 : acc < 18446744073709551616 := by
    have h1 : (128 : Nat) ^ k ≤ 128 ^ 9 := Nat.pow_le_pow_right (by omega) (by omega)
    have h2 : (128 : Nat) ^ 9 = 9223372036854775808 := by decide
    omega
  have hcast : ((m % 128 : Nat) : Int) * 2 ^ (7 * k) = ((m % 128 * 2 ^ (7 * k) : Nat) : Int) := by
    rw [Int.natCast_mul, Int.natCast_pow]; rfl
  rw [hcast, u64_nonneg (by omega) (by omega), u64_or_nat _ _ ha2 hlt]
  congr 1
  rw [Nat.or_comm, ← Nat.shiftLeft_eq, ← Nat.shiftLeft_add_eq_or_of_lt (by rw [← hp]; exact ha), Nat.shiftLeft_eq, ← hp, Nat.add_comm]
  simp

theorem retT {a b c a' b' c' : Value} (h1 : a = a') (h2 : b = b') (h3 : c = c') : Ending.returned (.tuple #[a, b, c]) = .returned (.tuple #[a', b', c']) := by rw [h1, h2, h3]
theorem tup3 {a u : Nat} {b n c er : Int} (h : Hid ((a, b, c) = (u, n, er))) :
    Ending.returned (.tuple #[.int .u64 a, .int .i64 b, .int .i64 c]) = .returned (.tuple #[.int .u64 u, .int .i64 n, .int .i64 er]) := by
  have h := h.out
  simp only [Prod.mk.injEq] at h
  obtain ⟨rfl, rfl, rfl⟩ := h
  rfl

theorem ret3 {a u b n c er : Int} (h1 : a = u) (h2 : b = n) (h3 : c = er) :
    Ending.returned (.tuple #[.int .u64 a, .int .i64 b, .int .i64 c]) = .returned (.tuple #[.int .u64 u, .int .i64 n, .int .i64 er]) := by
  rw [h1, h2, h3]

set_option maxHeartbeats 400000 in
set_option maxRecDepth 100000 in
theorem takeuint_big (s : ByteArray) (a : Int) (w : World) (hs : s.size ≤ 1125899906842624) (u : Nat) (n er : Int) (hT : Hid (Cw.takeU s.data.toList a = (u, n, er))) :
    Calls Try.prog 64 #[.string s, .int .i64 a] w fun e w' => e = .returned (.tuple #[.int .u64 u, .int .i64 n, .int .i64 er]) ∧ w = w' := by
  have hsz : s.data.toList.length = s.size := by simp
  by_cases ha : a < 0 ∨ (s.size : Int) < a
  · have hT' := hT.out
    rw [Cw.takeU_out (by rw [hsz]; exact ha)] at hT'
    clear hT
    simp only [Prod.mk.injEq] at hT'
    obtain ⟨rfl, rfl, rfl⟩ := hT'
    clear hsz
    go_enter Try.func64, Try.ntmps64
    go_wp2_with fail
    refine (outside_any _ _ _).mono ?_
    rintro e w' ⟨rfl, rfl⟩
    simp only [ha, decide_true]
    go_wp2
    go_ret3
    exact ⟨rfl, rfl⟩
  obtain ⟨at_, rfl⟩ := Int.eq_ofNat_of_zero_le (show 0 ≤ a by omega)
  have ha' : at_ ≤ s.size := by omega
  have hT' := hT.out
  rw [Cw.takeU_in (by omega)] at hT'
  have HT : Hid ((match Cw.vrun (rest s at_) 0 0 with
    | (u, n, 0) => (u, (at_ : Int) + n, 0)
    | (_, _, e) => (0, 0, (e : Int))) = (u, n, er)) := hT'
  clear hT hT' hsz ha
  go_enter Try.func64, Try.ntmps64
  go_wp2_with (go_at_call 79; refine (outside_any _ _ _).mono ?_; rintro e w' ⟨rfl, rfl⟩)
  go_loop [7, 13] (fun v i => ∃ k acc : Nat, k ≤ 10 ∧ i = .int .i64 k ∧ v = .int .u64 acc ∧ Hid (Cw.vrun (rest s at_) 0 0 = Cw.vrun (rest s (at_ + k)) k acc) ∧ Hid (acc < 128 ^ k)) (fun _ i => 10 - (intOf i).toNat)
  case atStart => exact ⟨0, 0, by omega, rfl, rfl, rfl, by show 0 < 128 ^ 0; omega⟩
  case round =>
    obtain ⟨k, acc, hk, rfl, rfl, hv, hacc⟩ := hrel
    by_cases hk10 : k < 10
    · by_cases hin : at_ + k < s.size
      · have hget := get_bt s
        have hb0 := bt_nonneg s (at_ + k)
        have hb1 := bt_le s (at_ + k)
        have hbt := Lib.hid (bt_eq s (at_ + k) hin)
        have hcons := Lib.hid (rest_cons s (at_ + k) hin)
        by_cases hbad : (k = 9 ∧ 1 < bt s (at_ + k)) ∨ (bt s (at_ + k) = 0 ∧ 0 < k)
        · have HT2 : Hid (((0, 0, 5) : Nat × Int × Int) = (u, n, er)) := by
            have h := HT.out
            rw [hv.out, hcons.out, Cw.vrun_bad hk10 (by rw [hbt.out] at hbad; omega)] at h
            exact h
          clear HT hbt hcons
          rcases hbad with ⟨hk9, hc⟩ | ⟨hc, hk0⟩
          · obtain rfl : k = 9 := hk9
            go_wp2
            all_goals go_ret3
            all_goals exact ⟨tup3 HT2, rfl⟩
          · by_cases hk9 : k = 9
            · subst hk9
              go_wp2
              all_goals go_ret3
              all_goals exact ⟨tup3 HT2, rfl⟩
            · have hk9' : ((k : Int) == 9) = false := by simp; omega
              go_wp2
              all_goals go_ret3
              all_goals exact ⟨tup3 HT2, rfl⟩
        · have hor := Lib.hid (or_step acc k (bt s (at_ + k)) hk10 hacc.out hb0 hb1 (fun h => by omega))
          have hcn : Hid ((bt s (at_ + k)).toNat = (s[at_ + k]).toNat) := by rw [bt_eq s (at_ + k) hin]; rfl
          have hcut : Hid (bt s (at_ + k) < 128 → u = acc + (bt s (at_ + k)).toNat % 128 * 128 ^ k ∧ n = (at_ : Int) + k + 1 ∧ er = 0) := fun hc => by
            have h := HT.out
            rw [hv.out, hcons.out, Cw.vrun_end hk10 (by rw [hbt.out] at hbad; omega) (by rw [hbt.out] at hc; omega)] at h
            simp only [Prod.mk.injEq] at h
            rw [hcn.out]
            exact ⟨h.1.symm, by have := h.2.1; push_cast at this; omega, h.2.2.symm⟩
          have hmore : Hid (128 ≤ bt s (at_ + k) → Cw.vrun (rest s at_) 0 0 = Cw.vrun (rest s (at_ + (k + 1))) (k + 1) (acc + (bt s (at_ + k)).toNat % 128 * 128 ^ k)) := fun hc => by
            rw [hv.out, hcons.out, Cw.vrun_more hk10 (by rw [hbt.out] at hbad; omega) (by rw [hbt.out] at hc; omega), hcn.out]; rfl
          have hacc' : Hid (acc + (bt s (at_ + k)).toNat % 128 * 128 ^ k < 128 ^ (k + 1)) := by
            have h1 : (bt s (at_ + k)).toNat % 128 * 128 ^ k ≤ 127 * 128 ^ k := Nat.mul_le_mul_right _ (by omega)
            have h2 := hacc.out
            show _ < _
            rw [Nat.pow_succ]; omega
          clear hbt hcons hcn HT hv hacc
          by_cases hk9 : k = 9
          · subst hk9
            have hc1 : bt s (at_ + 9) ≤ 1 := by omega
            have hc0 : (bt s (at_ + 9) == 0) = false := by simp; omega
            clear hbad
            go_wp2
            go_ret3
            exact ⟨ret3 ((hor.out _ (by decide)).trans (congrArg _ (hcut.out (by omega)).1.symm)) (by have := (hcut.out (by omega)).2.1; omega) (hcut.out (by omega)).2.2.symm, rfl⟩
          · have hk9' : ((k : Int) == 9) = false := by simp; omega
            by_cases hk0 : k ≤ 0
            · by_cases hcz : bt s (at_ + k) = 0
              · have hc0 : (bt s (at_ + k) == 0) = true := by simp; omega
                have hc : bt s (at_ + k) < 128 := by omega
                clear hbad hcz
                go_wp2
                go_ret3
                exact ⟨ret3 ((hor.out _ rfl).trans (congrArg _ (hcut.out hc).1.symm)) (by have := (hcut.out hc).2.1; omega) (hcut.out hc).2.2.symm, rfl⟩
              · have hc0 : (bt s (at_ + k) == 0) = false := by simp; omega
                clear hcz
                clear hbad
                by_cases hc : bt s (at_ + k) < 128
                · go_wp2
                  go_ret3
                  exact ⟨ret3 ((hor.out _ rfl).trans (congrArg _ (hcut.out hc).1.symm)) (by have := (hcut.out hc).2.1; omega) (hcut.out hc).2.2.symm, rfl⟩
                · go_wp2
                  go_round
                  case rel => exact ⟨k + 1, _, by omega, by go_num, by rw [hor.out _ rfl], hmore.out (by omega), hacc'⟩
                  case measure => simp [intOf]; omega
            · have hc0 : (bt s (at_ + k) == 0) = false := by simp; omega
              clear hbad
              by_cases hc : bt s (at_ + k) < 128
              · go_wp2
                go_ret3
                exact ⟨ret3 ((hor.out _ rfl).trans (congrArg _ (hcut.out hc).1.symm)) (by have := (hcut.out hc).2.1; omega) (hcut.out hc).2.2.symm, rfl⟩
              · go_wp2
                go_round
                case rel => exact ⟨k + 1, _, by omega, by go_num, by rw [hor.out _ rfl], hmore.out (by omega), hacc'⟩
                case measure => simp [intOf]; omega
      · have HT2 : Hid (((0, 0, 6) : Nat × Int × Int) = (u, n, er)) := by
          have h := HT.out
          rw [hv.out, rest_nil s (at_ + k) (by omega), Cw.vrun_nil hk10] at h
          exact h
        clear HT
        go_wp2
        go_ret3
        exact ⟨tup3 HT2, rfl⟩
    · obtain rfl : k = 10 := by omega
      have HT2 : Hid (((0, 0, 5) : Nat × Int × Int) = (u, n, er)) := by
        have h := HT.out
        rw [hv.out, Cw.vrun_ten] at h
        exact h
      clear HT
      go_wp2
      go_ret3
      exact ⟨tup3 HT2, rfl⟩

theorem takeuint_any (s : ByteArray) (a : Int) (w : World) (hs : s.size ≤ 1125899906842624) (u : Nat) (n er : Int) (hT : Hid (Cw.takeU s.data.toList a = (u, n, er))) :
    Calls Try.prog 64 #[.string s, .int .i64 a] w fun e w' => e = .returned (.tuple #[.int .u64 u, .int .i64 n, .int .i64 er]) ∧ w = w' :=
  takeuint_big s a w (by omega) u n er hT

theorem xor_ones (a : Nat) (h : a < 18446744073709551616) : a ^^^ 18446744073709551615 = 18446744073709551615 - a := by
  have h1 : (~~~(BitVec.ofNat 64 a)).toNat = 2 ^ 64 - 1 - (BitVec.ofNat 64 a).toNat := BitVec.toNat_not
  have h2 : ~~~(BitVec.ofNat 64 a) = (BitVec.ofNat 64 a) ^^^ BitVec.allOnes 64 := by rw [BitVec.xor_allOnes]
  rw [h2, BitVec.toNat_xor, BitVec.toNat_allOnes] at h1
  have h3 : (BitVec.ofNat 64 a).toNat = a := by simp; omega
  rw [h3] at h1
  exact h1

theorem fold_bits (m : Int) (h0 : -Cw.M63 ≤ m) (h1 : m < Cw.M63) :
    bits .xor .u64 (IntKind.u64.wrap (IntKind.u64.wrap m * 2)) (IntKind.u64.wrap (m / 9223372036854775808)) = (Cw.fold m : Int) := by
  rw [Cw.m63] at h0 h1
  unfold Cw.fold
  by_cases h : m < 0
  · rw [shr63_neg h (by omega), if_pos h]
    have e1 : IntKind.u64.wrap (-1) = ((18446744073709551615 : Nat) : Int) := by rw [IntKind.wrap_u64]; rfl
    have e2 : IntKind.u64.wrap (IntKind.u64.wrap m * 2) = ((2 * m + 18446744073709551616).toNat : Int) := by
      simp only [IntKind.wrap_u64]; omega
    rw [e1, e2, u64_xor_nat _ _ (by omega) (by omega), xor_ones _ (by omega)]
    omega
  · rw [shr63_nonneg (by omega) (by omega), if_neg h]
    have e1 : IntKind.u64.wrap 0 = ((0 : Nat) : Int) := by rw [IntKind.wrap_u64]; rfl
    have e2 : IntKind.u64.wrap (IntKind.u64.wrap m * 2) = ((2 * m).toNat : Int) := by
      simp only [IntKind.wrap_u64]; omega
    rw [e1, e2, u64_xor_nat _ _ (by omega) (by omega), Nat.xor_zero]

set_option maxHeartbeats 400000 in
theorem int_any (m : Int) (w : World) (h0 : -Cw.M63 ≤ m) (h1 : m < Cw.M63) :
    Calls Try.prog 72 #[.int .i64 m] w fun e w' => e = .returned (.string ⟨(Cw.vint (Cw.fold m)).toArray⟩) ∧ Below w.heap.size w w' := by
  have hf := Lib.hid (fold_bits m h0 h1)
  have hlt := Cw.fold_lt m h0 h1
  clear h0 h1
  go_enter Try.func72, Try.ntmps72
  go_wp2_with fail
  rw [hf.out]
  refine (uint_any _ _ (by omega) hlt).mono ?_
  rintro e w1 ⟨rfl, hb⟩
  go_wp2
  go_ret
  exact ⟨by simp, hb⟩
theorem append_str (l : List UInt8) (s : ByteArray) : (⟨l.toArray⟩ : ByteArray) ++ s = ⟨(l ++ s.data.toList).toArray⟩ := by
  apply ByteArray.ext; simp
set_option maxHeartbeats 400000 in
set_option maxRecDepth 100000 in
theorem text_any (s : ByteArray) (w : World) (hs : s.size ≤ 1125899906842624) :
    Calls Try.prog 73 #[.string s] w fun e w' => e = .returned (.string ⟨(Cw.text s.data.toList).toArray⟩) ∧ Below w.heap.size w w' := by
  have hl := Cw.vint_len_10 s.size (by omega)
  go_enter Try.func73, Try.ntmps73
  go_wp2_with fail
  refine (uint_any _ _ (by omega) (by rw [Cw.m64]; omega)).mono ?_
  rintro e w1 ⟨rfl, hb⟩
  go_wp2
  go_ret
  exact ⟨by rw [append_str]; simp [Cw.text], hb⟩
theorem tupC {a u : Nat} {b n c er : Int} (h : Hid ((a, b, c) = (u, n, er))) :
    Ending.returned (.tuple #[.int .i64 a, .int .i64 b, .int .i64 c]) = .returned (.tuple #[.int .i64 u, .int .i64 n, .int .i64 er]) := by
  have h := h.out
  simp only [Prod.mk.injEq] at h
  obtain ⟨rfl, rfl, rfl⟩ := h
  rfl
/-- What TakeCount decides, with its tests in the walk's form. -/
theorem takeC_ok {l : List UInt8} {a most : Int} {u1 u : Nat} {n1 n er : Int} (e1 : Cw.takeU l a = (u1, n1, 0)) (hT : Hid (Cw.takeC l a most = (u, n, er))) :
    Hid ((if most < 0 ∨ most < u1 then (0, 0, 2) else if (l.length : Int) - n1 < u1 then (0, 0, 6) else (u1, n1, 0)) = (u, n, er)) := by
  have h := hT.out
  unfold Cw.takeC at h
  rw [e1] at h
  simp only [ne_eq, not_true_eq_false, if_false] at h
  exact h
theorem takeC_err {l : List UInt8} {a most : Int} {u : Nat} {e1 n er : Int} (h1 : Cw.takeU l a = (0, 0, e1)) (h2 : e1 = 1 ∨ e1 = 5 ∨ e1 = 6) (hT : Hid (Cw.takeC l a most = (u, n, er))) : Hid (((0, 0, e1) : Nat × Int × Int) = (u, n, er)) := by
  have h := hT.out
  unfold Cw.takeC at h
  rw [h1] at h
  simp only at h
  rw [if_pos (by omega)] at h
  exact h
set_option maxHeartbeats 400000 in
set_option maxRecDepth 100000 in
theorem takecount_any (s : ByteArray) (a most : Int) (w : World) (hs : s.size ≤ 1125899906842624) (hm : most ≤ 9223372036854775807) (u : Nat) (n er : Int) (hT : Hid (Cw.takeC s.data.toList a most = (u, n, er))) :
    Calls Try.prog 43 #[.string s, .int .i64 a, .int .i64 most] w fun e w' => e = .returned (.tuple #[.int .i64 u, .int .i64 n, .int .i64 er]) ∧ w = w' := by
  rcases Cw.takeU_cases s.data.toList a with ⟨u1, n1, e1, h1, h2, h3, h4, h5⟩ | ⟨e1, h1, h2⟩
  · have HU := Lib.hid e1
    have HT := takeC_ok e1 hT
    have hlen : s.data.toList.length = s.size := by simp
    rw [hlen] at HT h5
    clear hT e1 hlen h1
    by_cases hlim : most < 0 ∨ most < u1
    · have HT2 : Hid (((0, 0, 2) : Nat × Int × Int) = (u, n, er)) := by have h := HT.out; rw [if_pos hlim] at h; exact h
      clear HT
      rcases hlim with hl | hl
      all_goals
        go_enter Try.func43, Try.ntmps43
        go_wp2_with fail
        refine (takeuint_any _ _ _ hs _ _ _ HU).mono ?_
        rintro e w' ⟨rfl, rfl⟩
        go_wp2
        all_goals go_ret3
        all_goals exact ⟨tupC HT2, rfl⟩
    · by_cases htr : (s.size : Int) - n1 < u1
      · have HT2 : Hid (((0, 0, 6) : Nat × Int × Int) = (u, n, er)) := by have h := HT.out; rw [if_neg hlim, if_pos htr] at h; exact h
        clear HT
        have hl1 : 0 ≤ most := by omega
        have hl2 : (u1 : Int) ≤ most := by omega
        clear hlim
        go_enter Try.func43, Try.ntmps43
        go_wp2_with fail
        refine (takeuint_any _ _ _ hs _ _ _ HU).mono ?_
        rintro e w' ⟨rfl, rfl⟩
        go_wp2
        all_goals go_ret3
        all_goals exact ⟨tupC HT2, rfl⟩
      · have HT2 : Hid (((u1, n1, 0) : Nat × Int × Int) = (u, n, er)) := by have h := HT.out; rw [if_neg hlim, if_neg htr] at h; exact h
        clear HT
        have hl1 : 0 ≤ most := by omega
        have hl2 : (u1 : Int) ≤ most := by omega
        clear hlim
        go_enter Try.func43, Try.ntmps43
        go_wp2_with fail
        refine (takeuint_any _ _ _ hs _ _ _ HU).mono ?_
        rintro e w' ⟨rfl, rfl⟩
        go_wp2
        all_goals go_ret3
        all_goals exact ⟨tupC HT2, rfl⟩
  · have HU := Lib.hid h1
    have HT := takeC_err h1 h2 hT
    clear hT h1
    have he : (e1 != 0) = true := by rw [bne_iff_ne]; omega
    clear h2
    go_enter Try.func43, Try.ntmps43
    go_wp2_with fail
    refine (takeuint_any _ _ _ hs _ _ _ HU).mono ?_
    rintro e w' ⟨rfl, rfl⟩
    go_wp2
    go_ret3
    exact ⟨tupC HT, rfl⟩
/-- What TakeCount can give. -/
theorem takeC_cases (l : List UInt8) (a most : Int) : (∃ u n, Cw.takeC l a most = (u, n, 0) ∧ (u : Int) ≤ most ∧ 0 ≤ a ∧ a < n ∧ n + u ≤ l.length) ∨
    (∃ e : Int, Cw.takeC l a most = (0, 0, e) ∧ (e = 1 ∨ e = 5 ∨ e = 6 ∨ e = 2)) := by
  unfold Cw.takeC
  rcases Cw.takeU_cases l a with ⟨u1, n1, e1, h1, h2, h3, h4, h5⟩ | ⟨e1, h1, h2⟩
  · rw [e1]
    simp only [ne_eq, not_true_eq_false, if_false]
    by_cases hlim : most < 0 ∨ most < u1
    · rw [if_pos hlim]; exact .inr ⟨2, rfl, by omega⟩
    · rw [if_neg hlim]
      by_cases htr : (l.length : Int) - n1 < u1
      · rw [if_pos htr]; exact .inr ⟨6, rfl, by omega⟩
      · rw [if_neg htr]; exact .inl ⟨u1, n1, rfl, by omega, h2, h3, by omega⟩
  · rw [h1]
    simp only
    rw [if_pos (by omega)]; exact .inr ⟨e1, rfl, by omega⟩
theorem extract_str (s : ByteArray) (i k : Nat) : s.extract i k = ⟨((s.data.toList.drop i).take (k - i)).toArray⟩ := by
  apply ByteArray.ext
  apply Array.ext'
  simp [Array.toList_extract, List.extract_eq_take_drop]
theorem tupT {a t : List UInt8} {b n c er : Int} (h : Hid ((a, b, c) = (t, n, er))) :
    Ending.returned (.tuple #[.string ⟨a.toArray⟩, .int .i64 b, .int .i64 c]) = .returned (.tuple #[.string ⟨t.toArray⟩, .int .i64 n, .int .i64 er]) := by
  have h := h.out
  simp only [Prod.mk.injEq] at h
  obtain ⟨rfl, rfl, rfl⟩ := h
  rfl
set_option maxHeartbeats 400000 in
set_option maxRecDepth 100000 in
theorem taketext_any (s : ByteArray) (a most : Int) (w : World) (hs : s.size ≤ 1125899906842624) (hm : most ≤ 9223372036854775807) (t : List UInt8) (n er : Int) (hT : Hid (Cw.takeT s.data.toList a most = (t, n, er))) :
    Calls Try.prog 89 #[.string s, .int .i64 a, .int .i64 most] w fun e w' => e = .returned (.tuple #[.string ⟨t.toArray⟩, .int .i64 n, .int .i64 er]) ∧ w = w' := by
  rcases takeC_cases s.data.toList a most with ⟨u1, n1, e1, h1, h2, h3, h4⟩ | ⟨e1, h1, h2⟩
  · have HC := Lib.hid e1
    have HT : Hid ((((s.data.toList.drop n1.toNat).take u1, n1 + u1, 0) : List UInt8 × Int × Int) = (t, n, er)) := by
      have h := hT.out
      unfold Cw.takeT at h
      rw [e1] at h
      simp only [ne_eq, not_true_eq_false, if_false] at h
      exact h
    have hlen : s.data.toList.length = s.size := by simp
    rw [hlen] at h4
    clear hT e1 hlen
    obtain ⟨n2, rfl⟩ := Int.eq_ofNat_of_zero_le (show 0 ≤ n1 by omega)
    have hb : n2 + u1 ≤ s.size := by omega
    clear h4
    go_enter Try.func89, Try.ntmps89
    go_wp2_with fail
    refine (takecount_any _ _ _ _ hs hm _ _ _ HC).mono ?_
    rintro e w' ⟨rfl, rfl⟩
    go_wp2
    go_ret3
    refine ⟨?_, rfl⟩
    have hx : s.extract n2 (n2 + u1) = ⟨((s.data.toList.drop (n2 : Int).toNat).take u1).toArray⟩ := by rw [extract_str]; simp
    have h := HT.out
    simp only [Prod.mk.injEq] at h
    exact retT (by rw [hx, h.1]; rfl) (congrArg _ h.2.1) (congrArg _ h.2.2)
  · have HC := Lib.hid h1
    have HT : Hid ((([], 0, e1) : List UInt8 × Int × Int) = (t, n, er)) := by
      have h := hT.out
      unfold Cw.takeT at h
      rw [h1] at h
      simp only at h
      rw [if_pos (by omega)] at h
      exact h
    have he : (e1 != 0) = true := by rw [bne_iff_ne]; omega
    clear hT h1 h2
    go_enter Try.func89, Try.ntmps89
    go_wp2_with fail
    refine (takecount_any _ _ _ _ hs hm _ _ _ HC).mono ?_
    rintro e w' ⟨rfl, rfl⟩
    go_wp2
    go_ret3
    exact ⟨tupT HT, rfl⟩

theorem xor_i64_nat (a : Nat) (ha : a < 9223372036854775808) : bits .xor .i64 (a : Int) 0 = a ∧ bits .xor .i64 (a : Int) (-1) = -(a : Int) - 1 := by
  have h1 : (BitVec.ofInt 64 (a : Int)).toNat = a := by
    rw [BitVec.ofInt_natCast, BitVec.toNat_ofNat]; exact Nat.mod_eq_of_lt (by omega)
  have h0 : BitVec.ofInt 64 (0 : Int) = 0#64 := by decide
  have hm : BitVec.ofInt 64 (-1 : Int) = BitVec.allOnes 64 := by decide
  constructor
  · show IntKind.i64.wrap ((BitVec.ofInt 64 (a : Int) ^^^ BitVec.ofInt 64 (0 : Int)).toNat : Int) = _
    rw [h0, BitVec.xor_zero, h1, IntKind.wrap_i64]
    omega
  · show IntKind.i64.wrap ((BitVec.ofInt 64 (a : Int) ^^^ BitVec.ofInt 64 (-1 : Int)).toNat : Int) = _
    rw [hm, BitVec.xor_allOnes, BitVec.toNat_not, h1, IntKind.wrap_i64]
    omega
theorem unfold_bits (u : Nat) (h : (u : Int) < Cw.M64) : bits .xor .i64 (wrap64 ((u : Int) / 2)) (wrap64 (-(wrap64 (bits .and .u64 u 1)))) = Cw.unfold u := by
  rw [Cw.m64] at h
  have e0 : bits .and .u64 (u : Int) 1 = (u : Int) % 2 := by
    have h := bits_and_u64_nat u 1 (by omega) (by omega)
    rw [Nat.and_one_is_mod] at h
    exact h.trans (by omega)
  have e1 : wrap64 ((u : Int) / 2) = ((u / 2 : Nat) : Int) := by rw [IntWalk.wrap64_in _ (by omega)]; omega
  have hx := xor_i64_nat (u / 2) (by omega)
  rw [e0, e1, IntWalk.wrap64_in ((u : Int) % 2) (by omega), IntWalk.wrap64_in _ (by omega)]
  unfold Cw.unfold
  by_cases h2 : u % 2 = 1
  · rw [if_pos h2, show -((u : Int) % 2) = -1 by omega]; exact hx.2
  · rw [if_neg h2, show -((u : Int) % 2) = 0 by omega]; exact hx.1

def takeIv (x : Nat × Int × Int) : Int × Int × Int := match x with | (u, n, e) => if e ≠ 0 then (0, 0, e) else (Cw.unfold u, n, 0)
set_option maxHeartbeats 400000 in
set_option maxRecDepth 100000 in
theorem takeint_any (s : ByteArray) (a : Int) (w : World) (hs : s.size ≤ 1125899906842624) (u : Int) (n er : Int) (hT : Hid (takeIv (Cw.takeU s.data.toList a) = (u, n, er))) :
    Calls Try.prog 87 #[.string s, .int .i64 a] w fun e w' => e = .returned (.tuple #[.int .i64 u, .int .i64 n, .int .i64 er]) ∧ w = w' := by
  rcases Cw.takeU_cases s.data.toList a with ⟨u1, n1, e1, h1, h2, h3, h4, h5⟩ | ⟨e1, h1, h2⟩
  · have HU := Lib.hid e1
    have HT : Hid ((Cw.unfold u1, n1, 0) = (u, n, er)) := by
      have h := hT.out
      unfold takeIv at h
      rw [e1] at h
      simp only [ne_eq, not_true_eq_false, if_false] at h
      exact h
    have hx := Lib.hid (unfold_bits u1 h1)
    clear hT e1 h1
    go_enter Try.func87, Try.ntmps87
    go_wp2_with fail
    refine (takeuint_any _ _ _ hs _ _ _ HU).mono ?_
    rintro e w' ⟨rfl, rfl⟩
    go_wp2
    go_ret3
    have h := HT.out
    simp only [Prod.mk.injEq] at h
    exact ⟨retT (congrArg _ (hx.out.trans h.1)) (congrArg _ h.2.1) (congrArg _ h.2.2), rfl⟩
  · have HU := Lib.hid h1
    have HT : Hid (((0, 0, e1) : Int × Int × Int) = (u, n, er)) := by
      have h := hT.out
      unfold takeIv at h
      rw [h1] at h
      simp only at h
      rw [if_pos (by omega)] at h
      exact h
    have he : (e1 != 0) = true := by rw [bne_iff_ne]; omega
    clear hT h1 h2
    go_enter Try.func87, Try.ntmps87
    go_wp2_with fail
    refine (takeuint_any _ _ _ hs _ _ _ HU).mono ?_
    rintro e w' ⟨rfl, rfl⟩
    go_wp2
    go_ret3
    have h := HT.out
    simp only [Prod.mk.injEq] at h
    exact ⟨retT (congrArg _ h.1) (congrArg _ h.2.1) (congrArg _ h.2.2), rfl⟩

/-- What TakeBool gives. -/
def takeB (l : List UInt8) (a : Int) : Bool × Int × Int :=
  if a < 0 ∨ (l.length : Int) < a then (false, 0, 1)
  else match l.drop a.toNat with
    | [] => (false, 0, 6)
    | c :: _ => if 1 < c.toNat then (false, 0, 5) else (c.toNat == 1, a + 1, 0)
end Go.Proofs.Ytbiongfnbbnndaa
