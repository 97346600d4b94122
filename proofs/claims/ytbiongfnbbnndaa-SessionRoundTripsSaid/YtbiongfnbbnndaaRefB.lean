/- Walks of the reference of layer 2. -/
import Derived.Test.YtbiongfnbbnndaaWireB
set_option linter.unusedSimpArgs false
set_option linter.unusedVariables false
namespace Go.Proofs.Ytbiongfnbbnndaa
open Go.RowKit Go.PlainAid

theorem convert_one (W : World) (g : Nat) (x : Int) (h : W.cell? ⟨g, 0, none⟩ = some (.int .u8 x)) (hx : 0 ≤ x) (hx1 : x ≤ 255) :
    (convert 24 9 (.slice (some ⟨g, 0, none⟩) 1 1)).run Try.prog W = .ok (.string ⟨#[UInt8.ofNat x.toNat]⟩) W := by
  have := run_convert_bytes_back (P := Try.prog) W 24 9 5 ⟨g, 0, none⟩ 1 [UInt8.ofNat x.toNat] Try.underlying24 Try.underlying5 Try.underlying9 ?_
  · exact this
  · intro j hj
    match j, hj with
    | 0, _ =>
      have e : ((UInt8.ofNat x.toNat).toNat : Int) = x := by simp; omega
      show W.cell? _ = some (.int .u8 ((UInt8.ofNat x.toNat).toNat : Int))
      rw [e]; exact h

set_option maxHeartbeats 400000 in
set_option maxRecDepth 100000 in
theorem ruint_any (u : Int) (w : World) (h0 : 0 ≤ u) (h1 : u < Cw.M64) :
    Calls Try.prog 51 #[.int .u64 u] w fun e w' => e = .returned (.string ⟨(Cw.vint u.toNat).toArray⟩) ∧ Below w.heap.size w w' := by
  obtain ⟨m0, rfl⟩ := Int.eq_ofNat_of_zero_le h0
  have hlen := Cw.vint_len_10 m0 (by have := Cw.m64; omega)
  have H1 := Cw.Box.mk h1
  clear h1
  go_enter Try.func51, Try.ntmps51
  go_wp2
  go_loopw [0, 3] (fun u b wr => ∃ (m : Nat) (l : List UInt8), u = .int .u64 m ∧ m ≤ m0 ∧ Hid (Cw.vint m0 = l ++ Cw.vint m) ∧ b = .string ⟨l.toArray⟩ ∧ Below w.heap.size w wr) (fun u _ _ => (intOf u).toNat)
  case atStart => exact ⟨m0, [], rfl, Nat.le_refl _, rfl, rfl, Below.refl _ _⟩
  case round =>
    obtain ⟨m, l, rfl, hm, hv, rfl, hbw⟩ := hrel
    have hl : l.length ≤ 10 := by have := congrArg List.length hv.out; simp at this; omega
    by_cases hlt : 128 ≤ m
    · have hc := convert_one (wr.alloc (.cells #[.int .u8 ((m : Int) % 128 + 128)] 5)) wr.heap.size ((m : Int) % 128 + 128) (World.cell?_alloc_at _ _ _ _ rfl) (by omega) (by omega)
      go_wp2
      have e1 : IntKind.u64.wrap ((m : Int) / 128) = ((m / 128 : Nat) : Int) := by have := H1.out; rw [Cw.m64] at this; rw [u64_nonneg (by omega) (by omega)]; omega
      rw [e1]
      refine ⟨⟨m / 128, l ++ [UInt8.ofNat (m % 128 + 128)], rfl, by omega, ?_, ?_, hbw.alloc hbw.size _⟩, by simp [intOf]; omega⟩
      · show Cw.vint m0 = _
        rw [hv.out, Cw.vint_ge hlt]; simp
      · rw [append_str, UInt8.ofNat_add]; rfl
    · have hc := convert_one (wr.alloc (.cells #[.int .u8 (m : Int)] 5)) wr.heap.size (m : Int) (World.cell?_alloc_at _ _ _ _ rfl) (by omega) (by omega)
      go_wp2
      go_ret
      refine ⟨?_, hbw.alloc hbw.size _⟩
      rw [Int.toNat_natCast, hv.out, Cw.vint_lt (by omega)]
      show Ending.returned (.string _) = _
      rw [append_str]
set_option maxHeartbeats 400000 in
set_option maxRecDepth 100000 in
theorem rfold_any (m : Int) (w : World) (h0 : -Cw.M63 ≤ m) (h1 : m < Cw.M63) :
    Calls Try.prog 93 #[.int .i64 m] w fun e w' => e = .returned (.int .u64 (Cw.fold m)) ∧ w = w' := by
  rw [Cw.m63] at h0 h1
  have hf : Hid ((m < 0 → (Cw.fold m : Int) = 2 * -(m + 1) + 1) ∧ (¬ m < 0 → (Cw.fold m : Int) = 2 * m)) := by
    unfold Cw.fold
    exact ⟨fun h => by rw [if_pos h]; omega, fun h => by rw [if_neg h]; omega⟩
  by_cases h : m < 0
  · go_enter Try.func93, Try.ntmps93
    go_wp2
    go_ret
    exact ⟨by rw [hf.out.1 h]; rfl, rfl⟩
  · go_enter Try.func93, Try.ntmps93
    go_wp2
    go_ret
    exact ⟨by rw [hf.out.2 h]; rfl, rfl⟩
set_option maxHeartbeats 400000 in
set_option maxRecDepth 100000 in
theorem runfold_any (u : Nat) (w : World) (h1 : (u : Int) < Cw.M64) :
    Calls Try.prog 94 #[.int .u64 u] w fun e w' => e = .returned (.int .i64 (Cw.unfold u)) ∧ w = w' := by
  rw [Cw.m64] at h1
  have hf : Hid ((((u : Int) % 2 == 1) = true → Cw.unfold u = -((u : Int) / 2) - 1) ∧ (((u : Int) % 2 == 1) = false → Cw.unfold u = (u : Int) / 2)) := by
    unfold Cw.unfold
    constructor
    · intro h; rw [beq_iff_eq] at h; rw [if_pos (by omega)]; omega
    · intro h; rw [beq_eq_false_iff_ne] at h; rw [if_neg (by omega)]; omega
  cases h : ((u : Int) % 2 == 1)
  · go_enter Try.func94, Try.ntmps94
    go_wp2
    go_ret
    exact ⟨by rw [hf.out.2 h]; rfl, rfl⟩
  · go_enter Try.func94, Try.ntmps94
    go_wp2
    go_ret
    exact ⟨by rw [hf.out.1 h]; rfl, rfl⟩

/-- The weight of a group of seven bits. -/
def wt (k : Nat) : Int := ((128 ^ k : Nat) : Int)
theorem wt_step (acc k : Nat) (c : Int) (hk : k < 10) (ha : acc < 128 ^ k) (hc0 : 0 ≤ c) (hc : c ≤ 255) (h9 : k = 9 → c ≤ 1) :
    IntKind.u64.wrap (acc + IntKind.u64.wrap (c % 128 * wt k)) = ((acc + c.toNat % 128 * 128 ^ k : Nat) : Int) := by
  obtain ⟨m, rfl⟩ := Int.eq_ofNat_of_zero_le hc0
  have hlt : m % 128 * 128 ^ k ≤ 9223372036854775808 := by
    by_cases h : k = 9
    · subst h
      have := h9 rfl
      have h1 : m % 128 * 128 ^ 9 ≤ 1 * 128 ^ 9 := Nat.mul_le_mul_right _ (by omega)
      have h2 : (128 : Nat) ^ 9 = 9223372036854775808 := by decide
      omega
    · have h1 : m % 128 * 128 ^ k ≤ 127 * 128 ^ 8 := Nat.mul_le_mul (by omega) (Nat.pow_le_pow_right (by omega) (by omega))
      have h2 : (128 : Nat) ^ 8 = 72057594037927936 := by decide
      omega
  have ha2 : acc < 9223372036854775808 := by
    have h1 : (128 : Nat) ^ k ≤ 128 ^ 9 := Nat.pow_le_pow_right (by omega) (by omega)
    have h2 : (128 : Nat) ^ 9 = 9223372036854775808 := by decide
    omega
  have hcast : ((m : Int) % 128) * wt k = ((m % 128 * 128 ^ k : Nat) : Int) := by unfold wt; rw [Int.natCast_mul]; rfl
  have e1 : IntKind.u64.wrap ((m % 128 * 128 ^ k : Nat) : Int) = ((m % 128 * 128 ^ k : Nat) : Int) := u64_nonneg (by omega) (by omega)
  rw [hcast, e1, u64_nonneg (by omega) (by omega), Int.toNat_natCast]
  rfl
theorem wt_next (k : Nat) (hk : k < 9) : IntKind.u64.wrap (wt k * 128) = wt (k + 1) := by
  have h1 : (128 : Nat) ^ k ≤ 128 ^ 8 := Nat.pow_le_pow_right (by omega) (by omega)
  have h2 : (128 : Nat) ^ 8 = 72057594037927936 := by decide
  have h3 : wt k * 128 = wt (k + 1) := by unfold wt; rw [Nat.pow_succ, Int.natCast_mul]; rfl
  have h4 : wt k * 128 ≤ 9223372036854775808 := by unfold wt; omega
  have h5 : 0 ≤ wt k * 128 := by unfold wt; exact Int.mul_nonneg (Int.natCast_nonneg _) (by omega)
  rw [u64_nonneg h5 (by omega), h3]

set_option maxHeartbeats 400000 in
set_option maxRecDepth 100000 in
theorem rtakeuint_any (s : ByteArray) (a : Int) (w : World) (hs : s.size ≤ 1125899906842624) (u : Nat) (n er : Int) (hT : Hid (Cw.takeU s.data.toList a = (u, n, er))) :
    Calls Try.prog 67 #[.string s, .int .i64 a] w fun e w' => e = .returned (.tuple #[.int .u64 u, .int .i64 n, .int .i64 er]) ∧ w = w' := by
  have hsz : s.data.toList.length = s.size := by simp
  by_cases ha : a < 0 ∨ (s.size : Int) < a
  · have hT' := hT.out
    rw [Cw.takeU_out (by rw [hsz]; exact ha)] at hT'
    clear hT
    simp only [Prod.mk.injEq] at hT'
    obtain ⟨rfl, rfl, rfl⟩ := hT'
    clear hsz
    go_enter Try.func67, Try.ntmps67
    go_wp2
    all_goals go_ret3
    all_goals exact ⟨rfl, rfl⟩
  obtain ⟨at_, rfl⟩ := Int.eq_ofNat_of_zero_le (show 0 ≤ a by omega)
  have ha' : at_ ≤ s.size := by omega
  have hT' := hT.out
  rw [Cw.takeU_in (by omega)] at hT'
  have HT : Hid ((match Cw.vrun (rest s at_) 0 0 with
    | (u, n, 0) => (u, (at_ : Int) + n, 0)
    | (_, _, e) => (0, 0, (e : Int))) = (u, n, er)) := hT'
  clear hT hT' hsz ha
  go_enter Try.func67, Try.ntmps67
  go_wp2
  go_loop [7, 8, 9] (fun v x i => ∃ k acc : Nat, k ≤ 9 ∧ i = .int .i64 k ∧ v = .int .u64 acc ∧ x = .int .u64 (wt k) ∧ Hid (Cw.vrun (rest s at_) 0 0 = Cw.vrun (rest s (at_ + k)) k acc) ∧ Hid (acc < 128 ^ k)) (fun _ _ i => 10 - (intOf i).toNat)
  case atStart => exact ⟨0, 0, by omega, rfl, rfl, rfl, rfl, by show 0 < 128 ^ 0; omega⟩
  case round =>
    obtain ⟨k, acc, hk, rfl, rfl, rfl, hv, hacc⟩ := hrel
    by_cases hk10 : k < 10
    · by_cases hin : at_ + k < s.size
      · have hget := get_bt s
        have hb0 := bt_nonneg s (at_ + k)
        have hb1 := bt_le s (at_ + k)
        have hbt := Lib.hid (bt_eq s (at_ + k) hin)
        have hcons := Lib.hid (rest_cons s (at_ + k) hin)
        by_cases hbad : (k = 9 ∧ 1 < bt s (at_ + k)) ∨ (bt s (at_ + k) = 0 ∧ 0 < k)
        · have HT2 : Hid (((0, 0, 5) : Nat × Int × Int) = (u, n, er)) := by
            have h := HT.out
            rw [hv.out, hcons.out, Cw.vrun_bad hk10 (by rw [hbt.out] at hbad; omega)] at h
            exact h
          clear HT hbt hcons
          rcases hbad with ⟨hk9, hc⟩ | ⟨hc, hk0⟩
          · obtain rfl : k = 9 := hk9
            go_wp2
            all_goals go_ret3
            all_goals exact ⟨tup3 HT2, rfl⟩
          · by_cases hk9 : k = 9
            · subst hk9
              go_wp2
              all_goals go_ret3
              all_goals exact ⟨tup3 HT2, rfl⟩
            · have hk9' : ((k : Int) == 9) = false := by simp; omega
              go_wp2
              all_goals go_ret3
              all_goals exact ⟨tup3 HT2, rfl⟩
        · have hor := Lib.hid (wt_step acc k (bt s (at_ + k)) hk10 hacc.out hb0 hb1 (fun h => by omega))
          have hcn : Hid ((bt s (at_ + k)).toNat = (s[at_ + k]).toNat) := by rw [bt_eq s (at_ + k) hin]; rfl
          have hcut : Hid (bt s (at_ + k) < 128 → u = acc + (bt s (at_ + k)).toNat % 128 * 128 ^ k ∧ n = (at_ : Int) + k + 1 ∧ er = 0) := fun hc => by
            have h := HT.out
            rw [hv.out, hcons.out, Cw.vrun_end hk10 (by rw [hbt.out] at hbad; omega) (by rw [hbt.out] at hc; omega)] at h
            simp only [Prod.mk.injEq] at h
            rw [hcn.out]
            exact ⟨h.1.symm, by have := h.2.1; push_cast at this; omega, h.2.2.symm⟩
          have hmore : Hid (128 ≤ bt s (at_ + k) → Cw.vrun (rest s at_) 0 0 = Cw.vrun (rest s (at_ + (k + 1))) (k + 1) (acc + (bt s (at_ + k)).toNat % 128 * 128 ^ k)) := fun hc => by
            rw [hv.out, hcons.out, Cw.vrun_more hk10 (by rw [hbt.out] at hbad; omega) (by rw [hbt.out] at hc; omega), hcn.out]; rfl
          have hacc' : Hid (acc + (bt s (at_ + k)).toNat % 128 * 128 ^ k < 128 ^ (k + 1)) := by
            have h1 : (bt s (at_ + k)).toNat % 128 * 128 ^ k ≤ 127 * 128 ^ k := Nat.mul_le_mul_right _ (by omega)
            have h2 := hacc.out
            show _ < _
            rw [Nat.pow_succ]; omega
          clear hbt hcons hcn HT hv hacc
          by_cases hk9 : k = 9
          · subst hk9
            have hc1 : bt s (at_ + 9) ≤ 1 := by omega
            have hc0 : (bt s (at_ + 9) == 0) = false := by simp; omega
            clear hbad
            go_wp2
            go_ret3
            exact ⟨ret3 ((hor.out).trans (congrArg _ (hcut.out (by omega)).1.symm)) (by have := (hcut.out (by omega)).2.1; omega) (hcut.out (by omega)).2.2.symm, rfl⟩
          · have hk9' : ((k : Int) == 9) = false := by simp; omega
            by_cases hk0 : k ≤ 0
            · by_cases hcz : bt s (at_ + k) = 0
              · have hc0 : (bt s (at_ + k) == 0) = true := by simp; omega
                have hc : bt s (at_ + k) < 128 := by omega
                clear hbad hcz
                go_wp2
                go_ret3
                exact ⟨ret3 ((hor.out).trans (congrArg _ (hcut.out hc).1.symm)) (by have := (hcut.out hc).2.1; omega) (hcut.out hc).2.2.symm, rfl⟩
              · have hc0 : (bt s (at_ + k) == 0) = false := by simp; omega
                clear hcz
                clear hbad
                by_cases hc : bt s (at_ + k) < 128
                · go_wp2
                  go_ret3
                  exact ⟨ret3 ((hor.out).trans (congrArg _ (hcut.out hc).1.symm)) (by have := (hcut.out hc).2.1; omega) (hcut.out hc).2.2.symm, rfl⟩
                · go_wp2
                  go_round
                  case rel => exact ⟨k + 1, _, by omega, by go_num, by rw [hor.out], by rw [wt_next k (by omega)], hmore.out (by omega), hacc'⟩
                  case measure => simp [intOf]; omega
            · have hc0 : (bt s (at_ + k) == 0) = false := by simp; omega
              clear hbad
              by_cases hc : bt s (at_ + k) < 128
              · go_wp2
                go_ret3
                exact ⟨ret3 ((hor.out).trans (congrArg _ (hcut.out hc).1.symm)) (by have := (hcut.out hc).2.1; omega) (hcut.out hc).2.2.symm, rfl⟩
              · go_wp2
                go_round
                case rel => exact ⟨k + 1, _, by omega, by go_num, by rw [hor.out], by rw [wt_next k (by omega)], hmore.out (by omega), hacc'⟩
                case measure => simp [intOf]; omega
      · have HT2 : Hid (((0, 0, 6) : Nat × Int × Int) = (u, n, er)) := by
          have h := HT.out
          rw [hv.out, rest_nil s (at_ + k) (by omega), Cw.vrun_nil hk10] at h
          exact h
        clear HT
        go_wp2
        go_ret3
        exact ⟨tup3 HT2, rfl⟩
    · obtain rfl : k = 10 := by omega
      have HT2 : Hid (((0, 0, 5) : Nat × Int × Int) = (u, n, er)) := by
        have h := HT.out
        rw [hv.out, Cw.vrun_ten] at h
        exact h
      clear HT
      go_wp2
      go_ret3
      exact ⟨tup3 HT2, rfl⟩

set_option maxHeartbeats 400000 in
set_option maxRecDepth 100000 in
theorem rint_any (m : Int) (w : World) (h0 : -Cw.M63 ≤ m) (h1 : m < Cw.M63) :
    Calls Try.prog 83 #[.int .i64 m] w fun e w' => e = .returned (.string ⟨(Cw.vint (Cw.fold m)).toArray⟩) ∧ Below w.heap.size w w' := by
  have hlt := Cw.fold_lt m h0 h1
  have H0 := Lib.hid h0
  have H1 := Lib.hid h1
  clear h0 h1
  go_enter Try.func83, Try.ntmps83
  go_wp2_with fail
  refine (rfold_any _ _ H0.out H1.out).mono ?_
  rintro e w1 ⟨rfl, rfl⟩
  go_wp2_with fail
  refine (ruint_any _ _ (by omega) hlt).mono ?_
  rintro e w1 ⟨rfl, hb⟩
  go_wp2
  go_ret
  exact ⟨by simp, hb⟩
set_option maxHeartbeats 400000 in
set_option maxRecDepth 100000 in
theorem rtext_any (s : ByteArray) (w : World) (hs : s.size ≤ 1125899906842624) :
    Calls Try.prog 84 #[.string s] w fun e w' => e = .returned (.string ⟨(Cw.text s.data.toList).toArray⟩) ∧ Below w.heap.size w w' := by
  have hl := Cw.vint_len_10 s.size (by omega)
  go_enter Try.func84, Try.ntmps84
  go_wp2_with fail
  refine (ruint_any _ _ (by omega) (by rw [Cw.m64]; omega)).mono ?_
  rintro e w1 ⟨rfl, hb⟩
  go_wp2
  go_ret
  exact ⟨by rw [append_str]; simp [Cw.text], hb⟩
set_option maxHeartbeats 400000 in
set_option maxRecDepth 100000 in
theorem rtakecount_any (s : ByteArray) (a most : Int) (w : World) (hs : s.size ≤ 1125899906842624) (hm : most ≤ 9223372036854775807) (u : Nat) (n er : Int) (hT : Hid (Cw.takeC s.data.toList a most = (u, n, er))) :
    Calls Try.prog 45 #[.string s, .int .i64 a, .int .i64 most] w fun e w' => e = .returned (.tuple #[.int .i64 u, .int .i64 n, .int .i64 er]) ∧ w = w' := by
  rcases Cw.takeU_cases s.data.toList a with ⟨u1, n1, e1, h1, h2, h3, h4, h5⟩ | ⟨e1, h1, h2⟩
  · have HU := Lib.hid e1
    have HT := takeC_ok e1 hT
    have hlen : s.data.toList.length = s.size := by simp
    rw [hlen] at HT h5
    clear hT e1 hlen h1
    by_cases hlim : most < 0 ∨ most < u1
    · have HT2 : Hid (((0, 0, 2) : Nat × Int × Int) = (u, n, er)) := by have h := HT.out; rw [if_pos hlim] at h; exact h
      clear HT
      rcases hlim with hl | hl
      all_goals
        go_enter Try.func45, Try.ntmps45
        go_wp2_with fail
        refine (rtakeuint_any _ _ _ hs _ _ _ HU).mono ?_
        rintro e w' ⟨rfl, rfl⟩
        go_wp2
        all_goals go_ret3
        all_goals exact ⟨tupC HT2, rfl⟩
    · by_cases htr : (s.size : Int) - n1 < u1
      · have HT2 : Hid (((0, 0, 6) : Nat × Int × Int) = (u, n, er)) := by have h := HT.out; rw [if_neg hlim, if_pos htr] at h; exact h
        clear HT
        have hl1 : 0 ≤ most := by omega
        have hl2 : (u1 : Int) ≤ most := by omega
        clear hlim
        go_enter Try.func45, Try.ntmps45
        go_wp2_with fail
        refine (rtakeuint_any _ _ _ hs _ _ _ HU).mono ?_
        rintro e w' ⟨rfl, rfl⟩
        go_wp2
        all_goals go_ret3
        all_goals exact ⟨tupC HT2, rfl⟩
      · have HT2 : Hid (((u1, n1, 0) : Nat × Int × Int) = (u, n, er)) := by have h := HT.out; rw [if_neg hlim, if_neg htr] at h; exact h
        clear HT
        have hl1 : 0 ≤ most := by omega
        have hl2 : (u1 : Int) ≤ most := by omega
        clear hlim
        go_enter Try.func45, Try.ntmps45
        go_wp2_with fail
        refine (rtakeuint_any _ _ _ hs _ _ _ HU).mono ?_
        rintro e w' ⟨rfl, rfl⟩
        go_wp2
        all_goals go_ret3
        all_goals exact ⟨tupC HT2, rfl⟩
  · have HU := Lib.hid h1
    have HT := takeC_err h1 h2 hT
    clear hT h1
    have he : (e1 != 0) = true := by rw [bne_iff_ne]; omega
    clear h2
    go_enter Try.func45, Try.ntmps45
    go_wp2_with fail
    refine (rtakeuint_any _ _ _ hs _ _ _ HU).mono ?_
    rintro e w' ⟨rfl, rfl⟩
    go_wp2
    go_ret3
    exact ⟨tupC HT, rfl⟩
set_option maxHeartbeats 400000 in
set_option maxRecDepth 100000 in
theorem rtaketext_any (s : ByteArray) (a most : Int) (w : World) (hs : s.size ≤ 1125899906842624) (hm : most ≤ 9223372036854775807) (t : List UInt8) (n er : Int) (hT : Hid (Cw.takeT s.data.toList a most = (t, n, er))) :
    Calls Try.prog 92 #[.string s, .int .i64 a, .int .i64 most] w fun e w' => e = .returned (.tuple #[.string ⟨t.toArray⟩, .int .i64 n, .int .i64 er]) ∧ w = w' := by
  rcases Cw.takeU_cases s.data.toList a with ⟨u1, n1, e1, h1, h2, h3, h4, h5⟩ | ⟨e1, h1, h2⟩
  · have HU := Lib.hid e1
    have HT : Hid ((if most < 0 ∨ most < u1 then ([], 0, 2) else if (s.size : Int) - n1 < u1 then ([], 0, 6) else ((s.data.toList.drop n1.toNat).take u1, n1 + u1, 0)) = (t, n, er)) := by
      have h := hT.out
      unfold Cw.takeT Cw.takeC at h
      rw [e1] at h
      have hlen : s.data.toList.length = s.size := by simp
      simp only [ne_eq, not_true_eq_false, if_false, hlen] at h
      show _ = _
      rw [← h]
      by_cases hl : most < 0 ∨ most < u1
      · simp only [if_pos hl]; rfl
      · simp only [if_neg hl]
        by_cases htr : (s.size : Int) - n1 < u1
        · simp only [if_pos htr]; rfl
        · simp only [if_neg htr]; rfl
    have hlen : s.data.toList.length = s.size := by simp
    rw [hlen] at h5
    clear hT e1 hlen h1
    by_cases hlim : most < 0 ∨ most < u1
    · have HT2 : Hid ((([], 0, 2) : List UInt8 × Int × Int) = (t, n, er)) := by have h := HT.out; rw [if_pos hlim] at h; exact h
      clear HT
      rcases hlim with hl | hl
      all_goals
        go_enter Try.func92, Try.ntmps92
        go_wp2_with fail
        refine (rtakeuint_any _ _ _ hs _ _ _ HU).mono ?_
        rintro e w' ⟨rfl, rfl⟩
        go_wp2
        all_goals go_ret3
        all_goals exact ⟨tupT HT2, rfl⟩
    · by_cases htr : (s.size : Int) - n1 < u1
      · have HT2 : Hid ((([], 0, 6) : List UInt8 × Int × Int) = (t, n, er)) := by have h := HT.out; rw [if_neg hlim, if_pos htr] at h; exact h
        clear HT
        have hl1 : 0 ≤ most := by omega
        have hl2 : (u1 : Int) ≤ most := by omega
        clear hlim
        go_enter Try.func92, Try.ntmps92
        go_wp2_with fail
        refine (rtakeuint_any _ _ _ hs _ _ _ HU).mono ?_
        rintro e w' ⟨rfl, rfl⟩
        go_wp2
        all_goals go_ret3
        all_goals exact ⟨tupT HT2, rfl⟩
      · have HT2 : Hid ((((s.data.toList.drop n1.toNat).take u1, n1 + u1, 0) : List UInt8 × Int × Int) = (t, n, er)) := by have h := HT.out; rw [if_neg hlim, if_neg htr] at h; exact h
        clear HT
        have hl1 : 0 ≤ most := by omega
        have hl2 : (u1 : Int) ≤ most := by omega
        obtain ⟨n2, rfl⟩ := Int.eq_ofNat_of_zero_le (show 0 ≤ n1 by omega)
        have hb : n2 + u1 ≤ s.size := by omega
        clear hlim htr h2 h3 h4 h5
        go_enter Try.func92, Try.ntmps92
        go_wp2_with fail
        refine (rtakeuint_any _ _ _ hs _ _ _ HU).mono ?_
        rintro e w' ⟨rfl, rfl⟩
        go_wp2
        go_ret3
        refine ⟨?_, rfl⟩
        have hx : s.extract n2 (n2 + u1) = ⟨((s.data.toList.drop (n2 : Int).toNat).take u1).toArray⟩ := by rw [extract_str]; simp
        have h := HT2.out
        simp only [Prod.mk.injEq] at h
        exact retT (by rw [← h.1, ← hx]; rfl) (congrArg _ h.2.1) (congrArg _ h.2.2)
  · have HU := Lib.hid h1
    have HT2 : Hid ((([], 0, e1) : List UInt8 × Int × Int) = (t, n, er)) := by
      have h := hT.out
      unfold Cw.takeT Cw.takeC at h
      rw [h1] at h
      simp only at h
      rw [if_pos (show e1 ≠ 0 by omega)] at h
      simp only at h
      rw [if_pos (show e1 ≠ 0 by omega)] at h
      exact h
    have he : (e1 != 0) = true := by rw [bne_iff_ne]; omega
    clear hT h1 h2
    go_enter Try.func92, Try.ntmps92
    go_wp2_with fail
    refine (rtakeuint_any _ _ _ hs _ _ _ HU).mono ?_
    rintro e w' ⟨rfl, rfl⟩
    go_wp2
    go_ret3
    exact ⟨tupT HT2, rfl⟩
set_option maxHeartbeats 400000 in
set_option maxRecDepth 100000 in
theorem rtakeint_any (s : ByteArray) (a : Int) (w : World) (hs : s.size ≤ 1125899906842624) (u : Int) (n er : Int) (hT : Hid (takeIv (Cw.takeU s.data.toList a) = (u, n, er))) :
    Calls Try.prog 90 #[.string s, .int .i64 a] w fun e w' => e = .returned (.tuple #[.int .i64 u, .int .i64 n, .int .i64 er]) ∧ w = w' := by
  rcases Cw.takeU_cases s.data.toList a with ⟨u1, n1, e1, h1, h2, h3, h4, h5⟩ | ⟨e1, h1, h2⟩
  · have HU := Lib.hid e1
    have HT : Hid ((Cw.unfold u1, n1, 0) = (u, n, er)) := by
      have h := hT.out
      unfold takeIv at h
      rw [e1] at h
      simp only [ne_eq, not_true_eq_false, if_false] at h
      exact h
    clear hT e1
    go_enter Try.func90, Try.ntmps90
    go_wp2_with fail
    refine (rtakeuint_any _ _ _ hs _ _ _ HU).mono ?_
    rintro e w' ⟨rfl, rfl⟩
    go_wp2_with fail
    refine (runfold_any _ _ h1).mono ?_
    rintro e w' ⟨rfl, rfl⟩
    go_wp2
    go_ret3
    have h := HT.out
    simp only [Prod.mk.injEq] at h
    exact ⟨retT (congrArg _ h.1) (congrArg _ h.2.1) (congrArg _ h.2.2), rfl⟩
  · have HU := Lib.hid h1
    have HT : Hid (((0, 0, e1) : Int × Int × Int) = (u, n, er)) := by
      have h := hT.out
      unfold takeIv at h
      rw [h1] at h
      simp only at h
      rw [if_pos (by omega)] at h
      exact h
    have he : (e1 != 0) = true := by rw [bne_iff_ne]; omega
    clear hT h1 h2
    go_enter Try.func90, Try.ntmps90
    go_wp2_with fail
    refine (rtakeuint_any _ _ _ hs _ _ _ HU).mono ?_
    rintro e w' ⟨rfl, rfl⟩
    go_wp2
    go_ret3
    have h := HT.out
    simp only [Prod.mk.injEq] at h
    exact ⟨retT (congrArg _ h.1) (congrArg _ h.2.1) (congrArg _ h.2.2), rfl⟩

end Go.Proofs.Ytbiongfnbbnndaa
