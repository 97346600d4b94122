/- Walks of the laws of layer 2: sizes, front parts, limits. -/
import Derived.Test.YtgpcfdgdfejmmaaWireD
namespace Go.Proofs.Ytgpcfdgdfejmmaa
open Go.RowKit Go.PlainAid

theorem wdiv (m a : Nat) (h : m ≤ a) (H : Cw.Box (0 ≤ (a : Int) ∧ (a : Int) < Cw.M64)) : IntKind.u64.wrap ((m : Int) / 128) = ((m / 128 : Nat) : Int) := by
  have := H.out.2
  rw [Cw.m64] at this
  rw [u64_nonneg (by omega) (by omega)]; omega

set_option maxHeartbeats 1000000 in
set_option maxRecDepth 100000 in
theorem walkWireSizes (u : Int) (wu : (Lit.int .u64 u).wf = true) (v : Int) (wv : (Lit.int .u64 v).wf = true) (w : World) :
    Calls Try.prog 7 #[.int .u64 u, .int .u64 v] w fun e w' => e = .returned (.bool true) ∧ Below w.heap.size w w' := by
  have HU := Cw.Box.mk (wf_u64 wu)
  have HV := Cw.Box.mk (wf_u64 wv)
  obtain ⟨a, rfl⟩ := Int.eq_ofNat_of_zero_le HU.out.1
  obtain ⟨b, rfl⟩ := Int.eq_ofNat_of_zero_le HV.out.1
  have hla := Cw.vint_len_10 a (by have := HU.out.2; have := Cw.m64; omega)
  have hmono := Cw.Box.mk (Cw.vint_mono a b)
  clear wu wv
  go_enter Try.func7, Try.ntmps7
  go_wp2
  rw [wdiv a a (Nat.le_refl _) HU]
  go_loop [5, 6] (fun n x => ∃ (m k : Nat), x = .int .u64 m ∧ n = .int .i64 k ∧ k ≤ 10 ∧ m ≤ a ∧ Hid ((Cw.vint a).length = k + if m = 0 then 0 else (Cw.vint m).length)) (fun _ x => (intOf x).toNat)
  case atStart =>
    refine ⟨a / 128, 1, rfl, rfl, by omega, by omega, ?_⟩
    show _ = _
    by_cases h : a < 128
    · rw [if_pos (by omega), Cw.vint_lt h]; rfl
    · rw [if_neg (by omega), Cw.vint_ge (by omega), List.length_cons]; omega
  case round =>
    obtain ⟨m, k, rfl, rfl, hk, hma, hv⟩ := hrel
    by_cases hm : 0 < m
    · have hk9 : k ≤ 9 := by have h := hv.out; rw [if_neg (by omega)] at h; have := Cw.vint_len_pos m; omega
      have hv' : Hid ((Cw.vint a).length = (k + 1) + if m / 128 = 0 then 0 else (Cw.vint (m / 128)).length) := by
        have h := hv.out
        rw [if_neg (by omega)] at h
        show _ = _
        rw [h]
        by_cases h : m < 128
        · rw [if_pos (by omega), Cw.vint_lt h]; rfl
        · rw [if_neg (by omega), Cw.vint_ge (by omega), List.length_cons]; omega
      have hw := Cw.Box.mk (wdiv m a hma HU)
      go_wp2
      rw [hw.out]
      exact ⟨⟨m / 128, k + 1, rfl, by go_num, by omega, by omega, hv'⟩, by simp [intOf]; omega⟩
    · have hl : Hid ((Cw.vint a).length = k) := by have h := hv.out; rw [if_pos (by omega)] at h; exact h
      have hm0 : (m : Int) ≤ 0 := by omega
      have hle : (((Cw.vint a).length : Int) != (k : Int)) = false := by rw [hl.out]; simp
      by_cases huv : b < a
      · clear hmono
        go_wp2_with fail
        refine (uint_any _ _ HU.out.1 HU.out.2).mono ?_
        rintro e w1 ⟨rfl, hb1⟩
        go_wp2_with fail
        refine (works_any _).mono ?_
        rintro e w2 ⟨rfl, hb2⟩
        go_wp2
        go_ret
        exact ⟨rfl, bthen hb1 hb2⟩
      · have hkb : (k : Int) ≤ ((Cw.vint b).length : Int) := by have := hmono.out (by omega); have := hl.out; omega
        clear hmono
        go_wp2_with fail
        refine (uint_any _ _ HU.out.1 HU.out.2).mono ?_
        rintro e w1 ⟨rfl, hb1⟩
        go_wp2_with fail
        refine (uint_any _ _ HV.out.1 HV.out.2).mono ?_
        rintro e w2 ⟨rfl, hb2⟩
        go_wp2_with fail
        refine (works_any _).mono ?_
        rintro e w3 ⟨rfl, hb3⟩
        go_wp2
        go_ret
        exact ⟨rfl, bthen (bthen hb1 hb2) hb3⟩

theorem size_mk (l : List UInt8) : (⟨l.toArray⟩ : ByteArray).size = l.length := by simp [ByteArray.size]
/-- The front part of a string, as a list. -/
theorem front (l : List UInt8) (i : Nat) : (⟨l.toArray⟩ : ByteArray).extract 0 i = ⟨(l.take i).toArray⟩ := by rw [extract_str]; simp
theorem takeU_front (u i : Nat) (hu : (u : Int) < Cw.M64) (hi : i < (Cw.vint u).length) : Cw.takeU ((Cw.vint u).take i) 0 = (0, 0, 6) := by
  rw [Cw.m64] at hu
  rw [show (0 : Int) = ((0 : Nat) : Int) from rfl, Cw.takeU_in (Nat.zero_le _), List.drop_zero, Cw.vrun_prefix u 0 i 0 (by omega) (.inl rfl) (by omega) hi]
  rfl
theorem takeU_vint (u : Nat) (r : List UInt8) (hu : (u : Int) < Cw.M64) : Cw.takeU (Cw.vint u ++ r) 0 = (u, ((Cw.vint u).length : Int), 0) := by
  rw [Cw.m64] at hu
  rw [show (0 : Int) = ((0 : Nat) : Int) from rfl, Cw.takeU_in (Nat.zero_le _), List.drop_zero, Cw.vrun_vint r u 0 0 (by omega) (.inl rfl) (by omega)]
  simp
theorem takeC_text (l r : List UInt8) (m : Int) (hl : (l.length : Int) < Cw.M64) : Cw.takeC (Cw.text l ++ r) 0 m = if m < l.length then (0, 0, 2) else (l.length, ((Cw.vint l.length).length : Int), 0) := by
  unfold Cw.takeC Cw.text
  rw [List.append_assoc, takeU_vint _ _ hl]
  simp only [ne_eq, not_true_eq_false, if_false, List.length_append]
  by_cases h : m < l.length
  · rw [if_pos (.inr h), if_pos h]
  · rw [if_neg (by omega), if_neg h, if_neg (by omega)]
theorem takeT_text (l r : List UInt8) (m : Int) (hl : (l.length : Int) < Cw.M64) : Cw.takeT (Cw.text l ++ r) 0 m = if m < l.length then ([], 0, 2) else (l, ((Cw.text l).length : Int), 0) := by
  unfold Cw.takeT
  rw [takeC_text l r m hl]
  by_cases h : m < l.length
  · simp only [if_pos h]; rfl
  · simp only [if_neg h, ne_eq, not_true_eq_false, if_false, Int.toNat_natCast]
    unfold Cw.text
    simp
theorem takeC_front (l : List UInt8) (i : Nat) (m : Int) (hm : (l.length : Int) ≤ m) (hl : (l.length : Int) < Cw.M64) (hi : i < (Cw.text l).length) : Cw.takeC ((Cw.text l).take i) 0 m = (0, 0, 6) := by
  unfold Cw.takeC Cw.text at *
  by_cases h : i < (Cw.vint l.length).length
  · rw [List.take_append_of_le_length (by omega), takeU_front _ i hl h]
    simp
  · rw [List.take_append, List.take_of_length_le (by omega), takeU_vint _ _ hl]
    simp only [ne_eq, not_true_eq_false, if_false, List.length_append, List.length_take] at hi ⊢
    rw [if_neg (by omega), if_pos (by omega)]
theorem takeT_front (l : List UInt8) (i : Nat) (m : Int) (hm : (l.length : Int) ≤ m) (hl : (l.length : Int) < Cw.M64) (hi : i < (Cw.text l).length) : Cw.takeT ((Cw.text l).take i) 0 m = ([], 0, 6) := by
  unfold Cw.takeT
  rw [takeC_front l i m hm hl hi]
  simp

set_option maxHeartbeats 1000000 in
set_option maxRecDepth 100000 in
theorem walkWirePrefixes (u : Int) (wu : (Lit.int .u64 u).wf = true) (s : ByteArray) (_ : s.size ≤ 140737488351232) (w : World) :
    Calls Try.prog 5 #[.int .u64 u, .string s] w fun e w' => e = .returned (.bool true) ∧ Below w.heap.size w w' := by
  have HU := Cw.Box.mk (wf_u64 wu)
  obtain ⟨a, rfl⟩ := Int.eq_ofNat_of_zero_le HU.out.1
  have hla := Cw.vint_len_10 a (by have := HU.out.2; have := Cw.m64; omega)
  clear wu
  by_cases hs : 300 < s.size
  · go_enter Try.func5, Try.ntmps5
    go_wp2_with fail
    refine (works_any _).mono ?_
    rintro e w1 ⟨rfl, hb1⟩
    go_wp2
    go_ret
    exact ⟨rfl, hb1⟩
  · have hS : Cw.Box (s.size ≤ 1073741824) := ⟨by omega⟩
    have hsz : s.data.toList.length = s.size := by simp
    have hlt := Cw.vint_len_10 s.size (by omega)
    have hlp := Cw.vint_len_pos s.size
    have htl : (Cw.text s.data.toList).length = (Cw.vint s.size).length + s.size := by unfold Cw.text; rw [List.length_append, hsz]
    have HL := Cw.Box.mk (show (s.data.toList.length : Int) < Cw.M64 by rw [hsz, Cw.m64]; omega)
    have HT := Cw.Box.mk htl
    have HSZ := Cw.Box.mk hsz
    have ht0 : (Cw.text s.data.toList).length ≤ 310 := by omega
    have ht1 : s.size < (Cw.text s.data.toList).length := by omega
    clear hsz htl
    go_enter Try.func5, Try.ntmps5
    go_wp2_with fail
    refine (uint_any _ _ HU.out.1 HU.out.2).mono ?_
    rintro e w1 ⟨rfl, hb1⟩
    go_wp2
    go_loop [6] (fun x => ∃ i : Nat, x = .int .i64 i ∧ i ≤ (Cw.vint a).length) (fun x => 10 - (intOf x).toNat)
    case atStart => exact ⟨0, rfl, by omega⟩
    case round =>
      obtain ⟨i, rfl, hi⟩ := hrel
      by_cases hil : i < (Cw.vint a).length
      · have hT := takeU_front a i HU.out.2 hil
        go_wp2_with fail
        rw [front]
        refine (takeuint_any ⟨((Cw.vint a).take i).toArray⟩ 0 _ (by rw [size_mk, List.length_take]; omega) 0 0 6 hT).mono ?_
        rintro e w' ⟨rfl, rfl⟩
        go_wp2
        go_round
        case rel => exact ⟨i + 1, by go_num, by omega⟩
        case measure => simp [intOf]; omega
      · go_wp2_with fail
        refine (text_any _ _ hS.out).mono ?_
        rintro e w2 ⟨rfl, hb2⟩
        go_wp2
        go_loop [10] (fun x => ∃ i : Nat, x = .int .i64 i ∧ i ≤ (Cw.text s.data.toList).length) (fun x => 310 - (intOf x).toNat)
        case atStart => exact ⟨0, rfl, by omega⟩
        case round =>
          obtain ⟨j, rfl, hj⟩ := hrel
          by_cases hjl : j < (Cw.text s.data.toList).length
          · have hT := takeT_front s.data.toList j 300 (by have := HSZ.out; omega) HL.out hjl
            go_wp2_with fail
            rw [front]
            refine (taketext_any ⟨((Cw.text s.data.toList).take j).toArray⟩ 0 300 _ (by rw [size_mk, List.length_take]; omega) (by decide) [] 0 6 hT).mono ?_
            rintro e w' ⟨rfl, rfl⟩
            go_wp2
            go_round
            case rel => exact ⟨j + 1, by go_num, by omega⟩
            case measure => simp [intOf]; omega
          · go_wp2_with fail
            refine (works_any _).mono ?_
            rintro e w3 ⟨rfl, hb3⟩
            go_wp2
            go_ret
            exact ⟨rfl, bthen (bthen hb1 hb2) hb3⟩

set_option maxHeartbeats 1000000 in
set_option maxRecDepth 100000 in
theorem walkWireLimits (s : ByteArray) (_ : s.size ≤ 140737488351232) (w : World) :
    Calls Try.prog 8 #[.string s] w fun e w' => e = .returned (.bool true) ∧ Below w.heap.size w w' := by
  by_cases hs : 300 < s.size
  · go_enter Try.func8, Try.ntmps8
    go_wp2_with fail
    refine (works_any _).mono ?_
    rintro e w1 ⟨rfl, hb1⟩
    go_wp2
    go_ret
    exact ⟨rfl, hb1⟩
  · have hS : Cw.Box (s.size ≤ 1073741824) := ⟨by omega⟩
    have hsz : s.data.toList.length = s.size := by simp
    have hlt := Cw.vint_len_10 s.size (by omega)
    have hlp := Cw.vint_len_pos s.size
    have htl : (Cw.text s.data.toList).length = (Cw.vint s.size).length + s.size := by unfold Cw.text; rw [List.length_append, hsz]
    have hL : (s.data.toList.length : Int) < Cw.M64 := by rw [hsz, Cw.m64]; omega
    have hX : Cw.Box ((⟨(Cw.text s.data.toList).toArray⟩ : ByteArray).size ≤ 1073741824) := ⟨by rw [size_mk]; omega⟩
    have t1 := Cw.Box.mk (takeT_text s.data.toList [] s.size hL)
    have t2 := Cw.Box.mk (takeT_text s.data.toList [] ((s.size : Int) - 1) hL)
    have t3 := Cw.Box.mk (takeC_text s.data.toList [] s.size hL)
    have t4 := Cw.Box.mk (takeC_text s.data.toList [] ((s.size : Int) - 1) hL)
    rw [List.append_nil, hsz, if_neg (by omega)] at t1 t3
    rw [List.append_nil, hsz, if_pos (by omega)] at t2 t4
    have t5 := fun h => takeT_front s.data.toList ((Cw.text s.data.toList).length - 1) s.size (by omega) hL h
    have t6 := fun h => takeC_front s.data.toList ((Cw.text s.data.toList).length - 1) s.size (by omega) hL h
    have T5 := Cw.Box.mk (t5 (by omega))
    have T6 := Cw.Box.mk (t6 (by omega))
    have hq : ((Cw.text s.data.toList).length : Int) - (s.size : Int) = ((Cw.vint s.size).length : Int) := by omega
    have hne : ((((Cw.vint s.size).length : Int)) != ((Cw.text s.data.toList).length : Int) - (s.size : Int)) = false := by rw [hq]; simp
    have HNE := Cw.Box.mk hne
    have ht0 : (Cw.text s.data.toList).length ≤ 310 := by omega
    have ht1 : s.size < (Cw.text s.data.toList).length := by omega
    clear t5 t6 hsz htl hq hne hL
    have hY : Cw.Box ((⟨((Cw.text s.data.toList).take ((Cw.text s.data.toList).length - 1)).toArray⟩ : ByteArray).size ≤ 1073741824) := ⟨by rw [size_mk, List.length_take]; omega⟩
    have m1 : Cw.Box ((s.size : Int) ≤ 9223372036854775807) := ⟨by omega⟩
    have m2 : Cw.Box ((s.size : Int) - 1 ≤ 9223372036854775807) := ⟨by omega⟩
    by_cases h0 : s.size = 0
    · have hz : ((s.size : Int) == 0) = true := by rw [beq_iff_eq]; omega
      clear h0 T5 T6
      go_enter Try.func8, Try.ntmps8
      go_wp2_with fail
      refine (text_any _ _ hS.out).mono ?_
      rintro e w1 ⟨rfl, hb1⟩
      go_wp2_with fail
      refine (taketext_any _ _ _ _ hX.out m1.out _ _ _ t1.out).mono ?_
      rintro e w' ⟨rfl, rfl⟩
      go_wp2_with fail
      refine (taketext_any _ _ _ _ hX.out m2.out _ _ _ t2.out).mono ?_
      rintro e w' ⟨rfl, rfl⟩
      go_wp2_with fail
      refine (takecount_any _ _ _ _ hX.out m1.out _ _ _ t3.out).mono ?_
      rintro e w' ⟨rfl, rfl⟩
      go_wp2_with fail
      refine (takecount_any _ _ _ _ hX.out m2.out _ _ _ t4.out).mono ?_
      rintro e w' ⟨rfl, rfl⟩
      have hne := HNE.out
      go_wp2_with fail
      refine (works_any _).mono ?_
      rintro e w2 ⟨rfl, hb2⟩
      go_wp2
      go_ret
      exact ⟨rfl, bthen hb1 hb2⟩
    · have hz : ((s.size : Int) == 0) = false := by rw [beq_eq_false_iff_ne]; omega
      clear h0
      go_enter Try.func8, Try.ntmps8
      go_wp2_with fail
      refine (text_any _ _ hS.out).mono ?_
      rintro e w1 ⟨rfl, hb1⟩
      go_wp2_with fail
      refine (taketext_any _ _ _ _ hX.out m1.out _ _ _ t1.out).mono ?_
      rintro e w' ⟨rfl, rfl⟩
      go_wp2_with fail
      refine (taketext_any _ _ _ _ hX.out m2.out _ _ _ t2.out).mono ?_
      rintro e w' ⟨rfl, rfl⟩
      go_wp2_with fail
      refine (takecount_any _ _ _ _ hX.out m1.out _ _ _ t3.out).mono ?_
      rintro e w' ⟨rfl, rfl⟩
      go_wp2_with fail
      refine (takecount_any _ _ _ _ hX.out m2.out _ _ _ t4.out).mono ?_
      rintro e w' ⟨rfl, rfl⟩
      have hne := HNE.out
      go_wp2_with fail
      rw [front]
      refine (taketext_any _ _ _ _ hY.out m1.out _ _ _ T5.out).mono ?_
      rintro e w' ⟨rfl, rfl⟩
      go_wp2_with fail
      rw [front]
      refine (takecount_any _ _ _ _ hY.out m1.out _ _ _ T6.out).mono ?_
      rintro e w' ⟨rfl, rfl⟩
      go_wp2_with fail
      refine (works_any _).mono ?_
      rintro e w2 ⟨rfl, hb2⟩
      go_wp2
      go_ret
      exact ⟨rfl, bthen hb1 hb2⟩
end Go.Proofs.Ytgpcfdgdfejmmaa
