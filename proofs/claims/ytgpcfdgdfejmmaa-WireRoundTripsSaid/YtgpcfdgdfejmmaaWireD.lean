/- Walks of the laws of layer 2. -/
import Derived.Test.YtgpcfdgdfejmmaaWireEncodes
namespace Go.Proofs.Ytgpcfdgdfejmmaa
open Go.RowKit Go.PlainAid

theorem takeU_ex (l : List UInt8) (a : Int) : ∃ u n e, Hid (Cw.takeU l a = (u, n, e)) := ⟨_, _, _, rfl⟩
theorem takeIv_ex (x : Nat × Int × Int) : ∃ u n e, Hid (takeIv x = (u, n, e)) := ⟨_, _, _, rfl⟩
theorem takeB_ex (l : List UInt8) (a : Int) : ∃ u n e, Hid (takeB l a = (u, n, e)) := ⟨_, _, _, rfl⟩
theorem takeC_ex (l : List UInt8) (a m : Int) : ∃ u n e, Hid (Cw.takeC l a m = (u, n, e)) := ⟨_, _, _, rfl⟩
theorem takeT_ex (l : List UInt8) (a m : Int) : ∃ u n e, Hid (Cw.takeT l a m = (u, n, e)) := ⟨_, _, _, rfl⟩

set_option maxHeartbeats 1000000 in
set_option maxRecDepth 100000 in
theorem walkWireTakes (s : ByteArray) (_ : s.size ≤ 140737488351232) (a : Int) (_ : (Lit.int .i64 a).wf = true) (w : World) :
    Calls Try.prog 9 #[.string s, .int .i64 a] w fun e w' => e = .returned (.bool true) ∧ Below w.heap.size w w' := by
  by_cases hs : 300 < s.size
  · go_enter Try.func9, Try.ntmps9
    go_wp2_with fail
    refine (works_any _).mono ?_
    rintro e w1 ⟨rfl, hb1⟩
    go_wp2
    go_ret
    exact ⟨rfl, hb1⟩
  · have hS : Cw.Box (s.size ≤ 1073741824) := ⟨by omega⟩
    obtain ⟨u1, n1, e1, h1⟩ := takeU_ex s.data.toList a
    obtain ⟨u2, n2, e2, h2⟩ := takeIv_ex (Cw.takeU s.data.toList a)
    obtain ⟨u3, n3, e3, h3⟩ := takeB_ex s.data.toList a
    go_enter Try.func9, Try.ntmps9
    go_wp2_with fail
    refine (takeuint_any _ _ _ hS.out _ _ _ h1).mono ?_
    rintro e w' ⟨rfl, rfl⟩
    go_wp2_with fail
    refine (rtakeuint_any _ _ _ hS.out _ _ _ h1).mono ?_
    rintro e w' ⟨rfl, rfl⟩
    go_wp2_with fail
    refine (takeint_any _ _ _ hS.out _ _ _ h2).mono ?_
    rintro e w' ⟨rfl, rfl⟩
    go_wp2_with fail
    refine (rtakeint_any _ _ _ hS.out _ _ _ h2).mono ?_
    rintro e w' ⟨rfl, rfl⟩
    go_wp2_with fail
    refine (takebool_any _ _ _ hS.out _ _ _ h3).mono ?_
    rintro e w' ⟨rfl, rfl⟩
    go_wp2_with fail
    refine (rtakebool_any _ _ _ hS.out _ _ _ h3).mono ?_
    rintro e w' ⟨rfl, rfl⟩
    go_wp2_with fail
    refine (works_any _).mono ?_
    rintro e w1 ⟨rfl, hb1⟩
    go_wp2
    go_ret
    exact ⟨rfl, hb1⟩

set_option maxHeartbeats 1000000 in
set_option maxRecDepth 100000 in
theorem walkWireTakesText (s : ByteArray) (_ : s.size ≤ 140737488351232) (a : Int) (_ : (Lit.int .i64 a).wf = true) (m : Int) (wm : (Lit.int .i64 m).wf = true) (w : World) :
    Calls Try.prog 4 #[.string s, .int .i64 a, .int .i64 m] w fun e w' => e = .returned (.bool true) ∧ Below w.heap.size w w' := by
  have HM : Cw.Box (m ≤ 9223372036854775807) := ⟨by have := wf_i64 wm; rw [Cw.m63] at this; omega⟩
  clear wm
  by_cases hs : 300 < s.size
  · go_enter Try.func4, Try.ntmps4
    go_wp2_with fail
    refine (works_any _).mono ?_
    rintro e w1 ⟨rfl, hb1⟩
    go_wp2
    go_ret
    exact ⟨rfl, hb1⟩
  · have hS : Cw.Box (s.size ≤ 1073741824) := ⟨by omega⟩
    obtain ⟨u1, n1, e1, h1⟩ := takeT_ex s.data.toList a m
    obtain ⟨u2, n2, e2, h2⟩ := takeC_ex s.data.toList a m
    go_enter Try.func4, Try.ntmps4
    go_wp2_with fail
    refine (taketext_any _ _ _ _ hS.out HM.out _ _ _ h1).mono ?_
    rintro e w' ⟨rfl, rfl⟩
    go_wp2_with fail
    refine (rtaketext_any _ _ _ _ hS.out HM.out _ _ _ h1).mono ?_
    rintro e w' ⟨rfl, rfl⟩
    go_wp2_with fail
    refine (takecount_any _ _ _ _ hS.out HM.out _ _ _ h2).mono ?_
    rintro e w' ⟨rfl, rfl⟩
    go_wp2_with fail
    refine (rtakecount_any _ _ _ _ hS.out HM.out _ _ _ h2).mono ?_
    rintro e w' ⟨rfl, rfl⟩
    go_wp2_with fail
    refine (works_any _).mono ?_
    rintro e w1 ⟨rfl, hb1⟩
    go_wp2
    go_ret
    exact ⟨rfl, hb1⟩

/-- Decoding at an offset is decoding of the rest. -/
theorem takeU_shift (l : List UInt8) (a : Nat) (h : a ≤ l.length) : Cw.takeU l a = match Cw.takeU (l.drop a) 0 with
    | (u, n, e) => (u, if e = 0 then n + a else n, e) := by
  rw [Cw.takeU_in h, show (0 : Int) = ((0 : Nat) : Int) from rfl, Cw.takeU_in (Nat.zero_le _), List.drop_zero]
  rcases Cw.vrun_shape (l.drop a) 0 0 (by omega) (by decide) with ⟨u, n, e, h1, h2, h3, h4⟩ | e | e
  · rw [e]; simp; omega
  · rw [e]; simp
  · rw [e]; simp
theorem takeT_shift (l : List UInt8) (a : Nat) (h : a ≤ l.length) (m : Int) : Cw.takeT l a m = match Cw.takeT (l.drop a) 0 m with
    | (u, n, e) => (u, if e = 0 then n + a else n, e) := by
  unfold Cw.takeT Cw.takeC
  rw [takeU_shift l a h]
  rcases Cw.takeU_cases (l.drop a) 0 with ⟨u, n, e1, h1, h2, h3, h4, h5⟩ | ⟨e, e1, h2⟩
  · rw [e1]
    simp only [ne_eq, not_true_eq_false, if_false, if_true, List.length_drop] at h5 ⊢
    obtain ⟨k, rfl⟩ := Int.eq_ofNat_of_zero_le (show 0 ≤ n by omega)
    by_cases hl : m < 0 ∨ m < u
    · simp only [if_pos hl]; simp
    · simp only [if_neg hl]
      by_cases ht : ((l.length - a : Nat) : Int) - k < u
      · rw [if_pos ht, if_pos (show ((l.length : Nat) : Int) - ((k : Int) + (a : Int)) < (u : Int) by omega)]; simp
      · rw [if_neg ht, if_neg (show ¬ ((l.length : Nat) : Int) - ((k : Int) + (a : Int)) < (u : Int) by omega)]
        simp only [if_true, not_true_eq_false, if_false, List.drop_drop]
        refine Prod.ext ?_ (Prod.ext ?_ rfl)
        · show List.take u (List.drop ((k : Int) + (a : Int)).toNat l) = List.take u (List.drop (a + (k : Int).toNat) l)
          rw [show ((k : Int) + (a : Int)).toNat = a + (k : Int).toNat by omega]
        · show (k : Int) + a + u = k + u + a
          omega
  · rw [e1]
    have : e ≠ 0 := by omega
    simp [this]

theorem takeU_range {l : List UInt8} {u : Nat} {n e : Int} (h : Cw.takeU l 0 = (u, n, e)) : 0 ≤ n ∧ n ≤ l.length := by
  rcases Cw.takeU_cases l 0 with ⟨u1, n1, e1, h1, h2, h3, h4, h5⟩ | ⟨e1, h1, h2⟩
  · rw [e1] at h; simp only [Prod.mk.injEq] at h; omega
  · rw [h1] at h; simp only [Prod.mk.injEq] at h; omega
theorem takeT_range {l t : List UInt8} {m n e : Int} (h : Cw.takeT l 0 m = (t, n, e)) : 0 ≤ n ∧ n ≤ l.length := by
  unfold Cw.takeT at h
  rcases takeC_cases l 0 m with ⟨u1, n1, e1, h1, h2, h3, h4⟩ | ⟨e1, h1, h2⟩
  · rw [e1] at h; simp at h; omega
  · rw [h1] at h
    simp only at h
    rw [if_pos (by omega)] at h
    simp only [Prod.mk.injEq] at h; omega

set_option maxHeartbeats 2000000 in
set_option maxRecDepth 100000 in
theorem walkWireShifts (s : ByteArray) (hz : s.size ≤ 140737488351232) (a : Int) (_ : (Lit.int .i64 a).wf = true) (w : World) :
    Calls Try.prog 6 #[.string s, .int .i64 a] w fun e w' => e = .returned (.bool true) ∧ Below w.heap.size w w' := by
  have hZ : Cw.Box (s.size ≤ 140737488355328) := ⟨by omega⟩
  have hsz : s.data.toList.length = s.size := by simp
  obtain ⟨u1, n1, e1, h1⟩ := takeU_ex s.data.toList a
  by_cases hin : 0 ≤ a ∧ a ≤ s.size
  · obtain ⟨hin0, hin1⟩ := hin
    obtain ⟨k, rfl⟩ := Int.eq_ofNat_of_zero_le hin0
    by_cases hs : 300 < s.size
    · clear hsz
      go_enter Try.func6, Try.ntmps6
      go_wp2_with fail
      refine (takeuint_big _ _ _ hZ.out _ _ _ h1).mono ?_
      rintro e w' ⟨rfl, rfl⟩
      go_wp2_with fail
      refine (works_any _).mono ?_
      rintro e w1 ⟨rfl, hb1⟩
      go_wp2
      go_ret
      exact ⟨rfl, hb1⟩
    · have hS : Cw.Box (s.size ≤ 1073741824) := ⟨by omega⟩
      have hX : Cw.Box ((s.extract k s.size).size ≤ 1073741824) := ⟨by rw [ByteArray.size_extract]; omega⟩
      have hdrop : (s.extract k s.size).data.toList = s.data.toList.drop k := by rw [extract_str]; show List.take _ _ = _; exact List.take_of_length_le (by simp)
      obtain ⟨u2, n2, e2, h2⟩ := takeU_ex (s.extract k s.size).data.toList 0
      obtain ⟨u3, n3, e3, h3⟩ := takeT_ex s.data.toList k 300
      obtain ⟨u4, n4, e4, h4⟩ := takeT_ex (s.extract k s.size).data.toList 0 300
      have hh1 := h1.out
      have hh2 := h2.out
      have hh3 := h3.out
      have hh4 := h4.out
      rw [takeU_shift _ k (by omega), ← hdrop, hh2] at hh1
      rw [takeT_shift _ k (by omega), ← hdrop, hh4] at hh3
      simp only [Prod.mk.injEq] at hh1 hh3
      obtain ⟨rfl, rfl, rfl⟩ := hh1
      obtain ⟨rfl, rfl, rfl⟩ := hh3
      have hn2 := takeU_range hh2
      have hn4 := takeT_range hh4
      have hlen : (s.extract k s.size).data.toList.length ≤ 300 := by rw [hdrop]; simp; omega
      have b2 : 0 ≤ n2 ∧ n2 ≤ 300 := by omega
      have b4 : 0 ≤ n4 ∧ n4 ≤ 300 := by omega
      obtain ⟨b20, b21⟩ := b2
      obtain ⟨b40, b41⟩ := b4
      clear hsz hdrop hh2 hh4 hlen hn2 hn4 hz hZ
      by_cases c1 : e2 = 0 <;> by_cases c2 : e4 = 0
      · subst c1
        simp only [if_true] at h1
        subst c2
        simp only [if_true] at h3
        go_enter Try.func6, Try.ntmps6
        go_wp2_with fail
        refine (takeuint_any _ _ _ hS.out _ _ _ h1).mono ?_
        rintro e w' ⟨rfl, rfl⟩
        go_wp2_with fail
        refine (takeuint_any _ _ _ hX.out _ _ _ h2).mono ?_
        rintro e w' ⟨rfl, rfl⟩
        go_wp2_with fail
        refine (taketext_any _ _ _ _ hS.out (by decide) _ _ _ h3).mono ?_
        rintro e w' ⟨rfl, rfl⟩
        go_wp2_with fail
        refine (taketext_any _ _ _ _ hX.out (by decide) _ _ _ h4).mono ?_
        rintro e w' ⟨rfl, rfl⟩
        go_wp2_with fail
        refine (works_any _).mono ?_
        rintro e w1 ⟨rfl, hb1⟩
        go_wp2
        go_ret
        exact ⟨rfl, hb1⟩
      · subst c1
        simp only [if_true] at h1
        have hb4 : (e4 == 0) = false := by rw [beq_eq_false_iff_ne]; exact c2
        simp only [if_neg c2] at h3
        clear c2
        go_enter Try.func6, Try.ntmps6
        go_wp2_with fail
        refine (takeuint_any _ _ _ hS.out _ _ _ h1).mono ?_
        rintro e w' ⟨rfl, rfl⟩
        go_wp2_with fail
        refine (takeuint_any _ _ _ hX.out _ _ _ h2).mono ?_
        rintro e w' ⟨rfl, rfl⟩
        go_wp2_with fail
        refine (taketext_any _ _ _ _ hS.out (by decide) _ _ _ h3).mono ?_
        rintro e w' ⟨rfl, rfl⟩
        go_wp2_with fail
        refine (taketext_any _ _ _ _ hX.out (by decide) _ _ _ h4).mono ?_
        rintro e w' ⟨rfl, rfl⟩
        go_wp2_with fail
        refine (works_any _).mono ?_
        rintro e w1 ⟨rfl, hb1⟩
        go_wp2
        go_ret
        exact ⟨rfl, hb1⟩
      · have hb2 : (e2 == 0) = false := by rw [beq_eq_false_iff_ne]; exact c1
        simp only [if_neg c1] at h1
        clear c1
        subst c2
        simp only [if_true] at h3
        go_enter Try.func6, Try.ntmps6
        go_wp2_with fail
        refine (takeuint_any _ _ _ hS.out _ _ _ h1).mono ?_
        rintro e w' ⟨rfl, rfl⟩
        go_wp2_with fail
        refine (takeuint_any _ _ _ hX.out _ _ _ h2).mono ?_
        rintro e w' ⟨rfl, rfl⟩
        go_wp2_with fail
        refine (taketext_any _ _ _ _ hS.out (by decide) _ _ _ h3).mono ?_
        rintro e w' ⟨rfl, rfl⟩
        go_wp2_with fail
        refine (taketext_any _ _ _ _ hX.out (by decide) _ _ _ h4).mono ?_
        rintro e w' ⟨rfl, rfl⟩
        go_wp2_with fail
        refine (works_any _).mono ?_
        rintro e w1 ⟨rfl, hb1⟩
        go_wp2
        go_ret
        exact ⟨rfl, hb1⟩
      · have hb2 : (e2 == 0) = false := by rw [beq_eq_false_iff_ne]; exact c1
        simp only [if_neg c1] at h1
        clear c1
        have hb4 : (e4 == 0) = false := by rw [beq_eq_false_iff_ne]; exact c2
        simp only [if_neg c2] at h3
        clear c2
        go_enter Try.func6, Try.ntmps6
        go_wp2_with fail
        refine (takeuint_any _ _ _ hS.out _ _ _ h1).mono ?_
        rintro e w' ⟨rfl, rfl⟩
        go_wp2_with fail
        refine (takeuint_any _ _ _ hX.out _ _ _ h2).mono ?_
        rintro e w' ⟨rfl, rfl⟩
        go_wp2_with fail
        refine (taketext_any _ _ _ _ hS.out (by decide) _ _ _ h3).mono ?_
        rintro e w' ⟨rfl, rfl⟩
        go_wp2_with fail
        refine (taketext_any _ _ _ _ hX.out (by decide) _ _ _ h4).mono ?_
        rintro e w' ⟨rfl, rfl⟩
        go_wp2_with fail
        refine (works_any _).mono ?_
        rintro e w1 ⟨rfl, hb1⟩
        go_wp2
        go_ret
        exact ⟨rfl, hb1⟩
  · have h := h1.out
    rw [Cw.takeU_out (by rw [hsz]; omega)] at h
    simp only [Prod.mk.injEq] at h
    obtain ⟨rfl, rfl, rfl⟩ := h
    have hor : a < 0 ∨ (s.size : Int) < a := by omega
    clear hsz hin
    rcases hor with hor | hor
    all_goals
      by_cases hs : 300 < s.size
      all_goals
        go_enter Try.func6, Try.ntmps6
        go_wp2_with fail
        refine (takeuint_big _ _ _ hZ.out _ _ _ h1).mono ?_
        rintro e w' ⟨rfl, rfl⟩
        go_wp2_with fail
        refine (works_any _).mono ?_
        rintro e w1 ⟨rfl, hb1⟩
        go_wp2
        go_ret
        exact ⟨rfl, hb1⟩
end Go.Proofs.Ytgpcfdgdfejmmaa
