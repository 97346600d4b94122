/- The walk of the law WireRoundTrips. -/
import Derived.Test.YtgpcfdgdfejmmaaWireE
import Derived.Test.YtgpcfdgdfejmmaaSoft
import Derived.Deep.RegionWith
import Derived.Deep.DeepCutAuto
namespace Go.Proofs.Ytgpcfdgdfejmmaa
open Go.RowKit Go.PlainAid

theorem app_mk (a b : List UInt8) : (⟨a.toArray⟩ : ByteArray) ++ ⟨b.toArray⟩ = ⟨(a ++ b).toArray⟩ := by apply ByteArray.ext; simp
theorem app_s (a : List UInt8) (s : ByteArray) : (⟨a.toArray⟩ : ByteArray) ++ s = ⟨(a ++ s.data.toList).toArray⟩ := append_str a s

theorem takeU_at (p r : List UInt8) (u : Nat) (hu : (u : Int) < Cw.M64) : Cw.takeU (p ++ (Cw.vint u ++ r)) (p.length : Nat) = (u, (p.length : Int) + ((Cw.vint u).length : Int), 0) := by
  rw [takeU_shift _ _ (by simp), List.drop_left, takeU_vint u r hu]
  simp; omega
theorem takeB_at (p r : List UInt8) (b : Bool) : takeB (p ++ (Cw.boolB b ++ r)) (p.length : Nat) = (b, (p.length : Int) + 1, 0) := by
  unfold takeB
  rw [if_neg (by simp; omega), Int.toNat_natCast, List.drop_left]
  cases b <;> rfl
theorem takeT_at (p r l : List UInt8) (m : Int) (hl : (l.length : Int) < Cw.M64) (hm : (l.length : Int) ≤ m) : Cw.takeT (p ++ (Cw.text l ++ r)) (p.length : Nat) m = (l, (p.length : Int) + ((Cw.text l).length : Int), 0) := by
  rw [takeT_shift _ _ (by simp), List.drop_left, takeT_text l r m hl, if_neg (by omega)]
  simp; omega
theorem takeU_is {l : List UInt8} {u : Nat} {n : Int} (h : Cw.takeU l 0 = (u, n, 0)) : 1 ≤ n ∧ n ≤ l.length ∧ Cw.vint u = l.take n.toNat := by
  rw [show (0 : Int) = ((0 : Nat) : Int) from rfl, Cw.takeU_in (Nat.zero_le _), List.drop_zero] at h
  rcases Cw.vrun_shape l 0 0 (by omega) (by decide) with ⟨u', n', e, h1, h2, h3, h4⟩ | e | e
  · rw [e] at h
    simp only [Prod.mk.injEq] at h
    obtain ⟨rfl, hn, -⟩ := h
    obtain ⟨v, e1, e2, e3, e4, e5⟩ := Cw.vrun_is_vint l 0 u' n' (by omega) e
    have hv : u' = v := by omega
    subst hv
    have : n.toNat = n' - 0 := by omega
    rw [this]
    exact ⟨by omega, by omega, e3⟩
  · rw [e] at h; simp at h
  · rw [e] at h; simp at h
theorem takeU_lt {l : List UInt8} {a : Int} {u : Nat} {n e : Int} (h : Cw.takeU l a = (u, n, e)) : (u : Int) < Cw.M64 := by
  rcases Cw.takeU_cases l a with ⟨u1, n1, e1, h1, h2, h3, h4, h5⟩ | ⟨e1, h1, h2⟩
  · rw [e1] at h; simp only [Prod.mk.injEq] at h; rw [← h.1]; exact h1
  · rw [h1] at h; simp only [Prod.mk.injEq] at h; rw [← h.1, Cw.m64]; omega
theorem takeT_is {l t : List UInt8} {m n : Int} (h : Cw.takeT l 0 m = (t, n, 0)) : 1 ≤ n ∧ n ≤ l.length ∧ Cw.text t = l.take n.toNat := by
  unfold Cw.takeT at h
  rcases takeC_cases l 0 m with ⟨u1, n1, e1, h1, h2, h3, h4⟩ | ⟨e1, h1, h2⟩
  · rw [e1] at h
    simp only [ne_eq, not_true_eq_false, if_false, Prod.mk.injEq] at h
    obtain ⟨h5, h6, -⟩ := h
    have hU : Cw.takeU l 0 = (u1, n1, 0) := by
      unfold Cw.takeC at e1
      rcases Cw.takeU_cases l 0 with ⟨u2, n2, e2, g1, g2, g3, g4, g5⟩ | ⟨e2, g1, g2⟩
      · rw [e2] at e1 ⊢
        simp only [ne_eq, not_true_eq_false, if_false] at e1
        split at e1
        · simp at e1
        · split at e1
          · simp at e1
          · exact e1
      · rw [g1] at e1
        simp only at e1
        rw [if_pos (by omega)] at e1
        simp only [Prod.mk.injEq] at e1
        omega
    obtain ⟨f1, f2, f3⟩ := takeU_is hU
    refine ⟨by omega, by omega, ?_⟩
    have ht : t.length = u1 := by rw [← h5, List.length_take, List.length_drop]; omega
    unfold Cw.text
    rw [ht, f3, ← h5, show n.toNat = n1.toNat + u1 by omega, List.take_add]
  · rw [h1] at h
    simp only at h
    rw [if_pos (by omega)] at h
    simp only [Prod.mk.injEq] at h; omega
theorem takeB_is {l : List UInt8} {b : Bool} {n : Int} (h : takeB l 0 = (b, n, 0)) : n = 1 ∧ 1 ≤ l.length ∧ Cw.boolB b = l.take 1 := by
  unfold takeB at h
  rw [if_neg (by omega)] at h
  cases l with
  | nil => simp at h
  | cons c r =>
    simp only [Int.toNat_zero, List.drop_zero] at h
    by_cases hc : 1 < c.toNat
    · rw [if_pos hc] at h; simp at h
    · rw [if_neg hc] at h
      simp only [Prod.mk.injEq] at h
      refine ⟨by omega, by simp, ?_⟩
      rw [← h.1]
      have : c.toNat = 0 ∨ c.toNat = 1 := by omega
      rcases this with e | e
      · have : c = 0 := UInt8.toNat_inj.1 e
        subst this; rfl
      · have : c = 1 := UInt8.toNat_inj.1 e
        subst this; rfl

/-- What the joined string decodes to, part by part. -/
theorem joined (a : Nat) (m : Int) (s : ByteArray) (ha : (a : Int) < Cw.M64) (h0 : -Cw.M63 ≤ m) (h1 : m < Cw.M63) (hs : s.size ≤ 300) :
    ∃ (t : ByteArray) (p1 p2 p3 p4 : Int), (⟨(Cw.vint a).toArray⟩ : ByteArray) ++ ⟨(Cw.vint (Cw.fold m)).toArray⟩ ++ ⟨(Cw.boolB (decide (m < 0))).toArray⟩ ++ ⟨(Cw.text s.data.toList).toArray⟩ ++ s = t ∧ t.size ≤ 1000 ∧
      Cw.takeU t.data.toList 0 = (a, p1, 0) ∧ takeIv (Cw.takeU t.data.toList p1) = (m, p2, 0) ∧ takeB t.data.toList p2 = (decide (m < 0), p3, 0) ∧ Cw.takeT t.data.toList p3 s.size = (s.data.toList, p4, 0) ∧ p4 = (t.size : Int) - (s.size : Int) := by
  have hsz : s.data.toList.length = s.size := by simp
  have hla := Cw.vint_len_10 a (by rw [Cw.m64] at ha; omega)
  have hfl := Cw.fold_lt m h0 h1
  have hlb := Cw.vint_len_10 (Cw.fold m) (by have := Cw.m64; omega)
  have hlt := Cw.vint_len_10 s.size (by omega)
  have htl : (Cw.text s.data.toList).length = (Cw.vint s.size).length + s.size := by unfold Cw.text; rw [List.length_append, hsz]
  have hbl : (Cw.boolB (decide (m < 0))).length = 1 := by unfold Cw.boolB; split <;> rfl
  have hL : (s.data.toList.length : Int) < Cw.M64 := by rw [hsz, Cw.m64]; omega
  refine ⟨⟨(Cw.vint a ++ (Cw.vint (Cw.fold m) ++ (Cw.boolB (decide (m < 0)) ++ (Cw.text s.data.toList ++ s.data.toList)))).toArray⟩, (Cw.vint a).length, (Cw.vint a).length + (Cw.vint (Cw.fold m)).length,
    (Cw.vint a).length + (Cw.vint (Cw.fold m)).length + 1, (Cw.vint a).length + (Cw.vint (Cw.fold m)).length + 1 + (Cw.text s.data.toList).length, ?_, ?_, ?_, ?_, ?_, ?_, ?_⟩
  · rw [app_mk, app_mk, app_mk, app_s]; simp
  · rw [size_mk]; simp only [List.length_append]; omega
  · show Cw.takeU (Cw.vint a ++ _) 0 = _
    exact takeU_vint a _ ha
  · show takeIv (Cw.takeU (Cw.vint a ++ _) _) = _
    rw [takeU_at _ _ _ hfl]
    simp [takeIv, Cw.unfold_fold]
  · have := takeB_at (Cw.vint a ++ Cw.vint (Cw.fold m)) (Cw.text s.data.toList ++ s.data.toList) (decide (m < 0))
    rw [List.length_append, List.append_assoc] at this
    push_cast at this
    exact this
  · have := takeT_at (Cw.vint a ++ (Cw.vint (Cw.fold m) ++ Cw.boolB (decide (m < 0)))) s.data.toList s.data.toList s.size hL (by omega)
    simp only [List.length_append, List.append_assoc, hbl] at this
    push_cast at this
    rw [show ((Cw.vint a).length : Int) + (Cw.vint (Cw.fold m)).length + 1 = (Cw.vint a).length + ((Cw.vint (Cw.fold m)).length + 1) by omega]
    exact this
  · rw [size_mk]; simp only [List.length_append]; push_cast; omega

theorem front_toList (s : ByteArray) (k : Nat) : (s.extract 0 k).toList = s.data.toList.take k := by
  rw [ByteArray.toList_eq, extract_str]; simp
theorem bne_self (l : List UInt8) : (!l == l) = false := by simp
theorem takeIv_cases {l : List UInt8} {u n e : Int} (h : takeIv (Cw.takeU l 0) = (u, n, e)) (he : e = 0) : ∃ v : Nat, Cw.takeU l 0 = (v, n, 0) ∧ u = Cw.unfold v ∧ (v : Int) < Cw.M64 := by
  subst he
  rcases Cw.takeU_cases l 0 with ⟨u1, n1, e1, h1, h2, h3, h4, h5⟩ | ⟨e1, h1, h2⟩
  · rw [e1] at h
    simp only [takeIv, ne_eq, not_true_eq_false, if_false, Prod.mk.injEq] at h
    exact ⟨u1, by rw [e1, h.2.1], h.1.symm, h1⟩
  · rw [h1] at h
    simp only [takeIv] at h
    rw [if_pos (by omega)] at h
    simp only [Prod.mk.injEq] at h; omega

set_option maxHeartbeats 2000000 in
set_option maxRecDepth 100000 in
theorem walkWireRoundTrips (u : Int) (wu : (Lit.int .u64 u).wf = true) (m : Int) (wm : (Lit.int .i64 m).wf = true) (s : ByteArray) (_ : s.size ≤ 140737488351232) (w : World) :
    Calls Try.prog 10 #[.int .u64 u, .int .i64 m, .string s] w fun e w' => e = .returned (.bool true) ∧ Below w.heap.size w w' := by
  have HU := Cw.Box.mk (wf_u64 wu)
  have HM := Cw.Box.mk (wf_i64 wm)
  obtain ⟨a, rfl⟩ := Int.eq_ofNat_of_zero_le HU.out.1
  clear wu wm
  by_cases hs : 300 < s.size
  · go_enter Try.func10, Try.ntmps10
    go_wp2_with fail
    refine (works_any _).mono ?_
    rintro e w1 ⟨rfl, hb1⟩
    go_wp2
    go_ret
    exact ⟨rfl, hb1⟩
  · have hS : Cw.Box (s.size ≤ 1073741824) := ⟨by omega⟩
    have hsz : s.data.toList.length = s.size := by simp
    have hla := Cw.vint_len_10 a (by have := HU.out.2; have := Cw.m64; omega)
    have hlb := Cw.vint_len_10 (Cw.fold m) (by have := Cw.m64; have := Cw.fold_lt m HM.out.1 HM.out.2; omega)
    have htl : (Cw.text s.data.toList).length ≤ 310 := by have := Cw.vint_len_10 s.size (by omega); unfold Cw.text; rw [List.length_append, hsz]; omega
    have hbl : (Cw.boolB (decide (m < 0))).length ≤ 1 := by unfold Cw.boolB; split <;> simp
    obtain ⟨t, p1, p2, p3, p4, ht, hts, g1, g2, g3, g4, g5⟩ := joined a m s HU.out.2 HM.out.1 HM.out.2 (by omega)
    have HT := Cw.Box.mk ht
    have G1 := Cw.Box.mk g1
    have G2 := Cw.Box.mk g2
    have G3 := Cw.Box.mk g3
    have G4 := Cw.Box.mk g4
    have hp : (p4 != (t.size : Int) - (s.size : Int)) = false := by rw [g5]; simp
    have HTS : Cw.Box (t.size ≤ 1073741824) := ⟨by omega⟩
    have m1 : Cw.Box ((s.size : Int) ≤ 9223372036854775807) := ⟨by omega⟩
    obtain ⟨u1, n1, e1, h1⟩ := takeU_ex s.data.toList 0
    obtain ⟨u2, n2, e2, h2⟩ := takeIv_ex (Cw.takeU s.data.toList 0)
    obtain ⟨u3, n3, e3, h3⟩ := takeB_ex s.data.toList 0
    obtain ⟨u4, n4, e4, h4⟩ := takeT_ex s.data.toList 0 300
    clear ht g1 g2 g3 g4 g5 hsz
    go_enter Try.func10, Try.ntmps10
    go_wp2_with fail
    refine (uint_any _ _ HU.out.1 HU.out.2).mono ?_
    rintro e w1 ⟨rfl, hb1⟩
    go_wp2_with fail
    refine (int_any _ _ HM.out.1 HM.out.2).mono ?_
    rintro e w2 ⟨rfl, hb2⟩
    go_wp2_with fail
    refine (bool_any _ _).mono ?_
    rintro e w' ⟨rfl, rfl⟩
    go_wp2_with fail
    refine (text_any _ _ hS.out).mono ?_
    rintro e w3 ⟨rfl, hb3⟩
    go_wp2_with fail
    rw [HT.out]
    refine (takeuint_any _ _ _ HTS.out _ _ _ G1.out).mono ?_
    rintro e w' ⟨rfl, rfl⟩
    go_wp2_with fail
    refine (takeint_any _ _ _ HTS.out _ _ _ G2.out).mono ?_
    rintro e w' ⟨rfl, rfl⟩
    go_wp2_with fail
    refine (takebool_any _ _ _ HTS.out _ _ _ G3.out).mono ?_
    rintro e w' ⟨rfl, rfl⟩
    go_wp2_with fail
    refine (taketext_any _ _ _ _ HTS.out m1.out _ _ _ G4.out).mono ?_
    rintro e w' ⟨rfl, rfl⟩
    go_wp2_with fail
    refine (takeuint_any _ _ _ hS.out _ _ _ h1).mono ?_
    rintro e w' ⟨rfl, rfl⟩
    go_wp2_with fail
    go_cut [136] (fun x wx => x = .bool false ∧ Below w3.heap.size w3 wx)
    case first =>
      by_cases c1 : e1 = 0
      · subst c1
        obtain ⟨i1, i2, i3⟩ := takeU_is h1.out
        have hu1 := Cw.Box.mk (takeU_lt h1.out)
        obtain ⟨k1, rfl⟩ := Int.eq_ofNat_of_zero_le (show 0 ≤ n1 by omega)
        have i4 : k1 ≤ s.size := by simpa using i2
        have hcmp : Cw.Box ((s.extract 0 k1).toList = Cw.vint u1) := ⟨by rw [i3, front_toList]; rfl⟩
        have q1 : decide ((k1 : Int) < 1) = false := by simp; omega
        have q2 : ¬ k1 = 0 := by omega
        have q3 : decide (s.size < k1) = false := by simp; omega
        have q4 : decide ((s.size : Int) < (k1 : Int)) = false := by simp; omega
        clear i3 i2
        refine Soft.region (by kernel_rfl) (by kernel_rfl) ?_
        repeat (go_big_quiet_step ((go_at_call 12; exact Soft.call (uint_any _ _ (by omega) hu1.out))))
        refine wpQuiet_nil ?_
        rintro _ ⟨⟨wz, hz⟩, rfl⟩
        go_wp2_with fail
        go_meet
        exact ⟨congrArg Value.bool (by rw [hcmp.out]; exact bne_self _), hz⟩
      · have hb1' : (e1 == 0) = false := by rw [beq_eq_false_iff_ne]; exact c1
        clear c1
        refine Soft.region (by kernel_rfl) (by kernel_rfl) ?_
        repeat (go_big_quiet_step (fail))
        refine wpQuiet_nil ?_
        rintro _ ⟨⟨wz, hz⟩, rfl⟩
        go_wp2_with fail
        go_meet
        exact ⟨rfl, hz⟩
    case rest =>
      obtain ⟨rfl, hbc⟩ := hcut
      go_wp2_with fail
      refine (takeint_any _ _ _ hS.out _ _ _ h2).mono ?_
      rintro e w' ⟨rfl, rfl⟩
      go_wp2_with fail
      go_cut [162] (fun x wx => x = .bool false ∧ Below wc.heap.size wc wx)
      case first =>
        by_cases c1 : e2 = 0
        · subst c1
          obtain ⟨v2, j1, rfl, j3⟩ := takeIv_cases h2.out rfl
          obtain ⟨i1, i2, i3⟩ := takeU_is j1
          have hu2 := Cw.Box.mk (Cw.unfold_in v2 j3)
          obtain ⟨k2, rfl⟩ := Int.eq_ofNat_of_zero_le (show 0 ≤ n2 by omega)
          have i4 : k2 ≤ s.size := by simpa using i2
          have hcmp : Cw.Box ((s.extract 0 k2).toList = Cw.vint (Cw.fold (Cw.unfold v2))) := ⟨by rw [Cw.fold_unfold, i3, front_toList]; rfl⟩
          have q1 : decide ((k2 : Int) < 1) = false := by simp; omega
          have q2 : ¬ k2 = 0 := by omega
          have q3 : decide (s.size < k2) = false := by simp; omega
          have q4 : decide ((s.size : Int) < (k2 : Int)) = false := by simp; omega
          clear i3 i2 j1 j3
          refine Soft.region (by kernel_rfl) (by kernel_rfl) ?_
          repeat (go_big_quiet_step ((go_at_call 14; exact Soft.call (int_any _ _ hu2.out.1 hu2.out.2))))
          refine wpQuiet_nil ?_
          rintro _ ⟨⟨wz, hz⟩, rfl⟩
          go_wp2_with fail
          go_meet
          exact ⟨congrArg Value.bool (by rw [hcmp.out]; exact bne_self _), hz⟩
        · have hb1' : (e2 == 0) = false := by rw [beq_eq_false_iff_ne]; exact c1
          clear c1
          refine Soft.region (by kernel_rfl) (by kernel_rfl) ?_
          repeat (go_big_quiet_step (fail))
          refine wpQuiet_nil ?_
          rintro _ ⟨⟨wz, hz⟩, rfl⟩
          go_wp2_with fail
          go_meet
          exact ⟨rfl, hz⟩
      case rest =>
        obtain ⟨rfl, hbd⟩ := hcut
        go_wp2_with fail
        refine (takebool_any _ _ _ hS.out _ _ _ h3).mono ?_
        rintro e w' ⟨rfl, rfl⟩
        go_wp2_with fail
        go_cut [181] (fun x wx => x = .bool false ∧ Below wc.heap.size wc wx)
        case first =>
          by_cases c1 : e3 = 0
          · subst c1
            obtain ⟨j1, j2, j3⟩ := takeB_is h3.out
            have hn : ((n3 : Int) != 1) = false := by rw [j1]; rfl
            have i4 : 1 ≤ s.size := by simpa using j2
            have hcmp : Cw.Box ((s.extract 0 1).toList = Cw.boolB u3) := ⟨by rw [j3, front_toList]⟩
            clear j1 j2 j3
            refine Soft.region (by kernel_rfl) (by kernel_rfl) ?_
            repeat (go_big_quiet_step ((go_at_call 16; exact Soft.same (bool_any _ _))))
            refine wpQuiet_nil ?_
            rintro _ ⟨⟨wz, hz⟩, rfl⟩
            go_wp2_with fail
            go_meet
            exact ⟨congrArg Value.bool (by rw [hcmp.out]; exact bne_self _), hz⟩
          · have hb1' : (e3 == 0) = false := by rw [beq_eq_false_iff_ne]; exact c1
            clear c1
            refine Soft.region (by kernel_rfl) (by kernel_rfl) ?_
            repeat (go_big_quiet_step (fail))
            refine wpQuiet_nil ?_
            rintro _ ⟨⟨wz, hz⟩, rfl⟩
            go_wp2_with fail
            go_meet
            exact ⟨rfl, hz⟩
        case rest =>
          obtain ⟨rfl, hbe⟩ := hcut
          go_wp2_with fail
          refine (taketext_any _ _ _ _ hS.out (by decide) _ _ _ h4).mono ?_
          rintro e w' ⟨rfl, rfl⟩
          go_wp2_with fail
          by_cases c1 : e4 = 0
          · subst c1
            obtain ⟨j1, j2, j3⟩ := takeT_is h4.out
            obtain ⟨k4, rfl⟩ := Int.eq_ofNat_of_zero_le (show 0 ≤ n4 by omega)
            have i4 : k4 ≤ s.size := by simpa using j2
            have i5 : 0 < k4 := by omega
            have q1 : decide (1 ≤ (k4 : Int)) = true := by simp; omega
            have q2 : ¬ k4 = 0 := by omega
            have q3 : decide (k4 ≤ s.size) = true := by simp; omega
            have q4 : decide ((k4 : Int) ≤ (s.size : Int)) = true := by simp; omega
            have ht : Cw.Box ((⟨u4.toArray⟩ : ByteArray).size ≤ 1073741824) := ⟨by
              rw [size_mk]
              have h1 : (Cw.text u4).length = (Cw.vint u4.length).length + u4.length := by unfold Cw.text; rw [List.length_append]
              have h2 := congrArg List.length j3
              rw [List.length_take] at h2; omega⟩
            have hcmp : (Cw.text u4 == (s.extract 0 k4).toList) = true := by rw [front_toList, j3]; simp
            clear j1 j2 j3
            refine Soft.region (by kernel_rfl) (by kernel_rfl) ?_
            repeat (go_big_quiet_step (first
              | (go_at_call 18; exact Soft.call (text_any _ _ ht.out))
              | (go_at_call 11; exact Soft.call (works_any _))))
            refine wpQuiet_nil ?_
            rintro _ ⟨⟨wz, hz⟩, rfl⟩
            go_wp2_with fail
            go_ret
            exact ⟨rfl, bthen (bthen (bthen (bthen (bthen (bthen hb1 hb2) hb3) hbc) hbd) hbe) hz⟩
          · have hb1' : (e4 != 0) = true := by rw [bne_iff_ne]; exact c1
            clear c1
            refine Soft.region (by kernel_rfl) (by kernel_rfl) ?_
            repeat (go_big_quiet_step (first
              | (go_at_call 11; exact Soft.call (works_any _))))
            refine wpQuiet_nil ?_
            rintro _ ⟨⟨wz, hz⟩, rfl⟩
            go_wp2_with fail
            go_ret
            exact ⟨rfl, bthen (bthen (bthen (bthen (bthen (bthen hb1 hb2) hb3) hbc) hbd) hbe) hz⟩
end Go.Proofs.Ytgpcfdgdfejmmaa
