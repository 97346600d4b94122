/- The codec of requests, plainly: what is encoded is decoded, what is decoded was encoded; no program. -/
import Derived.Test.YtemeiopghbpamaaBo
set_option linter.unusedSimpArgs false
set_option linter.unusedVariables false
namespace Go.Proofs.Ytemeiopghbpamaa
open Go Ab Go.RowKit

theorem takeU_shift (l : List UInt8) (a : Nat) (h : a ≤ l.length) : Cw.takeU l a = match Cw.takeU (l.drop a) 0 with
    | (u, n, e) => (u, if e = 0 then n + a else n, e) := by
  rw [Cw.takeU_in h, show (0 : Int) = ((0 : Nat) : Int) from rfl, Cw.takeU_in (Nat.zero_le _), List.drop_zero]
  rcases Cw.vrun_shape (l.drop a) 0 0 (by omega) (by decide) with ⟨u, n, e, h1, h2, h3, h4⟩ | e | e
  · rw [e]; simp; omega
  · rw [e]; simp
  · rw [e]; simp
theorem takeT_shift (l : List UInt8) (a : Nat) (h : a ≤ l.length) (m : Int) : Cw.takeT l a m = match Cw.takeT (l.drop a) 0 m with
    | (u, n, e) => (u, if e = 0 then n + a else n, e) := by
  unfold Cw.takeT Cw.takeC
  rw [takeU_shift l a h]
  rcases Cw.takeU_cases (l.drop a) 0 with ⟨u, n, e1, h1, h2, h3, h4, h5⟩ | ⟨e, e1, h2⟩
  · rw [e1]
    simp only [ne_eq, not_true_eq_false, if_false, if_true, List.length_drop] at h5 ⊢
    obtain ⟨k, rfl⟩ := Int.eq_ofNat_of_zero_le (show 0 ≤ n by omega)
    by_cases hl : m < 0 ∨ m < u
    · simp only [if_pos hl]; simp
    · simp only [if_neg hl]
      by_cases ht : ((l.length - a : Nat) : Int) - k < u
      · rw [if_pos ht, if_pos (show ((l.length : Nat) : Int) - ((k : Int) + (a : Int)) < (u : Int) by omega)]; simp
      · rw [if_neg ht, if_neg (show ¬ ((l.length : Nat) : Int) - ((k : Int) + (a : Int)) < (u : Int) by omega)]
        simp only [if_true, not_true_eq_false, if_false, List.drop_drop]
        refine Prod.ext ?_ (Prod.ext ?_ rfl)
        · show List.take u (List.drop ((k : Int) + (a : Int)).toNat l) = List.take u (List.drop (a + (k : Int).toNat) l)
          rw [show ((k : Int) + (a : Int)).toNat = a + (k : Int).toNat by omega]
        · show (k : Int) + a + u = k + u + a
          omega
  · rw [e1]
    have : e ≠ 0 := by omega
    simp [this]
theorem takeU_vint (u : Nat) (r : List UInt8) (hu : (u : Int) < Cw.M64) : Cw.takeU (Cw.vint u ++ r) 0 = (u, ((Cw.vint u).length : Int), 0) := by
  rw [Cw.m64] at hu
  rw [show (0 : Int) = ((0 : Nat) : Int) from rfl, Cw.takeU_in (Nat.zero_le _), List.drop_zero, Cw.vrun_vint r u 0 0 (by omega) (.inl rfl) (by omega)]
  simp
theorem takeC_text (l r : List UInt8) (m : Int) (hl : (l.length : Int) < Cw.M64) : Cw.takeC (Cw.text l ++ r) 0 m = if m < l.length then (0, 0, 2) else (l.length, ((Cw.vint l.length).length : Int), 0) := by
  unfold Cw.takeC Cw.text
  rw [List.append_assoc, takeU_vint _ _ hl]
  simp only [ne_eq, not_true_eq_false, if_false, List.length_append]
  by_cases h : m < l.length
  · rw [if_pos (.inr h), if_pos h]
  · rw [if_neg (by omega), if_neg h, if_neg (by omega)]
theorem takeT_text (l r : List UInt8) (m : Int) (hl : (l.length : Int) < Cw.M64) : Cw.takeT (Cw.text l ++ r) 0 m = if m < l.length then ([], 0, 2) else (l, ((Cw.text l).length : Int), 0) := by
  unfold Cw.takeT
  rw [takeC_text l r m hl]
  by_cases h : m < l.length
  · simp only [if_pos h]; rfl
  · simp only [if_neg h, ne_eq, not_true_eq_false, if_false, Int.toNat_natCast]
    unfold Cw.text
    simp
theorem takeU_at (p r : List UInt8) (u : Nat) (hu : (u : Int) < Cw.M64) : Cw.takeU (p ++ (Cw.vint u ++ r)) (p.length : Nat) = (u, (p.length : Int) + ((Cw.vint u).length : Int), 0) := by
  rw [takeU_shift _ _ (by simp), List.drop_left, takeU_vint u r hu]
  simp; omega
theorem takeB_at (p r : List UInt8) (b : Bool) : takeB (p ++ (Cw.boolB b ++ r)) (p.length : Nat) = (b, (p.length : Int) + 1, 0) := by
  unfold takeB
  rw [if_neg (by simp; omega), Int.toNat_natCast, List.drop_left]
  cases b <;> rfl
theorem takeT_at (p r l : List UInt8) (m : Int) (hl : (l.length : Int) < Cw.M64) (hm : (l.length : Int) ≤ m) : Cw.takeT (p ++ (Cw.text l ++ r)) (p.length : Nat) m = (l, (p.length : Int) + ((Cw.text l).length : Int), 0) := by
  rw [takeT_shift _ _ (by simp), List.drop_left, takeT_text l r m hl, if_neg (by omega)]
  simp; omega
theorem takeU_is {l : List UInt8} {u : Nat} {n : Int} (h : Cw.takeU l 0 = (u, n, 0)) : 1 ≤ n ∧ n ≤ l.length ∧ Cw.vint u = l.take n.toNat := by
  rw [show (0 : Int) = ((0 : Nat) : Int) from rfl, Cw.takeU_in (Nat.zero_le _), List.drop_zero] at h
  rcases Cw.vrun_shape l 0 0 (by omega) (by decide) with ⟨u', n', e, h1, h2, h3, h4⟩ | e | e
  · rw [e] at h
    simp only [Prod.mk.injEq] at h
    obtain ⟨rfl, hn, -⟩ := h
    obtain ⟨v, e1, e2, e3, e4, e5⟩ := Cw.vrun_is_vint l 0 u' n' (by omega) e
    have hv : u' = v := by omega
    subst hv
    have : n.toNat = n' - 0 := by omega
    rw [this]
    exact ⟨by omega, by omega, e3⟩
  · rw [e] at h; simp at h
  · rw [e] at h; simp at h
theorem takeU_lt {l : List UInt8} {a : Int} {u : Nat} {n e : Int} (h : Cw.takeU l a = (u, n, e)) : (u : Int) < Cw.M64 := by
  rcases Cw.takeU_cases l a with ⟨u1, n1, e1, h1, h2, h3, h4, h5⟩ | ⟨e1, h1, h2⟩
  · rw [e1] at h; simp only [Prod.mk.injEq] at h; rw [← h.1]; exact h1
  · rw [h1] at h; simp only [Prod.mk.injEq] at h; rw [← h.1, Cw.m64]; omega
theorem takeT_is {l t : List UInt8} {m n : Int} (h : Cw.takeT l 0 m = (t, n, 0)) : 1 ≤ n ∧ n ≤ l.length ∧ Cw.text t = l.take n.toNat := by
  unfold Cw.takeT at h
  rcases takeC_cases l 0 m with ⟨u1, n1, e1, h1, h2, h3, h4⟩ | ⟨e1, h1, h2⟩
  · rw [e1] at h
    simp only [ne_eq, not_true_eq_false, if_false, Prod.mk.injEq] at h
    obtain ⟨h5, h6, -⟩ := h
    have hU : Cw.takeU l 0 = (u1, n1, 0) := by
      unfold Cw.takeC at e1
      rcases Cw.takeU_cases l 0 with ⟨u2, n2, e2, g1, g2, g3, g4, g5⟩ | ⟨e2, g1, g2⟩
      · rw [e2] at e1 ⊢
        simp only [ne_eq, not_true_eq_false, if_false] at e1
        split at e1
        · simp at e1
        · split at e1
          · simp at e1
          · exact e1
      · rw [g1] at e1
        simp only at e1
        rw [if_pos (by omega)] at e1
        simp only [Prod.mk.injEq] at e1
        omega
    obtain ⟨f1, f2, f3⟩ := takeU_is hU
    refine ⟨by omega, by omega, ?_⟩
    have ht : t.length = u1 := by rw [← h5, List.length_take, List.length_drop]; omega
    unfold Cw.text
    rw [ht, f3, ← h5, show n.toNat = n1.toNat + u1 by omega, List.take_add]
  · rw [h1] at h
    simp only at h
    rw [if_pos (by omega)] at h
    simp only [Prod.mk.injEq] at h; omega
/-! A part of a list -/
def seg (l : List UInt8) (a b : Nat) : List UInt8 := (l.drop a).take (b - a)
theorem seg_app (l : List UInt8) (a b c : Nat) (h : a ≤ b) (h2 : b ≤ c) : seg l a b ++ seg l b c = seg l a c := by
  unfold seg
  rw [show c - a = (b - a) + (c - b) by omega, List.take_add, List.drop_drop, show a + (b - a) = b by omega]
theorem seg_len (l : List UInt8) (a b : Nat) (h2 : b ≤ l.length) : (seg l a b).length = b - a := by
  unfold seg
  rw [List.length_take, List.length_drop]; omega
theorem seg_split (l : List UInt8) (a b : Nat) (h : a ≤ b) : l = l.take a ++ (seg l a b ++ l.drop b) := by
  have e : seg l a b ++ l.drop b = l.drop a := by
    unfold seg
    have := List.take_append_drop (b - a) (l.drop a)
    rw [List.drop_drop, show a + (b - a) = b by omega] at this
    exact this
  rw [e, List.take_append_drop]
/-- Between a and b the list holds these bytes. -/
def At (l : List UInt8) (a b : Int) (bs : List UInt8) : Prop := ∃ x y : Nat, a = x ∧ b = y ∧ x ≤ y ∧ y ≤ l.length ∧ bs = seg l x y
theorem At.trans {l : List UInt8} {a b c : Int} {xs ys : List UInt8} (h : At l a b xs) (k : At l b c ys) : At l a c (xs ++ ys) := by
  obtain ⟨x, y, rfl, rfl, h1, h2, rfl⟩ := h
  obtain ⟨y', z, e, rfl, k1, k2, rfl⟩ := k
  obtain rfl : y = y' := by omega
  exact ⟨x, z, rfl, rfl, by omega, k2, seg_app l x y z h1 k1⟩
theorem At.refl {l : List UInt8} {a : Int} (h0 : 0 ≤ a) (h1 : a ≤ l.length) : At l a a [] := by
  obtain ⟨x, rfl⟩ := Int.eq_ofNat_of_zero_le h0
  exact ⟨x, x, rfl, rfl, Nat.le_refl _, by omega, by simp [seg]⟩
theorem At.len {l : List UInt8} {a b : Int} {xs : List UInt8} (h : At l a b xs) : 0 ≤ a ∧ b = a + (xs.length : Int) ∧ b ≤ l.length := by
  obtain ⟨x, y, rfl, rfl, h1, h2, rfl⟩ := h
  rw [seg_len l x y h2]; omega
theorem At.split {l : List UInt8} {a c : Int} {xs ys : List UInt8} (h : At l a c (xs ++ ys)) : At l a (a + (xs.length : Int)) xs ∧ At l (a + (xs.length : Int)) c ys := by
  obtain ⟨x, z, rfl, rfl, h1, h2, h3⟩ := h
  have hl := congrArg List.length h3
  rw [seg_len l x z h2, List.length_append] at hl
  have h4 := seg_app l x (x + xs.length) z (by omega) (by omega)
  rw [← h3] at h4
  obtain ⟨h5, h6⟩ := List.append_inj h4 (by rw [seg_len l _ _ (by omega)]; omega)
  exact ⟨⟨x, x + xs.length, rfl, by omega, by omega, by omega, h5.symm⟩, ⟨x + xs.length, z, by omega, rfl, by omega, h2, h6.symm⟩⟩
theorem At.cut {l : List UInt8} {a c : Int} {xs ys : List UInt8} (h : At l a c (xs ++ ys)) : ∃ b, At l a b xs ∧ At l b c ys := ⟨_, h.split⟩
theorem At.whole (p bs r : List UInt8) : At (p ++ (bs ++ r)) (p.length : Nat) ((p.length : Int) + (bs.length : Int)) bs := by
  refine ⟨p.length, p.length + bs.length, rfl, by omega, by omega, by simp only [List.length_append]; omega, ?_⟩
  unfold seg
  rw [List.drop_left, show p.length + bs.length - p.length = bs.length by omega, List.take_left]
theorem At.eq {l : List UInt8} {n : Int} {bs : List UInt8} (h : At l 0 n bs) : bs = l.take n.toNat := by
  obtain ⟨x, y, h0, rfl, h1, h2, rfl⟩ := h
  obtain rfl : x = 0 := by omega
  simp [seg]
/-! Words -/
theorem takeU_IS {l : List UInt8} {a n : Int} {u : Nat} (h : Cw.takeU l a = (u, n, 0)) : At l a n (Cw.vint u) ∧ a < n := by
  rcases Cw.takeU_cases l a with ⟨u1, n1, e1, h1, h2, h3, h4, h5⟩ | ⟨e1, h1, h2⟩
  · obtain ⟨x, rfl⟩ := Int.eq_ofNat_of_zero_le h2
    have hx : x ≤ l.length := by omega
    have hs := takeU_shift l x hx
    rw [h] at hs
    generalize hq : Cw.takeU (l.drop x) 0 = q at hs
    obtain ⟨u', n', e'⟩ := q
    simp only [Prod.mk.injEq] at hs
    obtain ⟨rfl, hn, rfl⟩ := hs
    rw [if_pos rfl] at hn
    obtain ⟨g1, g2, g3⟩ := takeU_is hq
    rw [List.length_drop] at g2
    refine ⟨⟨x, x + n'.toNat, rfl, by omega, by omega, by omega, ?_⟩, by omega⟩
    rw [g3]; unfold seg
    rw [show x + n'.toNat - x = n'.toNat by omega]
  · rw [h1] at h; simp only [Prod.mk.injEq] at h; omega
theorem takeU_RT {l : List UInt8} {a n : Int} {u : Nat} (h : At l a n (Cw.vint u)) (hu : (u : Int) < Cw.M64) : Cw.takeU l a = (u, n, 0) := by
  have hl := h.len
  obtain ⟨x, y, rfl, rfl, h1, h2, h3⟩ := h
  have e := seg_split l x y h1
  rw [← h3] at e
  have := takeU_at (l.take x) (l.drop y) u hu
  rw [← e, List.length_take, show min x l.length = x by omega] at this
  rw [this, hl.2.1]
theorem takeC_U {l : List UInt8} {a n m : Int} {u : Nat} (h : Cw.takeC l a m = (u, n, 0)) : Cw.takeU l a = (u, n, 0) ∧ (u : Int) ≤ m ∧ (u : Int) ≤ (l.length : Int) - n := by
  unfold Cw.takeC at h
  rcases Cw.takeU_cases l a with ⟨u2, n2, e2, g1, g2, g3, g4, g5⟩ | ⟨e2, g1, g2⟩
  · rw [e2] at h ⊢
    simp only [ne_eq, not_true_eq_false, if_false] at h
    split at h
    · simp at h
    · split at h
      · simp at h
      · simp only [Prod.mk.injEq] at h
        obtain ⟨rfl, rfl, _⟩ := h
        exact ⟨rfl, by omega, by omega⟩
  · rw [g1] at h
    simp only at h
    rw [if_pos (by omega)] at h
    simp only [Prod.mk.injEq] at h; omega
theorem takeC_RT {l : List UInt8} {a n m : Int} {u : Nat} (h : At l a n (Cw.vint u)) (hu : (u : Int) < Cw.M64) (hm : (u : Int) ≤ m) (hr : (u : Int) ≤ (l.length : Int) - n) : Cw.takeC l a m = (u, n, 0) := by
  unfold Cw.takeC
  rw [takeU_RT h hu]
  simp only [ne_eq, not_true_eq_false, if_false]
  rw [if_neg (by omega), if_neg (by omega)]
theorem takeT_IS {l t : List UInt8} {a n m : Int} (h : Cw.takeT l a m = (t, n, 0)) : At l a n (Cw.text t) := by
  unfold Cw.takeT at h
  generalize hq : Cw.takeC l a m = q at h
  obtain ⟨u, n1, e1⟩ := q
  simp only at h
  by_cases he : e1 = 0
  · subst he
    rw [if_neg (by simp)] at h
    simp only [Prod.mk.injEq] at h
    obtain ⟨rfl, rfl, _⟩ := h
    obtain ⟨hU, h2, h3⟩ := takeC_U hq
    obtain ⟨hA, hlt⟩ := takeU_IS hU
    have hl := hA.len
    obtain ⟨k, rfl⟩ := Int.eq_ofNat_of_zero_le (show 0 ≤ n1 by omega)
    have ht : ((l.drop (k : Int).toNat).take u).length = u := by rw [List.length_take, List.length_drop]; omega
    unfold Cw.text
    rw [ht]
    refine hA.trans ⟨k, k + u, rfl, by omega, by omega, by omega, ?_⟩
    unfold seg
    rw [show k + u - k = u by omega]; rfl
  · rw [if_pos he] at h
    simp only [Prod.mk.injEq] at h; omega
theorem takeT_RT {l t : List UInt8} {a n m : Int} (h : At l a n (Cw.text t)) (ht : (t.length : Int) < Cw.M64) (hm : (t.length : Int) ≤ m) : Cw.takeT l a m = (t, n, 0) := by
  have hl := h.len
  obtain ⟨x, y, rfl, rfl, h1, h2, h3⟩ := h
  have e := seg_split l x y h1
  rw [← h3] at e
  have := takeT_at (l.take x) (l.drop y) t m ht hm
  rw [← e, List.length_take, show min x l.length = x by omega] at this
  rw [this, hl.2.1]
theorem takeB_IS {l : List UInt8} {a n : Int} {b : Bool} (h : takeB l a = (b, n, 0)) : At l a n (Cw.boolB b) := by
  unfold takeB at h
  by_cases ha : a < 0 ∨ (l.length : Int) < a
  · rw [if_pos ha] at h; simp at h
  rw [if_neg ha] at h
  obtain ⟨x, rfl⟩ := Int.eq_ofNat_of_zero_le (show 0 ≤ a by omega)
  rw [Int.toNat_natCast] at h
  cases hd : l.drop x with
  | nil => rw [hd] at h; simp at h
  | cons c r =>
    rw [hd] at h
    simp only at h
    have hlen := congrArg List.length hd
    rw [List.length_drop, List.length_cons] at hlen
    by_cases hc : 1 < c.toNat
    · rw [if_pos hc] at h; simp at h
    · rw [if_neg hc] at h
      simp only [Prod.mk.injEq] at h
      obtain ⟨rfl, rfl, _⟩ := h
      refine ⟨x, x + 1, rfl, by omega, by omega, by omega, ?_⟩
      unfold seg
      rw [hd, show x + 1 - x = 1 by omega]
      have : c.toNat = 0 ∨ c.toNat = 1 := by omega
      rcases this with e | e
      · have : c = 0 := UInt8.toNat_inj.1 e
        subst this; rfl
      · have : c = 1 := UInt8.toNat_inj.1 e
        subst this; rfl
theorem takeB_RT {l : List UInt8} {a n : Int} {b : Bool} (h : At l a n (Cw.boolB b)) : takeB l a = (b, n, 0) := by
  have hl := h.len
  obtain ⟨x, y, rfl, rfl, h1, h2, h3⟩ := h
  have e := seg_split l x y h1
  rw [← h3] at e
  have := takeB_at (l.take x) (l.drop y) b
  rw [← e, List.length_take, show min x l.length = x by omega] at this
  have hb : (Cw.boolB b).length = 1 := by cases b <;> rfl
  rw [this, hl.2.1, hb]; rfl
/-! Values -/
def valL (v : Vl) : List UInt8 := (valB v).data.toList
theorem app_L (x y : ByteArray) : (x ++ y).data.toList = x.data.toList ++ y.data.toList := by simp
theorem valL_eq (v : Vl) : valL v = if v.kind = 1 then Cw.vint 1 ++ Cw.vint (Cw.fold v.n) else if v.kind = 2 then Cw.vint 2 ++ Cw.text v.s.data.toList else Cw.vint 0 := by
  unfold valL valB
  split
  · rw [app_L]; rfl
  · split
    · rw [app_L]; rfl
    · rfl
theorem nil_of {s : ByteArray} (h : (s.toList == []) = true) : s = ⟨#[]⟩ := by
  rw [size0] at h
  have h0 := of_decide_eq_true h
  apply ByteArray.ext
  exact Array.eq_empty_of_size_eq_zero h0
theorem decV_RT {l : List UInt8} {a n : Int} {v : Vl} (h : At l a n (valL v)) (hv : valV v = true) (h0 : -Cw.M63 ≤ v.n) (h1 : v.n < Cw.M63) : decV l a = (v, n, 0) := by
  rw [valL_eq] at h
  unfold valV at hv
  obtain ⟨kd, m, s⟩ := v
  simp only at h hv h0 h1
  unfold decV
  by_cases k1 : kd = 1
  · subst k1
    rw [if_pos rfl] at h
    obtain ⟨g1, g2⟩ := h.split
    rw [takeU_RT g1 m64_1]
    simp only [ne_eq, not_true_eq_false, if_false, if_true, Nat.one_ne_zero]
    rw [takeU_RT g2 (Cw.fold_lt m h0 h1)]
    simp only [takeIv, ne_eq, not_true_eq_false, if_false, Cw.unfold_fold]
    have hs := nil_of (by simpa using hv)
    rw [hs]
  · rw [if_neg k1] at h
    by_cases k2 : kd = 2
    · subst k2
      rw [if_pos rfl] at h
      obtain ⟨g1, g2⟩ := h.split
      rw [takeU_RT g1 m64_2]
      simp only [ne_eq, not_true_eq_false, if_false, if_true, show ¬ (2 = 0) from by decide, show ¬ (2 = 1) from by decide]
      rw [if_neg (by decide), if_neg (by decide), if_pos rfl] at hv
      simp only [Bool.and_eq_true, beq_iff_eq] at hv
      have hp := hv.2
      have hz : s.data.toList.length ≤ 64 := by
        unfold plainV at hp; simp only [Bool.and_eq_true, decide_eq_true_eq] at hp; rw [dsize]; exact hp.1
      rw [takeT_RT g2 (by rw [Cw.m64]; omega) (by omega)]
      have es : (⟨s.data.toList.toArray⟩ : ByteArray) = s := by apply ByteArray.ext; simp
      simp only [ne_eq, not_true_eq_false, if_false]
      rw [es, if_pos hp, hv.1]
    · rw [if_neg k2] at h
      rw [takeU_RT h m64_0]
      simp only [ne_eq, not_true_eq_false, if_false, if_true]
      by_cases k0 : kd = 0
      · subst k0
        simp only [if_true, Bool.and_eq_true, beq_iff_eq] at hv
        have hs := nil_of (s := s) (by simpa using hv.2)
        rw [hs, hv.1]; rfl
      · rw [if_neg k0, if_neg k1, if_neg k2] at hv; cases hv
theorem decV_IS {l : List UInt8} {a n : Int} {v : Vl} (h : decV l a = (v, n, 0)) : At l a n (valL v) := by
  unfold decV at h
  generalize hq : Cw.takeU l a = q at h
  obtain ⟨kd, n1, e1⟩ := q
  simp only at h
  by_cases he : e1 = 0
  rotate_left
  · rw [if_pos he] at h; simp only [Prod.mk.injEq] at h; omega
  subst he
  rw [if_neg (by simp)] at h
  obtain ⟨hA, _⟩ := takeU_IS hq
  by_cases k0 : kd = 0
  · subst k0
    rw [if_pos rfl] at h
    simp only [Prod.mk.injEq] at h
    obtain ⟨rfl, rfl, _⟩ := h
    rw [valL_eq]
    exact hA
  rw [if_neg k0] at h
  by_cases k1 : kd = 1
  · subst k1
    rw [if_pos rfl] at h
    generalize hr : Cw.takeU l n1 = r at h
    obtain ⟨u, n2, e2⟩ := r
    by_cases he : e2 = 0
    · subst he
      simp only [takeIv, ne_eq, not_true_eq_false, if_false, Prod.mk.injEq] at h
      obtain ⟨rfl, rfl, _⟩ := h
      obtain ⟨hB, _⟩ := takeU_IS hr
      have hu := takeU_lt hr
      rw [valL_eq]
      simp only [if_true]
      rw [Cw.fold_unfold u]
      exact hA.trans hB
    · simp [takeIv, he] at h
  rw [if_neg k1] at h
  by_cases k2 : kd = 2
  · subst k2
    rw [if_pos rfl] at h
    generalize hr : Cw.takeT l n1 64 = r at h
    obtain ⟨t, n2, e2⟩ := r
    simp only at h
    by_cases he : e2 = 0
    · subst he
      rw [if_neg (by simp)] at h
      split at h
      · simp only [Prod.mk.injEq] at h
        obtain ⟨rfl, rfl, _⟩ := h
        rw [valL_eq]
        exact hA.trans (takeT_IS hr)
      · simp at h
    · rw [if_pos he] at h; simp [he] at h
  · rw [if_neg k2] at h; simp at h

/-! Lists of parts -/
theorem foldl_L {α : Type} (f : α → ByteArray) : ∀ (l : List α) (h : ByteArray), (l.foldl (fun acc s => acc ++ f s) h).data.toList = h.data.toList ++ (l.map fun s => (f s).data.toList).flatten
  | [], h => by simp
  | x :: l, h => by
    rw [List.foldl_cons, foldl_L f l, app_L]
    simp
theorem vint_pos (u : Nat) (hu : (u : Int) < Cw.M64) : 1 ≤ (Cw.vint u).length := by
  have h := takeU_vint u [] hu
  rcases Cw.takeU_cases (Cw.vint u ++ []) 0 with ⟨u2, n2, e2, g1, g2, g3, g4, g5⟩ | ⟨e2, g1, g2⟩
  · rw [e2] at h; simp only [Prod.mk.injEq] at h; omega
  · rw [g1] at h; simp only [Prod.mk.injEq] at h; omega
theorem flat_len {α : Type} (f : α → List UInt8) : ∀ (l : List α), (∀ x ∈ l, 1 ≤ (f x).length) → l.length ≤ (l.map f).flatten.length
  | [], _ => Nat.zero_le _
  | x :: l, h => by
    have h1 := h x (by simp)
    have h2 := flat_len f l fun y hy => h y (by simp [hy])
    simp only [List.map_cons, List.flatten_cons, List.length_append, List.length_cons]
    omega
theorem flat_split {α : Type} (f : α → List UInt8) (l : List α) (k : Nat) (h : k < l.length) : (l.map f).flatten = ((l.take k).map f).flatten ++ (f l[k] ++ ((l.drop (k + 1)).map f).flatten) := by
  have e : l = l.take k ++ l[k] :: l.drop (k + 1) := by rw [← List.drop_eq_getElem_cons h, List.take_append_drop]
  have e2 := congrArg (fun q => (q.map f).flatten) e
  simp only [List.map_append, List.map_cons, List.flatten_append, List.flatten_cons] at e2
  exact e2
theorem flat_next {α : Type} (f : α → List UInt8) (l : List α) (k : Nat) (h : k < l.length) : ((l.take (k + 1)).map f).flatten = ((l.take k).map f).flatten ++ f l[k] := by
  rw [List.take_succ_eq_append_getElem h]
  simp only [List.map_append, List.flatten_append, List.map_cons, List.map_nil, List.flatten_cons, List.flatten_nil, List.append_nil]
def textL (s : ByteArray) : List UInt8 := (textB s).data.toList
theorem textL_eq (s : ByteArray) : textL s = Cw.text s.data.toList := rfl
theorem mk_L (s : ByteArray) : (⟨s.data.toList.toArray⟩ : ByteArray) = s := by apply ByteArray.ext; simp
theorem valL_pos (v : Vl) (h0 : -Cw.M63 ≤ v.n) (h1 : v.n < Cw.M63) : 1 ≤ (valL v).length := by
  rw [valL_eq]
  have p1 := vint_pos 1 m64_1
  have p2 := vint_pos 2 m64_2
  have p0 := vint_pos 0 m64_0
  split
  · rw [List.length_append]; omega
  · split
    · rw [List.length_append]; omega
    · omega
theorem textL_pos (s : ByteArray) (h : s.size ≤ 1073741824) : 1 ≤ (textL s).length := by
  rw [textL_eq]; unfold Cw.text
  have p := vint_pos s.data.toList.length (by rw [dsize, Cw.m64]; omega)
  rw [List.length_append]; omega

theorem vsSt_RT (l : List UInt8) (a n : Int) (vs : List Vl) (h : At l a n (vs.map valL).flatten) (hv : ∀ v ∈ vs, valV v = true ∧ -Cw.M63 ≤ v.n ∧ v.n < Cw.M63) : ∀ k, k ≤ vs.length → vsSt l a 0 k = (vs.take k, a + (((vs.take k).map valL).flatten.length : Int), 0)
  | 0, _ => by simp [vsSt]
  | k + 1, hk => by
    have ih := vsSt_RT l a n vs h hv k (by omega)
    rw [flat_split valL vs k (by omega)] at h
    have HH := h.split.2.split.1
    have hd := decV_RT HH (hv _ (List.getElem_mem (by omega))).1 (hv _ (List.getElem_mem (by omega))).2.1 (hv _ (List.getElem_mem (by omega))).2.2
    show (_, _, _) = _
    rw [ih]
    simp only [rdV_ok]
    rw [hd, flat_next valL vs k (by omega), List.take_succ_eq_append_getElem (by omega)]
    simp only []
    rw [List.length_append]
    refine Prod.ext rfl (Prod.ext ?_ rfl)
    simp only []
    omega
theorem vsSt_IS (l : List UInt8) (a : Int) (h0 : 0 ≤ a) (h1 : a ≤ l.length) : ∀ k, (vsSt l a 0 k).2.2 = 0 → At l a (vsSt l a 0 k).2.1 ((vsSt l a 0 k).1.map valL).flatten
  | 0, _ => by simpa [vsSt] using At.refl h0 h1
  | k + 1, he => by
    by_cases hk : (vsSt l a 0 k).2.2 = 0
    · have ih := vsSt_IS l a h0 h1 k hk
      generalize hq : vsSt l a 0 k = q at ih hk
      obtain ⟨vs, b, e⟩ := q
      simp only at ih hk
      subst hk
      have es : vsSt l a 0 (k + 1) = (vs ++ [(decV l b).1], (decV l b).2.1, (decV l b).2.2) := by
        show (_, _, _) = _
        rw [hq]
        simp only [rdV_ok]
      rw [es] at he ⊢
      simp only at he ⊢
      generalize hr : decV l b = r at he ⊢
      obtain ⟨v, n, e⟩ := r
      simp only at he ⊢
      subst he
      have hB := decV_IS hr
      simp only [List.map_append, List.flatten_append, List.map_cons, List.map_nil, List.flatten_cons, List.flatten_nil, List.append_nil]
      exact ih.trans hB
    · have := vsSt_err l a 0 k hk (k + 1) (by omega)
      rw [this] at he; exact absurd he hk
theorem rdVs_RT (l : List UInt8) (a n : Int) (vs : List Vl) (h : At l a n (Cw.vint vs.length ++ (vs.map valL).flatten)) (hm : vs.length ≤ 6) (hv : ∀ v ∈ vs, valV v = true ∧ -Cw.M63 ≤ v.n ∧ v.n < Cw.M63) : rdVs l a 0 = (vs, n, 0) := by
  obtain ⟨g1, g2⟩ := h.split
  have l2 := g2.len
  have hp : vs.length ≤ ((vs.map valL).flatten).length := flat_len valL vs fun v hx => valL_pos v (hv v hx).2.1 (hv v hx).2.2
  unfold rdVs
  rw [rdC_ok, takeC_RT g1 (by rw [Cw.m64]; omega) (m := 6) (by omega) (by omega)]
  simp only []
  rw [vsSt_RT l _ n vs g2 hv vs.length (Nat.le_refl _), List.take_length, l2.2.1]
theorem rdVs_IS (l : List UInt8) (a n : Int) (vs : List Vl) (h : rdVs l a 0 = (vs, n, 0)) : At l a n (Cw.vint vs.length ++ (vs.map valL).flatten) ∧ vs.length ≤ 6 := by
  unfold rdVs at h
  rw [rdC_ok] at h
  rcases takeC_cases l a 6 with ⟨u, n1, h1, h2, h3, h4, h5⟩ | ⟨e1, h1, h2⟩
  · rw [h1] at h
    simp only at h
    obtain ⟨hU, _, _⟩ := takeC_U h1
    obtain ⟨hA, _⟩ := takeU_IS hU
    have hl := hA.len
    have hI := vsSt_IS l n1 (by omega) (by omega) u (by rw [h])
    have hn := vsSt_len l n1 0 u
    rw [h] at hI hn
    simp only at hI hn
    rw [hn]
    exact ⟨hA.trans hI, by omega⟩
  · rw [h1] at h
    simp only [vsSt, Prod.mk.injEq] at h
    omega

theorem ksSt_RT (l : List UInt8) (a n : Int) (vs : List ByteArray) (h : At l a n (vs.map textL).flatten) (hv : ∀ v ∈ vs, v.size ≤ 24) : ∀ k, k ≤ vs.length → ksSt l a 0 k = (vs.take k, a + (((vs.take k).map textL).flatten.length : Int), 0)
  | 0, _ => by simp [ksSt]
  | k + 1, hk => by
    have ih := ksSt_RT l a n vs h hv k (by omega)
    rw [flat_split textL vs k (by omega)] at h
    have HH := h.split.2.split.1
    have hd := takeT_RT (m := 24) HH (by rw [dsize, Cw.m64]; have := hv _ (List.getElem_mem (show k < vs.length by omega)); omega) (by rw [dsize]; have := hv _ (List.getElem_mem (show k < vs.length by omega)); omega)
    show (_, _, _) = _
    rw [ih]
    simp only [rdT_ok]
    rw [hd, flat_next textL vs k (by omega), List.take_succ_eq_append_getElem (by omega)]
    simp only [mk_L]
    rw [List.length_append]
    refine Prod.ext rfl (Prod.ext ?_ rfl)
    simp only []
    omega
theorem ksSt_IS (l : List UInt8) (a : Int) (h0 : 0 ≤ a) (h1 : a ≤ l.length) : ∀ k, (ksSt l a 0 k).2.2 = 0 → At l a (ksSt l a 0 k).2.1 ((ksSt l a 0 k).1.map textL).flatten
  | 0, _ => by simpa [ksSt] using At.refl h0 h1
  | k + 1, he => by
    by_cases hk : (ksSt l a 0 k).2.2 = 0
    · have ih := ksSt_IS l a h0 h1 k hk
      generalize hq : ksSt l a 0 k = q at ih hk
      obtain ⟨vs, b, e⟩ := q
      simp only at ih hk
      subst hk
      have es : ksSt l a 0 (k + 1) = (vs ++ [⟨(Cw.takeT l b 24).1.toArray⟩], (Cw.takeT l b 24).2.1, (Cw.takeT l b 24).2.2) := by
        show (_, _, _) = _
        rw [hq]
        simp only [rdT_ok]
      rw [es] at he ⊢
      simp only at he ⊢
      generalize hr : Cw.takeT l b 24 = r at he ⊢
      obtain ⟨v, n, e⟩ := r
      simp only at he ⊢
      subst he
      have hB := takeT_IS hr
      simp only [List.map_append, List.flatten_append, List.map_cons, List.map_nil, List.flatten_cons, List.flatten_nil, List.append_nil]
      exact ih.trans hB
    · have := ksSt_err l a 0 k hk (k + 1) (by omega)
      rw [this] at he; exact absurd he hk
theorem rdKs_RT (l : List UInt8) (a n : Int) (vs : List ByteArray) (h : At l a n (Cw.vint vs.length ++ (vs.map textL).flatten)) (hm : vs.length ≤ 64) (hv : ∀ v ∈ vs, v.size ≤ 24) : rdKs l a 0 = (vs, n, 0) := by
  obtain ⟨g1, g2⟩ := h.split
  have l2 := g2.len
  have hp : vs.length ≤ ((vs.map textL).flatten).length := flat_len textL vs fun v hx => textL_pos v (by have := hv v hx; omega)
  unfold rdKs
  rw [rdC_ok, takeC_RT g1 (by rw [Cw.m64]; omega) (m := 64) (by omega) (by omega)]
  simp only []
  rw [ksSt_RT l _ n vs g2 hv vs.length (Nat.le_refl _), List.take_length, l2.2.1]
theorem rdKs_IS (l : List UInt8) (a n : Int) (vs : List ByteArray) (h : rdKs l a 0 = (vs, n, 0)) : At l a n (Cw.vint vs.length ++ (vs.map textL).flatten) ∧ vs.length ≤ 64 := by
  unfold rdKs at h
  rw [rdC_ok] at h
  rcases takeC_cases l a 64 with ⟨u, n1, h1, h2, h3, h4, h5⟩ | ⟨e1, h1, h2⟩
  · rw [h1] at h
    simp only at h
    obtain ⟨hU, _, _⟩ := takeC_U h1
    obtain ⟨hA, _⟩ := takeU_IS hU
    have hl := hA.len
    have hI := ksSt_IS l n1 (by omega) (by omega) u (by rw [h])
    have hn := ksSt_len l n1 0 u
    rw [h] at hI hn
    simp only at hI hn
    rw [hn]
    exact ⟨hA.trans hI, by omega⟩
  · rw [h1] at h
    simp only [ksSt, Prod.mk.injEq] at h
    omega

/-! Requests -/
def restL (r : Req) : List UInt8 := if r.dc = true then (Cw.vint r.rd.length ++ (r.rd.map textL).flatten) ++ (Cw.vint r.wt.length ++ (r.wt.map textL).flatten) else []
def reqL (r : Req) : List UInt8 := Cw.vint r.cl.toNat ++ (Cw.vint r.sq.toNat ++ (Cw.text r.pr.data.toList ++ ((Cw.vint r.args.length ++ (r.args.map valL).flatten) ++ (Cw.boolB r.dc ++ restL r))))
theorem keysB_L (l : List ByteArray) : (keysB l).data.toList = Cw.vint l.length ++ (l.map textL).flatten := by
  unfold keysB keysH
  rw [List.take_length, foldl_L]; rfl
theorem reqB_L (r : Req) (he : reqE r = 0) : (reqB r).data.toList = reqL r := by
  have hr : reqB r = valsH (reqHead r) r.args r.args.length ++ boolBB r.dc ++ (if r.dc = true then keysB r.rd ++ keysB r.wt else ⟨#[]⟩) := if_pos he
  have h1 : (valsH (reqHead r) r.args r.args.length).data.toList = (reqHead r).data.toList ++ (r.args.map valL).flatten := by
    unfold valsH; rw [List.take_length, foldl_L]; rfl
  have h2 : (reqHead r).data.toList = Cw.vint r.cl.toNat ++ (Cw.vint r.sq.toNat ++ (Cw.text r.pr.data.toList ++ Cw.vint r.args.length)) := by
    unfold reqHead; rw [app_L, app_L, app_L]; simp [vintB, textB]
  have h3 : (if r.dc = true then keysB r.rd ++ keysB r.wt else (⟨#[]⟩ : ByteArray)).data.toList = restL r := by
    unfold restL
    split
    · rw [app_L, keysB_L, keysB_L]
    · rfl
  have h4 : (boolBB r.dc).data.toList = Cw.boolB r.dc := rfl
  rw [hr, app_L, app_L, h1, h2, h3, h4]
  unfold reqL
  simp only [List.append_assoc]
theorem reqB_none (r : Req) (he : reqE r ≠ 0) : reqB r = ⟨#[]⟩ := if_neg he
theorem reqL_pos (r : Req) (ok : r.ok) : 1 ≤ (reqL r).length := by
  have := vint_pos r.cl.toNat (by rw [Cw.m64]; have := ok.c1; have := ok.c2; omega)
  unfold reqL
  rw [List.length_append]; omega
theorem decReq_RT (l : List UInt8) (a n : Int) (r : Req) (hf : r.fit) (he : reqE r = 0) (h : At l a n (reqB r).data.toList) : decReq l a = (r, n, 0) := by
  have ok := (reqE_ok r).1 he
  rw [reqB_L r he] at h
  unfold reqL at h
  obtain ⟨b1, g1, h⟩ := h.cut
  obtain ⟨b2, g2, h⟩ := h.cut
  obtain ⟨b3, g3, h⟩ := h.cut
  obtain ⟨b4, g4, h⟩ := h.cut
  obtain ⟨b5, g5, h⟩ := h.cut
  have c1 := ok.c1; have c2 := ok.c2; have s1 := ok.s1; have s2 := ok.s2
  have zn := nameV_size _ ok.nm
  have e1 : rqU1 l a = (r.cl.toNat, b1, 0) := by unfold rqU1; rw [rdU_ok, takeU_RT g1 (by rw [Cw.m64]; omega)]
  have e2 : rqU2 l a = (r.sq.toNat, b2, 0) := by unfold rqU2; rw [e1]; simp only [rdU_ok]; rw [takeU_RT g2 (by rw [Cw.m64]; omega)]
  have e3 : rqP l a = (r.pr.data.toList, b3, 0) := by unfold rqP; rw [e2]; simp only [rdT_ok]; rw [takeT_RT g3 (by rw [dsize, Cw.m64]; omega) (by rw [dsize]; omega)]
  have e4 : rqV l a = (r.args, b4, 0) := by unfold rqV; rw [e3]; exact rdVs_RT l _ _ r.args g4 ok.ln fun v hv => ⟨(ok.ar v hv).1, hf.ns v hv⟩
  have e5 : rqD l a = (r.dc, b5, 0) := by unfold rqD; rw [e4]; simp only [rdF_ok]; rw [takeB_RT g5]
  have small : ∀ k : List ByteArray, ascK none k = true → ∀ s ∈ k, s.size ≤ 24 := fun k hk s hs => keyV_size s (ascK_keys k none hk s hs)
  have hx : ∃ b : Int, rqR l a = (r.rd, b, 0) ∧ rqW l a = (r.wt, n, 0) := by
    unfold restL at h
    by_cases hd : r.dc = true
    · rw [if_pos hd] at h
      obtain ⟨b6, g6, g7⟩ := h.cut
      have e6 : rqR l a = (r.rd, b6, 0) := by unfold rqR rdFt; rw [e5]; simp only [hd, if_true]; exact rdKs_RT l _ _ r.rd g6 ok.rd.2 (small _ ok.rd.1)
      have e7 : rqW l a = (r.wt, n, 0) := by unfold rqW rdFt; rw [e5, e6]; simp only [hd, if_true]; exact rdKs_RT l _ _ r.wt g7 ok.wt.2 (small _ ok.wt.1)
      exact ⟨_, e6, e7⟩
    · have hd' : r.dc = false := by simpa using hd
      obtain ⟨z1, z2⟩ := ok.un hd'
      rw [if_neg hd] at h
      have hz := h.len
      simp only [List.length_nil, Int.ofNat_eq_natCast, Int.natCast_zero, Int.add_zero] at hz
      have e6 : rqR l a = (r.rd, n, 0) := by
        unfold rqR rdFt
        rw [e5]
        simp only [hd', Bool.false_eq_true, if_false, z1]
        rw [hz.2.1]
      have e7 : rqW l a = (r.wt, n, 0) := by
        unfold rqW rdFt
        rw [e5, e6]
        simp only [hd', Bool.false_eq_true, if_false, z2]
      exact ⟨_, e6, e7⟩
  obtain ⟨b, e6, e7⟩ := hx
  have ex : rqX l a = r := by
    unfold rqX
    rw [e1, e2, e3, e4, e5, e6, e7]
    obtain ⟨cl, sq, pr, args, dc, al, rd, wt⟩ := r
    have al0 := ok.al
    simp only at c1 c2 s1 s2 al0 ⊢
    rw [mk_L, al0, show ((cl.toNat : Nat) : Int) = cl by omega, show ((sq.toNat : Nat) : Int) = sq by omega]
  unfold decReq
  rw [ex, e7, e1, e2]
  simp only [ne_eq, not_true_eq_false, if_false, he]
  rw [if_neg (by omega)]
theorem decReq_IS (l : List UInt8) (a n : Int) (r : Req) (hl : l.length ≤ 1073741824) (h : decReq l a = (r, n, 0)) : At l a n (reqB r).data.toList ∧ r.fit ∧ reqE r = 0 := by
  unfold decReq at h
  by_cases hW : (rqW l a).2.2 = 0
  rotate_left
  · rw [if_pos hW] at h; simp only [Prod.mk.injEq] at h; exact absurd h.2.2 hW
  rw [if_neg (by simpa using hW)] at h
  split at h
  · simp at h
  rename_i hlim
  split at h
  · simp at h
  rename_i hE
  simp only [Prod.mk.injEq] at h
  obtain ⟨rfl, rfl, _⟩ := h
  have hE : reqE (rqX l a) = 0 := by simpa using hE
  have fit := rqX_fit l a hl
  refine ⟨?_, fit, hE⟩
  rw [reqB_L _ hE]
  have hR : (rqR l a).2.2 = 0 := Classical.byContradiction fun hq => by rw [W_of_R l a hq] at hW; exact hq hW
  have hD : (rqD l a).2.2 = 0 := Classical.byContradiction fun hq => by rw [W_of_D l a hq] at hW; exact hq hW
  have hV : (rqV l a).2.2 = 0 := Classical.byContradiction fun hq => by rw [W_of_V l a hq] at hW; exact hq hW
  have hP : (rqP l a).2.2 = 0 := Classical.byContradiction fun hq => by rw [W_of_P l a hq] at hW; exact hq hW
  have hU2 : (rqU2 l a).2.2 = 0 := Classical.byContradiction fun hq => by rw [rqP_of l a hq] at hP; exact hq hP
  have hU1 : (rqU1 l a).2.2 = 0 := Classical.byContradiction fun hq => by rw [rqU2_of l a hq] at hU2; exact hq hU2
  have three : ∀ {α : Type} (x : α × Int × Int), x.2.2 = 0 → x = (x.1, x.2.1, 0) := fun x hx => by rw [← hx]
  have a1 : At l a (rqU1 l a).2.1 (Cw.vint (rqU1 l a).1) := (takeU_IS ((by unfold rqU1; rw [rdU_ok] : rqU1 l a = Cw.takeU l a).symm.trans (three _ hU1))).1
  have a2 : At l (rqU1 l a).2.1 (rqU2 l a).2.1 (Cw.vint (rqU2 l a).1) := (takeU_IS ((by unfold rqU2; rw [hU1, rdU_ok] : rqU2 l a = Cw.takeU l (rqU1 l a).2.1).symm.trans (three _ hU2))).1
  have a3 : At l (rqU2 l a).2.1 (rqP l a).2.1 (Cw.text (rqP l a).1) := takeT_IS (m := 16) ((by unfold rqP; rw [hU2, rdT_ok] : rqP l a = Cw.takeT l (rqU2 l a).2.1 16).symm.trans (three _ hP))
  have a4 : At l (rqP l a).2.1 (rqV l a).2.1 (Cw.vint (rqV l a).1.length ++ ((rqV l a).1.map valL).flatten) := (rdVs_IS l _ _ _ ((by unfold rqV; rw [hP] : rqV l a = rdVs l (rqP l a).2.1 0).symm.trans (three _ hV))).1
  have a5 : At l (rqV l a).2.1 (rqD l a).2.1 (Cw.boolB (rqD l a).1) := takeB_IS ((by unfold rqD; rw [hV, rdF_ok] : rqD l a = takeB l (rqV l a).2.1).symm.trans (three _ hD))
  have a6 : At l (rqD l a).2.1 (rqW l a).2.1 (restL (rqX l a)) := by
    unfold restL
    by_cases hd : (rqX l a).dc = true
    · have hd' : (rqD l a).1 = true := hd
      rw [if_pos hd]
      refine (rdKs_IS l (rqD l a).2.1 (rqR l a).2.1 (rqR l a).1 ?_).1.trans (rdKs_IS l (rqR l a).2.1 (rqW l a).2.1 (rqW l a).1 ?_).1
      · exact (by unfold rqR rdFt; rw [if_pos hd', hD] : rqR l a = rdKs l (rqD l a).2.1 0).symm.trans (three _ hR)
      · exact (by unfold rqW rdFt; rw [if_pos hd', hR] : rqW l a = rdKs l (rqR l a).2.1 0).symm.trans (three _ hW)
    · have hd' : ¬ (rqD l a).1 = true := hd
      rw [if_neg hd]
      have h5 := a5.len
      have e6 : (rqR l a).2.1 = (rqD l a).2.1 := by unfold rqR rdFt; rw [if_neg hd']
      have e7 : (rqW l a).2.1 = (rqR l a).2.1 := by unfold rqW rdFt; rw [if_neg hd']
      rw [e7, e6]
      exact At.refl (by have := a5.len; omega) (by omega)
  have big := a1.trans (a2.trans (a3.trans (a4.trans (a5.trans a6))))
  exact big
/-! Lists of requests -/
def rqL (r : Req) : List UInt8 := (reqB r).data.toList
def goodL (l : List Req) : Prop := l.length ≤ 64 ∧ ∀ r ∈ l, reqE r = 0
theorem encReqs_L (l : List Req) (h : goodL l) : (encReqs l).data.toList = Cw.vint l.length ++ (l.map rqL).flatten := by
  unfold encReqs
  rw [if_neg (by have := h.1; omega), if_pos h.2]
  unfold encH
  rw [List.take_length, foldl_L]; rfl
theorem encReqs_none (l : List Req) (h : ¬ goodL l) : encReqs l = ⟨#[]⟩ := by
  unfold encReqs
  split
  · rfl
  · rename_i h1
    exact if_neg fun h2 => h ⟨by omega, h2⟩
theorem rqL_pos (r : Req) (he : reqE r = 0) : 1 ≤ (rqL r).length := by
  unfold rqL
  rw [reqB_L r he]; exact reqL_pos r ((reqE_ok r).1 he)
theorem rsSt_RT (l : List UInt8) (a n : Int) (rs : List Req) (h : At l a n (rs.map rqL).flatten) (hf : ∀ r ∈ rs, r.fit) (he : ∀ r ∈ rs, reqE r = 0) : ∀ k, k ≤ rs.length → rsSt l a k = (rs.take k, a + (((rs.take k).map rqL).flatten.length : Int), 0)
  | 0, _ => by simp [rsSt]
  | k + 1, hk => by
    have ih := rsSt_RT l a n rs h hf he k (by omega)
    rw [flat_split rqL rs k (by omega)] at h
    have HH := h.split.2.split.1
    have hm : rs[k] ∈ rs := List.getElem_mem (by omega)
    have hd := decReq_RT l _ _ rs[k] (hf _ hm) (he _ hm) HH
    rw [rsSt_ok l a k (by rw [ih]), ih]
    simp only []
    rw [hd, flat_next rqL rs k (by omega), List.take_succ_eq_append_getElem (by omega)]
    simp only []
    rw [List.length_append]
    refine Prod.ext rfl (Prod.ext ?_ rfl)
    simp only []
    omega
theorem rsSt_IS (l : List UInt8) (a : Int) (hl : l.length ≤ 1073741824) (h0 : 0 ≤ a) (h1 : a ≤ l.length) : ∀ k, (rsSt l a k).2.2 = 0 → At l a (rsSt l a k).2.1 ((rsSt l a k).1.map rqL).flatten ∧ (rsSt l a k).1.length = k ∧ ∀ r ∈ (rsSt l a k).1, reqE r = 0
  | 0, _ => by
    refine ⟨by simpa [rsSt] using At.refl h0 h1, rfl, fun r h => by cases h⟩
  | k + 1, he => by
    by_cases hk : (rsSt l a k).2.2 = 0
    · obtain ⟨i1, i2, i3⟩ := rsSt_IS l a hl h0 h1 k hk
      have es := rsSt_ok l a k hk
      rw [es] at he ⊢
      simp only at he ⊢
      generalize hr : decReq l (rsSt l a k).2.1 = q at he ⊢
      obtain ⟨v, n, e⟩ := q
      simp only at he ⊢
      subst he
      obtain ⟨hB, _, hE⟩ := decReq_IS l _ n v hl hr
      simp only [List.map_append, List.flatten_append, List.map_cons, List.map_nil, List.flatten_cons, List.flatten_nil, List.append_nil]
      refine ⟨i1.trans hB, by simp [i2], fun r hr => ?_⟩
      rcases List.mem_append.1 hr with hr | hr
      · exact i3 r hr
      · rw [List.mem_singleton.1 hr]; exact hE
    · have := rsSt_err l a k hk (k + 1) (by omega)
      rw [this] at he; exact absurd he hk
theorem decReqs_RT (l : List UInt8) (a n : Int) (rs : List Req) (hg : goodL rs) (hf : ∀ r ∈ rs, r.fit) (h : At l a n (encReqs rs).data.toList) : decReqs l a = (rs, n, 0) := by
  rw [encReqs_L rs hg] at h
  obtain ⟨g1, g2⟩ := h.split
  have l2 := g2.len
  have h64 := hg.1
  have hp := flat_len rqL rs fun r hr => rqL_pos r (hg.2 r hr)
  have hC := takeC_RT (m := 64) g1 (by rw [Cw.m64]; omega) (by omega) (by omega)
  have hS := rsSt_RT l _ n rs g2 hf hg.2 rs.length (Nat.le_refl _)
  rw [List.take_length, ← l2.2.1] at hS
  unfold decReqs
  rw [hC]
  simp only [ne_eq, not_true_eq_false, if_false]
  rw [hS]
  simp
theorem decReqs_IS (l : List UInt8) (a n : Int) (rs : List Req) (hl : l.length ≤ 1073741824) (h : decReqs l a = (rs, n, 0)) : At l a n (encReqs rs).data.toList ∧ goodL rs ∧ a < n := by
  unfold decReqs at h
  rcases takeC_cases l a 64 with ⟨u, n1, h1, h2, h3, h4, h5⟩ | ⟨e1, h1, h2⟩
  · rw [h1] at h
    simp only [ne_eq, not_true_eq_false, if_false] at h
    obtain ⟨hU, _, _⟩ := takeC_U h1
    obtain ⟨hA, hlt⟩ := takeU_IS hU
    by_cases he : (rsSt l n1 u).2.2 = 0
    · obtain ⟨i1, i2, i3⟩ := rsSt_IS l n1 hl (by omega) (by omega) u he
      rw [if_neg (by simpa using he)] at h
      rw [h] at i1 i2 i3
      simp only at i1 i2 i3
      have hg : goodL rs := ⟨by omega, i3⟩
      refine ⟨?_, hg, ?_⟩
      · rw [encReqs_L rs hg, i2]; exact hA.trans i1
      · have := i1.len; omega
    · rw [if_pos he] at h
      simp only [Prod.mk.injEq] at h
      exact absurd h.2.2 he
  · rw [h1] at h
    simp only [ne_eq] at h
    rw [if_pos (by omega)] at h
    simp only [Prod.mk.injEq] at h
    omega

end Go.Proofs.Ytemeiopghbpamaa
