/- The codec of parts, plainly: what is encoded is decoded, what is decoded was encoded; no program. -/
import Derived.Test.YtbiongfnbbnndaaCv
set_option linter.unusedSimpArgs false
set_option linter.unusedVariables false
namespace Go.Proofs.Ytbiongfnbbnndaa
open Go Ab Go.RowKit

theorem takeC_le (l : List UInt8) (a m : Int) (hm : 0 ≤ m) : ((Cw.takeC l a m).1 : Int) ≤ m := by
  rcases takeC_cases l a m with ⟨u, n, h, h1, _⟩ | h
  · rw [h]; exact h1
  · obtain ⟨e, h, _⟩ := h
    rw [h]; exact hm
theorem bsize (l : List UInt8) : (⟨l.toArray⟩ : ByteArray).size = l.length := by simp [ByteArray.size]
theorem m63_0 : -Cw.M63 ≤ (0 : Int) ∧ (0 : Int) < Cw.M63 := by rw [Cw.m63]; decide
theorem takeU_lt' (l : List UInt8) (a : Int) : ((Cw.takeU l a).1 : Int) < Cw.M64 := by
  rcases Cw.takeU_cases l a with ⟨u, n, h, h1, _⟩ | ⟨e, h, _⟩
  · rw [h]; exact h1
  · rw [h]; exact m64_0
theorem decV_in (l : List UInt8) (a : Int) : (decV l a).1.s.size ≤ l.length ∧ -Cw.M63 ≤ (decV l a).1.n ∧ (decV l a).1.n < Cw.M63 := by
  have z : (0 : Nat) ≤ l.length := Nat.zero_le _
  have base : vl0.s.size ≤ l.length ∧ -Cw.M63 ≤ vl0.n ∧ vl0.n < Cw.M63 := ⟨z, m63_0.1, m63_0.2⟩
  unfold decV
  split
  rename_i kd n e hU
  split
  · exact base
  · split
    · exact base
    · split
      · split
        rename_i m en e2 hI
        split
        · exact base
        · refine ⟨z, ?_⟩
          simp only
          unfold takeIv at hI
          split at hI
          rename_i u n' e' hu
          have hlt := takeU_lt' l n
          rw [hu] at hlt
          split at hI
          · have h := congrArg Prod.fst hI; simp only at h; rw [← h]; exact m63_0
          · have h := congrArg Prod.fst hI; simp only at h; rw [← h]; exact Cw.unfold_in u hlt
      · split
        · split
          rename_i t en e2 hT
          split
          · exact base
          · split
            · refine ⟨?_, m63_0.1, m63_0.2⟩
              have := takeT_sz l n 64
              rw [hT] at this
              simp only [bsize]
              exact this
            · exact base
        · exact base
theorem takeU_shift (l : List UInt8) (a : Nat) (h : a ≤ l.length) : Cw.takeU l a = match Cw.takeU (l.drop a) 0 with
    | (u, n, e) => (u, if e = 0 then n + a else n, e) := by
  rw [Cw.takeU_in h, show (0 : Int) = ((0 : Nat) : Int) from rfl, Cw.takeU_in (Nat.zero_le _), List.drop_zero]
  rcases Cw.vrun_shape (l.drop a) 0 0 (by omega) (by decide) with ⟨u, n, e, h1, h2, h3, h4⟩ | e | e
  · rw [e]; simp; omega
  · rw [e]; simp
  · rw [e]; simp
theorem takeT_shift (l : List UInt8) (a : Nat) (h : a ≤ l.length) (m : Int) : Cw.takeT l a m = match Cw.takeT (l.drop a) 0 m with
    | (u, n, e) => (u, if e = 0 then n + a else n, e) := by
  unfold Cw.takeT Cw.takeC
  rw [takeU_shift l a h]
  rcases Cw.takeU_cases (l.drop a) 0 with ⟨u, n, e1, h1, h2, h3, h4, h5⟩ | ⟨e, e1, h2⟩
  · rw [e1]
    simp only [ne_eq, not_true_eq_false, if_false, if_true, List.length_drop] at h5 ⊢
    obtain ⟨k, rfl⟩ := Int.eq_ofNat_of_zero_le (show 0 ≤ n by omega)
    by_cases hl : m < 0 ∨ m < u
    · simp only [if_pos hl]; simp
    · simp only [if_neg hl]
      by_cases ht : ((l.length - a : Nat) : Int) - k < u
      · rw [if_pos ht, if_pos (show ((l.length : Nat) : Int) - ((k : Int) + (a : Int)) < (u : Int) by omega)]; simp
      · rw [if_neg ht, if_neg (show ¬ ((l.length : Nat) : Int) - ((k : Int) + (a : Int)) < (u : Int) by omega)]
        simp only [if_true, not_true_eq_false, if_false, List.drop_drop]
        refine Prod.ext ?_ (Prod.ext ?_ rfl)
        · show List.take u (List.drop ((k : Int) + (a : Int)).toNat l) = List.take u (List.drop (a + (k : Int).toNat) l)
          rw [show ((k : Int) + (a : Int)).toNat = a + (k : Int).toNat by omega]
        · show (k : Int) + a + u = k + u + a
          omega
  · rw [e1]
    have : e ≠ 0 := by omega
    simp [this]
theorem takeU_vint (u : Nat) (r : List UInt8) (hu : (u : Int) < Cw.M64) : Cw.takeU (Cw.vint u ++ r) 0 = (u, ((Cw.vint u).length : Int), 0) := by
  rw [Cw.m64] at hu
  rw [show (0 : Int) = ((0 : Nat) : Int) from rfl, Cw.takeU_in (Nat.zero_le _), List.drop_zero, Cw.vrun_vint r u 0 0 (by omega) (.inl rfl) (by omega)]
  simp
theorem takeC_text (l r : List UInt8) (m : Int) (hl : (l.length : Int) < Cw.M64) : Cw.takeC (Cw.text l ++ r) 0 m = if m < l.length then (0, 0, 2) else (l.length, ((Cw.vint l.length).length : Int), 0) := by
  unfold Cw.takeC Cw.text
  rw [List.append_assoc, takeU_vint _ _ hl]
  simp only [ne_eq, not_true_eq_false, if_false, List.length_append]
  by_cases h : m < l.length
  · rw [if_pos (.inr h), if_pos h]
  · rw [if_neg (by omega), if_neg h, if_neg (by omega)]
theorem takeT_text (l r : List UInt8) (m : Int) (hl : (l.length : Int) < Cw.M64) : Cw.takeT (Cw.text l ++ r) 0 m = if m < l.length then ([], 0, 2) else (l, ((Cw.text l).length : Int), 0) := by
  unfold Cw.takeT
  rw [takeC_text l r m hl]
  by_cases h : m < l.length
  · simp only [if_pos h]; rfl
  · simp only [if_neg h, ne_eq, not_true_eq_false, if_false, Int.toNat_natCast]
    unfold Cw.text
    simp
theorem takeU_at (p r : List UInt8) (u : Nat) (hu : (u : Int) < Cw.M64) : Cw.takeU (p ++ (Cw.vint u ++ r)) (p.length : Nat) = (u, (p.length : Int) + ((Cw.vint u).length : Int), 0) := by
  rw [takeU_shift _ _ (by simp), List.drop_left, takeU_vint u r hu]
  simp; omega
theorem takeB_at (p r : List UInt8) (b : Bool) : takeB (p ++ (Cw.boolB b ++ r)) (p.length : Nat) = (b, (p.length : Int) + 1, 0) := by
  unfold takeB
  rw [if_neg (by simp; omega), Int.toNat_natCast, List.drop_left]
  cases b <;> rfl
theorem takeT_at (p r l : List UInt8) (m : Int) (hl : (l.length : Int) < Cw.M64) (hm : (l.length : Int) ≤ m) : Cw.takeT (p ++ (Cw.text l ++ r)) (p.length : Nat) m = (l, (p.length : Int) + ((Cw.text l).length : Int), 0) := by
  rw [takeT_shift _ _ (by simp), List.drop_left, takeT_text l r m hl, if_neg (by omega)]
  simp; omega
theorem takeU_is {l : List UInt8} {u : Nat} {n : Int} (h : Cw.takeU l 0 = (u, n, 0)) : 1 ≤ n ∧ n ≤ l.length ∧ Cw.vint u = l.take n.toNat := by
  rw [show (0 : Int) = ((0 : Nat) : Int) from rfl, Cw.takeU_in (Nat.zero_le _), List.drop_zero] at h
  rcases Cw.vrun_shape l 0 0 (by omega) (by decide) with ⟨u', n', e, h1, h2, h3, h4⟩ | e | e
  · rw [e] at h
    simp only [Prod.mk.injEq] at h
    obtain ⟨rfl, hn, -⟩ := h
    obtain ⟨v, e1, e2, e3, e4, e5⟩ := Cw.vrun_is_vint l 0 u' n' (by omega) e
    have hv : u' = v := by omega
    subst hv
    have : n.toNat = n' - 0 := by omega
    rw [this]
    exact ⟨by omega, by omega, e3⟩
  · rw [e] at h; simp at h
  · rw [e] at h; simp at h
theorem takeU_lt {l : List UInt8} {a : Int} {u : Nat} {n e : Int} (h : Cw.takeU l a = (u, n, e)) : (u : Int) < Cw.M64 := by
  rcases Cw.takeU_cases l a with ⟨u1, n1, e1, h1, h2, h3, h4, h5⟩ | ⟨e1, h1, h2⟩
  · rw [e1] at h; simp only [Prod.mk.injEq] at h; rw [← h.1]; exact h1
  · rw [h1] at h; simp only [Prod.mk.injEq] at h; rw [← h.1, Cw.m64]; omega
theorem takeT_is {l t : List UInt8} {m n : Int} (h : Cw.takeT l 0 m = (t, n, 0)) : 1 ≤ n ∧ n ≤ l.length ∧ Cw.text t = l.take n.toNat := by
  unfold Cw.takeT at h
  rcases takeC_cases l 0 m with ⟨u1, n1, e1, h1, h2, h3, h4⟩ | ⟨e1, h1, h2⟩
  · rw [e1] at h
    simp only [ne_eq, not_true_eq_false, if_false, Prod.mk.injEq] at h
    obtain ⟨h5, h6, -⟩ := h
    have hU : Cw.takeU l 0 = (u1, n1, 0) := by
      unfold Cw.takeC at e1
      rcases Cw.takeU_cases l 0 with ⟨u2, n2, e2, g1, g2, g3, g4, g5⟩ | ⟨e2, g1, g2⟩
      · rw [e2] at e1 ⊢
        simp only [ne_eq, not_true_eq_false, if_false] at e1
        split at e1
        · simp at e1
        · split at e1
          · simp at e1
          · exact e1
      · rw [g1] at e1
        simp only at e1
        rw [if_pos (by omega)] at e1
        simp only [Prod.mk.injEq] at e1
        omega
    obtain ⟨f1, f2, f3⟩ := takeU_is hU
    refine ⟨by omega, by omega, ?_⟩
    have ht : t.length = u1 := by rw [← h5, List.length_take, List.length_drop]; omega
    unfold Cw.text
    rw [ht, f3, ← h5, show n.toNat = n1.toNat + u1 by omega, List.take_add]
  · rw [h1] at h
    simp only at h
    rw [if_pos (by omega)] at h
    simp only [Prod.mk.injEq] at h; omega
/-! A part of a list -/
def seg (l : List UInt8) (a b : Nat) : List UInt8 := (l.drop a).take (b - a)
theorem seg_app (l : List UInt8) (a b c : Nat) (h : a ≤ b) (h2 : b ≤ c) : seg l a b ++ seg l b c = seg l a c := by
  unfold seg
  rw [show c - a = (b - a) + (c - b) by omega, List.take_add, List.drop_drop, show a + (b - a) = b by omega]
theorem seg_len (l : List UInt8) (a b : Nat) (h2 : b ≤ l.length) : (seg l a b).length = b - a := by
  unfold seg
  rw [List.length_take, List.length_drop]; omega
theorem seg_split (l : List UInt8) (a b : Nat) (h : a ≤ b) : l = l.take a ++ (seg l a b ++ l.drop b) := by
  have e : seg l a b ++ l.drop b = l.drop a := by
    unfold seg
    have := List.take_append_drop (b - a) (l.drop a)
    rw [List.drop_drop, show a + (b - a) = b by omega] at this
    exact this
  rw [e, List.take_append_drop]
/-- Between a and b the list holds these bytes. -/
def At (l : List UInt8) (a b : Int) (bs : List UInt8) : Prop := ∃ x y : Nat, a = x ∧ b = y ∧ x ≤ y ∧ y ≤ l.length ∧ bs = seg l x y
theorem At.trans {l : List UInt8} {a b c : Int} {xs ys : List UInt8} (h : At l a b xs) (k : At l b c ys) : At l a c (xs ++ ys) := by
  obtain ⟨x, y, rfl, rfl, h1, h2, rfl⟩ := h
  obtain ⟨y', z, e, rfl, k1, k2, rfl⟩ := k
  obtain rfl : y = y' := by omega
  exact ⟨x, z, rfl, rfl, by omega, k2, seg_app l x y z h1 k1⟩
theorem At.refl {l : List UInt8} {a : Int} (h0 : 0 ≤ a) (h1 : a ≤ l.length) : At l a a [] := by
  obtain ⟨x, rfl⟩ := Int.eq_ofNat_of_zero_le h0
  exact ⟨x, x, rfl, rfl, Nat.le_refl _, by omega, by simp [seg]⟩
theorem At.len {l : List UInt8} {a b : Int} {xs : List UInt8} (h : At l a b xs) : 0 ≤ a ∧ b = a + (xs.length : Int) ∧ b ≤ l.length := by
  obtain ⟨x, y, rfl, rfl, h1, h2, rfl⟩ := h
  rw [seg_len l x y h2]; omega
theorem At.split {l : List UInt8} {a c : Int} {xs ys : List UInt8} (h : At l a c (xs ++ ys)) : At l a (a + (xs.length : Int)) xs ∧ At l (a + (xs.length : Int)) c ys := by
  obtain ⟨x, z, rfl, rfl, h1, h2, h3⟩ := h
  have hl := congrArg List.length h3
  rw [seg_len l x z h2, List.length_append] at hl
  have h4 := seg_app l x (x + xs.length) z (by omega) (by omega)
  rw [← h3] at h4
  obtain ⟨h5, h6⟩ := List.append_inj h4 (by rw [seg_len l _ _ (by omega)]; omega)
  exact ⟨⟨x, x + xs.length, rfl, by omega, by omega, by omega, h5.symm⟩, ⟨x + xs.length, z, by omega, rfl, by omega, h2, h6.symm⟩⟩
theorem At.cut {l : List UInt8} {a c : Int} {xs ys : List UInt8} (h : At l a c (xs ++ ys)) : ∃ b, At l a b xs ∧ At l b c ys := ⟨_, h.split⟩
theorem At.whole (p bs r : List UInt8) : At (p ++ (bs ++ r)) (p.length : Nat) ((p.length : Int) + (bs.length : Int)) bs := by
  refine ⟨p.length, p.length + bs.length, rfl, by omega, by omega, by simp only [List.length_append]; omega, ?_⟩
  unfold seg
  rw [List.drop_left, show p.length + bs.length - p.length = bs.length by omega, List.take_left]
theorem At.eq {l : List UInt8} {n : Int} {bs : List UInt8} (h : At l 0 n bs) : bs = l.take n.toNat := by
  obtain ⟨x, y, h0, rfl, h1, h2, rfl⟩ := h
  obtain rfl : x = 0 := by omega
  simp [seg]
/-! Words -/
theorem takeU_IS {l : List UInt8} {a n : Int} {u : Nat} (h : Cw.takeU l a = (u, n, 0)) : At l a n (Cw.vint u) ∧ a < n := by
  rcases Cw.takeU_cases l a with ⟨u1, n1, e1, h1, h2, h3, h4, h5⟩ | ⟨e1, h1, h2⟩
  · obtain ⟨x, rfl⟩ := Int.eq_ofNat_of_zero_le h2
    have hx : x ≤ l.length := by omega
    have hs := takeU_shift l x hx
    rw [h] at hs
    generalize hq : Cw.takeU (l.drop x) 0 = q at hs
    obtain ⟨u', n', e'⟩ := q
    simp only [Prod.mk.injEq] at hs
    obtain ⟨rfl, hn, rfl⟩ := hs
    rw [if_pos rfl] at hn
    obtain ⟨g1, g2, g3⟩ := takeU_is hq
    rw [List.length_drop] at g2
    refine ⟨⟨x, x + n'.toNat, rfl, by omega, by omega, by omega, ?_⟩, by omega⟩
    rw [g3]; unfold seg
    rw [show x + n'.toNat - x = n'.toNat by omega]
  · rw [h1] at h; simp only [Prod.mk.injEq] at h; omega
theorem takeU_RT {l : List UInt8} {a n : Int} {u : Nat} (h : At l a n (Cw.vint u)) (hu : (u : Int) < Cw.M64) : Cw.takeU l a = (u, n, 0) := by
  have hl := h.len
  obtain ⟨x, y, rfl, rfl, h1, h2, h3⟩ := h
  have e := seg_split l x y h1
  rw [← h3] at e
  have := takeU_at (l.take x) (l.drop y) u hu
  rw [← e, List.length_take, show min x l.length = x by omega] at this
  rw [this, hl.2.1]
theorem takeC_U {l : List UInt8} {a n m : Int} {u : Nat} (h : Cw.takeC l a m = (u, n, 0)) : Cw.takeU l a = (u, n, 0) ∧ (u : Int) ≤ m ∧ (u : Int) ≤ (l.length : Int) - n := by
  unfold Cw.takeC at h
  rcases Cw.takeU_cases l a with ⟨u2, n2, e2, g1, g2, g3, g4, g5⟩ | ⟨e2, g1, g2⟩
  · rw [e2] at h ⊢
    simp only [ne_eq, not_true_eq_false, if_false] at h
    split at h
    · simp at h
    · split at h
      · simp at h
      · simp only [Prod.mk.injEq] at h
        obtain ⟨rfl, rfl, _⟩ := h
        exact ⟨rfl, by omega, by omega⟩
  · rw [g1] at h
    simp only at h
    rw [if_pos (by omega)] at h
    simp only [Prod.mk.injEq] at h; omega
theorem takeC_RT {l : List UInt8} {a n m : Int} {u : Nat} (h : At l a n (Cw.vint u)) (hu : (u : Int) < Cw.M64) (hm : (u : Int) ≤ m) (hr : (u : Int) ≤ (l.length : Int) - n) : Cw.takeC l a m = (u, n, 0) := by
  unfold Cw.takeC
  rw [takeU_RT h hu]
  simp only [ne_eq, not_true_eq_false, if_false]
  rw [if_neg (by omega), if_neg (by omega)]
theorem takeT_IS {l t : List UInt8} {a n m : Int} (h : Cw.takeT l a m = (t, n, 0)) : At l a n (Cw.text t) := by
  unfold Cw.takeT at h
  generalize hq : Cw.takeC l a m = q at h
  obtain ⟨u, n1, e1⟩ := q
  simp only at h
  by_cases he : e1 = 0
  · subst he
    rw [if_neg (by simp)] at h
    simp only [Prod.mk.injEq] at h
    obtain ⟨rfl, rfl, _⟩ := h
    obtain ⟨hU, h2, h3⟩ := takeC_U hq
    obtain ⟨hA, hlt⟩ := takeU_IS hU
    have hl := hA.len
    obtain ⟨k, rfl⟩ := Int.eq_ofNat_of_zero_le (show 0 ≤ n1 by omega)
    have ht : ((l.drop (k : Int).toNat).take u).length = u := by rw [List.length_take, List.length_drop]; omega
    unfold Cw.text
    rw [ht]
    refine hA.trans ⟨k, k + u, rfl, by omega, by omega, by omega, ?_⟩
    unfold seg
    rw [show k + u - k = u by omega]; rfl
  · rw [if_pos he] at h
    simp only [Prod.mk.injEq] at h; omega
theorem takeT_RT {l t : List UInt8} {a n m : Int} (h : At l a n (Cw.text t)) (ht : (t.length : Int) < Cw.M64) (hm : (t.length : Int) ≤ m) : Cw.takeT l a m = (t, n, 0) := by
  have hl := h.len
  obtain ⟨x, y, rfl, rfl, h1, h2, h3⟩ := h
  have e := seg_split l x y h1
  rw [← h3] at e
  have := takeT_at (l.take x) (l.drop y) t m ht hm
  rw [← e, List.length_take, show min x l.length = x by omega] at this
  rw [this, hl.2.1]
theorem takeB_IS {l : List UInt8} {a n : Int} {b : Bool} (h : takeB l a = (b, n, 0)) : At l a n (Cw.boolB b) := by
  unfold takeB at h
  by_cases ha : a < 0 ∨ (l.length : Int) < a
  · rw [if_pos ha] at h; simp at h
  rw [if_neg ha] at h
  obtain ⟨x, rfl⟩ := Int.eq_ofNat_of_zero_le (show 0 ≤ a by omega)
  rw [Int.toNat_natCast] at h
  cases hd : l.drop x with
  | nil => rw [hd] at h; simp at h
  | cons c r =>
    rw [hd] at h
    simp only at h
    have hlen := congrArg List.length hd
    rw [List.length_drop, List.length_cons] at hlen
    by_cases hc : 1 < c.toNat
    · rw [if_pos hc] at h; simp at h
    · rw [if_neg hc] at h
      simp only [Prod.mk.injEq] at h
      obtain ⟨rfl, rfl, _⟩ := h
      refine ⟨x, x + 1, rfl, by omega, by omega, by omega, ?_⟩
      unfold seg
      rw [hd, show x + 1 - x = 1 by omega]
      have : c.toNat = 0 ∨ c.toNat = 1 := by omega
      rcases this with e | e
      · have : c = 0 := UInt8.toNat_inj.1 e
        subst this; rfl
      · have : c = 1 := UInt8.toNat_inj.1 e
        subst this; rfl
theorem takeB_RT {l : List UInt8} {a n : Int} {b : Bool} (h : At l a n (Cw.boolB b)) : takeB l a = (b, n, 0) := by
  have hl := h.len
  obtain ⟨x, y, rfl, rfl, h1, h2, h3⟩ := h
  have e := seg_split l x y h1
  rw [← h3] at e
  have := takeB_at (l.take x) (l.drop y) b
  rw [← e, List.length_take, show min x l.length = x by omega] at this
  have hb : (Cw.boolB b).length = 1 := by cases b <;> rfl
  rw [this, hl.2.1, hb]; rfl
/-! Values -/
def valL (v : Vl) : List UInt8 := (valB v).data.toList
theorem app_L (x y : ByteArray) : (x ++ y).data.toList = x.data.toList ++ y.data.toList := by simp
theorem valL_eq (v : Vl) : valL v = if v.kind = 1 then Cw.vint 1 ++ Cw.vint (Cw.fold v.n) else if v.kind = 2 then Cw.vint 2 ++ Cw.text v.s.data.toList else Cw.vint 0 := by
  unfold valL valB
  split
  · rw [app_L]; rfl
  · split
    · rw [app_L]; rfl
    · rfl
theorem nil_of {s : ByteArray} (h : (s.toList == []) = true) : s = ⟨#[]⟩ := by
  rw [size0] at h
  have h0 := of_decide_eq_true h
  apply ByteArray.ext
  exact Array.eq_empty_of_size_eq_zero h0
theorem decV_RT {l : List UInt8} {a n : Int} {v : Vl} (h : At l a n (valL v)) (hv : valV v = true) (h0 : -Cw.M63 ≤ v.n) (h1 : v.n < Cw.M63) : decV l a = (v, n, 0) := by
  rw [valL_eq] at h
  unfold valV at hv
  obtain ⟨kd, m, s⟩ := v
  simp only at h hv h0 h1
  unfold decV
  by_cases k1 : kd = 1
  · subst k1
    rw [if_pos rfl] at h
    obtain ⟨g1, g2⟩ := h.split
    rw [takeU_RT g1 m64_1]
    simp only [ne_eq, not_true_eq_false, if_false, if_true, Nat.one_ne_zero]
    rw [takeU_RT g2 (Cw.fold_lt m h0 h1)]
    simp only [takeIv, ne_eq, not_true_eq_false, if_false, Cw.unfold_fold]
    have hs := nil_of (by simpa using hv)
    rw [hs]
  · rw [if_neg k1] at h
    by_cases k2 : kd = 2
    · subst k2
      rw [if_pos rfl] at h
      obtain ⟨g1, g2⟩ := h.split
      rw [takeU_RT g1 m64_2]
      simp only [ne_eq, not_true_eq_false, if_false, if_true, show ¬ (2 = 0) from by decide, show ¬ (2 = 1) from by decide]
      rw [if_neg (by decide), if_neg (by decide), if_pos rfl] at hv
      simp only [Bool.and_eq_true, beq_iff_eq] at hv
      have hp := hv.2
      have hz : s.data.toList.length ≤ 64 := by
        unfold plainV at hp; simp only [Bool.and_eq_true, decide_eq_true_eq] at hp; rw [dsize]; exact hp.1
      rw [takeT_RT g2 (by rw [Cw.m64]; omega) (by omega)]
      have es : (⟨s.data.toList.toArray⟩ : ByteArray) = s := by apply ByteArray.ext; simp
      simp only [ne_eq, not_true_eq_false, if_false]
      rw [es, if_pos hp, hv.1]
    · rw [if_neg k2] at h
      rw [takeU_RT h m64_0]
      simp only [ne_eq, not_true_eq_false, if_false, if_true]
      by_cases k0 : kd = 0
      · subst k0
        simp only [if_true, Bool.and_eq_true, beq_iff_eq] at hv
        have hs := nil_of (s := s) (by simpa using hv.2)
        rw [hs, hv.1]; rfl
      · rw [if_neg k0, if_neg k1, if_neg k2] at hv; cases hv
theorem decV_IS {l : List UInt8} {a n : Int} {v : Vl} (h : decV l a = (v, n, 0)) : At l a n (valL v) := by
  unfold decV at h
  generalize hq : Cw.takeU l a = q at h
  obtain ⟨kd, n1, e1⟩ := q
  simp only at h
  by_cases he : e1 = 0
  rotate_left
  · rw [if_pos he] at h; simp only [Prod.mk.injEq] at h; omega
  subst he
  rw [if_neg (by simp)] at h
  obtain ⟨hA, _⟩ := takeU_IS hq
  by_cases k0 : kd = 0
  · subst k0
    rw [if_pos rfl] at h
    simp only [Prod.mk.injEq] at h
    obtain ⟨rfl, rfl, _⟩ := h
    rw [valL_eq]
    exact hA
  rw [if_neg k0] at h
  by_cases k1 : kd = 1
  · subst k1
    rw [if_pos rfl] at h
    generalize hr : Cw.takeU l n1 = r at h
    obtain ⟨u, n2, e2⟩ := r
    by_cases he : e2 = 0
    · subst he
      simp only [takeIv, ne_eq, not_true_eq_false, if_false, Prod.mk.injEq] at h
      obtain ⟨rfl, rfl, _⟩ := h
      obtain ⟨hB, _⟩ := takeU_IS hr
      have hu := takeU_lt hr
      rw [valL_eq]
      simp only [if_true]
      rw [Cw.fold_unfold u]
      exact hA.trans hB
    · simp [takeIv, he] at h
  rw [if_neg k1] at h
  by_cases k2 : kd = 2
  · subst k2
    rw [if_pos rfl] at h
    generalize hr : Cw.takeT l n1 64 = r at h
    obtain ⟨t, n2, e2⟩ := r
    simp only at h
    by_cases he : e2 = 0
    · subst he
      rw [if_neg (by simp)] at h
      split at h
      · simp only [Prod.mk.injEq] at h
        obtain ⟨rfl, rfl, _⟩ := h
        rw [valL_eq]
        exact hA.trans (takeT_IS hr)
      · simp at h
    · rw [if_pos he] at h; simp [he] at h
  · rw [if_neg k2] at h; simp at h

/-! Lists of parts -/
theorem foldl_L {α : Type} (f : α → ByteArray) : ∀ (l : List α) (h : ByteArray), (l.foldl (fun acc s => acc ++ f s) h).data.toList = h.data.toList ++ (l.map fun s => (f s).data.toList).flatten
  | [], h => by simp
  | x :: l, h => by
    rw [List.foldl_cons, foldl_L f l, app_L]
    simp
theorem vint_pos (u : Nat) (hu : (u : Int) < Cw.M64) : 1 ≤ (Cw.vint u).length := by
  have h := takeU_vint u [] hu
  rcases Cw.takeU_cases (Cw.vint u ++ []) 0 with ⟨u2, n2, e2, g1, g2, g3, g4, g5⟩ | ⟨e2, g1, g2⟩
  · rw [e2] at h; simp only [Prod.mk.injEq] at h; omega
  · rw [g1] at h; simp only [Prod.mk.injEq] at h; omega
theorem flat_len {α : Type} (f : α → List UInt8) : ∀ (l : List α), (∀ x ∈ l, 1 ≤ (f x).length) → l.length ≤ (l.map f).flatten.length
  | [], _ => Nat.zero_le _
  | x :: l, h => by
    have h1 := h x (by simp)
    have h2 := flat_len f l fun y hy => h y (by simp [hy])
    simp only [List.map_cons, List.flatten_cons, List.length_append, List.length_cons]
    omega
theorem flat_split {α : Type} (f : α → List UInt8) (l : List α) (k : Nat) (h : k < l.length) : (l.map f).flatten = ((l.take k).map f).flatten ++ (f l[k] ++ ((l.drop (k + 1)).map f).flatten) := by
  have e : l = l.take k ++ l[k] :: l.drop (k + 1) := by rw [← List.drop_eq_getElem_cons h, List.take_append_drop]
  have e2 := congrArg (fun q => (q.map f).flatten) e
  simp only [List.map_append, List.map_cons, List.flatten_append, List.flatten_cons] at e2
  exact e2
theorem flat_next {α : Type} (f : α → List UInt8) (l : List α) (k : Nat) (h : k < l.length) : ((l.take (k + 1)).map f).flatten = ((l.take k).map f).flatten ++ f l[k] := by
  rw [List.take_succ_eq_append_getElem h]
  simp only [List.map_append, List.flatten_append, List.map_cons, List.map_nil, List.flatten_cons, List.flatten_nil, List.append_nil]
def textL (s : ByteArray) : List UInt8 := (textB s).data.toList
theorem textL_eq (s : ByteArray) : textL s = Cw.text s.data.toList := rfl
theorem mk_L (s : ByteArray) : (⟨s.data.toList.toArray⟩ : ByteArray) = s := by apply ByteArray.ext; simp
theorem valL_pos (v : Vl) (h0 : -Cw.M63 ≤ v.n) (h1 : v.n < Cw.M63) : 1 ≤ (valL v).length := by
  rw [valL_eq]
  have p1 := vint_pos 1 m64_1
  have p2 := vint_pos 2 m64_2
  have p0 := vint_pos 0 m64_0
  split
  · rw [List.length_append]; omega
  · split
    · rw [List.length_append]; omega
    · omega
theorem textL_pos (s : ByteArray) (h : s.size ≤ 1125899906842624) : 1 ≤ (textL s).length := by
  rw [textL_eq]; unfold Cw.text
  have p := vint_pos s.data.toList.length (by rw [dsize, Cw.m64]; omega)
  rw [List.length_append]; omega
end Go.Proofs.Ytbiongfnbbnndaa
