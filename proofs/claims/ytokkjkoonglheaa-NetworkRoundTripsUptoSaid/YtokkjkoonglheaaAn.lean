/- The codec of parts, plainly (without values): what is encoded is decoded, what is decoded was encoded; no program. -/
import Derived.Test.YtokkjkoonglheaaCw
set_option linter.unusedSimpArgs false
set_option linter.unusedVariables false
namespace Go.Proofs.Ytokkjkoonglheaa
open Go Ab Go.RowKit

theorem dsize (s : ByteArray) : s.data.toList.length = s.size := by simp
theorem m64_0 : (0 : Int) < Cw.M64 := by rw [Cw.m64]; decide

theorem takeC_le (l : List UInt8) (a m : Int) (hm : 0 ≤ m) : ((Cw.takeC l a m).1 : Int) ≤ m := by
  rcases takeC_cases l a m with ⟨u, n, h, h1, _⟩ | h
  · rw [h]; exact h1
  · obtain ⟨e, h, _⟩ := h
    rw [h]; exact hm
theorem bsize (l : List UInt8) : (⟨l.toArray⟩ : ByteArray).size = l.length := by simp [ByteArray.size]
theorem m63_0 : -Cw.M63 ≤ (0 : Int) ∧ (0 : Int) < Cw.M63 := by rw [Cw.m63]; decide
theorem takeU_lt' (l : List UInt8) (a : Int) : ((Cw.takeU l a).1 : Int) < Cw.M64 := by
  rcases Cw.takeU_cases l a with ⟨u, n, h, h1, _⟩ | ⟨e, h, _⟩
  · rw [h]; exact h1
  · rw [h]; exact m64_0
theorem takeU_shift (l : List UInt8) (a : Nat) (h : a ≤ l.length) : Cw.takeU l a = match Cw.takeU (l.drop a) 0 with
    | (u, n, e) => (u, if e = 0 then n + a else n, e) := by
  rw [Cw.takeU_in h, show (0 : Int) = ((0 : Nat) : Int) from rfl, Cw.takeU_in (Nat.zero_le _), List.drop_zero]
  rcases Cw.vrun_shape (l.drop a) 0 0 (by omega) (by decide) with ⟨u, n, e, h1, h2, h3, h4⟩ | e | e
  · rw [e]; simp; omega
  · rw [e]; simp
  · rw [e]; simp
theorem takeT_shift (l : List UInt8) (a : Nat) (h : a ≤ l.length) (m : Int) : Cw.takeT l a m = match Cw.takeT (l.drop a) 0 m with
    | (u, n, e) => (u, if e = 0 then n + a else n, e) := by
  unfold Cw.takeT Cw.takeC
  rw [takeU_shift l a h]
  rcases Cw.takeU_cases (l.drop a) 0 with ⟨u, n, e1, h1, h2, h3, h4, h5⟩ | ⟨e, e1, h2⟩
  · rw [e1]
    simp only [ne_eq, not_true_eq_false, if_false, if_true, List.length_drop] at h5 ⊢
    obtain ⟨k, rfl⟩ := Int.eq_ofNat_of_zero_le (show 0 ≤ n by omega)
    by_cases hl : m < 0 ∨ m < u
    · simp only [if_pos hl]; simp
    · simp only [if_neg hl]
      by_cases ht : ((l.length - a : Nat) : Int) - k < u
      · rw [if_pos ht, if_pos (show ((l.length : Nat) : Int) - ((k : Int) + (a : Int)) < (u : Int) by omega)]; simp
      · rw [if_neg ht, if_neg (show ¬ ((l.length : Nat) : Int) - ((k : Int) + (a : Int)) < (u : Int) by omega)]
        simp only [if_true, not_true_eq_false, if_false, List.drop_drop]
        refine Prod.ext ?_ (Prod.ext ?_ rfl)
        · show List.take u (List.drop ((k : Int) + (a : Int)).toNat l) = List.take u (List.drop (a + (k : Int).toNat) l)
          rw [show ((k : Int) + (a : Int)).toNat = a + (k : Int).toNat by omega]
        · show (k : Int) + a + u = k + u + a
          omega
  · rw [e1]
    have : e ≠ 0 := by omega
    simp [this]
theorem takeU_vint (u : Nat) (r : List UInt8) (hu : (u : Int) < Cw.M64) : Cw.takeU (Cw.vint u ++ r) 0 = (u, ((Cw.vint u).length : Int), 0) := by
  rw [Cw.m64] at hu
  rw [show (0 : Int) = ((0 : Nat) : Int) from rfl, Cw.takeU_in (Nat.zero_le _), List.drop_zero, Cw.vrun_vint r u 0 0 (by omega) (.inl rfl) (by omega)]
  simp
theorem takeC_text (l r : List UInt8) (m : Int) (hl : (l.length : Int) < Cw.M64) : Cw.takeC (Cw.text l ++ r) 0 m = if m < l.length then (0, 0, 2) else (l.length, ((Cw.vint l.length).length : Int), 0) := by
  unfold Cw.takeC Cw.text
  rw [List.append_assoc, takeU_vint _ _ hl]
  simp only [ne_eq, not_true_eq_false, if_false, List.length_append]
  by_cases h : m < l.length
  · rw [if_pos (.inr h), if_pos h]
  · rw [if_neg (by omega), if_neg h, if_neg (by omega)]
theorem takeT_text (l r : List UInt8) (m : Int) (hl : (l.length : Int) < Cw.M64) : Cw.takeT (Cw.text l ++ r) 0 m = if m < l.length then ([], 0, 2) else (l, ((Cw.text l).length : Int), 0) := by
  unfold Cw.takeT
  rw [takeC_text l r m hl]
  by_cases h : m < l.length
  · simp only [if_pos h]; rfl
  · simp only [if_neg h, ne_eq, not_true_eq_false, if_false, Int.toNat_natCast]
    unfold Cw.text
    simp
theorem takeU_at (p r : List UInt8) (u : Nat) (hu : (u : Int) < Cw.M64) : Cw.takeU (p ++ (Cw.vint u ++ r)) (p.length : Nat) = (u, (p.length : Int) + ((Cw.vint u).length : Int), 0) := by
  rw [takeU_shift _ _ (by simp), List.drop_left, takeU_vint u r hu]
  simp; omega
theorem takeB_at (p r : List UInt8) (b : Bool) : takeB (p ++ (Cw.boolB b ++ r)) (p.length : Nat) = (b, (p.length : Int) + 1, 0) := by
  unfold takeB
  rw [if_neg (by simp; omega), Int.toNat_natCast, List.drop_left]
  cases b <;> rfl
theorem takeT_at (p r l : List UInt8) (m : Int) (hl : (l.length : Int) < Cw.M64) (hm : (l.length : Int) ≤ m) : Cw.takeT (p ++ (Cw.text l ++ r)) (p.length : Nat) m = (l, (p.length : Int) + ((Cw.text l).length : Int), 0) := by
  rw [takeT_shift _ _ (by simp), List.drop_left, takeT_text l r m hl, if_neg (by omega)]
  simp; omega
theorem takeU_is {l : List UInt8} {u : Nat} {n : Int} (h : Cw.takeU l 0 = (u, n, 0)) : 1 ≤ n ∧ n ≤ l.length ∧ Cw.vint u = l.take n.toNat := by
  rw [show (0 : Int) = ((0 : Nat) : Int) from rfl, Cw.takeU_in (Nat.zero_le _), List.drop_zero] at h
  rcases Cw.vrun_shape l 0 0 (by omega) (by decide) with ⟨u', n', e, h1, h2, h3, h4⟩ | e | e
  · rw [e] at h
    simp only [Prod.mk.injEq] at h
    obtain ⟨rfl, hn, -⟩ := h
    obtain ⟨v, e1, e2, e3, e4, e5⟩ := Cw.vrun_is_vint l 0 u' n' (by omega) e
    have hv : u' = v := by omega
    subst hv
    have : n.toNat = n' - 0 := by omega
    rw [this]
    exact ⟨by omega, by omega, e3⟩
  · rw [e] at h; simp at h
  · rw [e] at h; simp at h
theorem takeU_lt {l : List UInt8} {a : Int} {u : Nat} {n e : Int} (h : Cw.takeU l a = (u, n, e)) : (u : Int) < Cw.M64 := by
  rcases Cw.takeU_cases l a with ⟨u1, n1, e1, h1, h2, h3, h4, h5⟩ | ⟨e1, h1, h2⟩
  · rw [e1] at h; simp only [Prod.mk.injEq] at h; rw [← h.1]; exact h1
  · rw [h1] at h; simp only [Prod.mk.injEq] at h; rw [← h.1, Cw.m64]; omega
theorem takeT_is {l t : List UInt8} {m n : Int} (h : Cw.takeT l 0 m = (t, n, 0)) : 1 ≤ n ∧ n ≤ l.length ∧ Cw.text t = l.take n.toNat := by
  unfold Cw.takeT at h
  rcases takeC_cases l 0 m with ⟨u1, n1, e1, h1, h2, h3, h4⟩ | ⟨e1, h1, h2⟩
  · rw [e1] at h
    simp only [ne_eq, not_true_eq_false, if_false, Prod.mk.injEq] at h
    obtain ⟨h5, h6, -⟩ := h
    have hU : Cw.takeU l 0 = (u1, n1, 0) := by
      unfold Cw.takeC at e1
      rcases Cw.takeU_cases l 0 with ⟨u2, n2, e2, g1, g2, g3, g4, g5⟩ | ⟨e2, g1, g2⟩
      · rw [e2] at e1 ⊢
        simp only [ne_eq, not_true_eq_false, if_false] at e1
        split at e1
        · simp at e1
        · split at e1
          · simp at e1
          · exact e1
      · rw [g1] at e1
        simp only at e1
        rw [if_pos (by omega)] at e1
        simp only [Prod.mk.injEq] at e1
        omega
    obtain ⟨f1, f2, f3⟩ := takeU_is hU
    refine ⟨by omega, by omega, ?_⟩
    have ht : t.length = u1 := by rw [← h5, List.length_take, List.length_drop]; omega
    unfold Cw.text
    rw [ht, f3, ← h5, show n.toNat = n1.toNat + u1 by omega, List.take_add]
  · rw [h1] at h
    simp only at h
    rw [if_pos (by omega)] at h
    simp only [Prod.mk.injEq] at h; omega
/-! A part of a list -/
def seg (l : List UInt8) (a b : Nat) : List UInt8 := (l.drop a).take (b - a)
theorem seg_app (l : List UInt8) (a b c : Nat) (h : a ≤ b) (h2 : b ≤ c) : seg l a b ++ seg l b c = seg l a c := by
  unfold seg
  rw [show c - a = (b - a) + (c - b) by omega, List.take_add, List.drop_drop, show a + (b - a) = b by omega]
theorem seg_len (l : List UInt8) (a b : Nat) (h2 : b ≤ l.length) : (seg l a b).length = b - a := by
  unfold seg
  rw [List.length_take, List.length_drop]; omega
theorem seg_split (l : List UInt8) (a b : Nat) (h : a ≤ b) : l = l.take a ++ (seg l a b ++ l.drop b) := by
  have e : seg l a b ++ l.drop b = l.drop a := by
    unfold seg
    have := List.take_append_drop (b - a) (l.drop a)
    rw [List.drop_drop, show a + (b - a) = b by omega] at this
    exact this
  rw [e, List.take_append_drop]
/-- Between a and b the list holds these bytes. -/
def At (l : List UInt8) (a b : Int) (bs : List UInt8) : Prop := ∃ x y : Nat, a = x ∧ b = y ∧ x ≤ y ∧ y ≤ l.length ∧ bs = seg l x y
theorem At.trans {l : List UInt8} {a b c : Int} {xs ys : List UInt8} (h : At l a b xs) (k : At l b c ys) : At l a c (xs ++ ys) := by
  obtain ⟨x, y, rfl, rfl, h1, h2, rfl⟩ := h
  obtain ⟨y', z, e, rfl, k1, k2, rfl⟩ := k
  obtain rfl : y = y' := by omega
  exact ⟨x, z, rfl, rfl, by omega, k2, seg_app l x y z h1 k1⟩
theorem At.refl {l : List UInt8} {a : Int} (h0 : 0 ≤ a) (h1 : a ≤ l.length) : At l a a [] := by
  obtain ⟨x, rfl⟩ := Int.eq_ofNat_of_zero_le h0
  exact ⟨x, x, rfl, rfl, Nat.le_refl _, by omega, by simp [seg]⟩
theorem At.len {l : List UInt8} {a b : Int} {xs : List UInt8} (h : At l a b xs) : 0 ≤ a ∧ b = a + (xs.length : Int) ∧ b ≤ l.length := by
  obtain ⟨x, y, rfl, rfl, h1, h2, rfl⟩ := h
  rw [seg_len l x y h2]; omega
theorem At.split {l : List UInt8} {a c : Int} {xs ys : List UInt8} (h : At l a c (xs ++ ys)) : At l a (a + (xs.length : Int)) xs ∧ At l (a + (xs.length : Int)) c ys := by
  obtain ⟨x, z, rfl, rfl, h1, h2, h3⟩ := h
  have hl := congrArg List.length h3
  rw [seg_len l x z h2, List.length_append] at hl
  have h4 := seg_app l x (x + xs.length) z (by omega) (by omega)
  rw [← h3] at h4
  obtain ⟨h5, h6⟩ := List.append_inj h4 (by rw [seg_len l _ _ (by omega)]; omega)
  exact ⟨⟨x, x + xs.length, rfl, by omega, by omega, by omega, h5.symm⟩, ⟨x + xs.length, z, by omega, rfl, by omega, h2, h6.symm⟩⟩
theorem At.cut {l : List UInt8} {a c : Int} {xs ys : List UInt8} (h : At l a c (xs ++ ys)) : ∃ b, At l a b xs ∧ At l b c ys := ⟨_, h.split⟩
theorem At.whole (p bs r : List UInt8) : At (p ++ (bs ++ r)) (p.length : Nat) ((p.length : Int) + (bs.length : Int)) bs := by
  refine ⟨p.length, p.length + bs.length, rfl, by omega, by omega, by simp only [List.length_append]; omega, ?_⟩
  unfold seg
  rw [List.drop_left, show p.length + bs.length - p.length = bs.length by omega, List.take_left]
theorem At.eq {l : List UInt8} {n : Int} {bs : List UInt8} (h : At l 0 n bs) : bs = l.take n.toNat := by
  obtain ⟨x, y, h0, rfl, h1, h2, rfl⟩ := h
  obtain rfl : x = 0 := by omega
  simp [seg]
/-! Words -/
theorem takeU_IS {l : List UInt8} {a n : Int} {u : Nat} (h : Cw.takeU l a = (u, n, 0)) : At l a n (Cw.vint u) ∧ a < n := by
  rcases Cw.takeU_cases l a with ⟨u1, n1, e1, h1, h2, h3, h4, h5⟩ | ⟨e1, h1, h2⟩
  · obtain ⟨x, rfl⟩ := Int.eq_ofNat_of_zero_le h2
    have hx : x ≤ l.length := by omega
    have hs := takeU_shift l x hx
    rw [h] at hs
    generalize hq : Cw.takeU (l.drop x) 0 = q at hs
    obtain ⟨u', n', e'⟩ := q
    simp only [Prod.mk.injEq] at hs
    obtain ⟨rfl, hn, rfl⟩ := hs
    rw [if_pos rfl] at hn
    obtain ⟨g1, g2, g3⟩ := takeU_is hq
    rw [List.length_drop] at g2
    refine ⟨⟨x, x + n'.toNat, rfl, by omega, by omega, by omega, ?_⟩, by omega⟩
    rw [g3]; unfold seg
    rw [show x + n'.toNat - x = n'.toNat by omega]
  · rw [h1] at h; simp only [Prod.mk.injEq] at h; omega
theorem takeU_RT {l : List UInt8} {a n : Int} {u : Nat} (h : At l a n (Cw.vint u)) (hu : (u : Int) < Cw.M64) : Cw.takeU l a = (u, n, 0) := by
  have hl := h.len
  obtain ⟨x, y, rfl, rfl, h1, h2, h3⟩ := h
  have e := seg_split l x y h1
  rw [← h3] at e
  have := takeU_at (l.take x) (l.drop y) u hu
  rw [← e, List.length_take, show min x l.length = x by omega] at this
  rw [this, hl.2.1]
theorem takeC_U {l : List UInt8} {a n m : Int} {u : Nat} (h : Cw.takeC l a m = (u, n, 0)) : Cw.takeU l a = (u, n, 0) ∧ (u : Int) ≤ m ∧ (u : Int) ≤ (l.length : Int) - n := by
  unfold Cw.takeC at h
  rcases Cw.takeU_cases l a with ⟨u2, n2, e2, g1, g2, g3, g4, g5⟩ | ⟨e2, g1, g2⟩
  · rw [e2] at h ⊢
    simp only [ne_eq, not_true_eq_false, if_false] at h
    split at h
    · simp at h
    · split at h
      · simp at h
      · simp only [Prod.mk.injEq] at h
        obtain ⟨rfl, rfl, _⟩ := h
        exact ⟨rfl, by omega, by omega⟩
  · rw [g1] at h
    simp only at h
    rw [if_pos (by omega)] at h
    simp only [Prod.mk.injEq] at h; omega
theorem takeC_RT {l : List UInt8} {a n m : Int} {u : Nat} (h : At l a n (Cw.vint u)) (hu : (u : Int) < Cw.M64) (hm : (u : Int) ≤ m) (hr : (u : Int) ≤ (l.length : Int) - n) : Cw.takeC l a m = (u, n, 0) := by
  unfold Cw.takeC
  rw [takeU_RT h hu]
  simp only [ne_eq, not_true_eq_false, if_false]
  rw [if_neg (by omega), if_neg (by omega)]
theorem takeT_IS {l t : List UInt8} {a n m : Int} (h : Cw.takeT l a m = (t, n, 0)) : At l a n (Cw.text t) := by
  unfold Cw.takeT at h
  generalize hq : Cw.takeC l a m = q at h
  obtain ⟨u, n1, e1⟩ := q
  simp only at h
  by_cases he : e1 = 0
  · subst he
    rw [if_neg (by simp)] at h
    simp only [Prod.mk.injEq] at h
    obtain ⟨rfl, rfl, _⟩ := h
    obtain ⟨hU, h2, h3⟩ := takeC_U hq
    obtain ⟨hA, hlt⟩ := takeU_IS hU
    have hl := hA.len
    obtain ⟨k, rfl⟩ := Int.eq_ofNat_of_zero_le (show 0 ≤ n1 by omega)
    have ht : ((l.drop (k : Int).toNat).take u).length = u := by rw [List.length_take, List.length_drop]; omega
    unfold Cw.text
    rw [ht]
    refine hA.trans ⟨k, k + u, rfl, by omega, by omega, by omega, ?_⟩
    unfold seg
    rw [show k + u - k = u by omega]; rfl
  · rw [if_pos he] at h
    simp only [Prod.mk.injEq] at h; omega
theorem takeT_RT {l t : List UInt8} {a n m : Int} (h : At l a n (Cw.text t)) (ht : (t.length : Int) < Cw.M64) (hm : (t.length : Int) ≤ m) : Cw.takeT l a m = (t, n, 0) := by
  have hl := h.len
  obtain ⟨x, y, rfl, rfl, h1, h2, h3⟩ := h
  have e := seg_split l x y h1
  rw [← h3] at e
  have := takeT_at (l.take x) (l.drop y) t m ht hm
  rw [← e, List.length_take, show min x l.length = x by omega] at this
  rw [this, hl.2.1]
theorem takeB_IS {l : List UInt8} {a n : Int} {b : Bool} (h : takeB l a = (b, n, 0)) : At l a n (Cw.boolB b) := by
  unfold takeB at h
  by_cases ha : a < 0 ∨ (l.length : Int) < a
  · rw [if_pos ha] at h; simp at h
  rw [if_neg ha] at h
  obtain ⟨x, rfl⟩ := Int.eq_ofNat_of_zero_le (show 0 ≤ a by omega)
  rw [Int.toNat_natCast] at h
  cases hd : l.drop x with
  | nil => rw [hd] at h; simp at h
  | cons c r =>
    rw [hd] at h
    simp only at h
    have hlen := congrArg List.length hd
    rw [List.length_drop, List.length_cons] at hlen
    by_cases hc : 1 < c.toNat
    · rw [if_pos hc] at h; simp at h
    · rw [if_neg hc] at h
      simp only [Prod.mk.injEq] at h
      obtain ⟨rfl, rfl, _⟩ := h
      refine ⟨x, x + 1, rfl, by omega, by omega, by omega, ?_⟩
      unfold seg
      rw [hd, show x + 1 - x = 1 by omega]
      have : c.toNat = 0 ∨ c.toNat = 1 := by omega
      rcases this with e | e
      · have : c = 0 := UInt8.toNat_inj.1 e
        subst this; rfl
      · have : c = 1 := UInt8.toNat_inj.1 e
        subst this; rfl
theorem takeB_RT {l : List UInt8} {a n : Int} {b : Bool} (h : At l a n (Cw.boolB b)) : takeB l a = (b, n, 0) := by
  have hl := h.len
  obtain ⟨x, y, rfl, rfl, h1, h2, h3⟩ := h
  have e := seg_split l x y h1
  rw [← h3] at e
  have := takeB_at (l.take x) (l.drop y) b
  rw [← e, List.length_take, show min x l.length = x by omega] at this
  have hb : (Cw.boolB b).length = 1 := by cases b <;> rfl
  rw [this, hl.2.1, hb]; rfl
theorem app_L (x y : ByteArray) : (x ++ y).data.toList = x.data.toList ++ y.data.toList := by simp
/-! Lists of parts -/
theorem foldl_L {α : Type} (f : α → ByteArray) : ∀ (l : List α) (h : ByteArray), (l.foldl (fun acc s => acc ++ f s) h).data.toList = h.data.toList ++ (l.map fun s => (f s).data.toList).flatten
  | [], h => by simp
  | x :: l, h => by
    rw [List.foldl_cons, foldl_L f l, app_L]
    simp
theorem vint_pos (u : Nat) (hu : (u : Int) < Cw.M64) : 1 ≤ (Cw.vint u).length := by
  have h := takeU_vint u [] hu
  rcases Cw.takeU_cases (Cw.vint u ++ []) 0 with ⟨u2, n2, e2, g1, g2, g3, g4, g5⟩ | ⟨e2, g1, g2⟩
  · rw [e2] at h; simp only [Prod.mk.injEq] at h; omega
  · rw [g1] at h; simp only [Prod.mk.injEq] at h; omega
theorem flat_len {α : Type} (f : α → List UInt8) : ∀ (l : List α), (∀ x ∈ l, 1 ≤ (f x).length) → l.length ≤ (l.map f).flatten.length
  | [], _ => Nat.zero_le _
  | x :: l, h => by
    have h1 := h x (by simp)
    have h2 := flat_len f l fun y hy => h y (by simp [hy])
    simp only [List.map_cons, List.flatten_cons, List.length_append, List.length_cons]
    omega
theorem flat_split {α : Type} (f : α → List UInt8) (l : List α) (k : Nat) (h : k < l.length) : (l.map f).flatten = ((l.take k).map f).flatten ++ (f l[k] ++ ((l.drop (k + 1)).map f).flatten) := by
  have e : l = l.take k ++ l[k] :: l.drop (k + 1) := by rw [← List.drop_eq_getElem_cons h, List.take_append_drop]
  have e2 := congrArg (fun q => (q.map f).flatten) e
  simp only [List.map_append, List.map_cons, List.flatten_append, List.flatten_cons] at e2
  exact e2
theorem flat_next {α : Type} (f : α → List UInt8) (l : List α) (k : Nat) (h : k < l.length) : ((l.take (k + 1)).map f).flatten = ((l.take k).map f).flatten ++ f l[k] := by
  rw [List.take_succ_eq_append_getElem h]
  simp only [List.map_append, List.flatten_append, List.map_cons, List.map_nil, List.flatten_cons, List.flatten_nil, List.append_nil]
def textL (s : ByteArray) : List UInt8 := (textB s).data.toList
theorem textL_eq (s : ByteArray) : textL s = Cw.text s.data.toList := rfl
theorem mk_L (s : ByteArray) : (⟨s.data.toList.toArray⟩ : ByteArray) = s := by apply ByteArray.ext; simp
theorem textL_pos (s : ByteArray) (h : s.size ≤ 1073741824) : 1 ≤ (textL s).length := by
  rw [textL_eq]; unfold Cw.text
  have p := vint_pos s.data.toList.length (by rw [dsize, Cw.m64]; omega)
  rw [List.length_append]; omega
theorem takeI_RT {l : List UInt8} {a n m : Int} (h : At l a n (Cw.vint (Cw.fold m))) (h0 : -Cw.M63 ≤ m) (h1 : m < Cw.M63) : takeIv (Cw.takeU l a) = (m, n, 0) := by
  rw [takeU_RT h (Cw.fold_lt m h0 h1)]
  simp only [takeIv, ne_eq, not_true_eq_false, if_false, Cw.unfold_fold]
theorem takeI_IS {l : List UInt8} {a n m : Int} (h : takeIv (Cw.takeU l a) = (m, n, 0)) : At l a n (Cw.vint (Cw.fold m)) := by
  generalize hq : Cw.takeU l a = q at h
  obtain ⟨u, n1, e1⟩ := q
  by_cases he : e1 = 0
  · subst he
    simp only [takeIv, ne_eq, not_true_eq_false, if_false, Prod.mk.injEq] at h
    obtain ⟨rfl, rfl, _⟩ := h
    rw [Cw.fold_unfold u]
    exact (takeU_IS hq).1
  · simp [takeIv, he] at h
theorem takeI_in (l : List UInt8) (a : Int) : -Cw.M63 ≤ (takeIv (Cw.takeU l a)).1 ∧ (takeIv (Cw.takeU l a)).1 < Cw.M63 := by
  have hlt := takeU_lt' l a
  generalize Cw.takeU l a = q at hlt
  obtain ⟨u, n, e⟩ := q
  simp only at hlt
  by_cases he : e = 0
  · subst he
    simp only [takeIv, ne_eq, not_true_eq_false, if_false]
    exact Cw.unfold_in u hlt
  · simp only [takeIv, ne_eq, he, not_false_eq_true, if_true]
    exact m63_0
/-! Readings one after the other -/
def stG {α : Type} (f : Int → α × Int × Int) (a : Int) : Nat → List α × Int × Int
  | 0 => ([], a, 0)
  | k + 1 => if (stG f a k).2.2 ≠ 0 then stG f a k else ((stG f a k).1 ++ [(f (stG f a k).2.1).1], (f (stG f a k).2.1).2.1, (f (stG f a k).2.1).2.2)
theorem stG_err {α : Type} (f : Int → α × Int × Int) (a : Int) (k : Nat) (h : (stG f a k).2.2 ≠ 0) : ∀ n, k ≤ n → stG f a n = stG f a k
  | n, hn => by
    induction n with
    | zero => rw [show k = 0 by omega]
    | succ n ih =>
      by_cases hk : k = n + 1
      · rw [hk]
      · have ih := ih (by omega)
        show (if (stG f a n).2.2 ≠ 0 then stG f a n else _) = _
        rw [if_pos (by rw [ih]; exact h), ih]
theorem stG_ok {α : Type} (f : Int → α × Int × Int) (a : Int) (k : Nat) (h : (stG f a k).2.2 = 0) : stG f a (k + 1) = ((stG f a k).1 ++ [(f (stG f a k).2.1).1], (f (stG f a k).2.1).2.1, (f (stG f a k).2.1).2.2) := if_neg (by simp [h])
theorem stG_len {α : Type} (f : Int → α × Int × Int) (a : Int) : ∀ k, (stG f a k).1.length ≤ k
  | 0 => Nat.le_refl _
  | k + 1 => by
    have ih := stG_len f a k
    by_cases he : (stG f a k).2.2 = 0
    · rw [stG_ok f a k he]; simp; omega
    · rw [stG_err f a k he (k + 1) (by omega)]; omega
theorem stG_full {α : Type} (f : Int → α × Int × Int) (a : Int) : ∀ k, (stG f a k).2.2 = 0 → (stG f a k).1.length = k
  | 0, _ => rfl
  | k + 1, h => by
    by_cases he : (stG f a k).2.2 = 0
    · have ih := stG_full f a k he
      rw [stG_ok f a k he]; simp [ih]
    · rw [stG_err f a k he (k + 1) (by omega)] at h; exact absurd h he
theorem stG_all {α : Type} (f : Int → α × Int × Int) (Q : α → Prop) (hQ : ∀ a, Q (f a).1) (a : Int) : ∀ k, ∀ x ∈ (stG f a k).1, Q x
  | 0, x, h => by cases h
  | k + 1, x, h => by
    by_cases he : (stG f a k).2.2 = 0
    · rw [stG_ok f a k he] at h
      rcases List.mem_append.1 h with h | h
      · exact stG_all f Q hQ a k x h
      · rw [List.mem_singleton.1 h]; exact hQ _
    · rw [stG_err f a k he (k + 1) (by omega)] at h
      exact stG_all f Q hQ a k x h
theorem stG_RT {α : Type} (f : Int → α × Int × Int) (g : α → List UInt8) (l : List UInt8) (a n : Int) (xs : List α) (h : At l a n (xs.map g).flatten) (hf : ∀ x ∈ xs, ∀ b c, At l b c (g x) → f b = (x, c, 0)) : ∀ k, k ≤ xs.length → stG f a k = (xs.take k, a + (((xs.take k).map g).flatten.length : Int), 0)
  | 0, _ => by simp [stG]
  | k + 1, hkk => by
    have ih := stG_RT f g l a n xs h hf k (by omega)
    rw [flat_split g xs k (by omega)] at h
    have HH := h.split.2.split.1
    have hm : xs[k] ∈ xs := List.getElem_mem (by omega)
    have hd := hf _ hm _ _ HH
    rw [stG_ok f a k (by rw [ih]), ih]
    simp only []
    rw [hd, flat_next g xs k (by omega), List.take_succ_eq_append_getElem (by omega)]
    simp only []
    rw [List.length_append]
    refine Prod.ext rfl (Prod.ext ?_ rfl)
    simp only []
    omega
theorem stG_IS {α : Type} (f : Int → α × Int × Int) (g : α → List UInt8) (l : List UInt8) (a : Int) (h0 : 0 ≤ a) (h1 : a ≤ l.length) (hf : ∀ b x c, f b = (x, c, 0) → At l b c (g x)) : ∀ k, (stG f a k).2.2 = 0 → At l a (stG f a k).2.1 ((stG f a k).1.map g).flatten
  | 0, _ => At.refl h0 h1
  | k + 1, h => by
    by_cases he : (stG f a k).2.2 = 0
    · have ih := stG_IS f g l a h0 h1 hf k he
      rw [stG_ok f a k he] at h ⊢
      simp only [] at h ⊢
      have := ih.trans (hf (stG f a k).2.1 (f (stG f a k).2.1).1 (f (stG f a k).2.1).2.1 (by rw [← h]))
      rw [List.map_append, List.flatten_append]
      simpa using this
    · rw [stG_err f a k he (k + 1) (by omega)] at h; exact absurd h he
end Go.Proofs.Ytokkjkoonglheaa
