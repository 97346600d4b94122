/- Chapter 40: what is encoded is decoded, what is decoded was encoded; plainly. -/
import Derived.Test.YtokkjkoonglheaaNd
set_option linter.unusedSimpArgs false
set_option linter.unusedVariables false
namespace Go.Proofs.Ytokkjkoonglheaa
open Go Ab Go.RowKit
set_option maxRecDepth 100000

theorem takeT_big {l t : List UInt8} {a n m : Int} (h : At l a n (Cw.text t)) (ht : (t.length : Int) < Cw.M64) (hm : m < (t.length : Int)) : Cw.takeT l a m = ([], 0, 2) := by
  unfold Cw.text at h
  obtain ⟨b, g1, g2⟩ := h.cut
  have hU := takeU_RT g1 ht
  have hC : Cw.takeC l a m = (0, 0, 2) := by
    unfold Cw.takeC
    rw [hU]
    simp only [ne_eq, not_true_eq_false, if_false]
    rw [if_pos (.inr hm)]
  unfold Cw.takeT
  rw [hC]
  simp
theorem takeC_big {l : List UInt8} {a n m : Int} {u : Nat} (h : At l a n (Cw.vint u)) (hu : (u : Int) < Cw.M64) (hm : m < (u : Int)) : Cw.takeC l a m = (0, 0, 2) := by
  unfold Cw.takeC
  rw [takeU_RT h hu]
  simp only [ne_eq, not_true_eq_false, if_false]
  rw [if_pos (.inr hm)]
theorem takeT_le (l : List UInt8) (a m : Int) (hm : 0 ≤ m) : ((Cw.takeT l a m).1.length : Int) ≤ m := by
  have h := takeC_le l a m hm
  unfold Cw.takeT
  generalize Cw.takeC l a m = q at h
  obtain ⟨u, n, e⟩ := q
  simp only at h ⊢
  split
  · simpa using hm
  · simp only [List.length_take, List.length_drop]; omega
theorem numL_all (m : Msg) : numL m 7 = ((nums m).map intL).flatten := rfl
theorem mkM_nums (m : Msg) : mkM (nums m) m.ok m.items = m := rfl
def Itm.lim (x : Itm) : Prop := x.data.size ≤ 4096
theorem intL_pos (n : Int) (h : in63 n) : 1 ≤ (intL n).length := vint_pos _ (Cw.fold_lt n h.1 h.2)
theorem itL_pos (x : Itm) (h : in63 x.term) : 1 ≤ (itL x).length := by
  have := intL_pos _ h
  unfold itL; rw [List.length_append]; omega
theorem dIt_RT {l : List UInt8} {a n : Int} {x : Itm} (h : At l a n (itL x)) (hx : in63 x.term) (hs : x.data.size ≤ 1048576) (hl : x.lim) : dIt l a = (x, n, 0) := by
  unfold itL at h
  obtain ⟨b, g1, g2⟩ := h.cut
  have hI : takeI l a = (x.term, b, 0) := takeI_RT g1 hx.1 hx.2
  have hT : dT l b = (x.data.data.toList, n, 0) := takeT_RT (m := 4096) g2 (by rw [dsize, Cw.m64]; omega) (by rw [dsize]; unfold Itm.lim at hl; omega)
  unfold dIt
  rw [hI]
  simp only [ne_eq, not_true_eq_false, if_false]
  rw [hT]
theorem dIt_big {l : List UInt8} {a n : Int} {x : Itm} (h : At l a n (itL x)) (hx : in63 x.term) (hs : x.data.size ≤ 1048576) (hl : ¬ x.lim) : (dIt l a).2.2 ≠ 0 := by
  unfold itL at h
  obtain ⟨b, g1, g2⟩ := h.cut
  have hI : takeI l a = (x.term, b, 0) := takeI_RT g1 hx.1 hx.2
  have hT : dT l b = ([], 0, 2) := takeT_big (m := 4096) g2 (by rw [dsize, Cw.m64]; omega) (by rw [dsize]; unfold Itm.lim at hl; omega)
  unfold dIt
  rw [hI]
  simp only [ne_eq, not_true_eq_false, if_false]
  rw [hT]
  decide
theorem itS_scan (l : List UInt8) (a n : Int) (xs : List Itm) (h : At l a n (xs.map itL).flatten) (h1 : ∀ x ∈ xs, in63 x.term) (h2 : ∀ x ∈ xs, x.data.size ≤ 1048576) : ∀ k, k ≤ xs.length →
    (itS l a k).2.2 ≠ 0 ∨ (itS l a k = (xs.take k, a + (((xs.take k).map itL).flatten.length : Int), 0) ∧ ∀ x ∈ xs.take k, x.lim)
  | 0, _ => .inr ⟨by simp [itS, stG], fun x hx => by simp at hx⟩
  | k + 1, hk => by
    rcases itS_scan l a n xs h h1 h2 k (by omega) with ih | ⟨ih, ia⟩
    · left
      have : itS l a (k + 1) = itS l a k := stG_err (dIt l) a k ih (k + 1) (by omega)
      rw [this]; exact ih
    · rw [flat_split itL xs k (by omega)] at h
      have HH := h.split.2.split.1
      have hm : xs[k] ∈ xs := List.getElem_mem (by omega)
      have es : itS l a (k + 1) = ((itS l a k).1 ++ [(dIt l (itS l a k).2.1).1], (dIt l (itS l a k).2.1).2.1, (dIt l (itS l a k).2.1).2.2) := stG_ok (dIt l) a k (by show (itS l a k).2.2 = 0; rw [ih])
      rw [ih] at es
      simp only [] at es
      by_cases hl : xs[k].lim
      · right
        have hd := dIt_RT HH (h1 _ hm) (h2 _ hm) hl
        rw [hd] at es
        rw [es, flat_next itL xs k (by omega), List.take_succ_eq_append_getElem (by omega)]
        refine ⟨Prod.ext rfl (Prod.ext ?_ rfl), fun x hx => ?_⟩
        · simp only []
          rw [List.length_append]
          omega
        · rcases List.mem_append.1 hx with hx | hx
          · exact ia x hx
          · rw [List.mem_singleton.1 hx]; exact hl
      · left
        have hd := dIt_big HH (h1 _ hm) (h2 _ hm) hl
        rw [es]
        exact hd
/-- Does a message go beyond the limits? -/
def bigK (m : Msg) (k : Nat) : Bool := decide ((256 : Int) < (m.items.length : Int)) || (m.items.take k).any fun x => decide ((4096 : Int) < (x.data.size : Int))
def Msg.big (m : Msg) : Bool := decide ((256 : Int) < (m.items.length : Int)) || m.items.any fun x => decide ((4096 : Int) < (x.data.size : Int))
theorem bigK_zero (m : Msg) : bigK m 0 = decide ((256 : Int) < (m.items.length : Int)) := by simp [bigK]
theorem bigK_end (m : Msg) : bigK m m.items.length = m.big := by unfold bigK Msg.big; rw [List.take_length]
theorem bigK_step (m : Msg) (k : Nat) (h : k < m.items.length) : bigK m (k + 1) = (bigK m k || decide ((4096 : Int) < (m.items[k].data.size : Int))) := by
  unfold bigK
  rw [List.take_succ_eq_append_getElem h, List.any_append]
  simp [Bool.or_assoc]
theorem not_big {m : Msg} (h : m.big = false) : m.items.length ≤ 256 ∧ ∀ x ∈ m.items, x.lim := by
  unfold Msg.big at h
  rw [Bool.or_eq_false_iff] at h
  obtain ⟨h1, h2⟩ := h
  have h1 := of_decide_eq_false h1
  refine ⟨by omega, fun x hx => ?_⟩
  have := List.any_eq_false.1 h2 x hx
  have : ¬ ((4096 : Int) < (x.data.size : Int)) := fun q => this (decide_eq_true q)
  unfold Itm.lim
  omega
theorem is_big {m : Msg} (h : m.big = true) : 256 < m.items.length ∨ ∃ x ∈ m.items, ¬ x.lim := by
  unfold Msg.big at h
  rw [Bool.or_eq_true] at h
  rcases h with h | h
  · have h := of_decide_eq_true h
    exact .inl (by omega)
  · obtain ⟨x, hx, h⟩ := List.any_eq_true.1 h
    have h := of_decide_eq_true h
    exact .inr ⟨x, hx, by unfold Itm.lim; omega⟩
theorem decM_len (l : List UInt8) (n : Int) (m : Msg) (hm : m.smal) (h : At l 0 n (msgL m m.items.length)) :
    (m.big = false → decM l = if n ≠ l.length then (zeroM, 5) else (m, 0)) ∧ (m.big = true → (decM l).2 ≠ 0) := by
  unfold msgL headL midL at h
  rw [List.take_length] at h
  obtain ⟨a3, h, g4⟩ := h.cut
  obtain ⟨a2, h, g3⟩ := h.cut
  obtain ⟨a1, g1, g2⟩ := h.cut
  rw [numL_all] at g1
  have hN : nmS l 7 = (nums m, a1, 0) := by
    have := stG_RT (takeI l) intL l 0 a1 (nums m) g1 (fun x hx b c hb => takeI_RT hb (hm.num.all x hx).1 (hm.num.all x hx).2) 7 (Nat.le_refl _)
    unfold nmS
    rw [this]
    have l1 := g1.len
    refine Prod.ext rfl (Prod.ext ?_ rfl)
    rw [l1.2.1]; rfl
  have hB := takeB_RT g2
  have l4 := g4.len
  have hp := flat_len itL m.items fun x hx => itL_pos x (hm.num.its x hx)
  have hml := hm.len
  have hS := itS_scan l a3 n m.items g4 hm.num.its hm.dat m.items.length (Nat.le_refl _)
  rw [List.take_length] at hS
  unfold decM
  rw [hN]
  simp only [ne_eq, not_true_eq_false, if_false]
  rw [hB]
  simp only [ne_eq, not_true_eq_false, if_false]
  by_cases hc : m.items.length ≤ 256
  · have hC : mC l a2 = (m.items.length, a3, 0) := takeC_RT (m := 256) g3 (by rw [Cw.m64]; omega) (by omega) (by omega)
    rw [hC]
    simp only [not_true_eq_false, if_false]
    refine ⟨fun hb => ?_, fun hb => ?_⟩
    · obtain ⟨_, hl⟩ := not_big hb
      have hI : itS l a3 m.items.length = (m.items, n, 0) := by
        have := stG_RT (dIt l) itL l a3 n m.items g4 (fun x hx b c hb => dIt_RT hb (hm.num.its x hx) (hm.dat x hx) (hl x hx)) m.items.length (Nat.le_refl _)
        rw [List.take_length] at this
        unfold itS
        rw [this, l4.2.1]
      rw [hI]
      simp only [not_true_eq_false, if_false]
      split
      · rfl
      · rfl
    · rcases is_big hb with hb | ⟨x, hx, hb⟩
      · omega
      · rcases hS with hS | ⟨_, hS⟩
        · rw [if_pos hS]; exact hS
        · exact absurd (hS x hx) hb
  · have hC : mC l a2 = (0, 0, 2) := takeC_big (m := 256) g3 (by rw [Cw.m64]; omega) (by omega)
    rw [hC]
    refine ⟨fun hb => ?_, fun hb => ?_⟩
    · have := (not_big hb).1; omega
    · simp
theorem decM_IS (l : List UInt8) (h : (decM l).2 = 0) : l = msgL (decM l).1 (decM l).1.items.length ∧ (decM l).1.smal ∧ (decM l).1.big = false := by
  unfold decM at h ⊢
  by_cases h1 : (nmS l 7).2.2 ≠ 0
  · rw [if_pos h1] at h; exact absurd h h1
  rw [if_neg h1] at h ⊢
  by_cases h2 : (takeB l (nmS l 7).2.1).2.2 ≠ 0
  · rw [if_pos h2] at h; exact absurd h h2
  rw [if_neg h2] at h ⊢
  by_cases h3 : (mC l (takeB l (nmS l 7).2.1).2.1).2.2 ≠ 0
  · rw [if_pos h3] at h; exact absurd h h3
  rw [if_neg h3] at h ⊢
  by_cases h4 : (itS l (mC l (takeB l (nmS l 7).2.1).2.1).2.1 (mC l (takeB l (nmS l 7).2.1).2.1).1).2.2 ≠ 0
  · rw [if_pos h4] at h; exact absurd h h4
  rw [if_neg h4] at h ⊢
  by_cases h5 : (itS l (mC l (takeB l (nmS l 7).2.1).2.1).2.1 (mC l (takeB l (nmS l 7).2.1).2.1).1).2.1 ≠ l.length
  · rw [if_pos h5] at h; exact absurd h (by decide)
  rw [if_neg h5]
  clear h
  simp only [ne_eq, Decidable.not_not] at h1 h2 h3 h4 h5
  have g1 := stG_IS (takeI l) intL l 0 (by omega) (by omega) (fun b x c hb => takeI_IS hb) 7 h1
  have f1 := stG_full (takeI l) 0 7 h1
  have q1 := stG_all (takeI l) in63 (fun a => takeI_in l a) 0 7
  change At l 0 (nmS l 7).2.1 ((nmS l 7).1.map intL).flatten at g1
  change (nmS l 7).1.length = 7 at f1
  change ∀ x ∈ (nmS l 7).1, in63 x at q1
  generalize nmS l 7 = N at *
  obtain ⟨vs, a1, e1⟩ := N
  simp only [] at *
  have g2 : At l a1 (takeB l a1).2.1 (Cw.boolB (takeB l a1).1) := takeB_IS (by rw [← h2])
  generalize takeB l a1 = B at *
  obtain ⟨ok, a2, e2⟩ := B
  simp only [] at *
  have hn := mC_le l a2
  have g3 : At l a2 (mC l a2).2.1 (Cw.vint (mC l a2).1) := (takeU_IS (takeC_U (m := 256) (l := l) (a := a2) (u := (mC l a2).1) (n := (mC l a2).2.1) (by rw [← h3]; rfl)).1).1
  generalize mC l a2 = C at *
  obtain ⟨n, a3, e3⟩ := C
  simp only [] at *
  have l3 := g3.len
  have g4 := stG_IS (dIt l) itL l a3 (by omega) (by omega) (fun b x c hb => by
    unfold dIt at hb
    by_cases he : (takeI l b).2.2 ≠ 0
    · rw [if_pos he] at hb
      simp only [Prod.mk.injEq] at hb
      exact absurd hb.2.2 he
    · rw [if_neg he] at hb
      simp only [Prod.mk.injEq] at hb
      obtain ⟨rfl, rfl, hb⟩ := hb
      have i1 : At l b (takeI l b).2.1 (intL (takeI l b).1) := takeI_IS (show takeIv (Cw.takeU l b) = ((takeI l b).1, (takeI l b).2.1, 0) by
        have : (takeI l b).2.2 = 0 := by omega
        rw [← this]; rfl)
      have i2 : At l (takeI l b).2.1 (dT l (takeI l b).2.1).2.1 (Cw.text (dT l (takeI l b).2.1).1) := takeT_IS (m := 4096) (by rw [← hb]; rfl)
      have := i1.trans i2
      unfold itL
      rw [textL_eq]
      simpa using this) n h4
  have f4 := stG_full (dIt l) a3 n h4
  have q4 := stG_all (dIt l) (fun x => in63 x.term ∧ x.lim) (fun a => by
    unfold dIt
    split
    · exact ⟨m63_0, Nat.zero_le 4096⟩
    · refine ⟨takeI_in l a, ?_⟩
      unfold Itm.lim
      have := takeT_le l (takeI l a).2.1 4096 (by decide)
      rw [bsize]
      show (Cw.takeT l (takeI l a).2.1 4096).1.length ≤ 4096
      omega) a3 n
  change At l a3 (itS l a3 n).2.1 ((itS l a3 n).1.map itL).flatten at g4
  change (itS l a3 n).1.length = n at f4
  change ∀ x ∈ (itS l a3 n).1, in63 x.term ∧ x.lim at q4
  generalize itS l a3 n = I at *
  obtain ⟨its, a4, e4⟩ := I
  simp only [] at *
  obtain ⟨v1, v2, v3, v4, v5, v6, v7, rfl⟩ := seven vs f1
  have hg := ((g1.trans g2).trans g3).trans g4
  have he := hg.eq
  rw [h5, Int.toNat_natCast, List.take_length] at he
  refine ⟨?_, ⟨⟨q1, fun x hx => (q4 x hx).1⟩, ?_, fun x hx => ?_⟩, ?_⟩
  · show l = msgL (mkM [v1, v2, v3, v4, v5, v6, v7] ok its) its.length
    unfold msgL headL midL
    show l = ((_ ++ Cw.boolB ok) ++ Cw.vint its.length) ++ ((its.take its.length).map itL).flatten
    rw [List.take_length, f4, ← he]; rfl
  · show its.length ≤ 1048576
    omega
  · have := (q4 x hx).2
    unfold Itm.lim at this
    omega
  · unfold Msg.big
    show (decide ((256 : Int) < (its.length : Int)) || its.any fun x => decide ((4096 : Int) < (x.data.size : Int))) = false
    rw [Bool.or_eq_false_iff]
    refine ⟨decide_eq_false (by omega), List.any_eq_false.2 fun x hx hq => ?_⟩
    have hq := of_decide_eq_true hq
    have := (q4 x hx).2
    unfold Itm.lim at this
    omega
theorem decM_items (l : List UInt8) : (decM l).1.items.length ≤ 256 := by
  have h1 := mC_le l (takeB l (nmS l 7).2.1).2.1
  have h2 : (itS l (mC l (takeB l (nmS l 7).2.1).2.1).2.1 (mC l (takeB l (nmS l 7).2.1).2.1).1).1.length ≤ _ := stG_len (dIt l) _ _
  unfold decM
  split
  · exact Nat.zero_le _
  split
  · exact Nat.zero_le _
  split
  · exact Nat.zero_le _
  split
  · exact Nat.zero_le _
  split
  · exact Nat.zero_le _
  · show (itS l (mC l (takeB l (nmS l 7).2.1).2.1).2.1 (mC l (takeB l (nmS l 7).2.1).2.1).1).1.length ≤ 256
    omega
theorem msg_at (m : Msg) : At (msgL m m.items.length) 0 ((msgL m m.items.length).length : Int) (msgL m m.items.length) :=
  ⟨0, _, rfl, rfl, Nat.zero_le _, Nat.le_refl _, by simp [seg]⟩
theorem msg_at2 (m : Msg) (r : List UInt8) : At (msgL m m.items.length ++ r) 0 ((msgL m m.items.length).length : Int) (msgL m m.items.length) :=
  ⟨0, _, rfl, rfl, Nat.zero_le _, by simp, by simp [seg]⟩
theorem decM_back (m : Msg) (hm : m.smal) (hb : m.big = false) : decM (msgL m m.items.length) = (m, 0) := by
  rw [(decM_len _ _ m hm (msg_at m)).1 hb, if_neg (by simp)]
theorem decM_more (m : Msg) (hm : m.smal) (hb : m.big = false) (c : UInt8) : decM (msgL m m.items.length ++ [c]) = (zeroM, 5) := by
  rw [(decM_len _ _ m hm (msg_at2 m [c])).1 hb, if_pos (by simp; omega)]
theorem decM_bigE (m : Msg) (hm : m.smal) (hb : m.big = true) : (decM (msgL m m.items.length)).2 ≠ 0 := (decM_len _ _ m hm (msg_at m)).2 hb
theorem decM_less (m : Msg) (hm : m.smal) (hb : m.big = false) : (decM ((msgL m m.items.length).take ((msgL m m.items.length).length - 1))).2 ≠ 0 := by
  intro h
  obtain ⟨h1, h2, h3⟩ := decM_IS _ h
  generalize (decM ((msgL m m.items.length).take ((msgL m m.items.length).length - 1))).1 = q at h1 h2 h3
  have hp : 0 < (msgL m m.items.length).length := List.length_pos_iff.2 (headL_ne m _)
  have e : msgL m m.items.length = (msgL m m.items.length).take ((msgL m m.items.length).length - 1) ++ [(msgL m m.items.length)[(msgL m m.items.length).length - 1]'(by omega)] := by
    rw [← List.take_succ_eq_append_getElem (by omega), Nat.sub_add_cancel hp, List.take_length]
  have h4 := decM_more q h2 h3 ((msgL m m.items.length)[(msgL m m.items.length).length - 1]'(by omega))
  rw [← h1, ← e, decM_back m hm hb] at h4
  exact absurd (show (0 : Int) = 5 from congrArg Prod.snd h4) (by decide)
end Go.Proofs.Ytokkjkoonglheaa
