/- Chapter 52: StaleBounded. -/
import Derived.Test.YtpicnfikpeekeaaStL
namespace Go.Proofs.Ytpicnfikpeekeaa
open Go Ab
attribute [local irreducible] awp aops aop asoft aeff aloop acall

def good (nw bd : Int) (s : Store) : Prop := ¬ (s.la < nw - bd) ∧ readB s (least2 s.la nw) = true
theorem bestK_law (l : List Store) (nw bd : Int) : ∀ k, k ≤ l.length →
    (bestK l nw bd k = -1 → ∀ i, i < k → ∀ s, l[i]? = some s → ¬ good nw bd s) ∧
    (∀ j : Nat, bestK l nw bd k = (j : Int) → ∃ t, l[j]? = some t ∧ good nw bd t ∧ ∀ i, i < k → ∀ s, l[i]? = some s → good nw bd s → s.la < t.la ∨ (s.la = t.la ∧ j ≤ i))
  | 0, _ => ⟨fun _ i hi => by omega, fun j h => by simp [bestK] at h⟩
  | k + 1, hk => by
    obtain ⟨ih1, ih2⟩ := bestK_law l nw bd k (by omega)
    have hlt : k < l.length := by omega
    have hs : l[k]? = some l[k] := List.getElem?_eq_getElem hlt
    have hst : bestK l nw bd (k + 1) = if l[k].la < nw - bd || !readB l[k] (least2 l[k].la nw) then bestK l nw bd k
            else if bestK l nw bd k < 0 then (k : Int) else match l[(bestK l nw bd k).toNat]? with
              | none => bestK l nw bd k
              | some t => if t.la < l[k].la then (k : Int) else bestK l nw bd k := by
      rw [bestK, hs]
      rfl
    by_cases hg : good nw bd l[k]
    · rw [hst, if_neg (by have h1 := hg.1; have h2 := hg.2; simp [h2]; omega)]
      rcases bestK_cases l nw bd k with h | ⟨j0, hj0, h⟩
      · rw [if_pos (by omega)]
        refine ⟨fun hh => by omega, fun j hj => ?_⟩
        have : j = k := by omega
        subst this
        refine ⟨l[j], hs, hg, fun i hi s hsi hgs => ?_⟩
        rcases Nat.lt_or_ge i j with hij | hij
        · exact absurd hgs (ih1 h i hij s hsi)
        · have : i = j := by omega
          subst this
          rw [hs] at hsi; cases hsi
          exact .inr ⟨rfl, Nat.le_refl _⟩
      · obtain ⟨t, ht, hgt, hall⟩ := ih2 j0 h
        rw [if_neg (by omega), h, Int.toNat_natCast, ht]
        simp only
        by_cases hlt2 : t.la < l[k].la
        · rw [if_pos hlt2]
          refine ⟨fun hh => by omega, fun j hj => ?_⟩
          have : j = k := by omega
          subst this
          refine ⟨l[j], hs, hg, fun i hi s hsi hgs => ?_⟩
          rcases Nat.lt_or_ge i j with hij | hij
          · rcases hall i hij s hsi hgs with h5 | ⟨h5, _⟩
            · left; omega
            · left; omega
          · have : i = j := by omega
            subst this
            rw [hs] at hsi; cases hsi
            exact .inr ⟨rfl, Nat.le_refl _⟩
        · rw [if_neg hlt2]
          refine ⟨fun hh => by omega, fun j hj => ?_⟩
          have : j = j0 := by omega
          subst this
          refine ⟨t, ht, hgt, fun i hi s hsi hgs => ?_⟩
          rcases Nat.lt_or_ge i k with hij | hij
          · exact hall i hij s hsi hgs
          · have : i = k := by omega
            subst this
            rw [hs] at hsi; cases hsi
            rcases Int.lt_or_le l[i].la t.la with h6 | h6
            · exact .inl h6
            · exact .inr ⟨by omega, by omega⟩
    · rw [hst, if_pos (by
        unfold good at hg
        simp only [Bool.or_eq_true, decide_eq_true_eq, Bool.not_eq_true']
        by_cases hx : l[k].la < nw - bd
        · exact .inl hx
        · right
          cases hr : readB l[k] (least2 l[k].la nw) with
          | false => rfl
          | true => exact absurd ⟨hx, hr⟩ hg)]
      refine ⟨fun h i hi s hsi => ?_, fun j hj => ?_⟩
      · rcases Nat.lt_or_ge i k with hij | hij
        · exact ih1 h i hij s hsi
        · have : i = k := by omega
          subst this
          rw [hs] at hsi; cases hsi
          exact hg
      · obtain ⟨t, ht, hgt, hall⟩ := ih2 j hj
        refine ⟨t, ht, hgt, fun i hi s hsi hgs => ?_⟩
        rcases Nat.lt_or_ge i k with hij | hij
        · exact hall i hij s hsi hgs
        · have : i = k := by omega
          subst this
          rw [hs] at hsi; cases hsi
          exact absurd hgs hg

theorem chooseA_cases (l : List Store) (nw bd : Int) (hnp : ¬ (nw < 0 ∨ 1099511627776 < nw ∨ bd < 0)) :
    (chooseA l nw bd = .tup [.a (.int .i64 0), .a (.int .i64 0), .a (.int .i64 15)] ∧ ∀ i, i < l.length → ∀ s, l[i]? = some s → ¬ good nw bd s) ∨
    ∃ (j : Nat) (t : Store), l[j]? = some t ∧ good nw bd t ∧ chooseA l nw bd = .tup [.a (.int .i64 j), .a (.int .i64 (least2 t.la nw)), .a (.int .i64 0)] ∧
      ∀ i, i < l.length → ∀ s, l[i]? = some s → good nw bd s → s.la < t.la ∨ (s.la = t.la ∧ j ≤ i) := by
  obtain ⟨h1, h2⟩ := bestK_law l nw bd l.length (Nat.le_refl _)
  rcases bestK_cases l nw bd l.length with h | ⟨j, hj, h⟩
  · left
    refine ⟨?_, h1 h⟩
    rw [chooseA, if_neg hnp]
    split
    · rfl
    · rw [if_pos (by omega)]
  · right
    obtain ⟨t, ht, hg, hall⟩ := h2 j h
    refine ⟨j, t, ht, hg, ?_, hall⟩
    rw [chooseA, if_neg hnp, h, Int.toNat_natCast, ht]
    simp only
    rw [if_neg (by omega)]

set_option maxRecDepth 100000 in
set_option maxHeartbeats 1000000 in
theorem bounded_den (l : List Store) (nw bd : Int) (hl : l.length ≤ 9223372036854775807) (hf : ∀ s ∈ l, s.fit) (hbd : bd ≤ 9223372036854775807) :
    PDen Try.prog 3 [.a (.slice 3 (l.map Store.row)), .a (.int .i64 nw), .a (.int .i64 bd)] (.a (.bool true)) := by
  refine den_of_body k_law52_StaleBounded ⟨rfl, Nat.le_of_ble_eq_true rfl, thaw_intro ?_⟩
  unfold c_law52_StaleBounded
  simp only [List.length_map, go_sem]
  refine t_call_intro (choose_den l nw bd hl hf hbd) ?_
  by_cases hnp : nw < 0 ∨ 1099511627776 < nw ∨ bd < 0
  · have ec : chooseA l nw bd = .tup [.a (.int .i64 0), .a (.int .i64 0), .a (.int .i64 1)] := by rw [chooseA, if_pos hnp]
    rw [ec]
    simp only [beq_self_eq_true, go_sem]
    refine t_case_intro (fun h1 => ?_) (fun h1 => ?_)
    · simp only [beq_self_eq_true, go_sem]
      refine t_case_intro (fun h2 => ?_) (fun h2 => ?_)
      · simp only [beq_self_eq_true, go_sem]
        refine t_case_intro (fun h3 => ?_) (fun h3 => ?_)
        · simp only [beq_self_eq_true, go_sem]
          refine t_call_intro examples_den ?_
          simp only [go_sem]
          simp only [aresult, ares, go_sem]
        · exfalso
          simp at h1 h2 h3; omega
      · simp only [beq_self_eq_true, go_sem]
        refine t_call_intro examples_den ?_
        simp only [go_sem]
        simp only [aresult, ares, go_sem]
    · simp only [beq_self_eq_true, go_sem]
      refine t_call_intro examples_den ?_
      simp only [go_sem]
      simp only [aresult, ares, go_sem]
  · have hnp1 : ¬ nw < 0 := by omega
    have hnp2 : ¬ 1099511627776 < nw := by omega
    have hnp3 : ¬ bd < 0 := by omega
    have hw : IntKind.i64.wrap (nw - bd) = nw - bd := by rw [IntKind.wrap_i64]; omega
    have b15 : ((15 : Int) == 0) = false := rfl
    have c15 : ((15 : Int) != 15) = false := rfl
    have d15 : ((15 : Int) != 0) = true := rfl
    rcases chooseA_cases l nw bd hnp with ⟨ec, hno⟩ | ⟨j, t, ht, hg, ec, hall⟩
    · rw [ec]
      simp only [hnp1, hnp2, hnp3, hw, b15, c15, decide_false, beq_self_eq_true, go_sem]
      refine t_loop_intro (fun k : Nat => k ≤ l.length) (fun k => l.length - k) 0 [6, 10, 11, 12, 105, 106, 107, 108, 109, 110, 111, 112, 113, 114, 115, 116, 117, 118, 119, 120, 121, 122, 123, 124, 125, 126, 127, 128, 129, 130, 131, 132, 133, 134, 135, 136, 137, 138, 139, 140, 141, 142, 143, 144, 145, 146, 147, 148, 149, 150, 151, 152, 153, 154, 155, 156, 157, 158, 159, 160, 161, 162, 163] (fun k => [(10, .a (.int .i64 k))]) (by omega) (by simp [havoc, sets, leF, leV]) (fun k => by simp [havoc, sets, Ab.boundV, boundS]) rfl ?_
      intro k hk fr' hfr
      simp only [go_sem] at hfr
      subst hfr
      by_cases hlt : k < l.length
      · have h3 : (k : Int) < (l.length : Int) := by omega
        have ew := wrap1 k l.length hlt hl
        have e := getD_map Store.row l k hlt
        have er : l[k].row = [.int .i64 l[k].fl, .int .i64 l[k].la, .slice 2 (l[k].rows.map Row.row)] := rfl
        have hfk := hf _ (List.getElem_mem hlt)
        have hn := hno k hlt _ (List.getElem?_eq_getElem hlt)
        simp only [h3, e, er, hw, List.length_map, go_sem]
        refine t_call_intro (storeV_den l[k] hfk) ?_
        simp only [hw, go_sem]
        refine t_case_intro (fun h4 => ?_) (fun h4 => ?_)
        · simp only [hw, go_sem]
          refine t_case_intro (fun h5 => ?_) (fun h5 => ?_)
          · simp only [hw, go_sem]
            refine t_case_intro (fun h6 => ?_) (fun h6 => ?_)
            · exfalso
              refine hn ⟨by simp at h5; omega, ?_⟩
              have h6' : l[k].fl ≤ least2 l[k].la nw := by simpa [least2] using h6
              have h7 : least2 l[k].la nw ≤ l[k].la := by unfold least2; split <;> omega
              simp [readB, h4, h6', h7]
            · simp only [ew, go_sem]
              refine t_round (k + 1) (by omega) (by omega) (by simp [havoc, sets, leF, leV]) rfl rfl (by simp [havoc, sets, Ab.boundV, boundS]) rfl
          · simp only [ew, go_sem]
            refine t_round (k + 1) (by omega) (by omega) (by simp [havoc, sets, leF, leV]) rfl rfl (by simp [havoc, sets, Ab.boundV, boundS]) rfl
        · simp only [ew, go_sem]
          refine t_round (k + 1) (by omega) (by omega) (by simp [havoc, sets, leF, leV]) rfl rfl (by simp [havoc, sets, Ab.boundV, boundS]) rfl
      · have h3 : ¬ (k : Int) < (l.length : Int) := by omega
        simp only [h3, List.length_map, go_sem]
        refine t_call_intro examples_den ?_
        simp only [go_sem]
        simp only [aresult, ares, go_sem]
    · obtain ⟨hjl, rfl⟩ := List.getElem?_eq_some_iff.1 ht
      have hfj := hf _ (List.getElem_mem hjl)
      have hj0 : ¬ (j : Int) < 0 := by omega
      have hj1 : ¬ (l.length : Int) ≤ (j : Int) := by omega
      have h8 : (j : Int) < (l.length : Int) := by omega
      have hr := hg.2
      have hg1 := hg.1
      simp only [readB, Bool.and_eq_true, decide_eq_true_eq] at hr
      obtain ⟨hsv, hq1, hq2⟩ := hr
      have emin : (if nw < l[j].la then nw else l[j].la) = least2 l[j].la nw := rfl
      have hl1 : least2 l[j].la nw ≤ nw := by unfold least2; split <;> omega
      have hl2 : nw - bd ≤ least2 l[j].la nw := by unfold least2; split <;> omega
      have hp1 : ¬ nw < least2 l[j].la nw := by omega
      have hp2 : ¬ least2 l[j].la nw < nw - bd := by omega
      have hp3 : ¬ least2 l[j].la nw < l[j].fl := by omega
      have hp4 : ¬ l[j].la < least2 l[j].la nw := by omega
      have e1 := getD_map Store.row l j hjl
      have er1 : l[j].row = [.int .i64 l[j].fl, .int .i64 l[j].la, .slice 2 (l[j].rows.map Row.row)] := rfl
      rw [ec]
      simp only [hnp1, hnp2, hnp3, hw, hj0, hj1, h8, hp1, hp2, e1, er1, List.length_map, decide_false, beq_self_eq_true, go_sem]
      refine t_call_intro (storeV_den l[j] hfj) ?_
      simp only [hsv, hw, h8, hp3, hp4, e1, er1, emin, List.length_map, decide_false, bne_self_eq_false, go_sem]
      refine t_loop_intro (fun k : Nat => k ≤ l.length) (fun k => l.length - k) 0 [6, 10, 11, 12, 105, 106, 107, 108, 109, 110, 111, 112, 113, 114, 115, 116, 117, 118, 119, 120, 121, 122, 123, 124, 125, 126, 127, 128, 129, 130, 131, 132, 133, 134, 135, 136, 137, 138, 139, 140, 141, 142, 143, 144, 145, 146, 147, 148, 149, 150, 151, 152, 153, 154, 155, 156, 157, 158, 159, 160, 161, 162, 163] (fun k => [(10, .a (.int .i64 k))]) (by omega) (by simp [havoc, sets, leF, leV]) (fun k => by simp [havoc, sets, Ab.boundV, boundS]) rfl ?_
      intro k hk fr' hfr
      simp only [go_sem] at hfr
      subst hfr
      by_cases hlt : k < l.length
      · have h3 : (k : Int) < (l.length : Int) := by omega
        have ew := wrap1 k l.length hlt hl
        have e := getD_map Store.row l k hlt
        have er : l[k].row = [.int .i64 l[k].fl, .int .i64 l[k].la, .slice 2 (l[k].rows.map Row.row)] := rfl
        have hfk := hf _ (List.getElem_mem hlt)
        have hn := hall k hlt _ (List.getElem?_eq_getElem hlt)
        simp only [h3, e, er, hw, List.length_map, go_sem]
        refine t_call_intro (storeV_den l[k] hfk) ?_
        simp only [hw, go_sem]
        refine t_case_intro (fun h4 => ?_) (fun h4 => ?_)
        · simp only [hw, go_sem]
          refine t_case_intro (fun h5 => ?_) (fun h5 => ?_)
          · simp only [hw, go_sem]
            refine t_case_intro (fun h6 => ?_) (fun h6 => ?_)
            · have hk2 := hn ⟨by simp at h5; omega, by
                have h6' : l[k].fl ≤ least2 l[k].la nw := by simpa [least2] using h6
                have h7 : least2 l[k].la nw ≤ l[k].la := by unfold least2; split <;> omega
                simp [readB, h4, h6', h7]⟩
              have g1 : ¬ l[j].la < l[k].la := by omega
              simp only [g1, h8, e1, er1, List.length_map, decide_false, bne_self_eq_false, go_sem]
              refine t_case_intro (fun h9 => ?_) (fun h9 => ?_)
              · have g3 : ¬ (k : Int) < (j : Int) := by simp at h9; omega
                simp only [g3, ew, decide_false, go_sem]
                refine t_round (k + 1) (by omega) (by omega) (by simp [havoc, sets, leF, leV]) rfl rfl (by simp [havoc, sets, Ab.boundV, boundS]) rfl
              · simp only [ew, go_sem]
                refine t_round (k + 1) (by omega) (by omega) (by simp [havoc, sets, leF, leV]) rfl rfl (by simp [havoc, sets, Ab.boundV, boundS]) rfl
            · simp only [ew, go_sem]
              refine t_round (k + 1) (by omega) (by omega) (by simp [havoc, sets, leF, leV]) rfl rfl (by simp [havoc, sets, Ab.boundV, boundS]) rfl
          · simp only [ew, go_sem]
            refine t_round (k + 1) (by omega) (by omega) (by simp [havoc, sets, leF, leV]) rfl rfl (by simp [havoc, sets, Ab.boundV, boundS]) rfl
        · simp only [ew, go_sem]
          refine t_round (k + 1) (by omega) (by omega) (by simp [havoc, sets, leF, leV]) rfl rfl (by simp [havoc, sets, Ab.boundV, boundS]) rfl
      · have h3 : ¬ (k : Int) < (l.length : Int) := by omega
        simp only [h3, List.length_map, go_sem]
        refine t_call_intro examples_den ?_
        simp only [go_sem]
        simp only [aresult, ares, go_sem]
end Go.Proofs.Ytpicnfikpeekeaa
