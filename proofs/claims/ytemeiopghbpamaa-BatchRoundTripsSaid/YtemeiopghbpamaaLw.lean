/- Names: the length of a word, walked (a range over a string). -/
import Derived.Test.YtemeiopghbpamaaCv
import Derived.Laws.RangeAny
import Derived.Laws.RangeString
import Derived.Laws.Runes
import Derived.LoopTactic
set_option linter.unusedSimpArgs false
set_option linter.unusedVariables false
namespace Go.Proofs.Ytemeiopghbpamaa
open Go Ab Go.RowKit

def partB (c : UInt8) : Bool := (decide (97 ≤ c.toNat) && decide (c.toNat ≤ 122)) || (decide (48 ≤ c.toNat) && decide (c.toNat ≤ 57)) || c.toNat == 95
def wordN (l : List UInt8) : Nat := (l.takeWhile partB).length
theorem wordN_nil : wordN [] = 0 := rfl
theorem wordN_yes (c : UInt8) (l : List UInt8) (h : partB c = true) : wordN (c :: l) = 1 + wordN l := by simp [wordN, h]; omega
theorem wordN_no (c : UInt8) (l : List UInt8) (h : partB c = false) : wordN (c :: l) = 0 := by simp [wordN, h]
theorem letter_any (c : Int) (w : World) : Calls Try.prog 59 #[.int .i32 c] w fun e w' => e = .returned (.bool (decide (97 ≤ c) && decide (c ≤ 122))) ∧ w = w' := by
  by_cases h1 : 97 ≤ c
  all_goals by_cases h2 : c ≤ 122
  all_goals
    have g1 := h1
    have g2 := h2
    go_enter Try.func59, Try.ntmps59
    go_wp2
    all_goals (go_ret; first | exact ⟨rfl, rfl⟩ | (refine ⟨?_, rfl⟩; simp [*]) | (simp [*]))

theorem letter_yes (c : Int) (h : 97 ≤ c ∧ c ≤ 122) (w : World) : Calls Try.prog 59 #[.int .i32 c] w fun e w' => e = .returned (.bool true) ∧ w = w' :=
  (letter_any c w).mono fun e w' hh => ⟨by rw [hh.1]; simp [h.1, h.2], hh.2⟩
theorem letter_no (c : Int) (h : ¬ (97 ≤ c ∧ c ≤ 122)) (w : World) : Calls Try.prog 59 #[.int .i32 c] w fun e w' => e = .returned (.bool false) ∧ w = w' := by
  refine (letter_any c w).mono fun e w' hh => ⟨?_, hh.2⟩
  have : (decide (97 ≤ c) && decide (c ≤ 122)) = false := by simp; omega
  rw [hh.1, this]
def partI (c : Int) : Prop := (97 ≤ c ∧ c ≤ 122) ∨ (48 ≤ c ∧ c ≤ 57) ∨ c = 95
theorem partI_byte (c : UInt8) : partB c = true ↔ partI c.toNat := by
  unfold partB partI
  simp only [Bool.or_eq_true, Bool.and_eq_true, decide_eq_true_eq, beq_iff_eq]
  omega
theorem below_iter (w : World) (s : ByteArray) (pos : Nat) : Below w.heap.size w (w.iter s pos) := (Below.refl _ w).alloc (Nat.le_refl _) _

set_option maxRecDepth 1000000 in
theorem word_any (s : ByteArray) (hs : s.size ≤ 9223372036854775807) (w : World) :
    Calls Try.prog 60 #[.string s] w fun e w' => e = .returned (.int .i64 (wordN s.data.toList)) ∧ Below w.heap.size w w' := by
  go_enter Try.func60, Try.ntmps60
  go_wp2
  go_loopw [3] (fun _ w' => ∃ pos, w' = w.iter s pos ∧ pos ≤ s.size ∧ wordN s.data.toList = pos + wordN (s.data.toList.drop pos)) (fun _ w' => s.size - w'.iterPos w.heap.size)
  case atStart => exact ⟨0, rfl, Nat.zero_le _, by simp⟩
  case round =>
    obtain ⟨pos, rfl, hle, hall⟩ := hrel
    by_cases hp : pos < s.size
    · have hq : pos < s.data.toList.length := by simpa using hp
      have hdr : s.data.toList.drop pos = s.data.toList[pos] :: s.data.toList.drop (pos + 1) := List.drop_eq_getElem_cons hq
      have hgt : s.data.toList[pos] = s[pos] := by simp [ByteArray.getElem_eq_getElem_data]
      obtain ⟨c, wd, hcw, hw, hcc⟩ : ∃ (c wd : Nat), Utf8.decode s pos = (c, wd) ∧ (partI (c : Int) → wd = 1) ∧ (partI (c : Int) ↔ partB s[pos] = true) := by
        by_cases ha : (s[pos]'hp).toNat < 128
        · exact ⟨_, _, decode_ascii s pos hp ha, fun _ => rfl, (partI_byte _).symm⟩
        · obtain ⟨h1, h2⟩ := decode_high s pos hp (by omega)
          have n1 : ¬ partI ((Utf8.decode s pos).1 : Int) := by unfold partI; omega
          refine ⟨_, _, rfl, fun h => (n1 h).elim, fun h => (n1 h).elim, fun h => ?_⟩
          rw [partI_byte] at h
          unfold partI at h
          omega
      have hnx : ∀ ty, (Instr.next (.pointer (some ⟨w.heap.size, 0, none⟩)) true ty).run Try.prog (w.iter s pos) = .ok (.tuple #[.bool true, .int .i64 pos, .int .i32 (c : Int)]) (w.iter s (pos + wd)) := fun ty => by
        rw [run_next_any w s pos ty hp, hcw]
      generalize hci : (c : Int) = ci at hnx hw hcc
      by_cases hP : partI ci
      · have hwd := hw hP
        subst hwd
        have hb := hcc.1 hP
        have hN : wordN (s.data.toList.drop pos) = 1 + wordN (s.data.toList.drop (pos + 1)) := by rw [hdr]; exact wordN_yes _ _ (by rw [hgt]; exact hb)
        by_cases hL : 97 ≤ ci ∧ ci ≤ 122
        · go_wp2_with fail
          refine (letter_yes ci hL _).mono ?_
          rintro e w' ⟨rfl, rfl⟩
          go_wp2
          go_roundw
          case rel => exact ⟨pos + 1, rfl, by omega, by omega⟩
          case measure => simp; omega
        · by_cases hD : ci ≤ 57
          · have g1 : decide (ci < 48) = false := by unfold partI at hP; simp; omega
            have g2 : decide (ci > 57) = false := by simp; omega
            go_wp2_with fail
            refine (letter_no ci hL _).mono ?_
            rintro e w' ⟨rfl, rfl⟩
            go_wp2
            go_roundw
            case rel => exact ⟨pos + 1, rfl, by omega, by omega⟩
            case measure => simp; omega
          · have h95 : ci = 95 := by unfold partI at hP; omega
            subst h95
            go_wp2_with fail
            refine (letter_no 95 hL _).mono ?_
            rintro e w' ⟨rfl, rfl⟩
            go_wp2
            go_roundw
            case rel => exact ⟨pos + 1, rfl, by omega, by omega⟩
            case measure => simp; omega
      · have hb : partB s[pos] = false := by
          cases h : partB s[pos] with
          | false => rfl
          | true => exact absurd (hcc.2 h) hP
        have hN : wordN (s.data.toList.drop pos) = 0 := by rw [hdr]; exact wordN_no _ _ (by rw [hgt]; exact hb)
        have hL : ¬ (97 ≤ ci ∧ ci ≤ 122) := fun h => hP (.inl h)
        have h95 : (ci != 95) = true := by simp; intro h; exact hP (.inr (.inr h))
        have h95' : ¬ ci = 95 := fun h => hP (.inr (.inr h))
        have hR : (wordN s.data.toList : Int) = pos := by omega
        by_cases hD : ci < 48
        · go_wp2_with fail
          refine (letter_no ci hL _).mono ?_
          rintro e w' ⟨rfl, rfl⟩
          go_wp2
          go_ret
          exact ⟨by rw [hR]; rfl, below_iter w s _⟩
        · have hD2 : ci > 57 := by unfold partI at hP; omega
          go_wp2_with fail
          refine (letter_no ci hL _).mono ?_
          rintro e w' ⟨rfl, rfl⟩
          go_wp2
          go_ret
          exact ⟨by rw [hR]; rfl, below_iter w s _⟩
    · have hnx : ∀ ty, (Instr.next (.pointer (some ⟨w.heap.size, 0, none⟩)) true ty).run Try.prog (w.iter s pos) = _ := fun ty => run_next_end w s pos ty hp
      have hR : (wordN s.data.toList : Int) = s.size := by
        rw [List.drop_eq_nil_of_le (by simp; omega), wordN_nil] at hall
        omega
      go_wp2
      go_ret
      exact ⟨by rw [hR]; rfl, below_iter w s _⟩
theorem word_den (s : ByteArray) (hs : s.size ≤ 9223372036854775807) : PDen Try.prog 60 [.a (.str s)] (.a (.int .i64 (wordN s.data.toList))) :=
  pden_plain rfl (fun S w => .a (.int _ _)) fun w => word_any s hs w
end Go.Proofs.Ytemeiopghbpamaa
