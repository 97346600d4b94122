/- Walks of the laws of layer 2: the examples. -/
import Derived.Test.YtgpcfdgdfejmmaaRefB
namespace Go.Proofs.Ytgpcfdgdfejmmaa
open Go.RowKit Go.PlainAid

theorem bthen {a b c : World} (h : Below a.heap.size a b) (k : Below b.heap.size b c) : Below a.heap.size a c := h.trans (k.mono h.size)

set_option maxHeartbeats 1000000 in
set_option maxRecDepth 100000 in
theorem works_any (w : World) : Calls Try.prog 11 #[] w fun e w' => e = .returned (.bool true) ∧ Below w.heap.size w w' := by
  go_enter Try.func11, Try.ntmps11
  go_wp2_with fail
  refine (takeuint_any ⟨#[128]⟩ 0 _ (by decide) 0 0 6 Cw.ex1).mono ?_
  rintro e w1 ⟨rfl, rfl⟩
  go_wp2_with fail
  refine (takeuint_any ⟨#[128, 0]⟩ 0 _ (by decide) 0 0 5 Cw.ex2).mono ?_
  rintro e w1 ⟨rfl, rfl⟩
  go_wp2_with fail
  refine (taketext_any ⟨#[2, 97, 98]⟩ 0 1 _ (by decide) (by decide) [] 0 2 Cw.ex3).mono ?_
  rintro e w1 ⟨rfl, rfl⟩
  go_wp2_with fail
  refine (takeuint_any ⟨#[120, 172, 2, 121]⟩ 1 _ (by decide) 300 3 0 Cw.ex4).mono ?_
  rintro e w1 ⟨rfl, rfl⟩
  go_wp2_with fail
  refine (uint_any _ _ (by decide) (by decide)).mono ?_
  rintro e w1 ⟨rfl, hb1⟩
  rw [show (300 : Int).toNat = 300 from rfl, Cw.vint_300]
  go_wp2_with fail
  refine (int_any _ _ (by decide) (by decide)).mono ?_
  rintro e w2 ⟨rfl, hb2⟩
  rw [show Cw.fold (-3) = 5 from rfl, Cw.vint_5]
  go_wp2_with fail
  refine (text_any _ _ (by decide)).mono ?_
  rintro e w3 ⟨rfl, hb3⟩
  rw [show Cw.text (⟨#[97, 98]⟩ : ByteArray).data.toList = [2, 97, 98] from by unfold Cw.text; rw [show ((⟨#[97, 98]⟩ : ByteArray).data.toList).length = 2 from rfl, Cw.vint_2]; rfl]
  go_wp2_with fail
  refine (bool_any _ _).mono ?_
  rintro e w4 ⟨rfl, rfl⟩
  rw [show Cw.boolB true = [1] from rfl]
  go_wp2
  go_ret
  exact ⟨rfl, bthen (bthen hb1 hb2) hb3⟩
end Go.Proofs.Ytgpcfdgdfejmmaa
