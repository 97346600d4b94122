/- The walk of the law WireEncodes. -/
import Derived.Test.YtgpcfdgdfejmmaaWireC
namespace Go.Proofs.Ytgpcfdgdfejmmaa
open Go.RowKit Go.PlainAid

theorem wf_u64 {a : Int} (h : (Lit.int .u64 a).wf = true) : 0 ≤ a ∧ a < Cw.M64 := by
  rw [Cw.m64]
  have : 0 ≤ a ∧ a ≤ 18446744073709551615 := by simpa [Lit.wf, IntKind.min, IntKind.max, IntKind.signed, IntKind.bits] using h
  omega
theorem wf_i64 {a : Int} (h : (Lit.int .i64 a).wf = true) : -Cw.M63 ≤ a ∧ a < Cw.M63 := by
  rw [Cw.m63]
  have : -9223372036854775808 ≤ a ∧ a ≤ 9223372036854775807 := by simpa [Lit.wf, IntKind.min, IntKind.max, IntKind.signed, IntKind.bits] using h
  omega

set_option maxHeartbeats 1000000 in
set_option maxRecDepth 100000 in
theorem walkWireEncodes (u : Int) (wu : (Lit.int .u64 u).wf = true) (m : Int) (wm : (Lit.int .i64 m).wf = true) (s : ByteArray) (_ : s.size ≤ 140737488351232) (w : World) :
    Calls Try.prog 3 #[.int .u64 u, .int .i64 m, .string s] w fun e w' => e = .returned (.bool true) ∧ Below w.heap.size w w' := by
  obtain ⟨hu0, hu1⟩ := wf_u64 wu
  obtain ⟨hm0, hm1⟩ := wf_i64 wm
  have HU := Cw.Box.mk (And.intro hu0 hu1)
  have HM := Cw.Box.mk (And.intro hm0 hm1)
  clear hu0 hu1 hm0 hm1 wu wm
  by_cases hs : 2000 < s.size
  · go_enter Try.func3, Try.ntmps3
    go_wp2_with fail
    refine (works_any _).mono ?_
    rintro e w1 ⟨rfl, hb1⟩
    go_wp2
    go_ret
    exact ⟨rfl, hb1⟩
  · have hS : Cw.Box (s.size ≤ 1073741824) := ⟨by omega⟩
    go_enter Try.func3, Try.ntmps3
    go_wp2_with fail
    refine (uint_any _ _ HU.out.1 HU.out.2).mono ?_
    rintro e w1 ⟨rfl, hb1⟩
    go_wp2_with fail
    refine (ruint_any _ _ HU.out.1 HU.out.2).mono ?_
    rintro e w2 ⟨rfl, hb2⟩
    go_wp2_with fail
    refine (int_any _ _ HM.out.1 HM.out.2).mono ?_
    rintro e w3 ⟨rfl, hb3⟩
    go_wp2_with fail
    refine (rint_any _ _ HM.out.1 HM.out.2).mono ?_
    rintro e w4 ⟨rfl, hb4⟩
    go_wp2_with fail
    refine (bool_any _ _).mono ?_
    rintro e w5 ⟨rfl, rfl⟩
    go_wp2_with fail
    refine (rbool_any _ _).mono ?_
    rintro e w6 ⟨rfl, rfl⟩
    go_wp2_with fail
    refine (text_any _ _ hS.out).mono ?_
    rintro e w7 ⟨rfl, hb7⟩
    go_wp2_with fail
    refine (rtext_any _ _ hS.out).mono ?_
    rintro e w8 ⟨rfl, hb8⟩
    go_wp2_with fail
    refine (works_any _).mono ?_
    rintro e w9 ⟨rfl, hb9⟩
    go_wp2
    go_ret
    exact ⟨rfl, bthen (bthen (bthen (bthen (bthen (bthen hb1 hb2) hb3) hb4) hb7) hb8) hb9⟩
end Go.Proofs.Ytgpcfdgdfejmmaa
