/- Chapter 06: a string as an argument. -/
import Derived.Test.YtldonmombfpleaaSun
namespace Go.Proofs.Ytldonmombfpleaa
open Go Ab
theorem un_string1 {n : Nat} {x : Atom} (h : Has Try.prog (n + 1) 9 [x]) : ∃ s : ByteArray, x = .str s ∧ s.size ≤ 9223372036854775807 := by
  obtain ⟨s, e, hs⟩ := un_string h
  unfold reachBytes at hs
  exact ⟨s, by simpa using e, by omega⟩
end Go.Proofs.Ytldonmombfpleaa
