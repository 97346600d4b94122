/- Walks of the package wire: what Uint, Int, Bool, Text and the Take functions give. -/
import Derived.Test.YtbiongfnbbnndaaRows
import Derived.Test.YtbiongfnbbnndaaVint
import Derived.WalkKit
import Derived.WalkSpells
import Derived.WalkLawsBesides
import Derived.Lib.Hide
import Derived.PlainAid
import Derived.Handy
set_option linter.unusedSimpArgs false
set_option linter.unusedVariables false
namespace Go.Proofs.Ytbiongfnbbnndaa
open Go.RowKit

theorem u8_info : (Try.prog.info? 5).map (fun i => (i.zero, i.size, i.bytes)) = some (some (.int .u8 0), 1, 1) := by kernel_rfl

theorem below_alloc_grown {w w' : World} {o : Obj} (hg : (w.alloc o).grownBy w' none) : Below w.heap.size w w' :=
  ((Below.refl _ _).alloc (Nat.le_refl _) o).grown hg (by simp) (by simp)
theorem own_base {w : World} {b b' : Nat} {e : TypeId} {size : Nat} {v : Value} {n : Nat} {xs : List Value} (h : w.ownsRow b e size v n xs) (hb : b' ≤ b) : w.ownsRow b' e size v n xs := by
  rcases h with ⟨h1, h2 | ⟨g, cap, cur, e1, e2, r⟩⟩
  · exact ⟨h1, .inl h2⟩
  · exact ⟨h1, .inr ⟨g, cap, cur, e1, by omega, r⟩⟩

set_option maxHeartbeats 400000 in
set_option maxRecDepth 100000 in
theorem outside_any (s : ByteArray) (n : Int) (w : World) :
    Calls Try.prog 79 #[.string s, .int .i64 n] w fun e w' => e = .returned (.bool (decide (n < 0 ∨ (s.size : Int) < n))) ∧ w = w' := by
  by_cases h : n < 0
  · go_enter Try.func79, Try.ntmps79
    go_wp2
    go_ret
    exact ⟨by simp [h], rfl⟩
  · go_enter Try.func79, Try.ntmps79
    go_wp2
    go_ret
    exact ⟨by simp [Int.not_lt.2 h], rfl⟩
set_option maxHeartbeats 400000 in
set_option maxRecDepth 100000 in
theorem appended_any (v : Value) (n : Nat) (c : Int) (base : Nat) (xs : List Value) (w : World) (h : w.ownsRow base 5 1 v n xs) (hn : n ≤ 65536) :
    Calls Try.prog 71 #[v, .int .u8 c] w fun e w' => ∃ v', e = .returned v' ∧ w'.ownsRow w.heap.size 5 1 v' (n+1) (xs ++ [.int .u8 c]) ∧ Below w.heap.size w w' := by
  obtain ⟨i0, hi0, hz0, hz1, hz2⟩ := info_parts u8_info
  rcases h.2 with ⟨rfl, rfl⟩ | ⟨g, cap, cur, rfl, hb, hg, hcap, hm, hsz, ht⟩
  · have hxs : xs = [] := List.eq_nil_of_length_eq_zero (by simpa using h.1)
    subst hxs
    clear h
    go_enter Try.func71, Try.ntmps71
    go_wp2_with (first
      | (at_builtin
         refine wpList_append_grows _ rfl (.tmp 10) (.tmp 12) 24 rfl 5 i0 _ 1 1 Try.underlying24 hi0 hz0 hz1 hz2 rfl (by decide) none 0 0 [] rfl (by simp) rfl (by simp)
           ⟨w.heap.size, 0, none⟩ 1 1 [.int .u8 c] rfl rfl ?_ ?_ ?_ ?_ ?_ ?_))
    · intro j u hu
      match j, hu with
      | 0, hu => simp at hu; subst hu; exact World.cell?_alloc_at _ _ _ _ rfl
    · simp [Value.oneCell']
    · omega
    · simp [maxLen]
    · omega
    · intro v' w' hown hg
      go_wp2
      go_ret
      exact ⟨v', rfl, own_base hown (by simp), below_alloc_grown hg⟩
  · clear hz1 hz2
    have hcells := h.cells (g := g) rfl
    have hl := h.1
    have hlt := (h.lt g rfl).2
    clear h ht
    have hnp : (n : Int) ≤ cap := by omega
    go_enter Try.func71, Try.ntmps71
    go_wp2_with (first
      | (at_builtin
         refine wpList_append_grows _ rfl (.tmp 10) (.tmp 12) 24 rfl 5 i0 _ 1 1 Try.underlying24 hi0 hz0 ?_ ?_ rfl (by decide) (some ⟨g, 0, none⟩) n n xs rfl (by simp) hl ?_
           ⟨w.heap.size, 0, none⟩ 1 1 [.int .u8 c] rfl rfl ?_ ?_ ?_ ?_ ?_ ?_))
    · obtain ⟨i1, hi1, -, h1, -⟩ := info_parts u8_info
      rw [hi0] at hi1; cases hi1; exact h1
    · obtain ⟨i1, hi1, -, -, h1⟩ := info_parts u8_info
      rw [hi0] at hi1; cases hi1; exact h1
    · rintro b hb j u hu
      cases hb
      exact (World.cell?_alloc_lt w _ _ (by unfold Addr.add; split <;> exact hlt)).trans (hcells j u hu)
    · intro j u hu
      match j, hu with
      | 0, hu => simp at hu; subst hu; exact World.cell?_alloc_at _ _ _ _ rfl
    · simp [Value.oneCell']
    · omega
    · unfold maxLen; omega
    · omega
    · intro v' w' hown hg
      go_wp2
      go_ret
      exact ⟨v', rfl, own_base hown (by simp), below_alloc_grown hg⟩

/-- Bytes as values. -/
def bcells (l : List UInt8) : List Value := l.map fun c => .int .u8 c.toNat
theorem bcells_snoc (l : List UInt8) (c : UInt8) : bcells (l ++ [c]) = bcells l ++ [.int .u8 c.toNat] := by simp [bcells]
theorem bcells_snoc_of (l : List UInt8) (c : UInt8) (n : Int) (h : n = c.toNat) : bcells l ++ [.int .u8 n] = bcells (l ++ [c]) := by rw [h, bcells_snoc]
theorem or128 (m : Nat) : bits .or .u8 ((m : Int) % 256) 128 = ((UInt8.ofNat (m % 128 + 128)).toNat : Int) := by
  rw [show ((m : Int) % 256) = ((m % 256 : Nat) : Int) by omega, show (128 : Int) = ((128 : Nat) : Int) by rfl, u8_or_nat _ _ (by omega) (by omega)]
  congr 1
  have h : ∀ a : Nat, a < 256 → a ||| 128 = a % 128 + 128 := by decide +kernel
  rw [h _ (by omega)]
  simp; omega

theorem convert_own (w : World) (base : Nat) (v : Value) (n : Nat) (l : List UInt8) (h : w.ownsRow base 5 1 v n (bcells l)) (h0 : 0 < n) :
    (convert 24 9 v).run Try.prog w = .ok (.string ⟨l.toArray⟩) w := by
  rcases h.2 with ⟨rfl, rfl⟩ | ⟨g, cap, cur, rfl, hb, hg, hcap, hm, hsz, ht⟩
  · omega
  · have hl : l.length = n := by have := h.1; simpa [bcells] using this
    have hc := h.cells (g := g) rfl
    have := run_convert_bytes_back (P := Try.prog) w 24 9 5 ⟨g, 0, none⟩ cap l Try.underlying24 Try.underlying5 Try.underlying9 ?_
    · rw [hl] at this; exact this
    · intro j hj
      refine hc j _ ?_
      simp [bcells, List.getElem?_eq_getElem hj]

set_option maxHeartbeats 400000 in
set_option maxRecDepth 100000 in
theorem uint_any (u : Int) (w : World) (h0 : 0 ≤ u) (h1 : u < Cw.M64) :
    Calls Try.prog 48 #[.int .u64 u] w fun e w' => e = .returned (.string ⟨(Cw.vint u.toNat).toArray⟩) ∧ Below w.heap.size w w' := by
  obtain ⟨m0, rfl⟩ := Int.eq_ofNat_of_zero_le h0
  have hlen := Cw.vint_len_10 m0 (by have := Cw.m64; omega)
  clear h1
  go_enter Try.func48, Try.ntmps48
  go_wp2
  go_loopw [0, 3] (fun u b wr => ∃ (m : Nat) (l : List UInt8), u = .int .u64 m ∧ m ≤ m0 ∧ Hid (Cw.vint m0 = l ++ Cw.vint m) ∧ wr.ownsRow w.heap.size 5 1 b l.length (bcells l) ∧ Below w.heap.size w wr) (fun u _ _ => (intOf u).toNat)
  case atStart => exact ⟨m0, [], rfl, Nat.le_refl _, rfl, World.ownsRow_nil _ _ _ _, Below.refl _ _⟩
  case round =>
    obtain ⟨m, l, rfl, hm, hv, hown, hbw⟩ := hrel
    have hl : l.length ≤ 10 := by have := congrArg List.length hv.out; simp at this; omega
    by_cases hlt : 128 ≤ m
    · go_wp2_with fail
      refine (appended_any _ l.length _ w.heap.size (bcells l) _ hown (by omega)).mono ?_
      rintro e w1 ⟨v1, rfl, hown1, hb1⟩
      go_wp2
      refine ⟨⟨m / 128, l ++ [UInt8.ofNat (m % 128 + 128)], by simp, by omega, ?_, ?_, hbw.trans (hb1.mono hbw.size)⟩, by simp [intOf]; omega⟩
      · show Cw.vint m0 = _
        rw [hv.out, Cw.vint_ge hlt]; simp
      · rw [or128, ← bcells_snoc] at hown1
        simpa using own_base hown1 hbw.size
    · go_wp2_with fail
      refine (appended_any _ l.length _ w.heap.size (bcells l) _ hown (by omega)).mono ?_
      rintro e w1 ⟨v1, rfl, hown1, hb1⟩
      have hcv := convert_own w1 _ v1 (l.length + 1) (Cw.vint m0) (by
        rw [hv.out, Cw.vint_lt (by omega), bcells_snoc]
        have hmm : ((UInt8.ofNat m).toNat : Int) = m := by simp; omega
        rw [hmm]; exact hown1) (by omega)
      clear hown1
      go_wp2
      go_ret
      exact ⟨by simp, hbw.trans (hb1.mono hbw.size)⟩
end Go.Proofs.Ytbiongfnbbnndaa
