/- Chapter 53, plainly: hashes of pairs, buckets, trees; no program. -/
import Derived.Test.YtknmjfojlnajjaaHs
import Derived.Test.YtknmjfojlnajjaaCv
set_option linter.unusedSimpArgs false
set_option linter.unusedVariables false
namespace Go.Proofs.Ytknmjfojlnajjaa
open Go Ab
set_option maxRecDepth 100000

theorem xor64 (a b : Nat) (ha : a < 18446744073709551616) (hb : b < 18446744073709551616) : IntKind.u64.wrap (((BitVec.ofInt 64 (a : Int) ^^^ BitVec.ofInt 64 (b : Int)).toNat : Nat) : Int) = ((a ^^^ b : Nat) : Int) := by
  have e : ∀ n : Nat, BitVec.ofInt 64 (n : Int) = BitVec.ofNat 64 n := fun n => by
    apply BitVec.eq_of_toNat_eq
    simp
  have h := Nat.xor_lt_two_pow (n := 64) ha hb
  rw [e, e, BitVec.toNat_xor, BitVec.toNat_ofNat, BitVec.toNat_ofNat, Nat.mod_eq_of_lt ha, Nat.mod_eq_of_lt hb, IntKind.wrap_u64]
  omega
theorem xor_lt (a b : Nat) (ha : a < 18446744073709551616) (hb : b < 18446744073709551616) : a ^^^ b < 18446744073709551616 := Nat.xor_lt_two_pow (n := 64) ha hb
def fnvN (s : ByteArray) : Nat := (fnvH s).toNat
theorem fnvN_eq (s : ByteArray) : fnvH s = (fnvN s : Int) := by
  obtain ⟨m, h, _⟩ := fnvH_nat s
  unfold fnvN; rw [h]; rfl
theorem fnvN_lt (s : ByteArray) : fnvN s < 18446744073709551616 := by
  obtain ⟨m, h, hm⟩ := fnvH_nat s
  unfold fnvN; rw [h]; exact hm
def mixN (a b : Nat) : Nat := (mixH a b).toNat
theorem mixH_in (a b : Nat) : 0 ≤ mixH a b ∧ mixH a b < 18446744073709551616 := by
  unfold mixH
  refine extH_in _ _ ?_ ?_
  · rw [fnvN_eq]; omega
  · rw [fnvN_eq]; have := fnvN_lt (litB a 8); omega
theorem mixN_eq (a b : Nat) : mixH a b = (mixN a b : Int) := by
  have := mixH_in a b
  unfold mixN; omega
theorem mixN_lt (a b : Nat) : mixN a b < 18446744073709551616 := by
  have := mixH_in a b
  unfold mixN; omega
def pairN (p : Pr) : Nat := mixN (fnvN p.key) (fnvN (valB p.v))
theorem pairN_lt (p : Pr) : pairN p < 18446744073709551616 := mixN_lt _ _
def bktN (k : ByteArray) : Nat := fnvN k % 64
theorem bktN_lt (k : ByteArray) : bktN k < 64 := Nat.mod_lt _ (by omega)
def rootI (bs : List Nat) : Int := extH 14695981039346656037 ((bs.map fun x => lit x 8).flatten)
def rootN (bs : List Nat) : Nat := (rootI bs).toNat
theorem rootI_in (bs : List Nat) : 0 ≤ rootI bs ∧ rootI bs < 18446744073709551616 := extH_in _ _ (by decide) (by decide)
theorem rootN_eq (bs : List Nat) : rootI bs = (rootN bs : Int) := by
  have := rootI_in bs
  unfold rootN; omega
theorem rootN_lt (bs : List Nat) : rootN bs < 18446744073709551616 := by
  have := rootI_in bs
  unfold rootN; omega
structure Tr where
  bs : List Nat
  root : Nat
def u64R (x : Nat) : List Atom := [.int .u64 (x : Int)]
def Tr.row (t : Tr) : List Atom := [.slice 1 (t.bs.map u64R), .int .u64 (t.root : Int)]
structure Tr.fit (t : Tr) : Prop where
  bs : ∀ x ∈ t.bs, x < 18446744073709551616
  root : t.root < 18446744073709551616
def bkF (j : Nat) (x : Nat) (p : Pr) : Nat := if bktN p.key = j then x ^^^ pairN p else x
def bk (l : List Pr) (j : Nat) : Nat := l.foldl (bkF j) 0
theorem bkF_lt (j x : Nat) (p : Pr) (h : x < 18446744073709551616) : bkF j x p < 18446744073709551616 := by
  unfold bkF; split
  · exact xor_lt _ _ h (pairN_lt p)
  · exact h
theorem foldl_lt (j : Nat) : ∀ (l : List Pr) (x : Nat), x < 18446744073709551616 → l.foldl (bkF j) x < 18446744073709551616
  | [], x, h => h
  | p :: l, x, h => foldl_lt j l _ (bkF_lt j x p h)
theorem bk_lt (l : List Pr) (j : Nat) : bk l j < 18446744073709551616 := foldl_lt j l 0 (by decide)
theorem bk_snoc (l : List Pr) (p : Pr) (j : Nat) : bk (l ++ [p]) j = bkF j (bk l j) p := by unfold bk; rw [List.foldl_append]; rfl
theorem bk_take (l : List Pr) (k j : Nat) (h : k < l.length) : bk (l.take (k + 1)) j = bkF j (bk (l.take k) j) l[k] := by
  rw [List.take_succ_eq_append_getElem h, bk_snoc]
/-! What a bucket holds does not hang on the order. -/
theorem bkF_xor (j x y : Nat) (p : Pr) : bkF j (x ^^^ y) p = bkF j x p ^^^ y := by
  unfold bkF; split
  · rw [Nat.xor_assoc, Nat.xor_comm y, ← Nat.xor_assoc]
  · rfl
theorem foldl_xor (j : Nat) : ∀ (l : List Pr) (x y : Nat), l.foldl (bkF j) (x ^^^ y) = l.foldl (bkF j) x ^^^ y
  | [], _, _ => rfl
  | p :: l, x, y => by rw [List.foldl_cons, List.foldl_cons, bkF_xor, foldl_xor j l]
theorem foldl_zero (j : Nat) (l : List Pr) (x : Nat) : l.foldl (bkF j) x = bk l j ^^^ x := by
  have := foldl_xor j l 0 x
  rw [Nat.zero_xor] at this
  exact this
theorem bk_append (l m : List Pr) (j : Nat) : bk (l ++ m) j = bk l j ^^^ bk m j := by
  show (l ++ m).foldl (bkF j) 0 = _
  rw [List.foldl_append, foldl_zero j m]
  exact Nat.xor_comm _ _
theorem bk_one (p : Pr) (j : Nat) : bk [p] j = if bktN p.key = j then pairN p else 0 := by
  show bkF j 0 p = _
  unfold bkF
  split
  · exact Nat.zero_xor _
  · rfl
theorem bk_cons (p : Pr) (l : List Pr) (j : Nat) : bk (p :: l) j = bk [p] j ^^^ bk l j := bk_append [p] l j
theorem bk_nil (j : Nat) : bk [] j = 0 := rfl
theorem bk_reverse (l : List Pr) (j : Nat) : bk l.reverse j = bk l j := by
  induction l with
  | nil => rfl
  | cons p l ih =>
    rw [List.reverse_cons, bk_append, ih, Nat.xor_comm]
    exact (bk_cons p l j).symm
def keysF (b : Int) (p : Pr) : Bool := ((bktN p.key : Nat) : Int) == b
theorem bk_keys (l : List Pr) (b : Int) (j : Nat) : bk (l.filter (keysF b)) j = if (j : Int) = b then bk l j else 0 := by
  induction l with
  | nil => split <;> rfl
  | cons p l ih =>
    rw [List.filter_cons, bk_cons p l]
    by_cases h : keysF b p = true
    · have hb : ((bktN p.key : Nat) : Int) = b := by simpa [keysF] using h
      rw [if_pos h, bk_cons, ih, bk_one]
      by_cases hj : (j : Int) = b
      · rw [if_pos hj, if_pos hj]
      · rw [if_neg hj, if_neg hj, if_neg (by omega)]; rfl
    · have hb : ¬ ((bktN p.key : Nat) : Int) = b := by simpa [keysF] using h
      rw [if_neg h, ih, bk_one]
      by_cases hj : (j : Int) = b
      · rw [if_pos hj, if_pos hj, if_neg (by omega), Nat.zero_xor]
      · rw [if_neg hj, if_neg hj]
def bks (l : List Pr) : List Nat := (List.range 64).map (bk l)
theorem bks_len (l : List Pr) : (bks l).length = 64 := by simp [bks]
theorem bks_get (l : List Pr) (j : Nat) (h : j < 64) : (bks l)[j]'(by rw [bks_len]; exact h) = bk l j := by simp [bks]
def treeT (l : List Pr) : Tr := ⟨bks l, rootN (bks l)⟩
theorem treeT_fit (l : List Pr) : (treeT l).fit := ⟨fun x hx => by
  obtain ⟨j, _, rfl⟩ := List.mem_map.1 hx
  exact bk_lt l j, rootN_lt (bks l)⟩
def vT (t : Tr) : Bool := decide (t.bs.length = 64) && (t.root == rootN t.bs)
theorem vT_tree (l : List Pr) : vT (treeT l) = true := by simp [vT, treeT, bks_len]
def chg (p : Pr) : Nat := if p.v.kind = 0 then 0 else pairN p
theorem chg_lt (p : Pr) : chg p < 18446744073709551616 := by unfold chg; split; decide; exact pairN_lt p
/-- The buckets behind a change. -/
def updB (bs : List Nat) (at_ : Nat) (x y : Nat) : List Nat := bs.set at_ ((bs.getD at_ 0 ^^^ x) ^^^ y)
theorem updB_len (bs : List Nat) (a x y : Nat) : (updB bs a x y).length = bs.length := by simp [updB]
def okU (t : Tr) (o f : Pr) : Bool := vT t && (o.key.toList == f.key.toList) && keyV o.key && valV o.v && valV f.v
def updT (t : Tr) (o f : Pr) : Tr × Int := if okU t o f = true then (⟨updB t.bs (bktN o.key) (chg o) (chg f), rootN (updB t.bs (bktN o.key) (chg o) (chg f))⟩, 0) else (⟨[], 0⟩, 1)
/-- The buckets that differ. -/
def diffB (a b : List Nat) : Nat → List Nat
  | 0 => []
  | k + 1 => if a.getD k 0 ≠ b.getD k 0 then diffB a b k ++ [k] else diffB a b k
theorem diffB_len (a b : List Nat) : ∀ k, (diffB a b k).length ≤ k
  | 0 => Nat.le_refl _
  | k + 1 => by
    have := diffB_len a b k
    unfold diffB; split
    · simp; omega
    · omega
theorem diffB_same (a : List Nat) : ∀ k, diffB a a k = []
  | 0 => rfl
  | k + 1 => by unfold diffB; rw [if_neg (by simp)]; exact diffB_same a k
def diffT (a b : Tr) : List Nat := if (vT a && vT b) = true then diffB a.bs b.bs 64 else []
end Go.Proofs.Ytknmjfojlnajjaa
