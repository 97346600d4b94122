/- The codes of numbers and strings as contracts of the abstract layer. -/
import Derived.Test.YtbiongfnbbnndaaAbP
import Derived.Test.YtbiongfnbbnndaaWireB
import Derived.Test.YtbiongfnbbnndaaRefB
set_option linter.unusedSimpArgs false
set_option linter.unusedVariables false
namespace Go.Proofs.Ytbiongfnbbnndaa
open Go Ab Go.RowKit

def valOf : AV → Value
  | .a (.bool b) => .bool b
  | .a (.int k n) => .int k n
  | .a (.str s) => .string s
  | _ => Go.undef
def flatV : AV → Bool
  | .a (.bool _) | .a (.int _ _) | .a (.str _) => true
  | _ => false
theorem flat_rep {E : Env} {w : World} {x : AV} {v : Value} (hx : flatV x = true) (h : RepV E w x v) : v = valOf x := by
  cases h with
  | a h => cases h with
    | bool => rfl
    | int => rfl
    | str => rfl
    | nils => cases hx
    | empty => cases hx
    | slice => cases hx
    | exact => cases hx
  | _ => cases hx
theorem flat_reps {S : Nat → Nat → Prop} {w : World} {xs : List AV} {vs : List Value} (hx : xs.all flatV = true) (h : RepL S w xs vs) : vs = xs.map valOf := by
  apply List.ext_getElem?
  intro j
  rw [List.getElem?_map]
  rcases Nat.lt_or_ge j xs.length with hj | hj
  · have h1 := List.getElem?_eq_getElem hj
    have h2 := List.getElem?_eq_getElem (l := vs) (i := j) (by rw [h.1]; exact hj)
    rw [h1, h2]
    have := flat_rep (List.all_eq_true.1 hx _ (List.getElem_mem hj)) (h.2 j _ _ h1 h2)
    rw [this]; rfl
  · rw [List.getElem?_eq_none hj, List.getElem?_eq_none (by rw [h.1]; exact hj)]; rfl
/-- A function of numbers and strings that leaves what was there. -/
theorem pden_plain {f : FuncId} {args : List AV} {v : Value} {r : AV} (ha : args.all flatV = true) (hr : ∀ S w, RepV ⟨S, [], []⟩ w r v)
    (h : ∀ w, Calls Try.prog f (args.map valOf).toArray w fun e w' => e = .returned v ∧ Below w.heap.size w w') : PDen Try.prog f args r := by
  intro S w vs hS hL
  rw [flat_reps ha hL]
  refine (h w).mono fun e w' hh => ?_
  obtain ⟨he, hb⟩ := hh
  refine ⟨v, S, he, fun _ _ h => h, fun _ _ h => .inl h, fun g o hs => ?_, hb, hr S w'⟩
  obtain ⟨u, hu⟩ := hS g o hs
  exact ⟨u, (hb.cell (World.block_lt_of_cell? w ⟨g, o, none⟩ hu)).trans hu⟩
theorem pden_same {f : FuncId} {args : List AV} {v : Value} {r : AV} (ha : args.all flatV = true) (hr : ∀ S w, RepV ⟨S, [], []⟩ w r v)
    (h : ∀ w, Calls Try.prog f (args.map valOf).toArray w fun e w' => e = .returned v ∧ w = w') : PDen Try.prog f args r :=
  pden_plain ha hr fun w => (h w).mono fun e w' hh => ⟨hh.1, hh.2 ▸ Below.refl _ _⟩
theorem rep_tup3 {S : Nat → Nat → Prop} {w : World} {x y z : Atom} {u v t : Value} (h1 : Rep S w x u) (h2 : Rep S w y v) (h3 : Rep S w z t) : RepV ⟨S, [], []⟩ w (.tup [.a x, .a y, .a z]) (.tuple #[u, v, t]) :=
  .tup rfl fun j a b ha hb => by
    match j, ha, hb with
    | 0, ha, hb => cases ha; cases hb; exact .a h1
    | 1, ha, hb => cases ha; cases hb; exact .a h2
    | 2, ha, hb => cases ha; cases hb; exact .a h3
    | _ + 3, ha, _ => cases ha
theorem vint_sz (n : Nat) (h : (n : Int) < Cw.M64) : (⟨(Cw.vint n).toArray⟩ : ByteArray).size ≤ 10 := by
  have := Cw.vint_len_10 n (by have := Cw.m64; omega)
  simpa [ByteArray.size] using this
def vintB (n : Nat) : ByteArray := ⟨(Cw.vint n).toArray⟩
def textB (s : ByteArray) : ByteArray := ⟨(Cw.text s.data.toList).toArray⟩
def boolBB (b : Bool) : ByteArray := ⟨(Cw.boolB b).toArray⟩
theorem vintB_size (n : Nat) (h : (n : Int) < Cw.M64) : (vintB n).size ≤ 10 := vint_sz n h
theorem textB_size (s : ByteArray) (h : s.size ≤ 1125899906842624) : (textB s).size ≤ s.size + 10 := by
  have := Cw.vint_len_10 s.size (by omega)
  have hl : s.data.toList.length = s.size := by simp
  simp only [textB, ByteArray.size, Cw.text, List.size_toArray, List.length_append]
  rw [hl]; simp only [ByteArray.size] at *; omega

theorem wuint_den (u : Int) (h0 : 0 ≤ u) (h1 : u < Cw.M64) : PDen Try.prog 48 [.a (.int .u64 u)] (.a (.str (vintB u.toNat))) :=
  pden_plain rfl (fun S w => .a (.str _ (by have := vintB_size u.toNat (by omega); omega))) fun w => uint_any u w h0 h1
theorem wint_den (m : Int) (h0 : -Cw.M63 ≤ m) (h1 : m < Cw.M63) : PDen Try.prog 72 [.a (.int .i64 m)] (.a (.str (vintB (Cw.fold m)))) :=
  pden_plain rfl (fun S w => .a (.str _ (by have := vintB_size _ (Cw.fold_lt m h0 h1); omega))) fun w => int_any m w h0 h1
theorem wtext_den (s : ByteArray) (h : s.size ≤ 1125899906842624) : PDen Try.prog 73 [.a (.str s)] (.a (.str (textB s))) :=
  pden_plain rfl (fun S w => .a (.str _ (by have := textB_size s h; omega))) fun w => text_any s w h
def takeUV (l : List UInt8) (a : Int) : AV := .tup [.a (.int .u64 (Cw.takeU l a).1), .a (.int .i64 (Cw.takeU l a).2.1), .a (.int .i64 (Cw.takeU l a).2.2)]
def takeCV (l : List UInt8) (a m : Int) : AV := .tup [.a (.int .i64 (Cw.takeC l a m).1), .a (.int .i64 (Cw.takeC l a m).2.1), .a (.int .i64 (Cw.takeC l a m).2.2)]
def takeTV (l : List UInt8) (a m : Int) : AV := .tup [.a (.str ⟨(Cw.takeT l a m).1.toArray⟩), .a (.int .i64 (Cw.takeT l a m).2.1), .a (.int .i64 (Cw.takeT l a m).2.2)]
def takeIV (l : List UInt8) (a : Int) : AV := .tup [.a (.int .i64 (takeIv (Cw.takeU l a)).1), .a (.int .i64 (takeIv (Cw.takeU l a)).2.1), .a (.int .i64 (takeIv (Cw.takeU l a)).2.2)]
def takeBV (l : List UInt8) (a : Int) : AV := .tup [.a (.bool (takeB l a).1), .a (.int .i64 (takeB l a).2.1), .a (.int .i64 (takeB l a).2.2)]
theorem takeT_sz (l : List UInt8) (a m : Int) : (Cw.takeT l a m).1.length ≤ l.length := by
  unfold Cw.takeT
  split
  split
  · simp
  · simp only [List.length_take, List.length_drop]; omega
theorem takeT_size (s : ByteArray) (a m : Int) : (⟨(Cw.takeT s.data.toList a m).1.toArray⟩ : ByteArray).size ≤ s.size := by
  have := takeT_sz s.data.toList a m
  have hl : s.data.toList.length = s.size := by simp
  have h2 : (⟨(Cw.takeT s.data.toList a m).1.toArray⟩ : ByteArray).size = (Cw.takeT s.data.toList a m).1.length := by simp [ByteArray.size]
  omega
theorem wtakeuint_den (s : ByteArray) (a : Int) (hs : s.size ≤ 1125899906842624) : PDen Try.prog 64 [.a (.str s), .a (.int .i64 a)] (takeUV s.data.toList a) :=
  pden_same rfl (fun S w => rep_tup3 (.int _ _) (.int _ _) (.int _ _)) fun w => takeuint_any s a w hs _ _ _ (Lib.hid rfl)
theorem wtakeint_den (s : ByteArray) (a : Int) (hs : s.size ≤ 1125899906842624) : PDen Try.prog 87 [.a (.str s), .a (.int .i64 a)] (takeIV s.data.toList a) :=
  pden_same rfl (fun S w => rep_tup3 (.int _ _) (.int _ _) (.int _ _)) fun w => takeint_any s a w hs _ _ _ (Lib.hid rfl)
theorem wtakecount_den (s : ByteArray) (a m : Int) (hs : s.size ≤ 1125899906842624) (hm : m ≤ 9223372036854775807) : PDen Try.prog 43 [.a (.str s), .a (.int .i64 a), .a (.int .i64 m)] (takeCV s.data.toList a m) :=
  pden_same rfl (fun S w => rep_tup3 (.int _ _) (.int _ _) (.int _ _)) fun w => takecount_any s a m w hs hm _ _ _ (Lib.hid rfl)
theorem wtaketext_den (s : ByteArray) (a m : Int) (hs : s.size ≤ 1125899906842624) (hm : m ≤ 9223372036854775807) : PDen Try.prog 89 [.a (.str s), .a (.int .i64 a), .a (.int .i64 m)] (takeTV s.data.toList a m) :=
  pden_same rfl (fun S w => rep_tup3 (.str _ (by have := takeT_size s a m; omega)) (.int _ _) (.int _ _)) fun w => taketext_any s a m w hs hm _ _ _ (Lib.hid rfl)
theorem ruint_den (u : Int) (h0 : 0 ≤ u) (h1 : u < Cw.M64) : PDen Try.prog 51 [.a (.int .u64 u)] (.a (.str (vintB u.toNat))) :=
  pden_plain rfl (fun S w => .a (.str _ (by have := vintB_size u.toNat (by omega); omega))) fun w => ruint_any u w h0 h1
theorem rint_den (m : Int) (h0 : -Cw.M63 ≤ m) (h1 : m < Cw.M63) : PDen Try.prog 83 [.a (.int .i64 m)] (.a (.str (vintB (Cw.fold m)))) :=
  pden_plain rfl (fun S w => .a (.str _ (by have := vintB_size _ (Cw.fold_lt m h0 h1); omega))) fun w => rint_any m w h0 h1
theorem rtext_den (s : ByteArray) (h : s.size ≤ 1125899906842624) : PDen Try.prog 84 [.a (.str s)] (.a (.str (textB s))) :=
  pden_plain rfl (fun S w => .a (.str _ (by have := textB_size s h; omega))) fun w => rtext_any s w h
theorem rtakeuint_den (s : ByteArray) (a : Int) (hs : s.size ≤ 1125899906842624) : PDen Try.prog 67 [.a (.str s), .a (.int .i64 a)] (takeUV s.data.toList a) :=
  pden_same rfl (fun S w => rep_tup3 (.int _ _) (.int _ _) (.int _ _)) fun w => rtakeuint_any s a w hs _ _ _ (Lib.hid rfl)
theorem rtakeint_den (s : ByteArray) (a : Int) (hs : s.size ≤ 1125899906842624) : PDen Try.prog 90 [.a (.str s), .a (.int .i64 a)] (takeIV s.data.toList a) :=
  pden_same rfl (fun S w => rep_tup3 (.int _ _) (.int _ _) (.int _ _)) fun w => rtakeint_any s a w hs _ _ _ (Lib.hid rfl)
theorem rtakecount_den (s : ByteArray) (a m : Int) (hs : s.size ≤ 1125899906842624) (hm : m ≤ 9223372036854775807) : PDen Try.prog 45 [.a (.str s), .a (.int .i64 a), .a (.int .i64 m)] (takeCV s.data.toList a m) :=
  pden_same rfl (fun S w => rep_tup3 (.int _ _) (.int _ _) (.int _ _)) fun w => rtakecount_any s a m w hs hm _ _ _ (Lib.hid rfl)
theorem rtaketext_den (s : ByteArray) (a m : Int) (hs : s.size ≤ 1125899906842624) (hm : m ≤ 9223372036854775807) : PDen Try.prog 92 [.a (.str s), .a (.int .i64 a), .a (.int .i64 m)] (takeTV s.data.toList a m) :=
  pden_same rfl (fun S w => rep_tup3 (.str _ (by have := takeT_size s a m; omega)) (.int _ _) (.int _ _)) fun w => rtaketext_any s a m w hs hm _ _ _ (Lib.hid rfl)
end Go.Proofs.Ytbiongfnbbnndaa
