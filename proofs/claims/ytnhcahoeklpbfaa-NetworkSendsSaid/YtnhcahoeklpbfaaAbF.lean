/- Single operations do what abstract code says: the operations that leave names as they are, one by one. No program. -/
import Derived.Test.YtnhcahoeklpbfaaAbE
import Derived.OwnWalk
set_option linter.unusedSimpArgs false
set_option linter.unusedVariables false
namespace Ab
open Go Go.RowKit

theorem onBool_elim {v : AV} {K : Bool → Prop} (h : onBool v K) : ∃ b, v = .a (.bool b) ∧ K b := by
  unfold onBool at h; split at h
  · exact ⟨_, rfl, h⟩
  · exact h.elim
theorem onInt_elim {v : AV} {K : IntKind → Int → Prop} (h : onInt v K) : ∃ k n, v = .a (.int k n) ∧ K k n := by
  unfold onInt at h; split at h
  · exact ⟨_, _, rfl, h⟩
  · exact h.elim
theorem onStr_elim {v : AV} {K : ByteArray → Prop} (h : onStr v K) : ∃ s, v = .a (.str s) ∧ K s := by
  unfold onStr at h; split at h
  · exact ⟨_, rfl, h⟩
  · exact h.elim
theorem onAgg_elim {v : AV} {K : List Atom → Prop} (h : onAgg v K) : ∃ s, v = .agg s ∧ K s := by
  unfold onAgg at h; split at h
  · exact ⟨_, rfl, h⟩
  · exact h.elim
theorem onTup_elim {v : AV} {K : List AV → Prop} (h : onTup v K) : ∃ s, v = .tup s ∧ K s := by
  unfold onTup at h; split at h
  · exact ⟨_, rfl, h⟩
  · exact h.elim
theorem onClo_elim {v : AV} {K : FuncId → List AV → Prop} (h : onClo v K) : ∃ f cs, v = .clo f cs ∧ K f cs := by
  unfold onClo at h; split at h
  · exact ⟨_, _, rfl, h⟩
  · exact h.elim
theorem onLoc_elim {v : AV} {K : Nat → Nat → Prop} (h : onLoc v K) : ∃ i o, v = .loc i o ∧ K i o := by
  unfold onLoc at h; split at h
  · exact ⟨_, _, rfl, h⟩
  · exact h.elim
theorem vecOf_some {O : List OwnD} {v : AV} {k : Nat} (h : vecOf O v = some k) : v = .own k ∧ (O.getD k default).mu = true := by
  unfold vecOf at h
  split at h
  · split at h
    · rename_i hm; cases h; exact ⟨rfl, hm⟩
    · cases h
  · cases h
theorem onVec_elim {x : Option Nat} {K : Nat → Prop} {q : Prop} (h : onVec x K q) : (∃ k, x = some k ∧ K k) ∨ (x = none ∧ q) := by
  cases x with
  | none => exact .inr ⟨rfl, h⟩
  | some k => exact .inl ⟨k, rfl, h⟩
theorem onFull_elim {v : AV} {K : Nat → List (List Atom) → Prop} (h : onFull v K) : ∃ s rows, v = .full s rows ∧ K s rows := by
  unfold onFull at h
  split at h
  · exact ⟨_, _, rfl, h⟩
  · exact h.elim
theorem onNil_elim {v : AV} {K : Bool → Prop} (h : onNil v K) : ∃ b, K b ∧ ∀ (E : Env) (w : World) (u : Value), RepV E w v u → ∃ A n c, u = .slice A n c ∧ A.isNone = b := by
  unfold onNil at h
  split at h
  · exact ⟨true, h, fun E w u hu => by cases hu with | a hu => cases hu; exact ⟨none, 0, 0, rfl, rfl⟩⟩
  · exact ⟨false, h, fun E w u hu => by cases hu with | nn hu => exact ⟨_, _, _, rfl, rfl⟩⟩
  · exact ⟨false, h, fun E w u hu => by cases hu with | a hu => cases hu with | slice sz rows g o c U hn hl hc hr hcell hrep => exact ⟨_, _, _, rfl, rfl⟩⟩
  · exact h.elim
theorem onBuild_elim {x : Option (List Atom)} {y : Option (List AV)} {K : AV → Prop} (h : onBuild x y K) : (∃ cs, x = some cs ∧ K (.agg cs)) ∨ ∃ cs, y = some cs ∧ K (.mix cs) := by
  cases x with
  | some cs => exact .inl ⟨cs, rfl, h⟩
  | none => cases y with
    | some cs => exact .inr ⟨cs, rfl, h⟩
    | none => exact h.elim
theorem onOpt_elim {α : Type} {v : Option α} {K : α → Prop} (h : onOpt v K) : ∃ x, v = some x ∧ K x := by
  unfold onOpt at h; split at h
  · exact ⟨_, rfl, h⟩
  · exact h.elim
theorem onCase_elim {b : Bool} {p q : Prop} (h : onCase b p q) : (b = true ∧ p) ∨ (b = false ∧ q) := by
  cases b
  · exact .inr ⟨rfl, h⟩
  · exact .inl ⟨rfl, h⟩

section
variable {P : Program} {ev : AX → AV} {H : List (List AV)} {O : List OwnD} {K : AV → Prop}

theorem run_info {w : World} {t : TypeId} {i : TypeInfo} (h : P.info? t = some i) : (typeInfo t).run P w = .ok i w := by
  simp [typeInfo, program, Sem.run, bind, Sem.bind, pure, h]
theorem run_under {w : World} {t : TypeId} {d : TypeDesc} (h : P.underlying t = some d) : (underlying t).run P w = .ok d w := by
  simp [underlying, program, Sem.run, bind, Sem.bind, pure, h]
theorem run_size {w : World} {t : TypeId} {n : Nat} (h : sizeAt P t = some n) : (Go.sizeOf t).run P w = .ok n w := by
  unfold sizeAt at h
  cases hi : P.info? t with
  | none => rw [hi] at h; simp at h
  | some i =>
    rw [hi] at h; simp at h
    simp only [Go.sizeOf, Sem.run_bind, run_info hi, Result.andThen_ok, h]; rfl
theorem run_agg {w : World} {t : TypeId} {d : TypeDesc} (h : P.underlying t = some d) : (isAgg t).run P w = .ok (isAggD d) w := by
  simp only [isAgg, Sem.run_bind, run_under h, Result.andThen_ok]
  cases d <;> rfl

theorem good_mov {o : Oper} {x : Operand} {y : AX} (ho : o.op = .move x ∨ o.op = .assign x) (hx : cX x = some y) : Good P o ev H O (ev y) :=
  good_pure fun base w0 E a w hh hr => ⟨a.eval x, by rcases ho with ho | ho <;> simp [execOp, ho], hr x y (by rcases ho with ho | ho <;> simp [ho, Op.operands]) hx⟩

theorem good_pick {o : Oper} {c x y : Operand} {c' x' y' : AX} {b : Bool} (ho : o.op = .pick c x y) (hc : cX c = some c') (hx : cX x = some x') (hy : cX y = some y') (hb : ev c' = .a (.bool b)) :
    Good P o ev H O (if b then ev x' else ev y') :=
  good_pure fun base w0 E a w hh hr => by
    have h1 := (hb ▸ hr c c' (by simp [ho, Op.operands]) hc).bool_
    refine ⟨if b then a.eval x else a.eval y, by simp [execOp, ho, h1, asBool], ?_⟩
    cases b
    · exact hr y y' (by simp [ho, Op.operands]) hy
    · exact hr x x' (by simp [ho, Op.operands]) hx

theorem good_un {o : Oper} {op : UnOp} {t : TypeId} {x : Operand} {x' : AX} (ho : o.op = .unOp op t x) (hx : cX x = some x') (h : aun op (ev x') K) : ∃ r, Good P o ev H O r ∧ K r := by
  unfold aun at h
  split at h
  · rename_i k n hev
    unfold unInt at h
    split at h
    · exact ⟨_, good_pure fun base w0 E a w hh hr => ⟨_, by
        have h1 := (hev ▸ hr x x' (by simp [ho, Op.operands]) hx).int_
        simp only [execOp, ho, h1, Op.unary, Op.intArith, Sem.run_bind]; rfl, .a (.int _ _)⟩, h⟩
    · exact ⟨_, good_pure fun base w0 E a w hh hr => ⟨_, by
        have h1 := (hev ▸ hr x x' (by simp [ho, Op.operands]) hx).int_
        simp only [execOp, ho, h1, Op.unary, Op.intBits, Sem.run_bind]; rfl, .a (.int _ _)⟩, h⟩
    · exact h.elim
  · rename_i b hev
    unfold unBool at h
    split at h
    · exact ⟨_, good_pure fun base w0 E a w hh hr => ⟨_, by
        have h1 := (hev ▸ hr x x' (by simp [ho, Op.operands]) hx).bool_
        simp only [execOp, ho, h1, Op.unary, Sem.run_bind]; rfl, .a (.bool _)⟩, h⟩
    · exact h.elim
  · exact h.elim

theorem good_bin {o : Oper} {op : BinOp} {t t' : TypeId} {x y : Operand} {x' y' : AX} (ho : o.op = .binOp op t x y t') (hx : cX x = some x') (hy : cX y = some y') 
    (h : abin op (ev x') (ev y') K) : ∃ r, Good P o ev H O r ∧ K r := by
  unfold abin at h
  split at h
  · rename_i k m k' n hxe hye
    have mk : ∀ (z : Atom) (v : Value), (∀ (S : Nat → Nat → Prop) w, Rep S w z v) → (∀ w, (do eqGuard op t x y (.int k m) (.int k' n); Go.binOp op t (.int k m) (.int k' n) : Sem Value).run P w = .ok v w) → Good P o ev H O (.a z) :=
      fun z v hz hrun => good_pure fun base w0 E a w hh hr => ⟨v, by
        have h1 := (hxe ▸ hr x x' (by simp [ho, Op.operands]) hx).int_
        have h2 := (hye ▸ hr y y' (by simp [ho, Op.operands]) hy).int_
        have h3 := hrun w
        simp only [execOp, ho, h1, h2]
        simp only [Sem.run_bind] at h3 ⊢
        rw [h3]; rfl, .a (hz _ _)⟩
    unfold binInt at h
    split at h
    · obtain ⟨hg, h⟩ := h; subst hg; exact ⟨_, mk _ _ (fun _ _ => .int _ _) (fun w => by simp [eqGuard, Go.binOp, Op.intArith] <;> rfl), h⟩
    · obtain ⟨hg, h⟩ := h; subst hg; exact ⟨_, mk _ _ (fun _ _ => .int _ _) (fun w => by simp [eqGuard, Go.binOp, Op.intArith] <;> rfl), h⟩
    · obtain ⟨hg, h⟩ := h; subst hg; exact ⟨_, mk _ _ (fun _ _ => .int _ _) (fun w => by simp [eqGuard, Go.binOp, Op.intArith] <;> rfl), h⟩
    · obtain ⟨hg, h⟩ := h; obtain ⟨hg, hn⟩ := hg; subst hg; exact ⟨_, mk _ _ (fun _ _ => .int _ _) (fun w => by simp [eqGuard, Go.binOp, Op.intDiv, hn] <;> rfl), h⟩
    · obtain ⟨hg, h⟩ := h; obtain ⟨hg, hn⟩ := hg; subst hg; exact ⟨_, mk _ _ (fun _ _ => .int _ _) (fun w => by simp [eqGuard, Go.binOp, Op.intDiv, hn] <;> rfl), h⟩
    · obtain ⟨hg, h⟩ := h; subst hg; exact ⟨_, mk _ _ (fun _ _ => .int _ _) (fun w => by simp [eqGuard, Go.binOp, Op.intBits] <;> rfl), h⟩
    · obtain ⟨hg, h⟩ := h; subst hg; exact ⟨_, mk _ _ (fun _ _ => .int _ _) (fun w => by simp [eqGuard, Go.binOp, Op.intBits] <;> rfl), h⟩
    · obtain ⟨hg, h⟩ := h; subst hg; exact ⟨_, mk _ _ (fun _ _ => .int _ _) (fun w => by simp [eqGuard, Go.binOp, Op.intBits] <;> rfl), h⟩
    · obtain ⟨hg, h⟩ := h; subst hg; exact ⟨_, mk _ _ (fun _ _ => .int _ _) (fun w => by simp [eqGuard, Go.binOp, Op.intBits] <;> rfl), h⟩
    · obtain ⟨hg, h⟩ := h; have hn : ¬ n < 0 := (by omega); exact ⟨_, mk _ _ (fun _ _ => .int _ _) (fun w => by simp [eqGuard, Go.binOp, Op.shift, hn] <;> rfl), h⟩
    · obtain ⟨hg, h⟩ := h; have hn : ¬ n < 0 := (by omega); exact ⟨_, mk _ _ (fun _ _ => .int _ _) (fun w => by simp [eqGuard, Go.binOp, Op.shift, hn] <;> rfl), h⟩
    · obtain ⟨hg, h⟩ := h; subst hg; exact ⟨_, mk _ _ (fun _ _ => .bool _) (fun w => by simp [eqGuard, Go.binOp, Op.intCmp] <;> rfl), h⟩
    · obtain ⟨hg, h⟩ := h; subst hg; exact ⟨_, mk _ _ (fun _ _ => .bool _) (fun w => by simp [eqGuard, Go.binOp, Op.intCmp] <;> rfl), h⟩
    · obtain ⟨hg, h⟩ := h; subst hg; exact ⟨_, mk _ _ (fun _ _ => .bool _) (fun w => by simp [eqGuard, Go.binOp, Op.intCmp] <;> rfl), h⟩
    · obtain ⟨hg, h⟩ := h; subst hg; exact ⟨_, mk _ _ (fun _ _ => .bool _) (fun w => by simp [eqGuard, Go.binOp, Op.intCmp] <;> rfl), h⟩
    · obtain ⟨hg, h⟩ := h; subst hg; exact ⟨_, mk _ _ (fun _ _ => .bool _) (fun w => by simp [eqGuard, Go.binOp, Op.intCmp] <;> rfl), h⟩
    · obtain ⟨hg, h⟩ := h; subst hg; exact ⟨_, mk _ _ (fun _ _ => .bool _) (fun w => by simp [eqGuard, Go.binOp, Op.intCmp] <;> rfl), h⟩
  · rename_i s u hxe hye
    have mk : ∀ (z : Atom) (v : Value), (∀ (S : Nat → Nat → Prop) w, Rep S w z v) → (∀ w, (do eqGuard op t x y (.string s) (.string u); Go.binOp op t (.string s) (.string u) : Sem Value).run P w = .ok v w) → Good P o ev H O (.a z) :=
      fun z v hz hrun => good_pure fun base w0 E a w hh hr => ⟨v, by
        have h1 := (hxe ▸ hr x x' (by simp [ho, Op.operands]) hx).str_.1
        have h2 := (hye ▸ hr y y' (by simp [ho, Op.operands]) hy).str_.1
        have h3 := hrun w
        simp only [execOp, ho, h1, h2]
        simp only [Sem.run_bind] at h3 ⊢
        rw [h3]; rfl, .a (hz _ _)⟩
    unfold binStr at h
    split at h
    · obtain ⟨hg, h⟩ := h
      refine ⟨_, mk _ _ (fun _ _ => .str _ (by rw [ByteArray.size_append]; exact hg)) (fun w => ?_), h⟩
      have : ¬ (((s.size + u.size : Nat) : Int) > IntKind.i64.max) := by
        have : IntKind.i64.max = 9223372036854775807 := by decide
        rw [this]; omega
      simp only [eqGuard, Go.binOp, Op.stringOp, this, if_false, Sem.run_bind]
      rfl
    · exact ⟨_, mk _ _ (fun _ _ => .bool _) (fun w => by simp [eqGuard, Go.binOp, Op.stringOp] <;> rfl), h⟩
    · exact ⟨_, mk _ _ (fun _ _ => .bool _) (fun w => by simp [eqGuard, Go.binOp, Op.stringOp] <;> rfl), h⟩
    · exact ⟨_, mk _ _ (fun _ _ => .bool _) (fun w => by simp [eqGuard, Go.binOp, Op.stringOp] <;> rfl), h⟩
    · exact ⟨_, mk _ _ (fun _ _ => .bool _) (fun w => by simp [eqGuard, Go.binOp, Op.stringOp] <;> rfl), h⟩
    · exact ⟨_, mk _ _ (fun _ _ => .bool _) (fun w => by simp [eqGuard, Go.binOp, Op.stringOp] <;> rfl), h⟩
    · exact ⟨_, mk _ _ (fun _ _ => .bool _) (fun w => by simp [eqGuard, Go.binOp, Op.stringOp] <;> rfl), h⟩
    · exact h.elim
  · exact h.elim

theorem good_eqBool {o : Oper} {op : BinOp} {t t' : TypeId} {x y : Operand} {x' y' : AX} {p q : Bool} (neg : Bool) (ho : o.op = .binOp op t x y t') (hop : op = if neg then .neq else .eql) (hx : cX x = some x') (hy : cX y = some y') (ht : P.underlying t = some .bool)
    (hp : ev x' = .a (.bool p)) (hq : ev y' = .a (.bool q)) : Good P o ev H O (.a (.bool (if neg then !(p == q) else p == q))) :=
  good_pure fun base w0 E a w hh hr => ⟨_, by
    have h1 := (hp ▸ hr x x' (by simp [ho, Op.operands]) hx).bool_
    have h2 := (hq ▸ hr y y' (by simp [ho, Op.operands]) hy).bool_
    have h3 : (Op.equal t (.bool p) (.bool q)).run P w = .ok (p == q) w := by
      have e : Op.equal t (.bool p) (.bool q) = Op.equalIn (9999 + 1) t (.bool p) (.bool q) := rfl
      rw [e, Op.equalIn]
      simp only [Sem.run_bind, run_under ht, Result.andThen_ok]
      rfl
    cases neg
    · simp only [Bool.false_eq_true, if_false] at hop; subst hop
      simp only [execOp, ho, h1, h2, eqGuard, Go.binOp, Sem.run_bind]
      simp [h3]
    · simp only [if_true] at hop; subst hop
      simp only [execOp, ho, h1, h2, eqGuard, Go.binOp, Sem.run_bind]
      simp [h3], .a (.bool _)⟩
end
end Ab
