/- The evaluation of abstract code, as rules for simp: only what stands under 'thaw' is looked at. No program. -/
import Derived.Test.YtnhcahoeklpbfaaAbM
set_option linter.unusedSimpArgs false
set_option linter.unusedVariables false
namespace Ab
open Go Go.RowKit

def thaw (p : Prop) : Prop := p
/-- An equation that simp takes for a rule, not for a definition. -/
theorem eqI {α : Sort _} {a b : α} (h : a = b) : a = b := h
theorem thaw_intro {p : Prop} (h : thaw p) : p := h

section
variable {P : Program} {Q : Exit → St → Prop} {st : St} {K : AV → St → Prop} {k : AV → Prop} {Kf : St → Prop} {c d : AC} {i id n m sz off : Nat} {x y z : AX} {H : List (List AV)} {O : List OwnD}

theorem t_skip : thaw (awp P .skip Q st) = thaw (Q .normal st) := eqI rfl
theorem t_region {ops : List AOp} : thaw (awp P (.region ops) Q st) = thaw (aops P (Q .normal) ops st) := eqI rfl
theorem t_seq : thaw (awp P (.seq c d) Q st) = thaw (awp P c (thenQ (awp P d Q) Q) st) := eqI rfl
theorem t_cond : thaw (awp P (.cond x c d) Q st) = thaw (onBool (aval st.fr x) fun t => onCase t (awp P c Q st) (awp P d Q st)) := eqI rfl
theorem t_block : thaw (awp P (.block id c) Q st) = thaw (awp P c (blockQ id Q) st) := eqI rfl
theorem t_loopFrom {n : Nat} : thaw (awp P (.loopN n c) Q st) = thaw (aloopN n (awp P c) Q st) := eqI rfl
theorem t_loop : thaw (awp P (.loop c) Q st) = thaw (aloop (awp P c) Q st) := eqI rfl
theorem t_exit : thaw (awp P (.exit id) Q st) = thaw (Q (.exit id) st) := eqI rfl
theorem t_ret : thaw (awp P .ret Q st) = thaw (Q .ret st) := eqI rfl

theorem t_thenN {next : St → Prop} : thaw (thenQ next Q .normal st) = thaw (next st) := eqI rfl
theorem t_thenE {next : St → Prop} : thaw (thenQ next Q (.exit i) st) = thaw (Q (.exit i) st) := eqI rfl
theorem t_thenR {next : St → Prop} : thaw (thenQ next Q .ret st) = thaw (Q .ret st) := eqI rfl
theorem t_blockN : thaw (blockQ id Q .normal st) = thaw (Q .normal st) := eqI rfl
theorem t_blockE : thaw (blockQ id Q (.exit i) st) = thaw (if i = id then Q .normal st else Q (.exit i) st) := eqI rfl
theorem t_blockR : thaw (blockQ id Q .ret st) = thaw (Q .ret st) := eqI rfl
theorem t_loopE {α : Type} {I : α → Prop} {F : α → St} {μ : α → Nat} {q : α} : thaw (loopQ I F μ q Q (.exit i) st) = thaw (Q (.exit i) st) := eqI rfl
theorem t_loopR {α : Type} {I : α → Prop} {F : α → St} {μ : α → Nat} {q : α} : thaw (loopQ I F μ q Q .ret st) = thaw (Q .ret st) := eqI rfl
theorem t_loopN {α : Type} {I : α → Prop} {F : α → St} {μ : α → Nat} {q : α} : thaw (loopQ I F μ q Q .normal st) = ∃ y, I y ∧ μ y < μ q ∧ Weak st (F y) := eqI rfl
theorem t_retR {rs : List ARes} {r : AV} : thaw (retQ rs r .ret st) = (aresult st rs = some r) := eqI rfl
theorem t_retN {rs : List ARes} {r : AV} : thaw (retQ rs r .normal st) = (aresult st rs = some r) := eqI rfl

theorem t_nil : thaw (aops P Kf [] st) = thaw (Kf st) := eqI rfl
theorem t_cons {dst : Option Nat} {op : AO} {rest : List AOp} : thaw (aops P Kf (⟨dst, none, op⟩ :: rest) st) = thaw (aop P op st fun v st' => aops P Kf rest (st'.put dst v)) := eqI rfl
theorem t_consG {dst : Option Nat} {op : AO} {rest : List AOp} {t : Nat} {want : Bool} : thaw (aops P Kf (⟨dst, some (t, want), op⟩ :: rest) st) = thaw (aguard want (st.fr.getD t .undef)
      (aop P op { st with fr := st.fr.set t (.a (.bool want)) } fun v st' => aops P Kf rest (st'.put dst v))
      (aops P Kf rest (({ st with fr := st.fr.set t (.a (.bool (!want))) } : St).put dst .undef))
      (aops P Kf rest (st.put dst .undef))) := eqI rfl
theorem t_guardB {want b : Bool} {p q r : Prop} : thaw (aguard want (.a (.bool b)) p q r) = thaw (onCase (b == want) p q) := eqI rfl
theorem t_guardU {want : Bool} {p q r : Prop} : thaw (aguard want .undef p q r) = thaw r := eqI rfl
theorem t_case1 {p q : Prop} : thaw (onCase true p q) = thaw p := eqI rfl
theorem t_case0 {p q : Prop} : thaw (onCase false p q) = thaw q := eqI rfl
theorem t_gate {p : Prop} : thaw (agate True p) = thaw p := by simp [thaw, agate]
theorem t_case_intro {b : Bool} {p q : Prop} (h : b = true → thaw p) (k : b = false → thaw q) : thaw (onCase b p q) := onCase_intro h k
theorem t_case_dec {c : Prop} {_ : Decidable c} {p q : Prop} (h : c → thaw p) (k : ¬ c → thaw q) : thaw (onCase (decide c) p q) :=
  onCase_intro (fun e => h (of_decide_eq_true e)) (fun e => k (of_decide_eq_false e))
theorem t_case_ndec {c : Prop} {_ : Decidable c} {p q : Prop} (h : c → thaw q) (k : ¬ c → thaw p) : thaw (onCase (!decide c) p q) :=
  onCase_intro (fun e => k (by simpa using e)) (fun e => h (by simpa using e))
theorem t_case_eqI {x y : Int} {p q : Prop} (h : x = y → thaw p) (k : x ≠ y → thaw q) : thaw (onCase (x == y) p q) :=
  onCase_intro (fun e => h (by simpa using e)) (fun e => k (by simpa using e))
theorem t_case_neI {x y : Int} {p q : Prop} (h : x = y → thaw q) (k : x ≠ y → thaw p) : thaw (onCase (!(x == y)) p q) :=
  onCase_intro (fun e => k (by simpa using e)) (fun e => h (by simpa using e))
theorem t_case_not {b : Bool} {p q : Prop} (h : b = true → thaw q) (k : b = false → thaw p) : thaw (onCase (!b) p q) :=
  onCase_intro (fun e => k (by simpa using e)) (fun e => h (by simpa using e))
theorem t_gate_intro {g p : Prop} (h : g) (k : thaw p) : thaw (agate g p) := ⟨h, k⟩
theorem t_call_intro {f : FuncId} {as : List AV} {r : AV} (h : PDen P f as r) (hk : thaw (k r)) : thaw (acall P f as k) := acall_of h hk
theorem t_callF_intro {f : FuncId} {as : List AV} {d : OwnD} {Ks : AV → St → Prop} (h : IDen P f as [] [] (.own 0) [] [d] false) (hk : thaw (Ks (.own st.O.length) { st with O := st.O ++ [d] })) : thaw (acallF P f as st Ks) := ⟨d, h, hk⟩
theorem t_callFC_intro {f : FuncId} {as : List AV} {d : OwnD} {c : Nat} {Ks : AV → St → Prop} (h : IDen P f as [] [] (.ownc 0 c) [] [d] false) (hk : thaw (Ks (.ownc st.O.length c) { st with O := st.O ++ [d] })) : thaw (acallFC P f as st Ks) := ⟨d, c, h, hk⟩
theorem t_callK_intro {f : FuncId} {as : List AV} {r : AV} {H' : List (List AV)} {O' : List OwnD} {Ks : AV → St → Prop} (h : IDen P f as st.H st.O r H' O' true) (hl : st.H.length ≤ H'.length) (hk : thaw (Ks r ⟨st.fr, H', O'⟩)) : thaw (acallK P f as st Ks) := ⟨r, H', O', h, hl, hk⟩
theorem t_callI_intro {f : FuncId} {as : List AV} {r : AV} {H' : List (List AV)} {O' : List OwnD} {keep : Bool} {Ks : AV → St → Prop} (h : IDen P f as st.H st.O r H' O' keep) (hk : thaw (Ks r ⟨forgetIf keep st.fr, H', O'⟩)) : thaw (acallI P f as st Ks) := ⟨r, H', O', keep, h, hk⟩
theorem t_callT_intro {f : FuncId} {as : List AV} {r : AV} (h : PDen P f as r) (hs : scalT r = true) (hk : thaw (k r)) : thaw (acallT P f as k) := ⟨r, h, hs, hk⟩
theorem t_bytes_intro {l : List UInt8} {kb : List UInt8 → Prop} (h : thaw (kb l)) : thaw (onBytes (byteRows l) kb) := ⟨l, rfl, h⟩
/-- A loop that leaves memory as it is. -/
theorem t_loop_intro {body : (Exit → St → Prop) → St → Prop} {α : Type} (I : α → Prop) (μ : α → Nat) (x0 : α) (ws : List Nat) (F : α → List (Nat × AV)) {fr : List AV}
    (h0 : I x0) (hw : leF fr (sets (F x0) (havoc ws fr))) (hb : ∀ x, (sets (F x) (havoc ws fr)).all (boundV H.length O.length) = true) (hH : H.all (·.all (boundV H.length O.length)) = true)
    (h : ∀ x, I x → ∀ fr', fr' = sets (F x) (havoc ws fr) → thaw (body (loopQ I (fun x => ⟨sets (F x) (havoc ws fr), H, O⟩) μ x Q) ⟨fr', H, O⟩)) : thaw (aloop body Q ⟨fr, H, O⟩) :=
  ⟨[], trivial, α, I, (fun x => ⟨sets (F x) (havoc ws fr), H, O⟩), μ, x0, h0, (show Weak ⟨fr, H, O⟩ _ from ⟨hw, by simp, by simp, hb x0, hH⟩), fun _ _ => Nat.le_refl _, fun x hx => h x hx _ rfl⟩
/-- A loop that appends to rows of its own, or writes its own memory. -/
theorem t_loopO_intro {body : (Exit → St → Prop) → St → Prop} {α : Type} (ns : List Nm) (I : α → Prop) (μ : α → Nat) (x0 : α) (ws : List Nat) (F : α → List (Nat × AV)) (HF : α → List (List AV)) (OF : α → List OwnD) {fr : List AV}
    (h0 : I x0) (hn : nmsOk ns ⟨fr, H, O⟩) (hw : leF (nms ns ⟨fr, H, O⟩).fr (sets (F x0) (havoc ws fr))) (hwH : (nms ns ⟨fr, H, O⟩).H.take (HF x0).length = HF x0) (hwO : (nms ns ⟨fr, H, O⟩).O.take (OF x0).length = OF x0)
    (hlen : ∀ x, H.length ≤ (HF x).length) (hb : ∀ x, (sets (F x) (havoc ws fr)).all (boundV (HF x).length (OF x).length) = true) (hH : ∀ x, (HF x).all (·.all (boundV (HF x).length (OF x).length)) = true)
    (h : ∀ x, I x → ∀ st', st' = (⟨sets (F x) (havoc ws fr), HF x, OF x⟩ : St) → thaw (body (loopQ I (fun x => ⟨sets (F x) (havoc ws fr), HF x, OF x⟩) μ x Q) st')) : thaw (aloop body Q ⟨fr, H, O⟩) :=
  ⟨ns, hn, α, I, (fun x => ⟨sets (F x) (havoc ws fr), HF x, OF x⟩), μ, x0, h0, ⟨hw, hwH, hwO, hb x0, hH x0⟩, fun x _ => hlen x, fun x hx => h x hx _ rfl⟩
theorem t_loopN_intro {n : Nat} {body : (Exit → St → Prop) → St → Prop} {α : Type} (ns : List Nm) (I : α → Prop) (μ : α → Nat) (x0 : α) (ws : List Nat) (F : α → List (Nat × AV)) (HF : α → List (List AV)) (OF : α → List OwnD) {fr : List AV}
    (h0 : I x0) (hn : nmsOk ns ⟨fr, H, O⟩) (hw : leF (nms ns ⟨fr, H, O⟩).fr (sets (F x0) (havoc ws fr))) (hwH : (nms ns ⟨fr, H, O⟩).H.take (HF x0).length = HF x0) (hwO : (nms ns ⟨fr, H, O⟩).O.take (OF x0).length = OF x0)
    (hlen : ∀ x, H.length ≤ (HF x).length ∧ n ≤ (OF x).length) (hb : ∀ x, (sets (F x) (havoc ws fr)).all (boundV (HF x).length (OF x).length) = true) (hH : ∀ x, (HF x).all (·.all (boundV (HF x).length (OF x).length)) = true)
    (h : ∀ x, I x → ∀ st', st' = (⟨sets (F x) (havoc ws fr), HF x, OF x⟩ : St) → thaw (body (loopQ I (fun x => ⟨sets (F x) (havoc ws fr), HF x, OF x⟩) μ x Q) st')) : thaw (aloopN n body Q ⟨fr, H, O⟩) :=
  ⟨ns, hn, α, I, (fun x => ⟨sets (F x) (havoc ws fr), HF x, OF x⟩), μ, x0, h0, ⟨hw, hwH, hwO, hb x0, hH x0⟩, fun x _ => hlen x, fun x hx => h x hx _ rfl⟩
theorem t_roundO {α : Type} {I : α → Prop} {F : α → St} {μ : α → Nat} {q : α} {st : St} (y : α) (hy : I y) (hm : μ y < μ q) (hfr : leF st.fr (F y).fr) (hH : st.H.take (F y).H.length = (F y).H) (hO : st.O.take (F y).O.length = (F y).O)
    (hb : (F y).fr.all (boundV (F y).H.length (F y).O.length) = true) (hbH : (F y).H.all (·.all (boundV (F y).H.length (F y).O.length)) = true) : ∃ y, I y ∧ μ y < μ q ∧ Weak st (F y) :=
  ⟨y, hy, hm, hfr, hH, hO, hb, hbH⟩
/-- The end of such a round. -/
theorem t_round {α : Type} {I : α → Prop} {F : α → List AV} {μ : α → Nat} {q : α} {fr : List AV} {H' : List (List AV)} {O' : List OwnD} (y : α) (hy : I y) (hm : μ y < μ q) (hfr : leF fr (F y)) (hH : H.take H'.length = H') (hO : O.take O'.length = O')
    (hb : (F y).all (boundV H'.length O'.length) = true) (hbH : H'.all (·.all (boundV H'.length O'.length)) = true) : ∃ y, I y ∧ μ y < μ q ∧ Weak ⟨fr, H, O⟩ ⟨F y, H', O'⟩ :=
  ⟨y, hy, hm, hfr, hH, hO, hb, hbH⟩

theorem t_some {α : Type} {v : α} {k : α → Prop} : thaw (onOpt (some v) k) = thaw (k v) := eqI rfl
theorem t_bool {b : Bool} {k : Bool → Prop} : thaw (onBool (.a (.bool b)) k) = thaw (k b) := eqI rfl
theorem t_int {kd : IntKind} {v : Int} {k : IntKind → Int → Prop} : thaw (onInt (.a (.int kd v)) k) = thaw (k kd v) := eqI rfl
theorem t_str {s : ByteArray} {k : ByteArray → Prop} : thaw (onStr (.a (.str s)) k) = thaw (k s) := eqI rfl
theorem t_agg {xs : List Atom} {k : List Atom → Prop} : thaw (onAgg (.agg xs) k) = thaw (k xs) := eqI rfl
theorem t_tup {xs : List AV} {k : List AV → Prop} : thaw (onTup (.tup xs) k) = thaw (k xs) := eqI rfl
theorem t_loc {o : Nat} {k : Nat → Nat → Prop} : thaw (onLoc (.loc id o) k) = thaw (k id o) := eqI rfl

theorem o_mov : thaw (aop P (.mov x) st K) = thaw (K (aval st.fr x) st) := eqI rfl
theorem o_pick : thaw (aop P (.pick x y z) st K) = thaw (onBool (aval st.fr x) fun t => onCase t (K (aval st.fr y) st) (K (aval st.fr z) st)) := eqI rfl
theorem o_build {zero : List Atom} {parts : List (Nat × Nat × AX)} : thaw (aop P (.build zero parts) st K) = thaw (onBuild (withs st.O (parts.map fun p => (p.1, p.2.1, aval st.fr p.2.2)) zero) (withsV st.O (parts.map fun p => (p.1, p.2.1, aval st.fr p.2.2)) (zero.map .a)) fun v => K v st) := eqI rfl
theorem t_buildS {cs : List Atom} {y : Option (List AV)} : thaw (onBuild (some cs) y k) = thaw (k (.agg cs)) := eqI rfl
theorem t_buildN {y : Option (List AV)} : thaw (onBuild none y k) = thaw (onOpt y fun cs => k (.mix cs)) := by cases y <;> rfl
theorem o_buildSlice {e : Nat} {parts : List AX} : thaw (aop P (.buildSlice e sz parts) st K) = thaw (onOpt (rowsMade st.O sz (parts.map (aval st.fr))) fun rows => K (litV parts.isEmpty sz rows) st) := eqI rfl
theorem o_buildD {zero : List Atom} {parts : List (Nat × Nat × AX)} : thaw (aop P (.buildD zero parts) st K) = thaw (agate (barel (parts.map fun p => aval st.fr p.2.2) = true) <| onOpt (withs st.O (parts.map fun p => (p.1, p.2.1, aval st.fr p.2.2)) zero) fun cs => K (.agg cs) st) := eqI rfl
theorem o_buildSliceD {e : Nat} {parts : List AX} : thaw (aop P (.buildSliceD e sz parts) st K) = thaw (agate (barel (parts.map (aval st.fr)) = true) <| onOpt (rowsMade st.O sz (parts.map (aval st.fr))) fun rows => K (litV parts.isEmpty sz rows) st) := eqI rfl
theorem lit_t {rows : List (List Atom)} : litV true sz rows = .full sz rows := eqI rfl
theorem lit_f {rows : List (List Atom)} : litV false sz rows = .a (.slice sz rows) := eqI rfl
theorem o_load {g : Bool} : thaw (aop P (.load n g x) st K) = thaw (aload n g st.H st.O (aval st.fr x) fun v => K v st) := eqI rfl
theorem o_bin {op : BinOp} : thaw (aop P (.bin op x y) st K) = thaw (abin op (aval st.fr x) (aval st.fr y) fun v => K v st) := eqI rfl
theorem o_eqAgg {neg : Bool} {ks : List Nat} : thaw (aop P (.eqAgg neg ks x y) st K) = thaw (onAgg (aval st.fr x) fun xs => onAgg (aval st.fr y) fun ys => onOpt (atomsEq ks xs ys) fun b => K (.a (.bool (if neg then !b else b))) st) := eqI rfl
theorem o_eqBool {neg : Bool} : thaw (aop P (.eqBool neg x y) st K) = thaw (onBool (aval st.fr x) fun p => onBool (aval st.fr y) fun q => K (.a (.bool (if neg then !(p == q) else p == q))) st) := eqI rfl
theorem o_un {op : UnOp} : thaw (aop P (.un op x) st K) = thaw (aun op (aval st.fr x) fun v => K v st) := eqI rfl
theorem o_toInt {kd : IntKind} : thaw (aop P (.toInt kd x) st K) = thaw (onInt (aval st.fr x) fun _ v => K (.a (.int kd (kd.wrap v))) st) := eqI rfl
theorem o_same : thaw (aop P (.same x) st K) = thaw (onStr (aval st.fr x) fun s => K (.a (.str s)) st) := eqI rfl
theorem o_strOf : thaw (aop P (.strOf x) st K) = thaw (onOpt (rowsOf st.O 1 (aval st.fr x)) fun rows => onBytes rows fun l => K (.a (.str ⟨l.toArray⟩)) st) := eqI rfl
theorem o_slStr {lo hi : Option AX} : thaw (aop P (.slStr x lo hi) st K) = thaw (onStr (aval st.fr x) fun s => astr (optv (aval st.fr) lo) (optv (aval st.fr) hi) s fun v => K v st) := eqI rfl
theorem o_sl {lo hi mx : Option AX} : thaw (aop P (.sl sz x lo hi mx) st K) = thaw (onVec (vecOf st.O (aval st.fr x)) (fun k => agate (sz = (st.O.getD k default).sz ∧ hi.isSome = false ∧ mx.isSome = false ∧ 0 ≤ boundOf 0 (optv (aval st.fr) lo) ∧ boundOf 0 (optv (aval st.fr) lo) ≤ (st.O.getD k default).rows.length) <| K (.vsl k sz (boundOf 0 (optv (aval st.fr) lo)).toNat) st)
    (onOpt (rowsOf st.O sz (aval st.fr x)) fun rows => aslice sz (optv (aval st.fr) lo) (optv (aval st.fr) hi) (optv (aval st.fr) mx) rows fun v => K v st)) := eqI rfl
theorem o_fieldAddr : thaw (aop P (.fieldAddr off x) st K) = thaw (afield off (aval st.fr x) fun v => K v st) := eqI rfl
theorem o_field {g : Bool} : thaw (aop P (.field off n g x) st K) = thaw (onAgg (aval st.fr x) fun xs => agate (off + n ≤ xs.length ∧ 0 < n) <| if g then K (.agg ((xs.drop off).take n)) st else K (.a (xs.getD off default)) st) := eqI rfl
theorem o_ix : thaw (aop P (.ix sz x y) st K) = thaw (onVec (vecOf st.O (aval st.fr x)) (fun k => onInt (aval st.fr y) fun _ v => agate (sz = (st.O.getD k default).sz ∧ 0 ≤ v ∧ v < (st.O.getD k default).rows.length) <| K (.eptr k sz v.toNat 0) st)
    (onOpt (rowsOf st.O sz (aval st.fr x)) fun rows => onInt (aval st.fr y) fun _ v => agate (0 ≤ v ∧ v < rows.length) <| K (.ptr (rows.getD v.toNat [])) st)) := eqI rfl
theorem t_vecN {kv : Nat → Prop} {q : Prop} : thaw (onVec none kv q) = thaw q := eqI rfl
theorem t_vecS {kv : Nat → Prop} {q : Prop} : thaw (onVec (some m) kv q) = thaw (kv m) := eqI rfl
theorem o_eqNil {neg : Bool} : thaw (aop P (.eqNil neg x) st K) = thaw (onNil (aval st.fr x) fun b => K (.a (.bool (if neg then !b else b))) st) := eqI rfl
theorem t_nils {kb : Bool → Prop} : thaw (onNil (.a .nils) kb) = thaw (kb true) := eqI rfl
theorem t_nn {rows : List (List Atom)} {kb : Bool → Prop} : thaw (onNil (.nn m rows) kb) = thaw (kb false) := eqI rfl
theorem t_full {rows : List (List Atom)} {kf : Nat → List (List Atom) → Prop} : thaw (onFull (.full m rows) kf) = thaw (kf m rows) := eqI rfl
theorem o_callZ {f : FuncId} {args : List AX} : thaw (aop P (.callZ f args) st K) = thaw (acallZ P f (args.map (aval st.fr)) st K) := eqI rfl
theorem t_callZ_intro {f : FuncId} {as : List AV} {r : AV} {H' : List (List AV)} {Y : List OwnD} {Ks : AV → St → Prop} (h : IDen P f as st.H st.O r H' (st.O ++ Y) true) (hl : H'.length = st.H.length ∧ ∀ id, 1 ≤ id → H'[id]? = st.H[id]?) (hk : thaw (Ks r ⟨st.fr, H', st.O ++ Y⟩)) : thaw (acallZ P f as st Ks) := ⟨r, H', Y, h, hl, hk⟩
theorem o_loadZ {n : Nat} {g : Bool} : thaw (aop P (.loadZ n g x) st K) = thaw (onLoc (aval st.fr x) fun id off => agate (1 ≤ id ∧ id < st.H.length ∧ (g = true → barel (((st.H.getD id []).drop off).take n) = true)) <| aload n g st.H st.O (.loc id off) fun v => K v st) := eqI rfl
theorem o_callK {f : FuncId} {args : List AX} : thaw (aop P (.callK f args) st K) = thaw (acallK P f (args.map (aval st.fr)) st K) := eqI rfl
theorem o_callFC {f : FuncId} {args : List AX} : thaw (aop P (.callFC f args) st K) = thaw (onOpt (argsOf st.O (args.map (aval st.fr))) fun as => acallFC P f as st K) := eqI rfl
theorem o_makeC {e b : Nat} {zr : List Atom} : thaw (aop P (.makeC e sz b zr x y) st K) = thaw (onInt (aval st.fr x) fun _ n => onInt (aval st.fr y) fun _ m => agate (0 ≤ n ∧ n ≤ m ∧ (b : Int) * m ≤ 281474976710656 ∧ m ≤ 9223372036854775807 ∧ 0 < sz ∧ zr.length = sz) <|
        K (.ownc st.O.length m.toNat) { st with O := st.O ++ [⟨e, sz, List.replicate n.toNat zr, true⟩] }) := eqI rfl
theorem o_callF {f : FuncId} {args : List AX} : thaw (aop P (.callF f args) st K) = thaw (onOpt (argsOf st.O (args.map (aval st.fr))) fun as => acallF P f as st K) := eqI rfl
theorem o_loadD {g : Bool} : thaw (aop P (.loadD n g x) st K) = thaw (agate (bare (aval st.fr x) = true) <| aload n g st.H st.O (aval st.fr x) fun v => K v st) := eqI rfl
theorem o_loadM {g : Bool} : thaw (aop P (.loadM n g x) st K) = thaw (onLoc (aval st.fr x) fun id off => agate (id < st.H.length ∧ barel (((st.H.getD id []).drop off).take (if g then n else 1)) = true) <| aload n g st.H st.O (.loc id off) fun v => K v st) := eqI rfl
theorem o_ixD : thaw (aop P (.ixD sz x y) st K) = thaw (agate (bare (aval st.fr x) = true) <| onOpt (rowsOf st.O sz (aval st.fr x)) fun rows => onInt (aval st.fr y) fun _ v => agate (0 ≤ v ∧ v < rows.length) <| K (.ptr (rows.getD v.toNat [])) st) := eqI rfl
theorem o_lenD : thaw (aop P (.lenD x) st K) = thaw (agate (bare (aval st.fr x) = true) <| alen st.O (aval st.fr x) fun v => K v st) := eqI rfl
theorem o_callD {f : FuncId} {args : List AX} : thaw (aop P (.callD f args) st K) = thaw (agate (barel (args.map (aval st.fr)) = true) <| onOpt (argsOf st.O (args.map (aval st.fr))) fun as => acall P f as fun v => K v st) := eqI rfl
theorem br_a {q : Atom} : bare (.a q) = true := rfl
theorem br_agg {xs : List Atom} : bare (.agg xs) = true := rfl
theorem br_ptr {xs : List Atom} : bare (.ptr xs) = true := rfl
theorem br_nilptr : bare .nilptr = true := rfl
theorem br_undef : bare .undef = true := rfl
theorem br_full {sz : Nat} {rows : List (List Atom)} : bare (.full sz rows) = true := rfl
theorem br_nn {sz : Nat} {rows : List (List Atom)} : bare (.nn sz rows) = true := rfl
theorem br_clo {f : FuncId} : bare (.clo f []) = true := rfl
theorem brl_nil : barel [] = true := rfl
theorem brl_cons {q : AV} {qs : List AV} : (barel (q :: qs) = true) = (bare q = true ∧ barel qs = true) := by simp [barel]
theorem o_callI {f : FuncId} {args : List AX} : thaw (aop P (.callI f args) st K) = thaw (acallI P f (args.map (aval st.fr)) st K) := eqI rfl
theorem o_callT {f : FuncId} {args : List AX} : thaw (aop P (.callT f args) st K) = thaw (onOpt (argsOfT st.O (args.map (aval st.fr))) fun as => acallT P f as fun v => K v st) := eqI rfl
theorem t_retIR {rs : List ARes} {r : AV} {H' : List (List AV)} {O' : List OwnD} : thaw (retI rs r H' O' .ret st) = (aresultI st rs = some r ∧ st.H.take H'.length = H' ∧ st.O = O') := eqI rfl
theorem t_retIN {rs : List ARes} {r : AV} {H' : List (List AV)} {O' : List OwnD} : thaw (retI rs r H' O' .normal st) = (aresultI st rs = some r ∧ st.H.take H'.length = H' ∧ st.O = O') := eqI rfl
theorem t_two_intro {al al' : List AOp} (h1 : thaw (aops P (Q .normal) al st)) (h2 : thaw (aops P (Q .normal) al' st)) : thaw (awp P (.two al al') Q st) := And.intro h1 h2
theorem t_bare_no {t off : Nat} (h : thaw (awp P c Q st)) : thaw (awp P (.bare t off c) Q st) := .inl h
theorem t_bare_yes {t off : Nat} (h : ∀ v, thaw (awp P c Q (bared t off v st))) : thaw (awp P (.bare t off c) Q st) := .inr h
theorem t_seal {ts : List Nat} : thaw (awp P (.shut ts c) Q st) = thaw (awp P c Q (sealS ts st)) := eqI rfl
theorem o_make {e b : Nat} {zr : List Atom} : thaw (aop P (.make e sz b zr x y) st K) = thaw (onInt (aval st.fr x) fun _ n => onInt (aval st.fr y) fun _ m => agate (0 ≤ n ∧ n ≤ m ∧ (b : Int) * m ≤ 281474976710656 ∧ m ≤ 9223372036854775807 ∧ 0 < sz ∧ zr.length = sz) <|
        K (.own st.O.length) { st with O := st.O ++ [⟨e, sz, List.replicate n.toNat zr, true⟩] }) := eqI rfl
theorem o_buildO {e : Nat} {ps : List AX} : thaw (aop P (.buildO e sz ps) st K) = thaw (onOpt (rowsMade st.O sz (ps.map (aval st.fr))) fun rows => agate (rows ≠ [] ∧ 0 < sz) <| K (.own st.O.length) { st with O := st.O ++ [⟨e, sz, rows, true⟩] }) := eqI rfl
theorem o_copy : thaw (aop P (.copy sz x y) st K) = thaw (onOpt (rowsOf st.O sz (aval st.fr y)) fun src => acopy sz src st K (aval st.fr x)) := eqI rfl
theorem o_appendS {e b : Nat} : thaw (aop P (.appendS e sz b x y) st K) = thaw (onOpt (rowsOf st.O sz (aval st.fr y)) fun news => onFull (aval st.fr x) fun s' rows => agate (s' = sz ∧ 0 < sz ∧ (rows.length + news.length + (rows.length + news.length) / 4 + 192) * b ≤ 281474976710656 ∧ rows.length + news.length ≤ 9223372036854775807) <| K (.a (.slice sz (rows ++ news))) st) := eqI rfl
theorem cp_own {src : List (List Atom)} : thaw (acopy sz src st K (.own m)) = thaw (agate ((st.O.getD m default).mu = true ∧ sz = (st.O.getD m default).sz) <|
        K (.a (.int .i64 (Min.min src.length (st.O.getD m default).rows.length : Nat))) { st with O := st.O.set m ⟨(st.O.getD m default).e, (st.O.getD m default).sz, copied (st.O.getD m default).rows src 0, true⟩ }) := eqI rfl
theorem cp_vsl {src : List (List Atom)} {s lo : Nat} : thaw (acopy sz src st K (.vsl m s lo)) = thaw (agate ((st.O.getD m default).mu = true ∧ sz = (st.O.getD m default).sz ∧ s = sz ∧ lo ≤ (st.O.getD m default).rows.length) <|
        K (.a (.int .i64 (Min.min src.length ((st.O.getD m default).rows.length - lo) : Nat))) { st with O := st.O.set m ⟨(st.O.getD m default).e, (st.O.getD m default).sz, copied (st.O.getD m default).rows src lo, true⟩ }) := eqI rfl
theorem o_ixArr : thaw (aop P (.ixArr n sz x y) st K) = thaw (onLoc (aval st.fr x) fun id o => onInt (aval st.fr y) fun _ v => agate (0 ≤ v ∧ v < n) <| K (.loc id (o + v.toNat * sz)) st) := eqI rfl
theorem o_elem {g : Bool} : thaw (aop P (.elem m n g x y) st K) = thaw (onAgg (aval st.fr x) fun xs => onInt (aval st.fr y) fun _ v => agate (0 ≤ v ∧ v < m ∧ (v.toNat + 1) * n ≤ xs.length ∧ (g = false → n = 1)) <| if g then K (.agg ((xs.drop (v.toNat * n)).take n)) st else K (.a (xs.getD v.toNat default)) st) := eqI rfl
theorem o_byte : thaw (aop P (.byte x y) st K) = thaw (onStr (aval st.fr x) fun s => onInt (aval st.fr y) fun _ v => agate (0 ≤ v ∧ v < s.size) <| K (.a (.int .u8 (s.data.toList.getD v.toNat 0).toNat)) st) := eqI rfl
theorem o_extract : thaw (aop P (.extract x i) st K) = thaw (onTup (aval st.fr x) fun xs => agate (i < xs.length) <| K (xs.getD i .undef) st) := eqI rfl
theorem o_nilCheck : thaw (aop P (.nilCheck x) st K) = thaw (anil (aval st.fr x) fun v => K v st) := eqI rfl
theorem o_call {f : FuncId} {args : List AX} : thaw (aop P (.call f args) st K) = thaw (onOpt (argsOf st.O (args.map (aval st.fr))) fun as => acall P f as fun v => K v st) := eqI rfl
theorem o_mkFunc {f : FuncId} {caps : List AX} : thaw (aop P (.mkFunc f caps) st K) = thaw (K (.clo f (caps.map (aval st.fr))) st) := eqI rfl
theorem o_callvI {args : List AX} : thaw (aop P (.callvI x args) st K) = thaw (onClo (aval st.fr x) fun f cs => agate (bodied P f = true) <| acallI P f (args.map (aval st.fr) ++ cs) st K) := eqI rfl
theorem o_callv {args : List AX} : thaw (aop P (.callv x args) st K) = thaw (onClo (aval st.fr x) fun f cs => agate (cs = [] ∧ bodied P f = true) <| onOpt (argsOf st.O (args.map (aval st.fr))) fun as => acall P f as fun v => K v st) := eqI rfl
theorem t_clo {f : FuncId} {cs : List AV} {k : FuncId → List AV → Prop} : thaw (onClo (.clo f cs) k) = thaw (k f cs) := eqI rfl
theorem o_lenS : thaw (aop P (.lenS x) st K) = thaw (onStr (aval st.fr x) fun s => K (.a (.int .i64 s.size)) st) := eqI rfl
theorem o_len : thaw (aop P (.len x) st K) = thaw (alen st.O (aval st.fr x) fun v => K v st) := eqI rfl
theorem o_min : thaw (aop P (.min x y) st K) = thaw (onInt (aval st.fr x) fun kd a => onInt (aval st.fr y) fun _ b => K (.a (.int kd (if b < a then b else a))) st) := eqI rfl
theorem o_max : thaw (aop P (.max x y) st K) = thaw (onInt (aval st.fr x) fun kd a => onInt (aval st.fr y) fun _ b => K (.a (.int kd (if b > a then b else a))) st) := eqI rfl
theorem o_alloc {t : TypeId} {zero : List AV} : thaw (aop P (.alloc t zero) st K) = thaw (K (.loc st.H.length 0) { st with H := st.H ++ [zero] }) := eqI rfl
theorem o_box {t : TypeId} : thaw (aop P (.box t n x) st K) = thaw (agate (layable (aval st.fr x) = true ∧ (layOf (aval st.fr x)).length = n) <| K (.loc st.H.length 0) { st with H := st.H ++ [layOf (aval st.fr x)] }) := eqI rfl
theorem o_storeN {m' : Nat} : thaw (aop P (.storeN m' n x y) st K) = thaw (astoreN m' n st (aval st.fr y) K (aval st.fr x)) := eqI rfl
theorem o_store : thaw (aop P (.store n x y) st K) = thaw (astore n st (aval st.fr y) K (aval st.fr x)) := eqI rfl
theorem stn_loc {v : AV} {m' : Nat} : thaw (astoreN m' n st v K (.loc id off)) = thaw (agate (layable v = true ∧ (layOf v).length = n ∧ off + n ≤ (st.H.getD id []).length ∧ st.H.length ≤ id + m') <|
  K .undef { st with H := st.H.set id ((st.H.getD id []).take off ++ layOf v ++ (st.H.getD id []).drop (off + n)) }) := eqI rfl
theorem st_loc {v : AV} : thaw (astore n st v K (.loc id off)) = thaw (agate (layable v = true ∧ (layOf v).length = n ∧ off + n ≤ (st.H.getD id []).length) <|
        K .undef { st with H := st.H.set id ((st.H.getD id []).take off ++ layOf v ++ (st.H.getD id []).drop (off + n)) }) := eqI rfl
theorem st_eptr {v : AV} {s j f : Nat} : thaw (astore n st v K (.eptr m s j f)) = thaw (onOpt (cellsOf st.O v) fun xs => agate ((st.O.getD m default).mu = true ∧ s = (st.O.getD m default).sz ∧ j < (st.O.getD m default).rows.length ∧ f + n ≤ s ∧ xs.length = n) <|
        K .undef { st with O := st.O.set m ⟨(st.O.getD m default).e, (st.O.getD m default).sz, (st.O.getD m default).rows.set j (((st.O.getD m default).rows.getD j []).take f ++ xs ++ ((st.O.getD m default).rows.getD j []).drop (f + n)), true⟩ }) := eqI rfl
theorem o_appendN {n e b : Nat} : thaw (aop P (.appendN n e sz b x y) st K) = thaw (onOpt (rowsOf st.O sz (aval st.fr y)) fun news => agate (fromN n (aval st.fr x)) <| aappend e sz b news st (aval st.fr x) K) := eqI rfl
theorem fn_own {n k : Nat} : fromN n (.own k) = (n ≤ k) := eqI rfl
theorem fn_nils {n : Nat} : fromN n (.a .nils) = True := eqI rfl
theorem o_append {e b : Nat} : thaw (aop P (.append e sz b x y) st K) = thaw (onOpt (rowsOf st.O sz (aval st.fr y)) fun news => aappend e sz b news st (aval st.fr x) K) := eqI rfl

variable {kd kd' : IntKind} {a b : Int}
theorem b_int {op : BinOp} : thaw (abin op (.a (.int kd a)) (.a (.int kd' b)) k) = thaw (binInt op kd kd' a b k) := eqI rfl
theorem b_str {op : BinOp} {s t : ByteArray} : thaw (abin op (.a (.str s)) (.a (.str t)) k) = thaw (binStr op s t k) := eqI rfl
theorem b_add : thaw (binInt .add kd kd' a b k) = thaw (agate (kd = kd') <| k (.a (.int kd (kd.wrap (a + b))))) := eqI rfl
theorem b_sub : thaw (binInt .sub kd kd' a b k) = thaw (agate (kd = kd') <| k (.a (.int kd (kd.wrap (a - b))))) := eqI rfl
theorem b_mul : thaw (binInt .mul kd kd' a b k) = thaw (agate (kd = kd') <| k (.a (.int kd (kd.wrap (a * b))))) := eqI rfl
theorem b_quo : thaw (binInt .quo kd kd' a b k) = thaw (agate (kd = kd' ∧ b ≠ 0) <| k (.a (.int kd (kd.wrap (a.tdiv b))))) := eqI rfl
theorem b_rem : thaw (binInt .rem kd kd' a b k) = thaw (agate (kd = kd' ∧ b ≠ 0) <| k (.a (.int kd (a.tmod b)))) := eqI rfl
theorem b_and : thaw (binInt .and kd kd' a b k) = thaw (agate (kd = kd') <| k (.a (.int kd (kd.wrap (BitVec.ofInt kd.bits a &&& BitVec.ofInt kd.bits b).toNat)))) := eqI rfl
theorem b_or : thaw (binInt .or kd kd' a b k) = thaw (agate (kd = kd') <| k (.a (.int kd (kd.wrap (BitVec.ofInt kd.bits a ||| BitVec.ofInt kd.bits b).toNat)))) := eqI rfl
theorem b_xor : thaw (binInt .xor kd kd' a b k) = thaw (agate (kd = kd') <| k (.a (.int kd (kd.wrap (BitVec.ofInt kd.bits a ^^^ BitVec.ofInt kd.bits b).toNat)))) := eqI rfl
theorem b_andNot : thaw (binInt .andNot kd kd' a b k) = thaw (agate (kd = kd') <| k (.a (.int kd (kd.wrap (BitVec.ofInt kd.bits a &&& ~~~BitVec.ofInt kd.bits b).toNat)))) := eqI rfl
theorem b_shl : thaw (binInt .shl kd kd' a b k) = thaw (agate (0 ≤ b) <| k (.a (.int kd (kd.wrap (a * 2 ^ (Min.min b.toNat kd.bits)))))) := eqI rfl
theorem b_shr : thaw (binInt .shr kd kd' a b k) = thaw (agate (0 ≤ b) <| k (.a (.int kd (a.fdiv (2 ^ (Min.min b.toNat kd.bits)))))) := eqI rfl
theorem b_eql : thaw (binInt .eql kd kd' a b k) = thaw (agate (kd = kd') <| k (.a (.bool (a == b)))) := eqI rfl
theorem b_neq : thaw (binInt .neq kd kd' a b k) = thaw (agate (kd = kd') <| k (.a (.bool (a != b)))) := eqI rfl
theorem b_lss : thaw (binInt .lss kd kd' a b k) = thaw (agate (kd = kd') <| k (.a (.bool (decide (a < b))))) := eqI rfl
theorem b_leq : thaw (binInt .leq kd kd' a b k) = thaw (agate (kd = kd') <| k (.a (.bool (decide (a ≤ b))))) := eqI rfl
theorem b_gtr : thaw (binInt .gtr kd kd' a b k) = thaw (agate (kd = kd') <| k (.a (.bool (decide (b < a))))) := eqI rfl
theorem b_geq : thaw (binInt .geq kd kd' a b k) = thaw (agate (kd = kd') <| k (.a (.bool (decide (b ≤ a))))) := eqI rfl
variable {s t : ByteArray}
theorem s_add : thaw (binStr .add s t k) = thaw (agate (s.size + t.size ≤ 9223372036854775807) <| k (.a (.str (s ++ t)))) := eqI rfl
theorem s_eql : thaw (binStr .eql s t k) = thaw (k (.a (.bool (s.toList == t.toList)))) := eqI rfl
theorem s_neq : thaw (binStr .neq s t k) = thaw (k (.a (.bool (!(s.toList == t.toList))))) := eqI rfl
theorem s_lss : thaw (binStr .lss s t k) = thaw (k (.a (.bool (Op.bytesLess s.toList t.toList)))) := eqI rfl
theorem s_leq : thaw (binStr .leq s t k) = thaw (k (.a (.bool (Op.bytesLess s.toList t.toList || s.toList == t.toList)))) := eqI rfl
theorem s_gtr : thaw (binStr .gtr s t k) = thaw (k (.a (.bool (!(Op.bytesLess s.toList t.toList || s.toList == t.toList))))) := eqI rfl
theorem s_geq : thaw (binStr .geq s t k) = thaw (k (.a (.bool (!Op.bytesLess s.toList t.toList)))) := eqI rfl
variable {p : Bool}
theorem u_int {op : UnOp} : thaw (aun op (.a (.int kd a)) k) = thaw (unInt op kd a k) := eqI rfl
theorem u_neg : thaw (unInt .neg kd a k) = thaw (k (.a (.int kd (kd.wrap (0 - a))))) := eqI rfl
theorem u_xor : thaw (unInt .xor kd a k) = thaw (k (.a (.int kd (kd.wrap (BitVec.ofInt kd.bits (if kd.signed then -1 else kd.max) ^^^ BitVec.ofInt kd.bits a).toNat)))) := eqI rfl
theorem u_not : thaw (aun .not (.a (.bool p)) k) = thaw (k (.a (.bool (!p)))) := eqI rfl
theorem l_locA : thaw (aload n true H O (.loc id off) k) = thaw (onOpt (atomsOf O (((H.getD id []).drop off).take n)) fun xs => agate (xs.length = n) <| k (.agg xs)) := eqI rfl
theorem l_loc1 : thaw (aload n false H O (.loc id off) k) = thaw (agate (off < (H.getD id []).length) <| k ((H.getD id []).getD off .any)) := eqI rfl
theorem l_ptrA {xs : List Atom} : thaw (aload n true H O (.ptr xs) k) = thaw (agate (n ≤ xs.length ∧ 0 < n) <| k (.agg (xs.take n))) := eqI rfl
theorem l_ptr1 {xs : List Atom} : thaw (aload n false H O (.ptr xs) k) = thaw (agate (n ≤ xs.length ∧ 0 < n) <| k (.a (xs.getD 0 default))) := eqI rfl
theorem l_eptrA {m s j f : Nat} : thaw (aload n true H O (.eptr m s j f) k) = thaw (agate (s = (O.getD m default).sz ∧ j < (O.getD m default).rows.length ∧ f + n ≤ s ∧ 0 < n) <| k (.agg ((((O.getD m default).rows.getD j []).drop f).take n))) := eqI rfl
theorem l_eptr1 {m s j f : Nat} : thaw (aload n false H O (.eptr m s j f) k) = thaw (agate (s = (O.getD m default).sz ∧ j < (O.getD m default).rows.length ∧ f + n ≤ s ∧ 0 < n) <| k (.a (((O.getD m default).rows.getD j []).getD f default))) := eqI rfl
theorem f_eptr {m s j f : Nat} : thaw (afield n (.eptr m s j f) k) = thaw (k (.eptr m s j (f + n))) := eqI rfl
theorem n_eptr {m s j f : Nat} : thaw (anil (.eptr m s j f) k) = thaw (k (.eptr m s j f)) := eqI rfl
theorem f_loc : thaw (afield n (.loc id off) k) = thaw (k (.loc id (off + n))) := eqI rfl
theorem f_ptr {xs : List Atom} : thaw (afield n (.ptr xs) k) = thaw (k (.ptr (xs.drop n))) := eqI rfl
theorem n_loc : thaw (anil (.loc id off) k) = thaw (k (.loc id off)) := eqI rfl
theorem n_ptr {xs : List Atom} : thaw (anil (.ptr xs) k) = thaw (k (.ptr xs)) := eqI rfl
theorem n_clo {f : FuncId} {cs : List AV} : thaw (anil (.clo f cs) k) = thaw (k (.clo f cs)) := eqI rfl
variable {rows news : List (List Atom)}
theorem g_slice : thaw (alen O (.a (.slice sz rows)) k) = thaw (k (.a (.int .i64 rows.length))) := eqI rfl
theorem g_nils : thaw (alen O (.a .nils) k) = thaw (k (.a (.int .i64 0))) := eqI rfl
theorem g_full : thaw (alen O (.full sz rows) k) = thaw (k (.a (.int .i64 rows.length))) := eqI rfl
theorem g_own : thaw (alen O (.own n) k) = thaw (k (.a (.int .i64 (O.getD n default).rows.length))) := eqI rfl
theorem g_nn : thaw (alen O (.nn sz rows) k) = thaw (k (.a (.int .i64 rows.length))) := eqI rfl
theorem g_vsl {m lo : Nat} : thaw (alen O (.vsl n m lo) k) = thaw (k (.a (.int .i64 ((O.getD n default).rows.length - lo : Nat)))) := eqI rfl
theorem c_slice {lo hi : Option AV} : thaw (aslice sz lo hi none rows k) = thaw (agate (0 ≤ boundOf 0 lo ∧ boundOf 0 lo ≤ boundOf rows.length hi ∧ boundOf rows.length hi ≤ rows.length) <|
      k (.a (.slice sz ((rows.take (boundOf rows.length hi).toNat).drop (boundOf 0 lo).toNat)))) := eqI rfl
theorem c_slice3 {lo hi : Option AV} {v : AV} : thaw (aslice sz lo hi (some v) rows k) = thaw (agate (hi.isSome = true ∧ 0 ≤ boundOf 0 lo ∧ boundOf 0 lo ≤ boundOf rows.length hi ∧ boundOf rows.length hi = boundOf (-1) (some v) ∧ boundOf rows.length hi ≤ rows.length) <|
      k (.full sz ((rows.take (boundOf rows.length hi).toNat).drop (boundOf 0 lo).toNat))) := eqI rfl
theorem c_str {lo hi : Option AV} : thaw (astr lo hi s k) = thaw (agate (0 ≤ boundOf 0 lo ∧ boundOf 0 lo ≤ boundOf s.size hi ∧ boundOf s.size hi ≤ s.size) <| k (.a (.str (s.extract (boundOf 0 lo).toNat (boundOf s.size hi).toNat)))) := eqI rfl
theorem a_nils {e bb : Nat} : thaw (aappend e sz bb news st (.a .nils) K) = thaw (agate (0 < sz ∧ (news.length + news.length / 4 + 192) * bb ≤ 281474976710656 ∧ news.length ≤ 9223372036854775807) <| K (.own st.O.length) { st with O := st.O ++ [⟨e, sz, news, false⟩] }) := eqI rfl
theorem a_full {e bb m : Nat} : thaw (aappend e sz bb news st (.full m rows) K) = thaw (agate (m = sz ∧ 0 < sz ∧ (rows.length + news.length + (rows.length + news.length) / 4 + 192) * bb ≤ 281474976710656 ∧ rows.length + news.length ≤ 9223372036854775807) <| K (.a (.slice sz (rows ++ news))) st) := eqI rfl
theorem a_ownc {e bb m cc : Nat} : thaw (aappend e sz bb news st (.ownc m cc) K) = thaw (agate ((st.O.getD m default).sz = sz ∧ (st.O.getD m default).e = e ∧ (st.O.getD m default).rows.length + news.length ≤ cc ∧ (st.O.getD m default).rows.length + news.length ≤ 9223372036854775807) <|
        K (.ownc m cc) { fr := st.fr.map (inval m), H := st.H.map (·.map (inval m)), O := st.O.set m ⟨e, sz, (st.O.getD m default).rows ++ news, (st.O.getD m default).mu⟩ }) := eqI rfl
theorem t_exact_intro {e bb m : Nat} {v : Value} {q : Atom} (i o : Nat) (hp : (st.H.getD i []).getD o .undef = .ownv m v) (h : thaw (agate ((st.O.getD m default).sz = sz ∧ (st.O.getD m default).e = e ∧ ((st.O.getD m default).rows.length + news.length + ((st.O.getD m default).rows.length + news.length) / 4 + 192) * bb ≤ 281474976710656 ∧ (st.O.getD m default).rows.length + news.length ≤ 9223372036854775807) <|
        K (.own m) { fr := st.fr.map (inval m), H := st.H.map (·.map (inval m)), O := st.O.set m ⟨e, sz, (st.O.getD m default).rows ++ news, (st.O.getD m default).mu⟩ })) : thaw (aappend e sz bb news st (.a (.exact v q)) K) := ⟨i, o, m, hp, h⟩
theorem a_own {e bb m : Nat} : thaw (aappend e sz bb news st (.own m) K) = thaw (agate ((st.O.getD m default).sz = sz ∧ (st.O.getD m default).e = e ∧ ((st.O.getD m default).rows.length + news.length + ((st.O.getD m default).rows.length + news.length) / 4 + 192) * bb ≤ 281474976710656 ∧ (st.O.getD m default).rows.length + news.length ≤ 9223372036854775807) <|
        K (.own m) { fr := st.fr.map (inval m), H := st.H.map (·.map (inval m)), O := st.O.set m ⟨e, sz, (st.O.getD m default).rows ++ news, (st.O.getD m default).mu⟩ }) := eqI rfl
end

def consO {α : Type} : Option α → Option (List α) → Option (List α)
  | some x, some xs => some (x :: xs)
  | _, _ => none
def consR (sz : Nat) : Option (List Atom) → Option (List (List Atom)) → Option (List (List Atom))
  | some r, some rs => if r.length = sz then some (r :: rs) else none
  | _, _ => none
def bindO {α β : Type} : Option α → (α → Option β) → Option β
  | some x, f => f x
  | none, _ => none
def andO : Option Bool → Option Bool → Option Bool
  | some a, some b => some (a && b)
  | _, _ => none
theorem consO_some {α : Type} {x : α} {xs : List α} : consO (some x) (some xs) = some (x :: xs) := eqI rfl
theorem consR_some {sz : Nat} {r : List Atom} {rs : List (List Atom)} : consR sz (some r) (some rs) = if r.length = sz then some (r :: rs) else none := eqI rfl
theorem bindO_none {α β : Type} {f : α → Option β} : bindO none f = none := eqI rfl
theorem bindO_some {α β : Type} {x : α} {f : α → Option β} : bindO (some x) f = f x := eqI rfl
theorem andO_some {a b : Bool} : andO (some a) (some b) = some (a && b) := eqI rfl

/-! Values -/
section
variable {O : List OwnD} {sz n : Nat} {rows : List (List Atom)}
theorem r_slice : rowsOf O sz (.a (.slice n rows)) = if n = sz then some rows else none := eqI rfl
theorem r_nils : rowsOf O sz (.a .nils) = some [] := eqI rfl
theorem r_full : rowsOf O sz (.full n rows) = if n = sz then some rows else none := eqI rfl
theorem r_own : rowsOf O sz (.own n) = if (O.getD n default).sz = sz ∧ (O.getD n default).mu = false then some (O.getD n default).rows else none := eqI rfl
theorem r_nn : rowsOf O sz (.nn n rows) = if n = sz then some rows else none := eqI rfl
theorem ve_nn : vecOf O (.nn n rows) = none := eqI rfl
theorem ve_a {x : Atom} : vecOf O (.a x) = none := eqI rfl
theorem ve_full : vecOf O (.full n rows) = none := eqI rfl
theorem ve_own : vecOf O (.own n) = if (O.getD n default).mu = true then some n else none := eqI rfl
theorem se_nil {st : St} : sealS [] st = st := eqI rfl
theorem se_cons {st : St} {t : Nat} {ts : List Nat} (h : t < 1000000) : sealS (t :: ts) st = sealS ts (seal1 st (st.fr.getD t .undef)) := by
  rw [sealS, if_neg (by omega), if_neg (by omega)]
theorem se_conv {st : St} {t : Nat} {ts : List Nat} (h : 1000000 ≤ t ∧ t < 3000000) : sealS (t :: ts) st = sealS ts (toArg (seal1 st (st.fr.getD (t - 1000000) .undef)) (t - 1000000)) := by
  rw [sealS, if_neg (by omega), if_pos h.1]
theorem se_cap {st : St} {t : Nat} {ts : List Nat} (h : 3000000 ≤ t) : sealS (t :: ts) st = sealS ts (capS t st) := by
  rw [sealS, if_pos h]
theorem cs_plain {st : St} {t : Nat} (h : t < 4000000) : capS t st = { st with fr := st.fr.set (t - 3000000) (plainV (st.fr.getD (t - 3000000) .undef)) } := if_pos h
theorem cs_room {st : St} {t : Nat} (h : 4000000 ≤ t) : capS t st = { st with fr := st.fr.set ((t - 4000000) % 1000) (roomV (st.fr.getD ((t - 4000000) / 1000) .undef) (st.fr.getD ((t - 4000000) % 1000) .undef)) } := if_neg (by omega)
theorem pv_ownc {c : Nat} : plainV (.ownc n c) = .own n := eqI rfl
theorem rv_own {c j : Nat} : roomV (.ownc n c) (.own j) = if j = n then .ownc n c else .own j := eqI rfl
theorem ta_def {st : St} {t : Nat} : toArg st t = toArgV st t (argOf st.O (st.fr.getD t .undef)) := eqI rfl
theorem ta_some {st : St} {t : Nat} {y : AV} : toArgV st t (some y) = { st with fr := st.fr.set t y } := eqI rfl
theorem se_own {st : St} : seal1 st (.own n) = { st with O := st.O.set n ⟨(st.O.getD n default).e, (st.O.getD n default).sz, (st.O.getD n default).rows, false⟩ } := eqI rfl
theorem se_a {st : St} {x : Atom} : seal1 st (.a x) = st := eqI rfl
theorem se_loc {st : St} {i o : Nat} : seal1 st (.loc i o) = { st with O := sealL st.O (st.H.getD i []) } := eqI rfl
theorem sl_nil : sealL O [] = O := eqI rfl
theorem sl_a {x : Atom} {xs : List AV} : sealL O (.a x :: xs) = sealL O xs := eqI rfl
theorem sl_own {xs : List AV} : sealL O (.own n :: xs) = sealL (O.set n ⟨(O.getD n default).e, (O.getD n default).sz, (O.getD n default).rows, false⟩) xs := eqI rfl
theorem fg_t {fr : List AV} : forgetIf true fr = fr := eqI rfl
theorem fg_f {fr : List AV} : forgetIf false fr = fr.map forget := eqI rfl
theorem fg_a {x : Atom} : forget (.a x) = .a x := eqI rfl
theorem fg_agg {xs : List Atom} : forget (.agg xs) = .agg xs := eqI rfl
theorem fg_loc {i o : Nat} : forget (.loc i o) = .loc i o := eqI rfl
theorem fg_ptr {xs : List Atom} : forget (.ptr xs) = .ptr xs := eqI rfl
theorem fg_nilptr : forget .nilptr = .nilptr := eqI rfl
theorem fg_full : forget (.full sz rows) = .full sz rows := eqI rfl
theorem fg_nn : forget (.nn sz rows) = .nn sz rows := eqI rfl
theorem fg_own : forget (.own n) = .any := eqI rfl
theorem fg_eptr {m s j f : Nat} : forget (.eptr m s j f) = .any := eqI rfl
theorem fg_vsl {m s j : Nat} : forget (.vsl m s j) = .any := eqI rfl
theorem fg_mix {xs : List AV} : forget (.mix xs) = .any := eqI rfl
theorem fg_tup {xs : List AV} : forget (.tup xs) = .any := eqI rfl
theorem fg_clo {f : FuncId} {cs : List AV} : forget (.clo f cs) = if locs cs = true then .clo f cs else .any := eqI rfl
theorem lc_nil : locs [] = true := eqI rfl
theorem lc_loc {i o : Nat} {cs : List AV} : locs (.loc i o :: cs) = locs cs := eqI rfl
theorem fg_ownc {c : Nat} : forget (.ownc n c) = .any := eqI rfl
theorem fg_ownv {u : Value} : forget (.ownv n u) = .any := eqI rfl
theorem fg_bself {t : TypeId} : forget (.bself t) = .bself t := eqI rfl
theorem fg_undef : forget .undef = .undef := eqI rfl
theorem fg_any : forget .any = .any := eqI rfl
theorem qT_own : argOfT O (.own n) = some (.a (.slice (O.getD n default).sz (O.getD n default).rows)) := eqI rfl
theorem qT_a {x : Atom} : argOfT O (.a x) = some (.a x) := eqI rfl
theorem qT_agg {xs : List Atom} : argOfT O (.agg xs) = some (.agg xs) := eqI rfl
theorem qT_full : argOfT O (.full sz rows) = some (.full sz rows) := eqI rfl
theorem qT_ptr {xs : List Atom} : argOfT O (.ptr xs) = some (.ptr xs) := eqI rfl
theorem qT_clo {f : FuncId} : argOfT O (.clo f []) = some (.clo f []) := eqI rfl
theorem qT_nil : argsOfT O [] = some [] := eqI rfl
theorem qT_cons {x : AV} {xs : List AV} : argsOfT O (x :: xs) = consO (argOfT O x) (argsOfT O xs) := by
  simp only [argsOfT, consO]
  cases argOfT O x <;> cases argsOfT O xs <;> rfl
theorem bd_def {st : St} {t off : Nat} {v : Value} : bared t off v st = baredL off v st (st.fr.getD t .undef) := eqI rfl
theorem bd_loc {st : St} {i o off : Nat} {v : Value} : baredL off v st (.loc i o) = baredC i (o + off) v st := eqI rfl
theorem bd_cell {st : St} {i off : Nat} {v : Value} : baredC i off v st = { st with H := st.H.set i ((st.H.getD i []).set off (baredAV v ((st.H.getD i []).getD off .any))) } := eqI rfl
theorem bd_own {k : Nat} {v : Value} : baredAV v (.own k) = .ownv k v := eqI rfl
theorem bd_a {x : Atom} {v : Value} : baredAV v (.a x) = .a x := eqI rfl
theorem v_tmp {fr : List AV} {t : Nat} : aval fr (.tmp t) = fr.getD t .undef := eqI rfl
theorem v_const {fr : List AV} {v : AV} : aval fr (.const v) = v := eqI rfl
theorem p_some {st : St} {d : Nat} {v : AV} : st.put (some d) v = { st with fr := st.fr.set d v } := eqI rfl
theorem p_none {st : St} {v : AV} : st.put none v = st := eqI rfl
theorem q_a {x : Atom} : argOf O (.a x) = some (.a x) := eqI rfl
theorem q_agg {xs : List Atom} : argOf O (.agg xs) = some (.agg xs) := eqI rfl
theorem q_full : argOf O (.full sz rows) = some (.full sz rows) := eqI rfl
theorem q_own : argOf O (.own n) = if (O.getD n default).mu = false then some (.a (.slice (O.getD n default).sz (O.getD n default).rows)) else none := eqI rfl
theorem q_ptr {xs : List Atom} : argOf O (.ptr xs) = some (.ptr xs) := eqI rfl
theorem q_clo {f : FuncId} : argOf O (.clo f []) = some (.clo f []) := eqI rfl
theorem q_nil : argsOf O [] = some [] := eqI rfl
theorem q_cons {x : AV} {xs : List AV} : argsOf O (x :: xs) = consO (argOf O x) (argsOf O xs) := by
  simp only [argsOf, consO]
  cases argOf O x <;> cases argsOf O xs <;> rfl
theorem w_a {x : Atom} : atomOf O (.a x) = some x := eqI rfl
theorem w_full : atomOf O (.full sz rows) = some (.slice sz rows) := eqI rfl
theorem w_own : atomOf O (.own n) = if (O.getD n default).mu = false then some (.slice (O.getD n default).sz (O.getD n default).rows) else none := eqI rfl
theorem w_ownv {v : Value} : atomOf O (.ownv n v) = if (O.getD n default).mu = false then some (.exact v (.slice (O.getD n default).sz (O.getD n default).rows)) else none := eqI rfl
theorem w_nil : atomsOf O [] = some [] := eqI rfl
theorem w_cons {x : AV} {xs : List AV} : atomsOf O (x :: xs) = consO (atomOf O x) (atomsOf O xs) := by
  simp only [atomsOf, consO]
  cases atomOf O x <;> cases atomsOf O xs <;> rfl
theorem w_map {xs : List Atom} : atomsOf O (xs.map .a) = some xs := by induction xs with | nil => rfl | cons x xs ih => simp [atomsOf, atomOf, ih]
theorem e_agg {xs : List Atom} : cellsOf O (.agg xs) = some xs := eqI rfl
theorem e_a {x : Atom} : cellsOf O (.a x) = some [x] := eqI rfl
theorem e_own : cellsOf O (.own n) = (if (O.getD n default).mu = false then some (.slice (O.getD n default).sz (O.getD n default).rows) else none).map ([·]) := eqI rfl
theorem e_mapN : (none : Option Atom).map ([·]) = none := eqI rfl
theorem e_map {x : Atom} : (some x).map ([·]) = some [x] := eqI rfl
theorem e_full : cellsOf O (.full sz rows) = some [.slice sz rows] := eqI rfl
theorem eV_a {x : Atom} : cellsV O (.a x) = some [.a x] := eqI rfl
theorem eV_agg {xs : List Atom} : cellsV O (.agg xs) = some (xs.map .a) := eqI rfl
theorem eV_own : cellsV O (.own n) = if (O.getD n default).mu = false then some [.a (.slice (O.getD n default).sz (O.getD n default).rows)] else some [.own n] := by
  simp only [cellsV, cellsOf, atomOf]
  split <;> simp_all
theorem hV_nil {cs : List AV} : withsV O [] cs = some cs := eqI rfl
theorem hV_cons {off : Nat} {v : AV} {cs : List AV} {rest : List (Nat × Nat × AV)} : withsV O ((off, n, v) :: rest) cs = bindO (cellsV O v) fun xs => if xs.length = n ∧ off + n ≤ cs.length then withsV O rest (cs.take off ++ xs ++ cs.drop (off + n)) else none := by
  simp only [withsV, bindO]
  cases cellsV O v <;> rfl
theorem m_nil : rowsMade O sz [] = some [] := eqI rfl
theorem m_cons {x : AV} {xs : List AV} : rowsMade O sz (x :: xs) = consR sz (cellsOf O x) (rowsMade O sz xs) := by
  simp only [rowsMade, consR]
  cases cellsOf O x <;> cases rowsMade O sz xs <;> rfl
theorem h_nil {cs : List Atom} : withs O [] cs = some cs := eqI rfl
theorem h_cons {off : Nat} {v : AV} {cs : List Atom} {rest : List (Nat × Nat × AV)} : withs O ((off, n, v) :: rest) cs = bindO (cellsOf O v) fun xs => if xs.length = n ∧ off + n ≤ cs.length then withs O rest (cs.take off ++ xs ++ cs.drop (off + n)) else none := by
  simp only [withs, bindO]
  cases cellsOf O v <;> rfl
theorem i_nil : atomsEq [] [] [] = some true := eqI rfl
theorem i_cons {k : Nat} {x y : Atom} {ks : List Nat} {xs ys : List Atom} : atomsEq (k :: ks) (x :: xs) (y :: ys) = andO (kindEq k x y) (atomsEq ks xs ys) := by
  simp only [atomsEq, andO]
  cases kindEq k x y <;> cases atomsEq ks xs ys <;> rfl
theorem i_bool {a b : Bool} : kindEq 0 (.bool a) (.bool b) = some (a == b) := eqI rfl
theorem i_int {a b : Int} {k : IntKind} : kindEq 1 (.int k a) (.int k b) = some (a == b) := by simp [kindEq]
theorem i_str {a b : ByteArray} : kindEq 2 (.str a) (.str b) = some (a.toList == b.toList) := eqI rfl
theorem y_a {x : Atom} : layOf (.a x) = [.a x] := eqI rfl
theorem y_agg {xs : List Atom} : layOf (.agg xs) = xs.map .a := eqI rfl
theorem y_mix {xs : List AV} : layOf (.mix xs) = xs := eqI rfl
theorem z_mix {xs : List AV} : layable (.mix xs) = xs.all layable1 := eqI rfl
theorem z1_a {x : Atom} {xs : List AV} : (AV.a x :: xs).all layable1 = xs.all layable1 := eqI rfl
theorem z1_own {xs : List AV} : (AV.own n :: xs).all layable1 = xs.all layable1 := eqI rfl
theorem z1_nil : ([] : List AV).all layable1 = true := eqI rfl
theorem y_loc {i o : Nat} : layOf (.loc i o) = [.loc i o] := eqI rfl
theorem y_own : layOf (.own n) = [.own n] := eqI rfl
theorem y_clo {f : FuncId} {cs : List AV} : layOf (.clo f cs) = [.clo f cs] := eqI rfl
theorem z_a {x : Atom} : layable (.a x) = true := eqI rfl
theorem z_agg {xs : List Atom} : layable (.agg xs) = true := eqI rfl
theorem z_loc {i o : Nat} : layable (.loc i o) = true := eqI rfl
theorem z_own : layable (.own n) = true := eqI rfl
theorem z_clo {f : FuncId} {cs : List AV} : layable (.clo f cs) = true := eqI rfl
theorem d_none {d : Int} : boundOf d none = d := eqI rfl
theorem d_some {d v : Int} {k : IntKind} : boundOf d (some (.a (.int k v))) = v := eqI rfl
theorem j_none {ev : AX → AV} : optv ev none = none := eqI rfl
theorem j_some {ev : AX → AV} {x : AX} : optv ev (some x) = some (ev x) := eqI rfl
theorem x_own {j : Nat} : inval n (.own j) = if j = n then .any else .own j := eqI rfl
theorem x_a {x : Atom} : inval n (.a x) = .a x := eqI rfl
theorem x_agg {xs : List Atom} : inval n (.agg xs) = .agg xs := eqI rfl
theorem x_loc {i o : Nat} : inval n (.loc i o) = .loc i o := eqI rfl
theorem x_ptr {xs : List Atom} : inval n (.ptr xs) = .ptr xs := eqI rfl
theorem x_full : inval n (.full sz rows) = .full sz rows := eqI rfl
theorem x_tup {xs : List AV} : inval n (.tup xs) = .any := eqI rfl
theorem x_clo {f : FuncId} {cs : List AV} : inval n (.clo f cs) = if locs cs = true then .clo f cs else .any := eqI rfl
theorem x_nn : inval n (.nn sz rows) = .nn sz rows := eqI rfl
theorem x_eptr {m s j f : Nat} : inval n (.eptr m s j f) = .any := eqI rfl
theorem x_vsl {m s j : Nat} : inval n (.vsl m s j) = .any := eqI rfl
theorem x_mix {xs : List AV} : inval n (.mix xs) = .any := eqI rfl
theorem x_ownc {j c : Nat} : inval n (.ownc j c) = if j = n then .any else .ownc j c := eqI rfl
theorem x_ownv {j : Nat} {u : Value} : inval n (.ownv j u) = if j = n then .any else .ownv j u := eqI rfl
theorem x_bself {t : TypeId} : inval n (.bself t) = .bself t := eqI rfl
theorem x_undef : inval n .undef = .undef := eqI rfl
theorem x_any : inval n .any = .any := eqI rfl
theorem x_nilptr : inval n .nilptr = .nilptr := eqI rfl
theorem k_any {x : AV} : leV x .any = True := eqI rfl
theorem k_a {x : AV} {y : Atom} : leV x (.a y) = (x = .a y) := eqI rfl
theorem k_agg {x : AV} {y : List Atom} : leV x (.agg y) = (x = .agg y) := eqI rfl
theorem k_loc {x : AV} {i o : Nat} : leV x (.loc i o) = (x = .loc i o) := eqI rfl
theorem k_undef {x : AV} : leV x .undef = (x = .undef) := eqI rfl
theorem k_own {x : AV} : leV x (.own n) = (x = .own n) := eqI rfl
theorem k_ptr {x : AV} {y : List Atom} : leV x (.ptr y) = (x = .ptr y) := eqI rfl
theorem k_full {x : AV} : leV x (.full sz rows) = (x = .full sz rows) := eqI rfl
theorem k_tup {x : AV} {y : List AV} : leV x (.tup y) = (x = .tup y) := eqI rfl
theorem k_clo {x : AV} {f : FuncId} {y : List AV} : leV x (.clo f y) = (x = .clo f y) := eqI rfl
theorem k_nilptr {x : AV} : leV x .nilptr = (x = .nilptr) := eqI rfl
theorem k_nn {x : AV} : leV x (.nn sz rows) = (x = .nn sz rows) := eqI rfl
theorem k_eptr {x : AV} {m s j f : Nat} : leV x (.eptr m s j f) = (x = .eptr m s j f) := eqI rfl
theorem k_vsl {x : AV} {m s j : Nat} : leV x (.vsl m s j) = (x = .vsl m s j) := eqI rfl
theorem k_mix {x : AV} {xs : List AV} : leV x (.mix xs) = (x = .mix xs) := eqI rfl
theorem k_ownc {x : AV} {j c : Nat} : leV x (.ownc j c) = (x = .ownc j c) := eqI rfl
theorem k_ownv {x : AV} {j : Nat} {u : Value} : leV x (.ownv j u) = (x = .ownv j u) := eqI rfl
theorem k_bself {x : AV} {t : TypeId} : leV x (.bself t) = (x = .bself t) := eqI rfl
theorem k_nil : leF [] [] = True := eqI rfl
theorem k_cons {x y : AV} {xs ys : List AV} : leF (x :: xs) (y :: ys) = (leV x y ∧ leF xs ys) := eqI rfl
end
end Ab
