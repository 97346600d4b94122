/- Single operations do what abstract code says: calls, and all operations that leave names as they are. No program. -/
import Derived.Test.YtnhcahoeklpbfaaAbJ
set_option linter.unusedSimpArgs false
set_option linter.unusedVariables false
namespace Ab
open Go Go.RowKit

section
variable {P : Program} {ev : AX → AV} {H : List (List AV)} {O : List OwnD} {K : AV → Prop}

theorem rep_arg {base : Nat} {w0 : World} {E : Env} {w : World} (hh : Holds base w0 E w H O) {x y : AV} {v : Value} (h : RepV E w x v) (hx : argOf O x = some y) : RepV ⟨E.S, [], []⟩ w y v := by
  cases x with
  | a x => simp [argOf] at hx; subst hx; cases h with | a h => exact .a h
  | agg xs => simp [argOf] at hx; subst hx; cases h with | agg h1 h2 => exact .agg h1 h2
  | full sz rows => simp [argOf] at hx; subst hx; cases h with | full h => exact .full h
  | own k =>
    change (if (O.getD k default).mu = false then some (AV.a (.slice (O.getD k default).sz (O.getD k default).rows)) else none) = some y at hx
    split at hx
    · rename_i hm; simp at hx; subst hx; exact .a ((rep_own hh h).rep hm)
    · cases hx
  | nn sz rows => simp [argOf] at hx
  | eptr k s i f => simp [argOf] at hx
  | vsl k s lo => simp [argOf] at hx
  | mix xs => simp [argOf] at hx
  | ptr xs => simp [argOf] at hx; subst hx; cases h with | ptr h => exact .ptr h
  | nilptr => simp [argOf] at hx; subst hx; cases h; exact .nilptr
  | clo f cs =>
    cases cs with
    | nil => simp [argOf] at hx; subst hx; cases h with | clo h1 h2 => exact .clo h1 (fun j x u hj => by simp at hj)
    | cons c cs => simp [argOf] at hx
  | undef => simp [argOf] at hx; subst hx; cases h; exact .undef
  | tup xs => simp [argOf] at hx
  | bself t => simp [argOf] at hx
  | ownv k v => simp [argOf] at hx
  | ownc k c => simp [argOf] at hx
  | loc id off => simp [argOf] at hx
  | any => simp [argOf] at hx

theorem args_rep {base : Nat} {w0 : World} {E : Env} {w : World} (hh : Holds base w0 E w H O) {a : Act} : ∀ {l : List Operand} {ys : List AX} {as : List AV}, mapO cX l = some ys → (∀ x ∈ l, ∀ y, cX x = some y → RepV E w (ev y) (a.eval x)) → argsOf O (ys.map ev) = some as →
    RepL E.S w as (l.map a.eval)
  | [], ys, as, h, _, ha => by
    simp [mapO] at h; subst h
    simp [argsOf] at ha; subst ha
    exact ⟨rfl, fun j x v hj => by simp at hj⟩
  | x :: l, ys, as, h, hr, ha => by
    unfold mapO at h
    split at h
    · rename_i y ys' hy hys
      simp at h; subst h
      simp only [List.map_cons] at ha
      unfold argsOf at ha
      split at ha
      · rename_i z zs hz hzs
        simp at ha; subst ha
        obtain ⟨h1, h2⟩ := args_rep hh hys (fun x hx => hr x (by simp [hx])) hzs
        refine ⟨by simpa using h1, fun j q v hj hv => ?_⟩
        cases j with
        | zero =>
          simp at hj hv; subst hj; subst hv
          exact rep_arg hh (hr x (by simp) y hy) hz
        | succ j => simp at hj hv; exact h2 j q v hj (by simpa using hv)
      · cases ha
    · cases h

theorem run_callFunc {f : FuncId} (hb : bodied P f = true) (args : Array Value) (w : World) : (callFunc f args).run P w = .ok (.enter f args) w := by
  unfold bodied at hb
  split at hb
  · rename_i fn hf
    simp only [Bool.and_eq_true, Bool.not_eq_true'] at hb
    have h2 : fn.body.isNone = false := by cases h : fn.body <;> simp [h] at hb ⊢
    have hp : (program).run P w = .ok P w := rfl
    simp only [callFunc, Sem.run_bind, hp, Result.andThen_ok, hf, hb.2, h2, Bool.false_eq_true, if_false, Sem.run_pure]
  · cases hb

theorem rep_open {S : Nat → Nat → Prop} {ι : List Nat} {κ : List Value} {w : World} {x : AV} {v : Value} (h : RepV ⟨S, [], []⟩ w x v) : RepV ⟨S, ι, κ⟩ w x v := by
  have he : Ext ⟨S, [], []⟩ w ⟨S, ι, κ⟩ w := ⟨fun _ _ h => h, fun _ _ _ => rfl, fun i g h => by simp at h, fun i g h => by simp at h⟩
  exact RepV.mono he h

theorem good_enter {o : Oper} {f : FuncId} {args : Array Operand} {ys : List AX} {as : List AV} {r : AV} (hmem : ∀ x ∈ args.toList, x ∈ o.op.operands) (hys : mapO cX args.toList = some ys)
    (has : argsOf O (ys.map ev) = some as) (hp : PDen P f as r) (hrun : ∀ {base w0 E a w}, Holds base w0 E w H O → RepOps E w ev a o → (execOp a.eval o).run P w = .ok (.enter f (args.map a.eval)) w) : Good P o ev H O r := by
  intro base w0 E a w hh hr K Q hk
  have hrep := args_rep hh hys (fun x hx y hy => hr x y (hmem x hx) hy) has
  have hcall := hp E.S w (args.toList.map a.eval) hh.imm hrep
  unfold Oper.wp
  rw [hrun hh hr]
  have e : (args.toList.map a.eval).toArray = args.map a.eval := by
    apply Array.ext'
    simp
  rw [e] at hcall
  refine Calls.mono hcall ?_
  rintro e w' ⟨v, S', rfl, hS, hN, hI, hbl, hv⟩
  obtain ⟨h1, h2⟩ := hh.later hbl hS hN hI
  refine hk v _ w' h1 h2 (fun g o h => ?_) (rep_open hv)
  rcases hN g o h with h | h
  · exact .inl h
  · exact .inr (Nat.le_trans (Nat.le_trans hh.hb hh.below.size) h)

theorem OwnOk.repT {base : Nat} {S S' : Nat → Nat → Prop} {w : World} {v : Value} {d : OwnD} (h : OwnOk base S w v d) (hS : ∀ g o, S g o → S' g o) (hv : ∀ g o, v.ownBlock = some g → o < d.rows.length * d.sz → S' g o) : Rep S' w (.slice d.sz d.rows) v := by
  obtain ⟨⟨xs, ho, hr⟩, hlen, hpos, hat⟩ := h
  rcases ho.2 with ⟨rfl, h0⟩ | ⟨g, cap, cur, rfl, hb, hg, hcap, hmx, hsz, ht⟩
  · have : d.rows = [] := List.eq_nil_of_length_eq_zero h0
    rw [this]
    exact .empty _ _ _ (by simp [maxLen]) (fun _ => rfl)
  · refine .slice d.sz d.rows g 0 cap (fun j => xs.getD j Go.undef) hlen hcap hmx hr.1 (fun i r j x hi hj => ?_) (fun i r j x hi hj => ?_)
    · obtain ⟨u, hu, _⟩ := hr.2 i r j x hi hj
      have hrl := hr.1 i r hi
      have hil : i < d.rows.length := (List.getElem?_eq_some_iff.1 hi).1
      have hjl : j < d.sz := by rw [← hrl]; exact (List.getElem?_eq_some_iff.1 hj).1
      have hb2 : i * d.sz + j < d.rows.length * d.sz := by
        have : i * d.sz + d.sz ≤ d.rows.length * d.sz := by rw [← Nat.succ_mul]; exact Nat.mul_le_mul_right _ hil
        omega
      refine ⟨hv g _ rfl (by omega), ?_⟩
      have hc := ho.cells (g := g) rfl (i * d.sz + j) u hu
      rw [add_at, Nat.zero_add] at hc
      rw [Nat.zero_add, hc]
      simp [hu]
    · obtain ⟨u, hu, hru⟩ := hr.2 i r j x hi hj
      simpa [hu] using hru.mono hS (fun _ _ _ => rfl)

theorem rep_argT {base : Nat} {w0 : World} {E : Env} {w : World} {S' : Nat → Nat → Prop} (hh : Holds base w0 E w H O) (hS : ∀ g o, E.S g o → S' g o) (hO : ∀ (k : Nat) (v : Value) (d : OwnD), E.κ[k]? = some v → O[k]? = some d → ∀ g o, v.ownBlock = some g → o < d.rows.length * d.sz → S' g o)
    {x y : AV} {v : Value} (h : RepV E w x v) (hx : argOfT O x = some y) : RepV ⟨S', [], []⟩ w y v := by
  unfold argOfT at hx
  split at hx
  · rename_i k
    simp at hx; subst hx
    have hok := rep_own hh h
    cases h with
    | own hk =>
      have hkl : k < O.length := by rw [← hh.lenκ]; exact (List.getElem?_eq_some_iff.1 hk).1
      have hd : O[k]? = some (O.getD k default) := by simp [hkl]
      have e : O[k]?.getD default = O.getD k default := by simp
      rw [e]
      exact .a (hok.repT hS fun g o hg ho => hO k v _ hk hd g o hg ho)
  · have := rep_arg hh h hx
    exact RepV.mono (E := ⟨E.S, [], []⟩) (E' := ⟨S', [], []⟩) ⟨hS, fun _ _ _ => rfl, fun _ _ h => h, fun _ _ h => h⟩ this

theorem argsT_rep {base : Nat} {w0 : World} {E : Env} {w : World} {S' : Nat → Nat → Prop} (hh : Holds base w0 E w H O) (hS : ∀ g o, E.S g o → S' g o) (hO : ∀ (k : Nat) (v : Value) (d : OwnD), E.κ[k]? = some v → O[k]? = some d → ∀ g o, v.ownBlock = some g → o < d.rows.length * d.sz → S' g o) {a : Act} :
    ∀ {l : List Operand} {ys : List AX} {as : List AV}, mapO cX l = some ys → (∀ x ∈ l, ∀ y, cX x = some y → RepV E w (ev y) (a.eval x)) → argsOfT O (ys.map ev) = some as → RepL S' w as (l.map a.eval)
  | [], ys, as, h, _, ha => by
    simp [mapO] at h; subst h
    simp [argsOfT] at ha; subst ha
    exact ⟨rfl, fun j x v hj => by simp at hj⟩
  | x :: l, ys, as, h, hr, ha => by
    unfold mapO at h
    split at h
    · rename_i y ys' hy hys
      simp at h; subst h
      simp only [List.map_cons] at ha
      unfold argsOfT at ha
      split at ha
      · rename_i z zs hz hzs
        simp at ha; subst ha
        obtain ⟨h1, h2⟩ := argsT_rep hh hS hO hys (fun q hq => hr q (by simp [hq])) hzs
        refine ⟨by simp [h1], fun j q v hj hv => ?_⟩
        cases j with
        | zero =>
          simp at hj hv; subst hj; subst hv
          exact rep_argT hh hS hO (hr x (by simp) y hy) hz
        | succ j => simp at hj hv; exact h2 j q v hj (by simpa using hv)
      · cases ha
    · cases h

theorem scalA_rep {S S' : Nat → Nat → Prop} {w : World} {x : Atom} {v : Value} (hx : scalA x = true) (h : Rep S w x v) : Rep S' w x v := by
  cases h with
  | bool => exact .bool _
  | int => exact .int _ _
  | str s h => exact .str s h
  | nils => exact .nils
  | empty => simp [scalA] at hx
  | slice => simp [scalA] at hx
  | exact => simp [scalA] at hx
theorem scal_rep {S : Nat → Nat → Prop} {E : Env} {w : World} {x : AV} {v : Value} (hx : scal x = true) (h : RepV ⟨S, [], []⟩ w x v) : RepV E w x v := by
  cases h with
  | a h => exact .a (scalA_rep hx h)
  | agg hs h => exact .agg hs fun j x u hj hu => scalA_rep (List.all_eq_true.1 hx x (List.mem_of_getElem? hj)) (h j x u hj hu)
  | _ => simp [scal] at hx
theorem scalT_rep {S : Nat → Nat → Prop} {E : Env} {w : World} {x : AV} {v : Value} (hx : scalT x = true) (h : RepV ⟨S, [], []⟩ w x v) : RepV E w x v := by
  unfold scalT at hx
  split at hx
  · cases h with
    | tup hs h => exact .tup hs fun j x u hj hu => scal_rep (List.all_eq_true.1 hx x (List.mem_of_getElem? hj)) (h j x u hj hu)
  · exact scal_rep hx h

theorem good_callT {o : Oper} {f : FuncId} {args : Array Operand} {ts : Array TypeId} {ys : List AX} {as : List AV} {r : AV} (ho : o.op = .call { callee := .value (.func f), args := args, argTypes := ts }) (hb : bodied P f = true) (hys : mapO cX args.toList = some ys)
    (has : argsOfT O (ys.map ev) = some as) (hp : PDen P f as r) (hsc : scalT r = true) : Good P o ev H O r := by
  intro base w0 E a w hh hr K Q hk
  have hmem : ∀ x ∈ args.toList, x ∈ o.op.operands := fun x hx => by
    simp only [ho, Op.operands, Call.operands]
    simp only [Array.mem_append]
    exact .inr (by simpa using hx)
  let S' : Nat → Nat → Prop := fun g o => E.S g o ∨ ∃ (k : Nat) (v : Value) (d : OwnD), E.κ[k]? = some v ∧ O[k]? = some d ∧ v.ownBlock = some g ∧ o < d.rows.length * d.sz
  have hrep := argsT_rep (S' := S') hh (fun _ _ h => .inl h) (fun k v d h1 h2 g o h3 h4 => .inr ⟨k, v, d, h1, h2, h3, h4⟩) hys (fun x hx y hy => hr x y (hmem x hx) hy) has
  have himm : ∀ g o, S' g o → ∃ u, w.cell? ⟨g, o, none⟩ = some u := by
    rintro g o (h | ⟨k, v, d, h1, h2, h3, h4⟩)
    · exact hh.imm g o h
    · obtain ⟨⟨xs, hown, _⟩, _⟩ := hh.owns k v d h1 h2
      have hl : o < xs.length := by rw [hown.1]; exact h4
      have := hown.cells (g := g) h3 o _ (List.getElem?_eq_getElem hl)
      rw [add_at, Nat.zero_add] at this
      exact ⟨_, this⟩
  have hcall := hp S' w (args.toList.map a.eval) himm hrep
  have hrun : (execOp a.eval o).run P w = .ok (.enter f (args.map a.eval)) w := by
    have e : execOp a.eval o = callFunc f (#[] ++ args.map a.eval ++ #[]) := by
      obtain ⟨dst, op, type, pos, after, guard⟩ := o
      simp only at ho
      subst ho
      rfl
    rw [e]
    simpa using run_callFunc hb (args.map a.eval) w
  unfold Oper.wp
  rw [hrun]
  have e : (args.toList.map a.eval).toArray = args.map a.eval := by
    apply Array.ext'
    simp
  rw [e] at hcall
  refine Calls.mono hcall ?_
  rintro e w' ⟨v, S2, rfl, _, _, _, hbl, hv⟩
  obtain ⟨h1, h2⟩ := hh.later (S' := E.S) hbl (fun _ _ h => h) (fun _ _ h => .inl h) (fun g o h => by
    obtain ⟨u, hu⟩ := hh.imm g o h
    exact ⟨u, (hbl.cell (p := ⟨g, o, none⟩) (lt_of_cell hu)).trans hu⟩)
  exact hk v _ w' h1 h2 (fun g o h => .inl h) (scalT_rep hsc hv)

theorem good_call {o : Oper} {f : FuncId} {args : Array Operand} {ts : Array TypeId} {ys : List AX} {as : List AV} {r : AV} (ho : o.op = .call { callee := .value (.func f), args := args, argTypes := ts }) (hb : bodied P f = true) (hys : mapO cX args.toList = some ys)
    (has : argsOf O (ys.map ev) = some as) (hp : PDen P f as r) : Good P o ev H O r :=
  good_enter (fun x hx => by
    simp only [ho, Op.operands, Call.operands]
    simp only [Array.mem_append]
    exact .inr (by simpa using hx)) hys has hp fun {base w0 E a w} _ _ => by
      have e : execOp a.eval o = callFunc f (#[] ++ args.map a.eval ++ #[]) := by
        obtain ⟨dst, op, type, pos, after, guard⟩ := o
        simp only at ho
        subst ho
        rfl
      rw [e]
      simpa using run_callFunc hb (args.map a.eval) w

theorem good_callv {o : Oper} {x : Operand} {x' : AX} {f : FuncId} {args : Array Operand} {ts : Array TypeId} {ys : List AX} {as : List AV} {r : AV} (ho : o.op = .call { callee := .value x, args := args, argTypes := ts }) (hx : cX x = some x') (hev : ev x' = .clo f []) (hb : bodied P f = true) (hys : mapO cX args.toList = some ys)
    (has : argsOf O (ys.map ev) = some as) (hp : PDen P f as r) : Good P o ev H O r :=
  good_enter (fun x hx => by
    simp only [ho, Op.operands, Call.operands]
    simp only [Array.mem_append]
    exact .inr (by simpa using hx)) hys has hp fun {base w0 E a w} _ hr => by
      have hv : a.eval x = .func (.func f) #[] #[] := by
        have h := hev ▸ hr x x' (by simp [ho, Op.operands, Call.operands]) hx
        generalize a.eval x = u at h
        cases h with
        | clo hs _ =>
          rename_i arr _
          have : arr = #[] := Array.eq_empty_of_size_eq_zero (by simpa using hs)
          subst this
          rfl
      have e : execOp a.eval o = (do let d ← Deferred.ofValue (a.eval x) (args.map a.eval); invoke d.target d.args) := by
        obtain ⟨dst, op, type, pos, after, guard⟩ := o
        simp only at ho
        subst ho
        rfl
      rw [e, hv]
      have := run_callFunc hb (args.map a.eval) w
      simp only [Deferred.ofValue, Sem.run_bind, Sem.run_pure, Result.andThen_ok, invoke]
      simpa using this

theorem run_bytes (f : Value → ByteArray → Sem (ForInStep ByteArray)) (hf : ∀ n r, f (.int .u8 n) r = pure (.yield (r.push (UInt8.ofNat n.toNat)))) (l : List UInt8) : ∀ (vs : List Value) (s : ByteArray) (w : World), vs.length = l.length → (∀ (i : Nat) (b : UInt8) (v : Value), l[i]? = some b → vs[i]? = some v → v = .int .u8 b.toNat) →
    (forIn (m := Sem) vs s f).run P w = .ok ⟨(s.data.toList ++ l).toArray⟩ w := by
  induction l with
  | nil =>
    intro vs s w hl _
    have : vs = [] := List.eq_nil_of_length_eq_zero (by simpa using hl)
    subst this
    simp
  | cons b l ih =>
    intro vs s w hl hv
    cases vs with
    | nil => simp at hl
    | cons v vs =>
      have := hv 0 b v rfl rfl
      subst this
      have e := ih vs (s.push b) w (by simpa using hl) (fun i b' v' hb hv' => hv (i + 1) b' v' (by simpa using hb) (by simpa using hv'))
      simp only [List.forIn_cons, hf, Sem.run_bind, Sem.run_pure, Result.andThen_ok]
      have eb : UInt8.ofNat (Int.toNat ((b.toNat : Nat) : Int)) = b := by simp
      rw [eb, e]
      congr 2
      simp [ByteArray.push]

theorem good_strOf {o : Oper} {s d e : TypeId} {x : Operand} {x' : AX} {l : List UInt8} (ho : o.op = .convert s d x) (hx : cX x = some x') (hs : P.underlying s = some (.slice e)) (hd : P.underlying d = some .string) (he : P.underlying e = some (.int .u8))
    (hrow : rowsOf O 1 (ev x') = some (byteRows l)) : Good P o ev H O (.a (.str ⟨l.toArray⟩)) :=
  good_pure fun base w0 E a w hh hr => by
    have hrep := rep_rows hh (hr x x' (by simp [ho, Op.operands]) hx) hrow
    obtain ⟨A, c, hv, hl, hc, hn, hrl, hrows⟩ := hrep.row
    have hlen : (byteRows l).length = l.length := by simp [byteRows]
    refine ⟨.string ⟨l.toArray⟩, ?_, .a (.str _ (by
      have : (⟨l.toArray⟩ : ByteArray).size = l.length := by simp [ByteArray.size]
      rw [this]; rw [hlen] at hn; omega))⟩
    have hrun : (Conv.bytesToString (.slice A (byteRows l).length c)).run P w = .ok (.string ⟨l.toArray⟩) w := by
      cases A with
      | none =>
        have h0 : l = [] := by
          cases l with
          | nil => rfl
          | cons b l => obtain ⟨g, o, h, _⟩ := hrows 0 (by simp [byteRows]); cases h
        subst h0
        simp [Conv.bytesToString]
        rfl
      | some ad =>
        have hcells : (loadCells ad (byteRows l).length).run P w = .ok (l.map fun b => Value.int .u8 b.toNat).toArray w := by
          have := run_loadCells_list (P := P) (w := w) ad (l.map fun b => Value.int .u8 b.toNat) (fun j v hj => by
            rw [List.getElem?_map] at hj
            cases hb : l[j]? with
            | none => rw [hb] at hj; simp at hj
            | some b =>
              rw [hb] at hj; simp at hj; subst hj
              have hjl : j < l.length := (List.getElem?_eq_some_iff.1 hb).1
              obtain ⟨g, o, h, hrc⟩ := hrows j (by rw [hlen]; exact hjl)
              injection h with h
              subst h
              have e1 : (byteRows l).getD j [] = [.int .u8 b.toNat] := by
                rw [List.getD_eq_getElem?_getD]
                simp [byteRows, hb]
              rw [e1] at hrc
              obtain ⟨_, u, hu, hru⟩ := hrc 0 _ rfl
              rw [add_at]
              cases hru
              simpa using hu)
          simpa [hlen] using this
        have hf := fun f h => run_bytes (P := P) f h l (l.map fun b => Value.int .u8 b.toNat) ByteArray.empty w (by simp) (fun i b v hb hv => by
          rw [List.getElem?_map, hb] at hv; simp at hv; exact hv.symm)
        simp only [Conv.bytesToString, Sem.run_bind, hcells, Result.andThen_ok, List.forIn_toArray]
        rw [hf _ (fun n r => rfl)]
        simp
    simp only [execOp, ho, hv, convert, Sem.run_bind, run_under hs, run_under hd, Result.andThen_ok, run_under he, hrun, Sem.run_pure]

theorem mapO_one {l : List Operand} {y : AX} (h : mapO cX l = some [y]) : ∃ x, l = [x] ∧ cX x = some y := by
  obtain ⟨h1, h2⟩ := mapO_spec h
  match l, h1 with
  | [x], _ => exact ⟨x, rfl, h2 0 y x rfl rfl⟩
theorem mapO_two {l : List Operand} {y z : AX} (h : mapO cX l = some [y, z]) : ∃ x u, l = [x, u] ∧ cX x = some y ∧ cX u = some z := by
  obtain ⟨h1, h2⟩ := mapO_spec h
  match l, h1 with
  | [x, u], _ => exact ⟨x, u, rfl, h2 0 y x rfl rfl, h2 1 z u rfl rfl⟩

theorem soft_callee {o : Oper} {c : Call} {args : List AX} {ao : AO} (ho : o.op = .call c) (hargs : mapO cX c.args.toList = some args) (hc : cCallee P c args = some ao) (hs : isSoft ao = true) (h : asoft P ev H O K ao) : ∃ r, Good P o ev H O r ∧ K r := by
  unfold cCallee at hc
  split at hc
  · rename_i f hcal
    unfold cCall at hc
    split at hc
    · rename_i hb
      simp at hc; subst hc
      obtain ⟨as, has, r, hp, hk⟩ := onOpt_elim h
      exact ⟨r, good_call (args := c.args) (ts := c.argTypes) (by rw [ho, ← hcal]) hb hargs has hp, hk⟩
    · cases hc
  · rename_i t hcal
    simp at hc; subst hc
    obtain ⟨f, cs, hf, ⟨rfl, hb⟩, hk⟩ := onClo_elim h
    obtain ⟨as, has, r, hp, hk⟩ := onOpt_elim hk
    exact ⟨r, good_callv (args := c.args) (ts := c.argTypes) (x := .tmp t) (by rw [ho, ← hcal]) rfl hf hb hargs has hp, hk⟩
  · rename_i b hcal
    unfold cBuiltin at hc
    split at hc
    · rename_i x'
      obtain ⟨x, hl, hx⟩ := mapO_one hargs
      have hca : c.args = #[x] := by apply Array.ext'; simpa using hl
      split at hc
      · rename_i hbl
        subst hbl
        have ho' : o.op = .call { callee := .builtin .len, args := #[x], argTypes := c.argTypes } := by rw [ho, ← hcal, ← hca]
        unfold cLen at hc
        split at hc
        · rename_i t ht
          split at hc
          · rename_i hu
            simp at hc; subst hc
            obtain ⟨b, hb, hk⟩ := onStr_elim h
            exact ⟨_, good_lenS ho' ht hx hu hb, hk⟩
          · rename_i e hu
            simp at hc; subst hc
            exact good_len ho' ht hx hu h
          · cases hc
        · cases hc
      · cases hc
    · rename_i x' y'
      obtain ⟨x, y, hl, hx, hy⟩ := mapO_two hargs
      have hca : c.args = #[x, y] := by apply Array.ext'; simpa using hl
      split at hc
      · unfold cAppend at hc
        repeat' split at hc
        all_goals first
          | (cases hc; done)
          | (cases hc; simp [isSoft] at hs)
      · split at hc
        · rename_i hb
          simp at hc; subst hc; subst hb
          obtain ⟨k, m, hm, hk⟩ := onInt_elim h
          obtain ⟨k', n, hn, hk⟩ := onInt_elim hk
          exact ⟨_, good_minmax (mx := false) (ts := c.argTypes) (by rw [ho, ← hca]; cases c; simp_all) hx hy hm hn, hk⟩
        · split at hc
          · rename_i hb
            simp at hc; subst hc; subst hb
            obtain ⟨k, m, hm, hk⟩ := onInt_elim h
            obtain ⟨k', n, hn, hk⟩ := onInt_elim hk
            exact ⟨_, good_minmax (mx := true) (ts := c.argTypes) (by rw [ho, ← hca]; cases c; simp_all) hx hy hm hn, hk⟩
          · split at hc
            · unfold cCopy at hc
              repeat' split at hc
              all_goals first
                | (cases hc; done)
                | (cases hc; simp [isSoft] at hs)
            · cases hc
    · cases hc
  · cases hc

theorem soft_good {o : Oper} {ao : AO} (hc : cOp P o = some ao) (hs : isSoft ao = true) (h : asoft P ev H O K ao) : ∃ r, Good P o ev H O r ∧ K r := by
  unfold cOp at hc
  split at hc
  -- move
  · rename_i x ho
    cases hx : cX x with
    | none => rw [hx] at hc; simp at hc
    | some y => rw [hx] at hc; simp at hc; subst hc; exact ⟨_, good_mov (.inl ho) hx, h⟩
  · rename_i x ho
    cases hx : cX x with
    | none => rw [hx] at hc; simp at hc
    | some y => rw [hx] at hc; simp at hc; subst hc; exact ⟨_, good_mov (.inr ho) hx, h⟩
  -- pick
  · rename_i c a b ho
    split at hc
    · rename_i c' a' b' h1 h2 h3
      simp at hc; subst hc
      obtain ⟨t, ht, hk⟩ := onBool_elim h
      refine ⟨_, good_pick ho h1 h2 h3 ht, ?_⟩
      rcases onCase_elim hk with ⟨rfl, hk⟩ | ⟨rfl, hk⟩ <;> exact hk
    · cases hc
  -- alloc
  · split at hc
    · split at hc
      · rename_i z _
        cases hz : mapO cCell z.cells.toList with
        | none => rw [hz] at hc; simp at hc
        | some q => rw [hz] at hc; simp at hc; subst hc; simp [isSoft] at hs
      · cases hc
    · cases hc
  -- box
  · split at hc
    · simp at hc; subst hc; simp [isSoft] at hs
    · cases hc
  -- build
  · rename_i t parts ho
    split at hc
    · rename_i i place hi hp
      split at hc
      · rename_i z hz
        split at hc
        · rename_i zs ps hzs hps
          simp at hc; subst hc
          rcases onBuild_elim h with ⟨cs, hcs, hk⟩ | ⟨cs, hcs, hk⟩
          · exact ⟨_, good_build ho hi hz hp hzs hps hcs, hk⟩
          · exact ⟨_, good_buildV ho hi hz hp hzs hps hcs, hk⟩
        · cases hc
      · cases hc
    · cases hc
  -- buildSlice
  · rename_i t len parts ho
    split at hc
    · rename_i e hu
      split at hc
      · rename_i i hi
        split at hc
        · rename_i z hz
          split at hc
          · rename_i zs ys hzs hys
            split at hc
            · rename_i hall
              obtain ⟨h1, h2, h3, h4⟩ := hall
              simp at hc; subst hc
              obtain ⟨rows, hrows, hk⟩ := onOpt_elim h
              exact ⟨_, good_buildSlice ho hu hi hz hzs hys h1 h2 h3 h4 hrows _, hk⟩
            · cases hc
          · cases hc
        · cases hc
      · cases hc
    · cases hc
  -- load
  · rename_i t x ho
    split at hc
    · rename_i n g x' hsh hx
      simp at hc; subst hc
      exact good_load ho hx hsh h
    · cases hc
  -- store
  · split at hc
    · simp at hc; subst hc; simp [isSoft] at hs
    · cases hc
  -- nilCheck
  · rename_i x ho
    cases hx : cX x with
    | none => rw [hx] at hc; simp at hc
    | some y => rw [hx] at hc; simp at hc; subst hc; exact good_nilCheck ho hx h
  -- binOp
  · rename_i op t x y t' ho
    split at hc
    · rename_i hnil
      simp only [Bool.and_eq_true, Bool.or_eq_true, beq_iff_eq] at hnil
      obtain ⟨⟨hn, hst⟩, hop⟩ := hnil
      have hy : y = .const (.slice none 0 0) := by unfold nilC at hn; split at hn <;> simp_all
      have hu : ∃ e, P.underlying t = some (.slice e) := by unfold sliceT at hst; split at hst; exact ⟨_, by assumption⟩; cases hst
      obtain ⟨e, hu⟩ := hu
      subst hy
      simp only [Option.map_eq_some_iff] at hc
      obtain ⟨x', hx, rfl⟩ := hc
      obtain ⟨b, hk, hb⟩ := onNil_elim h
      refine ⟨_, good_pure fun base w0 E a w hh hr => ?_, hk⟩
      obtain ⟨A, n, c, hv, hA⟩ := hb _ _ _ (hr x x' (by simp [ho, Op.operands]) hx)
      refine ⟨_, ?_, .a (.bool _)⟩
      have heq : (Op.equal t (.slice A n c) (.slice none 0 0)).run P w = .ok A.isNone w := by
        unfold Op.equal Op.maxDepth Op.equalIn
        simp only [Sem.run_bind, run_under hu, Result.andThen_ok]
        cases A <;> rfl
      have hcn : a.eval (.const (.slice none 0 0)) = .slice none 0 0 := rfl
      rw [hA] at heq
      rcases hop with rfl | rfl
      · have hg : (eqGuard .eql t x (.const (.slice none 0 0)) (.slice A n c) (.slice none 0 0)).run P w = .ok () w := by simp [eqGuard]
        have hbin : (Go.binOp .eql t (.slice A n c) (.slice none 0 0)).run P w = .ok (.bool b) w := by
          show (do pure (.bool (← Op.equal t (.slice A n c) (.slice none 0 0))) : Sem Value).run P w = _
          simp only [Sem.run_bind, heq, Result.andThen_ok, Sem.run_pure]
        simp only [execOp, ho, hv, hcn, Sem.run_bind, hg, hbin, Result.andThen_ok]; rfl
      · have hg : (eqGuard .neq t x (.const (.slice none 0 0)) (.slice A n c) (.slice none 0 0)).run P w = .ok () w := by simp [eqGuard]
        have hbin : (Go.binOp .neq t (.slice A n c) (.slice none 0 0)).run P w = .ok (.bool !b) w := by
          show (do pure (.bool (!(← Op.equal t (.slice A n c) (.slice none 0 0)))) : Sem Value).run P w = _
          simp only [Sem.run_bind, heq, Result.andThen_ok, Sem.run_pure]
        simp only [execOp, ho, hv, hcn, Sem.run_bind, hg, hbin, Result.andThen_ok]; rfl
    split at hc
    · rename_i x' y' hx hy
      split at hc
      · split at hc
        · rename_i hb
          simp at hc; subst hc
          obtain ⟨p, hp, hk⟩ := onBool_elim h
          obtain ⟨q, hq, hk⟩ := onBool_elim hk
          have ht : P.underlying t = some .bool := by unfold boolT at hb; split at hb <;> simp_all
          exact ⟨_, good_eqBool false ho rfl hx hy ht hp hq, hk⟩
        · split at hc
          · rename_i hst
            simp only [Option.map_eq_some_iff] at hc
            obtain ⟨ks, hks, rfl⟩ := hc
            obtain ⟨as, has, hk⟩ := onAgg_elim h
            obtain ⟨bs, hbs, hk⟩ := onAgg_elim hk
            obtain ⟨b, hb, hk⟩ := onOpt_elim hk
            exact ⟨_, good_eqAgg false ho rfl hx hy hst hks has hbs hb, hk⟩
          · simp at hc; subst hc; exact good_bin ho hx hy h
      · split at hc
        · rename_i hb
          simp at hc; subst hc
          obtain ⟨p, hp, hk⟩ := onBool_elim h
          obtain ⟨q, hq, hk⟩ := onBool_elim hk
          have ht : P.underlying t = some .bool := by unfold boolT at hb; split at hb <;> simp_all
          exact ⟨_, good_eqBool true ho rfl hx hy ht hp hq, hk⟩
        · split at hc
          · rename_i hst
            simp only [Option.map_eq_some_iff] at hc
            obtain ⟨ks, hks, rfl⟩ := hc
            obtain ⟨as, has, hk⟩ := onAgg_elim h
            obtain ⟨bs, hbs, hk⟩ := onAgg_elim hk
            obtain ⟨b, hb, hk⟩ := onOpt_elim hk
            exact ⟨_, good_eqAgg true ho rfl hx hy hst hks has hbs hb, hk⟩
          · simp at hc; subst hc; exact good_bin ho hx hy h
      · simp at hc; subst hc; exact good_bin ho hx hy h
    · cases hc
  -- unOp
  · rename_i op t x ho
    cases hx : cX x with
    | none => rw [hx] at hc; simp at hc
    | some y => rw [hx] at hc; simp at hc; subst hc; exact good_un ho hx h
  -- convert
  · rename_i s d x ho
    split at hc
    · rename_i ks kd x' h1 h2 h3
      simp at hc; subst hc
      obtain ⟨k, n, hn, hk⟩ := onInt_elim h
      exact ⟨_, good_toInt ho h3 h1 h2 hn, hk⟩
    · rename_i x' h1 h2 h3
      simp at hc; subst hc
      obtain ⟨b, hb, hk⟩ := onStr_elim h
      exact ⟨_, good_same ho h3 h1 h2 hb, hk⟩
    · rename_i e x' h1 h2 h3
      split at hc
      · rename_i hu
        split at hc
        · rename_i hsz
          simp at hc; subst hc
          obtain ⟨rows, hrows, l, rfl, hk⟩ := onOpt_elim h
          exact ⟨_, good_strOf ho h3 h1 h2 hu hrows, hk⟩
        · cases hc
      · cases hc
    · cases hc
  -- slice
  · rename_i t x lo hi mx ho
    split at hc
    · rename_i x' lo' hi' hu hx hlo hhi hmx
      simp at hc; subst hc
      obtain ⟨b, hb, hk⟩ := onStr_elim h
      have hm : mx = none := by cases mx with | none => rfl | some y => cases hy : cX y <;> simp [cXO, hy] at hmx
      subst hm
      exact good_slStr ho hu hx hlo hhi hb hk
    · rename_i e x' lo' hi' mx' hu hx hlo hhi hmx
      cases hz : sizeAt P e with
      | none => rw [hz] at hc; simp at hc
      | some n =>
        rw [hz] at hc; simp at hc; subst hc
        rcases onVec_elim h with ⟨k, hkv, ⟨h1, h2, h3, h4, h5⟩, hk⟩ | ⟨_, h⟩
        · exact ⟨_, good_slV ho hu hz hx hlo hhi hmx (vecOf_some hkv).1 h2 h3 h4 h5, hk⟩
        obtain ⟨rows, hrows, hk⟩ := onOpt_elim h
        exact good_sl ho hu hz hx hlo hhi hmx hrows hk
    · cases hc
  -- fieldAddr
  · rename_i t x f ho
    split at hc
    · rename_i off n g x' hf hx
      split at hc
      · cases hc
      · rename_i hn
        simp at hc; subst hc
        exact good_fieldAddr ho hx hf hn h
    · cases hc
  -- field
  · rename_i t x f ho
    split at hc
    · rename_i off n g x' hf hx
      simp at hc; subst hc
      obtain ⟨xs, hxs, hk⟩ := onAgg_elim h
      exact good_field ho hx hf hxs hk
    · cases hc
  -- indexAddr
  · rename_i t x i ho
    split at hc
    · rename_i e x' i' hu hx hi
      cases hz : sizeAt P e with
      | none => rw [hz] at hc; simp at hc
      | some n =>
        rw [hz] at hc; simp at hc; subst hc
        rcases onVec_elim h with ⟨q, hkv, h⟩ | ⟨_, h⟩
        · obtain ⟨k, m, hm, ⟨hg0, hg1, hg2⟩, hk⟩ := onInt_elim h
          exact ⟨_, good_ixV ho hx hi hu hz (vecOf_some hkv).1 hm hg1 hg2, hk⟩
        obtain ⟨rows, hrows, hk⟩ := onOpt_elim h
        obtain ⟨k, m, hm, ⟨hg1, hg2⟩, hk⟩ := onInt_elim hk
        exact ⟨_, good_ix ho hx hi hu hz hrows hm hg1 hg2, hk⟩
    · rename_i l e x' i' hu hx hi
      cases hz : sizeAt P e with
      | none => rw [hz] at hc; simp at hc
      | some n =>
        rw [hz] at hc; simp at hc; subst hc
        obtain ⟨id, off, hid, hk⟩ := onLoc_elim h
        obtain ⟨k, m, hm, ⟨hg1, hg2⟩, hk⟩ := onInt_elim hk
        exact ⟨_, good_ixArr ho hx hi hu hz hid hm hg1 hg2, hk⟩
    · cases hc
  -- index
  · rename_i t x i ho
    split at hc
    · rename_i l e x' i' hu hx hi
      split at hc
      · rename_i n g hsh
        simp at hc; subst hc
        obtain ⟨xs, hxs, hk⟩ := onAgg_elim h
        obtain ⟨k, m, hm, hk⟩ := onInt_elim hk
        exact good_elem ho hx hi hu hsh hxs hm hk
      · cases hc
    · rename_i x' i' hu hx hi
      simp at hc; subst hc
      obtain ⟨b, hb, hk⟩ := onStr_elim h
      obtain ⟨k, m, hm, ⟨hg1, hg2⟩, hk⟩ := onInt_elim hk
      exact ⟨_, good_byte ho hx hi hu hb hm hg1 hg2, hk⟩
    · cases hc
  -- extract
  · rename_i x i ho
    cases hx : cX x with
    | none => rw [hx] at hc; simp at hc
    | some y =>
      rw [hx] at hc; simp at hc; subst hc
      obtain ⟨xs, hxs, hg, hk⟩ := onTup_elim h
      exact ⟨_, good_extract ho hx hxs hg, hk⟩
  -- makeSlice
  · repeat' split at hc
    all_goals first
      | (cases hc; done)
      | (cases hc; simp [isSoft] at hs)
  -- makeFunc
  · rename_i fn first caps ho
    split at hc
    · rename_i f
      split at hc
      · rename_i h0
        simp only [Option.map_eq_some_iff] at hc
        obtain ⟨ys, hys, rfl⟩ := hc
        have e1 : first = #[] := Array.eq_empty_of_size_eq_zero h0
        subst e1
        refine ⟨_, good_pure fun base w0 E a w hh hr => ⟨.func (.func f) #[] (caps.map a.eval), ?_, .clo (by simp [(mapO_spec hys).1]) fun j x u hj hu => ?_⟩, h⟩
        · simp [execOp, ho, Instr.makeFunc]
        · rw [List.getElem?_map] at hj
          rw [Array.getElem?_map] at hu
          cases hy : ys[j]? with
          | none => rw [hy] at hj; simp at hj
          | some y =>
            cases hx : caps[j]? with
            | none => rw [hx] at hu; simp at hu
            | some z =>
              rw [hy] at hj; rw [hx] at hu
              simp at hj hu; subst hj; subst hu
              refine hr z y ?_ ((mapO_spec hys).2 j y z hy (by simpa using hx))
              simp only [ho, Op.operands]
              have := Array.mem_of_getElem? hx
              simp [this]
      · cases hc
    · cases hc
  -- call
  · rename_i c ho
    split at hc
    · rename_i args hargs
      exact soft_callee ho hargs hc hs h
    · cases hc
  · cases hc
end
end Ab
