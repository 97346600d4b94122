/- Single operations do what abstract code says: memory of the call's own. No program. -/
import Derived.Test.YtnhcahoeklpbfaaAbK
set_option linter.unusedSimpArgs false
set_option linter.unusedVariables false
namespace Ab
open Go Go.RowKit

section
variable {P : Program} {base : Nat} {w0 : World} {E : Env} {w : World} {H : List (List AV)} {O : List OwnD}

def RepB (E : Env) (w : World) (cs : List AV) (arr : Array Value) : Prop :=
  arr.size = cs.length ∧ ∀ (j : Nat) (x : AV) (u : Value), cs[j]? = some x → arr[j]? = some u → RepV E w x u

theorem ext_alloc (hh : Holds base w0 E w H O) (o : Obj) : Ext E w ⟨E.S, E.ι ++ [w.heap.size], E.κ⟩ (w.alloc o) :=
  ⟨fun _ _ h => h, fun g o' h => let ⟨_, hu⟩ := hh.imm g o' h; World.cell?_alloc_lt w _ ⟨g, o', none⟩ (lt_of_cell hu), fun i g h => by
    show (E.ι ++ [w.heap.size])[i]? = some g
    rw [List.getElem?_append_left (List.getElem?_eq_some_iff.1 h).1]; exact h, fun _ _ h => h⟩

theorem ι_lt (hh : Holds base w0 E w H O) {i g : Nat} (h : E.ι[i]? = some g) : g < w.heap.size := by
  have hi : i < H.length := by rw [← hh.lenι]; exact (List.getElem?_eq_some_iff.1 h).1
  obtain ⟨_, arr, t, h2, _⟩ := hh.cells i g H[i] h (List.getElem?_eq_getElem hi)
  exact (Array.getElem?_eq_some_iff.1 h2).1
theorem κ_lt (hh : Holds base w0 E w H O) {k : Nat} {v : Value} {g : Nat} (h : E.κ[k]? = some v) (hg : v.ownBlock = some g) : base ≤ g ∧ g < w.heap.size := by
  have hk : k < O.length := by rw [← hh.lenκ]; exact (List.getElem?_eq_some_iff.1 h).1
  obtain ⟨⟨xs, ho, _⟩, _⟩ := hh.owns k v O[k] h (List.getElem?_eq_getElem hk)
  exact ho.lt g hg

/-- A new block of the call's own. -/
theorem Holds.box (hh : Holds base w0 E w H O) {cs : List AV} {arr : Array Value} (t : TypeId) (hr : RepB E w cs arr) (hbt : ∀ t', bty cs = some t' → t = t' ∧ ∃ v, arr = #[.pointer none, v]) :
    Holds base w0 ⟨E.S, E.ι ++ [w.heap.size], E.κ⟩ (w.alloc (.cells arr t)) (H ++ [cs]) O := by
  have hx := ext_alloc hh (.cells arr t)
  have hsz : base ≤ w.heap.size := Nat.le_trans hh.hb hh.below.size
  have hold : ∀ g, g < w.heap.size → (w.alloc (.cells arr t)).heap[g]? = w.heap[g]? := fun g hg => Below.heap_alloc w _ g hg
  have split : ∀ (i g : Nat), (E.ι ++ [w.heap.size])[i]? = some g → (E.ι[i]? = some g ∧ i < H.length) ∨ (i = H.length ∧ g = w.heap.size) := by
    intro i g h
    rcases Nat.lt_or_ge i E.ι.length with hl | hl
    · rw [List.getElem?_append_left hl] at h; exact .inl ⟨h, by rw [← hh.lenι]; exact hl⟩
    · rw [List.getElem?_append_right hl] at h
      have : i - E.ι.length = 0 := by
        rcases Nat.eq_zero_or_pos (i - E.ι.length) with h0 | h0
        · exact h0
        · rw [List.getElem?_eq_none (by simp; omega)] at h; cases h
      rw [this] at h
      simp at h
      exact .inr ⟨by have := hh.lenι; omega, h.symm⟩
  refine ⟨hh.below.trans ((Below.refl _ _).alloc hsz _), hh.hb, fun g o h => ?_, by simp [hh.lenι], hh.lenκ, ?_, ?_, ?_, ?_, ?_, hh.κinj, ?_⟩
  · obtain ⟨u, hu⟩ := hh.imm g o h
    exact ⟨u, (hx.cell g o h).trans hu⟩
  · intro i j g hi hj
    rcases split i g hi with ⟨h1, l1⟩ | ⟨h1, l1⟩ <;> rcases split j g hj with ⟨h2, l2⟩ | ⟨h2, l2⟩
    · exact hh.inj i j g h1 h2
    · have := ι_lt hh h1; omega
    · have := ι_lt hh h2; omega
    · omega
  · intro i g cs' hi hcs
    rcases split i g hi with ⟨h1, l1⟩ | ⟨h1, l1⟩
    · rw [List.getElem?_append_left l1] at hcs
      obtain ⟨a1, arr', t', a2, a3, a4⟩ := hh.cells i g cs' h1 hcs
      exact ⟨a1, arr', t', (hold g (ι_lt hh h1)).trans a2, a3, fun j x u hj hu => (a4 j x u hj hu).mono hx⟩
    · subst h1; subst l1
      simp at hcs; subst hcs
      exact ⟨hsz, arr, t, heap_alloc_new w _, hr.1, fun j x u hj hu => (hr.2 j x u hj hu).mono hx⟩
  · intro i g hi o hs
    rcases split i g hi with ⟨h1, l1⟩ | ⟨h1, l1⟩
    · exact hh.apart i g h1 o hs
    · obtain ⟨u, hu⟩ := hh.imm g o hs
      have := lt_of_cell hu
      omega
  · intro k v d hk hd
    obtain ⟨⟨xs, ho, hr'⟩, h2, h3, h4⟩ := hh.owns k v d hk hd
    exact ⟨⟨xs, ho.alloc _, hr'.mono hx.S hx.cell⟩, h2, h3, h4⟩
  · intro k v g hk hg i hi
    rcases split i g hi with ⟨h1, l1⟩ | ⟨h1, l1⟩
    · exact hh.κapart k v g hk hg i h1
    · have := (κ_lt hh hk hg).2; omega
  · intro i g cs' t' hi hcs hb'
    rcases split i g hi with ⟨h1, l1⟩ | ⟨h1, l1⟩
    · rw [List.getElem?_append_left l1] at hcs
      obtain ⟨p, v, q1, q2⟩ := hh.bld i g cs' t' h1 hcs hb'
      exact ⟨p, v, (hold g (ι_lt hh h1)).trans q1, q2⟩
    · subst h1; subst l1
      simp at hcs; subst hcs
      obtain ⟨rfl, v, rfl⟩ := hbt t' hb'
      exact ⟨_, v, heap_alloc_new w _, .inl rfl⟩

/-- A store into a block of the call's own. -/
theorem Holds.setBlock (hh : Holds base w0 E w H O) {id g : Nat} {cs : List AV} {arr old : Array Value} {t : TypeId} (hid : E.ι[id]? = some g) (hb : w.heap[g]? = some (.cells old t (0, 0))) (hr : RepB E w cs arr) (hbt : ∀ t', bty cs = some t' → t = t' ∧ ∃ p v, arr = #[p, v] ∧ (p = .pointer none ∨ p = .pointer (some ⟨g, 0, none⟩))) :
    Holds base w0 E (w.setRow g arr) (H.set id cs) O ∧ Ext E w E (w.setRow g arr) := by
  have hi : id < H.length := by rw [← hh.lenι]; exact (List.getElem?_eq_some_iff.1 hid).1
  have hbase : base ≤ g := (hh.cells id g H[id] hid (List.getElem?_eq_getElem hi)).1
  have hoth : ∀ k, k ≠ g → (w.setRow g arr).heap[k]? = w.heap[k]? := fun k hk => setRow_other w g k arr hk
  have hx : Ext E w E (w.setRow g arr) := ⟨fun _ _ h => h, fun k o h => World.cell?_of_block (w := w) (a := ⟨k, o, none⟩) (hoth k (fun e => by subst e; exact hh.apart id k hid o h)), fun _ _ h => h, fun _ _ h => h⟩
  refine ⟨⟨hh.below.trans ⟨rfl, rfl, rfl, by simp, fun k hk => hoth k (by omega)⟩, hh.hb, fun k o h => ?_, by simp [hh.lenι], hh.lenκ, hh.inj, ?_, hh.apart, ?_, hh.κapart, hh.κinj, ?_⟩, hx⟩
  · obtain ⟨u, hu⟩ := hh.imm k o h
    exact ⟨u, (hx.cell k o h).trans hu⟩
  · intro i k cs' hk hcs
    by_cases hik : i = id
    · subst hik
      have : k = g := Option.some.inj (hk.symm.trans hid)
      subst this
      rw [List.getElem?_set_self hi] at hcs
      injection hcs with hcs
      subst hcs
      exact ⟨hbase, arr, t, setRow_heap w k old arr t (0, 0) hb, hr.1, fun j x u hj hu => (hr.2 j x u hj hu).mono hx⟩
    · rw [List.getElem?_set_ne (Ne.symm hik)] at hcs
      obtain ⟨a1, arr', t', a2, a3, a4⟩ := hh.cells i k cs' hk hcs
      have hne : k ≠ g := fun e => hik (hh.inj i id g (e ▸ hk) hid)
      exact ⟨a1, arr', t', (hoth k hne).trans a2, a3, fun j x u hj hu => (a4 j x u hj hu).mono hx⟩
  · intro k v d hk hd
    obtain ⟨⟨xs, ho, hr'⟩, h2, h3, h4⟩ := hh.owns k v d hk hd
    refine ⟨⟨xs, ⟨ho.1, ?_⟩, hr'.mono hx.S hx.cell⟩, h2, h3, h4⟩
    rcases ho.2 with e | ⟨g', cap, cur, e1, e2, e3, r⟩
    · exact .inl e
    · refine .inr ⟨g', cap, cur, e1, e2, (hoth g' (fun e => ?_)).trans e3, r⟩
      subst e1
      exact hh.κapart k _ g' hk rfl id (e ▸ hid)
  · intro i k cs' t' hk hcs hb'
    by_cases hik : i = id
    · subst hik
      have : k = g := Option.some.inj (hk.symm.trans hid)
      subst this
      rw [List.getElem?_set_self hi] at hcs
      injection hcs with hcs
      subst hcs
      obtain ⟨rfl, p, v, rfl, h⟩ := hbt t' hb'
      exact ⟨p, v, setRow_heap w k old _ t (0, 0) hb, h⟩
    · rw [List.getElem?_set_ne (Ne.symm hik)] at hcs
      obtain ⟨p, v, q1, q2⟩ := hh.bld i k cs' t' hk hcs hb'
      have hne : k ≠ g := fun e => hik (hh.inj i id g (e ▸ hk) hid)
      exact ⟨p, v, (hoth k hne).trans q1, q2⟩

theorem lay_rep (hh : Holds base w0 E w H O) {x : AV} {v : Value} (h : RepV E w x v) (hl : layable x = true) : RepB E w (layOf x) v.cells ∧ ∀ u ∈ v.cells.toList, u.oneCell' = true := by
  have one : ∀ {x : AV} {v : Value}, RepV E w x v → v.cells = #[v] → v.oneCell' = true → RepB E w [x] v.cells ∧ ∀ u ∈ v.cells.toList, u.oneCell' = true := by
    intro x v h hc h1
    rw [hc]
    refine ⟨⟨rfl, fun j y u hj hu => ?_⟩, fun u hu => by simp at hu; subst hu; exact h1⟩
    cases j with
    | zero => simp at hj hu; subst hj; subst hu; exact h
    | succ j => simp at hj
  cases h with
  | a h => exact one (.a h) h.cells h.one
  | agg hs h =>
    rename_i xs arr
    refine ⟨⟨by simp [layOf, Value.cells, hs], fun j y u hj hu => ?_⟩, fun u hu => ?_⟩
    · simp only [layOf, List.getElem?_map] at hj
      cases hx : xs[j]? with
      | none => rw [hx] at hj; simp at hj
      | some z => rw [hx] at hj; simp at hj; subst hj; exact .a (h j z u hx hu)
    · obtain ⟨j, hj, rfl⟩ := List.mem_iff_getElem.1 hu
      have hj' : j < arr.size := by simpa [Value.cells] using hj
      have : j < xs.length := by omega
      exact (h j xs[j] _ (List.getElem?_eq_getElem this) (by simp [Value.cells, hj'])).one
  | tup => simp [layable] at hl
  | loc h => exact one (.loc h) rfl rfl
  | ptr h => exact one (.ptr h) rfl rfl
  | nilptr => exact one .nilptr rfl rfl
  | full => simp [layable] at hl
  | own h =>
    have hr := (rep_own hh (.own h)).form
    obtain ⟨A, c, rfl⟩ := hr
    exact one (.own h) rfl rfl
  | nn => simp [layable] at hl
  | eptr => simp [layable] at hl
  | vsl => simp [layable] at hl
  | mix hs h =>
    rename_i xs arr
    have hall : ∀ x ∈ xs, layable1 x = true := by simpa [layable] using hl
    refine ⟨⟨by simp [layOf, Value.cells, hs], fun j y u hj hu => h j y u hj (by simpa [Value.cells] using hu)⟩, fun u hu => ?_⟩
    obtain ⟨j, hj, rfl⟩ := List.mem_iff_getElem.1 hu
    have hj' : j < arr.size := by simpa [Value.cells] using hj
    have hjx : j < xs.length := by omega
    have hr := h j xs[j] arr[j] (List.getElem?_eq_getElem hjx) (by simp [hj'])
    have h1 := hall _ (List.getElem_mem hjx)
    have : arr[j].oneCell' = true := by
      generalize xs[j] = x at hr h1
      generalize arr[j] = v at hr
      cases hr with
      | a h => exact h.one
      | loc => rfl
      | ptr => rfl
      | nilptr => rfl
      | own h =>
        obtain ⟨A, c, rfl⟩ := (rep_own hh (.own h)).form
        rfl
      | _ => simp [layable1] at h1
    simpa [Value.cells] using this
  | clo hs h => exact one (.clo hs h) rfl rfl
  | bself => simp [layable] at hl
  | ownv => simp [layable] at hl
  | ownc => simp [layable] at hl
  | undef => simp [layable] at hl
  | any => simp [layable] at hl

/-- Sat behind an operation. -/
structure Rest (C : Ctx) (E : Env) (w : World) (st : St) : Prop where
  holds : Holds C.base C.w0 E w st.H st.O
  S : ∀ g o, C.E0.S g o → E.S g o
  ι : ∀ (i g : Nat), C.E0.ι[i]? = some g → E.ι[i]? = some g
  news : ∀ g o, E.S g o → C.E0.S g o ∨ C.base ≤ g

theorem put_size (a : Act) (d : Option Nat) (v : Value) : (a.put d v).tmps.size = a.tmps.size := by cases d <;> simp [Act.put]
theorem put_defers (a : Act) (d : Option Nat) (v : Value) : (a.put d v).defers = a.defers := by cases d <;> rfl

theorem Sat.put {C : Ctx} {E : Env} {a : Act} {w : World} {st : St} (h : Sat C E a w st) {x : AV} {v : Value} (hv : RepV E w x v) (d : Option Nat) : Sat C E (a.put d v) w (st.put d x) := by
  cases d with
  | none => exact h
  | some d => exact ⟨h.holds, h.S, h.ι, h.news, h.defers, h.κ, h.fr.set hv d⟩

theorem Sat.later {C : Ctx} {E E' : Env} {a : Act} {w w' : World} {st : St} {H' : List (List AV)} {O' : List OwnD} (h : Sat C E a w st) (hh : Holds C.base C.w0 E' w' H' O') (hx : Ext E w E' w') (hn : ∀ g o, E'.S g o → E.S g o ∨ C.base ≤ g) : Sat C E' a w' { st with H := H', O := O' } :=
  ⟨hh, fun g o k => ⟨hx.S g o (h.S g o k).1, (hx.cell g o (h.S g o k).1).trans (h.S g o k).2⟩, fun i g k => hx.ι i g (h.ι i g k), fun g o k => (hn g o k).elim (h.news g o) .inr, h.defers, fun q k v e => hx.κ k v (h.κ q k v e), h.fr.mono hx⟩

/-- What an operation does. -/
def OpOk (P : Program) (C : Ctx) (o : Oper) (st : St) (K : AV → St → Prop) : Prop :=
  ∀ (E : Env) (a : Act) (w : World), Sat C E a w st → ∀ (KK : Act → World → Prop) (Q : Exit → Act → World → Prop),
    (∀ E' w' u v st', K v st' → Sat C E' (a.put o.dst u) w' (st'.put o.dst v) → KK (a.put o.dst u) w') → o.wp P a w KK Q

theorem ok_soft {C : Ctx} {o : Oper} {ao : AO} {st : St} {K : AV → St → Prop} (hc : cOp P o = some ao) (hs : isSoft ao = true) (h : asoft P (aval st.fr) st.H st.O (fun v => K v st) ao) : OpOk P C o st K := by
  obtain ⟨r, hg, hk⟩ := soft_good hc hs h
  intro E a w hsat KK Q hKK
  refine hg C.base C.w0 E a w hsat.holds (fun x y _ hy => rep_aval hsat.fr hy) KK Q fun v E' w' hh hx hn hv => ?_
  exact hKK E' w' v r st hk ((hsat.later hh hx hn).put hv _)

theorem markB_rep (t : TypeId) {E : Env} {w : World} {zs : List AV} {arr : Array Value} (h : RepB E w zs arr) : RepB E w (markB t zs) arr := by
  unfold markB
  split
  · refine ⟨h.1, fun j x u hj hu => ?_⟩
    cases j with
    | zero => simp at hj; subst hj; exact .bself
    | succ j => exact h.2 (j + 1) x u (by simpa using hj) hu
  · exact h
theorem markB_bty {t : TypeId} {E : Env} {w : World} {cs : List Value} {zs : List AV} {arr : Array Value} (hz : mapO cCell cs = some zs) (h : RepB E w zs arr) (t' : TypeId) (hb : bty (markB t zs) = some t') : t = t' ∧ ∃ v, arr = #[.pointer none, v] := by
  unfold markB at hb
  split at hb
  · simp only [bty, Option.some.injEq] at hb
    refine ⟨hb, ?_⟩
    obtain ⟨h1, h2⟩ := h
    simp at h1
    have e0 := h2 0 .nilptr arr[0] rfl (by simp [h1])
    generalize hu : arr[0] = u at e0
    cases e0
    refine ⟨arr[1], ?_⟩
    apply Array.ext (by simp [h1])
    intro i hi1 hi2
    simp at hi2
    match i with
    | 0 => exact hu
    | 1 => rfl
    | i + 2 => omega
  · exfalso
    obtain ⟨xs, rfl⟩ := bty_some hb
    cases cs with
    | nil => simp [mapO] at hz
    | cons c cs =>
      have := (mapO_spec hz).2 0 (.bself t') c rfl rfl
      unfold cCell at this
      split at this
      · cases this
      · cases this
      · cases this
      · simp only [Option.map_eq_some_iff] at this
        obtain ⟨y, _, hy⟩ := this
        cases hy
theorem bty_store {l : List AV} {y : AV} {off n : Nat} (hl : layable y = true) (hn : (layOf y).length = n) {t : TypeId} (h : bty (l.take off ++ layOf y ++ l.drop (off + n)) = some t) : bty l = some t ∧ (0 < off ∨ n = 0) := by
  have hb := bty_lay hl
  cases off with
  | zero =>
    rw [List.take_zero, List.nil_append, Nat.zero_add] at h
    cases hy : layOf y with
    | nil =>
      rw [hy] at h hn
      simp only [List.length_nil] at hn
      subst hn
      exact ⟨by simpa using h, .inr rfl⟩
    | cons z zs =>
      exfalso
      rw [hy] at h hb
      obtain ⟨xs, e⟩ := bty_some h
      rw [List.cons_append] at e
      injection e with e1 e2
      subst e1
      simp [bty] at hb
  | succ off =>
    cases l with
    | nil =>
      exfalso
      rw [List.take_nil, List.nil_append, List.drop_nil, List.append_nil, hb] at h
      cases h
    | cons z zs =>
      obtain ⟨xs, e⟩ := bty_some h
      rw [List.take_succ_cons, List.cons_append, List.cons_append] at e
      injection e with e1 e2
      subst e1
      exact ⟨rfl, .inl (Nat.succ_pos _)⟩
theorem two_of {l : List Value} {p : Value} (h2 : l.length = 2) (h0 : l[0]? = some p) : ∃ v, l.toArray = #[p, v] := by
  match l, h2 with
  | [a, b], _ => simp at h0; subst h0; exact ⟨b, rfl⟩

theorem ok_alloc {C : Ctx} {o : Oper} {t : TypeId} {st : St} {K : AV → St → Prop} {i : TypeInfo} {z : Value} {zs : List AV} (ho : o.op = .alloc t) (hi : P.info? t = some i) (hz : i.zero = some z) (hzs : mapO cCell z.cells.toList = some zs)
    (h : K (.loc st.H.length 0) { st with H := st.H ++ [markB t zs] }) : OpOk P C o st K := by
  intro E a w hsat KK Q hKK
  have hrun : (execOp a.eval o).run P w = .ok (.value (.pointer (some ⟨w.heap.size, 0, none⟩))) (w.alloc (.cells z.cells t)) := by
    have hnew : (newVar t z).run P w = .ok ⟨w.heap.size, 0, none⟩ (w.alloc (.cells z.cells t)) := rfl
    simp only [execOp, ho, Instr.alloc, Sem.run_bind, zeroValue, run_info hi, Result.andThen_ok, hz, Sem.run_pure, hnew]
  have hr : RepB E w zs z.cells := by
    obtain ⟨h1, h2⟩ := mapO_spec hzs
    exact ⟨by simpa using h1.symm, fun j x u hj hu => cCell_rep (h2 j x u hj (by simpa using hu))⟩
  have hh := hsat.holds.box t (markB_rep t hr) (markB_bty hzs hr)
  have hl := hsat.holds.lenι
  refine wp_value hrun (hKK _ _ _ _ _ h ((hsat.later hh (ext_alloc hsat.holds _) (fun g o h => .inl h)).put (.loc ?_) _))
  simp [← hl]

theorem ok_box {C : Ctx} {o : Oper} {t : TypeId} {x : Operand} {x' : AX} {st : St} {K : AV → St → Prop} (ho : o.op = .box t x) (hx : cX x = some x') (hl : layable (aval st.fr x') = true)
    (h : K (.loc st.H.length 0) { st with H := st.H ++ [layOf (aval st.fr x')] }) : OpOk P C o st K := by
  intro E a w hsat KK Q hKK
  obtain ⟨hr, _⟩ := lay_rep hsat.holds (rep_aval hsat.fr hx) hl
  have hrun : (execOp a.eval o).run P w = .ok (.value (.pointer (some ⟨w.heap.size, 0, none⟩))) (w.alloc (.cells (a.eval x).cells t)) := by
    have hnew : (newVar t (a.eval x)).run P w = .ok ⟨w.heap.size, 0, none⟩ (w.alloc (.cells (a.eval x).cells t)) := rfl
    simp only [execOp, ho, Instr.box, Sem.run_bind, hnew, Result.andThen_ok, Sem.run_pure]
  have hh := hsat.holds.box t hr (fun t' hb' => by rw [bty_lay hl] at hb'; cases hb')
  have hlen := hsat.holds.lenι
  refine wp_value hrun (hKK _ _ _ _ _ h ((hsat.later hh (ext_alloc hsat.holds _) (fun g o h => .inl h)).put (.loc ?_) _))
  simp [← hlen]

theorem ok_store {C : Ctx} {o : Oper} {t : TypeId} {x y : Operand} {x' y' : AX} {n id off : Nat} {st : St} {K : AV → St → Prop} (ho : o.op = .store t x y) (hx : cX x = some x') (hy : cX y = some y') (hn : sizeAt P t = some n) (hev : aval st.fr x' = .loc id off)
    (hl : layable (aval st.fr y') = true) (hlen : (layOf (aval st.fr y')).length = n) (hfit : off + n ≤ (st.H.getD id []).length)
    (h : K .undef { st with H := st.H.set id ((st.H.getD id []).take off ++ layOf (aval st.fr y') ++ (st.H.getD id []).drop (off + n)) }) : OpOk P C o st K := by
  intro E a w hsat KK Q hKK
  obtain ⟨g, hg, hv⟩ := (hev ▸ rep_aval hsat.fr hx).loc_
  obtain ⟨hr, h1⟩ := lay_rep hsat.holds (rep_aval hsat.fr hy) hl
  have hh := hsat.holds
  have hid : id < st.H.length := by rw [← hh.lenι]; exact (List.getElem?_eq_some_iff.1 hg).1
  have e : st.H.getD id [] = st.H[id] := by simp [hid]
  obtain ⟨hb, arr, t', hblk, hsz, hcs⟩ := hh.cells id g st.H[id] hg (List.getElem?_eq_getElem hid)
  rw [e] at hfit h
  have hvs : (a.eval y).cells.size = n := by rw [hr.1]; exact hlen
  have hst := run_storeCells_at (P := P) g off t' (a.eval y).cells.toList 0 arr w hblk (by simp; omega) h1
  simp only [Nat.add_zero] at hst
  have hrun : (execOp a.eval o).run P w = .ok .skip (w.setRow g (arr.toList.take off ++ (a.eval y).cells.toList ++ arr.toList.drop (off + (a.eval y).cells.toList.length)).toArray) := by
    simp only [execOp, ho, hv, Instr.storeAt, Instr.sureAddr, storeVar, Sem.run_bind, Sem.run_pure, Result.andThen_ok, run_size hn, hvs, ne_eq, not_true_eq_false, if_false, hst]
  have hrb : RepB E w (st.H[id].take off ++ layOf (aval st.fr y') ++ st.H[id].drop (off + n)) (arr.toList.take off ++ (a.eval y).cells.toList ++ arr.toList.drop (off + (a.eval y).cells.toList.length)).toArray := by
    have hl2 : (a.eval y).cells.toList.length = n := by simpa using hvs
    refine ⟨by simp [hlen, hvs]; omega, fun j z u hj hu => ?_⟩
    simp only [List.getElem?_toArray] at hu
    by_cases c1 : j < off
    · rw [List.append_assoc, List.getElem?_append_left (by simp; omega), List.getElem?_take, if_pos c1] at hj hu
      exact hcs j z u hj (by simpa using hu)
    · by_cases c2 : j < off + n
      · rw [List.append_assoc, List.getElem?_append_right (by simp; omega), List.getElem?_append_left (by simp [hlen, hvs]; omega)] at hj hu
        have e1 : j - (List.take off st.H[id]).length = j - off := by rw [List.length_take]; omega
        have e2 : j - (List.take off arr.toList).length = j - off := by rw [List.length_take, Array.length_toList]; omega
        rw [e1] at hj; rw [e2] at hu
        exact hr.2 (j - off) z u hj (by simpa using hu)
      · rw [List.append_assoc, List.getElem?_append_right (by simp; omega), List.getElem?_append_right (by simp [hlen, hvs]; omega), List.getElem?_drop] at hj hu
        have e1 : off + n + (j - (List.take off st.H[id]).length - (layOf (aval st.fr y')).length) = j := by rw [List.length_take]; omega
        have e2 : off + (a.eval y).cells.toList.length + (j - (List.take off arr.toList).length - (a.eval y).cells.toList.length) = j := by simp only [List.length_take, Array.length_toList, hvs]; omega
        rw [e1] at hj; rw [e2] at hu
        exact hcs j z u hj (by simpa using hu)
  obtain ⟨hh2, hx2⟩ := hh.setBlock hg hblk hrb (fun t'' hb' => by
    obtain ⟨q1, q2⟩ := bty_store hl hlen hb'
    obtain ⟨p, v, q3, q4⟩ := hh.bld id g st.H[id] t'' hg (List.getElem?_eq_getElem hid) q1
    rw [hblk] at q3
    injection q3 with q3
    injection q3 with q5 q6
    subst q5; subst q6
    have hl2 : (a.eval y).cells.toList.length = n := by simpa using hvs
    have h2 : st.H[id].length = 2 := by rw [← hsz]; rfl
    obtain ⟨v2, e2⟩ := two_of (l := #[p, v].toList.take off ++ (a.eval y).cells.toList ++ #[p, v].toList.drop (off + (a.eval y).cells.toList.length)) (p := p)
      (by rw [List.length_append, List.length_append, List.length_take, List.length_drop, hl2]; simp; omega)
      (by
        rcases q2 with q2 | q2
        · rw [List.append_assoc, List.getElem?_append_left (by rw [List.length_take]; simp; omega), List.getElem?_take, if_pos q2]; rfl
        · have hn0 : (a.eval y).cells.toList = [] := List.eq_nil_of_length_eq_zero (by omega)
          rw [hn0, List.append_nil, List.length_nil, Nat.add_zero, List.take_append_drop]; rfl)
    exact ⟨rfl, p, v2, e2, q4⟩)
  exact wp_skip_ hrun (hKK _ _ _ _ _ h ((hsat.later hh2 hx2 (fun g o h => .inl h)).put .undef _))
end
end Ab
