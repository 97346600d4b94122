/- The text builder in the abstract layer: what WriteString and String do to the caller's memory, out of their contracts on worlds. -/
import Derived.Test.YtbiongfnbbnndaaAbP
import Derived.Test.YtbiongfnbbnndaaAbS
import Derived.Lib.Builder
import Derived.Lib.AppendStr
import Derived.Lib.UnsafeStr
set_option linter.unusedSimpArgs false
set_option linter.unusedVariables false
namespace Ab
open Go Go.RowKit

section
variable {P : Program}

theorem run_app_str (w : World) (base : Nat) (t u ty e : TypeId) (i : TypeInfo) (ht : P.underlying t = some (.slice e)) (hu : P.underlying u = some .string) (hi : P.info? e = some i) (hz : i.zero = some (.int .u8 0))
    (hsize : i.size = 1) (hby : i.bytes = 1) (v : Value) (n : Nat) (xs : List Value) (hown : w.ownsRow base e 1 v n xs) (s : ByteArray)
    (h63 : n + s.size ≤ maxLen) (hbytes : n + s.size ≤ 140737488355328) (hbase : base ≤ w.heap.size) :
    ∃ v' w', (Builtin.append_ #[t, u] ty #[v, .string s]).run P w = .ok v' w' ∧ w'.ownsRow base e 1 v' (n + s.size) (xs ++ Lib.strCells s) ∧ w.grownBy w' v.ownBlock ∧ (v'.ownBlock = v.ownBlock ∨ v'.ownBlock = some w.heap.size) ∧
      (∀ g o u, v.ownBlock = some g → o < n → w.cell? ⟨g, o, none⟩ = some u → w'.cell? ⟨g, o, none⟩ = some u) := by
  obtain ⟨v', w', hrun, h2, h3, h4⟩ := Lib.run_append_own_string (P := P) w base t u ty e i ht hu hi hz hsize hby v n xs hown s h63 hbytes hbase
  have hxl : xs.length = n := by simpa using hown.1
  have h63' : n + s.size ≤ 9223372036854775807 := by simp only [maxLen] at h63; omega
  rcases hown.2 with ⟨rfl, rfl⟩ | ⟨g, cap, cur, rfl, hbg, hg, hnc, hcm, hcs, htake⟩
  · refine ⟨v', w', hrun, h2, h3, ?_, fun g o u hg => by simp [Value.ownBlock] at hg⟩
    by_cases hm : s.size = 0
    · have := h4.2 ⟨rfl, hm⟩
      subst this; exact .inl rfl
    · have hr := run_append_nil_string (P := P) w t u ty e i (.int .u8 0) ht hu hi hz s (by omega) (by omega) (by rw [hby]; omega)
      rw [hr] at hrun
      injection hrun with hv _
      subst hv; exact .inr rfl
  · have hcs' : cur.size = cap := by simpa using hcs
    by_cases hroom : n + s.size ≤ cap
    · have hr := Lib.run_append_room_string (P := P) w t u ty e i ht hu hi hsize g n cap cur hg s hroom (by omega)
      rw [hr] at hrun
      injection hrun with hv hw
      subst hv; subst hw
      refine ⟨_, _, hr, h2, h3, .inl rfl, fun g' o u' hg' ho hu' => ?_⟩
      simp [Value.ownBlock] at hg'
      subst hg'
      rw [cell_of_row _ _ _ _ e (0, 0) (setRow_heap w g cur _ e _ hg)]
      rw [cell_of_row _ _ _ cur e (0, 0) hg] at hu'
      rw [List.getElem?_toArray, List.append_assoc, List.getElem?_append_left (by simp; omega), List.getElem?_take, if_pos ho]
      simpa using hu'
    · have holds : ∀ j u, xs[j]? = some u → w.cell? ((⟨g, 0, none⟩ : Addr).add j) = some u := hown.cells (g := g) rfl
      have hr := Lib.run_append_grow_string (P := P) w t u ty e i (.int .u8 0) ht hu hi hz ⟨g, 0, none⟩ n cap xs (by rw [hsize]; simpa using hxl) holds s (by omega) (by omega) (by rw [hby]; exact growslice_fits (by omega) (by omega))
      rw [hr] at hrun
      injection hrun with hv hw
      subst hv; subst hw
      refine ⟨_, _, hr, h2, h3, .inr rfl, fun g' o u' hg' ho hu' => ?_⟩
      exact (World.cell?_alloc_lt w.drew _ ⟨g', o, none⟩ (lt_of_cell hu')).trans hu'

theorem wpList_app_str {w : World} {ops : Array Oper} {rest : List Oper} {o : Oper} {a : Act} {Q : Exit → Act → World → Prop} (hgd : o.guard = none) (sl x : Operand) (t u : TypeId)
    (ho : o.op = .call { callee := .builtin .append, args := #[sl, x], argTypes := #[t, u] })
    (base : Nat) (e : TypeId) (i : TypeInfo) (ht : P.underlying t = some (.slice e)) (hu : P.underlying u = some .string) (hi : P.info? e = some i) (hz : i.zero = some (.int .u8 0))
    (hsize : i.size = 1) (hby : i.bytes = 1)
    (v : Value) (n : Nat) (xs : List Value) (hs : a.eval sl = v) (hown : w.ownsRow base e 1 v n xs) (s : ByteArray) (hx : a.eval x = .string s)
    (h63 : n + s.size ≤ maxLen) (hbytes : n + s.size ≤ 140737488355328) (hbase : base ≤ w.heap.size)
    (h : ∀ v' w', w'.ownsRow base e 1 v' (n + s.size) (xs ++ Lib.strCells s) → w.grownBy w' v.ownBlock → (v'.ownBlock = v.ownBlock ∨ v'.ownBlock = some w.heap.size) →
      (∀ g o u, v.ownBlock = some g → o < n → w.cell? ⟨g, o, none⟩ = some u → w'.cell? ⟨g, o, none⟩ = some u) → wpList P ops Q rest (a.put o.dst v') w') : wpList P ops Q (o :: rest) a w := by
  refine wpList_plain hgd fun K hK => ?_
  obtain ⟨v', w', hr, h2, h3, h4, h5⟩ := run_app_str (P := P) w base t u o.type e i ht hu hi hz hsize hby v n xs hown s h63 hbytes hbase
  unfold Oper.wp execOp
  simp only [ho, resolve, invoke, builtin, Sem.run_bind, Sem.run_pure, Result.andThen_ok, List.map_toArray, List.map_cons, List.map_nil, hs, hx, hr]
  exact hK _ _ (h v' w' h2 h3 h4 h5)

/-- A store of one cell of a block of two. -/
theorem setCell_two0 (w : World) (b : Nat) (p v q : Value) (T : TypeId) (h : w.heap[b]? = some (.cells #[p, v] T (0, 0))) : w.setCell ⟨b, 0, none⟩ q = w.setRow b #[q, v] := by
  have hlt : b < w.heap.size := (Array.getElem?_eq_some_iff.1 h).1
  have hv : w.heap[b] = .cells #[p, v] T (0, 0) := (Array.getElem?_eq_some_iff.1 h).2
  unfold World.setCell World.setRow
  congr 1
  apply Array.ext (by simp)
  intro i h1 h2
  rw [Array.getElem_modify, Array.getElem_modify]
  by_cases hb : b = i
  · subst hb; simp [hv]
  · simp [hb]
theorem setCell_two1 (w : World) (b : Nat) (p v q : Value) (T : TypeId) (h : w.heap[b]? = some (.cells #[p, v] T (0, 0))) : w.setCell ⟨b, 1, none⟩ q = w.setRow b #[p, q] := by
  have hlt : b < w.heap.size := (Array.getElem?_eq_some_iff.1 h).1
  have hv : w.heap[b] = .cells #[p, v] T (0, 0) := (Array.getElem?_eq_some_iff.1 h).2
  unfold World.setCell World.setRow
  congr 1
  apply Array.ext (by simp)
  intro i h1 h2
  rw [Array.getElem_modify, Array.getElem_modify]
  by_cases hb : b = i
  · subst hb; simp [hv]
  · simp [hb]
theorem setRow_id (w : World) (b : Nat) (arr : Array Value) (T : TypeId) (h : w.heap[b]? = some (.cells arr T (0, 0))) : w.setRow b arr = w := by
  have hlt : b < w.heap.size := (Array.getElem?_eq_some_iff.1 h).1
  have hv : w.heap[b] = .cells arr T (0, 0) := (Array.getElem?_eq_some_iff.1 h).2
  have : (w.heap.modify b fun | .cells _ elem frozen => .cells arr elem frozen | o => o) = w.heap := by
    apply Array.ext (by simp)
    intro i h1 h2
    rw [Array.getElem_modify]
    by_cases hb : b = i
    · subst hb; simp [hv]
    · simp [hb]
  show ({ w with heap := w.heap.modify b fun | .cells _ elem frozen => .cells arr elem frozen | o => o } : World) = w
  exact (congrArg (fun h => ({ w with heap := h } : World)) this)

/-- What WriteString does to a world. -/
def WriteSpec (P : Program) (f : FuncId) (TB U8 : TypeId) : Prop :=
  ∀ (B b : Nat) (p v : Value) (bs : List Value) (s : ByteArray) (w : World), B ≤ w.heap.size → B ≤ b → w.heap[b]? = some (.cells #[p, v] TB (0, 0)) →
    (p = .pointer none ∨ p = .pointer (some ⟨b, 0, none⟩)) → w.ownsRow B U8 1 v bs.length bs → v.ownBlock ≠ some b → bs.length + s.size ≤ 140737488355328 →
    Calls P f #[.pointer (some ⟨b, 0, none⟩), .string s] w fun e w' => ∃ x v' w2, e = .returned x ∧ (w.setRow b #[.pointer (some ⟨b, 0, none⟩), v]).grownBy w2 v.ownBlock ∧
      w2.ownsRow B U8 1 v' (bs.length + s.size) (bs ++ Lib.strCells s) ∧ (v'.ownBlock = v.ownBlock ∨ v'.ownBlock = some w.heap.size) ∧
      (∀ g o u, v.ownBlock = some g → o < bs.length → w.cell? ⟨g, o, none⟩ = some u → w2.cell? ⟨g, o, none⟩ = some u) ∧ w' = w2.setRow b #[.pointer (some ⟨b, 0, none⟩), v']
/-- What String does to a world. -/
def StringSpec (P : Program) (f : FuncId) (TB U8 : TypeId) : Prop :=
  ∀ (b g cap : Nat) (p : Value) (cur : Array Value) (l : List UInt8) (w : World), w.heap[b]? = some (.cells #[p, .slice (some ⟨g, 0, none⟩) l.length cap] TB (0, 0)) → w.heap[g]? = some (.cells cur U8 (0, 0)) →
    l ≠ [] → l.length ≤ cap → cap ≤ maxLen → cur.size = cap → cur.toList.take l.length = Lib.byteCells l →
    Calls P f #[.pointer (some ⟨b, 0, none⟩)] w fun e w' => e = .returned (.string ⟨l.toArray⟩) ∧ w' = w.drew.freeze ⟨g, 0, none⟩ l.length

theorem byteRows_len (l : List UInt8) : (byteRows l).length = l.length := by simp [byteRows]
theorem strCells_rep (S : Nat → Nat → Prop) (w : World) (s : ByteArray) : RepR S w 1 (byteRows s.data.toList) (Lib.strCells s) := by
  refine ⟨fun i r h => ?_, fun i r j x hi hj => ?_⟩
  · simp only [byteRows, List.getElem?_map, Option.map_eq_some_iff] at h
    obtain ⟨b, _, rfl⟩ := h
    rfl
  · simp only [byteRows, List.getElem?_map, Option.map_eq_some_iff] at hi
    obtain ⟨b, hb, rfl⟩ := hi
    cases j with
    | zero =>
      simp at hj; subst hj
      exact ⟨.int .u8 b.toNat, by simp only [Lib.strCells, List.getElem?_map, Nat.mul_one, Nat.add_zero, hb, Option.map_some], .int _ _⟩
    | succ j => simp at hj

/-- Behind the row's growth and the store of the new slice. -/
theorem bwrite_core {base : Nat} {w0 w w2 : World} {E : Env} {H : List (List AV)} {O O' : List OwnD} {i k g : Nat} {y : AV} {p v v' : Value} {TB U8 : TypeId} {l : List UInt8} {mu : Bool} {s : ByteArray} {xs : List Value} {κ' : List Value} {f : AV → AV}
    (hh : Holds base w0 E w H O) (hg : E.ι[i]? = some g) (hH : H[i]? = some [.bself TB, y]) (hb : w.heap[g]? = some (.cells #[p, v] TB (0, 0)))
    (hy : RepV E w y v) (hne : v.ownBlock ≠ some g)
    (hgr : (w.setRow g #[.pointer (some ⟨g, 0, none⟩), v]).grownBy w2 v.ownBlock) (hown : w2.ownsRow base U8 1 v' (l.length + s.size) (xs ++ Lib.strCells s)) (hatb : v'.ownBlock = v.ownBlock ∨ v'.ownBlock = some w.heap.size)
    (hkeep : ∀ g o u, v.ownBlock = some g → o < l.length → w.cell? ⟨g, o, none⟩ = some u → w2.cell? ⟨g, o, none⟩ = some u)
    (hvS : ∀ g, v.ownBlock = some g → E.κ[k]? = some v ∧ base ≤ g ∧ ∀ o, E.S g o ↔ (mu = false ∧ o < l.length)) (hxs : RepR E.S w 1 (byteRows l) xs) (hxl : xs.length = l.length)
    (hlen : l.length + s.size ≤ 140737488355328)
    (hκl : κ'.length = O'.length) (hκ : ∀ j u, κ'[j]? = some u → (j ≠ k ∧ E.κ[j]? = some u) ∨ (j = k ∧ u = v')) (hO : ∀ j d, O'[j]? = some d → (j ≠ k ∧ O[j]? = some d) ∨ (j = k ∧ d = ⟨U8, 1, byteRows l ++ byteRows s.data.toList, mu⟩))
    (hk' : κ'[k]? = some v')
    (hrep : ∀ (S' : Nat → Nat → Prop) (w1 : World), (∀ g o, E.S g o → S' g o) → (∀ g o, E.S g o → w2.cell? ⟨g, o, none⟩ = w1.cell? ⟨g, o, none⟩) → ∀ x u, RepV E w1 x u → RepV ⟨S', E.ι, κ'⟩ w2 (f x) u) (hfb : ∀ x t, f x = .bself t → x = .bself t) :
    ∃ E', Holds base w0 E' (w2.setRow g #[.pointer (some ⟨g, 0, none⟩), v']) ((H.map (·.map f)).set i [.bself TB, .own k]) O' ∧ ExtK false E w E' (w2.setRow g #[.pointer (some ⟨g, 0, none⟩), v']) ∧ ∀ g o, E'.S g o → E.S g o ∨ base ≤ g := by
  have hsz : base ≤ w.heap.size := Nat.le_trans hh.hb hh.below.size
  have hss : (byteRows s.data.toList).length = s.size := by rw [byteRows_len]; simp
  have hi : i < H.length := (List.getElem?_eq_some_iff.1 hH).1
  obtain ⟨hA, xA⟩ := hh.setBlock (cs := [.bself TB, y]) (arr := #[.pointer (some ⟨g, 0, none⟩), v]) hg hb ⟨rfl, fun j x u hj hu => by
      match j with
      | 0 => simp at hj; subst hj; exact .bself
      | 1 => simp at hj hu; subst hj; subst hu; exact hy
      | j + 2 => simp at hj⟩ (fun t' h => by simp only [bty, Option.some.injEq] at h; exact ⟨h, _, _, rfl, .inr rfl⟩)
  have hw1 : ∀ j, j ≠ g → (w.setRow g #[.pointer (some ⟨g, 0, none⟩), v]).heap[j]? = w.heap[j]? := fun j hj => setRow_other w g j _ hj
  have hsz1 : (w.setRow g #[.pointer (some ⟨g, 0, none⟩), v]).heap.size = w.heap.size := by simp [World.setRow]
  have hc1 : ∀ g' o, g' ≠ g → (w.setRow g #[.pointer (some ⟨g, 0, none⟩), v]).cell? ⟨g', o, none⟩ = w.cell? ⟨g', o, none⟩ := fun g' o hj => World.cell?_of_block (w := w) (a := ⟨g', o, none⟩) (hw1 g' hj)
  have hB := hA.app (k := k) (v := v) (v' := v') (w' := w2) (e := U8) (sz := 1) (rows := byteRows l) (news := byteRows s.data.toList) (mu := mu) (κ' := κ') (O' := O') (f := f) hgr (by rw [hsz1]; exact hatb)
    (fun g' o u hg' ho hu => by
      have hne' : g' ≠ g := fun e => hne (e ▸ hg')
      rw [byteRows_len, Nat.mul_one] at ho
      exact hkeep g' o u hg' ho (by rw [← hc1 g' o hne']; exact hu))
    (fun g' hg' => by
      obtain ⟨q1, q2, q3⟩ := hvS g' hg'
      exact ⟨q1, q2, fun o => by rw [byteRows_len, Nat.mul_one]; exact q3 o⟩) xs (Lib.strCells s) (hxs.mono xA.S xA.cell) (strCells_rep _ _ s) (by rw [byteRows_len, Nat.mul_one]; exact hxl)
    (by rw [byteRows_len, hss]; exact hown) (by rw [byteRows_len, hss]; omega) Nat.one_pos hκl hκ hO
    (fun g o => E.S g o ∨ (mu = false ∧ v'.ownBlock = some g ∧ o < ((byteRows l).length + (byteRows s.data.toList).length) * 1)) rfl (fun hc x u hr => hrep _ _ (fun g o h => .inl h) hc x u hr) hfb
  have hb2 : w2.heap[g]? = some (.cells #[.pointer (some ⟨g, 0, none⟩), v] TB (0, 0)) := by
    rw [hgr.block g (by rw [hsz1]; exact ι_lt hh hg) (fun e => hne e.symm)]
    exact setRow_heap w g _ _ TB (0, 0) hb
  obtain ⟨hC, xC⟩ := hB.setBlock (cs := [.bself TB, .own k]) (arr := #[.pointer (some ⟨g, 0, none⟩), v']) hg hb2 ⟨rfl, fun j x u hj hu => by
      match j with
      | 0 => simp at hj; subst hj; exact .bself
      | 1 => simp at hj hu; subst hj; subst hu; exact .own hk'
      | j + 2 => simp at hj⟩ (fun t' h => by simp only [bty, Option.some.injEq] at h; exact ⟨h, _, _, rfl, .inr rfl⟩)
  rw [List.map_set, List.set_set] at hC
  refine ⟨_, hC, ⟨fun g o h => .inl h, fun g' o h => ?_, fun _ _ h => h, fun h => by cases h⟩, fun g' o h => ?_⟩
  · have hg' : g' ≠ g := fun e => by subst e; exact hh.apart i g' hg o h
    rw [xC.cell g' o (.inl h)]
    obtain ⟨u, hu⟩ := hh.imm g' o h
    by_cases hgv : v.ownBlock = some g'
    · rw [hkeep g' o u hgv (((hvS g' hgv).2.2 o).1 h).2 hu, hu]
    · have hlt : g' < w.heap.size := lt_of_cell hu
      exact (World.cell?_of_block (w := w.setRow g #[.pointer (some ⟨g, 0, none⟩), v]) (a := ⟨g', o, none⟩) (hgr.block g' (by rw [hsz1]; exact hlt) (fun e => hgv e.symm))).trans (hc1 g' o hg')
  · rcases h with h | ⟨_, h, _⟩
    · exact .inl h
    · exact .inr (hown.lt g' h).1

theorem bself_at {base : Nat} {w0 w : World} {E : Env} {H : List (List AV)} {O : List OwnD} {i g : Nat} {y : AV} {TB : TypeId} (hh : Holds base w0 E w H O) (hg : E.ι[i]? = some g) (hH : H[i]? = some [.bself TB, y]) :
    base ≤ g ∧ ∃ p v, w.heap[g]? = some (.cells #[p, v] TB (0, 0)) ∧ (p = .pointer none ∨ p = .pointer (some ⟨g, 0, none⟩)) ∧ RepV E w y v := by
  obtain ⟨p, v, hb, hp⟩ := hh.bld i g _ TB hg hH rfl
  obtain ⟨hbg, arr, t, hb2, hsz, hcs⟩ := hh.cells i g _ hg hH
  rw [hb] at hb2
  injection hb2 with hb2
  injection hb2 with h1 h2
  subst h1
  exact ⟨hbg, p, v, hb, hp, hcs 1 y v rfl rfl⟩

/-- WriteString onto a builder that has been written. -/
theorem bwrite_iden {f : FuncId} {TB U8 : TypeId} (hw : WriteSpec P f TB U8) {H : List (List AV)} {O : List OwnD} {i k : Nat} {l : List UInt8} {mu : Bool} {s : ByteArray}
    (hH : H[i]? = some [.bself TB, .own k]) (hO : O[k]? = some ⟨U8, 1, byteRows l, mu⟩) (hs : l.length + s.size ≤ 140737488355328) :
    IDen P f [.loc i 0, .a (.str s)] H O .any ((H.map (·.map (inval k))).set i [.bself TB, .own k]) (O.set k ⟨U8, 1, byteRows (l ++ s.data.toList), mu⟩) false := by
  intro base w0 E w vs hh hargs
  obtain ⟨hl, hv⟩ := hargs
  match vs, hl with
  | [u0, u1], _ =>
  have r0 := hv 0 _ u0 rfl rfl
  have r1 := hv 1 _ u1 rfl rfl
  obtain ⟨g, hg, rfl⟩ := r0.loc_
  cases r1 with
  | a r1 =>
  cases r1 with
  | str _ hsz =>
  obtain ⟨hbg, p, v, hb, hp, hy⟩ := bself_at hh hg hH
  have hκ : E.κ[k]? = some v := by cases hy; assumption
  obtain ⟨⟨xs, ho, hr⟩, hlen, hpos, hat⟩ := hh.owns k v _ hκ hO
  simp only [byteRows_len, Nat.mul_one] at ho hat
  have hxl : xs.length = l.length := by simpa using ho.1
  have hne : v.ownBlock ≠ some g := fun e => hh.κapart k v g hκ e i hg
  have hsz : base ≤ w.heap.size := Nat.le_trans hh.hb hh.below.size
  have hkO : k < O.length := (List.getElem?_eq_some_iff.1 hO).1
  refine (hw base g p v xs s w hsz hbg hb hp (by rw [hxl]; exact ho) hne (by rw [hxl]; exact hs)).mono ?_
  rintro e w' ⟨x, v', w2, rfl, hgr, hown, hatb, hkeep, rfl⟩
  rw [hxl] at hown hkeep
  obtain ⟨E', h1, h2, h3⟩ := bwrite_core (k := k) (mu := mu) (κ' := E.κ.set k v') (O' := O.set k ⟨U8, 1, byteRows (l ++ s.data.toList), mu⟩) (f := inval k) hh hg hH hb hy hne hgr hown hatb hkeep
    (fun g' hg' => ⟨hκ, (ho.lt g' hg').1, hat g' hg'⟩) hr hxl hs (by simp [hh.lenκ])
    (fun j u hj => by
      by_cases hjk : j = k
      · subst hjk
        rw [List.getElem?_set_self (by rw [hh.lenκ]; exact hkO)] at hj
        injection hj with hj
        exact .inr ⟨rfl, hj.symm⟩
      · rw [List.getElem?_set_ne (Ne.symm hjk)] at hj; exact .inl ⟨hjk, hj⟩)
    (fun j d hj => by
      by_cases hjk : j = k
      · subst hjk
        rw [List.getElem?_set_self hkO] at hj
        injection hj with hj
        exact .inr ⟨rfl, by rw [← hj]; simp [byteRows]⟩
      · rw [List.getElem?_set_ne (Ne.symm hjk)] at hj; exact .inl ⟨hjk, hj⟩)
    (by rw [List.getElem?_set_self (by rw [hh.lenκ]; exact hkO)])
    (fun S' w1 hS hc x u hr => inval_rep hS hc hr) inval_b
  exact ⟨x, E', rfl, h1, h2, h3, .any⟩

/-- WriteString onto a fresh builder. -/
theorem bwrite_nil {f : FuncId} {TB U8 : TypeId} (hw : WriteSpec P f TB U8) {H : List (List AV)} {O : List OwnD} {i : Nat} {s : ByteArray}
    (hH : H[i]? = some [.bself TB, .a .nils]) (hs : s.size ≤ 140737488355328) :
    IDen P f [.loc i 0, .a (.str s)] H O .any (H.set i [.bself TB, .own O.length]) (O ++ [⟨U8, 1, byteRows s.data.toList, false⟩]) false := by
  intro base w0 E w vs hh hargs
  obtain ⟨hl, hv⟩ := hargs
  match vs, hl with
  | [u0, u1], _ =>
  have r0 := hv 0 _ u0 rfl rfl
  have r1 := hv 1 _ u1 rfl rfl
  obtain ⟨g, hg, rfl⟩ := r0.loc_
  cases r1 with
  | a r1 =>
  cases r1 with
  | str _ hsz =>
  obtain ⟨hbg, p, v, hb, hp, hy⟩ := bself_at hh hg hH
  have hv0 := hy.nils_eq
  subst hv0
  have hsz : base ≤ w.heap.size := Nat.le_trans hh.hb hh.below.size
  refine (hw base g p _ [] s w hsz hbg hb hp (World.ownsRow_nil w base U8 1) (by simp [Value.ownBlock]) (by simpa using hs)).mono ?_
  rintro e w' ⟨x, v', w2, rfl, hgr, hown, hatb, hkeep, rfl⟩
  obtain ⟨E', h1, h2, h3⟩ := bwrite_core (k := O.length) (l := []) (mu := false) (κ' := E.κ ++ [v']) (O' := O ++ [⟨U8, 1, byteRows s.data.toList, false⟩]) (f := id) hh hg hH hb hy (by simp [Value.ownBlock]) hgr hown hatb
    (fun g o u hgv => by simp [Value.ownBlock] at hgv)
    (fun g' hg' => by simp [Value.ownBlock] at hg') ⟨fun i r h => by simp [byteRows] at h, fun i r j x h => by simp [byteRows] at h⟩ rfl (by simpa using hs) (by simp [hh.lenκ])
    (fun j u hj => by
      rcases snoc_at hj with ⟨h1, h2⟩ | ⟨h1, h2⟩
      · exact .inl ⟨by have := hh.lenκ; omega, h2⟩
      · exact .inr ⟨by have := hh.lenκ; omega, h2⟩)
    (fun j d hj => by
      rcases snoc_at hj with ⟨h1, h2⟩ | ⟨h1, h2⟩
      · exact .inl ⟨by omega, h2⟩
      · exact .inr ⟨h1, by rw [h2]; simp [byteRows]⟩)
    (by rw [← hh.lenκ]; simp)
    (fun S' w1 hS hc x u hr => RepV.mono (E := E) (E' := ⟨S', E.ι, E.κ ++ [v']⟩) ⟨hS, hc, fun _ _ h => h, fun q z h => by
      show (E.κ ++ [v'])[q]? = _
      rw [List.getElem?_append_left (List.getElem?_eq_some_iff.1 h).1]; exact h⟩ hr) (fun _ _ h => h)
  have e : H.map (·.map id) = H := by simp
  rw [e] at h1
  exact ⟨x, E', rfl, h1, h2, h3, .any⟩

/-- String of a builder that holds bytes: its row is the string's from then on. -/
theorem bstring_iden {f : FuncId} {TB U8 : TypeId} (hw : StringSpec P f TB U8) {H : List (List AV)} {O : List OwnD} {i k : Nat} {l : List UInt8} {mu : Bool}
    (hH : H[i]? = some [.bself TB, .own k]) (hO : O[k]? = some ⟨U8, 1, byteRows l, mu⟩) (h0 : l ≠ []) :
    IDen P f [.loc i 0] H O (.a (.str ⟨l.toArray⟩)) (H.map (·.map (inval k))) (O.set k ⟨U8, 1, [], true⟩) false := by
  intro base w0 E w vs hh hargs
  obtain ⟨hl, hv⟩ := hargs
  match vs, hl with
  | [u0], _ =>
  have r0 := hv 0 _ u0 rfl rfl
  obtain ⟨g, hg, rfl⟩ := r0.loc_
  obtain ⟨hbg, p, v, hb, hp, hy⟩ := bself_at hh hg hH
  have hκ : E.κ[k]? = some v := by cases hy; assumption
  obtain ⟨⟨xs, ho, hr⟩, hlen, hpos, hat⟩ := hh.owns k v _ hκ hO
  simp only [byteRows_len, Nat.mul_one] at ho hat hlen
  have hxl : xs.length = l.length := by simpa using ho.1
  have hsz : base ≤ w.heap.size := Nat.le_trans hh.hb hh.below.size
  have hkO : k < O.length := (List.getElem?_eq_some_iff.1 hO).1
  have hl0 : l.length ≠ 0 := by simpa using h0
  have hxe : xs = Lib.byteCells l := by
    apply List.ext_getElem?
    intro j
    by_cases hj : j < l.length
    · have e1 : (byteRows l)[j]? = some [.int .u8 l[j].toNat] := by simp [byteRows, hj]
      obtain ⟨u, hu, hru⟩ := hr.2 j _ 0 _ e1 rfl
      rw [Nat.mul_one, Nat.add_zero] at hu
      cases hru
      rw [hu]
      simp [Lib.byteCells, hj]
    · rw [List.getElem?_eq_none (by omega), List.getElem?_eq_none (by simp [Lib.byteCells]; omega)]
  rcases ho.2 with ⟨_, hz⟩ | ⟨r, cap, cur, rfl, hbr, hrr, hnc, hcm, hcs, htake⟩
  · exact absurd hz hl0
  simp only [Nat.mul_one] at hcs htake
  have hrg : r ≠ g := fun e => hh.κapart k _ r hκ rfl i (e ▸ hg)
  refine (hw g r cap p cur l w hb hrr h0 hnc hcm hcs (by rw [htake, hxe])).mono ?_
  rintro e w' ⟨rfl, rfl⟩
  have hoth : ∀ j, j ≠ r → (w.drew.freeze ⟨r, 0, none⟩ l.length).heap[j]? = w.heap[j]? := fun j hj => by
    unfold World.freeze
    rw [if_neg hl0]
    simp only [Array.getElem?_modify]
    rw [if_neg (Ne.symm hj)]
    rfl
  have hcell : ∀ j o, (w.drew.freeze ⟨r, 0, none⟩ l.length).cell? ⟨j, o, none⟩ = w.cell? ⟨j, o, none⟩ := fun j o => by
    by_cases hj : j = r
    · subst hj
      have hd : w.drew.heap[j]? = some (.cells cur U8 (0, 0)) := hrr
      unfold World.freeze
      rw [if_neg hl0]
      simp [World.cell?, Array.getElem?_modify, hd, hrr]
    · exact World.cell?_of_block (w := w) (a := ⟨j, o, none⟩) (hoth j hj)
  have hbel : Below base w0 (w.drew.freeze ⟨r, 0, none⟩ l.length) := hh.below.trans (Lib.below_freeze (Below.drew (Below.refl base w)) (p := ⟨r, 0, none⟩) hbr _)
  have hrp : ∀ x u, RepV E w x u → RepV ⟨E.S, E.ι, E.κ.set k (.slice none 0 0)⟩ (w.drew.freeze ⟨r, 0, none⟩ l.length) (inval k x) u := fun x u hx => inval_rep (fun _ _ h => h) (fun j o _ => hcell j o) hx
  refine ⟨_, ⟨E.S, E.ι, E.κ.set k (.slice none 0 0)⟩, rfl, ⟨hbel, hh.hb, fun j o h => ?_, by simp [hh.lenι], by simp [hh.lenκ], hh.inj, ?_, hh.apart, ?_, ?_, ?_, ?_⟩, ⟨fun _ _ h => h, fun j o _ => hcell j o, fun _ _ h => h, fun h => by cases h⟩, fun _ _ h => .inl h, .a (.str _ (by
    have : (⟨l.toArray⟩ : ByteArray).size = l.length := by simp [ByteArray.size]
    omega))⟩
  · obtain ⟨u, hu⟩ := hh.imm j o h
    exact ⟨u, (hcell j o).trans hu⟩
  · intro q g' cs hq hcs'
    rw [List.getElem?_map] at hcs'
    cases hc : H[q]? with
    | none => rw [hc] at hcs'; simp at hcs'
    | some cs0 =>
      rw [hc] at hcs'; simp at hcs'; subst hcs'
      obtain ⟨a1, arr, t, a2, a3, a4⟩ := hh.cells q g' cs0 hq hc
      have hgr : g' ≠ r := fun e => hh.κapart k _ r hκ rfl q (e ▸ hq)
      refine ⟨a1, arr, t, (hoth g' hgr).trans a2, by simpa using a3, fun j x u hj hu => ?_⟩
      rw [List.getElem?_map] at hj
      cases hx : cs0[j]? with
      | none => rw [hx] at hj; simp at hj
      | some x0 => rw [hx] at hj; simp at hj; subst hj; exact hrp x0 u (a4 j x0 u hx hu)
  · intro j u d hj hd
    by_cases hjk : j = k
    · subst hjk
      rw [List.getElem?_set_self hkO] at hd
      rw [List.getElem?_set_self (by rw [hh.lenκ]; exact hkO)] at hj
      injection hd with hd
      injection hj with hj
      subst hd; subst hj
      exact ⟨⟨[], World.ownsRow_nil _ base U8 1, fun i r h => by simp at h, fun i r j x h => by simp at h⟩, Nat.zero_le _, Nat.one_pos, fun g hg => by simp [Value.ownBlock] at hg⟩
    · rw [List.getElem?_set_ne (Ne.symm hjk)] at hj hd
      obtain ⟨⟨xs', ho', hr'⟩, q2, q3, q4⟩ := hh.owns j u d hj hd
      refine ⟨⟨xs', ⟨ho'.1, ?_⟩, hr'.mono (fun _ _ h => h) (fun j o _ => hcell j o)⟩, q2, q3, q4⟩
      rcases ho'.2 with e | ⟨g', cap', cur', e1, e2, e3, rr⟩
      · exact .inl e
      · refine .inr ⟨g', cap', cur', e1, e2, (hoth g' (fun e => ?_)).trans e3, rr⟩
        subst e1
        exact hjk (hh.κinj j k _ _ r hj hκ (by simp [Value.ownBlock, e]) rfl)
  · intro j u g' hj hu q hq
    by_cases hjk : j = k
    · subst hjk
      rw [List.getElem?_set_self (by rw [hh.lenκ]; exact hkO)] at hj
      injection hj with hj
      subst hj
      simp [Value.ownBlock] at hu
    · rw [List.getElem?_set_ne (Ne.symm hjk)] at hj
      exact hh.κapart j u g' hj hu q hq
  · intro j q u z g' hj hq hu hz
    by_cases hjk : j = k
    · subst hjk
      rw [List.getElem?_set_self (by rw [hh.lenκ]; exact hkO)] at hj
      injection hj with hj
      subst hj
      simp [Value.ownBlock] at hu
    · by_cases hqk : q = k
      · subst hqk
        rw [List.getElem?_set_self (by rw [hh.lenκ]; exact hkO)] at hq
        injection hq with hq
        subst hq
        simp [Value.ownBlock] at hz
      · rw [List.getElem?_set_ne (Ne.symm hjk)] at hj
        rw [List.getElem?_set_ne (Ne.symm hqk)] at hq
        exact hh.κinj j q u z g' hj hq hu hz
  · intro q g' cs t hq hcs' hb'
    rw [List.getElem?_map] at hcs'
    cases hc : H[q]? with
    | none => rw [hc] at hcs'; simp at hcs'
    | some cs0 =>
      rw [hc] at hcs'; simp at hcs'; subst hcs'
      have hb0 : bty cs0 = some t := by
        obtain ⟨xs, e⟩ := bty_some hb'
        cases cs0 with
        | nil => simp at e
        | cons x cs0 =>
          rw [List.map_cons] at e
          injection e with e1 e2
          rw [inval_b x t e1]; rfl
      obtain ⟨p', v0, q1, q2⟩ := hh.bld q g' cs0 t hq hc hb0
      have hgr : g' ≠ r := fun e => hh.κapart k _ r hκ rfl q (e ▸ hq)
      exact ⟨p', v0, (hoth g' hgr).trans q1, q2⟩
end
end Ab
