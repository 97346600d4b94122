/- Single operations do what abstract code says: append. No program. -/
import Derived.Test.YtnhcahoeklpbfaaAbL
import Derived.Deep.DeepAppendWide
set_option linter.unusedSimpArgs false
set_option linter.unusedVariables false
namespace Ab
open Go Go.RowKit

section
variable {P : Program} {base : Nat} {w0 : World} {E : Env} {w : World} {H : List (List AV)} {O : List OwnD}

/-- The cells of a slice that is read, one after the other. -/
theorem rows_cells {S : Nat → Nat → Prop} {sz : Nat} {rows : List (List Atom)} {A : Option Addr} {c : Nat} (h : Rep S w (.slice sz rows) (.slice A rows.length c)) :
    ∃ news : List Value, news.length = rows.length * sz ∧ RepR S w sz rows news ∧ (∀ u ∈ news, u.oneCell' = true) ∧ (∀ ad, A = some ad → ∀ j u, news[j]? = some u → w.cell? (ad.add j) = some u) ∧ (A = none → rows = []) := by
  obtain ⟨A', c', hv, hl, hc, hn, hrl, hrows⟩ := h.row
  injection hv with hv1 _ hv2
  subst hv1; subst hv2
  cases A with
  | none =>
    have h0 : rows = [] := by
      cases rows with
      | nil => rfl
      | cons r rows => obtain ⟨g, o, h, _⟩ := hrows 0 (by simp); cases h
    subst h0
    exact ⟨[], by simp, ⟨fun i r hi => by simp at hi, fun i r j x hi => by simp at hi⟩, by simp, fun ad h => by simp at h, fun _ => rfl⟩
  | some ad =>
    have key : ∀ q, q < rows.length * sz → ∃ x u, (rows.getD (q / sz) [])[q % sz]? = some x ∧ w.cell? (ad.add q) = some u ∧ Rep S w x u := by
      intro q hq
      have hpos : 0 < sz := by
        rcases Nat.eq_zero_or_pos sz with h0 | h0
        · subst h0; simp at hq
        · exact h0
      have hi : q / sz < rows.length := Nat.div_lt_of_lt_mul (by rw [Nat.mul_comm]; exact hq)
      have hj : q % sz < sz := Nat.mod_lt _ hpos
      obtain ⟨g, o, he, hrc⟩ := hrows (q / sz) hi
      injection he with he
      have e : rows.getD (q / sz) [] = rows[q / sz] := by rw [List.getD_eq_getElem?_getD, List.getElem?_eq_getElem hi]; rfl
      have hlen : (rows.getD (q / sz) []).length = sz := by rw [e]; exact hrl _ _ (List.getElem?_eq_getElem hi)
      obtain ⟨_, u, hu, hru⟩ := hrc (q % sz) _ (List.getElem?_eq_getElem (by omega))
      refine ⟨_, u, List.getElem?_eq_getElem (by omega), ?_, hru⟩
      rw [he, add_at]
      have : o + q / sz * sz + q % sz = o + q := by
        have := Nat.div_add_mod q sz
        rw [Nat.mul_comm] at this
        omega
      rw [this] at hu
      exact hu
    refine ⟨(List.range (rows.length * sz)).map fun q => (w.cell? (ad.add q)).getD Go.undef, by simp, ⟨hrl, fun i r j x hi hj => ?_⟩, fun u hu => ?_, fun ad' had j u hu => ?_, by simp⟩
    · have hil : i < rows.length := (List.getElem?_eq_some_iff.1 hi).1
      have hjl : j < sz := by rw [← hrl i r hi]; exact (List.getElem?_eq_some_iff.1 hj).1
      have hq : i * sz + j < rows.length * sz := by
        have : i * sz + sz ≤ rows.length * sz := by rw [← Nat.succ_mul]; exact Nat.mul_le_mul_right _ hil
        omega
      obtain ⟨x', u, hx, hu, hru⟩ := key (i * sz + j) hq
      have e1 : (i * sz + j) / sz = i := by
        rw [Nat.mul_comm, Nat.mul_add_div (by omega), Nat.div_eq_of_lt hjl]; rfl
      have e2 : (i * sz + j) % sz = j := by rw [Nat.mul_comm, Nat.mul_add_mod, Nat.mod_eq_of_lt hjl]
      have e3 : rows.getD i [] = r := by rw [List.getD_eq_getElem?_getD, hi]; rfl
      rw [e1, e2, e3, hj] at hx
      injection hx with hx
      subst hx
      refine ⟨u, ?_, hru⟩
      rw [List.getElem?_map, List.getElem?_range hq]
      simp [hu]
    · obtain ⟨q, hq, rfl⟩ := List.mem_map.1 hu
      obtain ⟨x, u, _, hu', hru⟩ := key q (List.mem_range.1 hq)
      simp [hu', hru.one]
    · injection had with had
      subst had
      rw [List.getElem?_map] at hu
      by_cases hq : j < rows.length * sz
      · rw [List.getElem?_range hq] at hu
        obtain ⟨x, u', _, hu', _⟩ := key j hq
        simp [hu'] at hu
        subst hu
        exact hu'
      · rw [List.getElem?_eq_none (by simp; omega)] at hu; simp at hu

/-- append onto a row of the call's own. -/
theorem run_app (t ty e : TypeId) (i : TypeInfo) (z : Value) (ht : P.underlying t = some (.slice e)) (hi : P.info? e = some i) (hz : i.zero = some z) (hzs : z.cells.size = i.size) (hsz : 0 < i.size)
    (v : Value) (n : Nat) (xs : List Value) (hown : w.ownsRow base e i.size v n xs) (A : Option Addr) (m c : Nat) (news : List Value) (hl : news.length = m * i.size) (h1 : ∀ u ∈ news, u.oneCell' = true)
    (hnews : ∀ ad, A = some ad → ∀ j u, news[j]? = some u → w.cell? (ad.add j) = some u) (h0 : A = none → m = 0) (h63 : n + m ≤ maxLen) (hbytes : ((n + m) + (n + m) / 4 + 192) * i.bytes ≤ 281474976710656) (hbase : base ≤ w.heap.size) :
    ∃ v' w', (Builtin.append_ #[t, t] ty #[v, .slice A m c]).run P w = .ok v' w' ∧ w'.ownsRow base e i.size v' (n + m) (xs ++ news) ∧ w.grownBy w' v.ownBlock ∧ (v'.ownBlock = v.ownBlock ∨ v'.ownBlock = some w.heap.size) ∧
      (∀ g o u, v.ownBlock = some g → o < n * i.size → w.cell? ⟨g, o, none⟩ = some u → w'.cell? ⟨g, o, none⟩ = some u) := by
  cases A with
  | none =>
    have hm := h0 rfl
    subst hm
    have hn : news = [] := List.eq_nil_of_length_eq_zero (by simpa using hl)
    subst hn
    refine ⟨v, w, ?_, by simpa using hown, ⟨rfl, rfl, rfl, Nat.le_refl _, fun _ _ _ => rfl⟩, .inl rfl, fun g o u _ _ h => h⟩
    rcases hown.2 with ⟨rfl, rfl⟩ | ⟨g, cap, cur, rfl, _, _, hnc, _⟩
    · simp [Builtin.append_, run_underlying ht, Go.sizeOf, typeInfo, hi, Builtin.lenOf, Builtin.firstCells]
    · simp [Builtin.append_, run_underlying ht, Go.sizeOf, typeInfo, hi, Builtin.lenOf, Builtin.firstCells, hnc, storeCells]
  | some ad =>
    obtain ⟨v', w', hrun, h2, h3, h4⟩ := run_append_own_wide (P := P) w base t ty e i z i.size i.bytes ht hi hz rfl rfl hzs hsz v n xs hown ad m c news hl (hnews ad rfl) h1 h63 hbytes hbase
    have h5 : v'.ownBlock = v.ownBlock ∨ v'.ownBlock = some w.heap.size := by
      have h63' : n + m ≤ 9223372036854775807 := by simp only [maxLen] at h63; omega
      rcases hown.2 with ⟨rfl, rfl⟩ | ⟨g, cap, cur, rfl, hbg, hgg, hnc, hcm, hcs, htake⟩
      · by_cases hm : m = 0
        · have := h4.2 ⟨rfl, hm⟩
          subst this; exact .inl rfl
        · have hr := run_append_nil (P := P) w t ty e i z ht hi hz ad m c news hl (hnews ad rfl) (by omega) (by omega) (by have hb := hbytes; simp only [Nat.zero_add] at hb; exact Nat.le_trans (Nat.mul_le_mul_right _ (by omega)) hb)
          rw [hr] at hrun
          injection hrun with hv _
          subst hv; exact .inr rfl
      · by_cases hroom : n + m ≤ cap
        · have hfit : n * i.size + news.length ≤ cur.size := by rw [hl, hcs, ← Nat.add_mul]; exact Nat.mul_le_mul_right _ hroom
          have hr := run_append_room (P := P) w t ty e i ht hi g n cap cur hgg ad m c news hl (hnews ad rfl) h1 hroom hfit
          rw [hr] at hrun
          injection hrun with hv _
          subst hv; exact .inl rfl
        · have hr := run_append_grow (P := P) w t ty e i z ht hi hz ⟨g, 0, none⟩ n cap xs hown.1 (hown.cells (g := g) rfl) ad m c news hl (hnews ad rfl) (by omega) (by omega) (growslice_fits_wide (by omega) hbytes)
          rw [hr] at hrun
          injection hrun with hv _
          subst hv; exact .inr rfl
    refine ⟨v', w', hrun, h2, h3, h5, fun g o u hg ho hu => ?_⟩
    rcases hown.2 with ⟨rfl, _⟩ | ⟨g', cap, cur, rfl, hb, hgg, hnc, hcm, hcs, htake⟩
    · simp [Value.ownBlock] at hg
    · simp [Value.ownBlock] at hg
      subst hg
      by_cases hroom : n + m ≤ cap
      · have hfit : n * i.size + news.length ≤ cur.size := by rw [hl, hcs, ← Nat.add_mul]; exact Nat.mul_le_mul_right _ hroom
        have hr := run_append_room (P := P) w t ty e i ht hi g' n cap cur hgg ad m c news hl (hnews ad rfl) h1 hroom hfit
        rw [hr] at hrun
        injection hrun with _ hw
        subst hw
        rw [cell_of_row _ _ _ _ e (0, 0) (setRow_heap w g' cur _ e _ hgg)]
        rw [cell_of_row _ _ _ cur e (0, 0) hgg] at hu
        rw [List.getElem?_toArray, List.append_assoc, List.getElem?_append_left (by simp; omega), List.getElem?_take, if_pos ho]
        simpa using hu
      · have hr := run_append_grow (P := P) w t ty e i z ht hi hz ⟨g', 0, none⟩ n cap xs hown.1 (hown.cells (g := g') rfl) ad m c news hl (hnews ad rfl) (by omega) (by simp only [maxLen] at h63; omega) (growslice_fits_wide (by omega) hbytes)
        rw [hr] at hrun
        injection hrun with _ hw
        subst hw
        exact (World.cell?_alloc_lt w.drew _ ⟨g', o, none⟩ (lt_of_cell hu)).trans hu

/-- An append with room. -/
theorem run_app_in (t ty e : TypeId) (i : TypeInfo) (ht : P.underlying t = some (.slice e)) (hi : P.info? e = some i)
    (g n cap : Nat) (xs : List Value) (hown : w.ownsRow base e i.size (.slice (some ⟨g, 0, none⟩) n cap) n xs) (A : Option Addr) (m c : Nat) (news : List Value) (hl : news.length = m * i.size) (h1 : ∀ u ∈ news, u.oneCell' = true)
    (hnews : ∀ ad, A = some ad → ∀ j u, news[j]? = some u → w.cell? (ad.add j) = some u) (h0 : A = none → m = 0) (hroom : n + m ≤ cap) :
    ∃ w', (Builtin.append_ #[t, t] ty #[.slice (some ⟨g, 0, none⟩) n cap, .slice A m c]).run P w = .ok (.slice (some ⟨g, 0, none⟩) (n + m) cap) w' ∧ w'.ownsRow base e i.size (.slice (some ⟨g, 0, none⟩) (n + m) cap) (n + m) (xs ++ news) ∧ w.grownBy w' (some g) ∧
      (∀ o u, o < n * i.size → w.cell? ⟨g, o, none⟩ = some u → w'.cell? ⟨g, o, none⟩ = some u) := by
  have hlen : (xs ++ news).length = (n + m) * i.size := by rw [List.length_append, hown.1, hl, Nat.add_mul]
  rcases hown.2 with ⟨hv, _⟩ | ⟨g', cap', cur, hv, hbg, hgg, hnc, hcm, hcs, htake⟩
  · cases hv
  · cases hv
    cases A with
    | none =>
      have hm := h0 rfl
      subst hm
      have hn : news = [] := List.eq_nil_of_length_eq_zero (by simpa using hl)
      subst hn
      refine ⟨w, ?_, by simpa using hown, ⟨rfl, rfl, rfl, Nat.le_refl _, fun _ _ _ => rfl⟩, fun o u _ h => h⟩
      simp [Builtin.append_, run_underlying ht, Go.sizeOf, typeInfo, hi, Builtin.lenOf, Builtin.firstCells, hnc, storeCells]
    | some ad =>
      have hfit : n * i.size + news.length ≤ cur.size := by rw [hl, hcs, ← Nat.add_mul]; exact Nat.mul_le_mul_right _ hroom
      have hr := run_append_room (P := P) w t ty e i ht hi g n cap cur hgg ad m c news hl (hnews ad rfl) h1 hroom hfit
      refine ⟨_, hr, ⟨hlen, .inr ⟨g, cap, _, rfl, hbg, setRow_heap w g cur _ e _ hgg, hroom, hcm, ?_, ?_⟩⟩, ⟨rfl, rfl, rfl, by simp, fun k _ hk => setRow_other w g k _ (fun e => hk (by simp [e]))⟩, fun o u ho hu => ?_⟩
      · simp only [List.size_toArray, List.length_append, List.length_take, List.length_drop, Array.length_toList]
        omega
      · rw [htake, ← hlen]
        exact List.take_left
      · rw [cell_of_row _ _ _ _ e (0, 0) (setRow_heap w g cur _ e _ hgg)]
        rw [cell_of_row _ _ _ cur e (0, 0) hgg] at hu
        rw [List.getElem?_toArray, List.append_assoc, List.getElem?_append_left (by simp; omega), List.getElem?_take, if_pos ho]
        simpa using hu

/-- Names behind an append. -/
theorem Holds.app (hh : Holds base w0 E w H O) {k : Nat} {v v' : Value} {w' : World} {e sz : Nat} {rows news : List (List Atom)} {mu : Bool} {κ' : List Value} {O' : List OwnD} {f : AV → AV}
    (hg : w.grownBy w' v.ownBlock) (hat : v'.ownBlock = v.ownBlock ∨ v'.ownBlock = some w.heap.size) (hkeep : ∀ g o u, v.ownBlock = some g → o < rows.length * sz → w.cell? ⟨g, o, none⟩ = some u → w'.cell? ⟨g, o, none⟩ = some u)
    (hvS : ∀ g, v.ownBlock = some g → E.κ[k]? = some v ∧ base ≤ g ∧ ∀ o, E.S g o ↔ (mu = false ∧ o < rows.length * sz)) (xs ys : List Value) (hxs : RepR E.S w sz rows xs) (hys : RepR E.S w sz news ys) (hxl : xs.length = rows.length * sz)
    (hown : w'.ownsRow base e sz v' (rows.length + news.length) (xs ++ ys)) (hlen : rows.length + news.length ≤ 9223372036854775807) (hpos : 0 < sz)
    (hκl : κ'.length = O'.length) (hκ : ∀ j u, κ'[j]? = some u → (j ≠ k ∧ E.κ[j]? = some u) ∨ (j = k ∧ u = v')) (hO : ∀ j d, O'[j]? = some d → (j ≠ k ∧ O[j]? = some d) ∨ (j = k ∧ d = ⟨e, sz, rows ++ news, mu⟩))
    (S' : Nat → Nat → Prop) (hS' : S' = fun g o => E.S g o ∨ (mu = false ∧ v'.ownBlock = some g ∧ o < (rows.length + news.length) * sz))
    (hrep : (∀ g o, E.S g o → w'.cell? ⟨g, o, none⟩ = w.cell? ⟨g, o, none⟩) → ∀ x u, RepV E w x u → RepV ⟨S', E.ι, κ'⟩ w' (f x) u) (hfb : ∀ x t, f x = .bself t → x = .bself t) :
    Holds base w0 ⟨S', E.ι, κ'⟩ w' (H.map (·.map f)) O' := by
  have hsz : base ≤ w.heap.size := Nat.le_trans hh.hb hh.below.size
  have hcell : ∀ g o, E.S g o → w'.cell? ⟨g, o, none⟩ = w.cell? ⟨g, o, none⟩ := by
    intro g o hs
    obtain ⟨u, hu⟩ := hh.imm g o hs
    by_cases hgv : some g = v.ownBlock
    · rw [hkeep g o u hgv.symm (((hvS g hgv.symm).2.2 o).1 hs).2 hu, hu]
    · exact World.cell?_of_block (w := w) (a := ⟨g, o, none⟩) (hg.block g (lt_of_cell hu) hgv)
  have hrep := hrep hcell
  have hSm : ∀ g o, E.S g o → S' g o := by intro g o h; rw [hS']; exact .inl h
  have hv'lt : ∀ g, v'.ownBlock = some g → v.ownBlock = some g ∨ g = w.heap.size := by
    intro g h
    rcases hat with h' | h'
    · exact .inl (h'.symm.trans h)
    · rw [h'] at h; injection h with h; exact .inr h.symm
  have hvb : ∀ g, v.ownBlock = some g → base ≤ g := fun g h => (hvS g h).2.1
  refine ⟨(hh.below.grown hg hsz fun g h => hvb g h), hh.hb, fun g o h => ?_, by simp [hh.lenι], hκl, hh.inj, ?_, ?_, ?_, ?_, ?_, ?_⟩
  · rw [hS'] at h
    rcases h with h | ⟨_, h, ho⟩
    · obtain ⟨u, hu⟩ := hh.imm g o h
      exact ⟨u, (hcell g o h).trans hu⟩
    · have hlt : o < (xs ++ ys).length := by rw [hown.1]; exact ho
      exact ⟨(xs ++ ys)[o], by
        have := hown.cells (g := g) h o _ (List.getElem?_eq_getElem hlt)
        rw [add_at, Nat.zero_add] at this
        exact this⟩
  · intro i g cs hi hcs
    rw [List.getElem?_map] at hcs
    cases hc : H[i]? with
    | none => rw [hc] at hcs; simp at hcs
    | some cs0 =>
      rw [hc] at hcs; simp at hcs; subst hcs
      obtain ⟨a1, arr, t, a2, a3, a4⟩ := hh.cells i g cs0 hi hc
      refine ⟨a1, arr, t, ?_, by simpa using a3, fun j x u hj hu => ?_⟩
      · rw [hg.block g (ι_lt hh hi) (fun he => hh.κapart k v g (hvS g he.symm).1 he.symm i hi)]
        exact a2
      · rw [List.getElem?_map] at hj
        cases hx : cs0[j]? with
        | none => rw [hx] at hj; simp at hj
        | some x0 => rw [hx] at hj; simp at hj; subst hj; exact hrep x0 u (a4 j x0 u hx hu)
  · intro i g hi o hs
    rw [hS'] at hs
    rcases hs with h | ⟨_, h, _⟩
    · exact hh.apart i g hi o h
    · rcases hv'lt g h with h' | h'
      · exact hh.κapart k v g (hvS g h').1 h' i hi
      · have := ι_lt hh hi; omega
  · intro j u d hj hd
    rcases hκ j u hj with ⟨hjk, hju⟩ | ⟨hjk, hju⟩
    · rcases hO j d hd with ⟨_, hd'⟩ | ⟨h, _⟩
      · obtain ⟨⟨xs', ho, hr⟩, q2, q3, q4⟩ := hh.owns j u d hju hd'
        have hne : ∀ g, u.ownBlock = some g → v.ownBlock ≠ some g := fun g hug hvg => hjk (hh.κinj j k u v g hju (hvS g hvg).1 hug hvg)
        refine ⟨⟨xs', ho.kept hg ?_, hr.mono hSm hcell⟩, q2, q3, fun g hgu o => ?_⟩
        · cases hub : u.ownBlock with
          | none => exact .inl rfl
          | some g => exact .inr (fun he => hne g hub (he.symm))
        · show S' g o ↔ _
          rw [hS', ← q4 g hgu o]
          refine ⟨fun h => h.elim id (fun h => ?_), .inl⟩
          rcases hv'lt g h.2.1 with h' | h'
          · exact absurd h' (hne g hgu)
          · have := (ho.lt g hgu).2; omega
      · exact absurd h hjk
    · subst hjk; subst hju
      rcases hO j d hd with ⟨h, _⟩ | ⟨_, hd'⟩
      · exact absurd rfl h
      · subst hd'
        refine ⟨⟨xs ++ ys, by simpa using hown, ?_, ?_⟩, by simpa using hlen, hpos, fun g hg' o => ?_⟩
        · intro i r hi
          rcases Nat.lt_or_ge i rows.length with hil | hil
          · rw [List.getElem?_append_left hil] at hi; exact hxs.1 i r hi
          · rw [List.getElem?_append_right hil] at hi; exact hys.1 _ r hi
        · intro i r q x hi hq
          rcases Nat.lt_or_ge i rows.length with hil | hil
          · rw [List.getElem?_append_left hil] at hi
            obtain ⟨u, hu, hru⟩ := hxs.2 i r q x hi hq
            refine ⟨u, ?_, hru.mono hSm hcell⟩
            rw [List.getElem?_append_left (List.getElem?_eq_some_iff.1 hu).1]
            exact hu
          · rw [List.getElem?_append_right hil] at hi
            obtain ⟨u, hu, hru⟩ := hys.2 _ r q x hi hq
            refine ⟨u, ?_, hru.mono hSm hcell⟩
            have e1 : i * sz + q = rows.length * sz + ((i - rows.length) * sz + q) := by
              have : i * sz = rows.length * sz + (i - rows.length) * sz := by rw [← Nat.add_mul]; congr 1; omega
              omega
            rw [e1, ← hxl, List.getElem?_append_right (by omega)]
            simpa using hu
        · show S' g o ↔ _
          rw [hS']
          simp only [List.length_append]
          refine ⟨fun h => h.elim (fun h => ?_) (fun h => ⟨h.1, h.2.2⟩), fun h => .inr ⟨h.1, hg', h.2⟩⟩
          rcases hv'lt g hg' with h' | h'
          · have h2 := ((hvS g h').2.2 o).1 h
            have : rows.length * sz ≤ (rows.length + news.length) * sz := Nat.mul_le_mul_right _ (by omega)
            exact ⟨h2.1, by omega⟩
          · obtain ⟨u, hu⟩ := hh.imm g o h
            have := lt_of_cell hu
            omega
  · intro j u g hj hu i hi
    rcases hκ j u hj with ⟨hjk, hju⟩ | ⟨hjk, hju⟩
    · exact hh.κapart j u g hju hu i hi
    · subst hju
      rcases hv'lt g hu with h' | h'
      · exact hh.κapart k v g (hvS g h').1 h' i hi
      · have := ι_lt hh hi; omega
  · intro j l u q g hj hl hu hq
    rcases hκ j u hj with ⟨hjk, hju⟩ | ⟨hjk, hju⟩ <;> rcases hκ l q hl with ⟨hlk, hlq⟩ | ⟨hlk, hlq⟩
    · exact hh.κinj j l u q g hju hlq hu hq
    · subst hlq
      rcases hv'lt g hq with h' | h'
      · exact absurd (hh.κinj j k u v g hju (hvS g h').1 hu h') hjk
      · have := (κ_lt hh hju hu).2; omega
    · subst hju
      rcases hv'lt g hu with h' | h'
      · exact absurd (hh.κinj l k q v g hlq (hvS g h').1 hq h') hlk
      · have := (κ_lt hh hlq hq).2; omega
    · omega
  · intro i g cs t hi hcs hb'
    rw [List.getElem?_map] at hcs
    cases hc : H[i]? with
    | none => rw [hc] at hcs; simp at hcs
    | some cs0 =>
      rw [hc] at hcs; simp at hcs; subst hcs
      have hb0 : bty cs0 = some t := by
        obtain ⟨xs, e⟩ := bty_some hb'
        cases cs0 with
        | nil => simp at e
        | cons x cs0 =>
          rw [List.map_cons] at e
          injection e with e1 e2
          rw [hfb x t e1]; rfl
      obtain ⟨p, v0, q1, q2⟩ := hh.bld i g cs0 t hi hc hb0
      exact ⟨p, v0, (hg.block g (ι_lt hh hi) (fun he => hh.κapart k v g (hvS g he.symm).1 he.symm i hi)).trans q1, q2⟩

theorem inval_b {k : Nat} : ∀ x t, inval k x = .bself t → x = .bself t := by
  intro x t h
  unfold inval at h
  split at h
  all_goals first | exact h | (split at h <;> cases h) | cases h
theorem locs_mem : ∀ {xs : List AV} {j : Nat} {x : AV}, locs xs = true → xs[j]? = some x → ∃ id off, x = .loc id off
  | [], _, _, _, h => by simp at h
  | .loc id off :: xs, 0, x, _, h => ⟨id, off, by simpa using h.symm⟩
  | .loc _ _ :: xs, j + 1, x, hl, h => locs_mem (xs := xs) (j := j) hl (by simpa using h)
theorem inval_rep {E : Env} {w w' : World} {S' : Nat → Nat → Prop} {k : Nat} {v' : Value} (hS : ∀ g o, E.S g o → S' g o) (hc : ∀ g o, E.S g o → w'.cell? ⟨g, o, none⟩ = w.cell? ⟨g, o, none⟩) {x : AV} {u : Value} (h : RepV E w x u) : RepV ⟨S', E.ι, E.κ.set k v'⟩ w' (inval k x) u := by
  cases h with
  | a h => exact .a (h.mono hS hc)
  | agg hs h => exact .agg hs fun j x u hj hu => (h j x u hj hu).mono hS hc
  | tup => exact .any
  | loc h => exact .loc h
  | ptr h => exact .ptr (h.mono hS hc)
  | nilptr => exact .nilptr
  | full h => exact .full (h.mono hS hc)
  | own h =>
    rename_i j
    simp only [inval]
    split
    · exact .any
    · rename_i hne
      refine .own ?_
      show (E.κ.set k v')[j]? = _
      rw [List.getElem?_set_ne (Ne.symm hne)]
      exact h
  | nn h => exact .nn (h.mono hS hc)
  | eptr => exact .any
  | vsl => exact .any
  | mix => exact .any
  | clo hs h =>
    simp only [inval]
    split
    · rename_i hl
      refine .clo hs fun j x u hj hu => ?_
      obtain ⟨id, off, rfl⟩ := locs_mem hl hj
      cases h j _ u hj hu with
      | loc h => exact .loc h
    · exact .any
  | bself => exact .bself
  | ownv h =>
    rename_i j
    simp only [inval]
    split
    · exact .any
    · rename_i hne
      refine .ownv ?_
      show (E.κ.set k v')[j]? = _
      rw [List.getElem?_set_ne (Ne.symm hne)]
      exact h
  | ownc h hc =>
    rename_i j c g n c'
    simp only [inval]
    split
    · exact .any
    · rename_i hne
      refine .ownc (g := g) ?_ hc
      show (E.κ.set k v')[j]? = _
      rw [List.getElem?_set_ne (Ne.symm hne)]
      exact h
  | undef => exact .undef
  | any => exact .any

theorem run_app_op {o : Oper} {x y : Operand} {ts : Array TypeId} {t : TypeId} (ho : o.op = .call { callee := .builtin .append, args := #[x, y], argTypes := ts }) (hts : ts = #[t, t]) {a : Act} {w w' : World} {u v v' : Value} (hx : a.eval x = u) (hy : a.eval y = v)
    (h : (Builtin.append_ #[t, t] o.type #[u, v]).run P w = .ok v' w') : (execOp a.eval o).run P w = .ok (.value v') w' := by
  subst hts
  simp only [execOp, ho, resolve, invoke, builtin, Sem.run_bind, Sem.run_pure, Result.andThen_ok, List.map_toArray, List.map_cons, List.map_nil, hx, hy, h]

/-- What a row's name in a block of the call's own says. -/
theorem pin_at {base : Nat} {w0 : World} {E : Env} {w : World} {H : List (List AV)} {O : List OwnD} (hh : Holds base w0 E w H O) {id off k : Nat} {v : Value} (hp : (H.getD id []).getD off .undef = .ownv k v) : E.κ[k]? = some v := by
  by_cases hi : id < H.length
  · have e1 : H.getD id [] = H[id] := by simp [List.getD_eq_getElem?_getD, hi]
    rw [e1] at hp
    by_cases ho : off < H[id].length
    · have e2 : H[id].getD off .undef = H[id][off] := by simp [List.getD_eq_getElem?_getD, ho]
      rw [e2] at hp
      have hl : id < E.ι.length := by rw [hh.lenι]; exact hi
      obtain ⟨_, arr, t, _, h3, h4⟩ := hh.cells id E.ι[id] H[id] (List.getElem?_eq_getElem hl) (List.getElem?_eq_getElem hi)
      have hoa : off < arr.size := by rw [h3]; exact ho
      have := h4 off H[id][off] arr[off] (List.getElem?_eq_getElem ho) (by simp [hoa])
      rw [hp] at this
      cases this with
      | ownv h => exact h
    · have e2 : H[id].getD off .undef = .undef := by simp [List.getD_eq_getElem?_getD, List.getElem?_eq_none (Nat.le_of_not_lt ho)]
      rw [e2] at hp; cases hp
  · have e1 : H.getD id [] = [] := by simp [List.getD_eq_getElem?_getD, List.getElem?_eq_none (Nat.le_of_not_lt hi)]
    rw [e1] at hp
    simp at hp

theorem ok_append {C : Ctx} {o : Oper} {x y : Operand} {x' y' : AX} {ts : Array TypeId} {t e : TypeId} {i : TypeInfo} {z : Value} {st : St} {K : AV → St → Prop} {news : List (List Atom)} (ho : o.op = .call { callee := .builtin .append, args := #[x, y], argTypes := ts }) (hts : ts = #[t, t])
    (ht : P.underlying t = some (.slice e)) (hi : P.info? e = some i) (hz : i.zero = some z) (hzs : z.cells.size = i.size) (hx : cX x = some x') (hy : cX y = some y') (hnews : rowsOf st.O i.size (aval st.fr y') = some news)
    (hkp : C.keep = true → (∀ k, aval st.fr x' = .own k → C.E0.κ.length ≤ k) ∧ (∀ v q, aval st.fr x' ≠ .a (.exact v q)) ∧ ∀ k c, aval st.fr x' = .ownc k c → C.E0.κ.length ≤ k) (h : aappend e i.size i.bytes news st (aval st.fr x') K) : OpOk P C o st K := by
  intro E a w hsat KK Q hKK
  have hh := hsat.holds
  have hsz : C.base ≤ w.heap.size := Nat.le_trans hh.hb hh.below.size
  have hry := rep_rows hh (rep_aval hsat.fr hy) hnews
  obtain ⟨A, c, hvy, _, _, hm, _, _⟩ := hry.row
  rw [hvy] at hry
  obtain ⟨ys, hyl, hyr, hy1, hyc, hy0⟩ := rows_cells hry
  have hA0 : A = none → news.length = 0 := fun h => by rw [hy0 h]; rfl
  have ownC : ∀ k, RepV E w (.own k) (a.eval x) → (C.keep = true → C.E0.κ.length ≤ k) → (agate ((st.O.getD k default).sz = i.size ∧ (st.O.getD k default).e = e ∧ ((st.O.getD k default).rows.length + news.length + ((st.O.getD k default).rows.length + news.length) / 4 + 192) * i.bytes ≤ 281474976710656 ∧ (st.O.getD k default).rows.length + news.length ≤ 9223372036854775807) <|
        K (.own k) { fr := st.fr.map (inval k), H := st.H.map (·.map (inval k)), O := st.O.set k ⟨e, i.size, (st.O.getD k default).rows ++ news, (st.O.getD k default).mu⟩ }) → o.wp P a w KK Q := by
    intro k hrx hkq h
    obtain ⟨⟨hs, he, hb1, hb2⟩, hk⟩ := h
    have hok := rep_own hh hrx
    generalize hvx : a.eval x = v at hrx hok
    cases hrx with
    | own hκ =>
      have hkl : k < st.O.length := by rw [← hh.lenκ]; exact (List.getElem?_eq_some_iff.1 hκ).1
      generalize hd : st.O.getD k default = d at *
      obtain ⟨de, dsz, drows, dmu⟩ := d
      simp only at hs he hb1 hb2 hk hok
      subst hs; subst he
      obtain ⟨⟨xs, ho', hxr⟩, hlen, hpos, hat'⟩ := hok
      simp only at ho' hxr hlen hpos hat'
      obtain ⟨v', w', hrun, hown, hg, hat, hkeep⟩ := run_app (P := P) t o.type de i z ht hi hz hzs hpos v drows.length xs ho' A news.length c ys hyl hy1 hyc hA0 (by simp only [maxLen]; omega) hb1 hsz
      have hbl : ∀ g, v.ownBlock = some g → C.base ≤ g := fun g hgv => (ho'.lt g hgv).1
      have hcl : ∀ g o, E.S g o → w'.cell? ⟨g, o, none⟩ = w.cell? ⟨g, o, none⟩ := by
        intro g o hs
        obtain ⟨u, hu⟩ := hh.imm g o hs
        by_cases hgv : some g = v.ownBlock
        · rw [hkeep g o u hgv.symm ((hat' g hgv.symm o).1 hs).2 hu, hu]
        · exact World.cell?_of_block (w := w) (a := ⟨g, o, none⟩) (hg.block g (lt_of_cell hu) hgv)
      have hH := hh.app (k := k) (v := v) (v' := v') (e := de) (sz := i.size) (rows := drows) (news := news) (mu := dmu) (κ' := E.κ.set k v') (O' := st.O.set k ⟨de, i.size, drows ++ news, dmu⟩) (f := inval k) hg hat hkeep (fun g hgv => ⟨hκ, hbl g hgv, hat' g hgv⟩) xs ys hxr hyr ho'.1 hown hb2 hpos (by simp [hh.lenκ])
        (fun j u hj => by
          by_cases hjk : j = k
          · subst hjk
            rw [List.getElem?_set_self (by rw [hh.lenκ]; exact hkl)] at hj
            injection hj with hj
            exact .inr ⟨rfl, hj.symm⟩
          · rw [List.getElem?_set_ne (Ne.symm hjk)] at hj; exact .inl ⟨hjk, hj⟩)
        (fun j d hj => by
          by_cases hjk : j = k
          · subst hjk
            rw [List.getElem?_set_self hkl] at hj
            injection hj with hj
            exact .inr ⟨rfl, hj.symm⟩
          · rw [List.getElem?_set_ne (Ne.symm hjk)] at hj; exact .inl ⟨hjk, hj⟩)
        (fun g o => E.S g o ∨ (dmu = false ∧ v'.ownBlock = some g ∧ o < (drows.length + news.length) * i.size)) rfl (fun hc x u hr => inval_rep (fun g o h => .inl h) hc hr) inval_b
      refine wp_value (run_app_op ho hts hvx hvy hrun) (hKK _ _ _ _ _ hk (Sat.put (st := { fr := st.fr.map (inval k), H := st.H.map (·.map (inval k)), O := st.O.set k ⟨de, i.size, drows ++ news, dmu⟩ })
        ⟨hH, fun g o h => ⟨.inl (hsat.S g o h).1, (hcl g o (hsat.S g o h).1).trans (hsat.S g o h).2⟩, hsat.ι, fun g o h => ?_, hsat.defers, fun q j u hj => by
          have hjl := (List.getElem?_eq_some_iff.1 hj).1
          have hkk := hkq q
          show (E.κ.set k v')[j]? = some u
          rw [List.getElem?_set_ne (by omega)]; exact hsat.κ q j u hj, by simpa using hsat.fr.1, fun j x u hj hu => ?_⟩ (.own ?_) _))
      · rcases h with h | ⟨_, h, _⟩
        · exact hsat.news g o h
        · exact .inr (hown.lt g h).1
      · rw [List.getElem?_map] at hj
        cases hx0 : st.fr[j]? with
        | none => rw [hx0] at hj; simp at hj
        | some x0 =>
          rw [hx0] at hj; simp at hj; subst hj
          exact inval_rep (fun g o h => .inl h) hcl (hsat.fr.2 j x0 u hx0 hu)
      · show (E.κ.set k v')[k]? = _
        rw [List.getElem?_set_self (by rw [hh.lenκ]; exact hkl)]
  have ownD : ∀ k cc, RepV E w (.ownc k cc) (a.eval x) → (C.keep = true → C.E0.κ.length ≤ k) → (agate ((st.O.getD k default).sz = i.size ∧ (st.O.getD k default).e = e ∧ (st.O.getD k default).rows.length + news.length ≤ cc ∧ (st.O.getD k default).rows.length + news.length ≤ 9223372036854775807) <|
        K (.ownc k cc) { fr := st.fr.map (inval k), H := st.H.map (·.map (inval k)), O := st.O.set k ⟨e, i.size, (st.O.getD k default).rows ++ news, (st.O.getD k default).mu⟩ }) → o.wp P a w KK Q := by
    intro k cc hrc hkq h
    have hrx : RepV E w (.own k) (a.eval x) := by
      generalize a.eval x = u at hrc ⊢
      cases hrc with
      | ownc h _ => exact .own h
    have hcap : ∃ g n c', a.eval x = .slice (some ⟨g, 0, none⟩) n c' ∧ cc ≤ c' := by
      generalize a.eval x = u at hrc ⊢
      cases hrc with
      | ownc h hc => exact ⟨_, _, _, rfl, hc⟩
    obtain ⟨⟨hs, he, hb1, hb2⟩, hk⟩ := h
    have hok := rep_own hh hrx
    clear hrc
    generalize hvx : a.eval x = v at hrx hok hcap
    cases hrx with
    | own hκ =>
      have hkl : k < st.O.length := by rw [← hh.lenκ]; exact (List.getElem?_eq_some_iff.1 hκ).1
      generalize hd : st.O.getD k default = d at *
      obtain ⟨de, dsz, drows, dmu⟩ := d
      simp only at hs he hb1 hb2 hk hok
      subst hs; subst he
      obtain ⟨⟨xs, ho', hxr⟩, hlen, hpos, hat'⟩ := hok
      simp only at ho' hxr hlen hpos hat'
      obtain ⟨g0, n0, c0, hv0, hcc⟩ := hcap
      have hn0 : n0 = drows.length := by
        rcases ho'.2 with ⟨hv, _⟩ | ⟨g', cap', cur, hv, _⟩
        · rw [hv0] at hv; cases hv
        · rw [hv0] at hv; cases hv; rfl
      subst hn0
      subst hv0
      obtain ⟨w', hrun, hown, hg0, hkeep0⟩ := run_app_in (P := P) t o.type de i ht hi g0 drows.length c0 xs ho' A news.length c ys hyl hy1 hyc hA0 (by omega)
      generalize hvd : (Value.slice (some ⟨g0, 0, none⟩) drows.length c0) = v at *
      have hob : v.ownBlock = some g0 := by rw [← hvd]; rfl
      generalize hv'd : (Value.slice (some ⟨g0, 0, none⟩) (drows.length + news.length) c0) = v' at *
      have hob' : v'.ownBlock = some g0 := by rw [← hv'd]; rfl
      have hg : w.grownBy w' v.ownBlock := by rw [hob]; exact hg0
      have hat : v'.ownBlock = v.ownBlock ∨ v'.ownBlock = some w.heap.size := .inl (by rw [hob, hob'])
      have hkeep : ∀ g o u, v.ownBlock = some g → o < drows.length * i.size → w.cell? ⟨g, o, none⟩ = some u → w'.cell? ⟨g, o, none⟩ = some u := fun g o u hgv => by
        rw [hob] at hgv; cases hgv; exact hkeep0 o u
      have hbl : ∀ g, v.ownBlock = some g → C.base ≤ g := fun g hgv => (ho'.lt g hgv).1
      have hcl : ∀ g o, E.S g o → w'.cell? ⟨g, o, none⟩ = w.cell? ⟨g, o, none⟩ := by
        intro g o hs
        obtain ⟨u, hu⟩ := hh.imm g o hs
        by_cases hgv : some g = v.ownBlock
        · rw [hkeep g o u hgv.symm ((hat' g hgv.symm o).1 hs).2 hu, hu]
        · exact World.cell?_of_block (w := w) (a := ⟨g, o, none⟩) (hg.block g (lt_of_cell hu) hgv)
      have hH := hh.app (k := k) (v := v) (v' := v') (e := de) (sz := i.size) (rows := drows) (news := news) (mu := dmu) (κ' := E.κ.set k v') (O' := st.O.set k ⟨de, i.size, drows ++ news, dmu⟩) (f := inval k) hg hat hkeep (fun g hgv => ⟨hκ, hbl g hgv, hat' g hgv⟩) xs ys hxr hyr ho'.1 hown hb2 hpos (by simp [hh.lenκ])
        (fun j u hj => by
          by_cases hjk : j = k
          · subst hjk
            rw [List.getElem?_set_self (by rw [hh.lenκ]; exact hkl)] at hj
            injection hj with hj
            exact .inr ⟨rfl, hj.symm⟩
          · rw [List.getElem?_set_ne (Ne.symm hjk)] at hj; exact .inl ⟨hjk, hj⟩)
        (fun j d hj => by
          by_cases hjk : j = k
          · subst hjk
            rw [List.getElem?_set_self hkl] at hj
            injection hj with hj
            exact .inr ⟨rfl, hj.symm⟩
          · rw [List.getElem?_set_ne (Ne.symm hjk)] at hj; exact .inl ⟨hjk, hj⟩)
        (fun g o => E.S g o ∨ (dmu = false ∧ v'.ownBlock = some g ∧ o < (drows.length + news.length) * i.size)) rfl (fun hc x u hr => inval_rep (fun g o h => .inl h) hc hr) inval_b
      have hyc' : ∀ {E2 : Env}, E2.κ[k]? = some v' → RepV E2 w' (.ownc k cc) v' := fun {E2} h => by
        rw [← hv'd] at h ⊢
        exact .ownc h hcc
      refine wp_value (run_app_op ho hts hvx hvy hrun) (hKK _ _ _ _ _ hk (Sat.put (st := { fr := st.fr.map (inval k), H := st.H.map (·.map (inval k)), O := st.O.set k ⟨de, i.size, drows ++ news, dmu⟩ })
        ⟨hH, fun g o h => ⟨.inl (hsat.S g o h).1, (hcl g o (hsat.S g o h).1).trans (hsat.S g o h).2⟩, hsat.ι, fun g o h => ?_, hsat.defers, fun q j u hj => by
          have hjl := (List.getElem?_eq_some_iff.1 hj).1
          have hkk := hkq q
          show (E.κ.set k v')[j]? = some u
          rw [List.getElem?_set_ne (by omega)]; exact hsat.κ q j u hj, by simpa using hsat.fr.1, fun j x u hj hu => ?_⟩ (hyc' ?_) _))
      · rcases h with h | ⟨_, h, _⟩
        · exact hsat.news g o h
        · exact .inr (hown.lt g h).1
      · rw [List.getElem?_map] at hj
        cases hx0 : st.fr[j]? with
        | none => rw [hx0] at hj; simp at hj
        | some x0 =>
          rw [hx0] at hj; simp at hj; subst hj
          exact inval_rep (fun g o h => .inl h) hcl (hsat.fr.2 j x0 u hx0 hu)
      · show (E.κ.set k v')[k]? = _
        rw [List.getElem?_set_self (by rw [hh.lenκ]; exact hkl)]
  unfold aappend at h
  split at h
  · -- a new row
    rename_i hev
    obtain ⟨⟨hpos, hb1, hb2⟩, hk⟩ := h
    have hvx : a.eval x = .slice none 0 0 := by
      have := hev ▸ rep_aval hsat.fr hx
      generalize a.eval x = u at this
      cases this with | a h => cases h; rfl
    obtain ⟨v', w', hrun, hown, hg, hat, hkeep⟩ := run_app (P := P) t o.type e i z ht hi hz hzs hpos (.slice none 0 0) 0 [] (World.ownsRow_nil w C.base e i.size) A news.length c ys hyl hy1 hyc hA0 (by simp only [maxLen]; omega) (by simpa using hb1) hsz
    have hcl : ∀ g o, E.S g o → w'.cell? ⟨g, o, none⟩ = w.cell? ⟨g, o, none⟩ := fun g o hs => World.cell?_of_block (w := w) (a := ⟨g, o, none⟩) (hg.block g (by obtain ⟨u, hu⟩ := hh.imm g o hs; exact lt_of_cell hu) (by simp [Value.ownBlock]))
    have hx' : Ext E w ⟨fun g o => E.S g o ∨ (True ∧ v'.ownBlock = some g ∧ o < ([] ++ news).length * i.size), E.ι, E.κ ++ [v']⟩ w' := ⟨fun g o h => .inl h, hcl, fun _ _ h => h, fun j v h => by
        show (E.κ ++ [v'])[j]? = _
        rw [List.getElem?_append_left (List.getElem?_eq_some_iff.1 h).1]; exact h⟩
    have hH := hh.app (k := st.O.length) (v := .slice none 0 0) (v' := v') (e := e) (sz := i.size) (rows := []) (news := news) (mu := false) (κ' := E.κ ++ [v']) (O' := st.O ++ [⟨e, i.size, news, false⟩]) (f := id) hg hat (fun g o u hgv => by simp [Value.ownBlock] at hgv) (fun g hgv => by simp [Value.ownBlock] at hgv) [] ys
      ⟨fun i r hi => by simp at hi, fun i r j x hi => by simp at hi⟩ hyr (by simp) (by simpa using hown) (by simpa using hb2) hpos (by simp [hh.lenκ])
      (fun j u hj => by
        rcases Nat.lt_or_ge j E.κ.length with hl | hl
        · rw [List.getElem?_append_left hl] at hj; exact .inl ⟨by have := hh.lenκ; omega, hj⟩
        · rw [List.getElem?_append_right hl] at hj
          have h0 : j - E.κ.length = 0 := by
            rcases Nat.eq_zero_or_pos (j - E.κ.length) with h0 | h0
            · exact h0
            · rw [List.getElem?_eq_none (by simp; omega)] at hj; cases hj
          rw [h0] at hj; simp at hj
          exact .inr ⟨by have := hh.lenκ; omega, hj.symm⟩)
      (fun j d hj => by
        rcases Nat.lt_or_ge j st.O.length with hl | hl
        · rw [List.getElem?_append_left hl] at hj; exact .inl ⟨by omega, hj⟩
        · rw [List.getElem?_append_right hl] at hj
          have h0 : j - st.O.length = 0 := by
            rcases Nat.eq_zero_or_pos (j - st.O.length) with h0 | h0
            · exact h0
            · rw [List.getElem?_eq_none (by simp; omega)] at hj; cases hj
          rw [h0] at hj; simp at hj
          exact .inr ⟨by omega, by simpa using hj.symm⟩)
      (fun g o => E.S g o ∨ (True ∧ v'.ownBlock = some g ∧ o < ([] ++ news).length * i.size)) (by simp)
      (fun _ x u hr => hr.mono hx') (fun _ _ h => h)
    simp only [List.map_id_fun, id_eq, List.map_id'] at hH
    refine wp_value (run_app_op ho hts hvx hvy hrun) (hKK _ _ _ _ _ hk ((hsat.later (H' := st.H) (O' := st.O ++ [⟨e, i.size, news, false⟩]) hH hx' (fun g o h => ?_)).put (.own ?_) _))
    · rcases h with h | ⟨_, h, _⟩
      · exact .inl h
      · exact .inr (hown.lt g h).1
    · show (E.κ ++ [v'])[st.O.length]? = _
      rw [← hh.lenκ]; simp
  · -- a full slice
    rename_i s rows hev
    obtain ⟨⟨rfl, hpos, hb1, hb2⟩, hk⟩ := h
    have hrx := hev ▸ rep_aval hsat.fr hx
    generalize hvx : a.eval x = u at hrx
    cases hrx with
    | full hrx =>
      rename_i B n
      obtain ⟨B', c', hv, _, _, _, _, _⟩ := hrx.row
      injection hv with _ hn _
      subst hn
      obtain ⟨xs, hxl, hxr, hx1, hxc, hx0⟩ := rows_cells hrx
      by_cases hm0 : news.length = 0
      · have hn0 : news = [] := List.eq_nil_of_length_eq_zero hm0
        subst hn0
        have hrun : (Builtin.append_ #[t, t] o.type #[.slice B rows.length rows.length, .slice A 0 c]).run P w = .ok (.slice B rows.length rows.length) w := by
          cases A <;> cases B <;> simp [Builtin.append_, run_underlying ht, Go.sizeOf, typeInfo, hi, Builtin.lenOf, Builtin.firstCells, storeCells, loadCells, loadCellsFrom]
        rw [List.append_nil] at hk
        exact wp_value (run_app_op ho hts hvx hvy hrun) (hKK E w _ _ st hk (hsat.put (.a hrx) _))
      · obtain ⟨ad, hAd⟩ : ∃ ad, A = some ad := by
          cases A with
          | none => exact absurd (hA0 rfl) hm0
          | some ad => exact ⟨ad, rfl⟩
        subst hAd
        have hge := grownCap_ge w (rows.length + news.length) rows.length e
        have hcm : grownCap w (rows.length + news.length) rows.length e ≤ maxLen := grownCap_le_maxLen w _ _ e (by simp only [maxLen]; omega)
        have hrun : ∃ cs : Array Value, (Builtin.append_ #[t, t] o.type #[.slice B rows.length rows.length, .slice (some ad) news.length c]).run P w =
            .ok (.slice (some ⟨w.heap.size, 0, none⟩) (rows.length + news.length) (grownCap w (rows.length + news.length) rows.length e)) (w.drew.alloc (.cells cs e)) ∧ ∀ (j : Nat) (u : Value), (xs ++ ys)[j]? = some u → cs[j]? = some u := by
          cases B with
          | some b =>
            have hr := run_append_grow (P := P) w t o.type e i z ht hi hz b rows.length rows.length xs hxl (hxc b rfl) ad news.length c ys hyl (hyc ad rfl) (by omega) (by omega) (growslice_fits_wide (by omega) hb1)
            refine ⟨_, hr, fun j u hj => ?_⟩
            have hjl : j < (xs ++ ys).length := (List.getElem?_eq_some_iff.1 hj).1
            rw [← Array.getElem?_toList]
            simp only [Array.toList_append, List.append_assoc]
            rw [← List.append_assoc, List.getElem?_append_left hjl]
            exact hj
          | none =>
            have hr0 : rows = [] := hx0 rfl
            subst hr0
            have hxs0 : xs = [] := List.eq_nil_of_length_eq_zero (by simpa using hxl)
            subst hxs0
            simp only [List.length_nil, Nat.zero_add] at hb1 ⊢
            have hr := run_append_nil (P := P) w t o.type e i z ht hi hz ad news.length c ys hyl (hyc ad rfl) (by omega) (by omega) (Nat.le_trans (Nat.mul_le_mul_right _ (by omega)) hb1)
            refine ⟨_, hr, fun j u hj => ?_⟩
            have hjl : j < ys.length := (List.getElem?_eq_some_iff.1 (by simpa using hj)).1
            rw [← Array.getElem?_toList]
            simp only [Array.toList_append]
            rw [List.getElem?_append_left hjl]
            simpa using hj
        obtain ⟨cs, hrun, hcs⟩ := hrun
        obtain ⟨hH, hxt⟩ := hh.later (w' := w.drew.alloc (.cells cs e)) (S' := fun g o => E.S g o ∨ (g = w.heap.size ∧ o < (rows.length + news.length) * i.size)) (((Below.refl _ _).drew).alloc (Nat.le_refl _) _) (fun g o h => .inl h) (fun g o h => h.elim .inl fun h => .inr (Nat.le_of_eq h.1.symm)) (by
          have hxyl : (xs ++ ys).length = (rows.length + news.length) * i.size := by rw [List.length_append, hxl, hyl, Nat.add_mul]
          rintro g o (h | ⟨rfl, h⟩)
          · obtain ⟨u, hu⟩ := hh.imm g o h
            exact ⟨u, (World.cell?_alloc_lt w.drew _ ⟨g, o, none⟩ (lt_of_cell hu)).trans hu⟩
          · have hlt : o < (xs ++ ys).length := by omega
            exact ⟨(xs ++ ys)[o], by
              rw [cell_of_row (w.drew.alloc (.cells cs e)) w.heap.size o cs e (0, 0) (heap_alloc_new w.drew _)]
              exact hcs o _ (List.getElem?_eq_getElem hlt)⟩)
        have hxyr : ∀ (q : Nat) (r : List Atom), (rows ++ news)[q]? = some r → r.length = i.size ∧ ∀ (j : Nat) (x : Atom), r[j]? = some x → ∃ u, (xs ++ ys)[q * i.size + j]? = some u ∧ Rep E.S w x u := by
          intro q r hq
          rcases Nat.lt_or_ge q rows.length with hql | hql
          · rw [List.getElem?_append_left hql] at hq
            refine ⟨hxr.1 q r hq, fun j x hj => ?_⟩
            obtain ⟨u, hu, hru⟩ := hxr.2 q r j x hq hj
            exact ⟨u, by rw [List.getElem?_append_left (List.getElem?_eq_some_iff.1 hu).1]; exact hu, hru⟩
          · rw [List.getElem?_append_right hql] at hq
            refine ⟨hyr.1 _ r hq, fun j x hj => ?_⟩
            obtain ⟨u, hu, hru⟩ := hyr.2 _ r j x hq hj
            refine ⟨u, ?_, hru⟩
            have e1 : q * i.size + j = rows.length * i.size + ((q - rows.length) * i.size + j) := by
              have : q * i.size = rows.length * i.size + (q - rows.length) * i.size := by rw [← Nat.add_mul]; congr 1; omega
              omega
            rw [e1, ← hxl, List.getElem?_append_right (by omega)]
            simpa using hu
        refine wp_value (run_app_op ho hts hvx hvy hrun) (hKK _ _ _ _ st hk ((hsat.later hH hxt (fun g o h => h.elim .inl fun h => .inr (by rw [h.1]; exact hsz))).put (.a ?_) _))
        rw [← List.length_append]
        refine .slice i.size (rows ++ news) w.heap.size 0 _ (fun q => (xs ++ ys).getD q Go.undef) (by simpa using hb2) (by simpa using hge) (by simpa using hcm) (fun q r hq => (hxyr q r hq).1) (fun q r j x hq hj => ?_) (fun q r j x hq hj => ?_)
        · obtain ⟨h1, h2⟩ := hxyr q r hq
          obtain ⟨u, hu, hru⟩ := h2 j x hj
          have hql : q < (rows ++ news).length := (List.getElem?_eq_some_iff.1 hq).1
          have hjl : j < i.size := by rw [← h1]; exact (List.getElem?_eq_some_iff.1 hj).1
          rw [Nat.zero_add]
          refine ⟨.inr ⟨rfl, ?_⟩, ?_⟩
          · have : q * i.size + i.size ≤ (rows ++ news).length * i.size := by rw [← Nat.succ_mul]; exact Nat.mul_le_mul_right _ hql
            exact Nat.lt_of_lt_of_le (Nat.add_lt_add_left hjl _) this
          · rw [cell_of_row (w.drew.alloc (.cells cs e)) w.heap.size (q * i.size + j) cs e (0, 0) (heap_alloc_new w.drew _)]
            rw [hcs _ u hu]
            simp [hu]
        · obtain ⟨u, hu, hru⟩ := (hxyr q r hq).2 j x hj
          simpa [hu] using hru.mono hxt.S hxt.cell
  · -- a row of the call's own
    rename_i k hev
    exact ownC k (hev ▸ rep_aval hsat.fr hx) (fun q => (hkp q).1 k hev) h
  · -- a row of the call's own, by its value
    rename_i v q hev
    obtain ⟨id, off, k, hp, h⟩ := h
    refine ownC k ?_ (fun q0 => absurd hev ((hkp q0).2.1 v q)) h
    have hrx := hev ▸ rep_aval hsat.fr hx
    have hkv := pin_at hh hp
    generalize a.eval x = u at hrx
    cases hrx with
    | a hrx =>
      cases hrx with
      | exact _ => exact .own hkv
  · -- a row of the call's own with room
    rename_i k cc hev
    exact ownD k cc (hev ▸ rep_aval hsat.fr hx) (fun q => (hkp q).2.2 k cc hev) h
  · exact h.elim
end
end Ab
