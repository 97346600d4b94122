/- Chapter 22: what Apply makes of rows, plainly; its contract. -/
import Derived.Test.YtlfebjehmabejaaZx
import Derived.Test.YtlfebjehmabejaaIw
import Derived.Test.YtlfebjehmabejaaMwB
set_option linter.unusedSimpArgs false
set_option linter.unusedVariables false
namespace Go.Proofs.Ytlfebjehmabejaa
open Go Ab
set_option maxRecDepth 100000
attribute [local irreducible] awp aops aop asoft aeff aloop acall acallI acallT

def bl' (a b : ByteArray) : Bool := Op.bytesLess a.toList b.toList
def vlUp (vs : List Ver) (at_ last : Int) (v : Vl) : List Ver := if vlEq (vlAt vs last) v = true then vs else vs ++ [⟨at_, v⟩]
def nw (at_ : Int) (p : Pr) : Option Row := if p.v.kind = 0 then none else some ⟨p.key, [⟨at_, p.v⟩]⟩
/-- One write. -/
def put (at_ last : Int) (p : Pr) : List Row → List Row
  | [] => (nw at_ p).toList
  | r :: rs => if bl' r.key p.key = true then r :: put at_ last p rs else if r.key = p.key then ⟨r.key, vlUp r.vs at_ last p.v⟩ :: rs else (nw at_ p).toList ++ r :: rs
def loOf (key : ByteArray) : List Row → Nat
  | [] => 0
  | r :: rs => if bl' r.key key = true then loOf key rs + 1 else 0
theorem bl_iff (a b : ByteArray) : bl' a b = true ↔ bl a b := Iff.rfl
theorem lo_Lo (key : ByteArray) : ∀ rows : List Row, rows.Pairwise rLt → Lo rows key (loOf key rows)
  | [], _ => ⟨Nat.le_refl _, fun i hi => by simp at hi, fun i hi => by simp at hi⟩
  | r :: rs, hs => by
    have hs' := List.pairwise_cons.1 hs
    obtain ⟨i1, i2, i3⟩ := lo_Lo key rs hs'.2
    unfold loOf
    by_cases h : bl' r.key key = true
    · rw [if_pos h]
      refine ⟨by simp only [List.length_cons]; omega, fun i hi hl => ?_, fun i hi hl => ?_⟩
      · cases i with
        | zero => exact (cmpV_lt _ _).2 h
        | succ i => exact i2 i (by simpa using hi) (by omega)
      · cases i with
        | zero => omega
        | succ i => exact i3 i (by simpa using hi) (by omega)
    · rw [if_neg h]
      refine ⟨Nat.zero_le _, fun i hi hl => by omega, fun i hi hl hc => ?_⟩
      rw [cmpV_lt] at hc
      cases i with
      | zero => exact h hc
      | succ i => exact h (bl_trans _ _ _ (hs'.1 _ (List.getElem_mem (by simpa using hi))) hc)
theorem put_lo (at_ last : Int) (p : Pr) : ∀ rows : List Row, rows.Pairwise rLt →
    (foundV rows (loOf p.key rows) p.key = false ∧ put at_ last p rows = rows.take (loOf p.key rows) ++ (nw at_ p).toList ++ rows.drop (loOf p.key rows)) ∨
    (foundV rows (loOf p.key rows) p.key = true ∧ ∃ hl : loOf p.key rows < rows.length, put at_ last p rows = rows.set (loOf p.key rows) ⟨rows[loOf p.key rows].key, vlUp rows[loOf p.key rows].vs at_ last p.v⟩)
  | [], _ => .inl ⟨rfl, by simp [put, loOf]⟩
  | r :: rs, hs => by
    have hs' := List.pairwise_cons.1 hs
    unfold put
    by_cases h : bl' r.key p.key = true
    · have e : loOf p.key (r :: rs) = loOf p.key rs + 1 := by simp only [loOf]; rw [if_pos h]
      rw [if_pos h, e]
      rcases put_lo at_ last p rs hs'.2 with ⟨h1, h2⟩ | ⟨h1, hl, h2⟩
      · exact .inl ⟨h1, by rw [h2]; rfl⟩
      · exact .inr ⟨h1, by simp only [List.length_cons]; omega, by rw [h2]; rfl⟩
    · have e : loOf p.key (r :: rs) = 0 := by simp only [loOf]; rw [if_neg h]
      rw [if_neg h, e]
      by_cases h2 : r.key = p.key
      · rw [if_pos h2]
        refine .inr ⟨?_, by simp, rfl⟩
        show (cmpV r.key p.key == 0) = true
        rw [cmpV_eq, h2]
      · rw [if_neg h2]
        refine .inl ⟨?_, by simp⟩
        show (cmpV r.key p.key == 0) = false
        rw [Bool.eq_false_iff]
        intro hq
        exact h2 (ba_ext ((cmpV_eq _ _).1 hq))
theorem put_mem {at_ last : Int} {p : Pr} : ∀ {rows : List Row} {x : Row}, x ∈ put at_ last p rows → x ∈ rows ∨ (x.key = p.key ∧ (p.v.kind ≠ 0 ∧ x.vs = [⟨at_, p.v⟩] ∨ ∃ r ∈ rows, r.key = p.key ∧ x.vs = vlUp r.vs at_ last p.v))
  | [], x, h => by
    unfold put nw at h
    split at h
    · simp at h
    · rename_i hk
      simp at h
      subst h
      exact .inr ⟨rfl, .inl ⟨hk, rfl⟩⟩
  | r :: rs, x, h => by
    unfold put at h
    split at h
    · rcases List.mem_cons.1 h with rfl | h
      · exact .inl (by simp)
      · rcases put_mem h with h | ⟨h1, h2 | ⟨q, hq, h3⟩⟩
        · exact .inl (by simp [h])
        · exact .inr ⟨h1, .inl h2⟩
        · exact .inr ⟨h1, .inr ⟨q, by simp [hq], h3⟩⟩
    · split at h
      · rename_i hk
        rcases List.mem_cons.1 h with rfl | h
        · exact .inr ⟨hk, .inr ⟨r, by simp, hk, rfl⟩⟩
        · exact .inl (by simp [h])
      · rcases List.mem_append.1 h with h | h
        · unfold nw at h
          split at h
          · simp at h
          · rename_i hk
            simp at h
            subst h
            exact .inr ⟨rfl, .inl ⟨hk, rfl⟩⟩
        · exact .inl h
theorem put_key {at_ last : Int} {p : Pr} {rows : List Row} {x : Row} (h : x ∈ put at_ last p rows) : (∃ r ∈ rows, r.key = x.key) ∨ x.key = p.key := by
  rcases put_mem h with h | ⟨h, _⟩
  · exact .inl ⟨x, h, rfl⟩
  · exact .inr h
theorem put_sorted (at_ last : Int) (p : Pr) : ∀ rows : List Row, rows.Pairwise rLt → (put at_ last p rows).Pairwise rLt
  | [], _ => by unfold put nw; split <;> simp
  | r :: rs, hs => by
    have hs' := List.pairwise_cons.1 hs
    unfold put
    split
    · rename_i h
      refine List.pairwise_cons.2 ⟨fun x hx => ?_, put_sorted at_ last p rs hs'.2⟩
      rcases put_key hx with ⟨q, hq, e⟩ | e
      · have := hs'.1 q hq
        unfold rLt at this ⊢
        rw [← e]; exact this
      · unfold rLt; rw [e]; exact h
    · rename_i h
      split
      · exact List.pairwise_cons.2 ⟨fun x hx => hs'.1 x hx, hs'.2⟩
      · rename_i h2
        have h3 : bl p.key r.key := Classical.byContradiction fun h4 => h2 (bl_tot h h4)
        unfold nw
        split
        · exact hs
        · refine List.pairwise_cons.2 ⟨fun x hx => ?_, hs⟩
          rcases List.mem_cons.1 hx with rfl | hx
          · exact h3
          · exact h3.tr (hs'.1 x hx)
theorem rowOf_cons (r : Row) (rs : List Row) (key : ByteArray) : rowOf (r :: rs) key = if r.key = key then some r else rowOf rs key := by
  unfold rowOf
  by_cases h : r.key = key
  · rw [if_pos h, List.find?_cons_of_pos (by simp [h])]
  · rw [if_neg h, List.find?_cons_of_neg (fun e => h (ba_ext (by simpa using e)))]
theorem rowOf_nil (key : ByteArray) : rowOf [] key = none := rfl
theorem rowOf_below {r : Row} {key : ByteArray} : ∀ {rs : List Row}, (∀ x ∈ rs, rLt r x) → r.key = key → rowOf rs key = none
  | [], _, _ => rfl
  | x :: xs, h, e => by
    rw [rowOf_cons, if_neg (fun q => by
      have := h x (by simp)
      unfold rLt at this
      rw [e, q, bl_irrefl] at this
      cases this)]
    exact rowOf_below (fun y hy => h y (by simp [hy])) e
def upO (at_ last : Int) (p : Pr) : Option Row → Option Row
  | none => nw at_ p
  | some r => some ⟨r.key, vlUp r.vs at_ last p.v⟩
theorem put_row (at_ last : Int) (p : Pr) (key : ByteArray) : ∀ rows : List Row, rows.Pairwise rLt → rowOf (put at_ last p rows) key = if p.key = key then upO at_ last p (rowOf rows key) else rowOf rows key
  | [], _ => by
    rw [rowOf_nil]
    show rowOf (nw at_ p).toList key = if p.key = key then nw at_ p else none
    unfold nw
    split
    · split <;> rfl
    · show rowOf [_] key = _
      rw [rowOf_cons, rowOf_nil]
  | r :: rs, hs => by
    have hs' := List.pairwise_cons.1 hs
    have ih := put_row at_ last p key rs hs'.2
    unfold put
    by_cases h : bl' r.key p.key = true
    · rw [if_pos h, rowOf_cons, rowOf_cons, ih]
      by_cases hk : r.key = key
      · rw [if_pos hk, if_pos hk, if_neg (fun e => by
          have h' : bl r.key p.key := h
          rw [hk, e] at h'
          exact h'.irr)]
      · rw [if_neg hk, if_neg hk]
    · rw [if_neg h]
      by_cases h2 : r.key = p.key
      · rw [if_pos h2, rowOf_cons, rowOf_cons]
        show (if r.key = key then _ else _) = _
        by_cases hk : r.key = key
        · rw [if_pos hk, if_pos hk, if_pos (h2.symm.trans hk)]; rfl
        · rw [if_neg hk, if_neg hk, if_neg (fun e => hk (h2.trans e))]
      · rw [if_neg h2]
        have h3 : bl p.key r.key := Classical.byContradiction fun h4 => h2 (bl_tot h h4)
        by_cases hk : p.key = key
        · rw [if_pos hk]
          have e : rowOf (r :: rs) key = none := by
            rw [rowOf_cons, if_neg (fun e => h2 (e.trans hk.symm))]
            refine rowOf_below (r := ⟨p.key, []⟩) (fun x hx => ?_) hk
            exact h3.tr (hs'.1 x hx)
          rw [e]
          show rowOf ((nw at_ p).toList ++ r :: rs) key = nw at_ p
          unfold nw
          split
          · exact e
          · show rowOf (_ :: (r :: rs)) key = _
            rw [rowOf_cons, if_pos hk]
        · rw [if_neg hk]
          unfold nw
          split
          · rfl
          · show rowOf (_ :: (r :: rs)) key = _
            rw [rowOf_cons, if_neg hk]
theorem put_len (at_ last : Int) (p : Pr) : ∀ rows : List Row, (put at_ last p rows).length ≤ rows.length + 1
  | [] => by unfold put nw; split <;> simp
  | r :: rs => by
    have := put_len at_ last p rs
    unfold put
    split
    · simp only [List.length_cons]; omega
    · split
      · simp
      · unfold nw; split <;> simp
theorem vlUp_len (vs : List Ver) (at_ last : Int) (v : Vl) : (vlUp vs at_ last v).length ≤ vs.length + 1 := by unfold vlUp; split <;> simp
theorem put_vers {at_ last : Int} {p : Pr} {rows : List Row} {M : Nat} (h : ∀ r ∈ rows, r.vs.length ≤ M) : ∀ r ∈ put at_ last p rows, r.vs.length ≤ M + 1 := fun x hx => by
  rcases put_mem hx with h1 | ⟨_, ⟨_, h1⟩ | ⟨r, hr, _, h1⟩⟩
  · have := h x h1; omega
  · rw [h1]; simp
  · rw [h1]
    have := h r hr
    have := vlUp_len r.vs at_ last p.v
    omega
/-- All writes. -/
def putAll (at_ last : Int) (ws : List Pr) (rows : List Row) : List Row := ws.foldl (fun rs p => put at_ last p rs) rows
theorem putAll_succ (at_ last : Int) (ws : List Pr) (rows : List Row) (k : Nat) (h : k < ws.length) : putAll at_ last (ws.take (k + 1)) rows = put at_ last ws[k] (putAll at_ last (ws.take k) rows) := by
  unfold putAll
  rw [List.take_succ_eq_append_getElem h, List.foldl_append]; rfl
theorem putAll_sorted (at_ last : Int) : ∀ (ws : List Pr) (rows : List Row), rows.Pairwise rLt → (putAll at_ last ws rows).Pairwise rLt
  | [], _, h => h
  | p :: ws, rows, h => putAll_sorted at_ last ws _ (put_sorted at_ last p rows h)
theorem putAll_len (at_ last : Int) : ∀ (ws : List Pr) (rows : List Row), (putAll at_ last ws rows).length ≤ rows.length + ws.length
  | [], _ => Nat.le_refl _
  | p :: ws, rows => by
    have h1 := putAll_len at_ last ws (put at_ last p rows)
    have h2 := put_len at_ last p rows
    show (putAll at_ last ws (put at_ last p rows)).length ≤ _
    simp only [List.length_cons]; omega
theorem putAll_vers {at_ last : Int} {M : Nat} : ∀ {ws : List Pr} {rows : List Row}, (∀ r ∈ rows, r.vs.length ≤ M) → ∀ r ∈ putAll at_ last ws rows, r.vs.length ≤ M + ws.length
  | [], _, h => h
  | p :: ws, rows, h => fun r hr => by
    have := putAll_vers (ws := ws) (put_vers (at_ := at_) (last := last) (p := p) h) r hr
    simp only [List.length_cons]; omega
theorem putAll_row (at_ last : Int) (key : ByteArray) : ∀ (ws : List Pr) (rows : List Row), rows.Pairwise rLt → Srt ws →
    rowOf (putAll at_ last ws rows) key = match fnd ws key with | none => rowOf rows key | some p => upO at_ last p (rowOf rows key)
  | [], _, _, _ => rfl
  | p :: ws, rows, hr, hw => by
    rw [srt_cons] at hw
    have ih := putAll_row at_ last key ws (put at_ last p rows) (put_sorted at_ last p rows hr) hw.2
    show rowOf (putAll at_ last ws (put at_ last p rows)) key = _
    rw [ih, put_row at_ last p key rows hr]
    simp only [fnd]
    by_cases hk : p.key = key
    · have e : fnd ws key = none := by rw [← hk]; exact fnd_lb hw.1
      rw [e, if_pos hk, if_pos hk]
    · rw [if_neg hk, if_neg hk]
theorem put_vers2 {at_ last : Int} {p : Pr} {rows : List Row} (h : ∀ r ∈ rows, r.fit) (hp : p.fit) (M : Nat) (hM : ∀ r ∈ rows, r.vs.length ≤ M) (hMb : M + 1 ≤ 9223372036854775807) : ∀ r ∈ put at_ last p rows, r.fit := fun x hx => by
  have hl := put_vers (at_ := at_) (last := last) (p := p) hM x hx
  rcases put_mem hx with h1 | ⟨hk, ⟨_, h1⟩ | ⟨r, hr, hk2, h1⟩⟩
  · exact h x h1
  · refine ⟨by rw [hk]; exact hp.1, by omega, fun y hy => ?_⟩
    rw [h1, List.mem_singleton] at hy
    subst hy; exact hp.2
  · refine ⟨by rw [hk]; exact hp.1, by omega, fun y hy => ?_⟩
    rw [h1] at hy
    unfold vlUp at hy
    split at hy
    · exact (h r hr).2.2 y hy
    · rcases List.mem_append.1 hy with hy | hy
      · exact (h r hr).2.2 y hy
      · rw [List.mem_singleton] at hy
        subst hy; exact hp.2
theorem putAll_fit {at_ last : Int} : ∀ {ws : List Pr} {rows : List Row} (M : Nat), (∀ r ∈ rows, r.fit) → (∀ p ∈ ws, p.fit) → (∀ r ∈ rows, r.vs.length ≤ M) → M + ws.length ≤ 9223372036854775807 → ∀ r ∈ putAll at_ last ws rows, r.fit
  | [], _, _, h, _, _, _ => h
  | p :: ws, rows, M, h, hp, hM, hb => by
    simp only [List.length_cons] at hb
    show ∀ r ∈ putAll at_ last ws (put at_ last p rows), r.fit
    exact putAll_fit (rows := put at_ last p rows) (M + 1) (put_vers2 h (hp p (by simp)) M hM (by omega)) (fun q hq => hp q (by simp [hq])) (put_vers hM) (by omega)

/-! The contract -/
theorem insOk_put (rows : List Row) (lo : Nat) (x : Row) (hlo : lo ≤ rows.length) (hb : ((rows.length + 1) + (rows.length + 1) / 4 + 192) * 40 ≤ 281474976710656) (hb2 : (rows.length + 1) * 40 ≤ 140737488355328) :
    InsOk rows (rows.take lo ++ [x] ++ rows.drop lo) lo x := by
  intro H _
  have h := ins_iden 0 lo (rows.map Row.row) x.row H [⟨52, 2, rows.map Row.row, true⟩] rfl (by rw [List.length_map]; exact hlo) (by rw [List.length_map]; exact hb) (by rw [List.length_map]; exact hb2)
  have e : (rows.map Row.row).take lo ++ [x.row] ++ (rows.map Row.row).drop lo = (rows.take lo ++ [x] ++ rows.drop lo).map Row.row := by
    rw [List.map_append, List.map_append, List.map_take, List.map_drop]; rfl
  rw [e] at h
  exact h
theorem put_step (at_ last : Int) (p : Pr) (rows : List Row) (hs : rows.Pairwise rLt) (hb : ((rows.length + 1) + (rows.length + 1) / 4 + 192) * 40 ≤ 281474976710656) (hb2 : (rows.length + 1) * 40 ≤ 140737488355328) :
    ∃ lo, Lo rows p.key lo ∧ AStep at_ last rows (put at_ last p rows) p lo := by
  have hL := lo_Lo p.key rows hs
  refine ⟨_, hL, ?_⟩
  rcases put_lo at_ last p rows hs with ⟨h1, h2⟩ | ⟨h1, hl, h2⟩
  · by_cases hk : p.v.kind = 0
    · refine .none h1 hk ?_
      rw [h2, show nw at_ p = none from if_pos hk]
      simp
    · refine .new h1 hk ?_
      rw [h2, show nw at_ p = some ⟨p.key, [⟨at_, p.v⟩]⟩ from if_neg hk]
      exact insOk_put rows _ _ hL.1 hb hb2
  · cases he : vlEq (vlAt rows[loOf p.key rows].vs last) p.v with
    | true =>
      refine .same hl h1 he ?_
      rw [h2]
      unfold vlUp
      rw [if_pos he]
      exact List.set_getElem_self hl
    | false =>
      refine .more hl h1 he ?_
      rw [h2]
      unfold vlUp
      rw [if_neg (by rw [he]; simp)]
theorem putAll_small (at_ last : Int) (ws : List Pr) (rows : List Row) (k M : Nat) (hM : ∀ r ∈ rows, r.vs.length ≤ M) (hb : (rows.length + ws.length + 1) * 40 ≤ 140737488351232) (hb2 : (M + ws.length + 1) * 40 ≤ 140737488351232) :
    (putAll at_ last (ws.take k) rows).length * 40 ≤ 140737488351232 ∧ ∀ r ∈ putAll at_ last (ws.take k) rows, (r.vs.length + 1) * 40 ≤ 140737488351232 := by
  have h1 := putAll_len at_ last (ws.take k) rows
  have h2 : (ws.take k).length ≤ ws.length := by rw [List.length_take]; exact Nat.min_le_right _ _
  have h3 := putAll_vers (at_ := at_) (last := last) (ws := ws.take k) hM
  generalize putAll at_ last (ws.take k) rows = R at *
  refine And.intro (by omega) ?_
  intro r hr
  have h4 : r.vs.length ≤ M + ws.length := Nat.le_trans (h3 r hr) (Nat.add_le_add_left h2 M)
  exact Nat.le_trans (Nat.mul_le_mul_right 40 (Nat.succ_le_succ h4)) hb2
theorem apply_good (s : Store) (hs : s.fit) (hsm : s.small) (at_ : Int) (ws : List Pr) (hwf : ∀ p ∈ ws, p.fit) (hv : storeV s = true) (hw : writesGo none ws = true) (ha : s.la < at_ ∧ at_ ≤ 1099511627776)
    (M : Nat) (hM : ∀ r ∈ s.rows, r.vs.length ≤ M) (hb : (s.rows.length + ws.length + 1) * 40 ≤ 140737488351232) (hb2 : (M + ws.length + 1) * 40 ≤ 140737488351232) :
    PDen Try.prog 9 [.agg s.row, .a (.int .i64 at_), .a (.slice 4 (ws.map Pr.row))] (.tup [.agg (Store.row ⟨s.fl, at_, putAll at_ s.la ws s.rows⟩), .a (.int .i64 0)]) := by
  have hso := (storeV_sorted s hv).1
  have h0 : putAll at_ s.la (ws.take 0) s.rows = s.rows := by rw [List.take_zero]; rfl
  have hlen := fun k => putAll_small at_ s.la ws s.rows k M hM hb hb2
  have hst : ∀ (k : Nat) (hk : k < ws.length), ∃ lo, Lo (putAll at_ s.la (ws.take k) s.rows) ws[k].key lo ∧ AStep at_ s.la (putAll at_ s.la (ws.take k) s.rows) (putAll at_ s.la (ws.take (k + 1)) s.rows) ws[k] lo := fun k hk => by
    rw [putAll_succ at_ s.la ws s.rows k hk]
    have h1 := putAll_len at_ s.la (ws.take k) s.rows
    have h2 : (ws.take k).length < ws.length := by rw [List.length_take]; omega
    have hso2 := putAll_sorted at_ s.la (ws.take k) _ hso
    have h5 : (putAll at_ s.la (ws.take k) s.rows).length + 1 ≤ s.rows.length + ws.length + 1 := by omega
    have h6 : ((putAll at_ s.la (ws.take k) s.rows).length + 1) * 40 ≤ 140737488351232 := Nat.le_trans (Nat.mul_le_mul_right 40 h5) hb
    exact put_step at_ s.la ws[k] _ hso2 (ins_gate _ h6).1 (Nat.le_trans h6 (by decide))
  have h := apply_den s hs hsm at_ ws (by omega) hwf hv hw ha (fun k => putAll at_ s.la (ws.take k) s.rows) h0 hlen hst
  simp only [List.take_length] at h
  exact h
end Go.Proofs.Ytlfebjehmabejaa
