/- Regions that draw their order, two neighbours in which nothing orders: every order is one of two kinds. No program. -/
import Derived.Test.YtnhcahoeklpbfaaAbN2
set_option linter.unusedSimpArgs false
set_option linter.unusedVariables false
namespace Ab
open Go Go.RowKit

/-- An order of the operations from `listed` on. -/
def Ordered (ops : Array Oper) : Nat → Array Bool → List Nat → Prop
  | 0, _, L => L = []
  | fuel + 1, listed, L => match L with
    | [] => Region.ready .any ops listed = []
    | i :: L => i ∈ Region.ready .any ops listed ∧ Ordered ops fuel (listed.setIfInBounds i true) L

theorem ordered_go (ops : Array Oper) : ∀ (fuel t : Nat) (listed : Array Bool), Ordered ops fuel listed (Region.linearise.go .any ops fuel t listed []) := by
  intro fuel
  induction fuel with
  | zero => intro t listed; simp [Region.linearise.go, Ordered]
  | succ fuel ih =>
    intro t listed
    simp only [Region.linearise.go]
    change Ordered ops (fuel + 1) listed (match (Region.ready .any ops listed)[t % (Region.ready .any ops listed).length]? with
      | some i => Region.linearise.go .any ops fuel (t / (Region.ready .any ops listed).length) (listed.setIfInBounds i true) [i]
      | none => [].reverse)
    cases hi : (Region.ready .any ops listed)[t % (Region.ready .any ops listed).length]? with
    | none =>
      have hnil : Region.ready .any ops listed = [] := by
        cases hr : Region.ready .any ops listed with
        | nil => rfl
        | cons x xs =>
          rw [hr] at hi
          have hlt : t % (x :: xs).length < (x :: xs).length := Nat.mod_lt _ (by simp)
          simp at hi
          simp at hlt
          omega
      simpa [Ordered] using hnil
    | some i =>
      simp only []
      rw [linearise_go_acc, List.reverse_singleton, List.singleton_append]
      exact ⟨List.mem_of_getElem? hi, ih _ _⟩

theorem ordered_wp {P : Program} {ops : Array Oper} {Q : Exit → Act → World → Prop} : ∀ (fuel : Nat) (listed : Array Bool) (L : List Nat) (a : Act) (w : World), wpAny P .any ops Q fuel listed a w → Ordered ops fuel listed L → wpOps P ops Q L a w := by
  intro fuel
  induction fuel with
  | zero => intro listed L a w h hL; simp only [Ordered] at hL; subst hL; exact h.2
  | succ fuel ih =>
    intro listed L a w h hL
    cases L with
    | nil => exact h.1 hL
    | cons i L =>
      rw [wpOps_cons]
      exact wpOp_mono (fun a w hw => ih _ _ a w hw hL.2) (h.2 i hL.1)

/-- i comes up before j. -/
def fst (i j : Nat) : List Nat → Bool
  | [] => true
  | k :: L => if k = i then true else if k = j then false else fst i j L
theorem fst_or {i j : Nat} (h : i ≠ j) : ∀ L : List Nat, fst i j L = true ∨ fst j i L = true
  | [] => .inl rfl
  | k :: L => by
    simp only [fst]
    by_cases h1 : k = i
    · left; rw [if_pos h1]
    · by_cases h2 : k = j
      · right; rw [if_pos h2]
      · rw [if_neg h1, if_neg h2, if_neg h2, if_neg h1]; exact fst_or h L

theorem edgeL_get (p : Nat) : ∀ (n : Nat) (l : List Oper) (k : Nat), (edgeL p n l)[k]? = if k = n then (l[k]?).map (edgeO p) else l[k]?
  | n, [], k => by cases n <;> simp [edgeL]
  | 0, o :: l, k => by cases k <;> simp [edgeL]
  | n + 1, o :: l, k => by
    cases k with
    | zero => simp [edgeL]
    | succ k =>
      simp only [edgeL, List.getElem?_cons_succ]
      rw [edgeL_get p n l k]
      simp
theorem edgeL_len (p : Nat) : ∀ (n : Nat) (l : List Oper), (edgeL p n l).length = l.length
  | n, [] => by cases n <;> simp [edgeL]
  | 0, o :: l => by simp [edgeL]
  | n + 1, o :: l => by simp only [edgeL, List.length_cons]; rw [edgeL_len p n l]
theorem withEdge_get (p : Nat) (ops : Array Oper) (k : Nat) : (withEdge p ops)[k]? = if k = p + 1 then (ops[k]?).map (edgeO p) else ops[k]? := by
  unfold withEdge
  have := edgeL_get p (p + 1) ops.toList k
  simpa using this
theorem withEdge_size (p : Nat) (ops : Array Oper) : (withEdge p ops).size = ops.size := by
  unfold withEdge
  simp [edgeL_len]

theorem ready_edge {p k : Nat} {ops : Array Oper} {listed : Array Bool} (h : k ∈ Region.ready .any (withEdge p ops) listed) : k ∈ Region.ready .any ops listed := by
  obtain ⟨h1, o, ho, hall⟩ := mem_ready.1 h
  rw [withEdge_get] at ho
  split at ho
  · cases hk : ops[k]? with
    | none => rw [hk] at ho; cases ho
    | some o' =>
      rw [hk] at ho
      simp only [Option.map_some, Option.some.injEq] at ho
      subst ho
      exact mem_ready.2 ⟨h1, o', hk, fun e he hb => hall e (by simp [edgeO, he]) hb⟩
  · exact mem_ready.2 ⟨h1, o, ho, hall⟩
theorem ready_edge' {p k : Nat} {ops : Array Oper} {listed : Array Bool} (h : k ∈ Region.ready .any ops listed) (hp : k = p + 1 → listed.getD p false = true) : k ∈ Region.ready .any (withEdge p ops) listed := by
  obtain ⟨h1, o, ho, hall⟩ := mem_ready.1 h
  by_cases hk : k = p + 1
  · refine mem_ready.2 ⟨h1, edgeO p o, by rw [withEdge_get, if_pos hk, ho]; rfl, fun e he hb => ?_⟩
    simp only [edgeO, Array.mem_push] at he
    rcases he with he | rfl
    · exact hall e he hb
    · exact hp hk
  · exact mem_ready.2 ⟨h1, o, by rw [withEdge_get, if_neg hk, ho], hall⟩

theorem ordered_edge {p : Nat} {ops : Array Oper} : ∀ (fuel : Nat) (listed : Array Bool) (L : List Nat), Ordered ops fuel listed L → (listed.getD p false = true ∨ fst p (p + 1) L = true) → Ordered (withEdge p ops) fuel listed L := by
  intro fuel
  induction fuel with
  | zero => intro listed L h _; exact h
  | succ fuel ih =>
    intro listed L h hor
    cases L with
    | nil =>
      have h : Region.ready .any ops listed = [] := h
      show Region.ready .any (withEdge p ops) listed = []
      apply List.eq_nil_iff_forall_not_mem.2
      intro k hk
      have := ready_edge hk
      rw [h] at this; cases this
    | cons k L =>
      obtain ⟨h1, h2⟩ := h
      have hlt : k < listed.size := by
        obtain ⟨h3, _⟩ := mem_ready.1 h1
        rcases Nat.lt_or_ge k listed.size with h4 | h4
        · exact h4
        · simp [h4] at h3
      refine ⟨ready_edge' h1 fun hk => ?_, ih _ _ h2 ?_⟩
      · rcases hor with h | h
        · exact h
        · simp only [fst] at h
          rw [if_neg (by omega), if_pos hk] at h
          cases h
      · by_cases hkp : k = p
        · left; subst hkp; simp [hlt]
        · rcases hor with h | h
          · left; rw [getD_set_ne false hkp]; exact h
          · simp only [fst] at h
            rw [if_neg hkp] at h
            split at h
            · cases h
            · right; exact h

theorem wpOps_edge {P : Program} {p : Nat} {ops : Array Oper} {Q : Exit → Act → World → Prop} : ∀ (L : List Nat) (a : Act) (w : World), wpOps P (withEdge p ops) Q L a w → wpOps P ops Q L a w
  | [], _, _, h => h
  | k :: L, a, w, h => by
    rw [wpOps_cons] at h ⊢
    have h := wpOp_mono (K' := wpOps P ops Q L) (fun a w => wpOps_edge L a w) h
    have hy : yielded (withEdge p ops) a.tmps = yielded ops a.tmps := by
      funext j
      unfold yielded
      rw [withEdge_get]
      by_cases hj : j = p + 1
      · rw [if_pos hj]; cases ops[j]? <;> rfl
      · rw [if_neg hj]
    unfold wpOp at h ⊢
    rw [withEdge_get, hy] at h
    split at h
    · rename_i heq
      split at heq
      · cases ho : ops[k]? with
        | none => exact h
        | some o => rw [ho] at heq; cases heq
      · rw [heq]; exact h
    · rename_i o heq
      split at heq
      · cases ho : ops[k]? with
        | none => rw [ho] at heq; cases heq
        | some o' =>
          rw [ho] at heq
          simp only [Option.map_some, Option.some.injEq] at heq
          subst heq
          exact h
      · rw [heq]; exact h

/-! The other order -/
theorem swapI_swapI (p i : Nat) : swapI p (swapI p i) = i := by
  unfold swapI
  split <;> split <;> (try split) <;> omega
theorem swapL_get : ∀ (p : Nat) (l : List Oper), p + 1 < l.length → ∀ k, (swapL p l)[swapI p k]? = l[k]?
  | 0, x :: y :: r, _, k => by
    match k with
    | 0 => rfl
    | 1 => rfl
    | k + 2 => rw [show swapI 0 (k + 2) = k + 2 by unfold swapI; rw [if_neg (by omega), if_neg (by omega)]]; rfl
  | 0, [x], h, _ => by simp at h
  | 0, [], h, _ => by simp at h
  | n + 1, [], h, _ => by simp at h
  | n + 1, x :: r, h, k => by
    cases k with
    | zero => rw [show swapI (n + 1) 0 = 0 by unfold swapI; rw [if_neg (by omega), if_neg (by omega)]]; rfl
    | succ k =>
      have e : swapI (n + 1) (k + 1) = swapI n k + 1 := by unfold swapI; split <;> split <;> (try split) <;> (try split) <;> omega
      rw [e]
      simp only [swapL, List.getElem?_cons_succ]
      exact swapL_get n r (by simpa using h) k
theorem swapOps_get {p : Nat} {ops : Array Oper} (hp : p + 1 < ops.size) (k : Nat) : (swapOps p ops)[swapI p k]? = (ops[k]?).map (relab p) := by
  unfold swapOps
  have := swapL_get p ops.toList (by simpa using hp) k
  simp only [List.getElem?_toArray, List.getElem?_map, this, Array.getElem?_toList]
theorem swapL_len : ∀ (p : Nat) (l : List Oper), (swapL p l).length = l.length
  | 0, x :: y :: r => rfl
  | 0, [x] => rfl
  | 0, [] => rfl
  | n + 1, [] => rfl
  | n + 1, x :: r => by simp only [swapL, List.length_cons]; rw [swapL_len n r]
theorem swapOps_size (p : Nat) (ops : Array Oper) : (swapOps p ops).size = ops.size := by
  unfold swapOps; simp [swapL_len]

def Turned (p : Nat) (x y : Array Bool) : Prop := ∀ (b : Bool) (k : Nat), y.getD (swapI p k) b = x.getD k b
theorem ready_swap {p k : Nat} {ops : Array Oper} (hp : p + 1 < ops.size) {x y : Array Bool} (hxy : Turned p x y) (h : k ∈ Region.ready .any ops x) : swapI p k ∈ Region.ready .any (swapOps p ops) y := by
  obtain ⟨h1, o, ho, hall⟩ := mem_ready.1 h
  refine mem_ready.2 ⟨by rw [hxy]; exact h1, relab p o, by rw [swapOps_get hp, ho]; rfl, fun e he hb => ?_⟩
  simp only [relab, Array.mem_map] at he
  obtain ⟨e', he', rfl⟩ := he
  rw [hxy]
  exact hall e' he' hb
theorem ready_swap' {p k : Nat} {ops : Array Oper} (hp : p + 1 < ops.size) {x y : Array Bool} (hxy : Turned p x y) (h : swapI p k ∈ Region.ready .any (swapOps p ops) y) : k ∈ Region.ready .any ops x := by
  obtain ⟨h1, o, ho, hall⟩ := mem_ready.1 h
  rw [swapOps_get hp] at ho
  rw [hxy] at h1
  cases hk : ops[k]? with
  | none => rw [hk] at ho; cases ho
  | some o' =>
    rw [hk] at ho
    simp only [Option.map_some, Option.some.injEq] at ho
    subst ho
    refine mem_ready.2 ⟨h1, o', hk, fun e he hb => ?_⟩
    have := hall { e with on := swapI p e.on } (by simp only [relab, Array.mem_map]; exact ⟨e, he, rfl⟩) hb
    rw [hxy] at this
    exact this
theorem Turned.set {p i : Nat} {x y : Array Bool} (h : Turned p x y) (hi : i < x.size) : Turned p (x.setIfInBounds i true) (y.setIfInBounds (swapI p i) true) := by
  intro b k
  have hy : swapI p i < y.size := by
    have h1 := h true i
    have h2 := h false i
    rcases Nat.lt_or_ge (swapI p i) y.size with h4 | h4
    · exact h4
    · simp [h4, hi] at h1 h2
      rw [h1] at h2; cases h2
  by_cases hk : k = i
  · subst hk; simp [hi, hy]
  · have hne : swapI p i ≠ swapI p k := fun e => hk (by have := congrArg (swapI p) e; rw [swapI_swapI, swapI_swapI] at this; exact this.symm)
    rw [getD_set_ne b hne, getD_set_ne b (Ne.symm hk)]
    exact h b k
theorem ordered_swap {p : Nat} {ops : Array Oper} (hp : p + 1 < ops.size) : ∀ (fuel : Nat) (x y : Array Bool) (L : List Nat), Turned p x y → Ordered ops fuel x L → Ordered (swapOps p ops) fuel y (L.map (swapI p)) := by
  intro fuel
  induction fuel with
  | zero => intro x y L _ h; simp only [Ordered] at h ⊢; rw [h]; rfl
  | succ fuel ih =>
    intro x y L hxy h
    cases L with
    | nil =>
      have h : Region.ready .any ops x = [] := h
      show Region.ready .any (swapOps p ops) y = []
      apply List.eq_nil_iff_forall_not_mem.2
      intro k hk
      rw [← swapI_swapI p k] at hk
      have := ready_swap' hp hxy hk
      rw [h] at this; cases this
    | cons k L =>
      obtain ⟨h1, h2⟩ := h
      have hlt : k < x.size := by
        obtain ⟨h3, _⟩ := mem_ready.1 h1
        rcases Nat.lt_or_ge k x.size with h4 | h4
        · exact h4
        · simp [h4] at h3
      exact ⟨ready_swap hp hxy h1, ih _ _ _ (hxy.set hlt) h2⟩
theorem wpOps_swap {P : Program} {p : Nat} {ops : Array Oper} (hp : p + 1 < ops.size) {Q : Exit → Act → World → Prop} : ∀ (L : List Nat) (a : Act) (w : World), wpOps P (swapOps p ops) Q (L.map (swapI p)) a w → wpOps P ops Q L a w
  | [], _, _, h => h
  | k :: L, a, w, h => by
    rw [List.map_cons, wpOps_cons] at h
    rw [wpOps_cons]
    have h := wpOp_mono (K' := wpOps P ops Q L) (fun a w => wpOps_swap hp L a w) h
    have hy : ∀ j, yielded (swapOps p ops) a.tmps (swapI p j) = yielded ops a.tmps j := by
      intro j
      unfold yielded
      rw [swapOps_get hp]
      cases ops[j]? <;> rfl
    unfold wpOp at h ⊢
    rw [swapOps_get hp] at h
    cases ho : ops[k]? with
    | none => rw [ho] at h; exact h
    | some o =>
      rw [ho] at h
      simp only [Option.map_some] at h
      have hw : Region.wanted (relab p o) (yielded (swapOps p ops) a.tmps) = Region.wanted o (yielded ops a.tmps) := by
        unfold Region.wanted
        cases hg : o.guard with
        | none => simp [relab, hg]
        | some jb => obtain ⟨j, b⟩ := jb; simp only [relab, hg, Option.map_some]; rw [hy]
      rw [hw] at h
      exact h
theorem fst_swap {p : Nat} : ∀ L : List Nat, fst (p + 1) p L = true → fst p (p + 1) (L.map (swapI p)) = true
  | [], _ => rfl
  | k :: L, h => by
    simp only [fst, List.map_cons] at h ⊢
    by_cases h1 : k = p + 1
    · rw [if_pos (by subst h1; unfold swapI; rw [if_neg (by omega), if_pos rfl])]
    · rw [if_neg h1] at h
      split at h
      · cases h
      · rename_i h2
        have e : swapI p k = k := by unfold swapI; rw [if_neg h2, if_neg h1]
        rw [e, if_neg h2, if_neg h1]
        exact fst_swap L h
theorem Turned.none (p n : Nat) : p + 1 < n → Turned p (Array.replicate n false) (Array.replicate n false) := by
  intro hp b k
  have e : ∀ i, (Array.replicate n false).getD i b = if i < n then false else b := by
    intro i
    by_cases h : i < n
    · simp [h]
    · simp [h]
  rw [e, e]
  have : swapI p k < n ↔ k < n := by unfold swapI; split <;> (try split) <;> omega
  by_cases h : k < n
  · rw [if_pos h, if_pos (this.2 h)]
  · rw [if_neg h, if_neg (fun h' => h (this.1 h'))]

section
variable {P : Program} {C : Ctx} {ops : Array Oper}
theorem two_core {cp : CP} (hkp : C.keep = true → cp.keep = true ∧ (cp.from_ = 0 ∨ C.E0.κ.length ≤ cp.from_)) {p : Nat} {al al' : List AOp} (hp : p + 1 < ops.size)
    (hal : mapO (cOper P cp (withEdge p ops).toList) (withEdge p ops).toList = some al) (hok : drawOk (withEdge p ops) (kindOf (withEdge p ops) al) = true)
    (hal' : mapO (cOper P cp (withEdge p (swapOps p ops)).toList) (withEdge p (swapOps p ops)).toList = some al') (hok' : drawOk (withEdge p (swapOps p ops)) (kindOf (withEdge p (swapOps p ops)) al') = true)
    {Kf : St → Prop} {st : St} (h : aops P Kf al st) (h' : aops P Kf al' st)
    {E : Env} {a : Act} {w : World} (hsat : Sat C E a w st) {Q : Exit → Act → World → Prop} (hq : ∀ E' a' w' st', Kf st' → Sat C E' a' w' st' → Q .normal a' w')
    {L : List Nat} (hL : Ordered ops ops.size (Array.replicate ops.size false) L) : wpOps P ops Q L a { w with drawn := w.drawn + 1 } := by
    rcases fst_or (i := p) (j := p + 1) (by omega) L with hf | hf
    · have h1 := region_any hkp hal hok h hsat hq
      rw [withEdge_size] at h1
      exact wpOps_edge _ _ _ (ordered_wp _ _ _ _ _ h1 (ordered_edge _ _ _ hL (.inr hf)))
    · have h1 := region_any hkp hal' hok' h' hsat hq
      rw [withEdge_size, swapOps_size] at h1
      exact wpOps_swap hp _ _ _ (wpOps_edge _ _ _ (ordered_wp _ _ _ _ _ h1 (ordered_edge _ _ _ (ordered_swap hp _ _ _ _ (.none _ _ hp) hL) (.inr (fst_swap _ hf)))))

theorem region_two {cp : CP} (hkp : C.keep = true → cp.keep = true ∧ (cp.from_ = 0 ∨ C.E0.κ.length ≤ cp.from_)) {id p : Nat} {al al' : List AOp} (hp : p + 1 < ops.size)
    (hal : mapO (cOper P cp (withEdge p ops).toList) (withEdge p ops).toList = some al) (hok : drawOk (withEdge p ops) (kindOf (withEdge p ops) al) = true)
    (hal' : mapO (cOper P cp (withEdge p (swapOps p ops)).toList) (withEdge p (swapOps p ops)).toList = some al') (hok' : drawOk (withEdge p (swapOps p ops)) (kindOf (withEdge p (swapOps p ops)) al') = true)
    (hm : P.follows .mixedOrders = true) {Kf : St → Prop} {st : St} (h : aops P Kf al st) (h' : aops P Kf al' st)
    {E : Env} {a : Act} {w : World} (hsat : Sat C E a w st) {Q : Exit → Act → World → Prop} (hq : ∀ E' a' w' st', Kf st' → Sat C E' a' w' st' → Q .normal a' w') : (Code.region id ops true).wp P Q a w :=
  wp_region_draw fun t => by
    simp only [Region.schedule, hm, Bool.true_or, if_true]
    have hL := ordered_go ops ops.size t (Array.replicate ops.size false)
    change Ordered ops ops.size (Array.replicate ops.size false) (Region.linearise .any ops t) at hL
    exact two_core hkp hp hal hok hal' hok' h h' hsat hq hL

/-- The same, two other neighbours first put the other way round. -/
theorem region_two_at {cp : CP} (hkp : C.keep = true → cp.keep = true ∧ (cp.from_ = 0 ∨ C.E0.κ.length ≤ cp.from_)) {id p m : Nat} {al al' : List AOp} (hpm : m + 1 < ops.size) (hp : p + 1 < (swapOps m ops).size)
    (hal : mapO (cOper P cp (withEdge p (swapOps m ops)).toList) (withEdge p (swapOps m ops)).toList = some al) (hok : drawOk (withEdge p (swapOps m ops)) (kindOf (withEdge p (swapOps m ops)) al) = true)
    (hal' : mapO (cOper P cp (withEdge p (swapOps p (swapOps m ops))).toList) (withEdge p (swapOps p (swapOps m ops))).toList = some al') (hok' : drawOk (withEdge p (swapOps p (swapOps m ops))) (kindOf (withEdge p (swapOps p (swapOps m ops))) al') = true)
    (hm : P.follows .mixedOrders = true) {Kf : St → Prop} {st : St} (h : aops P Kf al st) (h' : aops P Kf al' st)
    {E : Env} {a : Act} {w : World} (hsat : Sat C E a w st) {Q : Exit → Act → World → Prop} (hq : ∀ E' a' w' st', Kf st' → Sat C E' a' w' st' → Q .normal a' w') : (Code.region id ops true).wp P Q a w :=
  wp_region_draw fun t => by
    simp only [Region.schedule, hm, Bool.true_or, if_true]
    have hL := ordered_go ops ops.size t (Array.replicate ops.size false)
    change Ordered ops ops.size (Array.replicate ops.size false) (Region.linearise .any ops t) at hL
    have hL' := ordered_swap hpm _ _ _ _ (.none _ _ hpm) hL
    have e := swapOps_size m ops
    refine wpOps_swap hpm _ _ _ (two_core hkp hp hal hok hal' hok' h h' hsat hq ?_)
    rw [e]
    exact hL'
end
end Ab
