/- Regions that draw their order: one order serves all. No program. -/
import Derived.Test.YtnhcahoeklpbfaaAbN
set_option linter.unusedSimpArgs false
set_option linter.unusedVariables false
namespace Ab
open Go Go.RowKit

section
variable {P : Program} {C : Ctx} {ops : Array Oper}

/-- A frame's slots by number. -/
structure SatV (C : Ctx) (E : Env) (a : Act) (w : World) (val : Nat → AV) (n : Nat) (H : List (List AV)) (O : List OwnD) : Prop where
  holds : Holds C.base C.w0 E w H O
  S : ∀ g o, C.E0.S g o → E.S g o ∧ w.cell? ⟨g, o, none⟩ = C.wE.cell? ⟨g, o, none⟩
  ι : ∀ (i g : Nat), C.E0.ι[i]? = some g → E.ι[i]? = some g
  news : ∀ g o, E.S g o → C.E0.S g o ∨ C.base ≤ g
  defers : a.defers = []
  κ : C.keep = true → ∀ (k : Nat) (v : Value), C.E0.κ[k]? = some v → E.κ[k]? = some v
  size : a.tmps.size = n
  val : ∀ t, RepV E w (val t) (a.tmps.getD t Go.undef)

theorem SatV.of {E : Env} {a : Act} {w : World} {st : St} (h : Sat C E a w st) : SatV C E a w (fun t => st.fr.getD t .undef) st.fr.length st.H st.O :=
  ⟨h.holds, h.S, h.ι, h.news, h.defers, h.κ, h.fr.1, fun t => h.fr.get t⟩

theorem SatV.to {E : Env} {a : Act} {w : World} {st : St} {val : Nat → AV} {n : Nat} {H : List (List AV)} {O : List OwnD} (h : SatV C E a w val n H O) (hn : st.fr.length = n) (hv : ∀ t, val t = st.fr.getD t .undef) (hH : st.H = H) (hO : st.O = O) : Sat C E a w st := by
  subst hH; subst hO
  refine ⟨h.holds, h.S, h.ι, h.news, h.defers, h.κ, h.size.trans hn.symm, fun t x u hx hu => ?_⟩
  have := h.val t
  rw [hv t] at this
  have e1 : st.fr.getD t .undef = x := by rw [List.getD_eq_getElem?_getD, hx]; rfl
  have e2 : a.tmps.getD t Go.undef = u := by simp [hu]
  rw [e1, e2] at this
  exact this

theorem put_getD (st : St) (d : Option Nat) (r : AV) (t : Nat) : (st.put d r).fr.getD t .undef = if d = some t ∧ t < st.fr.length then r else st.fr.getD t .undef := by
  cases d with
  | none => simp [St.put]
  | some d =>
    simp only [St.put, List.getD_eq_getElem?_getD, List.getElem?_set]
    by_cases hd : d = t
    · subst hd
      by_cases hl : d < st.fr.length
      · simp [hl]
      · simp [hl]
    · simp [hd]
theorem put_H (st : St) (d : Option Nat) (r : AV) : (st.put d r).H = st.H := by cases d <;> rfl
theorem put_O (st : St) (d : Option Nat) (r : AV) : (st.put d r).O = st.O := by cases d <;> rfl
theorem put_len (st : St) (d : Option Nat) (r : AV) : (st.put d r).fr.length = st.fr.length := by cases d <;> simp [St.put]

theorem act_getD (a : Act) (d : Option Nat) (v : Value) (t : Nat) : (a.put d v).tmps.getD t Go.undef = if d = some t ∧ t < a.tmps.size then v else a.tmps.getD t Go.undef := by
  cases d with
  | none => simp [Act.put]
  | some d =>
    simp only [Act.put, Array.getD_eq_getD_getElem?, Array.getElem?_setIfInBounds]
    by_cases hd : d = t
    · subst hd
      by_cases hl : d < a.tmps.size
      · simp [hl]
      · simp [hl]
    · simp [hd]

/-- What the slot t holds when the operations D from b on (below k) have come up. -/
def valD (dst : Nat → Option Nat) (ρ : Nat → AV) (base : Nat → AV) (N : Nat) (D : Nat → Bool) (b : Nat) (t : Nat) : Nat → AV
  | 0 => base t
  | k + 1 => if b ≤ k ∧ D k = true ∧ dst k = some t ∧ t < N then ρ k else valD dst ρ base N D b t k

variable {dst : Nat → Option Nat} {ρ : Nat → AV} {bs : Nat → AV} {N : Nat}

theorem valD_congr {D D' : Nat → Bool} {b t : Nat} : ∀ k, (∀ i, i < k → b ≤ i → dst i = some t → D i = D' i) → valD dst ρ bs N D b t k = valD dst ρ bs N D' b t k
  | 0, _ => rfl
  | k + 1, h => by
    simp only [valD]
    have ih := valD_congr (D := D) (D' := D') (b := b) (t := t) k fun i hi hb hd => h i (by omega) hb hd
    rw [ih]
    by_cases hk : b ≤ k ∧ dst k = some t
    · rw [h k (by omega) hk.1 hk.2]
    · rw [if_neg (fun hc => hk ⟨hc.1, hc.2.2.1⟩), if_neg (fun hc => hk ⟨hc.1, hc.2.2.1⟩)]

/-- No writer from m on. -/
theorem valD_above {D : Nat → Bool} {b t m : Nat} : ∀ k, m ≤ k → (∀ i, m ≤ i → i < k → b ≤ i → dst i = some t → D i = false) → valD dst ρ bs N D b t k = valD dst ρ bs N D b t m
  | 0, hk, _ => by have : m = 0 := by omega
                   subst this; rfl
  | k + 1, hk, h => by
    by_cases hm : m = k + 1
    · subst hm; rfl
    · simp only [valD]
      rw [if_neg (fun hc => by have := h k (by omega) (by omega) hc.1 hc.2.2.1; rw [hc.2.1] at this; cases this)]
      exact valD_above k (by omega) fun i h1 h2 => h i h1 (by omega)

/-- All of those below j have come up: as in the order of the text. -/
theorem valD_lex {s : Nat → St} {b : Nat} (hb : bs = fun t => (s b).fr.getD t .undef) (hN : (s b).fr.length = N) (t : Nat) : ∀ j, b ≤ j → (∀ k, b ≤ k → k < j → (s (k + 1)).fr = ((s k).put (dst k) (ρ k)).fr) →
    (s j).fr.length = N ∧ valD dst ρ bs N (fun _ => true) b t j = (s j).fr.getD t .undef
  | 0, h, _ => by
    have : b = 0 := by omega
    subst this
    exact ⟨hN, by simp [valD, hb]⟩
  | j + 1, h, hs => by
    by_cases hj : b = j + 1
    · subst hj
      refine ⟨hN, ?_⟩
      rw [valD_above (m := 0) (j + 1) (by omega) (fun i _ h1 h2 => by omega)]
      simp [valD, hb]
    · obtain ⟨h1, h4⟩ := valD_lex hb hN t j (by omega) fun k hk hk' => hs k hk (by omega)
      have e := hs j (by omega) (by omega)
      refine ⟨by rw [e, put_len]; exact h1, ?_⟩
      rw [e, put_getD, h1]
      simp only [valD, h4]
      by_cases hc : dst j = some t ∧ t < N
      · rw [if_pos ⟨by omega, trivial, hc.1, hc.2⟩, if_pos hc]
      · rw [if_neg (fun h => hc ⟨h.2.2.1, h.2.2.2⟩), if_neg hc]
theorem ho_lex {s : Nat → St} {c : Nat} : ∀ j, c ≤ j → (∀ k, c ≤ k → k < j → s (k + 1) = (s k).put (dst k) (ρ k)) → (s j).H = (s c).H ∧ (s j).O = (s c).O
  | 0, h, _ => by
    have : c = 0 := by omega
    subst this
    exact ⟨rfl, rfl⟩
  | j + 1, h, hs => by
    by_cases hj : c = j + 1
    · subst hj; exact ⟨rfl, rfl⟩
    · obtain ⟨h1, h2⟩ := ho_lex (c := c) j (by omega) fun k hk hk' => hs k hk (by omega)
      have e := hs j (by omega) (by omega)
      exact ⟨by rw [e, put_H]; exact h1, by rw [e, put_O]; exact h2⟩

def lst (listed : Array Bool) (i : Nat) : Bool := listed.getD i false

theorem lst_set {listed : Array Bool} {j : Nat} (hj : j < listed.size) (i : Nat) : lst (listed.setIfInBounds j true) i = (decide (i = j) || lst listed i) := by
  unfold lst
  by_cases h : i = j
  · subst h; simp [hj]
  · rw [getD_set_ne false (Ne.symm h)]; simp [h]

theorem apart_not_mem {x y : Oper} (h : x.apart ops y = true) {t : Nat} (hx : x.dst = some t) : t ∉ y.looksAt ops ∧ y.dst ≠ some t := by
  obtain ⟨h1, h2, _⟩ := Oper.apart_spec h
  exact ⟨h1 t hx, h2 t hx⟩
theorem apart_not_mem' {x y : Oper} (h : x.apart ops y = true) {t : Nat} (hy : y.dst = some t) : t ∉ x.looksAt ops := (Oper.apart_spec h).2.2 t hy

theorem getD_replicate_false' (m j : Nat) : (Array.replicate m false).getD j false = false := by
  rcases Nat.lt_or_ge j m with h | h
  · simp [h]
  · simp [h]

/-- What is known of operations that may come up out of the order of the text. -/
structure Loose (P : Program) (C : Ctx) (ops : Array Oper) (κ : Kind) (s : Nat → St) (ρ : Nat → AV) : Prop where
  free : ∀ k o, ops[k]? = some o → κ.soft k = true → κ.free k = true → wantA ops (s k).fr o = some true → ∀ H' O', Good P o (aval (s k).fr) H' O' (ρ k)
  mon : ∀ k o, ops[k]? = some o → κ.soft k = true → κ.mon k = true → wantA ops (s k).fr o = some true → ∀ X Y, Good P o (aval (s k).fr) ((s k).H ++ X) ((s k).O ++ Y) (ρ k)
  grow : ∀ k, k < ops.size → κ.soft k = false → κ.light k = true → κ.grow k = true → ∃ X Y, (s (k + 1)).H = (s k).H ++ X ∧ (s (k + 1)).O = (s k).O ++ Y
  len : ∀ k, k < ops.size → κ.soft k = false → κ.light k = true → (s k).H.length ≤ (s (k + 1)).H.length ∧ (κ.block k = true → (s k).H.length + 1 ≤ (s (k + 1)).H.length)
  soft : ∀ k, k < ops.size → κ.light k = true → κ.soft k = false
  zed : ∀ k o, ops[k]? = some o → κ.soft k = true → κ.zed k = true → wantA ops (s k).fr o = some true → ∀ (H2 : List (List AV)) (O2 : List OwnD), (s k).H.length ≤ H2.length → (∀ id, 1 ≤ id → id < (s k).H.length → H2[id]? = (s k).H[id]?) → Good P o (aval (s k).fr) H2 O2 (ρ k)
  zcall : ∀ k, k < ops.size → κ.soft k = false → κ.light k = true → κ.zcall k = true → (s (k + 1)).H.length = (s k).H.length ∧ ∀ id, 1 ≤ id → (s (k + 1)).H[id]? = (s k).H[id]?
  late : ∀ k m, k < ops.size → κ.soft k = false → κ.light k = true → κ.late k = some m → ∃ id cs, (s (k + 1)).H = (s k).H.set id cs ∧ (s (k + 1)).O = (s k).O ∧ (s k).H.length ≤ id + m
  light : ∀ k o, ops[k]? = some o → κ.soft k = false → κ.light k = true → o.guard = none ∧ (s (k + 1)).fr = ((s k).put o.dst (ρ k)).fr ∧
    ∀ stX : St, (∀ t, t ∈ o.looksAt ops → stX.fr.getD t .undef = (s k).fr.getD t .undef) → stX.H = (s k).H → stX.O = (s k).O → OpOk P C o stX (fun v s' => v = ρ k ∧ s' = ⟨stX.fr, (s (k + 1)).H, (s (k + 1)).O⟩)

theorem range_getD (f : Nat → AV) (N t : Nat) : ((List.range N).map f).getD t .undef = if t < N then f t else .undef := by
  rw [List.getD_eq_getElem?_getD, List.getElem?_map]
  by_cases h : t < N
  · rw [List.getElem?_range h, if_pos h]; rfl
  · rw [List.getElem?_eq_none (by simp; omega), if_neg h]; rfl

theorem valD_out {D : Nat → Bool} {b t : Nat} (h : ¬ t < N) : ∀ k, valD dst ρ bs N D b t k = bs t
  | 0 => rfl
  | k + 1 => by simp only [valD]; rw [if_neg (fun hc => h hc.2.2.2)]; exact valD_out h k

theorem blocks_le {κ : Kind} {s : Nat → St} {ρ : Nat → AV} (hl : Loose P C ops κ s ρ) (hput : ∀ k o, ops[k]? = some o → (κ.soft k = true ∨ wantA ops (s k).fr o = some false) → s (k + 1) = (s k).put ((ops[k]?).bind (·.dst)) (ρ k)) {j : Nat} :
    ∀ d, j + d ≤ ops.size → (∀ k, j ≤ k → k < j + d → κ.soft k = true ∨ κ.light k = true) → (s j).H.length + blocks κ j (j + d) ≤ (s (j + d)).H.length
  | 0, _, _ => by
    have : blocks κ j j = 0 := by
      cases j with
      | zero => rfl
      | succ j => simp only [blocks]; rw [if_neg (by omega)]
    show (s j).H.length + blocks κ j j ≤ (s j).H.length
    omega
  | d + 1, hd, hk => by
    have ih := blocks_le hl hput d (by omega) fun k h1 h2 => hk k h1 (by omega)
    have hks : j + d < ops.size := by omega
    show (s j).H.length + blocks κ j (j + d + 1) ≤ (s (j + d + 1)).H.length
    simp only [blocks]
    rw [if_pos (by omega)]
    cases hs : κ.soft (j + d) with
    | true =>
      have e := hput (j + d) ops[j + d] (Array.getElem?_eq_getElem hks) (.inl hs)
      have e2 : (s (j + d + 1)).H = (s (j + d)).H := by rw [e, put_H]
      rw [e2]
      split
      · rename_i hb
        simp only [Bool.and_eq_true] at hb
        have := hl.soft (j + d) hks hb.1
        rw [this] at hs; cases hs
      · exact ih
    | false =>
      have hli : κ.light (j + d) = true := (hk (j + d) (by omega) (by omega)).resolve_left (by rw [hs]; simp)
      obtain ⟨h1, h2⟩ := hl.len (j + d) hks hs hli
      split
      · rename_i hb
        simp only [Bool.and_eq_true] at hb
        have := h2 hb.2
        omega
      · omega

/-- Every order. -/
theorem any_order {κ : Kind} (hok : drawOk ops κ = true) {s : Nat → St} {ρ : Nat → AV} (hstep : ∀ (k : Nat) (o : Oper), ops[k]? = some o → StepA P C ops o (κ.soft k) (s k) (ρ k) (s (k + 1)))
    (hl : Loose P C ops κ s ρ) {Q : Exit → Act → World → Prop} (hQ : ∀ E a w, Sat C E a w (s ops.size) → Q .normal a w) :
    ∀ (fuel : Nat) (listed : Array Bool) (b c : Nat) (E : Env) (a : Act) (w : World), listed.size = ops.size → (List.range ops.size).countP (fun i => !lst listed i) ≤ fuel → Closed ops listed → (∀ i, i < b → lst listed i = true) → b ≤ c → c ≤ ops.size →
      (∀ i, i < ops.size → κ.soft i = false → (i < c → lst listed i = true) ∧ (c ≤ i → lst listed i = false) ∧ (b ≤ i → i < c → κ.light i = true)) →
      SatV C E a w (fun t => valD (fun i => (ops[i]?).bind (·.dst)) ρ (fun t => (s b).fr.getD t .undef) (s b).fr.length (lst listed) b t ops.size) (s b).fr.length (s c).H (s c).O → wpAny P .any ops Q fuel listed a w := by
  obtain ⟨hback, hclash⟩ := drawOk_spec hok
  let dst : Nat → Option Nat := fun i => (ops[i]?).bind (·.dst)
  have hdst : ∀ {i o}, ops[i]? = some o → dst i = o.dst := fun h => by simp [dst, h]
  -- steps of quiet operations
  have hput : ∀ k o, ops[k]? = some o → (κ.soft k = true ∨ wantA ops (s k).fr o = some false) → s (k + 1) = (s k).put (dst k) (ρ k) := by
    intro k o ho hsoft
    rw [hdst ho]
    rcases hstep k o ho with ⟨_, hr, hs⟩ | ⟨_, _, _, hs⟩ | ⟨hw, hf, _⟩
    · rw [hr]; exact hs
    · exact hs
    · rcases hsoft with h | h
      · rw [hf] at h; cases h
      · rw [hw] at h; cases h
  have hfrm : ∀ k, k < ops.size → (κ.soft k = true ∨ κ.light k = true) → (s (k + 1)).fr = ((s k).put (dst k) (ρ k)).fr := by
    intro k hk hor
    cases hs : κ.soft k with
    | true => rw [hput k ops[k] (Array.getElem?_eq_getElem hk) (.inl hs)]
    | false =>
      rw [hs] at hor
      rw [hdst (Array.getElem?_eq_getElem hk)]
      exact (hl.light k _ (Array.getElem?_eq_getElem hk) hs (hor.resolve_left (by simp))).2.1
  intro fuel
  have fin : ∀ (listed : Array Bool) (b c : Nat) (E : Env) (a : Act) (w : World), (∀ i, i < ops.size → lst listed i = true) → b ≤ c → c ≤ ops.size →
      (∀ i, i < ops.size → κ.soft i = false → (i < c → lst listed i = true) ∧ (c ≤ i → lst listed i = false) ∧ (b ≤ i → i < c → κ.light i = true)) →
      SatV C E a w (fun t => valD dst ρ (fun t => (s b).fr.getD t .undef) (s b).fr.length (lst listed) b t ops.size) (s b).fr.length (s c).H (s c).O → Q .normal a w := by
    intro listed b c E a w hall hbc hcs hinv hsat
    have hhard : ∀ k, c ≤ k → k < ops.size → κ.soft k = true := by
      intro k hk hk'
      cases hs : κ.soft k with
      | true => rfl
      | false => have := (hinv k hk' hs).2.1 hk; rw [hall k hk'] at this; cases this
    have hsf : ∀ k, b ≤ k → k < ops.size → (s (k + 1)).fr = ((s k).put (dst k) (ρ k)).fr := by
      intro k hk hk'
      refine hfrm k hk' ?_
      cases hs : κ.soft k with
      | true => exact .inl rfl
      | false =>
        rcases Nat.lt_or_ge k c with h | h
        · exact .inr ((hinv k hk' hs).2.2 hk h)
        · rw [hhard k h hk'] at hs; cases hs
    have hho := ho_lex (dst := dst) (ρ := ρ) (s := s) ops.size hcs fun k hk hk' => hput k ops[k] (Array.getElem?_eq_getElem hk') (.inl (hhard k hk hk'))
    refine hQ E a w (hsat.to (st := s ops.size) ?_ (fun t => ?_) hho.1 hho.2)
    · exact (valD_lex (s := s) rfl rfl 0 ops.size (by omega) hsf).1
    · rw [← (valD_lex (s := s) rfl rfl t ops.size (by omega) hsf).2]
      exact valD_congr ops.size fun i hi _ _ => hall i hi
  have done : ∀ (listed : Array Bool), listed.size = ops.size → Region.ready .any ops listed = [] → ∀ i, i < ops.size → lst listed i = true := by
    intro listed hsz hr i
    induction i using Nat.strongRecOn with
    | _ i ih =>
      intro hi
      cases hl : lst listed i with
      | true => rfl
      | false =>
        have : i ∈ Region.ready .any ops listed := by
          refine mem_ready.2 ⟨?_, ops[i], Array.getElem?_eq_getElem hi, fun e he hb => ?_⟩
          · unfold lst at hl
            have : i < listed.size := by omega
            simp [this] at hl ⊢; exact hl
          · have := hback i _ (Array.getElem?_eq_getElem hi) e he hb
            exact ih e.on this (by omega)
        rw [hr] at this
        cases this
  induction fuel with
  | zero =>
    intro listed b c E a w hsz hcnt hcl hlow hbc hcs hinv hsat
    have hall : ∀ i, i < ops.size → lst listed i = true := by
      intro i hi
      have h0 : (List.range ops.size).countP (fun i => !lst listed i) = 0 := by omega
      rw [List.countP_eq_zero] at h0
      have := h0 i (List.mem_range.2 hi)
      simpa using this
    refine ⟨?_, fin listed b c E a w hall hbc hcs hinv hsat⟩
    apply List.eq_nil_iff_forall_not_mem.2
    intro i hi
    obtain ⟨h1, o, ho, _⟩ := mem_ready.1 hi
    have hil := (Array.getElem?_eq_some_iff.1 ho).1
    have h2 := hall i hil
    unfold lst at h2
    have hil' : i < listed.size := by omega
    simp [hil'] at h1 h2
    rw [h1] at h2; cases h2
  | succ fuel ih =>
    intro listed b c E a w hsz hcnt hcl hlow hbc hcs hinv hsat
    refine ⟨fun hr => fin listed b c E a w (done listed hsz hr) hbc hcs hinv hsat, fun j hj => ?_⟩
    obtain ⟨hun, o, ho, hall⟩ := mem_ready.1 hj
    have hjl : j < ops.size := (Array.getElem?_eq_some_iff.1 ho).1
    have hjl' : j < listed.size := by omega
    have hjun : lst listed j = false := by unfold lst; simp [hjl'] at hun ⊢; exact hun
    have hbj : b ≤ j := by
      rcases Nat.lt_or_ge j b with h | h
      · rw [hlow j h] at hjun; cases hjun
      · exact h
    -- what clashes with j and stands before it has come up; what clashes and stands behind has not
    have hbefore : ∀ i, i < j → clash ops κ i j = true → lst listed i = true := by
      intro i hij hcl'
      have hr := hclash i j hij hjl hcl'
      have key : ∀ {p q}, DepOn ops p q → p = j → lst listed q = true := by
        intro p q hr
        induction hr with
        | edge ho' he hb' hi =>
          intro hp; subst hp
          rw [ho] at ho'; injection ho' with ho'; subst ho'
          rw [← hi]; exact hall _ he hb'
        | trans h1 h2 ih1 ih2 => intro hp; exact hcl.reach h2 (ih1 hp)
      exact key hr rfl
    have hafter : ∀ i, j < i → i < ops.size → clash ops κ j i = true → lst listed i = false := by
      intro i hji hil hcl'
      cases hl : lst listed i with
      | false => rfl
      | true => have := hcl.reach (hclash j i hji hil hcl') hl; unfold lst at hjun; rw [this] at hjun; cases hjun
    -- kinds of those that do not clash
    have kinds : ∀ {i k}, i < ops.size → k < ops.size → clash ops κ i k = false → (κ.soft i = false → κ.soft k = false → False) ∧ (κ.soft i = false → κ.soft k = true → κ.light i = true ∧ κ.free k = true) ∧
        (κ.soft i = true → κ.soft k = false → κ.light k = true ∧ (κ.free i = true ∨ ((κ.grow k = true ∨ lateOk κ i k = true) ∧ κ.mon i = true) ∨ (κ.zed i = true ∧ κ.zcall k = true))) := by
      intro i k hi hk h
      simp only [clash, Array.getElem?_eq_getElem hi, Array.getElem?_eq_getElem hk, Bool.or_eq_false_iff] at h
      refine ⟨fun h1 h2 => ?_, fun h1 h2 => ?_, fun h1 h2 => ?_⟩
      · rw [h1, h2] at h; simp at h
      · rw [h1, h2] at h; simp at h; exact h.2
      · rw [h1, h2] at h; simp at h
        refine ⟨h.2.1, ?_⟩
        have h3 := h.2.2
        cases hfi : κ.free i with
        | true => exact .inl rfl
        | false =>
          refine .inr ?_
          cases hzi : κ.zed i with
          | true =>
            cases hzk : κ.zcall k with
            | true => exact .inr ⟨rfl, rfl⟩
            | false =>
              refine .inl ?_
              simp [hfi, hzi, hzk] at h3
              exact ⟨by cases hg : κ.grow k with | true => exact .inl rfl | false => exact .inr (h3.2 hg), h3.1⟩
          | false =>
            refine .inl ?_
            simp [hfi, hzi] at h3
            exact ⟨by cases hg : κ.grow k with | true => exact .inl rfl | false => exact .inr (h3.2 hg), h3.1⟩
    have hfr : ∀ k, b ≤ k → k < j → (s (k + 1)).fr = ((s k).put (dst k) (ρ k)).fr := by
      intro k hk hkj
      have hks : k < ops.size := by omega
      refine hfrm k hks ?_
      cases hs : κ.soft k with
      | true => exact .inl rfl
      | false =>
        refine .inr ?_
        rcases Nat.lt_or_ge k c with h | h
        · exact (hinv k hks hs).2.2 hk h
        · have hcl0 : clash ops κ k j = false := by
            cases hx : clash ops κ k j with
            | false => rfl
            | true => have h1 := hbefore k hkj hx; rw [(hinv k hks hs).2.1 h] at h1; cases h1
          cases hsj : κ.soft j with
          | false => exact ((kinds hks hjl hcl0).1 hs hsj).elim
          | true => exact ((kinds hks hjl hcl0).2.1 hs hsj).1
    have hlex := fun t => valD_lex (bs := fun t => (s b).fr.getD t .undef) (ρ := ρ) (dst := dst) (s := s) rfl rfl t j hbj hfr
    have hlenj : (s j).fr.length = (s b).fr.length := (hlex 0).1
    -- a slot whose writers all clash with j
    have hslot : ∀ t, (∀ i oi, ops[i]? = some oi → i ≠ j → oi.dst = some t → (i < j → clash ops κ i j = true) ∧ (j < i → clash ops κ j i = true)) →
        valD dst ρ (fun t => (s b).fr.getD t .undef) (s b).fr.length (lst listed) b t ops.size = (s j).fr.getD t .undef := by
      intro t ht
      rw [← (hlex t).2]
      rw [valD_above (m := j) ops.size (by omega) (fun i h1 h2 h3 h4 => ?_)]
      · refine valD_congr j fun i hi hbi hd => ?_
        have hil : i < ops.size := by omega
        rw [hdst (Array.getElem?_eq_getElem hil)] at hd
        exact hbefore i hi ((ht i _ (Array.getElem?_eq_getElem hil) (by omega) hd).1 hi)
      · rw [hdst (Array.getElem?_eq_getElem h2)] at h4
        by_cases hij : i = j
        · subst hij; exact hjun
        · exact hafter i (by omega) h2 ((ht i _ (Array.getElem?_eq_getElem h2) hij h4).2 (by omega))
    have hclashL : ∀ i oi t, ops[i]? = some oi → t ∈ o.looksAt ops ∨ o.dst = some t → oi.dst = some t → clash ops κ i j = true ∧ clash ops κ j i = true := by
      intro i oi t hoi ht hd
      have h1 : oi.apart ops o = false := by
        cases ha : oi.apart ops o with
        | false => rfl
        | true =>
          obtain ⟨h1, h2⟩ := apart_not_mem ha hd
          exact (ht.elim (fun h => absurd h h1) (fun h => absurd h h2))
      have h2 : o.apart ops oi = false := by
        cases ha : o.apart ops oi with
        | false => rfl
        | true =>
          rcases ht with ht | ht
          · exact absurd ht (apart_not_mem' ha hd)
          · exact absurd hd (apart_not_mem ha ht).2
      exact ⟨by simp [clash, hoi, ho, h1], by simp [clash, hoi, ho, h2]⟩
    have hlook : ∀ t, t ∈ o.looksAt ops → valD dst ρ (fun t => (s b).fr.getD t .undef) (s b).fr.length (lst listed) b t ops.size = (s j).fr.getD t .undef := fun t ht =>
      hslot t (fun i oi hoi _ hd => ⟨fun _ => (hclashL i oi t hoi (.inl ht) hd).1, fun _ => (hclashL i oi t hoi (.inl ht) hd).2⟩)
    have hreplook : ∀ t, t ∈ o.looksAt ops → RepV E w ((s j).fr.getD t .undef) (a.tmps.getD t Go.undef) := fun t ht => by rw [← hlook t ht]; exact hsat.val t
    -- the state behind
    have hlst := fun i => lst_set (listed := listed) hjl' i
    have hcnt' : (List.range ops.size).countP (fun i => !lst (listed.setIfInBounds j true) i) ≤ fuel := by
      have : (List.range ops.size).countP (fun i => !lst (listed.setIfInBounds j true) i) + 1 ≤ (List.range ops.size).countP (fun i => !lst listed i) := by
        have key : ∀ (l : List Nat), j ∈ l → l.Nodup → l.countP (fun i => !lst (listed.setIfInBounds j true) i) + 1 ≤ l.countP (fun i => !lst listed i) := by
          intro l
          induction l with
          | nil => intro h; cases h
          | cons x l ihl =>
            intro hm hnd
            rw [List.countP_cons, List.countP_cons]
            have hnd' := List.nodup_cons.1 hnd
            by_cases hx : x = j
            · subst hx
              have e1 : (!lst (listed.setIfInBounds x true) x) = false := by rw [hlst]; simp
              have e2 : (!lst listed x) = true := by rw [hjun]; rfl
              have e3 : l.countP (fun i => !lst (listed.setIfInBounds x true) i) = l.countP (fun i => !lst listed i) := by
                apply List.countP_congr
                intro i hi
                have : i ≠ x := fun h => hnd'.1 (h ▸ hi)
                rw [hlst]; simp [this]
              rw [e1, e2, e3]; simp
            · have hm' : j ∈ l := by rcases List.mem_cons.1 hm with h | h; exact absurd h.symm hx; exact h
              have := ihl hm' hnd'.2
              have e1 : lst (listed.setIfInBounds j true) x = lst listed x := by rw [hlst]; simp [hx]
              rw [e1]
              omega
        exact key _ (List.mem_range.2 hjl) List.nodup_range
      omega
    have hcl' : Closed ops (listed.setIfInBounds j true) := by
      intro p op hp hl e he hb'
      by_cases hpj : p = j
      · subst hpj
        rw [ho] at hp; injection hp with hp; subst hp
        exact getD_set_true (hall e he hb')
      · rw [getD_set_ne false (Ne.symm hpj)] at hl
        exact getD_set_true (hcl p op hp hl e he hb')
    have hsz' : (listed.setIfInBounds j true).size = ops.size := by simp [hsz]
    have hval' : ∀ t, valD dst ρ (fun t => (s b).fr.getD t .undef) (s b).fr.length (lst (listed.setIfInBounds j true)) b t ops.size = if o.dst = some t ∧ t < (s b).fr.length then ρ j else valD dst ρ (fun t => (s b).fr.getD t .undef) (s b).fr.length (lst listed) b t ops.size := by
      intro t
      by_cases htN : t < (s b).fr.length
      · by_cases hd : o.dst = some t
        · rw [if_pos ⟨hd, htN⟩]
          rw [valD_above (m := j + 1) ops.size (by omega) (fun i h1 h2 h3 h4 => ?_)]
          · simp only [valD]
            rw [if_pos ⟨hbj, by rw [hlst]; simp, by rw [hdst ho]; exact hd, htN⟩]
          · rw [hdst (Array.getElem?_eq_getElem h2)] at h4
            rw [hlst, hafter i (by omega) h2 (hclashL i _ t (Array.getElem?_eq_getElem h2) (.inr hd) h4).2]
            have : i ≠ j := by omega
            simp [this]
        · rw [if_neg (fun h => hd h.1)]
          refine valD_congr ops.size fun i hi hbi hdi => ?_
          rw [hlst]
          by_cases hij : i = j
          · subst hij; rw [hdst ho] at hdi; exact absurd hdi hd
          · simp [hij]
      · rw [if_neg (fun h => htN h.2), valD_out htN, valD_out htN]
    -- a quiet step: slot dst o gets a value that stands for ρ j
    have quiet : ∀ (E' : Env) (v : Value) (w' : World), Holds C.base C.w0 E' w' (s c).H (s c).O → Ext E w E' w' → (∀ g o, E'.S g o → E.S g o ∨ C.base ≤ g) → RepV E' w' (ρ j) v → κ.soft j = true →
        wpAny P .any ops Q fuel (listed.setIfInBounds j true) (a.put o.dst v) w' := by
      intro E' v w' hh hx hn hv hsj
      refine ih _ b c E' (a.put o.dst v) w' hsz' hcnt' hcl' (fun i hi => by rw [hlst]; simp [hlow i hi]) hbc hcs (fun i hi hs => ?_) ⟨hh, fun g o h => ⟨hx.S g o (hsat.S g o h).1, (hx.cell g o (hsat.S g o h).1).trans (hsat.S g o h).2⟩, fun i g h => hx.ι i g (hsat.ι i g h), fun g o h => (hn g o h).elim (hsat.news g o) .inr, by rw [put_defers]; exact hsat.defers, fun q k v e => hx.κ k v (hsat.κ q k v e), by rw [put_size]; exact hsat.size, fun t => ?_⟩
      · have hij : i ≠ j := fun h => by subst h; rw [hsj] at hs; cases hs
        obtain ⟨h1, h2, h3⟩ := hinv i hi hs
        exact ⟨fun h => by rw [hlst, h1 h]; simp, fun h => by rw [hlst, h2 h]; simp [hij], h3⟩
      · show RepV E' w' (valD dst ρ _ _ (lst (listed.setIfInBounds j true)) b t ops.size) _
        rw [act_getD, hsat.size, hval' t]
        split
        · exact hv
        · exact (hsat.val t).mono hx
    -- between c and an operation that writes, all is quiet
    have hcj : κ.soft j = false → c ≤ j := fun hsj => by
      rcases Nat.lt_or_ge j c with h | h
      · rw [(hinv j hjl hsj).1 h] at hjun; cases hjun
      · exact h
    have hHO : c ≤ j → (∀ k, c ≤ k → k < j → κ.soft k = true) → (s j).H = (s c).H ∧ (s j).O = (s c).O := fun h hq =>
      ho_lex (dst := dst) (ρ := ρ) (s := s) j h fun k hk hkj => hput k ops[k] (Array.getElem?_eq_getElem (by omega)) (.inl (hq k hk hkj))
    have hquiet : κ.soft j = false → ∀ k, c ≤ k → k < j → κ.soft k = true := by
      intro hsj k hk hkj
      have hks : k < ops.size := by omega
      cases hs : κ.soft k with
      | true => rfl
      | false =>
        have := hbefore k hkj (by simp [clash, ho, Array.getElem?_eq_getElem hks, hs, hsj])
        rw [(hinv k hks hs).2.1 hk] at this; cases this
    -- one that all others clash with
    have heavy : κ.soft j = false → κ.light j = false → (∀ i, i < ops.size → i ≠ j → lst listed i = decide (i < j)) ∧ Sat C E a w (s j) ∧ ∀ (E' : Env) (a' : Act) (w' : World), Sat C E' a' w' (s (j + 1)) → wpAny P .any ops Q fuel (listed.setIfInBounds j true) a' w' := by
      intro hsj hlj
      have c1 : ∀ i, i < ops.size → clash ops κ i j = true := fun i hi => by
        simp only [clash, ho, Array.getElem?_eq_getElem hi, hsj, hlj]
        cases κ.soft i <;> simp
      have c2 : ∀ i, i < ops.size → clash ops κ j i = true := fun i hi => by
        simp only [clash, ho, Array.getElem?_eq_getElem hi, hsj, hlj]
        cases κ.soft i <;> simp
      have hallj : ∀ i, i < ops.size → i ≠ j → lst listed i = decide (i < j) := by
        intro i hi hij
        rcases Nat.lt_or_ge i j with h | h
        · rw [hbefore i h (c1 i hi)]; simp [h]
        · rw [hafter i (by omega) hi (c2 i hi)]; simp; omega
      have hval : ∀ t, valD dst ρ (fun t => (s b).fr.getD t .undef) (s b).fr.length (lst listed) b t ops.size = (s j).fr.getD t .undef := fun t =>
        hslot t (fun i oi hoi _ _ => ⟨fun _ => c1 i (Array.getElem?_eq_some_iff.1 hoi).1, fun _ => c2 i (Array.getElem?_eq_some_iff.1 hoi).1⟩)
      obtain ⟨hH, hO⟩ := hHO (hcj hsj) (hquiet hsj)
      refine ⟨hallj, hsat.to hlenj hval hH hO, fun E' a' w' hs' => ?_⟩
      refine ih _ (j + 1) (j + 1) E' a' w' hsz' hcnt' hcl' (fun i hi => ?_) (Nat.le_refl _) hjl (fun i hi hs => ⟨fun h => ?_, fun h => ?_, fun h1 h2 => by omega⟩) ?_
      · rw [hlst]
        by_cases hij : i = j
        · simp [hij]
        · rw [hallj i (by omega) hij]; simp; omega
      · rw [hlst]
        by_cases hij : i = j
        · simp [hij]
        · rw [hallj i hi hij]; simp; omega
      · rw [hlst, hallj i hi (by omega)]; simp; omega
      · have h := SatV.of hs'
        refine ⟨h.holds, h.S, h.ι, h.news, h.defers, h.κ, h.size, fun t => ?_⟩
        show RepV E' w' (valD dst ρ _ _ _ (j + 1) t ops.size) _
        rw [valD_above (m := 0) ops.size (by omega) (fun i _ hi hji _ => by rw [hlst, hallj i hi (by omega)]; simp; omega)]
        exact h.val t
    unfold wpOp
    simp only [ho]
    rcases hstep j o ho with ⟨hw, hr, hs⟩ | ⟨hw, hsj, hg, hs⟩ | ⟨hw, hsj, st1, hop, hs⟩
    · -- passed by
      have hwant := want_ok (ops := ops) (a := a) hw hreplook
      rw [hwant]
      simp only [Bool.false_eq_true, if_false]
      cases hsj : κ.soft j with
      | true => exact quiet E _ w hsat.holds (Ext.refl _ _) (fun g o h => .inl h) (by rw [hr]; exact .undef) hsj
      | false =>
        have hlj : κ.light j = false := by
          cases hx : κ.light j with
          | false => rfl
          | true =>
            have := (hl.light j o ho hsj hx).1
            simp [wantA, this] at hw
        obtain ⟨_, hsatj, hnext⟩ := heavy hsj hlj
        have hst : s (j + 1) = (s j).put (dst j) (ρ j) := hput j o ho (.inr hw)
        exact hnext E _ w (by rw [hst, hdst ho, hr]; exact hsatj.put .undef _)
    · -- a quiet operation
      have hwant := want_ok (ops := ops) (a := a) hw hreplook
      rw [hwant]
      simp only [if_true]
      refine .inl ?_
      have hg : Good P o (aval (s j).fr) (s c).H (s c).O (ρ j) := by
        cases hfj : κ.free j with
        | true => exact hl.free j o ho hsj hfj hw _ _
        | false =>
          rcases Nat.lt_or_ge j c with h | h
          · -- what writes and came up first has made memory only
            have hgr0 : ∀ k, j < k → k < c → κ.soft k = false → κ.light k = true ∧ (((κ.grow k = true ∨ lateOk κ j k = true) ∧ κ.mon j = true) ∨ (κ.zed j = true ∧ κ.zcall k = true)) := by
              intro k hjk hkc hs
              have hks : k < ops.size := by omega
              have hcl0 : clash ops κ j k = false := by
                cases hx : clash ops κ j k with
                | false => rfl
                | true => have h1 := hafter k hjk hks hx; rw [(hinv k hks hs).1 hkc] at h1; cases h1
              obtain ⟨h1, h2⟩ := (kinds hjl hks hcl0).2.2 hsj hs
              exact ⟨h1, h2.resolve_left (by rw [hfj]; simp)⟩
            cases hzj : κ.zed j with
            | true =>
              have hZ : ∀ d, j + d ≤ c → (s j).H.length ≤ (s (j + d)).H.length ∧ ∀ id, 1 ≤ id → id < (s j).H.length → (s (j + d)).H[id]? = (s j).H[id]? := by
                intro d
                induction d with
                | zero => intro _; exact ⟨Nat.le_refl _, fun _ _ _ => rfl⟩
                | succ d ihd =>
                  intro hd
                  obtain ⟨h1, h2⟩ := ihd (by omega)
                  have hks : j + d < ops.size := by omega
                  cases hs : κ.soft (j + d) with
                  | true =>
                    have e := hput (j + d) ops[j + d] (Array.getElem?_eq_getElem hks) (.inl hs)
                    have e2 : (s (j + d + 1)).H = (s (j + d)).H := by rw [e, put_H]
                    show (s j).H.length ≤ (s (j + d + 1)).H.length ∧ ∀ id, 1 ≤ id → id < (s j).H.length → (s (j + d + 1)).H[id]? = (s j).H[id]?
                    rw [e2]; exact ⟨h1, h2⟩
                  | false =>
                    have hne : j ≠ j + d := fun h => by rw [← h, hsj] at hs; cases hs
                    obtain ⟨g1, g2⟩ := hgr0 (j + d) (by omega) (by omega) hs
                    show (s j).H.length ≤ (s (j + d + 1)).H.length ∧ ∀ id, 1 ≤ id → id < (s j).H.length → (s (j + d + 1)).H[id]? = (s j).H[id]?
                    rcases g2 with ⟨g2 | g2, _⟩ | ⟨_, g2⟩
                    · obtain ⟨X', Y', e1, _⟩ := hl.grow (j + d) hks hs g1 g2
                      rw [e1]
                      refine ⟨by rw [List.length_append]; omega, fun id q1 q2 => ?_⟩
                      rw [List.getElem?_append_left (by omega)]; exact h2 id q1 q2
                    · unfold lateOk at g2
                      split at g2
                      · rename_i m hm
                        simp only [Bool.and_eq_true, decide_eq_true_eq, List.all_eq_true, List.mem_range, Bool.or_eq_true] at g2
                        obtain ⟨id0, cs, e1, _, e3⟩ := hl.late (j + d) m hks hs g1 hm
                        have hb := blocks_le hl hput (j := j) d (by omega) fun k h1 h2 => by
                          rcases g2.2 k h2 with (h | h) | h
                          · omega
                          · exact .inl h
                          · exact .inr h
                        rw [e1]
                        refine ⟨by rw [List.length_set]; exact h1, fun id q1 q2 => ?_⟩
                        rw [List.getElem?_set_ne (by omega)]; exact h2 id q1 q2
                      · cases g2
                    · obtain ⟨e1, e2⟩ := hl.zcall (j + d) hks hs g1 g2
                      exact ⟨by omega, fun id q1 q2 => by rw [e2 id q1]; exact h2 id q1 q2⟩
              obtain ⟨h1, h2⟩ := hZ (c - j) (by omega)
              rw [show j + (c - j) = c by omega] at h1 h2
              exact hl.zed j o ho hsj hzj hw _ _ h1 h2
            | false =>
            have hgr : ∀ k, j < k → k < c → κ.soft k = false → κ.light k = true ∧ (κ.grow k = true ∨ lateOk κ j k = true) ∧ κ.mon j = true := by
              intro k hjk hkc hs
              obtain ⟨h1, h2⟩ := hgr0 k hjk hkc hs
              rcases h2 with h2 | h2
              · exact ⟨h1, h2.1, h2.2⟩
              · rw [hzj] at h2; cases h2.1
            have hX : ∀ d, j + d ≤ c → ∃ X Y, (s (j + d)).H = (s j).H ++ X ∧ (s (j + d)).O = (s j).O ++ Y ∧ (κ.mon j = false → X = [] ∧ Y = []) := by
              intro d
              induction d with
              | zero => intro _; exact ⟨[], [], by simp, by simp, fun _ => ⟨rfl, rfl⟩⟩
              | succ d ihd =>
                intro hd
                obtain ⟨X, Y, h1, h2, h3⟩ := ihd (by omega)
                have hks : j + d < ops.size := by omega
                cases hs : κ.soft (j + d) with
                | true =>
                  have e := hput (j + d) ops[j + d] (Array.getElem?_eq_getElem hks) (.inl hs)
                  refine ⟨X, Y, ?_, ?_, h3⟩
                  · show (s (j + d + 1)).H = _
                    rw [e, put_H]; exact h1
                  · show (s (j + d + 1)).O = _
                    rw [e, put_O]; exact h2
                | false =>
                  have hne : j ≠ j + d := fun h => by rw [← h, hsj] at hs; cases hs
                  obtain ⟨g1, g2, g3⟩ := hgr (j + d) (by omega) (by omega) hs
                  rcases g2 with g2 | g2
                  · obtain ⟨X', Y', e1, e2⟩ := hl.grow (j + d) hks hs g1 g2
                    refine ⟨X ++ X', Y ++ Y', ?_, ?_, fun h => by rw [g3] at h; cases h⟩
                    · show (s (j + d + 1)).H = _
                      rw [e1, h1, List.append_assoc]
                    · show (s (j + d + 1)).O = _
                      rw [e2, h2, List.append_assoc]
                  · unfold lateOk at g2
                    split at g2
                    · rename_i m hm
                      simp only [Bool.and_eq_true, decide_eq_true_eq, List.all_eq_true, List.mem_range, Bool.or_eq_true] at g2
                      obtain ⟨id, cs, e1, e2, e3⟩ := hl.late (j + d) m hks hs g1 hm
                      have hb := blocks_le hl hput (j := j) d (by omega) fun k h1 h2 => by
                        rcases g2.2 k h2 with (h | h) | h
                        · omega
                        · exact .inl h
                        · exact .inr h
                      have hid : (s j).H.length ≤ id := by omega
                      refine ⟨X.set (id - (s j).H.length) cs, Y, ?_, ?_, fun h => by rw [g3] at h; cases h⟩
                      · show (s (j + d + 1)).H = _
                        rw [e1, h1, List.set_append_right _ _ hid]
                      · show (s (j + d + 1)).O = _
                        rw [e2, h2]
                    · cases g2
            obtain ⟨X, Y, h1, h2, h3⟩ := hX (c - j) (by omega)
            rw [show j + (c - j) = c by omega] at h1 h2
            cases hmj : κ.mon j with
            | true => rw [h1, h2]; exact hl.mon j o ho hsj hmj hw X Y
            | false =>
              obtain ⟨rfl, rfl⟩ := h3 hmj
              rw [h1, h2, List.append_nil, List.append_nil]; exact hg
          · have hq : ∀ k, c ≤ k → k < j → κ.soft k = true := by
              intro k hk hkj
              have hks : k < ops.size := by omega
              cases hs : κ.soft k with
              | true => rfl
              | false =>
                have := hbefore k hkj (by simp [clash, ho, Array.getElem?_eq_getElem hks, hs, hsj, hfj])
                rw [(hinv k hks hs).2.1 hk] at this; cases this
            obtain ⟨h1, h2⟩ := hHO h hq
            rw [← h1, ← h2]; exact hg
      refine hg C.base C.w0 E a w hsat.holds (fun x y hx hy => ?_) _ _ fun v E' w' hh hx hn hv => quiet E' v w' hh hx hn hv hsj
      cases x with
      | tmp t =>
        simp [cX] at hy; subst hy
        exact hreplook t (List.mem_append_left _ (List.mem_filterMap.2 ⟨.tmp t, by simpa using hx, rfl⟩))
      | const v =>
        simp [cX] at hy
        obtain ⟨u, hu, rfl⟩ := hy
        exact cVal_rep hu
      | global g => simp [cX] at hy
      | func f =>
        simp [cX] at hy; subst hy
        exact .clo (by simp) (fun j x u hj => by simp at hj)
    · -- an operation that writes
      have hwant := want_ok (ops := ops) (a := a) hw hreplook
      rw [hwant]
      simp only [if_true]
      refine .inl ?_
      cases hlj : κ.light j with
      | false =>
        obtain ⟨_, hsatj, hnext⟩ := heavy hsj hlj
        refine hop E a w hsatj _ _ fun E' w' u v st' hk hs' => ?_
        obtain ⟨rfl, rfl⟩ := hk
        rw [← hs] at hs'
        exact hnext E' _ w' hs'
      | true =>
        obtain ⟨_, hfrj, hlight⟩ := hl.light j o ho hsj hlj
        obtain ⟨hH, hO⟩ := hHO (hcj hsj) (hquiet hsj)
        let val : Nat → AV := fun t => valD dst ρ (fun t => (s b).fr.getD t .undef) (s b).fr.length (lst listed) b t ops.size
        let stX : St := ⟨(List.range (s b).fr.length).map val, (s c).H, (s c).O⟩
        have hvX : ∀ t, stX.fr.getD t .undef = val t := fun t => by
          show ((List.range _).map val).getD t .undef = _
          rw [range_getD]
          split
          · rfl
          · rename_i htN
            show _ = valD _ _ _ _ _ _ _ _
            rw [valD_out htN]
            rw [List.getD_eq_getElem?_getD, List.getElem?_eq_none (by omega)]; rfl
        have hsatX : Sat C E a w stX := hsat.to (by simp [stX]) (fun t => (hvX t).symm) rfl rfl
        refine hlight stX (fun t ht => by rw [hvX]; exact hlook t ht) hH.symm hO.symm E a w hsatX _ _ fun E' w' u v st' hk hs' => ?_
        obtain ⟨rfl, rfl⟩ := hk
        have h := SatV.of hs'
        have eH : ((⟨stX.fr, (s (j + 1)).H, (s (j + 1)).O⟩ : St).put o.dst (ρ j)).H = (s (j + 1)).H := put_H _ _ _
        have eO : ((⟨stX.fr, (s (j + 1)).H, (s (j + 1)).O⟩ : St).put o.dst (ρ j)).O = (s (j + 1)).O := put_O _ _ _
        have eL : ((⟨stX.fr, (s (j + 1)).H, (s (j + 1)).O⟩ : St).put o.dst (ρ j)).fr.length = (s b).fr.length := by rw [put_len]; simp [stX]
        rw [eH, eO, eL] at h
        refine ih _ b (j + 1) E' _ w' hsz' hcnt' hcl' (fun i hi => by rw [hlst]; simp [hlow i hi]) (by omega) hjl (fun i hi hs => ⟨fun h => ?_, fun h => ?_, fun h1 h2 => ?_⟩) ⟨h.holds, h.S, h.ι, h.news, h.defers, h.κ, h.size, fun t => ?_⟩
        · rw [hlst]
          by_cases hij : i = j
          · simp [hij]
          · rw [hbefore i (by omega) (by simp [clash, ho, Array.getElem?_eq_getElem hi, hs, hsj])]; simp
        · rw [hlst, hafter i (by omega) hi (by simp [clash, ho, Array.getElem?_eq_getElem hi, hs, hsj])]; simp; omega
        · by_cases hij : i = j
          · rw [hij]; exact hlj
          · rcases Nat.lt_or_ge i c with h | h
            · exact (hinv i hi hs).2.2 h1 h
            · have := hquiet hsj i h (by omega); rw [hs] at this; cases this
        · show RepV E' w' (valD dst ρ _ _ (lst (listed.setIfInBounds j true)) b t ops.size) _
          have := h.val t
          rw [put_getD] at this
          rw [hval' t]
          have e2 : stX.fr.length = (s b).fr.length := by simp [stX]
          rw [e2] at this
          by_cases hd : o.dst = some t ∧ t < (s b).fr.length
          · rw [if_pos hd] at this ⊢; exact this
          · rw [if_neg hd] at this ⊢
            have e3 : (⟨stX.fr, (s (j + 1)).H, (s (j + 1)).O⟩ : St).fr.getD t .undef = val t := hvX t
            rw [e3] at this
            exact this

theorem eff_frame {ao : AO} (hl : isLight ao = true) {st st1 stX : St} {r : AV} (h : aeff P st (fun v s => v = r ∧ s = st1) ao) (hx : ∀ x ∈ axOf ao, aval stX.fr x = aval st.fr x) (hH : stX.H = st.H) (hO : stX.O = st.O) :
    aeff P stX (fun v s => v = r ∧ s = ⟨stX.fr, st1.H, st1.O⟩) ao ∧ st1.fr = st.fr := by
  unfold isLight at hl
  split at hl
  · obtain ⟨h1, h2⟩ := h
    subst h2
    exact ⟨⟨by rw [hH]; exact h1, by rw [hH, hO]⟩, rfl⟩
  · rename_i t n x
    have e := hx x (by simp [axOf])
    obtain ⟨hg, h1, h2⟩ := h
    subst h2
    exact ⟨⟨by rw [e]; exact hg, by rw [hH]; exact h1, by rw [hH, hO, e]⟩, rfl⟩
  · rename_i e' sz b z l c
    have e1 := hx l (by simp [axOf])
    have e2 := hx c (by simp [axOf])
    obtain ⟨k, n, h1, h⟩ := onInt_elim h
    obtain ⟨k', m, h2, h3, h4, h5⟩ := onInt_elim h
    subst h5
    refine ⟨?_, rfl⟩
    show onInt (aval stX.fr l) _
    rw [e1, h1]
    show onInt (aval stX.fr c) _
    rw [e2, h2]
    exact ⟨h3, by rw [hO]; exact h4, by rw [hH, hO]⟩
  · rename_i f args
    have e : args.map (aval stX.fr) = args.map (aval st.fr) := List.map_congr_left fun x hx' => hx x hx'
    obtain ⟨as, has, d, h1, h2, h3⟩ := onOpt_elim h
    subst h3
    refine ⟨?_, rfl⟩
    show onOpt (argsOf stX.O (args.map (aval stX.fr))) _
    rw [e, hO, has]
    exact ⟨d, h1, by rw [hO]; exact h2, by rw [hH, hO]⟩
  · rename_i n x y
    have e1 := hx x (by simp [axOf])
    have e2 := hx y (by simp [axOf])
    have h : astore n st (aval st.fr y) (fun v s => v = r ∧ s = st1) (aval st.fr x) := h
    show astore n stX (aval stX.fr y) (fun v s => v = r ∧ s = ⟨stX.fr, st1.H, st1.O⟩) (aval stX.fr x) ∧ st1.fr = st.fr
    rw [e1, e2]
    unfold astore at h ⊢
    split at h
    · obtain ⟨h1, h2, h3⟩ := h
      subst h3
      exact ⟨⟨by rw [hH]; exact h1, h2, by rw [hH, hO]⟩, rfl⟩
    · obtain ⟨xs, hx, h1, h2, h3⟩ := onOpt_elim h
      subst h3
      refine ⟨?_, rfl⟩
      show onOpt _ _
      rw [hO, hx]
      exact ⟨h1, h2, by rw [hH]⟩
    · exact h.elim
  · rename_i m n x y
    have e1 := hx x (by simp [axOf])
    have e2 := hx y (by simp [axOf])
    have h : astoreN m n st (aval st.fr y) (fun v s => v = r ∧ s = st1) (aval st.fr x) := h
    show astoreN m n stX (aval stX.fr y) (fun v s => v = r ∧ s = ⟨stX.fr, st1.H, st1.O⟩) (aval stX.fr x) ∧ st1.fr = st.fr
    rw [e1, e2]
    unfold astoreN at h ⊢
    split at h
    · obtain ⟨h1, h2, h3⟩ := h
      subst h3
      exact ⟨⟨by rw [hH]; exact h1, h2, by rw [hH, hO]⟩, rfl⟩
    · exact h.elim
  · rename_i sz x y
    have e1 := hx x (by simp [axOf])
    have e2 := hx y (by simp [axOf])
    obtain ⟨src, hs, h⟩ := onOpt_elim h
    show onOpt (rowsOf stX.O sz (aval stX.fr y)) (fun src => acopy sz src stX (fun v s => v = r ∧ s = ⟨stX.fr, st1.H, st1.O⟩) (aval stX.fr x)) ∧ st1.fr = st.fr
    rw [e2, hO, hs]
    show acopy sz src stX (fun v s => v = r ∧ s = ⟨stX.fr, st1.H, st1.O⟩) (aval stX.fr x) ∧ st1.fr = st.fr
    rw [e1]
    unfold acopy at h ⊢
    split at h
    · obtain ⟨h1, h2, h3⟩ := h
      subst h3
      exact ⟨⟨by rw [hO]; exact h1, by rw [hO]; exact h2, by rw [hO, hH]⟩, rfl⟩
    · obtain ⟨h1, h2, h3⟩ := h
      subst h3
      exact ⟨⟨by rw [hO]; exact h1, by rw [hO]; exact h2, by rw [hO, hH]⟩, rfl⟩
    · exact h.elim
  · rename_i f args
    have e : args.map (aval stX.fr) = args.map (aval st.fr) := List.map_congr_left fun x hx' => hx x hx'
    obtain ⟨r', H', O', h1, h2, h3, h4⟩ := h
    subst h4
    have key : acallK P f (args.map (aval stX.fr)) stX (fun v s => v = r ∧ s = ⟨stX.fr, H', O'⟩) := by
      rw [e]
      exact ⟨r', H', O', by rw [hH, hO]; exact h1, by rw [hH]; exact h2, h3, rfl⟩
    exact ⟨key, rfl⟩
  · rename_i f args
    have e : args.map (aval stX.fr) = args.map (aval st.fr) := List.map_congr_left fun x hx' => hx x hx'
    obtain ⟨r', H', Y, h1, h2, h3, h4⟩ := h
    subst h4
    have key : acallZ P f (args.map (aval stX.fr)) stX (fun v s => v = r ∧ s = ⟨stX.fr, H', st.O ++ Y⟩) := by
      rw [e]
      exact ⟨r', H', Y, by rw [hH, hO]; exact h1, by rw [hH]; exact h2, h3, by rw [hO]⟩
    exact ⟨key, rfl⟩
  · rename_i e' sz b z l c
    have e1 := hx l (by simp [axOf])
    have e2 := hx c (by simp [axOf])
    obtain ⟨k, n, h1, h⟩ := onInt_elim h
    obtain ⟨k', m, h2, h3, h4, h5⟩ := onInt_elim h
    subst h5
    refine ⟨?_, rfl⟩
    show onInt (aval stX.fr l) _
    rw [e1, h1]
    show onInt (aval stX.fr c) _
    rw [e2, h2]
    exact ⟨h3, by rw [hO]; exact h4, by rw [hH, hO]⟩
  · rename_i f args
    have e : args.map (aval stX.fr) = args.map (aval st.fr) := List.map_congr_left fun x hx' => hx x hx'
    obtain ⟨as, has, d, c, h1, h2, h3⟩ := onOpt_elim h
    subst h3
    refine ⟨?_, rfl⟩
    show onOpt (argsOf stX.O (args.map (aval stX.fr))) _
    rw [e, hO, has]
    exact ⟨d, c, h1, by rw [hO]; exact h2, by rw [hH, hO]⟩
  · cases hl

theorem eff_zcall {ao : AO} (hl : isZcall ao = true) {st st1 : St} {r : AV} (h : aeff P st (fun v s => v = r ∧ s = st1) ao) : st1.H.length = st.H.length ∧ ∀ id, 1 ≤ id → st1.H[id]? = st.H[id]? := by
  unfold isZcall at hl
  split at hl
  · obtain ⟨r', H', Y, h1, h2, h3, h4⟩ := h
    subst h4
    exact h2
  · cases hl
theorem eff_grow {ao : AO} (hl : isGrow ao = true) {st st1 : St} {r : AV} (h : aeff P st (fun v s => v = r ∧ s = st1) ao) : ∃ X Y, st1.H = st.H ++ X ∧ st1.O = st.O ++ Y := by
  unfold isGrow at hl
  split at hl
  · obtain ⟨h1, h2⟩ := h
    subst h2
    exact ⟨_, [], rfl, by simp⟩
  · obtain ⟨hg, h1, h2⟩ := h
    subst h2
    exact ⟨_, [], rfl, by simp⟩
  · obtain ⟨k, n, h1, h⟩ := onInt_elim h
    obtain ⟨k', m, h2, h3, h4, h5⟩ := onInt_elim h
    subst h5
    exact ⟨[], _, by simp, rfl⟩
  · obtain ⟨as, has, d, h1, h2, h3⟩ := onOpt_elim h
    subst h3
    exact ⟨[], _, by simp, rfl⟩
  · obtain ⟨k, n, h1, h⟩ := onInt_elim h
    obtain ⟨k', m, h2, h3, h4, h5⟩ := onInt_elim h
    subst h5
    exact ⟨[], _, by simp, rfl⟩
  · obtain ⟨as, has, d, c, h1, h2, h3⟩ := onOpt_elim h
    subst h3
    exact ⟨[], _, by simp, rfl⟩
  · cases hl

theorem light_hard {ao : AO} (hl : isLight ao = true) : isSoft ao = false := by
  cases ao <;> first | rfl | simp [isLight] at hl
theorem eff_len {ao : AO} (hl : isLight ao = true) {st st1 : St} {r : AV} (h : aeff P st (fun v s => v = r ∧ s = st1) ao) : st.H.length ≤ st1.H.length ∧ (isBlock ao = true → st.H.length + 1 ≤ st1.H.length) := by
  unfold isLight at hl
  split at hl
  · obtain ⟨h1, h2⟩ := h
    subst h2
    simp
  · obtain ⟨hg, h1, h2⟩ := h
    subst h2
    simp
  · obtain ⟨k, n, h1, h⟩ := onInt_elim h
    obtain ⟨k', m, h2, h3, h4, h5⟩ := onInt_elim h
    subst h5
    simp [isBlock]
  · obtain ⟨as, has, d, h1, h2, h3⟩ := onOpt_elim h
    subst h3
    simp [isBlock]
  · rename_i n x y
    have h : astore n st (aval st.fr y) (fun v s => v = r ∧ s = st1) (aval st.fr x) := h
    unfold astore at h
    split at h
    · obtain ⟨h1, h2, h3⟩ := h
      subst h3
      simp [isBlock]
    · obtain ⟨xs, hx, h1, h2, h3⟩ := onOpt_elim h
      subst h3
      simp [isBlock]
    · exact h.elim
  · rename_i m n x y
    have h : astoreN m n st (aval st.fr y) (fun v s => v = r ∧ s = st1) (aval st.fr x) := h
    unfold astoreN at h
    split at h
    · obtain ⟨h1, h2, h3⟩ := h
      subst h3
      simp [isBlock]
    · exact h.elim
  · rename_i sz x y
    obtain ⟨src, hs, h⟩ := onOpt_elim h
    unfold acopy at h
    split at h
    · obtain ⟨h1, h2, h3⟩ := h
      subst h3
      simp [isBlock]
    · obtain ⟨h1, h2, h3⟩ := h
      subst h3
      simp [isBlock]
    · exact h.elim
  · obtain ⟨r', H', O', h1, h2, h3, h4⟩ := h
    subst h4
    exact ⟨h2, by simp [isBlock]⟩
  · obtain ⟨r', H', Y, h1, h2, h3, h4⟩ := h
    subst h4
    exact ⟨Nat.le_of_eq h2.1.symm, by simp [isBlock]⟩
  · obtain ⟨k, n, h1, h⟩ := onInt_elim h
    obtain ⟨k', m, h2, h3, h4, h5⟩ := onInt_elim h
    subst h5
    simp [isBlock]
  · obtain ⟨as, has, d, c, h1, h2, h3⟩ := onOpt_elim h
    subst h3
    simp [isBlock]
  · cases hl
theorem eff_late {ao : AO} {m : Nat} (hl : isLate ao = some m) {st st1 : St} {r : AV} (h : aeff P st (fun v s => v = r ∧ s = st1) ao) : ∃ id cs, st1.H = st.H.set id cs ∧ st1.O = st.O ∧ st.H.length ≤ id + m := by
  unfold isLate at hl
  split at hl
  · rename_i m' n x y
    injection hl with hl
    subst hl
    have h : astoreN m' n st (aval st.fr y) (fun v s => v = r ∧ s = st1) (aval st.fr x) := h
    unfold astoreN at h
    split at h
    · obtain ⟨⟨_, _, _, h1⟩, h2, h3⟩ := h
      subst h3
      exact ⟨_, _, rfl, rfl, h1⟩
    · exact h.elim
  · cases hl

theorem loose_of {cp : CP} (hkp : C.keep = true → cp.keep = true ∧ (cp.from_ = 0 ∨ C.E0.κ.length ≤ cp.from_)) {al : List AOp} (hal : mapO (cOper P cp ops.toList) ops.toList = some al) {s : Nat → St} {ρ : Nat → AV}
    (hstep : ∀ (k : Nat) (o : Oper) (ao : AOp), ops.toList[k]? = some o → al[k]? = some ao → StepA P C ops o (isSoft ao.op) (s k) (ρ k) (s (k + 1)) ∧ ao.dst = o.dst ∧ (ao.guard = none → o.guard = none) ∧ (wantA ops (s k).fr o = some true → ∃ st1, s (k + 1) = st1.put o.dst (ρ k) ∧ Extra P o ao.op (s k) (ρ k) st1)) :
    Loose P C ops (kindOf ops al) s ρ := by
  obtain ⟨hlen, hsp⟩ := mapO_spec hal
  have get : ∀ (k : Nat) (o : Oper), ops[k]? = some o → ∃ ao, al[k]? = some ao ∧ ops.toList[k]? = some o := by
    intro k o ho
    have ho' : ops.toList[k]? = some o := by simpa using ho
    have hk : k < al.length := by rw [hlen]; exact (List.getElem?_eq_some_iff.1 ho').1
    exact ⟨al[k], List.getElem?_eq_getElem hk, ho'⟩
  have oper : ∀ (k : Nat) (o : Oper) (ao : AOp), ops[k]? = some o → al[k]? = some ao → OperOk P C o ao.op := by
    intro k o ao ho hao
    obtain ⟨g, op, _, he, hop⟩ := cOper_spec (C := C) hkp (hsp k _ o hao (by simpa using ho))
    rw [he]; exact hop
  let κL := lightAt ops al
  have run : ∀ k, k < ops.size → κL k = true → ∃ (ao : AOp) (st1 : St), al[k]? = some ao ∧ isLight ao.op = true ∧ s (k + 1) = st1.put (ops[k]?.bind (·.dst)) (ρ k) ∧ aeff P (s k) (fun v' s' => v' = ρ k ∧ s' = st1) ao.op := by
    intro k hk hl
    obtain ⟨ao, hao, ho'⟩ := get k ops[k] (Array.getElem?_eq_getElem hk)
    obtain ⟨_, _, hgd, hex⟩ := hstep k _ ao ho' hao
    have hgn : ao.guard = none ∧ isLight ao.op = true := by
      simp only [κL, lightAt, Array.getElem?_eq_getElem hk, hao] at hl
      split at hl
      · rename_i h; injection h with h; subst h; simp only [Bool.and_eq_true] at hl; exact ⟨rfl, hl.1⟩
      · cases hl
    obtain ⟨st1, e1, _, _, _, h1⟩ := hex (by simp [wantA, hgd hgn.1])
    exact ⟨ao, st1, hao, hgn.2, by rw [Array.getElem?_eq_getElem hk]; exact e1, h1 (light_hard hgn.2)⟩
  refine ⟨fun k o ho hs hf hw => ?_, fun k o ho hs hf hw => ?_, fun k hk hs hl hg => ?_, fun k hk hs hl => ?_, fun k hk hl => ?_, fun k o ho hs hf hw => ?_, fun k hk hs hl hz => ?_, fun k m hk hs hl hm => ?_, fun k o ho hs hl => ?_⟩
  · obtain ⟨ao, hao, ho'⟩ := get k o ho
    obtain ⟨_, _, _, hex⟩ := hstep k o ao ho' hao
    obtain ⟨st1, _, h1, _⟩ := hex hw
    exact h1 (by simpa [kindOf, onAt, hao] using hf)
  · obtain ⟨ao, hao, ho'⟩ := get k o ho
    obtain ⟨_, _, _, hex⟩ := hstep k o ao ho' hao
    obtain ⟨st1, _, _, h1, _⟩ := hex hw
    exact h1 (by simpa [kindOf, onAt, hao] using hf)
  · obtain ⟨ao, hao, ho'⟩ := get k ops[k] (Array.getElem?_eq_getElem hk)
    obtain ⟨_, _, hgd, hex⟩ := hstep k _ ao ho' hao
    have hsoft : isSoft ao.op = false := by simpa [kindOf, softAt, hao] using hs
    have hgn : ao.guard = none := by
      simp only [kindOf, lightAt, Array.getElem?_eq_getElem hk, hao] at hl
      split at hl
      · rename_i h; injection h with h; subst h; rfl
      · cases hl
    obtain ⟨st1, e1, _, _, _, h1⟩ := hex (by simp [wantA, hgd hgn])
    obtain ⟨X, Y, e2, e3⟩ := eff_grow (by simpa [kindOf, onAt, hao] using hg) (h1 hsoft)
    exact ⟨X, Y, by rw [e1, put_H]; exact e2, by rw [e1, put_O]; exact e3⟩
  · obtain ⟨ao, st1, hao, hl1, e1, h1⟩ := run k hk hl
    obtain ⟨h2, h3⟩ := eff_len hl1 h1
    rw [e1, put_H]
    exact ⟨h2, fun hb => h3 (by simpa [kindOf, onAt, hao] using hb)⟩
  · obtain ⟨ao, st1, hao, hl1, e1, h1⟩ := run k hk hl
    simpa [kindOf, softAt, hao] using light_hard hl1
  · obtain ⟨ao, hao, ho'⟩ := get k o ho
    obtain ⟨_, _, _, hex⟩ := hstep k o ao ho' hao
    obtain ⟨st1, _, _, _, h1, _⟩ := hex hw
    exact h1 (by simpa [kindOf, onAt, hao] using hf)
  · obtain ⟨ao, st1, hao, hl1, e1, h1⟩ := run k hk hl
    have h2 := eff_zcall (by simpa [kindOf, onAt, hao] using hz) h1
    rw [e1, put_H]
    exact h2
  · obtain ⟨ao, st1, hao, hl1, e1, h1⟩ := run k hk hl
    obtain ⟨id, cs, h2, h3, h4⟩ := eff_late (m := m) (by simpa [kindOf, lateAt, hao] using hm) h1
    rw [e1, put_H, put_O]
    exact ⟨id, cs, h2, h3, h4⟩
  · obtain ⟨ao, hao, ho'⟩ := get k o ho
    obtain ⟨_, hd, hgd, hex⟩ := hstep k o ao ho' hao
    have hsoft : isSoft ao.op = false := by simpa [kindOf, softAt, hao] using hs
    have hgn : ao.guard = none ∧ isLight ao.op = true ∧ (axOf ao.op).all (axIn (o.looksAt ops)) = true := by
      simp only [kindOf, lightAt, ho, hao] at hl
      split at hl
      · rename_i h1 h; injection h with h; injection h1 with h1; subst h; subst h1
        simp only [Bool.and_eq_true] at hl
        exact ⟨rfl, hl.1, hl.2⟩
      · cases hl
    obtain ⟨hg, hli, hin⟩ := hgn
    obtain ⟨st1, e1, _, _, _, h1⟩ := hex (by simp [wantA, hgd hg])
    have heff := h1 hsoft
    have hfr := (eff_frame (stX := s k) hli heff (fun _ _ => rfl) rfl rfl).2
    refine ⟨hgd hg, ?_, fun stX hx hH hO => ?_⟩
    · rw [e1]
      cases o.dst with
      | none => exact hfr
      | some d => simp only [St.put]; rw [hfr]
    · have hax : ∀ x ∈ axOf ao.op, aval stX.fr x = aval (s k).fr x := by
        intro x hx'
        have := List.all_eq_true.1 hin x hx'
        cases x with
        | tmp u => exact hx u (by simpa [axIn] using this)
        | const v => rfl
      obtain ⟨h2, _⟩ := eff_frame hli heff hax hH hO
      refine (oper k o ao ho hao).1 _ _ ?_
      unfold aop
      rw [if_neg (by rw [hsoft]; simp)]
      rw [e1, put_H, put_O]
      exact h2

theorem region_any {cp : CP} (hkp : C.keep = true → cp.keep = true ∧ (cp.from_ = 0 ∨ C.E0.κ.length ≤ cp.from_)) {al : List AOp} (hal : mapO (cOper P cp ops.toList) ops.toList = some al) (hok : drawOk ops (kindOf ops al) = true) {Kf : St → Prop} {st : St} (h : aops P Kf al st)
    {E : Env} {a : Act} {w : World} (hsat : Sat C E a w st) {Q : Exit → Act → World → Prop} (hq : ∀ E' a' w' st', Kf st' → Sat C E' a' w' st' → Q .normal a' w') : wpAny P .any ops Q ops.size (Array.replicate ops.size false) a { w with drawn := w.drawn + 1 } := by
  obtain ⟨s, ρ, h0, hK, hstep⟩ := ops_trace (C := C) hkp hal h
  subst h0
  obtain ⟨hdr, hxt⟩ : Holds C.base C.w0 E { w with drawn := w.drawn + 1 } (s 0).H (s 0).O ∧ Ext E w E { w with drawn := w.drawn + 1 } :=
    hsat.holds.later (w' := w.drew) (S' := E.S) ((Below.refl _ _).drew) (fun g o h => h) (fun g o h => .inl h) (fun g o h => hsat.holds.imm g o h)
  have hKs : Kf (s ops.size) := by simpa using hK
  refine any_order hok (s := s) (ρ := ρ) (fun k o hk => ?_) (loose_of hkp hal hstep) (fun E a w hs => hq E a w _ hKs hs) ops.size (Array.replicate ops.size false) 0 0 E a _ (by simp) ?_ (fun j o hj hl => ?_) (fun i hi => by omega) (Nat.le_refl _) (Nat.zero_le _) (fun i _ _ => ⟨fun h => by omega, fun _ => by unfold lst; exact getD_replicate_false' _ _, fun _ h => by omega⟩) ?_
  · have hk' : ops.toList[k]? = some o := by simpa using hk
    have hlen := (mapO_spec hal).1
    have hkl : k < al.length := by rw [hlen]; exact (List.getElem?_eq_some_iff.1 hk').1
    have := (hstep k o al[k] hk' (List.getElem?_eq_getElem hkl)).1
    simpa [kindOf, softAt, List.getElem?_eq_getElem hkl] using this
  · have := List.countP_le_length (p := fun i => !lst (Array.replicate ops.size false) i) (l := List.range ops.size)
    simpa using this
  · rw [getD_replicate_false'] at hl; cases hl
  · have h := SatV.of hsat
    refine ⟨hdr, h.S, h.ι, h.news, h.defers, h.κ, h.size, fun t => ?_⟩
    rw [valD_above (m := 0) ops.size (by omega) (fun i _ _ _ _ => by unfold lst; exact getD_replicate_false' _ _)]
    exact (h.val t).mono hxt

theorem region_draw {cp : CP} (hkp : C.keep = true → cp.keep = true ∧ (cp.from_ = 0 ∨ C.E0.κ.length ≤ cp.from_)) {id : Nat} {al : List AOp} (hal : mapO (cOper P cp ops.toList) ops.toList = some al) (hok : drawOk ops (kindOf ops al) = true) (hm : P.follows .mixedOrders = true) {Kf : St → Prop} {st : St} (h : aops P Kf al st)
    {E : Env} {a : Act} {w : World} (hsat : Sat C E a w st) {Q : Exit → Act → World → Prop} (hq : ∀ E' a' w' st', Kf st' → Sat C E' a' w' st' → Q .normal a' w') : (Code.region id ops true).wp P Q a w :=
  wp_region_any hm (region_any hkp hal hok h hsat hq)
end
end Ab
