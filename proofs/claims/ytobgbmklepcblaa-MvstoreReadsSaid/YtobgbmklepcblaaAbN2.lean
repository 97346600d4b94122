/- Regions that draw their order: one order serves all. No program. -/
import Derived.Test.YtobgbmklepcblaaAbN
namespace Ab
open Go Go.RowKit

section
variable {P : Program} {C : Ctx} {ops : Array Oper}

/-- A frame's slots by number. -/
structure SatV (C : Ctx) (E : Env) (a : Act) (w : World) (val : Nat → AV) (n : Nat) (H : List (List AV)) (O : List OwnD) : Prop where
  holds : Holds C.base C.w0 E w H O
  S : ∀ g o, C.E0.S g o → E.S g o ∧ w.cell? ⟨g, o, none⟩ = C.wE.cell? ⟨g, o, none⟩
  ι : ∀ (i g : Nat), C.E0.ι[i]? = some g → E.ι[i]? = some g
  news : ∀ g o, E.S g o → C.E0.S g o ∨ C.base ≤ g
  defers : a.defers = []
  size : a.tmps.size = n
  val : ∀ t, RepV E w (val t) (a.tmps.getD t Go.undef)

theorem SatV.of {E : Env} {a : Act} {w : World} {st : St} (h : Sat C E a w st) : SatV C E a w (fun t => st.fr.getD t .undef) st.fr.length st.H st.O :=
  ⟨h.holds, h.S, h.ι, h.news, h.defers, h.fr.1, fun t => h.fr.get t⟩

theorem SatV.to {E : Env} {a : Act} {w : World} {st : St} {val : Nat → AV} {n : Nat} {H : List (List AV)} {O : List OwnD} (h : SatV C E a w val n H O) (hn : st.fr.length = n) (hv : ∀ t, val t = st.fr.getD t .undef) (hH : st.H = H) (hO : st.O = O) : Sat C E a w st := by
  subst hH; subst hO
  refine ⟨h.holds, h.S, h.ι, h.news, h.defers, h.size.trans hn.symm, fun t x u hx hu => ?_⟩
  have := h.val t
  rw [hv t] at this
  have e1 : st.fr.getD t .undef = x := by rw [List.getD_eq_getElem?_getD, hx]; rfl
  have e2 : a.tmps.getD t Go.undef = u := by simp [hu]
  rw [e1, e2] at this
  exact this

theorem put_getD (st : St) (d : Option Nat) (r : AV) (t : Nat) : (st.put d r).fr.getD t .undef = if d = some t ∧ t < st.fr.length then r else st.fr.getD t .undef := by
  cases d with
  | none => simp [St.put]
  | some d =>
    simp only [St.put, List.getD_eq_getElem?_getD, List.getElem?_set]
    by_cases hd : d = t
    · subst hd
      by_cases hl : d < st.fr.length
      · simp [hl]
      · simp [hl]
    · simp [hd]
theorem put_H (st : St) (d : Option Nat) (r : AV) : (st.put d r).H = st.H := by cases d <;> rfl
theorem put_O (st : St) (d : Option Nat) (r : AV) : (st.put d r).O = st.O := by cases d <;> rfl
theorem put_len (st : St) (d : Option Nat) (r : AV) : (st.put d r).fr.length = st.fr.length := by cases d <;> simp [St.put]

theorem act_getD (a : Act) (d : Option Nat) (v : Value) (t : Nat) : (a.put d v).tmps.getD t Go.undef = if d = some t ∧ t < a.tmps.size then v else a.tmps.getD t Go.undef := by
  cases d with
  | none => simp [Act.put]
  | some d =>
    simp only [Act.put, Array.getD_eq_getD_getElem?, Array.getElem?_setIfInBounds]
    by_cases hd : d = t
    · subst hd
      by_cases hl : d < a.tmps.size
      · simp [hl]
      · simp [hl]
    · simp [hd]

/-- What the slot t holds when the operations D from b on (below k) have come up. -/
def valD (dst : Nat → Option Nat) (ρ : Nat → AV) (base : Nat → AV) (N : Nat) (D : Nat → Bool) (b : Nat) (t : Nat) : Nat → AV
  | 0 => base t
  | k + 1 => if b ≤ k ∧ D k = true ∧ dst k = some t ∧ t < N then ρ k else valD dst ρ base N D b t k

variable {dst : Nat → Option Nat} {ρ : Nat → AV} {bs : Nat → AV} {N : Nat}

theorem valD_congr {D D' : Nat → Bool} {b t : Nat} : ∀ k, (∀ i, i < k → b ≤ i → dst i = some t → D i = D' i) → valD dst ρ bs N D b t k = valD dst ρ bs N D' b t k
  | 0, _ => rfl
  | k + 1, h => by
    simp only [valD]
    have ih := valD_congr (D := D) (D' := D') (b := b) (t := t) k fun i hi hb hd => h i (by omega) hb hd
    rw [ih]
    by_cases hk : b ≤ k ∧ dst k = some t
    · rw [h k (by omega) hk.1 hk.2]
    · rw [if_neg (fun hc => hk ⟨hc.1, hc.2.2.1⟩), if_neg (fun hc => hk ⟨hc.1, hc.2.2.1⟩)]

/-- No writer from m on. -/
theorem valD_above {D : Nat → Bool} {b t m : Nat} : ∀ k, m ≤ k → (∀ i, m ≤ i → i < k → b ≤ i → dst i = some t → D i = false) → valD dst ρ bs N D b t k = valD dst ρ bs N D b t m
  | 0, hk, _ => by have : m = 0 := by omega
                   subst this; rfl
  | k + 1, hk, h => by
    by_cases hm : m = k + 1
    · subst hm; rfl
    · simp only [valD]
      rw [if_neg (fun hc => by have := h k (by omega) (by omega) hc.1 hc.2.2.1; rw [hc.2.1] at this; cases this)]
      exact valD_above k (by omega) fun i h1 h2 => h i h1 (by omega)

/-- All of those below j have come up: as in the order of the text. -/
theorem valD_lex {s : Nat → St} {b : Nat} (hb : bs = fun t => (s b).fr.getD t .undef) (hN : (s b).fr.length = N) (t : Nat) : ∀ j, b ≤ j → (∀ k, b ≤ k → k < j → (s (k + 1)).fr = ((s k).put (dst k) (ρ k)).fr) →
    (s j).fr.length = N ∧ valD dst ρ bs N (fun _ => true) b t j = (s j).fr.getD t .undef
  | 0, h, _ => by
    have : b = 0 := by omega
    subst this
    exact ⟨hN, by simp [valD, hb]⟩
  | j + 1, h, hs => by
    by_cases hj : b = j + 1
    · subst hj
      refine ⟨hN, ?_⟩
      rw [valD_above (m := 0) (j + 1) (by omega) (fun i _ h1 h2 => by omega)]
      simp [valD, hb]
    · obtain ⟨h1, h4⟩ := valD_lex hb hN t j (by omega) fun k hk hk' => hs k hk (by omega)
      have e := hs j (by omega) (by omega)
      refine ⟨by rw [e, put_len]; exact h1, ?_⟩
      rw [e, put_getD, h1]
      simp only [valD, h4]
      by_cases hc : dst j = some t ∧ t < N
      · rw [if_pos ⟨by omega, trivial, hc.1, hc.2⟩, if_pos hc]
      · rw [if_neg (fun h => hc ⟨h.2.2.1, h.2.2.2⟩), if_neg hc]
theorem ho_lex {s : Nat → St} {c : Nat} : ∀ j, c ≤ j → (∀ k, c ≤ k → k < j → s (k + 1) = (s k).put (dst k) (ρ k)) → (s j).H = (s c).H ∧ (s j).O = (s c).O
  | 0, h, _ => by
    have : c = 0 := by omega
    subst this
    exact ⟨rfl, rfl⟩
  | j + 1, h, hs => by
    by_cases hj : c = j + 1
    · subst hj; exact ⟨rfl, rfl⟩
    · obtain ⟨h1, h2⟩ := ho_lex (c := c) j (by omega) fun k hk hk' => hs k hk (by omega)
      have e := hs j (by omega) (by omega)
      exact ⟨by rw [e, put_H]; exact h1, by rw [e, put_O]; exact h2⟩

def lst (listed : Array Bool) (i : Nat) : Bool := listed.getD i false

theorem lst_set {listed : Array Bool} {j : Nat} (hj : j < listed.size) (i : Nat) : lst (listed.setIfInBounds j true) i = (decide (i = j) || lst listed i) := by
  unfold lst
  by_cases h : i = j
  · subst h; simp [hj]
  · rw [getD_set_ne false (Ne.symm h)]; simp [h]

theorem apart_not_mem {x y : Oper} (h : x.apart ops y = true) {t : Nat} (hx : x.dst = some t) : t ∉ y.looksAt ops ∧ y.dst ≠ some t := by
  obtain ⟨h1, h2, _⟩ := Oper.apart_spec h
  exact ⟨h1 t hx, h2 t hx⟩
theorem apart_not_mem' {x y : Oper} (h : x.apart ops y = true) {t : Nat} (hy : y.dst = some t) : t ∉ x.looksAt ops := (Oper.apart_spec h).2.2 t hy

theorem getD_replicate_false' (m j : Nat) : (Array.replicate m false).getD j false = false := by
  rcases Nat.lt_or_ge j m with h | h
  · simp [h]
  · simp [h]

/-- Every order. -/
theorem any_order {soft late : Nat → Bool} (hok : drawOk ops soft late = true) {s : Nat → St} {ρ : Nat → AV} (hstep : ∀ (k : Nat) (o : Oper), ops[k]? = some o → StepA P C ops o (soft k) (s k) (ρ k) (s (k + 1)))
    (hlate : ∀ p, late p = true → soft p = true ∧ soft (p + 1) = false ∧ (s (p + 2)).fr = (s (p + 1)).fr ∧ (∀ o, ops[p]? = some o → ∀ H O, Good P o (aval (s p).fr) H O (ρ p)) ∧
      ∃ o2 r st2, ops[p + 1]? = some o2 ∧ o2.dst = none ∧ o2.guard = none ∧ OpOk P C o2 (s p) (fun v s' => v = r ∧ s' = st2) ∧ st2.fr = (s p).fr ∧ st2.H = (s (p + 2)).H ∧ st2.O = (s (p + 2)).O ∧ ∀ o t, ops[p]? = some o → o.dst = some t → t ∉ o2.looksAt ops)
    {Q : Exit → Act → World → Prop} (hQ : ∀ E a w, Sat C E a w (s ops.size) → Q .normal a w) :
    ∀ (fuel : Nat) (listed : Array Bool) (b c : Nat) (E : Env) (a : Act) (w : World), listed.size = ops.size → (List.range ops.size).countP (fun i => !lst listed i) ≤ fuel → Closed ops listed → (∀ i, i < b → lst listed i = true) → b ≤ ops.size → (c = b ∨ (c = b + 2 ∧ late b = true ∧ lst listed (b + 1) = true)) →
      (∀ i, b ≤ i → i < ops.size → soft i = false → lst listed i = false ∨ (c = b + 2 ∧ i = b + 1)) →
      SatV C E a w (fun t => valD (fun i => (ops[i]?).bind (·.dst)) ρ (fun t => (s b).fr.getD t .undef) (s b).fr.length (lst listed) b t ops.size) (s b).fr.length (s c).H (s c).O → wpAny P .any ops Q fuel listed a w := by
  obtain ⟨hback, hclash⟩ := drawOk_spec hok
  let dst : Nat → Option Nat := fun i => (ops[i]?).bind (·.dst)
  have hdst : ∀ {i o}, ops[i]? = some o → dst i = o.dst := fun h => by simp [dst, h]
  -- steps of quiet operations
  have hput : ∀ k o, ops[k]? = some o → (soft k = true ∨ wantA ops (s k).fr o = some false) → s (k + 1) = (s k).put (dst k) (ρ k) := by
    intro k o ho hsoft
    rw [hdst ho]
    rcases hstep k o ho with ⟨_, hr, hs⟩ | ⟨_, _, _, hs⟩ | ⟨hw, hf, _⟩
    · rw [hr]; exact hs
    · exact hs
    · rcases hsoft with h | h
      · rw [hf] at h; cases h
      · rw [hw] at h; cases h
  intro fuel
  -- the pair that may come up in either order
  have hpair : ∀ b, late b = true → b + 1 < ops.size ∧ (s (b + 2)).fr = ((s (b + 1)).put (dst (b + 1)) (ρ (b + 1))).fr := by
    intro b hl
    obtain ⟨_, _, h3, _, o2, r, st2, h5, h6, _⟩ := hlate b hl
    refine ⟨(Array.getElem?_eq_some_iff.1 h5).1, ?_⟩
    rw [hdst h5, h6]; exact h3
  -- frames and memory between
  have hmid : ∀ (listed : Array Bool) (b c : Nat), (c = b ∨ (c = b + 2 ∧ late b = true ∧ lst listed (b + 1) = true)) → (∀ i, b ≤ i → i < ops.size → soft i = false → lst listed i = false ∨ (c = b + 2 ∧ i = b + 1)) →
      (∀ k, b ≤ k → k < ops.size → (soft k = true ∨ lst listed k = true) → (s (k + 1)).fr = ((s k).put (dst k) (ρ k)).fr) ∧ (∀ k, c ≤ k → k < ops.size → (soft k = true ∨ lst listed k = true) → s (k + 1) = (s k).put (dst k) (ρ k)) := by
    intro listed b c hc heff
    have hcb : b ≤ c := by rcases hc with h | h <;> omega
    constructor
    · intro k hk hk' hor
      cases hs : soft k with
      | true => rw [hput k ops[k] (Array.getElem?_eq_getElem hk') (.inl hs)]
      | false =>
        rcases heff k hk hk' hs with h | ⟨h1, h2⟩
        · rcases hor with hor | hor
          · rw [hs] at hor; cases hor
          · rw [h] at hor; cases hor
        · rcases hc with h | ⟨_, hl, _⟩
          · omega
          · subst h2; exact (hpair b hl).2
    · intro k hk hk' hor
      cases hs : soft k with
      | true => exact hput k ops[k] (Array.getElem?_eq_getElem hk') (.inl hs)
      | false =>
        rcases heff k (by omega) hk' hs with h | ⟨h1, h2⟩
        · rcases hor with hor | hor
          · rw [hs] at hor; cases hor
          · rw [h] at hor; cases hor
        · omega
  have fin : ∀ (listed : Array Bool) (b c : Nat) (E : Env) (a : Act) (w : World), (∀ i, i < ops.size → lst listed i = true) → b ≤ ops.size → (c = b ∨ (c = b + 2 ∧ late b = true ∧ lst listed (b + 1) = true)) → (∀ i, b ≤ i → i < ops.size → soft i = false → lst listed i = false ∨ (c = b + 2 ∧ i = b + 1)) →
      SatV C E a w (fun t => valD dst ρ (fun t => (s b).fr.getD t .undef) (s b).fr.length (lst listed) b t ops.size) (s b).fr.length (s c).H (s c).O → Q .normal a w := by
    intro listed b c E a w hall hb hc heff hsat
    obtain ⟨hm1, hm2⟩ := hmid listed b c hc heff
    have hcs : c ≤ ops.size := by
      rcases hc with h | ⟨h, hl, _⟩
      · omega
      · have := (hpair b hl).1; omega
    have hsf : ∀ k, b ≤ k → k < ops.size → (s (k + 1)).fr = ((s k).put (dst k) (ρ k)).fr := fun k hk hk' => hm1 k hk hk' (.inr (hall k hk'))
    have hho := ho_lex (dst := dst) (ρ := ρ) (s := s) ops.size hcs fun k hk hk' => hm2 k hk hk' (.inr (hall k hk'))
    refine hQ E a w (hsat.to (st := s ops.size) ?_ (fun t => ?_) hho.1 hho.2)
    · exact (valD_lex (s := s) rfl rfl 0 ops.size hb hsf).1
    · rw [← (valD_lex (s := s) rfl rfl t ops.size hb hsf).2]
      exact valD_congr ops.size fun i hi _ _ => hall i hi
  have done : ∀ (listed : Array Bool), listed.size = ops.size → Region.ready .any ops listed = [] → ∀ i, i < ops.size → lst listed i = true := by
    intro listed hsz hr i
    induction i using Nat.strongRecOn with
    | _ i ih =>
      intro hi
      cases hl : lst listed i with
      | true => rfl
      | false =>
        have : i ∈ Region.ready .any ops listed := by
          refine mem_ready.2 ⟨?_, ops[i], Array.getElem?_eq_getElem hi, fun e he hb => ?_⟩
          · unfold lst at hl
            have : i < listed.size := by omega
            simp [this] at hl ⊢; exact hl
          · have := hback i _ (Array.getElem?_eq_getElem hi) e he hb
            exact ih e.on this (by omega)
        rw [hr] at this
        cases this
  induction fuel with
  | zero =>
    intro listed b c E a w hsz hcnt hcl hlow hb hc heff hsat
    have hall : ∀ i, i < ops.size → lst listed i = true := by
      intro i hi
      have h0 : (List.range ops.size).countP (fun i => !lst listed i) = 0 := by omega
      rw [List.countP_eq_zero] at h0
      have := h0 i (List.mem_range.2 hi)
      simpa using this
    refine ⟨?_, fin listed b c E a w hall hb hc heff hsat⟩
    apply List.eq_nil_iff_forall_not_mem.2
    intro i hi
    obtain ⟨h1, o, ho, _⟩ := mem_ready.1 hi
    have hil := (Array.getElem?_eq_some_iff.1 ho).1
    have h2 := hall i hil
    unfold lst at h2
    have hil' : i < listed.size := by omega
    simp [hil'] at h1 h2
    rw [h1] at h2; cases h2
  | succ fuel ih =>
    intro listed b c E a w hsz hcnt hcl hlow hb hc heff hsat
    refine ⟨fun hr => fin listed b c E a w (done listed hsz hr) hb hc heff hsat, fun j hj => ?_⟩
    obtain ⟨hun, o, ho, hall⟩ := mem_ready.1 hj
    have hjl : j < ops.size := (Array.getElem?_eq_some_iff.1 ho).1
    have hjl' : j < listed.size := by omega
    have hjun : lst listed j = false := by unfold lst; simp [hjl'] at hun ⊢; exact hun
    have hbj : b ≤ j := by
      rcases Nat.lt_or_ge j b with h | h
      · rw [hlow j h] at hjun; cases hjun
      · exact h
    -- what clashes with j and stands before it has come up; what clashes and stands behind has not
    have hbefore : ∀ i, i < j → clash ops soft i j = true → ¬ (late i = true ∧ j = i + 1) → lst listed i = true := by
      intro i hij hcl' hnl
      have hr := (hclash i j hij hjl hcl').resolve_left hnl
      have key : ∀ {p q}, DepOn ops p q → p = j → lst listed q = true := by
        intro p q hr
        induction hr with
        | edge ho' he hb' hi =>
          intro hp; subst hp
          rw [ho] at ho'; injection ho' with ho'; subst ho'
          rw [← hi]; exact hall _ he hb'
        | trans h1 h2 ih1 ih2 => intro hp; exact hcl.reach h2 (ih1 hp)
      exact key hr rfl
    have hafter : ∀ i, j < i → i < ops.size → clash ops soft j i = true → ¬ (late j = true ∧ i = j + 1) → lst listed i = false := by
      intro i hji hil hcl' hnl
      cases hl : lst listed i with
      | false => rfl
      | true => have := hcl.reach ((hclash j i hji hil hcl').resolve_left hnl) hl; unfold lst at hjun; rw [this] at hjun; cases hjun
    obtain ⟨hm1, hm2⟩ := hmid listed b c hc heff
    have lateSoft : ∀ i, late i = true → soft i = true := fun i h => (hlate i h).1
    have lateNext : ∀ i, late i = true → soft (i + 1) = false := fun i h => (hlate i h).2.1
    have hor : ∀ k, k < j → soft k = true ∨ lst listed k = true := by
      intro k hkj
      have hkl : k < ops.size := by omega
      cases hs : soft k with
      | true => exact .inl rfl
      | false => exact .inr (hbefore k hkj (by simp [clash, ho, Array.getElem?_eq_getElem hkl, hs]) (fun h => by rw [lateSoft k h.1] at hs; cases hs))
    have hlex := fun t => valD_lex (bs := fun t => (s b).fr.getD t .undef) (ρ := ρ) (dst := dst) (s := s) rfl rfl t j hbj (fun k hk hkj => hm1 k hk (by omega) (hor k hkj))
    have hlenj : (s j).fr.length = (s b).fr.length := (hlex 0).1
    -- memory: as before j, or j is the first of the pair
    have hcj : c ≤ j ∨ (j = b ∧ late b = true) := by
      rcases hc with h | ⟨h, hl, hl2⟩
      · exact .inl (by omega)
      · rcases Nat.lt_or_ge j c with h3 | h3
        · have : j ≠ b + 1 := fun he => by subst he; rw [hl2] at hjun; cases hjun
          exact .inr ⟨by omega, hl⟩
        · exact .inl h3
    have hHOj : c ≤ j → (s j).H = (s c).H ∧ (s j).O = (s c).O := fun h => ho_lex (dst := dst) (ρ := ρ) (s := s) j h fun k hk hkj => hm2 k hk (by omega) (hor k hkj)
    -- a slot whose writers all clash with j
    have hslot : ∀ t, (∀ i oi, ops[i]? = some oi → i ≠ j → oi.dst = some t → (i < j → clash ops soft i j = true) ∧ (j < i → clash ops soft j i = true)) →
        (∀ i oi, ops[i]? = some oi → oi.dst = some t → i < j → ¬ (late i = true ∧ j = i + 1)) →
        valD dst ρ (fun t => (s b).fr.getD t .undef) (s b).fr.length (lst listed) b t ops.size = (s j).fr.getD t .undef := by
      intro t ht hnl
      rw [← (hlex t).2]
      rw [valD_above (m := j) ops.size (by omega) (fun i h1 h2 h3 h4 => ?_)]
      · refine valD_congr j fun i hi hbi hd => ?_
        have hil : i < ops.size := by omega
        rw [hdst (Array.getElem?_eq_getElem hil)] at hd
        exact hbefore i hi ((ht i _ (Array.getElem?_eq_getElem hil) (by omega) hd).1 hi) (hnl i _ (Array.getElem?_eq_getElem hil) hd hi)
      · rw [hdst (Array.getElem?_eq_getElem h2)] at h4
        by_cases hij : i = j
        · subst hij; exact hjun
        · exact hafter i (by omega) h2 ((ht i _ (Array.getElem?_eq_getElem h2) hij h4).2 (by omega)) (fun h => by
            obtain ⟨_, _, _, _, o2, r, st2, h5, h6, _⟩ := hlate j h.1
            rw [← h.2, Array.getElem?_eq_getElem h2] at h5
            injection h5 with h5
            rw [h5, h6] at h4; cases h4)
    have hclashL : ∀ i oi t, ops[i]? = some oi → t ∈ o.looksAt ops ∨ o.dst = some t → oi.dst = some t → clash ops soft i j = true ∧ clash ops soft j i = true := by
      intro i oi t hoi ht hd
      have h1 : oi.apart ops o = false := by
        cases ha : oi.apart ops o with
        | false => rfl
        | true =>
          obtain ⟨h1, h2⟩ := apart_not_mem ha hd
          exact (ht.elim (fun h => absurd h h1) (fun h => absurd h h2))
      have h2 : o.apart ops oi = false := by
        cases ha : o.apart ops oi with
        | false => rfl
        | true =>
          rcases ht with ht | ht
          · exact absurd ht (apart_not_mem' ha hd)
          · exact absurd hd (apart_not_mem ha ht).2
      exact ⟨by simp [clash, hoi, ho, h1], by simp [clash, hoi, ho, h2]⟩
    have hnotw : ∀ i t, i < ops.size → dst i = some t → ¬ (late j = true ∧ i = j + 1) := by
      rintro i t hil hd ⟨h1, h2⟩
      obtain ⟨_, _, _, _, o2, r, st2, h5, h6, _⟩ := hlate j h1
      subst h2
      rw [hdst h5, h6] at hd; cases hd
    have hnot2 : ∀ i oi t, ops[i]? = some oi → oi.dst = some t → t ∈ o.looksAt ops → ¬ (late i = true ∧ j = i + 1) := by
      rintro i oi t hoi hd ht ⟨h1, h2⟩
      obtain ⟨_, _, _, _, o2, r, st2, h5, h6, _, _, _, _, _, h12⟩ := hlate i h1
      subst h2
      rw [ho] at h5; injection h5 with h5
      subst h5
      exact h12 oi t hoi hd ht
    have hlook : ∀ t, t ∈ o.looksAt ops → valD dst ρ (fun t => (s b).fr.getD t .undef) (s b).fr.length (lst listed) b t ops.size = (s j).fr.getD t .undef := fun t ht =>
      hslot t (fun i oi hoi _ hd => ⟨fun _ => (hclashL i oi t hoi (.inl ht) hd).1, fun _ => (hclashL i oi t hoi (.inl ht) hd).2⟩) (fun i oi hoi hd _ => hnot2 i oi t hoi hd ht)
    have hreplook : ∀ t, t ∈ o.looksAt ops → RepV E w ((s j).fr.getD t .undef) (a.tmps.getD t Go.undef) := fun t ht => by rw [← hlook t ht]; exact hsat.val t
    -- the state behind
    have hlst := fun i => lst_set (listed := listed) hjl' i
    have hcnt' : (List.range ops.size).countP (fun i => !lst (listed.setIfInBounds j true) i) ≤ fuel := by
      have : (List.range ops.size).countP (fun i => !lst (listed.setIfInBounds j true) i) + 1 ≤ (List.range ops.size).countP (fun i => !lst listed i) := by
        have key : ∀ (l : List Nat), j ∈ l → l.Nodup → l.countP (fun i => !lst (listed.setIfInBounds j true) i) + 1 ≤ l.countP (fun i => !lst listed i) := by
          intro l
          induction l with
          | nil => intro h; cases h
          | cons x l ihl =>
            intro hm hnd
            rw [List.countP_cons, List.countP_cons]
            have hnd' := List.nodup_cons.1 hnd
            by_cases hx : x = j
            · subst hx
              have e1 : (!lst (listed.setIfInBounds x true) x) = false := by rw [hlst]; simp
              have e2 : (!lst listed x) = true := by rw [hjun]; rfl
              have e3 : l.countP (fun i => !lst (listed.setIfInBounds x true) i) = l.countP (fun i => !lst listed i) := by
                apply List.countP_congr
                intro i hi
                have : i ≠ x := fun h => hnd'.1 (h ▸ hi)
                rw [hlst]; simp [this]
              rw [e1, e2, e3]; simp
            · have hm' : j ∈ l := by rcases List.mem_cons.1 hm with h | h; exact absurd h.symm hx; exact h
              have := ihl hm' hnd'.2
              have e1 : lst (listed.setIfInBounds j true) x = lst listed x := by rw [hlst]; simp [hx]
              rw [e1]
              omega
        exact key _ (List.mem_range.2 hjl) List.nodup_range
      omega
    have hcl' : Closed ops (listed.setIfInBounds j true) := by
      intro p op hp hl e he hb'
      by_cases hpj : p = j
      · subst hpj
        rw [ho] at hp; injection hp with hp; subst hp
        exact getD_set_true (hall e he hb')
      · rw [getD_set_ne false (Ne.symm hpj)] at hl
        exact getD_set_true (hcl p op hp hl e he hb')
    have hsz' : (listed.setIfInBounds j true).size = ops.size := by simp [hsz]
    -- a quiet step: slot dst o gets a value that stands for ρ j
    have quiet : ∀ (E' : Env) (v : Value) (w' : World), Holds C.base C.w0 E' w' (s c).H (s c).O → Ext E w E' w' → (∀ g o, E'.S g o → E.S g o ∨ C.base ≤ g) → RepV E' w' (ρ j) v → soft j = true →
        wpAny P .any ops Q fuel (listed.setIfInBounds j true) (a.put o.dst v) w' := by
      intro E' v w' hh hx hn hv hsj
      refine ih _ b c E' (a.put o.dst v) w' hsz' hcnt' hcl' (fun i hi => by rw [hlst]; simp [hlow i hi]) hb (hc.imp id fun h => ⟨h.1, h.2.1, by rw [hlst, h.2.2]; simp⟩) (fun i hi hi' hs => ?_) ⟨hh, fun g o h => ⟨hx.S g o (hsat.S g o h).1, (hx.cell g o (hsat.S g o h).1).trans (hsat.S g o h).2⟩, fun i g h => hx.ι i g (hsat.ι i g h), fun g o h => (hn g o h).elim (hsat.news g o) .inr, by rw [put_defers]; exact hsat.defers, by rw [put_size]; exact hsat.size, fun t => ?_⟩
      · rcases heff i hi hi' hs with h | h
        · refine .inl ?_
          rw [hlst, h]
          have : i ≠ j := fun h => by subst h; rw [hsj] at hs; cases hs
          simp [this]
        · exact .inr h
      · show RepV E' w' (valD dst ρ _ _ (lst (listed.setIfInBounds j true)) b t ops.size) _
        rw [act_getD, hsat.size]
        by_cases hd : o.dst = some t
        · by_cases htN : t < (s b).fr.length
          · rw [if_pos ⟨hd, htN⟩]
            rw [valD_above (m := j + 1) ops.size (by omega) (fun i h1 h2 h3 h4 => ?_)]
            · simp only [valD]
              rw [if_pos ⟨hbj, by rw [hlst]; simp, by rw [hdst ho]; exact hd, htN⟩]
              exact hv
            · rw [hdst (Array.getElem?_eq_getElem h2)] at h4
              rw [hlst, hafter i (by omega) h2 (hclashL i _ t (Array.getElem?_eq_getElem h2) (.inr hd) h4).2 (hnotw i t h2 (by rw [hdst (Array.getElem?_eq_getElem h2)]; exact h4))]
              have : i ≠ j := by omega
              simp [this]
          · rw [if_neg (fun h => htN h.2)]
            have e1 : ∀ (D : Nat → Bool) k, valD dst ρ (fun t => (s b).fr.getD t .undef) (s b).fr.length D b t k = (s b).fr.getD t .undef := by
              intro D k
              induction k with
              | zero => rfl
              | succ k ihk => simp only [valD]; rw [if_neg (fun h => htN h.2.2.2)]; exact ihk
            rw [e1]
            have := hsat.val t
            rw [e1] at this
            exact this.mono hx
        · rw [if_neg (fun h => hd h.1)]
          rw [valD_congr (D := lst (listed.setIfInBounds j true)) (D' := lst listed) ops.size (fun i hi hbi hdi => ?_)]
          · exact (hsat.val t).mono hx
          · rw [hlst]
            by_cases hij : i = j
            · subst hij; rw [hdst ho] at hdi; exact absurd hdi hd
            · simp [hij]
    unfold wpOp
    simp only [ho]
    rcases hstep j o ho with ⟨hw, hr, hs⟩ | ⟨hw, hsj, hg, hs⟩ | ⟨hw, hsj, st1, hop, hs⟩
    · -- passed by
      have hwant := want_ok (ops := ops) (a := a) hw hreplook
      rw [hwant]
      simp only [Bool.false_eq_true, if_false]
      cases hsj : soft j with
      | true => exact quiet E _ w hsat.holds (Ext.refl _ _) (fun g o h => .inl h) (by rw [hr]; exact .undef) hsj
      | false =>
        have hcA : c ≤ j := hcj.resolve_right fun h => by rw [← h.1] at h; rw [lateSoft j h.2] at hsj; cases hsj
        have hnl : ∀ i, ¬ (late i = true ∧ j = i + 1) := by
          rintro i ⟨h1, h2⟩
          obtain ⟨_, _, _, _, o2, r, st2, h5, h6, h7, _⟩ := hlate i h1
          subst h2
          rw [ho] at h5; injection h5 with h5
          subst h5
          simp [wantA, h7] at hw
        have hnl2 : ∀ i, ¬ (late j = true ∧ i = j + 1) := fun i h => by rw [lateSoft j h.1] at hsj; cases hsj
        have hallj : ∀ i, i < ops.size → i ≠ j → lst listed i = decide (i < j) := by
          intro i hi hij
          rcases Nat.lt_or_ge i j with h | h
          · rw [hbefore i h (by simp [clash, ho, Array.getElem?_eq_getElem hi, hsj]) (hnl i)]; simp [h]
          · rw [hafter i (by omega) hi (by simp [clash, ho, Array.getElem?_eq_getElem hi, hsj]) (hnl2 i)]; simp; omega
        have hst : s (j + 1) = (s j).put (dst j) (ρ j) := hput j o ho (.inr hw)
        have hval : ∀ t, valD dst ρ (fun t => (s b).fr.getD t .undef) (s b).fr.length (lst listed) b t ops.size = (s j).fr.getD t .undef := fun t =>
          hslot t (fun i oi hoi hij _ => ⟨fun h => by simp [clash, ho, hoi, hsj], fun h => by simp [clash, ho, hoi, hsj]⟩) (fun i _ _ _ _ => hnl i)
        have hsatj : Sat C E a w (s j) := hsat.to hlenj hval (hHOj hcA).1 (hHOj hcA).2
        have hsat' : Sat C E (a.put o.dst Go.undef) w (s (j + 1)) := by rw [hst, hdst ho, hr]; exact hsatj.put .undef _
        refine ih _ (j + 1) (j + 1) E _ w hsz' hcnt' hcl' (fun i hi => ?_) (by omega) (.inl rfl) (fun i hi hi' _ => .inl ?_) ?_
        · rw [hlst]
          by_cases hij : i = j
          · simp [hij]
          · rw [hallj i (by omega) hij]; simp; omega
        · rw [hlst, hallj i hi' (by omega)]; simp; omega
        · have h := SatV.of hsat'
          refine ⟨h.holds, h.S, h.ι, h.news, h.defers, h.size, fun t => ?_⟩
          show RepV E w (valD dst ρ _ _ _ (j + 1) t ops.size) _
          rw [valD_above (m := 0) ops.size (by omega) (fun i _ hi hji _ => by rw [hlst, hallj i hi (by omega)]; simp; omega)]
          exact h.val t
    · -- a quiet operation
      have hwant := want_ok (ops := ops) (a := a) hw hreplook
      rw [hwant]
      simp only [if_true]
      refine .inl ?_
      have hg : Good P o (aval (s j).fr) (s c).H (s c).O (ρ j) := by
        rcases hcj with h | ⟨h1, h2⟩
        · rw [(hHOj h).1, (hHOj h).2] at hg; exact hg
        · rw [h1] at ho ⊢; exact (hlate b h2).2.2.2.1 o ho _ _
      refine hg C.base C.w0 E a w hsat.holds (fun x y hx hy => ?_) _ _ fun v E' w' hh hx hn hv => quiet E' v w' hh hx hn hv hsj
      cases x with
      | tmp t =>
        simp [cX] at hy; subst hy
        exact hreplook t (List.mem_append_left _ (List.mem_filterMap.2 ⟨.tmp t, by simpa using hx, rfl⟩))
      | const v =>
        simp [cX] at hy
        obtain ⟨u, hu, rfl⟩ := hy
        exact cVal_rep hu
      | global g => simp [cX] at hy
      | func f =>
        simp [cX] at hy; subst hy
        exact .clo (by simp) (fun j x u hj => by simp at hj)
    · -- an operation that writes
      have hwant := want_ok (ops := ops) (a := a) hw hreplook
      rw [hwant]
      simp only [if_true]
      refine .inl ?_
      have hcA : c ≤ j := hcj.resolve_right fun h => by rw [← h.1] at h; rw [lateSoft j h.2] at hsj; cases hsj
      have hafter' : ∀ i, j < i → i < ops.size → lst listed i = false := fun i h hi => hafter i h hi (by simp [clash, ho, Array.getElem?_eq_getElem hi, hsj]) (fun h => by rw [lateSoft j h.1] at hsj; cases hsj)
      by_cases hpr : ∃ p, late p = true ∧ j = p + 1 ∧ lst listed p = false
      · -- the second of a pair comes up first
        obtain ⟨p, hlp, rfl, hpun⟩ := hpr
        obtain ⟨hsp, _, _, _, o2, r2, st2, h5, h6, h7, hop2, hf2, hH2, hO2, _⟩ := hlate p hlp
        rw [ho] at h5; injection h5 with h5
        subst h5
        have hpl : p < ops.size := by omega
        have hbp : b ≤ p := by
          rcases Nat.lt_or_ge p b with h | h
          · rw [hlow p h] at hpun; cases hpun
          · exact h
        have hbelow : ∀ i, i < p → lst listed i = true := fun i hi => hbefore i (by omega) (by simp [clash, ho, Array.getElem?_eq_getElem (show i < ops.size by omega), hsj]) (fun h => by omega)
        have hcp : c ≤ p := by
          rcases hc with h | ⟨h, hl, hl2⟩
          · omega
          · have h1 : p ≠ b := fun he => by subst he; rw [hl2] at hjun; cases hjun
            have h2 : p ≠ b + 1 := fun he => by subst he; rw [hl2] at hpun; cases hpun
            omega
        have hlexp := fun t => valD_lex (bs := fun t => (s b).fr.getD t .undef) (ρ := ρ) (dst := dst) (s := s) rfl rfl t p hbp (fun k hk hkp => hm1 k hk (by omega) (.inr (hbelow k hkp)))
        have hHOp := ho_lex (dst := dst) (ρ := ρ) (s := s) p hcp fun k hk hkp => hm2 k hk (by omega) (.inr (hbelow k hkp))
        have hvalp : ∀ t, valD dst ρ (fun t => (s b).fr.getD t .undef) (s b).fr.length (lst listed) b t ops.size = (s p).fr.getD t .undef := fun t => by
          rw [← (hlexp t).2]
          rw [valD_above (m := p) ops.size (by omega) (fun i h1 h2 h3 h4 => ?_)]
          · exact valD_congr p fun i hi hbi hd => hbelow i hi
          · by_cases hip : i = p
            · subst hip; exact hpun
            · by_cases hij : i = p + 1
              · subst hij; exact hjun
              · exact hafter' i (by omega) h2
        have hsatp : Sat C E a w (s p) := hsat.to (hlexp 0).1 hvalp hHOp.1 hHOp.2
        refine hop2 E a w hsatp _ _ fun E' w' u v st' hk hs' => ?_
        obtain ⟨rfl, rfl⟩ := hk
        rw [h6] at hs' ⊢
        refine ih _ p (p + 2) E' _ w' hsz' hcnt' hcl' (fun i hi => by rw [hlst, hbelow i hi]; simp) (by omega) (.inr ⟨rfl, hlp, by rw [hlst]; simp⟩) (fun i hi hi' hsi => ?_) ?_
        · by_cases hij : i = p + 1
          · exact .inr ⟨rfl, hij⟩
          · have hip : i ≠ p := fun h => by subst h; rw [hsp] at hsi; cases hsi
            refine .inl ?_
            rw [hlst, hafter' i (by omega) hi']; simp [hij]
        · have h := SatV.of hs'
          have h' : SatV C E' (a.put none u) w' (fun t => st'.fr.getD t .undef) st'.fr.length st'.H st'.O := h
          rw [hf2, hH2, hO2] at h'
          refine ⟨h'.holds, h'.S, h'.ι, h'.news, h'.defers, h'.size, fun t => ?_⟩
          show RepV E' w' (valD dst ρ _ _ _ p t ops.size) _
          rw [valD_above (m := 0) ops.size (by omega) (fun i _ hi hpi hdi => ?_)]
          · exact h'.val t
          · by_cases hij : i = p + 1
            · subst hij; rw [hdst ho, h6] at hdi; cases hdi
            · by_cases hip : i = p
              · subst hip; rw [hlst, hpun]; simp
              · rw [hlst, hafter' i (by omega) hi]; simp [hij]
      have hbefore' : ∀ i, i < j → lst listed i = true := fun i h => by
        have hi : i < ops.size := by omega
        by_cases hp : late i = true ∧ j = i + 1
        · cases hl : lst listed i with
          | true => rfl
          | false => exact absurd ⟨i, hp.1, hp.2, hl⟩ hpr
        · exact hbefore i h (by simp [clash, ho, Array.getElem?_eq_getElem hi, hsj]) hp
      have hallj : ∀ i, i < ops.size → i ≠ j → lst listed i = decide (i < j) := by
        intro i hi hij
        rcases Nat.lt_or_ge i j with h | h
        · rw [hbefore' i h]; simp [h]
        · rw [hafter' i (by omega) hi]; simp; omega
      have hval : ∀ t, valD dst ρ (fun t => (s b).fr.getD t .undef) (s b).fr.length (lst listed) b t ops.size = (s j).fr.getD t .undef := fun t =>
        by
          rw [← (hlex t).2]
          rw [valD_above (m := j) ops.size (by omega) (fun i h1 h2 h3 h4 => ?_)]
          · exact valD_congr j fun i hi hbi hd => hbefore' i hi
          · by_cases hij : i = j
            · subst hij; exact hjun
            · exact hafter' i (by omega) h2
      have hsatj : Sat C E a w (s j) := hsat.to hlenj hval (hHOj hcA).1 (hHOj hcA).2
      refine hop E a w hsatj _ _ fun E' w' u v st' hk hs' => ?_
      obtain ⟨rfl, rfl⟩ := hk
      rw [← hs] at hs'
      refine ih _ (j + 1) (j + 1) E' _ w' hsz' hcnt' hcl' (fun i hi => ?_) (by omega) (.inl rfl) (fun i hi hi' _ => .inl ?_) ?_
      · rw [hlst]
        by_cases hij : i = j
        · simp [hij]
        · rw [hallj i (by omega) hij]; simp; omega
      · rw [hlst, hallj i hi' (by omega)]; simp; omega
      · have h := SatV.of hs'
        refine ⟨h.holds, h.S, h.ι, h.news, h.defers, h.size, fun t => ?_⟩
        show RepV E' w' (valD dst ρ _ _ _ (j + 1) t ops.size) _
        rw [valD_above (m := 0) ops.size (by omega) (fun i _ hi hji _ => by rw [hlst, hallj i hi (by omega)]; simp; omega)]
        exact h.val t

theorem axNot_val {t : Nat} {a : AX} (h : axNot t a = true) (fr : List AV) (v : AV) : aval (fr.set t v) a = aval fr a := by
  cases a with
  | tmp u =>
    have hu : u ≠ t := by simpa [axNot] using h
    show (fr.set t v).getD u .undef = fr.getD u .undef
    rw [List.getD_eq_getElem?_getD, List.getD_eq_getElem?_getD, List.getElem?_set_ne (Ne.symm hu)]
  | const c => rfl

theorem store_frame {n : Nat} {st st' st1 : St} {y x r : AV} (hH : st'.H = st.H) (hO : st'.O = st.O) (h : astore n st' y (fun v s => v = r ∧ s = st1) x) :
    astore n st y (fun v s => v = r ∧ s = ⟨st.fr, st1.H, st1.O⟩) x ∧ st1.fr = st'.fr := by
  unfold astore at h ⊢
  split at h
  · obtain ⟨h1, h2, h3⟩ := h
    subst h3
    rw [hH] at h1
    exact ⟨⟨h1, h2, by rw [hH, hO]⟩, rfl⟩
  · obtain ⟨xs, hx, h1, h2, h3⟩ := onOpt_elim h
    subst h3
    rw [hO] at hx h1
    refine ⟨?_, rfl⟩
    show onOpt _ _
    rw [hx]
    exact ⟨h1, h2, by rw [hH, hO]⟩
  · exact h.elim

theorem late_pair {cp : CP} {al : List AOp} (hal : mapO (cOper P cp ops.toList) ops.toList = some al) {s : Nat → St} {ρ : Nat → AV}
    (hstep : ∀ (k : Nat) (o : Oper) (ao : AOp), ops.toList[k]? = some o → al[k]? = some ao → StepA P C ops o (isSoft ao.op) (s k) (ρ k) (s (k + 1)) ∧ ao.dst = o.dst ∧ (ao.guard = none → o.guard = none ∧ ∃ st1, s (k + 1) = st1.put o.dst (ρ k) ∧ Extra P o ao.op (s k) (ρ k) st1))
    {p : Nat} (hp : lateAt ops al p = true) :
    softAt al p = true ∧ softAt al (p + 1) = false ∧ (s (p + 2)).fr = (s (p + 1)).fr ∧ (∀ o, ops[p]? = some o → ∀ H O, Good P o (aval (s p).fr) H O (ρ p)) ∧
      ∃ o2 r st2, ops[p + 1]? = some o2 ∧ o2.dst = none ∧ o2.guard = none ∧ OpOk P C o2 (s p) (fun v s' => v = r ∧ s' = st2) ∧ st2.fr = (s p).fr ∧ st2.H = (s (p + 2)).H ∧ st2.O = (s (p + 2)).O ∧ ∀ o t, ops[p]? = some o → o.dst = some t → t ∉ o2.looksAt ops := by
  unfold lateAt at hp
  split at hp
  · rename_i x y t _ _ n a b ho ho2 ha ha2
    simp only [Bool.and_eq_true] at hp
    obtain ⟨⟨hna, hnb⟩, hap⟩ := hp
    obtain ⟨_, hd1, hg1⟩ := hstep p x _ (by simpa using ho) ha
    obtain ⟨_, hd2, hg2⟩ := hstep (p + 1) y _ (by simpa using ho2) ha2
    obtain ⟨_, st1, hs1, hex1⟩ := hg1 rfl
    obtain ⟨hgd2, st2, hs2, hex2⟩ := hg2 rfl
    obtain ⟨hst1, hgood⟩ := hex1.1 _ _ rfl
    subst hst1
    have heff : astore n (s (p + 1)) (aval (s (p + 1)).fr b) (fun v' s' => v' = ρ (p + 1) ∧ s' = st2) (aval (s (p + 1)).fr a) := hex2.2 rfl
    rw [← hd1] at hs1
    rw [← hd2] at hs2
    replace hs1 : s (p + 1) = { s p with fr := (s p).fr.set t (ρ p) } := hs1
    replace hs2 : s (p + 2) = st2 := hs2
    have hfr : (s (p + 1)).fr = (s p).fr.set t (ρ p) := by rw [hs1]
    rw [hfr, axNot_val hna, axNot_val hnb] at heff
    obtain ⟨he, hf⟩ := store_frame (st := s p) (by rw [hs1]) (by rw [hs1]) heff
    have hoper : OperOk P C y (.store n a b) := by
      obtain ⟨hlen, hsp⟩ := mapO_spec hal
      have := hsp (p + 1) _ y ha2 (by simpa using ho2)
      obtain ⟨g, op, _, he, hop⟩ := cOper_spec (C := C) this
      injection he with _ _ he
      rw [he]; exact hop
    refine ⟨by simp [softAt, ha, isSoft], by simp [softAt, ha2, isSoft], by rw [hs2, hf], fun o ho' H O => ?_, y, ρ (p + 1), _, ho2, hd2.symm, hgd2, hoper.1 _ _ he, rfl, by rw [hs2], by rw [hs2], fun o t' ho' hdt => ?_⟩
    · rw [ho] at ho'; injection ho' with ho'; subst ho'
      exact hgood H O
    · rw [ho] at ho'; injection ho' with ho'; subst ho'
      exact (apart_not_mem hap hdt).1
  · cases hp

theorem region_draw {cp : CP} {id : Nat} {al : List AOp} (hal : mapO (cOper P cp ops.toList) ops.toList = some al) (hok : drawOk ops (softAt al) (lateAt ops al) = true) (hm : P.follows .mixedOrders = true) {Kf : St → Prop} {st : St} (h : aops P Kf al st)
    {E : Env} {a : Act} {w : World} (hsat : Sat C E a w st) {Q : Exit → Act → World → Prop} (hq : ∀ E' a' w' st', Kf st' → Sat C E' a' w' st' → Q .normal a' w') : (Code.region id ops true).wp P Q a w := by
  obtain ⟨s, ρ, h0, hK, hstep⟩ := ops_trace (C := C) hal h
  subst h0
  refine wp_region_any hm ?_
  obtain ⟨hdr, hxt⟩ : Holds C.base C.w0 E { w with drawn := w.drawn + 1 } (s 0).H (s 0).O ∧ Ext E w E { w with drawn := w.drawn + 1 } :=
    hsat.holds.later (w' := w.drew) (S' := E.S) ((Below.refl _ _).drew) (fun g o h => h) (fun g o h => .inl h) (fun g o h => hsat.holds.imm g o h)
  have hKs : Kf (s ops.size) := by simpa using hK
  refine any_order hok (s := s) (ρ := ρ) (fun k o hk => ?_) (fun p hp => ?_) (fun E a w hs => hq E a w _ hKs hs) ops.size (Array.replicate ops.size false) 0 0 E a _ (by simp) ?_ (fun j o hj hl => ?_) (fun i hi => by omega) (Nat.zero_le _) (.inl rfl) (fun i _ hi _ => .inl (by unfold lst; exact getD_replicate_false' _ _)) ?_
  · have hk' : ops.toList[k]? = some o := by simpa using hk
    have hlen := (mapO_spec hal).1
    have hkl : k < al.length := by rw [hlen]; exact (List.getElem?_eq_some_iff.1 hk').1
    have := (hstep k o al[k] hk' (List.getElem?_eq_getElem hkl)).1
    simpa [softAt, List.getElem?_eq_getElem hkl] using this
  · exact late_pair hal hstep hp
  · have := List.countP_le_length (p := fun i => !lst (Array.replicate ops.size false) i) (l := List.range ops.size)
    simpa using this
  · rw [getD_replicate_false'] at hl; cases hl
  · have h := SatV.of hsat
    refine ⟨hdr, h.S, h.ι, h.news, h.defers, h.size, fun t => ?_⟩
    rw [valD_above (m := 0) ops.size (by omega) (fun i _ _ _ _ => by unfold lst; exact getD_replicate_false' _ _)]
    exact (h.val t).mono hxt
end
end Ab
