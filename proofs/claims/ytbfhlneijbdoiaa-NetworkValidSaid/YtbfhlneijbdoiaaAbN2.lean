/- Regions that draw their order: one order serves all. No program. -/
import Derived.Test.YtbfhlneijbdoiaaAbN
namespace Ab
open Go Go.RowKit

section
variable {P : Program} {C : Ctx} {ops : Array Oper}

/-- A frame's slots by number. -/
structure SatV (C : Ctx) (E : Env) (a : Act) (w : World) (val : Nat → AV) (n : Nat) (H : List (List AV)) (O : List OwnD) : Prop where
  holds : Holds C.base C.w0 E w H O
  S : ∀ g o, C.E0.S g o → E.S g o ∧ w.cell? ⟨g, o, none⟩ = C.wE.cell? ⟨g, o, none⟩
  ι : ∀ (i g : Nat), C.E0.ι[i]? = some g → E.ι[i]? = some g
  news : ∀ g o, E.S g o → C.E0.S g o ∨ C.base ≤ g
  defers : a.defers = []
  size : a.tmps.size = n
  val : ∀ t, RepV E w (val t) (a.tmps.getD t Go.undef)

theorem SatV.of {E : Env} {a : Act} {w : World} {st : St} (h : Sat C E a w st) : SatV C E a w (fun t => st.fr.getD t .undef) st.fr.length st.H st.O :=
  ⟨h.holds, h.S, h.ι, h.news, h.defers, h.fr.1, fun t => h.fr.get t⟩

theorem SatV.to {E : Env} {a : Act} {w : World} {st : St} {val : Nat → AV} {n : Nat} {H : List (List AV)} {O : List OwnD} (h : SatV C E a w val n H O) (hn : st.fr.length = n) (hv : ∀ t, val t = st.fr.getD t .undef) (hH : st.H = H) (hO : st.O = O) : Sat C E a w st := by
  subst hH; subst hO
  refine ⟨h.holds, h.S, h.ι, h.news, h.defers, h.size.trans hn.symm, fun t x u hx hu => ?_⟩
  have := h.val t
  rw [hv t] at this
  have e1 : st.fr.getD t .undef = x := by rw [List.getD_eq_getElem?_getD, hx]; rfl
  have e2 : a.tmps.getD t Go.undef = u := by simp [hu]
  rw [e1, e2] at this
  exact this

theorem put_getD (st : St) (d : Option Nat) (r : AV) (t : Nat) : (st.put d r).fr.getD t .undef = if d = some t ∧ t < st.fr.length then r else st.fr.getD t .undef := by
  cases d with
  | none => simp [St.put]
  | some d =>
    simp only [St.put, List.getD_eq_getElem?_getD, List.getElem?_set]
    by_cases hd : d = t
    · subst hd
      by_cases hl : d < st.fr.length
      · simp [hl]
      · simp [hl]
    · simp [hd]
theorem put_H (st : St) (d : Option Nat) (r : AV) : (st.put d r).H = st.H := by cases d <;> rfl
theorem put_O (st : St) (d : Option Nat) (r : AV) : (st.put d r).O = st.O := by cases d <;> rfl
theorem put_len (st : St) (d : Option Nat) (r : AV) : (st.put d r).fr.length = st.fr.length := by cases d <;> simp [St.put]

theorem act_getD (a : Act) (d : Option Nat) (v : Value) (t : Nat) : (a.put d v).tmps.getD t Go.undef = if d = some t ∧ t < a.tmps.size then v else a.tmps.getD t Go.undef := by
  cases d with
  | none => simp [Act.put]
  | some d =>
    simp only [Act.put, Array.getD_eq_getD_getElem?, Array.getElem?_setIfInBounds]
    by_cases hd : d = t
    · subst hd
      by_cases hl : d < a.tmps.size
      · simp [hl]
      · simp [hl]
    · simp [hd]

/-- What the slot t holds when the operations D from b on (below k) have come up. -/
def valD (dst : Nat → Option Nat) (ρ : Nat → AV) (base : Nat → AV) (N : Nat) (D : Nat → Bool) (b : Nat) (t : Nat) : Nat → AV
  | 0 => base t
  | k + 1 => if b ≤ k ∧ D k = true ∧ dst k = some t ∧ t < N then ρ k else valD dst ρ base N D b t k

variable {dst : Nat → Option Nat} {ρ : Nat → AV} {bs : Nat → AV} {N : Nat}

theorem valD_congr {D D' : Nat → Bool} {b t : Nat} : ∀ k, (∀ i, i < k → b ≤ i → dst i = some t → D i = D' i) → valD dst ρ bs N D b t k = valD dst ρ bs N D' b t k
  | 0, _ => rfl
  | k + 1, h => by
    simp only [valD]
    have ih := valD_congr (D := D) (D' := D') (b := b) (t := t) k fun i hi hb hd => h i (by omega) hb hd
    rw [ih]
    by_cases hk : b ≤ k ∧ dst k = some t
    · rw [h k (by omega) hk.1 hk.2]
    · rw [if_neg (fun hc => hk ⟨hc.1, hc.2.2.1⟩), if_neg (fun hc => hk ⟨hc.1, hc.2.2.1⟩)]

/-- No writer from m on. -/
theorem valD_above {D : Nat → Bool} {b t m : Nat} : ∀ k, m ≤ k → (∀ i, m ≤ i → i < k → b ≤ i → dst i = some t → D i = false) → valD dst ρ bs N D b t k = valD dst ρ bs N D b t m
  | 0, hk, _ => by have : m = 0 := by omega
                   subst this; rfl
  | k + 1, hk, h => by
    by_cases hm : m = k + 1
    · subst hm; rfl
    · simp only [valD]
      rw [if_neg (fun hc => by have := h k (by omega) (by omega) hc.1 hc.2.2.1; rw [hc.2.1] at this; cases this)]
      exact valD_above k (by omega) fun i h1 h2 => h i h1 (by omega)

/-- All of those below j have come up: as in the order of the text. -/
theorem valD_lex {s : Nat → St} {o : Nat → Option Nat} {b : Nat} (hb : bs = fun t => (s b).fr.getD t .undef) (hN : (s b).fr.length = N) (t : Nat) : ∀ j, b ≤ j → (∀ k, b ≤ k → k < j → s (k + 1) = (s k).put (dst k) (ρ k)) →
    (s j).fr.length = N ∧ (s j).H = (s b).H ∧ (s j).O = (s b).O ∧ valD dst ρ bs N (fun _ => true) b t j = (s j).fr.getD t .undef
  | 0, h, _ => by
    have : b = 0 := by omega
    subst this
    exact ⟨hN, rfl, rfl, by simp [valD, hb]⟩
  | j + 1, h, hs => by
    by_cases hj : b = j + 1
    · subst hj
      refine ⟨hN, rfl, rfl, ?_⟩
      rw [valD_above (m := 0) (j + 1) (by omega) (fun i _ h1 h2 => by omega)]
      simp [valD, hb]
    · obtain ⟨h1, h2, h3, h4⟩ := valD_lex (o := o) hb hN t j (by omega) fun k hk hk' => hs k hk (by omega)
      have e := hs j (by omega) (by omega)
      refine ⟨by rw [e, put_len]; exact h1, by rw [e, put_H]; exact h2, by rw [e, put_O]; exact h3, ?_⟩
      rw [e, put_getD, h1]
      simp only [valD, h4]
      by_cases hc : dst j = some t ∧ t < N
      · rw [if_pos ⟨by omega, trivial, hc.1, hc.2⟩, if_pos hc]
      · rw [if_neg (fun h => hc ⟨h.2.2.1, h.2.2.2⟩), if_neg hc]

def lst (listed : Array Bool) (i : Nat) : Bool := listed.getD i false

theorem lst_set {listed : Array Bool} {j : Nat} (hj : j < listed.size) (i : Nat) : lst (listed.setIfInBounds j true) i = (decide (i = j) || lst listed i) := by
  unfold lst
  by_cases h : i = j
  · subst h; simp [hj]
  · rw [getD_set_ne false (Ne.symm h)]; simp [h]

theorem apart_not_mem {x y : Oper} (h : x.apart ops y = true) {t : Nat} (hx : x.dst = some t) : t ∉ y.looksAt ops ∧ y.dst ≠ some t := by
  obtain ⟨h1, h2, _⟩ := Oper.apart_spec h
  exact ⟨h1 t hx, h2 t hx⟩
theorem apart_not_mem' {x y : Oper} (h : x.apart ops y = true) {t : Nat} (hy : y.dst = some t) : t ∉ x.looksAt ops := (Oper.apart_spec h).2.2 t hy

theorem getD_replicate_false' (m j : Nat) : (Array.replicate m false).getD j false = false := by
  rcases Nat.lt_or_ge j m with h | h
  · simp [h]
  · simp [h]

/-- Every order. -/
theorem any_order {soft : Nat → Bool} (hok : drawOk ops soft = true) {s : Nat → St} {ρ : Nat → AV} (hstep : ∀ (k : Nat) (o : Oper), ops[k]? = some o → StepA P C ops o (soft k) (s k) (ρ k) (s (k + 1)))
    {Q : Exit → Act → World → Prop} (hQ : ∀ E a w, Sat C E a w (s ops.size) → Q .normal a w) :
    ∀ (fuel : Nat) (listed : Array Bool) (b : Nat) (E : Env) (a : Act) (w : World), listed.size = ops.size → (List.range ops.size).countP (fun i => !lst listed i) ≤ fuel → Closed ops listed → (∀ i, i < b → lst listed i = true) → b ≤ ops.size →
      (∀ i, b ≤ i → i < ops.size → soft i = false → lst listed i = false) →
      SatV C E a w (fun t => valD (fun i => (ops[i]?).bind (·.dst)) ρ (fun t => (s b).fr.getD t .undef) (s b).fr.length (lst listed) b t ops.size) (s b).fr.length (s b).H (s b).O → wpAny P .any ops Q fuel listed a w := by
  obtain ⟨hback, hclash⟩ := drawOk_spec hok
  let dst : Nat → Option Nat := fun i => (ops[i]?).bind (·.dst)
  have hdst : ∀ {i o}, ops[i]? = some o → dst i = o.dst := fun h => by simp [dst, h]
  -- steps of quiet operations
  have hput : ∀ k o, ops[k]? = some o → (soft k = true ∨ wantA ops (s k).fr o = some false) → s (k + 1) = (s k).put (dst k) (ρ k) := by
    intro k o ho hsoft
    rw [hdst ho]
    rcases hstep k o ho with ⟨_, hr, hs⟩ | ⟨_, _, _, hs⟩ | ⟨hw, hf, _⟩
    · rw [hr]; exact hs
    · exact hs
    · rcases hsoft with h | h
      · rw [hf] at h; cases h
      · rw [hw] at h; cases h
  intro fuel
  have fin : ∀ (listed : Array Bool) (b : Nat) (E : Env) (a : Act) (w : World), (∀ i, i < ops.size → lst listed i = true) → b ≤ ops.size → (∀ i, b ≤ i → i < ops.size → soft i = false → lst listed i = false) →
      SatV C E a w (fun t => valD dst ρ (fun t => (s b).fr.getD t .undef) (s b).fr.length (lst listed) b t ops.size) (s b).fr.length (s b).H (s b).O → Q .normal a w := by
    intro listed b E a w hall hb heff hsat
    have hsf : ∀ k, b ≤ k → k < ops.size → s (k + 1) = (s k).put (dst k) (ρ k) := by
      intro k hk hk'
      refine hput k ops[k] (Array.getElem?_eq_getElem hk') (.inl ?_)
      cases hs : soft k with
      | true => rfl
      | false => have := heff k hk hk' hs; rw [hall k hk'] at this; cases this
    refine hQ E a w (hsat.to (st := s ops.size) ?_ (fun t => ?_) ?_ ?_)
    · exact (valD_lex (o := dst) rfl rfl 0 ops.size hb hsf).1
    · rw [← (valD_lex (o := dst) rfl rfl t ops.size hb hsf).2.2.2]
      exact valD_congr ops.size fun i hi _ _ => hall i hi
    · exact (valD_lex (o := dst) rfl rfl 0 ops.size hb hsf).2.1
    · exact (valD_lex (o := dst) rfl rfl 0 ops.size hb hsf).2.2.1
  have done : ∀ (listed : Array Bool), listed.size = ops.size → Region.ready .any ops listed = [] → ∀ i, i < ops.size → lst listed i = true := by
    intro listed hsz hr i
    induction i using Nat.strongRecOn with
    | _ i ih =>
      intro hi
      cases hl : lst listed i with
      | true => rfl
      | false =>
        have : i ∈ Region.ready .any ops listed := by
          refine mem_ready.2 ⟨?_, ops[i], Array.getElem?_eq_getElem hi, fun e he hb => ?_⟩
          · unfold lst at hl
            have : i < listed.size := by omega
            simp [this] at hl ⊢; exact hl
          · have := hback i _ (Array.getElem?_eq_getElem hi) e he hb
            exact ih e.on this (by omega)
        rw [hr] at this
        cases this
  induction fuel with
  | zero =>
    intro listed b E a w hsz hcnt hcl hlow hb heff hsat
    have hall : ∀ i, i < ops.size → lst listed i = true := by
      intro i hi
      have h0 : (List.range ops.size).countP (fun i => !lst listed i) = 0 := by omega
      rw [List.countP_eq_zero] at h0
      have := h0 i (List.mem_range.2 hi)
      simpa using this
    refine ⟨?_, fin listed b E a w hall hb heff hsat⟩
    apply List.eq_nil_iff_forall_not_mem.2
    intro i hi
    obtain ⟨h1, o, ho, _⟩ := mem_ready.1 hi
    have hil := (Array.getElem?_eq_some_iff.1 ho).1
    have h2 := hall i hil
    unfold lst at h2
    have hil' : i < listed.size := by omega
    simp [hil'] at h1 h2
    rw [h1] at h2; cases h2
  | succ fuel ih =>
    intro listed b E a w hsz hcnt hcl hlow hb heff hsat
    refine ⟨fun hr => fin listed b E a w (done listed hsz hr) hb heff hsat, fun j hj => ?_⟩
    obtain ⟨hun, o, ho, hall⟩ := mem_ready.1 hj
    have hjl : j < ops.size := (Array.getElem?_eq_some_iff.1 ho).1
    have hjl' : j < listed.size := by omega
    have hjun : lst listed j = false := by unfold lst; simp [hjl'] at hun ⊢; exact hun
    have hbj : b ≤ j := by
      rcases Nat.lt_or_ge j b with h | h
      · rw [hlow j h] at hjun; cases hjun
      · exact h
    -- what clashes with j and stands before it has come up; what clashes and stands behind has not
    have hbefore : ∀ i, i < j → clash ops soft i j = true → lst listed i = true := by
      intro i hij hc
      have hr := hclash i j hij hjl hc
      have key : ∀ {p q}, DepOn ops p q → p = j → lst listed q = true := by
        intro p q hr
        induction hr with
        | edge ho' he hb' hi =>
          intro hp; subst hp
          rw [ho] at ho'; injection ho' with ho'; subst ho'
          rw [← hi]; exact hall _ he hb'
        | trans h1 h2 ih1 ih2 => intro hp; exact hcl.reach h2 (ih1 hp)
      exact key hr rfl
    have hafter : ∀ i, j < i → i < ops.size → clash ops soft j i = true → lst listed i = false := by
      intro i hji hil hc
      cases hl : lst listed i with
      | false => rfl
      | true => have := hcl.reach (hclash j i hji hil hc) hl; unfold lst at hjun; rw [this] at hjun; cases hjun
    have hsoftb : ∀ k, b ≤ k → k < j → s (k + 1) = (s k).put (dst k) (ρ k) := by
      intro k hk hkj
      have hkl : k < ops.size := by omega
      refine hput k ops[k] (Array.getElem?_eq_getElem hkl) (.inl ?_)
      cases hs : soft k with
      | true => rfl
      | false =>
        have h1 := heff k hk hkl hs
        rw [hbefore k hkj (by simp [clash, ho, Array.getElem?_eq_getElem hkl, hs])] at h1
        cases h1
    have hlex := fun t => valD_lex (bs := fun t => (s b).fr.getD t .undef) (ρ := ρ) (dst := dst) (s := s) (o := dst) rfl rfl t j hbj hsoftb
    have hlenj : (s j).fr.length = (s b).fr.length := (hlex 0).1
    have hHj : (s j).H = (s b).H := (hlex 0).2.1
    have hOj : (s j).O = (s b).O := (hlex 0).2.2.1
    -- a slot whose writers all clash with j
    have hslot : ∀ t, (∀ i oi, ops[i]? = some oi → i ≠ j → oi.dst = some t → (i < j → clash ops soft i j = true) ∧ (j < i → clash ops soft j i = true)) →
        valD dst ρ (fun t => (s b).fr.getD t .undef) (s b).fr.length (lst listed) b t ops.size = (s j).fr.getD t .undef := by
      intro t ht
      rw [← (hlex t).2.2.2]
      rw [valD_above (m := j) ops.size (by omega) (fun i h1 h2 h3 h4 => ?_)]
      · refine valD_congr j fun i hi hbi hd => ?_
        have hil : i < ops.size := by omega
        rw [hdst (Array.getElem?_eq_getElem hil)] at hd
        exact hbefore i hi ((ht i _ (Array.getElem?_eq_getElem hil) (by omega) hd).1 hi)
      · rw [hdst (Array.getElem?_eq_getElem h2)] at h4
        by_cases hij : i = j
        · subst hij; exact hjun
        · exact hafter i (by omega) h2 ((ht i _ (Array.getElem?_eq_getElem h2) hij h4).2 (by omega))
    have hclashL : ∀ i oi t, ops[i]? = some oi → t ∈ o.looksAt ops ∨ o.dst = some t → oi.dst = some t → clash ops soft i j = true ∧ clash ops soft j i = true := by
      intro i oi t hoi ht hd
      have h1 : oi.apart ops o = false := by
        cases ha : oi.apart ops o with
        | false => rfl
        | true =>
          obtain ⟨h1, h2⟩ := apart_not_mem ha hd
          exact (ht.elim (fun h => absurd h h1) (fun h => absurd h h2))
      have h2 : o.apart ops oi = false := by
        cases ha : o.apart ops oi with
        | false => rfl
        | true =>
          rcases ht with ht | ht
          · exact absurd ht (apart_not_mem' ha hd)
          · exact absurd hd (apart_not_mem ha ht).2
      exact ⟨by simp [clash, hoi, ho, h1], by simp [clash, hoi, ho, h2]⟩
    have hlook : ∀ t, t ∈ o.looksAt ops → valD dst ρ (fun t => (s b).fr.getD t .undef) (s b).fr.length (lst listed) b t ops.size = (s j).fr.getD t .undef := fun t ht =>
      hslot t fun i oi hoi _ hd => ⟨fun _ => (hclashL i oi t hoi (.inl ht) hd).1, fun _ => (hclashL i oi t hoi (.inl ht) hd).2⟩
    have hreplook : ∀ t, t ∈ o.looksAt ops → RepV E w ((s j).fr.getD t .undef) (a.tmps.getD t Go.undef) := fun t ht => by rw [← hlook t ht]; exact hsat.val t
    -- the state behind
    have hlst := fun i => lst_set (listed := listed) hjl' i
    have hcnt' : (List.range ops.size).countP (fun i => !lst (listed.setIfInBounds j true) i) ≤ fuel := by
      have : (List.range ops.size).countP (fun i => !lst (listed.setIfInBounds j true) i) + 1 ≤ (List.range ops.size).countP (fun i => !lst listed i) := by
        have key : ∀ (l : List Nat), j ∈ l → l.Nodup → l.countP (fun i => !lst (listed.setIfInBounds j true) i) + 1 ≤ l.countP (fun i => !lst listed i) := by
          intro l
          induction l with
          | nil => intro h; cases h
          | cons x l ihl =>
            intro hm hnd
            rw [List.countP_cons, List.countP_cons]
            have hnd' := List.nodup_cons.1 hnd
            by_cases hx : x = j
            · subst hx
              have e1 : (!lst (listed.setIfInBounds x true) x) = false := by rw [hlst]; simp
              have e2 : (!lst listed x) = true := by rw [hjun]; rfl
              have e3 : l.countP (fun i => !lst (listed.setIfInBounds x true) i) = l.countP (fun i => !lst listed i) := by
                apply List.countP_congr
                intro i hi
                have : i ≠ x := fun h => hnd'.1 (h ▸ hi)
                rw [hlst]; simp [this]
              rw [e1, e2, e3]; simp
            · have hm' : j ∈ l := by rcases List.mem_cons.1 hm with h | h; exact absurd h.symm hx; exact h
              have := ihl hm' hnd'.2
              have e1 : lst (listed.setIfInBounds j true) x = lst listed x := by rw [hlst]; simp [hx]
              rw [e1]
              omega
        exact key _ (List.mem_range.2 hjl) List.nodup_range
      omega
    have hcl' : Closed ops (listed.setIfInBounds j true) := by
      intro p op hp hl e he hb'
      by_cases hpj : p = j
      · subst hpj
        rw [ho] at hp; injection hp with hp; subst hp
        exact getD_set_true (hall e he hb')
      · rw [getD_set_ne false (Ne.symm hpj)] at hl
        exact getD_set_true (hcl p op hp hl e he hb')
    have hsz' : (listed.setIfInBounds j true).size = ops.size := by simp [hsz]
    -- a quiet step: slot dst o gets a value that stands for ρ j
    have quiet : ∀ (E' : Env) (v : Value) (w' : World), Holds C.base C.w0 E' w' (s b).H (s b).O → Ext E w E' w' → (∀ g o, E'.S g o → E.S g o ∨ C.base ≤ g) → RepV E' w' (ρ j) v → soft j = true →
        wpAny P .any ops Q fuel (listed.setIfInBounds j true) (a.put o.dst v) w' := by
      intro E' v w' hh hx hn hv hsj
      refine ih _ b E' (a.put o.dst v) w' hsz' hcnt' hcl' (fun i hi => by rw [hlst]; simp [hlow i hi]) hb (fun i hi hi' hs => ?_) ⟨hh, fun g o h => ⟨hx.S g o (hsat.S g o h).1, (hx.cell g o (hsat.S g o h).1).trans (hsat.S g o h).2⟩, fun i g h => hx.ι i g (hsat.ι i g h), fun g o h => (hn g o h).elim (hsat.news g o) .inr, by rw [put_defers]; exact hsat.defers, by rw [put_size]; exact hsat.size, fun t => ?_⟩
      · rw [hlst, heff i hi hi' hs]
        have : i ≠ j := fun h => by subst h; rw [hsj] at hs; cases hs
        simp [this]
      · show RepV E' w' (valD dst ρ _ _ (lst (listed.setIfInBounds j true)) b t ops.size) _
        rw [act_getD, hsat.size]
        by_cases hd : o.dst = some t
        · by_cases htN : t < (s b).fr.length
          · rw [if_pos ⟨hd, htN⟩]
            rw [valD_above (m := j + 1) ops.size (by omega) (fun i h1 h2 h3 h4 => ?_)]
            · simp only [valD]
              rw [if_pos ⟨hbj, by rw [hlst]; simp, by rw [hdst ho]; exact hd, htN⟩]
              exact hv
            · rw [hdst (Array.getElem?_eq_getElem h2)] at h4
              rw [hlst, hafter i (by omega) h2 (hclashL i _ t (Array.getElem?_eq_getElem h2) (.inr hd) h4).2]
              have : i ≠ j := by omega
              simp [this]
          · rw [if_neg (fun h => htN h.2)]
            have e1 : ∀ (D : Nat → Bool) k, valD dst ρ (fun t => (s b).fr.getD t .undef) (s b).fr.length D b t k = (s b).fr.getD t .undef := by
              intro D k
              induction k with
              | zero => rfl
              | succ k ihk => simp only [valD]; rw [if_neg (fun h => htN h.2.2.2)]; exact ihk
            rw [e1]
            have := hsat.val t
            rw [e1] at this
            exact this.mono hx
        · rw [if_neg (fun h => hd h.1)]
          rw [valD_congr (D := lst (listed.setIfInBounds j true)) (D' := lst listed) ops.size (fun i hi hbi hdi => ?_)]
          · exact (hsat.val t).mono hx
          · rw [hlst]
            by_cases hij : i = j
            · subst hij; rw [hdst ho] at hdi; exact absurd hdi hd
            · simp [hij]
    unfold wpOp
    simp only [ho]
    rcases hstep j o ho with ⟨hw, hr, hs⟩ | ⟨hw, hsj, hg, hs⟩ | ⟨hw, hsj, st1, hop, hs⟩
    · -- passed by
      have hwant := want_ok (ops := ops) (a := a) hw hreplook
      rw [hwant]
      simp only [Bool.false_eq_true, if_false]
      cases hsj : soft j with
      | true => exact quiet E _ w hsat.holds (Ext.refl _ _) (fun g o h => .inl h) (by rw [hr]; exact .undef) hsj
      | false =>
        have hallj : ∀ i, i < ops.size → i ≠ j → lst listed i = decide (i < j) := by
          intro i hi hij
          rcases Nat.lt_or_ge i j with h | h
          · rw [hbefore i h (by simp [clash, ho, Array.getElem?_eq_getElem hi, hsj])]; simp [h]
          · rw [hafter i (by omega) hi (by simp [clash, ho, Array.getElem?_eq_getElem hi, hsj])]; simp; omega
        have hst : s (j + 1) = (s j).put (dst j) (ρ j) := hput j o ho (.inr hw)
        have hval : ∀ t, valD dst ρ (fun t => (s b).fr.getD t .undef) (s b).fr.length (lst listed) b t ops.size = (s j).fr.getD t .undef := fun t =>
          hslot t fun i oi hoi hij _ => ⟨fun h => by simp [clash, ho, hoi, hsj], fun h => by simp [clash, ho, hoi, hsj]⟩
        have hsatj : Sat C E a w (s j) := hsat.to hlenj hval hHj hOj
        have hsat' : Sat C E (a.put o.dst Go.undef) w (s (j + 1)) := by rw [hst, hdst ho, hr]; exact hsatj.put .undef _
        refine ih _ (j + 1) E _ w hsz' hcnt' hcl' (fun i hi => ?_) (by omega) (fun i hi hi' _ => ?_) ?_
        · rw [hlst]
          by_cases hij : i = j
          · simp [hij]
          · rw [hallj i (by omega) hij]; simp; omega
        · rw [hlst, hallj i hi' (by omega)]; simp; omega
        · have h := SatV.of hsat'
          refine ⟨h.holds, h.S, h.ι, h.news, h.defers, h.size, fun t => ?_⟩
          show RepV E w (valD dst ρ _ _ _ (j + 1) t ops.size) _
          rw [valD_above (m := 0) ops.size (by omega) (fun i _ hi hji _ => by rw [hlst, hallj i hi (by omega)]; simp; omega)]
          exact h.val t
    · -- a quiet operation
      have hwant := want_ok (ops := ops) (a := a) hw hreplook
      rw [hwant]
      simp only [if_true]
      refine .inl ?_
      rw [hHj, hOj] at hg
      refine hg C.base C.w0 E a w hsat.holds (fun x y hx hy => ?_) _ _ fun v E' w' hh hx hn hv => quiet E' v w' hh hx hn hv hsj
      cases x with
      | tmp t =>
        simp [cX] at hy; subst hy
        exact hreplook t (List.mem_append_left _ (List.mem_filterMap.2 ⟨.tmp t, by simpa using hx, rfl⟩))
      | const v =>
        simp [cX] at hy
        obtain ⟨u, hu, rfl⟩ := hy
        exact cVal_rep hu
      | global g => simp [cX] at hy
      | func f =>
        simp [cX] at hy; subst hy
        exact .clo (by simp) (fun j x u hj => by simp at hj)
    · -- an operation that writes
      have hwant := want_ok (ops := ops) (a := a) hw hreplook
      rw [hwant]
      simp only [if_true]
      refine .inl ?_
      have hallj : ∀ i, i < ops.size → i ≠ j → lst listed i = decide (i < j) := by
        intro i hi hij
        rcases Nat.lt_or_ge i j with h | h
        · rw [hbefore i h (by simp [clash, ho, Array.getElem?_eq_getElem hi, hsj])]; simp [h]
        · rw [hafter i (by omega) hi (by simp [clash, ho, Array.getElem?_eq_getElem hi, hsj])]; simp; omega
      have hval : ∀ t, valD dst ρ (fun t => (s b).fr.getD t .undef) (s b).fr.length (lst listed) b t ops.size = (s j).fr.getD t .undef := fun t =>
        hslot t fun i oi hoi hij _ => ⟨fun h => by simp [clash, ho, hoi, hsj], fun h => by simp [clash, ho, hoi, hsj]⟩
      have hsatj : Sat C E a w (s j) := hsat.to hlenj hval hHj hOj
      refine hop E a w hsatj _ _ fun E' w' u v st' hk hs' => ?_
      obtain ⟨rfl, rfl⟩ := hk
      rw [← hs] at hs'
      refine ih _ (j + 1) E' _ w' hsz' hcnt' hcl' (fun i hi => ?_) (by omega) (fun i hi hi' _ => ?_) ?_
      · rw [hlst]
        by_cases hij : i = j
        · simp [hij]
        · rw [hallj i (by omega) hij]; simp; omega
      · rw [hlst, hallj i hi' (by omega)]; simp; omega
      · have h := SatV.of hs'
        refine ⟨h.holds, h.S, h.ι, h.news, h.defers, h.size, fun t => ?_⟩
        show RepV E' w' (valD dst ρ _ _ _ (j + 1) t ops.size) _
        rw [valD_above (m := 0) ops.size (by omega) (fun i _ hi hji _ => by rw [hlst, hallj i hi (by omega)]; simp; omega)]
        exact h.val t

theorem region_draw {cp : CP} {id : Nat} {al : List AOp} (hal : mapO (cOper P cp ops.toList) ops.toList = some al) (hok : drawOk ops (softAt al) = true) (hm : P.follows .mixedOrders = true) {Kf : St → Prop} {st : St} (h : aops P Kf al st)
    {E : Env} {a : Act} {w : World} (hsat : Sat C E a w st) {Q : Exit → Act → World → Prop} (hq : ∀ E' a' w' st', Kf st' → Sat C E' a' w' st' → Q .normal a' w') : (Code.region id ops true).wp P Q a w := by
  obtain ⟨s, ρ, h0, hK, hstep⟩ := ops_trace (C := C) hal h
  subst h0
  refine wp_region_any hm ?_
  obtain ⟨hdr, hxt⟩ : Holds C.base C.w0 E { w with drawn := w.drawn + 1 } (s 0).H (s 0).O ∧ Ext E w E { w with drawn := w.drawn + 1 } :=
    hsat.holds.later (w' := w.drew) (S' := E.S) ((Below.refl _ _).drew) (fun g o h => h) (fun g o h => .inl h) (fun g o h => hsat.holds.imm g o h)
  have hKs : Kf (s ops.size) := by simpa using hK
  refine any_order hok (s := s) (ρ := ρ) (fun k o hk => ?_) (fun E a w hs => hq E a w _ hKs hs) ops.size (Array.replicate ops.size false) 0 E a _ (by simp) ?_ (fun j o hj hl => ?_) (fun i hi => by omega) (Nat.zero_le _) (fun i _ hi _ => by unfold lst; exact getD_replicate_false' _ _) ?_
  · have hk' : ops.toList[k]? = some o := by simpa using hk
    have hlen := (mapO_spec hal).1
    have hkl : k < al.length := by rw [hlen]; exact (List.getElem?_eq_some_iff.1 hk').1
    have := hstep k o al[k] hk' (List.getElem?_eq_getElem hkl)
    simpa [softAt, List.getElem?_eq_getElem hkl] using this
  · have := List.countP_le_length (p := fun i => !lst (Array.replicate ops.size false) i) (l := List.range ops.size)
    simpa using this
  · rw [getD_replicate_false'] at hl; cases hl
  · have h := SatV.of hsat
    refine ⟨hdr, h.S, h.ι, h.news, h.defers, h.size, fun t => ?_⟩
    rw [valD_above (m := 0) ops.size (by omega) (fun i _ _ _ _ => by unfold lst; exact getD_replicate_false' _ _)]
    exact (h.val t).mono hxt
end
end Ab
