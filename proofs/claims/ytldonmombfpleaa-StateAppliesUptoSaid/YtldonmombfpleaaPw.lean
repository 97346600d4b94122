/- Chapter 06: the reference's Apply, Union and Diff; the law StateApplies, walked. -/
import Derived.Test.YtldonmombfpleaaPg
namespace Go.Proofs.Ytldonmombfpleaa
open Go Ab
attribute [local irreducible] awp aops aop asoft aeff aloop acall acallI acallT
attribute [local go_sem] Vl.row Rg.row Pr.row

/-! A pair more, in its place -/
def ins (p : Pr) : List Pr → List Pr
  | [] => [p]
  | x :: xs => if Op.bytesLess x.key.toList p.key.toList = true then x :: ins p xs else p :: x :: xs
theorem ins_len (p : Pr) : ∀ l : List Pr, (ins p l).length = l.length + 1
  | [] => rfl
  | x :: xs => by
    simp only [ins]
    split
    · simp [ins_len p xs]
    · simp
theorem ins_lb (p : Pr) (k : ByteArray) (hk : bl k p.key) : ∀ {l : List Pr}, lb k l → lb k (ins p l)
  | [], _ => fun q hq => by
    simp only [ins, List.mem_singleton] at hq; subst hq; exact hk
  | x :: xs, h => by
    simp only [ins]
    split
    · intro q hq
      rcases List.mem_cons.1 hq with rfl | hq
      · exact h _ (by simp)
      · exact ins_lb p k hk (l := xs) (fun r hr => h r (by simp [hr])) q hq
    · intro q hq
      rcases List.mem_cons.1 hq with rfl | hq
      · exact hk
      · exact h q hq
theorem ins_spec (p : Pr) : ∀ {l : List Pr}, Srt l → fnd l p.key = none → Srt (ins p l) ∧ ∀ k, fnd (ins p l) k = if p.key = k then some p else fnd l k
  | [], _, _ => by
    refine ⟨?_, fun k => by simp [ins, fnd]⟩
    simp only [ins]; rw [srt_cons]
    refine ⟨?_, ?_⟩
    · intro q hq; cases hq
    · exact List.Pairwise.nil
  | x :: xs, hs, hf => by
    rw [srt_cons] at hs
    simp only [fnd] at hf
    have hne : ¬ x.key = p.key := by
      intro e; rw [if_pos e] at hf; cases hf
    rw [if_neg hne] at hf
    obtain ⟨i1, i2⟩ := ins_spec p hs.2 hf
    simp only [ins]
    split
    · rename_i h
      refine ⟨?_, fun k => ?_⟩
      · rw [srt_cons]; exact ⟨ins_lb p x.key h hs.1, i1⟩
      · simp only [fnd]
        rw [i2]
        by_cases h1 : x.key = k
        · rw [if_pos h1, if_pos h1, if_neg (fun e => hne (h1.trans e.symm))]
        · rw [if_neg h1, if_neg h1]
    · rename_i h
      have hb : bl p.key x.key := by
        apply Classical.byContradiction
        intro hc
        exact hne (bl_tot h hc)
      refine ⟨?_, fun k => by simp only [fnd]⟩
      rw [srt_cons]
      refine ⟨?_, ?_⟩
      · intro q hq
        rcases List.mem_cons.1 hq with rfl | hq
        · exact hb
        · exact hb.tr (hs.1 q hq)
      · rw [srt_cons]; exact hs
/-- All pairs of a list that are wanted, put in. -/
def insF (c : Pr → Bool) (w o : List Pr) (k : Nat) : List Pr := (w.take k).foldl (fun o y => if c y then ins y o else o) o
theorem insF_zero (c : Pr → Bool) (w o : List Pr) : insF c w o 0 = o := by simp [insF]
theorem insF_step (c : Pr → Bool) (w o : List Pr) (k : Nat) (h : k < w.length) : insF c w o (k + 1) = if c w[k] = true then ins w[k] (insF c w o k) else insF c w o k := by
  unfold insF
  rw [List.take_succ_eq_append_getElem h, List.foldl_append]; rfl
theorem insF_len (c : Pr → Bool) (w o : List Pr) : ∀ k, k ≤ w.length → (insF c w o k).length ≤ o.length + k
  | 0, _ => by rw [insF_zero]; omega
  | k + 1, h => by
    have ih := insF_len c w o k (by omega)
    rw [insF_step c w o k (by omega)]
    split
    · rw [ins_len]; omega
    · omega
theorem fold_spec (c : Pr → Bool) : ∀ (w o : List Pr), Srt w → Srt o → (∀ y ∈ w, c y = true → fnd o y.key = none) →
    Srt (w.foldl (fun o y => if c y then ins y o else o) o) ∧ ∀ k, fnd (w.foldl (fun o y => if c y then ins y o else o) o) k = match fnd w k with | none => fnd o k | some y => if c y = true then some y else fnd o k
  | [], o, _, ho, _ => ⟨ho, fun k => rfl⟩
  | y :: ys, o, hw, ho, hn => by
    rw [srt_cons] at hw
    simp only [List.foldl_cons]
    by_cases hc : c y = true
    · rw [if_pos hc]
      obtain ⟨s1, s2⟩ := ins_spec y ho (hn y (by simp) hc)
      have hy : ∀ z ∈ ys, ¬ y.key = z.key := fun z hz e => (e ▸ hw.1 z hz).irr
      obtain ⟨f1, f2⟩ := fold_spec c ys (ins y o) hw.2 s1 (fun z hz hcz => by
        rw [s2, if_neg (hy z hz)]; exact hn z (by simp [hz]) hcz)
      refine ⟨f1, fun k => ?_⟩
      rw [f2, s2]
      simp only [fnd]
      by_cases hk : y.key = k
      · subst hk
        rw [fnd_lb hw.1]
        simp [hc]
      · rw [if_neg hk, if_neg hk]
    · rw [if_neg hc]
      obtain ⟨f1, f2⟩ := fold_spec c ys o hw.2 ho (fun z hz hcz => hn z (by simp [hz]) hcz)
      refine ⟨f1, fun k => ?_⟩
      rw [f2]
      simp only [fnd]
      by_cases hk : y.key = k
      · subst hk
        rw [fnd_lb hw.1]
        simp [hc]
      · rw [if_neg hk]
theorem insF_spec (c : Pr → Bool) (w o : List Pr) (hw : Srt w) (ho : Srt o) (hn : ∀ y ∈ w, c y = true → fnd o y.key = none) :
    Srt (insF c w o w.length) ∧ ∀ k, fnd (insF c w o w.length) k = match fnd w k with | none => fnd o k | some y => if c y = true then some y else fnd o k := by
  unfold insF
  rw [List.take_length]
  exact fold_spec c w o hw ho hn

def flA (f : Pr → Bool) (g : Pr → Pr) (l : List Pr) (k : Nat) : List (List Atom) := (((l.take k).filter f).map g).map Pr.row
theorem flA_zero (f : Pr → Bool) (g : Pr → Pr) (l : List Pr) : flA f g l 0 = [] := by simp [flA]
theorem flA_len (f : Pr → Bool) (g : Pr → Pr) (l : List Pr) (k : Nat) : (flA f g l k).length ≤ k := by
  have h1 := List.length_filter_le f (l.take k)
  have h2 := List.length_take_le k l
  simp only [flA, List.length_map]; omega
theorem flA_yes (f : Pr → Bool) (g : Pr → Pr) (l : List Pr) (k : Nat) (h : k < l.length) (h2 : f l[k] = true) : flA f g l (k + 1) = flA f g l k ++ [(g l[k]).row] := by
  unfold flA
  rw [List.take_succ_eq_append_getElem h, List.filter_append, List.map_append, List.map_append]
  simp [h2]
theorem flA_no (f : Pr → Bool) (g : Pr → Pr) (l : List Pr) (k : Nat) (h : k < l.length) (h2 : f l[k] = false) : flA f g l (k + 1) = flA f g l k := by
  unfold flA
  rw [List.take_succ_eq_append_getElem h, List.filter_append, List.map_append, List.map_append]
  simp [h2]
theorem flA_end (f : Pr → Bool) (g : Pr → Pr) (l : List Pr) : flA f g l l.length = ((l.filter f).map g).map Pr.row := by unfold flA; rw [List.take_length]

/-! What the reference makes -/
def keepR (w : List Pr) : Pr → Bool := fun p => !(fnd w p.key).isSome
def applyR' (a w : List Pr) : List Pr := insF (fun y => y.v.kind != 0) w ((a.filter (keepR w)).map id) w.length
def diffR' (a b : List Pr) : List Pr := insF (fun y => !vlEq (getP a y.key) y.v) b ((a.filter (keepR b)).map nilP) b.length
theorem fnd_keep (w : List Pr) (k : ByteArray) (l : List Pr) : fnd (l.filter (keepR w)) k = if (fnd w k).isSome = true then none else fnd l k := by
  have := fnd_filter (fun q => !(fnd w q).isSome) k l
  unfold keepR
  rw [this]
  cases (fnd w k).isSome <;> simp
theorem apply_ref {a w : List Pr} (ha : Srt a) (hw : Srt w) : applyR' a w = apL a w := by
  have h1 := insF_spec (fun y => y.v.kind != 0) w ((a.filter (keepR w)).map id) hw (by rw [List.map_id]; exact srt_filter ha _) (fun y hy _ => by
    rw [List.map_id, fnd_keep, mem_fnd hw hy]; rfl)
  have h2 := ap_spec ha hw
  refine srt_ext _ _ h1.1 h2.1 fun k => ?_
  unfold applyR'
  rw [h1.2, h2.2, List.map_id, fnd_keep]
  cases hA : fnd a k <;> cases hW : fnd w k <;> simp [pick, wr]
  all_goals (split <;> simp_all)
theorem fnd_map_nil (k : ByteArray) : ∀ l : List Pr, fnd (l.map nilP) k = (fnd l k).map nilP
  | [] => rfl
  | x :: xs => by
    simp only [List.map_cons, fnd]
    rw [show (nilP x).key = x.key from rfl]
    split
    · rfl
    · exact fnd_map_nil k xs
theorem srt_map_nil {l : List Pr} (h : Srt l) : Srt (l.map nilP) := by
  unfold Srt at *
  rw [List.pairwise_map]
  exact h
theorem diff_ref {a b : List Pr} (ha : stateV a = true) (hb : stateV b = true) : diffR' a b = dfL a b := by
  have ha' := (state_iff a).1 ha
  have hb' := (state_iff b).1 hb
  have h1 := insF_spec (fun y => !vlEq (getP a y.key) y.v) b ((a.filter (keepR b)).map nilP) hb'.1 (srt_map_nil (srt_filter ha'.1 _)) (fun y hy _ => by
    rw [fnd_map_nil, fnd_keep, mem_fnd hb'.1 hy]; rfl)
  have h2 := df_spec ha'.1 hb'.1
  refine srt_ext _ _ h1.1 h2.1 fun k => ?_
  unfold diffR'
  rw [h1.2, h2.2, fnd_map_nil, fnd_keep]
  cases hA : fnd a k with
  | none =>
    cases hB : fnd b k with
    | none => simp [pick]
    | some y =>
      have hy := fnd_mem hB
      have hg : getP a y.key = vl0 := by rw [getP_fnd, hy.2, hA]
      have hne : vlEq vl0 y.v = false := by
        cases hq : vlEq vl0 y.v with
        | false => rfl
        | true =>
          have := (hb'.2 y hy.1).2.2
          exfalso
          apply this
          unfold vlEq vl0 at hq
          simp only [Bool.and_eq_true, beq_iff_eq] at hq
          exact hq.1.1.symm
      simp [pick, hg, hne]
  | some x =>
    cases hB : fnd b k with
    | none => simp [pick]
    | some y =>
      have hy := fnd_mem hB
      have hx := fnd_mem hA
      have hg : getP a y.key = x.v := by rw [getP_fnd, hy.2, hA]
      simp only [pick, hg]
      cases vlEq x.v y.v <;> simp

set_option maxRecDepth 100000 in
set_option maxHeartbeats 1000000 in
theorem rwith_den (l : List Pr) (p : Pr) (hl : l.length ≤ 4194304) : PDen Try.prog 41 [.a (.slice 4 (l.map Pr.row)), .agg p.row] (.a (.slice 4 ((ins p l).map Pr.row))) := by
  refine den_of_body k_ref06_with ⟨rfl, Nat.le_of_ble_eq_true rfl, thaw_intro ?_⟩
  unfold c_ref06_with
  simp only [go_sem]
  refine t_loop_intro (fun k : Nat => k ≤ l.length ∧ (ins p l = l.take k ++ ins p (l.drop k))) (fun k => l.length - k) 0 [5, 7, 8, 9, 10, 11, 12, 13, 14, 15, 16, 17, 18, 19, 20, 21, 22] (fun k => [(5, .a (.int .i64 k))]) ⟨by omega, by simp⟩ (by simp) (fun k => by simp) rfl ?_
  intro k hk0 fr_ hfr
  have hk : k ≤ l.length := hk0.1
  have hall := hk0.2
  clear hk0
  simp only [go_sem] at hfr
  subst hfr
  by_cases hlt : k < l.length
  · have h3 : (k : Int) < (l.length : Int) := by omega
    have ew := wrap1 k l.length hlt (by omega)
    have e := getD_map Pr.row l k hlt
    have er : l[k].row = [.str l[k].key, .int .i64 l[k].v.kind, .int .i64 l[k].v.n, .str l[k].v.s] := rfl
    have ed := List.drop_eq_getElem_cons hlt
    have et := List.take_succ_eq_append_getElem hlt
    simp only [h3, e, er, go_sem]
    first | refine t_case_dec (fun h4 => ?_) (fun h4 => ?_) | refine t_case_ndec (fun h4 => ?_) (fun h4 => ?_) | refine t_case_eqI (fun h4 => ?_) (fun h4 => ?_) | refine t_case_neI (fun h4 => ?_) (fun h4 => ?_) | refine t_case_not (fun h4 => ?_) (fun h4 => ?_) | refine t_case_intro (fun h4 => ?_) (fun h4 => ?_)
    · simp only [ew, go_sem]
      refine t_round (k + 1) ⟨by omega, by rw [hall, ed, et]; simp only [ins]; rw [if_pos h4, List.append_assoc]; rfl⟩ (by omega) (by simp) rfl rfl (by simp) rfl
    · have hk2 : (k : Int) ≤ (l.length : Int) := by omega
      simp only [go_sem]
      refine t_gate_intro (by simp; omega) ?_
      simp only [go_sem]
      refine t_gate_intro (by simp; omega) ?_
      simp only [go_sem]
      refine t_gate_intro (by simp; omega) ?_
      simp only [go_sem]
      refine t_gate_intro (by simp; omega) ?_
      simp only [go_sem]
      refine t_gate_intro (by simp; omega) ?_
      simp only [aresult, ares, go_sem]
      rw [hall, ed]
      simp only [ins]
      rw [if_neg (by simp [h4]), ← ed, List.take_of_length_le (i := l.length) (by simp), List.map_append, List.map_cons, List.map_take, List.map_drop]
      simp [Pr.row, Vl.row]
  · have h3 : ¬ (k : Int) < (l.length : Int) := by omega
    have hke : k = l.length := by omega
    simp only [h3, go_sem]
    refine t_gate_intro (by simp; omega) ?_
    simp only [go_sem]
    refine t_gate_intro (by simp; omega) ?_
    simp only [go_sem]
    refine t_gate_intro (by simp; omega) ?_
    simp only [go_sem]
    refine t_gate_intro (by simp; omega) ?_
    simp only [go_sem]
    refine t_gate_intro (by simp; omega) ?_
    simp only [aresult, ares, go_sem]
    rw [hall, show l.drop k = [] from List.drop_eq_nil_of_le (by omega), List.take_of_length_le (i := l.length) (by simp), List.drop_eq_nil_of_le (by simp; omega), List.map_append, List.map_take]
    simp [ins, Pr.row, Vl.row]

set_option maxRecDepth 100000 in
set_option maxHeartbeats 4000000 in
theorem rapply_ok (a w : List Pr) (hlw : a.length + w.length ≤ 1048576) (fa : ∀ p ∈ a, p.fit) (fw : ∀ p ∈ w, p.fit) (h1 : stateV a = true) (h2 : writesGo none w = true) :
    PDen Try.prog 16 [.a (.slice 4 (a.map Pr.row)), .a (.slice 4 (w.map Pr.row))] (.tup [.a (.slice 4 ((applyR' a w).map Pr.row)), .a (.int .i64 0)]) := by
  have hV := rstateV_den a (by omega) fa
  rw [h1] at hV
  have hW := rwrites_den w (by omega) fw
  rw [h2] at hW
  refine den_of_body k_ref06_Apply ⟨rfl, Nat.le_of_ble_eq_true rfl, thaw_intro ?_⟩
  unfold c_ref06_Apply
  simp only [go_sem]
  refine t_call_intro (hV) ?_
  simp only [go_sem]
  refine t_call_intro (hW) ?_
  simp only [go_sem]
  refine t_loopO_intro [.slot 6 33 4] (fun k : Nat => k ≤ a.length) (fun k => a.length - k) 0 [6, 7, 17, 18, 19, 20, 21, 22, 23, 24, 25, 26, 27, 28, 29, 30, 31, 32, 33, 34, 35, 36, 37] (fun k => [(6, .own 0), (7, .a (.int .i64 k))]) (fun k => []) (fun k => [⟨33, 4, flA (keepR w) id a k, false⟩]) (by omega) (by simp) (by first | (simp; done) | simp [flA_zero]) (by first | (simp; done) | simp [flA_zero]) (by first | (simp; done) | simp [flA_zero]) (fun k => by first | (simp; done) | simp [flA_zero]) (fun k => by first | (simp; done) | simp [flA_zero]) (fun k => by first | (simp; done) | simp [flA_zero]) ?_
  intro k hk st_ hst
  simp only [go_sem] at hst
  subst hst
  by_cases hlt : k < a.length
  · have h3 : (k : Int) < (a.length : Int) := by omega
    have ew := wrap1 k a.length hlt (by omega)
    have e := getD_map Pr.row a k hlt
    have er : a[k].row = [.str a[k].key, .int .i64 a[k].v.kind, .int .i64 a[k].v.n, .str a[k].v.s] := rfl
    have hlen := flA_len (keepR w) id a k
    simp only [h3, e, er, go_sem]
    refine t_call_intro (rhas_den w (by omega) a[k].key) ?_
    simp only [go_sem]
    first | refine t_case_dec (fun h4 => ?_) (fun h4 => ?_) | refine t_case_ndec (fun h4 => ?_) (fun h4 => ?_) | refine t_case_eqI (fun h4 => ?_) (fun h4 => ?_) | refine t_case_neI (fun h4 => ?_) (fun h4 => ?_) | refine t_case_not (fun h4 => ?_) (fun h4 => ?_) | refine t_case_intro (fun h4 => ?_) (fun h4 => ?_)
    · have es := flA_no (keepR w) id a k hlt (by unfold keepR; rw [h4]; rfl)
      simp only [ew, go_sem]
      refine t_roundO (k + 1) (by omega) (by omega) (by first | (simp; done) | simp [es]) (by first | (simp; done) | simp [es]) (by first | (simp; done) | simp [es]) (by first | (simp; done) | simp [es]) (by first | (simp; done) | simp [es])
    · have es := flA_yes (keepR w) id a k hlt (by unfold keepR; rw [h4]; rfl)
      simp only [nilP, id, Pr.row, Vl.row] at es
      simp only [e, er, go_sem]
      refine t_gate_intro (by omega) ?_
      simp only [ew, e, er, go_sem]
      refine t_gate_intro (by omega) ?_
      simp only [ew, go_sem]
      refine t_roundO (k + 1) (by omega) (by omega) (by first | (simp; done) | simp [es]) (by first | (simp; done) | simp [es]) (by first | (simp; done) | simp [es]) (by first | (simp; done) | simp [es]) (by first | (simp; done) | simp [es])
  · have h3 : ¬ (k : Int) < (a.length : Int) := by omega
    have hke : k = a.length := by omega
    subst hke
    simp only [h3, flA_end, go_sem]
    have lo : ((a.filter (keepR w)).map id).length ≤ a.length := by rw [List.length_map]; exact List.length_filter_le _ _
    rw [show applyR' a w = insF (fun y => y.v.kind != 0) w ((a.filter (keepR w)).map id) w.length from rfl]
    generalize (a.filter (keepR w)).map id = o at lo ⊢
    refine t_loopO_intro (α := Nat × Bool) [] (fun x => x.1 ≤ w.length ∧ (x.2 = true → insF (fun y => y.v.kind != 0) w o x.1 = o)) (fun x => w.length - x.1) (0, true) [6, 8, 38, 39, 40, 41, 42, 43, 44, 45, 46, 47, 48, 49, 50, 51, 52, 53, 54, 55, 56] (fun x => [(6, bif x.2 then .own 0 else .a (.slice 4 ((insF (fun y => y.v.kind != 0) w o x.1).map Pr.row))), (8, .a (.int .i64 x.1))]) (fun _ => []) (fun _ => [⟨33, 4, o.map Pr.row, false⟩]) ⟨by simp, fun _ => insF_zero _ _ _⟩ (by simp) (by simp) (by simp) (by simp) (fun x => by simp) (fun x => by rcases x with ⟨i, b⟩; cases b <;> simp) (fun x => by simp) ?_
    rintro ⟨k, b⟩ ⟨hk, hb⟩ st_ hst
    simp only at hk hb
    by_cases hlt : k < w.length
    · have h3 : (k : Int) < (w.length : Int) := by omega
      have ew := wrap1 k w.length hlt (by omega)
      have e := getD_map Pr.row w k hlt
      have er : w[k].row = [.str w[k].key, .int .i64 w[k].v.kind, .int .i64 w[k].v.n, .str w[k].v.s] := rfl
      have es := insF_step (fun y => y.v.kind != 0) w o k hlt
      have hln := insF_len (fun y => y.v.kind != 0) w o k (by omega)
      have hwi := rwith_den (insF (fun y => y.v.kind != 0) w o k) w[k] (by omega)
      cases b with
      | true =>
        simp only [cond_true, cond_false, go_sem] at hst
        subst hst
        have hb := hb rfl
        rw [hb] at hwi es hln
        by_cases hc : w[k].v.kind = 0
        · have q1 : (w[k].v.kind != 0) = false := by simp [hc]
          rw [q1, if_neg (by simp)] at es
          simp only [h3, e, er, q1, go_sem]
          simp only [ew, go_sem]
          refine t_roundO (q := (k, true)) (k + 1, true) ⟨by simp only; omega, fun _ => es⟩ (by simp only; omega) (by simp [es]) (by simp) (by simp) (by simp) (by simp)
        · have q1 : (w[k].v.kind != 0) = true := by simp [hc]
          rw [if_pos q1] at es
          simp only [h3, e, er, q1, go_sem]
          refine t_call_intro (hwi) ?_
          simp only [ew, go_sem]
          refine t_roundO (q := (k, true)) (k + 1, false) ⟨by simp only; omega, fun h => by cases h⟩ (by simp only; omega) (by simp [es]) (by simp) (by simp) (by simp) (by simp)
      | false =>
        simp only [cond_true, cond_false, go_sem] at hst
        subst hst
        by_cases hc : w[k].v.kind = 0
        · have q1 : (w[k].v.kind != 0) = false := by simp [hc]
          rw [q1, if_neg (by simp)] at es
          simp only [h3, e, er, q1, go_sem]
          simp only [ew, go_sem]
          refine t_roundO (q := (k, false)) (k + 1, false) ⟨by simp only; omega, fun h => by cases h⟩ (by simp only; omega) (by simp [es]) (by simp) (by simp) (by simp) (by simp)
        · have q1 : (w[k].v.kind != 0) = true := by simp [hc]
          rw [if_pos q1] at es
          simp only [h3, e, er, q1, go_sem]
          refine t_call_intro (hwi) ?_
          simp only [ew, go_sem]
          refine t_roundO (q := (k, false)) (k + 1, false) ⟨by simp only; omega, fun h => by cases h⟩ (by simp only; omega) (by simp [es]) (by simp) (by simp) (by simp) (by simp)
    · have h3 : ¬ (k : Int) < (w.length : Int) := by omega
      have hke : k = w.length := by omega
      subst hke
      cases b with
      | true =>
        simp only [cond_true, cond_false, go_sem] at hst
        subst hst
        have hb := hb rfl
        rw [hb]
        simp only [h3, go_sem]
        simp only [aresult, ares, go_sem]
      | false =>
        simp only [cond_true, cond_false, go_sem] at hst
        subst hst
        simp only [h3, go_sem]
        simp only [aresult, ares, go_sem]

set_option maxRecDepth 100000 in
set_option maxHeartbeats 4000000 in
theorem rdiff_ok (a b : List Pr) (hlw : a.length + b.length ≤ 1048576) (fa : ∀ p ∈ a, p.fit) (fb : ∀ p ∈ b, p.fit) (h1 : stateV a = true) (h2 : stateV b = true) :
    PDen Try.prog 20 [.a (.slice 4 (a.map Pr.row)), .a (.slice 4 (b.map Pr.row))] (.tup [.a (.slice 4 ((diffR' a b).map Pr.row)), .a (.int .i64 0)]) := by
  have hV := rstateV_den a (by omega) fa
  rw [h1] at hV
  have hW := rstateV_den b (by omega) fb
  rw [h2] at hW
  refine den_of_body k_ref06_Diff ⟨rfl, Nat.le_of_ble_eq_true rfl, thaw_intro ?_⟩
  unfold c_ref06_Diff
  simp only [go_sem]
  refine t_call_intro (hV) ?_
  simp only [go_sem]
  refine t_call_intro (hW) ?_
  simp only [go_sem]
  refine t_loopO_intro [.slot 6 33 4] (fun k : Nat => k ≤ a.length) (fun k => a.length - k) 0 [6, 7, 17, 18, 19, 20, 21, 22, 23, 24, 25, 26, 27, 28, 29, 30, 31, 32, 33, 34, 35, 36, 37, 38, 39] (fun k => [(6, .own 0), (7, .a (.int .i64 k))]) (fun k => []) (fun k => [⟨33, 4, flA (keepR b) nilP a k, false⟩]) (by omega) (by simp) (by first | (simp; done) | simp [flA_zero]) (by first | (simp; done) | simp [flA_zero]) (by first | (simp; done) | simp [flA_zero]) (fun k => by first | (simp; done) | simp [flA_zero]) (fun k => by first | (simp; done) | simp [flA_zero]) (fun k => by first | (simp; done) | simp [flA_zero]) ?_
  intro k hk st_ hst
  simp only [go_sem] at hst
  subst hst
  by_cases hlt : k < a.length
  · have h3 : (k : Int) < (a.length : Int) := by omega
    have ew := wrap1 k a.length hlt (by omega)
    have e := getD_map Pr.row a k hlt
    have er : a[k].row = [.str a[k].key, .int .i64 a[k].v.kind, .int .i64 a[k].v.n, .str a[k].v.s] := rfl
    have hlen := flA_len (keepR b) nilP a k
    simp only [h3, e, er, go_sem]
    refine t_call_intro (rhas_den b (by omega) a[k].key) ?_
    simp only [go_sem]
    first | refine t_case_dec (fun h4 => ?_) (fun h4 => ?_) | refine t_case_ndec (fun h4 => ?_) (fun h4 => ?_) | refine t_case_eqI (fun h4 => ?_) (fun h4 => ?_) | refine t_case_neI (fun h4 => ?_) (fun h4 => ?_) | refine t_case_not (fun h4 => ?_) (fun h4 => ?_) | refine t_case_intro (fun h4 => ?_) (fun h4 => ?_)
    · have es := flA_no (keepR b) nilP a k hlt (by unfold keepR; rw [h4]; rfl)
      simp only [ew, go_sem]
      refine t_roundO (k + 1) (by omega) (by omega) (by first | (simp; done) | simp [es]) (by first | (simp; done) | simp [es]) (by first | (simp; done) | simp [es]) (by first | (simp; done) | simp [es]) (by first | (simp; done) | simp [es])
    · have es := flA_yes (keepR b) nilP a k hlt (by unfold keepR; rw [h4]; rfl)
      simp only [nilP, id, Pr.row, Vl.row] at es
      simp only [e, er, go_sem]
      refine t_gate_intro (by omega) ?_
      simp only [ew, e, er, go_sem]
      refine t_gate_intro (by omega) ?_
      simp only [ew, go_sem]
      refine t_roundO (k + 1) (by omega) (by omega) (by first | (simp; done) | simp [es]) (by first | (simp; done) | simp [es]) (by first | (simp; done) | simp [es]) (by first | (simp; done) | simp [es]) (by first | (simp; done) | simp [es])
  · have h3 : ¬ (k : Int) < (a.length : Int) := by omega
    have hke : k = a.length := by omega
    subst hke
    simp only [h3, flA_end, go_sem]
    have lo : ((a.filter (keepR b)).map nilP).length ≤ a.length := by rw [List.length_map]; exact List.length_filter_le _ _
    rw [show diffR' a b = insF (fun y => !vlEq (getP a y.key) y.v) b ((a.filter (keepR b)).map nilP) b.length from rfl]
    generalize (a.filter (keepR b)).map nilP = o at lo ⊢
    refine t_loopO_intro (α := Nat × Bool) [] (fun x => x.1 ≤ b.length ∧ (x.2 = true → insF (fun y => !vlEq (getP a y.key) y.v) b o x.1 = o)) (fun x => b.length - x.1) (0, true) [6, 8, 40, 41, 42, 43, 44, 45, 46, 47, 48, 49, 50, 51, 52, 53, 54, 55, 56, 57, 58, 59, 60, 61, 62, 63, 64] (fun x => [(6, bif x.2 then .own 0 else .a (.slice 4 ((insF (fun y => !vlEq (getP a y.key) y.v) b o x.1).map Pr.row))), (8, .a (.int .i64 x.1))]) (fun _ => []) (fun _ => [⟨33, 4, o.map Pr.row, false⟩]) ⟨by simp, fun _ => insF_zero _ _ _⟩ (by simp) (by simp) (by simp) (by simp) (fun x => by simp) (fun x => by rcases x with ⟨i, b_⟩; cases b_ <;> simp) (fun x => by simp) ?_
    rintro ⟨k, b_⟩ ⟨hk, hb⟩ st_ hst
    simp only at hk hb
    by_cases hlt : k < b.length
    · have h3 : (k : Int) < (b.length : Int) := by omega
      have ew := wrap1 k b.length hlt (by omega)
      have e := getD_map Pr.row b k hlt
      have er : b[k].row = [.str b[k].key, .int .i64 b[k].v.kind, .int .i64 b[k].v.n, .str b[k].v.s] := rfl
      have es := insF_step (fun y => !vlEq (getP a y.key) y.v) b o k hlt
      have hln := insF_len (fun y => !vlEq (getP a y.key) y.v) b o k (by omega)
      have hwi := rwith_den (insF (fun y => !vlEq (getP a y.key) y.v) b o k) b[k] (by omega)
      cases b_ with
      | true =>
        simp only [cond_true, cond_false, go_sem] at hst
        subst hst
        have hb := hb rfl
        rw [hb] at hwi es hln
        have hg := rget_den a (by omega) b[k].key
        cases hc : vlEq (getP a b[k].key) b[k].v with
        | true =>
          rw [hc] at es
          simp only [Bool.not_true, Bool.false_eq_true, if_false] at es
          rw [vlEq_row] at hc
          simp only [h3, e, er, go_sem]
          refine t_call_intro (hg) ?_
          simp only [h3, e, er, hc, go_sem]
          simp only [ew, go_sem]
          refine t_roundO (q := (k, true)) (k + 1, true) ⟨by simp only; omega, fun _ => es⟩ (by simp only; omega) (by simp [es]) (by simp) (by simp) (by simp) (by simp)
        | false =>
          rw [hc] at es
          simp only [Bool.not_false, if_true] at es
          rw [vlEq_row] at hc
          simp only [h3, e, er, go_sem]
          refine t_call_intro (hg) ?_
          simp only [h3, e, er, hc, go_sem]
          refine t_call_intro (hwi) ?_
          simp only [ew, go_sem]
          refine t_roundO (q := (k, true)) (k + 1, false) ⟨by simp only; omega, fun h => by cases h⟩ (by simp only; omega) (by simp [es]) (by simp) (by simp) (by simp) (by simp)
      | false =>
        simp only [cond_true, cond_false, go_sem] at hst
        subst hst
        have hg := rget_den a (by omega) b[k].key
        cases hc : vlEq (getP a b[k].key) b[k].v with
        | true =>
          rw [hc] at es
          simp only [Bool.not_true, Bool.false_eq_true, if_false] at es
          rw [vlEq_row] at hc
          simp only [h3, e, er, go_sem]
          refine t_call_intro (hg) ?_
          simp only [h3, e, er, hc, go_sem]
          simp only [ew, go_sem]
          refine t_roundO (q := (k, false)) (k + 1, false) ⟨by simp only; omega, fun h => by cases h⟩ (by simp only; omega) (by simp [es]) (by simp) (by simp) (by simp) (by simp)
        | false =>
          rw [hc] at es
          simp only [Bool.not_false, if_true] at es
          rw [vlEq_row] at hc
          simp only [h3, e, er, go_sem]
          refine t_call_intro (hg) ?_
          simp only [h3, e, er, hc, go_sem]
          refine t_call_intro (hwi) ?_
          simp only [ew, go_sem]
          refine t_roundO (q := (k, false)) (k + 1, false) ⟨by simp only; omega, fun h => by cases h⟩ (by simp only; omega) (by simp [es]) (by simp) (by simp) (by simp) (by simp)
    · have h3 : ¬ (k : Int) < (b.length : Int) := by omega
      have hke : k = b.length := by omega
      subst hke
      cases b_ with
      | true =>
        simp only [cond_true, cond_false, go_sem] at hst
        subst hst
        have hb := hb rfl
        rw [hb]
        simp only [h3, go_sem]
        simp only [aresult, ares, go_sem]
      | false =>
        simp only [cond_true, cond_false, go_sem] at hst
        subst hst
        simp only [h3, go_sem]
        simp only [aresult, ares, go_sem]

set_option maxRecDepth 100000 in
set_option maxHeartbeats 4000000 in
theorem rapply_no (a w : List Pr) (hlw : a.length + w.length ≤ 1048576) (fa : ∀ p ∈ a, p.fit) (fw : ∀ p ∈ w, p.fit) (hv : (stateV a && writesGo none w) = false) :
    PDen Try.prog 16 [.a (.slice 4 (a.map Pr.row)), .a (.slice 4 (w.map Pr.row))] (.tup [.a .nils, .a (.int .i64 1)]) := by
  have hV := rstateV_den a (by omega) fa
  have hW := rwrites_den w (by omega) fw
  cases h1 : stateV a with
  | false =>
    rw [h1] at hV
    refine den_of_body k_ref06_Apply ⟨rfl, Nat.le_of_ble_eq_true rfl, thaw_intro ?_⟩
    unfold c_ref06_Apply
    simp only [go_sem]
    refine t_call_intro (hV) ?_
    simp only [go_sem]
    simp only [aresult, ares, go_sem]
  | true =>
    rw [h1, Bool.true_and] at hv
    rw [h1] at hV
    rw [hv] at hW
    refine den_of_body k_ref06_Apply ⟨rfl, Nat.le_of_ble_eq_true rfl, thaw_intro ?_⟩
    unfold c_ref06_Apply
    simp only [go_sem]
    refine t_call_intro (hV) ?_
    simp only [go_sem]
    refine t_call_intro (hW) ?_
    simp only [go_sem]
    simp only [aresult, ares, go_sem]

set_option maxRecDepth 100000 in
set_option maxHeartbeats 4000000 in
theorem rdiff_no (a w : List Pr) (hlw : a.length + w.length ≤ 1048576) (fa : ∀ p ∈ a, p.fit) (fw : ∀ p ∈ w, p.fit) (hv : (stateV a && stateV w) = false) :
    PDen Try.prog 20 [.a (.slice 4 (a.map Pr.row)), .a (.slice 4 (w.map Pr.row))] (.tup [.a .nils, .a (.int .i64 1)]) := by
  have hV := rstateV_den a (by omega) fa
  have hW := rstateV_den w (by omega) fw
  cases h1 : stateV a with
  | false =>
    rw [h1] at hV
    refine den_of_body k_ref06_Diff ⟨rfl, Nat.le_of_ble_eq_true rfl, thaw_intro ?_⟩
    unfold c_ref06_Diff
    simp only [go_sem]
    refine t_call_intro (hV) ?_
    simp only [go_sem]
    simp only [aresult, ares, go_sem]
  | true =>
    rw [h1, Bool.true_and] at hv
    rw [h1] at hV
    rw [hv] at hW
    refine den_of_body k_ref06_Diff ⟨rfl, Nat.le_of_ble_eq_true rfl, thaw_intro ?_⟩
    unfold c_ref06_Diff
    simp only [go_sem]
    refine t_call_intro (hV) ?_
    simp only [go_sem]
    refine t_call_intro (hW) ?_
    simp only [go_sem]
    simp only [aresult, ares, go_sem]

set_option maxRecDepth 100000 in
set_option maxHeartbeats 4000000 in
theorem runion_no (a w : List Pr) (hlw : a.length + w.length ≤ 1048576) (fa : ∀ p ∈ a, p.fit) (fw : ∀ p ∈ w, p.fit) (hv : (stateV a && stateV w) = false) :
    PDen Try.prog 18 [.a (.slice 4 (a.map Pr.row)), .a (.slice 4 (w.map Pr.row))] (.tup [.a .nils, .a (.int .i64 1)]) := by
  have hV := rstateV_den a (by omega) fa
  have hW := rstateV_den w (by omega) fw
  cases h1 : stateV a with
  | false =>
    rw [h1] at hV
    refine den_of_body k_ref06_Union ⟨rfl, Nat.le_of_ble_eq_true rfl, thaw_intro ?_⟩
    unfold c_ref06_Union
    simp only [go_sem]
    refine t_call_intro (hV) ?_
    simp only [go_sem]
    simp only [aresult, ares, go_sem]
  | true =>
    rw [h1, Bool.true_and] at hv
    rw [h1] at hV
    rw [hv] at hW
    refine den_of_body k_ref06_Union ⟨rfl, Nat.le_of_ble_eq_true rfl, thaw_intro ?_⟩
    unfold c_ref06_Union
    simp only [go_sem]
    refine t_call_intro (hV) ?_
    simp only [go_sem]
    refine t_call_intro (hW) ?_
    simp only [go_sem]
    simp only [aresult, ares, go_sem]

set_option maxRecDepth 100000 in
set_option maxHeartbeats 4000000 in
theorem runi_den (a b : List Pr) (hlw : a.length + b.length ≤ 1048576) (fa : ∀ p ∈ a, p.fit) (fb : ∀ p ∈ b, p.fit) (h1 : stateV a = true) (h2 : stateV b = true) :
    PDen Try.prog 18 [.a (.slice 4 (a.map Pr.row)), .a (.slice 4 (b.map Pr.row))] (if (b.any fun y => (fnd a y.key).isSome) = true then .tup [.a .nils, .a (.int .i64 8)] else .tup [.a (.slice 4 ((applyR' a b).map Pr.row)), .a (.int .i64 0)]) := by
  have hV := rstateV_den a (by omega) fa
  rw [h1] at hV
  have hW := rstateV_den b (by omega) fb
  rw [h2] at hW
  have hA := rapply_ok a b hlw fa fb h1 ((writes_iff0 b).2 ⟨((state_iff b).1 h2).1, fun x hx => ⟨(((state_iff b).1 h2).2 x hx).1, (((state_iff b).1 h2).2 x hx).2.1⟩⟩)
  refine den_of_body k_ref06_Union ⟨rfl, Nat.le_of_ble_eq_true rfl, thaw_intro ?_⟩
  unfold c_ref06_Union
  simp only [go_sem]
  refine t_call_intro (hV) ?_
  simp only [go_sem]
  refine t_call_intro (hW) ?_
  simp only [go_sem]
  refine t_loop_intro (fun k : Nat => k ≤ b.length ∧ ((b.any fun y => (fnd a y.key).isSome) = ((b.drop k).any fun y => (fnd a y.key).isSome))) (fun k => b.length - k) 0 [4, 5, 6, 15, 16, 17, 18, 19, 20, 21, 22, 23, 24, 25, 26, 27] (fun k => [(6, .a (.int .i64 k))]) ⟨by omega, by simp⟩ (by simp) (fun k => by simp) rfl ?_
  intro k hk0 fr_ hfr
  have hk : k ≤ b.length := hk0.1
  have hall := hk0.2
  clear hk0
  simp only [go_sem] at hfr
  subst hfr
  by_cases hlt : k < b.length
  · have h3 : (k : Int) < (b.length : Int) := by omega
    have ew := wrap1 k b.length hlt (by omega)
    have e := getD_map Pr.row b k hlt
    have er : b[k].row = [.str b[k].key, .int .i64 b[k].v.kind, .int .i64 b[k].v.n, .str b[k].v.s] := rfl
    have es : ((b.drop k).any fun y => (fnd a y.key).isSome) = ((fnd a b[k].key).isSome || ((b.drop (k + 1)).any fun y => (fnd a y.key).isSome)) := by rw [List.drop_eq_getElem_cons hlt, List.any_cons]
    simp only [h3, e, er, go_sem]
    refine t_call_intro (rhas_den a (by omega) b[k].key) ?_
    simp only [go_sem]
    first | refine t_case_dec (fun h4 => ?_) (fun h4 => ?_) | refine t_case_ndec (fun h4 => ?_) (fun h4 => ?_) | refine t_case_eqI (fun h4 => ?_) (fun h4 => ?_) | refine t_case_neI (fun h4 => ?_) (fun h4 => ?_) | refine t_case_not (fun h4 => ?_) (fun h4 => ?_) | refine t_case_intro (fun h4 => ?_) (fun h4 => ?_)
    · simp only [go_sem]
      simp only [aresult, ares, go_sem]
      rw [hall, es, h4, Bool.true_or, if_pos rfl]
    · simp only [ew, go_sem]
      refine t_round (k + 1) ⟨by omega, by rw [hall, es, h4, Bool.false_or]⟩ (by omega) (by simp) rfl rfl (by simp) rfl
  · have h3 : ¬ (k : Int) < (b.length : Int) := by omega
    have hx : (b.any fun y => (fnd a y.key).isSome) = false := by rw [hall, List.drop_eq_nil_of_le (by omega)]; rfl
    simp only [h3, go_sem]
    refine t_call_intro (hA) ?_
    simp only [go_sem]
    simp only [aresult, ares, go_sem]
    rw [hx, if_neg (by simp)]
theorem uni_dup {a b : List Pr} (ha : Srt a) (hb : Srt b) : (uniO a b).2 = b.any fun y => (fnd a y.key).isSome := by
  have h := uni_flag _ a b (none, false) (Nat.le_refl _) ha hb
  cases hx : b.any fun y => (fnd a y.key).isSome with
  | true =>
    refine h.2 (.inr ?_)
    obtain ⟨y, hy, hs⟩ := List.any_eq_true.1 hx
    obtain ⟨x, hx⟩ := Option.isSome_iff_exists.1 hs
    exact ⟨y.key, x, y, hx, mem_fnd hb hy⟩
  | false =>
    cases hu : (uniO a b).2 with
    | false => rfl
    | true =>
      rcases h.1 hu with h | ⟨k, x, y, h1, h2⟩
      · cases h
      · have hy := fnd_mem h2
        have := List.any_eq_false.1 hx y hy.1
        rw [hy.2, h1] at this
        exact absurd rfl this
theorem uni_ap {a b : List Pr} (ha : Srt a) (hb : stateV b = true) (hx : (b.any fun y => (fnd a y.key).isSome) = false) : unL a b = apL a b := by
  have hb' := (state_iff b).1 hb
  have h1 := un_spec ha hb'.1
  have h2 := ap_spec ha hb'.1
  refine srt_ext _ _ h1.1 h2.1 fun k => ?_
  rw [h1.2, h2.2]
  cases hA : fnd a k with
  | none =>
    cases hB : fnd b k with
    | none => rfl
    | some y =>
      have hy := fnd_mem hB
      simp only [pick, wr]
      rw [if_neg (hb'.2 y hy.1).2.2]
  | some x =>
    cases hB : fnd b k with
    | none => rfl
    | some y =>
      have hy := fnd_mem hB
      have := List.any_eq_false.1 hx y hy.1
      rw [hy.2, hA] at this
      exact absurd rfl this
set_option maxRecDepth 100000 in
theorem rsame_nil : PDen Try.prog 13 [.a .nils, .a .nils] (.a (.bool true)) := by
  have e0 : (((0 : Nat) : Int) != ((0 : Nat) : Int)) = false := by decide
  have e0' : ((0 : Int) != 0) = false := by decide
  have h3 : ¬ (0 : Int) < 0 := by decide
  refine den_of_body k_ref06_Same ⟨rfl, Nat.le_of_ble_eq_true rfl, thaw_intro ?_⟩
  unfold c_ref06_Same
  simp only [e0, e0', go_sem]
  refine t_loop_intro (fun k : Nat => k ≤ 0) (fun k => 0 - k) 0 [4, 5, 11, 12, 13, 14, 15, 16, 17, 18, 19, 20, 21, 22, 23, 24, 25] (fun k => [(5, .a (.int .i64 k))]) (by omega) (by simp) (fun k => by simp) rfl ?_
  intro k hk fr_ hfr
  simp only [go_sem] at hfr
  subst hfr
  by_cases hlt : k < 0
  · omega
  · have hk0 : k = 0 := by omega
    subst hk0
    have h4 : ¬ ((0 : Nat) : Int) < ((0 : Nat) : Int) := by decide
    have h5 : ¬ ((0 : Nat) : Int) < 0 := by decide
    simp only [h3, h4, h5, go_sem]
    simp only [aresult, ares, go_sem]
structure Both (f g : FuncId) (args : List AV) (A : Atom) (E : Int) : Prop where
  p : PDen Try.prog f args (.tup [.a A, .a (.int .i64 E)])
  r : PDen Try.prog g args (.tup [.a A, .a (.int .i64 E)])
  s : PDen Try.prog 13 [.a A, .a A] (.a (.bool true))
set_option maxRecDepth 100000 in
set_option maxHeartbeats 2000000 in
theorem applies_den (a b : List Pr) (hlw : a.length + b.length ≤ 1048576) (fa : ∀ p ∈ a, p.fit) (fb : ∀ p ∈ b, p.fit) :
    PDen Try.prog 4 [.a (.slice 4 (a.map Pr.row)), .a (.slice 4 (b.map Pr.row))] (.a (.bool true)) := by
  have sm : ∀ l : List Pr, l.length ≤ 9223372036854775807 → PDen Try.prog 13 [.a (.slice 4 (l.map Pr.row)), .a (.slice 4 (l.map Pr.row))] (.a (.bool true)) := fun l hl => by
    have := rsame_den l l hl
    rw [prsEq_self] at this
    exact this
  obtain ⟨A1, E1, b1⟩ : ∃ A E, Both 10 16 [.a (.slice 4 (a.map Pr.row)), .a (.slice 4 (b.map Pr.row))] A E := by
    cases hv : (stateV a && writesGo none b) with
    | false => exact ⟨_, _, apply_no a b (by omega) (by omega) fa fb hv, rapply_no a b hlw fa fb hv, rsame_nil⟩
    | true =>
      simp only [Bool.and_eq_true] at hv
      have h := rapply_ok a b hlw fa fb hv.1 hv.2
      rw [apply_ref ((state_iff a).1 hv.1).1 ((writes_iff0 b).1 hv.2).1] at h
      have := ap_len a b
      exact ⟨_, _, apply_ok a b (by omega) (by omega) fa fb hv.1 hv.2, h, sm _ (by omega)⟩
  obtain ⟨A3, E3, b3⟩ : ∃ A E, Both 19 20 [.a (.slice 4 (a.map Pr.row)), .a (.slice 4 (b.map Pr.row))] A E := by
    cases hv : (stateV a && stateV b) with
    | false => exact ⟨_, _, diff_no a b (by omega) (by omega) fa fb hv, rdiff_no a b hlw fa fb hv, rsame_nil⟩
    | true =>
      simp only [Bool.and_eq_true] at hv
      have h := rdiff_ok a b hlw fa fb hv.1 hv.2
      rw [diff_ref hv.1 hv.2] at h
      have := df_len a b
      exact ⟨_, _, diff_ok a b (by omega) (by omega) fa fb hv.1 hv.2, h, sm _ (by omega)⟩
  obtain ⟨A2, E2, b2⟩ : ∃ A E, Both 17 18 [.a (.slice 4 (a.map Pr.row)), .a (.slice 4 (b.map Pr.row))] A E := by
    cases hv : (stateV a && stateV b) with
    | false =>
      have h := uni_den a b (by omega) (by omega) (by omega) fa fb
      rw [show uniA a b = .tup [.a .nils, .a (.int .i64 1)] from if_neg (by rw [hv]; simp)] at h
      exact ⟨_, _, h, runion_no a b hlw fa fb hv, rsame_nil⟩
    | true =>
      simp only [Bool.and_eq_true] at hv
      have sa := ((state_iff a).1 hv.1).1
      have sb := ((state_iff b).1 hv.2).1
      have h := runi_den a b hlw fa fb hv.1 hv.2
      have hd := uni_dup sa sb
      cases hx : (b.any fun y => (fnd a y.key).isSome) with
      | true =>
        rw [hx] at hd
        rw [hx, if_pos rfl] at h
        exact ⟨_, _, uni_twice a b (by omega) (by omega) fa fb hv.1 hv.2 hd, h, rsame_nil⟩
      | false =>
        rw [hx] at hd
        rw [hx, if_neg (by simp), apply_ref sa sb, ← uni_ap sa hv.2 hx] at h
        have : (unL a b).length ≤ a.length + b.length := mrg_len _ a b (Nat.le_refl _)
        exact ⟨_, _, uni_ok a b (by omega) (by omega) fa fb hv.1 hv.2 hd, h, sm _ (by omega)⟩
  have q1 : (E1 != E1) = false := by simp
  have q2 : (E2 != E2) = false := by simp
  have q3 : (E3 == E3) = true := by simp
  refine den_of_body k_law06_StateApplies ⟨rfl, Nat.le_of_ble_eq_true rfl, thaw_intro ?_⟩
  unfold c_law06_StateApplies
  simp only [go_sem]
  refine t_call_intro (b1.p) ?_
  simp only [go_sem]
  refine t_call_intro (b1.r) ?_
  simp only [q1, go_sem]
  refine t_call_intro (b1.s) ?_
  simp only [go_sem]
  refine t_call_intro (b2.p) ?_
  simp only [go_sem]
  refine t_call_intro (b2.r) ?_
  simp only [q2, go_sem]
  refine t_call_intro (b2.s) ?_
  simp only [go_sem]
  refine t_call_intro (b3.p) ?_
  simp only [go_sem]
  refine t_call_intro (b3.r) ?_
  simp only [q3, go_sem]
  refine t_call_intro (b3.s) ?_
  simp only [go_sem]
  refine t_call_intro (examples_den) ?_
  simp only [go_sem]
  simp only [aresult, ares, go_sem]

end Go.Proofs.Ytldonmombfpleaa
