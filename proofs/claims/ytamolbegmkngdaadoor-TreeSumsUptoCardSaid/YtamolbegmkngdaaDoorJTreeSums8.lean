/- A region that draws its order, with one operation that turns memory (an append) ahead of all that follow it in the text. A region that draws its order, its operations turning memory: an invariant that knows which of them are done. A region that draws its order and turns memory: operations without a slot (a store) among them. The walk of the law's own small tree. A tree is cut down from the last path on: what is left. Plain laws: when two structs are equal, as the model has it. The walks of the reference's look whether two nodes are alike. What the rounds of TreeWalks keep. Small laws on memory: a store into the middle of a row; what changes but for a set of blocks; an append to a row of the call's own, in a region that draws. -/
import Derived.Test.YtamolbegmkngdaaDoorJTreeSums7
import Derived.Test.YtamolbegmkngdaaDoorJTreeSums6
import Derived.Test.YtamolbegmkngdaaDoorJTreeSums2
import Derived.Test.YtamolbegmkngdaaDoorJTreeSums5
import Derived.Deep.RegionLaw
namespace Go.Proofs.YtamolbegmkngdaaDoor
open Go.RowKit
section
variable {P : Program} {ops : Array Oper} {Q : Exit → Act → World → Prop} {a0 : Act} {w0 : World}

/-- Does i wait for j? -/
def reachB (ops : Array Oper) : Nat → Nat → Nat → Bool
  | 0, i, j => i == j
  | f + 1, i, j => i == j || (ops[i]?.any fun o => o.after.toList.any fun e => Region.binds .any e && reachB ops f e.on j)
def Closed (ops : Array Oper) (l : Array Bool) : Prop := ∀ (i : Nat) o, ops[i]? = some o → l.getD i false = true → ∀ e ∈ o.after.toList, Region.binds .any e = true → l.getD e.on false = true
theorem Closed.reach {l : Array Bool} (h : Closed ops l) : ∀ (f i j : Nat), reachB ops f i j = true → l.getD i false = true → l.getD j false = true
  | 0, i, j, hr, hi => by simp [reachB] at hr; rw [← hr]; exact hi
  | f + 1, i, j, hr, hi => by
    simp only [reachB, Bool.or_eq_true, beq_iff_eq] at hr
    rcases hr with rfl | hr
    · exact hi
    · obtain ⟨o, ho, he⟩ := (Option.any_eq_true _ _).1 hr
      obtain ⟨e, hem, h2⟩ := List.any_eq_true.1 he
      simp only [Bool.and_eq_true] at h2
      exact h.reach f e.on j h2.2 (h i o ho hi e hem h2.1)

/-- An operation's duty: p is the one that turns memory; b: has it been? -/
def DutyP (P : Program) (ops : Array Oper) (Q : Exit → Act → World → Prop) (p : Nat) (G : Bool → World → Prop) (Φ : Nat → Value → World → Prop) (a0 : Act) (i : Nat) (o : Oper) : Prop :=
  ∀ b a w, (reachB ops ops.size p i = true → b = false) → (p < i → b = true) → G b w → Framed ops a0 a → Ahead ops Φ o a w →
    o.wp P a w (fun a' w' => ∃ v, a' = a.put o.dst v ∧ Φ i v w' ∧ (∀ j u, j ≠ i → (i = p → j < p) → Φ j u w → Φ j u w') ∧ G (b || i == p) w') Q
def DutiesP (P : Program) (ops : Array Oper) (Q : Exit → Act → World → Prop) (p : Nat) (G : Bool → World → Prop) (Φ : Nat → Value → World → Prop) (a0 : Act) : Nat → List Oper → Prop
  | _, [] => True
  | i, o :: l => DutyP P ops Q p G Φ a0 i o ∧ DutiesP P ops Q p G Φ a0 (i + 1) l
theorem DutiesP.at {p : Nat} {G : Bool → World → Prop} {Φ : Nat → Value → World → Prop} : ∀ {l : List Oper} {k : Nat}, DutiesP P ops Q p G Φ a0 k l → ∀ i o, l[i]? = some o → DutyP P ops Q p G Φ a0 (k + i) o
  | [], _, _, i, o, h => by simp at h
  | q :: l, k, hd, 0, o, h => by simp at h; subst h; exact hd.1
  | q :: l, k, hd, i + 1, o, h => by
    have := DutiesP.at (k := k + 1) hd.2 i o (by simpa using h)
    rwa [show k + 1 + i = k + (i + 1) from by omega] at this

/-- All that stand behind p wait for it. -/
def behindB (ops : Array Oper) (p : Nat) : Bool := ops.toList.zipIdx.all fun x => decide (x.2 ≤ p) || x.1.after.toList.any fun e => e.on == p && Region.binds .any e

theorem region_pivot (m p : Nat) (G : Bool → World → Prop) (hGd : G false w0.drew) (Φ : Nat → Value → World → Prop)
    (hund : ∀ i v w, Φ i v w → (ops[i]?.any fun o => o.dst.isNone) = true → Φ i undef w)
    (hchk : (dstsOk ops && aheadB ops && behindB ops p && (ops.toList.all fun o => o.guard.isNone && o.dst.all fun d => decide (d < m))) = true) (hsz : a0.tmps.size = m) (hp : p < ops.size)
    (hd : DutiesP P ops Q p G Φ a0 0 ops.toList)
    (hend : ∀ us w, G true w → us.length = ops.toList.length → (∀ i u, us[i]? = some u → Φ i u w) → Q .normal (filled ops.toList us a0) w) :
    RegionP P ops Q a0 w0 := by
  simp only [Bool.and_eq_true] at hchk
  obtain ⟨⟨⟨hdst, hacy⟩, hbeh⟩, hall⟩ := hchk
  have hin : ∀ o ∈ ops.toList, ∀ d, o.dst = some d → d < a0.tmps.size := fun o ho d hd => by
    have := List.all_eq_true.1 hall o ho
    simp only [Bool.and_eq_true] at this
    have := this.2
    rw [hd] at this
    rw [hsz]; simpa using this
  have hng : ∀ o ∈ ops.toList, o.guard = none := fun o ho => by
    have := List.all_eq_true.1 hall o ho
    simp only [Bool.and_eq_true] at this
    simpa using this.1
  have hdn : (ops.toList.filterMap (·.dst)).Nodup := by simpa [dstsOk] using hdst
  unfold RegionP
  refine wpAny_inv (fun l a w => l.size = ops.size ∧ G (l.getD p false) w ∧ Framed ops a0 a ∧ (∀ i o, ops[i]? = some o → l.getD i false = true → Φ i (valOf o a) w) ∧ Closed ops l) (fun _ _ _ h => h.1) ?_ ?_ _ _ _ _ ?_ ?_
  · rintro l a w i ⟨hs, hE, hF, hP, hC⟩ hi
    obtain ⟨hlt, hu, hpre⟩ := (ready_iff hs).1 hi
    have ho : ops[i]? = some ops[i] := Array.getElem?_eq_getElem hlt
    have hol : ops.toList[i]? = some ops[i] := by simp
    have hmem : ops[i] ∈ ops.toList := by simp
    have hduty := hd.at i ops[i] hol
    rw [Nat.zero_add] at hduty
    have hip : p < i → l.getD p false = true := fun hlt' => by
      have := List.all_eq_true.1 hbeh (ops[i], i) (List.mem_of_getElem? (i := i) (by simp [List.getElem?_zipIdx]))
      simp only [Bool.or_eq_true, decide_eq_true_eq, List.any_eq_true, Bool.and_eq_true, beq_iff_eq] at this
      rcases this with h | ⟨e, he, h1, h2⟩
      · omega
      · rw [← h1]; exact hpre e he h2
    have hgo := hduty (l.getD p false) a w (fun e => by
      cases hq : l.getD p false with
      | false => rfl
      | true => have := hC.reach _ _ _ e hq; rw [hu] at this; cases this) hip hE hF (fun e he hb q hq => hP e.on q hq (hpre e he hb))
    unfold wpOpP
    rw [ho]
    simp only []
    rw [if_pos (by unfold Region.wanted; rw [hng _ hmem])]
    refine Oper.wp_mono (fun a' w' h => ?_) hgo
    obtain ⟨v, rfl, hv, hk, hG'⟩ := h
    have hgp : (l.setIfInBounds i true).getD p false = (l.getD p false || i == p) := by
      by_cases e : p = i
      · subst e
        rw [getD_set_same (by omega)]; simp
      · rw [getD_set_other e]
        have : (i == p) = false := by simpa using fun h => e h.symm
        rw [this, Bool.or_false]
    refine ⟨by simpa using hs, by rw [hgp]; exact hG', framed_put hF hmem v, fun j o hj hlj => ?_, fun j o hj hlj e he hb => ?_⟩
    · by_cases e : j = i
      · subst e
        rw [ho] at hj
        obtain rfl := Option.some.inj hj
        by_cases hdd : ops[j].dst = none
        · have : valOf ops[j] (a.put ops[j].dst v) = undef := by unfold valOf; rw [hdd]
          rw [this]
          exact hund j v w' hv (by rw [ho]; simp [hdd])
        · rw [valOf_put_same (fun d hd => by rw [hF.2.1]; exact hin _ hmem d hd) (fun h => absurd h hdd)]
          exact hv
      · rw [getD_set_other e] at hlj
        rw [valOf_put_other (fun d hd h => e (dst_inj ops.toList hdn j i o ops[i] d (by simpa using hj) hol hd h))]
        refine hk j _ e (fun hip' => ?_) (hP j o hj hlj)
        subst hip'
        rcases Nat.lt_trichotomy j i with h1 | h1 | h1
        · exact h1
        · exact absurd h1 e
        · have := List.all_eq_true.1 hbeh (o, j) (List.mem_of_getElem? (i := j) (by rw [List.getElem?_zipIdx, show ops.toList[j]? = some o by simpa using hj]; simp))
          simp only [Bool.or_eq_true, decide_eq_true_eq, List.any_eq_true, Bool.and_eq_true, beq_iff_eq] at this
          rcases this with h | ⟨e', he, h3, h2⟩
          · omega
          · have h4 := hC j o hj hlj e' he h2
            rw [h3, hu] at h4; cases h4
    · by_cases hei : e.on = i
      · rw [hei]; exact getD_set_same (by omega)
      · rw [getD_set_other hei]
        by_cases hji : j = i
        · subst hji
          rw [ho] at hj
          obtain rfl := Option.some.inj hj
          exact hpre e he hb
        · rw [getD_set_other hji] at hlj
          exact hC j o hj hlj e he hb
  · rintro l a w ⟨hs, hE, hF, hP, _⟩ hr
    have hdone : ∀ i, i < ops.size → l.getD i false = true := fun i hi => ready_none hs hacy hr (i + 1) i (by omega) hi
    rw [hdone p hp] at hE
    rw [framed_filled hF ops.toList (fun _ h => h) (fun _ h => .inl h) hin]
    refine hend _ w hE (by simp) fun i u hu => ?_
    rw [List.getElem?_map, Option.map_eq_some_iff] at hu
    obtain ⟨o, ho, rfl⟩ := hu
    exact hP i o (by simpa using ho) (hdone i (Array.getElem?_eq_some_iff.1 (show ops[i]? = some o by simpa using ho)).1)
  · have hf : ∀ i, (Array.replicate ops.size false).getD i false = false := fun i => by
      rw [Array.getD_eq_getD_getElem?, Array.getElem?_replicate]; split <;> rfl
    refine ⟨by simp, by rw [hf]; exact hGd, ⟨rfl, rfl, fun _ _ => rfl⟩, ?_, ?_⟩
    · intro i o _ h
      rw [hf] at h; cases h
    · intro i o _ h
      rw [hf] at h; cases h
  · unfold unlisted
    exact Nat.le_trans (List.count_le_length) (by simp)
theorem dutyP_ext {p i : Nat} {o : Oper} {G : Bool → World → Prop} {Φ : Nat → Value → World → Prop} (hip : (i == p) = false) (hst : ∀ j u w w', Φ j u w → Ext w w' → Φ j u w') (hG : ∀ b w w', G b w → Ext w w' → G b w')
    (h : ∀ b a w, (reachB ops ops.size p i = true → b = false) → G b w → Framed ops a0 a → Ahead ops Φ o a w → o.wp P a w (fun a' w' => ∃ v, a' = a.put o.dst v ∧ Φ i v w' ∧ Ext w w') Q) : DutyP P ops Q p G Φ a0 i o := by
  intro b a w hb _ hGw hF hA
  refine Oper.wp_mono (fun a' w' hh => ?_) (h b a w hb hGw hF hA)
  obtain ⟨v, rfl, hv, hE⟩ := hh
  exact ⟨v, rfl, hv, fun j u _ _ hj => hst j u _ _ hj hE, by rw [hip, Bool.or_false]; exact hG _ _ _ hGw hE⟩
end
end Go.Proofs.YtamolbegmkngdaaDoor
namespace Go.Proofs.YtamolbegmkngdaaDoor
open Go.RowKit
section
variable {P : Program} {ops : Array Oper} {Q : Exit → Act → World → Prop} {a0 : Act} {w0 : World}

/-- An operation's duty; l: which are done. Φ speaks of values alone. -/
def DutyS (P : Program) (ops : Array Oper) (Q : Exit → Act → World → Prop) (G : (Nat → Bool) → World → Prop) (Φ : Nat → Value → Prop) (a0 : Act) (i : Nat) (o : Oper) : Prop :=
  ∀ (d : Nat → Bool) a w, d i = false → (∀ f k j, reachB ops f k j = true → d k = true → d j = true) → (∀ e ∈ o.after.toList, Region.binds .any e = true → d e.on = true) → G d w → Framed ops a0 a → Ahead ops (fun i v _ => Φ i v) o a w →
    o.wp P a w (fun a' w' => ∃ v, a' = a.put o.dst v ∧ Φ i v ∧ G (fun k => d k || k == i) w') Q
def DutiesS (P : Program) (ops : Array Oper) (Q : Exit → Act → World → Prop) (G : (Nat → Bool) → World → Prop) (Φ : Nat → Value → Prop) (a0 : Act) : Nat → List Oper → Prop
  | _, [] => True
  | i, o :: l => DutyS P ops Q G Φ a0 i o ∧ DutiesS P ops Q G Φ a0 (i + 1) l
theorem DutiesS.at {G : (Nat → Bool) → World → Prop} {Φ : Nat → Value → Prop} : ∀ {l : List Oper} {k : Nat}, DutiesS P ops Q G Φ a0 k l → ∀ i o, l[i]? = some o → DutyS P ops Q G Φ a0 (k + i) o
  | [], _, _, i, o, h => by simp at h
  | q :: l, k, hd, 0, o, h => by simp at h; subst h; exact hd.1
  | q :: l, k, hd, i + 1, o, h => by
    have := DutiesS.at (k := k + 1) hd.2 i o (by simpa using h)
    rwa [show k + 1 + i = k + (i + 1) from by omega] at this

theorem region_state (m : Nat) (G : (Nat → Bool) → World → Prop) (hG0 : G (fun _ => false) w0.drew) (Φ : Nat → Value → Prop)
    (hchk : (dstsOk ops && aheadB ops && (ops.toList.all fun o => o.guard.isNone && o.dst.any fun d => decide (d < m))) = true) (hsz : a0.tmps.size = m)
    (hd : DutiesS P ops Q G Φ a0 0 ops.toList)
    (hend : ∀ us d w, (∀ i, i < ops.size → d i = true) → G d w → us.length = ops.toList.length → (∀ i u, us[i]? = some u → Φ i u) → Q .normal (filled ops.toList us a0) w) :
    RegionP P ops Q a0 w0 := by
  simp only [Bool.and_eq_true] at hchk
  obtain ⟨⟨hdst, hacy⟩, hall⟩ := hchk
  have hdd : ∀ o ∈ ops.toList, ∃ d, o.dst = some d ∧ d < a0.tmps.size := fun o ho => by
    have := List.all_eq_true.1 hall o ho
    simp only [Bool.and_eq_true] at this
    have h2 := this.2
    cases hq : o.dst with
    | none => rw [hq] at h2; cases h2
    | some d => rw [hq] at h2; exact ⟨d, rfl, by rw [hsz]; simpa using h2⟩
  have hin : ∀ o ∈ ops.toList, ∀ d, o.dst = some d → d < a0.tmps.size := fun o ho d hd => by
    obtain ⟨d', h1, h2⟩ := hdd o ho
    rw [hd] at h1
    rw [Option.some.inj h1]; exact h2
  have hng : ∀ o ∈ ops.toList, o.guard = none := fun o ho => by
    have := List.all_eq_true.1 hall o ho
    simp only [Bool.and_eq_true] at this
    simpa using this.1
  have hdn : (ops.toList.filterMap (·.dst)).Nodup := by simpa [dstsOk] using hdst
  unfold RegionP
  refine wpAny_inv (fun l a w => l.size = ops.size ∧ G (fun k => l.getD k false) w ∧ Framed ops a0 a ∧ (∀ i o, ops[i]? = some o → l.getD i false = true → Φ i (valOf o a)) ∧ Closed ops l) (fun _ _ _ h => h.1) ?_ ?_ _ _ _ _ ?_ ?_
  · rintro l a w i ⟨hs, hE, hF, hP, hC⟩ hi
    obtain ⟨hlt, hu, hpre⟩ := (ready_iff hs).1 hi
    have ho : ops[i]? = some ops[i] := Array.getElem?_eq_getElem hlt
    have hol : ops.toList[i]? = some ops[i] := by simp
    have hmem : ops[i] ∈ ops.toList := by simp
    have hduty := hd.at i ops[i] hol
    rw [Nat.zero_add] at hduty
    have hgo := hduty (fun k => l.getD k false) a w hu (fun f k j h hk => hC.reach f k j h hk) (fun e he hb => hpre e he hb) hE hF (fun e he hb q hq => hP e.on q hq (hpre e he hb))
    unfold wpOpP
    rw [ho]
    simp only []
    rw [if_pos (by unfold Region.wanted; rw [hng _ hmem])]
    refine Oper.wp_mono (fun a' w' h => ?_) hgo
    obtain ⟨v, rfl, hv, hG'⟩ := h
    have hgp : (fun k => (l.setIfInBounds i true).getD k false) = fun k => l.getD k false || k == i := by
      funext k
      by_cases e : k = i
      · subst e
        rw [getD_set_same (by omega)]; simp
      · rw [getD_set_other e]
        have : (k == i) = false := by simpa using e
        rw [this, Bool.or_false]
    refine ⟨by simpa using hs, by rw [hgp]; exact hG', framed_put hF hmem v, fun j o hj hlj => ?_, fun j o hj hlj e he hb => ?_⟩
    · by_cases e : j = i
      · subst e
        rw [ho] at hj
        obtain rfl := Option.some.inj hj
        obtain ⟨d, hd1, _⟩ := hdd _ hmem
        rw [valOf_put_same (fun d hd => by rw [hF.2.1]; exact hin _ hmem d hd) (fun h => by rw [hd1] at h; cases h)]
        exact hv
      · rw [getD_set_other e] at hlj
        rw [valOf_put_other (fun d hd h => e (dst_inj ops.toList hdn j i o ops[i] d (by simpa using hj) hol hd h))]
        exact hP j o hj hlj
    · by_cases hei : e.on = i
      · rw [hei]; exact getD_set_same (by omega)
      · rw [getD_set_other hei]
        by_cases hji : j = i
        · subst hji
          rw [ho] at hj
          obtain rfl := Option.some.inj hj
          exact hpre e he hb
        · rw [getD_set_other hji] at hlj
          exact hC j o hj hlj e he hb
  · rintro l a w ⟨hs, hE, hF, hP, _⟩ hr
    have hdone : ∀ i, i < ops.size → l.getD i false = true := fun i hi => ready_none hs hacy hr (i + 1) i (by omega) hi
    rw [framed_filled hF ops.toList (fun _ h => h) (fun _ h => .inl h) hin]
    refine hend _ _ w hdone hE (by simp) fun i u hu => ?_
    rw [List.getElem?_map, Option.map_eq_some_iff] at hu
    obtain ⟨o, ho, rfl⟩ := hu
    exact hP i o (by simpa using ho) (hdone i (Array.getElem?_eq_some_iff.1 (show ops[i]? = some o by simpa using ho)).1)
  · have hf : ∀ i, (Array.replicate ops.size false).getD i false = false := fun i => by
      rw [Array.getD_eq_getD_getElem?, Array.getElem?_replicate]; split <;> rfl
    refine ⟨by simp, by simp only [hf]; exact hG0, ⟨rfl, rfl, fun _ _ => rfl⟩, ?_, ?_⟩
    · intro i o _ h
      rw [hf] at h; cases h
    · intro i o _ h
      rw [hf] at h; cases h
  · unfold unlisted
    exact Nat.le_trans (List.count_le_length) (by simp)

theorem region_state_vals (m : Nat) (G : (Nat → Bool) → World → Prop) (hG0 : G (fun _ => false) w0.drew) (vals : List Value) (hlen : vals.length = ops.toList.length)
    (hchk : (dstsOk ops && aheadB ops && (ops.toList.all fun o => o.guard.isNone && o.dst.any fun d => decide (d < m))) = true) (hsz : a0.tmps.size = m)
    (hd : DutiesS P ops Q G (fun i v => vals[i]? = some v) a0 0 ops.toList)
    (hend : ∀ d w, (∀ i, i < ops.size → d i = true) → G d w → Q .normal (filled ops.toList vals a0) w) : RegionP P ops Q a0 w0 := by
  refine region_state m G hG0 (fun i v => vals[i]? = some v) hchk hsz hd fun us d w hdn hG hl hP => ?_
  have : us = vals := List.ext_getElem? fun i => by
    by_cases hi : i < us.length
    · rw [hP i us[i] (List.getElem?_eq_getElem hi), List.getElem?_eq_getElem hi]
    · rw [List.getElem?_eq_none (by omega), List.getElem?_eq_none (by omega)]
  rw [this]
  exact hend d w hdn hG

/-- An operation that only reads. -/
theorem dutyS_ext {i : Nat} {o : Oper} {G : (Nat → Bool) → World → Prop} {Φ : Nat → Value → Prop} (hG : ∀ d d' w w', G d w → Ext w w' → (∀ k, k ≠ i → d' k = d k) → G d' w')
    (h : ∀ d a w, G d w → Framed ops a0 a → Ahead ops (fun i v _ => Φ i v) o a w → o.wp P a w (fun a' w' => ∃ v, a' = a.put o.dst v ∧ Φ i v ∧ Ext w w') Q) : DutyS P ops Q G Φ a0 i o := by
  intro d a w _ _ _ hGw hF hA
  refine Oper.wp_mono (fun a' w' hh => ?_) (h d a w hGw hF hA)
  obtain ⟨v, rfl, hv, hE⟩ := hh
  exact ⟨v, rfl, hv, hG d _ _ _ hGw hE fun k hk => by
    have : (k == i) = false := by simpa using hk
    rw [this, Bool.or_false]⟩
end
end Go.Proofs.YtamolbegmkngdaaDoor
namespace Go.Proofs.YtamolbegmkngdaaDoor
open Go.RowKit
section
variable {P : Program} {ops : Array Oper} {Q : Exit → Act → World → Prop} {a0 : Act} {w0 : World}

theorem region_state0 (m : Nat) (G : (Nat → Bool) → World → Prop) (hG0 : G (fun _ => false) w0.drew) (Φ : Nat → Value → Prop)
    (hchk : (dstsOk ops && aheadB ops && (ops.toList.all fun o => o.guard.isNone && o.dst.all fun d => decide (d < m))) = true) (hsz : a0.tmps.size = m)
    (hnone : ∀ (i : Nat) (o : Oper) (v : Value), ops[i]? = some o → o.dst = none → Φ i v → v = undef)
    (hd : DutiesS P ops Q G Φ a0 0 ops.toList)
    (hend : ∀ us d w, (∀ i, i < ops.size → d i = true) → G d w → us.length = ops.toList.length → (∀ i u, us[i]? = some u → Φ i u) → Q .normal (filled ops.toList us a0) w) :
    RegionP P ops Q a0 w0 := by
  simp only [Bool.and_eq_true] at hchk
  obtain ⟨⟨hdst, hacy⟩, hall⟩ := hchk
  have hin : ∀ o ∈ ops.toList, ∀ d, o.dst = some d → d < a0.tmps.size := fun o ho d hd => by
    have := List.all_eq_true.1 hall o ho
    simp only [Bool.and_eq_true] at this
    have h2 := this.2
    rw [hd] at h2
    rw [hsz]; simpa using h2
  have hng : ∀ o ∈ ops.toList, o.guard = none := fun o ho => by
    have := List.all_eq_true.1 hall o ho
    simp only [Bool.and_eq_true] at this
    simpa using this.1
  have hdn : (ops.toList.filterMap (·.dst)).Nodup := by simpa [dstsOk] using hdst
  unfold RegionP
  refine wpAny_inv (fun l a w => l.size = ops.size ∧ G (fun k => l.getD k false) w ∧ Framed ops a0 a ∧ (∀ i o, ops[i]? = some o → l.getD i false = true → Φ i (valOf o a)) ∧ Closed ops l) (fun _ _ _ h => h.1) ?_ ?_ _ _ _ _ ?_ ?_
  · rintro l a w i ⟨hs, hE, hF, hP, hC⟩ hi
    obtain ⟨hlt, hu, hpre⟩ := (ready_iff hs).1 hi
    have ho : ops[i]? = some ops[i] := Array.getElem?_eq_getElem hlt
    have hol : ops.toList[i]? = some ops[i] := by simp
    have hmem : ops[i] ∈ ops.toList := by simp
    have hduty := hd.at i ops[i] hol
    rw [Nat.zero_add] at hduty
    have hgo := hduty (fun k => l.getD k false) a w hu (fun f k j h hk => hC.reach f k j h hk) (fun e he hb => hpre e he hb) hE hF (fun e he hb q hq => hP e.on q hq (hpre e he hb))
    unfold wpOpP
    rw [ho]
    simp only []
    rw [if_pos (by unfold Region.wanted; rw [hng _ hmem])]
    refine Oper.wp_mono (fun a' w' h => ?_) hgo
    obtain ⟨v, rfl, hv, hG'⟩ := h
    have hgp : (fun k => (l.setIfInBounds i true).getD k false) = fun k => l.getD k false || k == i := by
      funext k
      by_cases e : k = i
      · subst e
        rw [getD_set_same (by omega)]; simp
      · rw [getD_set_other e]
        have : (k == i) = false := by simpa using e
        rw [this, Bool.or_false]
    refine ⟨by simpa using hs, by rw [hgp]; exact hG', framed_put hF hmem v, fun j o hj hlj => ?_, fun j o hj hlj e he hb => ?_⟩
    · by_cases e : j = i
      · subst e
        rw [ho] at hj
        obtain rfl := Option.some.inj hj
        rw [valOf_put_same (fun d hd => by rw [hF.2.1]; exact hin _ hmem d hd) (fun h => hnone j _ v ho h hv)]
        exact hv
      · rw [getD_set_other e] at hlj
        rw [valOf_put_other (fun d hd h => e (dst_inj ops.toList hdn j i o ops[i] d (by simpa using hj) hol hd h))]
        exact hP j o hj hlj
    · by_cases hei : e.on = i
      · rw [hei]; exact getD_set_same (by omega)
      · rw [getD_set_other hei]
        by_cases hji : j = i
        · subst hji
          rw [ho] at hj
          obtain rfl := Option.some.inj hj
          exact hpre e he hb
        · rw [getD_set_other hji] at hlj
          exact hC j o hj hlj e he hb
  · rintro l a w ⟨hs, hE, hF, hP, _⟩ hr
    have hdone : ∀ i, i < ops.size → l.getD i false = true := fun i hi => ready_none hs hacy hr (i + 1) i (by omega) hi
    rw [framed_filled hF ops.toList (fun _ h => h) (fun _ h => .inl h) hin]
    refine hend _ _ w hdone hE (by simp) fun i u hu => ?_
    rw [List.getElem?_map, Option.map_eq_some_iff] at hu
    obtain ⟨o, ho, rfl⟩ := hu
    exact hP i o (by simpa using ho) (hdone i (Array.getElem?_eq_some_iff.1 (show ops[i]? = some o by simpa using ho)).1)
  · have hf : ∀ i, (Array.replicate ops.size false).getD i false = false := fun i => by
      rw [Array.getD_eq_getD_getElem?, Array.getElem?_replicate]; split <;> rfl
    refine ⟨by simp, by simp only [hf]; exact hG0, ⟨rfl, rfl, fun _ _ => rfl⟩, ?_, ?_⟩
    · intro i o _ h
      rw [hf] at h; cases h
    · intro i o _ h
      rw [hf] at h; cases h
  · unfold unlisted
    exact Nat.le_trans (List.count_le_length) (by simp)

theorem region_state0_vals (m : Nat) (G : (Nat → Bool) → World → Prop) (hG0 : G (fun _ => false) w0.drew) (vals : List Value) (hlen : vals.length = ops.toList.length)
    (hchk : (dstsOk ops && aheadB ops && (ops.toList.all fun o => o.guard.isNone && o.dst.all fun d => decide (d < m))) = true) (hsz : a0.tmps.size = m)
    (hnone : ∀ (i : Nat) (o : Oper) (v : Value), ops[i]? = some o → o.dst = none → vals[i]? = some v → v = undef)
    (hd : DutiesS P ops Q G (fun i v => vals[i]? = some v) a0 0 ops.toList)
    (hend : ∀ d w, (∀ i, i < ops.size → d i = true) → G d w → Q .normal (filled ops.toList vals a0) w) : RegionP P ops Q a0 w0 := by
  refine region_state0 m G hG0 (fun i v => vals[i]? = some v) hchk hsz (fun i o v h1 h2 h3 => hnone i o v h1 h2 h3) hd fun us d w hdn hG hl hP => ?_
  have : us = vals := List.ext_getElem? fun i => by
    by_cases hi : i < us.length
    · rw [hP i us[i] (List.getElem?_eq_getElem hi), List.getElem?_eq_getElem hi]
    · rw [List.getElem?_eq_none (by omega), List.getElem?_eq_none (by omega)]
  rw [this]
  exact hend d w hdn hG

end
end Go.Proofs.YtamolbegmkngdaaDoor
namespace Go.Proofs.YtamolbegmkngdaaDoor
open Go.RowKit Go.Sort
set_option maxHeartbeats 2000000
set_option maxRecDepth 100000

/-- A node of a path alone. -/
def pN (p : ByteArray) : Nd := ⟨p, [], [], 0, 0, 0, 0, 0, 0, 0, 0, 0, 0, 0, false, 0, 0⟩
def aP : ByteArray := ⟨#[47, 97]⟩
def abP : ByteArray := ⟨#[47, 97, 47, 98]⟩
def aM0 : List (Key × Nd) := [(keyN rootN, rootN)]
def aM1 : List (Key × Nd) := addM aM0 (pN aP)
def aM2 : List (Key × Nd) := addM aM1 (pN abP)
theorem am_1 : addE aM0 (pN abP) = 73 := by decide +kernel
theorem am_2 : addE aM0 (pN aP) = 0 := by decide +kernel
theorem am_3 : addE aM1 (pN abP) = 0 := by decide +kernel
theorem am_4 : addM aM0 (pN abP) = aM0 := by unfold addM; rw [if_neg (by rw [am_1]; decide)]
theorem am_5 : aM2.length = 3 := by decide +kernel
theorem am_6 : remE aM2 aP = 72 := by decide +kernel
theorem am_7 : (kidsOf aM2 ⟨#[47]⟩).map (·.1) = [[97]] := by decide +kernel
theorem am_8 : (mget aM2 [47]).isSome = true := by decide +kernel
theorem am_9 : (mget aM2 abP.data.toList).isSome = true := by decide +kernel
theorem am_10 : ∀ k ∈ aM2.map (·.1), k.length ≤ 9 := by decide +kernel
theorem am_12 : ((nodesOf aM2 (aM2.map (·.1))).take (9 + 1)).length = 3 := by decide +kernel
theorem am_11 : remM aM2 aP = aM2 := by unfold remM; rw [if_neg (by rw [am_6]; decide)]

/-- A tree of the walk's own blocks. -/
def Own (B : Nat) (w : World) (bt : Nat) (M : List (Key × Nd)) (N : Nat) : Prop := TreeAt (fun k => B ≤ k ∧ k < w.heap.size) w bt M N
theorem own_to {B : Nat} {w w' : World} {bt : Nat} {M : List (Key × Nd)} {N : Nat} {v : Value} {e : Ending} (hB : B ≤ w.heap.size) (h : TreeTo (fun k => B ≤ k ∧ k < w.heap.size) w bt M N v e w') : e = .returned v ∧ Own B w' bt M N ∧ Below B w w' := by
  obtain ⟨h1, h2, h3⟩ := h
  have hs := h3.size
  exact ⟨h1, h2.keep (fun _ _ => rfl) (fun k hk => hk.elim (fun h => ⟨h.1, by omega⟩) (fun h => ⟨by omega, h.2⟩)) (fun k hk => hk.2) (Nat.le_refl _), h3.below (fun k hk => hk.1) hB⟩
theorem Own.ext {B : Nat} {w w' : World} {bt : Nat} {M : List (Key × Nd)} {N : Nat} (h : Own B w bt M N) (he : Ext w w') : Own B w' bt M N :=
  (TreeAt.ext h he).keep (fun _ _ => rfl) (fun _ hk => ⟨hk.1, Nat.lt_of_lt_of_le hk.2 he.size⟩) (fun _ hk => hk.2) (Nat.le_refl _)

theorem pN_fit (p : ByteArray) (hp : p.size ≤ 4) : Fit (pN p) := ⟨by simp [pN]; omega, by simp [pN], by simp [pN], fun x hx => by simp [pN] at hx⟩

theorem kids_one : ((kidsOf aM2 ⟨#[47]⟩).map fun x => encStr x.1) = [.string ⟨#[97]⟩] ∧ (kidsOf aM2 ⟨#[47]⟩).length = 1 := by
  have h := am_7
  constructor
  · have : ((kidsOf aM2 ⟨#[47]⟩).map fun x => encStr x.1) = ((kidsOf aM2 ⟨#[47]⟩).map (·.1)).map encStr := by simp
    rw [this, h]; rfl
  · have := congrArg List.length h
    simpa using this

theorem addp_any {B : Nat} {w : World} {bt : Nat} {M : List (Key × Nd)} {N : Nat} (h : Own B w bt M N) (hB : B ≤ w.heap.size) (hu : Tabs w) (p : ByteArray) (hp : p.size ≤ 4) (hN : N < 100) (r : Int) (M' : List (Key × Nd)) (hr : addE M (pN p) = r) (hM : addM M (pN p) = M') :
    Calls Tryd.prog 23 #[.pointer (some ⟨bt, 0, none⟩), .agg (ndC (pN p) (.slice none 0 0) (.slice none 0 0))] w fun e w' => e = .returned (.int .i64 r) ∧ Own B w' bt M' (N + 1) ∧ Below B w w' := by
  subst hr hM
  exact (add_any _ w bt M N h (pN p) none none 0 0 hu (pN_fit p hp) (by omega) (fun j u h => by simp [pN] at h) (fun j u h => by simp [pN, acCs] at h)).mono fun e w' hq => own_to hB hq

theorem alive_any (w : World) (hT0 : Tabs w) : Calls Tryd.prog 6 #[] w fun e w' => e = .returned (.bool true) ∧ Ext w w' := by
  have hsz := hT0.size
  have HT0 := Lib.hid hT0
  clear hT0
  go_enter Tryd.func6, Tryd.ntmps6
  go_wp2_with fail
  refine (new_any w).mono ?_
  rintro e w1 ⟨bt, rfl, hT1, hE1⟩
  have C2 := addp_any hT1 hE1.size (HT0.out.below hE1 hsz) abP (by decide) (by omega) _ _ am_1 am_4
  have hz1 := hE1.size
  have hB1 : Below w.heap.size w w1 := hE1
  have HE1 := Lib.hid hB1
  clear hT1 hE1 hB1
  go_wp2_with fail
  refine C2.mono ?_
  rintro e w2 ⟨rfl, hT2, hM2⟩
  have hE2 := HE1.out.trans hM2
  have C3 := addp_any hT2 hE2.size (HT0.out.below hE2 hsz) aP (by decide) (by omega) _ aM1 am_2 rfl
  have hz2 := hE2.size
  have HE2 := Lib.hid hE2
  clear hT2 hE2 hM2 C2
  go_wp2_with fail
  refine C3.mono ?_
  rintro e w3 ⟨rfl, hT3, hM3⟩
  have hE3 := HE2.out.trans hM3
  have C4 := addp_any hT3 hE3.size (HT0.out.below hE3 hsz) abP (by decide) (by omega) _ aM2 am_3 rfl
  have hz3 := hE3.size
  have HE3 := Lib.hid hE3
  clear hT3 hE3 hM3 C3
  go_wp2_with fail
  refine C4.mono ?_
  rintro e w4 ⟨rfl, hT4, hM4⟩
  have hE4 := HE3.out.trans hM4
  have C5 := children_any _ w4 bt aM2 _ hT4 ⟨#[47]⟩ (by decide) (by rw [am_5]; omega)
  have HT4 := Lib.hid hT4
  have hz4 := hE4.size
  have HE4 := Lib.hid hE4
  clear hT4 hE4 hM4 C4
  go_wp2_with fail
  refine C5.mono ?_
  rintro e w5 ⟨v, rfl, hEx, hrow⟩
  have h8 : (mget aM2 (⟨#[47]⟩ : ByteArray).data.toList).isSome = true := am_8
  rw [h8] at hrow ⊢
  rw [if_pos rfl] at hrow ⊢
  rw [kids_one.1, kids_one.2] at hrow
  obtain ⟨ra, rc, rfl, hrows⟩ := ownsRow_from hrow
  obtain ⟨rb, ro, rfl, _, hrb, hr0⟩ := hrows 0 _ rfl
  have hE5 := HE4.out.trans (hEx.mono hz4)
  have C6 := tget_any _ w5 bt aM2 _ (HT4.out.ext hEx) abP (by decide)
  have HT5 := Lib.hid (HT4.out.ext hEx)
  have hz5 := hE5.size
  have HE5 := Lib.hid hE5
  have HR0 := Lib.hid hr0
  clear hE5 hEx hrow hrows C5 hr0
  go_wp2_with fail
  refine C6.mono ?_
  rintro e w6 ⟨v, rfl, hv, hE6⟩
  obtain ⟨da, dc, aa, ac, rfl, _⟩ := hv
  rw [am_9]
  generalize (mget aM2 abP.data.toList).getD zeroN = n at *
  obtain ⟨W7, hW7⟩ : ∃ W7, W7 = w6.alloc (.cells (ndC n (.slice da n.data.length dc) (.slice aa n.acl.length ac)) 37) := ⟨_, rfl⟩
  have HSET := Lib.hid ((setRow_alloc w6 zeroNd (ndC n (.slice da n.data.length dc) (.slice aa n.acl.length ac)) 37).trans hW7.symm)
  have HNew := Lib.hid (heap_alloc_new w6 (.cells zeroNd 37))
  have hx7 : Ext w5 W7 := hE6.trans (by rw [hW7]; exact Ext.alloc _ _)
  have hE7 := HE5.out.trans (hx7.mono hz5)
  have hr7 : W7.cell? ⟨rb, ro + 0, none⟩ = some (.string ⟨#[97]⟩) := (hx7.cell (p := ⟨rb, ro + 0, none⟩) hrb).trans HR0.out
  rw [Nat.add_zero] at hr7
  have hT7 := HT5.out.ext hx7
  have C8 := tcount_any _ W7 bt aM2 _ hT7
  rw [am_5, show ((3 : Nat) : Int) = 3 from rfl] at C8
  have C9 := rem_any _ W7 bt aM2 _ hT7 aP (by decide) (by omega)
  rw [am_6, am_11] at C9
  have hz7 := hE7.size
  have HE7 := Lib.hid hE7
  have HT7 := Lib.hid hT7
  unfold ndC at HSET ⊢
  unfold zeroNd at HSET HNew
  clear hE6 hW7 hx7 hE7 hT7 C6 HR0
  go_wp2_with (refine wpList_store_row rfl 37 (.tmp 4) (.tmp 35) rfl w6.heap.size _ rfl rfl 37 _ HNew.out sizeNd rfl (cells_node n da aa _ _ dc ac) ?_; rw [HSET.out])
  refine C8.mono ?_
  rintro e w8 ⟨rfl, hw8⟩
  subst hw8
  clear C8 HNew HSET
  go_wp2_with fail
  refine C9.mono ?_
  intro e w9 hq
  obtain ⟨rfl, hT9, hM9⟩ := own_to hz7 hq
  have hE9 := HE7.out.trans hM9
  have C10 := lall_any _ w9 bt aM2 _ hT9 9 (by unfold maxLen; omega) (by rw [am_5]; omega) (fun k hk => by have := am_10 k hk; unfold maxLen; omega)
  have hz9 := hE9.size
  have HE9 := Lib.hid hE9
  clear hq hT9 hM9 hE9 C9
  go_wp2_with fail
  refine C10.mono ?_
  rintro e w10 ⟨v, vs, rfl, hvl, hrow, _, hE10⟩
  rw [am_12] at hrow
  obtain ⟨ra, rc, rfl, _⟩ := ownsRow_from hrow
  have hE10 := HE9.out.trans (hE10.mono hz9)
  have HE10 := Lib.hid hE10
  clear hrow hE10 C10 hvl
  go_wp2
  go_ret
  exact ⟨rfl, HE10.out⟩
end Go.Proofs.YtamolbegmkngdaaDoor
namespace Go.Proofs.YtamolbegmkngdaaDoor
open Go.RowKit
set_option maxHeartbeats 1000000

theorem before_prefix (a b : List UInt8) (hb : b ≠ []) : bytesBefore a (a ++ b) = true := by
  induction a with
  | nil => cases b with
    | nil => exact absurd rfl hb
    | cons x b => rfl
  | cons x a ih => simp [bytesBefore, ih]

/-- A child comes after its parent. -/
theorem parent_before {s : ByteArray} (h : vpath s = true) (h1 : s.size ≠ 1) : bytesBefore (parentB s).data.toList s.data.toList = true := by
  obtain ⟨e, hn, _, _⟩ := path_split h h1
  have hn' : (nameB s).data.toList ≠ [] := fun e => hn (by rw [← size_list, e]; rfl)
  rw [e]
  unfold preL
  split
  · exact before_prefix _ _ hn'
  · rw [List.append_assoc]
    exact before_prefix _ _ (by simp)

theorem before_asymm : ∀ {a b : List UInt8}, bytesBefore a b = true → bytesBefore b a = true → False
  | [], [], h, _ => by simp [bytesBefore] at h
  | [], _ :: _, _, h => by simp [bytesBefore] at h
  | _ :: _, [], h, _ => by simp [bytesBefore] at h
  | x :: a, y :: b, h, k => by
    simp only [bytesBefore, Bool.or_eq_true, Bool.and_eq_true, decide_eq_true_eq, beq_iff_eq] at h k
    rcases h with h | ⟨rfl, h⟩
    · rcases k with k | ⟨rfl, k⟩
      · exact absurd h (UInt8.lt_asymm k)
      · exact absurd h (UInt8.lt_irrefl _)
    · rcases k with k | ⟨_, k⟩
      · exact absurd k (UInt8.lt_irrefl _)
      · exact before_asymm h k

theorem MOk.take {M : List (Key × Nd)} (h : MOk M) (m : Nat) : MOk (M.take m) :=
  ⟨List.Pairwise.sublist (List.take_sublist m M) h.sorted, fun x hx => h.key x (List.mem_of_mem_take hx), fun x hx => h.right x (List.mem_of_mem_take hx)⟩

theorem sorted_at {M : List (Key × Nd)} (h : MSorted M) {i j : Nat} (hij : i < j) (hj : j < M.length) : bytesBefore (M[i]'(by omega)).1 M[j].1 = true := List.pairwise_iff_getElem.1 h i j (by omega) hj hij

theorem cut_kids {M : List (Key × Nd)} (hM : MOk M) {k : Nat} (hk : k < M.length) : kidsOf (M.take (k + 1)) (M[k].2.path) = [] := by
  unfold kidsOf
  rw [List.map_eq_nil_iff, List.filter_eq_nil_iff]
  intro x hx hc
  obtain ⟨h1, h2⟩ := childOf_iff.1 hc
  have hxM := List.mem_of_mem_take hx
  have hb := parent_before (right_vpath (hM.right x hxM)) h1
  rw [h2] at hb
  obtain ⟨i, hi, e⟩ := List.getElem_of_mem hx
  simp only [List.length_take] at hi
  rw [List.getElem_take] at e
  have ek := hM.key x hxM
  have ek2 := hM.key M[k] (List.getElem_mem hk)
  unfold keyN at ek ek2
  rw [← ek, ← ek2] at hb
  by_cases hik : i = k
  · subst hik
    rw [e] at hb
    exact before_asymm hb hb
  · have := sorted_at hM.sorted (i := i) (j := k) (by omega) hk
    rw [e] at this
    exact before_asymm this hb

theorem root_first {M : List (Key × Nd)} (hM : MOk M) (h : mget M [47] ≠ none) : ∃ h0 : 0 < M.length, (M[0]'h0).1 = [47] := by
  cases hg : mget M [47] with
  | none => exact absurd hg h
  | some n =>
    obtain ⟨i, hi, e⟩ := List.getElem_of_mem (mget_some_mem hg)
    refine ⟨by omega, ?_⟩
    by_cases h0 : i = 0
    · subst h0; rw [e]
    · exfalso
      have hb := sorted_at hM.sorted (i := 0) (j := i) (by omega) hi
      rw [e] at hb
      have hv := vpath_facts (right_vpath (hM.right _ (List.getElem_mem (show 0 < M.length by omega))))
      rw [hM.key _ (List.getElem_mem (show 0 < M.length by omega))] at hb
      obtain ⟨h1, _, h47, _⟩ := hv
      unfold keyN at hb
      have hs : 0 < (M[0]'(by omega)).2.path.data.toList.length := by rw [size_list]; omega
      cases hl : (M[0]'(by omega)).2.path.data.toList with
      | nil => rw [hl] at hs; simp at hs
      | cons x r =>
        have hx : x = 47 := by
          have := (bat_toList _ 0 (by omega)).2 h47
          simpa [hl] using this
        rw [hl, hx] at hb
        cases r <;> simp [bytesBefore] at hb

theorem path_one {n : Nd} (h : rightN n = 0) (h1 : n.path.size = 1) : keyN n = [47] := by
  obtain ⟨_, _, h47, _⟩ := vpath_facts (right_vpath h)
  unfold keyN
  have h2 := (bat_toList n.path 0 (by omega)).2 h47
  have hs : n.path.data.toList.length = 1 := by rw [size_list]; exact h1
  cases hl : n.path.data.toList with
  | nil => rw [hl] at hs; simp at hs
  | cons x r =>
    simp only [hl, List.getElem_cons_zero] at h2
    rw [hl] at hs
    simp at hs
    rw [h2, hs]

theorem cut_ne {M : List (Key × Nd)} (hM : MOk M) (h : mget M [47] ≠ none) {k : Nat} (hk0 : 0 < k) (hk : k < M.length) : M[k].2.path.size ≠ 1 := fun e => by
  obtain ⟨h0, hr⟩ := root_first hM h
  have h1 := path_one (hM.right _ (List.getElem_mem hk)) e
  rw [← hM.key _ (List.getElem_mem hk)] at h1
  have := sorted_at hM.sorted hk0 hk
  rw [hr, h1] at this
  exact before_asymm this this

theorem cut_del {M : List (Key × Nd)} (hM : MOk M) {k : Nat} (hk : k < M.length) : mdel (M.take (k + 1)) M[k].1 = M.take k := by
  unfold mdel
  rw [List.take_add_one, List.getElem?_eq_getElem hk, Option.toList_some, List.filter_append]
  have h1 : (M.take k).filter (fun x => !(x.1 == M[k].1)) = M.take k := by
    rw [List.filter_eq_self]
    intro x hx
    obtain ⟨i, hi, e⟩ := List.getElem_of_mem hx
    simp only [List.length_take] at hi
    rw [List.getElem_take] at e
    have := sorted_at hM.sorted (i := i) (j := k) (by omega) hk
    rw [e] at this
    simp only [Bool.not_eq_true', beq_eq_false_iff_ne, ne_eq]
    intro e2
    rw [e2] at this
    exact before_asymm this this
  rw [h1]
  simp

theorem cut_step {M : List (Key × Nd)} (hM : MOk M) (h : mget M [47] ≠ none) {k : Nat} (hk0 : 0 < k) (hk : k < M.length) : remM (M.take (k + 1)) M[k].2.path = M.take k := by
  have hkey := hM.key _ (List.getElem_mem hk)
  have hmem : (M[k].1, M[k].2) ∈ M.take (k + 1) := List.mem_of_getElem? (i := k) (by rw [List.getElem?_take, if_pos (by omega), List.getElem?_eq_getElem hk])
  have hg := mget_of_mem (hM.take (k + 1)).sorted hmem
  have e : remE (M.take (k + 1)) M[k].2.path = 0 := by
    unfold remE
    rw [if_neg (fun h' => h' ⟨right_vpath (hM.right _ (List.getElem_mem hk)), cut_ne hM h hk0 hk⟩), if_neg, if_neg]
    · rw [cut_kids hM hk]; simp
    · unfold keyN at hkey
      rw [← hkey, hg]; simp
  unfold remM
  rw [if_pos e]
  unfold keyN at hkey
  rw [← hkey]
  exact cut_del hM hk

theorem cut_none {M : List (Key × Nd)} (hM : MOk M) {k m : Nat} (hm : m ≤ k) (hk : k < M.length) : remM (M.take m) M[k].2.path = M.take m := by
  have hkey := hM.key _ (List.getElem_mem hk)
  have hg : mget (M.take m) M[k].2.path.data.toList = none := mget_none_of fun x hx e2 => by
    obtain ⟨i, hi, e⟩ := List.getElem_of_mem hx
    simp only [List.length_take] at hi
    rw [List.getElem_take] at e
    have := sorted_at hM.sorted (i := i) (j := k) (by omega) hk
    unfold keyN at hkey
    rw [e, e2, hkey] at this
    exact before_asymm this this
  have e : remE (M.take m) M[k].2.path ≠ 0 := by
    unfold remE
    rw [if_pos hg]
    split <;> decide
  unfold remM
  rw [if_neg e]

/-- One removal, from a tree that is cut down this far. -/
theorem cut_one {M : List (Key × Nd)} (hM : MOk M) (h : mget M [47] ≠ none) {k m : Nat} (hk0 : 0 < k) (hk : k < M.length) (hm : m ≤ k + 1) (hm1 : 1 ≤ m) : ∃ m', 1 ≤ m' ∧ m' ≤ k ∧ remM (M.take m) M[k].2.path = M.take m' := by
  by_cases e : m = k + 1
  · subst e
    exact ⟨k, hk0, Nat.le_refl _, cut_step hM h hk0 hk⟩
  · exact ⟨m, hm1, by omega, cut_none hM (by omega) hk⟩


theorem fromL_err : ∀ {L : List Nd} {i : Nat} {M : List (Key × Nd)} {e : Nat × Int}, fromL L i M = .error e → e.2 ≠ 0
  | [], _, _, _, h => by simp [fromL] at h
  | n :: l, i, M, e, h => by
    unfold fromL at h
    split at h
    · rename_i hr; cases h; exact hr
    · split at h
      · cases h; exact (by decide : (71 : Int) ≠ 0)
      · exact fromL_err h
theorem parL_err {M : List (Key × Nd)} : ∀ {L : List Nd} {i : Nat} {e : Nat × Int}, parL M L i = .error e → e.2 ≠ 0
  | [], _, _, h => by simp [parL] at h
  | n :: l, i, e, h => by
    unfold parL at h
    split at h
    · cases h; exact (by decide : (73 : Int) ≠ 0)
    · exact parL_err h
theorem fromN_err {L : List Nd} {e : Nat × Int} (h : fromN L = .error e) : e.2 ≠ 0 := by
  unfold fromN at h
  split at h
  · rename_i h1; cases h; exact fromL_err h1
  · split at h
    · cases h; decide
    · split at h
      · rename_i h1; cases h; exact parL_err h1
      · cases h
theorem fromN_root {L : List Nd} {M : List (Key × Nd)} (h : fromN L = .ok M) : mget M [47] ≠ none := by
  unfold fromN at h
  split at h
  · cases h
  · split at h
    · cases h
    · split at h
      · cases h
      · rename_i h1 _ _ _; cases h; exact h1
end Go.Proofs.YtamolbegmkngdaaDoor
namespace Go.Proofs.YtamolbegmkngdaaDoor
open Go.RowKit
set_option maxHeartbeats 400000

theorem fields_of {t : TypeId} {fs : Array Field} (h : Tryd.prog.underlying t = some (.struct fs)) : Tryd.prog.fieldsOf t = fs := by
  unfold Program.fieldsOf; rw [h]
theorem eq_agg (w : World) (d : Nat) (t : TypeId) (fs : Array Field) (xs ys : Array Value) (h : Tryd.prog.underlying t = some (.struct fs)) (hp : Tryd.prog.stoodInHeld t = false) :
    (Op.equalIn (d + 1) t (.agg xs) (.agg ys)).run Tryd.prog w = (Op.eqFields d xs ys fs.toList).run Tryd.prog w := by
  rw [run_equalIn_agg w d t xs ys (by rw [fields_of h]; exact h) hp, fields_of h]

theorem eq_id (w : World) (d : Nat) (a b a' b' : ByteArray) : (Op.equalIn (d + 2) 95 (.agg #[.string a, .string b]) (.agg #[.string a', .string b'])).run Tryd.prog w = .ok (a.toList == a'.toList && b.toList == b'.toList) w := by
  rw [eq_agg w (d + 1) _ _ _ _ Tryd.underlying95 (by kernel_rfl)]
  simp [Op.eqFields, part, go_sem]
  repeat' split
  all_goals simp_all

def eqAc (x y : Ac) : Bool := x.perms == y.perms && (x.scheme.toList == y.scheme.toList && x.id.toList == y.id.toList)
def acV (x : Ac) : Value := .agg #[.int .i32 x.perms, .string x.scheme, .string x.id]
theorem eq_ac (w : World) (d : Nat) (x y : Ac) : (Op.equalIn (d + 3) 97 (acV x) (acV y)).run Tryd.prog w = .ok (eqAc x y) w := by
  unfold acV
  rw [eq_agg w (d + 2) _ _ _ _ Tryd.underlying97 (by kernel_rfl)]
  simp [Op.eqFields, part, go_sem]
  unfold eqAc
  repeat' split
  all_goals simp_all

theorem guard_ac : Tryd.prog.eqGuardType Tryd.prog.depth 97 = false := by kernel_rfl
theorem guard_q : Tryd.prog.eqGuardType Tryd.prog.depth 35 = false := by kernel_rfl
theorem neq_ac (w : World) (x y : Ac) : (binOp .neq 97 (.agg #[.int .i32 x.perms, .string x.scheme, .string x.id]) (.agg #[.int .i32 y.perms, .string y.scheme, .string y.id])).run Tryd.prog w = .ok (.bool (!eqAc x y)) w := by
  rw [run_neq_struct]
  have := eq_ac w 9997 x y
  unfold acV at this
  rw [this]
  rfl
theorem eql_ac (w : World) (x y : Ac) : (binOp .eql 97 (.agg #[.int .i32 x.perms, .string x.scheme, .string x.id]) (.agg #[.int .i32 y.perms, .string y.scheme, .string y.id])).run Tryd.prog w = .ok (.bool (eqAc x y)) w := by
  rw [run_eql_struct]
  have := eq_ac w 9997 x y
  unfold acV at this
  rw [this]
  rfl

def eqQ (h : Bool) (a b : Int) (h' : Bool) (a' b' : Int) : Bool := h == h' && (a == a' && b == b')
theorem eq_q (w : World) (d : Nat) (h : Bool) (a b : Int) (h' : Bool) (a' b' : Int) : (Op.equalIn (d + 2) 35 (.agg #[.bool h, .int .i64 a, .int .i64 b]) (.agg #[.bool h', .int .i64 a', .int .i64 b'])).run Tryd.prog w = .ok (eqQ h a b h' a' b') w := by
  rw [eq_agg w (d + 1) _ _ _ _ Tryd.underlying35 (by kernel_rfl)]
  simp [Op.eqFields, part, go_sem]
  unfold eqQ
  repeat' split
  all_goals simp_all
theorem neq_q (w : World) (h : Bool) (a b : Int) (h' : Bool) (a' b' : Int) : (binOp .neq 35 (.agg #[.bool h, .int .i64 a, .int .i64 b]) (.agg #[.bool h', .int .i64 a', .int .i64 b'])).run Tryd.prog w = .ok (.bool (!eqQ h a b h' a' b')) w := by
  rw [run_neq_struct, eq_q w 9998]; rfl
theorem eql_q (w : World) (h : Bool) (a b : Int) (h' : Bool) (a' b' : Int) : (binOp .eql 35 (.agg #[.bool h, .int .i64 a, .int .i64 b]) (.agg #[.bool h', .int .i64 a', .int .i64 b'])).run Tryd.prog w = .ok (.bool (eqQ h a b h' a' b')) w := by
  rw [run_eql_struct, eq_q w 9998]; rfl
end Go.Proofs.YtamolbegmkngdaaDoor
namespace Go.Proofs.YtamolbegmkngdaaDoor
open Go.RowKit
set_option maxHeartbeats 2000000
set_option maxRecDepth 100000

/-- Are two lists alike. -/
def eqAcs : List Ac → List Ac → Bool
  | [], [] => true
  | x :: xs, y :: ys => eqAc x y && eqAcs xs ys
  | _, _ => false
theorem eqAcs_len : ∀ xs ys, xs.length ≠ ys.length → eqAcs xs ys = false
  | [], [], h => absurd rfl h
  | [], _ :: _, _ => rfl
  | _ :: _, [], _ => rfl
  | x :: xs, y :: ys, h => by simp only [eqAcs]; rw [eqAcs_len xs ys (by simpa using h)]; simp
theorem eqAcs_drop (xs ys : List Ac) (k : Nat) (h : k < xs.length) (h' : k < ys.length) : eqAcs (xs.drop k) (ys.drop k) = (eqAc xs[k] ys[k] && eqAcs (xs.drop (k + 1)) (ys.drop (k + 1))) := by
  rw [List.drop_eq_getElem_cons h, List.drop_eq_getElem_cons h']; rfl

theorem racls_any (a b : Option Addr) (c d : Nat) (xs ys : List Ac) (w : World) (hx : Cells w.heap.size w a (acCs xs)) (hy : Cells w.heap.size w b (acCs ys)) (hm : xs.length ≤ 9223372036854775800) (hm' : ys.length ≤ 9223372036854775800) :
    Calls Tryd.prog 61 #[.slice a xs.length c, .slice b ys.length d] w fun e w' => e = .returned (.bool (eqAcs xs ys)) ∧ Below w.heap.size w w' := by
  by_cases hl : xs.length ≠ ys.length
  · have H1 := Lib.hid (eqAcs_len xs ys hl)
    have hlb : ((xs.length : Int) != ys.length) = true := by simp; omega
    clear hl hx hy
    go_enter Tryd.func61, Tryd.ntmps61
    go_wp2
    go_ret
    exact ⟨by rw [H1.out]; rfl, Below.refl _ _⟩
  have hl : xs.length = ys.length := by omega
  have HL := Lib.hid hl
  have hg := guard_ac
  have hnq := neq_ac
  have hlb : ((xs.length : Int) != ys.length) = false := by simp [hl]
  clear hl
  go_enter Tryd.func61, Tryd.ntmps61
  go_wp2
  go_loopw [5] (fun i wr => ∃ (k n : Nat), k ≤ xs.length ∧ i = .int .i64 k ∧ wr = w.drewN n ∧ Hid (eqAcs xs ys = eqAcs (xs.drop k) (ys.drop k))) (fun i _ => xs.length - (intOf i).toNat)
  case atStart => exact ⟨0, 0, Nat.zero_le _, rfl, rfl, rfl⟩
  case round =>
    obtain ⟨k, n, hk, rfl, rfl, HQ⟩ := hrel
    by_cases hlt : k < xs.length
    · have hlt' : k < ys.length := by have := HL.out; omega
      obtain ⟨b1, o1, rfl, hb1, c0, c1, c2⟩ := acCells hx k hlt
      obtain ⟨b2, o2, rfl, hb2, d0, d1, d2⟩ := acCells hy k hlt'
      have hk1 : (k : Int) < xs.length := by omega
      have hk2 : (k : Int) < ys.length := by omega
      have hk0 : (0 : Int) ≤ k := by omega
      have HD := Lib.hid (eqAcs_drop xs ys k hlt hlt')
      cases he : eqAc xs[k] ys[k]
      · have H1 : Hid (eqAcs xs ys = false) := by unfold Hid; rw [HQ.out, HD.out, he]; rfl
        clear hx hy
        go_wp2
        go_quiet (fail)
        go_wp2
        go_ret
        exact ⟨by rw [H1.out]; rfl, below_drewN (below_drewN (Below.refl _ _) _) _⟩
      · have H1 : Hid (eqAcs xs ys = eqAcs (xs.drop (k + 1)) (ys.drop (k + 1))) := by unfold Hid; rw [HQ.out, HD.out, he]; rfl
        clear hx hy
        go_wp2
        go_quiet (fail)
        go_wp2
        go_roundw
        case rel => exact ⟨k + 1, _, by omega, by go_num, rfl, H1⟩
        case measure => simp [intOf]; omega
    · obtain rfl : k = xs.length := by omega
      have H1 : Hid (eqAcs xs ys = true) := by
        unfold Hid; rw [HQ.out, List.drop_length, HL.out, List.drop_length]; rfl
      clear hx hy
      go_wp2
      go_ret
      exact ⟨by rw [H1.out]; rfl, below_drewN (Below.refl _ _) _⟩

theorem eqAc_self (x : Ac) : eqAc x x = true := by simp [eqAc]
theorem eqAcs_self : ∀ l : List Ac, eqAcs l l = true
  | [] => rfl
  | x :: l => by simp only [eqAcs]; rw [eqAc_self, eqAcs_self l]; rfl

/-- A node and its like are alike. -/
theorem rsame_self (n : Nd) (da aa db ab : Option Addr) (dc ac dd ad : Nat) (w : World) (hf : Fit n) (hD : Cells w.heap.size w da (n.data.map u8v)) (hA : Cells w.heap.size w aa (acCs n.acl)) (hD' : Cells w.heap.size w db (n.data.map u8v)) (hA' : Cells w.heap.size w ab (acCs n.acl)) :
    Calls Tryd.prog 37 #[.agg (ndC n (.slice da n.data.length dc) (.slice aa n.acl.length ac)), .agg (ndC n (.slice db n.data.length dd) (.slice ab n.acl.length ad))] w fun e w' => e = .returned (.bool true) ∧ Below w.heap.size w w' := by
  have hfa := hf.acl
  obtain ⟨W2, hW2⟩ : ∃ W2, W2 = (w.alloc (.cells (ndC n (.slice da n.data.length dc) (.slice aa n.acl.length ac)) 37)).alloc (.cells (ndC n (.slice db n.data.length dd) (.slice ab n.acl.length ad)) 37) := ⟨_, rfl⟩
  have hs2 : W2.heap.size = w.heap.size + 1 + 1 := by rw [hW2]; simp
  have hb2 : Below w.heap.size w W2 := by rw [hW2]; exact ((Below.refl _ _).alloc (Nat.le_refl _) _).alloc (by simp) _
  have hx : Box W2 w.heap.size (ndC n (.slice da n.data.length dc) (.slice aa n.acl.length ac)) := fun j => by rw [hW2]; exact cell_of_row _ _ _ _ _ _ (heap_alloc2_old w _ _)
  have hy : Box W2 (w.heap.size + 1) (ndC n (.slice db n.data.length dd) (.slice ab n.acl.length ad)) := fun j => by rw [hW2]; exact cell_of_row _ _ _ _ _ _ (heap_alloc2_new w _ _)
  have hv1 := conv_string dc (hD.below hb2)
  have hv2 := conv_string dd (hD'.below hb2)
  have CA := racls_any aa ab ac ad n.acl n.acl W2 ((hA.below hb2).mono (by omega)) ((hA'.below hb2).mono (by omega)) (by omega) (by omega)
  rw [eqAcs_self] at CA
  have hgq := guard_q
  have hnq := neq_q
  have hqq : ∀ h a b, eqQ h a b h a b = true := fun h a b => by simp [eqQ]
  rw [hW2] at hv1 hv2 CA
  have CA := Lib.hid CA
  have HW2 := Lib.hid hW2
  unfold ndC at hx hy hv1 hv2 CA HW2 ⊢
  clear hW2 hD hA hD' hA'
  go_enter Tryd.func37, Tryd.ntmps37
  go_wp2_with fail
  refine CA.out.mono ?_
  rintro e w3 ⟨rfl, hb3⟩
  rw [← HW2.out] at hb3
  have hx3 := hx.below hb3 (by omega)
  have hy3 := hy.below hb3 (by omega)
  have hbb := hb2.trans (hb3.mono (by omega))
  unfold Box at hx3 hy3
  clear CA hx hy hv1 hv2 hb3 hb2 HW2
  go_wp2
  go_ret
  exact ⟨rfl, hbb⟩
end Go.Proofs.YtamolbegmkngdaaDoor
namespace Go.Proofs.YtamolbegmkngdaaDoor
open Go.RowKit Go.Sort
set_option maxHeartbeats 4000000
set_option maxRecDepth 100000
attribute [local go_sem] Oper.semAt_some

theorem nodesOf_vals {M : List (Key × Nd)} (h : MSorted M) : nodesOf M (M.map (·.1)) = M.map (·.2) := by
  unfold nodesOf
  rw [List.map_map]
  refine List.map_congr_left fun x hx => ?_
  show (mget M x.1).getD zeroN = x.2
  rw [mget_of_mem h (show (x.1, x.2) ∈ M from hx)]
  rfl

theorem NdsAt.ext {w w' : World} {a : Option Addr} {L : List Nd} (h : NdsAt w.heap.size w a L) (hb : Ext w w') : NdsAt w'.heap.size w' a L := fun i n hi => by
  obtain ⟨b, off, v, h1, h2, h3, h4⟩ := h i n hi
  exact ⟨b, off, v, h1, Nat.lt_of_lt_of_le h2 hb.size, (h3.below hb).mono hb.size, fun j u hj => (hb.cell (p := ⟨b, off + i * 17 + j, none⟩) h2).trans (h4 j u hj)⟩

theorem wp_skipped {P : Program} {Q : Exit → Act → World → Prop} {o : Oper} {a : Act} {w w' : World} {K : Act → World → Prop} (h : (execOp a.eval o).run P w = .ok .skip w') (hk : K (a.put o.dst undef) w') : o.wp P a w K Q := by
  unfold Oper.wp
  rw [h]
  exact hk
theorem infoInt : (Tryd.prog.info? 3).map (·.size) = some 1 := by kernel_rfl
theorem infoBool : (Tryd.prog.info? 4).map (·.size) = some 1 := by kernel_rfl
theorem results_cell_bool {fn : Func} {p : Tmp} {ty : TypeId} (h : fn.results = #[.cell p ty]) (tmps : Array Value) (w : World) (g : Nat) (v : Value)
    (hp : tmps.getD p undef = .pointer (some ⟨g, 0, none⟩)) (hc : w.cell? ⟨g, 0, none⟩ = some v) (hu : Tryd.prog.underlying ty = some .bool) : (results fn tmps).run Tryd.prog w = .ok v w := by
  have hp' : tmps[p]?.getD undef = .pointer (some ⟨g, 0, none⟩) := by simpa using hp
  simp [results, h, hp', asAddr, loadVar, isAgg, run_underlying hu, go_sem, hc]

/-- The first loop's rounds. -/
structure WalkC (S : Nat → Prop) (bt ga N : Nat) (M : List (Key × Nd)) (w W7 : World) (m at' : Nat) (W : World) : Prop where
  one : 1 ≤ m
  le : m ≤ M.length
  tree : TreeAt S W bt (M.take m) N
  box : W.heap[ga]? = some (.cells #[.int .i64 at'] 3 (0, 0))
  cells : ∀ k c e f, W7.heap[k]? = some (.cells c e f) → k ≠ ga → W.heap[k]? = some (.cells c e f)
  size : W7.heap.size ≤ W.heap.size
  keep : Below w.heap.size w W
def WalkI (S : Nat → Prop) (bt ga N : Nat) (M : List (Key × Nd)) (w W7 : World) (stop : Int) (pre : List (Value × Nd)) (W : World) : Prop :=
  (0 < stop → (pre.length : Int) < stop) ∧ ∃ m, WalkC S bt ga N M w W7 m pre.length W ∧ (pre ≠ [] → m = 1)
def WalkX (S : Nat → Prop) (bt ga N : Nat) (M : List (Key × Nd)) (w W7 : World) (stop : Int) (c : Code) (pre : List (Value × Nd)) (W : World) : Prop :=
  c = .exit 0 ∧ (pre.length : Int) = stop ∧ ∃ m, WalkC S bt ga N M w W7 m pre.length W ∧ (1 < pre.length → m = 1)

theorem WalkC.turn {S : Nat → Prop} {bt ga N : Nat} {M : List (Key × Nd)} {w W7 : World} {m p : Nat} {X Y : World} (h : WalkC S bt ga N M w W7 m p X) (hT : Turn W7.heap.size X Y) (hS : ∀ k, S k → k < W7.heap.size) (hw : w.heap.size ≤ W7.heap.size) : WalkC S bt ga N M w W7 m p Y :=
  ⟨h.one, h.le, h.tree.keep (fun k hk => by
      have hlt := h.tree.bound k hk
      rw [hT.same k _ (Array.getElem?_eq_getElem hlt) (.inl (hS k hk)), Array.getElem?_eq_getElem hlt]) (fun _ h => h) (fun k hk => Nat.lt_of_lt_of_le (h.tree.bound k hk) hT.size) (Nat.le_refl _),
    hT.cells h.box, fun k c e f hk hn => hT.cells (h.cells k c e f hk hn), Nat.le_trans h.size hT.size, h.keep.trans (hT.below hw h.keep.size)⟩

theorem ex_load_at {P : Program} {o : Oper} {a : Act} {w : World} {ty : TypeId} {x : Operand} (ho : o.op = .load ty x) (p : Addr) (hx : a.eval x = .pointer (some p)) (cs : Array Value) (hc : ∀ j u, cs[j]? = some u → w.cell? (p.add j) = some u) {d : TypeDesc}
    (hu : P.underlying ty = some d) (hd : oneD d = false) (hi : (P.info? ty).map (·.size) = some cs.size) : (execOp a.eval o).run P w = .ok (.value (.agg cs)) w := by
  unfold execOp
  simp only [ho, hx, Instr.loadAt, Instr.sureAddr, Sem.run_bind, Sem.run_pure, Result.andThen_ok, run_loadVar_at w p ty cs d hc hu hd hi]

theorem nds_parts {S : Nat → Prop} {w : World} {n : Nd} {da aa : Option Addr} {dc ac : Nat} (h : NdS S w (.agg (ndC n (.slice da n.data.length dc) (.slice aa n.acl.length ac))) n) : CellsS S w da (n.data.map u8v) ∧ CellsS S w aa (acCs n.acl) := by
  obtain ⟨da', dc', aa', ac', e4, h4, h5⟩ := h
  simp only [Value.agg.injEq] at e4
  have q1 := congrArg (·[1]?) e4
  have q2 := congrArg (·[2]?) e4
  simp [ndC] at q1 q2
  rw [q1.1, q2.1]
  exact ⟨h4, h5⟩

/-- What a round's steps keep. -/
structure Kp (B ga : Nat) (W W' : World) : Prop where
  recs : KeepsRec B W W'
  cells : KeepS (fun _ k => k ≠ ga) W W'
theorem Kp.trans {B ga : Nat} {X Y Z : World} (h : Kp B ga X Y) (k : Kp B ga Y Z) : Kp B ga X Z :=
  ⟨h.recs.trans k.recs, Nat.le_trans h.cells.1 k.cells.1, fun i c e f hi hs => k.cells.2 i c e f (h.cells.2 i c e f hi hs).1 hs⟩
theorem Kp.ext {B ga : Nat} {W W' : World} (h : Ext W W') : Kp B ga W W' :=
  ⟨KeepsRec.of_ext h, h.size, fun _ _ _ _ hk hs => ⟨(h.block _ (Array.getElem?_eq_some_iff.1 hk).1).trans hk, hs⟩⟩
theorem Kp.set {B ga : Nat} (W : World) (cs : Array Value) (h : ga < B) : Kp B ga W (W.setRow ga cs) :=
  ⟨⟨by simp, fun k o hB hk _ => (setRow_other _ _ _ _ (by omega)).trans hk⟩, by simp, fun k c e f hk hs => ⟨(setRow_other _ _ _ _ hs).trans hk, hs⟩⟩
theorem Kp.mod {B ga : Nat} {S : Nat → Prop} {W W' : World} (h : Mod S W W') (hS : ∀ k, S k → k < B) : Kp B ga W W' :=
  ⟨⟨h.size, fun k o hB hk _ => h.same k o hk (.inl fun hs => by have := hS k hs; omega)⟩, h.size, fun _ _ _ _ hk hs => ⟨h.cells hk, hs⟩⟩
theorem WalkC.ext {S : Nat → Prop} {bt ga N : Nat} {M : List (Key × Nd)} {w W7 : World} {m p : Nat} {X Y : World} (h : WalkC S bt ga N M w W7 m p X) (hE : Ext X Y) (hS : ∀ k, S k → k < W7.heap.size) (hw : w.heap.size ≤ W7.heap.size) : WalkC S bt ga N M w W7 m p Y :=
  h.turn (Turn.of_ext hE) hS hw
theorem WalkC.bump {S : Nat → Prop} {bt ga N : Nat} {M : List (Key × Nd)} {w W7 : World} {m p q : Nat} {X : World} (h : WalkC S bt ga N M w W7 m p X) (hS : ∀ k, S k → k ≠ ga) (hw : w.heap.size ≤ ga) : WalkC S bt ga N M w W7 m q (X.setRow ga #[.int .i64 q]) :=
  ⟨h.one, h.le, h.tree.keep (fun k hk => setRow_other _ _ _ _ (hS k hk)) (fun _ h => h) (fun k hk => by simpa using h.tree.bound k hk) (Nat.le_refl _),
    setRow_heap _ _ _ _ _ _ h.box, fun k c e f hk hn => (setRow_other _ _ _ _ hn).trans (h.cells k c e f hk hn), by simpa using h.size, h.keep.trans ⟨rfl, rfl, rfl, by simp, fun k hk => setRow_other _ _ _ _ (by omega)⟩⟩
theorem WalkC.cell {S : Nat → Prop} {bt ga N : Nat} {M : List (Key × Nd)} {w W7 : World} {m p : Nat} {X : World} (h : WalkC S bt ga N M w W7 m p X) {b o : Nat} {u : Value} (hu : W7.cell? ⟨b, o, none⟩ = some u) (hb : b ≠ ga) : X.cell? ⟨b, o, none⟩ = some u := by
  obtain ⟨c', e', f', hk'⟩ := cell_cells hu
  rw [World.cell?_of_block ((h.cells b c' e' f' hk' hb).trans hk'.symm)]
  exact hu


/-- One removal within the first loop. -/
theorem WalkC.rem {S : Nat → Prop} {bt ga N : Nat} {M : List (Key × Nd)} {w W7 : World} {m m' p : Nat} {X Y : World} (h : WalkC S bt ga N M w W7 m p X) (hS : ∀ k, S k → k ≠ ga ∧ w.heap.size ≤ k) (h1 : 1 ≤ m') (hl : m' ≤ M.length) (hT : TreeAt S Y bt (M.take m') N) (hM : Mod S X Y) : WalkC S bt ga N M w W7 m' p Y :=
  ⟨h1, hl, hT, hM.cells h.box, fun k c e f hk hn => hM.cells (h.cells k c e f hk hn), Nat.le_trans h.size hM.size, h.keep.trans (hM.below (fun k hk => (hS k hk).2) h.keep.size)⟩
end Go.Proofs.YtamolbegmkngdaaDoor
namespace Go.Proofs.YtamolbegmkngdaaDoor
open Go.RowKit
set_option maxHeartbeats 2000000

section
variable {P : Program} {o : Oper} {a : Act} {w : World}
theorem run_store_in (ty : TypeId) (x y : Operand) (ho : o.op = .store ty x y) (g k : Nat) (v : Value) (hx : a.eval x = .pointer (some ⟨g, k, none⟩)) (hy : a.eval y = v) (h1 : ∀ u ∈ v.cells.toList, u.oneCell' = true)
    (t : TypeId) (cur : Array Value) (hg : w.heap[g]? = some (.cells cur t (0, 0))) (hk : k + v.cells.size ≤ cur.size) (hi : (P.info? ty).map (·.size) = some v.cells.size) :
    (execOp a.eval o).run P w = .ok .skip (w.setRow g (cur.toList.take k ++ v.cells.toList ++ cur.toList.drop (k + v.cells.toList.length)).toArray) := by
  subst hy
  have hst := run_storeCells_at P g k t (a.eval y).cells.toList 0 cur w hg (by simpa using hk) h1
  simp only [Nat.add_zero] at hst
  cases hq : P.info? ty with
  | none => simp [hq] at hi
  | some i =>
    have hs : i.size = (a.eval y).cells.size := by simpa [hq] using hi
    unfold execOp
    simp only [ho, hx, Instr.storeAt, Instr.sureAddr, Sem.run_bind, Sem.run_pure, Result.andThen_ok]
    simp [storeVar, sizeOf, typeInfo, hq, hs, hst, Result.andThen]

theorem wpList_store_in {ops : Array Oper} {rest : List Oper} {Q : Exit → Act → World → Prop} (hgd : o.guard = none) (ty : TypeId) (x y : Operand) (ho : o.op = .store ty x y) (g k : Nat) (v : Value) (hx : a.eval x = .pointer (some ⟨g, k, none⟩)) (hy : a.eval y = v) (h1 : ∀ u ∈ v.cells.toList, u.oneCell' = true)
    (t : TypeId) (cur : Array Value) (hg : w.heap[g]? = some (.cells cur t (0, 0))) (hk : k + v.cells.size ≤ cur.size) (hi : (P.info? ty).map (·.size) = some v.cells.size) (cs : Array Value) (hcs : (cur.toList.take k ++ v.cells.toList ++ cur.toList.drop (k + v.cells.toList.length)).toArray = cs)
    (h : wpList P ops Q rest (a.put o.dst undef) (w.setRow g cs)) : wpList P ops Q (o :: rest) a w :=
  wpList_plain hgd fun K hK => wp_skipped (run_store_in ty x y ho g k v hx hy h1 t cur hg hk hi) (by rw [hcs]; exact hK _ _ h)

theorem wp_store_in {K : Act → World → Prop} {Q : Exit → Act → World → Prop} (ty : TypeId) (x y : Operand) (g k : Nat) (v : Value) (t : TypeId) (cur cs : Array Value) (hg : w.heap[g]? = some (.cells cur t (0, 0))) (hk : k + v.cells.size ≤ cur.size) (hi : (P.info? ty).map (·.size) = some v.cells.size)
    (hcs : (cur.toList.take k ++ v.cells.toList ++ cur.toList.drop (k + v.cells.toList.length)).toArray = cs) (h1 : ∀ u ∈ v.cells.toList, u.oneCell' = true) (hK : K (a.put o.dst undef) (w.setRow g cs))
    (ho : o.op = .store ty x y) (hx : a.eval x = .pointer (some ⟨g, k, none⟩)) (hy : a.eval y = v) : o.wp P a w K Q :=
  wp_skipped (run_store_in ty x y ho g k v hx hy h1 t cur hg hk hi) (by rw [hcs]; exact hK)

theorem step_append_own {ops : Array Oper} {K : Act → World → Prop} {Q : Exit → Act → World → Prop} {E : Prop}
    (hg : o.guard = none) (s x : Operand) (t tx : TypeId) (hop : o.op = Op.call { callee := Callee.builtin Builtin.append, args := #[s, x], argTypes := #[t, tx] })
    (base : Nat) (e : TypeId) (i : TypeInfo) (z : Value) (size bytes : Nat) (ht : P.underlying t = some (.slice e)) (hi : P.info? e = some i) (hz : i.zero = some z) (hsize : i.size = size) (hby : i.bytes = bytes) (hzs : z.cells.size = size) (hsz : 0 < size)
    (v : Value) (n : Nat) (xs : List Value) (hv : a.eval s = v) (hown : w.ownsRow base e size v n xs)
    (xv : Value) (m : Nat) (news : List Value) (hx : a.eval x = xv) (hs : Src P size tx xv m news w)
    (h63 : n + m ≤ maxLen) (hbytes : (n + m) * bytes ≤ 140737488355328) (hbase : base ≤ w.heap.size)
    (hK : ∀ v' w', w'.ownsRow base e size v' (n + m) (xs ++ news) → w.grownBy w' v.ownBlock → (v'.ownBlock = v.ownBlock ∨ v'.ownBlock = some w.heap.size) → K (a.put o.dst v') w') :
    if Region.wanted o (yielded ops a.tmps) = true then Oper.wp P o a w K Q else E := by
  have hw : Region.wanted o (yielded ops a.tmps) = true := by simp [Region.wanted, hg]
  rw [if_pos hw]
  obtain ⟨v', w', hr, h2, h3, _, h5⟩ := run_append_own_src (P := P) w base t tx o.type e i z size bytes ht hi hz hsize hby hzs hsz v n xs hown xv m news hs h63 hbytes hbase
  unfold Oper.wp execOp
  simp only [hop, resolve, invoke, builtin, Sem.run_bind, Sem.run_pure, Result.andThen_ok, List.map_toArray, List.map_cons, List.map_nil, hv, hx, hr]
  exact hK v' w' h2 h3 h5
end

/-- All is as it was, but for blocks of a set. -/
structure Chg (S : Nat → Prop) (w w' : World) : Prop where
  os : w'.os = w.os
  tape : w'.tape = w.tape
  output : w'.output = w.output
  size : w.heap.size ≤ w'.heap.size
  same : ∀ k, k < w.heap.size → ¬ S k → w'.heap[k]? = w.heap[k]?
theorem Chg.refl (S : Nat → Prop) (w : World) : Chg S w w := ⟨rfl, rfl, rfl, Nat.le_refl _, fun _ _ _ => rfl⟩
theorem Chg.trans {S S' : Nat → Prop} {a b c : World} (h : Chg S a b) (k : Chg S' b c) (hS : ∀ i, i < a.heap.size → S' i → S i) : Chg S a c :=
  ⟨k.os.trans h.os, k.tape.trans h.tape, k.output.trans h.output, Nat.le_trans h.size k.size, fun i hi hn => (k.same i (Nat.lt_of_lt_of_le hi h.size) fun hs => hn (hS i hi hs)).trans (h.same i hi hn)⟩
theorem Chg.of_ext {S : Nat → Prop} {a b : World} (h : Ext a b) : Chg S a b := ⟨h.os, h.tape, h.output, h.size, fun k hk _ => h.block k hk⟩
theorem Chg.set {S : Nat → Prop} (r : Nat) (w : World) (cs : Array Value) (hr : S r) : Chg S w (w.setRow r cs) := ⟨rfl, rfl, rfl, by simp, fun k _ hn => setRow_other _ _ _ _ fun e => hn (e ▸ hr)⟩
theorem Chg.grown {S : Nat → Prop} {a b : World} {row : Option Nat} (h : a.grownBy b row) (hr : ∀ k, row = some k → k < a.heap.size → S k) : Chg S a b :=
  ⟨h.os, h.tape, h.output, h.size, fun k hk hn => h.block k hk fun e => hn (hr k e.symm hk)⟩
theorem Chg.below {S : Nat → Prop} {B : Nat} {w w' : World} (h : Chg S w w') (hB : ∀ k, S k → B ≤ k) (hs : B ≤ w.heap.size) : Below B w w' :=
  ⟨h.os, h.tape, h.output, h.size, fun k hk => h.same k (by omega) fun hs => by have := hB k hs; omega⟩
theorem Chg.mono {S S' : Nat → Prop} {w w' : World} (h : Chg S w w') (hS : ∀ k, k < w.heap.size → S k → S' k) : Chg S' w w' := ⟨h.os, h.tape, h.output, h.size, fun k hk hn => h.same k hk fun hs => hn (hS k hk hs)⟩
end Go.Proofs.YtamolbegmkngdaaDoor
