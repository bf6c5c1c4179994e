/- A region that draws its order, with one operation that turns memory (an append) ahead of all that follow it in the text. A region that draws its order, its operations turning memory: an invariant that knows which of them are done. The walks of maps.EqualFunc at two maps of the same nodes, and of tree.Same. The walk of the law's Nodes at two lists of the same nodes. What is under a path: itself and what is under its children. The list that grows while its places are gone through: in the end it holds what is under the first. The list under a path, sorted. The walk of paths.Join. Joining a node's path and a child's last part gives the child's path. -/
import Derived.Test.YtamolbegmkngdaaDoorJTreeOrder8
import Derived.Test.YtamolbegmkngdaaDoorJTreeOrder6
import Derived.Test.YtamolbegmkngdaaDoorJTreeOrder7
import Derived.Test.YtamolbegmkngdaaDoorJTreeOrder4
import Derived.Lib.IndexLaws
namespace Go.Proofs.YtamolbegmkngdaaDoor
open Go.RowKit
section
variable {P : Program} {ops : Array Oper} {Q : Exit → Act → World → Prop} {a0 : Act} {w0 : World}

/-- Does i wait for j? -/
def reachB (ops : Array Oper) : Nat → Nat → Nat → Bool
  | 0, i, j => i == j
  | f + 1, i, j => i == j || (ops[i]?.any fun o => o.after.toList.any fun e => Region.binds .any e && reachB ops f e.on j)
def Closed (ops : Array Oper) (l : Array Bool) : Prop := ∀ (i : Nat) o, ops[i]? = some o → l.getD i false = true → ∀ e ∈ o.after.toList, Region.binds .any e = true → l.getD e.on false = true
theorem Closed.reach {l : Array Bool} (h : Closed ops l) : ∀ (f i j : Nat), reachB ops f i j = true → l.getD i false = true → l.getD j false = true
  | 0, i, j, hr, hi => by simp [reachB] at hr; rw [← hr]; exact hi
  | f + 1, i, j, hr, hi => by
    simp only [reachB, Bool.or_eq_true, beq_iff_eq] at hr
    rcases hr with rfl | hr
    · exact hi
    · obtain ⟨o, ho, he⟩ := (Option.any_eq_true _ _).1 hr
      obtain ⟨e, hem, h2⟩ := List.any_eq_true.1 he
      simp only [Bool.and_eq_true] at h2
      exact h.reach f e.on j h2.2 (h i o ho hi e hem h2.1)

/-- An operation's duty: p is the one that turns memory; b: has it been? -/
def DutyP (P : Program) (ops : Array Oper) (Q : Exit → Act → World → Prop) (p : Nat) (G : Bool → World → Prop) (Φ : Nat → Value → World → Prop) (a0 : Act) (i : Nat) (o : Oper) : Prop :=
  ∀ b a w, (reachB ops ops.size p i = true → b = false) → (p < i → b = true) → G b w → Framed ops a0 a → Ahead ops Φ o a w →
    o.wp P a w (fun a' w' => ∃ v, a' = a.put o.dst v ∧ Φ i v w' ∧ (∀ j u, j ≠ i → (i = p → j < p) → Φ j u w → Φ j u w') ∧ G (b || i == p) w') Q
def DutiesP (P : Program) (ops : Array Oper) (Q : Exit → Act → World → Prop) (p : Nat) (G : Bool → World → Prop) (Φ : Nat → Value → World → Prop) (a0 : Act) : Nat → List Oper → Prop
  | _, [] => True
  | i, o :: l => DutyP P ops Q p G Φ a0 i o ∧ DutiesP P ops Q p G Φ a0 (i + 1) l
theorem DutiesP.at {p : Nat} {G : Bool → World → Prop} {Φ : Nat → Value → World → Prop} : ∀ {l : List Oper} {k : Nat}, DutiesP P ops Q p G Φ a0 k l → ∀ i o, l[i]? = some o → DutyP P ops Q p G Φ a0 (k + i) o
  | [], _, _, i, o, h => by simp at h
  | q :: l, k, hd, 0, o, h => by simp at h; subst h; exact hd.1
  | q :: l, k, hd, i + 1, o, h => by
    have := DutiesP.at (k := k + 1) hd.2 i o (by simpa using h)
    rwa [show k + 1 + i = k + (i + 1) from by omega] at this

/-- All that stand behind p wait for it. -/
def behindB (ops : Array Oper) (p : Nat) : Bool := ops.toList.zipIdx.all fun x => decide (x.2 ≤ p) || x.1.after.toList.any fun e => e.on == p && Region.binds .any e

theorem region_pivot (m p : Nat) (G : Bool → World → Prop) (hGd : G false w0.drew) (Φ : Nat → Value → World → Prop)
    (hund : ∀ i v w, Φ i v w → (ops[i]?.any fun o => o.dst.isNone) = true → Φ i undef w)
    (hchk : (dstsOk ops && aheadB ops && behindB ops p && (ops.toList.all fun o => o.guard.isNone && o.dst.all fun d => decide (d < m))) = true) (hsz : a0.tmps.size = m) (hp : p < ops.size)
    (hd : DutiesP P ops Q p G Φ a0 0 ops.toList)
    (hend : ∀ us w, G true w → us.length = ops.toList.length → (∀ i u, us[i]? = some u → Φ i u w) → Q .normal (filled ops.toList us a0) w) :
    RegionP P ops Q a0 w0 := by
  simp only [Bool.and_eq_true] at hchk
  obtain ⟨⟨⟨hdst, hacy⟩, hbeh⟩, hall⟩ := hchk
  have hin : ∀ o ∈ ops.toList, ∀ d, o.dst = some d → d < a0.tmps.size := fun o ho d hd => by
    have := List.all_eq_true.1 hall o ho
    simp only [Bool.and_eq_true] at this
    have := this.2
    rw [hd] at this
    rw [hsz]; simpa using this
  have hng : ∀ o ∈ ops.toList, o.guard = none := fun o ho => by
    have := List.all_eq_true.1 hall o ho
    simp only [Bool.and_eq_true] at this
    simpa using this.1
  have hdn : (ops.toList.filterMap (·.dst)).Nodup := by simpa [dstsOk] using hdst
  unfold RegionP
  refine wpAny_inv (fun l a w => l.size = ops.size ∧ G (l.getD p false) w ∧ Framed ops a0 a ∧ (∀ i o, ops[i]? = some o → l.getD i false = true → Φ i (valOf o a) w) ∧ Closed ops l) (fun _ _ _ h => h.1) ?_ ?_ _ _ _ _ ?_ ?_
  · rintro l a w i ⟨hs, hE, hF, hP, hC⟩ hi
    obtain ⟨hlt, hu, hpre⟩ := (ready_iff hs).1 hi
    have ho : ops[i]? = some ops[i] := Array.getElem?_eq_getElem hlt
    have hol : ops.toList[i]? = some ops[i] := by simp
    have hmem : ops[i] ∈ ops.toList := by simp
    have hduty := hd.at i ops[i] hol
    rw [Nat.zero_add] at hduty
    have hip : p < i → l.getD p false = true := fun hlt' => by
      have := List.all_eq_true.1 hbeh (ops[i], i) (List.mem_of_getElem? (i := i) (by simp [List.getElem?_zipIdx]))
      simp only [Bool.or_eq_true, decide_eq_true_eq, List.any_eq_true, Bool.and_eq_true, beq_iff_eq] at this
      rcases this with h | ⟨e, he, h1, h2⟩
      · omega
      · rw [← h1]; exact hpre e he h2
    have hgo := hduty (l.getD p false) a w (fun e => by
      cases hq : l.getD p false with
      | false => rfl
      | true => have := hC.reach _ _ _ e hq; rw [hu] at this; cases this) hip hE hF (fun e he hb q hq => hP e.on q hq (hpre e he hb))
    unfold wpOpP
    rw [ho]
    simp only []
    rw [if_pos (by unfold Region.wanted; rw [hng _ hmem])]
    refine Oper.wp_mono (fun a' w' h => ?_) hgo
    obtain ⟨v, rfl, hv, hk, hG'⟩ := h
    have hgp : (l.setIfInBounds i true).getD p false = (l.getD p false || i == p) := by
      by_cases e : p = i
      · subst e
        rw [getD_set_same (by omega)]; simp
      · rw [getD_set_other e]
        have : (i == p) = false := by simpa using fun h => e h.symm
        rw [this, Bool.or_false]
    refine ⟨by simpa using hs, by rw [hgp]; exact hG', framed_put hF hmem v, fun j o hj hlj => ?_, fun j o hj hlj e he hb => ?_⟩
    · by_cases e : j = i
      · subst e
        rw [ho] at hj
        obtain rfl := Option.some.inj hj
        by_cases hdd : ops[j].dst = none
        · have : valOf ops[j] (a.put ops[j].dst v) = undef := by unfold valOf; rw [hdd]
          rw [this]
          exact hund j v w' hv (by rw [ho]; simp [hdd])
        · rw [valOf_put_same (fun d hd => by rw [hF.2.1]; exact hin _ hmem d hd) (fun h => absurd h hdd)]
          exact hv
      · rw [getD_set_other e] at hlj
        rw [valOf_put_other (fun d hd h => e (dst_inj ops.toList hdn j i o ops[i] d (by simpa using hj) hol hd h))]
        refine hk j _ e (fun hip' => ?_) (hP j o hj hlj)
        subst hip'
        rcases Nat.lt_trichotomy j i with h1 | h1 | h1
        · exact h1
        · exact absurd h1 e
        · have := List.all_eq_true.1 hbeh (o, j) (List.mem_of_getElem? (i := j) (by rw [List.getElem?_zipIdx, show ops.toList[j]? = some o by simpa using hj]; simp))
          simp only [Bool.or_eq_true, decide_eq_true_eq, List.any_eq_true, Bool.and_eq_true, beq_iff_eq] at this
          rcases this with h | ⟨e', he, h3, h2⟩
          · omega
          · have h4 := hC j o hj hlj e' he h2
            rw [h3, hu] at h4; cases h4
    · by_cases hei : e.on = i
      · rw [hei]; exact getD_set_same (by omega)
      · rw [getD_set_other hei]
        by_cases hji : j = i
        · subst hji
          rw [ho] at hj
          obtain rfl := Option.some.inj hj
          exact hpre e he hb
        · rw [getD_set_other hji] at hlj
          exact hC j o hj hlj e he hb
  · rintro l a w ⟨hs, hE, hF, hP, _⟩ hr
    have hdone : ∀ i, i < ops.size → l.getD i false = true := fun i hi => ready_none hs hacy hr (i + 1) i (by omega) hi
    rw [hdone p hp] at hE
    rw [framed_filled hF ops.toList (fun _ h => h) (fun _ h => .inl h) hin]
    refine hend _ w hE (by simp) fun i u hu => ?_
    rw [List.getElem?_map, Option.map_eq_some_iff] at hu
    obtain ⟨o, ho, rfl⟩ := hu
    exact hP i o (by simpa using ho) (hdone i (Array.getElem?_eq_some_iff.1 (show ops[i]? = some o by simpa using ho)).1)
  · have hf : ∀ i, (Array.replicate ops.size false).getD i false = false := fun i => by
      rw [Array.getD_eq_getD_getElem?, Array.getElem?_replicate]; split <;> rfl
    refine ⟨by simp, by rw [hf]; exact hGd, ⟨rfl, rfl, fun _ _ => rfl⟩, ?_, ?_⟩
    · intro i o _ h
      rw [hf] at h; cases h
    · intro i o _ h
      rw [hf] at h; cases h
  · unfold unlisted
    exact Nat.le_trans (List.count_le_length) (by simp)
theorem dutyP_ext {p i : Nat} {o : Oper} {G : Bool → World → Prop} {Φ : Nat → Value → World → Prop} (hip : (i == p) = false) (hst : ∀ j u w w', Φ j u w → Ext w w' → Φ j u w') (hG : ∀ b w w', G b w → Ext w w' → G b w')
    (h : ∀ b a w, (reachB ops ops.size p i = true → b = false) → G b w → Framed ops a0 a → Ahead ops Φ o a w → o.wp P a w (fun a' w' => ∃ v, a' = a.put o.dst v ∧ Φ i v w' ∧ Ext w w') Q) : DutyP P ops Q p G Φ a0 i o := by
  intro b a w hb _ hGw hF hA
  refine Oper.wp_mono (fun a' w' hh => ?_) (h b a w hb hGw hF hA)
  obtain ⟨v, rfl, hv, hE⟩ := hh
  exact ⟨v, rfl, hv, fun j u _ _ hj => hst j u _ _ hj hE, by rw [hip, Bool.or_false]; exact hG _ _ _ hGw hE⟩
end
end Go.Proofs.YtamolbegmkngdaaDoor
namespace Go.Proofs.YtamolbegmkngdaaDoor
open Go.RowKit
section
variable {P : Program} {ops : Array Oper} {Q : Exit → Act → World → Prop} {a0 : Act} {w0 : World}

/-- An operation's duty; l: which are done. Φ speaks of values alone. -/
def DutyS (P : Program) (ops : Array Oper) (Q : Exit → Act → World → Prop) (G : (Nat → Bool) → World → Prop) (Φ : Nat → Value → Prop) (a0 : Act) (i : Nat) (o : Oper) : Prop :=
  ∀ (d : Nat → Bool) a w, d i = false → (∀ f k j, reachB ops f k j = true → d k = true → d j = true) → (∀ e ∈ o.after.toList, Region.binds .any e = true → d e.on = true) → G d w → Framed ops a0 a → Ahead ops (fun i v _ => Φ i v) o a w →
    o.wp P a w (fun a' w' => ∃ v, a' = a.put o.dst v ∧ Φ i v ∧ G (fun k => d k || k == i) w') Q
def DutiesS (P : Program) (ops : Array Oper) (Q : Exit → Act → World → Prop) (G : (Nat → Bool) → World → Prop) (Φ : Nat → Value → Prop) (a0 : Act) : Nat → List Oper → Prop
  | _, [] => True
  | i, o :: l => DutyS P ops Q G Φ a0 i o ∧ DutiesS P ops Q G Φ a0 (i + 1) l
theorem DutiesS.at {G : (Nat → Bool) → World → Prop} {Φ : Nat → Value → Prop} : ∀ {l : List Oper} {k : Nat}, DutiesS P ops Q G Φ a0 k l → ∀ i o, l[i]? = some o → DutyS P ops Q G Φ a0 (k + i) o
  | [], _, _, i, o, h => by simp at h
  | q :: l, k, hd, 0, o, h => by simp at h; subst h; exact hd.1
  | q :: l, k, hd, i + 1, o, h => by
    have := DutiesS.at (k := k + 1) hd.2 i o (by simpa using h)
    rwa [show k + 1 + i = k + (i + 1) from by omega] at this

theorem region_state (m : Nat) (G : (Nat → Bool) → World → Prop) (hG0 : G (fun _ => false) w0.drew) (Φ : Nat → Value → Prop)
    (hchk : (dstsOk ops && aheadB ops && (ops.toList.all fun o => o.guard.isNone && o.dst.any fun d => decide (d < m))) = true) (hsz : a0.tmps.size = m)
    (hd : DutiesS P ops Q G Φ a0 0 ops.toList)
    (hend : ∀ us d w, (∀ i, i < ops.size → d i = true) → G d w → us.length = ops.toList.length → (∀ i u, us[i]? = some u → Φ i u) → Q .normal (filled ops.toList us a0) w) :
    RegionP P ops Q a0 w0 := by
  simp only [Bool.and_eq_true] at hchk
  obtain ⟨⟨hdst, hacy⟩, hall⟩ := hchk
  have hdd : ∀ o ∈ ops.toList, ∃ d, o.dst = some d ∧ d < a0.tmps.size := fun o ho => by
    have := List.all_eq_true.1 hall o ho
    simp only [Bool.and_eq_true] at this
    have h2 := this.2
    cases hq : o.dst with
    | none => rw [hq] at h2; cases h2
    | some d => rw [hq] at h2; exact ⟨d, rfl, by rw [hsz]; simpa using h2⟩
  have hin : ∀ o ∈ ops.toList, ∀ d, o.dst = some d → d < a0.tmps.size := fun o ho d hd => by
    obtain ⟨d', h1, h2⟩ := hdd o ho
    rw [hd] at h1
    rw [Option.some.inj h1]; exact h2
  have hng : ∀ o ∈ ops.toList, o.guard = none := fun o ho => by
    have := List.all_eq_true.1 hall o ho
    simp only [Bool.and_eq_true] at this
    simpa using this.1
  have hdn : (ops.toList.filterMap (·.dst)).Nodup := by simpa [dstsOk] using hdst
  unfold RegionP
  refine wpAny_inv (fun l a w => l.size = ops.size ∧ G (fun k => l.getD k false) w ∧ Framed ops a0 a ∧ (∀ i o, ops[i]? = some o → l.getD i false = true → Φ i (valOf o a)) ∧ Closed ops l) (fun _ _ _ h => h.1) ?_ ?_ _ _ _ _ ?_ ?_
  · rintro l a w i ⟨hs, hE, hF, hP, hC⟩ hi
    obtain ⟨hlt, hu, hpre⟩ := (ready_iff hs).1 hi
    have ho : ops[i]? = some ops[i] := Array.getElem?_eq_getElem hlt
    have hol : ops.toList[i]? = some ops[i] := by simp
    have hmem : ops[i] ∈ ops.toList := by simp
    have hduty := hd.at i ops[i] hol
    rw [Nat.zero_add] at hduty
    have hgo := hduty (fun k => l.getD k false) a w hu (fun f k j h hk => hC.reach f k j h hk) (fun e he hb => hpre e he hb) hE hF (fun e he hb q hq => hP e.on q hq (hpre e he hb))
    unfold wpOpP
    rw [ho]
    simp only []
    rw [if_pos (by unfold Region.wanted; rw [hng _ hmem])]
    refine Oper.wp_mono (fun a' w' h => ?_) hgo
    obtain ⟨v, rfl, hv, hG'⟩ := h
    have hgp : (fun k => (l.setIfInBounds i true).getD k false) = fun k => l.getD k false || k == i := by
      funext k
      by_cases e : k = i
      · subst e
        rw [getD_set_same (by omega)]; simp
      · rw [getD_set_other e]
        have : (k == i) = false := by simpa using e
        rw [this, Bool.or_false]
    refine ⟨by simpa using hs, by rw [hgp]; exact hG', framed_put hF hmem v, fun j o hj hlj => ?_, fun j o hj hlj e he hb => ?_⟩
    · by_cases e : j = i
      · subst e
        rw [ho] at hj
        obtain rfl := Option.some.inj hj
        obtain ⟨d, hd1, _⟩ := hdd _ hmem
        rw [valOf_put_same (fun d hd => by rw [hF.2.1]; exact hin _ hmem d hd) (fun h => by rw [hd1] at h; cases h)]
        exact hv
      · rw [getD_set_other e] at hlj
        rw [valOf_put_other (fun d hd h => e (dst_inj ops.toList hdn j i o ops[i] d (by simpa using hj) hol hd h))]
        exact hP j o hj hlj
    · by_cases hei : e.on = i
      · rw [hei]; exact getD_set_same (by omega)
      · rw [getD_set_other hei]
        by_cases hji : j = i
        · subst hji
          rw [ho] at hj
          obtain rfl := Option.some.inj hj
          exact hpre e he hb
        · rw [getD_set_other hji] at hlj
          exact hC j o hj hlj e he hb
  · rintro l a w ⟨hs, hE, hF, hP, _⟩ hr
    have hdone : ∀ i, i < ops.size → l.getD i false = true := fun i hi => ready_none hs hacy hr (i + 1) i (by omega) hi
    rw [framed_filled hF ops.toList (fun _ h => h) (fun _ h => .inl h) hin]
    refine hend _ _ w hdone hE (by simp) fun i u hu => ?_
    rw [List.getElem?_map, Option.map_eq_some_iff] at hu
    obtain ⟨o, ho, rfl⟩ := hu
    exact hP i o (by simpa using ho) (hdone i (Array.getElem?_eq_some_iff.1 (show ops[i]? = some o by simpa using ho)).1)
  · have hf : ∀ i, (Array.replicate ops.size false).getD i false = false := fun i => by
      rw [Array.getD_eq_getD_getElem?, Array.getElem?_replicate]; split <;> rfl
    refine ⟨by simp, by simp only [hf]; exact hG0, ⟨rfl, rfl, fun _ _ => rfl⟩, ?_, ?_⟩
    · intro i o _ h
      rw [hf] at h; cases h
    · intro i o _ h
      rw [hf] at h; cases h
  · unfold unlisted
    exact Nat.le_trans (List.count_le_length) (by simp)

theorem region_state_vals (m : Nat) (G : (Nat → Bool) → World → Prop) (hG0 : G (fun _ => false) w0.drew) (vals : List Value) (hlen : vals.length = ops.toList.length)
    (hchk : (dstsOk ops && aheadB ops && (ops.toList.all fun o => o.guard.isNone && o.dst.any fun d => decide (d < m))) = true) (hsz : a0.tmps.size = m)
    (hd : DutiesS P ops Q G (fun i v => vals[i]? = some v) a0 0 ops.toList)
    (hend : ∀ d w, (∀ i, i < ops.size → d i = true) → G d w → Q .normal (filled ops.toList vals a0) w) : RegionP P ops Q a0 w0 := by
  refine region_state m G hG0 (fun i v => vals[i]? = some v) hchk hsz hd fun us d w hdn hG hl hP => ?_
  have : us = vals := List.ext_getElem? fun i => by
    by_cases hi : i < us.length
    · rw [hP i us[i] (List.getElem?_eq_getElem hi), List.getElem?_eq_getElem hi]
    · rw [List.getElem?_eq_none (by omega), List.getElem?_eq_none (by omega)]
  rw [this]
  exact hend d w hdn hG

/-- An operation that only reads. -/
theorem dutyS_ext {i : Nat} {o : Oper} {G : (Nat → Bool) → World → Prop} {Φ : Nat → Value → Prop} (hG : ∀ d d' w w', G d w → Ext w w' → (∀ k, k ≠ i → d' k = d k) → G d' w')
    (h : ∀ d a w, G d w → Framed ops a0 a → Ahead ops (fun i v _ => Φ i v) o a w → o.wp P a w (fun a' w' => ∃ v, a' = a.put o.dst v ∧ Φ i v ∧ Ext w w') Q) : DutyS P ops Q G Φ a0 i o := by
  intro d a w _ _ _ hGw hF hA
  refine Oper.wp_mono (fun a' w' hh => ?_) (h d a w hGw hF hA)
  obtain ⟨v, rfl, hv, hE⟩ := hh
  exact ⟨v, rfl, hv, hG d _ _ _ hGw hE fun k hk => by
    have : (k == i) = false := by simpa using hk
    rw [this, Bool.or_false]⟩
end
end Go.Proofs.YtamolbegmkngdaaDoor
namespace Go.Proofs.YtamolbegmkngdaaDoor
open Go.RowKit
set_option maxHeartbeats 4000000
set_option maxRecDepth 100000

theorem wpList_load_row_g {P : Program} {ops : Array Oper} {rest : List Oper} {o : Oper} {a : Act} {Q : Exit → Act → World → Prop} {w : World} (hw : Region.wanted o (yielded ops a.tmps) = true) (ty : TypeId) (x : Operand) (ho : o.op = .load ty x) (g : Nat) (hx : a.eval x = .pointer (some ⟨g, 0, none⟩)) (t : TypeId) (cs : Array Value) (fr : Nat × Nat) (d : TypeDesc) (hg : w.heap[g]? = some (.cells cs t fr))
    (hu : P.underlying ty = some d) (hd : (match d with | .struct _ | .array _ _ => true | _ => false) = true) (hi : (P.info? ty).map (·.size) = some cs.size)
    (hK : wpList P ops Q rest (a.put o.dst (.agg cs)) w) : wpList P ops Q (o :: rest) a w := by
  rw [wpList, if_pos hw]
  exact .inl (wp_value (ex_load_row ho g hx t cs fr d hg hu hd hi) hK)

theorem grown_ext {a b : World} (h : Ext a b) (row : Option Nat) : a.grownBy b row := ⟨h.os, h.tape, h.output, h.size, fun k hk _ => h.block k hk⟩

theorem eqf_self (S1 S2 : Nat → Prop) (w : World) (bn1 bn2 : Nat) (M : List (Key × Nd)) (N1 N2 : Nat) (h1 : NodesAt S1 w bn1 M N1) (h2 : NodesAt S2 w bn2 M N2) (hS1 : ∀ k, S1 k → k < w.heap.size) (hS2 : ∀ k, S2 k → k < w.heap.size) :
    Calls Tryd.prog 35 #[.map (some bn1), .map (some bn2), .func (.func 36) #[] #[]] w fun e w' => e = .returned (.bool true) ∧ Ext w w' := by
  have hok := h1.ok
  obtain ⟨m1, hm1, hr1⟩ := h1.ex
  have hlt2 : bn2 < w.heap.size := by obtain ⟨m2, hm2, _⟩ := h2.ex; exact hm2.lt
  have hlen1 := fun ty => hm1.len (e := 37) Tryd.underlying64 ty
  have hlen2 : ∀ ty, (Builtin.len_ #[64] ty #[.map (some bn2)]).run Tryd.prog w = .ok (.int .i64 M.length) w := fun ty => by
    obtain ⟨m2, hm2, hr2⟩ := h2.ex
    rw [hr2.length]
    exact hm2.len (e := 37) Tryd.underlying64 ty
  rw [← hr1.length] at hlen1
  have HR1 := Lib.hid hr1
  have H2 := Lib.hid h2
  have HOK := Lib.hid hok
  have HM1 := hm1
  clear h1 h2 hm1 hr1 hok
  go_enter Tryd.func35, Tryd.ntmps35
  go_wp2_with (at_range; refine wpList_range_own _ rfl _ 64 rfl 9 37 (Maps.string_keyed strT) Tryd.underlying64 Rv bn1 _ _ rfl HM1 ?_; intro w0 hrg0 hg0 hs0)
  go_frame
  have hE0 : Ext w w0 := ⟨hg0.os, hg0.tape, hg0.output, hg0.size, fun k hk => hg0.block k hk (by simp)⟩
  have hb1 := HM1.lt
  have HRG0 := Lib.hid hrg0
  have HE0 := Lib.hid hE0
  clear HM1 hlen1 hlen2 hrg0 hg0 hs0 hE0
  go_loopw [6] (fun r wr => ∃ (left : Lit → Bool) (cnt : Nat), r = .bool false ∧ wr.ranges Tryd.prog 9 Rv bn1 w.heap.size m1.length (kvD m1) left cnt ∧ Ext w wr) (fun _ wr => wr.rangeLeft bn1 w.heap.size)
  case atStart => exact ⟨_, _, rfl, HRG0.out, HE0.out⟩
  case round =>
    obtain ⟨left, cnt, rfl, hrg, hE⟩ := hrel
    have HE := Lib.hid hE
    clear hE
    go_wp2_with (at_next; refine wpList_next_left _ rfl _ rfl 9 strT bn1 w.heap.size _ m1 left cnt rfl hrg ?_ ?_)
    · intro _
      clear hrg
      go_wp2
      go_ret
      exact ⟨rfl, HE.out⟩
    · intro s v w6 cnt6 hs _ hmg hrg6 hlt6 hg6 hsz6 hen
      obtain ⟨y, hy, hv⟩ : ∃ y, mget M s.data.toList = some y ∧ NdS S1 w v y := by
        rcases HR1.out.get s.data.toList with ⟨_, h2⟩ | ⟨y, u, h1, h2, h3⟩
        · rw [h2] at hmg; cases hmg
        · rw [h2] at hmg
          cases hmg
          exact ⟨y, h1, h3⟩
      have hEw6 : Ext w w6 := HE.out.trans' ⟨hg6.os, hg6.tape, hg6.output, hg6.size, fun i hi => hg6.block i (Nat.lt_of_lt_of_le hi HE.out.size) (fun e => by
        have := Option.some.inj e
        omega)⟩
      have hfit := HOK.out.fit s.data.toList
      rw [hy] at hfit
      simp only [Option.getD_some] at hfit
      obtain ⟨da, dc, aa, ac, rfl, hD, hA⟩ := hv
      obtain ⟨W7, hW7⟩ : ∃ W7, W7 = w6.alloc (.cells (ndC y (.slice da y.data.length dc) (.slice aa y.acl.length ac)) 37) := ⟨_, rfl⟩
      have hE7 : Ext w6 W7 := by rw [hW7]; exact Ext.alloc _ _
      have hz7 : W7.heap.size = w6.heap.size + 1 := by rw [hW7]; simp
      have hn7 : W7.heap[w6.heap.size]? = some (.cells (ndC y (.slice da y.data.length dc) (.slice aa y.acl.length ac)) 37 (0, 0)) := by rw [hW7]; exact heap_alloc_new _ _
      have hEw7 := hEw6.trans hE7
      have h27 : NodesAt S2 W7 bn2 M N2 := H2.out.keep (hEw7.block bn2 hlt2) (fun _ h => h) (fun b o u hb hu => (hEw7.cell (p := ⟨b, o, none⟩) (hS2 b hb)).trans hu) (Nat.le_refl _)
      obtain ⟨v2, hv2, hq, _⟩ := h27.look' s hs
      rw [hy] at hv2 hq
      simp only [Option.getD_some, Option.isSome_some] at hv2 hq
      obtain ⟨db, dd, ab, ad, rfl, hD2, hA2⟩ := hv2
      obtain ⟨W8, hW8⟩ : ∃ W8, W8 = W7.alloc (.cells (ndC y (.slice db y.data.length dd) (.slice ab y.acl.length ad)) 37) := ⟨_, rfl⟩
      have hE8 : Ext W7 W8 := by rw [hW8]; exact Ext.alloc _ _
      have hz8 : W8.heap.size = W7.heap.size + 1 := by rw [hW8]; simp
      have hn8 : W8.heap[W7.heap.size]? = some (.cells (ndC y (.slice db y.data.length dd) (.slice ab y.acl.length ad)) 37 (0, 0)) := by rw [hW8]; exact heap_alloc_new _ _
      have hn78 := (hE8.block w6.heap.size (by omega)).trans hn7
      have hE68 := hE7.trans hE8
      have CS := Lib.hid (ssame_self y da aa db ab dc ac dd ad W8 hfit (((hD.cells hS1).ext (hEw7.trans hE8))) ((hA.cells hS1).ext (hEw7.trans hE8)) ((hD2.cells fun b hb => Nat.lt_of_lt_of_le (hS2 b hb) hEw7.size).ext hE8) ((hA2.cells fun b hb => Nat.lt_of_lt_of_le (hS2 b hb) hEw7.size).ext hE8))
      have HRG8 := Lib.hid (hrg6.kept (grown_ext hE68 none) (by simp) (by simp))
      have HRG := Lib.hid hrg
      have HSET7 := Lib.hid ((setRow_alloc w6 zeroNd (ndC y (.slice da y.data.length dc) (.slice aa y.acl.length ac)) 37).trans hW7.symm)
      have HNew7 := Lib.hid (heap_alloc_new w6 (.cells zeroNd 37))
      have HSET8 := Lib.hid ((setRow_alloc W7 zeroNd (ndC y (.slice db y.data.length dd) (.slice ab y.acl.length ad)) 37).trans hW8.symm)
      have HNew8 := Lib.hid (heap_alloc_new W7 (.cells zeroNd 37))
      have HN78 := Lib.hid hn78
      have HN8 := Lib.hid hn8
      have HEW8 := Lib.hid (hEw7.trans hE8)
      have HLT := Lib.hid hlt6
      rw [hz7] at HSET8 HNew8 HN8
      unfold ndC at HSET7 HSET8 HN78 HN8 CS hq
      unfold zeroNd at HSET7 HNew7 HSET8 HNew8
      clear hrg hrg6 hg6 hsz6 hW7 hW8 hE7 hE8 hE68 hEw6 hEw7 hn7 hn8 hn78 h27 hD hA hD2 hA2 hmg hlt6 hfit hy
      unfold ndC at hen
      go_wp2_with (first | (refine wpList_store_row rfl 37 (.tmp 8) (.tmp 22) rfl w6.heap.size _ rfl rfl 37 _ HNew7.out sizeNd rfl (cells_node y da aa _ _ dc ac) ?_; rw [HSET7.out]) | (refine wpList_store_row rfl 37 (.tmp 9) (.tmp 27) rfl (w6.heap.size + 1) _ rfl rfl 37 _ HNew8.out sizeNd rfl (cells_node y db ab _ _ dd ad) ?_; rw [HSET8.out]) | (refine wpList_load_row_g rfl 37 (.tmp 8) rfl w6.heap.size rfl 37 _ (0, 0) _ HN78.out Tryd.underlying37 rfl sizeNd ?_) | (refine wpList_load_row_g rfl 37 (.tmp 9) rfl (w6.heap.size + 1) rfl 37 _ (0, 0) _ HN8.out Tryd.underlying37 rfl sizeNd ?_))
      refine CS.out.mono ?_
      rintro e w9 ⟨rfl, hE9⟩
      have hE9 : Ext W8 w9 := hE9
      have hrg9 := HRG8.out.kept (grown_ext hE9 none) (by simp) (by simp)
      have HREL := Lib.hid (show ∃ (left : Lit → Bool) (cnt : Nat), Value.bool false = .bool false ∧ w9.ranges Tryd.prog 9 Rv bn1 w.heap.size m1.length (kvD m1) left cnt ∧ Ext w w9 from ⟨_, _, rfl, hrg9, HEW8.out.trans hE9⟩)
      have HMS := Lib.hid (show w9.rangeLeft bn1 w.heap.size < wr.rangeLeft bn1 w.heap.size by rw [hrg9.left_eq, HRG.out.left_eq]; exact HLT.out)
      clear CS hE9 hrg9 HRG8 HRG HN78 HN8 HSET7 HSET8 HNew7 HNew8 hq hen
      go_wp2
      go_roundw
      case rel =>
        obtain ⟨l, c, _, h⟩ := HREL.out
        exact ⟨l, c, rfl, h⟩
      case measure => exact HMS.out

theorem tsame_self (S1 S2 : Nat → Prop) (w : World) (b1 b2 : Nat) (M : List (Key × Nd)) (N1 N2 : Nat) (h1 : TreeAt S1 w b1 M N1) (h2 : TreeAt S2 w b2 M N2) :
    Calls Tryd.prog 14 #[.pointer (some ⟨b1, 0, none⟩), .pointer (some ⟨b2, 0, none⟩)] w fun e w' => e = .returned (.bool true) ∧ Ext w w' := by
  have hB1 := h1.bound
  have hB2 := h2.bound
  obtain ⟨n1, k1, K1, hd1, hN1, _⟩ := h1
  obtain ⟨n2, k2, K2, hd2, hN2, _⟩ := h2
  have hx1 := TreeAt.box hd1
  have hx2 := TreeAt.box hd2
  have HC := Lib.hid fun (W : World) (hE : Ext w W) => eqf_self S1 S2 W n1 n2 M N1 N2 (hN1.keep (hE.block n1 (hd1.bound _ hd1.sn)) (fun _ h => h) (fun b o u hb hu => (hE.cell (p := ⟨b, o, none⟩) (hB1 b hb)).trans hu) (Nat.le_refl _)) (hN2.keep (hE.block n2 (hd2.bound _ hd2.sn)) (fun _ h => h) (fun b o u hb hu => (hE.cell (p := ⟨b, o, none⟩) (hB2 b hb)).trans hu) (Nat.le_refl _))
    (fun k hk => Nat.lt_of_lt_of_le (hB1 k hk) hE.size) (fun k hk => Nat.lt_of_lt_of_le (hB2 k hk) hE.size)
  unfold Box treeC at hx1 hx2
  clear hd1 hd2 hN1 hN2 hB1 hB2
  go_enter Tryd.func14, Tryd.ntmps14
  have hG0 : Ext w w.drew := Ext.drew _
  have HX1 := Lib.hid hx1
  have HX2 := Lib.hid hx2
  have hGx : ∀ (i : Nat) (d d' : Nat → Bool) (u v : World), Ext w u → Ext u v → (∀ k, k ≠ i → d' k = d k) → Ext w v := fun _ _ _ _ _ h k _ => h.trans k
  clear hx1 hx2
  go_wp2
  refine wp_region_P (by kernel_rfl) (region_state_vals 23 (fun _ W => Ext w W) hG0 [.pointer (some ⟨b1, 0, none⟩), .pointer (some ⟨b1, 0, none⟩), .pointer (some ⟨b1, 0, none⟩), .map (some n1), .pointer (some ⟨b2, 0, none⟩), .pointer (some ⟨b2, 0, none⟩), .pointer (some ⟨b2, 0, none⟩), .map (some n2), .bool true, .bool true] rfl (by decide) rfl ?duties ?rest)
  case duties =>
    refine ⟨?_, ?_, ?_, ?_, ?_, ?_, ?_, ?_, ?_, ?_, trivial⟩
    · refine dutyS_ext (hGx _) fun d a w' hG hF hA => ?_
      have x1 := hF.slot 0 _ (by decide) rfl
      exact wp_value (w' := w') (v := .pointer (some ⟨b1, 0, none⟩)) (by simp only [execOp, x1]; simp [go_sem]) ⟨_, rfl, rfl, Ext.refl _⟩
    · refine dutyS_ext (hGx _) fun d a w' hG hF hA => ?_
      have x1 := hA.val 0 14 rfl rfl ⟨⟨0, .data⟩, by simp, rfl, rfl⟩ rfl
      exact wp_value (ex_nilCheck rfl _ x1) ⟨_, rfl, rfl, Ext.refl _⟩
    · refine dutyS_ext (hGx _) fun d a w' hG hF hA => ?_
      have x1 := hA.val 1 15 rfl rfl ⟨⟨1, .data⟩, by simp, rfl, rfl⟩ rfl
      exact wp_value (w' := w') (v := .pointer (some ⟨b1, 0, none⟩)) (by simp only [execOp, x1]; simp [go_sem]) ⟨_, rfl, rfl, Ext.refl _⟩
    · refine dutyS_ext (hGx _) fun d a w' hG hF hA => ?_
      have x1 := hA.val 2 16 rfl rfl ⟨⟨2, .data⟩, by simp, rfl, rfl⟩ rfl
      have hc := HX1.out 0
      exact wp_value (ex_cell rfl _ _ x1 ((hG.cell (p := ⟨b1, 0, none⟩) (World.block_lt_of_cell? _ _ hc)).trans hc) rfl Tryd.underlying64) ⟨_, rfl, rfl, Ext.refl _⟩
    · refine dutyS_ext (hGx _) fun d a w' hG hF hA => ?_
      have x1 := hF.slot 1 _ (by decide) rfl
      exact wp_value (w' := w') (v := .pointer (some ⟨b2, 0, none⟩)) (by simp only [execOp, x1]; simp [go_sem]) ⟨_, rfl, rfl, Ext.refl _⟩
    · refine dutyS_ext (hGx _) fun d a w' hG hF hA => ?_
      have x1 := hA.val 4 18 rfl rfl ⟨⟨4, .data⟩, by simp, rfl, rfl⟩ rfl
      exact wp_value (ex_nilCheck rfl _ x1) ⟨_, rfl, rfl, Ext.refl _⟩
    · refine dutyS_ext (hGx _) fun d a w' hG hF hA => ?_
      have x1 := hA.val 5 19 rfl rfl ⟨⟨5, .data⟩, by simp, rfl, rfl⟩ rfl
      exact wp_value (w' := w') (v := .pointer (some ⟨b2, 0, none⟩)) (by simp only [execOp, x1]; simp [go_sem]) ⟨_, rfl, rfl, Ext.refl _⟩
    · refine dutyS_ext (hGx _) fun d a w' hG hF hA => ?_
      have x1 := hA.val 6 20 rfl rfl ⟨⟨6, .data⟩, by simp, rfl, rfl⟩ rfl
      have hc := HX2.out 0
      exact wp_value (ex_cell rfl _ _ x1 ((hG.cell (p := ⟨b2, 0, none⟩) (World.block_lt_of_cell? _ _ hc)).trans hc) rfl Tryd.underlying64) ⟨_, rfl, rfl, Ext.refl _⟩
    · refine dutyS_ext (hGx _) fun d a w' hG hF hA => ?_
      have x1 := hA.val 3 17 rfl rfl ⟨⟨3, .data⟩, by simp, rfl, rfl⟩ rfl
      have x2 := hA.val 7 21 rfl rfl ⟨⟨7, .data⟩, by simp, rfl, rfl⟩ rfl
      refine wp_enter (ex_call rfl (enters_f Tryd.func35 (by kernel_rfl) rfl)) (by simp only [List.map_toArray, List.map_cons, List.map_nil, x1, x2]; exact HC.out w' hG) ?_
      rintro e w4 ⟨rfl, h4⟩
      exact ⟨_, rfl, _, rfl, rfl, h4⟩
    · refine dutyS_ext (hGx _) fun d a w' hG hF hA => ?_
      have x1 := hA.val 8 22 rfl rfl ⟨⟨8, .data⟩, by simp, rfl, rfl⟩ rfl
      exact wp_value (w' := w') (v := .bool true) (by simp only [execOp, x1]; simp [go_sem]) ⟨_, rfl, rfl, Ext.refl _⟩
  case rest =>
    intro d W4 hdn hG4
    have HE := Lib.hid hG4
    clear hG4 hdn hG0 hGx HC
    simp only [filled, List.zip_cons_cons, List.zip_nil_left, List.foldl_cons, List.foldl_nil, Act.put, List.setIfInBounds_toArray, List.set_cons_succ, List.set_cons_zero, Exit.inBlock, Exit.then]
    rename_i hK
    refine hK _ _ ?_
    clear hK
    go_wp2
    go_ret
    exact ⟨rfl, HE.out⟩
end Go.Proofs.YtamolbegmkngdaaDoor
namespace Go.Proofs.YtamolbegmkngdaaDoor
open Go.RowKit
set_option maxHeartbeats 2000000
set_option maxRecDepth 100000

theorem nodes_self (L : List Nd) (a b : Option Addr) (c d : Nat) (w : World) (hA : NdsAt w.heap.size w a L) (hB : NdsAt w.heap.size w b L) (hf : ∀ n ∈ L, Fit n) (hl : L.length ≤ 9223372036854775807) :
    Calls Tryd.prog 15 #[.slice a L.length c, .slice b L.length d] w fun e w' => e = .returned (.bool true) ∧ Ext w w' := by
  have HA := Lib.hid hA
  have HB := Lib.hid hB
  have HF := Lib.hid hf
  clear hA hB hf
  go_enter Tryd.func15, Tryd.ntmps15
  go_wp2
  go_loopw [5] (fun i wr => ∃ k : Nat, k ≤ L.length ∧ i = .int .i64 k ∧ Ext w wr) (fun i _ => L.length - (intOf i).toNat)
  case atStart => exact ⟨0, Nat.zero_le _, rfl, Ext.refl _⟩
  case round =>
    obtain ⟨k, hk, rfl, hE⟩ := hrel
    have HE := Lib.hid hE
    by_cases hlt : k < L.length
    · obtain ⟨b1, o1, v1, rfl, hb1, hv1, hc1⟩ := HA.out k L[k] (List.getElem?_eq_getElem hlt)
      obtain ⟨b2, o2, v2, rfl, hb2, hv2, hc2⟩ := HB.out k L[k] (List.getElem?_eq_getElem hlt)
      have hfit := HF.out L[k] (List.getElem_mem hlt)
      generalize L[k] = n at *
      obtain ⟨da, dc, aa, ac, rfl, hD, hAc⟩ := hv1
      obtain ⟨db, dd, ab, ad, rfl, hD2, hAc2⟩ := hv2
      have hr1 : ∀ W, Ext w W → ∀ j u, (ndC n (.slice da n.data.length dc) (.slice aa n.acl.length ac))[j]? = some u → W.cell? ((⟨b1, o1 + k * 17, none⟩ : Addr).add j) = some u := fun W h j u hj => by
        rw [addr_add, h.cell (p := ⟨b1, o1 + k * 17 + j, none⟩) hb1]; exact hc1 j u hj
      have hr2 : ∀ W, Ext w W → ∀ j u, (ndC n (.slice db n.data.length dd) (.slice ab n.acl.length ad))[j]? = some u → W.cell? ((⟨b2, o2 + k * 17, none⟩ : Addr).add j) = some u := fun W h j u hj => by
        rw [addr_add, h.cell (p := ⟨b2, o2 + k * 17 + j, none⟩) hb2]; exact hc2 j u hj
      have HR1 := Lib.hid hr1
      have HR2 := Lib.hid hr2
      have HD := Lib.hid hD
      have HAc := Lib.hid hAc
      have HD2 := Lib.hid hD2
      have HAc2 := Lib.hid hAc2
      clear hr1 hr2 hc1 hc2 hD hAc hD2 hAc2 hE
      go_wp2
      refine wp_region_P (by kernel_rfl) (region_vals 27 [.slice (some ⟨b1, o1, none⟩) L.length c, .int .i64 k, .pointer (some ⟨b1, o1 + k * 17, none⟩), .agg (ndC n (.slice da n.data.length dc) (.slice aa n.acl.length ac)), .slice (some ⟨b2, o2, none⟩) L.length d, .int .i64 k, .pointer (some ⟨b2, o2 + k * 17, none⟩), .agg (ndC n (.slice db n.data.length dd) (.slice ab n.acl.length ad)), .bool true, .bool false] rfl (by decide) rfl ?duties ?rest)
      case duties =>
        refine ⟨?_, ?_, ?_, ?_, ?_, ?_, ?_, ?_, ?_, ?_, trivial⟩
        · refine duty_free rfl fun a w' hE hF hA => ?_
          have x1 := hF.slot 0 _ (by decide) rfl
          exact wp_value (w' := w') (v := .slice (some ⟨b1, o1, none⟩) L.length c) (by simp only [execOp, x1]; simp [go_sem]) ⟨_, rfl, rfl, Ext.refl _⟩
        · refine duty_free rfl fun a w' hE hF hA => ?_
          have x1 := hF.slot 5 _ (by decide) rfl
          exact wp_value (w' := w') (v := .int .i64 k) (by simp only [execOp, x1]; simp [go_sem]) ⟨_, rfl, rfl, Ext.refl _⟩
        · refine duty_free rfl fun a w' hE hF hA => ?_
          have x1 := hA.val 0 17 rfl rfl ⟨⟨0, .data⟩, by simp, rfl, rfl⟩ rfl
          have x2 := hA.val 1 18 rfl rfl ⟨⟨1, .data⟩, by simp, rfl, rfl⟩ rfl
          exact wp_value (w' := w') (v := .pointer (some ⟨b1, o1 + k * 17, none⟩)) (by simp only [execOp, x1, x2]; simp [go_sem, hlt]) ⟨_, rfl, rfl, Ext.refl _⟩
        · refine duty_free rfl fun a w' hE hF hA => ?_
          have x1 := hA.val 2 19 rfl rfl ⟨⟨2, .data⟩, by simp, rfl, rfl⟩ rfl
          exact wp_value (ex_load_at rfl _ x1 (ndC n (.slice da n.data.length dc) (.slice aa n.acl.length ac)) (HR1.out w' (HE.out.trans hE)) Tryd.underlying37 rfl sizeNd) ⟨_, rfl, rfl, Ext.refl _⟩
        · refine duty_free rfl fun a w' hE hF hA => ?_
          have x1 := hF.slot 1 _ (by decide) rfl
          exact wp_value (w' := w') (v := .slice (some ⟨b2, o2, none⟩) L.length d) (by simp only [execOp, x1]; simp [go_sem]) ⟨_, rfl, rfl, Ext.refl _⟩
        · refine duty_free rfl fun a w' hE hF hA => ?_
          have x1 := hF.slot 5 _ (by decide) rfl
          exact wp_value (w' := w') (v := .int .i64 k) (by simp only [execOp, x1]; simp [go_sem]) ⟨_, rfl, rfl, Ext.refl _⟩
        · refine duty_free rfl fun a w' hE hF hA => ?_
          have x1 := hA.val 4 21 rfl rfl ⟨⟨4, .data⟩, by simp, rfl, rfl⟩ rfl
          have x2 := hA.val 5 22 rfl rfl ⟨⟨5, .data⟩, by simp, rfl, rfl⟩ rfl
          exact wp_value (w' := w') (v := .pointer (some ⟨b2, o2 + k * 17, none⟩)) (by simp only [execOp, x1, x2]; simp [go_sem, hlt]) ⟨_, rfl, rfl, Ext.refl _⟩
        · refine duty_free rfl fun a w' hE hF hA => ?_
          have x1 := hA.val 6 23 rfl rfl ⟨⟨6, .data⟩, by simp, rfl, rfl⟩ rfl
          exact wp_value (ex_load_at rfl _ x1 (ndC n (.slice db n.data.length dd) (.slice ab n.acl.length ad)) (HR2.out w' (HE.out.trans hE)) Tryd.underlying37 rfl sizeNd) ⟨_, rfl, rfl, Ext.refl _⟩
        · refine duty_free rfl fun a w' hE hF hA => ?_
          have x1 := hA.val 3 20 rfl rfl ⟨⟨3, .data⟩, by simp, rfl, rfl⟩ rfl
          have x2 := hA.val 7 24 rfl rfl ⟨⟨7, .data⟩, by simp, rfl, rfl⟩ rfl
          have hEE := HE.out.trans hE
          refine wp_enter (ex_call rfl (enters_f Tryd.func37 (by kernel_rfl) rfl)) (by simp only [List.map_toArray, List.map_cons, List.map_nil, x1, x2]; exact rsame_self n da aa db ab dc ac dd ad w' hfit (HD.out.ext hEE) (HAc.out.ext hEE) (HD2.out.ext hEE) (HAc2.out.ext hEE)) ?_
          rintro e w4 ⟨rfl, hb⟩
          exact ⟨_, rfl, _, rfl, rfl, hb⟩
        · refine duty_free rfl fun a w' hE hF hA => ?_
          have x1 := hA.val 8 25 rfl rfl ⟨⟨8, .data⟩, by simp, rfl, rfl⟩ rfl
          exact wp_value (w' := w') (v := .bool false) (by simp only [execOp, x1]; simp [go_sem]) ⟨_, rfl, rfl, Ext.refl _⟩
      case rest =>
        intro W8 hE8
        have HE8 := Lib.hid (HE.out.trans hE8)
        clear hE8 HR1 HR2
        simp only [filled, List.zip_cons_cons, List.zip_nil_left, List.foldl_cons, List.foldl_nil, Act.put, List.setIfInBounds_toArray, List.set_cons_succ, List.set_cons_zero, Exit.then]
        rename_i hK
        refine hK _ _ ?_
        clear hK
        go_wp2
        go_roundw
        case rel => exact ⟨k + 1, by omega, by go_num, HE8.out⟩
        case measure => simp [intOf]; omega
    · obtain rfl : k = L.length := by omega
      clear hE
      go_wp2
      go_ret
      exact ⟨rfl, HE.out⟩
end Go.Proofs.YtamolbegmkngdaaDoor
namespace Go.Proofs.YtamolbegmkngdaaDoor
open Go.RowKit
set_option maxHeartbeats 1000000

/-- The steps from a path to the root: is s among them? -/
def undF : Nat → ByteArray → ByteArray → Bool
  | 0, p, s => p.data == s.data
  | f + 1, p, s => p.data == s.data || (p.size != 1 && undF f (parentB p) s)
def und (p s : ByteArray) : Bool := undF p.size p s

/-- Each node's parent is there. -/
def Clo (M : List (Key × Nd)) : Prop := ∀ x ∈ M, x.2.path.size ≠ 1 → ∃ y ∈ M, y.2.path = parentB x.2.path

theorem und_self (p : ByteArray) : und p p = true := by
  unfold und
  cases p.size <;> simp [undF]

theorem und_size {M : List (Key × Nd)} (hM : MOk M) (hc : Clo M) : ∀ (f : Nat) (x : Key × Nd), x ∈ M → ∀ s, undF f x.2.path s = true → s.size ≤ x.2.path.size
  | 0, x, _, s, h => by
    have : x.2.path = s := by
      simp only [undF, beq_iff_eq] at h
      exact ByteArray.ext h
    rw [this]; exact Nat.le_refl _
  | f + 1, x, hx, s, h => by
    simp only [undF, Bool.or_eq_true, beq_iff_eq, Bool.and_eq_true, bne_iff_ne, ne_eq] at h
    rcases h with h | ⟨h1, h⟩
    · have : x.2.path = s := ByteArray.ext h
      rw [this]; exact Nat.le_refl _
    · obtain ⟨y, hy, ey⟩ := hc x hx h1
      have := und_size hM hc f y hy s (by rw [ey]; exact h)
      have hs := (path_split (right_vpath (hM.right x hx)) h1).2.2.1
      rw [ey] at this
      omega

theorem MOk.pos {M : List (Key × Nd)} (hM : MOk M) {x : Key × Nd} (hx : x ∈ M) : 0 < x.2.path.size := by
  have := (vpath_facts (right_vpath (hM.right x hx))).1
  omega

theorem und_fuel {M : List (Key × Nd)} (hM : MOk M) (hc : Clo M) : ∀ (f g : Nat) (x : Key × Nd), x ∈ M → x.2.path.size ≤ f → x.2.path.size ≤ g → ∀ s, undF f x.2.path s = undF g x.2.path s
  | 0, _, x, hx, hf, _, s => by have := hM.pos hx; omega
  | _ + 1, 0, x, hx, _, hg, s => by have := hM.pos hx; omega
  | f + 1, g + 1, x, hx, hf, hg, s => by
    simp only [undF]
    by_cases h1 : x.2.path.size = 1
    · simp only [h1, bne_self_eq_false, Bool.false_and]
    · obtain ⟨y, hy, ey⟩ := hc x hx h1
      have hs := (path_split (right_vpath (hM.right x hx)) h1).2.2.1
      have e1 := und_fuel hM hc f g y hy (by rw [ey]; omega) (by rw [ey]; omega) s
      rw [ey] at e1
      rw [e1]

theorem und_one {M : List (Key × Nd)} (hM : MOk M) {x : Key × Nd} (hx : x ∈ M) (h1 : x.2.path.size = 1) (s : ByteArray) : und x.2.path s = (x.2.path.data == s.data) := by
  unfold und
  rw [h1]
  simp only [undF, h1, bne_self_eq_false, Bool.false_and, Bool.or_false]

theorem und_up {M : List (Key × Nd)} (hM : MOk M) (hc : Clo M) {x y : Key × Nd} (hx : x ∈ M) (hy : y ∈ M) (h1 : x.2.path.size ≠ 1) (ey : y.2.path = parentB x.2.path) (s : ByteArray) :
    und x.2.path s = (x.2.path.data == s.data || und y.2.path s) := by
  have hp := hM.pos hx
  have hs := (path_split (right_vpath (hM.right x hx)) h1).2.2.1
  obtain ⟨g, hg⟩ : ∃ g, x.2.path.size = g + 1 := ⟨x.2.path.size - 1, by omega⟩
  have e1 := und_fuel hM hc g y.2.path.size y hy (by rw [ey]; omega) (Nat.le_refl _) s
  have h2 : (x.2.path.size != 1) = true := by simpa using h1
  unfold und
  rw [hg]
  simp only [undF]
  rw [hg] at h2
  rw [hg, h2, ← ey, e1, Bool.true_and]

theorem und_le {M : List (Key × Nd)} (hM : MOk M) (hc : Clo M) {x : Key × Nd} (hx : x ∈ M) {s : ByteArray} (h : und x.2.path s = true) : s.size ≤ x.2.path.size := und_size hM hc _ x hx s h

section sums
variable {α β : Type}
theorem sum_add (l : List α) (a b : α → Nat) : (l.map fun x => a x + b x).sum = (l.map a).sum + (l.map b).sum := by
  induction l with
  | nil => rfl
  | cons x l ih => simp only [List.map_cons, List.sum_cons]; omega
theorem sum_zero (l : List α) (a : α → Nat) (h : ∀ x ∈ l, a x = 0) : (l.map a).sum = 0 := by
  induction l with
  | nil => rfl
  | cons x l ih => simp only [List.map_cons, List.sum_cons]; rw [h x (List.mem_cons_self ..), ih fun y hy => h y (List.mem_cons_of_mem _ hy)]
theorem sum_congr (l : List α) (a b : α → Nat) (h : ∀ x ∈ l, a x = b x) : (l.map a).sum = (l.map b).sum := by
  rw [List.map_congr_left h]
theorem sum_swap (l : List α) (m : List β) (a : α → β → Nat) : (l.map fun x => (m.map fun y => a x y).sum).sum = (m.map fun y => (l.map fun x => a x y).sum).sum := by
  induction l with
  | nil => exact (sum_zero m _ fun _ _ => rfl).symm
  | cons x l ih => simp only [List.map_cons, List.sum_cons]; rw [sum_add m (fun y => a x y), ih]
theorem sum_mul (l : List α) (a : α → Nat) (k : Nat) : k * (l.map a).sum = (l.map fun x => k * a x).sum := by
  induction l with
  | nil => rfl
  | cons x l ih => simp only [List.map_cons, List.sum_cons]; rw [Nat.mul_add, ih]
theorem sum_filter (l : List α) (p : α → Bool) (a : α → Nat) : ((l.filter p).map a).sum = (l.map fun x => if p x = true then a x else 0).sum := by
  induction l with
  | nil => rfl
  | cons x l ih =>
    rw [List.filter_cons]
    cases h : p x <;> simp [h, ih]
end sums

theorem mem_path {M : List (Key × Nd)} (hM : MOk M) {x y : Key × Nd} (hx : x ∈ M) (hy : y ∈ M) (h : x.2.path = y.2.path) : x = y := by
  have k1 : x.1 = y.1 := by rw [hM.key x hx, hM.key y hy]; unfold keyN; rw [h]
  rcases List.getElem_of_mem hx with ⟨i, hi, ei⟩
  rcases List.getElem_of_mem hy with ⟨j, hj, ej⟩
  rcases Nat.lt_trichotomy i j with hij | hij | hij
  · have := sorted_at hM.sorted hij hj
    rw [ei, ej, k1] at this
    exact (before_asymm this this).elim
  · subst hij; rw [← ei, ← ej]
  · have := sorted_at hM.sorted hij hi
    rw [ei, ej, k1] at this
    exact (before_asymm this this).elim

theorem sum_at {M : List (Key × Nd)} (hM : MOk M) {x : Key × Nd} (hx : x ∈ M) (a : Key × Nd → Nat) : (M.map fun c => if c.2.path = x.2.path then a c else 0).sum = a x := by
  obtain ⟨l, r, e⟩ := List.append_of_mem hx
  have hn : ∀ y, (y ∈ l ∨ y ∈ r) → y.2.path ≠ x.2.path := by
    intro y hy h
    have hyM : y ∈ M := by rw [e]; rcases hy with hy | hy <;> simp [hy]
    have hs := hM.sorted
    rw [e] at hs
    have k1 : y.1 = x.1 := by rw [hM.key x hx, hM.key y hyM]; unfold keyN; rw [h]
    have hs' := List.pairwise_append.1 hs
    rcases hy with hy | hy
    · have := hs'.2.2 y hy x (List.mem_cons_self ..)
      rw [k1] at this
      exact before_asymm this this
    · have := (List.pairwise_cons.1 hs'.2.1).1 y hy
      rw [k1] at this
      exact before_asymm this this
  rw [e, List.map_append, List.sum_append, List.map_cons, List.sum_cons, sum_zero l _ fun y hy => if_neg (hn y (.inl hy)), sum_zero r _ fun y hy => if_neg (hn y (.inr hy)), if_pos rfl]
  omega

def bN (b : Bool) : Nat := if b = true then 1 else 0
theorem und_split {M : List (Key × Nd)} (hM : MOk M) (hc : Clo M) {s : Key × Nd} (hs : s ∈ M) : ∀ (f : Nat) (x : Key × Nd), x ∈ M → x.2.path.size ≤ f →
    bN (und x.2.path s.2.path) = (if x.2.path = s.2.path then 1 else 0) + (M.map fun c => if childOf s.2.path c.2 = true then bN (und x.2.path c.2.path) else 0).sum
  | 0, x, hx, hf => by have := hM.pos hx; omega
  | f + 1, x, hx, hf => by
    have hsm : ∀ c ∈ M, childOf s.2.path c.2 = true → s.2.path.size < c.2.path.size := fun c hcM h => by
      obtain ⟨h1, h2⟩ := childOf_iff.1 h
      have := (path_split (right_vpath (hM.right c hcM)) h1).2.2.1
      rw [h2] at this
      exact this
    by_cases he : x.2.path = s.2.path
    · rw [if_pos he, sum_zero M _ fun c hcM => ?_, he, und_self]; rfl
      split
      · rename_i h
        have hb : und x.2.path c.2.path = false := by
          cases hb : und x.2.path c.2.path with
          | false => rfl
          | true =>
            have := und_le hM hc hx hb
            have := hsm c hcM h
            rw [he] at *
            omega
        rw [hb]; rfl
      · rfl
    · rw [if_neg he]
      have hd : (x.2.path.data == s.2.path.data) = false := by
        cases hb : (x.2.path.data == s.2.path.data) with
        | false => rfl
        | true => exact absurd (ByteArray.ext (beq_iff_eq.1 hb)) he
      by_cases h1 : x.2.path.size = 1
      · rw [und_one hM hx h1, hd, sum_zero M _ fun c hcM => ?_]; rfl
        split
        · rename_i h
          have hcs := (childOf_iff.1 h).1
          rw [und_one hM hx h1]
          cases hb : (x.2.path.data == c.2.path.data) with
          | false => rfl
          | true => rw [ByteArray.ext (beq_iff_eq.1 hb)] at h1; exact absurd h1 hcs
        · rfl
      · obtain ⟨y, hy, ey⟩ := hc x hx h1
        have hsz := (path_split (right_vpath (hM.right x hx)) h1).2.2.1
        have ih := und_split hM hc hs f y hy (by rw [ey]; omega)
        rw [und_up hM hc hx hy h1 ey, hd, Bool.false_or, ih]
        have hS := sum_at hM hx (fun c => if childOf s.2.path c.2 = true then 1 else 0)
        have hy' : (if y.2.path = s.2.path then 1 else 0) = (if childOf s.2.path x.2 = true then 1 else 0 : Nat) := by
          by_cases hq : y.2.path = s.2.path
          · rw [if_pos hq, if_pos (childOf_iff.2 ⟨h1, by rw [← ey]; exact hq⟩)]
          · rw [if_neg hq, if_neg fun h => hq (by rw [ey]; exact (childOf_iff.1 h).2)]
        rw [hy', ← hS, ← sum_add, Nat.zero_add]
        refine sum_congr M _ _ fun c hcM => ?_
        by_cases hch : childOf s.2.path c.2 = true
        · rw [if_pos hch, if_pos hch, if_pos hch, und_up hM hc hx hy h1 ey]
          by_cases hxc : c.2.path = x.2.path
          · have hb : und y.2.path c.2.path = false := by
              cases hb : und y.2.path c.2.path with
              | false => rfl
              | true =>
                have := und_le hM hc hy hb
                rw [hxc, ey] at this
                omega
            rw [if_pos hxc, hb, hxc]
            simp [bN]
          · have hb : (x.2.path.data == c.2.path.data) = false := by
              cases hb : (x.2.path.data == c.2.path.data) with
              | false => rfl
              | true => exact absurd (ByteArray.ext (beq_iff_eq.1 hb)).symm hxc
            rw [if_neg hxc, hb, Bool.false_or]
            omega
        · rw [if_neg hch, if_neg hch, if_neg hch]
          split <;> rfl

/-- What is under s, weighed. -/
def wtN (M : List (Key × Nd)) (s : ByteArray) (a : Nd → Nat) : Nat := ((M.filter fun x => und x.2.path s).map fun x => a x.2).sum
theorem wt_split {M : List (Key × Nd)} (hM : MOk M) (hc : Clo M) {s : Key × Nd} (hs : s ∈ M) (a : Nd → Nat) :
    wtN M s.2.path a = a s.2 + ((M.filter fun c => childOf s.2.path c.2).map fun c => wtN M c.2.path a).sum := by
  have h0 : ∀ t : ByteArray, wtN M t a = (M.map fun x => a x.2 * bN (und x.2.path t)).sum := fun t => by
    unfold wtN
    rw [sum_filter]
    refine sum_congr M _ _ fun x _ => ?_
    unfold bN
    split <;> simp
  have h1 : (M.map fun x => a x.2 * bN (und x.2.path s.2.path)).sum = (M.map fun x => (if x.2.path = s.2.path then a x.2 else 0) + (M.map fun c => if childOf s.2.path c.2 = true then a x.2 * bN (und x.2.path c.2.path) else 0).sum).sum := by
    refine sum_congr M _ _ fun x hx => ?_
    rw [und_split hM hc hs _ x hx (Nat.le_refl _), Nat.mul_add, sum_mul]
    congr 1
    · split <;> simp
    · refine sum_congr M _ _ fun c _ => ?_
      split <;> simp
  rw [h0, h1, sum_add, sum_at hM hs (fun x => a x.2), sum_swap, sum_filter]
  congr 1
  refine sum_congr M _ _ fun c _ => ?_
  by_cases h : childOf s.2.path c.2 = true
  · simp only [h, if_true]
    rw [h0]
  · simp only [h, if_false]
    exact sum_zero M _ fun _ _ => rfl

theorem fromL_mem : ∀ (L : List Nd) (i : Nat) (M M' : List (Key × Nd)), fromL L i M = .ok M' → ∀ x ∈ M', x ∈ M ∨ x.2 ∈ L
  | [], _, M, M', h, x, hx => by
    simp only [fromL, Except.ok.injEq] at h
    subst h; exact .inl hx
  | n :: l, i, M, M', h, x, hx => by
    simp only [fromL] at h
    split at h
    · cases h
    split at h
    · cases h
    rcases fromL_mem l _ _ _ h x hx with h' | h'
    · rcases mem_mput.1 h' with rfl | ⟨h', _⟩
      · exact .inr (List.mem_cons_self ..)
      · exact .inl h'
    · exact .inr (List.mem_cons_of_mem _ h')
theorem parL_mem {M : List (Key × Nd)} : ∀ (L : List Nd) (i : Nat), parL M L i = .ok () → ∀ n ∈ L, n.path.size ≠ 1 → mget M (parentB n.path).data.toList ≠ none
  | [], _, _, n, hn, _ => by simp at hn
  | m :: l, i, h, n, hn, h1 => by
    simp only [parL] at h
    split at h
    · cases h
    rename_i hm
    rcases List.mem_cons.1 hn with rfl | hn
    · exact fun h2 => hm ⟨h1, h2⟩
    · exact parL_mem l _ h n hn h1
theorem fromN_clo {L : List Nd} {M : List (Key × Nd)} (hM : MOk M) (h : fromN L = .ok M) : Clo M := by
  unfold fromN at h
  cases hf : fromL L 0 [] with
  | error e => rw [hf] at h; cases h
  | ok M1 =>
    rw [hf] at h
    simp only at h
    split at h
    · cases h
    cases hp : parL M1 L 0 with
    | error e => rw [hp] at h; cases h
    | ok u =>
      rw [hp] at h
      simp only [Except.ok.injEq] at h
      subst h
      intro x hx h1
      have hxL : x.2 ∈ L := by
        rcases fromL_mem L 0 [] _ hf x hx with h | h
        · simp at h
        · exact h
      have := parL_mem L 0 hp x.2 hxL h1
      cases hg : mget M1 (parentB x.2.path).data.toList with
      | none => exact absurd hg this
      | some n =>
        refine ⟨_, mget_some_mem hg, ?_⟩
        have := (hM.at hg).1
        unfold keyN at this
        exact (ba_ext this).symm

/-- A list that holds s and the children of each that it holds has all that is under s. -/
theorem und_closed {M : List (Key × Nd)} (hM : MOk M) (hc : Clo M) (s : ByteArray) (l : List ByteArray) (hs : s ∈ l) (hl : ∀ x ∈ M, x.2.path.size ≠ 1 → parentB x.2.path ∈ l → x.2.path ∈ l) :
    ∀ (f : Nat) (x : Key × Nd), x ∈ M → x.2.path.size ≤ f → und x.2.path s = true → x.2.path ∈ l
  | 0, x, hx, hf, _ => by have := hM.pos hx; omega
  | f + 1, x, hx, hf, h => by
    by_cases h1 : x.2.path.size = 1
    · rw [und_one hM hx h1] at h
      rw [ByteArray.ext (beq_iff_eq.1 h)]; exact hs
    · obtain ⟨y, hy, ey⟩ := hc x hx h1
      have hsz := (path_split (right_vpath (hM.right x hx)) h1).2.2.1
      rw [und_up hM hc hx hy h1 ey, Bool.or_eq_true] at h
      rcases h with h | h
      · rw [ByteArray.ext (beq_iff_eq.1 h)]; exact hs
      · exact hl x hx h1 (by rw [← ey]; exact und_closed hM hc s l hs hl f y hy (by rw [ey]; omega) h)

theorem und_child {M : List (Key × Nd)} (hM : MOk M) (hc : Clo M) {x y : Key × Nd} (hx : x ∈ M) (hy : y ∈ M) (h : childOf y.2.path x.2 = true) (s : ByteArray) (hu : und y.2.path s = true) : und x.2.path s = true := by
  obtain ⟨h1, h2⟩ := childOf_iff.1 h
  rw [und_up hM hc hx hy h1 h2.symm, hu, Bool.or_true]
end Go.Proofs.YtamolbegmkngdaaDoor
namespace Go.Proofs.YtamolbegmkngdaaDoor
open Go.RowKit
set_option maxHeartbeats 1000000

theorem nodup_at {l : List ByteArray} (h : l.Nodup) {i j : Nat} (hi : i < l.length) (hj : j < l.length) (e : l[i] = l[j]) : i = j := by
  have hp := List.pairwise_iff_getElem.1 h
  rcases Nat.lt_trichotomy i j with hij | hij | hij
  · exact absurd e (hp i j hi hj hij)
  · exact hij
  · exact absurd e.symm (hp j i hj hi hij)
theorem nodup_len : ∀ (l m : List ByteArray), l.Nodup → l ⊆ m → l.length ≤ m.length
  | [], m, _, _ => Nat.zero_le _
  | a :: l, m, h, hs => by
    obtain ⟨h1, h2⟩ := List.nodup_cons.1 h
    obtain ⟨u, v, e⟩ := List.append_of_mem (hs (List.mem_cons_self ..))
    have := nodup_len l (u ++ v) h2 fun b hb => by
      have hb' := hs (List.mem_cons_of_mem _ hb)
      rw [e] at hb'
      rcases List.mem_append.1 hb' with hb' | hb'
      · exact List.mem_append_left _ hb'
      · rcases List.mem_cons.1 hb' with hb' | hb'
        · subst hb'; exact absurd hb h1
        · exact List.mem_append_right _ hb'
    rw [e]
    simp only [List.length_append, List.length_cons] at this ⊢
    omega

/-- l's places ahead of i are done, of place i those children that are not left. -/
structure Bfs (M : List (Key × Nd)) (s : ByteArray) (l : List ByteArray) (i : Nat) (left : Key → Bool) : Prop where
  head : s ∈ l
  nodup : l.Nodup
  mem : ∀ p ∈ l, ∃ x ∈ M, x.2.path = p ∧ und p s = true
  done : ∀ j p, j < i → l[j]? = some p → ∀ x ∈ M, childOf p x.2 = true → x.2.path ∈ l
  part : ∀ p, l[i]? = some p → ∀ x ∈ M, childOf p x.2 = true → left (nameK x.2) = false → x.2.path ∈ l
  back : ∀ p ∈ l, p = s ∨ ∃ j q, l[j]? = some q ∧ p.size ≠ 1 ∧ parentB p = q ∧ (j < i ∨ (j = i ∧ left (nameB p).data.toList = false))

theorem Bfs.start {M : List (Key × Nd)} {x : Key × Nd} (hx : x ∈ M) : Bfs M x.2.path [x.2.path] 0 (fun _ => true) :=
  ⟨by simp, by simp, fun p hp => by
    have : p = x.2.path := by simpa using hp
    exact ⟨x, hx, this.symm, by rw [this]; exact und_self _⟩, fun j p hj => by omega, fun p _ y _ _ h => by simp at h, fun p hp => .inl (by simpa using hp)⟩

theorem Bfs.round {M : List (Key × Nd)} {s : ByteArray} {l : List ByteArray} {i : Nat} {left : Key → Bool} (h : Bfs M s l i left) {p : ByteArray} (hp : l[i]? = some p) (hl : ∀ y ∈ kidsOf M p, left y.1 = false) : Bfs M s l (i + 1) (fun _ => true) :=
  ⟨h.head, h.nodup, h.mem, fun j q hj hq x hx hc => by
    by_cases hji : j = i
    · subst hji
      have e : p = q := Option.some.inj (hp.symm.trans hq)
      subst e
      exact h.part p hp x hx hc (hl _ (mem_kids.2 ⟨x, hx, hc, rfl⟩))
    · exact h.done j q (by omega) hq x hx hc, fun p _ y _ _ hh => by simp at hh, fun q hq => by
    rcases h.back q hq with e | ⟨j, r, h1, h2, h3, h4⟩
    · exact .inl e
    · exact .inr ⟨j, r, h1, h2, h3, .inl (by rcases h4 with h4 | h4 <;> omega)⟩⟩

theorem Bfs.step {M : List (Key × Nd)} (hM : MOk M) (hc : Clo M) {s : ByteArray} {l : List ByteArray} {i : Nat} {left : Key → Bool} (h : Bfs M s l i left) {p : ByteArray} (hp : l[i]? = some p) {x : Key × Nd} (hx : x ∈ M) (hch : childOf p x.2 = true) (hleft : left (nameK x.2) = true) :
    Bfs M s (l ++ [x.2.path]) i (fun k => left k && !(k == nameK x.2)) := by
  obtain ⟨c1, c2⟩ := childOf_iff.1 hch
  obtain ⟨y, hy, ey, hu⟩ := h.mem p (List.mem_of_getElem? hp)
  have hsz := (path_split (right_vpath (hM.right x hx)) c1).2.2.1
  have hnew : x.2.path ∉ l := by
    intro hm
    rcases h.back _ hm with e | ⟨j, q, h1, h2, h3, h4⟩
    · have := und_le hM hc hy (by rw [ey]; exact hu)
      rw [← e, ey, ← c2] at this
      omega
    · rw [c2] at h3
      subst h3
      have hj : j = i := by
        obtain ⟨a1, a2⟩ := List.getElem?_eq_some_iff.1 h1
        obtain ⟨b1, b2⟩ := List.getElem?_eq_some_iff.1 hp
        exact nodup_at h.nodup a1 b1 (a2.trans b2.symm)
      rcases h4 with h4 | ⟨_, h4⟩
      · omega
      · rw [show (nameB x.2.path).data.toList = nameK x.2 from rfl, hleft] at h4; cases h4
  obtain ⟨hi, ei⟩ := List.getElem?_eq_some_iff.1 hp
  have old : ∀ j q, (l ++ [x.2.path])[j]? = some q → j ≤ i → l[j]? = some q := fun j q hq hji => by
    rwa [List.getElem?_append_left (by omega)] at hq
  refine ⟨by simp [h.head], ?_, fun q hq => ?_, fun j q hj hq z hz hcz => ?_, fun q hq z hz hcz hlz => ?_, fun q hq => ?_⟩
  · rw [List.nodup_append]
    refine ⟨h.nodup, by simp, fun a ha b hb => ?_⟩
    have : b = x.2.path := by simpa using hb
    subst this
    exact fun e => hnew (e ▸ ha)
  · rcases List.mem_append.1 hq with hq | hq
    · exact h.mem q hq
    · have : q = x.2.path := by simpa using hq
      subst this
      exact ⟨x, hx, rfl, und_child hM hc hx hy (by rw [ey]; exact hch) s (by rw [ey]; exact hu)⟩
  · exact List.mem_append_left _ (h.done j q hj (old j q hq (by omega)) z hz hcz)
  · have hq' := old i q hq (Nat.le_refl _)
    have e : p = q := Option.some.inj (hp.symm.trans hq')
    subst e
    by_cases hn : nameK z.2 = nameK x.2
    · obtain ⟨d1, d2⟩ := childOf_iff.1 hcz
      have : z.2.path = x.2.path := by
        have a1 := (path_split (right_vpath (hM.right z hz)) d1).1
        have a2 := (path_split (right_vpath (hM.right x hx)) c1).1
        apply ba_ext
        rw [a1, a2, d2, c2]
        unfold nameK at hn
        rw [hn]
      rw [this]; simp
    · refine List.mem_append_left _ (h.part p hq' z hz hcz ?_)
      simpa [hn] using hlz
  · rcases List.mem_append.1 hq with hq | hq
    · rcases h.back q hq with e | ⟨j, r, h1, h2, h3, h4⟩
      · exact .inl e
      · refine .inr ⟨j, r, ?_, h2, h3, ?_⟩
        · rw [List.getElem?_append_left (List.getElem?_eq_some_iff.1 h1).1]; exact h1
        · rcases h4 with h4 | ⟨h4, h5⟩
          · exact .inl h4
          · exact .inr ⟨h4, by rw [h5]; rfl⟩
    · have : q = x.2.path := by simpa using hq
      subst this
      refine .inr ⟨i, p, ?_, c1, c2, .inr ⟨rfl, ?_⟩⟩
      · rw [List.getElem?_append_left hi]; exact hp
      · rw [show (nameB x.2.path).data.toList = nameK x.2 from rfl]
        simp

/-- In the end: just what is under s. -/
theorem Bfs.all {M : List (Key × Nd)} (hM : MOk M) (hc : Clo M) {s : ByteArray} {l : List ByteArray} {left : Key → Bool} (h : Bfs M s l l.length left) (p : ByteArray) : p ∈ l ↔ ∃ x ∈ M, x.2.path = p ∧ und p s = true := by
  constructor
  · exact h.mem p
  · rintro ⟨x, hx, rfl, hu⟩
    refine und_closed hM hc s l h.head (fun z hz h1 hpz => ?_) _ x hx (Nat.le_refl _) hu
    obtain ⟨j, hj, ej⟩ := List.getElem_of_mem hpz
    exact h.done j _ hj (by rw [List.getElem?_eq_getElem hj, ej]) z hz (childOf_iff.2 ⟨h1, rfl⟩)

/-- How long it gets. -/
theorem Bfs.length_le {M : List (Key × Nd)} {s : ByteArray} {l : List ByteArray} {i : Nat} {left : Key → Bool} (h : Bfs M s l i left) : l.length ≤ M.length := by
  have hsub : l ⊆ M.map (fun x => x.2.path) := fun p hp => by
    obtain ⟨x, hx, e, _⟩ := h.mem p hp
    exact List.mem_map.2 ⟨x, hx, e⟩
  have := nodup_len l _ h.nodup hsub
  simpa using this
end Go.Proofs.YtamolbegmkngdaaDoor
namespace Go.Proofs.YtamolbegmkngdaaDoor
open Go.RowKit
set_option maxHeartbeats 1000000

theorem perm_nodup : ∀ (l m : List Key), l.Nodup → m.Nodup → (∀ x, x ∈ l ↔ x ∈ m) → l.Perm m
  | [], m, _, _, h => by
    cases m with
    | nil => exact .refl _
    | cons b m => exact absurd ((h b).2 (List.mem_cons_self ..)) (by simp)
  | a :: l, m, hl, hm, h => by
    obtain ⟨u, v, rfl⟩ := List.append_of_mem ((h a).1 (List.mem_cons_self ..))
    obtain ⟨h1, h2⟩ := List.nodup_cons.1 hl
    have hm' : (a :: (u ++ v)).Nodup := (List.perm_middle.nodup_iff).1 hm
    obtain ⟨k1, k2⟩ := List.nodup_cons.1 hm'
    refine ((perm_nodup l (u ++ v) h2 k2 fun x => ?_).cons a).trans List.perm_middle.symm
    constructor
    · intro hx
      have := (h x).1 (List.mem_cons_of_mem _ hx)
      have hne : x ≠ a := fun e => h1 (e ▸ hx)
      simp only [List.mem_append, List.mem_cons] at this ⊢
      rcases this with h | h | h
      · exact .inl h
      · exact absurd h hne
      · exact .inr h
    · intro hx
      have hne : x ≠ a := fun e => k1 (e ▸ hx)
      have : x ∈ u ++ a :: v := by
        simp only [List.mem_append, List.mem_cons] at hx ⊢
        rcases hx with h | h
        · exact .inl h
        · exact .inr (.inr h)
      rcases List.mem_cons.1 ((h x).2 this) with h | h
      · exact absurd h hne
      · exact h

/-- The keys under s, in order. -/
def undK (M : List (Key × Nd)) (s : ByteArray) : List Key := (M.filter fun x => und x.2.path s).map (·.1)

theorem undK_sorted {M : List (Key × Nd)} (hM : MOk M) (s : ByteArray) : (undK M s).Pairwise fun a b => bytesBefore a b = true := by
  unfold undK
  rw [List.pairwise_map, List.pairwise_filter]
  exact List.Pairwise.imp (fun h _ _ => h) hM.sorted

theorem Bfs.sorted {M : List (Key × Nd)} (hM : MOk M) (hc : Clo M) {s : ByteArray} {l : List ByteArray} {left : Key → Bool} (h : Bfs M s l l.length left) :
    (l.map fun p => p.data.toList).mergeSort (fun x y => decide (x ≤ y)) = undK M s := by
  refine sortedKeys (undK_sorted hM s) (perm_nodup _ _ ?_ ?_ fun k => ?_)
  · unfold List.Nodup
    rw [List.pairwise_map]
    exact List.Pairwise.imp (fun h e => h (ba_ext e)) h.nodup
  · refine List.Pairwise.imp (fun {a b} hab e => ?_) (undK_sorted hM s)
    rw [e] at hab
    exact before_asymm hab hab
  · unfold undK
    simp only [List.mem_map, List.mem_filter]
    constructor
    · rintro ⟨p, hp, rfl⟩
      obtain ⟨x, hx, e, hu⟩ := (h.all hM hc p).1 hp
      exact ⟨x, ⟨hx, by rw [e]; exact hu⟩, by rw [hM.key x hx]; unfold keyN; rw [e]⟩
    · rintro ⟨x, ⟨hx, hu⟩, rfl⟩
      exact ⟨x.2.path, (h.all hM hc _).2 ⟨x, hx, rfl, hu⟩, (hM.key x hx).symm⟩
end Go.Proofs.YtamolbegmkngdaaDoor
namespace Go.Proofs.YtamolbegmkngdaaDoor
open Go.RowKit
set_option maxHeartbeats 1000000
set_option maxRecDepth 100000

/-- What Join joins. -/
def joinP (a n : ByteArray) : ByteArray := ByteArray.mk (Lib.trimSuffix a.data.toList [47]).toArray ++ ByteArray.mk #[47] ++ n
def hasSl (n : ByteArray) : Bool := decide (0 ≤ Lib.indexByte n.data.toList 47)
def joinV (a n : ByteArray) : Value := if vpath a = true ∧ hasSl n = false ∧ vpath (joinP a n) = true ∧ n.size ≠ 0 then .tuple #[.string (joinP a n), .int .i64 0] else .tuple #[.string ⟨#[]⟩, .int .i64 30]

theorem join_any (a n : ByteArray) (w : World) (ha : a.size ≤ 140737488355328) (hn : n.size ≤ 140737488355328) : Calls Tryd.prog 57 #[.string a, .string n] w fun e w' => e = .returned (joinV a n) ∧ Below w.heap.size w w' := by
  have q1 : a.size ≤ 140737488355328 := ha
  have q2 : n.size ≤ 140737488355328 := hn
  have hT : (ByteArray.mk (Lib.trimSuffix a.data.toList [47]).toArray).size ≤ 140737488355328 := by
    refine Nat.le_trans ?_ q1
    rw [← size_list, ← size_list]
    unfold Lib.trimSuffix
    split <;> simp
  have hj : (joinP a n).size ≤ 9223372036854775800 := by
    unfold joinP
    rw [ByteArray.size_append, ByteArray.size_append]
    have : (ByteArray.mk #[47]).size = 1 := rfl
    omega
  have C1 : ∀ w, Calls Tryd.prog 74 #[.string a, .string ⟨#[47]⟩] w fun e w' => e = .returned (.string ⟨(Lib.trimSuffix a.data.toList [47]).toArray⟩) ∧ w' = w := fun w => Tryd.strings_TrimSuffix a ⟨#[47]⟩ w (by omega)
  have C2 : ∀ w, Calls Tryd.prog 48 #[.string a] w fun e w' => e = .returned (.bool (vpath a)) ∧ Below w.heap.size w w' := fun w => valid_any a w (by omega)
  have C3 : ∀ w, Calls Tryd.prog 75 #[.string n, .string ⟨#[47]⟩] w fun e w' => e = .returned (.bool (hasSl n)) ∧ w' = w := fun w => Tryd.strings_Contains_one n 47 w
  have C4 : ∀ w, Calls Tryd.prog 48 #[.string (joinP a n)] w fun e w' => e = .returned (.bool (vpath (joinP a n))) ∧ Below w.heap.size w w' := fun w => valid_any (joinP a n) w (by omega)
  have R : Hid (joinV a n = if vpath a = true ∧ hasSl n = false ∧ vpath (joinP a n) = true ∧ n.size ≠ 0 then .tuple #[.string (joinP a n), .int .i64 0] else .tuple #[.string ⟨#[]⟩, .int .i64 30]) := Lib.hid rfl
  have J : Hid (joinP a n = ByteArray.mk (Lib.trimSuffix a.data.toList [47]).toArray ++ ByteArray.mk #[47] ++ n) := Lib.hid rfl
  generalize joinV a n = V at R
  generalize joinP a n = q at C4 R J hj
  generalize ByteArray.mk (Lib.trimSuffix a.data.toList [47]).toArray = T at C1 J hT
  generalize vpath a = b1 at C2 R
  generalize hasSl n = b2 at C3 R
  generalize vpath q = b3 at C4 R
  have C1 := Lib.hid C1
  have C2 := Lib.hid C2
  have C3 := Lib.hid C3
  have C4 := Lib.hid C4
  have g1 : ¬ (9223372036854775807 : Int) < (T.size : Int) + 1 := by omega
  have g2 : ¬ (9223372036854775807 : Int) < (T.size : Int) + 1 + (n.size : Int) := by omega
  clear q1 q2 ha hn hj hT
  cases b1 with
  | false =>
    go_enter Tryd.func57, Tryd.ntmps57
    go_wp2_with fail
    refine (C1.out _).mono ?_
    rintro e w1 ⟨rfl, rfl⟩
    go_wp2_with fail
    refine (C2.out _).mono ?_
    rintro e w1 ⟨rfl, hb1⟩
    clear C1 C2 C3 C4
    go_wp2
    go_ret2
    exact ⟨by rw [R.out]; rfl, hb1⟩
  | true =>
  cases b2 with
  | true =>
    go_enter Tryd.func57, Tryd.ntmps57
    go_wp2_with fail
    refine (C1.out _).mono ?_
    rintro e w1 ⟨rfl, rfl⟩
    go_wp2_with fail
    refine (C2.out _).mono ?_
    rintro e w1 ⟨rfl, hb1⟩
    go_wp2_with fail
    refine (C3.out _).mono ?_
    rintro e w2 ⟨rfl, rfl⟩
    clear C1 C2 C3 C4
    go_wp2
    go_ret2
    exact ⟨by rw [R.out]; rfl, hb1⟩
  | false =>
  cases b3 with
  | false =>
    go_enter Tryd.func57, Tryd.ntmps57
    go_wp2_with fail
    refine (C1.out _).mono ?_
    rintro e w1 ⟨rfl, rfl⟩
    go_wp2_with fail
    refine (C2.out _).mono ?_
    rintro e w1 ⟨rfl, hb1⟩
    go_wp2_with fail
    refine (C3.out _).mono ?_
    rintro e w2 ⟨rfl, rfl⟩
    go_wp2_with fail
    rw [← J.out]
    refine (C4.out _).mono ?_
    rintro e w3 ⟨rfl, hb3⟩
    clear C1 C2 C3 C4
    go_wp2
    go_ret2
    exact ⟨by rw [R.out]; rfl, hb1.trans (hb3.mono hb1.size)⟩
  | true =>
  by_cases h0 : n.size = 0
  · have e1 : n.toList = [] := by rw [ByteArray.toList_eq]; exact List.eq_nil_of_length_eq_zero (by rw [← size_list] at h0; exact h0)
    go_enter Tryd.func57, Tryd.ntmps57
    go_wp2_with fail
    refine (C1.out _).mono ?_
    rintro e w1 ⟨rfl, rfl⟩
    go_wp2_with fail
    refine (C2.out _).mono ?_
    rintro e w1 ⟨rfl, hb1⟩
    go_wp2_with fail
    refine (C3.out _).mono ?_
    rintro e w2 ⟨rfl, rfl⟩
    go_wp2_with fail
    rw [← J.out]
    refine (C4.out _).mono ?_
    rintro e w3 ⟨rfl, hb3⟩
    clear C1 C2 C3 C4
    go_wp2
    go_ret2
    exact ⟨by rw [R.out, if_neg (by simp [h0])]; rfl, hb1.trans (hb3.mono hb1.size)⟩
  · have e0 : ¬ n.toList = [] := by rw [ByteArray.toList_eq]; exact fun e => h0 (by rw [← size_list, e]; rfl)
    have e1 : (n.toList == []) = false := by simpa using e0
    have H0 := Lib.hid h0
    clear h0
    go_enter Tryd.func57, Tryd.ntmps57
    go_wp2_with fail
    refine (C1.out _).mono ?_
    rintro e w1 ⟨rfl, rfl⟩
    go_wp2_with fail
    refine (C2.out _).mono ?_
    rintro e w1 ⟨rfl, hb1⟩
    go_wp2_with fail
    refine (C3.out _).mono ?_
    rintro e w2 ⟨rfl, rfl⟩
    go_wp2_with fail
    rw [← J.out]
    refine (C4.out _).mono ?_
    rintro e w3 ⟨rfl, hb3⟩
    clear C1 C2 C3 C4
    go_wp2
    go_ret2
    exact ⟨by rw [R.out, if_pos (by simp [H0.out])]; rfl, hb1.trans (hb3.mono hb1.size)⟩
end Go.Proofs.YtamolbegmkngdaaDoor
namespace Go.Proofs.YtamolbegmkngdaaDoor
open Go.RowKit
set_option maxHeartbeats 1000000

theorem no_slash {n : ByteArray} (h : ¬ (47 : UInt8) ∈ n.data.toList) : hasSl n = false := by
  unfold hasSl
  have hge := Lib.indexByte_ge n.data.toList 47
  rcases Int.lt_or_le (Lib.indexByte n.data.toList 47) 0 with h0 | h0
  · simp; omega
  · obtain ⟨o, ho⟩ := Int.eq_ofNat_of_zero_le h0
    exact absurd (List.mem_of_getElem? (Lib.indexByte_some ho).1) h

theorem joinP_pre {a : ByteArray} (h : vpath a = true) (n : ByteArray) : (joinP a n).data.toList = preL a ++ n.data.toList := by
  have e : (joinP a n).data.toList = Lib.trimSuffix a.data.toList [47] ++ [47] ++ n.data.toList := by
    unfold joinP
    simp [ByteArray.data_append]
  rw [e]
  congr 1
  by_cases h1 : a.size = 1
  · have hr := (root_iff h).1 h1
    unfold preL
    rw [if_pos h1, hr]
    rfl
  · unfold preL
    rw [if_neg h1]
    congr 1
    unfold Lib.trimSuffix
    rw [if_neg]
    intro hs
    unfold Lib.hasSuffix at hs
    obtain ⟨t, ht⟩ := List.isSuffixOf_iff_suffix.1 hs
    obtain ⟨f1, _, _, f4⟩ := vpath_facts h
    rcases f4 with f4 | f4
    · exact h1 f4
    · apply f4.1
      rw [← bat_toList a (a.size - 1) (by omega)]
      have hl : t.length + 1 = a.size := by rw [← size_list, ← ht]; simp
      have : a.size - 1 = t.length := by omega
      simp only [this, ← ht]
      simp

theorem join_child {M : List (Key × Nd)} (hM : MOk M) {x y : Key × Nd} (hx : x ∈ M) (hy : y ∈ M) (h : childOf y.2.path x.2 = true) {n : ByteArray} (hn : n.data.toList = nameK x.2) :
    joinP y.2.path n = x.2.path ∧ joinV y.2.path n = .tuple #[.string x.2.path, .int .i64 0] := by
  obtain ⟨c1, c2⟩ := childOf_iff.1 h
  obtain ⟨p1, p2, _, p4⟩ := path_split (right_vpath (hM.right x hx)) c1
  have en : n = nameB x.2.path := ba_ext hn
  subst en
  have e : joinP y.2.path (nameB x.2.path) = x.2.path := by
    apply ba_ext
    rw [joinP_pre (right_vpath (hM.right y hy)), p1, c2]
  refine ⟨e, ?_⟩
  unfold joinV
  rw [e, if_pos ⟨right_vpath (hM.right y hy), no_slash p4, right_vpath (hM.right x hx), p2⟩]
end Go.Proofs.YtamolbegmkngdaaDoor
