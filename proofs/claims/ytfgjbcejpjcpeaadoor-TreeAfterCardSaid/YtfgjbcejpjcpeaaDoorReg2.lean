/- Two more laws for a region that draws its order: one over any relation that its steps keep; one in which the last operation, which all others are ahead of, may turn what it likes. -/
import Derived.Test.YtfgjbcejpjcpeaaDoorDuty
namespace Go.Proofs.YtfgjbcejpjcpeaaDoor
open Go.RowKit
variable {P : Program} {ops : Array Oper} {Q : Exit → Act → World → Prop}

theorem ready_iff {l : Array Bool} {i : Nat} (hs : l.size = ops.size) : i ∈ Region.ready .any ops l ↔ ∃ h : i < ops.size, l.getD i false = false ∧ ∀ e ∈ (ops[i]).after.toList, Region.binds .any e = true → l.getD e.on false = true := by
  unfold Region.ready
  simp only [List.mem_filter, List.mem_range, Bool.and_eq_true, Bool.not_eq_true']
  constructor
  · rintro ⟨hlt, hu, hpre⟩
    refine ⟨hlt, ?_, fun e he hb => ?_⟩
    · have hl : i < l.size := by omega
      rw [Array.getD_eq_getD_getElem?, Array.getElem?_eq_getElem hl] at hu ⊢
      simpa using hu
    · rw [Array.getElem?_eq_getElem hlt] at hpre
      simp only [Option.map_some, Option.getD_some, Array.all_eq_true'] at hpre
      have := hpre e (by simpa using he)
      simpa [hb] using this
  · rintro ⟨hlt, hu, hpre⟩
    refine ⟨hlt, ?_, ?_⟩
    · have hl : i < l.size := by omega
      rw [Array.getD_eq_getD_getElem?, Array.getElem?_eq_getElem hl] at hu ⊢
      simpa using hu
    · rw [Array.getElem?_eq_getElem hlt]
      simp only [Option.map_some, Option.getD_some, Array.all_eq_true']
      intro e he
      cases hb : Region.binds .any e with
      | false => simp
      | true => simp [hpre e (by simpa using he) hb]

/-- Each operation waits for earlier ones alone. -/
def aheadB (ops : Array Oper) : Bool := ops.toList.zipIdx.all fun x => x.1.after.toList.all fun e => !Region.binds .any e || decide (e.on < x.2)

/-- Where nothing is ready all is done. -/
theorem ready_none {l : Array Bool} (hs : l.size = ops.size) (hacy : aheadB ops = true) (hr : Region.ready .any ops l = []) : ∀ n i, i < n → i < ops.size → l.getD i false = true := by
  intro n
  induction n with
  | zero => intro i h; omega
  | succ n ih =>
    intro i hn hi
    cases hl : l.getD i false with
    | true => rfl
    | false =>
      exfalso
      have hmem : i ∈ Region.ready .any ops l := by
        rw [ready_iff hs]
        refine ⟨hi, hl, fun e he hb => ?_⟩
        have hac := List.all_eq_true.1 hacy (ops[i], i) (List.mem_zipIdx_iff_getElem?.2 (by simp))
        have := List.all_eq_true.1 hac e (by simpa using he)
        have hlt : e.on < i := by simpa [hb] using this
        exact ih e.on (by omega) (by omega)
      rw [hr] at hmem
      cases hmem

/-- What a step's new value makes of the frame. -/
theorem framed_put {a0 a : Act} {o : Oper} (hF : Framed ops a0 a) (hmem : o ∈ ops.toList) (v : Value) : Framed ops a0 (a.put o.dst v) := by
  refine ⟨?_, ?_, fun t ht => ?_⟩
  · unfold Act.put; split <;> exact hF.1
  · unfold Act.put; split
    · simpa using hF.2.1
    · exact hF.2.1
  · rw [← hF.2.2 t ht]
    have := ht o hmem
    unfold Act.put
    cases hdd : o.dst with
    | none => rfl
    | some d =>
      have hne : d ≠ t := fun e => this (by rw [hdd, e])
      simp [Array.getD_eq_getD_getElem?, hne]

theorem getD_set_other {l : Array Bool} {i j : Nat} (h : j ≠ i) : (l.setIfInBounds i true).getD j false = l.getD j false := by
  simp [Array.getD_eq_getD_getElem?, Array.getElem?_setIfInBounds, Ne.symm h]
theorem getD_set_same {l : Array Bool} {i : Nat} (h : i < l.size) : (l.setIfInBounds i true).getD i false = true := by
  simp [Array.getD_eq_getD_getElem?, h]

/-- Each operation but the last has one that waits for it. -/
def coverOk (ops : Array Oper) : Bool := (List.range (ops.size - 1)).all fun i => ops.toList.zipIdx.any fun x => decide (i < x.2) && x.1.after.toList.any fun e => e.on == i && Region.binds .any e

theorem region_last {a0 : Act} {w0 : World} (m : Nat) (Φ : Nat → Value → World → Prop)
    (hstab : ∀ i v w w', Φ i v w → Ext w w' → Φ i v w') (hchk : (dstsOk ops && aheadB ops && coverOk ops && ((ops.toList.take (ops.size - 1)).all fun o => o.dst.any fun d => decide (d < m))) = true) (hsz : a0.tmps.size = m)
    (k : Nat) (ol : Oper) (hk : ops[k]? = some ol) (hks : ops.size = k + 1) (hg : ol.guard = none)
    (hd : Duties P ops Q Φ a0 w0 0 (ops.toList.take k))
    (hlast : ∀ a w, Ext w0 w → Framed ops a0 a → (∀ i o, i < k → ops[i]? = some o → Φ i (valOf o a) w) → ol.wp P a w (fun a' w' => Q .normal a' w') Q) :
    RegionP P ops Q a0 w0 := by
  simp only [Bool.and_eq_true] at hchk
  obtain ⟨⟨⟨hdst, hacy⟩, hcov⟩, hin⟩ := hchk
  rw [hks, Nat.add_sub_cancel] at hin
  have hdn : (ops.toList.filterMap (·.dst)).Nodup := by simpa [dstsOk] using hdst
  unfold RegionP
  refine wpAny_inv (fun l a w => l.size = ops.size ∧ ((l.getD k false = false ∧ Ext w0 w ∧ Framed ops a0 a ∧ (∀ i o, i < k → ops[i]? = some o → l.getD i false = true → Φ i (valOf o a) w) ∧
      (∀ (i : Nat) o, ops[i]? = some o → l.getD i false = true → ∀ e ∈ o.after.toList, Region.binds .any e = true → l.getD e.on false = true)) ∨ ((∀ i, i < ops.size → l.getD i false = true) ∧ Q .normal a w))) (fun _ _ _ h => h.1) ?_ ?_ _ _ _ _ ?_ ?_
  · rintro l a w i ⟨hs, hJ⟩ hi
    obtain ⟨hlt, hu, hpre⟩ := (ready_iff hs).1 hi
    have hJ' := hJ.resolve_right (fun h => by rw [h.1 i hlt] at hu; cases hu)
    obtain ⟨hlk, hE, hF, hP, hC⟩ := hJ'
    have ho : ops[i]? = some ops[i] := Array.getElem?_eq_getElem hlt
    have hmem : ops[i] ∈ ops.toList := by simp
    by_cases hik : i = k
    · subst hik
      rw [ho] at hk
      obtain rfl := Option.some.inj hk
      have hothers : ∀ d j, j < i → i - j ≤ d → l.getD j false = true := by
        intro d
        induction d with
        | zero => intro j h1 h2; omega
        | succ d ih =>
          intro j h1 h2
          have := List.all_eq_true.1 hcov j (by rw [List.mem_range]; omega)
          obtain ⟨x, hx, hx2⟩ := List.any_eq_true.1 this
          simp only [Bool.and_eq_true, decide_eq_true_eq, List.any_eq_true, beq_iff_eq] at hx2
          obtain ⟨hjx, e, he, hej, heb⟩ := hx2
          have hxo : ops[x.2]? = some x.1 := by simpa using List.mem_zipIdx_iff_getElem?.1 hx
          have hxlt : x.2 < ops.size := (Array.getElem?_eq_some_iff.1 hxo).1
          by_cases hxi : x.2 = i
          · rw [hxi, ho] at hxo
            have := hpre e (by rw [Option.some.inj hxo]; exact he) heb
            rwa [hej] at this
          · have := hC x.2 x.1 hxo (ih x.2 (by omega) (by omega)) e he heb
            rwa [hej] at this
      have hgo := hlast a w hE hF (fun j o hj hjo => hP j o hj hjo (hothers i j hj (by omega)))
      unfold wpOpP
      rw [ho]
      simp only []
      have hw : Region.wanted ops[i] (yielded ops a.tmps) = true := by unfold Region.wanted; rw [hg]
      rw [if_pos hw]
      refine Oper.wp_mono (fun a' w' h => ?_) hgo
      refine ⟨by simpa using hs, .inr ⟨fun j hj => ?_, h⟩⟩
      by_cases hji : j = i
      · subst hji; exact getD_set_same (by omega)
      · rw [getD_set_other hji]; exact hothers i j (by omega) (by omega)
    · have hol : (ops.toList.take k)[i]? = some ops[i] := by rw [List.getElem?_take]; simp; omega
      have hduty := hd.at i ops[i] hol
      rw [Nat.zero_add] at hduty
      have hah : Ahead ops Φ ops[i] a w := fun e he hb p hp => by
        have hac := List.all_eq_true.1 hacy (ops[i], i) (List.mem_zipIdx_iff_getElem?.2 (by simp))
        have := List.all_eq_true.1 hac e (by simpa using he)
        have hlt' : e.on < i := by simpa [hb] using this
        exact hP e.on p (by omega) hp (hpre e he hb)
      have hgo := hduty a w hE hF hah
      have next : ∀ v w', Φ i v w' → Ext w w' → (l.setIfInBounds i true).size = ops.size ∧ (((l.setIfInBounds i true).getD k false = false ∧ Ext w0 w' ∧ Framed ops a0 (a.put ops[i].dst v) ∧ (∀ j o, j < k → ops[j]? = some o → (l.setIfInBounds i true).getD j false = true → Φ j (valOf o (a.put ops[i].dst v)) w') ∧
          (∀ (j : Nat) o, ops[j]? = some o → (l.setIfInBounds i true).getD j false = true → ∀ e ∈ o.after.toList, Region.binds .any e = true → (l.setIfInBounds i true).getD e.on false = true)) ∨ ((∀ j, j < ops.size → (l.setIfInBounds i true).getD j false = true) ∧ Q .normal (a.put ops[i].dst v) w')) := by
        intro v w' hv hE'
        refine ⟨by simpa using hs, .inl ⟨by rw [getD_set_other (Ne.symm hik)]; exact hlk, hE.trans hE', framed_put hF hmem v, fun j o hj hjo hlj => ?_, fun j o hjo hlj e he hb => ?_⟩⟩
        · by_cases e : j = i
          · subst e
            rw [ho] at hjo
            obtain rfl := Option.some.inj hjo
            have hod := List.all_eq_true.1 hin ops[j] (List.mem_of_getElem? hol)
            rw [valOf_put_same (fun d hd => by rw [hF.2.1, hsz]; rw [hd] at hod; simpa using hod) (fun h => by rw [h] at hod; cases hod)]
            exact hv
          · rw [getD_set_other e] at hlj
            rw [valOf_put_other (fun d hd h => e (dst_inj ops.toList hdn j i o ops[i] d (by simpa using hjo) (by simp) hd h))]
            exact hstab _ _ _ _ (hP j o hj hjo hlj) hE'
        · by_cases e1 : e.on = i
          · rw [e1]; exact getD_set_same (by omega)
          · rw [getD_set_other e1]
            by_cases e2 : j = i
            · subst e2
              rw [ho] at hjo
              obtain rfl := Option.some.inj hjo
              exact hpre e he hb
            · rw [getD_set_other e2] at hlj
              exact hC j o hjo hlj e he hb
      unfold wpOpP
      rw [ho]
      simp only []
      by_cases hw : Region.wanted ops[i] (yielded ops a.tmps) = true
      · rw [if_pos hw] at hgo ⊢
        refine Oper.wp_mono (fun a' w' h => ?_) hgo
        obtain ⟨v, rfl, hv, hE'⟩ := h
        exact next v w' hv hE'
      · rw [if_neg hw] at hgo ⊢
        exact next undef w hgo (Ext.refl w)
  · rintro l a w ⟨hs, hJ⟩ hr
    rcases hJ with ⟨hlk, _⟩ | ⟨_, hq⟩
    · rw [ready_none hs hacy hr (k + 1) k (by omega) (by omega)] at hlk
      cases hlk
    · exact hq
  · refine ⟨by simp, .inl ⟨?_, Ext.drew w0, ⟨rfl, rfl, fun _ _ => rfl⟩, fun i o _ _ h => ?_, fun i o _ h => ?_⟩⟩
    · simp [Array.getD_eq_getD_getElem?, Array.getElem?_replicate]; split <;> simp
    · simp [Array.getD_eq_getD_getElem?, Array.getElem?_replicate] at h; split at h <;> simp at h
    · simp [Array.getD_eq_getD_getElem?, Array.getElem?_replicate] at h; split at h <;> simp at h
  · unfold unlisted
    exact Nat.le_trans (List.count_le_length) (by simp)

/-- An operation's duty, over any relation. -/
def DutyR (Rl : World → World → Prop) (P : Program) (ops : Array Oper) (Q : Exit → Act → World → Prop) (Φ : Nat → Value → World → Prop) (a0 : Act) (w0 : World) (i : Nat) (o : Oper) : Prop :=
  ∀ a w, Rl w0 w → Framed ops a0 a → Ahead ops Φ o a w →
    if Region.wanted o (yielded ops a.tmps) then o.wp P a w (fun a' w' => ∃ v, a' = a.put o.dst v ∧ Φ i v w' ∧ Rl w w') Q else Φ i undef w
def DutiesR (Rl : World → World → Prop) (P : Program) (ops : Array Oper) (Q : Exit → Act → World → Prop) (Φ : Nat → Value → World → Prop) (a0 : Act) (w0 : World) : Nat → List Oper → Prop
  | _, [] => True
  | i, o :: l => DutyR Rl P ops Q Φ a0 w0 i o ∧ DutiesR Rl P ops Q Φ a0 w0 (i + 1) l
theorem DutiesR.at {Rl : World → World → Prop} {Φ : Nat → Value → World → Prop} {a0 : Act} {w0 : World} : ∀ {l : List Oper} {k : Nat}, DutiesR Rl P ops Q Φ a0 w0 k l → ∀ i o, l[i]? = some o → DutyR Rl P ops Q Φ a0 w0 (k + i) o
  | [], _, _, i, o, h => by simp at h
  | p :: l, k, hd, 0, o, h => by simp at h; subst h; exact hd.1
  | p :: l, k, hd, i + 1, o, h => by
    have := DutiesR.at (k := k + 1) hd.2 i o (by simpa using h)
    rwa [show k + 1 + i = k + (i + 1) from by omega] at this

theorem region_rel {a0 : Act} {w0 : World} (m : Nat) (Rl : World → World → Prop) (hRr : ∀ w, Rl w w) (hRt : ∀ a b c, Rl a b → Rl b c → Rl a c) (hRd : ∀ w, Rl w w.drew)
    (Φ : Nat → Value → World → Prop)
    (hstab : ∀ i v w w', Φ i v w → Rl w w' → Φ i v w') (hund : ∀ i v w, Φ i v w → (ops[i]?.any fun o => o.dst.isNone) = true → Φ i undef w)
    (hchk : (dstsOk ops && aheadB ops && (ops.toList.all fun o => o.dst.all fun d => decide (d < m))) = true) (hsz : a0.tmps.size = m)
    (hd : DutiesR Rl P ops Q Φ a0 w0 0 ops.toList)
    (hend : ∀ a w, Rl w0 w → Framed ops a0 a → (∀ i o, ops[i]? = some o → Φ i (valOf o a) w) → Q .normal a w) :
    RegionP P ops Q a0 w0 := by
  simp only [Bool.and_eq_true] at hchk
  obtain ⟨⟨hdst, hacy⟩, hin⟩ := hchk
  have hdn : (ops.toList.filterMap (·.dst)).Nodup := by simpa [dstsOk] using hdst
  unfold RegionP
  refine wpAny_inv (fun l a w => l.size = ops.size ∧ Rl w0 w ∧ Framed ops a0 a ∧ ∀ i o, ops[i]? = some o → l.getD i false = true → Φ i (valOf o a) w) (fun _ _ _ h => h.1) ?_ ?_ _ _ _ _ ?_ ?_
  · rintro l a w i ⟨hs, hE, hF, hP⟩ hi
    obtain ⟨hlt, hu, hpre⟩ := (ready_iff hs).1 hi
    have ho : ops[i]? = some ops[i] := Array.getElem?_eq_getElem hlt
    have hol : ops.toList[i]? = some ops[i] := by simp
    have hduty := hd.at i ops[i] hol
    rw [Nat.zero_add] at hduty
    have hgo := hduty a w hE hF (fun e he hb p hp => hP e.on p hp (hpre e he hb))
    have hmem : ops[i] ∈ ops.toList := by simp
    have next : ∀ v w', Φ i v w' → Rl w w' → (l.setIfInBounds i true).size = ops.size ∧ Rl w0 w' ∧ Framed ops a0 (a.put ops[i].dst v) ∧ ∀ j o, ops[j]? = some o → (l.setIfInBounds i true).getD j false = true → Φ j (valOf o (a.put ops[i].dst v)) w' := by
      intro v w' hv hE'
      refine ⟨by simpa using hs, hRt _ _ _ hE hE', framed_put hF hmem v, fun j o hj hlj => ?_⟩
      by_cases e : j = i
      · subst e
        rw [ho] at hj
        obtain rfl := Option.some.inj hj
        by_cases hdd : ops[j].dst = none
        · have : valOf ops[j] (a.put ops[j].dst v) = undef := by unfold valOf; rw [hdd]
          rw [this]
          exact hund j v w' hv (by rw [ho]; simp [hdd])
        · rw [valOf_put_same (fun d hd => by rw [hF.2.1, hsz]; have := List.all_eq_true.1 hin _ hmem; rw [hd] at this; simpa using this) (fun h => absurd h hdd)]
          exact hv
      · rw [getD_set_other e] at hlj
        rw [valOf_put_other (fun d hd h => e (dst_inj ops.toList hdn j i o ops[i] d (by simpa using hj) hol hd h))]
        exact hstab _ _ _ _ (hP j o hj hlj) hE'
    unfold wpOpP
    rw [ho]
    simp only []
    by_cases hw : Region.wanted ops[i] (yielded ops a.tmps) = true
    · rw [if_pos hw] at hgo ⊢
      refine Oper.wp_mono (fun a' w' h => ?_) hgo
      obtain ⟨v, rfl, hv, hE'⟩ := h
      exact next v w' hv hE'
    · rw [if_neg hw] at hgo ⊢
      exact next undef w hgo (hRr w)
  · rintro l a w ⟨hs, hE, hF, hP⟩ hr
    exact hend a w hE hF (fun i o ho => hP i o ho (ready_none hs hacy hr (i + 1) i (by omega) (Array.getElem?_eq_some_iff.1 ho).1))
  · exact ⟨by simp, hRd w0, ⟨rfl, rfl, fun _ _ => rfl⟩, fun i o _ h => by simp [Array.getD_eq_getD_getElem?, Array.getElem?_replicate] at h; split at h <;> simp at h⟩
  · unfold unlisted
    exact Nat.le_trans (List.count_le_length) (by simp)

theorem dutyR_free {Rl : World → World → Prop} {Φ : Nat → Value → World → Prop} {a0 : Act} {w0 : World} {i : Nat} {o : Oper} (hg : o.guard = none) (h : ∀ a w, Rl w0 w → Framed ops a0 a → Ahead ops Φ o a w → o.wp P a w (fun a' w' => ∃ v, a' = a.put o.dst v ∧ Φ i v w' ∧ Rl w w') Q) : DutyR Rl P ops Q Φ a0 w0 i o := by
  intro a w hE hF hA
  have : Region.wanted o (yielded ops a.tmps) = true := by unfold Region.wanted; rw [hg]
  rw [if_pos this]
  exact h a w hE hF hA
/-- The frame behind a region, each operation's value in its slot. -/
def filled (l : List Oper) (us : List Value) (a0 : Act) : Act := (l.zip us).foldl (fun b x => b.put x.1.dst x.2) a0

theorem put_getD (a : Act) (d : Tmp) (v : Value) (t : Tmp) (hd : d < a.tmps.size) : (a.put (some d) v).tmps.getD t undef = if t = d then v else a.tmps.getD t undef := by
  unfold Act.put
  simp only [Array.getD_eq_getD_getElem?, Array.getElem?_setIfInBounds]
  by_cases h : d = t
  · subst h; simp [hd]
  · rw [if_neg h, if_neg (fun e => h e.symm)]
theorem put_size (a : Act) (d : Option Tmp) (v : Value) : (a.put d v).tmps.size = a.tmps.size := by
  unfold Act.put; cases d <;> simp
theorem put_none (a : Act) (v : Value) : a.put none v = a := rfl
theorem put_defers (a : Act) (d : Option Tmp) (v : Value) : (a.put d v).defers = a.defers := by
  unfold Act.put; cases d <;> rfl

theorem filled_spec (a : Act) : ∀ (l : List Oper) (b : Act), (∀ o ∈ l, ∀ d, o.dst = some d → d < b.tmps.size) →
    (filled l (l.map fun o => valOf o a) b).tmps.size = b.tmps.size ∧ (filled l (l.map fun o => valOf o a) b).defers = b.defers ∧
    ∀ t, (filled l (l.map fun o => valOf o a) b).tmps.getD t undef = if (l.any fun o => o.dst == some t) = true then a.tmps.getD t undef else b.tmps.getD t undef
  | [], b, _ => ⟨rfl, rfl, fun t => by simp [filled]⟩
  | o :: l, b, h => by
    have ih := filled_spec a l (b.put o.dst (valOf o a)) (fun o' ho d hd => by rw [put_size]; exact h o' (by simp [ho]) d hd)
    have e : filled (o :: l) ((o :: l).map fun o => valOf o a) b = filled l (l.map fun o => valOf o a) (b.put o.dst (valOf o a)) := rfl
    rw [e]
    refine ⟨ih.1.trans (put_size _ _ _), ih.2.1.trans (put_defers _ _ _), fun t => ?_⟩
    rw [ih.2.2 t]
    by_cases h1 : (l.any fun o => o.dst == some t) = true
    · rw [if_pos h1, if_pos (by simp only [List.any_cons, h1, Bool.or_true])]
    · rw [if_neg h1]
      cases hd : o.dst with
      | none =>
        rw [if_neg (by simp only [List.any_cons, hd]; simpa using h1)]
        simp only [Act.put]
      | some d =>
        rw [put_getD _ _ _ _ (h o (by simp) d hd)]
        by_cases htd : t = d
        · subst htd
          rw [if_pos rfl, if_pos (by simp [hd])]
          unfold valOf; rw [hd]
        · rw [if_neg htd, if_neg]
          simp only [List.any_cons, hd, Bool.or_eq_true, not_or]
          exact ⟨by simpa using fun e => htd e.symm, h1⟩

theorem act_ext {a b : Act} (hd : a.defers = b.defers) (hs : a.tmps.size = b.tmps.size) (ht : ∀ t, a.tmps.getD t undef = b.tmps.getD t undef) : a = b := by
  obtain ⟨ta, da⟩ := a
  obtain ⟨tb, db⟩ := b
  simp only at hd hs ht
  subst hd
  congr 1
  refine Array.ext hs fun i h1 h2 => ?_
  have := ht i
  rw [Array.getD_eq_getD_getElem?, Array.getD_eq_getD_getElem?, Array.getElem?_eq_getElem h1, Array.getElem?_eq_getElem h2] at this
  exact this

theorem framed_filled {a0 a : Act} (hF : Framed ops a0 a) (l : List Oper) (hl : ∀ o ∈ l, o ∈ ops.toList) (hr : ∀ o ∈ ops.toList, o ∈ l ∨ o.dst = none) (hin : ∀ o ∈ l, ∀ d, o.dst = some d → d < a0.tmps.size) : a = filled l (l.map fun o => valOf o a) a0 := by
  have hs := filled_spec a l a0 hin
  refine act_ext (hF.1.trans hs.2.1.symm) (hF.2.1.trans hs.1.symm) fun t => ?_
  rw [hs.2.2 t]
  split
  · rfl
  · rename_i h
    refine hF.2.2 t fun o ho e => h ?_
    rcases hr o ho with h1 | h1
    · exact List.any_eq_true.2 ⟨o, h1, by simp [e]⟩
    · rw [h1] at e; cases e

theorem region_rel_e {a0 : Act} {w0 : World} (m : Nat) (Rl : World → World → Prop) (hRr : ∀ w, Rl w w) (hRt : ∀ a b c, Rl a b → Rl b c → Rl a c) (hRd : ∀ w, Rl w w.drew)
    (Φ : Nat → Value → World → Prop)
    (hstab : ∀ i v w w', Φ i v w → Rl w w' → Φ i v w') (hund : ∀ i v w, Φ i v w → (ops[i]?.any fun o => o.dst.isNone) = true → Φ i undef w)
    (hchk : (dstsOk ops && aheadB ops && (ops.toList.all fun o => o.dst.all fun d => decide (d < m))) = true) (hsz : a0.tmps.size = m)
    (hd : DutiesR Rl P ops Q Φ a0 w0 0 ops.toList)
    (hend : ∀ us w, Rl w0 w → us.length = ops.toList.length → (∀ i u, us[i]? = some u → Φ i u w) → Q .normal (filled ops.toList us a0) w) :
    RegionP P ops Q a0 w0 := by
  refine region_rel m Rl hRr hRt hRd Φ hstab hund hchk hsz hd fun a w hR hF hP => ?_
  simp only [Bool.and_eq_true] at hchk
  have hin : ∀ o ∈ ops.toList, ∀ d, o.dst = some d → d < a0.tmps.size := fun o ho d hd => by
    have := List.all_eq_true.1 hchk.2 o ho
    rw [hd] at this
    rw [hsz]; simpa using this
  rw [framed_filled hF ops.toList (fun _ h => h) (fun _ h => .inl h) hin]
  refine hend _ w hR (by simp) fun i u hu => ?_
  rw [List.getElem?_map, Option.map_eq_some_iff] at hu
  obtain ⟨o, ho, rfl⟩ := hu
  exact hP i o (by simpa using ho)

theorem wp_region_rel_e {id : Nat} {a0 : Act} {w0 : World} (m : Nat) (Rl : World → World → Prop) (hRr : ∀ w, Rl w w) (hRt : ∀ a b c, Rl a b → Rl b c → Rl a c) (hRd : ∀ w, Rl w w.drew)
    (hm : P.follows .mixedOrders = true) (Φ : Nat → Value → World → Prop)
    (hstab : ∀ i v w w', Φ i v w → Rl w w' → Φ i v w') (hund : ∀ i v w, Φ i v w → (ops[i]?.any fun o => o.dst.isNone) = true → Φ i undef w)
    (hchk : (dstsOk ops && aheadB ops && (ops.toList.all fun o => o.dst.all fun d => decide (d < m))) = true) (hsz : a0.tmps.size = m)
    (hd : DutiesR Rl P ops Q Φ a0 w0 0 ops.toList)
    (hend : ∀ us w, Rl w0 w → us.length = ops.toList.length → (∀ i u, us[i]? = some u → Φ i u w) → Q .normal (filled ops.toList us a0) w) :
    (Code.region id ops true).wp P Q a0 w0 := wp_region_P hm (region_rel_e m Rl hRr hRt hRd Φ hstab hund hchk hsz hd hend)

theorem region_last_e {a0 : Act} {w0 : World} (m : Nat) (Φ : Nat → Value → World → Prop)
    (hstab : ∀ i v w w', Φ i v w → Ext w w' → Φ i v w') (hchk : (dstsOk ops && aheadB ops && coverOk ops && ((ops.toList.take (ops.size - 1)).all fun o => o.dst.any fun d => decide (d < m))) = true) (hsz : a0.tmps.size = m)
    (k : Nat) (ol : Oper) (hk : ops[k]? = some ol) (hks : ops.size = k + 1) (hg : ol.guard = none) (hdn : ol.dst = none)
    (hd : Duties P ops Q Φ a0 w0 0 (ops.toList.take k))
    (hlast : ∀ us w, Ext w0 w → us.length = (ops.toList.take k).length → (∀ i u, us[i]? = some u → Φ i u w) → ol.wp P (filled (ops.toList.take k) us a0) w (fun a' w' => Q .normal a' w') Q) :
    RegionP P ops Q a0 w0 := by
  refine region_last m Φ hstab hchk hsz k ol hk hks hg hd fun a w hE hF hP => ?_
  simp only [Bool.and_eq_true] at hchk
  have hin : ∀ o ∈ ops.toList.take k, ∀ d, o.dst = some d → d < a0.tmps.size := fun o ho d hd => by
    have := hchk.2
    rw [hks, Nat.add_sub_cancel] at this
    have := List.all_eq_true.1 this o ho
    rw [hd] at this
    rw [hsz]; simpa using this
  have hr : ∀ o ∈ ops.toList, o ∈ ops.toList.take k ∨ o.dst = none := fun o ho => by
    obtain ⟨i, hi, e⟩ := List.getElem_of_mem ho
    by_cases hik : i < k
    · left
      exact List.mem_of_getElem? (i := i) (by rw [List.getElem?_take, if_pos hik, List.getElem?_eq_getElem hi, e])
    · right
      have hi' : i = k := by simp at hi; omega
      subst hi'
      have : ops.toList[i]? = some ol := by simpa using hk
      rw [List.getElem?_eq_getElem hi, e] at this
      rw [Option.some.inj this]; exact hdn
  rw [framed_filled hF (ops.toList.take k) (fun _ h => List.mem_of_mem_take h) hr hin]
  refine hlast _ w hE (by simp) fun i u hu => ?_
  rw [List.getElem?_map, Option.map_eq_some_iff] at hu
  obtain ⟨o, ho, rfl⟩ := hu
  have hik : i < k := by
    have := (List.getElem?_eq_some_iff.1 ho).1
    simp at this; omega
  rw [List.getElem?_take, if_pos hik] at ho
  exact hP i o hik (by simpa using ho)
theorem wp_region_last_e {id : Nat} {a0 : Act} {w0 : World} (m : Nat) (hm : P.follows .mixedOrders = true) (Φ : Nat → Value → World → Prop)
    (hstab : ∀ i v w w', Φ i v w → Ext w w' → Φ i v w') (hchk : (dstsOk ops && aheadB ops && coverOk ops && ((ops.toList.take (ops.size - 1)).all fun o => o.dst.any fun d => decide (d < m))) = true) (hsz : a0.tmps.size = m)
    (k : Nat) (ol : Oper) (hk : ops[k]? = some ol) (hks : ops.size = k + 1) (hg : ol.guard = none) (hdn : ol.dst = none)
    (hd : Duties P ops Q Φ a0 w0 0 (ops.toList.take k))
    (hlast : ∀ us w, Ext w0 w → us.length = (ops.toList.take k).length → (∀ i u, us[i]? = some u → Φ i u w) → ol.wp P (filled (ops.toList.take k) us a0) w (fun a' w' => Q .normal a' w') Q) :
    (Code.region id ops true).wp P Q a0 w0 := wp_region_P hm (region_last_e m Φ hstab hchk hsz k ol hk hks hg hdn hd hlast)

/-- The same, the last operation with a slot of its own. -/
theorem region_last_d {a0 : Act} {w0 : World} (m : Nat) (Φ : Nat → Value → World → Prop)
    (hstab : ∀ i v w w', Φ i v w → Ext w w' → Φ i v w') (hchk : (dstsOk ops && aheadB ops && coverOk ops && (ops.toList.all fun o => o.dst.any fun d => decide (d < m))) = true) (hsz : a0.tmps.size = m)
    (k : Nat) (ol : Oper) (hk : ops[k]? = some ol) (hks : ops.size = k + 1) (hg : ol.guard = none)
    (hd : Duties P ops Q Φ a0 w0 0 (ops.toList.take k))
    (hlast : ∀ us w, Ext w0 w → us.length = ops.toList.length → (∀ i u, i < k → us[i]? = some u → Φ i u w) → ol.wp P (filled ops.toList us a0) w (fun a' w' => Q .normal a' w') Q) :
    RegionP P ops Q a0 w0 := by
  simp only [Bool.and_eq_true] at hchk
  have hin : ∀ o ∈ ops.toList, ∀ d, o.dst = some d → d < a0.tmps.size := fun o ho d hd => by
    have := List.all_eq_true.1 hchk.2 o ho
    rw [hd] at this
    rw [hsz]; simpa using this
  refine region_last m Φ hstab ?_ hsz k ol hk hks hg hd fun a w hE hF hP => ?_
  · simp only [Bool.and_eq_true]
    exact ⟨hchk.1, List.all_eq_true.2 fun o ho => List.all_eq_true.1 hchk.2 o (List.mem_of_mem_take ho)⟩
  rw [framed_filled hF ops.toList (fun _ h => h) (fun _ h => .inl h) hin]
  refine hlast _ w hE (by simp) fun i u hik hu => ?_
  rw [List.getElem?_map, Option.map_eq_some_iff] at hu
  obtain ⟨o, ho, rfl⟩ := hu
  exact hP i o hik (by simpa using ho)
theorem us2 (us : List Value) (h : us.length = 2) : ∃ u0 u1 : Value, us = [u0, u1] := by
  match us, h with
  | [u0, u1], _ => exact ⟨_, _, rfl⟩
theorem us3 (us : List Value) (h : us.length = 3) : ∃ u0 u1 u2 : Value, us = [u0, u1, u2] := by
  match us, h with
  | [u0, u1, u2], _ => exact ⟨_, _, _, rfl⟩
theorem us4 (us : List Value) (h : us.length = 4) : ∃ u0 u1 u2 u3 : Value, us = [u0, u1, u2, u3] := by
  match us, h with
  | [u0, u1, u2, u3], _ => exact ⟨_, _, _, _, rfl⟩
theorem us5 (us : List Value) (h : us.length = 5) : ∃ u0 u1 u2 u3 u4 : Value, us = [u0, u1, u2, u3, u4] := by
  match us, h with
  | [u0, u1, u2, u3, u4], _ => exact ⟨_, _, _, _, _, rfl⟩
theorem us6 (us : List Value) (h : us.length = 6) : ∃ u0 u1 u2 u3 u4 u5 : Value, us = [u0, u1, u2, u3, u4, u5] := by
  match us, h with
  | [u0, u1, u2, u3, u4, u5], _ => exact ⟨_, _, _, _, _, _, rfl⟩
theorem us7 (us : List Value) (h : us.length = 7) : ∃ u0 u1 u2 u3 u4 u5 u6 : Value, us = [u0, u1, u2, u3, u4, u5, u6] := by
  match us, h with
  | [u0, u1, u2, u3, u4, u5, u6], _ => exact ⟨_, _, _, _, _, _, _, rfl⟩
theorem us8 (us : List Value) (h : us.length = 8) : ∃ u0 u1 u2 u3 u4 u5 u6 u7 : Value, us = [u0, u1, u2, u3, u4, u5, u6, u7] := by
  match us, h with
  | [u0, u1, u2, u3, u4, u5, u6, u7], _ => exact ⟨_, _, _, _, _, _, _, _, rfl⟩
theorem us9 (us : List Value) (h : us.length = 9) : ∃ u0 u1 u2 u3 u4 u5 u6 u7 u8 : Value, us = [u0, u1, u2, u3, u4, u5, u6, u7, u8] := by
  match us, h with
  | [u0, u1, u2, u3, u4, u5, u6, u7, u8], _ => exact ⟨_, _, _, _, _, _, _, _, _, rfl⟩
theorem us10 (us : List Value) (h : us.length = 10) : ∃ u0 u1 u2 u3 u4 u5 u6 u7 u8 u9 : Value, us = [u0, u1, u2, u3, u4, u5, u6, u7, u8, u9] := by
  match us, h with
  | [u0, u1, u2, u3, u4, u5, u6, u7, u8, u9], _ => exact ⟨_, _, _, _, _, _, _, _, _, _, rfl⟩
theorem us11 (us : List Value) (h : us.length = 11) : ∃ u0 u1 u2 u3 u4 u5 u6 u7 u8 u9 u10 : Value, us = [u0, u1, u2, u3, u4, u5, u6, u7, u8, u9, u10] := by
  match us, h with
  | [u0, u1, u2, u3, u4, u5, u6, u7, u8, u9, u10], _ => exact ⟨_, _, _, _, _, _, _, _, _, _, _, rfl⟩
theorem us12 (us : List Value) (h : us.length = 12) : ∃ u0 u1 u2 u3 u4 u5 u6 u7 u8 u9 u10 u11 : Value, us = [u0, u1, u2, u3, u4, u5, u6, u7, u8, u9, u10, u11] := by
  match us, h with
  | [u0, u1, u2, u3, u4, u5, u6, u7, u8, u9, u10, u11], _ => exact ⟨_, _, _, _, _, _, _, _, _, _, _, _, rfl⟩
theorem us13 (us : List Value) (h : us.length = 13) : ∃ u0 u1 u2 u3 u4 u5 u6 u7 u8 u9 u10 u11 u12 : Value, us = [u0, u1, u2, u3, u4, u5, u6, u7, u8, u9, u10, u11, u12] := by
  match us, h with
  | [u0, u1, u2, u3, u4, u5, u6, u7, u8, u9, u10, u11, u12], _ => exact ⟨_, _, _, _, _, _, _, _, _, _, _, _, _, rfl⟩
theorem us14 (us : List Value) (h : us.length = 14) : ∃ u0 u1 u2 u3 u4 u5 u6 u7 u8 u9 u10 u11 u12 u13 : Value, us = [u0, u1, u2, u3, u4, u5, u6, u7, u8, u9, u10, u11, u12, u13] := by
  match us, h with
  | [u0, u1, u2, u3, u4, u5, u6, u7, u8, u9, u10, u11, u12, u13], _ => exact ⟨_, _, _, _, _, _, _, _, _, _, _, _, _, _, rfl⟩
end Go.Proofs.YtfgjbcejpjcpeaaDoor
